/- The route that a domain chooses. -/
import Derived.Test.YthifgakeababmaaBa8
set_option linter.unusedVariables false
set_option linter.unusedSimpArgs false
set_option maxRecDepth 10000
namespace Go.Proofs.Ythifgakeababmaa.Ba
open Go Go.Am
open Go.Proofs.Ythifgakeababmaa.Fx
variable {H : Heap} {K : Value → Heap → Prop}

def wayOf (ws : List (List Int)) (v : Nat) : List Int := ws.getD v []
def cand (T : List Int) (u : Int) (ws : List (List Int)) (v : Nat) : Prop := ¬ tk T u v = 0 ∧ ¬ wayOf ws v = [] ∧ ¬ u ∈ wayOf ws v ∧ expo T (wayOf ws v) u
instance (T : List Int) (u : Int) (ws : List (List Int)) (v : Nat) : Decidable (cand T u ws v) := by unfold cand; infer_instance
def better (T : List Int) (u : Int) (ws : List (List Int)) (v k : Nat) : Prop := tp T u k < tp T u v ∨ (tp T u v = tp T u k ∧ (wayOf ws v).length < (wayOf ws k).length)
instance (T : List Int) (u : Int) (ws : List (List Int)) (v k : Nat) : Decidable (better T u ws v k) := by unfold better; infer_instance
def cStep (T : List Int) (u : Int) (ws : List (List Int)) (b : Option Nat) (v : Nat) : Option Nat :=
  if cand T u ws v then (match b with
    | none => some v
    | some k => if better T u ws v k then some v else some k) else b
def cIdx (T : List Int) (u : Int) (ws : List (List Int)) (n : Nat) : Option Nat := (List.range n).foldl (cStep T u ws) none
def chosen (T : List Int) (u : Int) (ws : List (List Int)) : List Int := match cIdx T u ws ws.length with
  | none => []
  | some k => u :: wayOf ws k
def bV : Option Nat → Int
  | none => -1
  | some k => k

theorem bV_none : bV none = -1 := by simp only [bV]
theorem bV_some (k : Nat) : bV (some k) = k := by simp only [bV]
theorem cStep_no {T : List Int} {u : Int} {ws : List (List Int)} {b : Option Nat} {v : Nat} (h : ¬ cand T u ws v) : cStep T u ws b v = b := by unfold cStep; exact if_neg h
theorem cStep_none {T : List Int} {u : Int} {ws : List (List Int)} {v : Nat} (h : cand T u ws v) : cStep T u ws none v = some v := by unfold cStep; exact if_pos h
theorem cStep_some {T : List Int} {u : Int} {ws : List (List Int)} {k v : Nat} (h : cand T u ws v) : cStep T u ws (some k) v = if better T u ws v k then some v else some k := by unfold cStep; exact if_pos h

theorem cIdx_succ {T : List Int} {u : Int} {ws : List (List Int)} (n : Nat) : cIdx T u ws (n + 1) = cStep T u ws (cIdx T u ws n) n := by
  unfold cIdx
  rw [List.range_succ, List.foldl_append]
  rfl

theorem cIdx_lt {T : List Int} {u : Int} {ws : List (List Int)} : ∀ (n k : Nat), cIdx T u ws n = some k → k < n
  | 0, k, h => by simp [cIdx] at h
  | n + 1, k, h => by
    rw [cIdx_succ] at h
    unfold cStep at h
    have ih := cIdx_lt (T := T) (u := u) (ws := ws) n
    split at h
    · split at h
      · cases h; omega
      · rename_i j hj
        have := ih j hj
        split at h <;> cases h <;> omega
    · have := ih k h; omega

structure Ways (ws : List (List Int)) : Prop where
  len : ws.length ≤ 16
  lens : ∀ w ∈ ws, w.length < 100000
  ins : ∀ w ∈ ws, ∀ x ∈ w, In16 x

theorem wayOf_get {ws : List (List Int)} {i : Nat} (h : i < ws.length) : wayOf ws i = ws[i] := by
  unfold wayOf; rw [List.getD_eq_getElem?_getD, List.getElem?_eq_getElem h]; rfl

theorem chosen_spec {bt : Nat} {T : List Int} {s : Value} {ws : List (List Int)} {u : Int} (ht : TabAt H bt T) (hs : Sl RWay 1 H s ws) (hw : Ways ws) (hu : In16 u) (hk : ∀ H' s', Ext H H' → Sl RInt 1 H' s' (chosen T u ws) → Fresh H.length s' → K (.agg #[s']) H') :
    Wcall Try.prog 121 #[.pointer (some ⟨bt, 0, none⟩), .int .i64 u, s] H K := by
  obtain ⟨a, c, rfl⟩ := hs.shape
  have hlen := hw.len
  refine call_cells (rs := #[.cell 6 98]) Try.func121 rfl Try.ntmps121 rfl (by simp) ?_
  simp [go_sem]
  refine Wc.loopw 113 (fun i : Nat × Heap => [(0, .pointer (some ⟨bt, 0, none⟩)), (1, .int .i64 u), (2, .slice a ws.length c), (6, .pointer (some ⟨H.length, 0, none⟩)), (7, .int .i64 (bV (cIdx T u ws i.1))), (10, .slice a ws.length c), (11, .int .i64 ws.length), (12, .int .i64 i.1)]) (fun i => i.2)
    (fun i => i.1 ≤ ws.length ∧ Ext (newBlk H [.slice none 0 0]) i.2) (fun i => ws.length - i.1) (0, _)
    ⟨Nat.zero_le _, Ext.refl _⟩ (by simp [go_sem]) rfl (by simp [go_sem, cIdx, bV]) ?_
  rintro ⟨i, H1⟩ ⟨hi, he⟩
  simp only at hi he
  have he0 : Ext H H1 := (Ext.new (Ext.refl H)).trans he
  have ht1 := ht.ext he0
  have hs1 := hs.ext RWay.mono he0
  have hbt := ht1.1
  simp [go_sem]
  have hu' := hu
  unfold In16 at hu'
  refine Br.forkD (fun h => ?_) (fun h => ?_)
  · obtain ⟨b, off, cells, rfl, hb, _, hr, sv, rfl, hsv⟩ := hs1.get h
    simp at hr
    obtain ⟨av, cv, rfl⟩ := hsv.shape
    have hi16 : i < 16 := by omega
    have hin : In16 (i : Int) := by unfold In16; omega
    have hk1 := ht1.k hu hin
    have hp1 := ht1.p hu hin
    simp at hk1 hp1
    have hsucc := cIdx_succ (T := T) (u := u) (ws := ws) i
    have hwi := wayOf_get h
    have hmem : ws[i] ∈ ws := List.getElem_mem h
    have hinw := hw.ins _ hmem
    have hlw := hw.lens _ hmem
    generalize hw0 : ws[i] = way at *
    have hi16' : (i : Int) < 16 := by omega
    have hlw' : way.length < 1000000 := by omega
    have he1 : ∀ l, Ext (newBlk H [.slice none 0 0]) (newBlk H1 l) := fun l => Ext.new he
    have stay : ¬ cand T u ws i → bV (cIdx T u ws (i + 1)) = bV (cIdx T u ws i) := fun hc => by rw [hsucc, cStep_no hc]
    simp [go_sem, hr, h, hk1, hbt, hu', hi16']
    refine Gd.forkNB (fun g1 => ?_) (fun g1 => ?_)
    rotate_left
    · have hst := stay (by simp at g1; unfold cand; simp [g1])
      simp [go_sem, hr, h, hk1, hbt, hu', hi16', g1]
      exact loopK_next (i + 1, _) ⟨by simp only; omega, he1 _⟩ (by simp only; omega) rfl (by simp [go_sem]) (by simp [go_sem, wrap_succ (i := i) (by omega), hst])
    simp [go_sem, hr, h, hk1, hbt, hu', hi16', g1]
    refine Gd.forkNB (fun g2 => ?_) (fun g2 => ?_)
    rotate_left
    · have hst := stay (by simp at g2; unfold cand; simp [hwi, g2])
      simp [go_sem, hr, h, hk1, hbt, hu', hi16', g1, g2]
      exact loopK_next (i + 1, _) ⟨by simp only; omega, he1 _⟩ (by simp only; omega) rfl (by simp [go_sem]) (by simp [go_sem, wrap_succ (i := i) (by omega), hst])
    simp [go_sem, hr, h, hk1, hbt, hu', hi16', g1, g2]
    refine contains_spec (hsv.new RInt.mono _) (by omega) u ?_
    simp [go_sem]
    refine Gd.forkNB (fun g3 => ?_) (fun g3 => ?_)
    rotate_left
    · have hst := stay (by simp at g3; unfold cand; simp [hwi, g3])
      simp [go_sem, hr, h, hk1, hbt, hu', hi16', g1, g2, g3]
      exact loopK_next (i + 1, _) ⟨by simp only; omega, he1 _⟩ (by simp only; omega) rfl (by simp [go_sem]) (by simp [go_sem, wrap_succ (i := i) (by omega), hst])
    simp [go_sem, hr, h, hk1, hbt, hu', hi16', g1, g2, g3]
    refine exported_spec (ht1.ext (Ext.new (Ext.refl _))) (hsv.new RInt.mono _) (by simpa using g2) hinw hu hlw' ?_
    simp [go_sem]
    refine Br.forkNB (fun g4 => ?_) (fun g4 => ?_)
    · have hst := stay (by simp at g4; unfold cand; simp [hwi, g4])
      simp [go_sem, hr, h, hk1, hbt, hu', hi16', g1, g2, g3, g4]
      exact loopK_next (i + 1, _) ⟨by simp only; omega, he1 _⟩ (by simp only; omega) rfl (by simp [go_sem]) (by simp [go_sem, wrap_succ (i := i) (by omega), hst])
    have hc : cand T u ws i := by
      simp at g1 g2 g3 g4
      exact ⟨g1, by rw [hwi]; exact g2, by rw [hwi]; exact g3, by rw [hwi]; exact g4⟩
    rcases hb0 : cIdx T u ws i with _ | k
    · have hst : bV (cIdx T u ws (i + 1)) = i := by rw [hsucc, hb0, cStep_none hc, bV_some]
      simp [go_sem, g4, bV_none]
      refine Wc.drawn mixed (by kernel_rfl) ?_
      simp [go_sem, bV_none]
      exact loopK_next (i + 1, _) ⟨by simp only; omega, he1 _⟩ (by simp only; omega) rfl (by simp [go_sem]) (by simp [go_sem, wrap_succ (i := i) (by omega), hst])
    · have hki := cIdx_lt i k hb0
      have hkl : k < ws.length := by omega
      obtain ⟨b', off', cells', e', _, _, hr', sk, rfl, hsk⟩ := hs1.get hkl
      cases e'
      simp at hr'
      have hwk := wayOf_get hkl
      obtain ⟨ak, ck, rfl⟩ := hsk.shape
      have hink : In16 (k : Int) := by unfold In16; omega
      have hp2 := ht1.p hu hink
      simp at hp2
      have hk16 : (k : Int) < 16 := by omega
      generalize hwk0 : ws[k] = wk at *
      have hneg : ¬ ((k : Int) < 0) := by omega
      have fact : cIdx T u ws (i + 1) = if better T u ws i k then some i else some k := by rw [hsucc, hb0, cStep_some hc]
      simp [go_sem, g4, bV_some]
      refine Wc.drawn mixed (by kernel_rfl) ?_
      simp [go_sem, bV_some, hneg, hp1, hp2, hbt, hu', hi16', hk16]
      refine Gd2.forkNB (fun d1 => ?_) (fun d1 => ?_)
      rotate_left
      · have hbt_ : better T u ws i k := by simp at d1; exact .inl d1
        simp [go_sem, bV_some, hneg, hp1, hp2, hbt, hu', hi16', hk16, hr', hb, d1]
        exact loopK_next (i + 1, _) ⟨by simp only; omega, he1 _⟩ (by simp only; omega) rfl (by simp [go_sem]) (by simp [go_sem, wrap_succ (i := i) (by omega), fact, hbt_, bV_some])
      simp [go_sem, bV_some, hneg, hp1, hp2, hbt, hu', hi16', hk16, hr', hb, d1]
      refine Gd2.fork (fun d2 => ?_) (fun d2 => ?_)
      · have hkl' : (k : Int) < ws.length := by omega
        simp [go_sem, bV_some, hneg, hp1, hp2, hbt, hu', hi16', hk16, hr', hb, d1, d2, hkl, hkl']
        refine Br.fork (fun d3 => ?_) (fun d3 => ?_)
        · have hbt_ : better T u ws i k := by simp at d2 d3; exact .inr ⟨d2, by rw [hwi, hwk]; omega⟩
          simp [go_sem, bV_some, hneg, hp1, hp2, hbt, hu', hi16', hk16, hr', hb, d1, d2, d3]
          exact loopK_next (i + 1, _) ⟨by simp only; omega, he1 _⟩ (by simp only; omega) rfl (by simp [go_sem]) (by simp [go_sem, wrap_succ (i := i) (by omega), fact, hbt_, bV_some])
        · have hbt_ : ¬ better T u ws i k := by simp at d1 d2 d3; unfold better; rw [hwi, hwk]; omega
          simp [go_sem, bV_some, hneg, hp1, hp2, hbt, hu', hi16', hk16, hr', hb, d1, d2, d3]
          exact loopK_next (i + 1, _) ⟨by simp only; omega, he1 _⟩ (by simp only; omega) rfl (by simp [go_sem]) (by simp [go_sem, wrap_succ (i := i) (by omega), fact, hbt_, bV_some])
      · have hbt_ : ¬ better T u ws i k := by simp at d1 d2; unfold better; rw [hwi, hwk]; omega
        simp [go_sem, bV_some, hneg, hp1, hp2, hbt, hu', hi16', hk16, hr', hb, d1, d2]
        exact loopK_next (i + 1, _) ⟨by simp only; omega, he1 _⟩ (by simp only; omega) rfl (by simp [go_sem]) (by simp [go_sem, wrap_succ (i := i) (by omega), fact, hbt_, bV_some])
  · have hii : i = ws.length := by omega
    subst hii
    have hget : ∀ {H' : Heap}, Ext (newBlk H [.slice none 0 0]) H' → H'[H.length]? = some ⟨[.slice none 0 0], 0, true, .live⟩ := by
      rintro H' ⟨X, rfl⟩
      simp [newBlk]
    have hwr : ∀ {H' : Heap} (s : Value), Ext (newBlk H [.slice none 0 0]) H' → wrBlk H' H.length 0 [s] = some (H'.set H.length ⟨[s], 0, true, .live⟩) := by
      intro H' s h'
      simp [wrBlk, hget h']
    have hrd : ∀ {H' : Heap} (s : Value), Ext (newBlk H [.slice none 0 0]) H' → rdBlk (H'.set H.length ⟨[s], 0, true, .live⟩) H.length 0 1 = some [s] := by
      intro H' s h'
      have := (List.getElem?_eq_some_iff.1 (hget h')).1
      simp [rdBlk, this]
    rcases hb0 : cIdx T u ws ws.length with _ | k
    · have hch : chosen T u ws = [] := by simp [chosen, hb0]
      simp [go_sem, bV_none, hwr _ he, hrd _ he, opt_some]
      refine hk _ _ (ext_set he0 (Nat.le_refl _)) ?_ (fun a l c e => by cases e)
      rw [hch]
      exact ⟨none, 0, rfl, Nat.le_refl _, fun _ => rfl, fun ad h => (by cases h)⟩
    · have hch : chosen T u ws = u :: wayOf ws k := by simp [chosen, hb0]
      have hkl := cIdx_lt _ k hb0
      obtain ⟨b', off', cells', e', hb', _, hr', sk, rfl, hsk⟩ := hs1.get hkl
      cases e'
      simp at hr'
      have hwk := wayOf_get hkl
      have hlk := hw.lens _ (List.getElem_mem hkl)
      obtain ⟨ak, ck, rfl⟩ := hsk.shape
      have hneg : ¬ ((k : Int) < 0) := by omega
      have hkl' : (k : Int) < ws.length := by omega
      simp [go_sem, bV_some, hneg, hkl, hkl', hr', hb']
      have h1 := sl_ints H1 [u] (b := H1.length) rfl
      have h2 := hsk.new RInt.mono [.int .i64 u]
      refine concat_spec (sl_ways2 h1 h2 (by simp [go_sem])) (by simp) (by simp) (by omega) fun H' s' e' hs' hf => ?_
      obtain ⟨as_, cs_, rfl⟩ := hs'.shape
      have e2 : Ext (newBlk H [.slice none 0 0]) H' := (he.trans (Ext.new (Ext.new (Ext.refl _)))).trans e'
      have hge : H.length + 1 ≤ H1.length := by have := he.len; simpa [newBlk_length] using this
      simp [go_sem, hwr _ e2, hrd _ e2, opt_some]
      refine hk _ _ (ext_set ((he0.trans (Ext.new (Ext.new (Ext.refl _)))).trans e') (Nat.le_refl _)) ?_ (hf.le (by simp [newBlk_length]; omega))
      rw [hch, hwk]
      exact sl_set hs' (hf.le (by simp [newBlk_length]; omega))
end Go.Proofs.Ythifgakeababmaa.Ba
