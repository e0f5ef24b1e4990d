/- A round of all domains. -/
import Derived.Test.YthifgakeababmaaBa9
set_option linter.unusedVariables false
set_option linter.unusedSimpArgs false
set_option maxRecDepth 10000
namespace Go.Proofs.Ythifgakeababmaa.Ba
open Go Go.Am
open Go.Proofs.Ythifgakeababmaa.Fx
variable {H : Heap} {K : Value → Heap → Prop}

def rWay (T : List Int) (origin : Int) (ws : List (List Int)) (u : Nat) : List Int := if (u : Int) = origin then [origin] else chosen T u ws
def rnd (T : List Int) (origin : Int) (ws : List (List Int)) : List (List Int) := (List.range ws.length).map (rWay T origin ws)

def OutOk (H : Heap) (b : Nat) (f : Nat → List Int) (vs : List Value) : Prop := ∀ (j : Nat) (x : Value), vs[j]? = some x → Sl RInt 1 H x (f j) ∧ Fresh (b + 1) x
theorem OutOk.ext {H H' : Heap} {b : Nat} {f : Nat → List Int} {vs : List Value} (h : OutOk H b f vs) (he : Ext H H') : OutOk H' b f vs := fun j x hx => ⟨(h j x hx).1.ext RInt.mono he, (h j x hx).2⟩

theorem outOk_push {H : Heap} {b : Nat} {f : Nat → List Int} {vs : List Value} {s : Value} {k : Blk} (h : OutOk H b f vs) (hs : Sl RInt 1 H s (f vs.length)) (hf : Fresh (b + 1) s) : OutOk (H.set b k) b f (vs ++ [s]) := by
  intro j x hx
  by_cases hj : j < vs.length
  · rw [List.getElem?_append_left hj] at hx
    obtain ⟨h1, h2⟩ := h j x hx
    exact ⟨sl_set h1 h2, h2⟩
  · rw [List.getElem?_append_right (by omega)] at hx
    have hlt := (List.getElem?_eq_some_iff.1 hx).1
    have : j = vs.length := by simp at hlt; omega
    subst this
    simp at hx
    subst hx
    exact ⟨sl_set hs hf, hf⟩

theorem wr_slot {H : Heap} {b i m : Nat} {vs : List Value} {z s : Value} (h : H[b]? = some ⟨vs ++ List.replicate (m + 1) z, 0, true, .live⟩) (hi : vs.length = i) : wrBlk H b i [s] = some (H.set b ⟨(vs ++ [s]) ++ List.replicate m z, 0, true, .live⟩) := by
  subst hi
  simp [wrBlk, h]

theorem sl_out {H : Heap} {b : Nat} {f : Nat → List Int} {vs : List Value} (h : H[b]? = some ⟨vs, 0, true, .live⟩) (ho : OutOk H b f vs) : Sl RWay 1 H (.slice (some ⟨b, 0, none⟩) vs.length vs.length) ((List.range vs.length).map f) := by
  refine ⟨some ⟨b, 0, none⟩, vs.length, by simp, by simp, fun h => (by cases h), fun ad ha => ?_⟩
  cases ha
  refine ⟨rfl, (List.getElem?_eq_some_iff.1 h).1, by simp [okShare, h], fun i x hx => ?_⟩
  have hi := (List.getElem?_eq_some_iff.1 hx).1
  simp at hi
  have hv : vs[i]? = some vs[i] := List.getElem?_eq_getElem hi
  refine ⟨[vs[i]], ?_, vs[i], rfl, ?_⟩
  · simp only [rdBlk, h, Nat.zero_add, Nat.mul_one]
    rw [if_pos ⟨by simp, by omega⟩, List.drop_eq_getElem_cons hi]
    rfl
  · have := (ho i _ hv).1
    simp [hi] at hx
    rw [← hx]; exact this

theorem ext_get {H H1 H2 : Heap} {b : Nat} {k : Blk} (he : Ext H1 H2) (h : H1[b]? = some k) : H2[b]? = some k := by
  obtain ⟨X, rfl⟩ := he
  rw [List.getElem?_append_left (List.getElem?_eq_some_iff.1 h).1]; exact h

theorem round_spec {bt : Nat} {T : List Int} {s : Value} {ws : List (List Int)} {origin : Int} (ht : TabAt H bt T) (hs : Sl RWay 1 H s ws) (hw : Ways ws) (hk : ∀ H' s', Ext H H' → Sl RWay 1 H' s' (rnd T origin ws) → K s' H') :
    Wcall Try.prog 86 #[.pointer (some ⟨bt, 0, none⟩), .int .i64 origin, s] H K := by
  obtain ⟨a, c, rfl⟩ := hs.shape
  have hlen := hw.len
  refine call_body (rs := #[.tmp 6]) Try.func86 rfl Try.ntmps86 rfl rfl (by simp) ?_
  have h32 : (ws.length : Int) ≤ 4294967296 := by omega
  simp [go_sem, h32, aMakeSlice]
  refine Wc.loopw 35 (fun i : Nat × Heap => [(0, .pointer (some ⟨bt, 0, none⟩)), (1, .int .i64 origin), (2, .slice a ws.length c), (7, .slice (some ⟨H.length, 0, none⟩) ws.length ws.length), (13, .int .i64 ws.length), (14, .int .i64 i.1)]) (fun i => i.2)
    (fun i => i.1 ≤ ws.length ∧ Ext H i.2 ∧ ∃ vs, vs.length = i.1 ∧ i.2[H.length]? = some ⟨vs ++ List.replicate (ws.length - i.1) (.slice none 0 0), 0, true, .live⟩ ∧ OutOk i.2 H.length (rWay T origin ws) vs) (fun i => ws.length - i.1) (0, _)
    ⟨Nat.zero_le _, Ext.new (Ext.refl H), [], rfl, by simp [newBlk], fun j x hx => by simp at hx⟩ (by simp [go_sem]) rfl (by simp [go_sem]) ?_
  rintro ⟨i, H1⟩ ⟨hi, he, vs, hvl, hblk, hout⟩
  simp only at hi he hvl hblk hout
  have ht1 := ht.ext he
  have hs1 := hs.ext RWay.mono he
  have hlt := (List.getElem?_eq_some_iff.1 hblk).1
  simp [go_sem]
  refine Br.forkD (fun h => ?_) (fun h => ?_)
  · obtain ⟨m, hm⟩ : ∃ m, ws.length - i = m + 1 := ⟨ws.length - i - 1, by omega⟩
    rw [hm] at hblk
    have hin : In16 (i : Int) := by unfold In16; omega
    have hm' : ws.length - (i + 1) = m := by omega
    simp [go_sem, h]
    refine Br.fork (fun g => ?_) (fun g => ?_)
    · have hg : (i : Int) = origin := by simpa using g
      have hsl := sl_ints H1 [origin] (b := H1.length) rfl
      have hrw : rWay T origin ws i = [origin] := by simp [rWay, hg]
      simp [go_sem, h, g, hlt, wr_slot hblk hvl]
      refine loopK_next (i + 1, _) ⟨by simp only; omega, ?_, vs ++ [.slice (some ⟨H1.length, 0, none⟩) 1 1], by simp [hvl], ?_, ?_⟩ (by simp only; omega) rfl (by simp [go_sem]) (by simp [go_sem, wrap_succ (i := i) (by omega)])
      · exact (ext_set he (Nat.le_refl _)).trans ⟨_, rfl⟩
      · simp [List.getElem?_append, hlt, hm']
      · have := outOk_push (k := ⟨(vs ++ [.slice (some ⟨H1.length, 0, none⟩) 1 1]) ++ List.replicate m (.slice none 0 0), 0, true, .live⟩) (hout.ext (Ext.new (Ext.refl _))) (by rw [hvl, hrw]; exact hsl) (fun a l c e => by cases e; exact hlt)
        rw [newBlk, List.set_append_left _ _ hlt] at this
        simpa [ints] using this
    · have hg : ¬ (i : Int) = origin := by simpa using g
      have hrw : rWay T origin ws i = chosen T i ws := by simp [rWay, hg]
      simp [go_sem, h, g]
      refine chosen_spec ht1 hs1 hw hin fun H2 s' e2 hs' hf => ?_
      obtain ⟨as_, cs_, rfl⟩ := hs'.shape
      have hb2 := ext_get (H := H) e2 hblk
      simp [go_sem, h, wr_slot hb2 hvl]
      refine loopK_next (i + 1, _) ⟨by simp only; omega, ext_set (he.trans e2) (Nat.le_refl _), vs ++ [.slice as_ (chosen T i ws).length cs_], by simp [hvl], ?_, ?_⟩ (by simp only; omega) rfl (by simp [go_sem]) (by simp [go_sem, wrap_succ (i := i) (by omega)])
      · have hlt2 := (List.getElem?_eq_some_iff.1 hb2).1
        simp [hlt2, hm']
      · exact outOk_push (hout.ext e2) (by rw [hvl, hrw]; exact hs') (hf.le (by omega))
  · have hii : i = ws.length := by omega
    subst hii
    simp [go_sem]
    refine hk _ _ he ?_
    have := sl_out (by simpa using hblk) hout
    rw [hvl] at this
    exact this
end Go.Proofs.Ythifgakeababmaa.Ba
