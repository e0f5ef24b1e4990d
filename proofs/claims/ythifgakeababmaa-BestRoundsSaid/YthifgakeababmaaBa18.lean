/- Round: what it returns. -/
import Derived.Test.YthifgakeababmaaBa17
set_option linter.unusedVariables false
set_option linter.unusedSimpArgs false
set_option maxRecDepth 10000
set_option maxHeartbeats 4000000
namespace Go.Proofs.Ythifgakeababmaa.Ba
open Go Go.Am
open Go.Proofs.Ythifgakeababmaa.Fx
variable {H : Heap} {K : Value → Heap → Prop}

theorem pigeon : ∀ (m : Nat) (l : List Int), l.Nodup → (∀ x ∈ l, 0 ≤ x ∧ x < m) → l.length ≤ m
  | 0, l, _, h => by
    cases l with
    | nil => simp
    | cons x l => have := h x (List.mem_cons_self ..); omega
  | m + 1, l, hn, h => by
    have h1 : (l.erase (m : Int)).length ≤ m := pigeon m _ (hn.erase _) fun x hx => by
      have h2 := (hn.mem_erase_iff).1 hx
      have := h x h2.2
      have h3 := h2.1
      omega
    have := List.length_erase (a := (m : Int)) (l := l)
    split at this <;> omega

theorem okWay_nodup {ls : List Ln} {n : Int} {way : List Int} {v : Nat} (h : okWay ls n way v) : way.Nodup := by
  rw [List.nodup_iff_pairwise_ne, List.pairwise_iff_getElem]
  intro i j hi hj hij e
  have := (h j hj way[j] (List.getElem?_eq_getElem hj)).2.2.2.1
  apply this
  rw [← e, List.mem_take_iff_getElem]
  exact ⟨i, by omega, rfl⟩

theorem okWay_in {ls : List Ln} {n : Int} {way : List Int} {v : Nat} (h : okWay ls n way v) : ∀ x ∈ way, 0 ≤ x ∧ x < n := by
  intro x hx
  obtain ⟨i, hi, rfl⟩ := List.getElem_of_mem hx
  have := h i hi way[i] (List.getElem?_eq_getElem hi)
  exact ⟨this.1, this.2.1⟩

theorem formed_way {n : Int} {ls : List Ln} {ws : List (List Int)} (hf : Formed n ls ws) {w : List Int} (hw : w ∈ ws) : ∃ v, v < ws.length ∧ wayOf ws v = w ∧ okWay ls n w v := by
  obtain ⟨v, hv, rfl⟩ := List.getElem_of_mem hw
  have := hf.2 v hv
  rw [wayOf_get hv] at this
  exact ⟨v, hv, wayOf_get hv, this⟩

theorem formed_lens {n : Int} {ls : List Ln} {ws : List (List Int)} (hf : Formed n ls ws) (hn : n ≤ 16) : ∀ w ∈ ws, w.length ≤ 16 := by
  intro w hw
  obtain ⟨v, hv, _, ho⟩ := formed_way hf hw
  exact pigeon 16 w (okWay_nodup ho) fun x hx => by have := okWay_in ho x hx; omega

theorem formed_ways {n : Int} {ls : List Ln} {ws : List (List Int)} (hf : Formed n ls ws) (hn : n ≤ 16) : Ways ws :=
  ⟨by have := hf.1; omega, fun w hw => by have := formed_lens hf hn w hw; omega, fun w hw x hx => by
    obtain ⟨v, hv, _, ho⟩ := formed_way hf hw
    have := okWay_in ho x hx
    unfold In16; omega⟩

theorem formed_heads {n : Int} {ls : List Ln} {ws : List (List Int)} (hf : Formed n ls ws) : Heads ws := by
  intro v hv hne
  have hp : 0 < (wayOf ws v).length := List.length_pos_iff.2 hne
  have := (hf.2 v hv 0 hp _ (List.getElem?_eq_getElem hp)).2.2.1 rfl
  rw [List.getD_eq_getElem?_getD, List.getElem?_eq_getElem hp]
  exact this

theorem someWays_spec {a : Option Addr} {m c : Nat} {ws : List (List Int)} (hs : Sl RWay 1 H (.slice a m c) ws) (hk : K (.slice a (min ws.length 17) c) H) : Wcall Try.prog 56 #[.slice a m c, .int .i64 17] H K := by
  have := hs.len
  subst this
  refine call_body (rs := #[.tmp 4]) Try.func56 rfl Try.ntmps56 rfl rfl (by simp) ?_
  simp [go_sem]
  rw [hs.aSlice u62 i98 s98 (by omega) (by omega)]
  simp [go_sem]
  rw [show (min (ws.length : Int) 17).toNat = min ws.length 17 by omega]
  exact hk

theorem bestRound_spec {n origin : Int} {s t : Value} {ls : List Ln} {ws : List (List Int)} (hls : Sl RLn 5 H t ls) (hl : ls.length < 1000000) (hs : Sl RWay 1 H s ws) (hwl : ws.length < 1000000) (hlens : ∀ w ∈ ws, w.length < 9223372036854775808)
    (hk0 : ∀ H' e, Ext H H' → e ≠ 0 → ((fault n ls ≠ 0 ∧ e = fault n ls) ∨ (fault n ls = 0 ∧ (origin < 0 ∨ origin ≥ n) ∧ e = 1) ∨ (fault n ls = 0 ∧ ¬ (origin < 0 ∨ origin ≥ n) ∧ ¬ Formed n ls ws ∧ e = 3)) → K (.tuple #[.slice none 0 0, .int .i64 e]) H')
    (hk1 : fault n ls = 0 → 0 ≤ origin → origin < n → Formed n ls ws → ∀ H' s', Ext H H' → Sl RWay 1 H' s' (rnd (tab ls) origin ws) → K (.tuple #[s', .int .i64 0]) H') :
    Wcall Try.prog 59 #[netV n t, .int .i64 origin, s] H K := by
  obtain ⟨a, c, rfl⟩ := hs.shape
  obtain ⟨at_, ct, rfl⟩ := hls.shape
  refine call_body (rs := #[.tmp 6, .tmp 7]) Try.func59 rfl Try.ntmps59 rfl rfl (by simp) ?_
  simp [go_sem, netV]
  refine check_spec (hls.new RLn.mono _) hl fun H1 e1 => ?_
  have hb0 : rdBlk H1 H.length 0 1 = some [.int .i64 n] := e1.rd (by simp [go_sem])
  have hb2 : rdBlk H1 H.length 0 2 = some [.int .i64 n, .slice at_ ls.length ct] := e1.rd (by simp [go_sem])
  have he1 : Ext H H1 := (Ext.new (Ext.refl H)).trans e1
  simp [go_sem]
  refine Br.forkN (fun g1 => ?_) (fun g1 => ?_)
  · simp [go_sem]
    exact hk0 _ _ he1 g1 (.inl ⟨g1, rfl⟩)
  simp [go_sem, g1]
  refine Gd.forkN (fun g2 => ?_) (fun g2 => ?_)
  rotate_left
  · simp [go_sem, g2]
    exact hk0 _ _ he1 (by simp) (.inr (.inl ⟨g1, .inl g2, rfl⟩))
  simp [go_sem, g2, hb0]
  refine Br.forkD (fun g3 => ?_) (fun g3 => ?_)
  · simp [go_sem, g3]
    exact hk0 _ _ he1 (by simp) (.inr (.inl ⟨g1, .inr g3, rfl⟩))
  have hfz := fault_zero g1
  have hval := fault_valid g1
  simp [go_sem, g3, hb2]
  refine formed_spec (n := n) (hls.ext RLn.mono he1) hl hval hfz.2.1 (hs.ext RWay.mono he1) hwl hlens fun H2 b e2 hfb => ?_
  have hb2' := e2.rd hb2
  cases b with
  | false =>
    simp at hfb
    simp [go_sem]
    exact hk0 _ _ (he1.trans e2) (by simp) (.inr (.inr ⟨g1, by omega, hfb, rfl⟩))
  | true =>
    have hF : Formed n ls ws := hfb.1 rfl
    have hT := tab_len (ls := ls) (fun x hx => (hval.tab x hx).1)
    have hIl : (ints (tab ls)).length = 512 := by simp [ints, hT]
    have hdr : zs146.drop 512 = [] := List.drop_of_length_le (by rw [zs146_len]; omega)
    simp [go_sem, hb2']
    refine ties_spec (n := n) (hls.ext RLn.mono (he1.trans e2)) hl (fun x hx => (hval.tab x hx).1) fun H3 e3 => ?_
    have htb := tabAt_new (H := H3) hT rfl
    simp [go_sem, hIl, zs146_len, hdr]
    have heA : Ext H (newBlk H3 (ints (tab ls))) := ((he1.trans e2).trans e3).trans (Ext.new (Ext.refl _))
    refine round_spec htb (hs.ext RWay.mono heA) (formed_ways hF hfz.2.1) fun H4 s4 e4 hs4 => ?_
    simp [go_sem]
    exact hk1 g1 (by omega) (by omega) hF _ _ (heA.trans e4) hs4
end Go.Proofs.Ythifgakeababmaa.Ba
