/- Lists one behind the other: 'slices.Concat' of two. -/
import Derived.Test.YthifgakeababmaaBa7
set_option linter.unusedVariables false
set_option linter.unusedSimpArgs false
set_option maxRecDepth 10000
namespace Go.Proofs.Ythifgakeababmaa.Ba
open Go Go.Am
open Go.Proofs.Ythifgakeababmaa.Fx
variable {H : Heap} {K : Value → Heap → Prop}

def room (zs : List Int) (m : Nat) : Blk := ⟨ints zs ++ List.replicate m (.int .i64 0), 1, false, .live⟩

theorem append_room {x : Value} {zs ys : List Int} {m : Nat} (hs : Sl RInt 1 (H ++ [room zs m]) x ys) (hm : ys.length ≤ m) :
    aAppend Try.prog (H ++ [room zs m]) 49 49 (.slice (some ⟨H.length, 0, none⟩) zs.length (zs.length + m)) x = some (.slice (some ⟨H.length, 0, none⟩) (zs.length + ys.length) (zs.length + m), H ++ [room (zs ++ ys) (m - ys.length)]) := by
  have hn := news_ints (z := .int .i64 0) rfl hs
  by_cases hy : ys = []
  · subst hy
    simp [aAppend, u49, z3, i3, s3, b3, hn, Value.cells]
  · have hpos : 0 < ys.length := List.length_pos_iff.2 hy
    have e1 : ¬ ys.length = 0 := by omega
    have e2 : ys.length ≤ m := hm
    have hw : wrBlk (H ++ [room zs m]) H.length zs.length (ints ys) = some (H ++ [room (zs ++ ys) (m - ys.length)]) := by
      have hl : (ints zs).length = zs.length := by simp [ints]
      have hl2 : (ints ys).length = ys.length := by simp [ints]
      simp only [wrBlk, List.getElem?_append_right (Nat.le_refl _), Nat.sub_self, List.getElem?_cons_zero, room]
      rw [if_pos (by simp [hl, hl2]; omega)]
      congr 1
      rw [List.set_append_right _ _ (Nat.le_refl _), Nat.sub_self, List.set_cons_zero]
      congr 3
      rw [List.take_left' hl, List.drop_append, hl2, hl, List.drop_of_length_le (by omega), List.drop_replicate]
      simp [ints]
    simp [aAppend, u49, z3, i3, s3, b3, hn, Value.cells, hy, e2, hw]

theorem sl_room {zs : List Int} {m : Nat} : Sl RInt 1 (H ++ [room zs m]) (.slice (some ⟨H.length, 0, none⟩) zs.length (zs.length + m)) zs := by
  refine ⟨_, _, rfl, by omega, fun h => (by cases h), fun ad ha => ?_⟩
  cases ha
  refine ⟨rfl, by simp, by simp [okShare, room], fun i x hx => ⟨_, ?_, rfl⟩⟩
  obtain ⟨hi, rfl⟩ := List.getElem?_eq_some_iff.1 hx
  simp only [rdBlk, List.getElem?_append_right (Nat.le_refl _), Nat.sub_self, List.getElem?_cons_zero, room]
  rw [if_pos ⟨by simp, by simp [ints]; omega⟩]
  rw [Nat.zero_add, Nat.mul_one, ints, List.drop_append_of_le_length (by simp; omega), ← List.map_drop, List.drop_eq_getElem_cons hi]
  rfl

/-- Its block, if any, is not among the first n. -/
def Fresh (n : Nat) (s : Value) : Prop := ∀ a l c, s = .slice (some a) l c → n ≤ a.block
theorem Fresh.le {n m : Nat} {s : Value} (h : Fresh n s) (hm : m ≤ n) : Fresh m s := fun a l c e => Nat.le_trans hm (h a l c e)

theorem sl_set {H : Heap} {s : Value} {xs : List Int} {b : Nat} {k : Blk} (h : Sl RInt 1 H s xs) (hf : Fresh (b + 1) s) : Sl RInt 1 (H.set b k) s xs := by
  obtain ⟨a, c, e, hc, hn, hs⟩ := h
  refine ⟨a, c, e, hc, hn, fun ad ha => ?_⟩
  obtain ⟨h1, h2, h3, h4⟩ := hs ad ha
  have hne : b ≠ ad.block := by have := hf ad _ _ (by rw [e, ha]); omega
  have hg : (H.set b k)[ad.block]? = H[ad.block]? := List.getElem?_set_ne hne
  refine ⟨h1, by simpa using h2, by unfold okShare at h3 ⊢; rw [hg]; exact h3, fun i x hx => ?_⟩
  obtain ⟨cells, h5, h6⟩ := h4 i x hx
  exact ⟨cells, by rw [rdBlk_congr hg]; exact h5, h6⟩

theorem sl_ways2 {a b : Value} {xs ys : List Int} {n : Nat} (ha : Sl RInt 1 H a xs) (hb : Sl RInt 1 H b ys) (hn : n = H.length) : Sl RWay 1 (newBlk H [a, b]) (.slice (some ⟨n, 0, none⟩) 2 2) [xs, ys] := by
  refine ⟨_, 2, rfl, by simp, fun h => (by cases h), fun ad h => ?_⟩
  cases h
  refine ⟨rfl, by simp [newBlk_length, hn], okShare_new hn, fun i x hx => ?_⟩
  have hi := (List.getElem?_eq_some_iff.1 hx).1
  simp at hi
  match i, hi with
  | 0, _ => cases hx; exact ⟨[a], by simp [rdBlk_new _ _ _ _ _ hn], a, rfl, ha.new RInt.mono _⟩
  | 1, _ => cases hx; exact ⟨[b], by simp [rdBlk_new _ _ _ _ _ hn], b, rfl, hb.new RInt.mono _⟩

theorem concat_spec {s : Value} {xs ys : List Int} (hs : Sl RWay 1 H s [xs, ys]) (hx : 1 ≤ xs.length) (hl : xs.length < 1000000) (hl2 : ys.length < 1000000) (hk : ∀ H' s', Ext H H' → Sl RInt 1 H' s' (xs ++ ys) → Fresh H.length s' → K s' H') : Wcall Try.prog 104 #[s] H K := by
  obtain ⟨a, c, rfl⟩ := hs.shape
  refine call_body (rs := #[.tmp 2]) Try.func104 rfl Try.ntmps104 rfl rfl (by simp) ?_
  simp [go_sem]
  obtain ⟨b, off, cells0, rfl, hb, _, hr0, s0, rfl, hs0⟩ := hs.get (i := 0) (by simp)
  obtain ⟨b', off', cells1, e', _, _, hr1, s1, rfl, hs1⟩ := hs.get (i := 1) (by simp)
  cases e'
  simp at hr0 hr1 hs0 hs1
  obtain ⟨a0, c0, rfl⟩ := hs0.shape
  obtain ⟨a1, c1, rfl⟩ := hs1.shape
  refine Wc.loopw 36 (fun i : Nat => [(0, .slice (some ⟨b, off, none⟩) 2 c), (9, .slice (some ⟨b, off, none⟩) 2 c), (10, .int .i64 2), (11, .int .i64 i), (3, .int .i64 (if i = 0 then 0 else if i = 1 then xs.length else xs.length + ys.length))]) (fun _ => H) (fun i => i ≤ 2) (fun i => 2 - i) 0 (by omega) (by simp [go_sem]) rfl (by simp [go_sem]) ?_
  intro i hi
  simp [go_sem]
  refine Br.forkD (fun h => ?_) (fun h => ?_)
  · have h01 : i = 0 ∨ i = 1 := by omega
    rcases h01 with rfl | rfl
    · have hw : IntKind.i64.wrap (xs.length : Int) = xs.length := wrap_small (by omega) (by omega)
      have hn : ¬ ((xs.length : Int) < 0) := by omega
      simp [go_sem, hr0, hw, hn]
      exact loopK_next 1 (by omega) (by omega) rfl (by simp [go_sem]) (by simp [go_sem, wrap_succ (i := 0) (by omega)]; decide)
    · have hw : IntKind.i64.wrap (xs.length + ys.length : Int) = xs.length + ys.length := wrap_small (by omega) (by omega)
      have hn : ¬ ((xs.length + ys.length : Int) < 0) := by omega
      simp [go_sem, hr1, hw, hn]
      exact loopK_next 2 (by omega) (by omega) rfl (by simp [go_sem]) (by simp [go_sem]; decide)
  · have hi2 : i = 2 := by omega
    subst hi2
    simp [go_sem]
    have e0 : ((xs.length : Int) + ys.length) = ((xs.length + ys.length : Nat) : Int) := by omega
    rw [e0]
    refine grow_spec (xs.length + ys.length) (by omega) (by omega) ?_
    simp [go_sem]
    have hroom : (⟨List.replicate (xs.length + ys.length) (.int .i64 0), 1, false, .live⟩ : Blk) = room [] (xs.length + ys.length) := by simp [room, ints]
    rw [hroom]
    refine Wc.loopw 36 (fun i : Nat => [(25, .slice (some ⟨b, off, none⟩) 2 c), (26, .int .i64 2), (27, .int .i64 i), (6, .slice (some ⟨H.length, 0, none⟩) (if i = 0 then 0 else if i = 1 then xs.length else xs.length + ys.length) (xs.length + ys.length))])
      (fun i => H ++ [if i = 0 then room [] (xs.length + ys.length) else if i = 1 then room xs ys.length else room (xs ++ ys) 0]) (fun i => i ≤ 2) (fun i => 2 - i) 0 (by omega) (by simp [go_sem]) (by simp) (by simp [go_sem]) ?_
    intro j hj
    simp [go_sem]
    refine Br.forkD (fun h => ?_) (fun h => ?_)
    · have h01 : j = 0 ∨ j = 1 := by omega
      rcases h01 with rfl | rfl
      · have ha := append_room (zs := []) (m := xs.length + ys.length) (hs0.mono RInt.mono [room [] (xs.length + ys.length)]) (by omega)
        simp at ha
        simp [go_sem, hr0, hb, ha]
        exact loopK_next 1 (by omega) (by omega) (by simp) (by simp [go_sem]) (by simp [go_sem]; decide)
      · have ha := append_room (zs := xs) (m := ys.length) (hs1.mono RInt.mono [room xs ys.length]) (by omega)
        simp at ha
        simp [go_sem, hr1, hb, ha]
        exact loopK_next 2 (by omega) (by omega) (by simp) (by simp [go_sem]) (by simp [go_sem]; decide)
    · have hj2 : j = 2 := by omega
      subst hj2
      simp [go_sem]
      refine hk _ _ (by simp [go_sem]) ?_ (fun a l c e => by cases e; exact Nat.le_refl _)
      have := sl_room (H := H) (zs := xs ++ ys) (m := 0)
      simpa using this
end Go.Proofs.Ythifgakeababmaa.Ba
