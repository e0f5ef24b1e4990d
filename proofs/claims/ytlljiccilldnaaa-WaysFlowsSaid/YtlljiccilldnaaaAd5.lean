/- Copies of advertisements. -/
import Derived.Test.YtlljiccilldnaaaAd4
set_option linter.unusedVariables false
set_option linter.unusedSimpArgs false
set_option maxRecDepth 10000
namespace Go.Proofs.Ytlljiccilldnaaa.Ad
open Go Go.Am
open Go.Proofs.Ytlljiccilldnaaa.Fx
open Go.Proofs.Ytlljiccilldnaaa.Ba (wrap_small wrap_succ sameInts_spec)
variable {H : Heap} {K : Value → Heap → Prop}

def lkCells (ls : List (Int × Int)) : List Value := (ls.map fun x => [Value.int .i64 x.1, .int .i64 x.2]).flatten
theorem lkCells_len : ∀ (ls : List (Int × Int)), (lkCells ls).length = ls.length * 2
  | [] => rfl
  | x :: ls => by
    have := lkCells_len ls
    unfold lkCells at this ⊢
    rw [List.map_cons, List.flatten_cons, List.length_append, this]
    simp; omega
theorem lkCells_get : ∀ (ls : List (Int × Int)) (i : Nat) (x : Int × Int), ls[i]? = some x → ((lkCells ls).drop (i * 2)).take 2 = [.int .i64 x.1, .int .i64 x.2]
  | [], i, x, h => by simp at h
  | y :: ls, 0, x, h => by simp at h; subst h; simp [lkCells]
  | y :: ls, i + 1, x, h => by
    have := lkCells_get ls i x (by simpa using h)
    rw [← this]
    unfold lkCells
    rw [List.map_cons, List.flatten_cons, Nat.add_mul]
    rfl

theorem rd_more {H : Heap} {b off n m : Nat} {l l' : List Value} (h : rdBlk H b off n = some l) (h' : rdBlk H b (off + n) m = some l') : rdBlk H b off (n + m) = some (l ++ l') := by
  unfold rdBlk at h h' ⊢
  split at h
  · rename_i k hk
    rw [hk] at h'
    simp only at h' ⊢
    split at h
    · rename_i c1
      split at h'
      · rename_i c2
        rw [if_pos ⟨c1.1, by omega⟩]
        cases h; cases h'
        rw [List.take_add, List.drop_drop]
      · cases h'
    · cases h
  · cases h

/-- All the links of a slice. -/
theorem sl_cells {ls : List (Int × Int)} {b off n c : Nat} (hs : Sl RLk 2 H (.slice (some ⟨b, off, none⟩) n c) ls) : ∀ k, 0 < k → k ≤ ls.length → rdBlk H b off (k * 2) = some (lkCells (ls.take k)) := by
  intro k hk0
  induction k with
  | zero => omega
  | succ k ih =>
    intro hk
    obtain ⟨b', off', cells, e, hb, _, hr, hc⟩ := hs.get (i := k) (by omega)
    cases e
    unfold RLk at hc
    subst hc
    have e1 : lkCells (ls.take (k + 1)) = lkCells (ls.take k) ++ [.int .i64 ls[k].1, .int .i64 ls[k].2] := by
      unfold lkCells
      rw [List.take_succ_eq_append_getElem (by omega), List.map_append, List.flatten_append]; simp
    rw [e1]
    by_cases h0 : k = 0
    · subst h0
      simpa [lkCells] using hr
    · rw [Nat.add_mul]
      exact rd_more (ih (by omega) (by omega)) (by simpa using hr)

/-- A slice of links in a block of one's own. -/
theorem sl_own {ls : List (Int × Int)} {b : Nat} {k : Blk} (hk : H[b]? = some k) (hc : k.cells = lkCells ls) (hm : k.mode ≠ .dead) (hsz : k.tight = true ∨ k.sz = 2) : Sl RLk 2 H (.slice (some ⟨b, 0, none⟩) ls.length ls.length) ls := by
  refine ⟨_, _, rfl, Nat.le_refl _, fun h => (by cases h), fun ad ha => ?_⟩
  cases ha
  refine ⟨rfl, (List.getElem?_eq_some_iff.1 hk).1, ?_, fun i x hx => ⟨_, ?_, rfl⟩⟩
  · unfold okShare; rw [hk]; rcases hsz with h | h <;> simp [h]
  · have hi := (List.getElem?_eq_some_iff.1 hx).1
    have := lkCells_len ls
    unfold rdBlk
    rw [hk]
    simp only [Nat.zero_add]
    rw [if_pos ⟨hm, by rw [hc]; omega⟩, hc, lkCells_get ls i x hx]

/-- 'slices.Clone'. -/
theorem clone_spec {s : Value} {ls : List (Int × Int)} (hs : Sl RLk 2 H s ls) (hl : ls.length < 1000000) (hk : ∀ H' s', Ext H H' → (∀ S : Nat → Bool, (∀ i, S i = true → i < H.length) → Sl RLk 2 (hide S H') s' ls) → K s' H') : Wcall Try.prog 136 #[s] H K := by
  obtain ⟨a, c, rfl⟩ := hs.shape
  refine call_body (rs := #[.tmp 2]) Try.func136 rfl Try.ntmps136 rfl rfl (by simp) ?_
  have hnil : ∀ (X : Heap), Sl RLk 2 X (.slice none 0 0) [] := fun X => ⟨none, 0, rfl, Nat.le_refl _, fun _ => rfl, fun ad h => (by cases h)⟩
  cases a with
  | none =>
    obtain ⟨a', c', e, hc, hn, _⟩ := hs
    cases e
    have := hn rfl
    subst this
    have h0 : ls.length = 0 := by omega
    have : ls = [] := List.length_eq_zero_iff.1 h0
    subst this
    simp [go_sem]
    exact hk _ _ (Ext.refl _) (fun S _ => hnil _)
  | some ad =>
    simp [go_sem]
    by_cases h0 : ls.length = 0
    · have : ls = [] := List.length_eq_zero_iff.1 h0
      subst this
      simp [go_sem, aAppend, aNews]
      refine hk _ _ (by simp [go_sem]) (fun S hS => ?_)
      have hS1 : S H.length = false := by
        cases hq : S H.length
        · rfl
        · have := hS _ hq; omega
      exact sl_own (ls := []) (k := ⟨[], 0, true, .live⟩) (by rw [hide_get, get_new, Option.map_some, if_neg (by rw [hS1]; simp)]) rfl (by simp) (.inl rfl)
    · obtain ⟨b, off, cells, e, hb, _⟩ := hs.get (i := 0) (by omega)
      cases e
      have hr := sl_cells hs ls.length (by omega) (Nat.le_refl _)
      rw [List.take_length] at hr
      have hlc := lkCells_len ls
      have hap : aAppend Try.prog (newBlk H []) 82 82 (.slice (some ⟨H.length, 0, none⟩) 0 0) (.slice (some ⟨b, off, none⟩) ls.length c) = some (.slice (some ⟨H.length + 1, 0, none⟩) ls.length ls.length, newBlk H [] ++ [⟨lkCells ls, 2, false, .live⟩]) := by
        have hn : aNews Try.prog (newBlk H []) (.agg #[.int .i64 0, .int .i64 0]) 82 (.slice (some ⟨b, off, none⟩) ls.length c) = some (ls.length, lkCells ls) := by
          simp [aNews, u82, h0, Value.cells, rdBlk_old _ _ _ _ _ hb, hr]
        have hg0 := get_new H []
        have hr0 : rdBlk (newBlk H []) H.length (0 : Nat) (0 * 2) = some [] := rd_at hg0 (off := 0) (n := 0) (by simp)
        simp only [aAppend, u82, z133, i133, hn, s133, b133, hg0, hr0]
        rw [if_pos (by simp [Value.cells]), if_neg h0, if_neg (by omega), if_pos (by omega)]
        simp [newBlk_length]
      simp [go_sem, hap]
      refine hk _ _ (by simp [go_sem]) (fun S hS => ?_)
      have hg : (newBlk H [] ++ [(⟨lkCells ls, 2, false, .live⟩ : Blk)])[H.length + 1]? = some ⟨lkCells ls, 2, false, .live⟩ := by
        rw [List.getElem?_append_right (by simp [newBlk_length])]; simp [newBlk_length]
      have hS1 : S (H.length + 1) = false := by
        cases hq : S (H.length + 1)
        · rfl
        · have := hS _ hq; omega
      exact sl_own (k := ⟨lkCells ls, 2, false, .live⟩) (by rw [hide_get, hg, Option.map_some, if_neg (by rw [hS1]; simp)]) rfl (by simp) (.inr rfl)

/-- 'own'. -/
theorem own_spec {a : Adv} {s : Value} (hs : Sl RLk 2 H s a.links) (hl : a.links.length < 1000000) (hk : ∀ H' s', Ext H H' → (∀ S : Nat → Bool, (∀ i, S i = true → i < H.length) → Sl RLk 2 (hide S H') s' a.links) → K (advV a s') H') : Wcall Try.prog 106 #[advV a s] H K := by
  obtain ⟨al, c, rfl⟩ := hs.shape
  refine call_cells (rs := #[.cell 2 84]) Try.func106 rfl Try.ntmps106 rfl (by simp) ?_
  simp [go_sem, advV, advC]
  refine clone_spec (hs.ext RLk.mono (by simp [go_sem])) hl fun H1 s1 e1 hs1 => ?_
  obtain ⟨a1, c1, rfl⟩ := (hs1 (fun _ => false) (by simp)).shape
  generalize hv : Value.slice a1 a.links.length c1 = s1 at hs1
  have hsv : solid s1 = true := by subst hv; rfl
  have hcv : s1.cells = #[s1] := by subst hv; rfl
  have e0 : Ext H H1 := by refine Ext.trans ?_ e1; simp [go_sem]
  have g0 : H1[H.length]? = some ⟨[.int .i64 a.id, .int .i64 a.seq, .int .i64 a.age, .slice al a.links.length c], 0, true, .live⟩ := e1.at (by simp [newBlk])
  have g1 : H1[H.length + 1]? = some ⟨[.int .i64 0, .int .i64 0, .int .i64 0, .slice none 0 0], 0, true, .live⟩ := e1.at (by simp [newBlk])
  have l1 := (List.getElem?_eq_some_iff.1 g1).1
  have w0 := wr_at g0 (off := 3) (vs := [s1]) (by simp)
  simp at w0
  have r2 : (H1.set H.length ⟨[.int .i64 a.id, .int .i64 a.seq, .int .i64 a.age, s1], 0, true, .live⟩)[H.length]? = some ⟨[.int .i64 a.id, .int .i64 a.seq, .int .i64 a.age, s1], 0, true, .live⟩ := List.getElem?_set_self (by omega)
  have g2 : (H1.set H.length ⟨[.int .i64 a.id, .int .i64 a.seq, .int .i64 a.age, s1], 0, true, .live⟩)[H.length + 1]? = some ⟨[.int .i64 0, .int .i64 0, .int .i64 0, .slice none 0 0], 0, true, .live⟩ := by rw [List.getElem?_set_ne (by omega)]; exact g1
  have hle : ∀ S : Nat → Bool, Le (hide (fun i => S i || i == H.length || i == H.length + 1) H1) (hide S ((H1.set H.length ⟨[.int .i64 a.id, .int .i64 a.seq, .int .i64 a.age, s1], 0, true, .live⟩).set (H.length + 1) ⟨[.int .i64 a.id, .int .i64 a.seq, .int .i64 a.age, s1], 0, true, .live⟩)) := fun S =>
    (Le.trans (H2 := hide (fun i => S i || i == H.length || i == H.length + 1) (H1.set H.length ⟨[.int .i64 a.id, .int .i64 a.seq, .int .i64 a.age, s1], 0, true, .live⟩)) (hide_set (by simp) g0 rfl rfl)
      (Le.trans (H2 := hide (fun i => S i || i == H.length || i == H.length + 1) ((H1.set H.length ⟨[.int .i64 a.id, .int .i64 a.seq, .int .i64 a.age, s1], 0, true, .live⟩).set (H.length + 1) ⟨[.int .i64 a.id, .int .i64 a.seq, .int .i64 a.age, s1], 0, true, .live⟩)) (hide_set (by simp) g2 rfl rfl) (hide_mono (fun i h => by simp [h]))))
  generalize hH2 : H1.set H.length ⟨[.int .i64 a.id, .int .i64 a.seq, .int .i64 a.age, s1], 0, true, .live⟩ = H2 at w0 r2 g2 hle
  have e2 : Ext H H2 := hH2 ▸ ext_set e0 (Nat.le_refl _)
  have l2 : H.length + 1 < H2.length := by rw [← hH2]; simpa using l1
  have r3 := rd_at r2 (off := 0) (n := 4) (by simp)
  have w3 := wr_at g2 (off := 0) (vs := [.int .i64 a.id, .int .i64 a.seq, .int .i64 a.age, s1]) (by simp)
  simp at r3 w3
  have g3 : (H2.set (H.length + 1) ⟨[.int .i64 a.id, .int .i64 a.seq, .int .i64 a.age, s1], 0, true, .live⟩)[H.length + 1]? = some ⟨[.int .i64 a.id, .int .i64 a.seq, .int .i64 a.age, s1], 0, true, .live⟩ := List.getElem?_set_self l2
  have r4 := rd_at g3 (off := 0) (n := 4) (by simp)
  simp at r4
  simp [go_sem, ← hv]
  simp [go_sem, hv, w0, r3, w3, r4, l1]
  exact hk _ _ (ext_set e2 (by omega)) fun S hS => (hs1 _ (fun i hi => by
    simp at hi
    rcases hi with (hi | hi) | hi
    · have := hS i hi; simp [newBlk_length]; omega
    · simp [newBlk_length]; omega
    · simp [newBlk_length]; omega)).le RLk.monoL (hle S)
end Go.Proofs.Ytlljiccilldnaaa.Ad
