/- slices.Clone of next hops. -/
import Derived.Test.YtlljiccilldnaaaWf4
set_option linter.unusedVariables false
set_option linter.unusedSimpArgs false
set_option maxRecDepth 10000
set_option maxHeartbeats 2000000
namespace Go.Proofs.Ytlljiccilldnaaa.Wf
open Go Go.Am
open Go.Proofs.Ytlljiccilldnaaa.Fx
open Go.Proofs.Ytlljiccilldnaaa.Ba (wrap_small wrap_succ)
open Go.Proofs.Ytlljiccilldnaaa.Ad (KB KI rd_more)
variable {H : Heap} {K : Value → Heap → Prop}

def nxCells (ls : List Nx) : List Value := (ls.map fun x => [Value.int .i64 x.1, .int .u32 x.2]).flatten
theorem nxCells_len : ∀ (ls : List Nx), (nxCells ls).length = ls.length * 2
  | [] => rfl
  | x :: ls => by
    have := nxCells_len ls
    unfold nxCells at this ⊢
    rw [List.map_cons, List.flatten_cons, List.length_append, this]
    simp; omega
theorem nxCells_get : ∀ (ls : List Nx) (i : Nat) (x : Int × Int), ls[i]? = some x → ((nxCells ls).drop (i * 2)).take 2 = [.int .i64 x.1, .int .u32 x.2]
  | [], i, x, h => by simp at h
  | y :: ls, 0, x, h => by simp at h; subst h; simp [nxCells]
  | y :: ls, i + 1, x, h => by
    have := nxCells_get ls i x (by simpa using h)
    rw [← this]
    unfold nxCells
    rw [List.map_cons, List.flatten_cons, Nat.add_mul]
    rfl

theorem rd_more {H : Heap} {b off n m : Nat} {l l' : List Value} (h : rdBlk H b off n = some l) (h' : rdBlk H b (off + n) m = some l') : rdBlk H b off (n + m) = some (l ++ l') := by
  unfold rdBlk at h h' ⊢
  split at h
  · rename_i k hk
    rw [hk] at h'
    simp only at h' ⊢
    split at h
    · rename_i c1
      split at h'
      · rename_i c2
        rw [if_pos ⟨c1.1, by omega⟩]
        cases h; cases h'
        rw [List.take_add, List.drop_drop]
      · cases h'
    · cases h
  · cases h

/-- All the links of a slice. -/
theorem sl_cells {ls : List Nx} {b off n c : Nat} (hs : Sl RNx 2 H (.slice (some ⟨b, off, none⟩) n c) ls) : ∀ k, 0 < k → k ≤ ls.length → rdBlk H b off (k * 2) = some (nxCells (ls.take k)) := by
  intro k hk0
  induction k with
  | zero => omega
  | succ k ih =>
    intro hk
    obtain ⟨b', off', cells, e, hb, _, hr, hc⟩ := hs.get (i := k) (by omega)
    cases e
    unfold RNx at hc
    subst hc
    have e1 : nxCells (ls.take (k + 1)) = nxCells (ls.take k) ++ [.int .i64 ls[k].1, .int .u32 ls[k].2] := by
      unfold nxCells
      rw [List.take_succ_eq_append_getElem (by omega), List.map_append, List.flatten_append]; simp
    rw [e1]
    by_cases h0 : k = 0
    · subst h0
      simpa [nxCells] using hr
    · rw [Nat.add_mul]
      exact rd_more (ih (by omega) (by omega)) (by simpa using hr)

/-- A slice of links in a block of one's own. -/
theorem sl_own {ls : List Nx} {b : Nat} {k : Blk} (hk : H[b]? = some k) (hc : k.cells = nxCells ls) (hm : k.mode ≠ .dead) (hsz : k.tight = true ∨ k.sz = 2) : Sl RNx 2 H (.slice (some ⟨b, 0, none⟩) ls.length ls.length) ls := by
  refine ⟨_, _, rfl, Nat.le_refl _, fun h => (by cases h), fun ad ha => ?_⟩
  cases ha
  refine ⟨rfl, (List.getElem?_eq_some_iff.1 hk).1, ?_, fun i x hx => ⟨_, ?_, rfl⟩⟩
  · unfold okShare; rw [hk]; rcases hsz with h | h <;> simp [h]
  · have hi := (List.getElem?_eq_some_iff.1 hx).1
    have := nxCells_len ls
    unfold rdBlk
    rw [hk]
    simp only [Nat.zero_add]
    rw [if_pos ⟨hm, by rw [hc]; omega⟩, hc, nxCells_get ls i x hx]

/-- 'slices.Clone'. -/
theorem clone_spec {s : Value} {ls : List Nx} (hs : Sl RNx 2 H s ls) (hl : ls.length < 1000000) (hk : ∀ H' s', Ext H H' → Sl RNx 2 H' s' ls → (ls ≠ [] → GSl RNx 2 H.length H' s' ls) → K s' H') : Wcall Try.prog 54 #[s] H K := by
  obtain ⟨a, c, rfl⟩ := hs.shape
  refine call_body (rs := #[.tmp 2]) Try.func54 rfl Try.ntmps54 rfl rfl (by simp) ?_
  have hnil : ∀ (X : Heap), Sl RNx 2 X (.slice none 0 0) [] := fun X => ⟨none, 0, rfl, Nat.le_refl _, fun _ => rfl, fun ad h => (by cases h)⟩
  cases a with
  | none =>
    obtain ⟨a', c', e, hc, hn, _⟩ := hs
    cases e
    have := hn rfl
    subst this
    have h0 : ls.length = 0 := by omega
    have : ls = [] := List.length_eq_zero_iff.1 h0
    subst this
    simp [go_sem]
    exact hk _ _ (Ext.refl _) (hnil _) (fun h => absurd rfl h)
  | some ad =>
    simp [go_sem]
    by_cases h0 : ls.length = 0
    · have : ls = [] := List.length_eq_zero_iff.1 h0
      subst this
      simp [go_sem, aAppend, aNews]
      exact hk _ _ (by simp [go_sem]) (sl_own (ls := []) (k := ⟨[], 0, true, .live⟩) (get_new _ _) rfl (by simp) (.inl rfl)) (fun h => absurd rfl h)
    · obtain ⟨b, off, cells, e, hb, _⟩ := hs.get (i := 0) (by omega)
      cases e
      have hr := sl_cells hs ls.length (by omega) (Nat.le_refl _)
      rw [List.take_length] at hr
      have hlc := nxCells_len ls
      have hap : aAppend Try.prog (newBlk H []) 22 22 (.slice (some ⟨H.length, 0, none⟩) 0 0) (.slice (some ⟨b, off, none⟩) ls.length c) = some (.slice (some ⟨H.length + 1, 0, none⟩) ls.length ls.length, newBlk H [] ++ [⟨nxCells ls, 2, false, .live⟩]) := by
        have hn : aNews Try.prog (newBlk H []) (.agg #[.int .i64 0, .int .u32 0]) 22 (.slice (some ⟨b, off, none⟩) ls.length c) = some (ls.length, nxCells ls) := by
          simp [aNews, u22, h0, Value.cells, rdBlk_old _ _ _ _ _ hb, hr]
        have hg0 := get_new H []
        have hr0 : rdBlk (newBlk H []) H.length (0 : Nat) (0 * 2) = some [] := rd_at hg0 (off := 0) (n := 0) (by simp)
        simp only [aAppend, u22, z29, i29, hn, s29, b29, hg0, hr0]
        rw [if_pos (by simp [Value.cells]), if_neg h0, if_neg (by omega), if_pos (by omega)]
        simp [newBlk_length]
      simp [go_sem, hap]
      have hg : (newBlk H [] ++ [(⟨nxCells ls, 2, false, .live⟩ : Blk)])[H.length + 1]? = some ⟨nxCells ls, 2, false, .live⟩ := by
        rw [List.getElem?_append_right (by simp [newBlk_length])]; simp [newBlk_length]
      exact hk _ _ (by simp [go_sem]) (sl_own (k := ⟨nxCells ls, 2, false, .live⟩) hg rfl (by simp) (.inr rfl))
        (fun hne => ⟨nxCells ls, nxCells_len ls, fun i x hx => nxCells_get ls i x hx, .inr ⟨_, _, Nat.le_succ _, rfl, hne, hg, rfl, rfl, .inr rfl⟩⟩)
end Go.Proofs.Ytlljiccilldnaaa.Wf
