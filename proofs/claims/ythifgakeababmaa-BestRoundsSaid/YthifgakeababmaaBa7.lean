/- What a domain tells; lists one behind the other. -/
import Derived.Test.YthifgakeababmaaBa6
set_option linter.unusedVariables false
set_option linter.unusedSimpArgs false
set_option maxRecDepth 10000
namespace Go.Proofs.Ythifgakeababmaa.Ba
open Go Go.Am
open Go.Proofs.Ythifgakeababmaa.Fx
variable {H : Heap} {K : Value → Heap → Prop}

/-- The table, in memory. -/
def TabAt (H : Heap) (b : Nat) (T : List Int) : Prop := b < H.length ∧ T.length = 512 ∧ ∀ o (h : o < T.length), rdBlk H b o 1 = some [.int .i64 T[o]]
theorem TabAt.ext {H H' : Heap} {b : Nat} {T : List Int} (h : TabAt H b T) (he : Ext H H') : TabAt H' b T := ⟨Nat.lt_of_lt_of_le h.1 he.len, h.2.1, fun o ho => he.rd (h.2.2 o ho)⟩
def tk (T : List Int) (u v : Int) : Int := T.getD (u.toNat * 32 + v.toNat * 2) 0
def tp (T : List Int) (u v : Int) : Int := T.getD (u.toNat * 32 + v.toNat * 2 + 1) 0
theorem TabAt.k {b : Nat} {T : List Int} (h : TabAt H b T) {u v : Int} (hu : 0 ≤ u ∧ u < 16) (hv : 0 ≤ v ∧ v < 16) : rdBlk H b (u.toNat * 32 + v.toNat * 2) 1 = some [.int .i64 (tk T u v)] := by
  have ho : u.toNat * 32 + v.toNat * 2 < T.length := by have := h.2.1; omega
  rw [h.2.2 _ ho, tk, List.getD_eq_getElem?_getD, List.getElem?_eq_getElem ho]; rfl
theorem TabAt.p {b : Nat} {T : List Int} (h : TabAt H b T) {u v : Int} (hu : 0 ≤ u ∧ u < 16) (hv : 0 ≤ v ∧ v < 16) : rdBlk H b (u.toNat * 32 + v.toNat * 2 + 1) 1 = some [.int .i64 (tp T u v)] := by
  have ho : u.toNat * 32 + v.toNat * 2 + 1 < T.length := by have := h.2.1; omega
  rw [h.2.2 _ ho, tp, List.getD_eq_getElem?_getD, List.getElem?_eq_getElem ho]; rfl

def In16 (x : Int) : Prop := 0 ≤ x ∧ x < 16
def expo (T : List Int) (way : List Int) (u : Int) : Prop := way.length = 1 ∨ tk T (way.getD 0 0) (way.getD 1 0) = 1 ∨ tk T (way.getD 0 0) u = 1
instance (T : List Int) (way : List Int) (u : Int) : Decidable (expo T way u) := by unfold expo; infer_instance

theorem exported_spec {bt : Nat} {T way : List Int} {s : Value} {u : Int} (ht : TabAt H bt T) (hs : Sl RInt 1 H s way) (hne : way ≠ []) (hw : ∀ x ∈ way, In16 x) (hu : In16 u) (hl : way.length < 1000000) (hk : K (.bool (decide (expo T way u))) H) :
    Wcall Try.prog 140 #[.pointer (some ⟨bt, 0, none⟩), s, .int .i64 u] H K := by
  obtain ⟨a, c, rfl⟩ := hs.shape
  refine call_body (rs := #[.tmp 6]) Try.func140 rfl Try.ntmps140 rfl rfl (by simp) ?_
  have hpos : 0 < way.length := List.length_pos_iff.2 hne
  obtain ⟨b, off, cells, rfl, hb, _, hr, rfl⟩ := hs.get hpos
  simp at hr
  have h0 := hw way[0] (List.getElem_mem hpos)
  have hg0 : way.getD 0 0 = way[0] := by rw [List.getD_eq_getElem?_getD, List.getElem?_eq_getElem hpos]; rfl
  have hku := ht.k h0 hu
  unfold In16 at h0 hu
  simp [go_sem, hr, hpos]
  refine Wc.drawn mixed (by kernel_rfl) ?_
  simp [go_sem]
  refine Gd2.forkNB (fun g1 => ?_) (fun g1 => ?_)
  · have hl2 : 1 < way.length := by simp at g1; omega
    obtain ⟨b', off', cells', e', _, _, hr1, rfl⟩ := hs.get hl2
    cases e'
    have h1 := hw way[1] (List.getElem_mem hl2)
    have hg1 : way.getD 1 0 = way[1] := by rw [List.getD_eq_getElem?_getD, List.getElem?_eq_getElem hl2]; rfl
    have hk1 := ht.k (u := way[0]) (v := way[1]) h0 h1
    unfold In16 at h1
    simp at hr1
    have hl2' : (1 : Int) < way.length := by omega
    simp [go_sem, g1, hl2, hl2', hr1, hk1, h0, h1]
    refine Gd2.forkNB (fun g2 => ?_) (fun g2 => ?_)
    · simp [go_sem, g1, g2, hl2, hl2', hr1, hk1, hku, h0, hu]
      refine KB hk ?_
      simp at g1 g2
      simp [expo, ← List.getD_eq_getElem?_getD, hg0, hg1, g2]
      omega
    · simp [go_sem, g1, g2, hl2, hl2', hr1, hk1]
      refine KB hk ?_
      simp at g1 g2
      simp [expo, ← List.getD_eq_getElem?_getD, hg0, hg1, g2]
  · simp [go_sem, g1]
    refine KB hk ?_
    simp at g1
    exact decide_eq_true (Or.inl (by omega))

/-- Reading a range whole. -/
theorem rdBlk_all {H : Heap} {b : Nat} : ∀ (cs : List Value) (off : Nat), (∀ i (h : i < cs.length), rdBlk H b (off + i) 1 = some [cs[i]]) → cs ≠ [] → rdBlk H b off cs.length = some cs := by
  intro cs off h hne
  have hpos : 0 < cs.length := List.length_pos_iff.2 hne
  have h0 := h 0 hpos
  unfold rdBlk at h0 ⊢
  cases hb : H[b]? with
  | none => rw [hb] at h0; cases h0
  | some k =>
    rw [hb] at h0
    simp only at h0 ⊢
    split at h0
    · rename_i hk
      have hlast := h (cs.length - 1) (by omega)
      unfold rdBlk at hlast
      rw [hb] at hlast
      simp only at hlast
      split at hlast
      · rename_i hk2
        rw [if_pos ⟨hk.1, by omega⟩]
        congr 1
        refine List.ext_getElem (by simp; omega) fun i h1 h2 => ?_
        have hi := h i h2
        unfold rdBlk at hi
        rw [hb] at hi
        simp only at hi
        split at hi
        · have := congrArg (fun o : Option (List Value) => (o.getD []).head?) hi
          simp only [Option.getD_some, List.head?_cons, List.head?_take, List.head?_drop] at this
          rw [List.getElem_take, List.getElem_drop]
          have hlt : off + i < k.cells.length := by omega
          rw [List.getElem?_eq_getElem hlt] at this
          simpa using this
        · cases hi
      · cases hlast
    · cases h0

theorem news_ints {H : Heap} {z s : Value} {ys : List Int} (hz : z.cells.size = 1) (hs : Sl RInt 1 H s ys) : aNews Try.prog H z 49 s = some (ys.length, ints ys) := by
  obtain ⟨a, c, rfl⟩ := hs.shape
  cases a with
  | none =>
    obtain ⟨a', c', e, hc, hn, hs'⟩ := hs
    cases e
    have := hn rfl
    have : ys = [] := List.length_eq_zero_iff.1 (by omega)
    subst this
    simp [aNews, u49, ints]
  | some ad =>
    by_cases hy : ys = []
    · subst hy; simp [aNews, u49, ints]
    · have hpos : 0 < ys.length := List.length_pos_iff.2 hy
      obtain ⟨b, off, cells, e, hb, _, _, _⟩ := hs.get hpos
      cases e
      have := rdBlk_all (H := H) (b := b) (ints ys) off (fun i h => by
        have hi : i < ys.length := by simpa [ints] using h
        obtain ⟨b', off', cells', e', _, _, hr, hc⟩ := hs.get hi
        cases e'
        rw [Nat.mul_one] at hr
        rw [hr, hc]
        simp [ints]) (by simpa [ints] using hy)
      have hne : ¬ ys.length = 0 := by omega
      have hlen : (ints ys).length = ys.length := by simp [ints]
      rw [hlen] at this
      simp only [aNews, u49, hne, if_false, hz, Nat.mul_one, this, Option.map_some]

theorem append_nil_int (n : Nat) (h0 : 1 ≤ n) (h1 : n < 100000000) : aAppend Try.prog H 49 3 (.slice none 0 0) (.int .i64 n) = some (.slice (some ⟨H.length, 0, none⟩) n n, H ++ [⟨List.replicate n (.int .i64 0), 1, false, .live⟩]) := by
  have e1 : ¬ n = 0 := by omega
  have e2 : (0 : Int) ≤ n ∧ (n : Int) ≤ 4294967296 := by omega
  have e3 : n * 8 ≤ 140737488355328 ∧ n ≤ 140737488355328 := by omega
  have e4 : (n : Int) ≤ 4294967296 := by omega
  simp [aAppend, u49, z3, i3, s3, b3, aNews, u3, e1, e2, e3, e4, zeros, Value.cells]

/-- Room for n numbers. -/
theorem grow_spec (n : Nat) (h0 : 1 ≤ n) (h1 : n < 100000000) (hk : K (.slice (some ⟨H.length, 0, none⟩) 0 n) (H ++ [⟨List.replicate n (.int .i64 0), 1, false, .live⟩])) : Wcall Try.prog 131 #[.slice none 0 0, .int .i64 n] H K := by
  refine call_body (rs := #[.tmp 4]) Try.func131 rfl Try.ntmps131 rfl rfl (by simp) ?_
  have hn : ¬ ((n : Int) < 0) := by omega
  have hw : IntKind.i64.wrap (n : Int) = n := wrap_small (by omega) (by omega)
  have hw0 : IntKind.i64.wrap 0 = 0 := by decide
  have h0' : 0 < n := by omega
  simp [go_sem, aCap, aSlice, aBound, hw, hw0, hn, h0', append_nil_int n h0 h1, okShare]
  exact hk
end Go.Proofs.Ythifgakeababmaa.Ba
