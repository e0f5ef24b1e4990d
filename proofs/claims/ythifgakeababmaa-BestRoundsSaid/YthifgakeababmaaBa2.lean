/- Links and ways; equality of lists; the clash of links. -/
import Derived.Test.YthifgakeababmaaAm16
import Derived.Test.YthifgakeababmaaBa1
set_option linter.unusedVariables false
set_option linter.unusedSimpArgs false
set_option maxRecDepth 10000
namespace Go.Proofs.Ythifgakeababmaa.Ba
open Go Go.Am
open Go.Proofs.Ythifgakeababmaa.Fx
variable {H : Heap} {K : Value → Heap → Prop}

/-- A link. -/
structure Ln where
  a : Int
  b : Int
  k : Int
  pa : Int
  pb : Int
  deriving DecidableEq

def Ln.cells (x : Ln) : List Value := [.int .i64 x.a, .int .i64 x.b, .int .i64 x.k, .int .i64 x.pa, .int .i64 x.pb]
def RLn (H : Heap) (x : Ln) (cells : List Value) : Prop := cells = x.cells
theorem RLn.mono : Mono RLn := fun _ _ _ _ h => h
def RWay (H : Heap) (x : List Int) (cells : List Value) : Prop := ∃ s, cells = [s] ∧ Sl RInt 1 H s x
theorem RWay.mono : Mono RWay := fun _ X _ _ ⟨s, h, hs⟩ => ⟨s, h, hs.mono RInt.mono X⟩

def clash (x y : Ln) : Prop := (y.a = x.a ∧ y.b = x.b) ∨ (y.a = x.b ∧ y.b = x.a)
instance (x y : Ln) : Decidable (clash x y) := by unfold clash; infer_instance

theorem newBlk_app (H X : Heap) (l : List Value) : newBlk (H ++ X) l = H ++ newBlk X l := by simp [newBlk]

/-- 'slices.Equal'. -/
theorem equal_spec {s t : Value} {xs ys : List Int} (hs : Sl RInt 1 H s xs) (ht : Sl RInt 1 H t ys) (hl : xs.length < 1000000) (hl2 : ys.length < 1000000) (hk : K (.bool (decide (xs = ys))) H) : Wcall Try.prog 89 #[s, t] H K := by
  obtain ⟨a, c, rfl⟩ := hs.shape
  obtain ⟨a', c', rfl⟩ := ht.shape
  refine call_body (rs := #[.tmp 4]) Try.func89 rfl Try.ntmps89 rfl rfl (by simp) ?_
  simp [go_sem]
  refine Br.forkN (fun h => ?_) (fun h => ?_)
  · simp [go_sem]
    have : decide (xs = ys) = false := by simp; intro e; rw [e] at h; exact h rfl
    rw [← this]; exact hk
  simp [go_sem]
  refine Wc.loopw 26 (fun i : Nat => [(0, .slice a xs.length c), (1, .slice a' ys.length c'), (12, .int .i64 xs.length), (13, .int .i64 i)]) (fun _ => H) (fun i => i ≤ xs.length ∧ ∀ j (h : j < xs.length) (h' : j < ys.length), j < i → xs[j] = ys[j]) (fun i => xs.length - i) 0 ⟨Nat.zero_le _, fun _ _ _ h => absurd h (by omega)⟩ (by simp [go_sem]) rfl (by simp [go_sem]) ?_
  rintro i ⟨hi, hno⟩
  simp [go_sem]
  refine Br.forkD (fun h3 => ?_) (fun h3 => ?_)
  · have h4 : i < ys.length := by omega
    obtain ⟨b, off, cells, rfl, hb, _, hr, rfl⟩ := hs.get h3
    obtain ⟨b', off', cells', rfl, hb', _, hr', rfl⟩ := ht.get h4
    simp at hr hr'
    simp [go_sem]
    refine Wc.drawn mixed (by kernel_rfl) ?_
    simp [go_sem, hr, hr', h3, h4]
    refine Br.forkN (fun h2 => ?_) (fun h2 => ?_)
    · simp [go_sem]
      have : decide (xs = ys) = false := by simp; intro e; subst e; exact h2 rfl
      rw [← this]; exact hk
    · simp [go_sem]
      refine loopK_next (i + 1) ⟨by omega, fun j hj hj' hji => ?_⟩ (by omega) rfl (by simp [go_sem]) (by simp [go_sem, wrap_succ (i := i) (by omega)])
      by_cases he : j = i
      · subst he; exact h2
      · exact hno j hj hj' (by omega)
  · simp [go_sem]
    have : decide (xs = ys) = true := by
      simp
      exact List.ext_getElem (by omega) fun j hj hj' => hno j hj hj' (by omega)
    rw [← this]; exact hk

theorem KB {b b' : Bool} {H' : Heap} (h : K (.bool b) H') (e : b = b') : K (.bool b') H' := e ▸ h

/-- Whether two links clash. -/
theorem clash_spec {x y : Ln} {b off : Nat} (hb : b < H.length) (h0 : rdBlk H b off 1 = some [.int .i64 x.a]) (h1 : rdBlk H b (off + 1) 1 = some [.int .i64 x.b])
    (hk : ∀ l, K (.bool (decide (clash x y))) (newBlk H l)) : Wcall Try.prog 108 #[.agg y.cells.toArray, .pointer (some ⟨b, off, none⟩)] H K := by
  refine call_body (rs := #[.tmp 3]) Try.func108 rfl Try.ntmps108 rfl rfl (by simp) ?_
  simp [go_sem, Ln.cells, hb, h0, h1]
  refine Gd.forkD (fun c1 => ?_) (fun c1 => ?_) <;> simp [go_sem, hb, h0, h1, c1]
  · refine Gd.forkN (fun c2 => ?_) (fun c2 => ?_) <;> simp [go_sem, hb, h0, h1, c1, c2]
    · refine Gd.forkD (fun c3 => ?_) (fun c3 => ?_) <;> simp [go_sem, hb, h0, h1, c1, c2, c3] <;> refine KB (hk _) ?_ <;> simp [clash] <;> grind
    · refine KB (hk _) ?_
      simp [clash]; grind
  · refine Gd.forkD (fun c3 => ?_) (fun c3 => ?_) <;> simp [go_sem, hb, h0, h1, c1, c3] <;> refine KB (hk _) ?_ <;> simp [clash] <;> grind

/-- The place of a clash, or a negative number. -/
theorem indexClash_spec {s : Value} {ls : List Ln} {x : Ln} {b off : Nat} (hs : Sl RLn 5 H s ls) (hl : ls.length < 1000000) (hb : b < H.length) (h0 : rdBlk H b off 1 = some [.int .i64 x.a]) (h1 : rdBlk H b (off + 1) 1 = some [.int .i64 x.b])
    (hk : ∀ (r : Int) X, ((∃ y ∈ ls, clash x y) → 0 ≤ r) → ((¬ ∃ y ∈ ls, clash x y) → r = -1) → K (.int .i64 r) (H ++ X)) : Wcall Try.prog 133 #[s, .func (.func 108) #[] #[.pointer (some ⟨b, off, none⟩)]] H K := by
  obtain ⟨a, c, rfl⟩ := hs.shape
  refine call_body (rs := #[.tmp 4]) Try.func133 rfl Try.ntmps133 rfl rfl (by simp) ?_
  simp [go_sem]
  refine Wc.loopw 19 (fun i : Nat × Heap => [(0, .slice a ls.length c), (1, .func (.func 108) #[] #[.pointer (some ⟨b, off, none⟩)]), (7, .int .i64 ls.length), (8, .int .i64 i.1)]) (fun i => H ++ i.2) (fun i => i.1 ≤ ls.length ∧ ∀ j (h : j < ls.length), j < i.1 → ¬ clash x ls[j]) (fun i => ls.length - i.1) (0, []) ⟨Nat.zero_le _, fun _ _ h => absurd h (by omega)⟩ (by simp [go_sem]) (by simp) (by simp [go_sem]) ?_
  rintro ⟨i, X⟩ ⟨hi, hno⟩
  simp only at hi hno
  simp [go_sem]
  refine Br.forkD (fun h => ?_) (fun h => ?_)
  · obtain ⟨b', off', cells, rfl, hb', _, hr, rfl⟩ := (hs.mono RLn.mono X).get h
    simp only [rdBlk_app _ _ _ _ _ (show b' < H.length from by obtain ⟨_, _, _, e, h, _⟩ := hs.get h; cases e; exact h)] at hr
    have hb2 : b' < H.length := by obtain ⟨_, _, _, e, h, _⟩ := hs.get h; cases e; exact h
    simp [go_sem, hr, h, hb2]
    refine clash_spec (x := x) (y := ls[i]) (by simp; omega) (by rw [rdBlk_app _ _ _ _ _ hb]; exact h0) (by rw [rdBlk_app _ _ _ _ _ hb]; exact h1) fun l => ?_
    simp [go_sem]
    refine Br.forkD (fun h2 => ?_) (fun h2 => ?_)
    · simp [go_sem, newBlk_app]
      exact hk _ _ (fun _ => by omega) (fun h3 => absurd ⟨_, List.getElem_mem h, h2⟩ h3)
    · simp [go_sem]
      refine loopK_next (i + 1, newBlk X l) ⟨by simp only; omega, fun j hj hji => ?_⟩ (by simp only; omega) (by simp [newBlk_app]) (by simp [go_sem]) (by simp [go_sem, wrap_succ (i := i) (by omega)])
      by_cases he : j = i
      · subst he; exact h2
      · exact hno j hj (by simp only at hji; omega)
  · simp [go_sem]
    have : ¬ ∃ y ∈ ls, clash x y := by
      rintro ⟨y, hm, hc⟩
      obtain ⟨j, hj, rfl⟩ := List.getElem_of_mem hm
      exact hno j hj (by omega) hc
    exact hk _ _ (fun h => absurd h this) (fun _ => rfl)

theorem containsClash_spec {s : Value} {ls : List Ln} {x : Ln} {b off : Nat} (hs : Sl RLn 5 H s ls) (hl : ls.length < 1000000) (hb : b < H.length) (h0 : rdBlk H b off 1 = some [.int .i64 x.a]) (h1 : rdBlk H b (off + 1) 1 = some [.int .i64 x.b])
    (hk : ∀ X, K (.bool (decide (∃ y ∈ ls, clash x y))) (H ++ X)) : Wcall Try.prog 107 #[s, .func (.func 108) #[] #[.pointer (some ⟨b, off, none⟩)]] H K := by
  refine call_body (rs := #[.tmp 4]) Try.func107 rfl Try.ntmps107 rfl rfl (by simp) ?_
  simp [go_sem]
  refine indexClash_spec hs hl hb h0 h1 fun r X h1 h2 => ?_
  simp [go_sem]
  refine KB (hk X) ?_
  by_cases hc : ∃ y ∈ ls, clash x y
  · have := h1 hc; simp [hc, this]
  · have := h2 hc; simp [hc, this]
end Go.Proofs.Ythifgakeababmaa.Ba
