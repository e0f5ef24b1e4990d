/- Small functions: what they return. -/
import Derived.Test.YthifgakeababmaaAm15
import Derived.Test.YthifgakeababmaaFxBest
set_option linter.unusedVariables false
set_option linter.unusedSimpArgs false
set_option maxRecDepth 10000
namespace Go.Proofs.Ythifgakeababmaa.Ba
open Go Go.Am
open Go.Proofs.Ythifgakeababmaa.Fx
variable {H : Heap} {K : Value → Heap → Prop}

theorem wrap_small {x : Int} (h : -9223372036854775808 ≤ x) (h' : x ≤ 9223372036854775807) : IntKind.i64.wrap x = x := by
  simp [IntKind.wrap, IntKind.signed, IntKind.bits]
  omega

theorem usual_spec (k : Int) (h0 : -1000 ≤ k) (h1 : k ≤ 1000) (hk : K (.int .i64 (400 - 100 * k)) H) : Wcall Try.prog 120 #[.int .i64 k] H K := by
  refine call_body (rs := #[.tmp 2]) Try.func120 rfl Try.ntmps120 rfl rfl (by simp) ?_
  simp [go_sem]
  rw [wrap_small (x := 100 * k) (by omega) (by omega), wrap_small (by omega) (by omega)]
  exact hk

theorem wrap_succ {i : Nat} (h : i < 9223372036854775807) : IntKind.i64.wrap ((i : Int) + 1) = ((i + 1 : Nat) : Int) := by
  rw [wrap_small] <;> omega

/-- Whether a number is in a list: 'has'. -/
theorem has_spec {s : Value} {xs : List Int} (hs : Sl RInt 1 H s xs) (hl : xs.length < 9223372036854775808) (n : Int) (hk : K (.bool (xs.contains n)) H) : Wcall Try.prog 91 #[s, .int .i64 n] H K := by
  obtain ⟨a, c, rfl⟩ := hs.shape
  refine call_body (rs := #[.tmp 4]) Try.func91 rfl Try.ntmps91 rfl rfl (by simp) ?_
  simp [go_sem]
  refine Wc.loopw 17 (fun i : Nat => [(7, .slice a xs.length c), (8, .int .i64 xs.length), (9, .int .i64 i), (1, .int .i64 n)]) (fun _ => H) (fun i => i ≤ xs.length ∧ ∀ j (h : j < xs.length), j < i → xs[j] ≠ n) (fun i => xs.length - i) 0 ⟨Nat.zero_le _, fun _ _ h => absurd h (by omega)⟩ (by simp [go_sem]) rfl (by simp [go_sem]) ?_
  rintro i ⟨hi, hno⟩
  simp [go_sem]
  refine Br.forkD (fun h => ?_) (fun h => ?_)
  · obtain ⟨b, off, cells, rfl, hb, _, hr, rfl⟩ := hs.get h
    simp at hr
    simp [go_sem, hr, h]
    refine Br.forkD (fun h2 => ?_) (fun h2 => ?_)
    · simp [go_sem]
      have : xs.contains n = true := by simp; rw [← h2]; exact List.getElem_mem h
      rw [← this]; exact hk
    · simp [go_sem]
      refine loopK_next (i + 1) ⟨by omega, fun j hj hji => ?_⟩ (by omega) rfl (by simp [go_sem]) (by simp [go_sem, wrap_succ (i := i) (by omega)])
      by_cases he : j = i
      · subst he; exact h2
      · exact hno j hj (by omega)
  · simp [go_sem]
    have : xs.contains n = false := by
      simp
      intro hm
      obtain ⟨j, hj, e⟩ := List.getElem_of_mem hm
      exact hno j hj (by omega) e
    rw [← this]; exact hk

/-- The first place of a number, or -1: 'slices.Index'; 'slices.Contains'. -/
theorem index_spec {s : Value} {xs : List Int} (hs : Sl RInt 1 H s xs) (hl : xs.length < 9223372036854775808) (n : Int) (hk : ∀ r : Int, (xs.contains n = true → 0 ≤ r) → (xs.contains n = false → r = -1) → K (.int .i64 r) H) : Wcall Try.prog 130 #[s, .int .i64 n] H K := by
  obtain ⟨a, c, rfl⟩ := hs.shape
  refine call_body (rs := #[.tmp 4]) Try.func130 rfl Try.ntmps130 rfl rfl (by simp) ?_
  simp [go_sem]
  refine Wc.loopw 19 (fun i : Nat => [(0, .slice a xs.length c), (7, .int .i64 xs.length), (8, .int .i64 i), (1, .int .i64 n)]) (fun _ => H) (fun i => i ≤ xs.length ∧ ∀ j (h : j < xs.length), j < i → xs[j] ≠ n) (fun i => xs.length - i) 0 ⟨Nat.zero_le _, fun _ _ h => absurd h (by omega)⟩ (by simp [go_sem]) rfl (by simp [go_sem]) ?_
  rintro i ⟨hi, hno⟩
  simp [go_sem]
  refine Br.forkD (fun h => ?_) (fun h => ?_)
  · obtain ⟨b, off, cells, rfl, hb, _, hr, rfl⟩ := hs.get h
    simp at hr
    simp [go_sem, hr, h]
    refine Br.forkD (fun h2 => ?_) (fun h2 => ?_)
    · simp [go_sem]
      have : xs.contains n = true := by simp; rw [h2]; exact List.getElem_mem h
      exact hk _ (fun _ => by omega) (fun h => by rw [this] at h; cases h)
    · simp [go_sem]
      refine loopK_next (i + 1) ⟨by omega, fun j hj hji => ?_⟩ (by omega) rfl (by simp [go_sem]) (by simp [go_sem, wrap_succ (i := i) (by omega)])
      by_cases he : j = i
      · subst he; exact fun e => h2 e.symm
      · exact hno j hj (by omega)
  · simp [go_sem]
    have : xs.contains n = false := by
      simp
      intro hm
      obtain ⟨j, hj, e⟩ := List.getElem_of_mem hm
      exact hno j hj (by omega) e
    exact hk _ (fun h => by rw [this] at h; cases h) (fun _ => rfl)

theorem contains_spec {s : Value} {xs : List Int} (hs : Sl RInt 1 H s xs) (hl : xs.length < 9223372036854775808) (n : Int) (hk : K (.bool (xs.contains n)) H) : Wcall Try.prog 103 #[s, .int .i64 n] H K := by
  refine call_body (rs := #[.tmp 4]) Try.func103 rfl Try.ntmps103 rfl rfl (by simp) ?_
  simp [go_sem]
  refine index_spec hs hl n fun r h1 h2 => ?_
  simp [go_sem]
  have : decide (0 ≤ r) = xs.contains n := by
    cases hc : xs.contains n with
    | true => simp [h1 hc]
    | false => simp [h2 hc]
  rw [this]; exact hk

def orOf (x y : Int) : Int := if x ≠ 0 then x else y

/-- The first number that is not 0, of two. -/
theorem or_spec {s : Value} {x y : Int} (hs : Sl RInt 1 H s [x, y]) (hk : K (.int .i64 (orOf x y)) H) : Wcall Try.prog 119 #[s] H K := by
  unfold orOf at hk
  obtain ⟨a, c, rfl⟩ := hs.shape
  refine call_body (rs := #[.tmp 2]) Try.func119 rfl Try.ntmps119 rfl rfl (by simp) ?_
  simp [go_sem]
  refine Wc.loopw 18 (fun i : Nat => [(2, .int .i64 0), (3, .int .i64 0), (6, .slice a 2 c), (7, .int .i64 2), (8, .int .i64 i)]) (fun _ => H) (fun i => i ≤ 2 ∧ (1 ≤ i → x = 0) ∧ (2 ≤ i → y = 0)) (fun i => 2 - i) 0 ⟨by omega, fun h => absurd h (by omega), fun h => absurd h (by omega)⟩ (by simp [go_sem]) rfl (by simp [go_sem]) ?_
  rintro i ⟨hi, h1, h2⟩
  simp [go_sem]
  refine Br.forkD (fun h => ?_) (fun h => ?_)
  · have hi2 : i < 2 := by omega
    obtain ⟨b, off, cells, rfl, hb, _, hr, rfl⟩ := hs.get (i := i) (by simpa using hi2)
    simp at hr
    simp [go_sem, hr, h, hi2]
    refine Br.forkN (fun h3 => ?_) (fun h3 => ?_)
    · simp [go_sem]
      have : (if x ≠ 0 then x else y) = [x, y][i] := by
        match i, hi2 with
        | 0, _ => simp at h3; simp [h3]
        | 1, _ => have := h1 (by omega); simp [this]
      rw [this] at hk
      exact hk
    · simp [go_sem]
      refine loopK_next (i + 1) ⟨by omega, fun _ => ?_, fun _ => ?_⟩ (by omega) rfl (by simp [go_sem]) (by simp [go_sem, wrap_succ (i := i) (by omega)])
      · match i, hi2 with
        | 0, _ => simpa using h3
        | 1, _ => exact h1 (by omega)
      · match i, hi2 with
        | 0, _ => omega
        | 1, _ => simpa using h3
  · simp [go_sem]
    have e1 := h1 (by omega)
    have e2 := h2 (by omega)
    subst e1; subst e2
    simpa using hk

/-- Whether two lists of numbers are equal: 'SameInts'. -/
theorem sameInts_spec {s t : Value} {xs ys : List Int} (hs : Sl RInt 1 H s xs) (ht : Sl RInt 1 H t ys) (hl : xs.length < 1000000) (hl2 : ys.length < 1000000) (hk : K (.bool (decide (xs = ys))) H) : Wcall Try.prog 68 #[s, t] H K := by
  obtain ⟨a, c, rfl⟩ := hs.shape
  obtain ⟨a', c', rfl⟩ := ht.shape
  refine call_body (rs := #[.tmp 4]) Try.func68 rfl Try.ntmps68 rfl rfl (by simp) ?_
  simp [go_sem]
  refine Br.forkN (fun h => ?_) (fun h => ?_)
  · simp [go_sem]
    have : decide (xs = ys) = false := by simp; intro e; rw [e] at h; exact h rfl
    rw [← this]; exact hk
  simp [go_sem]
  refine Wc.loopw 26 (fun i : Nat => [(1, .slice a' ys.length c'), (12, .slice a xs.length c), (13, .int .i64 xs.length), (14, .int .i64 i)]) (fun _ => H) (fun i => i ≤ xs.length ∧ ∀ j (h : j < xs.length) (h' : j < ys.length), j < i → xs[j] = ys[j]) (fun i => xs.length - i) 0 ⟨Nat.zero_le _, fun _ _ _ h => absurd h (by omega)⟩ (by simp [go_sem]) rfl (by simp [go_sem]) ?_
  rintro i ⟨hi, hno⟩
  simp [go_sem]
  refine Br.forkD (fun h3 => ?_) (fun h3 => ?_)
  · have h4 : i < ys.length := by omega
    obtain ⟨b, off, cells, rfl, hb, _, hr, rfl⟩ := hs.get h3
    obtain ⟨b', off', cells', rfl, hb', _, hr', rfl⟩ := ht.get h4
    simp at hr hr'
    simp [go_sem, hr, hr', h3, h4]
    refine Br.forkN (fun h2 => ?_) (fun h2 => ?_)
    · simp [go_sem]
      have : decide (xs = ys) = false := by simp; intro e; subst e; exact h2 rfl
      rw [← this]; exact hk
    · simp [go_sem]
      refine loopK_next (i + 1) ⟨by omega, fun j hj hj' hji => ?_⟩ (by omega) rfl (by simp [go_sem]) (by simp [go_sem, wrap_succ (i := i) (by omega)])
      by_cases he : j = i
      · subst he; exact h2
      · exact hno j hj hj' (by omega)
  · simp [go_sem]
    have : decide (xs = ys) = true := by
      simp
      exact List.ext_getElem (by omega) fun j hj hj' => hno j hj hj' (by omega)
    rw [← this]; exact hk
end Go.Proofs.Ythifgakeababmaa.Ba
