/- Small functions: what they return. -/
import Derived.Test.YtlljiccilldnaaaAm20
import Derived.Test.YtlljiccilldnaaaFxFlood
set_option linter.unusedVariables false
set_option linter.unusedSimpArgs false
set_option maxRecDepth 10000
namespace Go.Proofs.Ytlljiccilldnaaa.Ba
open Go Go.Am
open Go.Proofs.Ytlljiccilldnaaa.Fx
variable {H : Heap} {K : Value → Heap → Prop}

theorem wrap_small {x : Int} (h : -9223372036854775808 ≤ x) (h' : x ≤ 9223372036854775807) : IntKind.i64.wrap x = x := by
  simp [IntKind.wrap, IntKind.signed, IntKind.bits]
  omega

theorem wrap_succ {i : Nat} (h : i < 9223372036854775807) : IntKind.i64.wrap ((i : Int) + 1) = ((i + 1 : Nat) : Int) := by
  rw [wrap_small] <;> omega

/-- Whether two lists of numbers are equal: 'SameInts'. -/
theorem sameInts_spec {s t : Value} {xs ys : List Int} (hs : Sl RInt 1 H s xs) (ht : Sl RInt 1 H t ys) (hl : xs.length < 1000000) (hl2 : ys.length < 1000000) (hk : K (.bool (decide (xs = ys))) H) : Wcall Try.prog 32 #[s, t] H K := by
  obtain ⟨a, c, rfl⟩ := hs.shape
  obtain ⟨a', c', rfl⟩ := ht.shape
  refine call_body (rs := #[.tmp 4]) Try.func32 rfl Try.ntmps32 rfl rfl (by simp) ?_
  simp [go_sem]
  refine Br.forkN (fun h => ?_) (fun h => ?_)
  · simp [go_sem]
    have : decide (xs = ys) = false := by simp; intro e; rw [e] at h; exact h rfl
    rw [← this]; exact hk
  simp [go_sem]
  refine Wc.loopw 26 (fun i : Nat => [(1, .slice a' ys.length c'), (12, .slice a xs.length c), (13, .int .i64 xs.length), (14, .int .i64 i)]) (fun _ => H) (fun i => i ≤ xs.length ∧ ∀ j (h : j < xs.length) (h' : j < ys.length), j < i → xs[j] = ys[j]) (fun i => xs.length - i) 0 ⟨Nat.zero_le _, fun _ _ _ h => absurd h (by omega)⟩ (by simp [go_sem]) rfl (by simp [go_sem]) ?_
  rintro i ⟨hi, hno⟩
  simp [go_sem]
  refine Br.forkD (fun h3 => ?_) (fun h3 => ?_)
  · have h4 : i < ys.length := by omega
    obtain ⟨b, off, cells, rfl, hb, _, hr, rfl⟩ := hs.get h3
    obtain ⟨b', off', cells', rfl, hb', _, hr', rfl⟩ := ht.get h4
    simp at hr hr'
    simp [go_sem, hr, hr', h3, h4]
    refine Br.forkN (fun h2 => ?_) (fun h2 => ?_)
    · simp [go_sem]
      have : decide (xs = ys) = false := by simp; intro e; subst e; exact h2 rfl
      rw [← this]; exact hk
    · simp [go_sem]
      refine loopK_next (i + 1) ⟨by omega, fun j hj hj' hji => ?_⟩ (by omega) rfl (by simp [go_sem]) (by simp [go_sem, wrap_succ (i := i) (by omega)])
      by_cases he : j = i
      · subst he; exact h2
      · exact hno j hj hj' (by omega)
  · simp [go_sem]
    have : decide (xs = ys) = true := by
      simp
      exact List.ext_getElem (by omega) fun j hj hj' => hno j hj hj' (by omega)
    rw [← this]; exact hk
end Go.Proofs.Ytlljiccilldnaaa.Ba
