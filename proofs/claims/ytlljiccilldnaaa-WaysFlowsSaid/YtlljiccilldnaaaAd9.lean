/- Tick of a database. -/
import Derived.Test.YtlljiccilldnaaaAd8
set_option linter.unusedVariables false
set_option linter.unusedSimpArgs false
set_option maxRecDepth 10000
namespace Go.Proofs.Ytlljiccilldnaaa.Ad
open Go Go.Am
open Go.Proofs.Ytlljiccilldnaaa.Fx
open Go.Proofs.Ytlljiccilldnaaa.Ba (wrap_small wrap_succ sameInts_spec)
variable {H : Heap} {K : Value → Heap → Prop}

theorem hide_le_of {A S : Nat → Bool} {H H' : Heap} (h : Le (hide A H) H') (hA : ∀ i, A i = true → S i = true) : Le (hide S H) (hide S H') :=
  hide_le_hide (by simpa [hide_len] using h.1) fun b k hk => by
    obtain ⟨k', e, q⟩ := h.2 b _ (by rw [hide_get, hk]; rfl)
    refine ⟨k', e, ?_⟩
    cases hS : S b with
    | false =>
      have : A b = false := by
        cases hq : A b
        · rfl
        · rw [hA b hq] at hS; cases hS
      simp only [this, Bool.false_eq_true, if_false] at q
      exact .inr ⟨rfl, q⟩
    | true =>
      refine .inl ⟨rfl, ?_⟩
      cases hq : A b with
      | false =>
        simp only [hq, Bool.false_eq_true, if_false] at q
        rcases q with rfl | ⟨_, q1, q2⟩
        · exact ⟨rfl, rfl⟩
        · exact ⟨q1, q2⟩
      | true =>
        simp only [hq, if_true] at q
        rcases q with rfl | ⟨_, q1, q2⟩
        · exact ⟨rfl, rfl⟩
        · exact ⟨q1, q2⟩
theorem BaseAt.keep {S : Nat → Bool} {b : Nat} {ad : Nat → Adv} {has : Nat → Bool} (h : BaseAt S H b ad has) {H' : Heap} (hb : H'[b]? = H[b]?) (hl : Le (hide S H) (hide S H')) : BaseAt S H' b ad has := by
  obtain ⟨cells, h1, h2, h3⟩ := h.ex
  exact ⟨cells, hb.trans h1, h2, fun i hi => ⟨RAdv.monoL _ _ _ _ hl (h3 i hi).1, (h3 i hi).2⟩⟩

def tick1 (n : Int) (a : Adv) : Option Adv := if a.age + n ≥ 3600 then none else some { a with age := a.age + n }
def tickSt (n : Int) (st : Nat → Option Adv) : Nat → Option Adv := fun i => (st i).bind (tick1 n)
def tickUp (n : Int) (st : Nat → Option Adv) (i : Nat) : Nat → Option Adv := fun j => if j < i then tickSt n st j else st j
theorem tickUp_zero {n : Int} {st : Nat → Option Adv} : tickUp n st 0 = st := by funext j; simp [tickUp]
theorem tickUp_self {n : Int} {st : Nat → Option Adv} {i : Nat} : tickUp n st i i = st i := by simp [tickUp]
theorem tickUp_succ {n : Int} {st : Nat → Option Adv} {i : Nat} : tickUp n st (i + 1) = upd (tickUp n st i) i (tickSt n st i) := by
  funext j
  unfold tickUp upd
  by_cases h : j = i
  · subst h; simp
  · rw [if_neg h]
    by_cases h2 : j < i
    · rw [if_pos (by omega)]; exact (if_pos h2).symm
    · rw [if_neg (by omega)]; exact (if_neg h2).symm
def goneAt (n : Int) (st : Nat → Option Adv) (i : Nat) : Option Int := match st i with
  | some a => if a.age + n ≥ 3600 then some (i : Int) else none
  | none => none
def goneL (n : Int) (st : Nat → Option Adv) (k : Nat) : List Int := (List.range k).filterMap (goneAt n st)
theorem goneL_succ {n : Int} {st : Nat → Option Adv} {i : Nat} : goneL n st (i + 1) = goneL n st i ++ (goneAt n st i).toList := by
  unfold goneL
  rw [List.range_succ, List.filterMap_append]
  cases h : goneAt n st i <;> simp [h]
theorem goneL_len (n : Int) (st : Nat → Option Adv) (k : Nat) : (goneL n st k).length ≤ k := by
  unfold goneL
  have := List.length_filterMap_le (goneAt n st) (List.range k)
  simpa using this
theorem tickSt_none {n : Int} {st : Nat → Option Adv} {i : Nat} (h : st i = none) : tickSt n st i = none := by unfold tickSt; rw [h]; rfl
theorem upd_id {α : Type} {f : Nat → α} {i : Nat} {x : α} (h : f i = x) : upd f i x = f := by
  funext j; unfold upd; split
  · rename_i e; rw [e, h]
  · rfl

end Go.Proofs.Ytlljiccilldnaaa.Ad
