/- DampSays returns true for every plan, state and time, and its arguments read as before. -/
import Derived.Test.YthifgakeababmaaRows
import Derived.Test.YthifgakeababmaaPDampSaysx6
import Derived.Test.YthifgakeababmaaPureDampSays
import Derived.Test.YthifgakeababmaaOpen
import Derived.WalkKit
import Derived.ProofKit
import Derived.OpenShut
import Derived.ShutString
import Derived.ChangeOld
import Derived.Below
import Derived.SizedLaws
namespace Go.Proofs.Ythifgakeababmaa.dampSays
open Go.ChangeShapes Go.WideShapes Go.ChangeAt Go.RowKit Go.Proofs.YthifgakeababmaaW.PrintWords Go.Proofs.Ythifgakeababmaa.Open
open Go.ChangeMaps (open_string shut_string)
theorem own : ownKnob Try.prog.godebug = none := by kernel_rfl
theorem laidOut : laidOutB Try.prog = true := by kernel_rfl
/-- The kinds of the parameters: a plan, a state. -/
abbrev kPlan := Kd.pair (Kd.int .i64) (Kd.pair (Kd.int .i64) (Kd.pair (Kd.int .i64) (Kd.pair (Kd.int .i64) (Kd.int .i64))))
abbrev kDamp := Kd.pair (Kd.int .i64) (Kd.pair (Kd.int .i64) Kd.bool)
abbrev gInt : Int → Prop := fun x => (Lit.int .i64 x).wf = true
theorem oInt : Opens Try.prog 3 (Kd.int .i64) gInt := opens_int Try.underlying3
theorem oBool : Opens Try.prog 4 Kd.bool (fun _ => True) := opens_bool Try.underlying4
theorem oPlan : ∃ g, Opens Try.prog 23 kPlan g := ⟨_, opens_pairs Try.underlying23 (by kernel_rfl) (opensF_cons rfl (by kernel_rfl) oInt (opensF_cons rfl (by kernel_rfl) oInt (opensF_cons rfl (by kernel_rfl) oInt (opensF_cons rfl (by kernel_rfl) oInt (opensF_one rfl (by kernel_rfl) oInt)))))⟩
theorem oDamp : ∃ g, Opens Try.prog 25 kDamp g := ⟨_, opens_pairs Try.underlying25 (by kernel_rfl) (opensF_cons rfl (by kernel_rfl) oInt (opensF_cons rfl (by kernel_rfl) oInt (opensF_one rfl (by kernel_rfl) oBool)))⟩
set_option maxRecDepth 100000 in
theorem lifted (os : Os) (started : os.Started) (H : Type) (enc : TypeId × Value → H) :
    ReturnsInHanded {} Try.checked os 3 .any (Rows.dampSaysSpec.pre6 enc Try.prog Try.f3 Rows.dampSaysRow.domain false) (Rows.dampSaysSpec.post enc Try.prog Try.f3 false true false false) := by
  refine returnsInHanded_of_change_sized (C := Try.checked) own started (by kernel_rfl) Try.func3
    (ChangeSpec.witness6 (enc := enc) (C := Try.checked) false ⟨#[], #[.agg #[.int .i64 0, .int .i64 0, .int .i64 0, .int .i64 0, .int .i64 0], .agg #[.int .i64 0, .int .i64 0, .bool false], .int .i64 0], []⟩ 8 (by kernel_rfl) (by kernel_rfl) (by kernel_rfl) (by kernel_rfl)) ?_
  intro W base args ds gs before hval0 hW hcnd hsz0 _
  have hval : ∀ (j : Nat) t v, Try.f3.params[j]? = some t → args[j]? = some v → Value.okWide Try.prog W .any base t v := hval0
  have hW' := hW
  obtain ⟨p, q, hA0, hV, rfl, hfz, hnd⟩ := hW
  have hA : DataW.TrodAll enc Try.prog W 0 (fun _ => true) true Try.f3.params.toList args.toList ds p := hA0
  rw [Try.params3] at hA hval
  obtain ⟨v0, vs0, d0, ds0, p0, q0, hargs, rfl, rfl, h0, r0⟩ := trodAll_cons hA
  obtain ⟨v1, vs1, d1, ds1, p1, q1, rfl, rfl, rfl, h1, r1⟩ := trodAll_cons r0
  obtain ⟨v2, vs2, d2, ds2, p2, q2, rfl, rfl, rfl, h2, r2⟩ := trodAll_cons r1
  obtain ⟨rfl, rfl, rfl⟩ := trodAll_nil r2
  obtain rfl : args = #[v0, v1, v2] := by cases args; simp_all
  obtain ⟨rfl, rfl⟩ := trodVars_none hV
  have lt0 : ∀ x ∈ p0, x.block < W.heap.size := by obtain ⟨m, hm⟩ := h0; exact DataW.trod_lt m _ _ _ hm
  have lt1 : ∀ x ∈ p1, x.block < W.heap.size := by obtain ⟨m, hm⟩ := h1; exact DataW.trod_lt m _ _ _ hm
  have lt2 : ∀ x ∈ p2, x.block < W.heap.size := by obtain ⟨m, hm⟩ := h2; exact DataW.trod_lt m _ _ _ hm
  obtain ⟨gp, oP⟩ := oPlan
  obtain ⟨gd, oD⟩ := oDamp
  obtain ⟨x0, cs0, rfl, ⟨_, _, rfl, rfl, _, _, rfl, rfl, _, _, rfl, rfl, _, _, rfl, rfl, rfl⟩, g0⟩ := arg_struct Try.underlying23 oP (hval 0 23 v0 rfl rfl) h0
  obtain ⟨x1, cs1, rfl, ⟨_, _, rfl, rfl, _, _, rfl, rfl, rfl⟩, g1⟩ := arg_struct Try.underlying25 oD (hval 1 25 v1 rfl rfl) h1
  obtain ⟨a2, e2, _, _, w2⟩ := open_int Try.underlying3 (hval 2 3 v2 rfl rfl) h2
  subst e2
  clear hA0 hval0 hsz0
  obtain ⟨k, hk⟩ := PureDamp.DampSays x0.1 x0.2.1 x0.2.2.1 x0.2.2.2.1 x0.2.2.2.2 x1.1 x1.2.1 x1.2.2 a2
  refine (PDampSays.patchbaylaw2_DampSays.calls k _ _ _ _ _ _ _ _ _ _ W hk).mono fun e W' ⟨he, bel⟩ => ?_
  subst he
  exact ⟨_, rfl, _, _, _, [], _, [], hW', trodAll_mk1 (shut_bool Try.underlying4 _), (trodAll_cons_mk (Below.trod laidOut (by kernel_rfl) (of_decide_eq_true (by kernel_rfl)) h0 bel lt0) (trodAll_cons_mk (Below.trod laidOut (by kernel_rfl) (of_decide_eq_true (by kernel_rfl)) h1 bel lt1) (trodAll_cons_mk (Below.trod laidOut (by kernel_rfl) (of_decide_eq_true (by kernel_rfl)) h2 bel lt2) trodAll_mk0))), rfl, bel.frame _, fun h => by cases h⟩
theorem over : Rows.dampSaysRow.holds Try.pinned (OpenSpec.ofChange Rows.dampSaysSpec) :=
  OpenClaim.holds_of_wide 3 Try.f3 rfl rfl rfl rfl rfl rfl rfl ⟨rfl, rfl, rfl, rfl, rfl⟩ rfl rfl rfl rfl rfl (by kernel_rfl) Try.func3 (by kernel_rfl)
    (of_decide_eq_true (by kernel_rfl)) (by unfold Func.isWrapper; first | (rw [if_pos (by decide +kernel)]; kernel_rfl) | (rw [if_neg (by decide +kernel)]; exact ⟨rfl, rfl⟩))
    (fun os started H enc _ => lifted os started H enc)
theorem proved : Rows.DampSaysSaid := over
#print axioms proved
end Go.Proofs.Ythifgakeababmaa.dampSays
namespace Go.Proofs.Ythifgakeababmaa
theorem dampSays_holds : Rows.DampSaysSaid := dampSays.proved
end Go.Proofs.Ythifgakeababmaa
