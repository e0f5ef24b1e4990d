/- PathEncodes returns true for every route, domain and number of times, and its arguments read as before. -/
import Derived.Test.YthifgakeababmaaRows
import Derived.Test.YthifgakeababmaaPrLawPathEnc
import Derived.Test.YthifgakeababmaaPuPathEnc
import Derived.Test.YthifgakeababmaaOpen
import Derived.WalkKit
import Derived.ProofKit
import Derived.OpenShut
import Derived.ShutString
import Derived.ChangeOld
import Derived.Below
import Derived.SizedLaws
namespace Go.Proofs.Ythifgakeababmaa.pathEncodes
open Go.ChangeShapes Go.WideShapes Go.ChangeAt Go.RowKit Go.Proofs.YthifgakeababmaaW.PrintWords Go.Proofs.Ythifgakeababmaa.Open
open Go.ChangeMaps (open_string shut_string)
theorem own : ownKnob Try.prog.godebug = none := by kernel_rfl
theorem laidOut : laidOutB Try.prog = true := by kernel_rfl
/-- The kind of the parameter: a route. -/
abbrev kPfx := Kd.pair (Kd.int .u32) (Kd.int .i64)
abbrev kInts := Kd.slice 3 (Kd.int .i64)
abbrev kRoute := Kd.pair kPfx (Kd.pair kInts (Kd.pair (Kd.int .i64) (Kd.pair (Kd.int .i64) kInts)))
theorem oInt : Opens Try.prog 3 (Kd.int .i64) (fun x => (Lit.int .i64 x).wf = true) := opens_int Try.underlying3
theorem oU32 : Opens Try.prog 46 (Kd.int .u32) (fun x => (Lit.int .u32 x).wf = true) := opens_int Try.underlying46
theorem oPfx : Opens Try.prog 48 kPfx (fun x => (Lit.int .u32 x.1).wf = true ∧ (Lit.int .i64 x.2).wf = true) := opens_pairs Try.underlying48 (by kernel_rfl) (opensF_cons rfl (by kernel_rfl) oU32 (opensF_one rfl (by kernel_rfl) oInt))
theorem oInts : Opens Try.prog 49 kInts (fun xs => xs.length ≤ maxLen ∧ ∀ x ∈ xs, (Lit.int .i64 x).wf = true) := opens_slice Try.underlying49 (by kernel_rfl) oInt
abbrev gInt : Int → Prop := fun x => (Lit.int .i64 x).wf = true
abbrev gInts : List Int → Prop := fun xs => xs.length ≤ maxLen ∧ ∀ x ∈ xs, (Lit.int .i64 x).wf = true
theorem oRoute : Opens Try.prog 51 kRoute (fun x => ((Lit.int .u32 x.1.1).wf = true ∧ (Lit.int .i64 x.1.2).wf = true) ∧ gInts x.2.1 ∧ gInt x.2.2.1 ∧ gInt x.2.2.2.1 ∧ gInts x.2.2.2.2) :=
  opens_pairs Try.underlying51 (by kernel_rfl) (opensF_cons rfl (by kernel_rfl) oPfx (opensF_cons rfl (by kernel_rfl) oInts (opensF_cons rfl (by kernel_rfl) oInt (opensF_cons rfl (by kernel_rfl) oInt (opensF_one rfl (by kernel_rfl) oInts)))))
set_option maxRecDepth 100000 in
theorem lifted (os : Os) (started : os.Started) (H : Type) (enc : TypeId × Value → H) :
    ReturnsInHanded {} Try.checked os 8 .any (Rows.pathEncodesSpec.pre6 enc Try.prog Try.f8 Rows.pathEncodesRow.domain false) (Rows.pathEncodesSpec.post enc Try.prog Try.f8 false true false false) := by
  refine returnsInHanded_of_change_sized (C := Try.checked) own started (by kernel_rfl) Try.func8
    (ChangeSpec.witness6 (enc := enc) (C := Try.checked) false ⟨#[], #[.agg #[.int .u32 0, .int .i64 0, .slice none 0 0, .int .i64 0, .int .i64 0, .slice none 0 0], .int .i64 0, .int .i64 0], []⟩ 8 (by kernel_rfl) (by kernel_rfl) (by kernel_rfl) (by kernel_rfl)) ?_
  intro W base args ds gs before hval0 hW hcnd hsz0 _
  have hval : ∀ (j : Nat) t v, Try.f8.params[j]? = some t → args[j]? = some v → Value.okWide Try.prog W .any base t v := hval0
  have hW' := hW
  obtain ⟨p, q, hA0, hV, rfl, hfz, hnd⟩ := hW
  have hA : DataW.TrodAll enc Try.prog W 0 (fun _ => true) true Try.f8.params.toList args.toList ds p := hA0
  rw [Try.params8] at hA hval
  obtain ⟨v0, vs0, d0, ds0, p0, q0, hargs, rfl, rfl, h0, r0⟩ := trodAll_cons hA
  obtain ⟨v1, vs1, d1, ds1, p1, q1, rfl, rfl, rfl, h1, r1⟩ := trodAll_cons r0
  obtain ⟨v2, vs2, d2, ds2, p2, q2, rfl, rfl, rfl, h2, r2⟩ := trodAll_cons r1
  obtain ⟨rfl, rfl, rfl⟩ := trodAll_nil r2
  obtain rfl : args = #[v0, v1, v2] := by cases args; simp_all
  obtain ⟨rfl, rfl⟩ := trodVars_none hV
  have lt0 : ∀ x ∈ p0, x.block < W.heap.size := by obtain ⟨m, hm⟩ := h0; exact DataW.trod_lt m _ _ _ hm
  have lt1 : ∀ x ∈ p1, x.block < W.heap.size := by obtain ⟨m, hm⟩ := h1; exact DataW.trod_lt m _ _ _ hm
  have lt2 : ∀ x ∈ p2, x.block < W.heap.size := by obtain ⟨m, hm⟩ := h2; exact DataW.trod_lt m _ _ _ hm
  obtain ⟨x0, cs0, rfl, hK, g0⟩ := arg_struct Try.underlying51 oRoute (hval 0 51 v0 rfl rfl) h0
  obtain ⟨c1, c2, rfl, ⟨_, _, rfl, rfl, rfl⟩, _, _, rfl, ⟨A1, k1, rfl, hl1, hC1⟩, _, _, rfl, rfl, _, _, rfl, rfl, ⟨A2, k2, rfl, hl2, hC2⟩⟩ := hK
  obtain ⟨a1, e1, _, _, w1⟩ := open_int Try.underlying3 (hval 1 3 v1 rfl rfl) h1
  subst e1
  obtain ⟨a2, e2, _, _, w2⟩ := open_int Try.underlying3 (hval 2 3 v2 rfl rfl) h2
  subst e2
  clear hA0 hval0 hsz0
  have hu := bounds_u32 g0.1.1
  obtain ⟨k, hk⟩ := PuE.path_encodes x0.1.1 x0.1.2 x0.2.1 x0.2.2.1 x0.2.2.2.1 x0.2.2.2.2 a1 a2 (by omega) (by omega)
  refine (Pr.patchbaylaw2_PathEncodes.calls k _ _ _ _ _ _ _ _ _ _ _ _ _ W hC1 hl1 hC2 hl2 hk).mono fun e W' ⟨he, bel⟩ => ?_
  subst he
  exact ⟨_, rfl, _, _, _, [], _, [], hW', trodAll_mk1 (shut_bool Try.underlying4 _), (trodAll_cons_mk (Below.trod laidOut (by kernel_rfl) (of_decide_eq_true (by kernel_rfl)) h0 bel lt0) (trodAll_cons_mk (Below.trod laidOut (by kernel_rfl) (of_decide_eq_true (by kernel_rfl)) h1 bel lt1) (trodAll_cons_mk (Below.trod laidOut (by kernel_rfl) (of_decide_eq_true (by kernel_rfl)) h2 bel lt2) trodAll_mk0))), rfl, bel.frame _, fun h => by cases h⟩
theorem over : Rows.pathEncodesRow.holds Try.pinned (OpenSpec.ofChange Rows.pathEncodesSpec) :=
  OpenClaim.holds_of_wide 8 Try.f8 rfl rfl rfl rfl rfl rfl rfl ⟨rfl, rfl, rfl, rfl, rfl⟩ rfl rfl rfl rfl rfl (by kernel_rfl) Try.func8 (by kernel_rfl)
    (of_decide_eq_true (by kernel_rfl)) (by unfold Func.isWrapper; first | (rw [if_pos (by decide +kernel)]; kernel_rfl) | (rw [if_neg (by decide +kernel)]; exact ⟨rfl, rfl⟩))
    (fun os started H enc _ => lifted os started H enc)
theorem proved : Rows.PathEncodesSaid := over
#print axioms proved
end Go.Proofs.Ythifgakeababmaa.pathEncodes
namespace Go.Proofs.Ythifgakeababmaa
theorem pathEncodes_holds : Rows.PathEncodesSaid := pathEncodes.proved
end Go.Proofs.Ythifgakeababmaa
