/- WaysFlows returns true for every packet, and its argument reads as before. -/
import Derived.Test.YtlljiccilldnaaaRows
import Derived.Test.YtlljiccilldnaaaWf7
import Derived.WalkKit
import Derived.ProofKit
import Derived.OpenShut
import Derived.ShutString
import Derived.ChangeOld
import Derived.Below
import Derived.SizedLaws
import Derived.ChangeMaps5
namespace Go.Proofs.Ytlljiccilldnaaa.waysFlows
open Go Go.ChangeShapes Go.WideShapes Go.ChangeAt Go.RowKit Go.Am
open Go.ChangeMaps (open_string shut_string)
open Go.Proofs.Ytlljiccilldnaaa.Fx Go.Proofs.Ytlljiccilldnaaa.Wf
set_option linter.unusedVariables false
set_option maxRecDepth 100000
theorem own : ownKnob Try.prog.godebug = none := by kernel_rfl
theorem laidOut : laidOutB Try.prog = true := by kernel_rfl

abbrev RI (_ : Heap) (x : Int) (cells : List Value) : Prop := cells = [.int .i64 x] ∧ (Lit.int .i64 x).wf = true
abbrev RU (_ : Heap) (x : Int) (cells : List Value) : Prop := cells = [.int .u32 x] ∧ (Lit.int .u32 x).wf = true
abbrev RB (_ : Heap) (x : Bool) (cells : List Value) : Prop := cells = [.bool x]
abbrev RS (_ : Heap) (x : ByteArray) (cells : List Value) : Prop := cells = [.string x] ∧ x.size ≤ maxLen
theorem eInt : Enters Try.prog 3 1 RI := enters_int Try.underlying3
theorem eU : Enters Try.prog 23 1 RU := enters_int Try.underlying23
theorem eB : Enters Try.prog 4 1 RB := enters_bool Try.underlying4
theorem eS : Enters Try.prog 9 1 RS := enters_string Try.underlying9
theorem ePk0 : Enters Try.prog 40 (1 + (1 + (1 + (1 + (1 + (1 + (1 + (1 + 1)))))))) (RPair RU (RPair RU (RPair RI (RPair RI (RPair RI (RPair RI (RPair RB (RPair RB RS)))))))) :=
  enters_struct u40 cl40 (entersF_cons rfl cl23 eU (entersF_cons rfl cl23 eU (entersF_cons rfl cl3 eInt (entersF_cons rfl cl3 eInt (entersF_cons rfl cl3 eInt (entersF_cons rfl cl3 eInt (entersF_cons rfl cl4 eB (entersF_cons rfl cl4 eB (entersF_one rfl cl9 eS)))))))))
def RPk (_ : Heap) (p : Pk) (cells : List Value) : Prop := cells = pkC p
theorem ePk : Enters Try.prog 40 9 RPk := by
  refine ⟨fun _ _ _ _ h => h, fun enc w base held n cs y h => ?_⟩
  obtain ⟨h1, h2⟩ := ePk0.2 enc w base held n cs y h
  refine ⟨h1, fun ι H hr hn => ?_⟩
  obtain ⟨ι', X, x, cells, q1, q2, q3, q4, c1, d1, rfl, ⟨rfl, _⟩, c2, d2, rfl, ⟨rfl, _⟩, c3, d3, rfl, ⟨rfl, _⟩, c4, d4, rfl, ⟨rfl, _⟩, c5, d5, rfl, ⟨rfl, _⟩, c6, d6, rfl, ⟨rfl, _⟩, c7, d7, rfl, rfl, c8, d8, rfl, rfl, ⟨rfl, _⟩⟩ := h2 ι H hr hn
  exact ⟨ι', X, ⟨x.1, x.2.1, x.2.2.1, x.2.2.2.1, x.2.2.2.2.1, x.2.2.2.2.2.1, x.2.2.2.2.2.2.1, x.2.2.2.2.2.2.2.1, x.2.2.2.2.2.2.2.2⟩, _, q1, q2, q3, q4, rfl⟩
theorem lifted (os : Os) (started : os.Started) (H : Type) (enc : TypeId × Value → H) :
    ReturnsInHanded {} Try.checked os 4 .any (Rows.waysFlowsSpec.pre6 enc Try.prog Try.f4 Rows.waysFlowsRow.domain false) (Rows.waysFlowsSpec.post enc Try.prog Try.f4 false true false false) := by
  refine returnsInHanded_of_change_sized (C := Try.checked) own started (by kernel_rfl) Try.func4
    (ChangeSpec.witness6 (enc := enc) (C := Try.checked) false ⟨#[], #[.agg #[.int .u32 0, .int .u32 0, .int .i64 0, .int .i64 0, .int .i64 0, .int .i64 0, .bool false, .bool false, .string ByteArray.empty]], []⟩ 8 (by kernel_rfl) (by kernel_rfl) (by kernel_rfl) (by kernel_rfl)) ?_
  intro W base args ds gs before hval0 hW hcnd hsz0 _
  have hval : ∀ (j : Nat) t v, Try.f4.params[j]? = some t → args[j]? = some v → Value.okWide Try.prog W .any base t v := hval0
  have hW' := hW
  obtain ⟨p, q, hA0, hV, rfl, hfz, hnd⟩ := hW
  have hA : DataW.TrodAll enc Try.prog W 0 (fun _ => true) true Try.f4.params.toList args.toList ds p := hA0
  rw [Try.params4] at hA hval
  obtain ⟨v0, vs0, d0, ds0, p0, q0, hargs, rfl, rfl, h0, r0⟩ := trodAll_cons hA
  obtain ⟨rfl, rfl, rfl⟩ := trodAll_nil r0
  obtain rfl : args = #[v0] := by cases args; simp_all
  obtain ⟨rfl, rfl⟩ := trodVars_none hV
  have lt0 : ∀ x ∈ p0, x.block < W.heap.size := by obtain ⟨m, hm⟩ := h0; exact DataW.trod_lt m _ _ _ hm
  obtain ⟨ι0, X0, x0, cells0, hsub0, hX0, hrel0, hrv0, hsl0⟩ := arg_struct u40 ePk (hval 0 40 v0 rfl rfl) h0 (Rel.empty W) (NoLive.nil)
  have hp0 : cells0 = pkC x0 := hsl0
  subst hp0
  have key := returns_true (P := Try.prog) (f := 4) (args := #[.agg (pkC x0).toArray]) (args' := #[v0]) hrel0 ((NoLive.nil).app hX0) rfl (fun i h h' => by
    match i, h with
    | 0, _ => exact hrv0) (flows_spec fun H' => rfl)
  refine key.mono fun e W' ⟨he, bel⟩ => ?_
  subst he
  exact ⟨_, rfl, _, _, _, [], _, [], hW', trodAll_mk1 (shut_bool Try.underlying4 _), (trodAll_cons_mk (Below.trod laidOut (by kernel_rfl) (of_decide_eq_true (by kernel_rfl)) h0 bel lt0) trodAll_mk0), rfl, bel.frame _, fun h => by cases h⟩
theorem over : Rows.waysFlowsRow.holds Try.pinned (OpenSpec.ofChange Rows.waysFlowsSpec) :=
  OpenClaim.holds_of_wide 4 Try.f4 rfl rfl rfl rfl rfl rfl rfl ⟨rfl, rfl, rfl, rfl, rfl⟩ rfl rfl rfl rfl rfl (by kernel_rfl) Try.func4 (by kernel_rfl)
    (of_decide_eq_true (by kernel_rfl)) (by unfold Func.isWrapper; first | (rw [if_pos (by decide +kernel)]; kernel_rfl) | (rw [if_neg (by decide +kernel)]; exact ⟨rfl, rfl⟩))
    (fun os started H enc _ => lifted os started H enc)
theorem proved : Rows.WaysFlowsSaid := over
#print axioms proved
end Go.Proofs.Ytlljiccilldnaaa.waysFlows
namespace Go.Proofs.Ytlljiccilldnaaa
/-- The row, under a short name, for the claim. -/
theorem waysFlows_holds : Rows.WaysFlowsSaid := waysFlows.proved
end Go.Proofs.Ytlljiccilldnaaa
