/- BestSettlesTo returns true for every network, origin and number of rounds, and its arguments read as before. -/
import Derived.Test.YthifgakeababmaaRows
import Derived.Test.YthifgakeababmaaBa15
import Derived.WalkKit
import Derived.ProofKit
import Derived.OpenShut
import Derived.ShutString
import Derived.ChangeOld
import Derived.Below
import Derived.SizedLaws
namespace Go.Proofs.Ythifgakeababmaa.bestSettlesTo
open Go Go.ChangeShapes Go.WideShapes Go.ChangeAt Go.RowKit Go.Am
open Go.Proofs.Ythifgakeababmaa.Fx Go.Proofs.Ythifgakeababmaa.Ba
set_option linter.unusedVariables false
set_option maxRecDepth 100000
theorem own : ownKnob Try.prog.godebug = none := by kernel_rfl
theorem laidOut : laidOutB Try.prog = true := by kernel_rfl

abbrev RI (_ : Heap) (x : Int) (cells : List Value) : Prop := cells = [.int .i64 x] ∧ (Lit.int .i64 x).wf = true
theorem eInt : Enters Try.prog 3 1 RI := enters_int Try.underlying3
abbrev RL5 := RPair RI (RPair RI (RPair RI (RPair RI RI)))
theorem eLn5 : Enters Try.prog 60 (1 + (1 + (1 + (1 + 1)))) RL5 :=
  enters_struct u60 cl60 (entersF_cons rfl cl3 eInt (entersF_cons rfl cl3 eInt (entersF_cons rfl cl3 eInt (entersF_cons rfl cl3 eInt (entersF_one rfl cl3 eInt)))))
theorem eLn : Enters Try.prog 60 5 RLn := by
  refine ⟨RLn.mono, fun enc w base held n cs y h => ?_⟩
  obtain ⟨h1, h2⟩ := eLn5.2 enc w base held n cs y h
  refine ⟨h1, fun ι H hr hn => ?_⟩
  obtain ⟨ι', X, x, cells, q1, q2, q3, q4, c1, d1, rfl, ⟨rfl, _⟩, c2, d2, rfl, ⟨rfl, _⟩, c3, d3, rfl, ⟨rfl, _⟩, c4, d4, rfl, ⟨rfl, _⟩, ⟨rfl, _⟩⟩ := h2 ι H hr hn
  exact ⟨ι', X, ⟨x.1, x.2.1, x.2.2.1, x.2.2.2.1, x.2.2.2.2⟩, _, q1, q2, q3, q4, rfl⟩
theorem eLinks : Enters Try.prog 55 1 (fun H (xs : List Ln) cells => ∃ s, cells = [s] ∧ RSlice RLn 5 H xs s) := enters_slice u55 cl60 (by decide) eLn
theorem eNet : Enters Try.prog 57 (1 + 1) (RPair RI (fun H (xs : List Ln) cells => ∃ s, cells = [s] ∧ RSlice RLn 5 H xs s)) :=
  enters_struct u57 cl57 (entersF_cons rfl cl3 eInt (entersF_one rfl cl55 eLinks))

theorem lifted (os : Os) (started : os.Started) (H : Type) (enc : TypeId × Value → H) :
    ReturnsInHanded {} Try.checked os 6 .any (Rows.bestSettlesToSpec.pre6 enc Try.prog Try.f6 Rows.bestSettlesToRow.domain false) (Rows.bestSettlesToSpec.post enc Try.prog Try.f6 false true false false) := by
  refine returnsInHanded_of_change_sized (C := Try.checked) own started (by kernel_rfl) Try.func6
    (ChangeSpec.witness6 (enc := enc) (C := Try.checked) false ⟨#[], #[.agg #[.int .i64 0, .slice none 0 0], .int .i64 0, .int .i64 0], []⟩ 8 (by kernel_rfl) (by kernel_rfl) (by kernel_rfl) (by kernel_rfl)) ?_
  intro W base args ds gs before hval0 hW hcnd hsz0 _
  have hval : ∀ (j : Nat) t v, Try.f6.params[j]? = some t → args[j]? = some v → Value.okWide Try.prog W .any base t v := hval0
  have hW' := hW
  obtain ⟨p, q, hA0, hV, rfl, hfz, hnd⟩ := hW
  have hA : DataW.TrodAll enc Try.prog W 0 (fun _ => true) true Try.f6.params.toList args.toList ds p := hA0
  rw [Try.params6] at hA hval
  obtain ⟨v0, vs0, d0, ds0, p0, q0, hargs, rfl, rfl, h0, r0⟩ := trodAll_cons hA
  obtain ⟨v1, vs1, d1, ds1, p1, q1, rfl, rfl, rfl, h1, r1⟩ := trodAll_cons r0
  obtain ⟨v2, vs2, d2, ds2, p2, q2, rfl, rfl, rfl, h2, r2⟩ := trodAll_cons r1
  obtain ⟨rfl, rfl, rfl⟩ := trodAll_nil r2
  obtain rfl : args = #[v0, v1, v2] := by cases args; simp_all
  obtain ⟨rfl, rfl⟩ := trodVars_none hV
  have lt0 : ∀ x ∈ p0, x.block < W.heap.size := by obtain ⟨m, hm⟩ := h0; exact DataW.trod_lt m _ _ _ hm
  have lt1 : ∀ x ∈ p1, x.block < W.heap.size := by obtain ⟨m, hm⟩ := h1; exact DataW.trod_lt m _ _ _ hm
  have lt2 : ∀ x ∈ p2, x.block < W.heap.size := by obtain ⟨m, hm⟩ := h2; exact DataW.trod_lt m _ _ _ hm
  obtain ⟨ι, X, x, cells, _, hX, hrel, hrv, c1, c2, rfl, ⟨rfl, _⟩, s, rfl, hsl⟩ := arg_struct u57 eNet (hval 0 57 v0 rfl rfl) h0 (Rel.empty W) NoLive.nil
  obtain ⟨a1, e1, _, _, w1⟩ := open_int Try.underlying3 (hval 1 3 v1 rfl rfl) h1
  subst e1
  obtain ⟨a2, e2, _, _, w2⟩ := open_int Try.underlying3 (hval 2 3 v2 rfl rfl) h2
  subst e2
  have key := returns_true (P := Try.prog) (f := 6) (args := #[netV x.1 s, .int .i64 a1, .int .i64 a2]) (args' := #[v0, .int .i64 a1, .int .i64 a2]) hrel (NoLive.nil.app hX) rfl (fun i h h' => by
    match i, h with
    | 0, _ => exact hrv
    | 1, _ => exact .int _ _
    | 2, _ => exact .int _ _) (law_spec (Sl.ofR hsl) fun H' => rfl)
  refine key.mono fun e W' ⟨he, bel⟩ => ?_
  subst he
  exact ⟨_, rfl, _, _, _, [], _, [], hW', trodAll_mk1 (shut_bool Try.underlying4 _), (trodAll_cons_mk (Below.trod laidOut (by kernel_rfl) (of_decide_eq_true (by kernel_rfl)) h0 bel lt0) (trodAll_cons_mk (Below.trod laidOut (by kernel_rfl) (of_decide_eq_true (by kernel_rfl)) h1 bel lt1) (trodAll_cons_mk (Below.trod laidOut (by kernel_rfl) (of_decide_eq_true (by kernel_rfl)) h2 bel lt2) trodAll_mk0))), rfl, bel.frame _, fun h => by cases h⟩
theorem over : Rows.bestSettlesToRow.holds Try.pinned (OpenSpec.ofChange Rows.bestSettlesToSpec) :=
  OpenClaim.holds_of_wide 6 Try.f6 rfl rfl rfl rfl rfl rfl rfl ⟨rfl, rfl, rfl, rfl, rfl⟩ rfl rfl rfl rfl rfl (by kernel_rfl) Try.func6 (by kernel_rfl)
    (of_decide_eq_true (by kernel_rfl)) (by unfold Func.isWrapper; first | (rw [if_pos (by decide +kernel)]; kernel_rfl) | (rw [if_neg (by decide +kernel)]; exact ⟨rfl, rfl⟩))
    (fun os started H enc _ => lifted os started H enc)
theorem proved : Rows.BestSettlesToSaid := over
#print axioms proved
end Go.Proofs.Ythifgakeababmaa.bestSettlesTo
namespace Go.Proofs.Ythifgakeababmaa
/-- The row, under a short name, for the claim. -/
theorem bestSettlesTo_holds : Rows.BestSettlesToSaid := bestSettlesTo.proved
end Go.Proofs.Ythifgakeababmaa
