/- FloodStores returns true for every number and list of advertisements, and its arguments read as before. -/
import Derived.Test.YtlljiccilldnaaaRows
import Derived.Test.YtlljiccilldnaaaFl13
import Derived.WalkKit
import Derived.ProofKit
import Derived.OpenShut
import Derived.ShutString
import Derived.ChangeOld
import Derived.Below
import Derived.SizedLaws
import Derived.ChangeMaps5
namespace Go.Proofs.Ytlljiccilldnaaa.floodStores
open Go Go.ChangeShapes Go.WideShapes Go.ChangeAt Go.RowKit Go.Am
open Go.ChangeMaps (open_string shut_string)
open Go.Proofs.Ytlljiccilldnaaa.Fx Go.Proofs.Ytlljiccilldnaaa.Ad Go.Proofs.Ytlljiccilldnaaa.Fl
set_option linter.unusedVariables false
set_option maxRecDepth 100000
theorem own : ownKnob Try.prog.godebug = none := by kernel_rfl
theorem laidOut : laidOutB Try.prog = true := by kernel_rfl

abbrev RI (_ : Heap) (x : Int) (cells : List Value) : Prop := cells = [.int .i64 x] ∧ (Lit.int .i64 x).wf = true
theorem eInt : Enters Try.prog 3 1 RI := enters_int Try.underlying3
theorem eLk2 : Enters Try.prog 133 (1 + 1) (RPair RI RI) := enters_struct u133 cl133 (entersF_cons rfl cl3 eInt (entersF_one rfl cl3 eInt))
theorem eLk : Enters Try.prog 133 2 RLk := by
  refine ⟨RLk.mono, fun enc w base held n cs y h => ?_⟩
  obtain ⟨h1, h2⟩ := eLk2.2 enc w base held n cs y h
  refine ⟨h1, fun ι H hr hn => ?_⟩
  obtain ⟨ι', X, x, cells, q1, q2, q3, q4, c1, d1, rfl, ⟨rfl, _⟩, ⟨rfl, _⟩⟩ := h2 ι H hr hn
  exact ⟨ι', X, x, _, q1, q2, q3, q4, rfl⟩
abbrev RLs (H : Heap) (xs : List (Int × Int)) (cells : List Value) : Prop := ∃ s, cells = [s] ∧ RSlice RLk 2 H xs s
theorem eLinks : Enters Try.prog 82 1 RLs := enters_slice u82 cl133 (by decide) eLk
theorem eAdv0 : Enters Try.prog 84 (1 + (1 + (1 + 1))) (RPair RI (RPair RI (RPair RI RLs))) :=
  enters_struct u84 cl84 (entersF_cons rfl cl3 eInt (entersF_cons rfl cl3 eInt (entersF_cons rfl cl3 eInt (entersF_one rfl cl82 eLinks))))
theorem eAdv : Enters Try.prog 84 4 RAdv := by
  refine ⟨RAdv.mono, fun enc w base held n cs y h => ?_⟩
  obtain ⟨h1, h2⟩ := eAdv0.2 enc w base held n cs y h
  refine ⟨h1, fun ι H hr hn => ?_⟩
  obtain ⟨ι', X, x, cells, q1, q2, q3, q4, c1, d1, rfl, ⟨rfl, _⟩, c2, d2, rfl, ⟨rfl, _⟩, c3, d3, rfl, ⟨rfl, _⟩, s, rfl, hsl⟩ := h2 ι H hr hn
  exact ⟨ι', X, ⟨x.1, x.2.1, x.2.2.1, x.2.2.2⟩, _, q1, q2, q3, q4, s, rfl, Sl.ofR hsl⟩
theorem eAdvs : Enters Try.prog 74 1 (fun H (xs : List Adv) cells => ∃ s, cells = [s] ∧ RSlice RAdv 4 H xs s) := enters_slice u74 cl84 (by decide) eAdv
theorem lifted (os : Os) (started : os.Started) (H : Type) (enc : TypeId × Value → H) :
    ReturnsInHanded {} Try.checked os 7 .any (Rows.floodStoresSpec.pre6 enc Try.prog Try.f7 Rows.floodStoresRow.domain false) (Rows.floodStoresSpec.post enc Try.prog Try.f7 false true false false) := by
  refine returnsInHanded_of_change_sized (C := Try.checked) own started (by kernel_rfl) Try.func7
    (ChangeSpec.witness6 (enc := enc) (C := Try.checked) false ⟨#[], #[.int .i64 0, .slice none 0 0], []⟩ 8 (by kernel_rfl) (by kernel_rfl) (by kernel_rfl) (by kernel_rfl)) ?_
  intro W base args ds gs before hval0 hW hcnd hsz0 _
  have hval : ∀ (j : Nat) t v, Try.f7.params[j]? = some t → args[j]? = some v → Value.okWide Try.prog W .any base t v := hval0
  have hW' := hW
  obtain ⟨p, q, hA0, hV, rfl, hfz, hnd⟩ := hW
  have hA : DataW.TrodAll enc Try.prog W 0 (fun _ => true) true Try.f7.params.toList args.toList ds p := hA0
  rw [Try.params7] at hA hval
  obtain ⟨v0, vs0, d0, ds0, p0, q0, hargs, rfl, rfl, h0, r0⟩ := trodAll_cons hA
  obtain ⟨v1, vs1, d1, ds1, p1, q1, rfl, rfl, rfl, h1, r1⟩ := trodAll_cons r0
  obtain ⟨rfl, rfl, rfl⟩ := trodAll_nil r1
  obtain rfl : args = #[v0, v1] := by cases args; simp_all
  obtain ⟨rfl, rfl⟩ := trodVars_none hV
  have lt0 : ∀ x ∈ p0, x.block < W.heap.size := by obtain ⟨m, hm⟩ := h0; exact DataW.trod_lt m _ _ _ hm
  have lt1 : ∀ x ∈ p1, x.block < W.heap.size := by obtain ⟨m, hm⟩ := h1; exact DataW.trod_lt m _ _ _ hm
  obtain ⟨a0, e0, _, _, w0⟩ := open_int Try.underlying3 (hval 0 3 v0 rfl rfl) h0
  subst e0
  obtain ⟨ι1, X1, x1, s1, hsub1, hX1, hrel1, hrv1, hsl1⟩ := arg_slice (S := fun H (xs : List Adv) s => RSlice RAdv 4 H xs s) u74 eAdvs (fun H x cells h => h) (hval 1 74 v1 rfl rfl) h1 (Rel.empty W) (NoLive.nil)
  have key := returns_true (P := Try.prog) (f := 7) (args := #[.int .i64 a0, s1]) (args' := #[.int .i64 a0, v1]) hrel1 ((NoLive.nil).app hX1) rfl (fun i h h' => by
    match i, h with
    | 0, _ => exact .int _ _
    | 1, _ => exact hrv1) (stores_spec (Sl.ofR hsl1) fun H' => rfl)
  refine key.mono fun e W' ⟨he, bel⟩ => ?_
  subst he
  exact ⟨_, rfl, _, _, _, [], _, [], hW', trodAll_mk1 (shut_bool Try.underlying4 _), (trodAll_cons_mk (Below.trod laidOut (by kernel_rfl) (of_decide_eq_true (by kernel_rfl)) h0 bel lt0) (trodAll_cons_mk (Below.trod laidOut (by kernel_rfl) (of_decide_eq_true (by kernel_rfl)) h1 bel lt1) trodAll_mk0)), rfl, bel.frame _, fun h => by cases h⟩
theorem over : Rows.floodStoresRow.holds Try.pinned (OpenSpec.ofChange Rows.floodStoresSpec) :=
  OpenClaim.holds_of_wide 7 Try.f7 rfl rfl rfl rfl rfl rfl rfl ⟨rfl, rfl, rfl, rfl, rfl⟩ rfl rfl rfl rfl rfl (by kernel_rfl) Try.func7 (by kernel_rfl)
    (of_decide_eq_true (by kernel_rfl)) (by unfold Func.isWrapper; first | (rw [if_pos (by decide +kernel)]; kernel_rfl) | (rw [if_neg (by decide +kernel)]; exact ⟨rfl, rfl⟩))
    (fun os started H enc _ => lifted os started H enc)
theorem proved : Rows.FloodStoresSaid := over
#print axioms proved
end Go.Proofs.Ytlljiccilldnaaa.floodStores
namespace Go.Proofs.Ytlljiccilldnaaa
/-- The row, under a short name, for the claim. -/
theorem floodStores_holds : Rows.FloodStoresSaid := floodStores.proved
end Go.Proofs.Ytlljiccilldnaaa
