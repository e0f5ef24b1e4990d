/- BestRounds returns true for every network, origin and list of routes, and its arguments read as before. -/
import Derived.Test.YthifgakeababmaaRows
import Derived.Test.YthifgakeababmaaBa19
import Derived.WalkKit
import Derived.ProofKit
import Derived.OpenShut
import Derived.ShutString
import Derived.ChangeOld
import Derived.Below
import Derived.SizedLaws
namespace Go.Proofs.Ythifgakeababmaa.bestRounds
open Go Go.ChangeShapes Go.WideShapes Go.ChangeAt Go.RowKit Go.Am
open Go.Proofs.Ythifgakeababmaa.Fx Go.Proofs.Ythifgakeababmaa.Ba
set_option linter.unusedVariables false
set_option maxRecDepth 100000
theorem own : ownKnob Try.prog.godebug = none := by kernel_rfl
theorem laidOut : laidOutB Try.prog = true := by kernel_rfl

abbrev RI (_ : Heap) (x : Int) (cells : List Value) : Prop := cells = [.int .i64 x] ∧ (Lit.int .i64 x).wf = true
theorem eInt : Enters Try.prog 3 1 RI := enters_int Try.underlying3
abbrev RL5 := RPair RI (RPair RI (RPair RI (RPair RI RI)))
theorem eLn5 : Enters Try.prog 60 (1 + (1 + (1 + (1 + 1)))) RL5 :=
  enters_struct u60 cl60 (entersF_cons rfl cl3 eInt (entersF_cons rfl cl3 eInt (entersF_cons rfl cl3 eInt (entersF_cons rfl cl3 eInt (entersF_one rfl cl3 eInt)))))
theorem eLn : Enters Try.prog 60 5 RLn := by
  refine ⟨RLn.mono, fun enc w base held n cs y h => ?_⟩
  obtain ⟨h1, h2⟩ := eLn5.2 enc w base held n cs y h
  refine ⟨h1, fun ι H hr hn => ?_⟩
  obtain ⟨ι', X, x, cells, q1, q2, q3, q4, c1, d1, rfl, ⟨rfl, _⟩, c2, d2, rfl, ⟨rfl, _⟩, c3, d3, rfl, ⟨rfl, _⟩, c4, d4, rfl, ⟨rfl, _⟩, ⟨rfl, _⟩⟩ := h2 ι H hr hn
  exact ⟨ι', X, ⟨x.1, x.2.1, x.2.2.1, x.2.2.2.1, x.2.2.2.2⟩, _, q1, q2, q3, q4, rfl⟩
theorem eLinks : Enters Try.prog 55 1 (fun H (xs : List Ln) cells => ∃ s, cells = [s] ∧ RSlice RLn 5 H xs s) := enters_slice u55 cl60 (by decide) eLn
theorem eNet : Enters Try.prog 57 (1 + 1) (RPair RI (fun H (xs : List Ln) cells => ∃ s, cells = [s] ∧ RSlice RLn 5 H xs s)) :=
  enters_struct u57 cl57 (entersF_cons rfl cl3 eInt (entersF_one rfl cl55 eLinks))

def RWayB (H : Heap) (x : List Int) (cells : List Value) : Prop := RWay H x cells ∧ x.length ≤ maxLen
theorem sl_weaken {H : Heap} {s : Value} {xs : List Int} (h : Sl RI 1 H s xs) : Sl RInt 1 H s xs := by
  obtain ⟨a, c, e, hc, hn, hs⟩ := h
  refine ⟨a, c, e, hc, hn, fun ad ha => ?_⟩
  obtain ⟨h1, h2, h3, h4⟩ := hs ad ha
  refine ⟨h1, h2, h3, fun i x hx => ?_⟩
  obtain ⟨cells, h5, h6⟩ := h4 i x hx
  exact ⟨cells, h5, h6.1⟩
theorem rslice_len {α : Type} {R : Heap → α → List Value → Prop} {sz : Nat} {H : Heap} {xs : List α} {s : Value} (h : RSlice R sz H xs s) : xs.length ≤ maxLen := by
  rcases h with ⟨_, rfl⟩ | ⟨b, _, rfl, _⟩ | ⟨b, cap, cells, _, h2, _, h4, _⟩
  · simp
  · simp
  · omega
theorem eInts : Enters Try.prog 49 1 (fun H (xs : List Int) cells => ∃ s, cells = [s] ∧ RSlice RI 1 H xs s) := enters_slice u49 cl3 (by decide) eInt
theorem eRoute0 : Enters Try.prog 98 1 (fun H (xs : List Int) cells => ∃ s, cells = [s] ∧ RSlice RI 1 H xs s) := enters_struct u98 cl98 (entersF_one rfl cl49 eInts)
theorem eRoute : Enters Try.prog 98 1 RWayB := by
  refine ⟨fun H X x c h => ⟨RWay.mono H X x c h.1, h.2⟩, fun enc w base held n cs y h => ?_⟩
  obtain ⟨h1, h2⟩ := eRoute0.2 enc w base held n cs y h
  refine ⟨h1, fun ι H hr hn => ?_⟩
  obtain ⟨ι', X, x, cells, q1, q2, q3, q4, s, rfl, hsl⟩ := h2 ι H hr hn
  exact ⟨ι', X, x, _, q1, q2, q3, q4, ⟨s, rfl, sl_weaken (Sl.ofR hsl)⟩, rslice_len hsl⟩
theorem eRoutes : Enters Try.prog 62 1 (fun H (xs : List (List Int)) cells => ∃ s, cells = [s] ∧ RSlice RWayB 1 H xs s) := enters_slice u62 cl98 (by decide) eRoute
theorem slB {H : Heap} {s : Value} {xs : List (List Int)} (h : Sl RWayB 1 H s xs) : Sl RWay 1 H s xs := by
  obtain ⟨a, c, e, hc, hn, hs⟩ := h
  refine ⟨a, c, e, hc, hn, fun ad ha => ?_⟩
  obtain ⟨h1, h2, h3, h4⟩ := hs ad ha
  refine ⟨h1, h2, h3, fun i x hx => ?_⟩
  obtain ⟨cells, h5, h6⟩ := h4 i x hx
  exact ⟨cells, h5, h6.1⟩
theorem slB_len {H : Heap} {s : Value} {xs : List (List Int)} (h : RSlice RWayB 1 H xs s) : ∀ w ∈ xs, w.length < 9223372036854775808 := by
  intro w hw
  obtain ⟨i, hi, rfl⟩ := List.getElem_of_mem hw
  rcases h with ⟨_, rfl⟩ | ⟨b, _, rfl, _⟩ | ⟨b, cap, cells, _, h2, _, h4, _, _, h7⟩
  · simp at hi
  · simp at hi
  · have := (h7 i _ (List.getElem?_eq_getElem hi)).2
    have hm : maxLen < 9223372036854775808 := by decide
    omega

theorem lifted (os : Os) (started : os.Started) (H : Type) (enc : TypeId × Value → H) :
    ReturnsInHanded {} Try.checked os 9 .any (Rows.bestRoundsSpec.pre6 enc Try.prog Try.f9 Rows.bestRoundsRow.domain false) (Rows.bestRoundsSpec.post enc Try.prog Try.f9 false true false false) := by
  refine returnsInHanded_of_change_sized (C := Try.checked) own started (by kernel_rfl) Try.func9
    (ChangeSpec.witness6 (enc := enc) (C := Try.checked) false ⟨#[], #[.agg #[.int .i64 0, .slice none 0 0], .int .i64 0, .slice none 0 0], []⟩ 8 (by kernel_rfl) (by kernel_rfl) (by kernel_rfl) (by kernel_rfl)) ?_
  intro W base args ds gs before hval0 hW hcnd hsz0 _
  have hval : ∀ (j : Nat) t v, Try.f9.params[j]? = some t → args[j]? = some v → Value.okWide Try.prog W .any base t v := hval0
  have hW' := hW
  obtain ⟨p, q, hA0, hV, rfl, hfz, hnd⟩ := hW
  have hA : DataW.TrodAll enc Try.prog W 0 (fun _ => true) true Try.f9.params.toList args.toList ds p := hA0
  rw [Try.params9] at hA hval
  obtain ⟨v0, vs0, d0, ds0, p0, q0, hargs, rfl, rfl, h0, r0⟩ := trodAll_cons hA
  obtain ⟨v1, vs1, d1, ds1, p1, q1, rfl, rfl, rfl, h1, r1⟩ := trodAll_cons r0
  obtain ⟨v2, vs2, d2, ds2, p2, q2, rfl, rfl, rfl, h2, r2⟩ := trodAll_cons r1
  obtain ⟨rfl, rfl, rfl⟩ := trodAll_nil r2
  obtain rfl : args = #[v0, v1, v2] := by cases args; simp_all
  obtain ⟨rfl, rfl⟩ := trodVars_none hV
  have lt0 : ∀ x ∈ p0, x.block < W.heap.size := by obtain ⟨m, hm⟩ := h0; exact DataW.trod_lt m _ _ _ hm
  have lt1 : ∀ x ∈ p1, x.block < W.heap.size := by obtain ⟨m, hm⟩ := h1; exact DataW.trod_lt m _ _ _ hm
  have lt2 : ∀ x ∈ p2, x.block < W.heap.size := by obtain ⟨m, hm⟩ := h2; exact DataW.trod_lt m _ _ _ hm
  obtain ⟨ι, X, x, cells, _, hX, hrel, hrv, c1, c2, rfl, ⟨rfl, _⟩, s, rfl, hsl⟩ := arg_struct u57 eNet (hval 0 57 v0 rfl rfl) h0 (Rel.empty W) NoLive.nil
  obtain ⟨a1, e1, _, _, w1⟩ := open_int Try.underlying3 (hval 1 3 v1 rfl rfl) h1
  subst e1
  obtain ⟨ι2, X2, xs2, s2, hsub2, hX2, hrel2, hrv2, hsl2⟩ := arg_slice (S := fun H (xs : List (List Int)) s => RSlice RWayB 1 H xs s) u62 eRoutes (fun H x cells h => h) (hval 2 62 v2 rfl rfl) h2 hrel (NoLive.nil.app hX)
  have key := returns_true (P := Try.prog) (f := 9) (args := #[netV x.1 s, .int .i64 a1, s2]) (args' := #[v0, .int .i64 a1, v2]) hrel2 ((NoLive.nil.app hX).app hX2) rfl (fun i h h' => by
    match i, h with
    | 0, _ => exact hrv.mono hsub2
    | 1, _ => exact .int _ _
    | 2, _ => exact hrv2) (rounds_spec ((Sl.ofR hsl).mono RLn.mono X2) (slB (Sl.ofR hsl2)) (slB_len hsl2) fun H' => rfl)
  refine key.mono fun e W' ⟨he, bel⟩ => ?_
  subst he
  exact ⟨_, rfl, _, _, _, [], _, [], hW', trodAll_mk1 (shut_bool Try.underlying4 _), (trodAll_cons_mk (Below.trod laidOut (by kernel_rfl) (of_decide_eq_true (by kernel_rfl)) h0 bel lt0) (trodAll_cons_mk (Below.trod laidOut (by kernel_rfl) (of_decide_eq_true (by kernel_rfl)) h1 bel lt1) (trodAll_cons_mk (Below.trod laidOut (by kernel_rfl) (of_decide_eq_true (by kernel_rfl)) h2 bel lt2) trodAll_mk0))), rfl, bel.frame _, fun h => by cases h⟩
theorem over : Rows.bestRoundsRow.holds Try.pinned (OpenSpec.ofChange Rows.bestRoundsSpec) :=
  OpenClaim.holds_of_wide 9 Try.f9 rfl rfl rfl rfl rfl rfl rfl ⟨rfl, rfl, rfl, rfl, rfl⟩ rfl rfl rfl rfl rfl (by kernel_rfl) Try.func9 (by kernel_rfl)
    (of_decide_eq_true (by kernel_rfl)) (by unfold Func.isWrapper; first | (rw [if_pos (by decide +kernel)]; kernel_rfl) | (rw [if_neg (by decide +kernel)]; exact ⟨rfl, rfl⟩))
    (fun os started H enc _ => lifted os started H enc)
theorem proved : Rows.BestRoundsSaid := over
#print axioms proved
end Go.Proofs.Ythifgakeababmaa.bestRounds
namespace Go.Proofs.Ythifgakeababmaa
/-- The row, under a short name, for the claim. -/
theorem bestRounds_holds : Rows.BestRoundsSaid := bestRounds.proved
end Go.Proofs.Ythifgakeababmaa
