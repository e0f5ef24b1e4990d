-- Written by this session's own program (wip/myprint.py) out of the translation.
import Derived.Test.YthifgakeababmaaPrLawPathEncD
import Derived.Test.YthifgakeababmaaPr0
import Derived.Test.YthifgakeababmaaPrSome
import Derived.Test.YthifgakeababmaaPrPath
import Derived.Test.YthifgakeababmaaPrLawPathLives
import Derived.Test.YthifgakeababmaaPrRefPath
import Derived.Test.YthifgakeababmaaPrRefSamePath
import Derived.Test.YthifgakeababmaaPrRefPathText
import Derived.Test.YthifgakeababmaaPrPathPre
namespace Go.Proofs.Ythifgakeababmaa.Pr
open Go.RowKit Go.Proofs.YthifgakeababmaaW.PrintWords Go.Proofs.YthifgakeababmaaW.PrintLast Go.Proofs.YthifgakeababmaaW.PrintMore
attribute [local go_sem] max2_int min2_int max_two min_two max_three min_three max_four min_four   -- for this text's walks alone
set_option linter.unusedVariables false
set_option linter.unusedSimpArgs false

set_option maxHeartbeats 8000000 in
set_option maxRecDepth 100000 in
theorem patchbaylaw2_PathEncodes.calls (k : Nat) (a0_0 : Int) (a0_1 : Int) (A0_2 : Option Addr) (c0_2 : Nat) (l0_2 : List Int) (a0_3 : Int) (a0_4 : Int) (A0_5 : Option Addr) (c0_5 : Nat) (l0_5 : List Int) (a1 : Int) (a2 : Int) (r : Bool) (w : World) (hr0_2 : Kd.C (Kd.int .i64) w A0_2 l0_2.length l0_2) (hc0_2 : l0_2.length ≤ c0_2) (hr0_5 : Kd.C (Kd.int .i64) w A0_5 l0_5.length l0_5) (hc0_5 : l0_5.length ≤ c0_5) (h : patchbaylaw2_PathEncodes.f k a0_0 a0_1 l0_2 a0_3 a0_4 l0_5 a1 a2 = some r) :
    Calls Try.prog 8 #[.agg #[.int .u32 a0_0, .int .i64 a0_1, .slice A0_2 l0_2.length c0_2, .int .i64 a0_3, .int .i64 a0_4, .slice A0_5 l0_5.length c0_5], .int .i64 a1, .int .i64 a2] w fun e w' => e = .returned (.bool r) ∧ Below w.heap.size w w' := by
  have hu51 := Try.underlying51
  have HR0_2 := Aside0.mk hr0_2
  have HC0_2 := Aside0.mk hc0_2
  clear hr0_2 hc0_2
  have HR0_5 := Aside0.mk hr0_5
  have HC0_5 := Aside0.mk hc0_5
  clear hr0_5 hc0_5
  have HB := Aside0.mk (Below.refl w.heap.size w)
  have H : ((patchbaylaw2_pathLives.f k).bind fun t265 => (if t265 = true then ((patchbaylaw2_some_int.f l0_2 34).bind fun t266 => ((patchbaylaw2_some_int.f l0_5 10).bind fun t269 => ((patchbayref2_PathFault.f k a0_0 a0_1 t266 a0_3 a0_4 t269).bind fun t272 => ((path_Encode.f k a0_0 a0_1 t266 a0_3 a0_4 t269).bind fun bt273 => ((path_Check.f k a0_0 a0_1 t266 a0_3 a0_4 t269).bind fun t275 => (if t275 = t272 then (if bt273.2 = t272 then (if t272 = 0 then ((patchbayref2_PathText.f k a0_0 a0_1 t266 a0_3 a0_4 t269).bind fun t276 => (patchbaylaw2_PathEncodes.j0 k a1 a2 t272 (bt273.1.toList != t276.toList) a0_0 a0_1 t266 a0_3 a0_4 t269)) else (if bt273.1.toList = ([] : List UInt8) then (patchbaylaw2_PathEncodes.j0 k a1 a2 t272 false a0_0 a0_1 t266 a0_3 a0_4 t269) else (patchbaylaw2_PathEncodes.j0 k a1 a2 t272 true a0_0 a0_1 t266 a0_3 a0_4 t269))) else (patchbaylaw2_PathEncodes.j0 k a1 a2 t272 true a0_0 a0_1 t266 a0_3 a0_4 t269)) else (patchbaylaw2_PathEncodes.j0 k a1 a2 t272 true a0_0 a0_1 t266 a0_3 a0_4 t269))))))) else (some false))) = some r := h
  clear h
  replace H := Option.bind_eq_some_iff.mp H
  obtain ⟨t265, A40, H⟩ := H
  replace H : (if t265 = true then ((patchbaylaw2_some_int.f l0_2 34).bind fun t266 => ((patchbaylaw2_some_int.f l0_5 10).bind fun t269 => ((patchbayref2_PathFault.f k a0_0 a0_1 t266 a0_3 a0_4 t269).bind fun t272 => ((path_Encode.f k a0_0 a0_1 t266 a0_3 a0_4 t269).bind fun bt273 => ((path_Check.f k a0_0 a0_1 t266 a0_3 a0_4 t269).bind fun t275 => (if t275 = t272 then (if bt273.2 = t272 then (if t272 = 0 then ((patchbayref2_PathText.f k a0_0 a0_1 t266 a0_3 a0_4 t269).bind fun t276 => (patchbaylaw2_PathEncodes.j0 k a1 a2 t272 (bt273.1.toList != t276.toList) a0_0 a0_1 t266 a0_3 a0_4 t269)) else (if bt273.1.toList = ([] : List UInt8) then (patchbaylaw2_PathEncodes.j0 k a1 a2 t272 false a0_0 a0_1 t266 a0_3 a0_4 t269) else (patchbaylaw2_PathEncodes.j0 k a1 a2 t272 true a0_0 a0_1 t266 a0_3 a0_4 t269))) else (patchbaylaw2_PathEncodes.j0 k a1 a2 t272 true a0_0 a0_1 t266 a0_3 a0_4 t269)) else (patchbaylaw2_PathEncodes.j0 k a1 a2 t272 true a0_0 a0_1 t266 a0_3 a0_4 t269))))))) else (some false)) = some r := H
  have A4 := Aside0.mk A40
  clear A40
  by_cases c5 : t265 = true
  · subst c5
    have H1 : ((patchbaylaw2_some_int.f l0_2 34).bind fun t266 => ((patchbaylaw2_some_int.f l0_5 10).bind fun t269 => ((patchbayref2_PathFault.f k a0_0 a0_1 t266 a0_3 a0_4 t269).bind fun t272 => ((path_Encode.f k a0_0 a0_1 t266 a0_3 a0_4 t269).bind fun bt273 => ((path_Check.f k a0_0 a0_1 t266 a0_3 a0_4 t269).bind fun t275 => (if t275 = t272 then (if bt273.2 = t272 then (if t272 = 0 then ((patchbayref2_PathText.f k a0_0 a0_1 t266 a0_3 a0_4 t269).bind fun t276 => (patchbaylaw2_PathEncodes.j0 k a1 a2 t272 (bt273.1.toList != t276.toList) a0_0 a0_1 t266 a0_3 a0_4 t269)) else (if bt273.1.toList = ([] : List UInt8) then (patchbaylaw2_PathEncodes.j0 k a1 a2 t272 false a0_0 a0_1 t266 a0_3 a0_4 t269) else (patchbaylaw2_PathEncodes.j0 k a1 a2 t272 true a0_0 a0_1 t266 a0_3 a0_4 t269))) else (patchbaylaw2_PathEncodes.j0 k a1 a2 t272 true a0_0 a0_1 t266 a0_3 a0_4 t269)) else (patchbaylaw2_PathEncodes.j0 k a1 a2 t272 true a0_0 a0_1 t266 a0_3 a0_4 t269))))))) = some r := by rw [if_pos rfl] at H; exact H
    clear H
    have H := H1
    clear H1
    replace H := Option.bind_eq_some_iff.mp H
    obtain ⟨t266, A60, H⟩ := H
    replace H : ((patchbaylaw2_some_int.f l0_5 10).bind fun t269 => ((patchbayref2_PathFault.f k a0_0 a0_1 t266 a0_3 a0_4 t269).bind fun t272 => ((path_Encode.f k a0_0 a0_1 t266 a0_3 a0_4 t269).bind fun bt273 => ((path_Check.f k a0_0 a0_1 t266 a0_3 a0_4 t269).bind fun t275 => (if t275 = t272 then (if bt273.2 = t272 then (if t272 = 0 then ((patchbayref2_PathText.f k a0_0 a0_1 t266 a0_3 a0_4 t269).bind fun t276 => (patchbaylaw2_PathEncodes.j0 k a1 a2 t272 (bt273.1.toList != t276.toList) a0_0 a0_1 t266 a0_3 a0_4 t269)) else (if bt273.1.toList = ([] : List UInt8) then (patchbaylaw2_PathEncodes.j0 k a1 a2 t272 false a0_0 a0_1 t266 a0_3 a0_4 t269) else (patchbaylaw2_PathEncodes.j0 k a1 a2 t272 true a0_0 a0_1 t266 a0_3 a0_4 t269))) else (patchbaylaw2_PathEncodes.j0 k a1 a2 t272 true a0_0 a0_1 t266 a0_3 a0_4 t269)) else (patchbaylaw2_PathEncodes.j0 k a1 a2 t272 true a0_0 a0_1 t266 a0_3 a0_4 t269)))))) = some r := H
    have A6 := Aside0.mk A60
    clear A60
    replace H := Option.bind_eq_some_iff.mp H
    obtain ⟨t269, A70, H⟩ := H
    replace H : ((patchbayref2_PathFault.f k a0_0 a0_1 t266 a0_3 a0_4 t269).bind fun t272 => ((path_Encode.f k a0_0 a0_1 t266 a0_3 a0_4 t269).bind fun bt273 => ((path_Check.f k a0_0 a0_1 t266 a0_3 a0_4 t269).bind fun t275 => (if t275 = t272 then (if bt273.2 = t272 then (if t272 = 0 then ((patchbayref2_PathText.f k a0_0 a0_1 t266 a0_3 a0_4 t269).bind fun t276 => (patchbaylaw2_PathEncodes.j0 k a1 a2 t272 (bt273.1.toList != t276.toList) a0_0 a0_1 t266 a0_3 a0_4 t269)) else (if bt273.1.toList = ([] : List UInt8) then (patchbaylaw2_PathEncodes.j0 k a1 a2 t272 false a0_0 a0_1 t266 a0_3 a0_4 t269) else (patchbaylaw2_PathEncodes.j0 k a1 a2 t272 true a0_0 a0_1 t266 a0_3 a0_4 t269))) else (patchbaylaw2_PathEncodes.j0 k a1 a2 t272 true a0_0 a0_1 t266 a0_3 a0_4 t269)) else (patchbaylaw2_PathEncodes.j0 k a1 a2 t272 true a0_0 a0_1 t266 a0_3 a0_4 t269))))) = some r := H
    have A7 := Aside0.mk A70
    clear A70
    replace H := Option.bind_eq_some_iff.mp H
    obtain ⟨t272, A80, H⟩ := H
    replace H : ((path_Encode.f k a0_0 a0_1 t266 a0_3 a0_4 t269).bind fun bt273 => ((path_Check.f k a0_0 a0_1 t266 a0_3 a0_4 t269).bind fun t275 => (if t275 = t272 then (if bt273.2 = t272 then (if t272 = 0 then ((patchbayref2_PathText.f k a0_0 a0_1 t266 a0_3 a0_4 t269).bind fun t276 => (patchbaylaw2_PathEncodes.j0 k a1 a2 t272 (bt273.1.toList != t276.toList) a0_0 a0_1 t266 a0_3 a0_4 t269)) else (if bt273.1.toList = ([] : List UInt8) then (patchbaylaw2_PathEncodes.j0 k a1 a2 t272 false a0_0 a0_1 t266 a0_3 a0_4 t269) else (patchbaylaw2_PathEncodes.j0 k a1 a2 t272 true a0_0 a0_1 t266 a0_3 a0_4 t269))) else (patchbaylaw2_PathEncodes.j0 k a1 a2 t272 true a0_0 a0_1 t266 a0_3 a0_4 t269)) else (patchbaylaw2_PathEncodes.j0 k a1 a2 t272 true a0_0 a0_1 t266 a0_3 a0_4 t269)))) = some r := H
    have A8 := Aside0.mk A80
    clear A80
    replace H := Option.bind_eq_some_iff.mp H
    obtain ⟨⟨t273, t274⟩, A90, H⟩ := H
    replace H : ((path_Check.f k a0_0 a0_1 t266 a0_3 a0_4 t269).bind fun t275 => (if t275 = t272 then (if t274 = t272 then (if t272 = 0 then ((patchbayref2_PathText.f k a0_0 a0_1 t266 a0_3 a0_4 t269).bind fun t276 => (patchbaylaw2_PathEncodes.j0 k a1 a2 t272 (t273.toList != t276.toList) a0_0 a0_1 t266 a0_3 a0_4 t269)) else (if t273.toList = ([] : List UInt8) then (patchbaylaw2_PathEncodes.j0 k a1 a2 t272 false a0_0 a0_1 t266 a0_3 a0_4 t269) else (patchbaylaw2_PathEncodes.j0 k a1 a2 t272 true a0_0 a0_1 t266 a0_3 a0_4 t269))) else (patchbaylaw2_PathEncodes.j0 k a1 a2 t272 true a0_0 a0_1 t266 a0_3 a0_4 t269)) else (patchbaylaw2_PathEncodes.j0 k a1 a2 t272 true a0_0 a0_1 t266 a0_3 a0_4 t269))) = some r := H
    have A9 := Aside0.mk A90
    clear A90
    have HC10 := Aside0.mk H
    clear H
    go_enter Try.func8, Try.ntmps8
    try go_wp2_with (first | ((with_reducible refine gate_dst (N := 3) rfl ?_); (try (refine gate_guard (by rfl) ?_; dsimp only)); refine box_event ?hg (N := 3) ?hd (cs := #[.int .u32 a0_0, .int .i64 a0_1, .slice A0_2 l0_2.length c0_2, .int .i64 a0_3, .int .i64 a0_4, .slice A0_5 l0_5.length c0_5]) (t := 51) ?hr ?_; (case hd => rfl); (case hg => rfl); (case hr => first | (go_simp; done) | (go_simp; rfl)); intro gb264 hg w11 hbox hb; have n0_ := Aside0.mk (below_step (by repeat (first | (with_reducible first | exact HB.out | apply below_alloc | apply pw_below_drewN | apply below_drew1) | exact HB.out)) hb); have n1_ := Aside0.mk (hbox); have n2_ := Aside0.mk ((by rw [hg]; exact (below_size (by repeat (first | (with_reducible first | exact HB.out | apply below_alloc | apply pw_below_drewN | apply below_drew1) | exact HB.out))) : w.heap.size ≤ gb264)); have n3_ := Aside0.mk ((by rw [hg]; exact (below_size (by repeat (first | (with_reducible first | exact HB.out | apply below_alloc | apply pw_below_drewN | apply below_drew1) | exact HB.out))) : w.heap.size ≤ gb264)); clear HB; have HB := n0_; have BK264 := n1_; have GW264 := n2_; have GE264 := n3_; clear n0_ n1_ n2_ n3_; clear hb hbox hg) | ((with_reducible refine gate_callee (f := 26) rfl ?_); refine goesL_ (some 17) rfl rfl Try.func26 (by kernel_rfl) rfl #[] rfl (by (try simp only [List.map_toArray, List.map_cons, List.map_nil]); first | done | rfl | (simp only [List.length_drop, List.length_take]; rfl)) ?_; (with_reducible refine (patchbaylaw2_pathLives.calls k  true _ A4.out).mono ?_); rintro e w12 ⟨rfl, hb⟩; refine ⟨_, rfl, ?_⟩; have n0_ := Aside0.mk (blk_below (g := gb264) (o := .cells #[.int .u32 a0_0, .int .i64 a0_1, .slice A0_2 l0_2.length c0_2, .int .i64 a0_3, .int .i64 a0_4, .slice A0_5 l0_5.length c0_5] 51 (0, 0)) (by (with_reducible repeat (first | refine blk_drewN ?_ _ | refine blk_drew ?_ | refine blk_alloc ?_ _)); exact BK264.out) hb); have n1_ := Aside0.mk (below_step (by repeat (first | (with_reducible first | exact HB.out | apply below_alloc | apply pw_below_drewN | apply below_drew1 | refine below_set ?_ GE264.out) | exact HB.out)) hb); clear BK264; clear HB; have BK264 := n0_; have HB := n1_; clear n0_ n1_; (try clear hb); (try clear hb2); (try clear hk); (try clear hi)))
    have n0_ := Aside0.mk (blk_drew BK264.out)
    have n1_ := Aside0.mk (below_drew1 HB.out)
    clear BK264
    clear HB
    have BK264 := n0_
    have HB := n1_
    clear n0_ n1_
    refine start_ (n := 10) (S := fun w' => w'.cell? ⟨gb264, 0, none⟩ = some (.int .u32 a0_0) ∧ w'.cell? ⟨gb264, 1, none⟩ = some (.int .i64 a0_1) ∧ w'.cell? ⟨gb264, 2, none⟩ = some (.slice A0_2 l0_2.length c0_2) ∧ w'.cell? ⟨gb264, 3, none⟩ = some (.int .i64 a0_3) ∧ w'.cell? ⟨gb264, 4, none⟩ = some (.int .i64 a0_4) ∧ w'.cell? ⟨gb264, 5, none⟩ = some (.slice A0_5 l0_5.length c0_5)) (ds := [7, 9]) #[false, false, false, false, false, false, false, false, false, false] (by kernel_rfl) rfl rfl ⟨(blk_cell BK264.out 0).trans rfl, (blk_cell BK264.out 1).trans rfl, (blk_cell BK264.out 2).trans rfl, (blk_cell BK264.out 3).trans rfl, (blk_cell BK264.out 4).trans rfl, (blk_cell BK264.out 5).trans rfl⟩ (fun hHeld => ?_); refine with_tabW patchbaylaw2_PathEncodes.tab3 patchbaylaw2_PathEncodes.bits3 (fun HT_ HW_ => ?_)
    generalize w12.drew = w13 at BK264 HB hHeld ⊢
    refine pure_ (i := 0) (N := some 19) (v := ?_) (a' := ?_) #[true, false, false, false, false, false, false, false, false, false] rfl rfl (any_of HT_.out (by kernel_rfl)) (fun _ _ _ h => h) (Or.inl ⟨by rfl, ?_⟩) ?_ ?_
    rotate_left
    · intro w'
      go_simp
      with_reducible rfl
    rotate_left
    · simp only [Act.put, List.setIfInBounds_toArray, List.set_cons_zero, List.set_cons_succ, i64_w, i32_w]
      rfl
    refine pure_ (i := 3) (N := some 22) (v := ?_) (a' := ?_) #[true, false, false, true, false, false, false, false, false, false] rfl rfl (any_of HT_.out (by kernel_rfl)) (fun _ _ _ h => h) (Or.inl ⟨by rfl, ?_⟩) ?_ ?_
    rotate_left
    · intro w'
      go_simp
      with_reducible rfl
    rotate_left
    · simp only [Act.put, List.setIfInBounds_toArray, List.set_cons_zero, List.set_cons_succ, i64_w, i32_w]
      rfl
    refine take_ (i := 1) (N := some 20) (v := ?_) (a' := ?_) #[true, true, false, true, false, false, false, false, false, false] rfl rfl (take_ofW HT_.out HW_.out (by kernel_rfl)) (fun _ _ _ h => h) (Or.inl ⟨by rfl, ?_⟩) hHeld ?_ ?_
    rotate_left
    · rintro w' ⟨s0, s1, s2, s3, s4, s5⟩
      go_simp
      with_reducible rfl
    rotate_left
    · simp only [Act.put, List.setIfInBounds_toArray, List.set_cons_zero, List.set_cons_succ, i64_w, i32_w]
      rfl
    refine take_ (i := 4) (N := some 23) (v := ?_) (a' := ?_) #[true, true, false, true, true, false, false, false, false, false] rfl rfl (take_ofW HT_.out HW_.out (by kernel_rfl)) (fun _ _ _ h => h) (Or.inl ⟨by rfl, ?_⟩) hHeld ?_ ?_
    rotate_left
    · rintro w' ⟨s0, s1, s2, s3, s4, s5⟩
      go_simp
      with_reducible rfl
    rotate_left
    · simp only [Act.put, List.setIfInBounds_toArray, List.set_cons_zero, List.set_cons_succ, i64_w, i32_w]
      rfl
    refine one_ (i := 2) (N := some 21) #[true, true, true, true, true, false, false, false, false, false] rfl rfl (one_of HT_.out (by kernel_rfl)) (by decide) (fun K hK => ?_)
    refine goes_ Try.func49 (by kernel_rfl) rfl #[.slice A0_2 l0_2.length c0_2, .int .i64 34] (by rfl) rfl rfl (by (try simp only [List.map_toArray, List.map_cons, List.map_nil]); first | done | rfl | (simp only [List.length_drop, List.length_take]; rfl)) ?_
    with_reducible refine (patchbaylaw2_some_int.calls (fun k_ => k_ < w.heap.size) _ _ l0_2 34 t266 _ ?side1 A6.out).mono ?_
    (case side1 => exact Kd.V_mk HC0_2.out (Kd.F_below (Kd.C_F (Kd.heap_int .i64) HR0_2.out) (by repeat (first | (with_reducible first | exact HB.out | apply below_alloc | apply pw_below_drewN | apply below_drew1 | refine below_set ?_ GE264.out) | exact HB.out))))
    rintro e w14 ⟨v267, rfl, ho0, hb⟩
    refine ⟨_, rfl, ?_⟩
    have n0_ := Aside0.mk (Kd.V_lower (Kd.V_mono (ok' := fun k_ => k_ ≠ gb264) ho0 (fun k_ hk_ => Or.elim hk_ (fun hs_ => fun e_ => Nat.not_le.2 hs_ (by rw [e_]; exact GW264.out)) (fun hn_ => (Kd.freshB (g := gb264) (o := .cells #[.int .u32 a0_0, .int .i64 a0_1, .slice A0_2 l0_2.length c0_2, .int .i64 a0_3, .int .i64 a0_4, .slice A0_5 l0_5.length c0_5] 51 (0, 0)) (by (with_reducible repeat (first | refine blk_drewN ?_ _ | refine blk_drew ?_ | refine blk_alloc ?_ _)); exact BK264.out) k_ hn_)))) (below_size (by repeat (first | (with_reducible first | exact HB.out | apply below_alloc | apply pw_below_drewN | apply below_drew1 | refine below_set ?_ GE264.out) | exact HB.out))))
    have n1_ := Aside0.mk (blk_below (g := gb264) (o := .cells #[.int .u32 a0_0, .int .i64 a0_1, .slice A0_2 l0_2.length c0_2, .int .i64 a0_3, .int .i64 a0_4, .slice A0_5 l0_5.length c0_5] 51 (0, 0)) (by (with_reducible repeat (first | refine blk_drewN ?_ _ | refine blk_drew ?_ | refine blk_alloc ?_ _)); exact BK264.out) hb)
    have n2_ := Aside0.mk (below_step (by repeat (first | (with_reducible first | exact HB.out | apply below_alloc | apply pw_below_drewN | apply below_drew1 | refine below_set ?_ GE264.out) | exact HB.out)) hb)
    clear BK264
    clear HB
    have HO268 := n0_
    have BK264 := n1_
    have HB := n2_
    clear n0_ n1_ n2_
    (try clear hb)
    (try clear hb2)
    (try clear hk)
    (try clear hi)
    (try clear ho0)
    refine hK.out _ _ ⟨(blk_cell BK264.out 0).trans rfl, (blk_cell BK264.out 1).trans rfl, (blk_cell BK264.out 2).trans rfl, (blk_cell BK264.out 3).trans rfl, (blk_cell BK264.out 4).trans rfl, (blk_cell BK264.out 5).trans rfl⟩ (fun hHeld => ?_)
    clear hK K
    refine norm_ (a' := ?_) ?_ ?_
    rotate_left
    · show Act.put _ (some 21) _ = _
      simp only [Act.put, List.setIfInBounds_toArray, List.set_cons_zero, List.set_cons_succ, i64_w, i32_w]
      rfl
    refine pure_ (i := 6) (N := some 25) (v := ?_) (a' := ?_) #[true, true, true, true, true, false, true, false, false, false] rfl rfl (any_of HT_.out (by kernel_rfl)) (fun _ _ _ h => h) (Or.inl ⟨by rfl, ?_⟩) ?_ ?_
    rotate_left
    · intro w'
      go_simp
      with_reducible rfl
    rotate_left
    · simp only [Act.put, List.setIfInBounds_toArray, List.set_cons_zero, List.set_cons_succ, i64_w, i32_w]
      rfl
    refine one_ (i := 5) (N := some 24) #[true, true, true, true, true, true, true, false, false, false] rfl rfl (one_of HT_.out (by kernel_rfl)) (by decide) (fun K hK => ?_)
    refine goes_ Try.func49 (by kernel_rfl) rfl #[.slice A0_5 l0_5.length c0_5, .int .i64 10] (by rfl) rfl rfl (by (try simp only [List.map_toArray, List.map_cons, List.map_nil]); first | done | rfl | (simp only [List.length_drop, List.length_take]; rfl)) ?_
    with_reducible refine (patchbaylaw2_some_int.calls (fun k_ => k_ < w.heap.size) _ _ l0_5 10 t269 _ ?side1 A7.out).mono ?_
    (case side1 => exact Kd.V_mk HC0_5.out (Kd.F_below (Kd.C_F (Kd.heap_int .i64) HR0_5.out) (by repeat (first | (with_reducible first | exact HB.out | apply below_alloc | apply pw_below_drewN | apply below_drew1 | refine below_set ?_ GE264.out) | exact HB.out))))
    rintro e w15 ⟨v270, rfl, ho0, hb⟩
    refine ⟨_, rfl, ?_⟩
    have n0_ := Aside0.mk (Kd.V_below (by (with_reducible repeat (first | apply Kd.V_alloc | apply Kd.V_drewN | apply Kd.V_drew)); exact HO268.out) hb)
    have n1_ := Aside0.mk (Kd.V_lower (Kd.V_mono (ok' := fun k_ => k_ ≠ gb264) ho0 (fun k_ hk_ => Or.elim hk_ (fun hs_ => fun e_ => Nat.not_le.2 hs_ (by rw [e_]; exact GW264.out)) (fun hn_ => (Kd.freshB (g := gb264) (o := .cells #[.int .u32 a0_0, .int .i64 a0_1, .slice A0_2 l0_2.length c0_2, .int .i64 a0_3, .int .i64 a0_4, .slice A0_5 l0_5.length c0_5] 51 (0, 0)) (by (with_reducible repeat (first | refine blk_drewN ?_ _ | refine blk_drew ?_ | refine blk_alloc ?_ _)); exact BK264.out) k_ hn_)))) (below_size (by repeat (first | (with_reducible first | exact HB.out | apply below_alloc | apply pw_below_drewN | apply below_drew1 | refine below_set ?_ GE264.out) | exact HB.out))))
    have n2_ := Aside0.mk (blk_below (g := gb264) (o := .cells #[.int .u32 a0_0, .int .i64 a0_1, .slice A0_2 l0_2.length c0_2, .int .i64 a0_3, .int .i64 a0_4, .slice A0_5 l0_5.length c0_5] 51 (0, 0)) (by (with_reducible repeat (first | refine blk_drewN ?_ _ | refine blk_drew ?_ | refine blk_alloc ?_ _)); exact BK264.out) hb)
    have n3_ := Aside0.mk (below_step (by repeat (first | (with_reducible first | exact HB.out | apply below_alloc | apply pw_below_drewN | apply below_drew1 | refine below_set ?_ GE264.out) | exact HB.out)) hb)
    clear HO268
    clear BK264
    clear HB
    have HO268 := n0_
    have HO271 := n1_
    have BK264 := n2_
    have HB := n3_
    clear n0_ n1_ n2_ n3_
    (try clear hb)
    (try clear hb2)
    (try clear hk)
    (try clear hi)
    (try clear ho0)
    obtain ⟨Ao16, co16, eo16⟩ := Kd.V_slice HO268.out
    (first | subst eo16 | (injection eo16 with f1_ f2_ f3_; have f4_ := f1_.symm; have f5_ := f3_.symm; clear f1_ f2_ f3_; subst f4_; subst f5_))
    obtain ⟨Ao18, co18, eo18⟩ := Kd.V_slice HO271.out
    (first | subst eo18 | (injection eo18 with f1_ f2_ f3_; have f4_ := f1_.symm; have f5_ := f3_.symm; clear f1_ f2_ f3_; subst f4_; subst f5_))
    refine hK.out _ _ ⟨(blk_cell BK264.out 0).trans rfl, (blk_cell BK264.out 1).trans rfl, (blk_cell BK264.out 2).trans rfl, (blk_cell BK264.out 3).trans rfl, (blk_cell BK264.out 4).trans rfl, (blk_cell BK264.out 5).trans rfl⟩ (fun hHeld => ?_)
    clear hK K
    refine norm_ (a' := ?_) ?_ ?_
    rotate_left
    · show Act.put _ (some 24) _ = _
      simp only [Act.put, List.setIfInBounds_toArray, List.set_cons_zero, List.set_cons_succ, i64_w, i32_w]
      rfl
    refine last_ (i := 7) (N := none) #[true, true, true, true, true, true, true, true, false, false] rfl rfl (one_of HT_.out (by kernel_rfl)) (by decide) (fun K hK => ?_)
    have hs17 : w15.cell? ⟨gb264, 2, none⟩ = some (.slice A0_2 l0_2.length c0_2) := (blk_cell BK264.out 2).trans rfl
    have hfs17 := blk_frozen BK264.out 2
    refine skip_ (w1 := ?_) (by rfl) rfl ?_ ?_
    rotate_left
    · go_simp
      rfl
    refine hK.out _ _ ?_
    clear hK K
    refine pure_ (i := 8) (N := some 26) (v := ?_) (a' := ?_) #[true, true, true, true, true, true, true, true, true, false] rfl rfl (any_of HT_.out (by kernel_rfl)) (fun _ _ _ h => h) (Or.inl ⟨by rfl, ?_⟩) ?_ ?_
    rotate_left
    · intro w'
      go_simp
      with_reducible rfl
    rotate_left
    · simp only [Act.put, List.setIfInBounds_toArray, List.set_cons_zero, List.set_cons_succ, i64_w, i32_w]
      rfl
    refine last_ (i := 9) (N := none) #[true, true, true, true, true, true, true, true, true, true] rfl rfl (one_of HT_.out (by kernel_rfl)) (by decide) (fun K hK => ?_)
    have hs19 : w15.cell? ⟨gb264, 5, none⟩ = some (.slice A0_5 l0_5.length c0_5) := (blk_cell BK264.out 5).trans rfl
    have hfs19 := blk_frozen BK264.out 5
    refine skip_ (w1 := ?_) (by rfl) rfl ?_ ?_
    rotate_left
    · go_simp
      rfl
    refine hK.out _ _ ?_
    clear hK K
    refine done_ (done_of HT_.out (by kernel_rfl)) ?_
    have n0_ : Aside0 (Kd.V (Kd.int .i64) 3 ((w15.setCell ⟨gb264, 2, none⟩ (.slice Ao16 t266.length co16)).setCell ⟨gb264, 5, none⟩ (.slice Ao18 t269.length co18)) w.heap.size (fun k_ => k_ ≠ gb264) (.slice Ao16 t266.length co16) t266) := ⟨by (with_reducible repeat (first | apply Kd.V_alloc | apply Kd.V_drewN | apply Kd.V_drew)); exact Kd.V_mono (Kd.V_far (p := ⟨gb264, 5, none⟩) (Kd.V_far (p := ⟨gb264, 2, none⟩) (Kd.V_mono HO268.out (fun k_ hk => (⟨hk, hk⟩ : _ ∧ k_ ≠ gb264))) (fun _ hk => hk.2) (.slice Ao16 t266.length co16)) (fun _ hk => hk.2) (.slice Ao18 t269.length co18)) (fun _ hk => hk.1)⟩
    have n1_ : Aside0 (Kd.V (Kd.int .i64) 3 ((w15.setCell ⟨gb264, 2, none⟩ (.slice Ao16 t266.length co16)).setCell ⟨gb264, 5, none⟩ (.slice Ao18 t269.length co18)) w.heap.size (fun k_ => k_ ≠ gb264) (.slice Ao18 t269.length co18) t269) := ⟨by (with_reducible repeat (first | apply Kd.V_alloc | apply Kd.V_drewN | apply Kd.V_drew)); exact Kd.V_mono (Kd.V_far (p := ⟨gb264, 5, none⟩) (Kd.V_far (p := ⟨gb264, 2, none⟩) (Kd.V_mono HO271.out (fun k_ hk => (⟨hk, hk⟩ : _ ∧ k_ ≠ gb264))) (fun _ hk => hk.2) (.slice Ao16 t266.length co16)) (fun _ hk => hk.2) (.slice Ao18 t269.length co18)) (fun _ hk => hk.1)⟩
    have n2_ : Aside0 (((w15.setCell ⟨gb264, 2, none⟩ (.slice Ao16 t266.length co16)).setCell ⟨gb264, 5, none⟩ (.slice Ao18 t269.length co18)).heap[gb264]? = some (.cells #[.int .u32 a0_0, .int .i64 a0_1, .slice Ao16 t266.length co16, .int .i64 a0_3, .int .i64 a0_4, .slice Ao18 t269.length co18] 51 (0, 0))) := ⟨by (with_reducible repeat (first | refine blk_drewN ?_ _ | refine blk_drew ?_ | refine blk_alloc ?_ _)); refine blk_put (cs := #[.int .u32 a0_0, .int .i64 a0_1, .slice Ao16 t266.length co16, .int .i64 a0_3, .int .i64 a0_4, .slice A0_5 l0_5.length c0_5]) ?_ 5 _ rfl; (with_reducible repeat (first | refine blk_drewN ?_ _ | refine blk_drew ?_ | refine blk_alloc ?_ _)); refine blk_put (cs := #[.int .u32 a0_0, .int .i64 a0_1, .slice A0_2 l0_2.length c0_2, .int .i64 a0_3, .int .i64 a0_4, .slice A0_5 l0_5.length c0_5]) ?_ 2 _ rfl; (with_reducible repeat (first | refine blk_drewN ?_ _ | refine blk_drew ?_ | refine blk_alloc ?_ _)); exact BK264.out⟩
    have n3_ : Aside0 (Below w.heap.size w ((w15.setCell ⟨gb264, 2, none⟩ (.slice Ao16 t266.length co16)).setCell ⟨gb264, 5, none⟩ (.slice Ao18 t269.length co18))) := ⟨by repeat (first | (with_reducible first | exact HB.out | apply below_alloc | apply pw_below_drewN | apply below_drew1 | refine below_set ?_ GE264.out) | exact HB.out)⟩
    (try clear HO268)
    (try clear HO271)
    (try clear BK264)
    (try clear HB)
    generalize ((w15.setCell ⟨gb264, 2, none⟩ (.slice Ao16 t266.length co16)).setCell ⟨gb264, 5, none⟩ (.slice Ao18 t269.length co18)) = w20 at n0_ n1_ n2_ n3_ ⊢
    have HO268 := n0_
    have HO271 := n1_
    have BK264 := n2_
    have HB := n3_
    clear n0_ n1_ n2_ n3_
    have hcz21_0 : w20.cell? ⟨gb264, 0, none⟩ = some (.int .u32 a0_0) := (blk_cell BK264.out 0).trans rfl
    have hcz21_1 : w20.cell? ⟨gb264, 1, none⟩ = some (.int .i64 a0_1) := (blk_cell BK264.out 1).trans rfl
    have hcz21_2 : w20.cell? ⟨gb264, 2, none⟩ = some (.slice Ao16 t266.length co16) := (blk_cell BK264.out 2).trans rfl
    have hcz21_3 : w20.cell? ⟨gb264, 3, none⟩ = some (.int .i64 a0_3) := (blk_cell BK264.out 3).trans rfl
    have hcz21_4 : w20.cell? ⟨gb264, 4, none⟩ = some (.int .i64 a0_4) := (blk_cell BK264.out 4).trans rfl
    have hcz21_5 : w20.cell? ⟨gb264, 5, none⟩ = some (.slice Ao18 t269.length co18) := (blk_cell BK264.out 5).trans rfl
    have hfz21_0 := blk_frozen BK264.out 0
    have hfz21_1 := blk_frozen BK264.out 1
    have hfz21_2 := blk_frozen BK264.out 2
    have hfz21_3 := blk_frozen BK264.out 3
    have hfz21_4 := blk_frozen BK264.out 4
    have hfz21_5 := blk_frozen BK264.out 5
    go_upto_region 6 with (first | ((with_reducible refine gate_callee (f := 50) rfl ?_); refine goesL_ (some 28) rfl rfl Try.func50 (by kernel_rfl) rfl #[.agg #[.int .u32 a0_0, .int .i64 a0_1, .slice Ao16 t266.length co16, .int .i64 a0_3, .int .i64 a0_4, .slice Ao18 t269.length co18]] rfl (by (try simp only [List.map_toArray, List.map_cons, List.map_nil]); first | done | rfl | (simp only [List.length_drop, List.length_take]; rfl)) ?_; (with_reducible refine (patchbayref2_PathFault.calls k a0_0 a0_1 (fun k_ => k_ ≠ gb264) _ _ t266 a0_3 a0_4 (fun k_ => k_ ≠ gb264) _ _ t269 t272 _ ?side1 ?side2 A8.out).mono ?_); (case side1 => exact HO268.out); (case side2 => exact HO271.out); rintro e w22 ⟨rfl, hb⟩; refine ⟨_, rfl, ?_⟩; have n0_ := Aside0.mk (Kd.V_below (by (with_reducible repeat (first | apply Kd.V_alloc | apply Kd.V_drewN | apply Kd.V_drew)); exact HO268.out) hb); have n1_ := Aside0.mk (Kd.V_below (by (with_reducible repeat (first | apply Kd.V_alloc | apply Kd.V_drewN | apply Kd.V_drew)); exact HO271.out) hb); have n2_ := Aside0.mk (blk_below (g := gb264) (o := .cells #[.int .u32 a0_0, .int .i64 a0_1, .slice Ao16 t266.length co16, .int .i64 a0_3, .int .i64 a0_4, .slice Ao18 t269.length co18] 51 (0, 0)) (by (with_reducible repeat (first | refine blk_drewN ?_ _ | refine blk_drew ?_ | refine blk_alloc ?_ _)); exact BK264.out) hb); have n3_ := Aside0.mk (below_step (by repeat (first | (with_reducible first | exact HB.out | apply below_alloc | apply pw_below_drewN | apply below_drew1 | refine below_set ?_ GE264.out) | exact HB.out)) hb); clear HO268; clear HO271; clear BK264; clear HB; have HO268 := n0_; have HO271 := n1_; have BK264 := n2_; have HB := n3_; clear n0_ n1_ n2_ n3_; (try clear hb); (try clear hb2); (try clear hk); (try clear hi); have hcz23_0 : w22.cell? ⟨gb264, 0, none⟩ = some (.int .u32 a0_0) := (blk_cell BK264.out 0).trans rfl; have hcz23_1 : w22.cell? ⟨gb264, 1, none⟩ = some (.int .i64 a0_1) := (blk_cell BK264.out 1).trans rfl; have hcz23_2 : w22.cell? ⟨gb264, 2, none⟩ = some (.slice Ao16 t266.length co16) := (blk_cell BK264.out 2).trans rfl; have hcz23_3 : w22.cell? ⟨gb264, 3, none⟩ = some (.int .i64 a0_3) := (blk_cell BK264.out 3).trans rfl; have hcz23_4 : w22.cell? ⟨gb264, 4, none⟩ = some (.int .i64 a0_4) := (blk_cell BK264.out 4).trans rfl; have hcz23_5 : w22.cell? ⟨gb264, 5, none⟩ = some (.slice Ao18 t269.length co18) := (blk_cell BK264.out 5).trans rfl; have hfz23_0 := blk_frozen BK264.out 0; have hfz23_1 := blk_frozen BK264.out 1; have hfz23_2 := blk_frozen BK264.out 2; have hfz23_3 := blk_frozen BK264.out 3; have hfz23_4 := blk_frozen BK264.out 4; have hfz23_5 := blk_frozen BK264.out 5) | ((with_reducible refine gate_callee (f := 51) rfl ?_); refine goesL_ (some 31) rfl rfl Try.func51 (by kernel_rfl) rfl #[.agg #[.int .u32 a0_0, .int .i64 a0_1, .slice Ao16 t266.length co16, .int .i64 a0_3, .int .i64 a0_4, .slice Ao18 t269.length co18]] rfl (by (try simp only [List.map_toArray, List.map_cons, List.map_nil]); first | done | rfl | (simp only [List.length_drop, List.length_take]; rfl)) ?_; (with_reducible refine (path_Encode.calls k a0_0 a0_1 (fun k_ => k_ ≠ gb264) _ _ t266 a0_3 a0_4 (fun k_ => k_ ≠ gb264) _ _ t269 t273 t274 _ ?side1 ?side2 A9.out).mono ?_); (case side1 => exact HO268.out); (case side2 => exact HO271.out); rintro e w24 ⟨rfl, hb⟩; refine ⟨_, rfl, ?_⟩; have n0_ := Aside0.mk (Kd.V_below (by (with_reducible repeat (first | apply Kd.V_alloc | apply Kd.V_drewN | apply Kd.V_drew)); exact HO268.out) hb); have n1_ := Aside0.mk (Kd.V_below (by (with_reducible repeat (first | apply Kd.V_alloc | apply Kd.V_drewN | apply Kd.V_drew)); exact HO271.out) hb); have n2_ := Aside0.mk (blk_below (g := gb264) (o := .cells #[.int .u32 a0_0, .int .i64 a0_1, .slice Ao16 t266.length co16, .int .i64 a0_3, .int .i64 a0_4, .slice Ao18 t269.length co18] 51 (0, 0)) (by (with_reducible repeat (first | refine blk_drewN ?_ _ | refine blk_drew ?_ | refine blk_alloc ?_ _)); exact BK264.out) hb); have n3_ := Aside0.mk (below_step (by repeat (first | (with_reducible first | exact HB.out | apply below_alloc | apply pw_below_drewN | apply below_drew1 | refine below_set ?_ GE264.out) | exact HB.out)) hb); clear HO268; clear HO271; clear BK264; clear HB; have HO268 := n0_; have HO271 := n1_; have BK264 := n2_; have HB := n3_; clear n0_ n1_ n2_ n3_; (try clear hb); (try clear hb2); (try clear hk); (try clear hi)))
    (try simp only [Act.put, List.setIfInBounds_toArray, List.set_cons_zero, List.set_cons_succ])
    go_cut [60] (fun v60 wc => ∃ (kq : Nat) (x60_9 : Bool), v60 = .bool x60_9 ∧ Aside0 (patchbaylaw2_PathEncodes.j0 kq a1 a2 t272 x60_9 a0_0 a0_1 t266 a0_3 a0_4 t269 = some r) ∧ Aside0 (kq ≤ k) ∧ Aside0 (Kd.V (Kd.int .i64) 3 wc w.heap.size (fun k_ => k_ ≠ gb264) (.slice Ao16 t266.length co16) t266) ∧ Aside0 (Kd.V (Kd.int .i64) 3 wc w.heap.size (fun k_ => k_ ≠ gb264) (.slice Ao18 t269.length co18) t269) ∧ Aside0 (wc.heap[gb264]? = some (.cells #[.int .u32 a0_0, .int .i64 a0_1, (.slice Ao16 t266.length co16), .int .i64 a0_3, .int .i64 a0_4, (.slice Ao18 t269.length co18)] 51 (0, 0))) ∧ Aside0 (Below w.heap.size w wc))
    case first => as_aux_lemma =>
      have H := HC10.out
      clear HC10
      replace H := Option.bind_eq_some_iff.mp H
      obtain ⟨t275, A250, H⟩ := H
      replace H : (if t275 = t272 then (if t274 = t272 then (if t272 = 0 then ((patchbayref2_PathText.f k a0_0 a0_1 t266 a0_3 a0_4 t269).bind fun t276 => (patchbaylaw2_PathEncodes.j0 k a1 a2 t272 (t273.toList != t276.toList) a0_0 a0_1 t266 a0_3 a0_4 t269)) else (if t273.toList = ([] : List UInt8) then (patchbaylaw2_PathEncodes.j0 k a1 a2 t272 false a0_0 a0_1 t266 a0_3 a0_4 t269) else (patchbaylaw2_PathEncodes.j0 k a1 a2 t272 true a0_0 a0_1 t266 a0_3 a0_4 t269))) else (patchbaylaw2_PathEncodes.j0 k a1 a2 t272 true a0_0 a0_1 t266 a0_3 a0_4 t269)) else (patchbaylaw2_PathEncodes.j0 k a1 a2 t272 true a0_0 a0_1 t266 a0_3 a0_4 t269)) = some r := H
      have A25 := Aside0.mk A250
      clear A250
      by_cases c26 : t275 = t272
      · rw [if_pos c26] at H
        have c26b0 : (t275 == t272) = true := beq_iff_eq.mpr c26
        have c26b1 : (t275 != t272) = false := bne_eq_false_iff_eq.mpr c26
        clear c26
        (first | rw [c26b0] | (simp only [i64_w, i32_w]; rw [c26b0]) | skip)
        by_cases c27 : t274 = t272
        · rw [if_pos c27] at H
          have c27b0 : (t274 == t272) = true := beq_iff_eq.mpr c27
          have c27b1 : (t274 != t272) = false := bne_eq_false_iff_eq.mpr c27
          clear c27
          by_cases c28 : t272 = 0
          · rw [if_pos c28] at H
            have c28b0 : (t272 == 0) = true := beq_iff_eq.mpr c28
            have c28b1 : (t272 != 0) = false := bne_eq_false_iff_eq.mpr c28
            clear c28
            replace H := Option.bind_eq_some_iff.mp H
            obtain ⟨t276, A290, H⟩ := H
            replace H : (patchbaylaw2_PathEncodes.j0 k a1 a2 t272 (t273.toList != t276.toList) a0_0 a0_1 t266 a0_3 a0_4 t269) = some r := H
            have A29 := Aside0.mk A290
            clear A290
            have H' := Aside0.mk H
            clear H
            have hcz30_0 : w24.cell? ⟨gb264, 0, none⟩ = some (.int .u32 a0_0) := (blk_cell BK264.out 0).trans rfl
            have hcz30_1 : w24.cell? ⟨gb264, 1, none⟩ = some (.int .i64 a0_1) := (blk_cell BK264.out 1).trans rfl
            have hcz30_2 : w24.cell? ⟨gb264, 2, none⟩ = some (.slice Ao16 t266.length co16) := (blk_cell BK264.out 2).trans rfl
            have hcz30_3 : w24.cell? ⟨gb264, 3, none⟩ = some (.int .i64 a0_3) := (blk_cell BK264.out 3).trans rfl
            have hcz30_4 : w24.cell? ⟨gb264, 4, none⟩ = some (.int .i64 a0_4) := (blk_cell BK264.out 4).trans rfl
            have hcz30_5 : w24.cell? ⟨gb264, 5, none⟩ = some (.slice Ao18 t269.length co18) := (blk_cell BK264.out 5).trans rfl
            have hfz30_0 := blk_frozen BK264.out 0
            have hfz30_1 := blk_frozen BK264.out 1
            have hfz30_2 := blk_frozen BK264.out 2
            have hfz30_3 := blk_frozen BK264.out 3
            have hfz30_4 := blk_frozen BK264.out 4
            have hfz30_5 := blk_frozen BK264.out 5
            go_wp2_with (first | ((with_reducible refine gate_callee (f := 52) rfl ?_); refine goesL_ (some 35) rfl rfl Try.func52 (by kernel_rfl) rfl #[.agg #[.int .u32 a0_0, .int .i64 a0_1, .slice Ao16 t266.length co16, .int .i64 a0_3, .int .i64 a0_4, .slice Ao18 t269.length co18]] rfl (by (try simp only [List.map_toArray, List.map_cons, List.map_nil]); first | done | rfl | (simp only [List.length_drop, List.length_take]; rfl)) ?_; (with_reducible refine (path_Check.calls k a0_0 a0_1 _ _ t266 a0_3 a0_4 _ _ t269 t275 _ ?side1 ?side2 ?side3 ?side4 A25.out).mono ?_); (case side1 => repeat (first | exact (Kd.V_reads' HO268.out).2.2 | (with_reducible refine Kd.C_alloc ?_ _) | (with_reducible refine Kd.C_drewN ?_ _) | (with_reducible refine Kd.C_drew ?_))); (case side2 => exact (Kd.V_reads' HO268.out).2.1); (case side3 => repeat (first | exact (Kd.V_reads' HO271.out).2.2 | (with_reducible refine Kd.C_alloc ?_ _) | (with_reducible refine Kd.C_drewN ?_ _) | (with_reducible refine Kd.C_drew ?_))); (case side4 => exact (Kd.V_reads' HO271.out).2.1); rintro e w31 ⟨rfl, hb⟩; refine ⟨_, rfl, ?_⟩; have n0_ := Aside0.mk (Kd.V_below (by (with_reducible repeat (first | apply Kd.V_alloc | apply Kd.V_drewN | apply Kd.V_drew)); exact HO268.out) hb); have n1_ := Aside0.mk (Kd.V_below (by (with_reducible repeat (first | apply Kd.V_alloc | apply Kd.V_drewN | apply Kd.V_drew)); exact HO271.out) hb); have n2_ := Aside0.mk (blk_below (g := gb264) (o := .cells #[.int .u32 a0_0, .int .i64 a0_1, .slice Ao16 t266.length co16, .int .i64 a0_3, .int .i64 a0_4, .slice Ao18 t269.length co18] 51 (0, 0)) (by (with_reducible repeat (first | refine blk_drewN ?_ _ | refine blk_drew ?_ | refine blk_alloc ?_ _)); exact BK264.out) hb); have n3_ := Aside0.mk (below_step (by repeat (first | (with_reducible first | exact HB.out | apply below_alloc | apply pw_below_drewN | apply below_drew1 | refine below_set ?_ GE264.out) | exact HB.out)) hb); clear HO268; clear HO271; clear BK264; clear HB; have HO268 := n0_; have HO271 := n1_; have BK264 := n2_; have HB := n3_; clear n0_ n1_ n2_ n3_; (try clear hb); (try clear hb2); (try clear hk); (try clear hi); have hcz32_0 : w31.cell? ⟨gb264, 0, none⟩ = some (.int .u32 a0_0) := (blk_cell BK264.out 0).trans rfl; have hcz32_1 : w31.cell? ⟨gb264, 1, none⟩ = some (.int .i64 a0_1) := (blk_cell BK264.out 1).trans rfl; have hcz32_2 : w31.cell? ⟨gb264, 2, none⟩ = some (.slice Ao16 t266.length co16) := (blk_cell BK264.out 2).trans rfl; have hcz32_3 : w31.cell? ⟨gb264, 3, none⟩ = some (.int .i64 a0_3) := (blk_cell BK264.out 3).trans rfl; have hcz32_4 : w31.cell? ⟨gb264, 4, none⟩ = some (.int .i64 a0_4) := (blk_cell BK264.out 4).trans rfl; have hcz32_5 : w31.cell? ⟨gb264, 5, none⟩ = some (.slice Ao18 t269.length co18) := (blk_cell BK264.out 5).trans rfl; have hfz32_0 := blk_frozen BK264.out 0; have hfz32_1 := blk_frozen BK264.out 1; have hfz32_2 := blk_frozen BK264.out 2; have hfz32_3 := blk_frozen BK264.out 3; have hfz32_4 := blk_frozen BK264.out 4; have hfz32_5 := blk_frozen BK264.out 5) | (go_at_call 53; (with_reducible refine (patchbayref2_PathText.calls k a0_0 a0_1 (fun k_ => k_ ≠ gb264) _ _ t266 a0_3 a0_4 (fun k_ => k_ ≠ gb264) _ _ t269 t276 _ ?side1 ?side2 A29.out).mono ?_); (case side1 => exact HO268.out); (case side2 => exact HO271.out); rintro e w33 ⟨rfl, hb⟩; have n0_ := Aside0.mk (Kd.V_below (by (with_reducible repeat (first | apply Kd.V_alloc | apply Kd.V_drewN | apply Kd.V_drew)); exact HO268.out) hb); have n1_ := Aside0.mk (Kd.V_below (by (with_reducible repeat (first | apply Kd.V_alloc | apply Kd.V_drewN | apply Kd.V_drew)); exact HO271.out) hb); have n2_ := Aside0.mk (blk_below (g := gb264) (o := .cells #[.int .u32 a0_0, .int .i64 a0_1, .slice Ao16 t266.length co16, .int .i64 a0_3, .int .i64 a0_4, .slice Ao18 t269.length co18] 51 (0, 0)) (by (with_reducible repeat (first | refine blk_drewN ?_ _ | refine blk_drew ?_ | refine blk_alloc ?_ _)); exact BK264.out) hb); have n3_ := Aside0.mk (below_step (by repeat (first | (with_reducible first | exact HB.out | apply below_alloc | apply pw_below_drewN | apply below_drew1 | refine below_set ?_ GE264.out) | exact HB.out)) hb); clear HO268; clear HO271; clear BK264; clear HB; have HO268 := n0_; have HO271 := n1_; have BK264 := n2_; have HB := n3_; clear n0_ n1_ n2_ n3_; (try clear hb); (try clear hb2); (try clear hk); (try clear hi)))
            go_meet
            case rel => exact ⟨_, ((t273.toList != t276.toList)), (by first | rfl | (simp; done) | (simp [*]; done)), H', ⟨by first | omega | exact Nat.le_refl _⟩, ⟨by (with_reducible repeat (first | apply Kd.V_alloc | apply Kd.V_drewN | apply Kd.V_drew)); exact HO268.out⟩, ⟨by (with_reducible repeat (first | apply Kd.V_alloc | apply Kd.V_drewN | apply Kd.V_drew)); exact HO271.out⟩, ⟨by (with_reducible repeat (first | refine blk_drewN ?_ _ | refine blk_drew ?_ | refine blk_alloc ?_ _)); exact BK264.out⟩, ⟨by repeat (first | (with_reducible first | exact HB.out | apply below_alloc | apply pw_below_drewN | apply below_drew1 | refine below_set ?_ GE264.out) | exact HB.out)⟩⟩
          · rw [if_neg c28] at H
            have c28b0 : (t272 == 0) = false := beq_eq_false_iff_ne.mpr c28
            have c28b1 : (t272 != 0) = true := bne_iff_ne.mpr c28
            by_cases c34 : t273.toList = ([] : List UInt8)
            · rw [if_pos c34] at H
              have c34b0 : (t273.toList == ([] : List UInt8)) = true := beq_iff_eq.mpr c34
              have c34b1 : (t273.toList != ([] : List UInt8)) = false := bne_eq_false_iff_eq.mpr c34
              clear c34
              have H' := Aside0.mk H
              clear H
              have hcz35_0 : w24.cell? ⟨gb264, 0, none⟩ = some (.int .u32 a0_0) := (blk_cell BK264.out 0).trans rfl
              have hcz35_1 : w24.cell? ⟨gb264, 1, none⟩ = some (.int .i64 a0_1) := (blk_cell BK264.out 1).trans rfl
              have hcz35_2 : w24.cell? ⟨gb264, 2, none⟩ = some (.slice Ao16 t266.length co16) := (blk_cell BK264.out 2).trans rfl
              have hcz35_3 : w24.cell? ⟨gb264, 3, none⟩ = some (.int .i64 a0_3) := (blk_cell BK264.out 3).trans rfl
              have hcz35_4 : w24.cell? ⟨gb264, 4, none⟩ = some (.int .i64 a0_4) := (blk_cell BK264.out 4).trans rfl
              have hcz35_5 : w24.cell? ⟨gb264, 5, none⟩ = some (.slice Ao18 t269.length co18) := (blk_cell BK264.out 5).trans rfl
              have hfz35_0 := blk_frozen BK264.out 0
              have hfz35_1 := blk_frozen BK264.out 1
              have hfz35_2 := blk_frozen BK264.out 2
              have hfz35_3 := blk_frozen BK264.out 3
              have hfz35_4 := blk_frozen BK264.out 4
              have hfz35_5 := blk_frozen BK264.out 5
              go_wp2_with (first | ((with_reducible refine gate_callee (f := 52) rfl ?_); refine goesL_ (some 35) rfl rfl Try.func52 (by kernel_rfl) rfl #[.agg #[.int .u32 a0_0, .int .i64 a0_1, .slice Ao16 t266.length co16, .int .i64 a0_3, .int .i64 a0_4, .slice Ao18 t269.length co18]] rfl (by (try simp only [List.map_toArray, List.map_cons, List.map_nil]); first | done | rfl | (simp only [List.length_drop, List.length_take]; rfl)) ?_; (with_reducible refine (path_Check.calls k a0_0 a0_1 _ _ t266 a0_3 a0_4 _ _ t269 t275 _ ?side1 ?side2 ?side3 ?side4 A25.out).mono ?_); (case side1 => repeat (first | exact (Kd.V_reads' HO268.out).2.2 | (with_reducible refine Kd.C_alloc ?_ _) | (with_reducible refine Kd.C_drewN ?_ _) | (with_reducible refine Kd.C_drew ?_))); (case side2 => exact (Kd.V_reads' HO268.out).2.1); (case side3 => repeat (first | exact (Kd.V_reads' HO271.out).2.2 | (with_reducible refine Kd.C_alloc ?_ _) | (with_reducible refine Kd.C_drewN ?_ _) | (with_reducible refine Kd.C_drew ?_))); (case side4 => exact (Kd.V_reads' HO271.out).2.1); rintro e w36 ⟨rfl, hb⟩; refine ⟨_, rfl, ?_⟩; have n0_ := Aside0.mk (Kd.V_below (by (with_reducible repeat (first | apply Kd.V_alloc | apply Kd.V_drewN | apply Kd.V_drew)); exact HO268.out) hb); have n1_ := Aside0.mk (Kd.V_below (by (with_reducible repeat (first | apply Kd.V_alloc | apply Kd.V_drewN | apply Kd.V_drew)); exact HO271.out) hb); have n2_ := Aside0.mk (blk_below (g := gb264) (o := .cells #[.int .u32 a0_0, .int .i64 a0_1, .slice Ao16 t266.length co16, .int .i64 a0_3, .int .i64 a0_4, .slice Ao18 t269.length co18] 51 (0, 0)) (by (with_reducible repeat (first | refine blk_drewN ?_ _ | refine blk_drew ?_ | refine blk_alloc ?_ _)); exact BK264.out) hb); have n3_ := Aside0.mk (below_step (by repeat (first | (with_reducible first | exact HB.out | apply below_alloc | apply pw_below_drewN | apply below_drew1 | refine below_set ?_ GE264.out) | exact HB.out)) hb); clear HO268; clear HO271; clear BK264; clear HB; have HO268 := n0_; have HO271 := n1_; have BK264 := n2_; have HB := n3_; clear n0_ n1_ n2_ n3_; (try clear hb); (try clear hb2); (try clear hk); (try clear hi)))
              go_meet
              case rel => exact ⟨_, (false), (by first | rfl | (simp; done) | (simp [*]; done)), H', ⟨by first | omega | exact Nat.le_refl _⟩, ⟨by (with_reducible repeat (first | apply Kd.V_alloc | apply Kd.V_drewN | apply Kd.V_drew)); exact HO268.out⟩, ⟨by (with_reducible repeat (first | apply Kd.V_alloc | apply Kd.V_drewN | apply Kd.V_drew)); exact HO271.out⟩, ⟨by (with_reducible repeat (first | refine blk_drewN ?_ _ | refine blk_drew ?_ | refine blk_alloc ?_ _)); exact BK264.out⟩, ⟨by repeat (first | (with_reducible first | exact HB.out | apply below_alloc | apply pw_below_drewN | apply below_drew1 | refine below_set ?_ GE264.out) | exact HB.out)⟩⟩
            · rw [if_neg c34] at H
              have c34b0 : (t273.toList == ([] : List UInt8)) = false := beq_eq_false_iff_ne.mpr c34
              have c34b1 : (t273.toList != ([] : List UInt8)) = true := bne_iff_ne.mpr c34
              have H' := Aside0.mk H
              clear H
              have hcz37_0 : w24.cell? ⟨gb264, 0, none⟩ = some (.int .u32 a0_0) := (blk_cell BK264.out 0).trans rfl
              have hcz37_1 : w24.cell? ⟨gb264, 1, none⟩ = some (.int .i64 a0_1) := (blk_cell BK264.out 1).trans rfl
              have hcz37_2 : w24.cell? ⟨gb264, 2, none⟩ = some (.slice Ao16 t266.length co16) := (blk_cell BK264.out 2).trans rfl
              have hcz37_3 : w24.cell? ⟨gb264, 3, none⟩ = some (.int .i64 a0_3) := (blk_cell BK264.out 3).trans rfl
              have hcz37_4 : w24.cell? ⟨gb264, 4, none⟩ = some (.int .i64 a0_4) := (blk_cell BK264.out 4).trans rfl
              have hcz37_5 : w24.cell? ⟨gb264, 5, none⟩ = some (.slice Ao18 t269.length co18) := (blk_cell BK264.out 5).trans rfl
              have hfz37_0 := blk_frozen BK264.out 0
              have hfz37_1 := blk_frozen BK264.out 1
              have hfz37_2 := blk_frozen BK264.out 2
              have hfz37_3 := blk_frozen BK264.out 3
              have hfz37_4 := blk_frozen BK264.out 4
              have hfz37_5 := blk_frozen BK264.out 5
              go_wp2_with (first | ((with_reducible refine gate_callee (f := 52) rfl ?_); refine goesL_ (some 35) rfl rfl Try.func52 (by kernel_rfl) rfl #[.agg #[.int .u32 a0_0, .int .i64 a0_1, .slice Ao16 t266.length co16, .int .i64 a0_3, .int .i64 a0_4, .slice Ao18 t269.length co18]] rfl (by (try simp only [List.map_toArray, List.map_cons, List.map_nil]); first | done | rfl | (simp only [List.length_drop, List.length_take]; rfl)) ?_; (with_reducible refine (path_Check.calls k a0_0 a0_1 _ _ t266 a0_3 a0_4 _ _ t269 t275 _ ?side1 ?side2 ?side3 ?side4 A25.out).mono ?_); (case side1 => repeat (first | exact (Kd.V_reads' HO268.out).2.2 | (with_reducible refine Kd.C_alloc ?_ _) | (with_reducible refine Kd.C_drewN ?_ _) | (with_reducible refine Kd.C_drew ?_))); (case side2 => exact (Kd.V_reads' HO268.out).2.1); (case side3 => repeat (first | exact (Kd.V_reads' HO271.out).2.2 | (with_reducible refine Kd.C_alloc ?_ _) | (with_reducible refine Kd.C_drewN ?_ _) | (with_reducible refine Kd.C_drew ?_))); (case side4 => exact (Kd.V_reads' HO271.out).2.1); rintro e w38 ⟨rfl, hb⟩; refine ⟨_, rfl, ?_⟩; have n0_ := Aside0.mk (Kd.V_below (by (with_reducible repeat (first | apply Kd.V_alloc | apply Kd.V_drewN | apply Kd.V_drew)); exact HO268.out) hb); have n1_ := Aside0.mk (Kd.V_below (by (with_reducible repeat (first | apply Kd.V_alloc | apply Kd.V_drewN | apply Kd.V_drew)); exact HO271.out) hb); have n2_ := Aside0.mk (blk_below (g := gb264) (o := .cells #[.int .u32 a0_0, .int .i64 a0_1, .slice Ao16 t266.length co16, .int .i64 a0_3, .int .i64 a0_4, .slice Ao18 t269.length co18] 51 (0, 0)) (by (with_reducible repeat (first | refine blk_drewN ?_ _ | refine blk_drew ?_ | refine blk_alloc ?_ _)); exact BK264.out) hb); have n3_ := Aside0.mk (below_step (by repeat (first | (with_reducible first | exact HB.out | apply below_alloc | apply pw_below_drewN | apply below_drew1 | refine below_set ?_ GE264.out) | exact HB.out)) hb); clear HO268; clear HO271; clear BK264; clear HB; have HO268 := n0_; have HO271 := n1_; have BK264 := n2_; have HB := n3_; clear n0_ n1_ n2_ n3_; (try clear hb); (try clear hb2); (try clear hk); (try clear hi)))
              go_meet
              case rel => exact ⟨_, (true), (by first | rfl | (simp; done) | (simp [*]; done)), H', ⟨by first | omega | exact Nat.le_refl _⟩, ⟨by (with_reducible repeat (first | apply Kd.V_alloc | apply Kd.V_drewN | apply Kd.V_drew)); exact HO268.out⟩, ⟨by (with_reducible repeat (first | apply Kd.V_alloc | apply Kd.V_drewN | apply Kd.V_drew)); exact HO271.out⟩, ⟨by (with_reducible repeat (first | refine blk_drewN ?_ _ | refine blk_drew ?_ | refine blk_alloc ?_ _)); exact BK264.out⟩, ⟨by repeat (first | (with_reducible first | exact HB.out | apply below_alloc | apply pw_below_drewN | apply below_drew1 | refine below_set ?_ GE264.out) | exact HB.out)⟩⟩
        · rw [if_neg c27] at H
          have c27b0 : (t274 == t272) = false := beq_eq_false_iff_ne.mpr c27
          have c27b1 : (t274 != t272) = true := bne_iff_ne.mpr c27
          have H' := Aside0.mk H
          clear H
          have hcz39_0 : w24.cell? ⟨gb264, 0, none⟩ = some (.int .u32 a0_0) := (blk_cell BK264.out 0).trans rfl
          have hcz39_1 : w24.cell? ⟨gb264, 1, none⟩ = some (.int .i64 a0_1) := (blk_cell BK264.out 1).trans rfl
          have hcz39_2 : w24.cell? ⟨gb264, 2, none⟩ = some (.slice Ao16 t266.length co16) := (blk_cell BK264.out 2).trans rfl
          have hcz39_3 : w24.cell? ⟨gb264, 3, none⟩ = some (.int .i64 a0_3) := (blk_cell BK264.out 3).trans rfl
          have hcz39_4 : w24.cell? ⟨gb264, 4, none⟩ = some (.int .i64 a0_4) := (blk_cell BK264.out 4).trans rfl
          have hcz39_5 : w24.cell? ⟨gb264, 5, none⟩ = some (.slice Ao18 t269.length co18) := (blk_cell BK264.out 5).trans rfl
          have hfz39_0 := blk_frozen BK264.out 0
          have hfz39_1 := blk_frozen BK264.out 1
          have hfz39_2 := blk_frozen BK264.out 2
          have hfz39_3 := blk_frozen BK264.out 3
          have hfz39_4 := blk_frozen BK264.out 4
          have hfz39_5 := blk_frozen BK264.out 5
          go_wp2_with (first | ((with_reducible refine gate_callee (f := 52) rfl ?_); refine goesL_ (some 35) rfl rfl Try.func52 (by kernel_rfl) rfl #[.agg #[.int .u32 a0_0, .int .i64 a0_1, .slice Ao16 t266.length co16, .int .i64 a0_3, .int .i64 a0_4, .slice Ao18 t269.length co18]] rfl (by (try simp only [List.map_toArray, List.map_cons, List.map_nil]); first | done | rfl | (simp only [List.length_drop, List.length_take]; rfl)) ?_; (with_reducible refine (path_Check.calls k a0_0 a0_1 _ _ t266 a0_3 a0_4 _ _ t269 t275 _ ?side1 ?side2 ?side3 ?side4 A25.out).mono ?_); (case side1 => repeat (first | exact (Kd.V_reads' HO268.out).2.2 | (with_reducible refine Kd.C_alloc ?_ _) | (with_reducible refine Kd.C_drewN ?_ _) | (with_reducible refine Kd.C_drew ?_))); (case side2 => exact (Kd.V_reads' HO268.out).2.1); (case side3 => repeat (first | exact (Kd.V_reads' HO271.out).2.2 | (with_reducible refine Kd.C_alloc ?_ _) | (with_reducible refine Kd.C_drewN ?_ _) | (with_reducible refine Kd.C_drew ?_))); (case side4 => exact (Kd.V_reads' HO271.out).2.1); rintro e w40 ⟨rfl, hb⟩; refine ⟨_, rfl, ?_⟩; have n0_ := Aside0.mk (Kd.V_below (by (with_reducible repeat (first | apply Kd.V_alloc | apply Kd.V_drewN | apply Kd.V_drew)); exact HO268.out) hb); have n1_ := Aside0.mk (Kd.V_below (by (with_reducible repeat (first | apply Kd.V_alloc | apply Kd.V_drewN | apply Kd.V_drew)); exact HO271.out) hb); have n2_ := Aside0.mk (blk_below (g := gb264) (o := .cells #[.int .u32 a0_0, .int .i64 a0_1, .slice Ao16 t266.length co16, .int .i64 a0_3, .int .i64 a0_4, .slice Ao18 t269.length co18] 51 (0, 0)) (by (with_reducible repeat (first | refine blk_drewN ?_ _ | refine blk_drew ?_ | refine blk_alloc ?_ _)); exact BK264.out) hb); have n3_ := Aside0.mk (below_step (by repeat (first | (with_reducible first | exact HB.out | apply below_alloc | apply pw_below_drewN | apply below_drew1 | refine below_set ?_ GE264.out) | exact HB.out)) hb); clear HO268; clear HO271; clear BK264; clear HB; have HO268 := n0_; have HO271 := n1_; have BK264 := n2_; have HB := n3_; clear n0_ n1_ n2_ n3_; (try clear hb); (try clear hb2); (try clear hk); (try clear hi)))
          go_meet
          case rel => exact ⟨_, (true), (by first | rfl | (simp; done) | (simp [*]; done)), H', ⟨by first | omega | exact Nat.le_refl _⟩, ⟨by (with_reducible repeat (first | apply Kd.V_alloc | apply Kd.V_drewN | apply Kd.V_drew)); exact HO268.out⟩, ⟨by (with_reducible repeat (first | apply Kd.V_alloc | apply Kd.V_drewN | apply Kd.V_drew)); exact HO271.out⟩, ⟨by (with_reducible repeat (first | refine blk_drewN ?_ _ | refine blk_drew ?_ | refine blk_alloc ?_ _)); exact BK264.out⟩, ⟨by repeat (first | (with_reducible first | exact HB.out | apply below_alloc | apply pw_below_drewN | apply below_drew1 | refine below_set ?_ GE264.out) | exact HB.out)⟩⟩
      · rw [if_neg c26] at H
        have c26b0 : (t275 == t272) = false := beq_eq_false_iff_ne.mpr c26
        have c26b1 : (t275 != t272) = true := bne_iff_ne.mpr c26
        (first | rw [c26b0] | (simp only [i64_w, i32_w]; rw [c26b0]) | skip)
        have H' := Aside0.mk H
        clear H
        have hcz41_0 : w24.cell? ⟨gb264, 0, none⟩ = some (.int .u32 a0_0) := (blk_cell BK264.out 0).trans rfl
        have hcz41_1 : w24.cell? ⟨gb264, 1, none⟩ = some (.int .i64 a0_1) := (blk_cell BK264.out 1).trans rfl
        have hcz41_2 : w24.cell? ⟨gb264, 2, none⟩ = some (.slice Ao16 t266.length co16) := (blk_cell BK264.out 2).trans rfl
        have hcz41_3 : w24.cell? ⟨gb264, 3, none⟩ = some (.int .i64 a0_3) := (blk_cell BK264.out 3).trans rfl
        have hcz41_4 : w24.cell? ⟨gb264, 4, none⟩ = some (.int .i64 a0_4) := (blk_cell BK264.out 4).trans rfl
        have hcz41_5 : w24.cell? ⟨gb264, 5, none⟩ = some (.slice Ao18 t269.length co18) := (blk_cell BK264.out 5).trans rfl
        have hfz41_0 := blk_frozen BK264.out 0
        have hfz41_1 := blk_frozen BK264.out 1
        have hfz41_2 := blk_frozen BK264.out 2
        have hfz41_3 := blk_frozen BK264.out 3
        have hfz41_4 := blk_frozen BK264.out 4
        have hfz41_5 := blk_frozen BK264.out 5
        go_wp2_with (first | ((with_reducible refine gate_callee (f := 52) rfl ?_); refine goesL_ (some 35) rfl rfl Try.func52 (by kernel_rfl) rfl #[.agg #[.int .u32 a0_0, .int .i64 a0_1, .slice Ao16 t266.length co16, .int .i64 a0_3, .int .i64 a0_4, .slice Ao18 t269.length co18]] rfl (by (try simp only [List.map_toArray, List.map_cons, List.map_nil]); first | done | rfl | (simp only [List.length_drop, List.length_take]; rfl)) ?_; (with_reducible refine (path_Check.calls k a0_0 a0_1 _ _ t266 a0_3 a0_4 _ _ t269 t275 _ ?side1 ?side2 ?side3 ?side4 A25.out).mono ?_); (case side1 => repeat (first | exact (Kd.V_reads' HO268.out).2.2 | (with_reducible refine Kd.C_alloc ?_ _) | (with_reducible refine Kd.C_drewN ?_ _) | (with_reducible refine Kd.C_drew ?_))); (case side2 => exact (Kd.V_reads' HO268.out).2.1); (case side3 => repeat (first | exact (Kd.V_reads' HO271.out).2.2 | (with_reducible refine Kd.C_alloc ?_ _) | (with_reducible refine Kd.C_drewN ?_ _) | (with_reducible refine Kd.C_drew ?_))); (case side4 => exact (Kd.V_reads' HO271.out).2.1); rintro e w42 ⟨rfl, hb⟩; refine ⟨_, rfl, ?_⟩; have n0_ := Aside0.mk (Kd.V_below (by (with_reducible repeat (first | apply Kd.V_alloc | apply Kd.V_drewN | apply Kd.V_drew)); exact HO268.out) hb); have n1_ := Aside0.mk (Kd.V_below (by (with_reducible repeat (first | apply Kd.V_alloc | apply Kd.V_drewN | apply Kd.V_drew)); exact HO271.out) hb); have n2_ := Aside0.mk (blk_below (g := gb264) (o := .cells #[.int .u32 a0_0, .int .i64 a0_1, .slice Ao16 t266.length co16, .int .i64 a0_3, .int .i64 a0_4, .slice Ao18 t269.length co18] 51 (0, 0)) (by (with_reducible repeat (first | refine blk_drewN ?_ _ | refine blk_drew ?_ | refine blk_alloc ?_ _)); exact BK264.out) hb); have n3_ := Aside0.mk (below_step (by repeat (first | (with_reducible first | exact HB.out | apply below_alloc | apply pw_below_drewN | apply below_drew1 | refine below_set ?_ GE264.out) | exact HB.out)) hb); clear HO268; clear HO271; clear BK264; clear HB; have HO268 := n0_; have HO271 := n1_; have BK264 := n2_; have HB := n3_; clear n0_ n1_ n2_ n3_; (try clear hb); (try clear hb2); (try clear hk); (try clear hi)))
        go_meet
        case rel => exact ⟨_, (true), (by first | rfl | (simp; done) | (simp [*]; done)), H', ⟨by first | omega | exact Nat.le_refl _⟩, ⟨by (with_reducible repeat (first | apply Kd.V_alloc | apply Kd.V_drewN | apply Kd.V_drew)); exact HO268.out⟩, ⟨by (with_reducible repeat (first | apply Kd.V_alloc | apply Kd.V_drewN | apply Kd.V_drew)); exact HO271.out⟩, ⟨by (with_reducible repeat (first | refine blk_drewN ?_ _ | refine blk_drew ?_ | refine blk_alloc ?_ _)); exact BK264.out⟩, ⟨by repeat (first | (with_reducible first | exact HB.out | apply below_alloc | apply pw_below_drewN | apply below_drew1 | refine below_set ?_ GE264.out) | exact HB.out)⟩⟩
    case rest => as_aux_lemma =>
      clear HC10
      try clear c2
      try clear p2
      try clear c3
      try clear c4
      try clear c5
      try clear c8
      try clear c26
      try clear c26b0
      try clear c26b1
      try clear c27
      try clear c27b0
      try clear c27b1
      try clear c28
      try clear c28b0
      try clear c28b1
      try clear c34
      try clear c34b0
      try clear c34b1
      try clear hcz21_0
      try clear hcz21_1
      try clear hcz21_2
      try clear hcz21_3
      try clear hcz21_4
      try clear hcz21_5
      try clear hcz23_0
      try clear hcz23_1
      try clear hcz23_2
      try clear hcz23_3
      try clear hcz23_4
      try clear hcz23_5
      try clear hcz30_0
      try clear hcz30_1
      try clear hcz30_2
      try clear hcz30_3
      try clear hcz30_4
      try clear hcz30_5
      try clear hcz32_0
      try clear hcz32_1
      try clear hcz32_2
      try clear hcz32_3
      try clear hcz32_4
      try clear hcz32_5
      try clear hcz35_0
      try clear hcz35_1
      try clear hcz35_2
      try clear hcz35_3
      try clear hcz35_4
      try clear hcz35_5
      try clear hcz37_0
      try clear hcz37_1
      try clear hcz37_2
      try clear hcz37_3
      try clear hcz37_4
      try clear hcz37_5
      try clear hcz39_0
      try clear hcz39_1
      try clear hcz39_2
      try clear hcz39_3
      try clear hcz39_4
      try clear hcz39_5
      try clear hcz41_0
      try clear hcz41_1
      try clear hcz41_2
      try clear hcz41_3
      try clear hcz41_4
      try clear hcz41_5
      try clear hfz21_0
      try clear hfz21_1
      try clear hfz21_2
      try clear hfz21_3
      try clear hfz21_4
      try clear hfz21_5
      try clear hfz23_0
      try clear hfz23_1
      try clear hfz23_2
      try clear hfz23_3
      try clear hfz23_4
      try clear hfz23_5
      try clear hfz30_0
      try clear hfz30_1
      try clear hfz30_2
      try clear hfz30_3
      try clear hfz30_4
      try clear hfz30_5
      try clear hfz32_0
      try clear hfz32_1
      try clear hfz32_2
      try clear hfz32_3
      try clear hfz32_4
      try clear hfz32_5
      try clear hfz35_0
      try clear hfz35_1
      try clear hfz35_2
      try clear hfz35_3
      try clear hfz35_4
      try clear hfz35_5
      try clear hfz37_0
      try clear hfz37_1
      try clear hfz37_2
      try clear hfz37_3
      try clear hfz37_4
      try clear hfz37_5
      try clear hfz39_0
      try clear hfz39_1
      try clear hfz39_2
      try clear hfz39_3
      try clear hfz39_4
      try clear hfz39_5
      try clear hfz41_0
      try clear hfz41_1
      try clear hfz41_2
      try clear hfz41_3
      try clear hfz41_4
      try clear hfz41_5
      obtain ⟨kq, x60_9, rfl, HA, HJ9, HO_265002, HO_265005, BK264, HB⟩ := hcut
      cases kq with
      | zero => exact absurd HA.out (by simp [patchbaylaw2_PathEncodes.j0])
      | succ kj9 =>
        have H := HA.out
        clear HA
        simp only [patchbaylaw2_PathEncodes.j0] at H
        by_cases c43 : x60_9 = true
        · subst c43
          have H1 : (some false) = some r := by rw [if_pos rfl] at H; exact H
          clear H
          have H := H1
          clear H1
          obtain rfl := Option.some.inj H
          go_wp2
          go_ret
          exact ⟨by first | rfl | (simp [errW_none, errW_some] <;> rfl) | (simp [*, errW_none, errW_some] <;> rfl), by repeat (first | (with_reducible first | exact HB.out | apply below_alloc | apply pw_below_drewN | apply below_drew1 | refine below_set ?_ GE264.out) | exact HB.out)⟩
        · replace c43 := Bool.eq_false_iff.mpr c43
          subst c43
          have H1 : ((path_Loop.f kj9 a0_0 a0_1 t266 a0_3 a0_4 t269 a1).bind fun bt277 => ((path_Prepend.f kj9 a0_0 a0_1 t266 a0_3 a0_4 t269 a1 a2).bind fun bt279 => (if t272 = 0 then (if a1 < 1 then (patchbaylaw2_PathEncodes.j1 kj9 a1 a2 t272 bt277.2 bt277.1 bt279.2.2.2.2.2.2 true a0_0 a0_1 t266 a0_3 a0_4 t269 bt279.1 bt279.2.1 bt279.2.2.1 bt279.2.2.2.1 bt279.2.2.2.2.1 bt279.2.2.2.2.2.1) else (patchbaylaw2_PathEncodes.j1 kj9 a1 a2 t272 bt277.2 bt277.1 bt279.2.2.2.2.2.2 (decide (a1 > 65535)) a0_0 a0_1 t266 a0_3 a0_4 t269 bt279.1 bt279.2.1 bt279.2.2.1 bt279.2.2.2.1 bt279.2.2.2.2.1 bt279.2.2.2.2.2.1)) else (patchbaylaw2_PathEncodes.j1 kj9 a1 a2 t272 bt277.2 bt277.1 bt279.2.2.2.2.2.2 false a0_0 a0_1 t266 a0_3 a0_4 t269 bt279.1 bt279.2.1 bt279.2.2.1 bt279.2.2.2.1 bt279.2.2.2.2.1 bt279.2.2.2.2.2.1)))) = some r := by rw [if_neg (show ¬ (false = true) by decide)] at H; exact H
          clear H
          have H := H1
          clear H1
          replace H := Option.bind_eq_some_iff.mp H
          obtain ⟨⟨t277, t278⟩, A440, H⟩ := H
          replace H : ((path_Prepend.f kj9 a0_0 a0_1 t266 a0_3 a0_4 t269 a1 a2).bind fun bt279 => (if t272 = 0 then (if a1 < 1 then (patchbaylaw2_PathEncodes.j1 kj9 a1 a2 t272 t278 t277 bt279.2.2.2.2.2.2 true a0_0 a0_1 t266 a0_3 a0_4 t269 bt279.1 bt279.2.1 bt279.2.2.1 bt279.2.2.2.1 bt279.2.2.2.2.1 bt279.2.2.2.2.2.1) else (patchbaylaw2_PathEncodes.j1 kj9 a1 a2 t272 t278 t277 bt279.2.2.2.2.2.2 (decide (a1 > 65535)) a0_0 a0_1 t266 a0_3 a0_4 t269 bt279.1 bt279.2.1 bt279.2.2.1 bt279.2.2.2.1 bt279.2.2.2.2.1 bt279.2.2.2.2.2.1)) else (patchbaylaw2_PathEncodes.j1 kj9 a1 a2 t272 t278 t277 bt279.2.2.2.2.2.2 false a0_0 a0_1 t266 a0_3 a0_4 t269 bt279.1 bt279.2.1 bt279.2.2.1 bt279.2.2.2.1 bt279.2.2.2.2.1 bt279.2.2.2.2.2.1))) = some r := H
          have A44 := Aside0.mk A440
          clear A440
          replace H := Option.bind_eq_some_iff.mp H
          obtain ⟨⟨t279, t280, t281, t284, t285, t286, t289⟩, A450, H⟩ := H
          replace H : (if t272 = 0 then (if a1 < 1 then (patchbaylaw2_PathEncodes.j1 kj9 a1 a2 t272 t278 t277 t289 true a0_0 a0_1 t266 a0_3 a0_4 t269 t279 t280 t281 t284 t285 t286) else (patchbaylaw2_PathEncodes.j1 kj9 a1 a2 t272 t278 t277 t289 (decide (a1 > 65535)) a0_0 a0_1 t266 a0_3 a0_4 t269 t279 t280 t281 t284 t285 t286)) else (patchbaylaw2_PathEncodes.j1 kj9 a1 a2 t272 t278 t277 t289 false a0_0 a0_1 t266 a0_3 a0_4 t269 t279 t280 t281 t284 t285 t286)) = some r := H
          have A45 := Aside0.mk A450
          clear A450
          have HC46 := Aside0.mk H
          clear H
          have hcz47_0 : wc.cell? ⟨gb264, 0, none⟩ = some (.int .u32 a0_0) := (blk_cell BK264.out 0).trans rfl
          have hcz47_1 : wc.cell? ⟨gb264, 1, none⟩ = some (.int .i64 a0_1) := (blk_cell BK264.out 1).trans rfl
          have hcz47_2 : wc.cell? ⟨gb264, 2, none⟩ = some (.slice Ao16 t266.length co16) := (blk_cell BK264.out 2).trans rfl
          have hcz47_3 : wc.cell? ⟨gb264, 3, none⟩ = some (.int .i64 a0_3) := (blk_cell BK264.out 3).trans rfl
          have hcz47_4 : wc.cell? ⟨gb264, 4, none⟩ = some (.int .i64 a0_4) := (blk_cell BK264.out 4).trans rfl
          have hcz47_5 : wc.cell? ⟨gb264, 5, none⟩ = some (.slice Ao18 t269.length co18) := (blk_cell BK264.out 5).trans rfl
          have hfz47_0 := blk_frozen BK264.out 0
          have hfz47_1 := blk_frozen BK264.out 1
          have hfz47_2 := blk_frozen BK264.out 2
          have hfz47_3 := blk_frozen BK264.out 3
          have hfz47_4 := blk_frozen BK264.out 4
          have hfz47_5 := blk_frozen BK264.out 5
          go_upto_region 10 with (first | ((with_reducible refine gate_callee (f := 54) rfl ?_); refine goesL_ (some 64) rfl rfl Try.func54 (by kernel_rfl) rfl #[.agg #[.int .u32 a0_0, .int .i64 a0_1, .slice Ao16 t266.length co16, .int .i64 a0_3, .int .i64 a0_4, .slice Ao18 t269.length co18], .int .i64 a1] rfl (by (try simp only [List.map_toArray, List.map_cons, List.map_nil]); first | done | rfl | (simp only [List.length_drop, List.length_take]; rfl)) ?_; (with_reducible refine (path_Loop.calls kj9 a0_0 a0_1 _ _ t266 a0_3 a0_4 _ _ t269 a1 t277 t278 _ ?side1 ?side2 ?side3 ?side4 A44.out).mono ?_); (case side1 => repeat (first | exact (Kd.V_reads' HO_265002.out).2.2 | (with_reducible refine Kd.C_alloc ?_ _) | (with_reducible refine Kd.C_drewN ?_ _) | (with_reducible refine Kd.C_drew ?_))); (case side2 => exact (Kd.V_reads' HO_265002.out).2.1); (case side3 => repeat (first | exact (Kd.V_reads' HO_265005.out).2.2 | (with_reducible refine Kd.C_alloc ?_ _) | (with_reducible refine Kd.C_drewN ?_ _) | (with_reducible refine Kd.C_drew ?_))); (case side4 => exact (Kd.V_reads' HO_265005.out).2.1); rintro e w48 ⟨rfl, hb⟩; refine ⟨_, rfl, ?_⟩; have n0_ := Aside0.mk (Kd.V_below (by (with_reducible repeat (first | apply Kd.V_alloc | apply Kd.V_drewN | apply Kd.V_drew)); exact HO_265002.out) hb); have n1_ := Aside0.mk (Kd.V_below (by (with_reducible repeat (first | apply Kd.V_alloc | apply Kd.V_drewN | apply Kd.V_drew)); exact HO_265005.out) hb); have n2_ := Aside0.mk (blk_below (g := gb264) (o := .cells #[.int .u32 a0_0, .int .i64 a0_1, .slice Ao16 t266.length co16, .int .i64 a0_3, .int .i64 a0_4, .slice Ao18 t269.length co18] 51 (0, 0)) (by (with_reducible repeat (first | refine blk_drewN ?_ _ | refine blk_drew ?_ | refine blk_alloc ?_ _)); exact BK264.out) hb); have n3_ := Aside0.mk (below_step (by repeat (first | (with_reducible first | exact HB.out | apply below_alloc | apply pw_below_drewN | apply below_drew1 | refine below_set ?_ GE264.out) | exact HB.out)) hb); clear HO_265002; clear HO_265005; clear BK264; clear HB; have HO_265002 := n0_; have HO_265005 := n1_; have BK264 := n2_; have HB := n3_; clear n0_ n1_ n2_ n3_; (try clear hb); (try clear hb2); (try clear hk); (try clear hi); have hcz49_0 : w48.cell? ⟨gb264, 0, none⟩ = some (.int .u32 a0_0) := (blk_cell BK264.out 0).trans rfl; have hcz49_1 : w48.cell? ⟨gb264, 1, none⟩ = some (.int .i64 a0_1) := (blk_cell BK264.out 1).trans rfl; have hcz49_2 : w48.cell? ⟨gb264, 2, none⟩ = some (.slice Ao16 t266.length co16) := (blk_cell BK264.out 2).trans rfl; have hcz49_3 : w48.cell? ⟨gb264, 3, none⟩ = some (.int .i64 a0_3) := (blk_cell BK264.out 3).trans rfl; have hcz49_4 : w48.cell? ⟨gb264, 4, none⟩ = some (.int .i64 a0_4) := (blk_cell BK264.out 4).trans rfl; have hcz49_5 : w48.cell? ⟨gb264, 5, none⟩ = some (.slice Ao18 t269.length co18) := (blk_cell BK264.out 5).trans rfl; have hfz49_0 := blk_frozen BK264.out 0; have hfz49_1 := blk_frozen BK264.out 1; have hfz49_2 := blk_frozen BK264.out 2; have hfz49_3 := blk_frozen BK264.out 3; have hfz49_4 := blk_frozen BK264.out 4; have hfz49_5 := blk_frozen BK264.out 5) | ((with_reducible refine gate_callee (f := 55) rfl ?_); refine goesL_ (some 71) rfl rfl Try.func55 (by kernel_rfl) rfl #[.agg #[.int .u32 a0_0, .int .i64 a0_1, .slice Ao16 t266.length co16, .int .i64 a0_3, .int .i64 a0_4, .slice Ao18 t269.length co18], .int .i64 a1, .int .i64 a2] rfl (by (try simp only [List.map_toArray, List.map_cons, List.map_nil]); first | done | rfl | (simp only [List.length_drop, List.length_take]; rfl)) ?_; (with_reducible refine (path_Prepend.calls kj9 a0_0 a0_1 (fun k_ => k_ ≠ gb264) _ _ t266 a0_3 a0_4 _ _ t269 a1 a2 t279 t280 t281 t284 t285 t286 t289 _ ?side1 ?side2 ?side3 A45.out).mono ?_); (case side1 => exact HO_265002.out); (case side2 => repeat (first | exact (Kd.V_reads' HO_265005.out).2.2 | (with_reducible refine Kd.C_alloc ?_ _) | (with_reducible refine Kd.C_drewN ?_ _) | (with_reducible refine Kd.C_drew ?_))); (case side3 => exact (Kd.V_reads' HO_265005.out).2.1); rintro e w50 ⟨v282, v287, rfl, ho0, ho1, hb⟩; refine ⟨_, rfl, ?_⟩; have n0_ := Aside0.mk (Kd.V_mono (Kd.V_told (Kd.V_told (Kd.V_old (by (with_reducible repeat (first | apply Kd.V_alloc | apply Kd.V_drewN | apply Kd.V_drew)); exact HO_265002.out) hb) (Kd.R_base ho0)) (Kd.R_base ho1)) (fun _ h_ => h_.1)); have n1_ := Aside0.mk (Kd.V_mono (Kd.V_told (Kd.V_told (Kd.V_old (by (with_reducible repeat (first | apply Kd.V_alloc | apply Kd.V_drewN | apply Kd.V_drew)); exact HO_265005.out) hb) (Kd.R_base ho0)) (Kd.R_base ho1)) (fun _ h_ => h_.1)); have n2_ := Aside0.mk (Kd.R_lower (Kd.R_mono (ok' := fun k_ => some k_ ≠ (v287 : Value).ownBlock) ho0 (fun _ hk_ => hk_.2)) (below_size (by repeat (first | (with_reducible first | exact HB.out | apply below_alloc | apply pw_below_drewN | apply below_drew1 | refine below_set ?_ GE264.out) | exact HB.out)))); have n3_ := Aside0.mk (Kd.R_lower (Kd.R_mono (ok' := fun k_ => some k_ ≠ (v282 : Value).ownBlock) ho1 (fun _ hk_ => hk_.2)) (below_size (by repeat (first | (with_reducible first | exact HB.out | apply below_alloc | apply pw_below_drewN | apply below_drew1 | refine below_set ?_ GE264.out) | exact HB.out)))); have n4_ := Aside0.mk (blk_below (g := gb264) (o := .cells #[.int .u32 a0_0, .int .i64 a0_1, .slice Ao16 t266.length co16, .int .i64 a0_3, .int .i64 a0_4, .slice Ao18 t269.length co18] 51 (0, 0)) (by (with_reducible repeat (first | refine blk_drewN ?_ _ | refine blk_drew ?_ | refine blk_alloc ?_ _)); exact BK264.out) hb); have n5_ := Aside0.mk (below_step (by repeat (first | (with_reducible first | exact HB.out | apply below_alloc | apply pw_below_drewN | apply below_drew1 | refine below_set ?_ GE264.out) | exact HB.out)) hb); clear HO_265002; clear HO_265005; clear BK264; clear HB; have HO_265002 := n0_; have HO_265005 := n1_; have HO283 := n2_; have HO288 := n3_; have BK264 := n4_; have HB := n5_; clear n0_ n1_ n2_ n3_ n4_ n5_; (try clear hb); (try clear hb2); (try clear hk); (try clear hi); (try clear ho0); (try clear ho1)) | ((with_reducible refine gate_dst (N := 11) rfl ?_); (try (refine gate_guard (by rfl) ?_; dsimp only)); refine box_event ?hg (N := 11) ?hd (cs := #[.int .u32 0, .int .i64 0, .slice none 0 0, .int .i64 0, .int .i64 0, .slice none 0 0]) (t := 51) ?hr ?_; (case hd => rfl); (case hg => rfl); (case hr => first | (go_simp; done) | (go_simp; rfl)); intro gb290 hg w51 hbox hb; have n0_ := Aside0.mk (Kd.V_below (Kd.V_elderB (by (with_reducible repeat (first | apply Kd.V_alloc | apply Kd.V_drewN | apply Kd.V_drew)); exact HO_265002.out) gb290 (Nat.le_of_eq hg.symm)) hb); have n1_ := Aside0.mk (Kd.V_below (Kd.V_elderB (by (with_reducible repeat (first | apply Kd.V_alloc | apply Kd.V_drewN | apply Kd.V_drew)); exact HO_265005.out) gb290 (Nat.le_of_eq hg.symm)) hb); have n2_ := Aside0.mk (Kd.R_below (by (with_reducible repeat (first | apply Kd.R_alloc | apply Kd.R_drewN | apply Kd.R_drew)); exact HO283.out) hb); have n3_ := Aside0.mk (Kd.R_below (by (with_reducible repeat (first | apply Kd.R_alloc | apply Kd.R_drewN | apply Kd.R_drew)); exact HO288.out) hb); have n4_ := Aside0.mk (blk_below (g := gb264) (o := .cells #[.int .u32 a0_0, .int .i64 a0_1, .slice Ao16 t266.length co16, .int .i64 a0_3, .int .i64 a0_4, .slice Ao18 t269.length co18] 51 (0, 0)) (by (with_reducible repeat (first | refine blk_drewN ?_ _ | refine blk_drew ?_ | refine blk_alloc ?_ _)); exact BK264.out) hb); have n5_ := Aside0.mk (below_step (by repeat (first | (with_reducible first | exact HB.out | apply below_alloc | apply pw_below_drewN | apply below_drew1 | refine below_set ?_ GE264.out) | exact HB.out)) hb); have n6_ := Aside0.mk (hbox); have n7_ := Aside0.mk ((by rw [hg]; exact (below_size (by repeat (first | (with_reducible first | exact HB.out | apply below_alloc | apply pw_below_drewN | apply below_drew1 | refine below_set ?_ GE264.out) | exact HB.out))) : w.heap.size ≤ gb290)); have n8_ := Aside0.mk ((by rw [hg]; exact (below_size (by repeat (first | (with_reducible first | exact HB.out | apply below_alloc | apply pw_below_drewN | apply below_drew1 | refine below_set ?_ GE264.out) | exact HB.out))) : w.heap.size ≤ gb290)); have n9_ := Aside0.mk ((by rw [hg]; exact Nat.ne_of_lt (blk_lt (g := gb264) (o := .cells #[.int .u32 a0_0, .int .i64 a0_1, .slice Ao16 t266.length co16, .int .i64 a0_3, .int .i64 a0_4, .slice Ao18 t269.length co18] 51 (0, 0)) (by (with_reducible repeat (first | refine blk_drewN ?_ _ | refine blk_drew ?_ | refine blk_alloc ?_ _)); exact BK264.out)) : gb264 ≠ gb290)); have n10_ := Aside0.mk ((by rw [hg]; exact Nat.ne_of_gt (blk_lt (g := gb264) (o := .cells #[.int .u32 a0_0, .int .i64 a0_1, .slice Ao16 t266.length co16, .int .i64 a0_3, .int .i64 a0_4, .slice Ao18 t269.length co18] 51 (0, 0)) (by (with_reducible repeat (first | refine blk_drewN ?_ _ | refine blk_drew ?_ | refine blk_alloc ?_ _)); exact BK264.out)) : gb290 ≠ gb264)); clear HO_265002; clear HO_265005; clear HO283; clear HO288; clear BK264; clear HB; have HO_265002 := n0_; have HO_265005 := n1_; have HO283 := n2_; have HO288 := n3_; have BK264 := n4_; have HB := n5_; have BK290 := n6_; have GW290 := n7_; have GE290 := n8_; have NB264_290 := n9_; have NB290_264 := n10_; clear n0_ n1_ n2_ n3_ n4_ n5_ n6_ n7_ n8_ n9_ n10_; clear hb hbox hg; have hnb52 := NB290_264.out; have hnc52 := NB264_290.out; have hcz53_0 : w51.cell? ⟨gb290, 0, none⟩ = some (.int .u32 0) := (blk_cell BK290.out 0).trans rfl; have hcz53_1 : w51.cell? ⟨gb290, 1, none⟩ = some (.int .i64 0) := (blk_cell BK290.out 1).trans rfl; have hcz53_2 : w51.cell? ⟨gb290, 2, none⟩ = some (.slice none 0 0) := (blk_cell BK290.out 2).trans rfl; have hcz53_3 : w51.cell? ⟨gb290, 3, none⟩ = some (.int .i64 0) := (blk_cell BK290.out 3).trans rfl; have hcz53_4 : w51.cell? ⟨gb290, 4, none⟩ = some (.int .i64 0) := (blk_cell BK290.out 4).trans rfl; have hcz53_5 : w51.cell? ⟨gb290, 5, none⟩ = some (.slice none 0 0) := (blk_cell BK290.out 5).trans rfl; have hfz53_0 := blk_frozen BK290.out 0; have hfz53_1 := blk_frozen BK290.out 1; have hfz53_2 := blk_frozen BK290.out 2; have hfz53_3 := blk_frozen BK290.out 3; have hfz53_4 := blk_frozen BK290.out 4; have hfz53_5 := blk_frozen BK290.out 5; obtain ⟨Ao54, co54, eo54⟩ := Kd.R_slice HO283.out; subst eo54; obtain ⟨Ao55, co55, eo55⟩ := Kd.R_slice HO288.out; subst eo55))
          (try simp only [Act.put, List.setIfInBounds_toArray, List.set_cons_zero, List.set_cons_succ])
          go_cut [83] (fun v83 wc => ∃ (kq : Nat) (x83_45 : Bool), v83 = .bool x83_45 ∧ Aside0 (patchbaylaw2_PathEncodes.j1 kq a1 a2 t272 t278 t277 t289 x83_45 a0_0 a0_1 t266 a0_3 a0_4 t269 t279 t280 t281 t284 t285 t286 = some r) ∧ Aside0 (kq ≤ kj9) ∧ Aside0 (Kd.V (Kd.int .i64) 3 wc w.heap.size (fun k_ => some k_ ≠ ((.slice Ao54 t281.length co54) : Value).ownBlock ∧ some k_ ≠ ((.slice Ao55 t286.length co55) : Value).ownBlock ∧ k_ ≠ gb264 ∧ k_ ≠ gb290) (.slice Ao16 t266.length co16) t266) ∧ Aside0 (Kd.V (Kd.int .i64) 3 wc w.heap.size (fun k_ => some k_ ≠ ((.slice Ao54 t281.length co54) : Value).ownBlock ∧ some k_ ≠ ((.slice Ao55 t286.length co55) : Value).ownBlock ∧ k_ ≠ gb264 ∧ k_ ≠ gb290) (.slice Ao18 t269.length co18) t269) ∧ Aside0 (Kd.R (Kd.int .i64) 3 wc w.heap.size (fun k_ => some k_ ≠ ((.slice Ao55 t286.length co55) : Value).ownBlock) (.slice Ao54 t281.length co54) t281) ∧ Aside0 (Kd.R (Kd.int .i64) 3 wc w.heap.size (fun k_ => some k_ ≠ ((.slice Ao54 t281.length co54) : Value).ownBlock) (.slice Ao55 t286.length co55) t286) ∧ Aside0 (wc.heap[gb264]? = some (.cells #[.int .u32 a0_0, .int .i64 a0_1, (.slice Ao16 t266.length co16), .int .i64 a0_3, .int .i64 a0_4, (.slice Ao18 t269.length co18)] 51 (0, 0))) ∧ Aside0 (wc.heap[gb290]? = some (.cells #[.int .u32 t279, .int .i64 t280, (.slice Ao54 t281.length co54), .int .i64 t284, .int .i64 t285, (.slice Ao55 t286.length co55)] 51 (0, 0))) ∧ Aside0 (Below w.heap.size w wc))
          case first => as_aux_lemma =>
            have H := HC46.out
            clear HC46
            by_cases c56 : t272 = 0
            · rw [if_pos c56] at H
              have c56b0 : (t272 == 0) = true := beq_iff_eq.mpr c56
              have c56b1 : (t272 != 0) = false := bne_eq_false_iff_eq.mpr c56
              clear c56
              (first | rw [c56b0] | (simp only [i64_w, i32_w]; rw [c56b0]) | skip)
              by_cases c57 : a1 < 1
              · rw [if_pos c57] at H
                have c57b0 : decide (a1 < 1) = true := decide_eq_true c57
                clear c57
                have H' := Aside0.mk H
                clear H
                go_wp2
                go_meet
                case rel => exact ⟨_, (true), (by first | rfl | (simp; done) | (simp [*]; done)), H', ⟨by have := HJ9.out; first | omega | exact Nat.le_refl _⟩, ⟨by (with_reducible repeat (first | apply Kd.V_alloc | apply Kd.V_drewN | apply Kd.V_drew)); exact Kd.V_mono (Kd.V_far (p := ⟨gb290, 5, none⟩) (Kd.V_far (p := ⟨gb290, 4, none⟩) (Kd.V_far (p := ⟨gb290, 3, none⟩) (Kd.V_far (p := ⟨gb290, 2, none⟩) (Kd.V_far (p := ⟨gb290, 1, none⟩) (Kd.V_far (p := ⟨gb290, 0, none⟩) (Kd.V_mono HO_265002.out (fun k_ hk => (⟨hk, hk.2⟩ : _ ∧ k_ ≠ gb290))) (fun _ hk => hk.2) (.int .u32 t279)) (fun _ hk => hk.2) (.int .i64 t280)) (fun _ hk => hk.2) (.slice Ao54 t281.length co54)) (fun _ hk => hk.2) (.int .i64 t284)) (fun _ hk => hk.2) (.int .i64 t285)) (fun _ hk => hk.2) (.slice Ao55 t286.length co55)) (fun _ hk => ⟨hk.1.1.1.2, ⟨hk.1.1.2, ⟨hk.1.1.1.1, hk.1.2⟩⟩⟩)⟩, ⟨by (with_reducible repeat (first | apply Kd.V_alloc | apply Kd.V_drewN | apply Kd.V_drew)); exact Kd.V_mono (Kd.V_far (p := ⟨gb290, 5, none⟩) (Kd.V_far (p := ⟨gb290, 4, none⟩) (Kd.V_far (p := ⟨gb290, 3, none⟩) (Kd.V_far (p := ⟨gb290, 2, none⟩) (Kd.V_far (p := ⟨gb290, 1, none⟩) (Kd.V_far (p := ⟨gb290, 0, none⟩) (Kd.V_mono HO_265005.out (fun k_ hk => (⟨hk, hk.2⟩ : _ ∧ k_ ≠ gb290))) (fun _ hk => hk.2) (.int .u32 t279)) (fun _ hk => hk.2) (.int .i64 t280)) (fun _ hk => hk.2) (.slice Ao54 t281.length co54)) (fun _ hk => hk.2) (.int .i64 t284)) (fun _ hk => hk.2) (.int .i64 t285)) (fun _ hk => hk.2) (.slice Ao55 t286.length co55)) (fun _ hk => ⟨hk.1.1.1.2, ⟨hk.1.1.2, ⟨hk.1.1.1.1, hk.1.2⟩⟩⟩)⟩, ⟨by (with_reducible repeat (first | apply Kd.R_alloc | apply Kd.R_drewN | apply Kd.R_drew)); exact Kd.R_mono (Kd.R_far (p := ⟨gb290, 5, none⟩) (Kd.R_far (p := ⟨gb290, 4, none⟩) (Kd.R_far (p := ⟨gb290, 3, none⟩) (Kd.R_far (p := ⟨gb290, 2, none⟩) (Kd.R_far (p := ⟨gb290, 1, none⟩) (Kd.R_far (p := ⟨gb290, 0, none⟩) (Kd.R_types HO283.out BK290.out (by decide)) (fun _ hk => hk.2) (.int .u32 t279)) (fun _ hk => hk.2) (.int .i64 t280)) (fun _ hk => hk.2) (.slice Ao54 t281.length co54)) (fun _ hk => hk.2) (.int .i64 t284)) (fun _ hk => hk.2) (.int .i64 t285)) (fun _ hk => hk.2) (.slice Ao55 t286.length co55)) (fun _ hk => hk.1)⟩, ⟨by (with_reducible repeat (first | apply Kd.R_alloc | apply Kd.R_drewN | apply Kd.R_drew)); exact Kd.R_mono (Kd.R_far (p := ⟨gb290, 5, none⟩) (Kd.R_far (p := ⟨gb290, 4, none⟩) (Kd.R_far (p := ⟨gb290, 3, none⟩) (Kd.R_far (p := ⟨gb290, 2, none⟩) (Kd.R_far (p := ⟨gb290, 1, none⟩) (Kd.R_far (p := ⟨gb290, 0, none⟩) (Kd.R_types HO288.out BK290.out (by decide)) (fun _ hk => hk.2) (.int .u32 t279)) (fun _ hk => hk.2) (.int .i64 t280)) (fun _ hk => hk.2) (.slice Ao54 t281.length co54)) (fun _ hk => hk.2) (.int .i64 t284)) (fun _ hk => hk.2) (.int .i64 t285)) (fun _ hk => hk.2) (.slice Ao55 t286.length co55)) (fun _ hk => hk.1)⟩, ⟨by (with_reducible repeat (first | refine blk_drewN ?_ _ | refine blk_drew ?_ | refine blk_alloc ?_ _)); refine blk_far ?_ NB264_290.out _; (with_reducible repeat (first | refine blk_drewN ?_ _ | refine blk_drew ?_ | refine blk_alloc ?_ _)); refine blk_far ?_ NB264_290.out _; (with_reducible repeat (first | refine blk_drewN ?_ _ | refine blk_drew ?_ | refine blk_alloc ?_ _)); refine blk_far ?_ NB264_290.out _; (with_reducible repeat (first | refine blk_drewN ?_ _ | refine blk_drew ?_ | refine blk_alloc ?_ _)); refine blk_far ?_ NB264_290.out _; (with_reducible repeat (first | refine blk_drewN ?_ _ | refine blk_drew ?_ | refine blk_alloc ?_ _)); refine blk_far ?_ NB264_290.out _; (with_reducible repeat (first | refine blk_drewN ?_ _ | refine blk_drew ?_ | refine blk_alloc ?_ _)); refine blk_far ?_ NB264_290.out _; (with_reducible repeat (first | refine blk_drewN ?_ _ | refine blk_drew ?_ | refine blk_alloc ?_ _)); exact BK264.out⟩, ⟨by (with_reducible repeat (first | refine blk_drewN ?_ _ | refine blk_drew ?_ | refine blk_alloc ?_ _)); refine blk_put (cs := #[.int .u32 t279, .int .i64 t280, .slice Ao54 t281.length co54, .int .i64 t284, .int .i64 t285, .slice none 0 0]) ?_ 5 _ rfl; (with_reducible repeat (first | refine blk_drewN ?_ _ | refine blk_drew ?_ | refine blk_alloc ?_ _)); refine blk_put (cs := #[.int .u32 t279, .int .i64 t280, .slice Ao54 t281.length co54, .int .i64 t284, .int .i64 0, .slice none 0 0]) ?_ 4 _ rfl; (with_reducible repeat (first | refine blk_drewN ?_ _ | refine blk_drew ?_ | refine blk_alloc ?_ _)); refine blk_put (cs := #[.int .u32 t279, .int .i64 t280, .slice Ao54 t281.length co54, .int .i64 0, .int .i64 0, .slice none 0 0]) ?_ 3 _ rfl; (with_reducible repeat (first | refine blk_drewN ?_ _ | refine blk_drew ?_ | refine blk_alloc ?_ _)); refine blk_put (cs := #[.int .u32 t279, .int .i64 t280, .slice none 0 0, .int .i64 0, .int .i64 0, .slice none 0 0]) ?_ 2 _ rfl; (with_reducible repeat (first | refine blk_drewN ?_ _ | refine blk_drew ?_ | refine blk_alloc ?_ _)); refine blk_put (cs := #[.int .u32 t279, .int .i64 0, .slice none 0 0, .int .i64 0, .int .i64 0, .slice none 0 0]) ?_ 1 _ rfl; (with_reducible repeat (first | refine blk_drewN ?_ _ | refine blk_drew ?_ | refine blk_alloc ?_ _)); refine blk_put (cs := #[.int .u32 0, .int .i64 0, .slice none 0 0, .int .i64 0, .int .i64 0, .slice none 0 0]) ?_ 0 _ rfl; (with_reducible repeat (first | refine blk_drewN ?_ _ | refine blk_drew ?_ | refine blk_alloc ?_ _)); exact BK290.out⟩, ⟨by repeat (first | (with_reducible first | exact HB.out | apply below_alloc | apply pw_below_drewN | apply below_drew1 | refine below_set ?_ GE264.out | refine below_set ?_ GE290.out) | exact HB.out)⟩⟩
              · rw [if_neg c57] at H
                have c57b0 : decide (a1 < 1) = false := decide_eq_false c57
                clear c57
                have H' := Aside0.mk H
                clear H
                go_wp2
                go_meet
                case rel => exact ⟨_, (decide (a1 > 65535)), (by first | rfl | (simp; done) | (simp [*]; done)), H', ⟨by have := HJ9.out; first | omega | exact Nat.le_refl _⟩, ⟨by (with_reducible repeat (first | apply Kd.V_alloc | apply Kd.V_drewN | apply Kd.V_drew)); exact Kd.V_mono (Kd.V_far (p := ⟨gb290, 5, none⟩) (Kd.V_far (p := ⟨gb290, 4, none⟩) (Kd.V_far (p := ⟨gb290, 3, none⟩) (Kd.V_far (p := ⟨gb290, 2, none⟩) (Kd.V_far (p := ⟨gb290, 1, none⟩) (Kd.V_far (p := ⟨gb290, 0, none⟩) (Kd.V_mono HO_265002.out (fun k_ hk => (⟨hk, hk.2⟩ : _ ∧ k_ ≠ gb290))) (fun _ hk => hk.2) (.int .u32 t279)) (fun _ hk => hk.2) (.int .i64 t280)) (fun _ hk => hk.2) (.slice Ao54 t281.length co54)) (fun _ hk => hk.2) (.int .i64 t284)) (fun _ hk => hk.2) (.int .i64 t285)) (fun _ hk => hk.2) (.slice Ao55 t286.length co55)) (fun _ hk => ⟨hk.1.1.1.2, ⟨hk.1.1.2, ⟨hk.1.1.1.1, hk.1.2⟩⟩⟩)⟩, ⟨by (with_reducible repeat (first | apply Kd.V_alloc | apply Kd.V_drewN | apply Kd.V_drew)); exact Kd.V_mono (Kd.V_far (p := ⟨gb290, 5, none⟩) (Kd.V_far (p := ⟨gb290, 4, none⟩) (Kd.V_far (p := ⟨gb290, 3, none⟩) (Kd.V_far (p := ⟨gb290, 2, none⟩) (Kd.V_far (p := ⟨gb290, 1, none⟩) (Kd.V_far (p := ⟨gb290, 0, none⟩) (Kd.V_mono HO_265005.out (fun k_ hk => (⟨hk, hk.2⟩ : _ ∧ k_ ≠ gb290))) (fun _ hk => hk.2) (.int .u32 t279)) (fun _ hk => hk.2) (.int .i64 t280)) (fun _ hk => hk.2) (.slice Ao54 t281.length co54)) (fun _ hk => hk.2) (.int .i64 t284)) (fun _ hk => hk.2) (.int .i64 t285)) (fun _ hk => hk.2) (.slice Ao55 t286.length co55)) (fun _ hk => ⟨hk.1.1.1.2, ⟨hk.1.1.2, ⟨hk.1.1.1.1, hk.1.2⟩⟩⟩)⟩, ⟨by (with_reducible repeat (first | apply Kd.R_alloc | apply Kd.R_drewN | apply Kd.R_drew)); exact Kd.R_mono (Kd.R_far (p := ⟨gb290, 5, none⟩) (Kd.R_far (p := ⟨gb290, 4, none⟩) (Kd.R_far (p := ⟨gb290, 3, none⟩) (Kd.R_far (p := ⟨gb290, 2, none⟩) (Kd.R_far (p := ⟨gb290, 1, none⟩) (Kd.R_far (p := ⟨gb290, 0, none⟩) (Kd.R_types HO283.out BK290.out (by decide)) (fun _ hk => hk.2) (.int .u32 t279)) (fun _ hk => hk.2) (.int .i64 t280)) (fun _ hk => hk.2) (.slice Ao54 t281.length co54)) (fun _ hk => hk.2) (.int .i64 t284)) (fun _ hk => hk.2) (.int .i64 t285)) (fun _ hk => hk.2) (.slice Ao55 t286.length co55)) (fun _ hk => hk.1)⟩, ⟨by (with_reducible repeat (first | apply Kd.R_alloc | apply Kd.R_drewN | apply Kd.R_drew)); exact Kd.R_mono (Kd.R_far (p := ⟨gb290, 5, none⟩) (Kd.R_far (p := ⟨gb290, 4, none⟩) (Kd.R_far (p := ⟨gb290, 3, none⟩) (Kd.R_far (p := ⟨gb290, 2, none⟩) (Kd.R_far (p := ⟨gb290, 1, none⟩) (Kd.R_far (p := ⟨gb290, 0, none⟩) (Kd.R_types HO288.out BK290.out (by decide)) (fun _ hk => hk.2) (.int .u32 t279)) (fun _ hk => hk.2) (.int .i64 t280)) (fun _ hk => hk.2) (.slice Ao54 t281.length co54)) (fun _ hk => hk.2) (.int .i64 t284)) (fun _ hk => hk.2) (.int .i64 t285)) (fun _ hk => hk.2) (.slice Ao55 t286.length co55)) (fun _ hk => hk.1)⟩, ⟨by (with_reducible repeat (first | refine blk_drewN ?_ _ | refine blk_drew ?_ | refine blk_alloc ?_ _)); refine blk_far ?_ NB264_290.out _; (with_reducible repeat (first | refine blk_drewN ?_ _ | refine blk_drew ?_ | refine blk_alloc ?_ _)); refine blk_far ?_ NB264_290.out _; (with_reducible repeat (first | refine blk_drewN ?_ _ | refine blk_drew ?_ | refine blk_alloc ?_ _)); refine blk_far ?_ NB264_290.out _; (with_reducible repeat (first | refine blk_drewN ?_ _ | refine blk_drew ?_ | refine blk_alloc ?_ _)); refine blk_far ?_ NB264_290.out _; (with_reducible repeat (first | refine blk_drewN ?_ _ | refine blk_drew ?_ | refine blk_alloc ?_ _)); refine blk_far ?_ NB264_290.out _; (with_reducible repeat (first | refine blk_drewN ?_ _ | refine blk_drew ?_ | refine blk_alloc ?_ _)); refine blk_far ?_ NB264_290.out _; (with_reducible repeat (first | refine blk_drewN ?_ _ | refine blk_drew ?_ | refine blk_alloc ?_ _)); exact BK264.out⟩, ⟨by (with_reducible repeat (first | refine blk_drewN ?_ _ | refine blk_drew ?_ | refine blk_alloc ?_ _)); refine blk_put (cs := #[.int .u32 t279, .int .i64 t280, .slice Ao54 t281.length co54, .int .i64 t284, .int .i64 t285, .slice none 0 0]) ?_ 5 _ rfl; (with_reducible repeat (first | refine blk_drewN ?_ _ | refine blk_drew ?_ | refine blk_alloc ?_ _)); refine blk_put (cs := #[.int .u32 t279, .int .i64 t280, .slice Ao54 t281.length co54, .int .i64 t284, .int .i64 0, .slice none 0 0]) ?_ 4 _ rfl; (with_reducible repeat (first | refine blk_drewN ?_ _ | refine blk_drew ?_ | refine blk_alloc ?_ _)); refine blk_put (cs := #[.int .u32 t279, .int .i64 t280, .slice Ao54 t281.length co54, .int .i64 0, .int .i64 0, .slice none 0 0]) ?_ 3 _ rfl; (with_reducible repeat (first | refine blk_drewN ?_ _ | refine blk_drew ?_ | refine blk_alloc ?_ _)); refine blk_put (cs := #[.int .u32 t279, .int .i64 t280, .slice none 0 0, .int .i64 0, .int .i64 0, .slice none 0 0]) ?_ 2 _ rfl; (with_reducible repeat (first | refine blk_drewN ?_ _ | refine blk_drew ?_ | refine blk_alloc ?_ _)); refine blk_put (cs := #[.int .u32 t279, .int .i64 0, .slice none 0 0, .int .i64 0, .int .i64 0, .slice none 0 0]) ?_ 1 _ rfl; (with_reducible repeat (first | refine blk_drewN ?_ _ | refine blk_drew ?_ | refine blk_alloc ?_ _)); refine blk_put (cs := #[.int .u32 0, .int .i64 0, .slice none 0 0, .int .i64 0, .int .i64 0, .slice none 0 0]) ?_ 0 _ rfl; (with_reducible repeat (first | refine blk_drewN ?_ _ | refine blk_drew ?_ | refine blk_alloc ?_ _)); exact BK290.out⟩, ⟨by repeat (first | (with_reducible first | exact HB.out | apply below_alloc | apply pw_below_drewN | apply below_drew1 | refine below_set ?_ GE264.out | refine below_set ?_ GE290.out) | exact HB.out)⟩⟩
            · rw [if_neg c56] at H
              have c56b0 : (t272 == 0) = false := beq_eq_false_iff_ne.mpr c56
              have c56b1 : (t272 != 0) = true := bne_iff_ne.mpr c56
              (first | rw [c56b0] | (simp only [i64_w, i32_w]; rw [c56b0]) | skip)
              have H' := Aside0.mk H
              clear H
              go_wp2
              go_meet
              case rel => exact ⟨_, (false), (by first | rfl | (simp; done) | (simp [*]; done)), H', ⟨by have := HJ9.out; first | omega | exact Nat.le_refl _⟩, ⟨by (with_reducible repeat (first | apply Kd.V_alloc | apply Kd.V_drewN | apply Kd.V_drew)); exact Kd.V_mono (Kd.V_far (p := ⟨gb290, 5, none⟩) (Kd.V_far (p := ⟨gb290, 4, none⟩) (Kd.V_far (p := ⟨gb290, 3, none⟩) (Kd.V_far (p := ⟨gb290, 2, none⟩) (Kd.V_far (p := ⟨gb290, 1, none⟩) (Kd.V_far (p := ⟨gb290, 0, none⟩) (Kd.V_mono HO_265002.out (fun k_ hk => (⟨hk, hk.2⟩ : _ ∧ k_ ≠ gb290))) (fun _ hk => hk.2) (.int .u32 t279)) (fun _ hk => hk.2) (.int .i64 t280)) (fun _ hk => hk.2) (.slice Ao54 t281.length co54)) (fun _ hk => hk.2) (.int .i64 t284)) (fun _ hk => hk.2) (.int .i64 t285)) (fun _ hk => hk.2) (.slice Ao55 t286.length co55)) (fun _ hk => ⟨hk.1.1.1.2, ⟨hk.1.1.2, ⟨hk.1.1.1.1, hk.1.2⟩⟩⟩)⟩, ⟨by (with_reducible repeat (first | apply Kd.V_alloc | apply Kd.V_drewN | apply Kd.V_drew)); exact Kd.V_mono (Kd.V_far (p := ⟨gb290, 5, none⟩) (Kd.V_far (p := ⟨gb290, 4, none⟩) (Kd.V_far (p := ⟨gb290, 3, none⟩) (Kd.V_far (p := ⟨gb290, 2, none⟩) (Kd.V_far (p := ⟨gb290, 1, none⟩) (Kd.V_far (p := ⟨gb290, 0, none⟩) (Kd.V_mono HO_265005.out (fun k_ hk => (⟨hk, hk.2⟩ : _ ∧ k_ ≠ gb290))) (fun _ hk => hk.2) (.int .u32 t279)) (fun _ hk => hk.2) (.int .i64 t280)) (fun _ hk => hk.2) (.slice Ao54 t281.length co54)) (fun _ hk => hk.2) (.int .i64 t284)) (fun _ hk => hk.2) (.int .i64 t285)) (fun _ hk => hk.2) (.slice Ao55 t286.length co55)) (fun _ hk => ⟨hk.1.1.1.2, ⟨hk.1.1.2, ⟨hk.1.1.1.1, hk.1.2⟩⟩⟩)⟩, ⟨by (with_reducible repeat (first | apply Kd.R_alloc | apply Kd.R_drewN | apply Kd.R_drew)); exact Kd.R_mono (Kd.R_far (p := ⟨gb290, 5, none⟩) (Kd.R_far (p := ⟨gb290, 4, none⟩) (Kd.R_far (p := ⟨gb290, 3, none⟩) (Kd.R_far (p := ⟨gb290, 2, none⟩) (Kd.R_far (p := ⟨gb290, 1, none⟩) (Kd.R_far (p := ⟨gb290, 0, none⟩) (Kd.R_types HO283.out BK290.out (by decide)) (fun _ hk => hk.2) (.int .u32 t279)) (fun _ hk => hk.2) (.int .i64 t280)) (fun _ hk => hk.2) (.slice Ao54 t281.length co54)) (fun _ hk => hk.2) (.int .i64 t284)) (fun _ hk => hk.2) (.int .i64 t285)) (fun _ hk => hk.2) (.slice Ao55 t286.length co55)) (fun _ hk => hk.1)⟩, ⟨by (with_reducible repeat (first | apply Kd.R_alloc | apply Kd.R_drewN | apply Kd.R_drew)); exact Kd.R_mono (Kd.R_far (p := ⟨gb290, 5, none⟩) (Kd.R_far (p := ⟨gb290, 4, none⟩) (Kd.R_far (p := ⟨gb290, 3, none⟩) (Kd.R_far (p := ⟨gb290, 2, none⟩) (Kd.R_far (p := ⟨gb290, 1, none⟩) (Kd.R_far (p := ⟨gb290, 0, none⟩) (Kd.R_types HO288.out BK290.out (by decide)) (fun _ hk => hk.2) (.int .u32 t279)) (fun _ hk => hk.2) (.int .i64 t280)) (fun _ hk => hk.2) (.slice Ao54 t281.length co54)) (fun _ hk => hk.2) (.int .i64 t284)) (fun _ hk => hk.2) (.int .i64 t285)) (fun _ hk => hk.2) (.slice Ao55 t286.length co55)) (fun _ hk => hk.1)⟩, ⟨by (with_reducible repeat (first | refine blk_drewN ?_ _ | refine blk_drew ?_ | refine blk_alloc ?_ _)); refine blk_far ?_ NB264_290.out _; (with_reducible repeat (first | refine blk_drewN ?_ _ | refine blk_drew ?_ | refine blk_alloc ?_ _)); refine blk_far ?_ NB264_290.out _; (with_reducible repeat (first | refine blk_drewN ?_ _ | refine blk_drew ?_ | refine blk_alloc ?_ _)); refine blk_far ?_ NB264_290.out _; (with_reducible repeat (first | refine blk_drewN ?_ _ | refine blk_drew ?_ | refine blk_alloc ?_ _)); refine blk_far ?_ NB264_290.out _; (with_reducible repeat (first | refine blk_drewN ?_ _ | refine blk_drew ?_ | refine blk_alloc ?_ _)); refine blk_far ?_ NB264_290.out _; (with_reducible repeat (first | refine blk_drewN ?_ _ | refine blk_drew ?_ | refine blk_alloc ?_ _)); refine blk_far ?_ NB264_290.out _; (with_reducible repeat (first | refine blk_drewN ?_ _ | refine blk_drew ?_ | refine blk_alloc ?_ _)); exact BK264.out⟩, ⟨by (with_reducible repeat (first | refine blk_drewN ?_ _ | refine blk_drew ?_ | refine blk_alloc ?_ _)); refine blk_put (cs := #[.int .u32 t279, .int .i64 t280, .slice Ao54 t281.length co54, .int .i64 t284, .int .i64 t285, .slice none 0 0]) ?_ 5 _ rfl; (with_reducible repeat (first | refine blk_drewN ?_ _ | refine blk_drew ?_ | refine blk_alloc ?_ _)); refine blk_put (cs := #[.int .u32 t279, .int .i64 t280, .slice Ao54 t281.length co54, .int .i64 t284, .int .i64 0, .slice none 0 0]) ?_ 4 _ rfl; (with_reducible repeat (first | refine blk_drewN ?_ _ | refine blk_drew ?_ | refine blk_alloc ?_ _)); refine blk_put (cs := #[.int .u32 t279, .int .i64 t280, .slice Ao54 t281.length co54, .int .i64 0, .int .i64 0, .slice none 0 0]) ?_ 3 _ rfl; (with_reducible repeat (first | refine blk_drewN ?_ _ | refine blk_drew ?_ | refine blk_alloc ?_ _)); refine blk_put (cs := #[.int .u32 t279, .int .i64 t280, .slice none 0 0, .int .i64 0, .int .i64 0, .slice none 0 0]) ?_ 2 _ rfl; (with_reducible repeat (first | refine blk_drewN ?_ _ | refine blk_drew ?_ | refine blk_alloc ?_ _)); refine blk_put (cs := #[.int .u32 t279, .int .i64 0, .slice none 0 0, .int .i64 0, .int .i64 0, .slice none 0 0]) ?_ 1 _ rfl; (with_reducible repeat (first | refine blk_drewN ?_ _ | refine blk_drew ?_ | refine blk_alloc ?_ _)); refine blk_put (cs := #[.int .u32 0, .int .i64 0, .slice none 0 0, .int .i64 0, .int .i64 0, .slice none 0 0]) ?_ 0 _ rfl; (with_reducible repeat (first | refine blk_drewN ?_ _ | refine blk_drew ?_ | refine blk_alloc ?_ _)); exact BK290.out⟩, ⟨by repeat (first | (with_reducible first | exact HB.out | apply below_alloc | apply pw_below_drewN | apply below_drew1 | refine below_set ?_ GE264.out | refine below_set ?_ GE290.out) | exact HB.out)⟩⟩
          case rest => as_aux_lemma =>
            clear HC46
            try clear c2
            try clear p2
            try clear c3
            try clear c4
            try clear c5
            try clear c8
            try clear c26
            try clear c26b0
            try clear c26b1
            try clear c27
            try clear c27b0
            try clear c27b1
            try clear c28
            try clear c28b0
            try clear c28b1
            try clear c34
            try clear c34b0
            try clear c34b1
            try clear c43
            try clear c49
            try clear c50
            try clear c51
            try clear c52
            try clear c54
            try clear c55
            try clear c56
            try clear c56b0
            try clear c56b1
            try clear c57
            try clear c57b0
            try clear hcz21_0
            try clear hcz21_1
            try clear hcz21_2
            try clear hcz21_3
            try clear hcz21_4
            try clear hcz21_5
            try clear hcz23_0
            try clear hcz23_1
            try clear hcz23_2
            try clear hcz23_3
            try clear hcz23_4
            try clear hcz23_5
            try clear hcz30_0
            try clear hcz30_1
            try clear hcz30_2
            try clear hcz30_3
            try clear hcz30_4
            try clear hcz30_5
            try clear hcz32_0
            try clear hcz32_1
            try clear hcz32_2
            try clear hcz32_3
            try clear hcz32_4
            try clear hcz32_5
            try clear hcz35_0
            try clear hcz35_1
            try clear hcz35_2
            try clear hcz35_3
            try clear hcz35_4
            try clear hcz35_5
            try clear hcz37_0
            try clear hcz37_1
            try clear hcz37_2
            try clear hcz37_3
            try clear hcz37_4
            try clear hcz37_5
            try clear hcz39_0
            try clear hcz39_1
            try clear hcz39_2
            try clear hcz39_3
            try clear hcz39_4
            try clear hcz39_5
            try clear hcz41_0
            try clear hcz41_1
            try clear hcz41_2
            try clear hcz41_3
            try clear hcz41_4
            try clear hcz41_5
            try clear hcz47_0
            try clear hcz47_1
            try clear hcz47_2
            try clear hcz47_3
            try clear hcz47_4
            try clear hcz47_5
            try clear hcz49_0
            try clear hcz49_1
            try clear hcz49_2
            try clear hcz49_3
            try clear hcz49_4
            try clear hcz49_5
            try clear hcz53_0
            try clear hcz53_1
            try clear hcz53_2
            try clear hcz53_3
            try clear hcz53_4
            try clear hcz53_5
            try clear hfz21_0
            try clear hfz21_1
            try clear hfz21_2
            try clear hfz21_3
            try clear hfz21_4
            try clear hfz21_5
            try clear hfz23_0
            try clear hfz23_1
            try clear hfz23_2
            try clear hfz23_3
            try clear hfz23_4
            try clear hfz23_5
            try clear hfz30_0
            try clear hfz30_1
            try clear hfz30_2
            try clear hfz30_3
            try clear hfz30_4
            try clear hfz30_5
            try clear hfz32_0
            try clear hfz32_1
            try clear hfz32_2
            try clear hfz32_3
            try clear hfz32_4
            try clear hfz32_5
            try clear hfz35_0
            try clear hfz35_1
            try clear hfz35_2
            try clear hfz35_3
            try clear hfz35_4
            try clear hfz35_5
            try clear hfz37_0
            try clear hfz37_1
            try clear hfz37_2
            try clear hfz37_3
            try clear hfz37_4
            try clear hfz37_5
            try clear hfz39_0
            try clear hfz39_1
            try clear hfz39_2
            try clear hfz39_3
            try clear hfz39_4
            try clear hfz39_5
            try clear hfz41_0
            try clear hfz41_1
            try clear hfz41_2
            try clear hfz41_3
            try clear hfz41_4
            try clear hfz41_5
            try clear hfz47_0
            try clear hfz47_1
            try clear hfz47_2
            try clear hfz47_3
            try clear hfz47_4
            try clear hfz47_5
            try clear hfz49_0
            try clear hfz49_1
            try clear hfz49_2
            try clear hfz49_3
            try clear hfz49_4
            try clear hfz49_5
            try clear hfz53_0
            try clear hfz53_1
            try clear hfz53_2
            try clear hfz53_3
            try clear hfz53_4
            try clear hfz53_5
            try clear p2
            obtain ⟨kq, x83_45, rfl, HA, HJ45, HO_265002, HO_265005, HO_291002, HO_291005, BK264, BK290, HB⟩ := hcut
            cases kq with
            | zero => exact absurd HA.out (by simp [patchbaylaw2_PathEncodes.j1])
            | succ kj45 =>
              have H := HA.out
              clear HA
              simp only [patchbaylaw2_PathEncodes.j1] at H
              have HC58 := Aside0.mk H
              clear H
              go_upto_if 83 with (fail)
              go_cut [7] (fun v7 wc => ∃ (kq : Nat) (x7_57 : Int), v7 = .int .i64 x7_57 ∧ Aside0 (patchbaylaw2_PathEncodes.j2 kq a1 a2 x7_57 t278 t277 t289 a0_0 a0_1 t266 a0_3 a0_4 t269 t279 t280 t281 t284 t285 t286 = some r) ∧ Aside0 (kq ≤ kj45) ∧ Aside0 (Kd.V (Kd.int .i64) 3 wc w.heap.size (fun k_ => some k_ ≠ ((.slice Ao54 t281.length co54) : Value).ownBlock ∧ some k_ ≠ ((.slice Ao55 t286.length co55) : Value).ownBlock ∧ k_ ≠ gb264 ∧ k_ ≠ gb290) (.slice Ao16 t266.length co16) t266) ∧ Aside0 (Kd.V (Kd.int .i64) 3 wc w.heap.size (fun k_ => some k_ ≠ ((.slice Ao54 t281.length co54) : Value).ownBlock ∧ some k_ ≠ ((.slice Ao55 t286.length co55) : Value).ownBlock ∧ k_ ≠ gb264 ∧ k_ ≠ gb290) (.slice Ao18 t269.length co18) t269) ∧ Aside0 (Kd.R (Kd.int .i64) 3 wc w.heap.size (fun k_ => some k_ ≠ ((.slice Ao55 t286.length co55) : Value).ownBlock) (.slice Ao54 t281.length co54) t281) ∧ Aside0 (Kd.R (Kd.int .i64) 3 wc w.heap.size (fun k_ => some k_ ≠ ((.slice Ao54 t281.length co54) : Value).ownBlock) (.slice Ao55 t286.length co55) t286) ∧ Aside0 (wc.heap[gb264]? = some (.cells #[.int .u32 a0_0, .int .i64 a0_1, (.slice Ao16 t266.length co16), .int .i64 a0_3, .int .i64 a0_4, (.slice Ao18 t269.length co18)] 51 (0, 0))) ∧ Aside0 (wc.heap[gb290]? = some (.cells #[.int .u32 t279, .int .i64 t280, (.slice Ao54 t281.length co54), .int .i64 t284, .int .i64 t285, (.slice Ao55 t286.length co55)] 51 (0, 0))) ∧ Aside0 (Below w.heap.size w wc))
              case first => as_aux_lemma =>
                have H := HC58.out
                clear HC58
                by_cases c59 : x83_45 = true
                · subst c59
                  have H1 : (patchbaylaw2_PathEncodes.j2 kj45 a1 a2 10 t278 t277 t289 a0_0 a0_1 t266 a0_3 a0_4 t269 t279 t280 t281 t284 t285 t286) = some r := by rw [if_pos rfl] at H; exact H
                  clear H
                  have H := H1
                  clear H1
                  have H' := Aside0.mk H
                  clear H
                  go_wp2
                  go_meet
                  case rel => exact ⟨_, (10), (by first | rfl | (simp; done) | (simp [*]; done)), H', ⟨by have := HJ9.out; have := HJ45.out; first | omega | exact Nat.le_refl _⟩, ⟨by (with_reducible repeat (first | apply Kd.V_alloc | apply Kd.V_drewN | apply Kd.V_drew)); exact HO_265002.out⟩, ⟨by (with_reducible repeat (first | apply Kd.V_alloc | apply Kd.V_drewN | apply Kd.V_drew)); exact HO_265005.out⟩, ⟨by (with_reducible repeat (first | apply Kd.R_alloc | apply Kd.R_drewN | apply Kd.R_drew)); exact HO_291002.out⟩, ⟨by (with_reducible repeat (first | apply Kd.R_alloc | apply Kd.R_drewN | apply Kd.R_drew)); exact HO_291005.out⟩, ⟨by (with_reducible repeat (first | refine blk_drewN ?_ _ | refine blk_drew ?_ | refine blk_alloc ?_ _)); exact BK264.out⟩, ⟨by (with_reducible repeat (first | refine blk_drewN ?_ _ | refine blk_drew ?_ | refine blk_alloc ?_ _)); exact BK290.out⟩, ⟨by repeat (first | (with_reducible first | exact HB.out | apply below_alloc | apply pw_below_drewN | apply below_drew1 | refine below_set ?_ GE264.out | refine below_set ?_ GE290.out) | exact HB.out)⟩⟩
                · replace c59 := Bool.eq_false_iff.mpr c59
                  subst c59
                  have H1 : (patchbaylaw2_PathEncodes.j2 kj45 a1 a2 t272 t278 t277 t289 a0_0 a0_1 t266 a0_3 a0_4 t269 t279 t280 t281 t284 t285 t286) = some r := by rw [if_neg (show ¬ (false = true) by decide)] at H; exact H
                  clear H
                  have H := H1
                  clear H1
                  have H' := Aside0.mk H
                  clear H
                  go_wp2
                  go_meet
                  case rel => exact ⟨_, (t272), (by first | rfl | (simp; done) | (simp [*]; done)), H', ⟨by have := HJ9.out; have := HJ45.out; first | omega | exact Nat.le_refl _⟩, ⟨by (with_reducible repeat (first | apply Kd.V_alloc | apply Kd.V_drewN | apply Kd.V_drew)); exact HO_265002.out⟩, ⟨by (with_reducible repeat (first | apply Kd.V_alloc | apply Kd.V_drewN | apply Kd.V_drew)); exact HO_265005.out⟩, ⟨by (with_reducible repeat (first | apply Kd.R_alloc | apply Kd.R_drewN | apply Kd.R_drew)); exact HO_291002.out⟩, ⟨by (with_reducible repeat (first | apply Kd.R_alloc | apply Kd.R_drewN | apply Kd.R_drew)); exact HO_291005.out⟩, ⟨by (with_reducible repeat (first | refine blk_drewN ?_ _ | refine blk_drew ?_ | refine blk_alloc ?_ _)); exact BK264.out⟩, ⟨by (with_reducible repeat (first | refine blk_drewN ?_ _ | refine blk_drew ?_ | refine blk_alloc ?_ _)); exact BK290.out⟩, ⟨by repeat (first | (with_reducible first | exact HB.out | apply below_alloc | apply pw_below_drewN | apply below_drew1 | refine below_set ?_ GE264.out | refine below_set ?_ GE290.out) | exact HB.out)⟩⟩
              case rest => as_aux_lemma =>
                clear HC58
                try clear c2
                try clear p2
                try clear c3
                try clear c4
                try clear c5
                try clear c8
                try clear c26
                try clear c26b0
                try clear c26b1
                try clear c27
                try clear c27b0
                try clear c27b1
                try clear c28
                try clear c28b0
                try clear c28b1
                try clear c34
                try clear c34b0
                try clear c34b1
                try clear c43
                try clear c49
                try clear c50
                try clear c51
                try clear c52
                try clear c54
                try clear c55
                try clear c56
                try clear c56b0
                try clear c56b1
                try clear c57
                try clear c57b0
                try clear c59
                try clear hcz21_0
                try clear hcz21_1
                try clear hcz21_2
                try clear hcz21_3
                try clear hcz21_4
                try clear hcz21_5
                try clear hcz23_0
                try clear hcz23_1
                try clear hcz23_2
                try clear hcz23_3
                try clear hcz23_4
                try clear hcz23_5
                try clear hcz30_0
                try clear hcz30_1
                try clear hcz30_2
                try clear hcz30_3
                try clear hcz30_4
                try clear hcz30_5
                try clear hcz32_0
                try clear hcz32_1
                try clear hcz32_2
                try clear hcz32_3
                try clear hcz32_4
                try clear hcz32_5
                try clear hcz35_0
                try clear hcz35_1
                try clear hcz35_2
                try clear hcz35_3
                try clear hcz35_4
                try clear hcz35_5
                try clear hcz37_0
                try clear hcz37_1
                try clear hcz37_2
                try clear hcz37_3
                try clear hcz37_4
                try clear hcz37_5
                try clear hcz39_0
                try clear hcz39_1
                try clear hcz39_2
                try clear hcz39_3
                try clear hcz39_4
                try clear hcz39_5
                try clear hcz41_0
                try clear hcz41_1
                try clear hcz41_2
                try clear hcz41_3
                try clear hcz41_4
                try clear hcz41_5
                try clear hcz47_0
                try clear hcz47_1
                try clear hcz47_2
                try clear hcz47_3
                try clear hcz47_4
                try clear hcz47_5
                try clear hcz49_0
                try clear hcz49_1
                try clear hcz49_2
                try clear hcz49_3
                try clear hcz49_4
                try clear hcz49_5
                try clear hcz53_0
                try clear hcz53_1
                try clear hcz53_2
                try clear hcz53_3
                try clear hcz53_4
                try clear hcz53_5
                try clear hfz21_0
                try clear hfz21_1
                try clear hfz21_2
                try clear hfz21_3
                try clear hfz21_4
                try clear hfz21_5
                try clear hfz23_0
                try clear hfz23_1
                try clear hfz23_2
                try clear hfz23_3
                try clear hfz23_4
                try clear hfz23_5
                try clear hfz30_0
                try clear hfz30_1
                try clear hfz30_2
                try clear hfz30_3
                try clear hfz30_4
                try clear hfz30_5
                try clear hfz32_0
                try clear hfz32_1
                try clear hfz32_2
                try clear hfz32_3
                try clear hfz32_4
                try clear hfz32_5
                try clear hfz35_0
                try clear hfz35_1
                try clear hfz35_2
                try clear hfz35_3
                try clear hfz35_4
                try clear hfz35_5
                try clear hfz37_0
                try clear hfz37_1
                try clear hfz37_2
                try clear hfz37_3
                try clear hfz37_4
                try clear hfz37_5
                try clear hfz39_0
                try clear hfz39_1
                try clear hfz39_2
                try clear hfz39_3
                try clear hfz39_4
                try clear hfz39_5
                try clear hfz41_0
                try clear hfz41_1
                try clear hfz41_2
                try clear hfz41_3
                try clear hfz41_4
                try clear hfz41_5
                try clear hfz47_0
                try clear hfz47_1
                try clear hfz47_2
                try clear hfz47_3
                try clear hfz47_4
                try clear hfz47_5
                try clear hfz49_0
                try clear hfz49_1
                try clear hfz49_2
                try clear hfz49_3
                try clear hfz49_4
                try clear hfz49_5
                try clear hfz53_0
                try clear hfz53_1
                try clear hfz53_2
                try clear hfz53_3
                try clear hfz53_4
                try clear hfz53_5
                try clear p2
                obtain ⟨kq, x7_57, rfl, HA, HJ57, HO_265002, HO_265005, HO_291002, HO_291005, BK264, BK290, HB⟩ := hcut
                cases kq with
                | zero => exact absurd HA.out (by simp [patchbaylaw2_PathEncodes.j2])
                | succ kj57 =>
                  have H := HA.out
                  clear HA
                  simp only [patchbaylaw2_PathEncodes.j2] at H
                  have H' := Aside0.mk H
                  clear H
                  have hnb60 := NB264_290.out
                  have hnc60 := NB290_264.out
                  have hcz61_0 : wc.cell? ⟨gb264, 0, none⟩ = some (.int .u32 a0_0) := (blk_cell BK264.out 0).trans rfl
                  have hcz61_1 : wc.cell? ⟨gb264, 1, none⟩ = some (.int .i64 a0_1) := (blk_cell BK264.out 1).trans rfl
                  have hcz61_2 : wc.cell? ⟨gb264, 2, none⟩ = some (.slice Ao16 t266.length co16) := (blk_cell BK264.out 2).trans rfl
                  have hcz61_3 : wc.cell? ⟨gb264, 3, none⟩ = some (.int .i64 a0_3) := (blk_cell BK264.out 3).trans rfl
                  have hcz61_4 : wc.cell? ⟨gb264, 4, none⟩ = some (.int .i64 a0_4) := (blk_cell BK264.out 4).trans rfl
                  have hcz61_5 : wc.cell? ⟨gb264, 5, none⟩ = some (.slice Ao18 t269.length co18) := (blk_cell BK264.out 5).trans rfl
                  have hfz61_0 := blk_frozen BK264.out 0
                  have hfz61_1 := blk_frozen BK264.out 1
                  have hfz61_2 := blk_frozen BK264.out 2
                  have hfz61_3 := blk_frozen BK264.out 3
                  have hfz61_4 := blk_frozen BK264.out 4
                  have hfz61_5 := blk_frozen BK264.out 5
                  go_wp2
                  go_loopg [13, 87] kj57 (fun kq v13 v87 w' => ∃ (x13_4 : Bool) (x87_4 : Int), v13 = .bool x13_4 ∧ v87 = .int .i64 x87_4 ∧ Aside0 (patchbaylaw2_PathEncodes.l0 kq a1 a2 x7_57 t278 t277 t289 x13_4 t266 (t266.length : Int) x87_4 a0_0 a0_1 t266 a0_3 a0_4 t269 t279 t280 t281 t284 t285 t286 = some r) ∧ Aside0 (kq ≤ kj57) ∧ Aside0 (Kd.V (Kd.int .i64) 3 w' w.heap.size (fun k_ => some k_ ≠ ((.slice Ao54 t281.length co54) : Value).ownBlock ∧ some k_ ≠ ((.slice Ao55 t286.length co55) : Value).ownBlock ∧ k_ ≠ gb264 ∧ k_ ≠ gb290) (.slice Ao16 t266.length co16) t266) ∧ Aside0 (Kd.V (Kd.int .i64) 3 w' w.heap.size (fun k_ => some k_ ≠ ((.slice Ao54 t281.length co54) : Value).ownBlock ∧ some k_ ≠ ((.slice Ao55 t286.length co55) : Value).ownBlock ∧ k_ ≠ gb264 ∧ k_ ≠ gb290) (.slice Ao16 t266.length co16) t266) ∧ Aside0 (Kd.V (Kd.int .i64) 3 w' w.heap.size (fun k_ => some k_ ≠ ((.slice Ao54 t281.length co54) : Value).ownBlock ∧ some k_ ≠ ((.slice Ao55 t286.length co55) : Value).ownBlock ∧ k_ ≠ gb264 ∧ k_ ≠ gb290) (.slice Ao18 t269.length co18) t269) ∧ Aside0 (Kd.R (Kd.int .i64) 3 w' w.heap.size (fun k_ => some k_ ≠ ((.slice Ao55 t286.length co55) : Value).ownBlock) (.slice Ao54 t281.length co54) t281) ∧ Aside0 (Kd.R (Kd.int .i64) 3 w' w.heap.size (fun k_ => some k_ ≠ ((.slice Ao54 t281.length co54) : Value).ownBlock) (.slice Ao55 t286.length co55) t286) ∧ Aside0 (w'.heap[gb264]? = some (.cells #[.int .u32 a0_0, .int .i64 a0_1, (.slice Ao16 t266.length co16), .int .i64 a0_3, .int .i64 a0_4, (.slice Ao18 t269.length co18)] 51 (0, 0))) ∧ Aside0 (w'.heap[gb290]? = some (.cells #[.int .u32 t279, .int .i64 t280, (.slice Ao54 t281.length co54), .int .i64 t284, .int .i64 t285, (.slice Ao55 t286.length co55)] 51 (0, 0))) ∧ Aside0 (Below w.heap.size w w'))
                  case atStart => exact ⟨(false), (0), (by first | rfl | (simp; done) | (simp [*]; done)), (by first | rfl | (simp; done) | (simp [*]; done)), H', ⟨Nat.le_refl _⟩, ⟨by (with_reducible repeat (first | apply Kd.V_alloc | apply Kd.V_drewN | apply Kd.V_drew)); exact HO_265002.out⟩, ⟨by (with_reducible repeat (first | apply Kd.V_alloc | apply Kd.V_drewN | apply Kd.V_drew)); exact HO_265002.out⟩, ⟨by (with_reducible repeat (first | apply Kd.V_alloc | apply Kd.V_drewN | apply Kd.V_drew)); exact HO_265005.out⟩, ⟨by (with_reducible repeat (first | apply Kd.R_alloc | apply Kd.R_drewN | apply Kd.R_drew)); exact HO_291002.out⟩, ⟨by (with_reducible repeat (first | apply Kd.R_alloc | apply Kd.R_drewN | apply Kd.R_drew)); exact HO_291005.out⟩, ⟨by (with_reducible repeat (first | refine blk_drewN ?_ _ | refine blk_drew ?_ | refine blk_alloc ?_ _)); exact BK264.out⟩, ⟨by (with_reducible repeat (first | refine blk_drewN ?_ _ | refine blk_drew ?_ | refine blk_alloc ?_ _)); exact BK290.out⟩, ⟨by repeat (first | (with_reducible first | exact HB.out | apply below_alloc | apply pw_below_drewN | apply below_drew1 | refine below_set ?_ GE264.out | refine below_set ?_ GE290.out) | exact HB.out)⟩⟩
                  case round => as_aux_lemma =>
                    clear H'
                    try clear c2
                    try clear p2
                    try clear c3
                    try clear c4
                    try clear c5
                    try clear c6
                    try clear c8
                    try clear c26
                    try clear c26b0
                    try clear c26b1
                    try clear c27
                    try clear c27b0
                    try clear c27b1
                    try clear c28
                    try clear c28b0
                    try clear c28b1
                    try clear c34
                    try clear c34b0
                    try clear c34b1
                    try clear c43
                    try clear c49
                    try clear c50
                    try clear c51
                    try clear c52
                    try clear c54
                    try clear c55
                    try clear c56
                    try clear c56b0
                    try clear c56b1
                    try clear c57
                    try clear c57b0
                    try clear c59
                    try clear c60
                    try clear hcz21_0
                    try clear hcz21_1
                    try clear hcz21_2
                    try clear hcz21_3
                    try clear hcz21_4
                    try clear hcz21_5
                    try clear hcz23_0
                    try clear hcz23_1
                    try clear hcz23_2
                    try clear hcz23_3
                    try clear hcz23_4
                    try clear hcz23_5
                    try clear hcz30_0
                    try clear hcz30_1
                    try clear hcz30_2
                    try clear hcz30_3
                    try clear hcz30_4
                    try clear hcz30_5
                    try clear hcz32_0
                    try clear hcz32_1
                    try clear hcz32_2
                    try clear hcz32_3
                    try clear hcz32_4
                    try clear hcz32_5
                    try clear hcz35_0
                    try clear hcz35_1
                    try clear hcz35_2
                    try clear hcz35_3
                    try clear hcz35_4
                    try clear hcz35_5
                    try clear hcz37_0
                    try clear hcz37_1
                    try clear hcz37_2
                    try clear hcz37_3
                    try clear hcz37_4
                    try clear hcz37_5
                    try clear hcz39_0
                    try clear hcz39_1
                    try clear hcz39_2
                    try clear hcz39_3
                    try clear hcz39_4
                    try clear hcz39_5
                    try clear hcz41_0
                    try clear hcz41_1
                    try clear hcz41_2
                    try clear hcz41_3
                    try clear hcz41_4
                    try clear hcz41_5
                    try clear hcz47_0
                    try clear hcz47_1
                    try clear hcz47_2
                    try clear hcz47_3
                    try clear hcz47_4
                    try clear hcz47_5
                    try clear hcz49_0
                    try clear hcz49_1
                    try clear hcz49_2
                    try clear hcz49_3
                    try clear hcz49_4
                    try clear hcz49_5
                    try clear hcz53_0
                    try clear hcz53_1
                    try clear hcz53_2
                    try clear hcz53_3
                    try clear hcz53_4
                    try clear hcz53_5
                    try clear hcz61_0
                    try clear hcz61_1
                    try clear hcz61_2
                    try clear hcz61_3
                    try clear hcz61_4
                    try clear hcz61_5
                    try clear hfz21_0
                    try clear hfz21_1
                    try clear hfz21_2
                    try clear hfz21_3
                    try clear hfz21_4
                    try clear hfz21_5
                    try clear hfz23_0
                    try clear hfz23_1
                    try clear hfz23_2
                    try clear hfz23_3
                    try clear hfz23_4
                    try clear hfz23_5
                    try clear hfz30_0
                    try clear hfz30_1
                    try clear hfz30_2
                    try clear hfz30_3
                    try clear hfz30_4
                    try clear hfz30_5
                    try clear hfz32_0
                    try clear hfz32_1
                    try clear hfz32_2
                    try clear hfz32_3
                    try clear hfz32_4
                    try clear hfz32_5
                    try clear hfz35_0
                    try clear hfz35_1
                    try clear hfz35_2
                    try clear hfz35_3
                    try clear hfz35_4
                    try clear hfz35_5
                    try clear hfz37_0
                    try clear hfz37_1
                    try clear hfz37_2
                    try clear hfz37_3
                    try clear hfz37_4
                    try clear hfz37_5
                    try clear hfz39_0
                    try clear hfz39_1
                    try clear hfz39_2
                    try clear hfz39_3
                    try clear hfz39_4
                    try clear hfz39_5
                    try clear hfz41_0
                    try clear hfz41_1
                    try clear hfz41_2
                    try clear hfz41_3
                    try clear hfz41_4
                    try clear hfz41_5
                    try clear hfz47_0
                    try clear hfz47_1
                    try clear hfz47_2
                    try clear hfz47_3
                    try clear hfz47_4
                    try clear hfz47_5
                    try clear hfz49_0
                    try clear hfz49_1
                    try clear hfz49_2
                    try clear hfz49_3
                    try clear hfz49_4
                    try clear hfz49_5
                    try clear hfz53_0
                    try clear hfz53_1
                    try clear hfz53_2
                    try clear hfz53_3
                    try clear hfz53_4
                    try clear hfz53_5
                    try clear hfz61_0
                    try clear hfz61_1
                    try clear hfz61_2
                    try clear hfz61_3
                    try clear hfz61_4
                    try clear hfz61_5
                    try clear p2
                    obtain ⟨x13_4, x87_4, rfl, rfl, HA, HK4, HO_85, HO_265002, HO_265005, HO_291002, HO_291005, BK264, BK290, HB⟩ := hrel
                    cases gk with
                    | zero => exact absurd HA.out (by simp [patchbaylaw2_PathEncodes.l0])
                    | succ k4 =>
                      have H := HA.out
                      clear HA
                      simp only [patchbaylaw2_PathEncodes.l0] at H
                      by_cases c62 : x87_4 < (t266.length : Int)
                      · rw [if_pos c62] at H
                        have c62b0 : decide (x87_4 < (t266.length : Int)) = true := decide_eq_true c62
                        clear c62
                        by_cases c63 : 0 ≤ x87_4
                        · rw [if_pos c63] at H
                          have c63b0 : decide (0 ≤ x87_4) = true := decide_eq_true c63
                          clear c63
                          by_cases c64 : x87_4 < (t266.length : Int)
                          · rw [if_pos c64] at H
                            have c64b0 : decide (x87_4 < (t266.length : Int)) = true := decide_eq_true c64
                            clear c64
                            by_cases c65 : x13_4 = true
                            · subst c65
                              have H1 : (patchbaylaw2_PathEncodes.l0 k4 a1 a2 x7_57 t278 t277 t289 true t266 (t266.length : Int) (wrap64 (x87_4 + 1)) a0_0 a0_1 t266 a0_3 a0_4 t269 t279 t280 t281 t284 t285 t286) = some r := by rw [if_pos rfl] at H; exact H
                              clear H
                              have H := H1
                              clear H1
                              have H' := Aside0.mk H
                              clear H
                              have p291 : 0 ≤ (x87_4 : Int) := of_decide_eq_true (by first | (with_reducible assumption) | assumption)
                              have q291 : x87_4 < (t266.length : Int) := of_decide_eq_true (by first | (with_reducible assumption) | assumption)
                              obtain ⟨ad291, e291, hx291_0⟩ := Kd.at_int (Kd.V_reads' HO_85.out).2.2 x87_4 p291 q291
                              cases e291
                              replace p291 := eq_true p291
                              replace q291 := eq_true q291
                              go_wp2
                              go_roundg k4
                              case measure => have := HJ9.out; have := HJ45.out; have := HJ57.out; have := HK4.out; omega
                              case rel => exact ⟨(true), (wrap64 (x87_4 + 1)), (by first | rfl | (simp; done) | (simp [*]; done)), (by first | rfl | (simp; done) | (simp [*]; done)), H', ⟨by have := HJ9.out; have := HJ45.out; have := HJ57.out; have := HK4.out; omega⟩, ⟨by (with_reducible repeat (first | apply Kd.V_alloc | apply Kd.V_drewN | apply Kd.V_drew)); exact HO_85.out⟩, ⟨by (with_reducible repeat (first | apply Kd.V_alloc | apply Kd.V_drewN | apply Kd.V_drew)); exact HO_265002.out⟩, ⟨by (with_reducible repeat (first | apply Kd.V_alloc | apply Kd.V_drewN | apply Kd.V_drew)); exact HO_265005.out⟩, ⟨by (with_reducible repeat (first | apply Kd.R_alloc | apply Kd.R_drewN | apply Kd.R_drew)); exact HO_291002.out⟩, ⟨by (with_reducible repeat (first | apply Kd.R_alloc | apply Kd.R_drewN | apply Kd.R_drew)); exact HO_291005.out⟩, ⟨by (with_reducible repeat (first | refine blk_drewN ?_ _ | refine blk_drew ?_ | refine blk_alloc ?_ _)); exact BK264.out⟩, ⟨by (with_reducible repeat (first | refine blk_drewN ?_ _ | refine blk_drew ?_ | refine blk_alloc ?_ _)); exact BK290.out⟩, ⟨by repeat (first | (with_reducible first | exact HB.out | apply below_alloc | apply pw_below_drewN | apply below_drew1 | refine below_set ?_ GE264.out | refine below_set ?_ GE290.out) | exact HB.out)⟩⟩
                            · replace c65 := Bool.eq_false_iff.mpr c65
                              subst c65
                              have H1 : (patchbaylaw2_PathEncodes.l0 k4 a1 a2 x7_57 t278 t277 t289 ((rd t266 x87_4) == a1) t266 (t266.length : Int) (wrap64 (x87_4 + 1)) a0_0 a0_1 t266 a0_3 a0_4 t269 t279 t280 t281 t284 t285 t286) = some r := by rw [if_neg (show ¬ (false = true) by decide)] at H; exact H
                              clear H
                              have H := H1
                              clear H1
                              have H' := Aside0.mk H
                              clear H
                              have p291 : 0 ≤ (x87_4 : Int) := of_decide_eq_true (by first | (with_reducible assumption) | assumption)
                              have q291 : x87_4 < (t266.length : Int) := of_decide_eq_true (by first | (with_reducible assumption) | assumption)
                              obtain ⟨ad291, e291, hx291_0⟩ := Kd.at_int (Kd.V_reads' HO_85.out).2.2 x87_4 p291 q291
                              cases e291
                              replace p291 := eq_true p291
                              replace q291 := eq_true q291
                              go_wp2
                              go_roundg k4
                              case measure => have := HJ9.out; have := HJ45.out; have := HJ57.out; have := HK4.out; omega
                              case rel => exact ⟨(((rd t266 x87_4) == a1)), (wrap64 (x87_4 + 1)), (by first | rfl | (simp; done) | (simp [*]; done)), (by first | rfl | (simp; done) | (simp [*]; done)), H', ⟨by have := HJ9.out; have := HJ45.out; have := HJ57.out; have := HK4.out; omega⟩, ⟨by (with_reducible repeat (first | apply Kd.V_alloc | apply Kd.V_drewN | apply Kd.V_drew)); exact HO_85.out⟩, ⟨by (with_reducible repeat (first | apply Kd.V_alloc | apply Kd.V_drewN | apply Kd.V_drew)); exact HO_265002.out⟩, ⟨by (with_reducible repeat (first | apply Kd.V_alloc | apply Kd.V_drewN | apply Kd.V_drew)); exact HO_265005.out⟩, ⟨by (with_reducible repeat (first | apply Kd.R_alloc | apply Kd.R_drewN | apply Kd.R_drew)); exact HO_291002.out⟩, ⟨by (with_reducible repeat (first | apply Kd.R_alloc | apply Kd.R_drewN | apply Kd.R_drew)); exact HO_291005.out⟩, ⟨by (with_reducible repeat (first | refine blk_drewN ?_ _ | refine blk_drew ?_ | refine blk_alloc ?_ _)); exact BK264.out⟩, ⟨by (with_reducible repeat (first | refine blk_drewN ?_ _ | refine blk_drew ?_ | refine blk_alloc ?_ _)); exact BK290.out⟩, ⟨by repeat (first | (with_reducible first | exact HB.out | apply below_alloc | apply pw_below_drewN | apply below_drew1 | refine below_set ?_ GE264.out | refine below_set ?_ GE290.out) | exact HB.out)⟩⟩
                          · rw [if_neg c64] at H
                            exact absurd H (by simp)
                        · rw [if_neg c63] at H
                          exact absurd H (by simp)
                      · rw [if_neg c62] at H
                        have c62b0 : decide (x87_4 < (t266.length : Int)) = false := decide_eq_false c62
                        clear c62
                        have HC66 := Aside0.mk H
                        clear H
                        go_upto_region 18 with (fail)
                        go_cut [109] (fun v109 wc => ∃ (kq : Nat) (x109_65 : Bool), v109 = .bool x109_65 ∧ Aside0 (patchbaylaw2_PathEncodes.j4 kq a1 a2 x7_57 t289 x109_65 a0_0 a0_1 t266 a0_3 a0_4 t269 t279 t280 t281 t284 t285 t286 = some r) ∧ Aside0 (kq ≤ k4) ∧ Aside0 (Kd.V (Kd.int .i64) 3 wc w.heap.size (fun k_ => some k_ ≠ ((.slice Ao54 t281.length co54) : Value).ownBlock ∧ some k_ ≠ ((.slice Ao55 t286.length co55) : Value).ownBlock ∧ k_ ≠ gb264 ∧ k_ ≠ gb290) (.slice Ao16 t266.length co16) t266) ∧ Aside0 (Kd.V (Kd.int .i64) 3 wc w.heap.size (fun k_ => some k_ ≠ ((.slice Ao54 t281.length co54) : Value).ownBlock ∧ some k_ ≠ ((.slice Ao55 t286.length co55) : Value).ownBlock ∧ k_ ≠ gb264 ∧ k_ ≠ gb290) (.slice Ao18 t269.length co18) t269) ∧ Aside0 (Kd.R (Kd.int .i64) 3 wc w.heap.size (fun k_ => some k_ ≠ ((.slice Ao55 t286.length co55) : Value).ownBlock) (.slice Ao54 t281.length co54) t281) ∧ Aside0 (Kd.R (Kd.int .i64) 3 wc w.heap.size (fun k_ => some k_ ≠ ((.slice Ao54 t281.length co54) : Value).ownBlock) (.slice Ao55 t286.length co55) t286) ∧ Aside0 (wc.heap[gb264]? = some (.cells #[.int .u32 a0_0, .int .i64 a0_1, (.slice Ao16 t266.length co16), .int .i64 a0_3, .int .i64 a0_4, (.slice Ao18 t269.length co18)] 51 (0, 0))) ∧ Aside0 (wc.heap[gb290]? = some (.cells #[.int .u32 t279, .int .i64 t280, (.slice Ao54 t281.length co54), .int .i64 t284, .int .i64 t285, (.slice Ao55 t286.length co55)] 51 (0, 0))) ∧ Aside0 (Below w.heap.size w wc))
                        case first => as_aux_lemma =>
                          have H := HC66.out
                          clear HC66
                          by_cases c67 : t278 = x7_57
                          · rw [if_pos c67] at H
                            have c67b0 : (t278 == x7_57) = true := beq_iff_eq.mpr c67
                            have c67b1 : (t278 != x7_57) = false := bne_eq_false_iff_eq.mpr c67
                            clear c67
                            (first | rw [c67b0] | (simp only [i64_w, i32_w]; rw [c67b0]) | skip)
                            by_cases c68 : x7_57 = 0
                            · rw [if_pos c68] at H
                              have c68b0 : (x7_57 == 0) = true := beq_iff_eq.mpr c68
                              have c68b1 : (x7_57 != 0) = false := bne_eq_false_iff_eq.mpr c68
                              clear c68
                              have H' := Aside0.mk H
                              clear H
                              go_wp2
                              go_meet
                              case rel => exact ⟨_, ((t277 != x13_4)), (by first | rfl | (simp; done) | (simp [*]; done)), H', ⟨by have := HJ9.out; have := HJ45.out; have := HJ57.out; have := HK4.out; first | omega | exact Nat.le_refl _⟩, ⟨by (with_reducible repeat (first | apply Kd.V_alloc | apply Kd.V_drewN | apply Kd.V_drew)); exact HO_265002.out⟩, ⟨by (with_reducible repeat (first | apply Kd.V_alloc | apply Kd.V_drewN | apply Kd.V_drew)); exact HO_265005.out⟩, ⟨by (with_reducible repeat (first | apply Kd.R_alloc | apply Kd.R_drewN | apply Kd.R_drew)); exact HO_291002.out⟩, ⟨by (with_reducible repeat (first | apply Kd.R_alloc | apply Kd.R_drewN | apply Kd.R_drew)); exact HO_291005.out⟩, ⟨by (with_reducible repeat (first | refine blk_drewN ?_ _ | refine blk_drew ?_ | refine blk_alloc ?_ _)); exact BK264.out⟩, ⟨by (with_reducible repeat (first | refine blk_drewN ?_ _ | refine blk_drew ?_ | refine blk_alloc ?_ _)); exact BK290.out⟩, ⟨by repeat (first | (with_reducible first | exact HB.out | apply below_alloc | apply pw_below_drewN | apply below_drew1 | refine below_set ?_ GE264.out | refine below_set ?_ GE290.out) | exact HB.out)⟩⟩
                            · rw [if_neg c68] at H
                              have c68b0 : (x7_57 == 0) = false := beq_eq_false_iff_ne.mpr c68
                              have c68b1 : (x7_57 != 0) = true := bne_iff_ne.mpr c68
                              have H' := Aside0.mk H
                              clear H
                              go_wp2
                              go_meet
                              case rel => exact ⟨_, ((t277 != false)), (by first | rfl | (simp; done) | (simp [*]; done)), H', ⟨by have := HJ9.out; have := HJ45.out; have := HJ57.out; have := HK4.out; first | omega | exact Nat.le_refl _⟩, ⟨by (with_reducible repeat (first | apply Kd.V_alloc | apply Kd.V_drewN | apply Kd.V_drew)); exact HO_265002.out⟩, ⟨by (with_reducible repeat (first | apply Kd.V_alloc | apply Kd.V_drewN | apply Kd.V_drew)); exact HO_265005.out⟩, ⟨by (with_reducible repeat (first | apply Kd.R_alloc | apply Kd.R_drewN | apply Kd.R_drew)); exact HO_291002.out⟩, ⟨by (with_reducible repeat (first | apply Kd.R_alloc | apply Kd.R_drewN | apply Kd.R_drew)); exact HO_291005.out⟩, ⟨by (with_reducible repeat (first | refine blk_drewN ?_ _ | refine blk_drew ?_ | refine blk_alloc ?_ _)); exact BK264.out⟩, ⟨by (with_reducible repeat (first | refine blk_drewN ?_ _ | refine blk_drew ?_ | refine blk_alloc ?_ _)); exact BK290.out⟩, ⟨by repeat (first | (with_reducible first | exact HB.out | apply below_alloc | apply pw_below_drewN | apply below_drew1 | refine below_set ?_ GE264.out | refine below_set ?_ GE290.out) | exact HB.out)⟩⟩
                          · rw [if_neg c67] at H
                            have c67b0 : (t278 == x7_57) = false := beq_eq_false_iff_ne.mpr c67
                            have c67b1 : (t278 != x7_57) = true := bne_iff_ne.mpr c67
                            (first | rw [c67b0] | (simp only [i64_w, i32_w]; rw [c67b0]) | skip)
                            have H' := Aside0.mk H
                            clear H
                            go_wp2
                            go_meet
                            case rel => exact ⟨_, (true), (by first | rfl | (simp; done) | (simp [*]; done)), H', ⟨by have := HJ9.out; have := HJ45.out; have := HJ57.out; have := HK4.out; first | omega | exact Nat.le_refl _⟩, ⟨by (with_reducible repeat (first | apply Kd.V_alloc | apply Kd.V_drewN | apply Kd.V_drew)); exact HO_265002.out⟩, ⟨by (with_reducible repeat (first | apply Kd.V_alloc | apply Kd.V_drewN | apply Kd.V_drew)); exact HO_265005.out⟩, ⟨by (with_reducible repeat (first | apply Kd.R_alloc | apply Kd.R_drewN | apply Kd.R_drew)); exact HO_291002.out⟩, ⟨by (with_reducible repeat (first | apply Kd.R_alloc | apply Kd.R_drewN | apply Kd.R_drew)); exact HO_291005.out⟩, ⟨by (with_reducible repeat (first | refine blk_drewN ?_ _ | refine blk_drew ?_ | refine blk_alloc ?_ _)); exact BK264.out⟩, ⟨by (with_reducible repeat (first | refine blk_drewN ?_ _ | refine blk_drew ?_ | refine blk_alloc ?_ _)); exact BK290.out⟩, ⟨by repeat (first | (with_reducible first | exact HB.out | apply below_alloc | apply pw_below_drewN | apply below_drew1 | refine below_set ?_ GE264.out | refine below_set ?_ GE290.out) | exact HB.out)⟩⟩
                        case rest => as_aux_lemma =>
                          clear HC66
                          try clear c2
                          try clear p2
                          try clear q2
                          try clear hx2
                          try clear c3
                          try clear c4
                          try clear c5
                          try clear c6
                          try clear p6
                          try clear c8
                          try clear c26
                          try clear c26b0
                          try clear c26b1
                          try clear c27
                          try clear c27b0
                          try clear c27b1
                          try clear c28
                          try clear c28b0
                          try clear c28b1
                          try clear p29
                          try clear q29
                          try clear hx29
                          try clear c34
                          try clear c34b0
                          try clear c34b1
                          try clear c43
                          try clear c49
                          try clear c50
                          try clear c51
                          try clear c52
                          try clear c54
                          try clear c55
                          try clear c56
                          try clear c56b0
                          try clear c56b1
                          try clear c57
                          try clear c57b0
                          try clear c59
                          try clear c60
                          try clear c62
                          try clear c62b0
                          try clear c63
                          try clear c63b0
                          try clear c64
                          try clear c64b0
                          try clear p64
                          try clear c65
                          try clear c67
                          try clear c67b0
                          try clear c67b1
                          try clear c68
                          try clear c68b0
                          try clear c68b1
                          try clear hcz21_0
                          try clear hcz21_1
                          try clear hcz21_2
                          try clear hcz21_3
                          try clear hcz21_4
                          try clear hcz21_5
                          try clear hcz23_0
                          try clear hcz23_1
                          try clear hcz23_2
                          try clear hcz23_3
                          try clear hcz23_4
                          try clear hcz23_5
                          try clear hcz30_0
                          try clear hcz30_1
                          try clear hcz30_2
                          try clear hcz30_3
                          try clear hcz30_4
                          try clear hcz30_5
                          try clear hcz32_0
                          try clear hcz32_1
                          try clear hcz32_2
                          try clear hcz32_3
                          try clear hcz32_4
                          try clear hcz32_5
                          try clear hcz35_0
                          try clear hcz35_1
                          try clear hcz35_2
                          try clear hcz35_3
                          try clear hcz35_4
                          try clear hcz35_5
                          try clear hcz37_0
                          try clear hcz37_1
                          try clear hcz37_2
                          try clear hcz37_3
                          try clear hcz37_4
                          try clear hcz37_5
                          try clear hcz39_0
                          try clear hcz39_1
                          try clear hcz39_2
                          try clear hcz39_3
                          try clear hcz39_4
                          try clear hcz39_5
                          try clear hcz41_0
                          try clear hcz41_1
                          try clear hcz41_2
                          try clear hcz41_3
                          try clear hcz41_4
                          try clear hcz41_5
                          try clear hcz47_0
                          try clear hcz47_1
                          try clear hcz47_2
                          try clear hcz47_3
                          try clear hcz47_4
                          try clear hcz47_5
                          try clear hcz49_0
                          try clear hcz49_1
                          try clear hcz49_2
                          try clear hcz49_3
                          try clear hcz49_4
                          try clear hcz49_5
                          try clear hcz53_0
                          try clear hcz53_1
                          try clear hcz53_2
                          try clear hcz53_3
                          try clear hcz53_4
                          try clear hcz53_5
                          try clear hcz61_0
                          try clear hcz61_1
                          try clear hcz61_2
                          try clear hcz61_3
                          try clear hcz61_4
                          try clear hcz61_5
                          try clear hfz21_0
                          try clear hfz21_1
                          try clear hfz21_2
                          try clear hfz21_3
                          try clear hfz21_4
                          try clear hfz21_5
                          try clear hfz23_0
                          try clear hfz23_1
                          try clear hfz23_2
                          try clear hfz23_3
                          try clear hfz23_4
                          try clear hfz23_5
                          try clear hfz30_0
                          try clear hfz30_1
                          try clear hfz30_2
                          try clear hfz30_3
                          try clear hfz30_4
                          try clear hfz30_5
                          try clear hfz32_0
                          try clear hfz32_1
                          try clear hfz32_2
                          try clear hfz32_3
                          try clear hfz32_4
                          try clear hfz32_5
                          try clear hfz35_0
                          try clear hfz35_1
                          try clear hfz35_2
                          try clear hfz35_3
                          try clear hfz35_4
                          try clear hfz35_5
                          try clear hfz37_0
                          try clear hfz37_1
                          try clear hfz37_2
                          try clear hfz37_3
                          try clear hfz37_4
                          try clear hfz37_5
                          try clear hfz39_0
                          try clear hfz39_1
                          try clear hfz39_2
                          try clear hfz39_3
                          try clear hfz39_4
                          try clear hfz39_5
                          try clear hfz41_0
                          try clear hfz41_1
                          try clear hfz41_2
                          try clear hfz41_3
                          try clear hfz41_4
                          try clear hfz41_5
                          try clear hfz47_0
                          try clear hfz47_1
                          try clear hfz47_2
                          try clear hfz47_3
                          try clear hfz47_4
                          try clear hfz47_5
                          try clear hfz49_0
                          try clear hfz49_1
                          try clear hfz49_2
                          try clear hfz49_3
                          try clear hfz49_4
                          try clear hfz49_5
                          try clear hfz53_0
                          try clear hfz53_1
                          try clear hfz53_2
                          try clear hfz53_3
                          try clear hfz53_4
                          try clear hfz53_5
                          try clear hfz61_0
                          try clear hfz61_1
                          try clear hfz61_2
                          try clear hfz61_3
                          try clear hfz61_4
                          try clear hfz61_5
                          try clear hx291_0
                          try clear p2
                          try clear p291
                          try clear q291
                          obtain ⟨kq, x109_65, rfl, HA, HJ65, HO_265002, HO_265005, HO_291002, HO_291005, BK264, BK290, HB⟩ := hcut
                          cases kq with
                          | zero => exact absurd HA.out (by simp [patchbaylaw2_PathEncodes.j4])
                          | succ kj65 =>
                            have H := HA.out
                            clear HA
                            simp only [patchbaylaw2_PathEncodes.j4] at H
                            by_cases c69 : x109_65 = true
                            · subst c69
                              have H1 : (some false) = some r := by rw [if_pos rfl] at H; exact H
                              clear H
                              have H := H1
                              clear H1
                              obtain rfl := Option.some.inj H
                              go_wp2
                              go_ret
                              exact ⟨by first | rfl | (simp [errW_none, errW_some] <;> rfl) | (simp [*, errW_none, errW_some] <;> rfl), by repeat (first | (with_reducible first | exact HB.out | apply below_alloc | apply pw_below_drewN | apply below_drew1 | refine below_set ?_ GE264.out | refine below_set ?_ GE290.out) | exact HB.out)⟩
                            · replace c69 := Bool.eq_false_iff.mpr c69
                              subst c69
                              have H1 : (if x7_57 = 0 then (if a2 < 0 then (patchbaylaw2_PathEncodes.j5 kj65 a1 a2 x7_57 t289 true a0_0 a0_1 t266 a0_3 a0_4 t269 t279 t280 t281 t284 t285 t286) else (patchbaylaw2_PathEncodes.j5 kj65 a1 a2 x7_57 t289 (decide (a2 > 32)) a0_0 a0_1 t266 a0_3 a0_4 t269 t279 t280 t281 t284 t285 t286)) else (patchbaylaw2_PathEncodes.j5 kj65 a1 a2 x7_57 t289 false a0_0 a0_1 t266 a0_3 a0_4 t269 t279 t280 t281 t284 t285 t286)) = some r := by rw [if_neg (show ¬ (false = true) by decide)] at H; exact H
                              clear H
                              have H := H1
                              clear H1
                              have HC70 := Aside0.mk H
                              clear H
                              go_upto_region 20 with (fail)
                              go_cut [119] (fun v119 wc => ∃ (kq : Nat) (x119_69 : Bool), v119 = .bool x119_69 ∧ Aside0 (patchbaylaw2_PathEncodes.j5 kq a1 a2 x7_57 t289 x119_69 a0_0 a0_1 t266 a0_3 a0_4 t269 t279 t280 t281 t284 t285 t286 = some r) ∧ Aside0 (kq ≤ kj65) ∧ Aside0 (Kd.V (Kd.int .i64) 3 wc w.heap.size (fun k_ => some k_ ≠ ((.slice Ao54 t281.length co54) : Value).ownBlock ∧ some k_ ≠ ((.slice Ao55 t286.length co55) : Value).ownBlock ∧ k_ ≠ gb264 ∧ k_ ≠ gb290) (.slice Ao16 t266.length co16) t266) ∧ Aside0 (Kd.V (Kd.int .i64) 3 wc w.heap.size (fun k_ => some k_ ≠ ((.slice Ao54 t281.length co54) : Value).ownBlock ∧ some k_ ≠ ((.slice Ao55 t286.length co55) : Value).ownBlock ∧ k_ ≠ gb264 ∧ k_ ≠ gb290) (.slice Ao18 t269.length co18) t269) ∧ Aside0 (Kd.R (Kd.int .i64) 3 wc w.heap.size (fun k_ => some k_ ≠ ((.slice Ao55 t286.length co55) : Value).ownBlock) (.slice Ao54 t281.length co54) t281) ∧ Aside0 (Kd.R (Kd.int .i64) 3 wc w.heap.size (fun k_ => some k_ ≠ ((.slice Ao54 t281.length co54) : Value).ownBlock) (.slice Ao55 t286.length co55) t286) ∧ Aside0 (wc.heap[gb264]? = some (.cells #[.int .u32 a0_0, .int .i64 a0_1, (.slice Ao16 t266.length co16), .int .i64 a0_3, .int .i64 a0_4, (.slice Ao18 t269.length co18)] 51 (0, 0))) ∧ Aside0 (wc.heap[gb290]? = some (.cells #[.int .u32 t279, .int .i64 t280, (.slice Ao54 t281.length co54), .int .i64 t284, .int .i64 t285, (.slice Ao55 t286.length co55)] 51 (0, 0))) ∧ Aside0 (Below w.heap.size w wc))
                              case first => as_aux_lemma =>
                                have H := HC70.out
                                clear HC70
                                by_cases c71 : x7_57 = 0
                                · rw [if_pos c71] at H
                                  have c71b0 : (x7_57 == 0) = true := beq_iff_eq.mpr c71
                                  have c71b1 : (x7_57 != 0) = false := bne_eq_false_iff_eq.mpr c71
                                  clear c71
                                  (first | rw [c71b0] | (simp only [i64_w, i32_w]; rw [c71b0]) | skip)
                                  by_cases c72 : a2 < 0
                                  · rw [if_pos c72] at H
                                    have c72b0 : decide (a2 < 0) = true := decide_eq_true c72
                                    clear c72
                                    have H' := Aside0.mk H
                                    clear H
                                    go_wp2
                                    go_meet
                                    case rel => exact ⟨_, (true), (by first | rfl | (simp; done) | (simp [*]; done)), H', ⟨by have := HJ9.out; have := HJ45.out; have := HJ57.out; have := HK4.out; have := HJ65.out; first | omega | exact Nat.le_refl _⟩, ⟨by (with_reducible repeat (first | apply Kd.V_alloc | apply Kd.V_drewN | apply Kd.V_drew)); exact HO_265002.out⟩, ⟨by (with_reducible repeat (first | apply Kd.V_alloc | apply Kd.V_drewN | apply Kd.V_drew)); exact HO_265005.out⟩, ⟨by (with_reducible repeat (first | apply Kd.R_alloc | apply Kd.R_drewN | apply Kd.R_drew)); exact HO_291002.out⟩, ⟨by (with_reducible repeat (first | apply Kd.R_alloc | apply Kd.R_drewN | apply Kd.R_drew)); exact HO_291005.out⟩, ⟨by (with_reducible repeat (first | refine blk_drewN ?_ _ | refine blk_drew ?_ | refine blk_alloc ?_ _)); exact BK264.out⟩, ⟨by (with_reducible repeat (first | refine blk_drewN ?_ _ | refine blk_drew ?_ | refine blk_alloc ?_ _)); exact BK290.out⟩, ⟨by repeat (first | (with_reducible first | exact HB.out | apply below_alloc | apply pw_below_drewN | apply below_drew1 | refine below_set ?_ GE264.out | refine below_set ?_ GE290.out) | exact HB.out)⟩⟩
                                  · rw [if_neg c72] at H
                                    have c72b0 : decide (a2 < 0) = false := decide_eq_false c72
                                    clear c72
                                    have H' := Aside0.mk H
                                    clear H
                                    go_wp2
                                    go_meet
                                    case rel => exact ⟨_, (decide (a2 > 32)), (by first | rfl | (simp; done) | (simp [*]; done)), H', ⟨by have := HJ9.out; have := HJ45.out; have := HJ57.out; have := HK4.out; have := HJ65.out; first | omega | exact Nat.le_refl _⟩, ⟨by (with_reducible repeat (first | apply Kd.V_alloc | apply Kd.V_drewN | apply Kd.V_drew)); exact HO_265002.out⟩, ⟨by (with_reducible repeat (first | apply Kd.V_alloc | apply Kd.V_drewN | apply Kd.V_drew)); exact HO_265005.out⟩, ⟨by (with_reducible repeat (first | apply Kd.R_alloc | apply Kd.R_drewN | apply Kd.R_drew)); exact HO_291002.out⟩, ⟨by (with_reducible repeat (first | apply Kd.R_alloc | apply Kd.R_drewN | apply Kd.R_drew)); exact HO_291005.out⟩, ⟨by (with_reducible repeat (first | refine blk_drewN ?_ _ | refine blk_drew ?_ | refine blk_alloc ?_ _)); exact BK264.out⟩, ⟨by (with_reducible repeat (first | refine blk_drewN ?_ _ | refine blk_drew ?_ | refine blk_alloc ?_ _)); exact BK290.out⟩, ⟨by repeat (first | (with_reducible first | exact HB.out | apply below_alloc | apply pw_below_drewN | apply below_drew1 | refine below_set ?_ GE264.out | refine below_set ?_ GE290.out) | exact HB.out)⟩⟩
                                · rw [if_neg c71] at H
                                  have c71b0 : (x7_57 == 0) = false := beq_eq_false_iff_ne.mpr c71
                                  have c71b1 : (x7_57 != 0) = true := bne_iff_ne.mpr c71
                                  (first | rw [c71b0] | (simp only [i64_w, i32_w]; rw [c71b0]) | skip)
                                  have H' := Aside0.mk H
                                  clear H
                                  go_wp2
                                  go_meet
                                  case rel => exact ⟨_, (false), (by first | rfl | (simp; done) | (simp [*]; done)), H', ⟨by have := HJ9.out; have := HJ45.out; have := HJ57.out; have := HK4.out; have := HJ65.out; first | omega | exact Nat.le_refl _⟩, ⟨by (with_reducible repeat (first | apply Kd.V_alloc | apply Kd.V_drewN | apply Kd.V_drew)); exact HO_265002.out⟩, ⟨by (with_reducible repeat (first | apply Kd.V_alloc | apply Kd.V_drewN | apply Kd.V_drew)); exact HO_265005.out⟩, ⟨by (with_reducible repeat (first | apply Kd.R_alloc | apply Kd.R_drewN | apply Kd.R_drew)); exact HO_291002.out⟩, ⟨by (with_reducible repeat (first | apply Kd.R_alloc | apply Kd.R_drewN | apply Kd.R_drew)); exact HO_291005.out⟩, ⟨by (with_reducible repeat (first | refine blk_drewN ?_ _ | refine blk_drew ?_ | refine blk_alloc ?_ _)); exact BK264.out⟩, ⟨by (with_reducible repeat (first | refine blk_drewN ?_ _ | refine blk_drew ?_ | refine blk_alloc ?_ _)); exact BK290.out⟩, ⟨by repeat (first | (with_reducible first | exact HB.out | apply below_alloc | apply pw_below_drewN | apply below_drew1 | refine below_set ?_ GE264.out | refine below_set ?_ GE290.out) | exact HB.out)⟩⟩
                              case rest => as_aux_lemma =>
                                clear HC70
                                try clear c2
                                try clear p2
                                try clear q2
                                try clear hx2
                                try clear c3
                                try clear c4
                                try clear c5
                                try clear c6
                                try clear p6
                                try clear c7
                                try clear c8
                                try clear c26
                                try clear c26b0
                                try clear c26b1
                                try clear c27
                                try clear c27b0
                                try clear c27b1
                                try clear c28
                                try clear c28b0
                                try clear c28b1
                                try clear p29
                                try clear q29
                                try clear hx29
                                try clear c34
                                try clear c34b0
                                try clear c34b1
                                try clear c43
                                try clear c49
                                try clear c50
                                try clear c51
                                try clear c52
                                try clear c54
                                try clear c55
                                try clear c56
                                try clear c56b0
                                try clear c56b1
                                try clear c57
                                try clear c57b0
                                try clear c59
                                try clear c60
                                try clear c62
                                try clear c62b0
                                try clear c63
                                try clear c63b0
                                try clear c64
                                try clear c64b0
                                try clear p64
                                try clear c65
                                try clear c67
                                try clear c67b0
                                try clear c67b1
                                try clear c68
                                try clear c68b0
                                try clear c68b1
                                try clear c69
                                try clear c71
                                try clear c71b0
                                try clear c71b1
                                try clear c72
                                try clear c72b0
                                try clear hcz21_0
                                try clear hcz21_1
                                try clear hcz21_2
                                try clear hcz21_3
                                try clear hcz21_4
                                try clear hcz21_5
                                try clear hcz23_0
                                try clear hcz23_1
                                try clear hcz23_2
                                try clear hcz23_3
                                try clear hcz23_4
                                try clear hcz23_5
                                try clear hcz30_0
                                try clear hcz30_1
                                try clear hcz30_2
                                try clear hcz30_3
                                try clear hcz30_4
                                try clear hcz30_5
                                try clear hcz32_0
                                try clear hcz32_1
                                try clear hcz32_2
                                try clear hcz32_3
                                try clear hcz32_4
                                try clear hcz32_5
                                try clear hcz35_0
                                try clear hcz35_1
                                try clear hcz35_2
                                try clear hcz35_3
                                try clear hcz35_4
                                try clear hcz35_5
                                try clear hcz37_0
                                try clear hcz37_1
                                try clear hcz37_2
                                try clear hcz37_3
                                try clear hcz37_4
                                try clear hcz37_5
                                try clear hcz39_0
                                try clear hcz39_1
                                try clear hcz39_2
                                try clear hcz39_3
                                try clear hcz39_4
                                try clear hcz39_5
                                try clear hcz41_0
                                try clear hcz41_1
                                try clear hcz41_2
                                try clear hcz41_3
                                try clear hcz41_4
                                try clear hcz41_5
                                try clear hcz47_0
                                try clear hcz47_1
                                try clear hcz47_2
                                try clear hcz47_3
                                try clear hcz47_4
                                try clear hcz47_5
                                try clear hcz49_0
                                try clear hcz49_1
                                try clear hcz49_2
                                try clear hcz49_3
                                try clear hcz49_4
                                try clear hcz49_5
                                try clear hcz53_0
                                try clear hcz53_1
                                try clear hcz53_2
                                try clear hcz53_3
                                try clear hcz53_4
                                try clear hcz53_5
                                try clear hcz61_0
                                try clear hcz61_1
                                try clear hcz61_2
                                try clear hcz61_3
                                try clear hcz61_4
                                try clear hcz61_5
                                try clear hfz21_0
                                try clear hfz21_1
                                try clear hfz21_2
                                try clear hfz21_3
                                try clear hfz21_4
                                try clear hfz21_5
                                try clear hfz23_0
                                try clear hfz23_1
                                try clear hfz23_2
                                try clear hfz23_3
                                try clear hfz23_4
                                try clear hfz23_5
                                try clear hfz30_0
                                try clear hfz30_1
                                try clear hfz30_2
                                try clear hfz30_3
                                try clear hfz30_4
                                try clear hfz30_5
                                try clear hfz32_0
                                try clear hfz32_1
                                try clear hfz32_2
                                try clear hfz32_3
                                try clear hfz32_4
                                try clear hfz32_5
                                try clear hfz35_0
                                try clear hfz35_1
                                try clear hfz35_2
                                try clear hfz35_3
                                try clear hfz35_4
                                try clear hfz35_5
                                try clear hfz37_0
                                try clear hfz37_1
                                try clear hfz37_2
                                try clear hfz37_3
                                try clear hfz37_4
                                try clear hfz37_5
                                try clear hfz39_0
                                try clear hfz39_1
                                try clear hfz39_2
                                try clear hfz39_3
                                try clear hfz39_4
                                try clear hfz39_5
                                try clear hfz41_0
                                try clear hfz41_1
                                try clear hfz41_2
                                try clear hfz41_3
                                try clear hfz41_4
                                try clear hfz41_5
                                try clear hfz47_0
                                try clear hfz47_1
                                try clear hfz47_2
                                try clear hfz47_3
                                try clear hfz47_4
                                try clear hfz47_5
                                try clear hfz49_0
                                try clear hfz49_1
                                try clear hfz49_2
                                try clear hfz49_3
                                try clear hfz49_4
                                try clear hfz49_5
                                try clear hfz53_0
                                try clear hfz53_1
                                try clear hfz53_2
                                try clear hfz53_3
                                try clear hfz53_4
                                try clear hfz53_5
                                try clear hfz61_0
                                try clear hfz61_1
                                try clear hfz61_2
                                try clear hfz61_3
                                try clear hfz61_4
                                try clear hfz61_5
                                try clear hx291_0
                                try clear p2
                                try clear p29
                                try clear p291
                                try clear p6
                                try clear p64
                                try clear q2
                                try clear q29
                                try clear q291
                                obtain ⟨kq, x119_69, rfl, HA, HJ69, HO_265002, HO_265005, HO_291002, HO_291005, BK264, BK290, HB⟩ := hcut
                                cases kq with
                                | zero => exact absurd HA.out (by simp [patchbaylaw2_PathEncodes.j5])
                                | succ kj69 =>
                                  have H := HA.out
                                  clear HA
                                  simp only [patchbaylaw2_PathEncodes.j5] at H
                                  have HC73 := Aside0.mk H
                                  clear H
                                  go_upto_if 119 with (fail)
                                  go_cut [7] (fun v7 wc => ∃ (kq : Nat) (x7_72 : Int), v7 = .int .i64 x7_72 ∧ Aside0 (patchbaylaw2_PathEncodes.j6 kq a1 a2 x7_72 t289 a0_0 a0_1 t266 a0_3 a0_4 t269 t279 t280 t281 t284 t285 t286 = some r) ∧ Aside0 (kq ≤ kj69) ∧ Aside0 (Kd.V (Kd.int .i64) 3 wc w.heap.size (fun k_ => some k_ ≠ ((.slice Ao54 t281.length co54) : Value).ownBlock ∧ some k_ ≠ ((.slice Ao55 t286.length co55) : Value).ownBlock ∧ k_ ≠ gb264 ∧ k_ ≠ gb290) (.slice Ao16 t266.length co16) t266) ∧ Aside0 (Kd.V (Kd.int .i64) 3 wc w.heap.size (fun k_ => some k_ ≠ ((.slice Ao54 t281.length co54) : Value).ownBlock ∧ some k_ ≠ ((.slice Ao55 t286.length co55) : Value).ownBlock ∧ k_ ≠ gb264 ∧ k_ ≠ gb290) (.slice Ao18 t269.length co18) t269) ∧ Aside0 (Kd.R (Kd.int .i64) 3 wc w.heap.size (fun k_ => some k_ ≠ ((.slice Ao55 t286.length co55) : Value).ownBlock) (.slice Ao54 t281.length co54) t281) ∧ Aside0 (Kd.R (Kd.int .i64) 3 wc w.heap.size (fun k_ => some k_ ≠ ((.slice Ao54 t281.length co54) : Value).ownBlock) (.slice Ao55 t286.length co55) t286) ∧ Aside0 (wc.heap[gb264]? = some (.cells #[.int .u32 a0_0, .int .i64 a0_1, (.slice Ao16 t266.length co16), .int .i64 a0_3, .int .i64 a0_4, (.slice Ao18 t269.length co18)] 51 (0, 0))) ∧ Aside0 (wc.heap[gb290]? = some (.cells #[.int .u32 t279, .int .i64 t280, (.slice Ao54 t281.length co54), .int .i64 t284, .int .i64 t285, (.slice Ao55 t286.length co55)] 51 (0, 0))) ∧ Aside0 (Below w.heap.size w wc))
                                  case first => as_aux_lemma =>
                                    have H := HC73.out
                                    clear HC73
                                    by_cases c74 : x119_69 = true
                                    · subst c74
                                      have H1 : (patchbaylaw2_PathEncodes.j6 kj69 a1 a2 10 t289 a0_0 a0_1 t266 a0_3 a0_4 t269 t279 t280 t281 t284 t285 t286) = some r := by rw [if_pos rfl] at H; exact H
                                      clear H
                                      have H := H1
                                      clear H1
                                      have H' := Aside0.mk H
                                      clear H
                                      go_wp2
                                      go_meet
                                      case rel => exact ⟨_, (10), (by first | rfl | (simp; done) | (simp [*]; done)), H', ⟨by have := HJ9.out; have := HJ45.out; have := HJ57.out; have := HK4.out; have := HJ65.out; have := HJ69.out; first | omega | exact Nat.le_refl _⟩, ⟨by (with_reducible repeat (first | apply Kd.V_alloc | apply Kd.V_drewN | apply Kd.V_drew)); exact HO_265002.out⟩, ⟨by (with_reducible repeat (first | apply Kd.V_alloc | apply Kd.V_drewN | apply Kd.V_drew)); exact HO_265005.out⟩, ⟨by (with_reducible repeat (first | apply Kd.R_alloc | apply Kd.R_drewN | apply Kd.R_drew)); exact HO_291002.out⟩, ⟨by (with_reducible repeat (first | apply Kd.R_alloc | apply Kd.R_drewN | apply Kd.R_drew)); exact HO_291005.out⟩, ⟨by (with_reducible repeat (first | refine blk_drewN ?_ _ | refine blk_drew ?_ | refine blk_alloc ?_ _)); exact BK264.out⟩, ⟨by (with_reducible repeat (first | refine blk_drewN ?_ _ | refine blk_drew ?_ | refine blk_alloc ?_ _)); exact BK290.out⟩, ⟨by repeat (first | (with_reducible first | exact HB.out | apply below_alloc | apply pw_below_drewN | apply below_drew1 | refine below_set ?_ GE264.out | refine below_set ?_ GE290.out) | exact HB.out)⟩⟩
                                    · replace c74 := Bool.eq_false_iff.mpr c74
                                      subst c74
                                      have H1 : (patchbaylaw2_PathEncodes.j6 kj69 a1 a2 x7_57 t289 a0_0 a0_1 t266 a0_3 a0_4 t269 t279 t280 t281 t284 t285 t286) = some r := by rw [if_neg (show ¬ (false = true) by decide)] at H; exact H
                                      clear H
                                      have H := H1
                                      clear H1
                                      have H' := Aside0.mk H
                                      clear H
                                      go_wp2
                                      go_meet
                                      case rel => exact ⟨_, (x7_57), (by first | rfl | (simp; done) | (simp [*]; done)), H', ⟨by have := HJ9.out; have := HJ45.out; have := HJ57.out; have := HK4.out; have := HJ65.out; have := HJ69.out; first | omega | exact Nat.le_refl _⟩, ⟨by (with_reducible repeat (first | apply Kd.V_alloc | apply Kd.V_drewN | apply Kd.V_drew)); exact HO_265002.out⟩, ⟨by (with_reducible repeat (first | apply Kd.V_alloc | apply Kd.V_drewN | apply Kd.V_drew)); exact HO_265005.out⟩, ⟨by (with_reducible repeat (first | apply Kd.R_alloc | apply Kd.R_drewN | apply Kd.R_drew)); exact HO_291002.out⟩, ⟨by (with_reducible repeat (first | apply Kd.R_alloc | apply Kd.R_drewN | apply Kd.R_drew)); exact HO_291005.out⟩, ⟨by (with_reducible repeat (first | refine blk_drewN ?_ _ | refine blk_drew ?_ | refine blk_alloc ?_ _)); exact BK264.out⟩, ⟨by (with_reducible repeat (first | refine blk_drewN ?_ _ | refine blk_drew ?_ | refine blk_alloc ?_ _)); exact BK290.out⟩, ⟨by repeat (first | (with_reducible first | exact HB.out | apply below_alloc | apply pw_below_drewN | apply below_drew1 | refine below_set ?_ GE264.out | refine below_set ?_ GE290.out) | exact HB.out)⟩⟩
                                  case rest => as_aux_lemma =>
                                    clear HC73
                                    try clear c2
                                    try clear p2
                                    try clear q2
                                    try clear hx2
                                    try clear c3
                                    try clear c4
                                    try clear c5
                                    try clear c6
                                    try clear p6
                                    try clear c7
                                    try clear c8
                                    try clear c26
                                    try clear c26b0
                                    try clear c26b1
                                    try clear c27
                                    try clear c27b0
                                    try clear c27b1
                                    try clear c28
                                    try clear c28b0
                                    try clear c28b1
                                    try clear p29
                                    try clear q29
                                    try clear hx29
                                    try clear c34
                                    try clear c34b0
                                    try clear c34b1
                                    try clear c43
                                    try clear c49
                                    try clear c50
                                    try clear c51
                                    try clear c52
                                    try clear c54
                                    try clear c55
                                    try clear c56
                                    try clear c56b0
                                    try clear c56b1
                                    try clear c57
                                    try clear c57b0
                                    try clear c59
                                    try clear c60
                                    try clear c62
                                    try clear c62b0
                                    try clear c63
                                    try clear c63b0
                                    try clear c64
                                    try clear c64b0
                                    try clear p64
                                    try clear c65
                                    try clear c67
                                    try clear c67b0
                                    try clear c67b1
                                    try clear c68
                                    try clear c68b0
                                    try clear c68b1
                                    try clear c69
                                    try clear c71
                                    try clear c71b0
                                    try clear c71b1
                                    try clear c72
                                    try clear c72b0
                                    try clear c74
                                    try clear hcz21_0
                                    try clear hcz21_1
                                    try clear hcz21_2
                                    try clear hcz21_3
                                    try clear hcz21_4
                                    try clear hcz21_5
                                    try clear hcz23_0
                                    try clear hcz23_1
                                    try clear hcz23_2
                                    try clear hcz23_3
                                    try clear hcz23_4
                                    try clear hcz23_5
                                    try clear hcz30_0
                                    try clear hcz30_1
                                    try clear hcz30_2
                                    try clear hcz30_3
                                    try clear hcz30_4
                                    try clear hcz30_5
                                    try clear hcz32_0
                                    try clear hcz32_1
                                    try clear hcz32_2
                                    try clear hcz32_3
                                    try clear hcz32_4
                                    try clear hcz32_5
                                    try clear hcz35_0
                                    try clear hcz35_1
                                    try clear hcz35_2
                                    try clear hcz35_3
                                    try clear hcz35_4
                                    try clear hcz35_5
                                    try clear hcz37_0
                                    try clear hcz37_1
                                    try clear hcz37_2
                                    try clear hcz37_3
                                    try clear hcz37_4
                                    try clear hcz37_5
                                    try clear hcz39_0
                                    try clear hcz39_1
                                    try clear hcz39_2
                                    try clear hcz39_3
                                    try clear hcz39_4
                                    try clear hcz39_5
                                    try clear hcz41_0
                                    try clear hcz41_1
                                    try clear hcz41_2
                                    try clear hcz41_3
                                    try clear hcz41_4
                                    try clear hcz41_5
                                    try clear hcz47_0
                                    try clear hcz47_1
                                    try clear hcz47_2
                                    try clear hcz47_3
                                    try clear hcz47_4
                                    try clear hcz47_5
                                    try clear hcz49_0
                                    try clear hcz49_1
                                    try clear hcz49_2
                                    try clear hcz49_3
                                    try clear hcz49_4
                                    try clear hcz49_5
                                    try clear hcz53_0
                                    try clear hcz53_1
                                    try clear hcz53_2
                                    try clear hcz53_3
                                    try clear hcz53_4
                                    try clear hcz53_5
                                    try clear hcz61_0
                                    try clear hcz61_1
                                    try clear hcz61_2
                                    try clear hcz61_3
                                    try clear hcz61_4
                                    try clear hcz61_5
                                    try clear hfz21_0
                                    try clear hfz21_1
                                    try clear hfz21_2
                                    try clear hfz21_3
                                    try clear hfz21_4
                                    try clear hfz21_5
                                    try clear hfz23_0
                                    try clear hfz23_1
                                    try clear hfz23_2
                                    try clear hfz23_3
                                    try clear hfz23_4
                                    try clear hfz23_5
                                    try clear hfz30_0
                                    try clear hfz30_1
                                    try clear hfz30_2
                                    try clear hfz30_3
                                    try clear hfz30_4
                                    try clear hfz30_5
                                    try clear hfz32_0
                                    try clear hfz32_1
                                    try clear hfz32_2
                                    try clear hfz32_3
                                    try clear hfz32_4
                                    try clear hfz32_5
                                    try clear hfz35_0
                                    try clear hfz35_1
                                    try clear hfz35_2
                                    try clear hfz35_3
                                    try clear hfz35_4
                                    try clear hfz35_5
                                    try clear hfz37_0
                                    try clear hfz37_1
                                    try clear hfz37_2
                                    try clear hfz37_3
                                    try clear hfz37_4
                                    try clear hfz37_5
                                    try clear hfz39_0
                                    try clear hfz39_1
                                    try clear hfz39_2
                                    try clear hfz39_3
                                    try clear hfz39_4
                                    try clear hfz39_5
                                    try clear hfz41_0
                                    try clear hfz41_1
                                    try clear hfz41_2
                                    try clear hfz41_3
                                    try clear hfz41_4
                                    try clear hfz41_5
                                    try clear hfz47_0
                                    try clear hfz47_1
                                    try clear hfz47_2
                                    try clear hfz47_3
                                    try clear hfz47_4
                                    try clear hfz47_5
                                    try clear hfz49_0
                                    try clear hfz49_1
                                    try clear hfz49_2
                                    try clear hfz49_3
                                    try clear hfz49_4
                                    try clear hfz49_5
                                    try clear hfz53_0
                                    try clear hfz53_1
                                    try clear hfz53_2
                                    try clear hfz53_3
                                    try clear hfz53_4
                                    try clear hfz53_5
                                    try clear hfz61_0
                                    try clear hfz61_1
                                    try clear hfz61_2
                                    try clear hfz61_3
                                    try clear hfz61_4
                                    try clear hfz61_5
                                    try clear hx291_0
                                    try clear p2
                                    try clear p29
                                    try clear p291
                                    try clear p6
                                    try clear p64
                                    try clear q2
                                    try clear q29
                                    try clear q291
                                    obtain ⟨kq, x7_72, rfl, HA, HJ72, HO_265002, HO_265005, HO_291002, HO_291005, BK264, BK290, HB⟩ := hcut
                                    cases kq with
                                    | zero => exact absurd HA.out (by simp [patchbaylaw2_PathEncodes.j6])
                                    | succ kj72 =>
                                      have H := HA.out
                                      clear HA
                                      simp only [patchbaylaw2_PathEncodes.j6] at H
                                      have HC75 := Aside0.mk H
                                      clear H
                                      go_upto_region 22 with (fail)
                                      go_cut [129] (fun v129 wc => ∃ (kq : Nat) (x129_74 : Bool), v129 = .bool x129_74 ∧ Aside0 (patchbaylaw2_PathEncodes.j7 kq a1 a2 x7_72 t289 x129_74 a0_0 a0_1 t266 a0_3 a0_4 t269 t279 t280 t281 t284 t285 t286 = some r) ∧ Aside0 (kq ≤ kj72) ∧ Aside0 (Kd.V (Kd.int .i64) 3 wc w.heap.size (fun k_ => some k_ ≠ ((.slice Ao54 t281.length co54) : Value).ownBlock ∧ some k_ ≠ ((.slice Ao55 t286.length co55) : Value).ownBlock ∧ k_ ≠ gb264 ∧ k_ ≠ gb290) (.slice Ao16 t266.length co16) t266) ∧ Aside0 (Kd.V (Kd.int .i64) 3 wc w.heap.size (fun k_ => some k_ ≠ ((.slice Ao54 t281.length co54) : Value).ownBlock ∧ some k_ ≠ ((.slice Ao55 t286.length co55) : Value).ownBlock ∧ k_ ≠ gb264 ∧ k_ ≠ gb290) (.slice Ao18 t269.length co18) t269) ∧ Aside0 (Kd.R (Kd.int .i64) 3 wc w.heap.size (fun k_ => some k_ ≠ ((.slice Ao55 t286.length co55) : Value).ownBlock) (.slice Ao54 t281.length co54) t281) ∧ Aside0 (Kd.R (Kd.int .i64) 3 wc w.heap.size (fun k_ => some k_ ≠ ((.slice Ao54 t281.length co54) : Value).ownBlock) (.slice Ao55 t286.length co55) t286) ∧ Aside0 (wc.heap[gb264]? = some (.cells #[.int .u32 a0_0, .int .i64 a0_1, (.slice Ao16 t266.length co16), .int .i64 a0_3, .int .i64 a0_4, (.slice Ao18 t269.length co18)] 51 (0, 0))) ∧ Aside0 (wc.heap[gb290]? = some (.cells #[.int .u32 t279, .int .i64 t280, (.slice Ao54 t281.length co54), .int .i64 t284, .int .i64 t285, (.slice Ao55 t286.length co55)] 51 (0, 0))) ∧ Aside0 (Below w.heap.size w wc))
                                      case first => as_aux_lemma =>
                                        have H := HC75.out
                                        clear HC75
                                        by_cases c76 : x7_72 = 0
                                        · rw [if_pos c76] at H
                                          have c76b0 : (x7_72 == 0) = true := beq_iff_eq.mpr c76
                                          have c76b1 : (x7_72 != 0) = false := bne_eq_false_iff_eq.mpr c76
                                          clear c76
                                          (first | rw [c76b0] | (simp only [i64_w, i32_w]; rw [c76b0]) | skip)
                                          have H' := Aside0.mk H
                                          clear H
                                          have hnb77 := NB264_290.out
                                          have hnc77 := NB290_264.out
                                          have hcz78_0 : wc.cell? ⟨gb264, 0, none⟩ = some (.int .u32 a0_0) := (blk_cell BK264.out 0).trans rfl
                                          have hcz78_1 : wc.cell? ⟨gb264, 1, none⟩ = some (.int .i64 a0_1) := (blk_cell BK264.out 1).trans rfl
                                          have hcz78_2 : wc.cell? ⟨gb264, 2, none⟩ = some (.slice Ao16 t266.length co16) := (blk_cell BK264.out 2).trans rfl
                                          have hcz78_3 : wc.cell? ⟨gb264, 3, none⟩ = some (.int .i64 a0_3) := (blk_cell BK264.out 3).trans rfl
                                          have hcz78_4 : wc.cell? ⟨gb264, 4, none⟩ = some (.int .i64 a0_4) := (blk_cell BK264.out 4).trans rfl
                                          have hcz78_5 : wc.cell? ⟨gb264, 5, none⟩ = some (.slice Ao18 t269.length co18) := (blk_cell BK264.out 5).trans rfl
                                          have hfz78_0 := blk_frozen BK264.out 0
                                          have hfz78_1 := blk_frozen BK264.out 1
                                          have hfz78_2 := blk_frozen BK264.out 2
                                          have hfz78_3 := blk_frozen BK264.out 3
                                          have hfz78_4 := blk_frozen BK264.out 4
                                          have hfz78_5 := blk_frozen BK264.out 5
                                          go_wp2
                                          go_meet
                                          case rel => exact ⟨_, (decide ((wrap64 (a2 + (t266.length : Int))) > 32)), (by first | rfl | (simp; done) | (simp [*]; done)), H', ⟨by have := HJ9.out; have := HJ45.out; have := HJ57.out; have := HK4.out; have := HJ65.out; have := HJ69.out; have := HJ72.out; first | omega | exact Nat.le_refl _⟩, ⟨by (with_reducible repeat (first | apply Kd.V_alloc | apply Kd.V_drewN | apply Kd.V_drew)); exact HO_265002.out⟩, ⟨by (with_reducible repeat (first | apply Kd.V_alloc | apply Kd.V_drewN | apply Kd.V_drew)); exact HO_265005.out⟩, ⟨by (with_reducible repeat (first | apply Kd.R_alloc | apply Kd.R_drewN | apply Kd.R_drew)); exact HO_291002.out⟩, ⟨by (with_reducible repeat (first | apply Kd.R_alloc | apply Kd.R_drewN | apply Kd.R_drew)); exact HO_291005.out⟩, ⟨by (with_reducible repeat (first | refine blk_drewN ?_ _ | refine blk_drew ?_ | refine blk_alloc ?_ _)); exact BK264.out⟩, ⟨by (with_reducible repeat (first | refine blk_drewN ?_ _ | refine blk_drew ?_ | refine blk_alloc ?_ _)); exact BK290.out⟩, ⟨by repeat (first | (with_reducible first | exact HB.out | apply below_alloc | apply pw_below_drewN | apply below_drew1 | refine below_set ?_ GE264.out | refine below_set ?_ GE290.out) | exact HB.out)⟩⟩
                                        · rw [if_neg c76] at H
                                          have c76b0 : (x7_72 == 0) = false := beq_eq_false_iff_ne.mpr c76
                                          have c76b1 : (x7_72 != 0) = true := bne_iff_ne.mpr c76
                                          (first | rw [c76b0] | (simp only [i64_w, i32_w]; rw [c76b0]) | skip)
                                          have H' := Aside0.mk H
                                          clear H
                                          go_wp2
                                          go_meet
                                          case rel => exact ⟨_, (false), (by first | rfl | (simp; done) | (simp [*]; done)), H', ⟨by have := HJ9.out; have := HJ45.out; have := HJ57.out; have := HK4.out; have := HJ65.out; have := HJ69.out; have := HJ72.out; first | omega | exact Nat.le_refl _⟩, ⟨by (with_reducible repeat (first | apply Kd.V_alloc | apply Kd.V_drewN | apply Kd.V_drew)); exact HO_265002.out⟩, ⟨by (with_reducible repeat (first | apply Kd.V_alloc | apply Kd.V_drewN | apply Kd.V_drew)); exact HO_265005.out⟩, ⟨by (with_reducible repeat (first | apply Kd.R_alloc | apply Kd.R_drewN | apply Kd.R_drew)); exact HO_291002.out⟩, ⟨by (with_reducible repeat (first | apply Kd.R_alloc | apply Kd.R_drewN | apply Kd.R_drew)); exact HO_291005.out⟩, ⟨by (with_reducible repeat (first | refine blk_drewN ?_ _ | refine blk_drew ?_ | refine blk_alloc ?_ _)); exact BK264.out⟩, ⟨by (with_reducible repeat (first | refine blk_drewN ?_ _ | refine blk_drew ?_ | refine blk_alloc ?_ _)); exact BK290.out⟩, ⟨by repeat (first | (with_reducible first | exact HB.out | apply below_alloc | apply pw_below_drewN | apply below_drew1 | refine below_set ?_ GE264.out | refine below_set ?_ GE290.out) | exact HB.out)⟩⟩
                                      case rest => as_aux_lemma =>
                                        clear HC75
                                        try clear c2
                                        try clear p2
                                        try clear q2
                                        try clear hx2
                                        try clear c3
                                        try clear c4
                                        try clear c5
                                        try clear c6
                                        try clear p6
                                        try clear c7
                                        try clear c8
                                        try clear c26
                                        try clear c26b0
                                        try clear c26b1
                                        try clear c27
                                        try clear c27b0
                                        try clear c27b1
                                        try clear c28
                                        try clear c28b0
                                        try clear c28b1
                                        try clear p29
                                        try clear q29
                                        try clear hx29
                                        try clear c34
                                        try clear c34b0
                                        try clear c34b1
                                        try clear c43
                                        try clear c49
                                        try clear c50
                                        try clear c51
                                        try clear c52
                                        try clear c54
                                        try clear c55
                                        try clear c56
                                        try clear c56b0
                                        try clear c56b1
                                        try clear c57
                                        try clear c57b0
                                        try clear c59
                                        try clear c60
                                        try clear c62
                                        try clear c62b0
                                        try clear c63
                                        try clear c63b0
                                        try clear c64
                                        try clear c64b0
                                        try clear p64
                                        try clear c65
                                        try clear c67
                                        try clear c67b0
                                        try clear c67b1
                                        try clear c68
                                        try clear c68b0
                                        try clear c68b1
                                        try clear c69
                                        try clear c71
                                        try clear c71b0
                                        try clear c71b1
                                        try clear c72
                                        try clear c72b0
                                        try clear c74
                                        try clear c76
                                        try clear c76b0
                                        try clear c76b1
                                        try clear c77
                                        try clear hcz21_0
                                        try clear hcz21_1
                                        try clear hcz21_2
                                        try clear hcz21_3
                                        try clear hcz21_4
                                        try clear hcz21_5
                                        try clear hcz23_0
                                        try clear hcz23_1
                                        try clear hcz23_2
                                        try clear hcz23_3
                                        try clear hcz23_4
                                        try clear hcz23_5
                                        try clear hcz30_0
                                        try clear hcz30_1
                                        try clear hcz30_2
                                        try clear hcz30_3
                                        try clear hcz30_4
                                        try clear hcz30_5
                                        try clear hcz32_0
                                        try clear hcz32_1
                                        try clear hcz32_2
                                        try clear hcz32_3
                                        try clear hcz32_4
                                        try clear hcz32_5
                                        try clear hcz35_0
                                        try clear hcz35_1
                                        try clear hcz35_2
                                        try clear hcz35_3
                                        try clear hcz35_4
                                        try clear hcz35_5
                                        try clear hcz37_0
                                        try clear hcz37_1
                                        try clear hcz37_2
                                        try clear hcz37_3
                                        try clear hcz37_4
                                        try clear hcz37_5
                                        try clear hcz39_0
                                        try clear hcz39_1
                                        try clear hcz39_2
                                        try clear hcz39_3
                                        try clear hcz39_4
                                        try clear hcz39_5
                                        try clear hcz41_0
                                        try clear hcz41_1
                                        try clear hcz41_2
                                        try clear hcz41_3
                                        try clear hcz41_4
                                        try clear hcz41_5
                                        try clear hcz47_0
                                        try clear hcz47_1
                                        try clear hcz47_2
                                        try clear hcz47_3
                                        try clear hcz47_4
                                        try clear hcz47_5
                                        try clear hcz49_0
                                        try clear hcz49_1
                                        try clear hcz49_2
                                        try clear hcz49_3
                                        try clear hcz49_4
                                        try clear hcz49_5
                                        try clear hcz53_0
                                        try clear hcz53_1
                                        try clear hcz53_2
                                        try clear hcz53_3
                                        try clear hcz53_4
                                        try clear hcz53_5
                                        try clear hcz61_0
                                        try clear hcz61_1
                                        try clear hcz61_2
                                        try clear hcz61_3
                                        try clear hcz61_4
                                        try clear hcz61_5
                                        try clear hcz78_0
                                        try clear hcz78_1
                                        try clear hcz78_2
                                        try clear hcz78_3
                                        try clear hcz78_4
                                        try clear hcz78_5
                                        try clear hfz21_0
                                        try clear hfz21_1
                                        try clear hfz21_2
                                        try clear hfz21_3
                                        try clear hfz21_4
                                        try clear hfz21_5
                                        try clear hfz23_0
                                        try clear hfz23_1
                                        try clear hfz23_2
                                        try clear hfz23_3
                                        try clear hfz23_4
                                        try clear hfz23_5
                                        try clear hfz30_0
                                        try clear hfz30_1
                                        try clear hfz30_2
                                        try clear hfz30_3
                                        try clear hfz30_4
                                        try clear hfz30_5
                                        try clear hfz32_0
                                        try clear hfz32_1
                                        try clear hfz32_2
                                        try clear hfz32_3
                                        try clear hfz32_4
                                        try clear hfz32_5
                                        try clear hfz35_0
                                        try clear hfz35_1
                                        try clear hfz35_2
                                        try clear hfz35_3
                                        try clear hfz35_4
                                        try clear hfz35_5
                                        try clear hfz37_0
                                        try clear hfz37_1
                                        try clear hfz37_2
                                        try clear hfz37_3
                                        try clear hfz37_4
                                        try clear hfz37_5
                                        try clear hfz39_0
                                        try clear hfz39_1
                                        try clear hfz39_2
                                        try clear hfz39_3
                                        try clear hfz39_4
                                        try clear hfz39_5
                                        try clear hfz41_0
                                        try clear hfz41_1
                                        try clear hfz41_2
                                        try clear hfz41_3
                                        try clear hfz41_4
                                        try clear hfz41_5
                                        try clear hfz47_0
                                        try clear hfz47_1
                                        try clear hfz47_2
                                        try clear hfz47_3
                                        try clear hfz47_4
                                        try clear hfz47_5
                                        try clear hfz49_0
                                        try clear hfz49_1
                                        try clear hfz49_2
                                        try clear hfz49_3
                                        try clear hfz49_4
                                        try clear hfz49_5
                                        try clear hfz53_0
                                        try clear hfz53_1
                                        try clear hfz53_2
                                        try clear hfz53_3
                                        try clear hfz53_4
                                        try clear hfz53_5
                                        try clear hfz61_0
                                        try clear hfz61_1
                                        try clear hfz61_2
                                        try clear hfz61_3
                                        try clear hfz61_4
                                        try clear hfz61_5
                                        try clear hfz78_0
                                        try clear hfz78_1
                                        try clear hfz78_2
                                        try clear hfz78_3
                                        try clear hfz78_4
                                        try clear hfz78_5
                                        try clear hx291_0
                                        try clear p2
                                        try clear p29
                                        try clear p291
                                        try clear p6
                                        try clear p64
                                        try clear q2
                                        try clear q29
                                        try clear q291
                                        obtain ⟨kq, x129_74, rfl, HA, HJ74, HO_265002, HO_265005, HO_291002, HO_291005, BK264, BK290, HB⟩ := hcut
                                        cases kq with
                                        | zero => exact absurd HA.out (by simp [patchbaylaw2_PathEncodes.j7])
                                        | succ kj74 =>
                                          have H := HA.out
                                          clear HA
                                          simp only [patchbaylaw2_PathEncodes.j7] at H
                                          have HC79 := Aside0.mk H
                                          clear H
                                          go_upto_if 129 with (fail)
                                          go_cut [7] (fun v7 wc => ∃ (kq : Nat) (x7_78 : Int), v7 = .int .i64 x7_78 ∧ Aside0 (patchbaylaw2_PathEncodes.j8 kq a1 a2 x7_78 t289 a0_0 a0_1 t266 a0_3 a0_4 t269 t279 t280 t281 t284 t285 t286 = some r) ∧ Aside0 (kq ≤ kj74) ∧ Aside0 (Kd.V (Kd.int .i64) 3 wc w.heap.size (fun k_ => some k_ ≠ ((.slice Ao54 t281.length co54) : Value).ownBlock ∧ some k_ ≠ ((.slice Ao55 t286.length co55) : Value).ownBlock ∧ k_ ≠ gb264 ∧ k_ ≠ gb290) (.slice Ao16 t266.length co16) t266) ∧ Aside0 (Kd.V (Kd.int .i64) 3 wc w.heap.size (fun k_ => some k_ ≠ ((.slice Ao54 t281.length co54) : Value).ownBlock ∧ some k_ ≠ ((.slice Ao55 t286.length co55) : Value).ownBlock ∧ k_ ≠ gb264 ∧ k_ ≠ gb290) (.slice Ao18 t269.length co18) t269) ∧ Aside0 (Kd.R (Kd.int .i64) 3 wc w.heap.size (fun k_ => some k_ ≠ ((.slice Ao55 t286.length co55) : Value).ownBlock) (.slice Ao54 t281.length co54) t281) ∧ Aside0 (Kd.R (Kd.int .i64) 3 wc w.heap.size (fun k_ => some k_ ≠ ((.slice Ao54 t281.length co54) : Value).ownBlock) (.slice Ao55 t286.length co55) t286) ∧ Aside0 (wc.heap[gb264]? = some (.cells #[.int .u32 a0_0, .int .i64 a0_1, (.slice Ao16 t266.length co16), .int .i64 a0_3, .int .i64 a0_4, (.slice Ao18 t269.length co18)] 51 (0, 0))) ∧ Aside0 (wc.heap[gb290]? = some (.cells #[.int .u32 t279, .int .i64 t280, (.slice Ao54 t281.length co54), .int .i64 t284, .int .i64 t285, (.slice Ao55 t286.length co55)] 51 (0, 0))) ∧ Aside0 (Below w.heap.size w wc))
                                          case first => as_aux_lemma =>
                                            have H := HC79.out
                                            clear HC79
                                            by_cases c80 : x129_74 = true
                                            · subst c80
                                              have H1 : (patchbaylaw2_PathEncodes.j8 kj74 a1 a2 2 t289 a0_0 a0_1 t266 a0_3 a0_4 t269 t279 t280 t281 t284 t285 t286) = some r := by rw [if_pos rfl] at H; exact H
                                              clear H
                                              have H := H1
                                              clear H1
                                              have H' := Aside0.mk H
                                              clear H
                                              go_wp2
                                              go_meet
                                              case rel => exact ⟨_, (2), (by first | rfl | (simp; done) | (simp [*]; done)), H', ⟨by have := HJ9.out; have := HJ45.out; have := HJ57.out; have := HK4.out; have := HJ65.out; have := HJ69.out; have := HJ72.out; have := HJ74.out; first | omega | exact Nat.le_refl _⟩, ⟨by (with_reducible repeat (first | apply Kd.V_alloc | apply Kd.V_drewN | apply Kd.V_drew)); exact HO_265002.out⟩, ⟨by (with_reducible repeat (first | apply Kd.V_alloc | apply Kd.V_drewN | apply Kd.V_drew)); exact HO_265005.out⟩, ⟨by (with_reducible repeat (first | apply Kd.R_alloc | apply Kd.R_drewN | apply Kd.R_drew)); exact HO_291002.out⟩, ⟨by (with_reducible repeat (first | apply Kd.R_alloc | apply Kd.R_drewN | apply Kd.R_drew)); exact HO_291005.out⟩, ⟨by (with_reducible repeat (first | refine blk_drewN ?_ _ | refine blk_drew ?_ | refine blk_alloc ?_ _)); exact BK264.out⟩, ⟨by (with_reducible repeat (first | refine blk_drewN ?_ _ | refine blk_drew ?_ | refine blk_alloc ?_ _)); exact BK290.out⟩, ⟨by repeat (first | (with_reducible first | exact HB.out | apply below_alloc | apply pw_below_drewN | apply below_drew1 | refine below_set ?_ GE264.out | refine below_set ?_ GE290.out) | exact HB.out)⟩⟩
                                            · replace c80 := Bool.eq_false_iff.mpr c80
                                              subst c80
                                              have H1 : (patchbaylaw2_PathEncodes.j8 kj74 a1 a2 x7_72 t289 a0_0 a0_1 t266 a0_3 a0_4 t269 t279 t280 t281 t284 t285 t286) = some r := by rw [if_neg (show ¬ (false = true) by decide)] at H; exact H
                                              clear H
                                              have H := H1
                                              clear H1
                                              have H' := Aside0.mk H
                                              clear H
                                              go_wp2
                                              go_meet
                                              case rel => exact ⟨_, (x7_72), (by first | rfl | (simp; done) | (simp [*]; done)), H', ⟨by have := HJ9.out; have := HJ45.out; have := HJ57.out; have := HK4.out; have := HJ65.out; have := HJ69.out; have := HJ72.out; have := HJ74.out; first | omega | exact Nat.le_refl _⟩, ⟨by (with_reducible repeat (first | apply Kd.V_alloc | apply Kd.V_drewN | apply Kd.V_drew)); exact HO_265002.out⟩, ⟨by (with_reducible repeat (first | apply Kd.V_alloc | apply Kd.V_drewN | apply Kd.V_drew)); exact HO_265005.out⟩, ⟨by (with_reducible repeat (first | apply Kd.R_alloc | apply Kd.R_drewN | apply Kd.R_drew)); exact HO_291002.out⟩, ⟨by (with_reducible repeat (first | apply Kd.R_alloc | apply Kd.R_drewN | apply Kd.R_drew)); exact HO_291005.out⟩, ⟨by (with_reducible repeat (first | refine blk_drewN ?_ _ | refine blk_drew ?_ | refine blk_alloc ?_ _)); exact BK264.out⟩, ⟨by (with_reducible repeat (first | refine blk_drewN ?_ _ | refine blk_drew ?_ | refine blk_alloc ?_ _)); exact BK290.out⟩, ⟨by repeat (first | (with_reducible first | exact HB.out | apply below_alloc | apply pw_below_drewN | apply below_drew1 | refine below_set ?_ GE264.out | refine below_set ?_ GE290.out) | exact HB.out)⟩⟩
                                          case rest => as_aux_lemma =>
                                            clear HC79
                                            try clear c2
                                            try clear p2
                                            try clear q2
                                            try clear hx2
                                            try clear c3
                                            try clear c4
                                            try clear c5
                                            try clear c6
                                            try clear p6
                                            try clear c7
                                            try clear c8
                                            try clear c26
                                            try clear c26b0
                                            try clear c26b1
                                            try clear c27
                                            try clear c27b0
                                            try clear c27b1
                                            try clear c28
                                            try clear c28b0
                                            try clear c28b1
                                            try clear p29
                                            try clear q29
                                            try clear hx29
                                            try clear c34
                                            try clear c34b0
                                            try clear c34b1
                                            try clear c43
                                            try clear c49
                                            try clear c50
                                            try clear c51
                                            try clear c52
                                            try clear c54
                                            try clear c55
                                            try clear c56
                                            try clear c56b0
                                            try clear c56b1
                                            try clear c57
                                            try clear c57b0
                                            try clear c59
                                            try clear c60
                                            try clear c62
                                            try clear c62b0
                                            try clear c63
                                            try clear c63b0
                                            try clear c64
                                            try clear c64b0
                                            try clear p64
                                            try clear c65
                                            try clear c67
                                            try clear c67b0
                                            try clear c67b1
                                            try clear c68
                                            try clear c68b0
                                            try clear c68b1
                                            try clear c69
                                            try clear c71
                                            try clear c71b0
                                            try clear c71b1
                                            try clear c72
                                            try clear c72b0
                                            try clear c74
                                            try clear c76
                                            try clear c76b0
                                            try clear c76b1
                                            try clear c77
                                            try clear c80
                                            try clear hcz21_0
                                            try clear hcz21_1
                                            try clear hcz21_2
                                            try clear hcz21_3
                                            try clear hcz21_4
                                            try clear hcz21_5
                                            try clear hcz23_0
                                            try clear hcz23_1
                                            try clear hcz23_2
                                            try clear hcz23_3
                                            try clear hcz23_4
                                            try clear hcz23_5
                                            try clear hcz30_0
                                            try clear hcz30_1
                                            try clear hcz30_2
                                            try clear hcz30_3
                                            try clear hcz30_4
                                            try clear hcz30_5
                                            try clear hcz32_0
                                            try clear hcz32_1
                                            try clear hcz32_2
                                            try clear hcz32_3
                                            try clear hcz32_4
                                            try clear hcz32_5
                                            try clear hcz35_0
                                            try clear hcz35_1
                                            try clear hcz35_2
                                            try clear hcz35_3
                                            try clear hcz35_4
                                            try clear hcz35_5
                                            try clear hcz37_0
                                            try clear hcz37_1
                                            try clear hcz37_2
                                            try clear hcz37_3
                                            try clear hcz37_4
                                            try clear hcz37_5
                                            try clear hcz39_0
                                            try clear hcz39_1
                                            try clear hcz39_2
                                            try clear hcz39_3
                                            try clear hcz39_4
                                            try clear hcz39_5
                                            try clear hcz41_0
                                            try clear hcz41_1
                                            try clear hcz41_2
                                            try clear hcz41_3
                                            try clear hcz41_4
                                            try clear hcz41_5
                                            try clear hcz47_0
                                            try clear hcz47_1
                                            try clear hcz47_2
                                            try clear hcz47_3
                                            try clear hcz47_4
                                            try clear hcz47_5
                                            try clear hcz49_0
                                            try clear hcz49_1
                                            try clear hcz49_2
                                            try clear hcz49_3
                                            try clear hcz49_4
                                            try clear hcz49_5
                                            try clear hcz53_0
                                            try clear hcz53_1
                                            try clear hcz53_2
                                            try clear hcz53_3
                                            try clear hcz53_4
                                            try clear hcz53_5
                                            try clear hcz61_0
                                            try clear hcz61_1
                                            try clear hcz61_2
                                            try clear hcz61_3
                                            try clear hcz61_4
                                            try clear hcz61_5
                                            try clear hcz78_0
                                            try clear hcz78_1
                                            try clear hcz78_2
                                            try clear hcz78_3
                                            try clear hcz78_4
                                            try clear hcz78_5
                                            try clear hfz21_0
                                            try clear hfz21_1
                                            try clear hfz21_2
                                            try clear hfz21_3
                                            try clear hfz21_4
                                            try clear hfz21_5
                                            try clear hfz23_0
                                            try clear hfz23_1
                                            try clear hfz23_2
                                            try clear hfz23_3
                                            try clear hfz23_4
                                            try clear hfz23_5
                                            try clear hfz30_0
                                            try clear hfz30_1
                                            try clear hfz30_2
                                            try clear hfz30_3
                                            try clear hfz30_4
                                            try clear hfz30_5
                                            try clear hfz32_0
                                            try clear hfz32_1
                                            try clear hfz32_2
                                            try clear hfz32_3
                                            try clear hfz32_4
                                            try clear hfz32_5
                                            try clear hfz35_0
                                            try clear hfz35_1
                                            try clear hfz35_2
                                            try clear hfz35_3
                                            try clear hfz35_4
                                            try clear hfz35_5
                                            try clear hfz37_0
                                            try clear hfz37_1
                                            try clear hfz37_2
                                            try clear hfz37_3
                                            try clear hfz37_4
                                            try clear hfz37_5
                                            try clear hfz39_0
                                            try clear hfz39_1
                                            try clear hfz39_2
                                            try clear hfz39_3
                                            try clear hfz39_4
                                            try clear hfz39_5
                                            try clear hfz41_0
                                            try clear hfz41_1
                                            try clear hfz41_2
                                            try clear hfz41_3
                                            try clear hfz41_4
                                            try clear hfz41_5
                                            try clear hfz47_0
                                            try clear hfz47_1
                                            try clear hfz47_2
                                            try clear hfz47_3
                                            try clear hfz47_4
                                            try clear hfz47_5
                                            try clear hfz49_0
                                            try clear hfz49_1
                                            try clear hfz49_2
                                            try clear hfz49_3
                                            try clear hfz49_4
                                            try clear hfz49_5
                                            try clear hfz53_0
                                            try clear hfz53_1
                                            try clear hfz53_2
                                            try clear hfz53_3
                                            try clear hfz53_4
                                            try clear hfz53_5
                                            try clear hfz61_0
                                            try clear hfz61_1
                                            try clear hfz61_2
                                            try clear hfz61_3
                                            try clear hfz61_4
                                            try clear hfz61_5
                                            try clear hfz78_0
                                            try clear hfz78_1
                                            try clear hfz78_2
                                            try clear hfz78_3
                                            try clear hfz78_4
                                            try clear hfz78_5
                                            try clear hx291_0
                                            try clear p2
                                            try clear p29
                                            try clear p291
                                            try clear p6
                                            try clear p64
                                            try clear q2
                                            try clear q29
                                            try clear q291
                                            obtain ⟨kq, x7_78, rfl, HA, HJ78, HO_265002, HO_265005, HO_291002, HO_291005, BK264, BK290, HB⟩ := hcut
                                            cases kq with
                                            | zero => exact absurd HA.out (by simp [patchbaylaw2_PathEncodes.j8])
                                            | succ kj78 =>
                                              have H := HA.out
                                              clear HA
                                              simp only [patchbaylaw2_PathEncodes.j8] at H
                                              by_cases c81 : x7_78 = 0
                                              · rw [if_pos c81] at H
                                                have c81b0 : (x7_78 == 0) = true := beq_iff_eq.mpr c81
                                                have c81b1 : (x7_78 != 0) = false := bne_eq_false_iff_eq.mpr c81
                                                clear c81
                                                have H' := Aside0.mk H
                                                clear H
                                                go_wp2
                                                go_loopg [16, 141] kj78 (fun kq v16 v141 w' => ∃ (x16_10 : List Int) (x141_10 : Int), v141 = .int .i64 x141_10 ∧ Aside0 (patchbaylaw2_PathEncodes.l1 kq a1 t289 x16_10 a2 x141_10 a0_0 a0_1 t266 a0_3 a0_4 t269 t279 t280 t281 t284 t285 t286 = some r) ∧ Aside0 (kq ≤ kj78) ∧ Aside0 (Kd.R (Kd.int .i64) 3 w' w.heap.size (fun k_ => some k_ ≠ ((.slice Ao54 t281.length co54) : Value).ownBlock ∧ some k_ ≠ ((.slice Ao55 t286.length co55) : Value).ownBlock) v16 x16_10) ∧ Aside0 (Kd.V (Kd.int .i64) 3 w' w.heap.size (fun k_ => some k_ ≠ (v16 : Value).ownBlock ∧ some k_ ≠ ((.slice Ao54 t281.length co54) : Value).ownBlock ∧ some k_ ≠ ((.slice Ao55 t286.length co55) : Value).ownBlock ∧ k_ ≠ gb264 ∧ k_ ≠ gb290) (.slice Ao16 t266.length co16) t266) ∧ Aside0 (Kd.V (Kd.int .i64) 3 w' w.heap.size (fun k_ => some k_ ≠ (v16 : Value).ownBlock ∧ some k_ ≠ ((.slice Ao54 t281.length co54) : Value).ownBlock ∧ some k_ ≠ ((.slice Ao55 t286.length co55) : Value).ownBlock ∧ k_ ≠ gb264 ∧ k_ ≠ gb290) (.slice Ao18 t269.length co18) t269) ∧ Aside0 (Kd.R (Kd.int .i64) 3 w' w.heap.size (fun k_ => some k_ ≠ (v16 : Value).ownBlock ∧ some k_ ≠ ((.slice Ao55 t286.length co55) : Value).ownBlock) (.slice Ao54 t281.length co54) t281) ∧ Aside0 (Kd.R (Kd.int .i64) 3 w' w.heap.size (fun k_ => some k_ ≠ (v16 : Value).ownBlock ∧ some k_ ≠ ((.slice Ao54 t281.length co54) : Value).ownBlock) (.slice Ao55 t286.length co55) t286) ∧ Aside0 (w'.heap[gb264]? = some (.cells #[.int .u32 a0_0, .int .i64 a0_1, (.slice Ao16 t266.length co16), .int .i64 a0_3, .int .i64 a0_4, (.slice Ao18 t269.length co18)] 51 (0, 0))) ∧ Aside0 (w'.heap[gb290]? = some (.cells #[.int .u32 t279, .int .i64 t280, (.slice Ao54 t281.length co54), .int .i64 t284, .int .i64 t285, (.slice Ao55 t286.length co55)] 51 (0, 0))) ∧ Aside0 (Below w.heap.size w w'))
                                                case atStart => exact ⟨(([] : List Int)), (0), (by first | rfl | (simp; done) | (simp [*]; done)), H', ⟨Nat.le_refl _⟩, ⟨by first | exact Kd.R_nil _ _ _ _ _ | exact Kd.N_nil _ _ _ _ _ | exact Kd.V_nil _ _ _ _ _ | exact Kd.Q_nil _ _ _ _ _ | exact Kd.S_nil _ _ _ _ _⟩, ⟨by (with_reducible repeat (first | apply Kd.V_alloc | apply Kd.V_drewN | apply Kd.V_drew)); exact Kd.V_mono HO_265002.out (fun _ hk => ⟨(by simp [Value.ownBlock]), ⟨hk.1, ⟨hk.2.1, ⟨hk.2.2.1, hk.2.2.2⟩⟩⟩⟩)⟩, ⟨by (with_reducible repeat (first | apply Kd.V_alloc | apply Kd.V_drewN | apply Kd.V_drew)); exact Kd.V_mono HO_265005.out (fun _ hk => ⟨(by simp [Value.ownBlock]), ⟨hk.1, ⟨hk.2.1, ⟨hk.2.2.1, hk.2.2.2⟩⟩⟩⟩)⟩, ⟨by (with_reducible repeat (first | apply Kd.R_alloc | apply Kd.R_drewN | apply Kd.R_drew)); exact Kd.R_mono HO_291002.out (fun _ hk => ⟨(by simp [Value.ownBlock]), hk⟩)⟩, ⟨by (with_reducible repeat (first | apply Kd.R_alloc | apply Kd.R_drewN | apply Kd.R_drew)); exact Kd.R_mono HO_291005.out (fun _ hk => ⟨(by simp [Value.ownBlock]), hk⟩)⟩, ⟨by (with_reducible repeat (first | refine blk_drewN ?_ _ | refine blk_drew ?_ | refine blk_alloc ?_ _)); exact BK264.out⟩, ⟨by (with_reducible repeat (first | refine blk_drewN ?_ _ | refine blk_drew ?_ | refine blk_alloc ?_ _)); exact BK290.out⟩, ⟨by repeat (first | (with_reducible first | exact HB.out | apply below_alloc | apply pw_below_drewN | apply below_drew1 | refine below_set ?_ GE264.out | refine below_set ?_ GE290.out) | exact HB.out)⟩⟩
                                                case round => as_aux_lemma =>
                                                  clear H'
                                                  try clear c2
                                                  try clear p2
                                                  try clear q2
                                                  try clear hx2
                                                  try clear c3
                                                  try clear c4
                                                  try clear c5
                                                  try clear c6
                                                  try clear p6
                                                  try clear c7
                                                  try clear c8
                                                  try clear c26
                                                  try clear c26b0
                                                  try clear c26b1
                                                  try clear c27
                                                  try clear c27b0
                                                  try clear c27b1
                                                  try clear c28
                                                  try clear c28b0
                                                  try clear c28b1
                                                  try clear p29
                                                  try clear q29
                                                  try clear hx29
                                                  try clear c34
                                                  try clear c34b0
                                                  try clear c34b1
                                                  try clear c43
                                                  try clear c49
                                                  try clear c50
                                                  try clear c51
                                                  try clear c52
                                                  try clear c54
                                                  try clear c55
                                                  try clear c56
                                                  try clear c56b0
                                                  try clear c56b1
                                                  try clear c57
                                                  try clear c57b0
                                                  try clear c59
                                                  try clear c60
                                                  try clear c62
                                                  try clear c62b0
                                                  try clear c63
                                                  try clear c63b0
                                                  try clear c64
                                                  try clear c64b0
                                                  try clear p64
                                                  try clear c65
                                                  try clear c67
                                                  try clear c67b0
                                                  try clear c67b1
                                                  try clear c68
                                                  try clear c68b0
                                                  try clear c68b1
                                                  try clear c69
                                                  try clear c71
                                                  try clear c71b0
                                                  try clear c71b1
                                                  try clear c72
                                                  try clear c72b0
                                                  try clear c74
                                                  try clear c76
                                                  try clear c76b0
                                                  try clear c76b1
                                                  try clear c77
                                                  try clear c80
                                                  try clear c81
                                                  try clear c81b0
                                                  try clear c81b1
                                                  try clear hcz21_0
                                                  try clear hcz21_1
                                                  try clear hcz21_2
                                                  try clear hcz21_3
                                                  try clear hcz21_4
                                                  try clear hcz21_5
                                                  try clear hcz23_0
                                                  try clear hcz23_1
                                                  try clear hcz23_2
                                                  try clear hcz23_3
                                                  try clear hcz23_4
                                                  try clear hcz23_5
                                                  try clear hcz30_0
                                                  try clear hcz30_1
                                                  try clear hcz30_2
                                                  try clear hcz30_3
                                                  try clear hcz30_4
                                                  try clear hcz30_5
                                                  try clear hcz32_0
                                                  try clear hcz32_1
                                                  try clear hcz32_2
                                                  try clear hcz32_3
                                                  try clear hcz32_4
                                                  try clear hcz32_5
                                                  try clear hcz35_0
                                                  try clear hcz35_1
                                                  try clear hcz35_2
                                                  try clear hcz35_3
                                                  try clear hcz35_4
                                                  try clear hcz35_5
                                                  try clear hcz37_0
                                                  try clear hcz37_1
                                                  try clear hcz37_2
                                                  try clear hcz37_3
                                                  try clear hcz37_4
                                                  try clear hcz37_5
                                                  try clear hcz39_0
                                                  try clear hcz39_1
                                                  try clear hcz39_2
                                                  try clear hcz39_3
                                                  try clear hcz39_4
                                                  try clear hcz39_5
                                                  try clear hcz41_0
                                                  try clear hcz41_1
                                                  try clear hcz41_2
                                                  try clear hcz41_3
                                                  try clear hcz41_4
                                                  try clear hcz41_5
                                                  try clear hcz47_0
                                                  try clear hcz47_1
                                                  try clear hcz47_2
                                                  try clear hcz47_3
                                                  try clear hcz47_4
                                                  try clear hcz47_5
                                                  try clear hcz49_0
                                                  try clear hcz49_1
                                                  try clear hcz49_2
                                                  try clear hcz49_3
                                                  try clear hcz49_4
                                                  try clear hcz49_5
                                                  try clear hcz53_0
                                                  try clear hcz53_1
                                                  try clear hcz53_2
                                                  try clear hcz53_3
                                                  try clear hcz53_4
                                                  try clear hcz53_5
                                                  try clear hcz61_0
                                                  try clear hcz61_1
                                                  try clear hcz61_2
                                                  try clear hcz61_3
                                                  try clear hcz61_4
                                                  try clear hcz61_5
                                                  try clear hcz78_0
                                                  try clear hcz78_1
                                                  try clear hcz78_2
                                                  try clear hcz78_3
                                                  try clear hcz78_4
                                                  try clear hcz78_5
                                                  try clear hfz21_0
                                                  try clear hfz21_1
                                                  try clear hfz21_2
                                                  try clear hfz21_3
                                                  try clear hfz21_4
                                                  try clear hfz21_5
                                                  try clear hfz23_0
                                                  try clear hfz23_1
                                                  try clear hfz23_2
                                                  try clear hfz23_3
                                                  try clear hfz23_4
                                                  try clear hfz23_5
                                                  try clear hfz30_0
                                                  try clear hfz30_1
                                                  try clear hfz30_2
                                                  try clear hfz30_3
                                                  try clear hfz30_4
                                                  try clear hfz30_5
                                                  try clear hfz32_0
                                                  try clear hfz32_1
                                                  try clear hfz32_2
                                                  try clear hfz32_3
                                                  try clear hfz32_4
                                                  try clear hfz32_5
                                                  try clear hfz35_0
                                                  try clear hfz35_1
                                                  try clear hfz35_2
                                                  try clear hfz35_3
                                                  try clear hfz35_4
                                                  try clear hfz35_5
                                                  try clear hfz37_0
                                                  try clear hfz37_1
                                                  try clear hfz37_2
                                                  try clear hfz37_3
                                                  try clear hfz37_4
                                                  try clear hfz37_5
                                                  try clear hfz39_0
                                                  try clear hfz39_1
                                                  try clear hfz39_2
                                                  try clear hfz39_3
                                                  try clear hfz39_4
                                                  try clear hfz39_5
                                                  try clear hfz41_0
                                                  try clear hfz41_1
                                                  try clear hfz41_2
                                                  try clear hfz41_3
                                                  try clear hfz41_4
                                                  try clear hfz41_5
                                                  try clear hfz47_0
                                                  try clear hfz47_1
                                                  try clear hfz47_2
                                                  try clear hfz47_3
                                                  try clear hfz47_4
                                                  try clear hfz47_5
                                                  try clear hfz49_0
                                                  try clear hfz49_1
                                                  try clear hfz49_2
                                                  try clear hfz49_3
                                                  try clear hfz49_4
                                                  try clear hfz49_5
                                                  try clear hfz53_0
                                                  try clear hfz53_1
                                                  try clear hfz53_2
                                                  try clear hfz53_3
                                                  try clear hfz53_4
                                                  try clear hfz53_5
                                                  try clear hfz61_0
                                                  try clear hfz61_1
                                                  try clear hfz61_2
                                                  try clear hfz61_3
                                                  try clear hfz61_4
                                                  try clear hfz61_5
                                                  try clear hfz78_0
                                                  try clear hfz78_1
                                                  try clear hfz78_2
                                                  try clear hfz78_3
                                                  try clear hfz78_4
                                                  try clear hfz78_5
                                                  try clear hx291_0
                                                  try clear p2
                                                  try clear p29
                                                  try clear p291
                                                  try clear p6
                                                  try clear p64
                                                  try clear q2
                                                  try clear q29
                                                  try clear q291
                                                  obtain ⟨x16_10, x141_10, rfl, HA, HK10, HO_16, HO_265002, HO_265005, HO_291002, HO_291005, BK264, BK290, HB⟩ := hrel
                                                  cases gk with
                                                  | zero => exact absurd HA.out (by simp [patchbaylaw2_PathEncodes.l1])
                                                  | succ k10 =>
                                                    have H := HA.out
                                                    clear HA
                                                    simp only [patchbaylaw2_PathEncodes.l1] at H
                                                    by_cases c82 : x141_10 < a2
                                                    · rw [if_pos c82] at H
                                                      have c82b0 : decide (x141_10 < a2) = true := decide_eq_true c82
                                                      clear c82
                                                      by_cases c83 : x16_10.length < 17592186044416
                                                      · rw [if_pos c83] at H
                                                        have LMc83 := Aside0.mk c83
                                                        clear c83
                                                        obtain ⟨y293, hy293⟩ : ∃ y_ : List Int, y_ = (x16_10 ++ [a1]) := ⟨_, rfl⟩
                                                        replace H : (patchbaylaw2_PathEncodes.l1 k10 a1 t289 y293 a2 (wrap64 (x141_10 + 1)) a0_0 a0_1 t266 a0_3 a0_4 t269 t279 t280 t281 t284 t285 t286) = some r := by first | (rw [hy293]; with_reducible exact H) | (have H2_ := (Option.bind_some _ _).symm.trans H; rw [hy293]; with_reducible exact H2_) | (have H2_ := (Option.bind_some _ _).symm.trans H; with_reducible exact H2_) | with_reducible exact H | (rw [hy293]; exact H) | exact H
                                                        have Ny293 := Aside0.mk hy293
                                                        clear hy293
                                                        have H' := Aside0.mk H
                                                        clear H
                                                        go_wp2_with (first | ((with_reducible refine gate_builtin (b := .append) (xs := #[.tmp 143, .tmp 145]) rfl ?_); (try (refine gate_guard (by rfl) ?_; dsimp only)); at_builtin; refine Kd.R_append (Kd.int .i64) (w0 := w) w.heap.size rfl (.tmp 143) (.tmp 145) 49 3 (.int .i64 0) 8 rfl Try.underlying49 info3 rfl (by decide) (by omega) u16 x16_10 a1 [.int .i64 a1] (fun k_ => some k_ ≠ (.slice Ao54 t281.length co54 : Value).ownBlock ∧ some k_ ≠ (.slice Ao55 t286.length co55 : Value).ownBlock) (fun _ => False) rfl rfl ?aP (fun _ hk => hk.elim) ?aF ?aO ?aB ?aS ?aL ?_; (case aP => exact rfl); (case aB => exact (by repeat (first | (with_reducible first | exact HB.out | apply below_alloc | apply pw_below_drewN | apply below_drew1 | refine below_set ?_ GE264.out | refine below_set ?_ GE290.out) | exact HB.out))); (case aF => exact (fun k_ hk => ⟨Kd.fresh' (Kd.R_lt (by (with_reducible repeat (first | apply Kd.R_alloc | apply Kd.R_drewN | apply Kd.R_drew)); exact HO_291002.out)) k_ hk, Kd.fresh' (Kd.R_lt (by (with_reducible repeat (first | apply Kd.R_alloc | apply Kd.R_drewN | apply Kd.R_drew)); exact HO_291005.out)) k_ hk⟩)); (case aO => exact (by (with_reducible repeat (first | apply Kd.R_alloc | apply Kd.R_drewN | apply Kd.R_drew)); exact HO_16.out)); (case aS => exact (below_size (by repeat (first | (with_reducible first | exact HB.out | apply below_alloc | apply pw_below_drewN | apply below_drew1 | refine below_set ?_ GE264.out | refine below_set ?_ GE290.out) | exact HB.out)))); (case aL => have := LMc83.out; omega); intro v294 w84 ho hb hg hat; rw [← Ny293.out] at ho; have n0_ := Aside0.mk (Kd.V_afterv (ok := (fun k_ => some k_ ≠ (.slice Ao54 t281.length co54 : Value).ownBlock ∧ some k_ ≠ (.slice Ao55 t286.length co55 : Value).ownBlock ∧ k_ ≠ gb264 ∧ k_ ≠ gb290)) (by (with_reducible repeat (first | apply Kd.V_alloc | apply Kd.V_drewN | apply Kd.V_drew)); exact Kd.V_mono HO_265002.out (fun _ hk => ⟨⟨hk.2.1, ⟨hk.2.2.1, ⟨hk.2.2.2.1, hk.2.2.2.2⟩⟩⟩, hk.1⟩)) hg hat); have n1_ := Aside0.mk (Kd.V_afterv (ok := (fun k_ => some k_ ≠ (.slice Ao54 t281.length co54 : Value).ownBlock ∧ some k_ ≠ (.slice Ao55 t286.length co55 : Value).ownBlock ∧ k_ ≠ gb264 ∧ k_ ≠ gb290)) (by (with_reducible repeat (first | apply Kd.V_alloc | apply Kd.V_drewN | apply Kd.V_drew)); exact Kd.V_mono HO_265005.out (fun _ hk => ⟨⟨hk.2.1, ⟨hk.2.2.1, ⟨hk.2.2.2.1, hk.2.2.2.2⟩⟩⟩, hk.1⟩)) hg hat); have n2_ := Aside0.mk (Kd.R_after (ok := (fun k_ => some k_ ≠ (.slice Ao55 t286.length co55 : Value).ownBlock)) (by (with_reducible repeat (first | apply Kd.R_alloc | apply Kd.R_drewN | apply Kd.R_drew)); exact Kd.R_mono HO_291002.out (fun _ hk => ⟨hk.2, hk.1⟩)) hg hat); have n3_ := Aside0.mk (Kd.R_after (ok := (fun k_ => some k_ ≠ (.slice Ao54 t281.length co54 : Value).ownBlock)) (by (with_reducible repeat (first | apply Kd.R_alloc | apply Kd.R_drewN | apply Kd.R_drew)); exact Kd.R_mono HO_291005.out (fun _ hk => ⟨hk.2, hk.1⟩)) hg hat); have n4_ := Aside0.mk (blk_grown (g := gb264) (o := .cells #[.int .u32 a0_0, .int .i64 a0_1, .slice Ao16 t266.length co16, .int .i64 a0_3, .int .i64 a0_4, .slice Ao18 t269.length co18] 51 (0, 0)) (by (with_reducible repeat (first | refine blk_drewN ?_ _ | refine blk_drew ?_ | refine blk_alloc ?_ _)); exact BK264.out) hg (Kd.R_ne HO_16.out BK264.out (by decide))); have n5_ := Aside0.mk (blk_grown (g := gb290) (o := .cells #[.int .u32 t279, .int .i64 t280, .slice Ao54 t281.length co54, .int .i64 t284, .int .i64 t285, .slice Ao55 t286.length co55] 51 (0, 0)) (by (with_reducible repeat (first | refine blk_drewN ?_ _ | refine blk_drew ?_ | refine blk_alloc ?_ _)); exact BK290.out) hg (Kd.R_ne HO_16.out BK290.out (by decide))); have n6_ := Aside0.mk (hb); have n7_ := Aside0.mk (ho); clear HO_265002; clear HO_265005; clear HO_291002; clear HO_291005; clear BK264; clear BK290; clear HB; clear HO_16; have HO_265002 := n0_; have HO_265005 := n1_; have HO_291002 := n2_; have HO_291005 := n3_; have BK264 := n4_; have BK290 := n5_; have HB := n6_; have HO295 := n7_; clear n0_ n1_ n2_ n3_ n4_ n5_ n6_ n7_; clear ho hb hg hat))
                                                        go_roundg k10
                                                        case measure => have := HJ9.out; have := HJ45.out; have := HJ57.out; have := HK4.out; have := HJ65.out; have := HJ69.out; have := HJ72.out; have := HJ74.out; have := HJ78.out; have := HK10.out; omega
                                                        case rel => exact ⟨(y293), (wrap64 (x141_10 + 1)), (by first | rfl | (simp; done) | (simp [*]; done)), H', ⟨by have := HJ9.out; have := HJ45.out; have := HJ57.out; have := HK4.out; have := HJ65.out; have := HJ69.out; have := HJ72.out; have := HJ74.out; have := HJ78.out; have := HK10.out; omega⟩, ⟨by (with_reducible repeat (first | apply Kd.R_alloc | apply Kd.R_drewN | apply Kd.R_drew)); exact HO295.out⟩, ⟨by (with_reducible repeat (first | apply Kd.V_alloc | apply Kd.V_drewN | apply Kd.V_drew)); exact Kd.V_mono HO_265002.out (fun _ hk => ⟨hk.2, ⟨hk.1.1, ⟨hk.1.2.1, ⟨hk.1.2.2.1, hk.1.2.2.2⟩⟩⟩⟩)⟩, ⟨by (with_reducible repeat (first | apply Kd.V_alloc | apply Kd.V_drewN | apply Kd.V_drew)); exact Kd.V_mono HO_265005.out (fun _ hk => ⟨hk.2, ⟨hk.1.1, ⟨hk.1.2.1, ⟨hk.1.2.2.1, hk.1.2.2.2⟩⟩⟩⟩)⟩, ⟨by (with_reducible repeat (first | apply Kd.R_alloc | apply Kd.R_drewN | apply Kd.R_drew)); exact Kd.R_mono HO_291002.out (fun _ hk => ⟨hk.2, hk.1⟩)⟩, ⟨by (with_reducible repeat (first | apply Kd.R_alloc | apply Kd.R_drewN | apply Kd.R_drew)); exact Kd.R_mono HO_291005.out (fun _ hk => ⟨hk.2, hk.1⟩)⟩, ⟨by (with_reducible repeat (first | refine blk_drewN ?_ _ | refine blk_drew ?_ | refine blk_alloc ?_ _)); exact BK264.out⟩, ⟨by (with_reducible repeat (first | refine blk_drewN ?_ _ | refine blk_drew ?_ | refine blk_alloc ?_ _)); exact BK290.out⟩, ⟨by repeat (first | (with_reducible first | exact HB.out | apply below_alloc | apply pw_below_drewN | apply below_drew1 | refine below_set ?_ GE264.out | refine below_set ?_ GE290.out) | exact HB.out)⟩⟩
                                                      · rw [if_neg c83] at H
                                                        exact absurd H (by simp)
                                                    · rw [if_neg c82] at H
                                                      have c82b0 : decide (x141_10 < a2) = false := decide_eq_false c82
                                                      clear c82
                                                      by_cases c85 : x16_10.length + t266.length < 17592186044416
                                                      · rw [if_pos c85] at H
                                                        have LMc85 := Aside0.mk c85
                                                        clear c85
                                                        obtain ⟨y296, hy296⟩ : ∃ y_ : List Int, y_ = (x16_10 ++ t266) := ⟨_, rfl⟩
                                                        replace H : (if t289 = 0 then ((patchbayref2_SamePath.f k10 a0_0 a0_1 y296 a0_3 a0_4 t269 t279 t280 t281 t284 t285 t286).bind fun t299 => (some t299)) else (some false)) = some r := by first | (rw [hy296]; with_reducible exact H) | (have H2_ := (Option.bind_some _ _).symm.trans H; rw [hy296]; with_reducible exact H2_) | (have H2_ := (Option.bind_some _ _).symm.trans H; with_reducible exact H2_) | with_reducible exact H | (rw [hy296]; exact H) | exact H
                                                        have Ny296 := Aside0.mk hy296
                                                        clear hy296
                                                        by_cases c86 : t289 = 0
                                                        · rw [if_pos c86] at H
                                                          have c86b0 : (t289 == 0) = true := beq_iff_eq.mpr c86
                                                          have c86b1 : (t289 != 0) = false := bne_eq_false_iff_eq.mpr c86
                                                          clear c86
                                                          replace H := Option.bind_eq_some_iff.mp H
                                                          obtain ⟨t299, A870, H⟩ := H
                                                          replace H : (some t299) = some r := H
                                                          have A87 := Aside0.mk A870
                                                          clear A870
                                                          obtain rfl := Option.some.inj H
                                                          have hnb88 := NB264_290.out
                                                          have hnc88 := NB290_264.out
                                                          have hcz89_0 : wr.cell? ⟨gb264, 0, none⟩ = some (.int .u32 a0_0) := (blk_cell BK264.out 0).trans rfl
                                                          have hcz89_1 : wr.cell? ⟨gb264, 1, none⟩ = some (.int .i64 a0_1) := (blk_cell BK264.out 1).trans rfl
                                                          have hcz89_2 : wr.cell? ⟨gb264, 2, none⟩ = some (.slice Ao16 t266.length co16) := (blk_cell BK264.out 2).trans rfl
                                                          have hcz89_3 : wr.cell? ⟨gb264, 3, none⟩ = some (.int .i64 a0_3) := (blk_cell BK264.out 3).trans rfl
                                                          have hcz89_4 : wr.cell? ⟨gb264, 4, none⟩ = some (.int .i64 a0_4) := (blk_cell BK264.out 4).trans rfl
                                                          have hcz89_5 : wr.cell? ⟨gb264, 5, none⟩ = some (.slice Ao18 t269.length co18) := (blk_cell BK264.out 5).trans rfl
                                                          have hfz89_0 := blk_frozen BK264.out 0
                                                          have hfz89_1 := blk_frozen BK264.out 1
                                                          have hfz89_2 := blk_frozen BK264.out 2
                                                          have hfz89_3 := blk_frozen BK264.out 3
                                                          have hfz89_4 := blk_frozen BK264.out 4
                                                          have hfz89_5 := blk_frozen BK264.out 5
                                                          go_wp2_with (first | ((with_reducible refine gate_builtin (b := .append) (xs := #[.tmp 148, .tmp 150]) rfl ?_); (try (refine gate_guard (by rfl) ?_; dsimp only)); at_builtin; refine Kd.R_append_rows (Kd.int .i64) (w0 := w) w.heap.size rfl (.tmp 148) (.tmp 150) 49 3 (.int .i64 0) 8 rfl Try.underlying49 info3 rfl (by decide) (by omega) u16 x16_10 t266 _ _ _ (fun k_ => some k_ ≠ (.slice Ao54 t281.length co54 : Value).ownBlock ∧ some k_ ≠ (.slice Ao55 t286.length co55 : Value).ownBlock) (fun _ => False) rfl rfl ?aO ?aR (fun _ _ h => h) (fun _ h => h.elim) ?aF ?aB ?aS ?aL ?_; (case aR => repeat (first | exact (Kd.V_reads' HO_265002.out).2.2 | (with_reducible refine Kd.C_alloc ?_ _) | (with_reducible refine Kd.C_drewN ?_ _) | (with_reducible refine Kd.C_drew ?_))); (case aB => exact (by repeat (first | (with_reducible first | exact HB.out | apply below_alloc | apply pw_below_drewN | apply below_drew1 | refine below_set ?_ GE264.out | refine below_set ?_ GE290.out) | exact HB.out))); (case aF => exact (fun k_ hk => ⟨Kd.fresh' (Kd.R_lt (by (with_reducible repeat (first | apply Kd.R_alloc | apply Kd.R_drewN | apply Kd.R_drew)); exact HO_291002.out)) k_ hk, Kd.fresh' (Kd.R_lt (by (with_reducible repeat (first | apply Kd.R_alloc | apply Kd.R_drewN | apply Kd.R_drew)); exact HO_291005.out)) k_ hk⟩)); (case aO => exact (by (with_reducible repeat (first | apply Kd.R_alloc | apply Kd.R_drewN | apply Kd.R_drew)); exact HO_16.out)); (case aS => exact (below_size (by repeat (first | (with_reducible first | exact HB.out | apply below_alloc | apply pw_below_drewN | apply below_drew1 | refine below_set ?_ GE264.out | refine below_set ?_ GE290.out) | exact HB.out)))); (case aL => have := LMc85.out; omega); intro v297 w90 ho hb hg hat; rw [← Ny296.out] at ho; have n0_ := Aside0.mk (Kd.V_afterv (ok := (fun k_ => some k_ ≠ (.slice Ao54 t281.length co54 : Value).ownBlock ∧ some k_ ≠ (.slice Ao55 t286.length co55 : Value).ownBlock ∧ k_ ≠ gb264 ∧ k_ ≠ gb290)) (by (with_reducible repeat (first | apply Kd.V_alloc | apply Kd.V_drewN | apply Kd.V_drew)); exact Kd.V_mono HO_265002.out (fun _ hk => ⟨⟨hk.2.1, ⟨hk.2.2.1, ⟨hk.2.2.2.1, hk.2.2.2.2⟩⟩⟩, hk.1⟩)) hg hat); have n1_ := Aside0.mk (Kd.V_afterv (ok := (fun k_ => some k_ ≠ (.slice Ao54 t281.length co54 : Value).ownBlock ∧ some k_ ≠ (.slice Ao55 t286.length co55 : Value).ownBlock ∧ k_ ≠ gb264 ∧ k_ ≠ gb290)) (by (with_reducible repeat (first | apply Kd.V_alloc | apply Kd.V_drewN | apply Kd.V_drew)); exact Kd.V_mono HO_265005.out (fun _ hk => ⟨⟨hk.2.1, ⟨hk.2.2.1, ⟨hk.2.2.2.1, hk.2.2.2.2⟩⟩⟩, hk.1⟩)) hg hat); have n2_ := Aside0.mk (Kd.R_after (ok := (fun k_ => some k_ ≠ (.slice Ao55 t286.length co55 : Value).ownBlock)) (by (with_reducible repeat (first | apply Kd.R_alloc | apply Kd.R_drewN | apply Kd.R_drew)); exact Kd.R_mono HO_291002.out (fun _ hk => ⟨hk.2, hk.1⟩)) hg hat); have n3_ := Aside0.mk (Kd.R_after (ok := (fun k_ => some k_ ≠ (.slice Ao54 t281.length co54 : Value).ownBlock)) (by (with_reducible repeat (first | apply Kd.R_alloc | apply Kd.R_drewN | apply Kd.R_drew)); exact Kd.R_mono HO_291005.out (fun _ hk => ⟨hk.2, hk.1⟩)) hg hat); have n4_ := Aside0.mk (blk_grown (g := gb264) (o := .cells #[.int .u32 a0_0, .int .i64 a0_1, .slice Ao16 t266.length co16, .int .i64 a0_3, .int .i64 a0_4, .slice Ao18 t269.length co18] 51 (0, 0)) (by (with_reducible repeat (first | refine blk_drewN ?_ _ | refine blk_drew ?_ | refine blk_alloc ?_ _)); exact BK264.out) hg (Kd.R_ne HO_16.out BK264.out (by decide))); have n5_ := Aside0.mk (blk_grown (g := gb290) (o := .cells #[.int .u32 t279, .int .i64 t280, .slice Ao54 t281.length co54, .int .i64 t284, .int .i64 t285, .slice Ao55 t286.length co55] 51 (0, 0)) (by (with_reducible repeat (first | refine blk_drewN ?_ _ | refine blk_drew ?_ | refine blk_alloc ?_ _)); exact BK290.out) hg (Kd.R_ne HO_16.out BK290.out (by decide))); have n6_ := Aside0.mk (hb); have n7_ := Aside0.mk (ho); clear HO_265002; clear HO_265005; clear HO_291002; clear HO_291005; clear BK264; clear BK290; clear HB; clear HO_16; have HO_265002 := n0_; have HO_265005 := n1_; have HO_291002 := n2_; have HO_291005 := n3_; have BK264 := n4_; have BK290 := n5_; have HB := n6_; have HO298 := n7_; clear n0_ n1_ n2_ n3_ n4_ n5_ n6_ n7_; clear ho hb hg hat; obtain ⟨Ao91, co91, eo91⟩ := Kd.R_slice HO298.out; subst eo91; have hcz92_0 : w90.cell? ⟨gb264, 0, none⟩ = some (.int .u32 a0_0) := (blk_cell BK264.out 0).trans rfl; have hcz92_1 : w90.cell? ⟨gb264, 1, none⟩ = some (.int .i64 a0_1) := (blk_cell BK264.out 1).trans rfl; have hcz92_2 : w90.cell? ⟨gb264, 2, none⟩ = some (.slice Ao16 t266.length co16) := (blk_cell BK264.out 2).trans rfl; have hcz92_3 : w90.cell? ⟨gb264, 3, none⟩ = some (.int .i64 a0_3) := (blk_cell BK264.out 3).trans rfl; have hcz92_4 : w90.cell? ⟨gb264, 4, none⟩ = some (.int .i64 a0_4) := (blk_cell BK264.out 4).trans rfl; have hcz92_5 : w90.cell? ⟨gb264, 5, none⟩ = some (.slice Ao18 t269.length co18) := (blk_cell BK264.out 5).trans rfl; have hfz92_0 := blk_frozen BK264.out 0; have hfz92_1 := blk_frozen BK264.out 1; have hfz92_2 := blk_frozen BK264.out 2; have hfz92_3 := blk_frozen BK264.out 3; have hfz92_4 := blk_frozen BK264.out 4; have hfz92_5 := blk_frozen BK264.out 5; have hcz93_0 : w90.cell? ⟨gb290, 0, none⟩ = some (.int .u32 t279) := (blk_cell BK290.out 0).trans rfl; have hcz93_1 : w90.cell? ⟨gb290, 1, none⟩ = some (.int .i64 t280) := (blk_cell BK290.out 1).trans rfl; have hcz93_2 : w90.cell? ⟨gb290, 2, none⟩ = some (.slice Ao54 t281.length co54) := (blk_cell BK290.out 2).trans rfl; have hcz93_3 : w90.cell? ⟨gb290, 3, none⟩ = some (.int .i64 t284) := (blk_cell BK290.out 3).trans rfl; have hcz93_4 : w90.cell? ⟨gb290, 4, none⟩ = some (.int .i64 t285) := (blk_cell BK290.out 4).trans rfl; have hcz93_5 : w90.cell? ⟨gb290, 5, none⟩ = some (.slice Ao55 t286.length co55) := (blk_cell BK290.out 5).trans rfl; have hfz93_0 := blk_frozen BK290.out 0; have hfz93_1 := blk_frozen BK290.out 1; have hfz93_2 := blk_frozen BK290.out 2; have hfz93_3 := blk_frozen BK290.out 3; have hfz93_4 := blk_frozen BK290.out 4; have hfz93_5 := blk_frozen BK290.out 5) | (go_at_call 29; (with_reducible refine (patchbayref2_SamePath.calls k10 a0_0 a0_1 _ _ y296 a0_3 a0_4 _ _ t269 t279 t280 _ _ t281 t284 t285 _ _ t286 t299 _ ?side1 ?side2 ?side3 ?side4 ?side5 ?side6 ?side7 ?side8 A87.out).mono ?_); (case side1 => refine (Kd.R_reads' (e := 3) (base := w.heap.size) (ok := fun k_ => (some k_ ≠ (.slice Ao54 t281.length co54 : Value).ownBlock ∧ some k_ ≠ (.slice Ao55 t286.length co55 : Value).ownBlock)) (n := y296.length) (c := co91) ?_).2.2; exact (by (with_reducible repeat (first | apply Kd.R_alloc | apply Kd.R_drewN | apply Kd.R_drew)); exact (Kd.R_mono (Kd.R_far (p := ⟨gb264, 2, none⟩) (Kd.R_types HO298.out BK264.out (by decide)) (fun _ hk => hk.2) (.slice Ao91 y296.length co91)) (fun _ h_ => h_.1)))); (case side2 => exact (Kd.R_reads' HO298.out).2.1); (case side3 => refine (Kd.V_reads' (e := 3) (base := w.heap.size) (ok := fun k_ => ((some k_ ≠ (.slice Ao54 t281.length co54 : Value).ownBlock ∧ (some k_ ≠ (.slice Ao55 t286.length co55 : Value).ownBlock ∧ (k_ ≠ gb264 ∧ k_ ≠ gb290))) ∧ some k_ ≠ (.slice Ao91 y296.length co91 : Value).ownBlock)) (n := t269.length) (c := co18) ?_).2.2; exact (by (with_reducible repeat (first | apply Kd.V_alloc | apply Kd.V_drewN | apply Kd.V_drew)); exact (Kd.V_mono (Kd.V_far (p := ⟨gb264, 2, none⟩) (Kd.V_mono HO_265005.out (fun k_ hk => (⟨hk, hk.1.2.2.1⟩ : _ ∧ k_ ≠ gb264))) (fun _ hk => hk.2) (.slice Ao91 y296.length co91)) (fun _ h_ => h_.1)))); (case side4 => exact (Kd.V_reads' HO_265005.out).2.1); (case side5 => refine (Kd.R_reads' (e := 3) (base := w.heap.size) (ok := fun k_ => (some k_ ≠ (.slice Ao55 t286.length co55 : Value).ownBlock ∧ some k_ ≠ (.slice Ao91 y296.length co91 : Value).ownBlock)) (n := t281.length) (c := co54) ?_).2.2; exact (by (with_reducible repeat (first | apply Kd.R_alloc | apply Kd.R_drewN | apply Kd.R_drew)); exact (Kd.R_mono (Kd.R_far (p := ⟨gb264, 2, none⟩) (Kd.R_types HO_291002.out BK264.out (by decide)) (fun _ hk => hk.2) (.slice Ao91 y296.length co91)) (fun _ h_ => h_.1)))); (case side6 => exact (Kd.R_reads' HO_291002.out).2.1); (case side7 => refine (Kd.R_reads' (e := 3) (base := w.heap.size) (ok := fun k_ => (some k_ ≠ (.slice Ao54 t281.length co54 : Value).ownBlock ∧ some k_ ≠ (.slice Ao91 y296.length co91 : Value).ownBlock)) (n := t286.length) (c := co55) ?_).2.2; exact (by (with_reducible repeat (first | apply Kd.R_alloc | apply Kd.R_drewN | apply Kd.R_drew)); exact (Kd.R_mono (Kd.R_far (p := ⟨gb264, 2, none⟩) (Kd.R_types HO_291005.out BK264.out (by decide)) (fun _ hk => hk.2) (.slice Ao91 y296.length co91)) (fun _ h_ => h_.1)))); (case side8 => exact (Kd.R_reads' HO_291005.out).2.1); rintro e w94 ⟨rfl, hb⟩; have n0_ := Aside0.mk (Kd.V_below (by (with_reducible repeat (first | apply Kd.V_alloc | apply Kd.V_drewN | apply Kd.V_drew)); exact (Kd.V_mono (Kd.V_far (p := ⟨gb264, 2, none⟩) (Kd.V_mono HO_265002.out (fun k_ hk => (⟨hk, hk.1.2.2.1⟩ : _ ∧ k_ ≠ gb264))) (fun _ hk => hk.2) (.slice Ao91 y296.length co91)) (fun _ h_ => h_.1))) hb); have n1_ := Aside0.mk (Kd.V_below (by (with_reducible repeat (first | apply Kd.V_alloc | apply Kd.V_drewN | apply Kd.V_drew)); exact (Kd.V_mono (Kd.V_far (p := ⟨gb264, 2, none⟩) (Kd.V_mono HO_265005.out (fun k_ hk => (⟨hk, hk.1.2.2.1⟩ : _ ∧ k_ ≠ gb264))) (fun _ hk => hk.2) (.slice Ao91 y296.length co91)) (fun _ h_ => h_.1))) hb); have n2_ := Aside0.mk (Kd.R_below (by (with_reducible repeat (first | apply Kd.R_alloc | apply Kd.R_drewN | apply Kd.R_drew)); exact (Kd.R_mono (Kd.R_far (p := ⟨gb264, 2, none⟩) (Kd.R_types HO_291002.out BK264.out (by decide)) (fun _ hk => hk.2) (.slice Ao91 y296.length co91)) (fun _ h_ => h_.1))) hb); have n3_ := Aside0.mk (Kd.R_below (by (with_reducible repeat (first | apply Kd.R_alloc | apply Kd.R_drewN | apply Kd.R_drew)); exact (Kd.R_mono (Kd.R_far (p := ⟨gb264, 2, none⟩) (Kd.R_types HO_291005.out BK264.out (by decide)) (fun _ hk => hk.2) (.slice Ao91 y296.length co91)) (fun _ h_ => h_.1))) hb); have n4_ := Aside0.mk (Kd.R_below (by (with_reducible repeat (first | apply Kd.R_alloc | apply Kd.R_drewN | apply Kd.R_drew)); exact (Kd.R_mono (Kd.R_far (p := ⟨gb264, 2, none⟩) (Kd.R_types HO298.out BK264.out (by decide)) (fun _ hk => hk.2) (.slice Ao91 y296.length co91)) (fun _ h_ => h_.1))) hb); have n5_ := Aside0.mk (blk_below (g := gb264) (o := .cells #[.int .u32 a0_0, .int .i64 a0_1, .slice Ao91 y296.length co91, .int .i64 a0_3, .int .i64 a0_4, .slice Ao18 t269.length co18] 51 (0, 0)) (by (with_reducible repeat (first | refine blk_drewN ?_ _ | refine blk_drew ?_ | refine blk_alloc ?_ _)); refine blk_put (cs := #[.int .u32 a0_0, .int .i64 a0_1, .slice Ao16 t266.length co16, .int .i64 a0_3, .int .i64 a0_4, .slice Ao18 t269.length co18]) ?_ 2 _ rfl; (with_reducible repeat (first | refine blk_drewN ?_ _ | refine blk_drew ?_ | refine blk_alloc ?_ _)); exact BK264.out) hb); have n6_ := Aside0.mk (blk_below (g := gb290) (o := .cells #[.int .u32 t279, .int .i64 t280, .slice Ao54 t281.length co54, .int .i64 t284, .int .i64 t285, .slice Ao55 t286.length co55] 51 (0, 0)) (by (with_reducible repeat (first | refine blk_drewN ?_ _ | refine blk_drew ?_ | refine blk_alloc ?_ _)); refine blk_far ?_ NB290_264.out _; (with_reducible repeat (first | refine blk_drewN ?_ _ | refine blk_drew ?_ | refine blk_alloc ?_ _)); exact BK290.out) hb); have n7_ := Aside0.mk (below_step (by repeat (first | (with_reducible first | exact HB.out | apply below_alloc | apply pw_below_drewN | apply below_drew1 | refine below_set ?_ GE264.out | refine below_set ?_ GE290.out) | exact HB.out)) hb); clear HO_265002; clear HO_265005; clear HO_291002; clear HO_291005; clear HO298; clear BK264; clear BK290; clear HB; have HO_265002 := n0_; have HO_265005 := n1_; have HO_291002 := n2_; have HO_291005 := n3_; have HO298 := n4_; have BK264 := n5_; have BK290 := n6_; have HB := n7_; clear n0_ n1_ n2_ n3_ n4_ n5_ n6_ n7_; (try clear hb); (try clear hb2); (try clear hk); (try clear hi)))
                                                          go_ret
                                                          exact ⟨by first | rfl | (simp [errW_none, errW_some] <;> rfl) | (simp [*, errW_none, errW_some] <;> rfl), by repeat (first | (with_reducible first | exact HB.out | apply below_alloc | apply pw_below_drewN | apply below_drew1 | refine below_set ?_ GE264.out | refine below_set ?_ GE290.out) | exact HB.out)⟩
                                                        · rw [if_neg c86] at H
                                                          have c86b0 : (t289 == 0) = false := beq_eq_false_iff_ne.mpr c86
                                                          have c86b1 : (t289 != 0) = true := bne_iff_ne.mpr c86
                                                          obtain rfl := Option.some.inj H
                                                          have hnb95 := NB264_290.out
                                                          have hnc95 := NB290_264.out
                                                          have hcz96_0 : wr.cell? ⟨gb264, 0, none⟩ = some (.int .u32 a0_0) := (blk_cell BK264.out 0).trans rfl
                                                          have hcz96_1 : wr.cell? ⟨gb264, 1, none⟩ = some (.int .i64 a0_1) := (blk_cell BK264.out 1).trans rfl
                                                          have hcz96_2 : wr.cell? ⟨gb264, 2, none⟩ = some (.slice Ao16 t266.length co16) := (blk_cell BK264.out 2).trans rfl
                                                          have hcz96_3 : wr.cell? ⟨gb264, 3, none⟩ = some (.int .i64 a0_3) := (blk_cell BK264.out 3).trans rfl
                                                          have hcz96_4 : wr.cell? ⟨gb264, 4, none⟩ = some (.int .i64 a0_4) := (blk_cell BK264.out 4).trans rfl
                                                          have hcz96_5 : wr.cell? ⟨gb264, 5, none⟩ = some (.slice Ao18 t269.length co18) := (blk_cell BK264.out 5).trans rfl
                                                          have hfz96_0 := blk_frozen BK264.out 0
                                                          have hfz96_1 := blk_frozen BK264.out 1
                                                          have hfz96_2 := blk_frozen BK264.out 2
                                                          have hfz96_3 := blk_frozen BK264.out 3
                                                          have hfz96_4 := blk_frozen BK264.out 4
                                                          have hfz96_5 := blk_frozen BK264.out 5
                                                          go_wp2_with (first | ((with_reducible refine gate_builtin (b := .append) (xs := #[.tmp 148, .tmp 150]) rfl ?_); (try (refine gate_guard (by rfl) ?_; dsimp only)); at_builtin; refine Kd.R_append_rows (Kd.int .i64) (w0 := w) w.heap.size rfl (.tmp 148) (.tmp 150) 49 3 (.int .i64 0) 8 rfl Try.underlying49 info3 rfl (by decide) (by omega) u16 x16_10 t266 _ _ _ (fun k_ => some k_ ≠ (.slice Ao54 t281.length co54 : Value).ownBlock ∧ some k_ ≠ (.slice Ao55 t286.length co55 : Value).ownBlock) (fun _ => False) rfl rfl ?aO ?aR (fun _ _ h => h) (fun _ h => h.elim) ?aF ?aB ?aS ?aL ?_; (case aR => repeat (first | exact (Kd.V_reads' HO_265002.out).2.2 | (with_reducible refine Kd.C_alloc ?_ _) | (with_reducible refine Kd.C_drewN ?_ _) | (with_reducible refine Kd.C_drew ?_))); (case aB => exact (by repeat (first | (with_reducible first | exact HB.out | apply below_alloc | apply pw_below_drewN | apply below_drew1 | refine below_set ?_ GE264.out | refine below_set ?_ GE290.out) | exact HB.out))); (case aF => exact (fun k_ hk => ⟨Kd.fresh' (Kd.R_lt (by (with_reducible repeat (first | apply Kd.R_alloc | apply Kd.R_drewN | apply Kd.R_drew)); exact HO_291002.out)) k_ hk, Kd.fresh' (Kd.R_lt (by (with_reducible repeat (first | apply Kd.R_alloc | apply Kd.R_drewN | apply Kd.R_drew)); exact HO_291005.out)) k_ hk⟩)); (case aO => exact (by (with_reducible repeat (first | apply Kd.R_alloc | apply Kd.R_drewN | apply Kd.R_drew)); exact HO_16.out)); (case aS => exact (below_size (by repeat (first | (with_reducible first | exact HB.out | apply below_alloc | apply pw_below_drewN | apply below_drew1 | refine below_set ?_ GE264.out | refine below_set ?_ GE290.out) | exact HB.out)))); (case aL => have := LMc85.out; omega); intro v297 w97 ho hb hg hat; rw [← Ny296.out] at ho; have n0_ := Aside0.mk (Kd.V_afterv (ok := (fun k_ => some k_ ≠ (.slice Ao54 t281.length co54 : Value).ownBlock ∧ some k_ ≠ (.slice Ao55 t286.length co55 : Value).ownBlock ∧ k_ ≠ gb264 ∧ k_ ≠ gb290)) (by (with_reducible repeat (first | apply Kd.V_alloc | apply Kd.V_drewN | apply Kd.V_drew)); exact Kd.V_mono HO_265002.out (fun _ hk => ⟨⟨hk.2.1, ⟨hk.2.2.1, ⟨hk.2.2.2.1, hk.2.2.2.2⟩⟩⟩, hk.1⟩)) hg hat); have n1_ := Aside0.mk (Kd.V_afterv (ok := (fun k_ => some k_ ≠ (.slice Ao54 t281.length co54 : Value).ownBlock ∧ some k_ ≠ (.slice Ao55 t286.length co55 : Value).ownBlock ∧ k_ ≠ gb264 ∧ k_ ≠ gb290)) (by (with_reducible repeat (first | apply Kd.V_alloc | apply Kd.V_drewN | apply Kd.V_drew)); exact Kd.V_mono HO_265005.out (fun _ hk => ⟨⟨hk.2.1, ⟨hk.2.2.1, ⟨hk.2.2.2.1, hk.2.2.2.2⟩⟩⟩, hk.1⟩)) hg hat); have n2_ := Aside0.mk (Kd.R_after (ok := (fun k_ => some k_ ≠ (.slice Ao55 t286.length co55 : Value).ownBlock)) (by (with_reducible repeat (first | apply Kd.R_alloc | apply Kd.R_drewN | apply Kd.R_drew)); exact Kd.R_mono HO_291002.out (fun _ hk => ⟨hk.2, hk.1⟩)) hg hat); have n3_ := Aside0.mk (Kd.R_after (ok := (fun k_ => some k_ ≠ (.slice Ao54 t281.length co54 : Value).ownBlock)) (by (with_reducible repeat (first | apply Kd.R_alloc | apply Kd.R_drewN | apply Kd.R_drew)); exact Kd.R_mono HO_291005.out (fun _ hk => ⟨hk.2, hk.1⟩)) hg hat); have n4_ := Aside0.mk (blk_grown (g := gb264) (o := .cells #[.int .u32 a0_0, .int .i64 a0_1, .slice Ao16 t266.length co16, .int .i64 a0_3, .int .i64 a0_4, .slice Ao18 t269.length co18] 51 (0, 0)) (by (with_reducible repeat (first | refine blk_drewN ?_ _ | refine blk_drew ?_ | refine blk_alloc ?_ _)); exact BK264.out) hg (Kd.R_ne HO_16.out BK264.out (by decide))); have n5_ := Aside0.mk (blk_grown (g := gb290) (o := .cells #[.int .u32 t279, .int .i64 t280, .slice Ao54 t281.length co54, .int .i64 t284, .int .i64 t285, .slice Ao55 t286.length co55] 51 (0, 0)) (by (with_reducible repeat (first | refine blk_drewN ?_ _ | refine blk_drew ?_ | refine blk_alloc ?_ _)); exact BK290.out) hg (Kd.R_ne HO_16.out BK290.out (by decide))); have n6_ := Aside0.mk (hb); have n7_ := Aside0.mk (ho); clear HO_265002; clear HO_265005; clear HO_291002; clear HO_291005; clear BK264; clear BK290; clear HB; clear HO_16; have HO_265002 := n0_; have HO_265005 := n1_; have HO_291002 := n2_; have HO_291005 := n3_; have BK264 := n4_; have BK290 := n5_; have HB := n6_; have HO298 := n7_; clear n0_ n1_ n2_ n3_ n4_ n5_ n6_ n7_; clear ho hb hg hat; obtain ⟨Ao98, co98, eo98⟩ := Kd.R_slice HO298.out; subst eo98; have hcz99_0 : w97.cell? ⟨gb264, 0, none⟩ = some (.int .u32 a0_0) := (blk_cell BK264.out 0).trans rfl; have hcz99_1 : w97.cell? ⟨gb264, 1, none⟩ = some (.int .i64 a0_1) := (blk_cell BK264.out 1).trans rfl; have hcz99_2 : w97.cell? ⟨gb264, 2, none⟩ = some (.slice Ao16 t266.length co16) := (blk_cell BK264.out 2).trans rfl; have hcz99_3 : w97.cell? ⟨gb264, 3, none⟩ = some (.int .i64 a0_3) := (blk_cell BK264.out 3).trans rfl; have hcz99_4 : w97.cell? ⟨gb264, 4, none⟩ = some (.int .i64 a0_4) := (blk_cell BK264.out 4).trans rfl; have hcz99_5 : w97.cell? ⟨gb264, 5, none⟩ = some (.slice Ao18 t269.length co18) := (blk_cell BK264.out 5).trans rfl; have hfz99_0 := blk_frozen BK264.out 0; have hfz99_1 := blk_frozen BK264.out 1; have hfz99_2 := blk_frozen BK264.out 2; have hfz99_3 := blk_frozen BK264.out 3; have hfz99_4 := blk_frozen BK264.out 4; have hfz99_5 := blk_frozen BK264.out 5))
                                                          go_ret
                                                          exact ⟨by first | rfl | (simp [errW_none, errW_some] <;> rfl) | (simp [*, errW_none, errW_some] <;> rfl), by repeat (first | (with_reducible first | exact HB.out | apply below_alloc | apply pw_below_drewN | apply below_drew1 | refine below_set ?_ GE264.out | refine below_set ?_ GE290.out) | exact HB.out)⟩
                                                      · rw [if_neg c85] at H
                                                        exact absurd H (by simp)
                                              · rw [if_neg c81] at H
                                                have c81b0 : (x7_78 == 0) = false := beq_eq_false_iff_ne.mpr c81
                                                have c81b1 : (x7_78 != 0) = true := bne_iff_ne.mpr c81
                                                by_cases c100 : t289 = x7_78
                                                · rw [if_pos c100] at H
                                                  have c100b0 : (t289 == x7_78) = true := beq_iff_eq.mpr c100
                                                  have c100b1 : (t289 != x7_78) = false := bne_eq_false_iff_eq.mpr c100
                                                  clear c100
                                                  replace H := Option.bind_eq_some_iff.mp H
                                                  obtain ⟨t292, A1010, H⟩ := H
                                                  replace H : (some t292) = some r := H
                                                  have A101 := Aside0.mk A1010
                                                  clear A1010
                                                  obtain rfl := Option.some.inj H
                                                  have hnb102 := NB290_264.out
                                                  have hnc102 := NB264_290.out
                                                  have hcz103_0 : wc.cell? ⟨gb290, 0, none⟩ = some (.int .u32 t279) := (blk_cell BK290.out 0).trans rfl
                                                  have hcz103_1 : wc.cell? ⟨gb290, 1, none⟩ = some (.int .i64 t280) := (blk_cell BK290.out 1).trans rfl
                                                  have hcz103_2 : wc.cell? ⟨gb290, 2, none⟩ = some (.slice Ao54 t281.length co54) := (blk_cell BK290.out 2).trans rfl
                                                  have hcz103_3 : wc.cell? ⟨gb290, 3, none⟩ = some (.int .i64 t284) := (blk_cell BK290.out 3).trans rfl
                                                  have hcz103_4 : wc.cell? ⟨gb290, 4, none⟩ = some (.int .i64 t285) := (blk_cell BK290.out 4).trans rfl
                                                  have hcz103_5 : wc.cell? ⟨gb290, 5, none⟩ = some (.slice Ao55 t286.length co55) := (blk_cell BK290.out 5).trans rfl
                                                  have hfz103_0 := blk_frozen BK290.out 0
                                                  have hfz103_1 := blk_frozen BK290.out 1
                                                  have hfz103_2 := blk_frozen BK290.out 2
                                                  have hfz103_3 := blk_frozen BK290.out 3
                                                  have hfz103_4 := blk_frozen BK290.out 4
                                                  have hfz103_5 := blk_frozen BK290.out 5
                                                  go_wp2_with (first | (go_at_call 29; (refine (patchbayref2_SamePath.calls kj78 t279 t280 _ _ t281 t284 t285 _ _ t286 0 0 _ _ ([] : List Int) 0 0 _ _ ([] : List Int) t292 _ ?side1 ?side2 ?side3 ?side4 ?side5 ?side6 ?side7 ?side8 A101.out).mono ?_); (case side1 => repeat (first | exact (Kd.R_reads' HO_291002.out).2.2 | (with_reducible refine Kd.C_alloc ?_ _) | (with_reducible refine Kd.C_drewN ?_ _) | (with_reducible refine Kd.C_drew ?_))); (case side2 => exact (Kd.R_reads' HO_291002.out).2.1); (case side3 => repeat (first | exact (Kd.R_reads' HO_291005.out).2.2 | (with_reducible refine Kd.C_alloc ?_ _) | (with_reducible refine Kd.C_drewN ?_ _) | (with_reducible refine Kd.C_drew ?_))); (case side4 => exact (Kd.R_reads' HO_291005.out).2.1); (case side5 => exact Kd.C_nil _ _); (case side6 => exact Nat.le_refl _); (case side7 => exact Kd.C_nil _ _); (case side8 => exact Nat.le_refl _); rintro e w104 ⟨rfl, hb⟩; have n0_ := Aside0.mk (Kd.V_below (by (with_reducible repeat (first | apply Kd.V_alloc | apply Kd.V_drewN | apply Kd.V_drew)); exact HO_265002.out) hb); have n1_ := Aside0.mk (Kd.V_below (by (with_reducible repeat (first | apply Kd.V_alloc | apply Kd.V_drewN | apply Kd.V_drew)); exact HO_265005.out) hb); have n2_ := Aside0.mk (Kd.R_below (by (with_reducible repeat (first | apply Kd.R_alloc | apply Kd.R_drewN | apply Kd.R_drew)); exact HO_291002.out) hb); have n3_ := Aside0.mk (Kd.R_below (by (with_reducible repeat (first | apply Kd.R_alloc | apply Kd.R_drewN | apply Kd.R_drew)); exact HO_291005.out) hb); have n4_ := Aside0.mk (blk_below (g := gb264) (o := .cells #[.int .u32 a0_0, .int .i64 a0_1, .slice Ao16 t266.length co16, .int .i64 a0_3, .int .i64 a0_4, .slice Ao18 t269.length co18] 51 (0, 0)) (by (with_reducible repeat (first | refine blk_drewN ?_ _ | refine blk_drew ?_ | refine blk_alloc ?_ _)); exact BK264.out) hb); have n5_ := Aside0.mk (blk_below (g := gb290) (o := .cells #[.int .u32 t279, .int .i64 t280, .slice Ao54 t281.length co54, .int .i64 t284, .int .i64 t285, .slice Ao55 t286.length co55] 51 (0, 0)) (by (with_reducible repeat (first | refine blk_drewN ?_ _ | refine blk_drew ?_ | refine blk_alloc ?_ _)); exact BK290.out) hb); have n6_ := Aside0.mk (below_step (by repeat (first | (with_reducible first | exact HB.out | apply below_alloc | apply pw_below_drewN | apply below_drew1 | refine below_set ?_ GE264.out | refine below_set ?_ GE290.out) | exact HB.out)) hb); clear HO_265002; clear HO_265005; clear HO_291002; clear HO_291005; clear BK264; clear BK290; clear HB; have HO_265002 := n0_; have HO_265005 := n1_; have HO_291002 := n2_; have HO_291005 := n3_; have BK264 := n4_; have BK290 := n5_; have HB := n6_; clear n0_ n1_ n2_ n3_ n4_ n5_ n6_; (try clear hb); (try clear hb2); (try clear hk); (try clear hi)))
                                                  go_ret
                                                  exact ⟨by first | rfl | (simp [errW_none, errW_some] <;> rfl) | (simp [*, errW_none, errW_some] <;> rfl), by repeat (first | (with_reducible first | exact HB.out | apply below_alloc | apply pw_below_drewN | apply below_drew1 | refine below_set ?_ GE264.out | refine below_set ?_ GE290.out) | exact HB.out)⟩
                                                · rw [if_neg c100] at H
                                                  have c100b0 : (t289 == x7_78) = false := beq_eq_false_iff_ne.mpr c100
                                                  have c100b1 : (t289 != x7_78) = true := bne_iff_ne.mpr c100
                                                  obtain rfl := Option.some.inj H
                                                  go_wp2
                                                  go_ret
                                                  exact ⟨by first | rfl | (simp [errW_none, errW_some] <;> rfl) | (simp [*, errW_none, errW_some] <;> rfl), by repeat (first | (with_reducible first | exact HB.out | apply below_alloc | apply pw_below_drewN | apply below_drew1 | refine below_set ?_ GE264.out | refine below_set ?_ GE290.out) | exact HB.out)⟩
  · replace c5 := Bool.eq_false_iff.mpr c5
    subst c5
    have H1 : (some false) = some r := by rw [if_neg (show ¬ (false = true) by decide)] at H; exact H
    clear H
    have H := H1
    clear H1
    obtain rfl := Option.some.inj H
    go_enter Try.func8, Try.ntmps8
    go_wp2_with (first | ((with_reducible refine gate_dst (N := 3) rfl ?_); (try (refine gate_guard (by rfl) ?_; dsimp only)); refine box_event ?hg (N := 3) ?hd (cs := #[.int .u32 a0_0, .int .i64 a0_1, .slice A0_2 l0_2.length c0_2, .int .i64 a0_3, .int .i64 a0_4, .slice A0_5 l0_5.length c0_5]) (t := 51) ?hr ?_; (case hd => rfl); (case hg => rfl); (case hr => first | (go_simp; done) | (go_simp; rfl)); intro gb264 hg w105 hbox hb; have n0_ := Aside0.mk (below_step (by repeat (first | (with_reducible first | exact HB.out | apply below_alloc | apply pw_below_drewN | apply below_drew1) | exact HB.out)) hb); have n1_ := Aside0.mk (hbox); have n2_ := Aside0.mk ((by rw [hg]; exact (below_size (by repeat (first | (with_reducible first | exact HB.out | apply below_alloc | apply pw_below_drewN | apply below_drew1) | exact HB.out))) : w.heap.size ≤ gb264)); have n3_ := Aside0.mk ((by rw [hg]; exact (below_size (by repeat (first | (with_reducible first | exact HB.out | apply below_alloc | apply pw_below_drewN | apply below_drew1) | exact HB.out))) : w.heap.size ≤ gb264)); clear HB; have HB := n0_; have BK264 := n1_; have GW264 := n2_; have GE264 := n3_; clear n0_ n1_ n2_ n3_; clear hb hbox hg) | ((with_reducible refine gate_callee (f := 26) rfl ?_); refine goesL_ (some 17) rfl rfl Try.func26 (by kernel_rfl) rfl #[] rfl (by (try simp only [List.map_toArray, List.map_cons, List.map_nil]); first | done | rfl | (simp only [List.length_drop, List.length_take]; rfl)) ?_; (with_reducible refine (patchbaylaw2_pathLives.calls k  false _ A4.out).mono ?_); rintro e w106 ⟨rfl, hb⟩; refine ⟨_, rfl, ?_⟩; have n0_ := Aside0.mk (blk_below (g := gb264) (o := .cells #[.int .u32 a0_0, .int .i64 a0_1, .slice A0_2 l0_2.length c0_2, .int .i64 a0_3, .int .i64 a0_4, .slice A0_5 l0_5.length c0_5] 51 (0, 0)) (by (with_reducible repeat (first | refine blk_drewN ?_ _ | refine blk_drew ?_ | refine blk_alloc ?_ _)); exact BK264.out) hb); have n1_ := Aside0.mk (below_step (by repeat (first | (with_reducible first | exact HB.out | apply below_alloc | apply pw_below_drewN | apply below_drew1 | refine below_set ?_ GE264.out) | exact HB.out)) hb); clear BK264; clear HB; have BK264 := n0_; have HB := n1_; clear n0_ n1_; (try clear hb); (try clear hb2); (try clear hk); (try clear hi)))
    go_ret
    exact ⟨by first | rfl | (simp [errW_none, errW_some] <;> rfl) | (simp [*, errW_none, errW_some] <;> rfl), by repeat (first | (with_reducible first | exact HB.out | apply below_alloc | apply pw_below_drewN | apply below_drew1 | refine below_set ?_ GE264.out) | exact HB.out)⟩

end Go.Proofs.Ythifgakeababmaa.Pr
