-- Written by this session's own program (wip/myprint.py) out of the translation.
import Derived.Test.YthifgakeababmaaPr0
import Derived.Test.YthifgakeababmaaPrSome
import Derived.Test.YthifgakeababmaaPrPath
import Derived.Test.YthifgakeababmaaPrLawPathLives
import Derived.Test.YthifgakeababmaaPrRefPath
import Derived.Test.YthifgakeababmaaPrRefSamePath
import Derived.Test.YthifgakeababmaaPrRefPathText
import Derived.Test.YthifgakeababmaaPrPathPre
namespace Go.Proofs.Ythifgakeababmaa.Pr
open Go.RowKit Go.Proofs.YthifgakeababmaaW.PrintWords Go.Proofs.YthifgakeababmaaW.PrintLast Go.Proofs.YthifgakeababmaaW.PrintMore
attribute [local go_sem] max2_int min2_int max_two min_two max_three min_three max_four min_four   -- for this text's walks alone
set_option linter.unusedVariables false
set_option linter.unusedSimpArgs false

/-! ### patchbaylaw2_PathEncodes: function 8 -/
mutual
def patchbaylaw2_PathEncodes.j0 : Nat → Int → Int → Int → Bool → Int → Int → List Int → Int → Int → List Int → Option (Bool)
  | 0, _, _, _, _, _, _, _, _, _, _ => none
  | k + 1, x1, x2, x7, x60, x265000, x265001, x265002, x265003, x265004, x265005 => if x60 = true then (some false) else ((path_Loop.f k x265000 x265001 x265002 x265003 x265004 x265005 x1).bind fun bt277 => ((path_Prepend.f k x265000 x265001 x265002 x265003 x265004 x265005 x1 x2).bind fun bt279 => (if x7 = 0 then (if x1 < 1 then (patchbaylaw2_PathEncodes.j1 k x1 x2 x7 bt277.2 bt277.1 bt279.2.2.2.2.2.2 true x265000 x265001 x265002 x265003 x265004 x265005 bt279.1 bt279.2.1 bt279.2.2.1 bt279.2.2.2.1 bt279.2.2.2.2.1 bt279.2.2.2.2.2.1) else (patchbaylaw2_PathEncodes.j1 k x1 x2 x7 bt277.2 bt277.1 bt279.2.2.2.2.2.2 (decide (x1 > 65535)) x265000 x265001 x265002 x265003 x265004 x265005 bt279.1 bt279.2.1 bt279.2.2.1 bt279.2.2.2.1 bt279.2.2.2.2.1 bt279.2.2.2.2.2.1)) else (patchbaylaw2_PathEncodes.j1 k x1 x2 x7 bt277.2 bt277.1 bt279.2.2.2.2.2.2 false x265000 x265001 x265002 x265003 x265004 x265005 bt279.1 bt279.2.1 bt279.2.2.1 bt279.2.2.2.1 bt279.2.2.2.2.1 bt279.2.2.2.2.2.1))))
def patchbaylaw2_PathEncodes.j1 : Nat → Int → Int → Int → Int → Bool → Int → Bool → Int → Int → List Int → Int → Int → List Int → Int → Int → List Int → Int → Int → List Int → Option (Bool)
  | 0, _, _, _, _, _, _, _, _, _, _, _, _, _, _, _, _, _, _, _ => none
  | k + 1, x1, x2, x7, x9, x10, x12, x83, x265000, x265001, x265002, x265003, x265004, x265005, x291000, x291001, x291002, x291003, x291004, x291005 => if x83 = true then (patchbaylaw2_PathEncodes.j2 k x1 x2 10 x9 x10 x12 x265000 x265001 x265002 x265003 x265004 x265005 x291000 x291001 x291002 x291003 x291004 x291005) else (patchbaylaw2_PathEncodes.j2 k x1 x2 x7 x9 x10 x12 x265000 x265001 x265002 x265003 x265004 x265005 x291000 x291001 x291002 x291003 x291004 x291005)
def patchbaylaw2_PathEncodes.j2 : Nat → Int → Int → Int → Int → Bool → Int → Int → Int → List Int → Int → Int → List Int → Int → Int → List Int → Int → Int → List Int → Option (Bool)
  | 0, _, _, _, _, _, _, _, _, _, _, _, _, _, _, _, _, _, _ => none
  | k + 1, x1, x2, x7, x9, x10, x12, x265000, x265001, x265002, x265003, x265004, x265005, x291000, x291001, x291002, x291003, x291004, x291005 => patchbaylaw2_PathEncodes.l0 k x1 x2 x7 x9 x10 x12 false x265002 (x265002.length : Int) 0 x265000 x265001 x265002 x265003 x265004 x265005 x291000 x291001 x291002 x291003 x291004 x291005
def patchbaylaw2_PathEncodes.l0 : Nat → Int → Int → Int → Int → Bool → Int → Bool → List Int → Int → Int → Int → Int → List Int → Int → Int → List Int → Int → Int → List Int → Int → Int → List Int → Option (Bool)
  | 0, _, _, _, _, _, _, _, _, _, _, _, _, _, _, _, _, _, _, _, _, _, _ => none
  | k + 1, x1, x2, x7, x9, x10, x12, x13, x85, x86, x87, x265000, x265001, x265002, x265003, x265004, x265005, x291000, x291001, x291002, x291003, x291004, x291005 => if x87 < x86 then (if 0 ≤ x87 then (if x87 < (x85.length : Int) then (if x13 = true then (patchbaylaw2_PathEncodes.l0 k x1 x2 x7 x9 x10 x12 true x85 x86 (wrap64 (x87 + 1)) x265000 x265001 x265002 x265003 x265004 x265005 x291000 x291001 x291002 x291003 x291004 x291005) else (patchbaylaw2_PathEncodes.l0 k x1 x2 x7 x9 x10 x12 ((rd x85 x87) == x1) x85 x86 (wrap64 (x87 + 1)) x265000 x265001 x265002 x265003 x265004 x265005 x291000 x291001 x291002 x291003 x291004 x291005)) else (none)) else (none)) else (if x9 = x7 then (if x7 = 0 then (patchbaylaw2_PathEncodes.j4 k x1 x2 x7 x12 (x10 != x13) x265000 x265001 x265002 x265003 x265004 x265005 x291000 x291001 x291002 x291003 x291004 x291005) else (patchbaylaw2_PathEncodes.j4 k x1 x2 x7 x12 (x10 != false) x265000 x265001 x265002 x265003 x265004 x265005 x291000 x291001 x291002 x291003 x291004 x291005)) else (patchbaylaw2_PathEncodes.j4 k x1 x2 x7 x12 true x265000 x265001 x265002 x265003 x265004 x265005 x291000 x291001 x291002 x291003 x291004 x291005))
def patchbaylaw2_PathEncodes.j4 : Nat → Int → Int → Int → Int → Bool → Int → Int → List Int → Int → Int → List Int → Int → Int → List Int → Int → Int → List Int → Option (Bool)
  | 0, _, _, _, _, _, _, _, _, _, _, _, _, _, _, _, _, _ => none
  | k + 1, x1, x2, x7, x12, x109, x265000, x265001, x265002, x265003, x265004, x265005, x291000, x291001, x291002, x291003, x291004, x291005 => if x109 = true then (some false) else (if x7 = 0 then (if x2 < 0 then (patchbaylaw2_PathEncodes.j5 k x1 x2 x7 x12 true x265000 x265001 x265002 x265003 x265004 x265005 x291000 x291001 x291002 x291003 x291004 x291005) else (patchbaylaw2_PathEncodes.j5 k x1 x2 x7 x12 (decide (x2 > 32)) x265000 x265001 x265002 x265003 x265004 x265005 x291000 x291001 x291002 x291003 x291004 x291005)) else (patchbaylaw2_PathEncodes.j5 k x1 x2 x7 x12 false x265000 x265001 x265002 x265003 x265004 x265005 x291000 x291001 x291002 x291003 x291004 x291005))
def patchbaylaw2_PathEncodes.j5 : Nat → Int → Int → Int → Int → Bool → Int → Int → List Int → Int → Int → List Int → Int → Int → List Int → Int → Int → List Int → Option (Bool)
  | 0, _, _, _, _, _, _, _, _, _, _, _, _, _, _, _, _, _ => none
  | k + 1, x1, x2, x7, x12, x119, x265000, x265001, x265002, x265003, x265004, x265005, x291000, x291001, x291002, x291003, x291004, x291005 => if x119 = true then (patchbaylaw2_PathEncodes.j6 k x1 x2 10 x12 x265000 x265001 x265002 x265003 x265004 x265005 x291000 x291001 x291002 x291003 x291004 x291005) else (patchbaylaw2_PathEncodes.j6 k x1 x2 x7 x12 x265000 x265001 x265002 x265003 x265004 x265005 x291000 x291001 x291002 x291003 x291004 x291005)
def patchbaylaw2_PathEncodes.j6 : Nat → Int → Int → Int → Int → Int → Int → List Int → Int → Int → List Int → Int → Int → List Int → Int → Int → List Int → Option (Bool)
  | 0, _, _, _, _, _, _, _, _, _, _, _, _, _, _, _, _ => none
  | k + 1, x1, x2, x7, x12, x265000, x265001, x265002, x265003, x265004, x265005, x291000, x291001, x291002, x291003, x291004, x291005 => if x7 = 0 then (patchbaylaw2_PathEncodes.j7 k x1 x2 x7 x12 (decide ((wrap64 (x2 + (x265002.length : Int))) > 32)) x265000 x265001 x265002 x265003 x265004 x265005 x291000 x291001 x291002 x291003 x291004 x291005) else (patchbaylaw2_PathEncodes.j7 k x1 x2 x7 x12 false x265000 x265001 x265002 x265003 x265004 x265005 x291000 x291001 x291002 x291003 x291004 x291005)
def patchbaylaw2_PathEncodes.j7 : Nat → Int → Int → Int → Int → Bool → Int → Int → List Int → Int → Int → List Int → Int → Int → List Int → Int → Int → List Int → Option (Bool)
  | 0, _, _, _, _, _, _, _, _, _, _, _, _, _, _, _, _, _ => none
  | k + 1, x1, x2, x7, x12, x129, x265000, x265001, x265002, x265003, x265004, x265005, x291000, x291001, x291002, x291003, x291004, x291005 => if x129 = true then (patchbaylaw2_PathEncodes.j8 k x1 x2 2 x12 x265000 x265001 x265002 x265003 x265004 x265005 x291000 x291001 x291002 x291003 x291004 x291005) else (patchbaylaw2_PathEncodes.j8 k x1 x2 x7 x12 x265000 x265001 x265002 x265003 x265004 x265005 x291000 x291001 x291002 x291003 x291004 x291005)
def patchbaylaw2_PathEncodes.j8 : Nat → Int → Int → Int → Int → Int → Int → List Int → Int → Int → List Int → Int → Int → List Int → Int → Int → List Int → Option (Bool)
  | 0, _, _, _, _, _, _, _, _, _, _, _, _, _, _, _, _ => none
  | k + 1, x1, x2, x7, x12, x265000, x265001, x265002, x265003, x265004, x265005, x291000, x291001, x291002, x291003, x291004, x291005 => if x7 = 0 then (patchbaylaw2_PathEncodes.l1 k x1 x12 ([] : List Int) x2 0 x265000 x265001 x265002 x265003 x265004 x265005 x291000 x291001 x291002 x291003 x291004 x291005) else (if x12 = x7 then ((patchbayref2_SamePath.f k x291000 x291001 x291002 x291003 x291004 x291005 0 0 ([] : List Int) 0 0 ([] : List Int)).bind fun t292 => (some t292)) else (some false))
def patchbaylaw2_PathEncodes.l1 : Nat → Int → Int → List Int → Int → Int → Int → Int → List Int → Int → Int → List Int → Int → Int → List Int → Int → Int → List Int → Option (Bool)
  | 0, _, _, _, _, _, _, _, _, _, _, _, _, _, _, _, _, _ => none
  | k + 1, x1, x12, x16, x140, x141, x265000, x265001, x265002, x265003, x265004, x265005, x291000, x291001, x291002, x291003, x291004, x291005 => if x141 < x140 then (if x16.length < 17592186044416 then (patchbaylaw2_PathEncodes.l1 k x1 x12 (x16 ++ [x1]) x140 (wrap64 (x141 + 1)) x265000 x265001 x265002 x265003 x265004 x265005 x291000 x291001 x291002 x291003 x291004 x291005) else (none)) else (if x16.length + x265002.length < 17592186044416 then (if x12 = 0 then ((patchbayref2_SamePath.f k x265000 x265001 (x16 ++ x265002) x265003 x265004 x265005 x291000 x291001 x291002 x291003 x291004 x291005).bind fun t299 => (some t299)) else (some false)) else (none))
end
def patchbaylaw2_PathEncodes.f (k : Nat) (a0_0 : Int) (a0_1 : Int) (l0_2 : List Int) (a0_3 : Int) (a0_4 : Int) (l0_5 : List Int) (a1 : Int) (a2 : Int) : Option (Bool) := (patchbaylaw2_pathLives.f k).bind fun t265 => (if t265 = true then ((patchbaylaw2_some_int.f l0_2 34).bind fun t266 => ((patchbaylaw2_some_int.f l0_5 10).bind fun t269 => ((patchbayref2_PathFault.f k a0_0 a0_1 t266 a0_3 a0_4 t269).bind fun t272 => ((path_Encode.f k a0_0 a0_1 t266 a0_3 a0_4 t269).bind fun bt273 => ((path_Check.f k a0_0 a0_1 t266 a0_3 a0_4 t269).bind fun t275 => (if t275 = t272 then (if bt273.2 = t272 then (if t272 = 0 then ((patchbayref2_PathText.f k a0_0 a0_1 t266 a0_3 a0_4 t269).bind fun t276 => (patchbaylaw2_PathEncodes.j0 k a1 a2 t272 (bt273.1.toList != t276.toList) a0_0 a0_1 t266 a0_3 a0_4 t269)) else (if bt273.1.toList = ([] : List UInt8) then (patchbaylaw2_PathEncodes.j0 k a1 a2 t272 false a0_0 a0_1 t266 a0_3 a0_4 t269) else (patchbaylaw2_PathEncodes.j0 k a1 a2 t272 true a0_0 a0_1 t266 a0_3 a0_4 t269))) else (patchbaylaw2_PathEncodes.j0 k a1 a2 t272 true a0_0 a0_1 t266 a0_3 a0_4 t269)) else (patchbaylaw2_PathEncodes.j0 k a1 a2 t272 true a0_0 a0_1 t266 a0_3 a0_4 t269))))))) else (some false))
theorem patchbaylaw2_PathEncodes.mono_l : ∀ k, (∀ y0 y1 y2 y3 y4 y5 y6 y7 y8 y9, LeO (patchbaylaw2_PathEncodes.j0 k y0 y1 y2 y3 y4 y5 y6 y7 y8 y9) (patchbaylaw2_PathEncodes.j0 (k + 1) y0 y1 y2 y3 y4 y5 y6 y7 y8 y9)) ∧ (∀ y0 y1 y2 y3 y4 y5 y6 y7 y8 y9 y10 y11 y12 y13 y14 y15 y16 y17 y18, LeO (patchbaylaw2_PathEncodes.j1 k y0 y1 y2 y3 y4 y5 y6 y7 y8 y9 y10 y11 y12 y13 y14 y15 y16 y17 y18) (patchbaylaw2_PathEncodes.j1 (k + 1) y0 y1 y2 y3 y4 y5 y6 y7 y8 y9 y10 y11 y12 y13 y14 y15 y16 y17 y18)) ∧ (∀ y0 y1 y2 y3 y4 y5 y6 y7 y8 y9 y10 y11 y12 y13 y14 y15 y16 y17, LeO (patchbaylaw2_PathEncodes.j2 k y0 y1 y2 y3 y4 y5 y6 y7 y8 y9 y10 y11 y12 y13 y14 y15 y16 y17) (patchbaylaw2_PathEncodes.j2 (k + 1) y0 y1 y2 y3 y4 y5 y6 y7 y8 y9 y10 y11 y12 y13 y14 y15 y16 y17)) ∧ (∀ y0 y1 y2 y3 y4 y5 y6 y7 y8 y9 y10 y11 y12 y13 y14 y15 y16 y17 y18 y19 y20 y21, LeO (patchbaylaw2_PathEncodes.l0 k y0 y1 y2 y3 y4 y5 y6 y7 y8 y9 y10 y11 y12 y13 y14 y15 y16 y17 y18 y19 y20 y21) (patchbaylaw2_PathEncodes.l0 (k + 1) y0 y1 y2 y3 y4 y5 y6 y7 y8 y9 y10 y11 y12 y13 y14 y15 y16 y17 y18 y19 y20 y21)) ∧ (∀ y0 y1 y2 y3 y4 y5 y6 y7 y8 y9 y10 y11 y12 y13 y14 y15 y16, LeO (patchbaylaw2_PathEncodes.j4 k y0 y1 y2 y3 y4 y5 y6 y7 y8 y9 y10 y11 y12 y13 y14 y15 y16) (patchbaylaw2_PathEncodes.j4 (k + 1) y0 y1 y2 y3 y4 y5 y6 y7 y8 y9 y10 y11 y12 y13 y14 y15 y16)) ∧ (∀ y0 y1 y2 y3 y4 y5 y6 y7 y8 y9 y10 y11 y12 y13 y14 y15 y16, LeO (patchbaylaw2_PathEncodes.j5 k y0 y1 y2 y3 y4 y5 y6 y7 y8 y9 y10 y11 y12 y13 y14 y15 y16) (patchbaylaw2_PathEncodes.j5 (k + 1) y0 y1 y2 y3 y4 y5 y6 y7 y8 y9 y10 y11 y12 y13 y14 y15 y16)) ∧ (∀ y0 y1 y2 y3 y4 y5 y6 y7 y8 y9 y10 y11 y12 y13 y14 y15, LeO (patchbaylaw2_PathEncodes.j6 k y0 y1 y2 y3 y4 y5 y6 y7 y8 y9 y10 y11 y12 y13 y14 y15) (patchbaylaw2_PathEncodes.j6 (k + 1) y0 y1 y2 y3 y4 y5 y6 y7 y8 y9 y10 y11 y12 y13 y14 y15)) ∧ (∀ y0 y1 y2 y3 y4 y5 y6 y7 y8 y9 y10 y11 y12 y13 y14 y15 y16, LeO (patchbaylaw2_PathEncodes.j7 k y0 y1 y2 y3 y4 y5 y6 y7 y8 y9 y10 y11 y12 y13 y14 y15 y16) (patchbaylaw2_PathEncodes.j7 (k + 1) y0 y1 y2 y3 y4 y5 y6 y7 y8 y9 y10 y11 y12 y13 y14 y15 y16)) ∧ (∀ y0 y1 y2 y3 y4 y5 y6 y7 y8 y9 y10 y11 y12 y13 y14 y15, LeO (patchbaylaw2_PathEncodes.j8 k y0 y1 y2 y3 y4 y5 y6 y7 y8 y9 y10 y11 y12 y13 y14 y15) (patchbaylaw2_PathEncodes.j8 (k + 1) y0 y1 y2 y3 y4 y5 y6 y7 y8 y9 y10 y11 y12 y13 y14 y15)) ∧ (∀ y0 y1 y2 y3 y4 y5 y6 y7 y8 y9 y10 y11 y12 y13 y14 y15 y16, LeO (patchbaylaw2_PathEncodes.l1 k y0 y1 y2 y3 y4 y5 y6 y7 y8 y9 y10 y11 y12 y13 y14 y15 y16) (patchbaylaw2_PathEncodes.l1 (k + 1) y0 y1 y2 y3 y4 y5 y6 y7 y8 y9 y10 y11 y12 y13 y14 y15 y16))
  | 0 => ⟨fun _ _ _ _ _ _ _ _ _ _ r h => by simp [patchbaylaw2_PathEncodes.j0] at h, fun _ _ _ _ _ _ _ _ _ _ _ _ _ _ _ _ _ _ _ r h => by simp [patchbaylaw2_PathEncodes.j1] at h, fun _ _ _ _ _ _ _ _ _ _ _ _ _ _ _ _ _ _ r h => by simp [patchbaylaw2_PathEncodes.j2] at h, fun _ _ _ _ _ _ _ _ _ _ _ _ _ _ _ _ _ _ _ _ _ _ r h => by simp [patchbaylaw2_PathEncodes.l0] at h, fun _ _ _ _ _ _ _ _ _ _ _ _ _ _ _ _ _ r h => by simp [patchbaylaw2_PathEncodes.j4] at h, fun _ _ _ _ _ _ _ _ _ _ _ _ _ _ _ _ _ r h => by simp [patchbaylaw2_PathEncodes.j5] at h, fun _ _ _ _ _ _ _ _ _ _ _ _ _ _ _ _ r h => by simp [patchbaylaw2_PathEncodes.j6] at h, fun _ _ _ _ _ _ _ _ _ _ _ _ _ _ _ _ _ r h => by simp [patchbaylaw2_PathEncodes.j7] at h, fun _ _ _ _ _ _ _ _ _ _ _ _ _ _ _ _ r h => by simp [patchbaylaw2_PathEncodes.j8] at h, fun _ _ _ _ _ _ _ _ _ _ _ _ _ _ _ _ _ r h => by simp [patchbaylaw2_PathEncodes.l1] at h⟩
  | k + 1 => by
    obtain ⟨ih0, ih1, ih2, ih3, ih4, ih5, ih6, ih7, ih8, ih9⟩ := patchbaylaw2_PathEncodes.mono_l k
    refine ⟨?_, ?_, ?_, ?_, ?_, ?_, ?_, ?_, ?_, ?_⟩
    · intro y0 y1 y2 y3 y4 y5 y6 y7 y8 y9
      unfold patchbaylaw2_PathEncodes.j0
      repeat' first
      | (with_reducible exact ih0 _ _ _ _ _ _ _ _ _ _)
      | (with_reducible exact ih1 _ _ _ _ _ _ _ _ _ _ _ _ _ _ _ _ _ _ _)
      | (with_reducible exact ih2 _ _ _ _ _ _ _ _ _ _ _ _ _ _ _ _ _ _)
      | (with_reducible exact ih3 _ _ _ _ _ _ _ _ _ _ _ _ _ _ _ _ _ _ _ _ _ _)
      | (with_reducible exact ih4 _ _ _ _ _ _ _ _ _ _ _ _ _ _ _ _ _)
      | (with_reducible exact ih5 _ _ _ _ _ _ _ _ _ _ _ _ _ _ _ _ _)
      | (with_reducible exact ih6 _ _ _ _ _ _ _ _ _ _ _ _ _ _ _ _)
      | (with_reducible exact ih7 _ _ _ _ _ _ _ _ _ _ _ _ _ _ _ _ _)
      | (with_reducible exact ih8 _ _ _ _ _ _ _ _ _ _ _ _ _ _ _ _)
      | (with_reducible exact ih9 _ _ _ _ _ _ _ _ _ _ _ _ _ _ _ _ _)
      | (with_reducible exact patchbaylaw2_pathLives.mono _)
      | (with_reducible exact patchbayref2_PathFault.mono _ _ _ _ _ _ _)
      | (with_reducible exact patchbayref2_PathText.mono _ _ _ _ _ _ _)
      | (with_reducible exact patchbayref2_SamePath.mono _ _ _ _ _ _ _ _ _ _ _ _ _)
      | (with_reducible exact path_Check.mono _ _ _ _ _ _ _)
      | (with_reducible exact path_Encode.mono _ _ _ _ _ _ _)
      | (with_reducible exact path_Loop.mono _ _ _ _ _ _ _ _)
      | (with_reducible exact path_Prepend.mono _ _ _ _ _ _ _ _ _)
      | (with_reducible exact LeO.refl _)
      | (with_reducible exact LeO.none _)
      | (with_reducible refine LeO.ite ?_ ?_)
      | (with_reducible refine LeO.bind ?_ (fun _ => ?_))
      | exact ih0 _ _ _ _ _ _ _ _ _ _
      | exact ih1 _ _ _ _ _ _ _ _ _ _ _ _ _ _ _ _ _ _ _
      | exact ih2 _ _ _ _ _ _ _ _ _ _ _ _ _ _ _ _ _ _
      | exact ih3 _ _ _ _ _ _ _ _ _ _ _ _ _ _ _ _ _ _ _ _ _ _
      | exact ih4 _ _ _ _ _ _ _ _ _ _ _ _ _ _ _ _ _
      | exact ih5 _ _ _ _ _ _ _ _ _ _ _ _ _ _ _ _ _
      | exact ih6 _ _ _ _ _ _ _ _ _ _ _ _ _ _ _ _
      | exact ih7 _ _ _ _ _ _ _ _ _ _ _ _ _ _ _ _ _
      | exact ih8 _ _ _ _ _ _ _ _ _ _ _ _ _ _ _ _
      | exact ih9 _ _ _ _ _ _ _ _ _ _ _ _ _ _ _ _ _
      | exact patchbaylaw2_pathLives.mono _
      | exact patchbayref2_PathFault.mono _ _ _ _ _ _ _
      | exact patchbayref2_PathText.mono _ _ _ _ _ _ _
      | exact patchbayref2_SamePath.mono _ _ _ _ _ _ _ _ _ _ _ _ _
      | exact path_Check.mono _ _ _ _ _ _ _
      | exact path_Encode.mono _ _ _ _ _ _ _
      | exact path_Loop.mono _ _ _ _ _ _ _ _
      | exact path_Prepend.mono _ _ _ _ _ _ _ _ _
      | exact LeO.none _
      | refine LeO.ite ?_ ?_
      | refine LeO.bind ?_ (fun _ => ?_)
    · intro y0 y1 y2 y3 y4 y5 y6 y7 y8 y9 y10 y11 y12 y13 y14 y15 y16 y17 y18
      unfold patchbaylaw2_PathEncodes.j1
      repeat' first
      | (with_reducible exact ih0 _ _ _ _ _ _ _ _ _ _)
      | (with_reducible exact ih1 _ _ _ _ _ _ _ _ _ _ _ _ _ _ _ _ _ _ _)
      | (with_reducible exact ih2 _ _ _ _ _ _ _ _ _ _ _ _ _ _ _ _ _ _)
      | (with_reducible exact ih3 _ _ _ _ _ _ _ _ _ _ _ _ _ _ _ _ _ _ _ _ _ _)
      | (with_reducible exact ih4 _ _ _ _ _ _ _ _ _ _ _ _ _ _ _ _ _)
      | (with_reducible exact ih5 _ _ _ _ _ _ _ _ _ _ _ _ _ _ _ _ _)
      | (with_reducible exact ih6 _ _ _ _ _ _ _ _ _ _ _ _ _ _ _ _)
      | (with_reducible exact ih7 _ _ _ _ _ _ _ _ _ _ _ _ _ _ _ _ _)
      | (with_reducible exact ih8 _ _ _ _ _ _ _ _ _ _ _ _ _ _ _ _)
      | (with_reducible exact ih9 _ _ _ _ _ _ _ _ _ _ _ _ _ _ _ _ _)
      | (with_reducible exact patchbaylaw2_pathLives.mono _)
      | (with_reducible exact patchbayref2_PathFault.mono _ _ _ _ _ _ _)
      | (with_reducible exact patchbayref2_PathText.mono _ _ _ _ _ _ _)
      | (with_reducible exact patchbayref2_SamePath.mono _ _ _ _ _ _ _ _ _ _ _ _ _)
      | (with_reducible exact path_Check.mono _ _ _ _ _ _ _)
      | (with_reducible exact path_Encode.mono _ _ _ _ _ _ _)
      | (with_reducible exact path_Loop.mono _ _ _ _ _ _ _ _)
      | (with_reducible exact path_Prepend.mono _ _ _ _ _ _ _ _ _)
      | (with_reducible exact LeO.refl _)
      | (with_reducible exact LeO.none _)
      | (with_reducible refine LeO.ite ?_ ?_)
      | (with_reducible refine LeO.bind ?_ (fun _ => ?_))
      | exact ih0 _ _ _ _ _ _ _ _ _ _
      | exact ih1 _ _ _ _ _ _ _ _ _ _ _ _ _ _ _ _ _ _ _
      | exact ih2 _ _ _ _ _ _ _ _ _ _ _ _ _ _ _ _ _ _
      | exact ih3 _ _ _ _ _ _ _ _ _ _ _ _ _ _ _ _ _ _ _ _ _ _
      | exact ih4 _ _ _ _ _ _ _ _ _ _ _ _ _ _ _ _ _
      | exact ih5 _ _ _ _ _ _ _ _ _ _ _ _ _ _ _ _ _
      | exact ih6 _ _ _ _ _ _ _ _ _ _ _ _ _ _ _ _
      | exact ih7 _ _ _ _ _ _ _ _ _ _ _ _ _ _ _ _ _
      | exact ih8 _ _ _ _ _ _ _ _ _ _ _ _ _ _ _ _
      | exact ih9 _ _ _ _ _ _ _ _ _ _ _ _ _ _ _ _ _
      | exact patchbaylaw2_pathLives.mono _
      | exact patchbayref2_PathFault.mono _ _ _ _ _ _ _
      | exact patchbayref2_PathText.mono _ _ _ _ _ _ _
      | exact patchbayref2_SamePath.mono _ _ _ _ _ _ _ _ _ _ _ _ _
      | exact path_Check.mono _ _ _ _ _ _ _
      | exact path_Encode.mono _ _ _ _ _ _ _
      | exact path_Loop.mono _ _ _ _ _ _ _ _
      | exact path_Prepend.mono _ _ _ _ _ _ _ _ _
      | exact LeO.none _
      | refine LeO.ite ?_ ?_
      | refine LeO.bind ?_ (fun _ => ?_)
    · intro y0 y1 y2 y3 y4 y5 y6 y7 y8 y9 y10 y11 y12 y13 y14 y15 y16 y17
      unfold patchbaylaw2_PathEncodes.j2
      repeat' first
      | (with_reducible exact ih0 _ _ _ _ _ _ _ _ _ _)
      | (with_reducible exact ih1 _ _ _ _ _ _ _ _ _ _ _ _ _ _ _ _ _ _ _)
      | (with_reducible exact ih2 _ _ _ _ _ _ _ _ _ _ _ _ _ _ _ _ _ _)
      | (with_reducible exact ih3 _ _ _ _ _ _ _ _ _ _ _ _ _ _ _ _ _ _ _ _ _ _)
      | (with_reducible exact ih4 _ _ _ _ _ _ _ _ _ _ _ _ _ _ _ _ _)
      | (with_reducible exact ih5 _ _ _ _ _ _ _ _ _ _ _ _ _ _ _ _ _)
      | (with_reducible exact ih6 _ _ _ _ _ _ _ _ _ _ _ _ _ _ _ _)
      | (with_reducible exact ih7 _ _ _ _ _ _ _ _ _ _ _ _ _ _ _ _ _)
      | (with_reducible exact ih8 _ _ _ _ _ _ _ _ _ _ _ _ _ _ _ _)
      | (with_reducible exact ih9 _ _ _ _ _ _ _ _ _ _ _ _ _ _ _ _ _)
      | (with_reducible exact patchbaylaw2_pathLives.mono _)
      | (with_reducible exact patchbayref2_PathFault.mono _ _ _ _ _ _ _)
      | (with_reducible exact patchbayref2_PathText.mono _ _ _ _ _ _ _)
      | (with_reducible exact patchbayref2_SamePath.mono _ _ _ _ _ _ _ _ _ _ _ _ _)
      | (with_reducible exact path_Check.mono _ _ _ _ _ _ _)
      | (with_reducible exact path_Encode.mono _ _ _ _ _ _ _)
      | (with_reducible exact path_Loop.mono _ _ _ _ _ _ _ _)
      | (with_reducible exact path_Prepend.mono _ _ _ _ _ _ _ _ _)
      | (with_reducible exact LeO.refl _)
      | (with_reducible exact LeO.none _)
      | (with_reducible refine LeO.ite ?_ ?_)
      | (with_reducible refine LeO.bind ?_ (fun _ => ?_))
      | exact ih0 _ _ _ _ _ _ _ _ _ _
      | exact ih1 _ _ _ _ _ _ _ _ _ _ _ _ _ _ _ _ _ _ _
      | exact ih2 _ _ _ _ _ _ _ _ _ _ _ _ _ _ _ _ _ _
      | exact ih3 _ _ _ _ _ _ _ _ _ _ _ _ _ _ _ _ _ _ _ _ _ _
      | exact ih4 _ _ _ _ _ _ _ _ _ _ _ _ _ _ _ _ _
      | exact ih5 _ _ _ _ _ _ _ _ _ _ _ _ _ _ _ _ _
      | exact ih6 _ _ _ _ _ _ _ _ _ _ _ _ _ _ _ _
      | exact ih7 _ _ _ _ _ _ _ _ _ _ _ _ _ _ _ _ _
      | exact ih8 _ _ _ _ _ _ _ _ _ _ _ _ _ _ _ _
      | exact ih9 _ _ _ _ _ _ _ _ _ _ _ _ _ _ _ _ _
      | exact patchbaylaw2_pathLives.mono _
      | exact patchbayref2_PathFault.mono _ _ _ _ _ _ _
      | exact patchbayref2_PathText.mono _ _ _ _ _ _ _
      | exact patchbayref2_SamePath.mono _ _ _ _ _ _ _ _ _ _ _ _ _
      | exact path_Check.mono _ _ _ _ _ _ _
      | exact path_Encode.mono _ _ _ _ _ _ _
      | exact path_Loop.mono _ _ _ _ _ _ _ _
      | exact path_Prepend.mono _ _ _ _ _ _ _ _ _
      | exact LeO.none _
      | refine LeO.ite ?_ ?_
      | refine LeO.bind ?_ (fun _ => ?_)
    · intro y0 y1 y2 y3 y4 y5 y6 y7 y8 y9 y10 y11 y12 y13 y14 y15 y16 y17 y18 y19 y20 y21
      unfold patchbaylaw2_PathEncodes.l0
      repeat' first
      | (with_reducible exact ih0 _ _ _ _ _ _ _ _ _ _)
      | (with_reducible exact ih1 _ _ _ _ _ _ _ _ _ _ _ _ _ _ _ _ _ _ _)
      | (with_reducible exact ih2 _ _ _ _ _ _ _ _ _ _ _ _ _ _ _ _ _ _)
      | (with_reducible exact ih3 _ _ _ _ _ _ _ _ _ _ _ _ _ _ _ _ _ _ _ _ _ _)
      | (with_reducible exact ih4 _ _ _ _ _ _ _ _ _ _ _ _ _ _ _ _ _)
      | (with_reducible exact ih5 _ _ _ _ _ _ _ _ _ _ _ _ _ _ _ _ _)
      | (with_reducible exact ih6 _ _ _ _ _ _ _ _ _ _ _ _ _ _ _ _)
      | (with_reducible exact ih7 _ _ _ _ _ _ _ _ _ _ _ _ _ _ _ _ _)
      | (with_reducible exact ih8 _ _ _ _ _ _ _ _ _ _ _ _ _ _ _ _)
      | (with_reducible exact ih9 _ _ _ _ _ _ _ _ _ _ _ _ _ _ _ _ _)
      | (with_reducible exact patchbaylaw2_pathLives.mono _)
      | (with_reducible exact patchbayref2_PathFault.mono _ _ _ _ _ _ _)
      | (with_reducible exact patchbayref2_PathText.mono _ _ _ _ _ _ _)
      | (with_reducible exact patchbayref2_SamePath.mono _ _ _ _ _ _ _ _ _ _ _ _ _)
      | (with_reducible exact path_Check.mono _ _ _ _ _ _ _)
      | (with_reducible exact path_Encode.mono _ _ _ _ _ _ _)
      | (with_reducible exact path_Loop.mono _ _ _ _ _ _ _ _)
      | (with_reducible exact path_Prepend.mono _ _ _ _ _ _ _ _ _)
      | (with_reducible exact LeO.refl _)
      | (with_reducible exact LeO.none _)
      | (with_reducible refine LeO.ite ?_ ?_)
      | (with_reducible refine LeO.bind ?_ (fun _ => ?_))
      | exact ih0 _ _ _ _ _ _ _ _ _ _
      | exact ih1 _ _ _ _ _ _ _ _ _ _ _ _ _ _ _ _ _ _ _
      | exact ih2 _ _ _ _ _ _ _ _ _ _ _ _ _ _ _ _ _ _
      | exact ih3 _ _ _ _ _ _ _ _ _ _ _ _ _ _ _ _ _ _ _ _ _ _
      | exact ih4 _ _ _ _ _ _ _ _ _ _ _ _ _ _ _ _ _
      | exact ih5 _ _ _ _ _ _ _ _ _ _ _ _ _ _ _ _ _
      | exact ih6 _ _ _ _ _ _ _ _ _ _ _ _ _ _ _ _
      | exact ih7 _ _ _ _ _ _ _ _ _ _ _ _ _ _ _ _ _
      | exact ih8 _ _ _ _ _ _ _ _ _ _ _ _ _ _ _ _
      | exact ih9 _ _ _ _ _ _ _ _ _ _ _ _ _ _ _ _ _
      | exact patchbaylaw2_pathLives.mono _
      | exact patchbayref2_PathFault.mono _ _ _ _ _ _ _
      | exact patchbayref2_PathText.mono _ _ _ _ _ _ _
      | exact patchbayref2_SamePath.mono _ _ _ _ _ _ _ _ _ _ _ _ _
      | exact path_Check.mono _ _ _ _ _ _ _
      | exact path_Encode.mono _ _ _ _ _ _ _
      | exact path_Loop.mono _ _ _ _ _ _ _ _
      | exact path_Prepend.mono _ _ _ _ _ _ _ _ _
      | exact LeO.none _
      | refine LeO.ite ?_ ?_
      | refine LeO.bind ?_ (fun _ => ?_)
    · intro y0 y1 y2 y3 y4 y5 y6 y7 y8 y9 y10 y11 y12 y13 y14 y15 y16
      unfold patchbaylaw2_PathEncodes.j4
      repeat' first
      | (with_reducible exact ih0 _ _ _ _ _ _ _ _ _ _)
      | (with_reducible exact ih1 _ _ _ _ _ _ _ _ _ _ _ _ _ _ _ _ _ _ _)
      | (with_reducible exact ih2 _ _ _ _ _ _ _ _ _ _ _ _ _ _ _ _ _ _)
      | (with_reducible exact ih3 _ _ _ _ _ _ _ _ _ _ _ _ _ _ _ _ _ _ _ _ _ _)
      | (with_reducible exact ih4 _ _ _ _ _ _ _ _ _ _ _ _ _ _ _ _ _)
      | (with_reducible exact ih5 _ _ _ _ _ _ _ _ _ _ _ _ _ _ _ _ _)
      | (with_reducible exact ih6 _ _ _ _ _ _ _ _ _ _ _ _ _ _ _ _)
      | (with_reducible exact ih7 _ _ _ _ _ _ _ _ _ _ _ _ _ _ _ _ _)
      | (with_reducible exact ih8 _ _ _ _ _ _ _ _ _ _ _ _ _ _ _ _)
      | (with_reducible exact ih9 _ _ _ _ _ _ _ _ _ _ _ _ _ _ _ _ _)
      | (with_reducible exact patchbaylaw2_pathLives.mono _)
      | (with_reducible exact patchbayref2_PathFault.mono _ _ _ _ _ _ _)
      | (with_reducible exact patchbayref2_PathText.mono _ _ _ _ _ _ _)
      | (with_reducible exact patchbayref2_SamePath.mono _ _ _ _ _ _ _ _ _ _ _ _ _)
      | (with_reducible exact path_Check.mono _ _ _ _ _ _ _)
      | (with_reducible exact path_Encode.mono _ _ _ _ _ _ _)
      | (with_reducible exact path_Loop.mono _ _ _ _ _ _ _ _)
      | (with_reducible exact path_Prepend.mono _ _ _ _ _ _ _ _ _)
      | (with_reducible exact LeO.refl _)
      | (with_reducible exact LeO.none _)
      | (with_reducible refine LeO.ite ?_ ?_)
      | (with_reducible refine LeO.bind ?_ (fun _ => ?_))
      | exact ih0 _ _ _ _ _ _ _ _ _ _
      | exact ih1 _ _ _ _ _ _ _ _ _ _ _ _ _ _ _ _ _ _ _
      | exact ih2 _ _ _ _ _ _ _ _ _ _ _ _ _ _ _ _ _ _
      | exact ih3 _ _ _ _ _ _ _ _ _ _ _ _ _ _ _ _ _ _ _ _ _ _
      | exact ih4 _ _ _ _ _ _ _ _ _ _ _ _ _ _ _ _ _
      | exact ih5 _ _ _ _ _ _ _ _ _ _ _ _ _ _ _ _ _
      | exact ih6 _ _ _ _ _ _ _ _ _ _ _ _ _ _ _ _
      | exact ih7 _ _ _ _ _ _ _ _ _ _ _ _ _ _ _ _ _
      | exact ih8 _ _ _ _ _ _ _ _ _ _ _ _ _ _ _ _
      | exact ih9 _ _ _ _ _ _ _ _ _ _ _ _ _ _ _ _ _
      | exact patchbaylaw2_pathLives.mono _
      | exact patchbayref2_PathFault.mono _ _ _ _ _ _ _
      | exact patchbayref2_PathText.mono _ _ _ _ _ _ _
      | exact patchbayref2_SamePath.mono _ _ _ _ _ _ _ _ _ _ _ _ _
      | exact path_Check.mono _ _ _ _ _ _ _
      | exact path_Encode.mono _ _ _ _ _ _ _
      | exact path_Loop.mono _ _ _ _ _ _ _ _
      | exact path_Prepend.mono _ _ _ _ _ _ _ _ _
      | exact LeO.none _
      | refine LeO.ite ?_ ?_
      | refine LeO.bind ?_ (fun _ => ?_)
    · intro y0 y1 y2 y3 y4 y5 y6 y7 y8 y9 y10 y11 y12 y13 y14 y15 y16
      unfold patchbaylaw2_PathEncodes.j5
      repeat' first
      | (with_reducible exact ih0 _ _ _ _ _ _ _ _ _ _)
      | (with_reducible exact ih1 _ _ _ _ _ _ _ _ _ _ _ _ _ _ _ _ _ _ _)
      | (with_reducible exact ih2 _ _ _ _ _ _ _ _ _ _ _ _ _ _ _ _ _ _)
      | (with_reducible exact ih3 _ _ _ _ _ _ _ _ _ _ _ _ _ _ _ _ _ _ _ _ _ _)
      | (with_reducible exact ih4 _ _ _ _ _ _ _ _ _ _ _ _ _ _ _ _ _)
      | (with_reducible exact ih5 _ _ _ _ _ _ _ _ _ _ _ _ _ _ _ _ _)
      | (with_reducible exact ih6 _ _ _ _ _ _ _ _ _ _ _ _ _ _ _ _)
      | (with_reducible exact ih7 _ _ _ _ _ _ _ _ _ _ _ _ _ _ _ _ _)
      | (with_reducible exact ih8 _ _ _ _ _ _ _ _ _ _ _ _ _ _ _ _)
      | (with_reducible exact ih9 _ _ _ _ _ _ _ _ _ _ _ _ _ _ _ _ _)
      | (with_reducible exact patchbaylaw2_pathLives.mono _)
      | (with_reducible exact patchbayref2_PathFault.mono _ _ _ _ _ _ _)
      | (with_reducible exact patchbayref2_PathText.mono _ _ _ _ _ _ _)
      | (with_reducible exact patchbayref2_SamePath.mono _ _ _ _ _ _ _ _ _ _ _ _ _)
      | (with_reducible exact path_Check.mono _ _ _ _ _ _ _)
      | (with_reducible exact path_Encode.mono _ _ _ _ _ _ _)
      | (with_reducible exact path_Loop.mono _ _ _ _ _ _ _ _)
      | (with_reducible exact path_Prepend.mono _ _ _ _ _ _ _ _ _)
      | (with_reducible exact LeO.refl _)
      | (with_reducible exact LeO.none _)
      | (with_reducible refine LeO.ite ?_ ?_)
      | (with_reducible refine LeO.bind ?_ (fun _ => ?_))
      | exact ih0 _ _ _ _ _ _ _ _ _ _
      | exact ih1 _ _ _ _ _ _ _ _ _ _ _ _ _ _ _ _ _ _ _
      | exact ih2 _ _ _ _ _ _ _ _ _ _ _ _ _ _ _ _ _ _
      | exact ih3 _ _ _ _ _ _ _ _ _ _ _ _ _ _ _ _ _ _ _ _ _ _
      | exact ih4 _ _ _ _ _ _ _ _ _ _ _ _ _ _ _ _ _
      | exact ih5 _ _ _ _ _ _ _ _ _ _ _ _ _ _ _ _ _
      | exact ih6 _ _ _ _ _ _ _ _ _ _ _ _ _ _ _ _
      | exact ih7 _ _ _ _ _ _ _ _ _ _ _ _ _ _ _ _ _
      | exact ih8 _ _ _ _ _ _ _ _ _ _ _ _ _ _ _ _
      | exact ih9 _ _ _ _ _ _ _ _ _ _ _ _ _ _ _ _ _
      | exact patchbaylaw2_pathLives.mono _
      | exact patchbayref2_PathFault.mono _ _ _ _ _ _ _
      | exact patchbayref2_PathText.mono _ _ _ _ _ _ _
      | exact patchbayref2_SamePath.mono _ _ _ _ _ _ _ _ _ _ _ _ _
      | exact path_Check.mono _ _ _ _ _ _ _
      | exact path_Encode.mono _ _ _ _ _ _ _
      | exact path_Loop.mono _ _ _ _ _ _ _ _
      | exact path_Prepend.mono _ _ _ _ _ _ _ _ _
      | exact LeO.none _
      | refine LeO.ite ?_ ?_
      | refine LeO.bind ?_ (fun _ => ?_)
    · intro y0 y1 y2 y3 y4 y5 y6 y7 y8 y9 y10 y11 y12 y13 y14 y15
      unfold patchbaylaw2_PathEncodes.j6
      repeat' first
      | (with_reducible exact ih0 _ _ _ _ _ _ _ _ _ _)
      | (with_reducible exact ih1 _ _ _ _ _ _ _ _ _ _ _ _ _ _ _ _ _ _ _)
      | (with_reducible exact ih2 _ _ _ _ _ _ _ _ _ _ _ _ _ _ _ _ _ _)
      | (with_reducible exact ih3 _ _ _ _ _ _ _ _ _ _ _ _ _ _ _ _ _ _ _ _ _ _)
      | (with_reducible exact ih4 _ _ _ _ _ _ _ _ _ _ _ _ _ _ _ _ _)
      | (with_reducible exact ih5 _ _ _ _ _ _ _ _ _ _ _ _ _ _ _ _ _)
      | (with_reducible exact ih6 _ _ _ _ _ _ _ _ _ _ _ _ _ _ _ _)
      | (with_reducible exact ih7 _ _ _ _ _ _ _ _ _ _ _ _ _ _ _ _ _)
      | (with_reducible exact ih8 _ _ _ _ _ _ _ _ _ _ _ _ _ _ _ _)
      | (with_reducible exact ih9 _ _ _ _ _ _ _ _ _ _ _ _ _ _ _ _ _)
      | (with_reducible exact patchbaylaw2_pathLives.mono _)
      | (with_reducible exact patchbayref2_PathFault.mono _ _ _ _ _ _ _)
      | (with_reducible exact patchbayref2_PathText.mono _ _ _ _ _ _ _)
      | (with_reducible exact patchbayref2_SamePath.mono _ _ _ _ _ _ _ _ _ _ _ _ _)
      | (with_reducible exact path_Check.mono _ _ _ _ _ _ _)
      | (with_reducible exact path_Encode.mono _ _ _ _ _ _ _)
      | (with_reducible exact path_Loop.mono _ _ _ _ _ _ _ _)
      | (with_reducible exact path_Prepend.mono _ _ _ _ _ _ _ _ _)
      | (with_reducible exact LeO.refl _)
      | (with_reducible exact LeO.none _)
      | (with_reducible refine LeO.ite ?_ ?_)
      | (with_reducible refine LeO.bind ?_ (fun _ => ?_))
      | exact ih0 _ _ _ _ _ _ _ _ _ _
      | exact ih1 _ _ _ _ _ _ _ _ _ _ _ _ _ _ _ _ _ _ _
      | exact ih2 _ _ _ _ _ _ _ _ _ _ _ _ _ _ _ _ _ _
      | exact ih3 _ _ _ _ _ _ _ _ _ _ _ _ _ _ _ _ _ _ _ _ _ _
      | exact ih4 _ _ _ _ _ _ _ _ _ _ _ _ _ _ _ _ _
      | exact ih5 _ _ _ _ _ _ _ _ _ _ _ _ _ _ _ _ _
      | exact ih6 _ _ _ _ _ _ _ _ _ _ _ _ _ _ _ _
      | exact ih7 _ _ _ _ _ _ _ _ _ _ _ _ _ _ _ _ _
      | exact ih8 _ _ _ _ _ _ _ _ _ _ _ _ _ _ _ _
      | exact ih9 _ _ _ _ _ _ _ _ _ _ _ _ _ _ _ _ _
      | exact patchbaylaw2_pathLives.mono _
      | exact patchbayref2_PathFault.mono _ _ _ _ _ _ _
      | exact patchbayref2_PathText.mono _ _ _ _ _ _ _
      | exact patchbayref2_SamePath.mono _ _ _ _ _ _ _ _ _ _ _ _ _
      | exact path_Check.mono _ _ _ _ _ _ _
      | exact path_Encode.mono _ _ _ _ _ _ _
      | exact path_Loop.mono _ _ _ _ _ _ _ _
      | exact path_Prepend.mono _ _ _ _ _ _ _ _ _
      | exact LeO.none _
      | refine LeO.ite ?_ ?_
      | refine LeO.bind ?_ (fun _ => ?_)
    · intro y0 y1 y2 y3 y4 y5 y6 y7 y8 y9 y10 y11 y12 y13 y14 y15 y16
      unfold patchbaylaw2_PathEncodes.j7
      repeat' first
      | (with_reducible exact ih0 _ _ _ _ _ _ _ _ _ _)
      | (with_reducible exact ih1 _ _ _ _ _ _ _ _ _ _ _ _ _ _ _ _ _ _ _)
      | (with_reducible exact ih2 _ _ _ _ _ _ _ _ _ _ _ _ _ _ _ _ _ _)
      | (with_reducible exact ih3 _ _ _ _ _ _ _ _ _ _ _ _ _ _ _ _ _ _ _ _ _ _)
      | (with_reducible exact ih4 _ _ _ _ _ _ _ _ _ _ _ _ _ _ _ _ _)
      | (with_reducible exact ih5 _ _ _ _ _ _ _ _ _ _ _ _ _ _ _ _ _)
      | (with_reducible exact ih6 _ _ _ _ _ _ _ _ _ _ _ _ _ _ _ _)
      | (with_reducible exact ih7 _ _ _ _ _ _ _ _ _ _ _ _ _ _ _ _ _)
      | (with_reducible exact ih8 _ _ _ _ _ _ _ _ _ _ _ _ _ _ _ _)
      | (with_reducible exact ih9 _ _ _ _ _ _ _ _ _ _ _ _ _ _ _ _ _)
      | (with_reducible exact patchbaylaw2_pathLives.mono _)
      | (with_reducible exact patchbayref2_PathFault.mono _ _ _ _ _ _ _)
      | (with_reducible exact patchbayref2_PathText.mono _ _ _ _ _ _ _)
      | (with_reducible exact patchbayref2_SamePath.mono _ _ _ _ _ _ _ _ _ _ _ _ _)
      | (with_reducible exact path_Check.mono _ _ _ _ _ _ _)
      | (with_reducible exact path_Encode.mono _ _ _ _ _ _ _)
      | (with_reducible exact path_Loop.mono _ _ _ _ _ _ _ _)
      | (with_reducible exact path_Prepend.mono _ _ _ _ _ _ _ _ _)
      | (with_reducible exact LeO.refl _)
      | (with_reducible exact LeO.none _)
      | (with_reducible refine LeO.ite ?_ ?_)
      | (with_reducible refine LeO.bind ?_ (fun _ => ?_))
      | exact ih0 _ _ _ _ _ _ _ _ _ _
      | exact ih1 _ _ _ _ _ _ _ _ _ _ _ _ _ _ _ _ _ _ _
      | exact ih2 _ _ _ _ _ _ _ _ _ _ _ _ _ _ _ _ _ _
      | exact ih3 _ _ _ _ _ _ _ _ _ _ _ _ _ _ _ _ _ _ _ _ _ _
      | exact ih4 _ _ _ _ _ _ _ _ _ _ _ _ _ _ _ _ _
      | exact ih5 _ _ _ _ _ _ _ _ _ _ _ _ _ _ _ _ _
      | exact ih6 _ _ _ _ _ _ _ _ _ _ _ _ _ _ _ _
      | exact ih7 _ _ _ _ _ _ _ _ _ _ _ _ _ _ _ _ _
      | exact ih8 _ _ _ _ _ _ _ _ _ _ _ _ _ _ _ _
      | exact ih9 _ _ _ _ _ _ _ _ _ _ _ _ _ _ _ _ _
      | exact patchbaylaw2_pathLives.mono _
      | exact patchbayref2_PathFault.mono _ _ _ _ _ _ _
      | exact patchbayref2_PathText.mono _ _ _ _ _ _ _
      | exact patchbayref2_SamePath.mono _ _ _ _ _ _ _ _ _ _ _ _ _
      | exact path_Check.mono _ _ _ _ _ _ _
      | exact path_Encode.mono _ _ _ _ _ _ _
      | exact path_Loop.mono _ _ _ _ _ _ _ _
      | exact path_Prepend.mono _ _ _ _ _ _ _ _ _
      | exact LeO.none _
      | refine LeO.ite ?_ ?_
      | refine LeO.bind ?_ (fun _ => ?_)
    · intro y0 y1 y2 y3 y4 y5 y6 y7 y8 y9 y10 y11 y12 y13 y14 y15
      unfold patchbaylaw2_PathEncodes.j8
      repeat' first
      | (with_reducible exact ih0 _ _ _ _ _ _ _ _ _ _)
      | (with_reducible exact ih1 _ _ _ _ _ _ _ _ _ _ _ _ _ _ _ _ _ _ _)
      | (with_reducible exact ih2 _ _ _ _ _ _ _ _ _ _ _ _ _ _ _ _ _ _)
      | (with_reducible exact ih3 _ _ _ _ _ _ _ _ _ _ _ _ _ _ _ _ _ _ _ _ _ _)
      | (with_reducible exact ih4 _ _ _ _ _ _ _ _ _ _ _ _ _ _ _ _ _)
      | (with_reducible exact ih5 _ _ _ _ _ _ _ _ _ _ _ _ _ _ _ _ _)
      | (with_reducible exact ih6 _ _ _ _ _ _ _ _ _ _ _ _ _ _ _ _)
      | (with_reducible exact ih7 _ _ _ _ _ _ _ _ _ _ _ _ _ _ _ _ _)
      | (with_reducible exact ih8 _ _ _ _ _ _ _ _ _ _ _ _ _ _ _ _)
      | (with_reducible exact ih9 _ _ _ _ _ _ _ _ _ _ _ _ _ _ _ _ _)
      | (with_reducible exact patchbaylaw2_pathLives.mono _)
      | (with_reducible exact patchbayref2_PathFault.mono _ _ _ _ _ _ _)
      | (with_reducible exact patchbayref2_PathText.mono _ _ _ _ _ _ _)
      | (with_reducible exact patchbayref2_SamePath.mono _ _ _ _ _ _ _ _ _ _ _ _ _)
      | (with_reducible exact path_Check.mono _ _ _ _ _ _ _)
      | (with_reducible exact path_Encode.mono _ _ _ _ _ _ _)
      | (with_reducible exact path_Loop.mono _ _ _ _ _ _ _ _)
      | (with_reducible exact path_Prepend.mono _ _ _ _ _ _ _ _ _)
      | (with_reducible exact LeO.refl _)
      | (with_reducible exact LeO.none _)
      | (with_reducible refine LeO.ite ?_ ?_)
      | (with_reducible refine LeO.bind ?_ (fun _ => ?_))
      | exact ih0 _ _ _ _ _ _ _ _ _ _
      | exact ih1 _ _ _ _ _ _ _ _ _ _ _ _ _ _ _ _ _ _ _
      | exact ih2 _ _ _ _ _ _ _ _ _ _ _ _ _ _ _ _ _ _
      | exact ih3 _ _ _ _ _ _ _ _ _ _ _ _ _ _ _ _ _ _ _ _ _ _
      | exact ih4 _ _ _ _ _ _ _ _ _ _ _ _ _ _ _ _ _
      | exact ih5 _ _ _ _ _ _ _ _ _ _ _ _ _ _ _ _ _
      | exact ih6 _ _ _ _ _ _ _ _ _ _ _ _ _ _ _ _
      | exact ih7 _ _ _ _ _ _ _ _ _ _ _ _ _ _ _ _ _
      | exact ih8 _ _ _ _ _ _ _ _ _ _ _ _ _ _ _ _
      | exact ih9 _ _ _ _ _ _ _ _ _ _ _ _ _ _ _ _ _
      | exact patchbaylaw2_pathLives.mono _
      | exact patchbayref2_PathFault.mono _ _ _ _ _ _ _
      | exact patchbayref2_PathText.mono _ _ _ _ _ _ _
      | exact patchbayref2_SamePath.mono _ _ _ _ _ _ _ _ _ _ _ _ _
      | exact path_Check.mono _ _ _ _ _ _ _
      | exact path_Encode.mono _ _ _ _ _ _ _
      | exact path_Loop.mono _ _ _ _ _ _ _ _
      | exact path_Prepend.mono _ _ _ _ _ _ _ _ _
      | exact LeO.none _
      | refine LeO.ite ?_ ?_
      | refine LeO.bind ?_ (fun _ => ?_)
    · intro y0 y1 y2 y3 y4 y5 y6 y7 y8 y9 y10 y11 y12 y13 y14 y15 y16
      unfold patchbaylaw2_PathEncodes.l1
      repeat' first
      | (with_reducible exact ih0 _ _ _ _ _ _ _ _ _ _)
      | (with_reducible exact ih1 _ _ _ _ _ _ _ _ _ _ _ _ _ _ _ _ _ _ _)
      | (with_reducible exact ih2 _ _ _ _ _ _ _ _ _ _ _ _ _ _ _ _ _ _)
      | (with_reducible exact ih3 _ _ _ _ _ _ _ _ _ _ _ _ _ _ _ _ _ _ _ _ _ _)
      | (with_reducible exact ih4 _ _ _ _ _ _ _ _ _ _ _ _ _ _ _ _ _)
      | (with_reducible exact ih5 _ _ _ _ _ _ _ _ _ _ _ _ _ _ _ _ _)
      | (with_reducible exact ih6 _ _ _ _ _ _ _ _ _ _ _ _ _ _ _ _)
      | (with_reducible exact ih7 _ _ _ _ _ _ _ _ _ _ _ _ _ _ _ _ _)
      | (with_reducible exact ih8 _ _ _ _ _ _ _ _ _ _ _ _ _ _ _ _)
      | (with_reducible exact ih9 _ _ _ _ _ _ _ _ _ _ _ _ _ _ _ _ _)
      | (with_reducible exact patchbaylaw2_pathLives.mono _)
      | (with_reducible exact patchbayref2_PathFault.mono _ _ _ _ _ _ _)
      | (with_reducible exact patchbayref2_PathText.mono _ _ _ _ _ _ _)
      | (with_reducible exact patchbayref2_SamePath.mono _ _ _ _ _ _ _ _ _ _ _ _ _)
      | (with_reducible exact path_Check.mono _ _ _ _ _ _ _)
      | (with_reducible exact path_Encode.mono _ _ _ _ _ _ _)
      | (with_reducible exact path_Loop.mono _ _ _ _ _ _ _ _)
      | (with_reducible exact path_Prepend.mono _ _ _ _ _ _ _ _ _)
      | (with_reducible exact LeO.refl _)
      | (with_reducible exact LeO.none _)
      | (with_reducible refine LeO.ite ?_ ?_)
      | (with_reducible refine LeO.bind ?_ (fun _ => ?_))
      | exact ih0 _ _ _ _ _ _ _ _ _ _
      | exact ih1 _ _ _ _ _ _ _ _ _ _ _ _ _ _ _ _ _ _ _
      | exact ih2 _ _ _ _ _ _ _ _ _ _ _ _ _ _ _ _ _ _
      | exact ih3 _ _ _ _ _ _ _ _ _ _ _ _ _ _ _ _ _ _ _ _ _ _
      | exact ih4 _ _ _ _ _ _ _ _ _ _ _ _ _ _ _ _ _
      | exact ih5 _ _ _ _ _ _ _ _ _ _ _ _ _ _ _ _ _
      | exact ih6 _ _ _ _ _ _ _ _ _ _ _ _ _ _ _ _
      | exact ih7 _ _ _ _ _ _ _ _ _ _ _ _ _ _ _ _ _
      | exact ih8 _ _ _ _ _ _ _ _ _ _ _ _ _ _ _ _
      | exact ih9 _ _ _ _ _ _ _ _ _ _ _ _ _ _ _ _ _
      | exact patchbaylaw2_pathLives.mono _
      | exact patchbayref2_PathFault.mono _ _ _ _ _ _ _
      | exact patchbayref2_PathText.mono _ _ _ _ _ _ _
      | exact patchbayref2_SamePath.mono _ _ _ _ _ _ _ _ _ _ _ _ _
      | exact path_Check.mono _ _ _ _ _ _ _
      | exact path_Encode.mono _ _ _ _ _ _ _
      | exact path_Loop.mono _ _ _ _ _ _ _ _
      | exact path_Prepend.mono _ _ _ _ _ _ _ _ _
      | exact LeO.none _
      | refine LeO.ite ?_ ?_
      | refine LeO.bind ?_ (fun _ => ?_)
theorem patchbaylaw2_PathEncodes.mono : ∀ a0 a1 a2 a3 a4 a5 a6 a7 k, LeO (patchbaylaw2_PathEncodes.f k a0 a1 a2 a3 a4 a5 a6 a7) (patchbaylaw2_PathEncodes.f (k + 1) a0 a1 a2 a3 a4 a5 a6 a7) := by
  intro a0 a1 a2 a3 a4 a5 a6 a7 k
  obtain ⟨ih0, ih1, ih2, ih3, ih4, ih5, ih6, ih7, ih8, ih9⟩ := patchbaylaw2_PathEncodes.mono_l k
  unfold patchbaylaw2_PathEncodes.f
  repeat' first
      | (with_reducible exact ih0 _ _ _ _ _ _ _ _ _ _)
      | (with_reducible exact ih1 _ _ _ _ _ _ _ _ _ _ _ _ _ _ _ _ _ _ _)
      | (with_reducible exact ih2 _ _ _ _ _ _ _ _ _ _ _ _ _ _ _ _ _ _)
      | (with_reducible exact ih3 _ _ _ _ _ _ _ _ _ _ _ _ _ _ _ _ _ _ _ _ _ _)
      | (with_reducible exact ih4 _ _ _ _ _ _ _ _ _ _ _ _ _ _ _ _ _)
      | (with_reducible exact ih5 _ _ _ _ _ _ _ _ _ _ _ _ _ _ _ _ _)
      | (with_reducible exact ih6 _ _ _ _ _ _ _ _ _ _ _ _ _ _ _ _)
      | (with_reducible exact ih7 _ _ _ _ _ _ _ _ _ _ _ _ _ _ _ _ _)
      | (with_reducible exact ih8 _ _ _ _ _ _ _ _ _ _ _ _ _ _ _ _)
      | (with_reducible exact ih9 _ _ _ _ _ _ _ _ _ _ _ _ _ _ _ _ _)
      | (with_reducible exact patchbaylaw2_pathLives.mono _)
      | (with_reducible exact patchbayref2_PathFault.mono _ _ _ _ _ _ _)
      | (with_reducible exact patchbayref2_PathText.mono _ _ _ _ _ _ _)
      | (with_reducible exact patchbayref2_SamePath.mono _ _ _ _ _ _ _ _ _ _ _ _ _)
      | (with_reducible exact path_Check.mono _ _ _ _ _ _ _)
      | (with_reducible exact path_Encode.mono _ _ _ _ _ _ _)
      | (with_reducible exact path_Loop.mono _ _ _ _ _ _ _ _)
      | (with_reducible exact path_Prepend.mono _ _ _ _ _ _ _ _ _)
      | (with_reducible exact LeO.refl _)
      | (with_reducible exact LeO.none _)
      | (with_reducible refine LeO.ite ?_ ?_)
      | (with_reducible refine LeO.bind ?_ (fun _ => ?_))
      | exact ih0 _ _ _ _ _ _ _ _ _ _
      | exact ih1 _ _ _ _ _ _ _ _ _ _ _ _ _ _ _ _ _ _ _
      | exact ih2 _ _ _ _ _ _ _ _ _ _ _ _ _ _ _ _ _ _
      | exact ih3 _ _ _ _ _ _ _ _ _ _ _ _ _ _ _ _ _ _ _ _ _ _
      | exact ih4 _ _ _ _ _ _ _ _ _ _ _ _ _ _ _ _ _
      | exact ih5 _ _ _ _ _ _ _ _ _ _ _ _ _ _ _ _ _
      | exact ih6 _ _ _ _ _ _ _ _ _ _ _ _ _ _ _ _
      | exact ih7 _ _ _ _ _ _ _ _ _ _ _ _ _ _ _ _ _
      | exact ih8 _ _ _ _ _ _ _ _ _ _ _ _ _ _ _ _
      | exact ih9 _ _ _ _ _ _ _ _ _ _ _ _ _ _ _ _ _
      | exact patchbaylaw2_pathLives.mono _
      | exact patchbayref2_PathFault.mono _ _ _ _ _ _ _
      | exact patchbayref2_PathText.mono _ _ _ _ _ _ _
      | exact patchbayref2_SamePath.mono _ _ _ _ _ _ _ _ _ _ _ _ _
      | exact path_Check.mono _ _ _ _ _ _ _
      | exact path_Encode.mono _ _ _ _ _ _ _
      | exact path_Loop.mono _ _ _ _ _ _ _ _
      | exact path_Prepend.mono _ _ _ _ _ _ _ _ _
      | exact LeO.none _
      | refine LeO.ite ?_ ?_
      | refine LeO.bind ?_ (fun _ => ?_)
def patchbaylaw2_PathEncodes.T3 : Bool × List (List Nat × List Nat) := (true, [([], []), ([0], [0]), ([1], [1]), ([], []), ([3], [3]), ([4, 2], [4]), ([0, 1, 2, 3, 4], []), ([6, 2, 5, 0, 1, 2, 3, 4], [2, 6]), ([0, 1, 2, 3, 4, 5, 6, 7], []), ([8, 5, 7, 0, 1, 2, 3, 4, 5, 6, 7], [5, 8])])
def patchbaylaw2_PathEncodes.B3 : List Nat := [0, 1, 3, 0, 8, 31, 31, 127, 255, 511]
theorem patchbaylaw2_PathEncodes.tab3 : rtab .any (opsOf Try.f8 3) = patchbaylaw2_PathEncodes.T3 := by kernel_rfl
theorem patchbaylaw2_PathEncodes.bits3 : waitsOk patchbaylaw2_PathEncodes.T3.2 patchbaylaw2_PathEncodes.B3 = true := by kernel_rfl

end Go.Proofs.Ythifgakeababmaa.Pr
