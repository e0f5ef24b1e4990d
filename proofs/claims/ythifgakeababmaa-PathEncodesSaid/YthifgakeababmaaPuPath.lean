/- Plain laws of routes and prefixes: the program's checks and the reference's come to the same numbers. -/
import Derived.Test.YthifgakeababmaaPrPath
import Derived.Test.YthifgakeababmaaPrRefPath
import Derived.Test.YthifgakeababmaaPrRefSamePath
import Derived.Test.YthifgakeababmaaAux
import Derived.Laws.BitsAllLaws
namespace Go.Proofs.Ythifgakeababmaa.Pu
open Go Go.RowKit Go.Proofs.Ythifgakeababmaa.Pr Go.Proofs.YthifgakeababmaaW.PrintWords Go.Proofs.YthifgakeababmaaW.PrintLast Go.Proofs.YthifgakeababmaaW.PrintMore Go.Proofs.Ythifgakeababmaa.Aux
set_option linter.unusedVariables false
set_option linter.unusedSimpArgs false

theorem rdi_nat (xs : List Int) (i : Nat) : rd xs (i : Int) = xs.getD i 0 := by unfold rd; rw [Int.toNat_natCast]
theorem wnat (i : Nat) (h : i < 1000000000000000) : wrap64 ((i : Int) + 1) = ((i + 1 : Nat) : Int) := by rw [w64 _ (by omega) (by omega)]; omega

/-! ### prefixes -/
def pfx (a b : Int) : Int := if b < 0 ∨ b > 32 then 10 else if a % 2 ^ (32 - b).toNat = 0 then 0 else 3

theorem pow_range (j : Nat) (h : j ≤ 32) : (1 : Int) ≤ 2 ^ j ∧ (2 : Int) ^ j ≤ 4294967296 := by
  have h1 : (2 : Nat) ^ j ≤ 2 ^ 32 := Nat.pow_le_pow_right (by decide) h
  have h0 : 0 < (2 : Nat) ^ j := Nat.pow_pos (by decide)
  have e : ((2 ^ j : Nat) : Int) = (2 : Int) ^ j := Int.natCast_pow 2 j
  have e32 : (2 : Nat) ^ 32 = 4294967296 := by decide
  rw [← e]; omega

theorem check_pfx (a b : Int) (ha : 0 ≤ a) (ha' : a < 4294967296) : addr_Check.f a b = some (pfx a b) := by
  unfold addr_Check.f addr_Mask.f pfx
  by_cases h1 : b < 0
  · simp [h1]
  by_cases h2 : b > 32
  · simp [h1, h2]
  have e1 : wrap64 (32 - b) = 32 - b := w64 _ (by omega) (by omega)
  obtain ⟨j, hj⟩ : ∃ j : Nat, (32 - b).toNat = j := ⟨_, rfl⟩
  have hr := pow_range j (by omega)
  have em : shl .u32 4294967295 (32 - b) = 4294967296 - 2 ^ j := by
    unfold shl
    rw [hj, Nat.min_eq_left (show j ≤ IntKind.u32.bits by show j ≤ 32; omega), IntKind.wrap_u32]
    omega
  rw [if_neg h1, if_neg h2, e1, if_pos (by omega)]
  simp only [Option.bind_some, if_true, em]
  rw [u32_andNot a _ ha ha' (by omega) (by omega)]
  have e2 : 4294967295 - (4294967296 - (2 : Int) ^ j).toNat = 2 ^ j - 1 := by
    have e : ((2 ^ j : Nat) : Int) = (2 : Int) ^ j := Int.natCast_pow 2 j
    rw [← e] at hr ⊢
    omega
  rw [e2, Nat.and_two_pow_sub_one_eq_mod, if_neg (show ¬ (b < 0 ∨ b > 32) by omega), hj]
  have e3 : ((a.toNat % 2 ^ j : Nat) : Int) = a % 2 ^ j := by
    rw [Int.natCast_emod, Int.natCast_pow, Int.toNat_of_nonneg ha]; rfl
  rw [e3]
  split <;> rfl

theorem block_loop (n : Nat) (hn : n ≤ 32) : ∀ (d i : Nat), i + d = n → Ev (fun k => patchbayref2_Block.l0 k (2 ^ i) (n : Int) (i : Int)) ((2 : Int) ^ n) := by
  intro d
  induction d with
  | zero =>
    intro i hi
    refine Ev.step (f := fun _ => some (2 ^ i)) (fun k => ?_) ?_
    · simp only [patchbayref2_Block.l0]; rw [if_neg (by omega)]
    · rw [show i = n by omega]; exact Ev.now _
  | succ d ih =>
    intro i hi
    refine Ev.step (f := fun k => patchbayref2_Block.l0 k (2 ^ (i + 1)) (n : Int) ((i + 1 : Nat) : Int)) (fun k => ?_) (ih (i + 1) (by omega))
    simp only [patchbayref2_Block.l0]
    have hr := pow_range i (by omega)
    have e : IntKind.u64.wrap (2 ^ i * 2) = 2 ^ (i + 1) := by
      rw [IntKind.wrap_u64, Int.pow_succ]; omega
    rw [if_pos (by omega), wnat i (by omega), e]

theorem block_ev (b : Int) (h0 : 0 ≤ b) (h1 : b ≤ 32) : Ev (fun k => patchbayref2_Block.f k b) ((2 : Int) ^ (32 - b).toNat) := by
  have := block_loop (32 - b).toNat (by omega) (32 - b).toNat 0 (by omega)
  unfold patchbayref2_Block.f
  have e : wrap64 (32 - b) = ((32 - b).toNat : Int) := by rw [w64 _ (by omega) (by omega)]; omega
  rw [e]
  exact this

theorem prefix_ev (a b : Int) (ha : 0 ≤ a) (ha' : a < 4294967296) : Ev (fun k => patchbayref2_PrefixFault.f k a b) (pfx a b) := by
  unfold patchbayref2_PrefixFault.f pfx
  by_cases h1 : b < 0
  · simp only [h1, if_true, true_or]
    exact Ev.step (f := fun _ => some 10) (fun k => by simp only [patchbayref2_PrefixFault.j0, if_true]) (Ev.now _)
  simp only [h1, if_false, false_or]
  by_cases h2 : b > 32
  · simp only [h2, if_true, decide_true]
    exact Ev.step (f := fun _ => some 10) (fun k => by simp only [patchbayref2_PrefixFault.j0, if_true]) (Ev.now _)
  simp only [h2, if_false, decide_false]
  have hr := pow_range (32 - b).toNat (by omega)
  have e : IntKind.u64.wrap a = a := by rw [IntKind.wrap_u64]; omega
  refine Ev.step (f := fun k => (patchbayref2_Block.f k b).bind fun t152 => (if t152 = 0 then (none) else (if (Int.tmod a t152) = 0 then (some 0) else (some 3)))) (fun k => by simp only [patchbayref2_PrefixFault.j0, Bool.false_eq_true, if_false, e]) ?_
  refine Ev.bind (block_ev b (by omega) (by omega)) ?_
  refine Ev.if_neg (by omega) ?_
  rw [Int.tmod_eq_emod_of_nonneg ha]
  by_cases h3 : a % 2 ^ (32 - b).toNat = 0
  · simp only [h3, if_true]; exact Ev.now _
  · simp only [h3, if_false]; exact Ev.now _

/-! ### the checks of a route -/
def inR (n : Int) : Bool := decide (1 ≤ n ∧ n ≤ 65535)
def rangeB : List Int → Bool
  | [] => true
  | n :: l => inR n && rangeB l
def incB : Int → List Int → Bool
  | _, [] => true
  | p, n :: l => decide (p < n) && incB n l
def pflt (a b : Int) (way : List Int) (pref med : Int) (tags : List Int) : Int :=
  if pfx a b = 0 then
    (if (way.length : Int) > 32 ∨ (tags.length : Int) > 8 then 2 else if rangeB way = true ∧ rangeB tags = true then
      (if pref < 0 ∨ pref > 1000000 ∨ med < 0 ∨ med > 1000000 then 10 else if incB 0 tags = true then 0 else 3) else 10)
  else pfx a b

theorem rangeB_get (l : List Int) (h : rangeB l = true) (i : Nat) (hi : i < l.length) : 1 ≤ l.getD i 0 ∧ l.getD i 0 ≤ 65535 := by
  induction l generalizing i with
  | nil => simp at hi
  | cons n l ih =>
    simp only [rangeB, inR, Bool.and_eq_true, decide_eq_true_eq] at h
    cases i with
    | zero => exact h.1
    | succ i => simp only [List.getD_cons_succ]; exact ih h.2 i (by simpa using hi)

theorem beyond_eq (n : Int) : path_Check_1.f n = some (!inR n) := by
  unfold path_Check_1.f inR
  by_cases h : n < 1
  · have : ¬ (1 ≤ n ∧ n ≤ 65535) := by omega
    simp [h, this]
  · by_cases h2 : n > 65535
    · have : ¬ (1 ≤ n ∧ n ≤ 65535) := by omega
      simp [h, h2, this]
    · have : 1 ≤ n ∧ n ≤ 65535 := by omega
      simp [h, h2, this]

theorem index_loop (xs : List Int) (hx : xs.length ≤ 1000) : ∀ (d i : Nat), i + d = xs.length →
    ∃ r, Ev (fun k => slices_IndexFunc_int_int.l0 k xs (xs.length : Int) (i : Int)) r ∧ decide (r ≥ 0) = !rangeB (xs.drop i) := by
  intro d
  induction d with
  | zero =>
    intro i hi
    refine ⟨-1, Ev.step (f := fun _ => some (-1)) (fun k => ?_) (Ev.now _), ?_⟩
    · simp only [slices_IndexFunc_int_int.l0]; rw [if_neg (by omega)]
    · rw [List.drop_eq_nil_of_le (by omega)]; rfl
  | succ d ih =>
    intro i hi
    have hlt : i < xs.length := by omega
    rw [drop_cons xs 0 i hlt]
    obtain ⟨c, hc⟩ : ∃ c, xs.getD i 0 = c := ⟨_, rfl⟩
    rw [hc]
    cases hb : inR c with
    | false =>
      refine ⟨(i : Int), Ev.step (f := fun _ => some (i : Int)) (fun k => ?_) (Ev.now _), ?_⟩
      · simp only [slices_IndexFunc_int_int.l0]
        rw [if_pos (by omega), if_pos (by omega), if_pos (by omega), rdi_nat, hc, beyond_eq, hb]
        rfl
      · have : (i : Int) ≥ 0 := by omega
        simp [rangeB, hb, this]
    | true =>
      obtain ⟨r, ev, hr⟩ := ih (i + 1) (by omega)
      refine ⟨r, Ev.step (f := fun k => slices_IndexFunc_int_int.l0 k xs (xs.length : Int) ((i + 1 : Nat) : Int)) (fun k => ?_) ev, ?_⟩
      · simp only [slices_IndexFunc_int_int.l0]
        rw [if_pos (by omega), if_pos (by omega), if_pos (by omega), rdi_nat, hc, beyond_eq, hb, wnat i (by omega)]
        rfl
      · simp [rangeB, hb, hr]

theorem contains_ev (xs : List Int) (hx : xs.length ≤ 1000) : Ev (fun k => slices_ContainsFunc_int_int.f k xs ()) (!rangeB xs) := by
  obtain ⟨r, ev, hr⟩ := index_loop xs hx xs.length 0 (by omega)
  unfold slices_ContainsFunc_int_int.f
  have ev' : Ev (fun k => slices_IndexFunc_int_int.f k xs ()) r := ev
  refine Ev.bind ev' ?_
  rw [hr, List.drop_zero]
  exact Ev.now _

theorem check_l0 (a b : Int) (way : List Int) (p m : Int) (tags : List Int) (ht : tags.length ≤ 8) : ∀ (d i : Nat), 1 ≤ i → i + d = tags.length →
    Ev (fun k => path_Check.l0 k (i : Int) a b way p m tags) (if incB (tags.getD (i - 1) 0) (tags.drop i) = true then 0 else 3) := by
  intro d
  induction d with
  | zero =>
    intro i h1 hi
    refine Ev.step (f := fun _ => some 0) (fun k => ?_) ?_
    · simp only [path_Check.l0]; rw [if_neg (by omega)]
    · rw [List.drop_eq_nil_of_le (by omega)]; simp only [incB, if_true]; exact Ev.now _
  | succ d ih =>
    intro i h1 hi
    have hlt : i < tags.length := by omega
    have e : wrap64 ((i : Int) - 1) = ((i - 1 : Nat) : Int) := by rw [w64 _ (by omega) (by omega)]; omega
    have next := ih (i + 1) (by omega) (by omega)
    rw [Nat.add_sub_cancel] at next
    rw [drop_cons tags 0 i hlt]
    simp only [incB]
    by_cases h2 : tags.getD (i - 1) 0 < tags.getD i 0
    · refine Ev.step (f := fun k => path_Check.l0 k ((i + 1 : Nat) : Int) a b way p m tags) (fun k => ?_) ?_
      · simp only [path_Check.l0]
        rw [if_pos (by omega), e, if_pos (by omega), if_pos (by omega), if_pos (by omega), rdi_nat, rdi_nat, if_neg (by omega), wnat i (by omega)]
      · simp only [h2, decide_true, Bool.true_and]; exact next
    · refine Ev.step (f := fun _ => some 3) (fun k => ?_) ?_
      · simp only [path_Check.l0]
        rw [if_pos (by omega), e, if_pos (by omega), if_pos (by omega), if_pos (by omega), rdi_nat, rdi_nat, if_pos (by omega)]
      · simp only [h2, decide_false, Bool.false_and, Bool.false_eq_true, if_false]; exact Ev.now _

theorem check_end (a b : Int) (way : List Int) (p m : Int) (tags : List Int) (ht : tags.length ≤ 8) (hr : rangeB tags = true) : Ev (fun k => path_Check.l0 k 1 a b way p m tags) (if incB 0 tags = true then 0 else 3) := by
  cases hn : tags with
  | nil =>
    refine Ev.step (f := fun _ => some 0) (fun k => ?_) ?_
    · simp only [path_Check.l0]; rw [if_neg (by simp)]
    · simp only [incB, if_true]; exact Ev.now _
  | cons t l =>
    have := check_l0 a b way p m tags ht (tags.length - 1) 1 (by omega) (by rw [hn]; simp; omega)
    have h0 := rangeB_get tags hr 0 (by rw [hn]; simp)
    rw [hn] at this h0
    simp only [Nat.sub_self, List.getD_cons_zero, List.drop_succ_cons, List.drop_zero] at this h0
    have e0 : incB 0 (t :: l) = incB t l := by
      simp only [incB]
      rw [show decide (0 < t) = true from by simp; omega, Bool.true_and]
    rw [e0]
    exact this

theorem check_j1 (q : Bool) (a b : Int) (way : List Int) (p m : Int) (tags : List Int) (ht : tags.length ≤ 8) (hr : q = false → rangeB tags = true) :
    Ev (fun k => path_Check.j1 k q a b way p m tags) (if q = true then 10 else if p < 0 ∨ p > 1000000 ∨ m < 0 ∨ m > 1000000 then 10 else if incB 0 tags = true then 0 else 3) := by
  refine Ev.step (f := fun k => if q = true then some 10 else if mn p m < 0 then some 10 else if mx p m > 1000000 then some 10 else path_Check.l0 k 1 a b way p m tags) (fun k => by simp only [path_Check.j1]) ?_
  cases q with
  | true => simp only [if_true]; exact Ev.now _
  | false =>
    simp only [Bool.false_eq_true, if_false, mn_lt, mx_gt]
    by_cases h1 : p < 0 ∨ m < 0
    · refine Ev.if_pos h1 ?_
      rw [if_pos (by omega)]; exact Ev.now _
    refine Ev.if_neg h1 ?_
    by_cases h2 : p > 1000000 ∨ m > 1000000
    · refine Ev.if_pos h2 ?_
      rw [if_pos (by omega)]; exact Ev.now _
    refine Ev.if_neg h2 ?_
    rw [if_neg (by omega)]
    exact check_end a b way p m tags ht (hr rfl)

theorem check_ev (a b : Int) (way : List Int) (p m : Int) (tags : List Int) (ha : 0 ≤ a) (ha' : a < 4294967296) : Ev (fun k => path_Check.f k a b way p m tags) (pflt a b way p m tags) := by
  unfold path_Check.f pflt
  rw [check_pfx a b ha ha']
  simp only [Option.bind_some]
  by_cases h0 : pfx a b = 0
  · refine Ev.if_pos h0 ?_
    rw [if_pos h0]
    by_cases h1 : (way.length : Int) > 32 ∨ (tags.length : Int) > 8
    · rw [if_pos h1]
      have hj : Ev (fun k => path_Check.j0 k () true a b way p m tags) 2 := Ev.step (f := fun _ => some 2) (fun k => by simp only [path_Check.j0, if_true]) (Ev.now _)
      by_cases h2 : (way.length : Int) > 32
      · exact Ev.if_pos h2 hj
      · refine Ev.if_neg h2 ?_
        have h3 : (tags.length : Int) > 8 := by omega
        simp only [h3, decide_true]
        exact hj
    · rw [if_neg h1]
      refine Ev.if_neg (by omega) ?_
      have h3 : ¬ (tags.length : Int) > 8 := by omega
      simp only [h3, decide_false]
      refine Ev.step (f := fun k => (slices_ContainsFunc_int_int.f k way ()).bind fun t107 => (if t107 = true then (path_Check.j1 k true a b way p m tags) else ((slices_ContainsFunc_int_int.f k tags ()).bind fun t108 => (path_Check.j1 k t108 a b way p m tags)))) (fun k => by simp only [path_Check.j0, Bool.false_eq_true, if_false]) ?_
      refine Ev.bind (contains_ev way (by omega)) ?_
      cases hw : rangeB way with
      | false =>
        simp only [Bool.not_false, if_true, Bool.false_eq_true, false_and, if_false]
        have := check_j1 true a b way p m tags (by omega) (fun h => by cases h)
        simp only [if_true] at this
        exact this
      | true =>
        simp only [Bool.not_true, Bool.false_eq_true, if_false, true_and]
        refine Ev.bind (contains_ev tags (by omega)) ?_
        cases ht : rangeB tags with
        | false =>
          have := check_j1 true a b way p m tags (by omega) (fun h => by cases h)
          simp only [if_true] at this
          simp only [Bool.not_false, Bool.false_eq_true, if_false]
          exact this
        | true =>
          have := check_j1 false a b way p m tags (by omega) (fun _ => ht)
          simp only [Bool.false_eq_true, if_false] at this
          simp only [Bool.not_true, if_true]
          exact this
  · refine Ev.if_neg h0 ?_
    rw [if_neg h0]; exact Ev.now _

theorem fault_l2 (xs : List Int) (hx : xs.length ≤ 8) : ∀ (d i : Nat) (p : Int), i + d = xs.length → Ev (fun k => patchbayref2_PathFault.l2 k p xs (xs.length : Int) (i : Int)) (if incB p (xs.drop i) = true then 0 else 3) := by
  intro d
  induction d with
  | zero =>
    intro i p hi
    refine Ev.step (f := fun _ => some 0) (fun k => ?_) ?_
    · simp only [patchbayref2_PathFault.l2]; rw [if_neg (by omega)]
    · rw [List.drop_eq_nil_of_le (by omega)]; simp only [incB, if_true]; exact Ev.now _
  | succ d ih =>
    intro i p hi
    have hlt : i < xs.length := by omega
    rw [drop_cons xs 0 i hlt]
    simp only [incB]
    by_cases h2 : p < xs.getD i 0
    · refine Ev.step (f := fun k => patchbayref2_PathFault.l2 k (xs.getD i 0) xs (xs.length : Int) ((i + 1 : Nat) : Int)) (fun k => ?_) ?_
      · simp only [patchbayref2_PathFault.l2]
        rw [if_pos (by omega), if_pos (by omega), if_pos (by omega), rdi_nat, if_neg (by omega), wnat i (by omega)]
      · simp only [h2, decide_true, Bool.true_and]; exact ih (i + 1) _ (by omega)
    · refine Ev.step (f := fun _ => some 3) (fun k => ?_) ?_
      · simp only [patchbayref2_PathFault.l2]
        rw [if_pos (by omega), if_pos (by omega), if_pos (by omega), rdi_nat, if_pos (by omega)]
      · simp only [h2, decide_false, Bool.false_and, Bool.false_eq_true, if_false]; exact Ev.now _

theorem fault_j3 (q : Bool) (a b : Int) (way : List Int) (p m : Int) (tags : List Int) (ht : tags.length ≤ 8) : Ev (fun k => patchbayref2_PathFault.j3 k q a b way p m tags) (if q = true then 10 else if incB 0 tags = true then 0 else 3) := by
  refine Ev.step (f := fun k => if q = true then some 10 else patchbayref2_PathFault.l2 k 0 tags (tags.length : Int) 0) (fun k => by simp only [patchbayref2_PathFault.j3]) ?_
  cases q with
  | true => simp only [if_true]; exact Ev.now _
  | false => simp only [Bool.false_eq_true, if_false]; exact fault_l2 tags ht tags.length 0 0 (by omega)

theorem fault_l1 (xss : List (List Int)) (n j : Int) (xs : List Int) (hx : xs.length ≤ 1000) (a b : Int) (way : List Int) (p m : Int) (tags : List Int) (r : Int)
    (hend : rangeB xs = true → Ev (fun k => patchbayref2_PathFault.l0 k xss n (wrap64 (j + 1)) a b way p m tags) r) : ∀ (d i : Nat), i + d = xs.length → rangeB xs = rangeB (xs.drop i) →
    Ev (fun k => patchbayref2_PathFault.l1 k xss n j xs (xs.length : Int) (i : Int) a b way p m tags) (if rangeB xs = true then r else 10) := by
  intro d
  induction d with
  | zero =>
    intro i hi hr
    rw [List.drop_eq_nil_of_le (by omega)] at hr
    refine Ev.step (f := fun k => patchbayref2_PathFault.l0 k xss n (wrap64 (j + 1)) a b way p m tags) (fun k => ?_) ?_
    · simp only [patchbayref2_PathFault.l1]; rw [if_neg (by omega)]
    · rw [hr]; simp only [rangeB, if_true]; exact hend hr
  | succ d ih =>
    intro i hi hr
    have hlt : i < xs.length := by omega
    rw [drop_cons xs 0 i hlt] at hr
    obtain ⟨c, hc⟩ : ∃ c, xs.getD i 0 = c := ⟨_, rfl⟩
    rw [hc] at hr
    cases hb : inR c with
    | true =>
      refine Ev.step (f := fun k => patchbayref2_PathFault.l1 k xss n j xs (xs.length : Int) ((i + 1 : Nat) : Int) a b way p m tags) (fun k => ?_) ?_
      · simp only [inR, decide_eq_true_eq] at hb
        simp only [patchbayref2_PathFault.l1]
        rw [if_pos (by omega), if_pos (by omega), if_pos (by omega), rdi_nat, hc, if_neg (by omega), if_neg (by omega), wnat i (by omega)]
      · exact ih (i + 1) (by omega) (by rw [hr]; simp [rangeB, hb])
    | false =>
      have hf : rangeB xs = false := by rw [hr]; simp [rangeB, hb]
      refine Ev.step (f := fun _ => some 10) (fun k => ?_) ?_
      · simp only [inR, decide_eq_false_iff_not] at hb
        simp only [patchbayref2_PathFault.l1]
        rw [if_pos (by omega), if_pos (by omega), if_pos (by omega), rdi_nat, hc]
        by_cases h : c < 1
        · rw [if_pos h]
        · rw [if_neg h, if_pos (by omega)]
      · rw [hf]; simp only [Bool.false_eq_true, if_false]; exact Ev.now _

theorem fault_ev (a b : Int) (way : List Int) (p m : Int) (tags : List Int) (ha : 0 ≤ a) (ha' : a < 4294967296) : Ev (fun k => patchbayref2_PathFault.f k a b way p m tags) (pflt a b way p m tags) := by
  unfold patchbayref2_PathFault.f pflt
  refine Ev.bind (prefix_ev a b ha ha') ?_
  by_cases h0 : pfx a b = 0
  · refine Ev.if_pos h0 ?_
    rw [if_pos h0]
    by_cases h1 : (way.length : Int) > 32 ∨ (tags.length : Int) > 8
    · rw [if_pos h1]
      have hj : Ev (fun k => patchbayref2_PathFault.j0 k true a b way p m tags) 2 := Ev.step (f := fun _ => some 2) (fun k => by simp only [patchbayref2_PathFault.j0, if_true]) (Ev.now _)
      by_cases h2 : (way.length : Int) > 32
      · exact Ev.if_pos h2 hj
      · refine Ev.if_neg h2 ?_
        have h3 : (tags.length : Int) > 8 := by omega
        simp only [h3, decide_true]
        exact hj
    · rw [if_neg h1]
      refine Ev.if_neg (by omega) ?_
      have h3 : ¬ (tags.length : Int) > 8 := by omega
      simp only [h3, decide_false]
      refine Ev.step (f := fun k => patchbayref2_PathFault.l0 k [way, tags] 2 0 a b way p m tags) (fun k => by simp only [patchbayref2_PathFault.j0, Bool.false_eq_true, if_false, Option.bind_some]; rfl) ?_
      -- behind both lists
      have e2 : Ev (fun k => patchbayref2_PathFault.l0 k [way, tags] 2 2 a b way p m tags) (if p < 0 ∨ p > 1000000 ∨ m < 0 ∨ m > 1000000 then 10 else if incB 0 tags = true then 0 else 3) := by
        refine Ev.step (f := fun k => if p < 0 then (patchbayref2_PathFault.j3 k true a b way p m tags) else (if p > 1000000 then (patchbayref2_PathFault.j3 k true a b way p m tags) else (if m < 0 then (patchbayref2_PathFault.j3 k true a b way p m tags) else (patchbayref2_PathFault.j3 k (decide (m > 1000000)) a b way p m tags)))) (fun k => by simp only [patchbayref2_PathFault.l0]; rw [if_neg (by decide)]) ?_
        have ht := fault_j3 true a b way p m tags (by omega)
        simp only [if_true] at ht
        by_cases c1 : p < 0
        · rw [if_pos (.inl c1)]; exact Ev.if_pos c1 ht
        refine Ev.if_neg c1 ?_
        by_cases c2 : p > 1000000
        · rw [if_pos (.inr (.inl c2))]; exact Ev.if_pos c2 ht
        refine Ev.if_neg c2 ?_
        by_cases c3 : m < 0
        · rw [if_pos (.inr (.inr (.inl c3)))]; exact Ev.if_pos c3 ht
        refine Ev.if_neg c3 ?_
        have hq := fault_j3 (decide (m > 1000000)) a b way p m tags (by omega)
        simp only [decide_eq_true_eq] at hq
        by_cases c4 : m > 1000000
        · rw [if_pos (by omega)]; rw [if_pos c4] at hq; exact hq
        · rw [if_neg (by omega)]; rw [if_neg c4] at hq; exact hq
      have w1 : wrap64 (1 + 1) = 2 := by unfold wrap64; rfl
      have w0 : wrap64 (0 + 1) = 1 := by unfold wrap64; rfl
      have e1 : Ev (fun k => patchbayref2_PathFault.l0 k [way, tags] 2 1 a b way p m tags) (if rangeB tags = true then (if p < 0 ∨ p > 1000000 ∨ m < 0 ∨ m > 1000000 then 10 else if incB 0 tags = true then 0 else 3) else 10) := by
        refine Ev.step (f := fun k => patchbayref2_PathFault.l1 k [way, tags] 2 1 tags (tags.length : Int) 0 a b way p m tags) (fun k => ?_) ?_
        · simp only [patchbayref2_PathFault.l0]
          rw [if_pos (by decide), if_pos (by decide), if_pos (by simp)]
          rfl
        · exact fault_l1 [way, tags] 2 1 tags (by omega) a b way p m tags _ (fun _ => by rw [w1]; exact e2) tags.length 0 (by omega) (by rw [List.drop_zero])
      have e0 : Ev (fun k => patchbayref2_PathFault.l0 k [way, tags] 2 0 a b way p m tags) (if rangeB way = true then (if rangeB tags = true then (if p < 0 ∨ p > 1000000 ∨ m < 0 ∨ m > 1000000 then 10 else if incB 0 tags = true then 0 else 3) else 10) else 10) := by
        refine Ev.step (f := fun k => patchbayref2_PathFault.l1 k [way, tags] 2 0 way (way.length : Int) 0 a b way p m tags) (fun k => ?_) ?_
        · simp only [patchbayref2_PathFault.l0]
          rw [if_pos (by decide), if_pos (by decide), if_pos (by simp)]
          rfl
        · exact fault_l1 [way, tags] 2 0 way (by omega) a b way p m tags _ (fun _ => by rw [w0]; exact e1) way.length 0 (by omega) (by rw [List.drop_zero])
      cases hw : rangeB way <;> cases ht : rangeB tags <;> simp only [hw, ht, Bool.false_eq_true, if_false, if_true, false_and, and_false, and_self] at e0 ⊢ <;> exact e0
  · refine Ev.if_neg h0 ?_
    rw [if_neg h0]; exact Ev.now _

/-! ### equal lists -/
theorem same_loop (xs : List Int) (hx : xs.length ≤ 100000) : ∀ (d i : Nat), i + d = xs.length → Ev (fun k => patchbayref2_SameInts.l0 k xs xs (xs.length : Int) (i : Int)) true := by
  intro d
  induction d with
  | zero =>
    intro i hi
    refine Ev.step (f := fun _ => some true) (fun k => ?_) (Ev.now _)
    simp only [patchbayref2_SameInts.l0]; rw [if_neg (by omega)]
  | succ d ih =>
    intro i hi
    refine Ev.step (f := fun k => patchbayref2_SameInts.l0 k xs xs (xs.length : Int) ((i + 1 : Nat) : Int)) (fun k => ?_) (ih (i + 1) (by omega))
    simp only [patchbayref2_SameInts.l0]
    rw [if_pos (by omega), if_pos (by omega), if_pos (by omega), if_pos (by omega), if_pos trivial, wnat i (by omega)]
theorem same_ints (xs : List Int) (hx : xs.length ≤ 100000) : Ev (fun k => patchbayref2_SameInts.f k xs xs) true := by
  unfold patchbayref2_SameInts.f
  refine Ev.if_pos rfl ?_
  exact same_loop xs hx xs.length 0 (by omega)
theorem same_path (a b : Int) (way : List Int) (p m : Int) (tags : List Int) (hw : way.length ≤ 100000) (ht : tags.length ≤ 100000) : Ev (fun k => patchbayref2_SamePath.f k a b way p m tags a b way p m tags) true := by
  unfold patchbayref2_SamePath.f
  refine Ev.if_pos (by simp) (Ev.if_pos rfl (Ev.if_pos rfl ?_))
  refine Ev.bind (same_ints way hw) ?_
  simp only [if_true]
  refine Ev.bind (same_ints tags ht) ?_
  exact Ev.now _
end Go.Proofs.Ythifgakeababmaa.Pu
