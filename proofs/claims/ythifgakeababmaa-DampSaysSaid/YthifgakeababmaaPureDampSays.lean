/- The plain law of DampSays: over numbers alone, the printed law answers true for every plan, state and time. -/
import Derived.Test.YthifgakeababmaaPDampSaysx6
namespace Go.Proofs.Ythifgakeababmaa.PureDamp
open Go.RowKit Go.Proofs.Ythifgakeababmaa.PDampSays Go.Proofs.YthifgakeababmaaW.PrintWords Go.Proofs.YthifgakeababmaaW.PrintLast Go.Proofs.YthifgakeababmaaW.PrintMore
set_option linter.unusedVariables false
set_option linter.unusedSimpArgs false

theorem mn_lt (a b c : Int) : mn a b < c ↔ a < c ∨ b < c := by unfold mn; split <;> omega
theorem mx_gt (a b c : Int) : mx a b > c ↔ a > c ∨ b > c := by unfold mx; split <;> omega
theorem mn_min (a b : Int) : mn a b = min a b := by unfold mn; split <;> omega

/-- What Check answers. -/
def chk (a b c d e : Int) : Int :=
  if a < 1 ∨ a > 1000000000 ∨ b < 1 ∨ b > 1000000 ∨ c < 1 ∨ c > 1000000 ∨ d < 1 ∨ d > 1000000 ∨ e < 1 ∨ e > 1000000 then 10
  else if d ≥ c ∨ c > e then 3 else 0

theorem check_ev (a b c d e : Int) : Ev (fun k => damp_Check.f k a b c d e) (chk a b c d e) := by
  refine ⟨1, fun k hk => ?_⟩
  obtain ⟨k, rfl⟩ : ∃ m, k = m + 1 := ⟨k - 1, by omega⟩
  simp only [damp_Check.f, damp_Check.j0, chk, mn_lt, mx_gt, decide_eq_true_eq, if_true]
  repeat' split
  all_goals first | rfl | (exfalso; omega)

theorem loop4 (k : Nat) (hk : 5 ≤ k) (b c d e a0 b0 c0 d0 e0 : Int) :
    patchbayref2_PlanFault.l0 k [b, c, d, e] 4 0 a0 b0 c0 d0 e0 = some (if b < 1 ∨ b > 1000000 ∨ c < 1 ∨ c > 1000000 ∨ d < 1 ∨ d > 1000000 ∨ e < 1 ∨ e > 1000000 then 10 else if d0 < c0 then (if c0 ≤ e0 then 0 else 3) else 3) := by
  obtain ⟨k, rfl⟩ : ∃ m, k = m + 5 := ⟨k - 5, by omega⟩
  have w1 : wrap64 (0 + 1) = 1 := by unfold wrap64; rfl
  have w2 : wrap64 (1 + 1) = 2 := by unfold wrap64; rfl
  have w3 : wrap64 (2 + 1) = 3 := by unfold wrap64; rfl
  have w4 : wrap64 (3 + 1) = 4 := by unfold wrap64; rfl
  simp only [patchbayref2_PlanFault.l0, rd, w1, w2, w3, w4, List.length_cons, List.length_nil]
  simp
  repeat' split
  all_goals first | rfl | (exfalso; omega)

theorem plan_ev (a b c d e : Int) : Ev (fun k => patchbayref2_PlanFault.f k a b c d e) (chk a b c d e) := by
  refine ⟨6, fun k hk => ?_⟩
  obtain ⟨k, rfl⟩ : ∃ m, k = m + 1 := ⟨k - 1, by omega⟩
  have hl : (([b, c, d, e] : List Int).length : Int) = 4 := rfl
  simp only [patchbayref2_PlanFault.f, patchbayref2_PlanFault.j0, chk, decide_eq_true_eq, if_true, Option.bind_some, hl, loop4 k (by omega)]
  repeat' split
  all_goals first | rfl | (exfalso; omega)

def flt (a b c d e p t : Int) (now : Int) : Int :=
  if chk a b c d e = 0 then (if p < 0 ∨ p > e ∨ t < 0 ∨ t > 1000000000 ∨ now < 0 ∨ now > 1000000000 then 10 else if now < t then 13 else 0) else chk a b c d e

theorem wrong_ev (a b c d e p t : Int) (h : Bool) (now : Int) : Ev (fun k => damp_wrong.f k a b c d e p t h now) (flt a b c d e p t now) := by
  obtain ⟨K, hK⟩ := check_ev a b c d e
  refine ⟨K + 1, fun k hk => ?_⟩
  have h1 := hK k (by omega)
  obtain ⟨k, rfl⟩ : ∃ m, k = m + 1 := ⟨k - 1, by omega⟩
  simp only [damp_wrong.f, h1, Option.bind_some, damp_wrong.j0, decide_eq_true_eq, if_true, flt]
  repeat' split
  all_goals first | rfl | (exfalso; omega)

theorem fault_ev (a b c d e p t : Int) (h : Bool) (now : Int) : Ev (fun k => patchbayref2_DampFault.f k a b c d e p t h now) (flt a b c d e p t now) := by
  obtain ⟨K, hK⟩ := plan_ev a b c d e
  refine ⟨K + 1, fun k hk => ?_⟩
  have h1 := hK k (by omega)
  obtain ⟨k, rfl⟩ : ∃ m, k = m + 1 := ⟨k - 1, by omega⟩
  simp only [patchbayref2_DampFault.f, h1, Option.bind_some, patchbayref2_DampFault.j0, decide_eq_true_eq, if_true, flt]
  repeat' split
  all_goals first | rfl | (exfalso; omega)

/-- A penalty after so many ticks. -/
def dec (half p t : Int) : Int := p / 2 ^ (t / half).toNat - p / 2 ^ (t / half).toNat * (t % half) / (2 * half)

theorem pow_zero (p : Int) (n : Nat) (h0 : 0 ≤ p) (hp : p ≤ 1000000) (hn : 20 ≤ n) : p / 2 ^ n = 0 := by
  apply Int.ediv_eq_zero_of_lt h0
  have h1 : (2 : Nat) ^ 20 ≤ 2 ^ n := Nat.pow_le_pow_right (by decide) hn
  have h3 : (2 : Nat) ^ 20 = 1048576 := by decide
  have h2 : ((2 ^ n : Nat) : Int) = (2 : Int) ^ n := Int.natCast_pow 2 n
  have h4 : (1048576 : Int) ≤ (2 : Int) ^ n := by rw [← h2]; rw [h3] at h1; exact Int.ofNat_le.2 h1
  omega

theorem quot_range (p : Int) (n : Nat) (h0 : 0 ≤ p) : 0 ≤ p / 2 ^ n ∧ p / 2 ^ n ≤ p := by
  have hpos : (0 : Int) < 2 ^ n := Int.pow_pos (by decide)
  exact ⟨Int.ediv_nonneg h0 (by omega), Int.ediv_le_self _ h0⟩

theorem prod_range (q r h : Int) (hq : 0 ≤ q) (hq' : q ≤ 1000000) (hr : 0 ≤ r) (hrh : r < h) (hh : h ≤ 1000000000) : 0 ≤ q * r ∧ q * r ≤ 1000000000000000 ∧ q * r / (2 * h) ≤ q ∧ 0 ≤ q * r / (2 * h) := by
  have h1 : 0 ≤ q * r := Int.mul_nonneg hq hr
  have h2 : q * r ≤ 1000000 * 1000000000 := Int.mul_le_mul hq' (by omega) hr (by decide)
  refine ⟨h1, by omega, ?_, Int.ediv_nonneg h1 (by omega)⟩
  have h3 : q * r ≤ q * (2 * h) := Int.mul_le_mul_of_nonneg_left (by omega) hq
  calc q * r / (2 * h) ≤ q * (2 * h) / (2 * h) := Int.ediv_le_ediv (by omega) h3
    _ = q := Int.mul_ediv_cancel _ (by omega)

theorem dec_range (half p t : Int) (hh : 1 ≤ half) (hh' : half ≤ 1000000000) (h0 : 0 ≤ p) (hp : p ≤ 1000000) : 0 ≤ dec half p t ∧ dec half p t ≤ p := by
  have hq := quot_range p (t / half).toNat h0
  have hr0 := Int.emod_nonneg t (show half ≠ 0 by omega)
  have hr1 := Int.emod_lt_of_pos t (show 0 < half by omega)
  have := prod_range _ _ half hq.1 (by omega) hr0 hr1 hh'
  unfold dec
  omega

theorem dec_zero (half p t : Int) (hh : 1 ≤ half) (h0 : 0 ≤ p) (hp : p ≤ 1000000) (ht : 20 ≤ t / half) : dec half p t = 0 := by
  unfold dec
  rw [pow_zero p _ h0 hp (by omega)]
  simp

theorem w64 (n : Int) (h : -9223372036854775808 ≤ n) (h' : n ≤ 9223372036854775807) : wrap64 n = n := by unfold wrap64; omega

/-- The program's penalty. -/
theorem decayed_eq (a b c d e p t : Int) (ha : 1 ≤ a) (ha' : a ≤ 1000000000) (h0 : 0 ≤ p) (hp : p ≤ 1000000) (ht : 0 ≤ t) (ht' : t ≤ 100000000000) :
    damp_decayed.f a b c d e p t = some (dec a p t) := by
  have htd : Int.tdiv t a = t / a := Int.tdiv_eq_ediv_of_nonneg ht
  have htm : Int.tmod t a = t % a := Int.tmod_eq_emod_of_nonneg ht
  have hd0 : 0 ≤ t / a := Int.ediv_nonneg ht (by omega)
  have hd1 : t / a ≤ t := Int.ediv_le_self _ ht
  have hr0 := Int.emod_nonneg t (show a ≠ 0 by omega)
  have hr1 := Int.emod_lt_of_pos t (show 0 < a by omega)
  unfold damp_decayed.f
  rw [htd, htm, w64 (t / a) (by omega) (by omega), w64 (2 * a) (by omega) (by omega), if_neg (by omega), mn_min, if_pos (by omega), if_neg (by omega)]
  have hpow : p / 2 ^ (min (t / a) 30).toNat = p / 2 ^ (t / a).toNat := by
    by_cases h : t / a ≤ 30
    · rw [Int.min_eq_left h]
    · rw [Int.min_eq_right (by omega), pow_zero p _ h0 hp (by decide), pow_zero p _ h0 hp (by omega)]
  rw [hpow]
  have hq := quot_range p (t / a).toNat h0
  have hpr := prod_range _ _ a hq.1 (by omega) hr0 hr1 ha'
  rw [w64 (p / 2 ^ (t / a).toNat * (t % a)) (by omega) (by omega), Int.tdiv_eq_ediv_of_nonneg hpr.1, w64 (_ / (2 * a)) (by omega) (by omega), w64 _ (by omega) (by omega)]
  rfl

theorem dec_step (a p t : Int) (ha : 1 ≤ a) (h0 : 0 ≤ p) (ht : a ≤ t) : dec a (p / 2) (t - a) = dec a p t := by
  have e1 : (t - a) / a = t / a - 1 := by
    have : t - a = t + a * (-1) := by omega
    rw [this, Int.add_mul_ediv_left _ _ (by omega)]; omega
  have e2 : (t - a) % a = t % a := by
    have : t - a = t + a * (-1) := by omega
    rw [this, Int.add_mul_emod_self_left]
  have h1 : 1 ≤ t / a := by
    have := Int.ediv_le_ediv (show 0 < a by omega) ht
    rwa [Int.ediv_self (by omega)] at this
  unfold dec
  rw [e1, e2]
  obtain ⟨n, hn⟩ : ∃ n : Nat, (t / a).toNat = n + 1 := ⟨(t / a).toNat - 1, by omega⟩
  have hn' : (t / a - 1).toNat = n := by omega
  have e3 : p / 2 / 2 ^ n = p / 2 ^ (n + 1) := by
    rw [Int.ediv_ediv_of_nonneg (by decide), Int.pow_succ, Int.mul_comm]
  rw [hn, hn', e3]

theorem dec_small (a p t : Int) (ha : 1 ≤ a) (h0 : 0 ≤ t) (ht : t < a) : dec a p t = p - p * t / (2 * a) := by
  unfold dec
  rw [Int.ediv_eq_zero_of_lt h0 ht, Int.emod_eq_of_lt h0 ht]
  simp

theorem decay_loop (a : Int) (ha : 1 ≤ a) (ha' : a ≤ 1000000000) (n : Nat) : ∀ (k : Nat) (p t : Int), 0 ≤ p → p ≤ 1000000 → 0 ≤ t → t ≤ 100000000000 → p < 2 ^ n → n < k →
    patchbayref2_Decay.l0 k a p t = some (dec a p t) := by
  induction n with
  | zero =>
    intro k p t h0 hp ht ht' hn hk
    obtain ⟨k, rfl⟩ : ∃ m, k = m + 1 := ⟨k - 1, by omega⟩
    obtain rfl : p = 0 := by simp at hn; omega
    have hz : dec a 0 t = 0 := by unfold dec; simp
    simp only [patchbayref2_Decay.l0]
    rw [w64 (2 * a) (by omega) (by omega)]
    by_cases h : t ≥ a
    · rw [if_pos h, if_neg (by omega), if_neg (by omega), hz]; simp [wrap64]
    · rw [if_neg h, if_neg (by omega), hz]; simp [wrap64]
  | succ n ih =>
    intro k p t h0 hp ht ht' hn hk
    obtain ⟨k, rfl⟩ : ∃ m, k = m + 1 := ⟨k - 1, by omega⟩
    simp only [patchbayref2_Decay.l0]
    rw [w64 (2 * a) (by omega) (by omega)]
    by_cases h : t ≥ a
    · rw [if_pos h]
      by_cases hp0 : p > 0
      · rw [if_pos hp0, Int.tdiv_eq_ediv_of_nonneg h0, w64 (p / 2) (by omega) (by omega), w64 (t - a) (by omega) (by omega)]
        rw [ih k (p / 2) (t - a) (by omega) (by omega) (by omega) (by omega) (by rw [Int.pow_succ] at hn; omega) (by omega), dec_step a p t ha h0 h]
      · obtain rfl : p = 0 := by omega
        have hz : dec a 0 t = 0 := by unfold dec; simp
        rw [if_neg hp0, if_neg (by omega), hz]; simp [wrap64]
    · have hpr := prod_range p t a h0 hp ht (by omega) ha'
      rw [if_neg h, if_neg (by omega), dec_small a p t ha ht (by omega), w64 (p * t) (by omega) (by omega), Int.tdiv_eq_ediv_of_nonneg hpr.1, w64 (_ / _) (by omega) (by omega), w64 _ (by omega) (by omega)]

theorem decay_ev (a p t : Int) (ha : 1 ≤ a) (ha' : a ≤ 1000000000) (h0 : 0 ≤ p) (hp : p ≤ 1000000) (ht : 0 ≤ t) (ht' : t ≤ 100000000000) : Ev (fun k => patchbayref2_Decay.f k a p t) (dec a p t) :=
  ⟨21, fun k hk => by unfold patchbayref2_Decay.f; exact decay_loop a ha ha' 20 k p t h0 hp ht ht' (by simp; omega) (by omega)⟩

def hld (a d p t : Int) (h : Bool) : Bool := h && decide (dec a p t ≥ d)

theorem held_eq (a b c d e p s t : Int) (h : Bool) (ha : 1 ≤ a) (ha' : a ≤ 1000000000) (h0 : 0 ≤ p) (hp : p ≤ 1000000) (ht : 0 ≤ t) (ht' : t ≤ 100000000000) :
    damp_held.f a b c d e p s h t = some (hld a d p t h) := by
  unfold damp_held.f hld
  rw [decayed_eq a b c d e p t ha ha' h0 hp ht ht']
  cases h <;> simp

theorem heldAt_ev (a b c d e p s t : Int) (h : Bool) (ha : 1 ≤ a) (ha' : a ≤ 1000000000) (h0 : 0 ≤ p) (hp : p ≤ 1000000) (ht : 0 ≤ t) (ht' : t ≤ 100000000000) :
    Ev (fun k => patchbayref2_HeldAt.f k a b c d e p s h t) (hld a d p t h) := by
  obtain ⟨K, hK⟩ := decay_ev a p t ha ha' h0 hp ht ht'
  refine ⟨K, fun k hk => ?_⟩
  unfold patchbayref2_HeldAt.f hld
  dsimp only
  rw [show patchbayref2_Decay.f k a p t = some (dec a p t) from hK k hk]
  cases h <;> simp

/-- The search of When. -/
theorem search (a b c d e p s : Int) (h : Bool) (ha : 1 ≤ a) (ha' : a ≤ 1000000000) (h0 : 0 ≤ p) (hp : p ≤ 1000000) (hs : 0 ≤ s) (hs' : s ≤ 1000000000) (lo0 : Int) (hl0 : 0 ≤ lo0) :
    ∀ (n : Nat) (k : Nat) (low high : Int), (high - low).toNat ≤ n → n < k → lo0 ≤ low → low ≤ high → high ≤ 100000000000 → hld a d p high h = false → (low = lo0 ∨ hld a d p (low - 1) h = true) →
    ∃ t, damp_When.l0 k low high a b c d e p s h = some (s + t, 0) ∧ lo0 ≤ t ∧ t ≤ 100000000000 ∧ hld a d p t h = false ∧ (t = lo0 ∨ hld a d p (t - 1) h = true) := by
  intro n
  induction n with
  | zero =>
    intro k low high hn hk hlo hle hhi hh hl
    obtain ⟨k, rfl⟩ : ∃ m, k = m + 1 := ⟨k - 1, by omega⟩
    obtain rfl : low = high := by omega
    refine ⟨low, ?_, hlo, hhi, hh, hl⟩
    simp only [damp_When.l0]
    rw [if_neg (by omega), w64 (s + low) (by omega) (by omega)]
  | succ n ih =>
    intro k low high hn hk hlo hle hhi hh hl
    obtain ⟨k, rfl⟩ : ∃ m, k = m + 1 := ⟨k - 1, by omega⟩
    by_cases hlt : low < high
    · have e1 : wrap64 (high - low) = high - low := w64 _ (by omega) (by omega)
      have e2 : Int.tdiv (high - low) 2 = (high - low) / 2 := Int.tdiv_eq_ediv_of_nonneg (by omega)
      have e3 : wrap64 ((high - low) / 2) = (high - low) / 2 := w64 _ (by omega) (by omega)
      have e4 : wrap64 (low + (high - low) / 2) = low + (high - low) / 2 := w64 _ (by omega) (by omega)
      have e5 : wrap64 (low + (high - low) / 2 + 1) = low + (high - low) / 2 + 1 := w64 _ (by omega) (by omega)
      simp only [damp_When.l0]
      rw [if_pos hlt, e1, e2, e3, e4, e5, held_eq a b c d e p s _ h ha ha' h0 hp (by omega) (by omega)]
      simp only [Option.bind_some]
      by_cases hm : hld a d p (low + (high - low) / 2) h = true
      · rw [if_pos hm]
        exact ih k _ _ (by omega) (by omega) (by omega) (by omega) hhi hh (.inr (by rw [show low + (high - low) / 2 + 1 - 1 = low + (high - low) / 2 by omega]; exact hm))
      · rw [if_neg hm]
        exact ih k _ _ (by omega) (by omega) hlo (by omega) (by omega) (by simpa using hm) hl
    · obtain rfl : low = high := by omega
      refine ⟨low, ?_, hlo, hhi, hh, hl⟩
      simp only [damp_When.l0]
      rw [if_neg (by omega), w64 (s + low) (by omega) (by omega)]

theorem dec_le (half p t : Int) (hh : 1 ≤ half) (hh' : half ≤ 1000000000) (h0 : 0 ≤ p) (hp : p ≤ 1000000) : dec half p t ≤ 1000000 := by have := dec_range half p t hh hh' h0 hp; omega

theorem lives_ev : Ev (fun k => patchbaylaw2_dampLives.f k) true := by
  unfold patchbaylaw2_dampLives.f
  have hw := wrong_ev 10 1 3 2 100 100 0 false 5
  have hf : flt 10 1 3 2 100 100 0 5 = 0 := by decide
  rw [hf] at hw
  have e : wrap64 (5 - 0) = 5 := by unfold wrap64; rfl
  have hd := decayed_eq 10 1 3 2 100 100 5 (by decide) (by decide) (by decide) (by decide) (by decide) (by decide)
  have hh := held_eq 10 1 3 2 100 100 0 5 false (by decide) (by decide) (by decide) (by decide) (by decide) (by decide)
  have hdv : dec 10 100 5 = 75 := by unfold dec; rfl
  have hLook : Ev (fun k => damp_Look.f k 10 1 3 2 100 100 0 false 5) (75, hld 10 2 100 5 false, 0) := by
    unfold damp_Look.f
    refine Ev.bind hw ?_
    simp only [if_true, e, hd, hh, hdv, Option.bind_some]
    exact Ev.now _
  refine Ev.bind hLook ?_
  simp only [if_true]
  exact Ev.now _

theorem DampSays (a b c d e p s : Int) (h : Bool) (now : Int) : ∃ k, patchbaylaw2_DampSays.f k a b c d e p s h now = some true := by
  apply Ev.rounds
  unfold patchbaylaw2_DampSays.f
  refine Ev.bind lives_ev ?_
  simp only [if_true]
  have hc := check_ev a b c d e
  have hpl := plan_ev a b c d e
  have hw := wrong_ev a b c d e p s h now
  have hf := fault_ev a b c d e p s h now
  by_cases hok : flt a b c d e p s now = 0
  · -- a valid plan and state
    have hck : chk a b c d e = 0 := by
      unfold flt at hok
      split at hok
      · assumption
      · exact hok
    have hb : 1 ≤ a ∧ a ≤ 1000000000 ∧ 1 ≤ b ∧ b ≤ 1000000 ∧ 1 ≤ c ∧ c ≤ 1000000 ∧ 1 ≤ d ∧ d ≤ 1000000 ∧ 1 ≤ e ∧ e ≤ 1000000 ∧ d < c ∧ c ≤ e := by
      unfold chk at hck
      split at hck
      · omega
      · split at hck <;> omega
    have hs : 0 ≤ p ∧ p ≤ e ∧ 0 ≤ s ∧ s ≤ 1000000000 ∧ 0 ≤ now ∧ now ≤ 1000000000 ∧ s ≤ now := by
      unfold flt at hok
      rw [if_pos hck] at hok
      split at hok
      · omega
      · split at hok <;> omega
    obtain ⟨ha, ha', hb1, hb2, hc1, hc2, hd1, hd2, he1, he2, hdc, hce⟩ := hb
    obtain ⟨h0, hp, hs0, hs1, hn0, hn1, hsn⟩ := hs
    have ew : wrap64 (now - s) = now - s := w64 _ (by omega) (by omega)
    rw [hok] at hf hw
    rw [hck] at hc hpl
    have hdec := decayed_eq a b c d e p (now - s) ha ha' h0 (by omega) (by omega) (by omega)
    have hheld := held_eq a b c d e p s (now - s) h ha ha' h0 (by omega) (by omega) (by omega)
    have hLook : Ev (fun k => damp_Look.f k a b c d e p s h now) (dec a p (now - s), hld a d p (now - s) h, 0) := by
      unfold damp_Look.f
      refine Ev.bind hw ?_
      simp only [if_true, ew, hdec, hheld, Option.bind_some]
      exact Ev.now _
    have hdr := dec_range a p (now - s) ha ha' h0 (by omega)
    have ew2 : wrap64 (dec a p (now - s) + b) = dec a p (now - s) + b := w64 _ (by omega) (by omega)
    have hFlap : Ev (fun k => damp_Flap.f k a b c d e p s h now) (mn e (dec a p (now - s) + b), now, (hld a d p (now - s) h || decide (mn e (dec a p (now - s) + b) ≥ c)), 0) := by
      unfold damp_Flap.f
      refine Ev.bind hLook ?_
      simp only [if_true, ew2]
      cases hld a d p (now - s) h <;> exact Ev.now _
    obtain ⟨t, hWhen, ht0, ht1, ht2, ht3⟩ : ∃ t, Ev (fun k => damp_When.f k a b c d e p s h now) (s + t, 0) ∧ now - s ≤ t ∧ t ≤ 100000000000 ∧ hld a d p t h = false ∧ (t = now - s ∨ hld a d p (t - 1) h = true) := by
      have e31 : wrap64 (31 * a) = 31 * a := w64 _ (by omega) (by omega)
      have e32 : wrap64 (now - s + 31 * a) = now - s + 31 * a := w64 _ (by omega) (by omega)
      have hz : hld a d p (now - s + 31 * a) h = false := by
        unfold hld
        have : 20 ≤ (now - s + 31 * a) / a := by
          rw [Int.add_mul_ediv_right _ _ (by omega)]
          have := Int.ediv_nonneg (show 0 ≤ now - s by omega) (show 0 ≤ a by omega)
          omega
        rw [dec_zero a p _ ha h0 (by omega) this]
        have : ¬ (0 : Int) ≥ d := by omega
        simp [this]
      obtain ⟨t, ht, h1, h2, h3, h4⟩ := search a b c d e p s h ha ha' h0 (by omega) hs0 hs1 (now - s) (by omega) (31 * a).toNat ((31 * a).toNat + 1) (now - s) (now - s + 31 * a) (by omega) (by omega) (by omega) (by omega) (by omega) hz (.inl rfl)
      refine ⟨t, ?_, h1, h2, h3, h4⟩
      unfold damp_When.f
      refine Ev.bind hw ?_
      simp only [if_true, ew, e31, e32]
      exact Ev.of (fun k => damp_When.mono_l k _ _ _ _ _ _ _ _ _ _ ) ht
    refine Ev.bind hf ?_
    refine Ev.bind hLook ?_
    refine Ev.bind hFlap ?_
    refine Ev.bind hWhen ?_
    refine Ev.bind hc ?_
    refine Ev.bind hpl ?_
    simp only [if_true, bne_self_eq_false]
    refine Ev.step (f := _) (fun k => by simp only [patchbaylaw2_DampSays.j0]; rfl) ?_
    simp only [if_true, ew, Bool.false_eq_true, if_false]
    refine Ev.bind (decay_ev a p (now - s) ha ha' h0 (by omega) (by omega) (by omega)) ?_
    refine Ev.bind (heldAt_ev a b c d e p s (now - s) h ha ha' h0 (by omega) (by omega) (by omega)) ?_
    simp only [if_true, ew2, bne_self_eq_false, Bool.false_eq_true, if_false]
    have hfin : ∀ q : Bool, q = false → Ev (fun k => patchbaylaw2_DampSays.j1 k now (s + t) q a b c d e p s h) true := by
      rintro q rfl
      refine Ev.step (f := _) (fun k => by simp only [patchbaylaw2_DampSays.j1]; rfl) ?_
      have e1 : wrap64 (s + t - s) = t := by rw [show s + t - s = t by omega]; exact w64 _ (by omega) (by omega)
      have e2 : wrap64 (wrap64 (s + t - 1) - s) = t - 1 := by rw [w64 (s + t - 1) (by omega) (by omega), show s + t - 1 - s = t - 1 by omega]; exact w64 _ (by omega) (by omega)
      simp only [Bool.false_eq_true, if_false, show s + t ≥ now by omega, if_true, e1, e2]
      refine Ev.bind (heldAt_ev a b c d e p s t h ha ha' h0 (by omega) (by omega) (by omega)) ?_
      simp only [ht2, Bool.false_eq_true, if_false]
      by_cases hq : s + t = now
      · simp only [hq, if_true]; exact Ev.now _
      · simp only [hq, if_false]
        rcases ht3 with ht3 | ht3
        · omega
        · have := heldAt_ev a b c d e p s (t - 1) h ha ha' h0 (by omega) (by omega) (by omega)
          rw [ht3] at this
          exact Ev.bind this (Ev.now _)
    cases hh : hld a d p (now - s) h
    · simp only [Bool.false_or, Bool.false_eq_true, if_false]
      exact hfin _ (by simp)
    · simp only [Bool.true_or, if_true]
      exact hfin _ (by simp)
  · -- something is wrong
    have hLook : Ev (fun k => damp_Look.f k a b c d e p s h now) (0, false, flt a b c d e p s now) := by
      unfold damp_Look.f
      refine Ev.bind hw ?_
      simp only [hok, if_false]
      exact Ev.now _
    have hFlap : Ev (fun k => damp_Flap.f k a b c d e p s h now) (0, 0, false, flt a b c d e p s now) := by
      unfold damp_Flap.f
      refine Ev.bind hLook ?_
      simp only [hok, if_false]
      exact Ev.now _
    have hWhen : Ev (fun k => damp_When.f k a b c d e p s h now) (0, flt a b c d e p s now) := by
      unfold damp_When.f
      refine Ev.bind hw ?_
      simp only [hok, if_false]
      exact Ev.now _
    refine Ev.bind hf ?_
    refine Ev.bind hLook ?_
    refine Ev.bind hFlap ?_
    refine Ev.bind hWhen ?_
    refine Ev.bind hc ?_
    refine Ev.bind hpl ?_
    simp only [if_true, bne_self_eq_false]
    refine Ev.step (f := _) (fun k => by simp only [patchbaylaw2_DampSays.j0]; rfl) ?_
    simp only [Bool.false_eq_true, if_false, hok, if_true]
    exact Ev.now _
end Go.Proofs.Ythifgakeababmaa.PureDamp
