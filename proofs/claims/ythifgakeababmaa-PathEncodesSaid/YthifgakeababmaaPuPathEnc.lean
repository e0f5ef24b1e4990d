/- The plain law of PathEncodes: the route's text, its loop test and what Prepend makes of it are the reference's. -/
import Derived.Test.YthifgakeababmaaPuPath
import Derived.Test.YthifgakeababmaaPrLawPathEncD
namespace Go.Proofs.Ythifgakeababmaa.PuE
open Go Go.RowKit Go.Proofs.Ythifgakeababmaa.Pr Go.Proofs.Ythifgakeababmaa.Pu Go.Proofs.YthifgakeababmaaW.PrintWords Go.Proofs.YthifgakeababmaaW.PrintLast Go.Proofs.YthifgakeababmaaW.PrintMore Go.Proofs.Ythifgakeababmaa.Aux
set_option linter.unusedVariables false
set_option linter.unusedSimpArgs false

/-- The reference's digits. -/
theorem dig_step (k : Nat) (x : Int) (s : ByteArray) (n i : Int) (h : i < n) (hx : 0 ≤ x) (hx' : x ≤ 9223372036854775807) (hs : s.size ≤ 1000) :
    patchbayref2_Digits.l0 (k + 1) x s n i = patchbayref2_Digits.l0 k (x / 256) (strOfNums [x % 256] ++ s) n (wrap64 (i + 1)) := by
  simp only [patchbayref2_Digits.l0]
  rw [if_pos h]
  simp only [Option.bind_some]
  have e1 : Int.tmod x 256 % 256 = x % 256 := by rw [Int.tmod_eq_emod_of_nonneg hx]; omega
  have e2 : wrap64 (Int.tdiv x 256) = x / 256 := by rw [Int.tdiv_eq_ediv_of_nonneg hx]; exact w64 _ (by omega) (by omega)
  rw [e1, e2, if_pos (by rw [strOfNums_size]; simp; omega)]
theorem dig_end (k : Nat) (x : Int) (s : ByteArray) (n i : Int) (h : ¬ i < n) : patchbayref2_Digits.l0 (k + 1) x s n i = some s := by
  simp only [patchbayref2_Digits.l0]; rw [if_neg h]
theorem b1 (x : Int) : bytesOf (strOfNums [x % 256]) = [x % 256] := bytesOf_strOfNums _ (by intro y hy; simp only [List.mem_cons, List.not_mem_nil, or_false] at hy; omega)
theorem z1 (x : Int) (s : ByteArray) : (strOfNums [x % 256] ++ s).size = 1 + s.size := by rw [size_append, strOfNums_size]; rfl

theorem dig1 (x : Int) (hx : 0 ≤ x) (hx' : x ≤ 9223372036854775807) : ∃ s, Ev (fun k => patchbayref2_Digits.f k x 1) s ∧ s.size = 1 ∧ bytesOf s = [x % 256] := by
  refine ⟨strOfNums [x % 256] ++ ⟨#[]⟩, ⟨2, fun k hk => ?_⟩, by rw [z1]; rfl, by rw [bytesOf_append, b1, bytesOf_empty, List.append_nil]⟩
  obtain ⟨k, rfl⟩ : ∃ m, k = m + 1 + 1 := ⟨k - 2, by omega⟩
  unfold patchbayref2_Digits.f
  dsimp only
  rw [dig_step _ _ _ _ _ (by decide) hx hx' (by decide), dig_end _ _ _ _ _ (by unfold wrap64; decide)]
theorem dig2 (x : Int) (hx : 0 ≤ x) (hx' : x ≤ 9223372036854775807) : ∃ s, Ev (fun k => patchbayref2_Digits.f k x 2) s ∧ s.size = 2 ∧ bytesOf s = [x / 256 % 256, x % 256] := by
  refine ⟨strOfNums [x / 256 % 256] ++ (strOfNums [x % 256] ++ ⟨#[]⟩), ⟨3, fun k hk => ?_⟩, by rw [z1, z1]; rfl, by rw [bytesOf_append, bytesOf_append, b1, b1, bytesOf_empty, List.append_nil]; rfl⟩
  obtain ⟨k, rfl⟩ : ∃ m, k = m + 1 + 1 + 1 := ⟨k - 3, by omega⟩
  unfold patchbayref2_Digits.f
  dsimp only
  rw [dig_step _ _ _ _ _ (by decide) hx hx' (by decide), dig_step _ _ _ _ _ (by unfold wrap64; decide) (by omega) (by omega) (by rw [z1]; decide), dig_end _ _ _ _ _ (by unfold wrap64; decide)]
theorem dig4 (x : Int) (hx : 0 ≤ x) (hx' : x ≤ 9223372036854775807) : ∃ s, Ev (fun k => patchbayref2_Digits.f k x 4) s ∧ s.size = 4 ∧ bytesOf s = [x / 16777216 % 256, x / 65536 % 256, x / 256 % 256, x % 256] := by
  refine ⟨strOfNums [x / 256 / 256 / 256 % 256] ++ (strOfNums [x / 256 / 256 % 256] ++ (strOfNums [x / 256 % 256] ++ (strOfNums [x % 256] ++ ⟨#[]⟩))), ⟨5, fun k hk => ?_⟩, by rw [z1, z1, z1, z1]; rfl, ?_⟩
  · obtain ⟨k, rfl⟩ : ∃ m, k = m + 1 + 1 + 1 + 1 + 1 := ⟨k - 5, by omega⟩
    unfold patchbayref2_Digits.f
    dsimp only
    rw [dig_step _ _ _ _ _ (by decide) hx hx' (by decide), dig_step _ _ _ _ _ (by unfold wrap64; decide) (by omega) (by omega) (by rw [z1]; decide), dig_step _ _ _ _ _ (by unfold wrap64; decide) (by omega) (by omega) (by rw [z1, z1]; decide), dig_step _ _ _ _ _ (by unfold wrap64; decide) (by omega) (by omega) (by rw [z1, z1, z1]; decide), dig_end _ _ _ _ _ (by unfold wrap64; decide)]
  · rw [bytesOf_append, bytesOf_append, bytesOf_append, bytesOf_append, b1, b1, b1, b1, bytesOf_empty, List.append_nil]
    have e1 : x / 256 / 256 / 256 = x / 16777216 := by omega
    have e2 : x / 256 / 256 = x / 65536 := by omega
    rw [e1, e2]; rfl


/-! ### the bytes of a route -/
def d2 (n : Int) : List Int := [n / 256 % 256, n % 256]
def d4 (n : Int) : List Int := [n / 16777216 % 256, n / 65536 % 256, n / 256 % 256, n % 256]
def d2s : List Int → List Int
  | [] => []
  | n :: l => d2 n ++ d2s l
theorem d2s_length (l : List Int) : (d2s l).length = 2 * l.length := by
  induction l with
  | nil => rfl
  | cons n l ih => simp only [d2s, d2, List.length_append, ih, List.length_cons, List.length_nil]; omega
def listB (l : List Int) : List Int := [(l.length : Int) % 256] ++ d2s l
def pathB (a b : Int) (way : List Int) (p m : Int) (tags : List Int) : List Int := [b % 256] ++ d4 a ++ d4 p ++ d4 m ++ listB way ++ listB tags

theorem put_step (k : Nat) (acc : List Int) (n : Int) (i : Nat) (hi : i ≤ 8) (ha : acc.length ≤ 1000) :
    path_put.l0 (k + 1) acc n (i : Int) = path_put.l0 k (acc ++ [n / 2 ^ (8 * i) % 256]) n ((i : Int) - 1) := by
  have e1 : wrap64 (8 * (i : Int)) = ((8 * i : Nat) : Int) := by rw [w64 _ (by omega) (by omega)]; omega
  have e2 : wrap64 ((i : Int) - 1) = (i : Int) - 1 := w64 _ (by omega) (by omega)
  simp only [path_put.l0]
  rw [if_pos (by omega), e1, if_pos (by omega), if_pos (by omega), e2]
  unfold shr
  rw [Int.toNat_natCast, Nat.min_eq_left (show 8 * i ≤ IntKind.i64.bits by show 8 * i ≤ 64; omega)]
theorem put_end (k : Nat) (acc : List Int) (n : Int) : path_put.l0 (k + 1) acc n (-1) = some acc := by
  simp only [path_put.l0]; rw [if_neg (by decide)]
theorem put2 (acc : List Int) (n : Int) (ha : acc.length ≤ 900) : Ev (fun k => path_put.f k acc n 2) (acc ++ d2 n) := by
  refine ⟨3, fun k hk => ?_⟩
  obtain ⟨k, rfl⟩ : ∃ m, k = m + 1 + 1 + 1 := ⟨k - 3, by omega⟩
  unfold path_put.f
  dsimp only
  rw [show wrap64 (2 - 1) = ((1 : Nat) : Int) by unfold wrap64; rfl]
  refine (put_step _ _ _ 1 (by omega) (by omega)).trans ?_
  refine (put_step _ _ _ 0 (by omega) (by simp; omega)).trans ((put_end _ _ _).trans ?_)
  simp only [d2, List.append_assoc, List.cons_append, List.nil_append]
  rw [show n / 2 ^ (8 * 0) = n by rw [Nat.mul_zero, Int.pow_zero, Int.ediv_one]]
  rfl
theorem put4 (acc : List Int) (n : Int) (ha : acc.length ≤ 900) : Ev (fun k => path_put.f k acc n 4) (acc ++ d4 n) := by
  refine ⟨5, fun k hk => ?_⟩
  obtain ⟨k, rfl⟩ : ∃ m, k = m + 1 + 1 + 1 + 1 + 1 := ⟨k - 5, by omega⟩
  unfold path_put.f
  dsimp only
  rw [show wrap64 (4 - 1) = ((3 : Nat) : Int) by unfold wrap64; rfl]
  refine (put_step _ _ _ 3 (by omega) (by omega)).trans ?_
  refine (put_step _ _ _ 2 (by omega) (by simp; omega)).trans ?_
  refine (put_step _ _ _ 1 (by omega) (by simp; omega)).trans ?_
  refine (put_step _ _ _ 0 (by omega) (by simp; omega)).trans ((put_end _ _ _).trans ?_)
  simp only [d4, List.append_assoc, List.cons_append, List.nil_append]
  rw [show n / 2 ^ (8 * 0) = n by rw [Nat.mul_zero, Int.pow_zero, Int.ediv_one]]
  rfl

theorem enc_l1 (w3 w5 : List Int) (x37 : Int) (xs : List Int) (hx : xs.length ≤ 32) (r : ByteArray × Int) : ∀ (d i : Nat) (acc : List Int), i + d = xs.length → acc.length + 2 * d ≤ 800 →
    Ev (fun k => path_Encode.l0 k (acc ++ d2s (xs.drop i)) w3 w5 (wrap64 (x37 + 1))) r → Ev (fun k => path_Encode.l1 k acc w3 w5 x37 xs (xs.length : Int) (i : Int)) r := by
  intro d
  induction d with
  | zero =>
    intro i acc hi ha h
    rw [List.drop_eq_nil_of_le (by omega)] at h
    simp only [d2s, List.append_nil] at h
    refine Ev.step (f := fun k => path_Encode.l0 k acc w3 w5 (wrap64 (x37 + 1))) (fun k => ?_) h
    simp only [path_Encode.l1]; rw [if_neg (by omega)]
  | succ d ih =>
    intro i acc hi ha h
    have hlt : i < xs.length := by omega
    rw [drop_cons xs 0 i hlt] at h
    simp only [d2s] at h
    rw [← List.append_assoc] at h
    refine Ev.step (f := fun k => (path_put.f k acc (xs.getD i 0) 2).bind fun t133 => (path_Encode.l1 k t133 w3 w5 x37 xs (xs.length : Int) ((i + 1 : Nat) : Int))) (fun k => ?_) ?_
    · simp only [path_Encode.l1]
      rw [if_pos (by omega), if_pos (by omega), if_pos (by omega), rdi_nat, wnat i (by omega)]
    · refine Ev.bind (put2 acc _ (by omega)) ?_
      exact ih (i + 1) _ (by omega) (by simp [d2]; omega) h

theorem encode_ev (a b : Int) (way : List Int) (p m : Int) (tags : List Int) (ha : 0 ≤ a) (ha' : a < 4294967296) :
    Ev (fun k => path_Encode.f k a b way p m tags) (if pflt a b way p m tags = 0 then (strOfNums (pathB a b way p m tags), 0) else (⟨#[]⟩, pflt a b way p m tags)) := by
  unfold path_Encode.f
  refine Ev.bind (check_ev a b way p m tags ha ha') ?_
  by_cases h : pflt a b way p m tags = 0
  · simp only [h, if_true]
    have hl : way.length ≤ 32 ∧ tags.length ≤ 8 := by
      unfold pflt at h
      by_cases h0 : pfx a b = 0
      · rw [if_pos h0] at h
        by_cases h1 : (way.length : Int) > 32 ∨ (tags.length : Int) > 8
        · rw [if_pos h1] at h; exact absurd h (by decide)
        · omega
      · rw [if_neg h0] at h; exact absurd h h0
    rw [w64 a (by omega) (by omega)]
    refine Ev.bind (put4 _ _ (by simp)) ?_
    refine Ev.bind (put4 _ _ (by simp [d4])) ?_
    refine Ev.bind (put4 _ _ (by simp [d4])) ?_
    have e2 : wrap64 (1 + 1) = 2 := by unfold wrap64; rfl
    have e1 : wrap64 (0 + 1) = 1 := by unfold wrap64; rfl
    have z : ∀ acc : List Int, Ev (fun k => path_Encode.l0 k acc way tags 2) (strOfNums acc, 0) := fun acc =>
      Ev.step (f := fun _ => some (strOfNums acc, 0)) (fun k => by simp only [path_Encode.l0]; rw [if_neg (by decide)]) (Ev.now _)
    obtain ⟨B, hB⟩ : ∃ B : List Int, [b % 256] ++ d4 a ++ d4 p ++ d4 m = B := ⟨_, rfl⟩
    have hBl : B.length = 13 := by rw [← hB]; rfl
    have s1 : Ev (fun k => path_Encode.l0 k (B ++ listB way) way tags 1) (strOfNums (B ++ listB way ++ listB tags), 0) := by
      have hwl : (listB way).length ≤ 65 := by simp only [listB, List.length_append, d2s_length, List.length_cons, List.length_nil]; omega
      refine Ev.step (f := fun k => path_Encode.l1 k (B ++ listB way ++ [(tags.length : Int) % 256]) way tags 1 tags (tags.length : Int) ((0 : Nat) : Int)) (fun k => ?_) ?_
      · simp only [path_Encode.l0]
        rw [if_pos (by decide), if_neg (by decide), if_pos (by decide), if_pos (by simp; omega)]; rfl
      · refine enc_l1 way tags 1 tags (by omega) _ tags.length 0 _ (by omega) (by simp; omega) ?_
        rw [List.drop_zero, e2, List.append_assoc]
        exact z _
    have s0 : Ev (fun k => path_Encode.l0 k B way tags 0) (strOfNums (B ++ listB way ++ listB tags), 0) := by
      refine Ev.step (f := fun k => path_Encode.l1 k (B ++ [(way.length : Int) % 256]) way tags 0 way (way.length : Int) ((0 : Nat) : Int)) (fun k => ?_) ?_
      · simp only [path_Encode.l0]
        rw [if_pos (by decide), if_pos (by decide), if_pos (by omega)]; rfl
      · refine enc_l1 way tags 0 way (by omega) _ way.length 0 _ (by omega) (by simp; omega) ?_
        rw [List.drop_zero, e1, List.append_assoc]
        exact s1
    unfold pathB
    rw [hB]
    exact s0
  · simp only [h, if_false]; exact Ev.now _

/-! ### the reference's text -/
theorem okGet (xs : List Int) (h : rangeB xs = true) (i : Nat) (hi : i < xs.length) : 0 ≤ xs.getD i 0 ∧ xs.getD i 0 ≤ 9223372036854775807 := by
  have := rangeB_get xs h i hi; omega

theorem text_l1 (yss : List (List Int)) (n j : Int) (xs : List Int) (hx : xs.length ≤ 32) (hok : rangeB xs = true) (rest : List Int)
    : ∀ (d i : Nat) (acc : ByteArray), i + d = xs.length → acc.size + 2 * d ≤ 800 →
    (∀ acc' : ByteArray, bytesOf acc' = bytesOf acc ++ d2s (xs.drop i) → acc'.size = acc.size + 2 * d → ∃ t, Ev (fun k => patchbayref2_PathText.l0 k acc' yss n (wrap64 (j + 1))) t ∧ bytesOf t = bytesOf acc' ++ rest) →
    ∃ t, Ev (fun k => patchbayref2_PathText.l1 k acc yss n j xs (xs.length : Int) (i : Int)) t ∧ bytesOf t = bytesOf acc ++ d2s (xs.drop i) ++ rest := by
  intro d
  induction d with
  | zero =>
    intro i acc hi ha h
    rw [List.drop_eq_nil_of_le (by omega)] at h ⊢
    simp only [d2s, List.append_nil] at h ⊢
    obtain ⟨t, ev, ht⟩ := h acc rfl (by omega)
    refine ⟨t, Ev.step (f := fun k => patchbayref2_PathText.l0 k acc yss n (wrap64 (j + 1))) (fun k => ?_) ev, ht⟩
    simp only [patchbayref2_PathText.l1]; rw [if_neg (by omega)]
  | succ d ih =>
    intro i acc hi ha h
    have hlt : i < xs.length := by omega
    have hg := okGet xs hok i hlt
    obtain ⟨s, evs, hs, hbs⟩ := dig2 (xs.getD i 0) hg.1 hg.2
    rw [drop_cons xs 0 i hlt] at h ⊢
    simp only [d2s] at h ⊢
    have hb' : bytesOf (acc ++ s) = bytesOf acc ++ d2 (xs.getD i 0) := by rw [bytesOf_append, hbs]; rfl
    have hz : (acc ++ s).size = acc.size + 2 := by rw [size_append, hs]
    obtain ⟨t, ev, ht⟩ := ih (i + 1) (acc ++ s) (by omega) (by omega) (fun acc' h1 h2 => h acc' (by rw [h1, hb', List.append_assoc]) (by omega))
    refine ⟨t, Ev.step (f := fun k => (patchbayref2_Digits.f k (xs.getD i 0) 2).bind fun t228 => (if acc.size + t228.size ≤ 9223372036854775807 then (patchbayref2_PathText.l1 k (acc ++ t228) yss n j xs (xs.length : Int) ((i + 1 : Nat) : Int)) else (none))) (fun k => ?_) ?_, ?_⟩
    · simp only [patchbayref2_PathText.l1]
      rw [if_pos (by omega), if_pos (by omega), if_pos (by omega), rdi_nat, wnat i (by omega)]
    · exact Ev.bind evs (Ev.if_pos (by omega) ev)
    · rw [ht, hb', List.append_assoc (bytesOf acc)]

theorem text_ev (a b : Int) (way : List Int) (p m : Int) (tags : List Int) (ha : 0 ≤ a) (ha' : a < 4294967296) (h : pflt a b way p m tags = 0) :
    ∃ t, Ev (fun k => patchbayref2_PathText.f k a b way p m tags) t ∧ bytesOf t = pathB a b way p m tags := by
  have hp : (way.length ≤ 32 ∧ tags.length ≤ 8) ∧ rangeB way = true ∧ rangeB tags = true ∧ 0 ≤ p ∧ p ≤ 1000000 ∧ 0 ≤ m ∧ m ≤ 1000000 ∧ 0 ≤ b ∧ b ≤ 32 := by
    unfold pflt at h
    by_cases h0 : pfx a b = 0
    · have hb : 0 ≤ b ∧ b ≤ 32 := by
        unfold pfx at h0
        by_cases h2 : b < 0 ∨ b > 32
        · rw [if_pos h2] at h0; exact absurd h0 (by decide)
        · omega
      rw [if_pos h0] at h
      by_cases h1 : (way.length : Int) > 32 ∨ (tags.length : Int) > 8
      · rw [if_pos h1] at h; exact absurd h (by decide)
      · rw [if_neg h1] at h
        by_cases h2 : rangeB way = true ∧ rangeB tags = true
        · rw [if_pos h2] at h
          by_cases h3 : p < 0 ∨ p > 1000000 ∨ m < 0 ∨ m > 1000000
          · rw [if_pos h3] at h; exact absurd h (by decide)
          · exact ⟨by omega, h2.1, h2.2, by omega, by omega, by omega, by omega, by omega, by omega⟩
        · rw [if_neg h2] at h; exact absurd h (by decide)
    · rw [if_neg h0] at h; exact absurd h h0
  obtain ⟨hl, hw, ht, p0, p1, m0, m1, b0, b1'⟩ := hp
  unfold patchbayref2_PathText.f
  obtain ⟨s1, ev1, z1, e1⟩ := dig1 b (by omega) (by omega)
  obtain ⟨s2, ev2, z2, e2⟩ := dig4 a (by omega) (by omega)
  obtain ⟨s3, ev3, z3, e3⟩ := dig4 p (by omega) (by omega)
  obtain ⟨s4, ev4, z4, e4⟩ := dig4 m (by omega) (by omega)
  rw [w64 a (by omega) (by omega)]
  obtain ⟨B, hB⟩ : ∃ B : ByteArray, s1 ++ s2 ++ s3 ++ s4 = B := ⟨_, rfl⟩
  have hBz : B.size = 13 := by rw [← hB, size_append, size_append, size_append, z1, z2, z3, z4]
  have hBb : bytesOf B = [b % 256] ++ d4 a ++ d4 p ++ d4 m := by rw [← hB, bytesOf_append, bytesOf_append, bytesOf_append, e1, e2, e3, e4]; rfl
  have w2 : wrap64 (1 + 1) = 2 := by unfold wrap64; rfl
  have w1 : wrap64 (0 + 1) = 1 := by unfold wrap64; rfl
  have t2 : ∀ acc : ByteArray, ∃ t, Ev (fun k => patchbayref2_PathText.l0 k acc [way, tags] 2 2) t ∧ bytesOf t = bytesOf acc ++ [] := fun acc =>
    ⟨acc, Ev.step (f := fun _ => some acc) (fun k => by simp only [patchbayref2_PathText.l0]; rw [if_neg (by decide)]) (Ev.now _), by rw [List.append_nil]⟩
  have one : ∀ (acc : ByteArray) (xs : List Int) (i : Nat) (rest : List Int), xs.length ≤ 32 → rangeB xs = true → acc.size ≤ 200 → i < 2 → rd_L2 [way, tags] (i : Int) = xs →
      (∀ acc' : ByteArray, acc'.size ≤ acc.size + 65 → ∃ t, Ev (fun k => patchbayref2_PathText.l0 k acc' [way, tags] 2 (wrap64 ((i : Int) + 1))) t ∧ bytesOf t = bytesOf acc' ++ rest) →
      ∃ t, Ev (fun k => patchbayref2_PathText.l0 k acc [way, tags] 2 (i : Int)) t ∧ bytesOf t = bytesOf acc ++ listB xs ++ rest := by
    intro acc xs i rest hx hr ha hi hrd hc
    obtain ⟨s, evs, hs, hbs⟩ := dig1 (xs.length : Int) (by omega) (by omega)
    have hz : (acc ++ s).size = acc.size + 1 := by rw [size_append, hs]
    obtain ⟨t, ev, hbt⟩ := text_l1 [way, tags] 2 (i : Int) xs hx hr rest xs.length 0 (acc ++ s) (by omega) (by omega) (fun acc' h1 h2 => hc acc' (by omega))
    refine ⟨t, Ev.step (f := fun k => (patchbayref2_Digits.f k (xs.length : Int) 1).bind fun t226 => (if acc.size + t226.size ≤ 9223372036854775807 then (patchbayref2_PathText.l1 k (acc ++ t226) [way, tags] 2 (i : Int) xs (xs.length : Int) ((0 : Nat) : Int)) else (none))) (fun k => ?_) ?_, ?_⟩
    · simp only [patchbayref2_PathText.l0]
      rw [if_pos (by omega), if_pos (by omega), if_pos (by simp; omega), hrd]; rfl
    · exact Ev.bind evs (Ev.if_pos (by omega) ev)
    · rw [hbt, bytesOf_append, hbs, List.drop_zero]; unfold listB; rw [List.append_assoc (bytesOf acc)]
  obtain ⟨t, ev, hbt⟩ := one B way 0 (listB tags ++ []) hl.1 hw (by omega) (by omega) rfl (fun acc' h1 => by
    obtain ⟨t, ev, hbt⟩ := one acc' tags 1 [] (by omega) ht (by omega) (by omega) rfl (fun acc'' _ => by
      have := t2 acc''
      rw [show wrap64 (((1 : Nat) : Int) + 1) = 2 from w2]
      exact this)
    refine ⟨t, ?_, by rw [hbt, List.append_assoc]⟩
    rw [show wrap64 (((0 : Nat) : Int) + 1) = ((1 : Nat) : Int) from w1]
    exact ev)
  refine ⟨t, ?_, ?_⟩
  · refine Ev.bind ev1 (Ev.bind ev2 (Ev.if_pos (by omega) (Ev.bind ev3 (Ev.if_pos (by rw [size_append]; omega) (Ev.bind ev4 (Ev.if_pos (by rw [size_append, size_append]; omega) ?_))))))
    rw [hB]
    exact ev
  · rw [hbt, hBb, List.append_nil]
    unfold pathB
    simp only [List.append_assoc]

/-! ### loops and Prepend -/
theorem idx_loop (xs : List Int) (a : Int) (hx : xs.length ≤ 1000) : ∀ (d i : Nat), i + d = xs.length →
    ∃ r, Ev (fun k => slices_Index_int_int.l0 k xs a (xs.length : Int) (i : Int)) r ∧ decide (r ≥ 0) = decide (a ∈ xs.drop i) := by
  intro d
  induction d with
  | zero =>
    intro i hi
    refine ⟨-1, Ev.step (f := fun _ => some (-1)) (fun k => ?_) (Ev.now _), ?_⟩
    · simp only [slices_Index_int_int.l0]; rw [if_neg (by omega)]
    · rw [List.drop_eq_nil_of_le (by omega)]; simp
  | succ d ih =>
    intro i hi
    have hlt : i < xs.length := by omega
    rw [drop_cons xs 0 i hlt]
    obtain ⟨c, hc⟩ : ∃ c, xs.getD i 0 = c := ⟨_, rfl⟩
    rw [hc]
    by_cases h : a = c
    · refine ⟨(i : Int), Ev.step (f := fun _ => some (i : Int)) (fun k => ?_) (Ev.now _), ?_⟩
      · simp only [slices_Index_int_int.l0]
        rw [if_pos (by omega), if_pos (by omega), if_pos (by omega), rdi_nat, hc, if_pos h]
      · have : (i : Int) ≥ 0 := by omega
        simp [h, this]
    · obtain ⟨r, ev, hr⟩ := ih (i + 1) (by omega)
      refine ⟨r, Ev.step (f := fun k => slices_Index_int_int.l0 k xs a (xs.length : Int) ((i + 1 : Nat) : Int)) (fun k => ?_) ev, ?_⟩
      · simp only [slices_Index_int_int.l0]
        rw [if_pos (by omega), if_pos (by omega), if_pos (by omega), rdi_nat, hc, if_neg h, wnat i (by omega)]
      · rw [hr]; simp [h]
theorem has_ev (xs : List Int) (a : Int) (hx : xs.length ≤ 1000) : Ev (fun k => slices_Contains_int_int.f k xs a) (decide (a ∈ xs)) := by
  obtain ⟨r, ev, hr⟩ := idx_loop xs a hx xs.length 0 (by omega)
  unfold slices_Contains_int_int.f
  have ev' : Ev (fun k => slices_Index_int_int.f k xs a) r := ev
  refine Ev.bind ev' ?_
  rw [hr, List.drop_zero]
  exact Ev.now _

/-- What is wrong with a route and a domain. -/
def flt2 (f x : Int) : Int := if f = 0 then (if x < 1 ∨ x > 65535 then 10 else 0) else f
theorem wrong_ev (a b : Int) (way : List Int) (p m : Int) (tags : List Int) (x : Int) (ha : 0 ≤ a) (ha' : a < 4294967296) : Ev (fun k => path_wrong.f k a b way p m tags x) (flt2 (pflt a b way p m tags) x) := by
  unfold path_wrong.f flt2
  refine Ev.bind (check_ev a b way p m tags ha ha') ?_
  by_cases h : pflt a b way p m tags = 0
  · simp only [h, if_true]
    by_cases h1 : x < 1
    · simp only [h1, if_true, true_or]; exact Ev.now _
    · by_cases h2 : x > 65535
      · simp only [h1, h2, if_true, if_false, or_true]; exact Ev.now _
      · simp only [h1, h2, if_false, or_self]; exact Ev.now _
  · simp only [h, if_false]; exact Ev.now _
theorem loop_ev (a b : Int) (way : List Int) (p m : Int) (tags : List Int) (x : Int) (ha : 0 ≤ a) (ha' : a < 4294967296) (hw : way.length ≤ 1000) :
    Ev (fun k => path_Loop.f k a b way p m tags x) (if flt2 (pflt a b way p m tags) x = 0 then (decide (x ∈ way), 0) else (false, flt2 (pflt a b way p m tags) x)) := by
  unfold path_Loop.f
  refine Ev.bind (wrong_ev a b way p m tags x ha ha') ?_
  by_cases h : flt2 (pflt a b way p m tags) x = 0
  · simp only [h, if_true]
    exact Ev.bind (has_ev way x hw) (Ev.now _)
  · simp only [h, if_false]; exact Ev.now _

theorem cat_ev (xs ys : List Int) (h1 : xs.length ≤ 1000) (h2 : ys.length ≤ 1000) : Ev (fun k => slices_Concat_int_int.f k [xs, ys]) (xs ++ ys) := by
  unfold slices_Concat_int_int.f
  have e1 : wrap64 (0 + 1) = 1 := by unfold wrap64; rfl
  have e2 : wrap64 (1 + 1) = 2 := by unfold wrap64; rfl
  have r0 : rd_L2 [xs, ys] 0 = xs := rfl
  have r1 : rd_L2 [xs, ys] 1 = ys := rfl
  have l0 : (([xs, ys] : List (List Int)).length : Int) = 2 := rfl
  rw [l0]
  refine Ev.step (f := fun k => slices_Concat_int_int.l0 k [xs, ys] ((xs.length : Nat) : Int) [xs, ys] 2 1) (fun k => ?_) ?_
  · simp only [slices_Concat_int_int.l0]
    rw [if_pos (by decide), if_pos (by decide), if_pos (by rw [l0]; decide), r0, e1, w64 (0 + (xs.length : Int)) (by omega) (by omega), if_neg (by omega), Int.zero_add]
  refine Ev.step (f := fun k => slices_Concat_int_int.l0 k [xs, ys] ((xs.length : Int) + (ys.length : Int)) [xs, ys] 2 2) (fun k => ?_) ?_
  · simp only [slices_Concat_int_int.l0]
    rw [if_pos (by decide), if_pos (by decide), if_pos (by rw [l0]; decide), r1, e2, w64 ((xs.length : Int) + (ys.length : Int)) (by omega) (by omega), if_neg (by omega)]
  refine Ev.step (f := fun k => slices_Concat_int_int.l1 k [] [xs, ys] 2 0) (fun k => ?_) ?_
  · simp only [slices_Concat_int_int.l0]
    rw [if_neg (by decide)]
    unfold slices_Grow_int_int.f
    rw [if_pos ⟨rfl, by omega, by omega⟩]
    rfl
  refine Ev.step (f := fun k => slices_Concat_int_int.l1 k xs [xs, ys] 2 1) (fun k => ?_) ?_
  · simp only [slices_Concat_int_int.l1]
    rw [if_pos (by decide), if_pos (by decide), if_pos (by rw [l0]; decide), r0, e1, if_pos (by simp; omega), List.nil_append]
  refine Ev.step (f := fun k => slices_Concat_int_int.l1 k (xs ++ ys) [xs, ys] 2 2) (fun k => ?_) ?_
  · simp only [slices_Concat_int_int.l1]
    rw [if_pos (by decide), if_pos (by decide), if_pos (by rw [l0]; decide), r1, e2, if_pos (by omega)]
  refine Ev.step (f := fun _ => some (xs ++ ys)) (fun k => ?_) (Ev.now _)
  simp only [slices_Concat_int_int.l1]
  rw [if_neg (by decide)]

abbrev Rt := Int × Int × List Int × Int × Int × List Int × Int
def errT (e : Int) : Rt := (0, 0, [], 0, 0, [], e)
/-- What Prepend makes of a route: 'g' is what is wrong with it and the domain. -/
def flt3 (g : Int) (n : Int) (way : List Int) : Int := if g = 0 then (if n < 0 ∨ n > 32 then 10 else if n + (way.length : Int) > 32 then 2 else 0) else g
def preT (a b : Int) (way : List Int) (p m : Int) (tags : List Int) (x n : Int) : Rt :=
  let g := flt3 (flt2 (pflt a b way p m tags) x) n way
  if g = 0 then (a, b, List.replicate n.toNat x ++ way, p, m, tags, 0) else errT g
theorem pre_ev (a b : Int) (way : List Int) (p m : Int) (tags : List Int) (x n : Int) (ha : 0 ≤ a) (ha' : a < 4294967296) (hw : way.length ≤ 1000) (ht : tags.length ≤ 1000) :
    Ev (fun k => path_Prepend.f k a b way p m tags x n) (preT a b way p m tags x n) := by
  unfold path_Prepend.f preT
  refine Ev.bind (wrong_ev a b way p m tags x ha ha') ?_
  by_cases h : flt2 (pflt a b way p m tags) x = 0
  · simp only [h, if_true]
    unfold flt3
    simp only [if_true]
    have bad : Ev (fun k => path_Prepend.j0 k x n true a b way p m tags) (errT 10) := Ev.step (f := fun _ => some (errT 10)) (fun k => by simp only [path_Prepend.j0, if_true]; rfl) (Ev.now _)
    by_cases h1 : n < 0
    · simp only [h1, if_true, true_or]
      exact bad
    simp only [h1, if_false, false_or]
    by_cases h2 : n > 32
    · simp only [h2, decide_true, if_true]
      exact bad
    simp only [h2, decide_false, if_false]
    have ew : wrap64 (n + (way.length : Int)) = n + (way.length : Int) := w64 _ (by omega) (by omega)
    by_cases h3 : n + (way.length : Int) > 32
    · simp only [h3, if_true]
      refine Ev.step (f := fun _ => some (errT 2)) (fun k => ?_) (Ev.now _)
      simp only [path_Prepend.j0, Bool.false_eq_true, if_false]
      rw [ew, if_pos h3]; rfl
    · simp only [h3, if_false]
      refine Ev.step (f := fun k => (slices_Repeat_int_int.f (([x] : List Int)) n).bind fun t252 => ((slices_Concat_int_int.f k (([t252, way] : List (List Int)))).bind fun t258 => ((slices_Clone_int_int.f tags).bind fun t261 => (some (a, b, t258, p, m, t261, 0))))) (fun k => ?_) ?_
      · simp only [path_Prepend.j0, Bool.false_eq_true, if_false]
        rw [ew, if_neg h3]
      · have e1 : slices_Repeat_int_int.f [x] n = some (List.replicate n.toNat x) := by
          unfold slices_Repeat_int_int.f
          rw [if_pos ⟨rfl, by omega, by omega⟩]; rfl
        have e2 : slices_Clone_int_int.f tags = some tags := by
          unfold slices_Clone_int_int.f
          rw [if_pos (by omega)]
        rw [e1, e2]
        simp only [Option.bind_some]
        exact Ev.bind (cat_ev _ _ (by rw [List.length_replicate]; omega) hw) (Ev.now _)
  · simp only [h, if_false]
    unfold flt3
    simp only [h, if_false]
    exact Ev.now _

/-! ### the law -/
theorem flag_loop (x1 x2 x7 x9 : Int) (x10 : Bool) (x12 : Int) (xs : List Int) (hx : xs.length ≤ 1000) (a b : Int) (way : List Int) (p m : Int) (tags : List Int) (q0 q1 : Int) (q2 : List Int) (q3 q4 : Int) (q5 : List Int) (r : Bool) :
    ∀ (d i : Nat) (q : Bool), i + d = xs.length →
    Ev (fun k => patchbaylaw2_PathEncodes.l0 k x1 x2 x7 x9 x10 x12 (q || decide (x1 ∈ xs.drop i)) xs (xs.length : Int) (xs.length : Int) a b way p m tags q0 q1 q2 q3 q4 q5) r →
    Ev (fun k => patchbaylaw2_PathEncodes.l0 k x1 x2 x7 x9 x10 x12 q xs (xs.length : Int) (i : Int) a b way p m tags q0 q1 q2 q3 q4 q5) r := by
  intro d
  induction d with
  | zero =>
    intro i q hi h
    rw [List.drop_eq_nil_of_le (by omega)] at h
    rw [show (i : Int) = (xs.length : Int) by omega]
    simpa using h
  | succ d ih =>
    intro i q hi h
    have hlt : i < xs.length := by omega
    rw [drop_cons xs 0 i hlt] at h
    obtain ⟨c, hc⟩ : ∃ c, xs.getD i 0 = c := ⟨_, rfl⟩
    rw [hc] at h
    cases q with
    | true =>
      refine Ev.step (f := fun k => patchbaylaw2_PathEncodes.l0 k x1 x2 x7 x9 x10 x12 true xs (xs.length : Int) ((i + 1 : Nat) : Int) a b way p m tags q0 q1 q2 q3 q4 q5) (fun k => ?_) ?_
      · simp only [patchbaylaw2_PathEncodes.l0]
        rw [if_pos (by omega), if_pos (by omega), if_pos (by omega), wnat i (by omega)]; rfl
      · refine ih (i + 1) true (by omega) ?_
        simpa using h
    | false =>
      refine Ev.step (f := fun k => patchbaylaw2_PathEncodes.l0 k x1 x2 x7 x9 x10 x12 (c == x1) xs (xs.length : Int) ((i + 1 : Nat) : Int) a b way p m tags q0 q1 q2 q3 q4 q5) (fun k => ?_) ?_
      · simp only [patchbaylaw2_PathEncodes.l0]
        rw [if_pos (by omega), if_pos (by omega), if_pos (by omega), rdi_nat, hc, wnat i (by omega)]; rfl
      · refine ih (i + 1) (c == x1) (by omega) ?_
        have e : (c == x1 || decide (x1 ∈ xs.drop (i + 1))) = (false || decide (x1 ∈ c :: xs.drop (i + 1))) := by
          by_cases h1 : c = x1
          · simp [h1]
          · have h2 : ¬ x1 = c := fun h => h1 h.symm
            simp [h1, h2]
        rw [e]; exact h

theorem rep_loop (x1 : Int) (n : Nat) (hn : n ≤ 32) (a b : Int) (way : List Int) (p m : Int) (tags : List Int) (hw : way.length ≤ 1000) (ht : tags.length ≤ 1000) :
    ∀ (d i : Nat), i + d = n →
    Ev (fun k => patchbaylaw2_PathEncodes.l1 k x1 0 (List.replicate i x1) (n : Int) (i : Int) a b way p m tags a b (List.replicate n x1 ++ way) p m tags) true := by
  intro d
  induction d with
  | zero =>
    intro i hi
    obtain rfl : i = n := by omega
    refine Ev.step (f := fun k => (patchbayref2_SamePath.f k a b (List.replicate i x1 ++ way) p m tags a b (List.replicate i x1 ++ way) p m tags).bind fun t299 => (some t299)) (fun k => ?_) ?_
    · simp only [patchbaylaw2_PathEncodes.l1]
      rw [if_neg (by omega), if_pos (by rw [List.length_replicate]; omega), if_pos trivial]
    · exact Ev.bind (same_path _ _ _ _ _ _ (by rw [List.length_append, List.length_replicate]; omega) (by omega)) (Ev.now _)
  | succ d ih =>
    intro i hi
    refine Ev.step (f := fun k => patchbaylaw2_PathEncodes.l1 k x1 0 (List.replicate (i + 1) x1) (n : Int) ((i + 1 : Nat) : Int) a b way p m tags a b (List.replicate n x1 ++ way) p m tags) (fun k => ?_) (ih (i + 1) (by omega))
    simp only [patchbaylaw2_PathEncodes.l1]
    rw [if_pos (by omega), if_pos (by rw [List.length_replicate]; omega), wnat i (by omega), List.replicate_succ']

theorem tail_ev (a b : Int) (way : List Int) (p m : Int) (tags : List Int) (x1 x2 : Int) (ha : 0 ≤ a) (ha' : a < 4294967296) (hw : way.length ≤ 1000) (ht : tags.length ≤ 1000) :
    Ev (fun k => patchbaylaw2_PathEncodes.j0 k x1 x2 (pflt a b way p m tags) false a b way p m tags) true := by
  obtain ⟨F, hF⟩ : ∃ F, pflt a b way p m tags = F := ⟨_, rfl⟩
  have hL := loop_ev a b way p m tags x1 ha ha' hw
  have hP := pre_ev a b way p m tags x1 x2 ha ha' hw ht
  rw [hF] at hL ⊢
  unfold preT at hP
  rw [hF] at hP
  obtain ⟨G, hG⟩ : ∃ G, flt2 F x1 = G := ⟨_, rfl⟩
  rw [hG] at hL hP
  obtain ⟨E, hE⟩ : ∃ E, flt3 G x2 way = E := ⟨_, rfl⟩
  dsimp only at hP
  rw [hE] at hP
  obtain ⟨⟨lb, le⟩, hLe⟩ : ∃ q : Bool × Int, (if G = 0 then (decide (x1 ∈ way), (0 : Int)) else (false, G)) = q := ⟨_, rfl⟩
  rw [hLe] at hL
  obtain ⟨⟨q0, q1, q2, q3, q4, q5, x12⟩, hq⟩ : ∃ q : Rt, (if E = 0 then (a, b, List.replicate x2.toNat x1 ++ way, p, m, tags, (0 : Int)) else errT E) = q := ⟨_, rfl⟩
  rw [hq] at hP
  -- the last: the reference's own list
  have s8 : Ev (fun k => patchbaylaw2_PathEncodes.j8 k x1 x2 E x12 a b way p m tags q0 q1 q2 q3 q4 q5) true := by
    by_cases h : E = 0
    · rw [if_pos h] at hq
      simp only [Prod.mk.injEq] at hq
      obtain ⟨rfl, rfl, rfl, rfl, rfl, rfl, rfl⟩ := hq
      subst h
      have hr : 0 ≤ x2 ∧ x2 ≤ 32 := by
        unfold flt3 at hE
        by_cases g : G = 0
        · rw [if_pos g] at hE
          by_cases g2 : x2 < 0 ∨ x2 > 32
          · rw [if_pos g2] at hE; exact absurd hE (by decide)
          · omega
        · rw [if_neg g] at hE; exact absurd hE g
      obtain ⟨n, rfl⟩ := Int.eq_ofNat_of_zero_le hr.1
      refine Ev.step (f := fun k => patchbaylaw2_PathEncodes.l1 k x1 0 ([] : List Int) (n : Int) 0 a b way p m tags a b (List.replicate n x1 ++ way) p m tags) (fun k => ?_) ?_
      · simp only [patchbaylaw2_PathEncodes.j8, if_true, Int.toNat_natCast]
      · exact rep_loop x1 n (by omega) a b way p m tags hw ht n 0 (by omega)
    · rw [if_neg h] at hq
      unfold errT at hq
      simp only [Prod.mk.injEq] at hq
      obtain ⟨rfl, rfl, rfl, rfl, rfl, rfl, rfl⟩ := hq
      refine Ev.step (f := fun k => (patchbayref2_SamePath.f k 0 0 ([] : List Int) 0 0 ([] : List Int) 0 0 ([] : List Int) 0 0 ([] : List Int)).bind fun t292 => (some t292)) (fun k => ?_) ?_
      · simp only [patchbaylaw2_PathEncodes.j8, h, if_false, if_true]
      · exact Ev.bind (same_path _ _ _ _ _ _ (by simp) (by simp)) (Ev.now _)
  -- times
  have s6 : ∀ E2, (if E2 = 0 then (if x2 + (way.length : Int) > 32 then 2 else 0) else E2) = E → (E2 = 0 → 0 ≤ x2 ∧ x2 ≤ 32) → Ev (fun k => patchbaylaw2_PathEncodes.j6 k x1 x2 E2 x12 a b way p m tags q0 q1 q2 q3 q4 q5) true := by
    intro E2 h2 hr
    by_cases h0 : E2 = 0
    · have hr := hr h0
      subst h0
      rw [if_pos rfl] at h2
      have ew : wrap64 (x2 + (way.length : Int)) = x2 + (way.length : Int) := w64 _ (by omega) (by omega)
      by_cases h3 : x2 + (way.length : Int) > 32
      · rw [if_pos h3] at h2
        refine Ev.step (f := fun k => patchbaylaw2_PathEncodes.j7 k x1 x2 0 x12 true a b way p m tags q0 q1 q2 q3 q4 q5) (fun k => ?_) ?_
        · simp only [patchbaylaw2_PathEncodes.j6, if_true, ew, h3, decide_true]
        · rw [← h2] at s8
          exact Ev.step (f := fun k => patchbaylaw2_PathEncodes.j8 k x1 x2 2 x12 a b way p m tags q0 q1 q2 q3 q4 q5) (fun k => by simp only [patchbaylaw2_PathEncodes.j7, if_true]) s8
      · rw [if_neg h3] at h2
        refine Ev.step (f := fun k => patchbaylaw2_PathEncodes.j7 k x1 x2 0 x12 false a b way p m tags q0 q1 q2 q3 q4 q5) (fun k => ?_) ?_
        · simp only [patchbaylaw2_PathEncodes.j6, if_true, ew, h3, decide_false]
        · rw [← h2] at s8
          exact Ev.step (f := fun k => patchbaylaw2_PathEncodes.j8 k x1 x2 0 x12 a b way p m tags q0 q1 q2 q3 q4 q5) (fun k => by simp only [patchbaylaw2_PathEncodes.j7, Bool.false_eq_true, if_false]) s8
    · rw [if_neg h0] at h2
      subst h2
      refine Ev.step (f := fun k => patchbaylaw2_PathEncodes.j7 k x1 x2 E2 x12 false a b way p m tags q0 q1 q2 q3 q4 q5) (fun k => ?_) ?_
      · simp only [patchbaylaw2_PathEncodes.j6, h0, if_false]
      · exact Ev.step (f := fun k => patchbaylaw2_PathEncodes.j8 k x1 x2 E2 x12 a b way p m tags q0 q1 q2 q3 q4 q5) (fun k => by simp only [patchbaylaw2_PathEncodes.j7, Bool.false_eq_true, if_false]) s8
  have s4 : Ev (fun k => patchbaylaw2_PathEncodes.j4 k x1 x2 G x12 false a b way p m tags q0 q1 q2 q3 q4 q5) true := by
    have t5 : Ev (fun k => patchbaylaw2_PathEncodes.j5 k x1 x2 G x12 (decide (G = 0 ∧ (x2 < 0 ∨ x2 > 32))) a b way p m tags q0 q1 q2 q3 q4 q5) true := by
      by_cases h : G = 0 ∧ (x2 < 0 ∨ x2 > 32)
      · refine Ev.step (f := fun k => patchbaylaw2_PathEncodes.j6 k x1 x2 10 x12 a b way p m tags q0 q1 q2 q3 q4 q5) (fun k => ?_) ?_
        · simp only [patchbaylaw2_PathEncodes.j5, h, decide_true, if_true, and_self]
        · refine s6 10 ?_ (fun h => absurd h (by decide))
          rw [if_neg (by decide), ← hE]; unfold flt3; rw [if_pos h.1, if_pos h.2]
      · refine Ev.step (f := fun k => patchbaylaw2_PathEncodes.j6 k x1 x2 G x12 a b way p m tags q0 q1 q2 q3 q4 q5) (fun k => ?_) ?_
        · simp only [patchbaylaw2_PathEncodes.j5, h, decide_false, Bool.false_eq_true, if_false]
        · refine s6 G ?_ (fun h0 => by omega)
          rw [← hE]; unfold flt3
          by_cases h0 : G = 0
          · rw [if_pos h0, if_pos h0, if_neg (show ¬ (x2 < 0 ∨ x2 > 32) by omega)]
          · rw [if_neg h0, if_neg h0]
    refine Ev.step (f := fun k => patchbaylaw2_PathEncodes.j5 k x1 x2 G x12 (decide (G = 0 ∧ (x2 < 0 ∨ x2 > 32))) a b way p m tags q0 q1 q2 q3 q4 q5) (fun k => ?_) t5
    simp only [patchbaylaw2_PathEncodes.j4, Bool.false_eq_true, if_false]
    by_cases h0 : G = 0
    · rw [if_pos h0]
      by_cases h1 : x2 < 0
      · rw [if_pos h1, show decide (G = 0 ∧ (x2 < 0 ∨ x2 > 32)) = true from decide_eq_true ⟨h0, .inl h1⟩]
      · rw [if_neg h1]
        congr 1
        by_cases h2 : x2 > 32
        · simp [h0, h2]
        · simp [h0, h1, h2]
    · rw [if_neg h0, show decide (G = 0 ∧ (x2 < 0 ∨ x2 > 32)) = false from decide_eq_false (fun h => h0 h.1)]
  have s2 : Ev (fun k => patchbaylaw2_PathEncodes.j2 k x1 x2 G le lb x12 a b way p m tags q0 q1 q2 q3 q4 q5) true := by
    refine Ev.step (f := fun k => patchbaylaw2_PathEncodes.l0 k x1 x2 G le lb x12 false way (way.length : Int) ((0 : Nat) : Int) a b way p m tags q0 q1 q2 q3 q4 q5) (fun k => by simp only [patchbaylaw2_PathEncodes.j2]; rfl) ?_
    refine flag_loop x1 x2 G le lb x12 way hw a b way p m tags q0 q1 q2 q3 q4 q5 true way.length 0 false (by omega) ?_
    refine Ev.step (f := fun k => patchbaylaw2_PathEncodes.j4 k x1 x2 G x12 false a b way p m tags q0 q1 q2 q3 q4 q5) (fun k => ?_) s4
    simp only [patchbaylaw2_PathEncodes.l0]
    rw [if_neg (by omega), List.drop_zero, Bool.false_or]
    by_cases h0 : G = 0
    · rw [if_pos h0] at hLe
      simp only [Prod.mk.injEq] at hLe
      obtain ⟨rfl, rfl⟩ := hLe
      rw [if_pos h0.symm, if_pos h0, bne_self_eq_false]
    · rw [if_neg h0] at hLe
      simp only [Prod.mk.injEq] at hLe
      obtain ⟨rfl, rfl⟩ := hLe
      rw [if_pos rfl, if_neg h0, bne_self_eq_false]
  have s1 : Ev (fun k => patchbaylaw2_PathEncodes.j1 k x1 x2 F le lb x12 (decide (F = 0 ∧ (x1 < 1 ∨ x1 > 65535))) a b way p m tags q0 q1 q2 q3 q4 q5) true := by
    refine Ev.step (f := fun k => patchbaylaw2_PathEncodes.j2 k x1 x2 G le lb x12 a b way p m tags q0 q1 q2 q3 q4 q5) (fun k => ?_) s2
    simp only [patchbaylaw2_PathEncodes.j1, decide_eq_true_eq]
    rw [← hG]
    unfold flt2
    by_cases h0 : F = 0
    · by_cases h1 : x1 < 1 ∨ x1 > 65535
      · rw [if_pos ⟨h0, h1⟩, if_pos h0, if_pos h1]
      · rw [if_neg (fun h => h1 h.2), if_pos h0, if_neg h1, h0]
    · rw [if_neg (fun h => h0 h.1), if_neg h0]
  refine Ev.step (f := fun k => (path_Loop.f k a b way p m tags x1).bind fun bt277 => ((path_Prepend.f k a b way p m tags x1 x2).bind fun bt279 => (patchbaylaw2_PathEncodes.j1 k x1 x2 F bt277.2 bt277.1 bt279.2.2.2.2.2.2 (decide (F = 0 ∧ (x1 < 1 ∨ x1 > 65535))) a b way p m tags bt279.1 bt279.2.1 bt279.2.2.1 bt279.2.2.2.1 bt279.2.2.2.2.1 bt279.2.2.2.2.2.1))) (fun k => ?_) ?_
  · simp only [patchbaylaw2_PathEncodes.j0, Bool.false_eq_true, if_false]
    congr 1
    funext u
    congr 1
    funext v
    by_cases h0 : F = 0
    · rw [if_pos h0]
      by_cases h1 : x1 < 1
      · rw [if_pos h1, show decide (F = 0 ∧ (x1 < 1 ∨ x1 > 65535)) = true from decide_eq_true ⟨h0, .inl h1⟩]
      · rw [if_neg h1]
        congr 1
        by_cases h2 : x1 > 65535
        · simp [h0, h2]
        · simp [h0, h1, h2]
    · rw [if_neg h0, show decide (F = 0 ∧ (x1 < 1 ∨ x1 > 65535)) = false from decide_eq_false (fun h => h0 h.1)]
  · exact Ev.bind hL (Ev.bind hP s1)

theorem some_ev (l : List Int) (n : Nat) (hn : n ≤ 1000) : ∃ l', patchbaylaw2_some_int.f l (n : Int) = some l' ∧ l'.length ≤ 1000 := by
  unfold patchbaylaw2_some_int.f
  refine ⟨l.take (mn (l.length : Int) (n : Int)).toNat, ?_, ?_⟩
  · rw [if_pos (by rw [mn_min]; omega), if_pos (by rw [mn_min]; omega)]
  · rw [List.length_take, mn_min]; omega

theorem ev_mono {α : Type} {f : Nat → Option α} {r : α} (m : ∀ k, LeO (f k) (f (k + 1))) (K : Nat) (h : f K = some r) : Ev f r :=
  ⟨K, fun k hk => by
    obtain ⟨d, rfl⟩ : ∃ d, k = K + d := ⟨k - K, by omega⟩
    clear hk
    induction d with
    | zero => exact h
    | succ d ih => exact m (K + d) r ih⟩
theorem lives_ev : Ev (fun k => patchbaylaw2_pathLives.f k) true := ev_mono patchbaylaw2_pathLives.mono 30 (by kernel_rfl)

theorem path_encodes (a b : Int) (way : List Int) (p m : Int) (tags : List Int) (x1 x2 : Int) (ha : 0 ≤ a) (ha' : a < 4294967296) : ∃ k, patchbaylaw2_PathEncodes.f k a b way p m tags x1 x2 = some true := by
  have key : Ev (fun k => patchbaylaw2_PathEncodes.f k a b way p m tags x1 x2) true := by
    unfold patchbaylaw2_PathEncodes.f
    refine Ev.bind lives_ev (Ev.if_pos rfl ?_)
    obtain ⟨w', e1, hw⟩ := some_ev way 34 (by omega)
    obtain ⟨t', e2, ht⟩ := some_ev tags 10 (by omega)
    rw [show patchbaylaw2_some_int.f way 34 = some w' from e1, show patchbaylaw2_some_int.f tags 10 = some t' from e2]
    simp only [Option.bind_some]
    refine Ev.bind (fault_ev a b w' p m t' ha ha') (Ev.bind (encode_ev a b w' p m t' ha ha') (Ev.bind (check_ev a b w' p m t' ha ha') (Ev.if_pos rfl ?_)))
    have hT := tail_ev a b w' p m t' x1 x2 ha ha' hw ht
    by_cases h : pflt a b w' p m t' = 0
    · simp only [h, if_true]
      rw [h] at hT
      obtain ⟨t, ev, hb⟩ := text_ev a b w' p m t' ha ha' h
      refine Ev.bind ev ?_
      have hB : ∀ x ∈ pathB a b w' p m t', 0 ≤ x ∧ x < 256 := by rw [← hb]; exact bytesOf_range t
      have e : ((strOfNums (pathB a b w' p m t')).toList != t.toList) = false := by
        rw [bne_eq_false_iff_eq, toList_bytes, bytesOf_strOfNums _ hB, hb]
      rw [e]
      exact hT
    · simp only [h, if_false, if_true]
      refine Ev.if_pos ?_ hT
      rw [ByteArray.toList_eq]
  obtain ⟨K, h⟩ := key
  exact ⟨K, h K (Nat.le_refl _)⟩
end Go.Proofs.Ythifgakeababmaa.PuE
