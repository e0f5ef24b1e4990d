/- The plain law of AdvDecodes: over bytes and numbers alone, the printed law answers true for every string. -/
import Derived.Test.YthifgakeababmaaHAdvDecodesx9
import Derived.Test.YthifgakeababmaaAux
namespace Go.Proofs.Ythifgakeababmaa.Pure
open Go Go.RowKit Go.Proofs.Ythifgakeababmaa.PAdvDecodes Go.Proofs.YthifgakeababmaaW.PrintWords Go.Proofs.YthifgakeababmaaW.PrintLast Go.Proofs.YthifgakeababmaaW.PrintMore Go.Proofs.Ythifgakeababmaa.Aux
set_option linter.unusedVariables false
set_option linter.unusedSimpArgs false

theorem rd_nat (xs : List S130) (i : Nat) : rd_T130 xs (i : Int) = xs.getD i z130 := by unfold rd_T130; rw [Int.toNat_natCast]
theorem rdi_nat (xs : List Int) (i : Nat) : rd xs (i : Int) = xs.getD i 0 := by unfold rd; rw [Int.toNat_natCast]
theorem wnat (i : Nat) (h : i < 1000000000000000) : wrap64 ((i : Int) + 1) = ((i + 1 : Nat) : Int) := by rw [w64 _ (by omega) (by omega)]; omega

/-- The bytes of a link. -/
def enc (l : S130) : List Int := [l.f0 % 256, l.f1 / 256 % 256, l.f1 % 256]
def encs_ : List S130 → List Int
  | [] => []
  | l :: ls => enc l ++ encs_ ls
theorem encs_length (ls : List S130) : (encs_ ls).length = 3 * ls.length := by
  induction ls with
  | nil => rfl
  | cons l ls ih => simp only [encs_, List.length_append, ih, List.length_cons, enc, List.length_nil]; omega
/-- The bytes of an advertisement. -/
def head (a b c n : Int) : List Int := [a % 256, b / 16777216 % 256, b / 65536 % 256, b / 256 % 256, b % 256, c / 256 % 256, c % 256, n % 256]
def advB (a b c : Int) (ls : List S130) : List Int := head a b c (ls.length : Int) ++ encs_ ls

theorem bytes_loop (xs : List S130) (hx : xs.length ≤ 1000) : ∀ (d i : Nat) (acc : List Int), i + d = xs.length → acc.length ≤ 100000 → acc.length + 3 * d ≤ 100000 →
    Ev (fun k => adv_bytes.l0 k acc xs (xs.length : Int) (i : Int)) (acc ++ encs_ (xs.drop i)) := by
  intro d
  induction d with
  | zero =>
    intro i acc hi ha hb
    refine Ev.step (f := fun _ => some acc) (fun k => ?_) ?_
    · simp only [adv_bytes.l0]; rw [if_neg (by omega)]
    · rw [List.drop_eq_nil_of_le (by omega)]; simp only [encs_, List.append_nil]; exact Ev.now _
  | succ d ih =>
    intro i acc hi ha hb
    have hlt : i < xs.length := by omega
    refine Ev.step (f := fun k => adv_bytes.l0 k (acc ++ enc (xs.getD i z130)) xs (xs.length : Int) ((i + 1 : Nat) : Int)) (fun k => ?_) ?_
    · simp only [adv_bytes.l0]
      rw [if_pos (by omega), if_pos (by omega), if_pos (by omega), rd_nat, wnat i (by omega)]
      simp only [Option.bind_some]
      rw [if_pos (by simp; omega)]
      rfl
    · have := ih (i + 1) (acc ++ enc (xs.getD i z130)) (by omega) (by simp [enc]; omega) (by simp [enc]; omega)
      rw [drop_cons xs z130 i hlt]
      simp only [encs_]
      rw [List.append_assoc] at this
      exact this

theorem bytes_ev (a b c : Int) (ls : List S130) (age : Int) (h : ls.length ≤ 1000) : Ev (fun k => adv_bytes.f k a b c ls age) (advB a b age ls) := by
  have := bytes_loop ls h ls.length 0 (head a b age (ls.length : Int)) (by omega) (by simp [head]) (by simp [head]; omega)
  simp only [List.drop_zero] at this
  exact this

/-- Fletcher's sums. -/
theorem sum_loop (xs : List Int) (hx : xs.length ≤ 100000) (hr : ∀ x ∈ xs, 0 ≤ x ∧ x < 256) : ∀ (d i : Nat) (x y : Int), i + d = xs.length → 0 ≤ x → x < 255 → 0 ≤ y → y < 255 →
    Ev (fun k => adv_sum.l0 k x y xs (xs.length : Int) (i : Int)) ((x + sumL (xs.drop i)) % 255, (y + (d : Int) * x + wsum (xs.drop i)) % 255) := by
  intro d
  induction d with
  | zero =>
    intro i x y hi x0 x1 y0 y1
    refine Ev.step (f := fun _ => some (x, y)) (fun k => ?_) ?_
    · simp only [adv_sum.l0]; rw [if_neg (by omega)]
    · rw [List.drop_eq_nil_of_le (by omega)]
      have e1 : (x + sumL []) % 255 = x := by simp only [sumL]; omega
      have e2 : (y + ((0 : Nat) : Int) * x + wsum []) % 255 = y := by simp only [wsum]; omega
      rw [e1, e2]; exact Ev.now _
  | succ d ih =>
    intro i x y hi x0 x1 y0 y1
    have hlt : i < xs.length := by omega
    have hc : 0 ≤ xs.getD i 0 ∧ xs.getD i 0 < 256 := by
      apply hr; rw [List.getD_eq_getElem?_getD, List.getElem?_eq_getElem hlt]; exact List.getElem_mem hlt
    obtain ⟨c, hcd⟩ : ∃ c, xs.getD i 0 = c := ⟨_, rfl⟩
    rw [hcd] at hc
    refine Ev.step (f := fun k => adv_sum.l0 k ((x + c) % 255) ((y + (x + c) % 255) % 255) xs (xs.length : Int) ((i + 1 : Nat) : Int)) (fun k => ?_) ?_
    · simp only [adv_sum.l0]
      rw [if_pos (by omega), if_pos (by omega), if_pos (by omega), rdi_nat, hcd, wnat i (by omega)]
      have e1 : wrap64 c = c := w64 _ (by omega) (by omega)
      have e2 : wrap64 (x + c) = x + c := w64 _ (by omega) (by omega)
      have e3 : Int.tmod (x + c) 255 = (x + c) % 255 := Int.tmod_eq_emod_of_nonneg (by omega)
      have e4 : wrap64 (y + (x + c) % 255) = y + (x + c) % 255 := w64 _ (by omega) (by omega)
      have e5 : Int.tmod (y + (x + c) % 255) 255 = (y + (x + c) % 255) % 255 := Int.tmod_eq_emod_of_nonneg (by omega)
      rw [e1, e2, e3, e4, e5]
    · have := ih (i + 1) ((x + c) % 255) ((y + (x + c) % 255) % 255) (by omega) (by omega) (by omega) (by omega) (by omega)
      have hl : (xs.drop (i + 1)).length = d := by rw [List.length_drop]; omega
      rw [drop_cons xs 0 i hlt, hcd]
      simp only [sumL, wsum, hl]
      obtain ⟨q, hq⟩ : ∃ q, (x + c) % 255 = x + c - 255 * q := ⟨(x + c) / 255, by omega⟩
      have e1 : ((x + c) % 255 + sumL (xs.drop (i + 1))) % 255 = (x + (c + sumL (xs.drop (i + 1)))) % 255 := by omega
      have e2 : ((y + (x + c) % 255) % 255 + (d : Int) * ((x + c) % 255) + wsum (xs.drop (i + 1))) % 255 = (y + ((d + 1 : Nat) : Int) * x + (((d : Int) + 1) * c + wsum (xs.drop (i + 1)))) % 255 := by
        rw [hq]
        obtain ⟨q2, hq2⟩ : ∃ q2, (y + (x + c - 255 * q)) % 255 = y + (x + c - 255 * q) - 255 * q2 := ⟨(y + (x + c - 255 * q)) / 255, by omega⟩
        rw [hq2]
        have : y + (x + c - 255 * q) - 255 * q2 + (d : Int) * (x + c - 255 * q) + wsum (xs.drop (i + 1)) = (y + ((d + 1 : Nat) : Int) * x + (((d : Int) + 1) * c + wsum (xs.drop (i + 1)))) + 255 * (- q - q2 - (d : Int) * q) := by
          simp only [Int.mul_sub, Int.mul_add, Int.add_mul, Int.natCast_add, Int.natCast_one, Int.one_mul, Int.mul_neg]
          have h1 : (d : Int) * (255 * q) = 255 * ((d : Int) * q) := by rw [Int.mul_left_comm]
          rw [h1]
          omega
        rw [this, Int.add_mul_emod_self_left]
      rw [e1, e2] at this
      exact this

theorem sum_ev (xs : List Int) (hx : xs.length ≤ 100000) (hr : ∀ x ∈ xs, 0 ≤ x ∧ x < 256) : Ev (fun k => adv_sum.f k xs) (sumL xs % 255, wsum xs % 255) := by
  have := sum_loop xs hx hr xs.length 0 0 0 (by omega) (by omega) (by omega) (by omega) (by omega)
  simp only [List.drop_zero, Int.zero_add, Int.mul_zero] at this
  exact this

theorem enc_range (l : S130) : ∀ x ∈ enc l, 0 ≤ x ∧ x < 256 := by
  intro x hx; simp only [enc, List.mem_cons, List.not_mem_nil, or_false] at hx; rcases hx with rfl | rfl | rfl <;> omega
theorem encs_range (ls : List S130) : ∀ x ∈ encs_ ls, 0 ≤ x ∧ x < 256 := by
  induction ls with
  | nil => intro x hx; simp [encs_] at hx
  | cons l ls ih =>
    intro x hx; simp only [encs_, List.mem_append] at hx
    rcases hx with hx | hx
    · exact enc_range l x hx
    · exact ih x hx
theorem advB_range (a b c : Int) (ls : List S130) : ∀ x ∈ advB a b c ls, 0 ≤ x ∧ x < 256 := by
  intro x hx; simp only [advB, head, List.mem_append, List.mem_cons, List.not_mem_nil, or_false] at hx
  rcases hx with hx | hx
  · rcases hx with rfl | rfl | rfl | rfl | rfl | rfl | rfl | rfl <;> omega
  · exact encs_range ls x hx
theorem advB_length (a b c : Int) (ls : List S130) : (advB a b c ls).length = 8 + 3 * ls.length := by
  simp only [advB, head, List.length_append, encs_length, List.length_cons, List.length_nil]

/-- The reference's digits. -/
theorem dig_step (k : Nat) (x : Int) (s : ByteArray) (n i : Int) (h : i < n) (hx : 0 ≤ x) (hx' : x ≤ 9223372036854775807) (hs : s.size ≤ 1000) :
    patchbayref2_Digits.l0 (k + 1) x s n i = patchbayref2_Digits.l0 k (x / 256) (strOfNums [x % 256] ++ s) n (wrap64 (i + 1)) := by
  simp only [patchbayref2_Digits.l0]
  rw [if_pos h]
  simp only [Option.bind_some]
  have e1 : Int.tmod x 256 % 256 = x % 256 := by rw [Int.tmod_eq_emod_of_nonneg hx]; omega
  have e2 : wrap64 (Int.tdiv x 256) = x / 256 := by rw [Int.tdiv_eq_ediv_of_nonneg hx]; exact w64 _ (by omega) (by omega)
  rw [e1, e2, if_pos (by rw [strOfNums_size]; simp; omega)]
theorem dig_end (k : Nat) (x : Int) (s : ByteArray) (n i : Int) (h : ¬ i < n) : patchbayref2_Digits.l0 (k + 1) x s n i = some s := by
  simp only [patchbayref2_Digits.l0]; rw [if_neg h]
theorem b1 (x : Int) : bytesOf (strOfNums [x % 256]) = [x % 256] := bytesOf_strOfNums _ (by intro y hy; simp only [List.mem_cons, List.not_mem_nil, or_false] at hy; omega)
theorem z1 (x : Int) (s : ByteArray) : (strOfNums [x % 256] ++ s).size = 1 + s.size := by rw [size_append, strOfNums_size]; rfl

theorem dig1 (x : Int) (hx : 0 ≤ x) (hx' : x ≤ 9223372036854775807) : ∃ s, Ev (fun k => patchbayref2_Digits.f k x 1) s ∧ s.size = 1 ∧ bytesOf s = [x % 256] := by
  refine ⟨strOfNums [x % 256] ++ ⟨#[]⟩, ⟨2, fun k hk => ?_⟩, by rw [z1]; rfl, by rw [bytesOf_append, b1, bytesOf_empty, List.append_nil]⟩
  obtain ⟨k, rfl⟩ : ∃ m, k = m + 1 + 1 := ⟨k - 2, by omega⟩
  unfold patchbayref2_Digits.f
  dsimp only
  rw [dig_step _ _ _ _ _ (by decide) hx hx' (by decide), dig_end _ _ _ _ _ (by unfold wrap64; decide)]
theorem dig2 (x : Int) (hx : 0 ≤ x) (hx' : x ≤ 9223372036854775807) : ∃ s, Ev (fun k => patchbayref2_Digits.f k x 2) s ∧ s.size = 2 ∧ bytesOf s = [x / 256 % 256, x % 256] := by
  refine ⟨strOfNums [x / 256 % 256] ++ (strOfNums [x % 256] ++ ⟨#[]⟩), ⟨3, fun k hk => ?_⟩, by rw [z1, z1]; rfl, by rw [bytesOf_append, bytesOf_append, b1, b1, bytesOf_empty, List.append_nil]; rfl⟩
  obtain ⟨k, rfl⟩ : ∃ m, k = m + 1 + 1 + 1 := ⟨k - 3, by omega⟩
  unfold patchbayref2_Digits.f
  dsimp only
  rw [dig_step _ _ _ _ _ (by decide) hx hx' (by decide), dig_step _ _ _ _ _ (by unfold wrap64; decide) (by omega) (by omega) (by rw [z1]; decide), dig_end _ _ _ _ _ (by unfold wrap64; decide)]
theorem dig4 (x : Int) (hx : 0 ≤ x) (hx' : x ≤ 9223372036854775807) : ∃ s, Ev (fun k => patchbayref2_Digits.f k x 4) s ∧ s.size = 4 ∧ bytesOf s = [x / 16777216 % 256, x / 65536 % 256, x / 256 % 256, x % 256] := by
  refine ⟨strOfNums [x / 256 / 256 / 256 % 256] ++ (strOfNums [x / 256 / 256 % 256] ++ (strOfNums [x / 256 % 256] ++ (strOfNums [x % 256] ++ ⟨#[]⟩))), ⟨5, fun k hk => ?_⟩, by rw [z1, z1, z1, z1]; rfl, ?_⟩
  · obtain ⟨k, rfl⟩ : ∃ m, k = m + 1 + 1 + 1 + 1 + 1 := ⟨k - 5, by omega⟩
    unfold patchbayref2_Digits.f
    dsimp only
    rw [dig_step _ _ _ _ _ (by decide) hx hx' (by decide), dig_step _ _ _ _ _ (by unfold wrap64; decide) (by omega) (by omega) (by rw [z1]; decide), dig_step _ _ _ _ _ (by unfold wrap64; decide) (by omega) (by omega) (by rw [z1, z1]; decide), dig_step _ _ _ _ _ (by unfold wrap64; decide) (by omega) (by omega) (by rw [z1, z1, z1]; decide), dig_end _ _ _ _ _ (by unfold wrap64; decide)]
  · rw [bytesOf_append, bytesOf_append, bytesOf_append, bytesOf_append, b1, b1, b1, b1, bytesOf_empty, List.append_nil]
    have e1 : x / 256 / 256 / 256 = x / 16777216 := by omega
    have e2 : x / 256 / 256 = x / 65536 := by omega
    rw [e1, e2]; rfl

/-- The reference's bytes. -/
def okL (ls : List S130) : Prop := ∀ l ∈ ls, 0 ≤ l.f0 ∧ l.f0 ≤ 9223372036854775807 ∧ 0 ≤ l.f1 ∧ l.f1 ≤ 9223372036854775807
theorem okL_get (ls : List S130) (h : okL ls) (i : Nat) (hi : i < ls.length) : 0 ≤ (ls.getD i z130).f0 ∧ (ls.getD i z130).f0 ≤ 9223372036854775807 ∧ 0 ≤ (ls.getD i z130).f1 ∧ (ls.getD i z130).f1 ≤ 9223372036854775807 := by
  apply h; rw [List.getD_eq_getElem?_getD, List.getElem?_eq_getElem hi]; exact List.getElem_mem hi

theorem rbytes_loop (xs : List S130) (hx : xs.length ≤ 1000) (hok : okL xs) : ∀ (d i : Nat) (acc : ByteArray), i + d = xs.length → acc.size + 3 * d ≤ 100000 →
    ∃ s, Ev (fun k => patchbayref2_AdvBytes.l0 k acc xs (xs.length : Int) (i : Int)) s ∧ bytesOf s = bytesOf acc ++ encs_ (xs.drop i) ∧ s.size = acc.size + 3 * d := by
  intro d
  induction d with
  | zero =>
    intro i acc hi ha
    refine ⟨acc, Ev.step (f := fun _ => some acc) (fun k => ?_) (Ev.now _), ?_, by omega⟩
    · simp only [patchbayref2_AdvBytes.l0]; rw [if_neg (by omega)]
    · rw [List.drop_eq_nil_of_le (by omega)]; simp only [encs_, List.append_nil]
  | succ d ih =>
    intro i acc hi ha
    have hlt : i < xs.length := by omega
    obtain ⟨h0, h1, h2, h3⟩ := okL_get xs hok i hlt
    obtain ⟨s1, ev1, z1_, e1⟩ := dig1 _ h0 h1
    obtain ⟨s2, ev2, z2_, e2⟩ := dig2 _ h2 h3
    obtain ⟨s, ev, e, z⟩ := ih (i + 1) (acc ++ (s1 ++ s2)) (by omega) (by rw [size_append, size_append]; omega)
    refine ⟨s, ?_, ?_, by rw [z, size_append, size_append]; omega⟩
    · refine Ev.step (f := fun k => (patchbayref2_Digits.f k ((xs.getD i z130).f0) 1).bind fun t => (patchbayref2_Digits.f k ((xs.getD i z130).f1) 2).bind fun u => if t.size + u.size ≤ 9223372036854775807 then (if acc.size + (t ++ u).size ≤ 9223372036854775807 then patchbayref2_AdvBytes.l0 k (acc ++ (t ++ u)) xs (xs.length : Int) ((i + 1 : Nat) : Int) else none) else none) (fun k => ?_) ?_
      · simp only [patchbayref2_AdvBytes.l0]
        rw [if_pos (by omega), if_pos (by omega), if_pos (by omega), rd_nat, wnat i (by omega)]
      · refine Ev.bind ev1 (Ev.bind ev2 ?_)
        refine Ev.if_pos (by omega) (Ev.if_pos (by rw [size_append]; omega) ?_)
        exact ev
    · rw [e, bytesOf_append, bytesOf_append, e1, e2, drop_cons xs z130 i hlt]
      simp only [encs_, enc, List.append_assoc]
      rfl

theorem rbytes_ev (a b c : Int) (ls : List S130) (age : Int) (h : ls.length ≤ 1000) (hok : okL ls) (ha : 0 ≤ a) (ha' : a ≤ 9223372036854775807) (hb : 0 ≤ b) (hb' : b ≤ 9223372036854775807) (hg : 0 ≤ age) (hg' : age ≤ 9223372036854775807) :
    ∃ s, Ev (fun k => patchbayref2_AdvBytes.f k a b c ls age) s ∧ bytesOf s = advB a b age ls ∧ s.size = 8 + 3 * ls.length := by
  obtain ⟨s1, ev1, y1, e1⟩ := dig1 a ha ha'
  obtain ⟨s2, ev2, y2, e2⟩ := dig4 b hb hb'
  obtain ⟨s3, ev3, y3, e3⟩ := dig2 age hg hg'
  obtain ⟨s4, ev4, y4, e4⟩ := dig1 (ls.length : Int) (by omega) (by omega)
  obtain ⟨s, ev, e, z⟩ := rbytes_loop ls h hok ls.length 0 (((s1 ++ s2) ++ s3) ++ s4) (by omega) (by simp only [size_append]; omega)
  refine ⟨s, ?_, ?_, by rw [z]; simp only [size_append]; omega⟩
  · unfold patchbayref2_AdvBytes.f
    refine Ev.bind ev1 (Ev.bind ev2 (Ev.if_pos (by omega) ?_))
    refine Ev.bind ev3 (Ev.if_pos (by simp only [size_append]; omega) ?_)
    refine Ev.bind ev4 (Ev.if_pos (by simp only [size_append]; omega) ?_)
    exact ev
  · rw [e]
    simp only [bytesOf_append, e1, e2, e3, e4, List.drop_zero, advB, head]
    rfl

theorem rsum_loop (s : ByteArray) (n : Nat) (hn : s.size = n) (hn' : n ≤ 1000) : ∀ (d i : Nat) (x y : Int), i + d = n → 0 ≤ x → x ≤ 255 * (i : Int) → 0 ≤ y → y ≤ 255000 * (i : Int) →
    Ev (fun k => patchbayref2_AdvSum.l0 k s x y (n : Int) (i : Int)) ((x + sumL ((bytesOf s).drop i)) % 255, (y + wsum ((bytesOf s).drop i)) % 255) := by
  intro d
  have hbl : (bytesOf s).length = n := by rw [bytesOf_length, hn]
  induction d with
  | zero =>
    intro i x y hi x0 x1 y0 y1
    refine Ev.step (f := fun _ => some (Int.tmod x 255, Int.tmod y 255)) (fun k => ?_) ?_
    · simp only [patchbayref2_AdvSum.l0]; rw [if_neg (by omega)]
    · rw [List.drop_eq_nil_of_le (by omega), Int.tmod_eq_emod_of_nonneg x0, Int.tmod_eq_emod_of_nonneg y0]
      simp only [sumL, wsum, Int.add_zero]
      exact Ev.now _
  | succ d ih =>
    intro i x y hi x0 x1 y0 y1
    have hlt : i < (bytesOf s).length := by omega
    have hb := bt_range s (i : Int)
    have hbn := bt_nat s i
    obtain ⟨c, hc⟩ : ∃ c, bt s (i : Int) = c := ⟨_, rfl⟩
    rw [hc] at hb hbn
    have hp0 : 0 ≤ ((n : Int) - i) * c := Int.mul_nonneg (by omega) hb.1
    have hp1 : ((n : Int) - i) * c ≤ 1000 * 255 := Int.mul_le_mul (by omega) hb.2 hb.1 (by decide)
    refine Ev.step (f := fun k => patchbayref2_AdvSum.l0 k s (x + c) (y + ((n : Int) - i) * c) (n : Int) ((i + 1 : Nat) : Int)) (fun k => ?_) ?_
    · simp only [patchbayref2_AdvSum.l0]
      rw [if_pos (by omega), if_pos (by omega), if_pos (by omega), hc, wnat i (by omega), hn]
      have e1 : wrap64 c = c := w64 _ (by omega) (by omega)
      have e2 : wrap64 (x + c) = x + c := w64 _ (by omega) (by omega)
      have e3 : wrap64 ((n : Int) - i) = (n : Int) - i := w64 _ (by omega) (by omega)
      have e4 : wrap64 (((n : Int) - i) * c) = ((n : Int) - i) * c := w64 _ (by omega) (by omega)
      have e5 : wrap64 (y + ((n : Int) - i) * c) = y + ((n : Int) - i) * c := w64 _ (by omega) (by omega)
      rw [e1, e2, e3, e4, e5]
    · have := ih (i + 1) (x + c) (y + ((n : Int) - i) * c) (by omega) (by omega) (by omega) (by omega) (by omega)
      rw [drop_cons (bytesOf s) 0 i hlt, ← hbn]
      have hl : (((bytesOf s).drop (i + 1)).length : Int) + 1 = (n : Int) - i := by rw [List.length_drop]; omega
      simp only [sumL, wsum, hl]
      rw [Int.add_assoc] at this
      rw [Int.add_assoc y] at this
      exact this

theorem rsum_ev (a b c : Int) (ls : List S130) (h : ls.length ≤ 100) (hok : okL ls) (ha : 0 ≤ a) (ha' : a ≤ 9223372036854775807) (hb : 0 ≤ b) (hb' : b ≤ 9223372036854775807) :
    Ev (fun k => patchbayref2_AdvSum.f k a b c ls) (sumL (advB a b 0 ls) % 255, wsum (advB a b 0 ls) % 255) := by
  obtain ⟨s, ev, e, z⟩ := rbytes_ev a b c ls 0 (by omega) hok ha ha' hb hb' (by omega) (by omega)
  unfold patchbayref2_AdvSum.f
  refine Ev.bind ev ?_
  have := rsum_loop s s.size rfl (by omega) s.size 0 0 0 (by omega) (by omega) (by omega) (by omega) (by omega)
  simp only [List.drop_zero, Int.zero_add, e] at this
  exact this

/-- Check and AdvFault. -/
def rng (l : S130) : Prop := 0 ≤ l.f0 ∧ l.f0 < 16 ∧ 1 ≤ l.f1 ∧ l.f1 ≤ 65535
instance (l : S130) : Decidable (rng l) := by unfold rng; infer_instance
def rngs : List S130 → Bool
  | [] => true
  | l :: ls => decide (rng l) && rngs ls
def ords (a : Int) : Int → List S130 → Bool
  | _, [] => true
  | p, l :: ls => decide (l.f0 ≠ a ∧ p < l.f0) && ords a l.f0 ls
def flt (a b c : Int) (ls : List S130) : Int :=
  if a < 0 ∨ a ≥ 16 ∨ b < 1 ∨ b > 1073741824 ∨ c < 0 ∨ c > 3600 then 10
  else if (ls.length : Int) > 16 then 2 else if rngs ls = true then (if ords a (-1) ls = true then 0 else 3) else 10

theorem rngs_get (ls : List S130) (h : rngs ls = true) (i : Nat) (hi : i < ls.length) : rng (ls.getD i z130) := by
  induction ls generalizing i with
  | nil => simp at hi
  | cons l ls ih =>
    simp only [rngs, Bool.and_eq_true, decide_eq_true_eq] at h
    cases i with
    | zero => exact h.1
    | succ i => simp only [List.getD_cons_succ]; exact ih h.2 i (by simpa using hi)

theorem check1 (a b c : Int) (xs : List S130) (hx : xs.length ≤ 16) (hr : rngs xs = true) : ∀ (d i : Nat) (p : Int), i + d = xs.length → (p = if i = 0 then -1 else (xs.getD (i - 1) z130).f0) →
    Ev (fun k => adv_Check.l1 k xs (xs.length : Int) (i : Int) a b c xs) (if ords a p (xs.drop i) = true then 0 else 3) := by
  intro d
  induction d with
  | zero =>
    intro i p hi hp
    refine Ev.step (f := fun _ => some 0) (fun k => ?_) ?_
    · simp only [adv_Check.l1]; rw [if_neg (by omega)]
    · rw [List.drop_eq_nil_of_le (by omega)]; simp only [ords, if_true]; exact Ev.now _
  | succ d ih =>
    intro i p hi hp
    have hlt : i < xs.length := by omega
    have hg := rngs_get xs hr i hlt
    rw [drop_cons xs z130 i hlt]
    obtain ⟨l, hl⟩ : ∃ l, xs.getD i z130 = l := ⟨_, rfl⟩
    rw [hl] at hg ⊢
    have next := ih (i + 1) l.f0 (by omega) (by rw [if_neg (by omega), Nat.add_sub_cancel, hl])
    simp only [ords]
    by_cases h1 : l.f0 = a
    · refine Ev.step (f := fun _ => some 3) (fun k => ?_) ?_
      · simp only [adv_Check.l1]
        rw [if_pos (by omega), if_pos (by omega), if_pos (by omega), rd_nat, hl, if_pos h1]
      · simp only [h1, ne_eq, not_true_eq_false, false_and, decide_false, Bool.false_and, Bool.false_eq_true, if_false]; exact Ev.now _
    · by_cases h2 : p < l.f0
      · refine Ev.step (f := fun k => adv_Check.l1 k xs (xs.length : Int) ((i + 1 : Nat) : Int) a b c xs) (fun k => ?_) ?_
        · simp only [adv_Check.l1]
          rw [if_pos (by omega), if_pos (by omega), if_pos (by omega), rd_nat, hl, if_neg h1, wnat i (by omega)]
          by_cases h0 : i = 0
          · subst h0; rw [if_neg (by omega)]
          · rw [if_pos (by omega)]
            have e : wrap64 ((i : Int) - 1) = ((i - 1 : Nat) : Int) := by rw [w64 _ (by omega) (by omega)]; omega
            rw [e, if_pos (by omega), if_pos (by omega), rd_nat]
            rw [if_neg h0] at hp
            rw [if_neg (by omega)]
        · simp only [ne_eq, h1, not_false_eq_true, h2, and_self, decide_true, Bool.true_and]; exact next
      · refine Ev.step (f := fun _ => some 3) (fun k => ?_) ?_
        · simp only [adv_Check.l1]
          rw [if_pos (by omega), if_pos (by omega), if_pos (by omega), rd_nat, hl, if_neg h1]
          by_cases h0 : i = 0
          · rw [if_pos h0] at hp; have := hg.1; omega
          · rw [if_pos (by omega)]
            have e : wrap64 ((i : Int) - 1) = ((i - 1 : Nat) : Int) := by rw [w64 _ (by omega) (by omega)]; omega
            rw [e, if_pos (by omega), if_pos (by omega), rd_nat]
            rw [if_neg h0] at hp
            rw [if_pos (by omega)]
        · simp only [h2, and_false, decide_false, Bool.false_and, Bool.false_eq_true, if_false]; exact Ev.now _

theorem check0 (a b c : Int) (xs : List S130) (hx : xs.length ≤ 16) (r : Int) (hend : rngs xs = true → Ev (fun k => adv_Check.l1 k xs (xs.length : Int) 0 a b c xs) r) : ∀ (d i : Nat), i + d = xs.length → (rngs xs = rngs (xs.drop i)) →
    Ev (fun k => adv_Check.l0 k xs (xs.length : Int) (i : Int) a b c xs) (if rngs xs = true then r else 10) := by
  intro d
  induction d with
  | zero =>
    intro i hi hr
    rw [List.drop_eq_nil_of_le (by omega)] at hr
    refine Ev.step (f := fun k => adv_Check.l1 k xs (xs.length : Int) 0 a b c xs) (fun k => ?_) ?_
    · simp only [adv_Check.l0]; rw [if_neg (by omega)]
    · rw [hr]; simp only [rngs, if_true]; exact hend hr
  | succ d ih =>
    intro i hi hr
    have hlt : i < xs.length := by omega
    rw [drop_cons xs z130 i hlt] at hr
    obtain ⟨l, hl⟩ : ∃ l, xs.getD i z130 = l := ⟨_, rfl⟩
    rw [hl] at hr
    by_cases h1 : rng l
    · refine Ev.step (f := fun k => adv_Check.l0 k xs (xs.length : Int) ((i + 1 : Nat) : Int) a b c xs) (fun k => ?_) ?_
      · simp only [adv_Check.l0]
        unfold rng at h1
        rw [if_pos (by omega), if_pos (by omega), if_pos (by omega), rd_nat, hl, wnat i (by omega), if_neg (by omega), if_neg (by omega), if_neg (by omega), if_neg (by omega)]
      · exact ih (i + 1) (by omega) (by rw [hr]; simp [rngs, h1])
    · have hf : rngs xs = false := by rw [hr]; simp [rngs, h1]
      refine Ev.step (f := fun _ => some 10) (fun k => ?_) ?_
      · simp only [adv_Check.l0]
        unfold rng at h1
        rw [if_pos (by omega), if_pos (by omega), if_pos (by omega), rd_nat, hl]
        repeat' split
        all_goals first | rfl | (exfalso; omega)
      · rw [hf]; simp only [Bool.false_eq_true, if_false]; exact Ev.now _

theorem check_ev (a b c : Int) (ls : List S130) : Ev (fun k => adv_Check.f k a b c ls) (flt a b c ls) := by
  have hj : ∀ q : Bool, Ev (fun k => adv_Check.j0 k q a b c ls) (if q = true then 10 else if (ls.length : Int) > 16 then 2 else if rngs ls = true then (if ords a (-1) ls = true then 0 else 3) else 10) := by
    intro q
    refine Ev.step (f := fun k => if q = true then some 10 else if (ls.length : Int) > 16 then some 2 else adv_Check.l0 k ls (ls.length : Int) 0 a b c ls) (fun k => ?_) ?_
    · simp only [adv_Check.j0]
    · by_cases h1 : q = true
      · simp only [h1, if_true]; exact Ev.now _
      · simp only [h1, if_false]
        by_cases h2 : (ls.length : Int) > 16
        · simp only [h2, if_true]; exact Ev.now _
        · simp only [h2, if_false]
          exact check0 a b c ls (by omega) _ (fun hr => check1 a b c ls (by omega) hr ls.length 0 (-1) (by omega) (by simp)) ls.length 0 (by omega) (by simp)
  unfold adv_Check.f flt
  by_cases h1 : a < 0
  · simp only [h1, if_true, true_or]; exact hj true
  simp only [h1, if_false, false_or]
  by_cases h2 : a ≥ 16
  · simp only [h2, if_true, true_or]; exact hj true
  simp only [h2, if_false, false_or]
  by_cases h3 : b < 1
  · simp only [h3, if_true, true_or]; exact hj true
  simp only [h3, if_false, false_or]
  by_cases h4 : b > 1073741824
  · simp only [h4, if_true, true_or]; exact hj true
  simp only [h4, if_false, false_or]
  by_cases h5 : c < 0
  · simp only [h5, if_true, true_or]; exact hj true
  simp only [h5, if_false, false_or]
  have := hj (decide (c > 3600))
  simp only [decide_eq_true_eq] at this
  exact this

theorem fault1 (a b c : Int) (xs : List S130) (hx : xs.length ≤ 16) : ∀ (d i : Nat) (p : Int), i + d = xs.length →
    Ev (fun k => patchbayref2_AdvFault.l1 k p xs (xs.length : Int) (i : Int) a b c xs) (if ords a p (xs.drop i) = true then 0 else 3) := by
  intro d
  induction d with
  | zero =>
    intro i p hi
    refine Ev.step (f := fun _ => some 0) (fun k => ?_) ?_
    · simp only [patchbayref2_AdvFault.l1]; rw [if_neg (by omega)]
    · rw [List.drop_eq_nil_of_le (by omega)]; simp only [ords, if_true]; exact Ev.now _
  | succ d ih =>
    intro i p hi
    have hlt : i < xs.length := by omega
    rw [drop_cons xs z130 i hlt]
    obtain ⟨l, hl⟩ : ∃ l, xs.getD i z130 = l := ⟨_, rfl⟩
    rw [hl]
    simp only [ords]
    by_cases h1 : l.f0 = a
    · refine Ev.step (f := fun _ => some 3) (fun k => ?_) ?_
      · simp only [patchbayref2_AdvFault.l1]
        rw [if_pos (by omega), if_pos (by omega), if_pos (by omega), rd_nat, hl, if_pos h1]
      · simp only [h1, ne_eq, not_true_eq_false, false_and, decide_false, Bool.false_and, Bool.false_eq_true, if_false]; exact Ev.now _
    · by_cases h2 : p < l.f0
      · refine Ev.step (f := fun k => patchbayref2_AdvFault.l1 k l.f0 xs (xs.length : Int) ((i + 1 : Nat) : Int) a b c xs) (fun k => ?_) ?_
        · simp only [patchbayref2_AdvFault.l1]
          rw [if_pos (by omega), if_pos (by omega), if_pos (by omega), rd_nat, hl, if_neg h1, wnat i (by omega), if_neg (by omega)]
        · simp only [ne_eq, h1, not_false_eq_true, h2, and_self, decide_true, Bool.true_and]; exact ih (i + 1) l.f0 (by omega)
      · refine Ev.step (f := fun _ => some 3) (fun k => ?_) ?_
        · simp only [patchbayref2_AdvFault.l1]
          rw [if_pos (by omega), if_pos (by omega), if_pos (by omega), rd_nat, hl, if_neg h1, if_pos (by omega)]
        · simp only [h2, and_false, decide_false, Bool.false_and, Bool.false_eq_true, if_false]; exact Ev.now _

theorem fault0 (a b c : Int) (xs : List S130) (hx : xs.length ≤ 16) (r : Int) (hend : rngs xs = true → Ev (fun k => patchbayref2_AdvFault.l1 k (-1) xs (xs.length : Int) 0 a b c xs) r) : ∀ (d i : Nat), i + d = xs.length → (rngs xs = rngs (xs.drop i)) →
    Ev (fun k => patchbayref2_AdvFault.l0 k xs (xs.length : Int) (i : Int) a b c xs) (if rngs xs = true then r else 10) := by
  intro d
  induction d with
  | zero =>
    intro i hi hr
    rw [List.drop_eq_nil_of_le (by omega)] at hr
    refine Ev.step (f := fun k => patchbayref2_AdvFault.l1 k (-1) xs (xs.length : Int) 0 a b c xs) (fun k => ?_) ?_
    · simp only [patchbayref2_AdvFault.l0]; rw [if_neg (by omega)]
    · rw [hr]; simp only [rngs, if_true]; exact hend hr
  | succ d ih =>
    intro i hi hr
    have hlt : i < xs.length := by omega
    rw [drop_cons xs z130 i hlt] at hr
    obtain ⟨l, hl⟩ : ∃ l, xs.getD i z130 = l := ⟨_, rfl⟩
    rw [hl] at hr
    by_cases h1 : rng l
    · refine Ev.step (f := fun k => patchbayref2_AdvFault.l0 k xs (xs.length : Int) ((i + 1 : Nat) : Int) a b c xs) (fun k => ?_) ?_
      · simp only [patchbayref2_AdvFault.l0]
        unfold rng at h1
        rw [if_pos (by omega), if_pos (by omega), if_pos (by omega), rd_nat, hl, wnat i (by omega), if_neg (by omega), if_neg (by omega), if_neg (by omega), if_neg (by omega)]
      · exact ih (i + 1) (by omega) (by rw [hr]; simp [rngs, h1])
    · have hf : rngs xs = false := by rw [hr]; simp [rngs, h1]
      refine Ev.step (f := fun _ => some 10) (fun k => ?_) ?_
      · simp only [patchbayref2_AdvFault.l0]
        unfold rng at h1
        rw [if_pos (by omega), if_pos (by omega), if_pos (by omega), rd_nat, hl]
        repeat' split
        all_goals first | rfl | (exfalso; omega)
      · rw [hf]; simp only [Bool.false_eq_true, if_false]; exact Ev.now _

theorem fault_ev (a b c : Int) (ls : List S130) : Ev (fun k => patchbayref2_AdvFault.f k a b c ls) (flt a b c ls) := by
  have hj : ∀ q : Bool, Ev (fun k => patchbayref2_AdvFault.j0 k q a b c ls) (if q = true then 10 else if (ls.length : Int) > 16 then 2 else if rngs ls = true then (if ords a (-1) ls = true then 0 else 3) else 10) := by
    intro q
    refine Ev.step (f := fun k => if q = true then some 10 else if (ls.length : Int) > 16 then some 2 else patchbayref2_AdvFault.l0 k ls (ls.length : Int) 0 a b c ls) (fun k => ?_) ?_
    · simp only [patchbayref2_AdvFault.j0]
    · by_cases h1 : q = true
      · simp only [h1, if_true]; exact Ev.now _
      · simp only [h1, if_false]
        by_cases h2 : (ls.length : Int) > 16
        · simp only [h2, if_true]; exact Ev.now _
        · simp only [h2, if_false]
          exact fault0 a b c ls (by omega) _ (fun hr => fault1 a b c ls (by omega) ls.length 0 (-1) (by omega)) ls.length 0 (by omega) (by simp)
  unfold patchbayref2_AdvFault.f flt
  by_cases h1 : a < 0
  · simp only [h1, if_true, true_or]; exact hj true
  simp only [h1, if_false, false_or]
  by_cases h2 : a ≥ 16
  · have h2' : a > 15 := by omega
    simp only [h2, h2', if_true, true_or]; exact hj true
  have h2' : ¬ a > 15 := by omega
  simp only [h2, h2', if_false, false_or]
  by_cases h3 : b < 1
  · simp only [h3, if_true, true_or]; exact hj true
  simp only [h3, if_false, false_or]
  by_cases h4 : b > 1073741824
  · simp only [h4, if_true, true_or]; exact hj true
  simp only [h4, if_false, false_or]
  by_cases h5 : c < 0
  · simp only [h5, if_true, true_or]; exact hj true
  simp only [h5, if_false, false_or]
  have := hj (decide (c > 3600))
  simp only [decide_eq_true_eq] at this
  exact this

/-- The links of a string. -/
def lnk (s : ByteArray) (i : Nat) : S130 := ⟨bt s ((8 + 3 * i : Nat) : Int), bt s ((9 + 3 * i : Nat) : Int) * 256 + bt s ((10 + 3 * i : Nat) : Int)⟩
def lnks (s : ByteArray) : Nat → Nat → List S130
  | _, 0 => []
  | i, d + 1 => lnk s i :: lnks s (i + 1) d
theorem lnks_length (s : ByteArray) (d : Nat) : ∀ i, (lnks s i d).length = d := by
  induction d with
  | zero => intro i; rfl
  | succ d ih => intro i; simp only [lnks, List.length_cons, ih]
theorem lnks_ok (s : ByteArray) (d : Nat) : ∀ i, okL (lnks s i d) := by
  induction d with
  | zero => intro i l hl; simp [lnks] at hl
  | succ d ih =>
    intro i l hl
    simp only [lnks, List.mem_cons] at hl
    rcases hl with rfl | hl
    · have h1 := bt_range s ((8 + 3 * i : Nat) : Int)
      have h2 := bt_range s ((9 + 3 * i : Nat) : Int)
      have h3 := bt_range s ((10 + 3 * i : Nat) : Int)
      simp only [lnk]; omega
    · exact ih (i + 1) l hl

/-- What both come to behind the links. -/
def fin (s : ByteArray) (a b c : Int) (ls : List S130) : Int × Int × Int × List S130 × Int :=
  if bt s ((s.size - 2 : Nat) : Int) = sumL (advB a b 0 ls) % 255 ∧ bt s ((s.size - 1 : Nat) : Int) = wsum (advB a b 0 ls) % 255 then
    (if flt a b c ls = 0 then (a, b, c, ls, 0) else (0, 0, 0, [], flt a b c ls)) else (0, 0, 0, [], 8)

theorem decode_j1 (q : Bool) (a b c : Int) (ls : List S130) : Ev (fun k => adv_Decode.j1 k q a b c ls) (if q = true then (0, 0, 0, [], 8) else if flt a b c ls = 0 then (a, b, c, ls, 0) else (0, 0, 0, [], flt a b c ls)) := by
  refine Ev.step (f := fun k => if q = true then some (0, 0, 0, [], 8) else (adv_Check.f k a b c ls).bind fun t => if t = 0 then some (a, b, c, ls, 0) else some (0, 0, 0, [], t)) (fun k => by simp only [adv_Decode.j1]) ?_
  by_cases h : q = true
  · simp only [h, if_true]; exact Ev.now _
  · simp only [h, if_false]
    refine Ev.bind (check_ev a b c ls) ?_
    by_cases h2 : flt a b c ls = 0
    · simp only [h2, if_true]; exact Ev.now _
    · simp only [h2, if_false]; exact Ev.now _

theorem decode_loop (s : ByteArray) (hs : s.size ≤ 40) (n : Nat) (hn : s.size = 10 + 3 * n) (a b c : Int) : ∀ (d i : Nat) (acc : List S130), i + d = n → acc.length = i →
    Ev (fun k => adv_Decode.l0 k s ((8 + 3 * i : Nat) : Int) a b c acc) (fin s a b c (acc ++ lnks s i d)) := by
  intro d
  have e2 : wrap64 ((s.size : Int) - 2) = ((s.size - 2 : Nat) : Int) := by rw [w64 _ (by omega) (by omega)]; omega
  have e1 : wrap64 ((s.size : Int) - 1) = ((s.size - 1 : Nat) : Int) := by rw [w64 _ (by omega) (by omega)]; omega
  induction d with
  | zero =>
    intro i acc hi ha
    have hlen := advB_length a b 0 acc
    refine Ev.step (f := fun k => (adv_bytes.f k a b c acc 0).bind fun t143 => ((adv_sum.f k t143).bind fun bt146 => if bt s ((s.size - 2 : Nat) : Int) = bt146.1 then adv_Decode.j1 k (bt s ((s.size - 1 : Nat) : Int) != bt146.2) a b c acc else adv_Decode.j1 k true a b c acc)) (fun k => ?_) ?_
    · simp only [adv_Decode.l0]
      rw [e2, e1, if_neg (by omega)]
      have h1 := bt_range s ((s.size - 2 : Nat) : Int)
      have h2 := bt_range s ((s.size - 1 : Nat) : Int)
      simp only [if_pos (show (0 : Int) ≤ ((s.size - 2 : Nat) : Int) by omega), if_pos (show ((s.size - 2 : Nat) : Int) < (s.size : Int) by omega), if_pos (show (0 : Int) ≤ ((s.size - 1 : Nat) : Int) by omega), if_pos (show ((s.size - 1 : Nat) : Int) < (s.size : Int) by omega), w64 _ (show -9223372036854775808 ≤ bt s ((s.size - 2 : Nat) : Int) by omega) (by omega), w64 _ (show -9223372036854775808 ≤ bt s ((s.size - 1 : Nat) : Int) by omega) (by omega)]
    · refine Ev.bind (bytes_ev a b c acc 0 (by omega)) ?_
      refine Ev.bind (sum_ev _ (by omega) (advB_range a b 0 acc)) ?_
      simp only [lnks, List.append_nil, fin]
      by_cases h1 : bt s ((s.size - 2 : Nat) : Int) = sumL (advB a b 0 acc) % 255
      · simp only [h1, if_true, true_and]
        have := decode_j1 (bt s ((s.size - 1 : Nat) : Int) != wsum (advB a b 0 acc) % 255) a b c acc
        by_cases h2 : bt s ((s.size - 1 : Nat) : Int) = wsum (advB a b 0 acc) % 255
        · simp only [h2, bne_self_eq_false, Bool.false_eq_true, if_false, if_true] at this ⊢; exact this
        · have h3 : (bt s ((s.size - 1 : Nat) : Int) != wsum (advB a b 0 acc) % 255) = true := by simp [h2]
          simp only [h3, if_true, h2, if_false] at this ⊢; exact this
      · simp only [h1, if_false, false_and]
        have := decode_j1 true a b c acc
        simp only [if_true] at this
        exact this
  | succ d ih =>
    intro i acc hi ha
    have h1 := bt_range s ((8 + 3 * i : Nat) : Int)
    have h2 := bt_range s ((9 + 3 * i : Nat) : Int)
    have h3 := bt_range s ((10 + 3 * i : Nat) : Int)
    have e3 : wrap64 (((8 + 3 * i : Nat) : Int) + 1) = ((9 + 3 * i : Nat) : Int) := by rw [w64 _ (by omega) (by omega)]; omega
    have e4 : wrap64 (((8 + 3 * i : Nat) : Int) + 2) = ((10 + 3 * i : Nat) : Int) := by rw [w64 _ (by omega) (by omega)]; omega
    have e5 : wrap64 (((8 + 3 * i : Nat) : Int) + 3) = ((8 + 3 * (i + 1) : Nat) : Int) := by rw [w64 _ (by omega) (by omega)]; omega
    refine Ev.step (f := fun k => adv_Decode.l0 k s ((8 + 3 * (i + 1) : Nat) : Int) a b c (acc ++ [lnk s i])) (fun k => ?_) ?_
    · simp only [adv_Decode.l0]
      rw [e2, e3, e4, e5, if_pos (by omega), if_pos (by omega), if_pos (by omega), if_pos (by omega), if_pos (by omega), if_pos (by omega), if_pos (by omega), if_pos (by omega)]
      rw [w64 (bt s ((8 + 3 * i : Nat) : Int)) (by omega) (by omega), w64 (bt s ((9 + 3 * i : Nat) : Int)) (by omega) (by omega), w64 (bt s ((10 + 3 * i : Nat) : Int)) (by omega) (by omega), w64 (bt s ((9 + 3 * i : Nat) : Int) * 256) (by omega) (by omega), or8 _ _ (by omega) (by omega) (by omega) (by omega) (by omega)]
      rfl
    · have := ih (i + 1) (acc ++ [lnk s i]) (by omega) (by simp [ha])
      simp only [lnks]
      rw [List.append_assoc] at this
      exact this

/-- What Decode and AdvRead come to. -/
def rdA (s : ByteArray) : Int × Int × Int × List S130 × Int :=
  if s.size < 10 then (0, 0, 0, [], 9) else
  if (s.size : Int) < 10 + 3 * bt s 7 then (0, 0, 0, [], 9) else
  if (s.size : Int) > 10 + 3 * bt s 7 then (0, 0, 0, [], 3) else
  fin s (bt s 0) (bt s 1 * 16777216 + bt s 2 * 65536 + bt s 3 * 256 + bt s 4) (bt s 5 * 256 + bt s 6) (lnks s 0 (bt s 7).toNat)

theorem decode_ev (s : ByteArray) (hs : s.size ≤ 40) : Ev (fun k => adv_Decode.f k s) (rdA s) := by
  have h0 := bt_range s 0
  have h1 := bt_range s 1
  have h2 := bt_range s 2
  have h3 := bt_range s 3
  have h4 := bt_range s 4
  have h5 := bt_range s 5
  have h6 := bt_range s 6
  have h7 := bt_range s 7
  have hw : ∀ x : Int, 0 ≤ x ∧ x ≤ 255 → wrap64 x = x := fun x hx => w64 _ (by omega) (by omega)
  have e : wrap64 (10 + wrap64 (3 * bt s 7)) = 10 + 3 * bt s 7 := by rw [w64 (3 * bt s 7) (by omega) (by omega), w64 _ (by omega) (by omega)]
  unfold adv_Decode.f rdA
  rw [hw _ h7, e]
  by_cases c1 : s.size < 10
  · rw [if_pos c1]; simp only [if_pos (show (s.size : Int) < 10 by omega)]; exact Ev.now _
  rw [if_neg c1]
  simp only [if_neg (show ¬ (s.size : Int) < 10 by omega), if_pos (show (7 : Int) < (s.size : Int) by omega)]
  by_cases c2 : (s.size : Int) < 10 + 3 * bt s 7
  · simp only [c2, if_true]; exact Ev.now _
  simp only [c2, if_false]
  by_cases c3 : (s.size : Int) > 10 + 3 * bt s 7
  · simp only [c3, if_true]; exact Ev.now _
  simp only [c3, if_false]
  simp only [if_pos (show (0 : Int) < (s.size : Int) by omega), if_pos (show (1 : Int) < (s.size : Int) by omega), if_pos (show (2 : Int) < (s.size : Int) by omega), if_pos (show (3 : Int) < (s.size : Int) by omega), if_pos (show (4 : Int) < (s.size : Int) by omega), if_pos (show (5 : Int) < (s.size : Int) by omega), if_pos (show (6 : Int) < (s.size : Int) by omega)]
  rw [hw _ h0, hw _ h1, hw _ h2, hw _ h3, hw _ h4, hw _ h5, hw _ h6]
  rw [w64 (bt s 1 * 16777216) (by omega) (by omega), w64 (bt s 2 * 65536) (by omega) (by omega), w64 (bt s 3 * 256) (by omega) (by omega), w64 (bt s 5 * 256) (by omega) (by omega)]
  rw [or24 (bt s 1 * 16777216) _ (by omega) (by omega) (by omega) (by omega) (by omega)]
  rw [or16 (bt s 1 * 16777216 + bt s 2 * 65536) _ (by omega) (by omega) (by omega) (by omega) (by omega)]
  rw [or8 (bt s 1 * 16777216 + bt s 2 * 65536 + bt s 3 * 256) _ (by omega) (by omega) (by omega) (by omega) (by omega)]
  rw [or8 (bt s 5 * 256) _ (by omega) (by omega) (by omega) (by omega) (by omega)]
  exact decode_loop s hs (bt s 7).toNat (by omega) _ _ _ (bt s 7).toNat 0 [] (by omega) rfl

/-- The reference's numbers. -/
theorem val_step (k : Nat) (s : ByteArray) (x : Int) (n i : Nat) (h : i < n) (hn : n = s.size) (hn' : n ≤ 1000) (hx : 0 ≤ x) (hx' : x ≤ 1000000000000) :
    patchbayref2_Value.l0 (k + 1) s x (n : Int) (i : Int) = patchbayref2_Value.l0 k s (x * 256 + bt s (i : Int)) (n : Int) ((i + 1 : Nat) : Int) := by
  have hb := bt_range s (i : Int)
  simp only [patchbayref2_Value.l0]
  rw [if_pos (by omega), if_pos (by omega), if_pos (by omega), wnat i (by omega), w64 (bt s (i : Int)) (by omega) (by omega), w64 (x * 256) (by omega) (by omega), w64 (x * 256 + bt s (i : Int)) (by omega) (by omega)]
theorem val_end (k : Nat) (s : ByteArray) (x : Int) (n : Nat) : patchbayref2_Value.l0 (k + 1) s x (n : Int) (n : Int) = some x := by
  simp only [patchbayref2_Value.l0]; rw [if_neg (by omega)]
theorem value1 (s : ByteArray) (h : s.size = 1) : Ev (fun k => patchbayref2_Value.f k s) (bt s 0) := by
  have h0 := bt_range s 0
  refine ⟨2, fun k hk => ?_⟩
  obtain ⟨k, rfl⟩ : ∃ m, k = m + 1 + 1 := ⟨k - 2, by omega⟩
  have e1 := val_step (k + 1) s 0 1 0 (by omega) h.symm (by omega) (by omega) (by omega)
  have e2 := val_end k s (0 * 256 + bt s ((0 : Nat) : Int)) 1
  unfold patchbayref2_Value.f
  rw [h]
  refine e1.trans (e2.trans ?_)
  congr 1
  show 0 * 256 + bt s 0 = _
  omega
theorem value2 (s : ByteArray) (h : s.size = 2) : Ev (fun k => patchbayref2_Value.f k s) (bt s 0 * 256 + bt s 1) := by
  have h0 := bt_range s 0
  have h1 := bt_range s 1
  refine ⟨3, fun k hk => ?_⟩
  obtain ⟨k, rfl⟩ : ∃ m, k = m + 1 + 1 + 1 := ⟨k - 3, by omega⟩
  have e1 := val_step (k + 1 + 1) s 0 2 0 (by omega) h.symm (by omega) (by omega) (by omega)
  have e2 := val_step (k + 1) s (0 * 256 + bt s 0) 2 1 (by omega) h.symm (by omega) (by omega) (by omega)
  have e3 := val_end k s ((0 * 256 + bt s 0) * 256 + bt s 1) 2
  unfold patchbayref2_Value.f
  rw [h]
  refine e1.trans (e2.trans (e3.trans ?_))
  congr 1
  omega
theorem value4 (s : ByteArray) (h : s.size = 4) : Ev (fun k => patchbayref2_Value.f k s) (bt s 0 * 16777216 + bt s 1 * 65536 + bt s 2 * 256 + bt s 3) := by
  have h0 := bt_range s 0
  have h1 := bt_range s 1
  have h2 := bt_range s 2
  have h3 := bt_range s 3
  refine ⟨5, fun k hk => ?_⟩
  obtain ⟨k, rfl⟩ : ∃ m, k = m + 1 + 1 + 1 + 1 + 1 := ⟨k - 5, by omega⟩
  have e1 := val_step (k + 1 + 1 + 1 + 1) s 0 4 0 (by omega) h.symm (by omega) (by omega) (by omega)
  have e2 := val_step (k + 1 + 1 + 1) s (0 * 256 + bt s 0) 4 1 (by omega) h.symm (by omega) (by omega) (by omega)
  have e3 := val_step (k + 1 + 1) s ((0 * 256 + bt s 0) * 256 + bt s 1) 4 2 (by omega) h.symm (by omega) (by omega) (by omega)
  have e4 := val_step (k + 1) s (((0 * 256 + bt s 0) * 256 + bt s 1) * 256 + bt s 2) 4 3 (by omega) h.symm (by omega) (by omega) (by omega)
  have e5 := val_end k s ((((0 * 256 + bt s 0) * 256 + bt s 1) * 256 + bt s 2) * 256 + bt s 3) 4
  unfold patchbayref2_Value.f
  rw [h]
  refine e1.trans (e2.trans (e3.trans (e4.trans (e5.trans ?_))))
  congr 1
  omega

theorem bytes_two (s : ByteArray) (h : 2 ≤ s.size) : bytesOf (s.extract (s.size - 2) s.size) = [bt s ((s.size - 2 : Nat) : Int), bt s ((s.size - 1 : Nat) : Int)] := by
  rw [bytesOf_extract, bt_nat, bt_nat]
  have hl := bytesOf_length s
  rw [List.take_of_length_le (by omega), drop_cons _ 0 _ (by omega), drop_cons _ 0 _ (by omega), List.drop_eq_nil_of_le (by omega)]
  rw [show s.size - 2 + 1 = s.size - 1 by omega]

theorem read_loop (s : ByteArray) (hs : s.size ≤ 40) (n : Nat) (hn : s.size = 10 + 3 * n) (a b c : Int) (ha : 0 ≤ a) (ha' : a ≤ 9223372036854775807) (hb : 0 ≤ b) (hb' : b ≤ 9223372036854775807) : ∀ (d i : Nat) (acc : List S130), i + d = n → acc.length = i → okL acc →
    Ev (fun k => patchbayref2_AdvRead.l0 k s (n : Int) (i : Int) a b c acc) (fin s a b c (acc ++ lnks s i d)) := by
  intro d
  have e2 : wrap64 ((s.size : Int) - 2) = ((s.size - 2 : Nat) : Int) := by rw [w64 _ (by omega) (by omega)]; omega
  induction d with
  | zero =>
    intro i acc hi hac hok
    have hX := rsum_ev a b c acc (by omega) hok ha ha' hb hb'
    obtain ⟨x, hx⟩ : ∃ x, sumL (advB a b 0 acc) % 255 = x := ⟨_, rfl⟩
    obtain ⟨y, hy⟩ : ∃ y, wsum (advB a b 0 acc) % 255 = y := ⟨_, rfl⟩
    have hx0 : 0 ≤ x ∧ x < 255 := by omega
    have hy0 : 0 ≤ y ∧ y < 255 := by omega
    simp only [lnks, List.append_nil, fin]
    rw [hx, hy] at hX ⊢
    obtain ⟨s1, ev1, z1_, e1⟩ := dig1 x (by omega) (by omega)
    obtain ⟨s2, ev2, z2_, e2_⟩ := dig1 y (by omega) (by omega)
    refine Ev.step (f := fun k => (patchbayref2_AdvSum.f k a b c acc).bind fun bt178 => ((patchbayref2_Digits.f k bt178.1 1).bind fun t180 => ((patchbayref2_Digits.f k bt178.2 1).bind fun t181 => (if t180.size + t181.size ≤ 9223372036854775807 then (if (s.extract (s.size - 2) s.size).toList = (t180 ++ t181).toList then ((patchbayref2_AdvFault.f k a b c acc).bind fun t182 => (if t182 = 0 then (some (a, b, c, acc, 0)) else (some (0, 0, 0, ([] : List (S130)), t182)))) else (some (0, 0, 0, ([] : List (S130)), 8))) else (none))))) (fun k => ?_) ?_
    · simp only [patchbayref2_AdvRead.l0]
      rw [if_neg (by omega), e2]
      simp only [if_pos (show (0 : Int) ≤ ((s.size - 2 : Nat) : Int) by omega), if_pos (show ((s.size - 2 : Nat) : Int) ≤ (s.size : Int) by omega), Int.toNat_natCast]
    · refine Ev.bind hX (Ev.bind ev1 (Ev.bind ev2 ?_))
      rw [z1_, z2_]
      simp only [toList_bytes, bytes_two s (by omega), bytesOf_append, e1, e2_]
      have m1 : x % 256 = x := by omega
      have m2 : y % 256 = y := by omega
      rw [m1, m2]
      simp only [List.cons_append, List.nil_append, List.cons.injEq, and_true]
      refine Ev.if_pos (by omega) ?_
      by_cases hc : bt s ((s.size - 2 : Nat) : Int) = x ∧ bt s ((s.size - 1 : Nat) : Int) = y
      · simp only [hc, and_self, if_true]
        refine Ev.bind (fault_ev a b c acc) ?_
        by_cases h2 : flt a b c acc = 0
        · simp only [h2, if_true]; exact Ev.now _
        · simp only [h2, if_false]; exact Ev.now _
      · simp only [hc, if_false]; exact Ev.now _
  | succ d ih =>
    intro i acc hi hac hok
    have e8 : wrap64 (8 + wrap64 (3 * (i : Int))) = ((8 + 3 * i : Nat) : Int) := by rw [w64 (3 * (i : Int)) (by omega) (by omega), w64 _ (by omega) (by omega)]; omega
    have e11 : wrap64 (11 + wrap64 (3 * (i : Int))) = ((11 + 3 * i : Nat) : Int) := by rw [w64 (3 * (i : Int)) (by omega) (by omega), w64 _ (by omega) (by omega)]; omega
    have hsz : (s.extract (8 + 3 * i) (11 + 3 * i)).size = 3 := by rw [size_extract _ _ _ (by omega)]; omega
    have v1 := value1 ((s.extract (8 + 3 * i) (11 + 3 * i)).extract 0 1) (by rw [size_extract _ _ _ (by omega)])
    have v2 := value2 ((s.extract (8 + 3 * i) (11 + 3 * i)).extract 1 3) (by rw [size_extract _ _ _ (by omega)])
    have q0 : bt ((s.extract (8 + 3 * i) (11 + 3 * i)).extract 0 1) 0 = bt s ((8 + 3 * i : Nat) : Int) := by
      have := bt_extract (s.extract (8 + 3 * i) (11 + 3 * i)) 0 1 0 (by omega)
      have h2 := bt_extract s (8 + 3 * i) (11 + 3 * i) 0 (by omega)
      exact this.trans h2
    have q1 : bt ((s.extract (8 + 3 * i) (11 + 3 * i)).extract 1 3) 0 = bt s ((9 + 3 * i : Nat) : Int) := by
      have := bt_extract (s.extract (8 + 3 * i) (11 + 3 * i)) 1 3 0 (by omega)
      have h2 := bt_extract s (8 + 3 * i) (11 + 3 * i) 1 (by omega)
      rw [show 8 + 3 * i + 1 = 9 + 3 * i by omega] at h2
      exact this.trans h2
    have q2 : bt ((s.extract (8 + 3 * i) (11 + 3 * i)).extract 1 3) 1 = bt s ((10 + 3 * i : Nat) : Int) := by
      have := bt_extract (s.extract (8 + 3 * i) (11 + 3 * i)) 1 3 1 (by omega)
      have h2 := bt_extract s (8 + 3 * i) (11 + 3 * i) 2 (by omega)
      rw [show 8 + 3 * i + 2 = 10 + 3 * i by omega] at h2
      exact this.trans h2
    rw [q0] at v1
    rw [q1, q2] at v2
    refine Ev.step (f := fun k => (patchbayref2_Value.f k ((s.extract (8 + 3 * i) (11 + 3 * i)).extract 0 1)).bind fun t173 => ((patchbayref2_Value.f k ((s.extract (8 + 3 * i) (11 + 3 * i)).extract 1 3)).bind fun t174 => patchbayref2_AdvRead.l0 k s (n : Int) ((i + 1 : Nat) : Int) a b c (acc ++ [(⟨t173, t174⟩ : S130)]))) (fun k => ?_) ?_
    · simp only [patchbayref2_AdvRead.l0]
      rw [if_pos (by omega), e8, e11, wnat i (by omega)]
      simp only [Int.toNat_natCast, hsz]
      simp only [if_pos (show (0 : Int) ≤ ((8 + 3 * i : Nat) : Int) by omega), if_pos (show ((8 + 3 * i : Nat) : Int) ≤ ((11 + 3 * i : Nat) : Int) by omega), if_pos (show ((11 + 3 * i : Nat) : Int) ≤ (s.size : Int) by omega), if_pos (show (0 : Nat) ≤ 1 by omega), if_pos (show (1 : Int) ≤ ((3 : Nat) : Int) by omega), if_pos (show acc.length < 8796093022208 by omega)]
    · refine Ev.bind v1 (Ev.bind v2 ?_)
      have hokn : okL (acc ++ [lnk s i]) := by
        intro l hl
        rw [List.mem_append] at hl
        rcases hl with hl | hl
        · exact hok l hl
        · exact lnks_ok s 1 i l (by simpa [lnks] using hl)
      have := ih (i + 1) (acc ++ [lnk s i]) (by omega) (by simp [hac]) hokn
      simp only [lnks]
      rw [List.append_assoc] at this
      exact this

theorem read_ev (s : ByteArray) (hs : s.size ≤ 40) : Ev (fun k => patchbayref2_AdvRead.f k s) (rdA s) := by
  have h0 := bt_range s 0
  have h1 := bt_range s 1
  have h2 := bt_range s 2
  have h3 := bt_range s 3
  have h4 := bt_range s 4
  have h5 := bt_range s 5
  have h6 := bt_range s 6
  have h7 := bt_range s 7
  have hw : ∀ x : Int, 0 ≤ x ∧ x ≤ 255 → wrap64 x = x := fun x hx => w64 _ (by omega) (by omega)
  have e : wrap64 (10 + wrap64 (3 * bt s 7)) = 10 + 3 * bt s 7 := by rw [w64 (3 * bt s 7) (by omega) (by omega), w64 _ (by omega) (by omega)]
  have hj : ∀ q : Bool, (q = true → rdA s = (0, 0, 0, [], 9)) → (q = false → 10 ≤ s.size ∧ ¬ (s.size : Int) < 10 + 3 * bt s 7) → Ev (fun k => patchbayref2_AdvRead.j0 k s q) (rdA s) := by
    intro q hq hq2
    cases q with
    | true =>
      rw [hq rfl]
      exact Ev.step (f := fun _ => some (0, 0, 0, ([] : List S130), 9)) (fun k => by simp only [patchbayref2_AdvRead.j0, if_true]) (Ev.now _)
    | false =>
      obtain ⟨c1, c2⟩ := hq2 rfl
      unfold rdA
      rw [if_neg (by omega), if_neg c2]
      by_cases c3 : (s.size : Int) > 10 + 3 * bt s 7
      · rw [if_pos c3]
        refine Ev.step (f := fun _ => some (0, 0, 0, ([] : List S130), 3)) (fun k => ?_) (Ev.now _)
        simp only [patchbayref2_AdvRead.j0]
        rw [if_neg (by decide), if_pos (by omega), hw _ h7, e, if_pos c3]
      · rw [if_neg c3]
        have v1 := value1 (s.extract 0 1) (by rw [size_extract _ _ _ (by omega)])
        have v4 := value4 (s.extract 1 5) (by rw [size_extract _ _ _ (by omega)])
        have v2 := value2 (s.extract 5 7) (by rw [size_extract _ _ _ (by omega)])
        have q0 : bt (s.extract 0 1) 0 = bt s 0 := bt_extract s 0 1 0 (by omega)
        have q1 : bt (s.extract 1 5) 0 = bt s 1 := bt_extract s 1 5 0 (by omega)
        have q2 : bt (s.extract 1 5) 1 = bt s 2 := bt_extract s 1 5 1 (by omega)
        have q3 : bt (s.extract 1 5) 2 = bt s 3 := bt_extract s 1 5 2 (by omega)
        have q4 : bt (s.extract 1 5) 3 = bt s 4 := bt_extract s 1 5 3 (by omega)
        have q5 : bt (s.extract 5 7) 0 = bt s 5 := bt_extract s 5 7 0 (by omega)
        have q6 : bt (s.extract 5 7) 1 = bt s 6 := bt_extract s 5 7 1 (by omega)
        rw [q0] at v1
        rw [q1, q2, q3, q4] at v4
        rw [q5, q6] at v2
        refine Ev.step (f := fun k => (patchbayref2_Value.f k (s.extract 0 1)).bind fun t169 => ((patchbayref2_Value.f k (s.extract 1 5)).bind fun t170 => ((patchbayref2_Value.f k (s.extract 5 7)).bind fun t171 => patchbayref2_AdvRead.l0 k s (bt s 7) 0 t169 t170 t171 []))) (fun k => ?_) ?_
        · simp only [patchbayref2_AdvRead.j0]
          rw [if_neg (by decide), if_pos (by omega), hw _ h7, e, if_neg c3]
          simp only [if_pos (show (0 : Nat) ≤ 1 by omega), if_pos (show (1 : Int) ≤ (s.size : Int) by omega), if_pos (show (1 : Nat) ≤ 5 by omega), if_pos (show (5 : Int) ≤ (s.size : Int) by omega), if_pos (show (5 : Nat) ≤ 7 by omega), if_pos (show (7 : Int) ≤ (s.size : Int) by omega)]
        · refine Ev.bind v1 (Ev.bind v4 (Ev.bind v2 ?_))
          have := read_loop s hs (bt s 7).toNat (by omega) (bt s 0) (bt s 1 * 16777216 + bt s 2 * 65536 + bt s 3 * 256 + bt s 4) (bt s 5 * 256 + bt s 6) (by omega) (by omega) (by omega) (by omega) (bt s 7).toNat 0 [] (by omega) rfl (by intro l hl; cases hl)
          rw [show (((bt s 7).toNat : Nat) : Int) = bt s 7 by omega] at this
          exact this
  unfold patchbayref2_AdvRead.f
  by_cases c1 : (s.size : Int) < 10
  · simp only [c1, if_true]
    exact hj true (fun _ => by unfold rdA; rw [if_pos (by omega)]) (fun h => by cases h)
  · simp only [c1, if_false]
    rw [hw _ h7, e]
    refine Ev.if_pos (show (7 : Int) < (s.size : Int) by omega) ?_
    refine hj _ (fun h => ?_) (fun h => ⟨by omega, by simpa using h⟩)
    unfold rdA
    rw [if_neg (by omega), if_pos (by simpa using h)]

theorem same_loop (a b c : Int) (xs : List S130) (hx : xs.length ≤ 1000) : ∀ (d i : Nat), i + d = xs.length → Ev (fun k => patchbayref2_SameAdv.l0 k xs (xs.length : Int) (i : Int) a b c xs) true := by
  intro d
  induction d with
  | zero =>
    intro i hi
    refine Ev.step (f := fun _ => some true) (fun k => ?_) (Ev.now _)
    simp only [patchbayref2_SameAdv.l0]; rw [if_neg (by omega)]
  | succ d ih =>
    intro i hi
    refine Ev.step (f := fun k => patchbayref2_SameAdv.l0 k xs (xs.length : Int) ((i + 1 : Nat) : Int) a b c xs) (fun k => ?_) (ih (i + 1) (by omega))
    simp only [patchbayref2_SameAdv.l0]
    rw [if_pos (by omega), if_pos (by omega), if_pos (by omega), if_pos (by omega), wnat i (by omega)]
    simp

theorem same_ev (a b c : Int) (xs : List S130) (hx : xs.length ≤ 1000) : Ev (fun k => patchbayref2_SameAdv.f k a b c xs a b c xs) true := by
  unfold patchbayref2_SameAdv.f
  simp only [if_true, bne_self_eq_false]
  refine Ev.step (f := fun k => patchbayref2_SameAdv.l0 k xs (xs.length : Int) 0 a b c xs) (fun k => ?_) (same_loop a b c xs hx xs.length 0 (by omega))
  simp only [patchbayref2_SameAdv.j0, Bool.false_eq_true, if_false]

theorem rdA_length (s : ByteArray) : (rdA s).2.2.2.1.length ≤ 1000 := by
  have h7 := bt_range s 7
  unfold rdA fin
  repeat' split
  all_goals first | (simp; done) | (rw [lnks_length]; omega)

theorem lives_ev : Ev (fun k => patchbaylaw2_advLives.f k) true := by
  unfold patchbaylaw2_advLives.f
  have hf : flt 0 1 0 [] = 0 := by decide
  have hE : ∃ s, Ev (fun k => adv_Encode.f k 0 1 0 []) (s, 0) ∧ s.size = 10 := by
    have hl := advB_length 0 1 0 []
    refine ⟨strOfNums (advB 0 1 0 [] ++ [sumL (advB 0 1 0 []) % 255 % 256, wsum (advB 0 1 0 []) % 255 % 256]), ?_, by rw [strOfNums_size, List.length_append, hl]; rfl⟩
    unfold adv_Encode.f
    have hc := check_ev 0 1 0 []
    rw [hf] at hc
    refine Ev.bind hc ?_
    simp only [if_true]
    refine Ev.bind (bytes_ev 0 1 0 [] 0 (by simp)) ?_
    refine Ev.bind (sum_ev _ (by rw [hl]; simp) (advB_range 0 1 0 [])) ?_
    refine Ev.bind (bytes_ev 0 1 0 [] 0 (by simp)) ?_
    simp only [Option.bind_some]
    refine Ev.if_pos (by rw [hl]; simp) ?_
    exact Ev.now _
  obtain ⟨s, ev, hs⟩ := hE
  refine Ev.bind ev ?_
  simp only [if_true, hs]
  exact Ev.now _

theorem AdvDecodes : patchbaylaw2_AdvDecodes.Pure := by
  intro s0 hs0
  apply Ev.rounds
  unfold patchbaylaw2_AdvDecodes.f
  refine Ev.bind lives_ev ?_
  simp only [if_true]
  have hb : patchbaylaw2_begin.f s0 40 = some (s0.extract 0 (min s0.size 40)) := by
    unfold patchbaylaw2_begin.f
    rw [mn_min, if_pos (by omega), if_pos (by omega)]
    congr 2
    omega
  rw [hb]
  simp only [Option.bind_some]
  have hsz : (s0.extract 0 (min s0.size 40)).size ≤ 40 := by rw [size_extract _ _ _ (by omega)]; omega
  refine Ev.bind (decode_ev _ hsz) ?_
  refine Ev.bind (read_ev _ hsz) ?_
  simp only [if_true]
  refine Ev.bind (same_ev _ _ _ _ (rdA_length _)) ?_
  exact Ev.now _

end Go.Proofs.Ythifgakeababmaa.Pure
