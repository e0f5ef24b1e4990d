/- The plain law of PathDecodes: the reader and the reference's reader come to the same route. -/
import Derived.Test.YthifgakeababmaaPuPath
import Derived.Test.YthifgakeababmaaPrLawPath
namespace Go.Proofs.Ythifgakeababmaa.Pu
open Go Go.RowKit Go.Proofs.Ythifgakeababmaa.Pr Go.Proofs.YthifgakeababmaaW.PrintWords Go.Proofs.YthifgakeababmaaW.PrintLast Go.Proofs.YthifgakeababmaaW.PrintMore Go.Proofs.Ythifgakeababmaa.Aux
set_option linter.unusedVariables false
set_option linter.unusedSimpArgs false

/-- Pairs of bytes, as numbers. -/
def pairsAt (s : ByteArray) (i : Nat) : Nat → List Int
  | 0 => []
  | c + 1 => (bt s (i : Int) * 256 + bt s ((i + 1 : Nat) : Int)) :: pairsAt s (i + 2) c
def be4 (s : ByteArray) (i : Nat) : Int := bt s (i : Int) * 16777216 + bt s ((i + 1 : Nat) : Int) * 65536 + bt s ((i + 2 : Nat) : Int) * 256 + bt s ((i + 3 : Nat) : Int)
def errR (e : Int) : Int × Int × List Int × Int × Int × List Int × Int := (0, 0, [], 0, 0, [], e)
/-- What a string reads as. -/
def routeOf (s : ByteArray) : Int × Int × List Int × Int × Int × List Int × Int :=
  if s.size < 14 then errR 9 else
  let N := (bt s 13).toNat
  if s.size < 15 + 2 * N then errR 9 else
  let M := (bt s ((14 + 2 * N : Nat) : Int)).toNat
  if s.size < 15 + 2 * N + 2 * M then errR 9 else
  if s.size > 15 + 2 * N + 2 * M then errR 3 else
  let way := pairsAt s 14 N
  let tags := pairsAt s (15 + 2 * N) M
  let e := pflt (be4 s 1) (bt s 0) way (be4 s 5) (be4 s 9) tags
  if e = 0 then (be4 s 1, bt s 0, way, be4 s 5, be4 s 9, tags, 0) else errR e

/-! ### the program's reader -/
theorem num_step (k : Nat) (n : Int) (x : Int) (i : Nat) (t : ByteArray) (f : Bool) (hi : (i : Int) < n) (hl : i < t.size) (h60 : t.size ≤ 60) (hx : 0 ≤ x) (hx' : x < 1099511627776) :
    path_reader_num.l0 (k + 1) n x n (i : Int) t f = path_reader_num.l0 k n (x * 256 + bt t (i : Int)) n ((i + 1 : Nat) : Int) t f := by
  have hb := bt_range t (i : Int)
  simp only [path_reader_num.l0]
  rw [if_pos hi, if_pos (by omega), if_pos (by omega), wnat i (by omega), w64 (bt t (i : Int)) (by omega) (by omega), w64 (x * 256) (by omega) (by omega), or8 (x * 256) (bt t (i : Int)) (by omega) (by omega) (by omega) hb.1 (by omega)]
theorem num_end (k : Nat) (n : Nat) (x : Int) (t : ByteArray) (f : Bool) (hl : n ≤ t.size) : path_reader_num.l0 (k + 1) (n : Int) x (n : Int) (n : Int) t f = some (x, t.extract n t.size, f) := by
  simp only [path_reader_num.l0]
  rw [if_neg (by omega), if_pos (by omega), if_pos (by omega), Int.toNat_natCast]

/-- 't' is what is left of 's' behind its first 'i' bytes. -/
def Rest (s t : ByteArray) (i : Nat) : Prop := t = s.extract i s.size ∧ i ≤ s.size
theorem Rest.size {s t : ByteArray} {i : Nat} (h : Rest s t i) : t.size = s.size - i := by rw [h.1, ByteArray.size_extract]; omega
theorem Rest.byte {s t : ByteArray} {i : Nat} (h : Rest s t i) (j : Nat) (hj : i + j < s.size) : bt t (j : Int) = bt s ((i + j : Nat) : Int) := by
  rw [h.1]; exact bt_extract s i s.size j hj
theorem Rest.next {s t : ByteArray} {i : Nat} (h : Rest s t i) (n : Nat) (hn : i + n ≤ s.size) : Rest s (t.extract n t.size) (i + n) := by
  refine ⟨?_, hn⟩
  have hz := h.size
  have hq := h.1
  subst hq
  rw [ByteArray.extract_extract, hz]
  congr 1
  omega

theorem num1 {s t : ByteArray} {i : Nat} (h : Rest s t i) (h60 : s.size ≤ 60) (hn : i + 1 ≤ s.size) : ∃ t', Ev (fun k => path_reader_num.f k t false 1) (bt s (i : Int), t', false) ∧ Rest s t' (i + 1) := by
  have hz := h.size
  refine ⟨_, ⟨2, fun k hk => ?_⟩, h.next 1 hn⟩
  obtain ⟨k, rfl⟩ : ∃ m, k = m + 1 + 1 := ⟨k - 2, by omega⟩
  unfold path_reader_num.f
  dsimp only
  rw [if_neg (by omega)]
  refine (num_step (k + 1) 1 0 0 t false (by omega) (by omega) (by omega) (by omega) (by omega)).trans ((num_end k 1 _ t false (by omega)).trans ?_)
  rw [h.byte 0 (by omega)]
  rw [Int.zero_mul, Int.zero_add]; rfl
theorem num2 {s t : ByteArray} {i : Nat} (h : Rest s t i) (h60 : s.size ≤ 60) (hn : i + 2 ≤ s.size) : ∃ t', Ev (fun k => path_reader_num.f k t false 2) (bt s (i : Int) * 256 + bt s ((i + 1 : Nat) : Int), t', false) ∧ Rest s t' (i + 2) := by
  have hz := h.size
  have h0 := h.byte 0 (by omega)
  have h1 := h.byte 1 (by omega)
  have hb := bt_range t ((0 : Nat) : Int)
  refine ⟨_, ⟨3, fun k hk => ?_⟩, h.next 2 hn⟩
  obtain ⟨k, rfl⟩ : ∃ m, k = m + 1 + 1 + 1 := ⟨k - 3, by omega⟩
  unfold path_reader_num.f
  dsimp only
  rw [if_neg (by omega)]
  refine (num_step (k + 1 + 1) 2 0 0 t false (by omega) (by omega) (by omega) (by omega) (by omega)).trans ?_
  refine (num_step (k + 1) 2 _ 1 t false (by omega) (by omega) (by omega) (by omega) (by omega)).trans ((num_end k 2 _ t false (by omega)).trans ?_)
  rw [h0, h1, Int.zero_mul, Int.zero_add]; rfl
theorem num4 {s t : ByteArray} {i : Nat} (h : Rest s t i) (h60 : s.size ≤ 60) (hn : i + 4 ≤ s.size) : ∃ t', Ev (fun k => path_reader_num.f k t false 4) (be4 s i, t', false) ∧ Rest s t' (i + 4) := by
  have hz := h.size
  have h0 := h.byte 0 (by omega)
  have h1 := h.byte 1 (by omega)
  have h2 := h.byte 2 (by omega)
  have h3 := h.byte 3 (by omega)
  have b0 := bt_range t ((0 : Nat) : Int)
  have b1 := bt_range t ((1 : Nat) : Int)
  have b2 := bt_range t ((2 : Nat) : Int)
  have b3 := bt_range t ((3 : Nat) : Int)
  refine ⟨_, ⟨5, fun k hk => ?_⟩, h.next 4 hn⟩
  obtain ⟨k, rfl⟩ : ∃ m, k = m + 1 + 1 + 1 + 1 + 1 := ⟨k - 5, by omega⟩
  unfold path_reader_num.f
  dsimp only
  rw [if_neg (by omega)]
  refine (num_step (k + 1 + 1 + 1 + 1) 4 0 0 t false (by omega) (by omega) (by omega) (by omega) (by omega)).trans ?_
  refine (num_step (k + 1 + 1 + 1) 4 _ 1 t false (by omega) (by omega) (by omega) (by omega) (by omega)).trans ?_
  refine (num_step (k + 1 + 1) 4 _ 2 t false (by omega) (by omega) (by omega) (by omega) (by omega)).trans ?_
  refine (num_step (k + 1) 4 _ 3 t false (by omega) (by omega) (by omega) (by omega) (by omega)).trans ((num_end k 4 _ t false (by omega)).trans ?_)
  unfold be4
  rw [h0, h1, h2, h3]
  have e : (((0 * 256 + bt s ((i + 0 : Nat) : Int)) * 256 + bt s ((i + 1 : Nat) : Int)) * 256 + bt s ((i + 2 : Nat) : Int)) * 256 + bt s ((i + 3 : Nat) : Int) = bt s (i : Int) * 16777216 + bt s ((i + 1 : Nat) : Int) * 65536 + bt s ((i + 2 : Nat) : Int) * 256 + bt s ((i + 3 : Nat) : Int) := by
    rw [Nat.add_zero]; omega
  rw [e]
theorem num_short {s t : ByteArray} {i : Nat} (h : Rest s t i) (n : Nat) (hn : s.size < i + n) : Ev (fun k => path_reader_num.f k t false (n : Int)) (0, ⟨#[]⟩, true) := by
  have hz := h.size
  refine ⟨0, fun k hk => ?_⟩
  unfold path_reader_num.f
  dsimp only
  rw [if_pos (by have := h.2; omega)]
theorem num_dead (n : Nat) (hn : 1 ≤ n) : Ev (fun k => path_reader_num.f k ⟨#[]⟩ true (n : Int)) (0, ⟨#[]⟩, true) := by
  refine ⟨0, fun k hk => ?_⟩
  unfold path_reader_num.f
  dsimp only
  rw [if_pos (by show ((0 : Nat) : Int) < _; omega)]

theorem list_loop {s : ByteArray} (h60 : s.size ≤ 60) : ∀ (c i : Nat) (t : ByteArray) (acc : List Int), Rest s t i → i + 2 * c ≤ s.size → acc.length + c ≤ 1000 →
    ∃ t', Ev (fun k => path_reader_list.l0 k acc (c : Int) t false) (acc ++ pairsAt s i c, t', false) ∧ Rest s t' (i + 2 * c) := by
  intro c
  induction c with
  | zero =>
    intro i t acc h hi ha
    refine ⟨t, Ev.step (f := fun _ => some (acc, t, false)) (fun k => ?_) ?_, h⟩
    · simp only [path_reader_list.l0]; rw [if_neg (by omega)]
    · simp only [pairsAt, List.append_nil]; exact Ev.now _
  | succ c ih =>
    intro i t acc h hi ha
    obtain ⟨t1, ev1, h1⟩ := num2 h h60 (by omega)
    obtain ⟨t2, ev2, h2⟩ := ih (i + 2) t1 (acc ++ [bt s (i : Int) * 256 + bt s ((i + 1 : Nat) : Int)]) h1 (by omega) (by simp; omega)
    refine ⟨t2, Ev.step (f := fun k => (path_reader_num.f k t false 2).bind fun bt145 => (if acc.length < 17592186044416 then (path_reader_list.l0 k (acc ++ [bt145.1]) (wrap64 (((c + 1 : Nat) : Int) - 1)) bt145.2.1 bt145.2.2) else (none))) (fun k => ?_) ?_, by rw [show i + 2 * (c + 1) = i + 2 + 2 * c by omega]; exact h2⟩
    · simp only [path_reader_list.l0]
      rw [if_pos (by omega), if_neg (by decide)]
    · refine Ev.bind ev1 ?_
      refine Ev.if_pos (by omega) ?_
      have e : wrap64 (((c + 1 : Nat) : Int) - 1) = (c : Int) := by rw [w64 _ (by omega) (by omega)]; omega
      rw [e]
      simp only [pairsAt]
      rw [List.append_assoc] at ev2
      exact ev2

theorem list_short {s : ByteArray} (h60 : s.size ≤ 60) : ∀ (c i : Nat) (t : ByteArray) (acc : List Int), Rest s t i → s.size < i + 2 * c → c ≤ 255 → acc.length + c ≤ 1000 →
    ∃ xs, Ev (fun k => path_reader_list.l0 k acc (c : Int) t false) (xs, ⟨#[]⟩, true) := by
  intro c
  induction c with
  | zero => intro i t acc h hi _ ha; have := h.2; omega
  | succ c ih =>
    intro i t acc h hi hc ha
    have e : wrap64 (((c + 1 : Nat) : Int) - 1) = (c : Int) := by rw [w64 _ (by omega) (by omega)]; omega
    by_cases hn : i + 2 ≤ s.size
    · obtain ⟨t1, ev1, h1⟩ := num2 h h60 hn
      obtain ⟨xs, ev2⟩ := ih (i + 2) t1 (acc ++ [bt s (i : Int) * 256 + bt s ((i + 1 : Nat) : Int)]) h1 (by omega) (by omega) (by simp; omega)
      refine ⟨xs, Ev.step (f := fun k => (path_reader_num.f k t false 2).bind fun bt145 => (if acc.length < 17592186044416 then (path_reader_list.l0 k (acc ++ [bt145.1]) (wrap64 (((c + 1 : Nat) : Int) - 1)) bt145.2.1 bt145.2.2) else (none))) (fun k => ?_) ?_⟩
      · simp only [path_reader_list.l0]
        rw [if_pos (by omega), if_neg (by decide)]
      · refine Ev.bind ev1 ?_
        refine Ev.if_pos (by omega) ?_
        rw [e]
        exact ev2
    · have ev1 := num_short h 2 (by omega)
      refine ⟨acc ++ [0], Ev.step (f := fun k => (path_reader_num.f k t false 2).bind fun bt145 => (if acc.length < 17592186044416 then (path_reader_list.l0 k (acc ++ [bt145.1]) (wrap64 (((c + 1 : Nat) : Int) - 1)) bt145.2.1 bt145.2.2) else (none))) (fun k => ?_) ?_⟩
      · simp only [path_reader_list.l0]
        rw [if_pos (by omega), if_neg (by decide)]
      · refine Ev.bind ev1 ?_
        refine Ev.if_pos (by omega) ?_
        rw [e]
        refine Ev.step (f := fun _ => some (acc ++ [0], ⟨#[]⟩, true)) (fun k => ?_) (Ev.now _)
        simp only [path_reader_list.l0]
        by_cases hc0 : (c : Int) > 0
        · rw [if_pos hc0, if_pos trivial]
        · rw [if_neg hc0]
theorem list_dead : Ev (fun k => path_reader_list.f k ⟨#[]⟩ true) ([], ⟨#[]⟩, true) := by
  unfold path_reader_list.f
  refine Ev.bind (num_dead 1 (by omega)) ?_
  refine Ev.step (f := fun _ => some ([], ⟨#[]⟩, true)) (fun k => ?_) (Ev.now _)
  simp only [path_reader_list.l0]; rw [if_neg (by decide)]

theorem list_ok {s t : ByteArray} {i : Nat} (h : Rest s t i) (h60 : s.size ≤ 60) (hn : i + 1 + 2 * (bt s (i : Int)).toNat ≤ s.size) : ∃ t', Ev (fun k => path_reader_list.f k t false) (pairsAt s (i + 1) (bt s (i : Int)).toNat, t', false) ∧ Rest s t' (i + 1 + 2 * (bt s (i : Int)).toNat) := by
  obtain ⟨t1, ev1, h1⟩ := num1 h h60 (by omega)
  have hb := bt_range s (i : Int)
  obtain ⟨t2, ev2, h2⟩ := list_loop h60 (bt s (i : Int)).toNat (i + 1) t1 [] h1 hn (by simp; omega)
  refine ⟨t2, ?_, h2⟩
  unfold path_reader_list.f
  refine Ev.bind ev1 ?_
  rw [Int.toNat_of_nonneg hb.1, List.nil_append] at ev2
  exact ev2
theorem list_bad {s t : ByteArray} {i : Nat} (h : Rest s t i) (h60 : s.size ≤ 60) (hn : s.size < i + 1 ∨ s.size < i + 1 + 2 * (bt s (i : Int)).toNat) : ∃ xs, Ev (fun k => path_reader_list.f k t false) (xs, ⟨#[]⟩, true) := by
  have hb := bt_range s (i : Int)
  by_cases h0 : s.size < i + 1
  · refine ⟨[], ?_⟩
    unfold path_reader_list.f
    refine Ev.bind (num_short h 1 h0) ?_
    refine Ev.step (f := fun _ => some ([], ⟨#[]⟩, true)) (fun k => ?_) (Ev.now _)
    simp only [path_reader_list.l0]; rw [if_neg (by decide)]
  · obtain ⟨t1, ev1, h1⟩ := num1 h h60 (by omega)
    obtain ⟨xs, ev2⟩ := list_short h60 (bt s (i : Int)).toNat (i + 1) t1 [] h1 (by omega) (by omega) (by simp; omega)
    refine ⟨xs, ?_⟩
    unfold path_reader_list.f
    refine Ev.bind ev1 ?_
    rw [Int.toNat_of_nonneg hb.1] at ev2
    exact ev2

theorem be4_range (s : ByteArray) (i : Nat) : 0 ≤ be4 s i ∧ be4 s i < 4294967296 := by
  have h0 := bt_range s (i : Int)
  have h1 := bt_range s ((i + 1 : Nat) : Int)
  have h2 := bt_range s ((i + 2 : Nat) : Int)
  have h3 := bt_range s ((i + 3 : Nat) : Int)
  unfold be4; omega

/-- The tail, once nothing is left to read. -/
theorem decode_dead (n1 n2 n3 n4 : Int) : Ev (fun k => (path_reader_list.f k ⟨#[]⟩ true).bind fun l1 => (path_reader_list.f k l1.2.1 l1.2.2).bind fun l2 =>
    if l2.2.2 = true then some (errR 9) else if l2.2.1.toList = [] then
      (path_Check.f k (n2 % 4294967296) n1 l1.1 n3 n4 l2.1).bind fun e => if e = 0 then some (n2 % 4294967296, n1, l1.1, n3, n4, l2.1, 0) else some (errR e)
    else some (errR 3)) (errR 9) := by
  refine Ev.bind list_dead (Ev.bind list_dead ?_)
  exact Ev.if_pos rfl (Ev.now _)

theorem toList_nil (t : ByteArray) : t.toList = [] ↔ t.size = 0 := by
  have e : (⟨#[]⟩ : ByteArray).toList = [] := by rw [ByteArray.toList_eq]
  rw [← e, toList_bytes, bytesOf_empty]
  have := bytesOf_length t
  constructor
  · intro h; rw [h] at this; simpa using this.symm
  · intro h; exact List.eq_nil_of_length_eq_zero (by omega)

theorem decode_ev (s : ByteArray) (h60 : s.size ≤ 60) : Ev (fun k => path_Decode.f k s) (routeOf s) := by
  have r0 : Rest s s 0 := ⟨by rw [ByteArray.extract_zero_size], by omega⟩
  unfold path_Decode.f
  show Ev (fun k => (path_reader_num.f k s false 1).bind fun n1 => (path_reader_num.f k n1.2.1 n1.2.2 4).bind fun n2 => (path_reader_num.f k n2.2.1 n2.2.2 4).bind fun n3 => (path_reader_num.f k n3.2.1 n3.2.2 4).bind fun n4 =>
    (path_reader_list.f k n4.2.1 n4.2.2).bind fun l1 => (path_reader_list.f k l1.2.1 l1.2.2).bind fun l2 =>
    if l2.2.2 = true then some (errR 9) else if l2.2.1.toList = [] then
      (path_Check.f k (n2.1 % 4294967296) n1.1 l1.1 n3.1 n4.1 l2.1).bind fun e => if e = 0 then some (n2.1 % 4294967296, n1.1, l1.1, n3.1, n4.1, l2.1, 0) else some (errR e)
    else some (errR 3)) (routeOf s)
  have d4 := num_dead 4 (by omega)
  unfold routeOf
  by_cases c1 : s.size < 1
  · rw [if_pos (by omega)]
    exact Ev.bind (num_short r0 1 (by omega)) (Ev.bind d4 (Ev.bind d4 (Ev.bind d4 (decode_dead _ _ _ _))))
  obtain ⟨t1, e1, r1⟩ := num1 r0 h60 (by omega)
  refine Ev.bind e1 ?_
  by_cases c2 : s.size < 5
  · rw [if_pos (by omega)]
    exact Ev.bind (num_short r1 4 (by omega)) (Ev.bind d4 (Ev.bind d4 (decode_dead _ _ _ _)))
  obtain ⟨t2, e2, r2⟩ := num4 r1 h60 (by omega)
  refine Ev.bind e2 ?_
  by_cases c3 : s.size < 9
  · rw [if_pos (by omega)]
    exact Ev.bind (num_short r2 4 (by omega)) (Ev.bind d4 (decode_dead _ _ _ _))
  obtain ⟨t3, e3, r3⟩ := num4 r2 h60 (by omega)
  refine Ev.bind e3 ?_
  by_cases c4 : s.size < 13
  · rw [if_pos (by omega)]
    exact Ev.bind (num_short r3 4 (by omega)) (decode_dead _ _ _ _)
  obtain ⟨t4, e4, r4⟩ := num4 r3 h60 (by omega)
  refine Ev.bind e4 ?_
  have hb := bt_range s 13
  by_cases c5 : s.size < 14
  · rw [if_pos c5]
    obtain ⟨xs, e5⟩ := list_bad r4 h60 (.inl (by omega))
    refine Ev.bind e5 (Ev.bind list_dead ?_)
    exact Ev.if_pos rfl (Ev.now _)
  rw [if_neg c5]
  dsimp only
  by_cases c6 : s.size < 14 + 2 * (bt s 13).toNat
  · rw [if_pos (by omega)]
    obtain ⟨xs, e5⟩ := list_bad r4 h60 (.inr (by show s.size < 13 + 1 + 2 * (bt s 13).toNat; omega))
    refine Ev.bind e5 (Ev.bind list_dead ?_)
    exact Ev.if_pos rfl (Ev.now _)
  obtain ⟨t5, e5, r5⟩ := list_ok r4 h60 (by show 13 + 1 + 2 * (bt s 13).toNat ≤ s.size; omega)
  refine Ev.bind e5 ?_
  replace r5 : Rest s t5 (14 + 2 * (bt s 13).toNat) := r5
  obtain ⟨N, hN⟩ : ∃ N, (bt s 13).toNat = N := ⟨_, rfl⟩
  change Ev (fun k => (path_reader_list.f k t5 false).bind fun l2 =>
    if l2.2.2 = true then some (errR 9) else if l2.2.1.toList = [] then
      (path_Check.f k (be4 s 1 % 4294967296) (bt s 0) (pairsAt s 14 (bt s 13).toNat) (be4 s 5) (be4 s 9) l2.1).bind fun e => if e = 0 then some (be4 s 1 % 4294967296, bt s 0, pairsAt s 14 (bt s 13).toNat, be4 s 5, be4 s 9, l2.1, 0) else some (errR e)
    else some (errR 3)) _
  rw [hN] at r5 c6 ⊢
  by_cases c7 : s.size < 15 + 2 * N
  · rw [if_pos c7]
    obtain ⟨xs, e6⟩ := list_bad r5 h60 (.inl (by omega))
    refine Ev.bind e6 ?_
    exact Ev.if_pos rfl (Ev.now _)
  rw [if_neg c7]
  obtain ⟨M, hM⟩ : ∃ M, (bt s ((14 + 2 * N : Nat) : Int)).toNat = M := ⟨_, rfl⟩
  rw [hM]
  by_cases c8 : s.size < 15 + 2 * N + 2 * M
  · rw [if_pos c8]
    obtain ⟨xs, e6⟩ := list_bad r5 h60 (.inr (by rw [hM]; omega))
    refine Ev.bind e6 ?_
    exact Ev.if_pos rfl (Ev.now _)
  rw [if_neg c8]
  obtain ⟨t6, e6, r6⟩ := list_ok r5 h60 (by rw [hM]; omega)
  rw [hM] at e6 r6
  refine Ev.bind e6 ?_
  have z6 := r6.size
  refine Ev.if_neg (fun h => by cases h) ?_
  simp only [toList_nil]
  by_cases c9 : s.size > 15 + 2 * N + 2 * M
  · rw [if_pos c9]
    exact Ev.if_neg (by omega) (Ev.now _)
  rw [if_neg c9]
  refine Ev.if_pos (by omega) ?_
  have hr := be4_range s 1
  have em : be4 s 1 % 4294967296 = be4 s 1 := by omega
  rw [em, show 14 + 2 * N + 1 = 15 + 2 * N by omega]
  refine Ev.bind (check_ev _ _ _ _ _ _ hr.1 hr.2) ?_
  by_cases h : pflt (be4 s 1) (bt s 0) (pairsAt s 14 N) (be4 s 5) (be4 s 9) (pairsAt s (15 + 2 * N) M) = 0
  · simp only [h, if_true]; exact Ev.now _
  · simp only [h, if_false]; exact Ev.now _

/-! ### the reference's reader -/
theorem val_step (k : Nat) (s : ByteArray) (x : Int) (n i : Nat) (h : i < n) (hn : n = s.size) (hn' : n ≤ 1000) (hx : 0 ≤ x) (hx' : x ≤ 1000000000000) :
    patchbayref2_Value.l0 (k + 1) s x (n : Int) (i : Int) = patchbayref2_Value.l0 k s (x * 256 + bt s (i : Int)) (n : Int) ((i + 1 : Nat) : Int) := by
  have hb := bt_range s (i : Int)
  simp only [patchbayref2_Value.l0]
  rw [if_pos (by omega), if_pos (by omega), if_pos (by omega), wnat i (by omega), w64 (bt s (i : Int)) (by omega) (by omega), w64 (x * 256) (by omega) (by omega), w64 (x * 256 + bt s (i : Int)) (by omega) (by omega)]
theorem val_end (k : Nat) (s : ByteArray) (x : Int) (n : Nat) : patchbayref2_Value.l0 (k + 1) s x (n : Int) (n : Int) = some x := by
  simp only [patchbayref2_Value.l0]; rw [if_neg (by omega)]
theorem value1 (s : ByteArray) (h : s.size = 1) : Ev (fun k => patchbayref2_Value.f k s) (bt s 0) := by
  have h0 := bt_range s 0
  refine ⟨2, fun k hk => ?_⟩
  obtain ⟨k, rfl⟩ : ∃ m, k = m + 1 + 1 := ⟨k - 2, by omega⟩
  have e1 := val_step (k + 1) s 0 1 0 (by omega) h.symm (by omega) (by omega) (by omega)
  have e2 := val_end k s (0 * 256 + bt s ((0 : Nat) : Int)) 1
  unfold patchbayref2_Value.f
  rw [h]
  refine e1.trans (e2.trans ?_)
  congr 1
  show 0 * 256 + bt s 0 = _
  omega
theorem value2 (s : ByteArray) (h : s.size = 2) : Ev (fun k => patchbayref2_Value.f k s) (bt s 0 * 256 + bt s 1) := by
  have h0 := bt_range s 0
  have h1 := bt_range s 1
  refine ⟨3, fun k hk => ?_⟩
  obtain ⟨k, rfl⟩ : ∃ m, k = m + 1 + 1 + 1 := ⟨k - 3, by omega⟩
  have e1 := val_step (k + 1 + 1) s 0 2 0 (by omega) h.symm (by omega) (by omega) (by omega)
  have e2 := val_step (k + 1) s (0 * 256 + bt s 0) 2 1 (by omega) h.symm (by omega) (by omega) (by omega)
  have e3 := val_end k s ((0 * 256 + bt s 0) * 256 + bt s 1) 2
  unfold patchbayref2_Value.f
  rw [h]
  refine e1.trans (e2.trans (e3.trans ?_))
  congr 1
  omega
theorem value4 (s : ByteArray) (h : s.size = 4) : Ev (fun k => patchbayref2_Value.f k s) (bt s 0 * 16777216 + bt s 1 * 65536 + bt s 2 * 256 + bt s 3) := by
  have h0 := bt_range s 0
  have h1 := bt_range s 1
  have h2 := bt_range s 2
  have h3 := bt_range s 3
  refine ⟨5, fun k hk => ?_⟩
  obtain ⟨k, rfl⟩ : ∃ m, k = m + 1 + 1 + 1 + 1 + 1 := ⟨k - 5, by omega⟩
  have e1 := val_step (k + 1 + 1 + 1 + 1) s 0 4 0 (by omega) h.symm (by omega) (by omega) (by omega)
  have e2 := val_step (k + 1 + 1 + 1) s (0 * 256 + bt s 0) 4 1 (by omega) h.symm (by omega) (by omega) (by omega)
  have e3 := val_step (k + 1 + 1) s ((0 * 256 + bt s 0) * 256 + bt s 1) 4 2 (by omega) h.symm (by omega) (by omega) (by omega)
  have e4 := val_step (k + 1) s (((0 * 256 + bt s 0) * 256 + bt s 1) * 256 + bt s 2) 4 3 (by omega) h.symm (by omega) (by omega) (by omega)
  have e5 := val_end k s ((((0 * 256 + bt s 0) * 256 + bt s 1) * 256 + bt s 2) * 256 + bt s 3) 4
  unfold patchbayref2_Value.f
  rw [h]
  refine e1.trans (e2.trans (e3.trans (e4.trans (e5.trans ?_))))
  congr 1
  omega
theorem ext2 (s : ByteArray) (i : Nat) (h : i + 2 ≤ s.size) : Ev (fun k => patchbayref2_Value.f k (s.extract i (i + 2))) (bt s (i : Int) * 256 + bt s ((i + 1 : Nat) : Int)) := by
  have := value2 (s.extract i (i + 2)) (by rw [size_extract _ _ _ h]; omega)
  have e0 := bt_extract s i (i + 2) 0 (by omega)
  have e1 := bt_extract s i (i + 2) 1 (by omega)
  rw [show ((0 : Nat) : Int) = 0 from rfl] at e0
  rw [show ((1 : Nat) : Int) = 1 from rfl] at e1
  rw [e0, e1] at this
  exact this
theorem ext4 (s : ByteArray) (i : Nat) (h : i + 4 ≤ s.size) : Ev (fun k => patchbayref2_Value.f k (s.extract i (i + 4))) (be4 s i) := by
  have := value4 (s.extract i (i + 4)) (by rw [size_extract _ _ _ h]; omega)
  have e0 := bt_extract s i (i + 4) 0 (by omega)
  have e1 := bt_extract s i (i + 4) 1 (by omega)
  have e2 := bt_extract s i (i + 4) 2 (by omega)
  have e3 := bt_extract s i (i + 4) 3 (by omega)
  rw [show ((0 : Nat) : Int) = 0 from rfl] at e0
  rw [show ((1 : Nat) : Int) = 1 from rfl] at e1
  rw [show ((2 : Nat) : Int) = 2 from rfl] at e2
  rw [show ((3 : Nat) : Int) = 3 from rfl] at e3
  rw [e0, e1, e2, e3] at this
  exact this

theorem w2 (i : Nat) (h : i < 1000) : wrap64 ((i : Int) + 2) = ((i + 2 : Nat) : Int) := by rw [w64 _ (by omega) (by omega)]; omega

theorem read_tags (s : ByteArray) (h60 : s.size ≤ 60) (E : Nat) (hE : E = s.size) (a b : Int) (way : List Int) (p m : Int) (ha : 0 ≤ a) (ha' : a < 4294967296) : ∀ (c i : Nat) (acc : List Int), i + 2 * c = E → acc.length + c ≤ 1000 →
    Ev (fun k => patchbayref2_PathRead.l1 k s (E : Int) (i : Int) a b way p m acc) (if pflt a b way p m (acc ++ pairsAt s i c) = 0 then (a, b, way, p, m, acc ++ pairsAt s i c, 0) else errR (pflt a b way p m (acc ++ pairsAt s i c))) := by
  intro c
  induction c with
  | zero =>
    intro i acc hi hac
    simp only [pairsAt, List.append_nil]
    refine Ev.step (f := fun k => (patchbayref2_PathFault.f k a b way p m acc).bind fun t175 => (if t175 = 0 then (some (a, b, way, p, m, acc, 0)) else (some (0, 0, ([] : List Int), 0, 0, ([] : List Int), t175)))) (fun k => ?_) ?_
    · simp only [patchbayref2_PathRead.l1]; rw [if_neg (by omega)]
    · refine Ev.bind (fault_ev a b way p m acc ha ha') ?_
      by_cases h : pflt a b way p m acc = 0
      · simp only [h, if_true]; exact Ev.now _
      · simp only [h, if_false]; exact Ev.now _
  | succ c ih =>
    intro i acc hi hac
    have next := ih (i + 2) (acc ++ [bt s (i : Int) * 256 + bt s ((i + 1 : Nat) : Int)]) (by omega) (by simp; omega)
    rw [List.append_assoc] at next
    refine Ev.step (f := fun k => (patchbayref2_Value.f k (s.extract i (i + 2))).bind fun t171 => (if acc.length < 17592186044416 then (patchbayref2_PathRead.l1 k s (E : Int) ((i + 2 : Nat) : Int) a b way p m (acc ++ [t171])) else (none))) (fun k => ?_) ?_
    · simp only [patchbayref2_PathRead.l1]
      rw [if_pos (by omega), w2 i (by omega), if_pos (by omega), if_pos (by omega), if_pos (by omega), Int.toNat_natCast, Int.toNat_natCast]
    · refine Ev.bind (ext2 s i (by omega)) (Ev.if_pos (by omega) ?_)
      exact next

theorem read_way (s : ByteArray) (h60 : s.size ≤ 60) (N M : Nat) (hz : s.size = 15 + 2 * N + 2 * M) (a b p m : Int) (ha : 0 ≤ a) (ha' : a < 4294967296) : ∀ (c i : Nat) (acc : List Int), i + 2 * c = 14 + 2 * N → acc.length + c ≤ 1000 →
    Ev (fun k => patchbayref2_PathRead.l0 k s ((14 + 2 * N : Nat) : Int) ((15 + 2 * N + 2 * M : Nat) : Int) (i : Int) a b acc p m) (if pflt a b (acc ++ pairsAt s i c) p m (pairsAt s (15 + 2 * N) M) = 0 then (a, b, acc ++ pairsAt s i c, p, m, pairsAt s (15 + 2 * N) M, 0) else errR (pflt a b (acc ++ pairsAt s i c) p m (pairsAt s (15 + 2 * N) M))) := by
  intro c
  induction c with
  | zero =>
    intro i acc hi hac
    simp only [pairsAt, List.append_nil]
    have := read_tags s h60 (15 + 2 * N + 2 * M) (by omega) a b acc p m ha ha' M (15 + 2 * N) [] (by omega) (by simp; omega)
    rw [List.nil_append] at this
    refine Ev.step (f := fun k => patchbayref2_PathRead.l1 k s ((15 + 2 * N + 2 * M : Nat) : Int) ((15 + 2 * N : Nat) : Int) a b acc p m ([] : List Int)) (fun k => ?_) this
    simp only [patchbayref2_PathRead.l0]
    rw [if_neg (by omega), wnat _ (by omega), show 14 + 2 * N + 1 = 15 + 2 * N by omega]
  | succ c ih =>
    intro i acc hi hac
    have next := ih (i + 2) (acc ++ [bt s (i : Int) * 256 + bt s ((i + 1 : Nat) : Int)]) (by omega) (by simp; omega)
    rw [List.append_assoc] at next
    refine Ev.step (f := fun k => (patchbayref2_Value.f k (s.extract i (i + 2))).bind fun t167 => (if acc.length < 17592186044416 then (patchbayref2_PathRead.l0 k s ((14 + 2 * N : Nat) : Int) ((15 + 2 * N + 2 * M : Nat) : Int) ((i + 2 : Nat) : Int) a b (acc ++ [t167]) p m) else (none))) (fun k => ?_) ?_
    · simp only [patchbayref2_PathRead.l0]
      rw [if_pos (by omega), w2 i (by omega), if_pos (by omega), if_pos (by omega), if_pos (by omega), Int.toNat_natCast, Int.toNat_natCast]
    · refine Ev.bind (ext2 s i (by omega)) (Ev.if_pos (by omega) ?_)
      exact next

theorem read_ev (s : ByteArray) (h60 : s.size ≤ 60) : Ev (fun k => patchbayref2_PathRead.f k s) (routeOf s) := by
  unfold patchbayref2_PathRead.f routeOf
  have bad : Ev (fun k => patchbayref2_PathRead.j0 k s true) (errR 9) := Ev.step (f := fun _ => some (errR 9)) (fun k => by simp only [patchbayref2_PathRead.j0, if_true]; rfl) (Ev.now _)
  by_cases c5 : s.size < 14
  · rw [if_pos c5]
    exact Ev.if_pos (by omega) bad
  rw [if_neg c5]
  refine Ev.if_neg (by omega) (Ev.if_pos (by omega) ?_)
  have hb := bt_range s 13
  obtain ⟨N, hN⟩ : ∃ N, (bt s 13).toNat = N := ⟨_, rfl⟩
  have hN' : bt s 13 = (N : Int) := by omega
  have w1 : wrap64 (15 + wrap64 (2 * wrap64 (N : Int))) = ((15 + 2 * N : Nat) : Int) := by
    rw [w64 (N : Int) (by omega) (by omega), w64 (2 * (N : Int)) (by omega) (by omega), w64 _ (by omega) (by omega)]; omega
  have w2 : wrap64 (14 + wrap64 (2 * wrap64 (N : Int))) = ((14 + 2 * N : Nat) : Int) := by
    rw [w64 (N : Int) (by omega) (by omega), w64 (2 * (N : Int)) (by omega) (by omega), w64 _ (by omega) (by omega)]; omega
  dsimp only
  rw [hN, hN', w1]
  by_cases c7 : s.size < 15 + 2 * N
  · rw [if_pos c7, show decide ((s.size : Int) < ((15 + 2 * N : Nat) : Int)) = true from decide_eq_true (by omega)]
    exact bad
  rw [if_neg c7, show decide ((s.size : Int) < ((15 + 2 * N : Nat) : Int)) = false from decide_eq_false (by omega)]
  have hb2 := bt_range s ((14 + 2 * N : Nat) : Int)
  obtain ⟨M, hM⟩ : ∃ M, (bt s ((14 + 2 * N : Nat) : Int)).toNat = M := ⟨_, rfl⟩
  have hM' : bt s ((14 + 2 * N : Nat) : Int) = (M : Int) := by omega
  have w3 : wrap64 (wrap64 (((14 + 2 * N : Nat) : Int) + 1) + wrap64 (2 * wrap64 (M : Int))) = ((15 + 2 * N + 2 * M : Nat) : Int) := by
    rw [w64 (M : Int) (by omega) (by omega), w64 (2 * (M : Int)) (by omega) (by omega), w64 (((14 + 2 * N : Nat) : Int) + 1) (by omega) (by omega), w64 _ (by omega) (by omega)]; omega
  rw [hM]
  by_cases c8 : s.size < 15 + 2 * N + 2 * M
  · rw [if_pos c8]
    refine Ev.step (f := fun _ => some (errR 9)) (fun k => ?_) (Ev.now _)
    simp only [patchbayref2_PathRead.j0, Bool.false_eq_true, if_false, hN', w2, hM', w3]
    rw [if_pos (by omega), if_pos (by omega), if_pos (by omega), if_pos (by omega)]; rfl
  rw [if_neg c8]
  by_cases c9 : s.size > 15 + 2 * N + 2 * M
  · rw [if_pos c9]
    refine Ev.step (f := fun _ => some (errR 3)) (fun k => ?_) (Ev.now _)
    simp only [patchbayref2_PathRead.j0, Bool.false_eq_true, if_false, hN', w2, hM', w3]
    rw [if_pos (by omega), if_pos (by omega), if_pos (by omega), if_neg (by omega), if_pos (by omega)]; rfl
  rw [if_neg c9]
  have hr := be4_range s 1
  have em : be4 s 1 % 4294967296 = be4 s 1 := by omega
  obtain ⟨K1, v1⟩ := ext4 s 1 (by omega)
  obtain ⟨K2, v2⟩ := value1 (s.extract 0 1) (by rw [size_extract _ _ _ (by omega)])
  have eb : bt (s.extract 0 1) 0 = bt s 0 := bt_extract s 0 1 0 (by omega)
  obtain ⟨K3, v3⟩ := ext4 s 5 (by omega)
  obtain ⟨K4, v4⟩ := ext4 s 9 (by omega)
  obtain ⟨K5, v5⟩ := read_way s h60 N M (by omega) (be4 s 1) (bt s 0) (be4 s 5) (be4 s 9) hr.1 hr.2 N 14 [] (by omega) (by simp; omega)
  refine ⟨K1 + K2 + K3 + K4 + K5 + 1, fun k hk => ?_⟩
  obtain ⟨k, rfl⟩ : ∃ m, k = m + 1 := ⟨k - 1, by omega⟩
  have v1 := v1 k (by omega)
  have v2 := v2 k (by omega)
  have v3 := v3 k (by omega)
  have v4 := v4 k (by omega)
  have v5 := v5 k (by omega)
  dsimp only at v1 v2 v3 v4 v5 ⊢
  simp only [patchbayref2_PathRead.j0, Bool.false_eq_true, if_false, hN', w2, hM', w3]
  rw [if_pos (by omega), if_pos (by omega), if_pos (by omega), if_neg (by omega), if_neg (by omega), if_pos (by decide), if_pos (by omega), v1, Option.bind_some, if_pos (by decide), if_pos (by omega), v2, Option.bind_some, if_pos (by decide), if_pos (by omega), v3, Option.bind_some, if_pos (by decide), if_pos (by omega), v4, Option.bind_some, em, eb]
  rw [List.nil_append] at v5
  exact v5

/-! ### the law -/
theorem ev_mono {α : Type} {f : Nat → Option α} {r : α} (m : ∀ k, LeO (f k) (f (k + 1))) (K : Nat) (h : f K = some r) : Ev f r :=
  ⟨K, fun k hk => by
    obtain ⟨d, rfl⟩ : ∃ d, k = K + d := ⟨k - K, by omega⟩
    induction d with
    | zero => exact h
    | succ d ih => exact m (K + d) r (ih (by omega))⟩
theorem lives_ev : Ev (fun k => patchbaylaw2_pathLives.f k) true := ev_mono patchbaylaw2_pathLives.mono 30 (by kernel_rfl)

theorem route_len (s : ByteArray) (h60 : s.size ≤ 60) : (routeOf s).2.2.1.length ≤ 1000 ∧ (routeOf s).2.2.2.2.2.1.length ≤ 1000 := by
  have hp : ∀ (c i : Nat), (pairsAt s i c).length = c := by
    intro c
    induction c with
    | zero => intro i; rfl
    | succ c ih => intro i; simp only [pairsAt, List.length_cons, ih]
  have h1 := bt_range s 13
  unfold routeOf
  repeat' first
    | (split)
    | (dsimp only)
  all_goals first
    | (simp only [errR, List.length_nil]; omega)
    | skip
  have h2 := bt_range s ((14 + 2 * (bt s 13).toNat : Nat) : Int)
  simp only [hp]
  omega

theorem path_decodes : patchbaylaw2_PathDecodes.Pure := by
  intro s hs
  have key : Ev (fun k => patchbaylaw2_PathDecodes.f k s) true := by
    unfold patchbaylaw2_PathDecodes.f
    refine Ev.bind lives_ev (Ev.if_pos rfl ?_)
    obtain ⟨t, ht, h60⟩ : ∃ t, patchbaylaw2_begin.f s 60 = some t ∧ t.size ≤ 60 := by
      unfold patchbaylaw2_begin.f
      refine ⟨s.extract 0 (mn (s.size : Int) 60).toNat, ?_, ?_⟩
      · rw [if_pos (by rw [mn_min]; omega), if_pos (by rw [mn_min]; omega)]
      · rw [ByteArray.size_extract, mn_min]; omega
    rw [ht]
    simp only [Option.bind_some]
    refine Ev.bind (decode_ev t h60) (Ev.bind (read_ev t h60) (Ev.if_pos rfl ?_))
    have := route_len t h60
    exact Ev.bind (same_path _ _ _ _ _ _ (by omega) (by omega)) (Ev.now _)
  obtain ⟨K, h⟩ := key
  exact ⟨K, h K (Nat.le_refl _)⟩
end Go.Proofs.Ythifgakeababmaa.Pu
