/- Small lemmas on numbers, bytes and rounds, used by the plain laws. -/
import Derived.Test.YthifgakeababmaaWWords
import Derived.Test.YthifgakeababmaaWLast
import Derived.Test.YthifgakeababmaaWMore
import Derived.Laws.BitsLemmas
import Derived.Laws.Strings
namespace Go.Proofs.Ythifgakeababmaa.Aux
open Go Go.RowKit Go.Proofs.YthifgakeababmaaW.PrintWords Go.Proofs.YthifgakeababmaaW.PrintLast Go.Proofs.YthifgakeababmaaW.PrintMore
set_option linter.unusedVariables false
set_option linter.unusedSimpArgs false

theorem w64 (n : Int) (h : -9223372036854775808 ≤ n) (h' : n ≤ 9223372036854775807) : wrap64 n = n := by unfold wrap64; omega
theorem mn_lt (a b c : Int) : mn a b < c ↔ a < c ∨ b < c := by unfold mn; split <;> omega
theorem mx_gt (a b c : Int) : mx a b > c ↔ a > c ∨ b > c := by unfold mx; split <;> omega
theorem mn_min (a b : Int) : mn a b = min a b := by unfold mn; split <;> omega
theorem mx_max (a b : Int) : mx a b = max a b := by unfold mx; split <;> omega

theorem toList_bytes (s t : ByteArray) : s.toList = t.toList ↔ bytesOf s = bytesOf t := by
  rw [ByteArray.toList_eq, ByteArray.toList_eq]
  unfold bytesOf
  constructor
  · intro h; rw [h]
  · intro h
    have hinj : ∀ (l m : List UInt8), l.map (fun b => (b.toNat : Int)) = m.map (fun b => (b.toNat : Int)) → l = m := by
      intro l
      induction l with
      | nil => intro m hm; cases m with
        | nil => rfl
        | cons b m => simp at hm
      | cons a l ih => intro m hm; cases m with
        | nil => simp at hm
        | cons b m =>
          simp only [List.map_cons, List.cons.injEq] at hm
          have hab : a = b := by apply UInt8.toNat_inj.1; omega
          rw [hab, ih m hm.2]
    exact hinj _ _ h

theorem bytesOf_append (s t : ByteArray) : bytesOf (s ++ t) = bytesOf s ++ bytesOf t := by
  unfold bytesOf
  rw [ByteArray.data_append, Array.toList_append, List.map_append]

theorem bytesOf_empty : bytesOf (⟨#[]⟩ : ByteArray) = [] := rfl

theorem bytesOf_strOfNums (xs : List Int) (h : ∀ x ∈ xs, 0 ≤ x ∧ x < 256) : bytesOf (strOfNums xs) = xs := by
  unfold bytesOf
  rw [strOfNums_data, List.map_map]
  conv => rhs; rw [← List.map_id xs]
  apply List.map_congr_left
  intro x hx
  have := h x hx
  simp only [Function.comp_apply, id_eq, UInt8.toNat_ofNat']
  omega

theorem bytesOf_range (s : ByteArray) : ∀ x ∈ bytesOf s, 0 ≤ x ∧ x < 256 := by
  intro x hx
  unfold bytesOf at hx
  obtain ⟨b, _, rfl⟩ := List.mem_map.1 hx
  have := b.toNat_lt
  omega

theorem size_append (s t : ByteArray) : (s ++ t).size = s.size + t.size := ByteArray.size_append ..

theorem bt_nat (s : ByteArray) (n : Nat) : bt s (n : Int) = (bytesOf s).getD n 0 := by
  rw [← rd_bytesOf]; unfold rd; rw [Int.toNat_natCast]

theorem bytesOf_extract (s : ByteArray) (a b : Nat) : bytesOf (s.extract a b) = ((bytesOf s).take b).drop a := by
  unfold bytesOf
  rw [ByteArray.data_extract, Array.toList_extract, List.extract_eq_take_drop, ← List.map_take, ← List.map_drop, List.drop_take]

theorem size_extract (s : ByteArray) (a b : Nat) (h : b ≤ s.size) : (s.extract a b).size = b - a := by
  rw [ByteArray.size_extract]; omega

theorem bt_extract (s : ByteArray) (a b i : Nat) (h : a + i < b) : bt (s.extract a b) (i : Int) = bt s ((a + i : Nat) : Int) := by
  rw [bt_nat, bt_nat, bytesOf_extract]
  simp only [List.getD_eq_getElem?_getD, List.getElem?_drop, List.getElem?_take, h, if_true]

/-- Bits of two numbers that do not meet. -/
theorem or_add (x y : Int) (i : Nat) (hi : i ≤ 62) (hx0 : 0 ≤ x) (hx : x % 2 ^ i = 0) (hx1 : x < 4611686018427387904) (hy0 : 0 ≤ y) (hy : y < 2 ^ i) : bits .or .i64 x y = x + y := by
  have e62 : (2 : Int) ^ 62 = 4611686018427387904 := by decide
  have hle : (2 : Int) ^ i ≤ 2 ^ 62 := by
    have h1 : (2 : Nat) ^ i ≤ 2 ^ 62 := Nat.pow_le_pow_right (by decide) hi
    have h2 : ((2 : Nat) ^ i : Int) = (2 : Int) ^ i := by norm_cast
    have h3 : ((2 : Nat) ^ 62 : Int) = (2 : Int) ^ 62 := by norm_cast
    rw [← h2, ← h3]; exact_mod_cast h1
  refine bits_join .i64 62 (by decide) (fun n h0 h1 => ?_) i x y hx0 hx (by rw [e62]; exact hx1) hy0 hy (by omega)
  rw [e62] at h1
  show IntKind.i64.wrap n = n
  rw [i64_w]
  exact w64 n (by omega) (by omega)

theorem or8 (x y : Int) (hx0 : 0 ≤ x) (hx : x % 256 = 0) (hx1 : x < 4611686018427387904) (hy0 : 0 ≤ y) (hy : y < 256) : bits .or .i64 x y = x + y :=
  or_add x y 8 (by decide) hx0 (by simpa using hx) hx1 hy0 (by simpa using hy)
theorem or16 (x y : Int) (hx0 : 0 ≤ x) (hx : x % 65536 = 0) (hx1 : x < 4611686018427387904) (hy0 : 0 ≤ y) (hy : y < 65536) : bits .or .i64 x y = x + y :=
  or_add x y 16 (by decide) hx0 (by simpa using hx) hx1 hy0 (by simpa using hy)
theorem or24 (x y : Int) (hx0 : 0 ≤ x) (hx : x % 16777216 = 0) (hx1 : x < 4611686018427387904) (hy0 : 0 ≤ y) (hy : y < 16777216) : bits .or .i64 x y = x + y :=
  or_add x y 24 (by decide) hx0 (by simpa using hx) hx1 hy0 (by simpa using hy)

theorem Ev.if_pos {α : Type} {c : Prop} [Decidable c] {f g : Nat → Option α} {r : α} (h : c) (k : Ev f r) : Ev (fun n => if c then f n else g n) r := by
  obtain ⟨K, k⟩ := k; exact ⟨K, fun n hn => by dsimp only; rw [_root_.if_pos h]; exact k n hn⟩
theorem Ev.if_neg {α : Type} {c : Prop} [Decidable c] {f g : Nat → Option α} {r : α} (h : ¬ c) (k : Ev g r) : Ev (fun n => if c then f n else g n) r := by
  obtain ⟨K, k⟩ := k; exact ⟨K, fun n hn => by dsimp only; rw [_root_.if_neg h]; exact k n hn⟩

/-- Sums of bytes. -/
def sumL : List Int → Int
  | [] => 0
  | c :: l => c + sumL l
def wsum : List Int → Int
  | [] => 0
  | c :: l => ((l.length : Int) + 1) * c + wsum l

theorem drop_cons {α : Type} (xs : List α) (z : α) (i : Nat) (h : i < xs.length) : xs.drop i = xs.getD i z :: xs.drop (i + 1) := by
  rw [List.drop_eq_getElem_cons h]; simp [List.getD_eq_getElem?_getD, List.getElem?_eq_getElem h]

end Go.Proofs.Ythifgakeababmaa.Aux
