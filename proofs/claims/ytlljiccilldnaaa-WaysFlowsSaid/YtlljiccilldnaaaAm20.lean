/- Strings of bytes, by the list of their numbers. -/
import Derived.Test.YtlljiccilldnaaaAm19
set_option linter.unusedVariables false
set_option linter.unusedSimpArgs false
namespace Go.Am
open Go

def u8s (ns : List Int) : List UInt8 := ns.map fun n => UInt8.ofNat n.toNat
theorem strOf_push (ns : List Int) : ∀ r : ByteArray, (ns.foldl (fun r n => r.push (UInt8.ofNat n.toNat)) r).data.toList = r.data.toList ++ u8s ns := by
  induction ns with
  | nil => intro r; simp [u8s]
  | cons n ns ih =>
    intro r
    rw [List.foldl_cons, ih]
    simp [u8s, ByteArray.push]
theorem strOf_data (ns : List Int) : (strOf ns).data.toList = u8s ns := by
  unfold strOf
  rw [strOf_push]
  rfl
theorem ba_ext {a b : ByteArray} (h : a.data.toList = b.data.toList) : a = b := by
  obtain ⟨a⟩ := a
  obtain ⟨b⟩ := b
  congr
  exact Array.toList_inj.1 h
theorem strOf_append (a b : List Int) : strOf a ++ strOf b = strOf (a ++ b) := by
  apply ba_ext
  rw [ByteArray.data_append, Array.toList_append, strOf_data, strOf_data, strOf_data]
  simp [u8s]
theorem strOf_size (a : List Int) : (strOf a).size = a.length := by
  have := congrArg List.length (strOf_data a)
  simp [u8s] at this
  exact this
theorem strOf_nil : strOf [] = ByteArray.empty := rfl
theorem strOf_get {ns : List Int} {i : Nat} (h : i < ns.length) : (strOf ns)[i]? = some (UInt8.ofNat ns[i].toNat) := by
  have h1 : (strOf ns)[i]? = (strOf ns).data.toList[i]? := by
    rw [Array.getElem?_toList]
    by_cases hi : i < (strOf ns).size
    · rw [getElem?_pos (strOf ns) i hi, getElem?_pos (strOf ns).data i hi]; rfl
    · rw [getElem?_neg (strOf ns) i hi, getElem?_neg (strOf ns).data i hi]
  rw [h1, strOf_data]
  simp [u8s, h]
theorem u8_toNat {n : Int} (h0 : 0 ≤ n) (h1 : n < 256) : ((UInt8.ofNat n.toNat).toNat : Int) = n := by
  rw [UInt8.toNat_ofNat']; omega
theorem strOf_inj {a b : List Int} (ha : ∀ x ∈ a, 0 ≤ x ∧ x < 256) (hb : ∀ x ∈ b, 0 ≤ x ∧ x < 256) (h : strOf a = strOf b) : a = b := by
  have h2 : u8s a = u8s b := by rw [← strOf_data, ← strOf_data, h]
  have g : ∀ l : List Int, (∀ x ∈ l, 0 ≤ x ∧ x < 256) → (u8s l).map (fun c => (c.toNat : Int)) = l := by
    intro l hl
    unfold u8s
    rw [List.map_map]
    conv => rhs; rw [← List.map_id l]
    apply List.map_congr_left
    intro x hx
    exact u8_toNat (hl x hx).1 (hl x hx).2
  rw [← g a ha, ← g b hb, h2]
theorem bytesOf_map : ∀ ns : List Int, bytesOf (ns.map (Value.int .u8)) = some ns
  | [] => rfl
  | n :: ns => by simp [bytesOf, bytesOf_map ns]
end Go.Am
