/- The flow of a packet. -/
import Derived.Test.YtlljiccilldnaaaWf2
import Derived.Test.YtlljiccilldnaaaAm21
set_option linter.unusedVariables false
set_option linter.unusedSimpArgs false
set_option maxRecDepth 10000
set_option maxHeartbeats 2000000
namespace Go.Proofs.Ytlljiccilldnaaa.Wf
open Go Go.Am
open Go.Proofs.Ytlljiccilldnaaa.Fx
open Go.Proofs.Ytlljiccilldnaaa.Ba (wrap_small wrap_succ)
open Go.Proofs.Ytlljiccilldnaaa.Ad (KB KI)
variable {H : Heap} {K : Value → Heap → Prop}

theorem Fl.rd_one {H : Heap} {b off : Nat} {cells : List Value} {sz : Nat} {t : Bool} {v : Value} (h : H[b]? = some ⟨cells, sz, t, .live⟩) (hv : cells[off]? = some v) : rdBlk H b off 1 = some [v] := by
  obtain ⟨hi, rfl⟩ := List.getElem?_eq_some_iff.1 hv
  rw [rd_at h (by omega), List.drop_eq_getElem_cons hi]
  rfl
theorem str_begin {P : Program} {s : ByteArray} {t : TypeId} {j : Int} (ht : P.underlying t = some .string) (h0 : 0 ≤ j) (hj : j ≤ s.size) : aSlice P H t (.string s) none (some (.int .i64 j)) none = some (.string (s.extract 0 j.toNat)) := by
  simp [aSlice, ht, aBound, h0, hj]
theorem str_slice {P : Program} {s : ByteArray} {t : TypeId} {i j : Int} (ht : P.underlying t = some .string) (h0 : 0 ≤ i) (hij : i ≤ j) (hj : j ≤ s.size) : aSlice P H t (.string s) (some (.int .i64 i)) (some (.int .i64 j)) none = some (.string (s.extract i.toNat j.toNat)) := by
  have : (0 : Int) ≤ j := by omega
  have h3 : i ≤ max j 0 := by omega
  simp [aSlice, ht, aBound, h0, hj, this, h3]

theorem begin_spec {s : ByteArray} (hk : K (.string (s.extract 0 (min s.size 16))) H) : Wcall Try.prog 50 #[.string s, .int .i64 16] H K := by
  refine call_body (rs := #[.tmp 4]) Try.func50 rfl Try.ntmps50 rfl rfl (by simp) ?_
  simp [go_sem]
  rw [str_begin u9 (by omega) (by omega), show (min (s.size : Int) 16).toNat = min s.size 16 by omega]
  simp [go_sem]
  exact hk

def bareP (p : Pk) : Pk := { p with body := p.body.extract 0 (min p.body.size 16) }
/-- 'bare'. -/
theorem bare_spec {p : Pk} (hk : ∀ H', Ext H H' → K (pkV (bareP p)) H') : Wcall Try.prog 16 #[pkV p, .int .i64 16] H K := by
  refine call_cells (rs := #[.cell 4 40]) Try.func16 rfl Try.ntmps16 rfl (by simp) ?_
  simp [go_sem, pkV, pkC]
  refine begin_spec ?_
  simp [go_sem]
  exact hk _ (by simp [go_sem])

def portsIn (p : Pk) : Prop := (p.proto = 6 ∨ p.proto = 17) ∧ p.off = 0 ∧ p.more = false ∧ 4 ≤ p.body.size
instance (p : Pk) : Decidable (portsIn p) := by unfold portsIn; infer_instance
def byteAt (s : ByteArray) (i : Nat) : Int := match s.data.toList[i]? with
  | some c => c.toNat
  | none => 0
def flowOf (p : Pk) : Flow := if portsIn p then ⟨p.src, p.dst, p.proto, byteAt p.body 0 * 256 + byteAt p.body 1, byteAt p.body 2 * 256 + byteAt p.body 3⟩ else ⟨p.src, p.dst, p.proto, 0, 0⟩
def zFlow : Flow := ⟨0, 0, 0, 0, 0⟩
theorem byte_get {s : ByteArray} {i : Nat} (h : i < s.size) : ((s[i]'h).toNat : Int) = byteAt s i := by
  unfold byteAt
  have h' : i < s.data.toList.length := by simpa using h
  rw [List.getElem?_eq_getElem h']
  rfl
theorem byte_in {s : ByteArray} {i : Nat} (h : i < s.size) : 0 ≤ byteAt s i ∧ byteAt s i < 256 := by
  rw [← byte_get h]
  have := (s[i]'h).toNat_lt
  omega

@[go_sem] theorem keepS_false {H H' : Heap} : KeepS (fun _ => False) H H' ↔ True := by
  simp only [iff_true]; intro b h; exact h.elim
theorem join_any (x y : Int) (i : Nat) (hx0 : 0 ≤ x) (hx : x % 2 ^ i = 0) (hx1 : x < 2 ^ 62) (hy0 : 0 ≤ y) (hy : y < 2 ^ i) (hy1 : y < 2 ^ 62) : Go.bits .or .i64 x y = x + y :=
  bits_join .i64 62 (by decide) Ad.wrap_i64 i x y hx0 hx hx1 hy0 hy hy1

/-- 'ways.Flow'. -/
theorem flow_spec {p : Pk} (hk : ∀ H', Ext H H' → K (.tuple #[flV (if pkFault p = 0 then flowOf p else zFlow), .int .i64 (pkFault p)]) H') : Wcall Try.prog 17 #[pkV p] H K := by
  refine call_cells (rs := #[.cell 2 25, .tmp 3]) Try.func17 rfl Try.ntmps17 rfl (by simp) ?_
  simp [go_sem, pkV, pkC]
  refine pcheck_spec (p := p) fun H1 e1 => ?_
  have e01 : Ext H H1 := Ext.trans (by simp [go_sem]) e1
  have hb : H1[H.length]? = some ⟨pkC p, 0, true, .live⟩ := e1.at (Ext.at (Ext.new (Ext.refl _)) (get_new _ _))
  have hz : H1[H.length + 1]? = some ⟨[.int .u32 0, .int .u32 0, .int .i64 0, .int .i64 0, .int .i64 0], 0, true, .live⟩ := e1.at (by
    have := get_new (newBlk H (pkC p)) [.int .u32 0, .int .u32 0, .int .i64 0, .int .i64 0, .int .i64 0]
    rw [newBlk_length] at this
    exact this)
  have lb := (List.getElem?_eq_some_iff.1 hb).1
  have lz := (List.getElem?_eq_some_iff.1 hz).1
  have r0 := Fl.rd_one hb (off := 0) rfl
  have r1 := Fl.rd_one hb (off := 1) rfl
  have r2 := Fl.rd_one hb (off := 2) rfl
  have r5 := Fl.rd_one hb (off := 5) rfl
  have r6 := Fl.rd_one hb (off := 6) rfl
  have r8 := Fl.rd_one hb (off := 8) rfl
  by_cases F : pkFault p = 0
  · simp only [if_pos F, F] at hk
    have fin : ∀ cells : List Value, cells.length = 5 → wrBlk (newBlk H1 cells) (H.length + 1) 0 cells = some ((newBlk H1 cells).set (H.length + 1) ⟨cells, 0, true, .live⟩) ∧ rdBlk ((newBlk H1 cells).set (H.length + 1) ⟨cells, 0, true, .live⟩) (H.length + 1) 0 5 = some cells ∧ Ext H ((newBlk H1 cells).set (H.length + 1) ⟨cells, 0, true, .live⟩) := fun cells hc => by
      have hz' : (newBlk H1 cells)[H.length + 1]? = some ⟨[.int .u32 0, .int .u32 0, .int .i64 0, .int .i64 0, .int .i64 0], 0, true, .live⟩ := Ext.at (Ext.new (Ext.refl _)) hz
      have lz' := (List.getElem?_eq_some_iff.1 hz').1
      have wz := wr_at hz' (off := 0) (vs := cells) (by simp [hc])
      have gz : ((newBlk H1 cells).set (H.length + 1) ⟨cells, 0, true, .live⟩)[H.length + 1]? = some ⟨cells, 0, true, .live⟩ := List.getElem?_set_self lz'
      have rz := rd_at gz (off := 0) (n := 5) (by simp [hc])
      refine ⟨by simpa [hc] using wz, by rw [rz, List.drop_zero, List.take_of_length_le (by omega)], ext_set (e01.trans (Ext.new (Ext.refl _))) (by omega)⟩
    have lz1 : H.length + 1 < H1.length + 1 := by omega
    simp [go_sem, F, r0, r1, r2, r5, r6, r8, lb]
    cases q6 : decide (p.proto = 6) with
    | false =>
      simp [go_sem, r2, lb]
      cases q17 : decide (p.proto = 17) with
      | false =>
        have np : ¬ portsIn p := by simp at q6 q17; simp [portsIn, q6, q17]
        obtain ⟨w0, g0, x0⟩ := fin [.int .u32 p.src, .int .u32 p.dst, .int .i64 p.proto, .int .i64 0, .int .i64 0] rfl
        rw [show flowOf p = ⟨p.src, p.dst, p.proto, 0, 0⟩ from if_neg np] at hk
        simp [go_sem, w0, g0, lz, lz1, r8, lb]
        exact hk _ x0
      | true =>
        have hp : p.proto = 6 ∨ p.proto = 17 := .inr (by simpa using q17)
        simp [go_sem, r5, lb, r8]
        cases q0 : decide (p.off = 0) with
        | false =>
          have np : ¬ portsIn p := by simp at q0; simp [portsIn, q0]
          obtain ⟨w0, g0, x0⟩ := fin [.int .u32 p.src, .int .u32 p.dst, .int .i64 p.proto, .int .i64 0, .int .i64 0] rfl
          rw [show flowOf p = ⟨p.src, p.dst, p.proto, 0, 0⟩ from if_neg np] at hk
          simp [go_sem, w0, g0, lz, lz1, r8, lb]
          exact hk _ x0
        | true =>
          simp [go_sem, r6, lb]
          cases hm : p.more with
          | true =>
            have np : ¬ portsIn p := by simp [portsIn, hm]
            obtain ⟨w0, g0, x0⟩ := fin [.int .u32 p.src, .int .u32 p.dst, .int .i64 p.proto, .int .i64 0, .int .i64 0] rfl
            rw [show flowOf p = ⟨p.src, p.dst, p.proto, 0, 0⟩ from if_neg np] at hk
            simp [go_sem, w0, g0, lz, lz1, r8, lb]
            exact hk _ x0
          | false =>
            simp [go_sem]
            cases q4 : decide ((4 : Int) ≤ p.body.size) with
            | false =>
              have np : ¬ portsIn p := by simp at q4; simp [portsIn]; omega
              obtain ⟨w0, g0, x0⟩ := fin [.int .u32 p.src, .int .u32 p.dst, .int .i64 p.proto, .int .i64 0, .int .i64 0] rfl
              rw [show flowOf p = ⟨p.src, p.dst, p.proto, 0, 0⟩ from if_neg np] at hk
              simp [go_sem, w0, g0, lz, lz1, r8, lb]
              exact hk _ x0
            | true =>
              have h4 : 4 ≤ p.body.size := by simp at q4; omega
              simp [go_sem]
              refine Wc.drawnG [0, 1, 2, 3, 4, 5, 6, 7, 8, 9, 10, 11, 12, 13, 14, 15, 16, 18] [17, 19] (fun _ => False) mixed (by kernel_rfl) ?_
              have n0 : 0 < p.body.size := by omega
              have n1 : 1 < p.body.size := by omega
              have n2 : 2 < p.body.size := by omega
              have n3 : 3 < p.body.size := by omega
              have c0 := byte_get n0
              have c1 := byte_get n1
              have c2 := byte_get n2
              have c3 := byte_get n3
              have i0 := byte_in n0
              have i1 := byte_in n1
              have i2 := byte_in n2
              have i3 := byte_in n3
              have y0 : IntKind.i64.wrap (byteAt p.body 0) = byteAt p.body 0 := wrap_small (by omega) (by omega)
              have y1 : IntKind.i64.wrap (byteAt p.body 1) = byteAt p.body 1 := wrap_small (by omega) (by omega)
              have y2 : IntKind.i64.wrap (byteAt p.body 2) = byteAt p.body 2 := wrap_small (by omega) (by omega)
              have y3 : IntKind.i64.wrap (byteAt p.body 3) = byteAt p.body 3 := wrap_small (by omega) (by omega)
              have x0 : IntKind.i64.wrap (byteAt p.body 0 * 256) = byteAt p.body 0 * 256 := wrap_small (by omega) (by omega)
              have x2 : IntKind.i64.wrap (byteAt p.body 2 * 256) = byteAt p.body 2 * 256 := wrap_small (by omega) (by omega)
              have j0 : Go.bits .or .i64 (byteAt p.body 0 * 256) (byteAt p.body 1) = byteAt p.body 0 * 256 + byteAt p.body 1 := join_any _ _ 8 (by omega) (by omega) (by omega) (by omega) (by omega) (by omega)
              have j2 : Go.bits .or .i64 (byteAt p.body 2 * 256) (byteAt p.body 3) = byteAt p.body 2 * 256 + byteAt p.body 3 := join_any _ _ 8 (by omega) (by omega) (by omega) (by omega) (by omega) (by omega)
              obtain ⟨w0, g0, x9⟩ := fin [.int .u32 p.src, .int .u32 p.dst, .int .i64 p.proto, .int .i64 (byteAt p.body 0 * 256 + byteAt p.body 1), .int .i64 (byteAt p.body 2 * 256 + byteAt p.body 3)] rfl
              rw [show flowOf p = ⟨p.src, p.dst, p.proto, byteAt p.body 0 * 256 + byteAt p.body 1, byteAt p.body 2 * 256 + byteAt p.body 3⟩ from if_pos ⟨hp, by simpa using q0, hm, h4⟩] at hk
              simp [go_sem, n0, n1, n2, n3, c0, c1, c2, c3, y0, y1, y2, y3, x0, x2, j0, j2, w0, g0, lz, lz1]
              exact hk _ x9
    | true =>
      have hp : p.proto = 6 ∨ p.proto = 17 := .inl (by simpa using q6)
      simp [go_sem, r5, lb, r8]
      cases q0 : decide (p.off = 0) with
      | false =>
        have np : ¬ portsIn p := by simp at q0; simp [portsIn, q0]
        obtain ⟨w0, g0, x0⟩ := fin [.int .u32 p.src, .int .u32 p.dst, .int .i64 p.proto, .int .i64 0, .int .i64 0] rfl
        rw [show flowOf p = ⟨p.src, p.dst, p.proto, 0, 0⟩ from if_neg np] at hk
        simp [go_sem, w0, g0, lz, lz1, r8, lb]
        exact hk _ x0
      | true =>
        simp [go_sem, r6, lb]
        cases hm : p.more with
        | true =>
          have np : ¬ portsIn p := by simp [portsIn, hm]
          obtain ⟨w0, g0, x0⟩ := fin [.int .u32 p.src, .int .u32 p.dst, .int .i64 p.proto, .int .i64 0, .int .i64 0] rfl
          rw [show flowOf p = ⟨p.src, p.dst, p.proto, 0, 0⟩ from if_neg np] at hk
          simp [go_sem, w0, g0, lz, lz1, r8, lb]
          exact hk _ x0
        | false =>
          simp [go_sem]
          cases q4 : decide ((4 : Int) ≤ p.body.size) with
          | false =>
            have np : ¬ portsIn p := by simp at q4; simp [portsIn]; omega
            obtain ⟨w0, g0, x0⟩ := fin [.int .u32 p.src, .int .u32 p.dst, .int .i64 p.proto, .int .i64 0, .int .i64 0] rfl
            rw [show flowOf p = ⟨p.src, p.dst, p.proto, 0, 0⟩ from if_neg np] at hk
            simp [go_sem, w0, g0, lz, lz1, r8, lb]
            exact hk _ x0
          | true =>
            have h4 : 4 ≤ p.body.size := by simp at q4; omega
            simp [go_sem]
            refine Wc.drawnG [0, 1, 2, 3, 4, 5, 6, 7, 8, 9, 10, 11, 12, 13, 14, 15, 16, 18] [17, 19] (fun _ => False) mixed (by kernel_rfl) ?_
            have n0 : 0 < p.body.size := by omega
            have n1 : 1 < p.body.size := by omega
            have n2 : 2 < p.body.size := by omega
            have n3 : 3 < p.body.size := by omega
            have c0 := byte_get n0
            have c1 := byte_get n1
            have c2 := byte_get n2
            have c3 := byte_get n3
            have i0 := byte_in n0
            have i1 := byte_in n1
            have i2 := byte_in n2
            have i3 := byte_in n3
            have y0 : IntKind.i64.wrap (byteAt p.body 0) = byteAt p.body 0 := wrap_small (by omega) (by omega)
            have y1 : IntKind.i64.wrap (byteAt p.body 1) = byteAt p.body 1 := wrap_small (by omega) (by omega)
            have y2 : IntKind.i64.wrap (byteAt p.body 2) = byteAt p.body 2 := wrap_small (by omega) (by omega)
            have y3 : IntKind.i64.wrap (byteAt p.body 3) = byteAt p.body 3 := wrap_small (by omega) (by omega)
            have x0 : IntKind.i64.wrap (byteAt p.body 0 * 256) = byteAt p.body 0 * 256 := wrap_small (by omega) (by omega)
            have x2 : IntKind.i64.wrap (byteAt p.body 2 * 256) = byteAt p.body 2 * 256 := wrap_small (by omega) (by omega)
            have j0 : Go.bits .or .i64 (byteAt p.body 0 * 256) (byteAt p.body 1) = byteAt p.body 0 * 256 + byteAt p.body 1 := join_any _ _ 8 (by omega) (by omega) (by omega) (by omega) (by omega) (by omega)
            have j2 : Go.bits .or .i64 (byteAt p.body 2 * 256) (byteAt p.body 3) = byteAt p.body 2 * 256 + byteAt p.body 3 := join_any _ _ 8 (by omega) (by omega) (by omega) (by omega) (by omega) (by omega)
            obtain ⟨w0, g0, x9⟩ := fin [.int .u32 p.src, .int .u32 p.dst, .int .i64 p.proto, .int .i64 (byteAt p.body 0 * 256 + byteAt p.body 1), .int .i64 (byteAt p.body 2 * 256 + byteAt p.body 3)] rfl
            rw [show flowOf p = ⟨p.src, p.dst, p.proto, byteAt p.body 0 * 256 + byteAt p.body 1, byteAt p.body 2 * 256 + byteAt p.body 3⟩ from if_pos ⟨hp, by simpa using q0, hm, h4⟩] at hk
            simp [go_sem, n0, n1, n2, n3, c0, c1, c2, c3, y0, y1, y2, y3, x0, x2, j0, j2, w0, g0, lz, lz1]
            exact hk _ x9
  · rw [if_neg F] at hk
    have wz := wr_at hz (off := 0) (vs := [.int .u32 0, .int .u32 0, .int .i64 0, .int .i64 0, .int .i64 0]) (by simp)
    have gz : (H1.set (H.length + 1) ⟨[.int .u32 0, .int .u32 0, .int .i64 0, .int .i64 0, .int .i64 0], 0, true, .live⟩)[H.length + 1]? = some ⟨[.int .u32 0, .int .u32 0, .int .i64 0, .int .i64 0, .int .i64 0], 0, true, .live⟩ := List.getElem?_set_self lz
    have rz := rd_at gz (off := 0) (n := 5) (by simp)
    simp at wz rz
    simp [go_sem, F, wz, rz, lz]
    exact hk _ (ext_set e01 (by omega))
end Go.Proofs.Ytlljiccilldnaaa.Wf
