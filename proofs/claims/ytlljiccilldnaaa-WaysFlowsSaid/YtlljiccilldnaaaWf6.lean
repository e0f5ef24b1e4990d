/- ways: Rank and Pick of one next hop. -/
import Derived.Test.YtlljiccilldnaaaWf5
set_option linter.unusedVariables false
set_option linter.unusedSimpArgs false
set_option maxRecDepth 10000
set_option maxHeartbeats 2000000
namespace Go.Proofs.Ytlljiccilldnaaa.Wf
open Go Go.Am
open Go.Proofs.Ytlljiccilldnaaa.Fx
open Go.Proofs.Ytlljiccilldnaaa.Ba (wrap_small wrap_succ)
open Go.Proofs.Ytlljiccilldnaaa.Ad (KB KI)
variable {H : Heap} {K : Value → Heap → Prop}

def v2 (s : ByteArray) : Nat → Int
  | 0 => 0
  | 1 => byteAt s 0
  | _ => byteAt s 0 * 256 + byteAt s 1
/-- 'Value' of two bytes. -/
theorem value_spec {s : ByteArray} (h2 : s.size = 2) (hk : K (.int .i64 (byteAt s 0 * 256 + byteAt s 1)) H) : Wcall Try.prog 19 #[.string s] H K := by
  refine call_body (rs := #[.tmp 2]) Try.func19 rfl Try.ntmps19 rfl rfl (by simp) ?_
  simp [go_sem, h2]
  refine Wc.loopw 19 (fun i : Nat => [(0, .string s), (3, .int .i64 (v2 s i)), (6, .int .i64 2), (7, .int .i64 i)]) (fun _ => H)
    (fun i => i ≤ 2) (fun i => 2 - i) 0 (Nat.zero_le _) (by simp [go_sem]) rfl (by simp [go_sem, v2]) ?_
  intro i hi
  simp [go_sem]
  refine Br.forkD (fun h => ?_) (fun h => ?_)
  · have n0 : i < s.size := by omega
    have c0 := byte_get n0
    have i0 := byte_in n0
    have hv : 0 ≤ v2 s i ∧ v2 s i < 65536 := by
      have := byte_in (s := s) (i := 0) (by omega)
      have := byte_in (s := s) (i := 1) (by omega)
      match i with
      | 0 => simp [v2]
      | 1 => simp [v2]; omega
      | n + 2 => simp [v2]; omega
    have y0 : IntKind.i64.wrap (byteAt s i) = byteAt s i := wrap_small (by omega) (by omega)
    have x0 : IntKind.i64.wrap (v2 s i * 256) = v2 s i * 256 := wrap_small (by omega) (by omega)
    have z0 : IntKind.i64.wrap (v2 s i * 256 + byteAt s i) = v2 s i * 256 + byteAt s i := wrap_small (by omega) (by omega)
    have hs : v2 s (i + 1) = v2 s i * 256 + byteAt s i := by
      have : i = 0 ∨ i = 1 := by omega
      rcases this with rfl | rfl <;> simp [v2]
    simp [go_sem, n0, c0, y0, x0, z0]
    exact loopK_next (i + 1) (by omega) (by omega) rfl (by simp [go_sem]) (by simp [go_sem, wrap_succ (i := i) (by omega), hs])
  · have : i = 2 := by omega
    subst this
    simp [go_sem]
    exact hk

theorem tbl_none {T : ByteArray} {n : Nat} (h : T[n]? = none) : T.size ≤ n := by
  rcases Nat.lt_or_ge n T.size with c | c
  · rw [getElem?_pos T n c] at h; cases h
  · exact c
/-- 'bits.Len64', of a small number. -/
theorem len64_spec {x : Int} (hx : 0 ≤ x ∧ x < 256) (hk : ∀ v, K (.int .i64 v) H) : Wcall Try.prog 123 #[.int .u64 x] H K := by
  refine call_body (rs := #[.tmp 2]) Try.func123 rfl Try.ntmps123 rfl rfl (by simp) ?_
  have a1 : ¬ 4294967296 ≤ x := by omega
  have a2 : ¬ 65536 ≤ x := by omega
  have a3 : ¬ 256 ≤ x := by omega
  have wu : IntKind.u8.wrap x = x := by rw [Ad.wrap_u8]; omega
  have h0 : 0 ≤ x := hx.1
  simp [go_sem, a1, a2, a3, wu, h0]
  split
  · simp [go_sem]
    exact hk _
  · rename_i hb
    have h6 := tbl_none hb
    change 256 ≤ x.toNat at h6
    omega

theorem len_spec {x : Int} (hx : 0 ≤ x ∧ x < 256) (hk : ∀ v, K (.int .i64 v) H) : Wcall Try.prog 92 #[.int .u64 x] H K := by
  refine call_body (rs := #[.tmp 2]) Try.func92 rfl Try.ntmps92 rfl rfl (by simp) ?_
  simp [go_sem]
  refine len64_spec hx fun v => ?_
  simp [go_sem]
  exact hk v

/-- The comparison. -/
def cmpV (b : Nat) : Value := .func (.func 56) #[] #[.pointer (some ⟨b, 0, none⟩)]
/-- 'insertionSortCmpFunc', of one. -/
theorem ins1_spec {a : Option Addr} {c b : Nat} (hk : K undef H) : Wcall Try.prog 114 #[.slice a 1 c, .int .i64 0, .int .i64 1, cmpV b] H K := by
  refine call_body (rs := #[]) Try.func114 rfl Try.ntmps114 rfl rfl (by simp) ?_
  have w1 : IntKind.i64.wrap 1 = 1 := wrap_small (by omega) (by omega)
  simp [go_sem, cmpV, w1]
  refine Wc.loopw 53 (fun _ : Unit => [(0, .slice a 1 c), (1, .int .i64 0), (2, .int .i64 1), (3, cmpV b), (8, .int .i64 1)]) (fun _ => H) (fun _ => True) (fun _ => 0) () trivial (by simp [go_sem]) rfl (by simp [go_sem, cmpV]) ?_
  intro _ _
  simp [go_sem, cmpV]
  exact hk
/-- 'pdqsortCmpFunc', of one. -/
theorem pdq1_spec {a : Option Addr} {c b : Nat} {v : Int} (hk : K undef H) : Wcall Try.prog 91 #[.slice a 1 c, .int .i64 0, .int .i64 1, .int .i64 v, cmpV b] H K := by
  refine call_body (rs := #[]) Try.func91 rfl Try.ntmps91 rfl rfl (by simp) ?_
  have w1 : IntKind.i64.wrap 1 = 1 := wrap_small (by omega) (by omega)
  simp [go_sem, cmpV]
  refine Wc.loopw 148 (fun _ : Unit => [(0, .slice a 1 c), (1, .int .i64 0), (2, .int .i64 1), (3, .int .i64 v), (4, cmpV b), (10, .bool true), (11, .bool true)]) (fun _ => H) (fun _ => True) (fun _ => 0) () trivial (by simp [go_sem]) rfl (by simp [go_sem, cmpV]) ?_
  intro _ _
  simp [go_sem, cmpV, w1]
  refine ins1_spec (b := b) ?_
  simp [go_sem]
  exact hk
/-- 'SortFunc', of one. -/
theorem sort1_spec {a : Option Addr} {c b : Nat} (hk : K undef H) : Wcall Try.prog 55 #[.slice a 1 c, cmpV b] H K := by
  refine call_body (rs := #[]) Try.func55 rfl Try.ntmps55 rfl rfl (by simp) ?_
  have w1 : IntKind.u64.wrap 1 = 1 := by decide
  simp [go_sem, cmpV, w1]
  refine len_spec (by omega) fun v => ?_
  simp [go_sem]
  refine pdq1_spec (b := b) ?_
  simp [go_sem]
  exact hk

theorem gsl_low {α : Type} {R : Heap → α → List Value → Prop} {sz m m' : Nat} {s : Value} {xs : List α} (h : GSl R sz m H s xs) (hm : m' ≤ m) : GSl R sz m' H s xs := by
  obtain ⟨cells, a, b, c⟩ := h.ex
  refine ⟨cells, a, b, c.imp id ?_⟩
  rintro ⟨q, k, hq, r⟩
  exact ⟨q, k, Nat.le_trans hm hq, r⟩
/-- 'ways.Rank', of one. -/
theorem rank1_spec {s : Value} {x : Nx} {f : Flow} (hs : Sl RNx 2 H s [x]) (h0 : wFault [x] f = 0) (hk : ∀ H' s', Ext H H' → GSl RNx 2 H.length H' s' [x] → K (.tuple #[s', .int .i64 0]) H') : Wcall Try.prog 12 #[s, flV f] H K := by
  obtain ⟨as_, c, rfl⟩ := hs.shape
  refine call_body (rs := #[.tmp 4, .tmp 5]) Try.func12 rfl Try.ntmps12 rfl rfl (by simp) ?_
  simp [go_sem, flV, flC]
  have r0 : rdBlk (newBlk H (flC f)) H.length 0 5 = some (flC f) := by simp [go_sem, flC]
  refine wrong_spec (l := [x]) (f := f) (hs.ext RNx.mono (by simp [go_sem])) (by simp) fun H1 e1 => ?_
  rw [h0]
  have e01 : Ext H H1 := Ext.trans (by simp [go_sem]) e1
  simp [go_sem]
  refine clone_spec (hs.ext RNx.mono e01) (by simp) fun H2 s2 e2 hs2 hg2 => ?_
  have hg := hg2 (by simp)
  obtain ⟨a2, rfl⟩ := hg.shape
  simp [go_sem]
  refine sort1_spec (b := H.length) ?_
  simp [go_sem]
  exact hk _ _ (e01.trans e2) (gsl_low hg e01.len)

/-- 'ways.Pick', of one. -/
theorem pick1_spec {s : Value} {x : Nx} {f : Flow} (hs : Sl RNx 2 H s [x]) (h0 : wFault [x] f = 0) (hk : ∀ H', Ext H H' → K (.tuple #[.agg #[.int .i64 x.1, .int .u32 x.2], .int .i64 0]) H') : Wcall Try.prog 13 #[s, flV f] H K := by
  obtain ⟨as_, c, rfl⟩ := hs.shape
  refine call_cells (rs := #[.cell 4 29, .tmp 5]) Try.func13 rfl Try.ntmps13 rfl (by simp) ?_
  simp [go_sem, flV, flC]
  refine rank1_spec (x := x) (f := f) (hs.ext RNx.mono (by simp [go_sem])) h0 fun H1 s1 e1 hg1 => ?_
  have e01 : Ext H H1 := Ext.trans (by simp [go_sem]) e1
  have hz : H1[H.length + 1]? = some ⟨[.int .i64 0, .int .u32 0], 0, true, .live⟩ := e1.at (by
    have := get_new (newBlk H (flC f)) [.int .i64 0, .int .u32 0]
    rw [newBlk_length] at this
    exact this)
  have lz := (List.getElem?_eq_some_iff.1 hz).1
  obtain ⟨a1, rfl⟩ := hg1.shape
  obtain ⟨bb, off, cells, rfl, hb, _, hr, hc⟩ := (hg1.sl RNx.monoL).get (i := 0) (by simp)
  unfold RNx at hc
  subst hc
  simp at hr
  have wz := wr_at hz (off := 0) (vs := [.int .i64 x.1, .int .u32 x.2]) (by simp)
  have gz : (H1.set (H.length + 1) ⟨[.int .i64 x.1, .int .u32 x.2], 0, true, .live⟩)[H.length + 1]? = some ⟨[.int .i64 x.1, .int .u32 x.2], 0, true, .live⟩ := List.getElem?_set_self lz
  have rz := rd_at gz (off := 0) (n := 2) (by simp)
  simp at wz rz
  simp [go_sem, hr, wz, rz, lz]
  exact hk _ (ext_set e01 (by omega))

/-- 'waysLives'. -/
theorem lives_spec (hk : ∀ H', Ext H H' → K (.bool true) H') : Wcall Try.prog 9 #[] H K := by
  refine call_body (rs := #[.tmp 0]) Try.func9 rfl Try.ntmps9 rfl rfl (by simp) ?_
  simp [go_sem]
  refine pick1_spec (x := (4, 0)) (f := zFlow) ?_ ?_ fun H1 e1 => ?_
  · exact sl_own (ls := [((4 : Int), (0 : Int))]) (k := ⟨nxCells [(4, 0)], 0, true, .live⟩) (get_new _ _) rfl (by simp) (.inl rfl)
  · exact wF5 (by simp) (by simp [nbad]) (by simp [flBad, zFlow]) (by
      rintro ⟨i, h, hm⟩
      simp at h
      subst h
      simp at hm)
  simp [go_sem]
  exact hk _ (Ext.trans (by simp [go_sem]) (Ext.trans e1 (by simp [go_sem])))
end Go.Proofs.Ytlljiccilldnaaa.Wf
