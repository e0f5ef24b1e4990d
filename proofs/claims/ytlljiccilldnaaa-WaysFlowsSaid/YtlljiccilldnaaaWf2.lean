/- Packets: what is wrong with one; the flow of one. -/
import Derived.Test.YtlljiccilldnaaaWf1
set_option linter.unusedVariables false
set_option linter.unusedSimpArgs false
set_option maxRecDepth 10000
set_option maxHeartbeats 2000000
namespace Go.Proofs.Ytlljiccilldnaaa.Wf
open Go Go.Am
open Go.Proofs.Ytlljiccilldnaaa.Fx
open Go.Proofs.Ytlljiccilldnaaa.Ba (wrap_small wrap_succ)
open Go.Proofs.Ytlljiccilldnaaa.Ad (KB KI)
variable {H : Heap} {K : Value → Heap → Prop}

/-- A packet. -/
structure Pk where
  src : Int
  dst : Int
  proto : Int
  ttl : Int
  id : Int
  off : Int
  more : Bool
  whole : Bool
  body : ByteArray
def pkC (p : Pk) : List Value := [.int .u32 p.src, .int .u32 p.dst, .int .i64 p.proto, .int .i64 p.ttl, .int .i64 p.id, .int .i64 p.off, .bool p.more, .bool p.whole, .string p.body]
def pkV (p : Pk) : Value := .agg (pkC p).toArray
def pkBad (p : Pk) : Prop := p.proto < 0 ∨ p.proto > 255 ∨ p.ttl ≤ 0 ∨ p.ttl > 255 ∨ p.id < 0 ∨ p.id > 65535 ∨ p.off < 0 ∨ p.off > 65528
instance (p : Pk) : Decidable (pkBad p) := by unfold pkBad; infer_instance
def pkForm (p : Pk) : Prop := p.off % 8 ≠ 0 ∨ (p.more = true ∧ p.body.size % 8 ≠ 0) ∨ ((p.more = true ∨ p.off ≠ 0) ∧ (p.body.size = 0 ∨ p.whole = true))
instance (p : Pk) : Decidable (pkForm p) := by unfold pkForm; infer_instance
def pkFault (p : Pk) : Int := if pkBad p then 10 else if 1500 < p.body.size ∨ 65535 < p.off + p.body.size then 2 else if pkForm p then 3 else 0
theorem pkF1 {p : Pk} (h : pkBad p) : pkFault p = 10 := if_pos h
theorem pkF2 {p : Pk} (h : ¬ pkBad p) (h2 : 1500 < p.body.size ∨ 65535 < p.off + p.body.size) : pkFault p = 2 := by unfold pkFault; rw [if_neg h, if_pos h2]
theorem pkF3 {p : Pk} (h : ¬ pkBad p) (h2 : ¬ (1500 < p.body.size ∨ 65535 < p.off + p.body.size)) : pkFault p = if pkForm p then 3 else 0 := by unfold pkFault; rw [if_neg h, if_neg h2]

theorem ba_empty (s : ByteArray) : s.toList.isEmpty = decide (s.size = 0) := by
  rw [ByteArray.toList_eq]
  have : s.size = s.data.toList.length := (Array.length_toList).symm
  rw [this]
  cases s.data.toList <;> simp

/-- 'PacketFault'. -/
theorem pfault_spec {p : Pk} (hk : ∀ H', Ext H H' → K (.int .i64 (pkFault p)) H') : Wcall Try.prog 18 #[pkV p] H K := by
  refine call_body (rs := #[.tmp 2]) Try.func18 rfl Try.ntmps18 rfl rfl (by simp) ?_
  simp [go_sem, pkV, pkC]
  refine Gd.forkN (fun d1 => ?_) (fun d1 => ?_)
  rotate_left
  · simp [go_sem, d1]
    exact KI (hk _ (by simp [go_sem])) (pkF1 (by unfold pkBad; omega))
  simp [go_sem, d1]
  refine Gd.forkN (fun d2 => ?_) (fun d2 => ?_)
  rotate_left
  · simp [go_sem, d1, d2]
    exact KI (hk _ (by simp [go_sem])) (pkF1 (by unfold pkBad; omega))
  simp [go_sem, d1, d2]
  refine Gd.forkN (fun d3 => ?_) (fun d3 => ?_)
  rotate_left
  · simp [go_sem, d1, d2, d3]
    exact KI (hk _ (by simp [go_sem])) (pkF1 (by unfold pkBad; omega))
  simp [go_sem, d1, d2, d3]
  refine Gd.forkN (fun d4 => ?_) (fun d4 => ?_)
  rotate_left
  · simp [go_sem, d1, d2, d3, d4]
    exact KI (hk _ (by simp [go_sem])) (pkF1 (by unfold pkBad; omega))
  simp [go_sem, d1, d2, d3, d4]
  refine Gd.forkN (fun d5 => ?_) (fun d5 => ?_)
  rotate_left
  · simp [go_sem, d1, d2, d3, d4, d5]
    exact KI (hk _ (by simp [go_sem])) (pkF1 (by unfold pkBad; omega))
  simp [go_sem, d1, d2, d3, d4, d5]
  refine Gd.forkN (fun d6 => ?_) (fun d6 => ?_)
  rotate_left
  · simp [go_sem, d1, d2, d3, d4, d5, d6]
    exact KI (hk _ (by simp [go_sem])) (pkF1 (by unfold pkBad; omega))
  simp [go_sem, d1, d2, d3, d4, d5, d6]
  refine Gd.forkN (fun d7 => ?_) (fun d7 => ?_)
  rotate_left
  · simp [go_sem, d1, d2, d3, d4, d5, d6, d7]
    exact KI (hk _ (by simp [go_sem])) (pkF1 (by unfold pkBad; omega))
  simp [go_sem, d1, d2, d3, d4, d5, d6, d7]
  refine Br.forkD (fun d8 => ?_) (fun d8 => ?_)
  · simp [go_sem, d1, d2, d3, d4, d5, d6, d7, d8]
    exact KI (hk _ (by simp [go_sem])) (pkF1 (by unfold pkBad; omega))
  simp [go_sem, d1, d2, d3, d4, d5, d6, d7, d8]
  have nb : ¬ pkBad p := by unfold pkBad; omega
  by_cases c1 : 1500 < p.body.size
  · have c1' : (1500 : Int) < p.body.size := by omega
    simp [go_sem, c1, c1']
    exact KI (hk _ (by simp [go_sem])) (pkF2 nb (by omega))
  have c1' : ¬ (1500 : Int) < p.body.size := by omega
  have w1 : IntKind.i64.wrap (p.off + p.body.size) = p.off + p.body.size := wrap_small (by omega) (by omega)
  by_cases c2 : 65535 < p.off + p.body.size
  · simp [go_sem, c1, c1', w1, c2]
    exact KI (hk _ (by simp [go_sem])) (pkF2 nb (by omega))
  simp [go_sem, c1, c1', w1, c2]
  have nl : ¬ (1500 < p.body.size ∨ 65535 < p.off + p.body.size) := by omega
  have t1 : p.off.tmod 8 = p.off % 8 := Int.tmod_eq_emod_of_nonneg (by omega)
  have t2 : (p.body.size : Int).tmod 8 = p.body.size % 8 := Int.tmod_eq_emod_of_nonneg (by omega)
  have w2 : IntKind.i64.wrap (p.off % 8) = p.off % 8 := wrap_small (by omega) (by omega)
  have w3 : IntKind.i64.wrap ((p.body.size : Int) % 8) = p.body.size % 8 := wrap_small (by omega) (by omega)
  have yes : pkForm p → ∀ H', Ext H H' → K (.int .i64 3) H' := fun h H' he => KI (hk H' he) (by rw [pkF3 nb nl, if_pos h])
  have no : ¬ pkForm p → ∀ H', Ext H H' → K (.int .i64 0) H' := fun h H' he => KI (hk H' he) (by rw [pkF3 nb nl, if_neg h])
  by_cases o8 : p.off % 8 = 0
  · cases hm : p.more with
    | false =>
      by_cases o0 : p.off = 0
      · simp [go_sem, o0]
        exact no (by simp [pkForm, hm, o0]) _ (by simp [go_sem])
      · have o0' : 0 < p.off := by omega
        by_cases z : p.body.size = 0
        · simp [go_sem, t1, w2, o8, o0, o0', z, ba_empty]
          exact yes (by simp [pkForm, o8, o0, z]) _ (by simp [go_sem])
        · cases hw : p.whole with
          | false =>
            simp [go_sem, t1, w2, o8, o0, o0', z, ba_empty]
            exact no (by simp [pkForm, o8, hm, z, hw]) _ (by simp [go_sem])
          | true =>
            simp [go_sem, t1, w2, o8, o0, o0', z, ba_empty]
            exact yes (by simp [pkForm, o0, hw]) _ (by simp [go_sem])
    | true =>
      by_cases z8 : p.body.size % 8 = 0
      · have z8' : (p.body.size : Int) % 8 = 0 := by omega
        by_cases z : p.body.size = 0
        · simp [go_sem, t1, w2, t2, w3, o8, z, ba_empty]
          exact yes (by simp [pkForm, hm, z]) _ (by simp [go_sem])
        · cases hw : p.whole with
          | false =>
            simp [go_sem, t1, w2, t2, w3, o8, z8', z, ba_empty]
            exact no (by simp [pkForm, o8, z8, z, hw]) _ (by simp [go_sem])
          | true =>
            simp [go_sem, t1, w2, t2, w3, o8, z8', z, ba_empty]
            exact yes (by simp [pkForm, hm, hw]) _ (by simp [go_sem])
      · have z8' : ¬ (p.body.size : Int) % 8 = 0 := by omega
        have z8p : 0 < (p.body.size : Int) % 8 := by omega
        simp [go_sem, t1, w2, t2, w3, o8, z8', z8p]
        exact yes (by simp [pkForm, hm, z8]) _ (by simp [go_sem])
  · have o8p : 0 < p.off % 8 := by omega
    have o0 : ¬ p.off = 0 := by omega
    cases hm : p.more <;> simp [go_sem, t1, w2, o8, o8p, o0] <;> exact yes (by simp [pkForm, o8]) _ (by simp [go_sem])
/-- 'pkt.Check'. -/
theorem pcheck_spec {p : Pk} (hk : ∀ H', Ext H H' → K (.int .i64 (pkFault p)) H') : Wcall Try.prog 63 #[pkV p] H K := by
  refine call_body (rs := #[.tmp 2]) Try.func63 rfl Try.ntmps63 rfl rfl (by simp) ?_
  simp [go_sem, pkV, pkC]
  refine Gd.forkN (fun d1 => ?_) (fun d1 => ?_)
  rotate_left
  · simp [go_sem, d1]
    exact KI (hk _ (by simp [go_sem])) (pkF1 (by unfold pkBad; omega))
  simp [go_sem, d1]
  refine Gd.forkN (fun d2 => ?_) (fun d2 => ?_)
  rotate_left
  · simp [go_sem, d1, d2]
    exact KI (hk _ (by simp [go_sem])) (pkF1 (by unfold pkBad; omega))
  simp [go_sem, d1, d2]
  refine Gd.forkN (fun d3 => ?_) (fun d3 => ?_)
  rotate_left
  · simp [go_sem, d1, d2, d3]
    exact KI (hk _ (by simp [go_sem])) (pkF1 (by unfold pkBad; omega))
  simp [go_sem, d1, d2, d3]
  refine Gd.forkN (fun d4 => ?_) (fun d4 => ?_)
  rotate_left
  · simp [go_sem, d1, d2, d3, d4]
    exact KI (hk _ (by simp [go_sem])) (pkF1 (by unfold pkBad; omega))
  simp [go_sem, d1, d2, d3, d4]
  refine Gd.forkN (fun d5 => ?_) (fun d5 => ?_)
  rotate_left
  · simp [go_sem, d1, d2, d3, d4, d5]
    exact KI (hk _ (by simp [go_sem])) (pkF1 (by unfold pkBad; omega))
  simp [go_sem, d1, d2, d3, d4, d5]
  refine Gd.forkN (fun d6 => ?_) (fun d6 => ?_)
  rotate_left
  · simp [go_sem, d1, d2, d3, d4, d5, d6]
    exact KI (hk _ (by simp [go_sem])) (pkF1 (by unfold pkBad; omega))
  simp [go_sem, d1, d2, d3, d4, d5, d6]
  refine Gd.forkN (fun d7 => ?_) (fun d7 => ?_)
  rotate_left
  · simp [go_sem, d1, d2, d3, d4, d5, d6, d7]
    exact KI (hk _ (by simp [go_sem])) (pkF1 (by unfold pkBad; omega))
  simp [go_sem, d1, d2, d3, d4, d5, d6, d7]
  refine Br.forkD (fun d8 => ?_) (fun d8 => ?_)
  · simp [go_sem, d1, d2, d3, d4, d5, d6, d7, d8]
    exact KI (hk _ (by simp [go_sem])) (pkF1 (by unfold pkBad; omega))
  simp [go_sem, d1, d2, d3, d4, d5, d6, d7, d8]
  have nb : ¬ pkBad p := by unfold pkBad; omega
  by_cases c1 : 1500 < p.body.size
  · have c1' : (1500 : Int) < p.body.size := by omega
    simp [go_sem, c1, c1']
    exact KI (hk _ (by simp [go_sem])) (pkF2 nb (by omega))
  have c1' : ¬ (1500 : Int) < p.body.size := by omega
  have w1 : IntKind.i64.wrap (p.off + p.body.size) = p.off + p.body.size := wrap_small (by omega) (by omega)
  by_cases c2 : 65535 < p.off + p.body.size
  · simp [go_sem, c1, c1', w1, c2]
    exact KI (hk _ (by simp [go_sem])) (pkF2 nb (by omega))
  simp [go_sem, c1, c1', w1, c2]
  have nl : ¬ (1500 < p.body.size ∨ 65535 < p.off + p.body.size) := by omega
  have t1 : p.off.tmod 8 = p.off % 8 := Int.tmod_eq_emod_of_nonneg (by omega)
  have t2 : (p.body.size : Int).tmod 8 = p.body.size % 8 := Int.tmod_eq_emod_of_nonneg (by omega)
  have w2 : IntKind.i64.wrap (p.off % 8) = p.off % 8 := wrap_small (by omega) (by omega)
  have w3 : IntKind.i64.wrap ((p.body.size : Int) % 8) = p.body.size % 8 := wrap_small (by omega) (by omega)
  have yes : pkForm p → ∀ H', Ext H H' → K (.int .i64 3) H' := fun h H' he => KI (hk H' he) (by rw [pkF3 nb nl, if_pos h])
  have no : ¬ pkForm p → ∀ H', Ext H H' → K (.int .i64 0) H' := fun h H' he => KI (hk H' he) (by rw [pkF3 nb nl, if_neg h])
  by_cases o8 : p.off % 8 = 0
  · cases hm : p.more with
    | false =>
      by_cases o0 : p.off = 0
      · simp [go_sem, o0]
        exact no (by simp [pkForm, hm, o0]) _ (by simp [go_sem])
      · have o0' : 0 < p.off := by omega
        by_cases z : p.body.size = 0
        · simp [go_sem, t1, w2, o8, o0, o0', z, ba_empty]
          exact yes (by simp [pkForm, o8, o0, z]) _ (by simp [go_sem])
        · cases hw : p.whole with
          | false =>
            simp [go_sem, t1, w2, o8, o0, o0', z, ba_empty]
            exact no (by simp [pkForm, o8, hm, z, hw]) _ (by simp [go_sem])
          | true =>
            simp [go_sem, t1, w2, o8, o0, o0', z, ba_empty]
            exact yes (by simp [pkForm, o0, hw]) _ (by simp [go_sem])
    | true =>
      by_cases z8 : p.body.size % 8 = 0
      · have z8' : (p.body.size : Int) % 8 = 0 := by omega
        by_cases z : p.body.size = 0
        · simp [go_sem, t1, w2, t2, w3, o8, z, ba_empty]
          exact yes (by simp [pkForm, hm, z]) _ (by simp [go_sem])
        · cases hw : p.whole with
          | false =>
            simp [go_sem, t1, w2, t2, w3, o8, z8', z, ba_empty]
            exact no (by simp [pkForm, o8, z8, z, hw]) _ (by simp [go_sem])
          | true =>
            simp [go_sem, t1, w2, t2, w3, o8, z8', z, ba_empty]
            exact yes (by simp [pkForm, hm, hw]) _ (by simp [go_sem])
      · have z8' : ¬ (p.body.size : Int) % 8 = 0 := by omega
        have z8p : 0 < (p.body.size : Int) % 8 := by omega
        simp [go_sem, t1, w2, t2, w3, o8, z8', z8p]
        exact yes (by simp [pkForm, hm, z8]) _ (by simp [go_sem])
  · have o8p : 0 < p.off % 8 := by omega
    have o0 : ¬ p.off = 0 := by omega
    cases hm : p.more <;> simp [go_sem, t1, w2, o8, o8p, o0] <;> exact yes (by simp [pkForm, o8]) _ (by simp [go_sem])
end Go.Proofs.Ytlljiccilldnaaa.Wf
