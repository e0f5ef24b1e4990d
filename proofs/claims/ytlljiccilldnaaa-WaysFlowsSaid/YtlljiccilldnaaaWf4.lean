/- ways: what is wrong with a list of next hops. -/
import Derived.Test.YtlljiccilldnaaaWf3
set_option linter.unusedVariables false
set_option linter.unusedSimpArgs false
set_option maxRecDepth 10000
set_option maxHeartbeats 2000000
namespace Go.Proofs.Ytlljiccilldnaaa.Wf
open Go Go.Am
open Go.Proofs.Ytlljiccilldnaaa.Fx
open Go.Proofs.Ytlljiccilldnaaa.Ba (wrap_small wrap_succ)
open Go.Proofs.Ytlljiccilldnaaa.Ad (KB KI)
variable {H : Heap} {K : Value → Heap → Prop}

def flBad (f : Flow) : Prop := f.proto < 0 ∨ f.proto > 255 ∨ f.sp < 0 ∨ f.dp < 0 ∨ f.sp > 65535 ∨ f.dp > 65535
def dup (l : List Nx) : Prop := ∃ i, ∃ h : i < l.length, l[i] ∈ l.take i
open Classical in
noncomputable def wFault (l : List Nx) (f : Flow) : Int := if 16 < l.length then 2 else if ∃ x ∈ l, nbad x = true then 10 else if flBad f then 10 else if dup l then 6 else 0
section
variable {l : List Nx} {f : Flow}
theorem wF1 (h : 16 < l.length) : wFault l f = 2 := by unfold wFault; rw [if_pos h]
theorem wF2 (h : ¬ 16 < l.length) (h2 : ∃ x ∈ l, nbad x = true) : wFault l f = 10 := by unfold wFault; rw [if_neg h, if_pos h2]
theorem wF3 (h : ¬ 16 < l.length) (h2 : ¬ ∃ x ∈ l, nbad x = true) (h3 : flBad f) : wFault l f = 10 := by unfold wFault; rw [if_neg h, if_neg h2, if_pos h3]
theorem wF4 (h : ¬ 16 < l.length) (h2 : ¬ ∃ x ∈ l, nbad x = true) (h3 : ¬ flBad f) (h4 : dup l) : wFault l f = 6 := by unfold wFault; rw [if_neg h, if_neg h2, if_neg h3, if_pos h4]
theorem wF5 (h : ¬ 16 < l.length) (h2 : ¬ ∃ x ∈ l, nbad x = true) (h3 : ¬ flBad f) (h4 : ¬ dup l) : wFault l f = 0 := by unfold wFault; rw [if_neg h, if_neg h2, if_neg h3, if_neg h4]
end

/-- 'ways.wrong'. -/
theorem wrong_spec {s : Value} {l : List Nx} {f : Flow} (hs : Sl RNx 2 H s l) (hl : l.length < 1000000) (hk : ∀ H', Ext H H' → K (.int .i64 (wFault l f)) H') : Wcall Try.prog 53 #[s, flV f] H K := by
  obtain ⟨as_, c, rfl⟩ := hs.shape
  refine call_body (rs := #[.tmp 4]) Try.func53 rfl Try.ntmps53 rfl rfl (by simp) ?_
  simp [go_sem, flV, flC]
  refine Br.forkD (fun d0 => ?_) (fun d0 => ?_)
  · simp [go_sem]
    exact KI (hk _ (by simp [go_sem])) (wF1 (by omega))
  have n16 : ¬ 16 < l.length := by omega
  simp [go_sem]
  refine hasF_spec (hs.ext RNx.mono (by simp [go_sem])) hl fun H1 e1 => ?_
  have e01 : Ext H H1 := Ext.trans (by simp [go_sem]) e1
  have hb : H1[H.length]? = some ⟨flC f, 0, true, .live⟩ := e1.at (get_new _ _)
  have lb := (List.getElem?_eq_some_iff.1 hb).1
  have r2 := Fl.rd_one hb (off := 2) rfl
  have r3 := Fl.rd_one hb (off := 3) rfl
  have r4 := Fl.rd_one hb (off := 4) rfl
  cases q : decide (∃ x ∈ l, nbad x = true) with
  | true =>
    simp [go_sem]
    exact KI (hk _ e01) (wF2 n16 (by simpa using q))
  | false =>
    have nb : ¬ ∃ x ∈ l, nbad x = true := by simpa using q
    simp [go_sem, r2, r3, r4, lb]
    refine Gd.forkN (fun d1 => ?_) (fun d1 => ?_)
    rotate_left
    · simp [go_sem, r2, r3, r4, lb, d1]
      exact KI (hk _ e01) (wF3 n16 nb (by unfold flBad; omega))
    simp [go_sem, r2, r3, r4, lb, d1]
    refine Gd.forkN (fun d2 => ?_) (fun d2 => ?_)
    rotate_left
    · simp [go_sem, r2, r3, r4, lb, d1, d2]
      exact KI (hk _ e01) (wF3 n16 nb (by unfold flBad; omega))
    simp [go_sem, r2, r3, r4, lb, d1, d2]
    refine Gd.forkN (fun d3 => ?_) (fun d3 => ?_)
    rotate_left
    · simp [go_sem, r2, r3, r4, lb, d1, d2, d3]
      exact KI (hk _ e01) (wF3 n16 nb (by unfold flBad; omega))
    simp [go_sem, r2, r3, r4, lb, d1, d2, d3]
    refine Br.forkD (fun d4 => ?_) (fun d4 => ?_)
    · simp [go_sem, r2, r3, r4, lb, d1, d2, d3, d4]
      exact KI (hk _ e01) (wF3 n16 nb (by unfold flBad; omega))
    simp [go_sem, r2, r3, r4, lb, d1, d2, d3, d4]
    have nf : ¬ flBad f := by unfold flBad; omega
    refine Wc.loopw 52 (fun i : Nat × Heap => [(0, .slice as_ l.length c), (39, .slice as_ l.length c), (40, .int .i64 l.length), (41, .int .i64 i.1)]) (fun i => i.2)
      (fun i => i.1 ≤ l.length ∧ Ext H i.2 ∧ ∀ j (h : j < l.length), j < i.1 → ¬ l[j] ∈ l.take j) (fun i => l.length - i.1) (0, _)
      ⟨Nat.zero_le _, e01, fun _ _ h => absurd h (by simp)⟩ (by simp [go_sem]) rfl (by simp [go_sem]) ?_
    rintro ⟨i, H2⟩ ⟨hi, he, hno⟩
    simp only at hi he hno
    simp [go_sem]
    refine Br.forkD (fun h => ?_) (fun h => ?_)
    · obtain ⟨bb, off, cells, rfl, hb2, _, hr, hc⟩ := (hs.ext RNx.mono he).get h
      unfold RNx at hc
      subst hc
      have e23 : Ext H2 (newBlk H2 [.int .i64 l[i].1, .int .u32 l[i].2]) := by simp [go_sem]
      have hsl := ((hs.ext RNx.mono he).ext RNx.mono e23).aSlice u22 i29 s29 (j := (i : Int)) (by omega) (by omega)
      simp [go_sem, hr, h]
      refine Wc.drawn mixed (by kernel_rfl) ?_
      simp [go_sem, hsl]
      refine has_spec (x := l[i]) (((hs.ext RNx.mono he).ext RNx.mono e23).take i (by omega)) (by simp; omega) fun H3 e3 => ?_
      have e03 := (he.trans e23).trans e3
      cases q2 : decide (l[i] ∈ l.take i) with
      | true =>
        simp [go_sem]
        exact KI (hk _ e03) (wF4 n16 nb nf ⟨i, h, by simpa using q2⟩)
      | false =>
        simp [go_sem]
        refine loopK_next (i + 1, H3) ⟨by simp only; omega, e03, fun j hj hji => ?_⟩ (by simp only; omega) rfl (by simp [go_sem]) (by simp [go_sem, wrap_succ (i := i) (by omega)])
        by_cases e : j = i
        · subst e; simpa using q2
        · exact hno j hj (by simp only at hji; omega)
    · simp [go_sem]
      exact KI (hk _ he) (wF5 n16 nb nf fun ⟨j, hj, hm⟩ => hno j hj (by omega) hm)
end Go.Proofs.Ytlljiccilldnaaa.Wf
