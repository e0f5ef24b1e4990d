/- Check; the bytes of an advertisement; their sum. -/
import Derived.Test.YtlljiccilldnaaaAd1
set_option linter.unusedVariables false
set_option linter.unusedSimpArgs false
set_option maxRecDepth 10000
namespace Go.Proofs.Ytlljiccilldnaaa.Ad
open Go Go.Am
open Go.Proofs.Ytlljiccilldnaaa.Fx
open Go.Proofs.Ytlljiccilldnaaa.Ba (wrap_small wrap_succ sameInts_spec)
variable {H : Heap} {K : Value → Heap → Prop}

theorem wrap_nat {i : Nat} (h : i < 9223372036854775808) : IntKind.i64.wrap (i : Int) = i := wrap_small (by omega) (by omega)

/-- 'Check'. -/
theorem check_spec {a : Adv} {s : Value} (hs : Sl RLk 2 H s a.links) (hk : ∀ H', Ext H H' → K (.int .i64 (fault a)) H') : Wcall Try.prog 134 #[advV a s] H K := by
  obtain ⟨al, c, rfl⟩ := hs.shape
  refine call_body (rs := #[.tmp 2]) Try.func134 rfl Try.ntmps134 rfl rfl (by simp) ?_
  simp [go_sem, advV, advC]
  refine Gd.forkN (fun d1 => ?_) (fun d1 => ?_)
  rotate_left
  · simp [go_sem, d1]
    exact KI (hk _ (by simp [go_sem])) (fault_bad (by unfold advBad; omega))
  simp [go_sem, d1]
  refine Gd.forkN (fun d2 => ?_) (fun d2 => ?_)
  rotate_left
  · simp [go_sem, d1, d2]
    exact KI (hk _ (by simp [go_sem])) (fault_bad (by unfold advBad; omega))
  simp [go_sem, d1, d2]
  refine Gd.forkN (fun d3 => ?_) (fun d3 => ?_)
  rotate_left
  · simp [go_sem, d1, d2, d3]
    exact KI (hk _ (by simp [go_sem])) (fault_bad (by unfold advBad; omega))
  simp [go_sem, d1, d2, d3]
  refine Gd.forkN (fun d4 => ?_) (fun d4 => ?_)
  rotate_left
  · simp [go_sem, d1, d2, d3, d4]
    exact KI (hk _ (by simp [go_sem])) (fault_bad (by unfold advBad; omega))
  simp [go_sem, d1, d2, d3, d4]
  refine Gd.forkN (fun d5 => ?_) (fun d5 => ?_)
  rotate_left
  · simp [go_sem, d1, d2, d3, d4, d5]
    exact KI (hk _ (by simp [go_sem])) (fault_bad (by unfold advBad; omega))
  simp [go_sem, d1, d2, d3, d4, d5]
  refine Br.forkD (fun d6 => ?_) (fun d6 => ?_)
  · simp [go_sem, d1, d2, d3, d4, d5, d6]
    exact KI (hk _ (by simp [go_sem])) (fault_bad (by unfold advBad; omega))
  simp [go_sem, d1, d2, d3, d4, d5, d6]
  have nb : ¬ advBad a := by unfold advBad; omega
  refine Br.forkD (fun d7 => ?_) (fun d7 => ?_)
  · simp [go_sem]
    exact KI (hk _ (by simp [go_sem])) (fault_large nb (by omega))
  have nl : ¬ 16 < a.links.length := by omega
  simp [go_sem]
  refine Wc.loopw 97 (fun i : Nat × Heap => [(1, .pointer (some ⟨H.length, 0, none⟩)), (42, .slice al a.links.length c), (43, .int .i64 a.links.length), (44, .int .i64 i.1)]) (fun i => i.2)
    (fun i => i.1 ≤ a.links.length ∧ Ext (newBlk H [.int .i64 a.id, .int .i64 a.seq, .int .i64 a.age, .slice al a.links.length c]) i.2 ∧ ∀ j (h : j < a.links.length), j < i.1 → ¬ lkBad a.links[j]) (fun i => a.links.length - i.1) (0, _)
    ⟨Nat.zero_le _, Ext.refl _, fun _ _ h => absurd h (by simp)⟩ (by simp [go_sem]) rfl (by simp [go_sem]) ?_
  rintro ⟨i, H1⟩ ⟨hi, he, hno⟩
  simp only at hi he hno
  have he0 : Ext H H1 := (Ext.new (Ext.refl H)).trans he
  have hs1 := hs.ext RLk.mono he0
  simp [go_sem]
  refine Br.forkD (fun h => ?_) (fun h => ?_)
  · obtain ⟨b, off, cells, rfl, hb, _, hr, hc⟩ := hs1.get h
    unfold RLk at hc
    obtain ⟨x, hx⟩ : ∃ x, a.links[i] = x := ⟨_, rfl⟩
    have hxm : x ∈ a.links := by rw [← hx]; exact List.getElem_mem h
    rw [hx] at hc
    subst hc
    simp [go_sem, hr, h]
    refine Gd.forkN (fun e1 => ?_) (fun e1 => ?_)
    rotate_left
    · simp [go_sem, hr, h, e1]
      exact KI (hk _ (by simp [go_sem, he0])) (fault_link nb nl hxm (by unfold lkBad; omega))
    simp [go_sem, hr, h, e1]
    refine Gd.forkN (fun e2 => ?_) (fun e2 => ?_)
    rotate_left
    · simp [go_sem, hr, h, e1, e2]
      exact KI (hk _ (by simp [go_sem, he0])) (fault_link nb nl hxm (by unfold lkBad; omega))
    simp [go_sem, hr, h, e1, e2]
    refine Gd.forkN (fun e3 => ?_) (fun e3 => ?_)
    rotate_left
    · simp [go_sem, hr, h, e1, e2, e3]
      exact KI (hk _ (by simp [go_sem, he0])) (fault_link nb nl hxm (by unfold lkBad; omega))
    simp [go_sem, hr, h, e1, e2, e3]
    refine Br.forkD (fun e4 => ?_) (fun e4 => ?_)
    · simp [go_sem, hr, h, e1, e2, e3, e4]
      exact KI (hk _ (by simp [go_sem, he0])) (fault_link nb nl hxm (by unfold lkBad; omega))
    simp [go_sem, hr, h, e1, e2, e3, e4]
    refine loopK_next (i + 1, _) ⟨by simp only; omega, by simp [go_sem, he], fun j hj hji => ?_⟩ (by simp only; omega) rfl (by simp [go_sem]) (by simp [go_sem, wrap_succ (i := i) (by omega)])
    by_cases hij : j = i
    · subst hij; rw [hx]; unfold lkBad; omega
    · exact hno j hj (by simp only at hji; omega)
  have nx : ¬ ∃ x ∈ a.links, lkBad x := no_bad fun j hj => hno j hj (by omega)
  have hb1 : rdBlk H1 H.length 3 1 = some [.slice al a.links.length c] := he.rd (by simp [go_sem])
  simp [go_sem, hb1]
  refine Wc.loopw 97 (fun i : Nat × Heap => [(1, .pointer (some ⟨H.length, 0, none⟩)), (68, .slice al a.links.length c), (69, .int .i64 a.links.length), (70, .int .i64 i.1)]) (fun i => i.2)
    (fun i => i.1 ≤ a.links.length ∧ Ext H1 i.2 ∧ ∀ j, j < i.1 → ¬ lkForm a j) (fun i => a.links.length - i.1) (0, _)
    ⟨Nat.zero_le _, Ext.refl _, fun _ h => absurd h (by simp)⟩ (by simp [go_sem]) rfl (by simp [go_sem]) ?_
  rintro ⟨i, H2⟩ ⟨hi2, he2, hnf⟩
  simp only at hi2 he2 hnf
  have he3 : Ext H H2 := he0.trans he2
  have hs2 := hs.ext RLk.mono he3
  have hb2 : rdBlk H2 H.length 0 1 = some [.int .i64 a.id] := (he.trans he2).rd (by simp [go_sem])
  have hb3 : rdBlk H2 H.length 3 1 = some [.slice al a.links.length c] := he2.rd hb1
  have hlt : H.length < H2.length := rdBlk_lt hb2
  simp [go_sem]
  refine Br.forkD (fun h => ?_) (fun h => ?_)
  · obtain ⟨b, off, cells, rfl, hb, _, hr, hc⟩ := hs2.get h
    unfold RLk at hc
    have hp := peerAt_get h
    rw [← hp] at hc
    subst hc
    have done : lkForm a i → fault a = 3 := fun hf => fault_form nb nl nx h hf
    cases i with
    | zero =>
      simp at hr
      simp [go_sem, hr, h]
      refine Wc.drawn mixed (by kernel_rfl) ?_
      simp [go_sem, hb2, hlt]
      refine Gd2.forkN (fun e1 => ?_) (fun e1 => ?_)
      rotate_left
      · simp [go_sem, hb2, hlt, e1]
        exact KI (hk _ (by simp [go_sem, he3])) (done (by unfold lkForm; omega))
      simp [go_sem, hb2, hlt, e1]
      refine loopK_next (1, _) ⟨by simp only; omega, by simp [go_sem, he2], fun j hj => ?_⟩ (by simp only; omega) rfl (by simp [go_sem]) (by simp [go_sem, wrap_small])
      have : j = 0 := by simp only at hj; omega
      subst this
      unfold lkForm; omega
    | succ k =>
      obtain ⟨b', off', cells', e', _, _, hr', hc'⟩ := hs2.get (i := k) (by omega)
      cases e'
      unfold RLk at hc'
      have hp' := peerAt_get (a := a) (i := k) (by omega)
      rw [← hp'] at hc'
      subst hc'
      have hr1 : rdBlk H2 b (off + k * 2) 1 = some [.int .i64 (peerAt a k)] := by simpa using rdBlk_sub hr' (i := 0) (k := 1) (by omega)
      have hw : IntKind.i64.wrap (k : Int) = k := wrap_nat (by omega)
      have hk1 : (k : Int) < a.links.length := by omega
      have hk2 : (k : Int) + 1 < a.links.length := by omega
      simp only [Int.natCast_add, Int.cast_ofNat_Int] at *
      have hk0 : (0 : Int) ≤ (k : Int) + 1 := by omega
      have hk3 : (0 : Int) < (k : Int) + 1 := by omega
      simp [go_sem, hr, h, hk2, hk0]
      refine Wc.drawn mixed (by kernel_rfl) ?_
      simp [go_sem, hb2, hlt, hb3, hr1, hb, hw, hk1, hk3]
      refine Gd2.forkN (fun e1 => ?_) (fun e1 => ?_)
      rotate_left
      · simp [go_sem, hb2, hlt, hb3, hr1, hb, hw, hk1, hk3, e1]
        exact KI (hk _ (by simp [go_sem, he3])) (done (by unfold lkForm; omega))
      simp [go_sem, hb2, hlt, hb3, hr1, hb, hw, hk1, hk3, e1]
      refine Br.forkD (fun e2 => ?_) (fun e2 => ?_)
      · simp [go_sem]
        exact KI (hk _ (by simp [go_sem, he3])) (done (by unfold lkForm; simp; omega))
      simp [go_sem]
      refine loopK_next (k + 1 + 1, _) ⟨by simp only; omega, by simp [go_sem, he2], fun j hj => ?_⟩ (by simp only; omega) rfl (by simp [go_sem]) (by simp [go_sem, wrap_small (x := (k : Int) + 1 + 1) (by omega) (by omega)])
      by_cases hij : j = k + 1
      · subst hij
        unfold lkForm; simp; omega
      · exact hnf j (by simp only at hj; omega)
  · simp [go_sem]
    exact KI (hk _ he3) (fault_ok nb nl nx fun j hj => hnf j (by omega))
end Go.Proofs.Ytlljiccilldnaaa.Ad
