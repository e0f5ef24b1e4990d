/- Whether two lists of routes are equal. -/
import Derived.Test.YthifgakeababmaaBa10
set_option linter.unusedVariables false
set_option linter.unusedSimpArgs false
set_option maxRecDepth 10000
namespace Go.Proofs.Ythifgakeababmaa.Ba
open Go Go.Am
open Go.Proofs.Ythifgakeababmaa.Fx
variable {H : Heap} {K : Value → Heap → Prop}

theorem equalWays_spec {s t : Value} {xs ys : List Int} (hs : Sl RInt 1 H s xs) (ht : Sl RInt 1 H t ys) (hl : xs.length < 1000000) (hl2 : ys.length < 1000000) (hk : ∀ H', Ext H H' → K (.bool (decide (xs = ys))) H') : Wcall Try.prog 88 #[.agg #[s], .agg #[t]] H K := by
  obtain ⟨a, c, rfl⟩ := hs.shape
  obtain ⟨a', c', rfl⟩ := ht.shape
  refine call_body (rs := #[.tmp 4]) Try.func88 rfl Try.ntmps88 rfl rfl (by simp) ?_
  simp [go_sem]
  refine equal_spec ((hs.new RInt.mono _).new RInt.mono _) ((ht.new RInt.mono _).new RInt.mono _) hl hl2 ?_
  simp [go_sem]
  exact hk _ (Ext.new (Ext.new (Ext.refl _)))

theorem equalFunc_spec {s t : Value} {xs ys : List (List Int)} (hs : Sl RWay 1 H s xs) (ht : Sl RWay 1 H t ys) (hl : xs.length < 1000000) (hl2 : ys.length < 1000000) (hx : ∀ w ∈ xs, w.length < 100000) (hy : ∀ w ∈ ys, w.length < 100000)
    (hk : ∀ H', Ext H H' → K (.bool (decide (xs = ys))) H') : Wcall Try.prog 87 #[s, t, .func (.func 88) #[] #[]] H K := by
  obtain ⟨a, c, rfl⟩ := hs.shape
  obtain ⟨a', c', rfl⟩ := ht.shape
  refine call_body (rs := #[.tmp 6]) Try.func87 rfl Try.ntmps87 rfl rfl (by simp) ?_
  simp [go_sem]
  refine Br.forkN (fun h => ?_) (fun h => ?_)
  · simp [go_sem]
    have : decide (xs = ys) = false := by simp; intro e; rw [e] at h; exact h rfl
    rw [← this]; exact hk _ (Ext.refl _)
  simp [go_sem]
  refine Wc.loopw 32 (fun i : Nat × Heap => [(1, .slice a' ys.length c'), (2, .func (.func 88) #[] #[]), (15, .slice a xs.length c), (16, .int .i64 xs.length), (17, .int .i64 i.1)]) (fun i => i.2) (fun i => i.1 ≤ xs.length ∧ Ext H i.2 ∧ ∀ j (h : j < xs.length) (h' : j < ys.length), j < i.1 → xs[j] = ys[j]) (fun i => xs.length - i.1) (0, _)
    ⟨Nat.zero_le _, Ext.refl _, fun _ _ _ h => absurd h (by omega)⟩ (by simp [go_sem]) rfl (by simp [go_sem]) ?_
  rintro ⟨i, H1⟩ ⟨hi, he, hno⟩
  simp only at hi he hno
  have hs1 := hs.ext RWay.mono he
  have ht1 := ht.ext RWay.mono he
  simp [go_sem]
  refine Br.forkD (fun h3 => ?_) (fun h3 => ?_)
  · have h4 : i < ys.length := by omega
    obtain ⟨b, off, cells, rfl, hb, _, hr, sx, rfl, hsx⟩ := hs1.get h3
    obtain ⟨b', off', cells', rfl, hb', _, hr', sy, rfl, hsy⟩ := ht1.get h4
    simp at hr hr'
    obtain ⟨ax, cx, rfl⟩ := hsx.shape
    obtain ⟨ay, cy, rfl⟩ := hsy.shape
    have hxl := hx _ (List.getElem_mem h3)
    have hyl := hy _ (List.getElem_mem h4)
    simp [go_sem, hr, hr', h3, h4, hb, hb']
    refine equalWays_spec ((hsx.new RInt.mono _).new RInt.mono _) ((hsy.new RInt.mono _).new RInt.mono _) (by omega) (by omega) fun H2 e2 => ?_
    simp [go_sem]
    refine Br.forkN (fun h2 => ?_) (fun h2 => ?_)
    · simp [go_sem]
      have : decide (xs = ys) = false := by simp; intro e; subst e; exact h2 rfl
      rw [← this]; exact hk _ (he.trans ((Ext.new (Ext.new (Ext.refl _))).trans e2))
    · simp [go_sem]
      refine loopK_next (i + 1, _) ⟨by simp only; omega, he.trans ((Ext.new (Ext.new (Ext.refl _))).trans e2), fun j hj hj' hji => ?_⟩ (by simp only; omega) rfl (by simp [go_sem]) (by simp [go_sem, wrap_succ (i := i) (by omega)])
      by_cases hee : j = i
      · subst hee; exact h2
      · exact hno j hj hj' (by simp only at hji; omega)
  · simp [go_sem]
    have : decide (xs = ys) = true := by
      simp
      exact List.ext_getElem (by omega) fun j hj hj' => hno j hj hj' (by omega)
    rw [← this]; exact hk _ he

/-- 'SameBest'. -/
theorem sameBest_spec {s t : Value} {xs ys : List (List Int)} (hs : Sl RWay 1 H s xs) (ht : Sl RWay 1 H t ys) (hl : xs.length < 1000000) (hl2 : ys.length < 1000000) (hx : ∀ w ∈ xs, w.length < 100000) (hy : ∀ w ∈ ys, w.length < 100000)
    (hk : ∀ H', Ext H H' → K (.bool (decide (xs = ys))) H') : Wcall Try.prog 35 #[s, t] H K := by
  obtain ⟨a, c, rfl⟩ := hs.shape
  obtain ⟨a', c', rfl⟩ := ht.shape
  refine call_body (rs := #[.tmp 4]) Try.func35 rfl Try.ntmps35 rfl rfl (by simp) ?_
  simp [go_sem]
  refine Br.forkN (fun h => ?_) (fun h => ?_)
  · simp [go_sem]
    have : decide (xs = ys) = false := by simp; intro e; rw [e] at h; exact h rfl
    rw [← this]; exact hk _ (Ext.refl _)
  simp [go_sem]
  refine Wc.loopw 29 (fun i : Nat × Heap => [(1, .slice a' ys.length c'), (12, .slice a xs.length c), (13, .int .i64 xs.length), (14, .int .i64 i.1)]) (fun i => i.2) (fun i => i.1 ≤ xs.length ∧ Ext H i.2 ∧ ∀ j (h : j < xs.length) (h' : j < ys.length), j < i.1 → xs[j] = ys[j]) (fun i => xs.length - i.1) (0, _)
    ⟨Nat.zero_le _, Ext.refl _, fun _ _ _ h => absurd h (by omega)⟩ (by simp [go_sem]) rfl (by simp [go_sem]) ?_
  rintro ⟨i, H1⟩ ⟨hi, he, hno⟩
  simp only at hi he hno
  have hs1 := hs.ext RWay.mono he
  have ht1 := ht.ext RWay.mono he
  simp [go_sem]
  refine Br.forkD (fun h3 => ?_) (fun h3 => ?_)
  · have h4 : i < ys.length := by omega
    obtain ⟨b, off, cells, rfl, hb, _, hr, sx, rfl, hsx⟩ := hs1.get h3
    obtain ⟨b', off', cells', rfl, hb', _, hr', sy, rfl, hsy⟩ := ht1.get h4
    simp at hr hr'
    obtain ⟨ax, cx, rfl⟩ := hsx.shape
    obtain ⟨ay, cy, rfl⟩ := hsy.shape
    have hxl := hx _ (List.getElem_mem h3)
    have hyl := hy _ (List.getElem_mem h4)
    simp [go_sem, hr, h3]
    refine Wc.drawn mixed (by kernel_rfl) ?_
    simp [go_sem, hr, hr', h3, h4, hb, hb']
    refine sameInts_spec (hsx.new RInt.mono _) (hsy.new RInt.mono _) (by omega) (by omega) ?_
    simp [go_sem]
    refine Br.forkN (fun h2 => ?_) (fun h2 => ?_)
    · simp [go_sem]
      have : decide (xs = ys) = false := by simp; intro e; subst e; exact h2 rfl
      rw [← this]; exact hk _ (he.trans (Ext.new (Ext.refl _)))
    · simp [go_sem]
      refine loopK_next (i + 1, _) ⟨by simp only; omega, he.trans (Ext.new (Ext.refl _)), fun j hj hj' hji => ?_⟩ (by simp only; omega) rfl (by simp [go_sem]) (by simp [go_sem, wrap_succ (i := i) (by omega)])
      by_cases hee : j = i
      · subst hee; exact h2
      · exact hno j hj hj' (by simp only at hji; omega)
  · simp [go_sem]
    have : decide (xs = ys) = true := by
      simp
      exact List.ext_getElem (by omega) fun j hj hj' => hno j hj hj' (by omega)
    rw [← this]; exact hk _ he
end Go.Proofs.Ythifgakeababmaa.Ba
