/- Equality of advertisements and of edges, by the reference. -/
import Derived.Test.YtlljiccilldnaaaAd11
set_option linter.unusedVariables false
set_option linter.unusedSimpArgs false
set_option maxRecDepth 10000
namespace Go.Proofs.Ytlljiccilldnaaa.Ad
open Go Go.Am
open Go.Proofs.Ytlljiccilldnaaa.Fx
open Go.Proofs.Ytlljiccilldnaaa.Ba (wrap_small wrap_succ sameInts_spec)
variable {H : Heap} {K : Value → Heap → Prop}

/-- 'some'. -/
theorem some_spec {a : Option Addr} {m c : Nat} {ls : List Adv} (hs : Sl RAdv 4 H (.slice a m c) ls) (hk : K (.slice a (min ls.length 6) c) H) : Wcall Try.prog 40 #[.slice a m c, .int .i64 6] H K := by
  have := hs.len
  subst this
  refine call_body (rs := #[.tmp 4]) Try.func40 rfl Try.ntmps40 rfl rfl (by simp) ?_
  simp [go_sem]
  rw [hs.aSlice u74 i84 s84 (by omega) (by omega)]
  simp [go_sem]
  rw [show (min (ls.length : Int) 6).toNat = min ls.length 6 by omega]
  exact hk

/-- 'SameAdv'. -/
theorem sameAdv_spec {a b : Adv} {s t : Value} (hs : Sl RLk 2 H s a.links) (ht : Sl RLk 2 H t b.links) (hl : a.links.length < 1000000) (hl2 : b.links.length < 1000000) (hk : ∀ H', Ext H H' → K (.bool (decide (a = b))) H') : Wcall Try.prog 86 #[advV a s, advV b t] H K := by
  obtain ⟨as_, cs, rfl⟩ := hs.shape
  obtain ⟨at_, ct, rfl⟩ := ht.shape
  refine call_body (rs := #[.tmp 4]) Try.func86 rfl Try.ntmps86 rfl rfl (by simp) ?_
  have no : a ≠ b → ∀ H', Ext H H' → K (.bool false) H' := fun h H' he => KB (hk H' he) (by simp [h])
  simp [go_sem, advV, advC]
  refine Gd.fork (fun d1 => ?_) (fun d1 => ?_)
  rotate_left
  · simp [go_sem, d1]
    exact no (fun e => by subst e; first | (simp at d1; done) | (simp at d2; done) | (simp at d3; done)) _ (by simp [go_sem])
  simp [go_sem, d1]
  refine Gd.fork (fun d2 => ?_) (fun d2 => ?_)
  rotate_left
  · simp [go_sem, d1, d2]
    exact no (fun e => by subst e; first | (simp at d1; done) | (simp at d2; done) | (simp at d3; done)) _ (by simp [go_sem])
  simp [go_sem, d1, d2]
  refine Gd.fork (fun d3 => ?_) (fun d3 => ?_)
  rotate_left
  · simp [go_sem, d1, d2, d3]
    exact no (fun e => by subst e; first | (simp at d1; done) | (simp at d2; done) | (simp at d3; done)) _ (by simp [go_sem])
  simp [go_sem, d1, d2, d3]
  refine Br.forkNB (fun d4 => ?_) (fun d4 => ?_)
  · simp [go_sem]
    exact no (fun e => by subst e; simp at d4) _ (by simp [go_sem])
  simp [go_sem]
  simp at d1 d2 d3 d4
  have hab : a.links = b.links → a = b := fun e => by
    obtain ⟨a1, a2, a3, a4⟩ := a
    obtain ⟨b1, b2, b3, b4⟩ := b
    simp at d1 d2 d3 e
    simp [d1, d2, d3, e]
  refine Wc.loopw 51 (fun i : Nat × Heap => [(3, .pointer (some ⟨H.length + 1, 0, none⟩)), (36, .slice as_ a.links.length cs), (37, .int .i64 a.links.length), (38, .int .i64 i.1)]) (fun i => i.2)
    (fun i => i.1 ≤ a.links.length ∧ Ext (newBlk (newBlk H [.int .i64 a.id, .int .i64 a.seq, .int .i64 a.age, .slice as_ a.links.length cs]) [.int .i64 b.id, .int .i64 b.seq, .int .i64 b.age, .slice at_ b.links.length ct]) i.2 ∧ ∀ j (h : j < a.links.length) (h' : j < b.links.length), j < i.1 → a.links[j] = b.links[j]) (fun i => a.links.length - i.1) (0, _)
    ⟨Nat.zero_le _, Ext.refl _, fun _ _ _ h => absurd h (by simp)⟩ (by simp [go_sem]) rfl (by simp [go_sem]) ?_
  rintro ⟨i, H1⟩ ⟨hi, he, hno⟩
  simp only at hi he hno
  have he0 : Ext H H1 := Ext.trans (by simp [go_sem]) he
  have hb3 : rdBlk H1 (H.length + 1) 3 1 = some [.slice at_ b.links.length ct] := he.rd (by simp [go_sem])
  have l3 := rdBlk_lt hb3
  simp [go_sem]
  refine Br.forkD (fun h => ?_) (fun h => ?_)
  · have h4 : i < b.links.length := by omega
    obtain ⟨bb, off, cells, rfl, hb, _, hr, hc⟩ := (hs.ext RLk.mono he0).get h
    obtain ⟨bb', off', cells', rfl, hb', _, hr', hc'⟩ := (ht.ext RLk.mono he0).get h4
    unfold RLk at hc hc'
    subst hc
    subst hc'
    simp [go_sem, hr, h]
    refine Wc.drawn mixed (by kernel_rfl) ?_
    simp [go_sem, hb3, l3, hr', h4, hb']
    have bad : a.links[i] ≠ b.links[i] → K (.bool false) (newBlk H1 [.int .i64 a.links[i].1, .int .i64 a.links[i].2]) := fun q => no (fun e => by subst e; exact q rfl) _ (by simp [go_sem, he0])
    cases q1 : decide (a.links[i].1 = b.links[i].1) with
    | false =>
      simp [go_sem]
      exact bad (fun e => by rw [e] at q1; simp at q1)
    | true =>
      cases q2 : decide (a.links[i].2 = b.links[i].2) with
      | false =>
        simp [go_sem]
        exact bad (fun e => by rw [e] at q2; simp at q2)
      | true =>
        simp [go_sem]
        refine loopK_next (i + 1, _) ⟨by simp only; omega, by simp [go_sem, he], fun j hj hj' hji => ?_⟩ (by simp only; omega) rfl (by simp [go_sem]) (by simp [go_sem, wrap_succ (i := i) (by omega)])
        by_cases e : j = i
        · subst e
          simp at q1 q2
          exact Prod.ext q1 q2
        · exact hno j hj hj' (by simp only at hji; omega)
  · simp [go_sem]
    refine KB (hk _ he0) ?_
    simp
    exact hab (List.ext_getElem (by omega) fun j hj hj' => hno j hj hj' (by omega))

/-- 'SameAdvs'. -/
theorem sameAdvs_spec {s t : Value} {xs ys : List Adv} (hs : Sl RAdv 4 H s xs) (ht : Sl RAdv 4 H t ys) (hl : xs.length < 1000000) (hl2 : ys.length < 1000000) (hx : ∀ a ∈ xs, a.links.length < 1000000) (hy : ∀ a ∈ ys, a.links.length < 1000000)
    (hk : ∀ H', Ext H H' → K (.bool (decide (xs = ys))) H') : Wcall Try.prog 47 #[s, t] H K := by
  obtain ⟨as_, cs, rfl⟩ := hs.shape
  obtain ⟨at_, ct, rfl⟩ := ht.shape
  refine call_body (rs := #[.tmp 4]) Try.func47 rfl Try.ntmps47 rfl rfl (by simp) ?_
  have no : xs ≠ ys → ∀ H', Ext H H' → K (.bool false) H' := fun h H' he => KB (hk H' he) (by simp [h])
  simp [go_sem]
  refine Br.forkNB (fun d4 => ?_) (fun d4 => ?_)
  · simp [go_sem]
    exact no (fun e => by subst e; simp at d4) _ (by simp [go_sem])
  simp [go_sem]
  simp at d4
  refine Wc.loopw 27 (fun i : Nat × Heap => [(1, .slice at_ ys.length ct), (12, .slice as_ xs.length cs), (13, .int .i64 xs.length), (14, .int .i64 i.1)]) (fun i => i.2)
    (fun i => i.1 ≤ xs.length ∧ Ext H i.2 ∧ ∀ j (h : j < xs.length) (h' : j < ys.length), j < i.1 → xs[j] = ys[j]) (fun i => xs.length - i.1) (0, _)
    ⟨Nat.zero_le _, Ext.refl _, fun _ _ _ h => absurd h (by simp)⟩ (by simp [go_sem]) rfl (by simp [go_sem]) ?_
  rintro ⟨i, H1⟩ ⟨hi, he, hno⟩
  simp only at hi he hno
  simp [go_sem]
  refine Br.forkD (fun h => ?_) (fun h => ?_)
  · have h4 : i < ys.length := by omega
    obtain ⟨bb, off, cells, rfl, hb, _, hr, s1, hc, hs1⟩ := (hs.ext RAdv.mono he).get h
    obtain ⟨bb', off', cells', rfl, hb', _, hr', s2, hc', hs2⟩ := (ht.ext RAdv.mono he).get h4
    have hx1 := hx _ (List.getElem_mem h)
    have hy1 := hy _ (List.getElem_mem h4)
    obtain ⟨x, hxx⟩ : ∃ x, xs[i] = x := ⟨_, rfl⟩
    obtain ⟨y, hyy⟩ : ∃ y, ys[i] = y := ⟨_, rfl⟩
    rw [hxx] at hc hs1 hx1
    rw [hyy] at hc' hs2 hy1
    unfold advC at hc hc'
    subst hc
    subst hc'
    simp [go_sem, hr, h]
    refine Wc.drawn mixed (by kernel_rfl) ?_
    simp [go_sem, hr', h4, hb']
    refine sameAdv_spec (a := x) (b := y) (hs1.ext RLk.mono (by simp [go_sem])) (hs2.ext RLk.mono (by simp [go_sem])) hx1 hy1 fun H2 e2 => ?_
    have he2 : Ext H H2 := he.trans (Ext.trans (by simp [go_sem]) e2)
    simp [go_sem]
    refine Br.forkN (fun g => ?_) (fun g => ?_)
    · simp [go_sem]
      exact no (fun e => by subst e; exact g (hxx.symm.trans hyy)) _ he2
    · simp [go_sem]
      refine loopK_next (i + 1, _) ⟨by simp only; omega, he2, fun j hj hj' hji => ?_⟩ (by simp only; omega) rfl (by simp [go_sem]) (by simp [go_sem, wrap_succ (i := i) (by omega)])
      by_cases e : j = i
      · subst e; rw [hxx, hyy, g]
      · exact hno j hj hj' (by simp only at hji; omega)
  · simp [go_sem]
    refine KB (hk _ he) ?_
    simp
    exact List.ext_getElem (by omega) fun j hj hj' => hno j hj hj' (by omega)

/-- 'SameEdges'. -/
theorem sameEdges_spec {s t : Value} {xs ys : List (Int × Int × Int)} (hs : Sl REd 3 H s xs) (ht : Sl REd 3 H t ys) (hl : xs.length < 1000000) (hl2 : ys.length < 1000000)
    (hk : ∀ H', Ext H H' → K (.bool (decide (xs = ys))) H') : Wcall Try.prog 31 #[s, t] H K := by
  obtain ⟨as_, cs, rfl⟩ := hs.shape
  obtain ⟨at_, ct, rfl⟩ := ht.shape
  refine call_body (rs := #[.tmp 4]) Try.func31 rfl Try.ntmps31 rfl rfl (by simp) ?_
  have no : xs ≠ ys → ∀ H', Ext H H' → K (.bool false) H' := fun h H' he => KB (hk H' he) (by simp [h])
  simp [go_sem]
  refine Br.forkNB (fun d4 => ?_) (fun d4 => ?_)
  · simp [go_sem]
    exact no (fun e => by subst e; simp at d4) _ (by simp [go_sem])
  simp [go_sem]
  simp at d4
  refine Wc.loopw 26 (fun i : Nat × Heap => [(1, .slice at_ ys.length ct), (12, .slice as_ xs.length cs), (13, .int .i64 xs.length), (14, .int .i64 i.1)]) (fun i => i.2)
    (fun i => i.1 ≤ xs.length ∧ Ext H i.2 ∧ ∀ j (h : j < xs.length) (h' : j < ys.length), j < i.1 → xs[j] = ys[j]) (fun i => xs.length - i.1) (0, _)
    ⟨Nat.zero_le _, Ext.refl _, fun _ _ _ h => absurd h (by simp)⟩ (by simp [go_sem]) rfl (by simp [go_sem]) ?_
  rintro ⟨i, H1⟩ ⟨hi, he, hno⟩
  simp only at hi he hno
  simp [go_sem]
  refine Br.forkD (fun h => ?_) (fun h => ?_)
  · have h4 : i < ys.length := by omega
    obtain ⟨bb, off, cells, rfl, hb, _, hr, hc⟩ := (hs.ext REd.monoL.mono he).get h
    obtain ⟨bb', off', cells', rfl, hb', _, hr', hc'⟩ := (ht.ext REd.monoL.mono he).get h4
    unfold REd at hc hc'
    subst hc
    subst hc'
    simp [go_sem, hr, h]
    refine Wc.drawn mixed (by kernel_rfl) ?_
    simp [go_sem, hr', h4, hb']
    have bad : xs[i] ≠ ys[i] → K (.bool false) (newBlk H1 [.int .i64 xs[i].1, .int .i64 xs[i].2.1, .int .i64 xs[i].2.2]) := fun q => no (fun e => by subst e; exact q rfl) _ (by simp [go_sem, he])
    cases q1 : decide (xs[i].1 = ys[i].1) with
    | false => simp [go_sem]; exact bad (fun e => by rw [e] at q1; simp at q1)
    | true =>
      cases q2 : decide (xs[i].2.1 = ys[i].2.1) with
      | false => simp [go_sem]; exact bad (fun e => by rw [e] at q2; simp at q2)
      | true =>
        cases q3 : decide (xs[i].2.2 = ys[i].2.2) with
        | false => simp [go_sem]; exact bad (fun e => by rw [e] at q3; simp at q3)
        | true =>
          simp [go_sem]
          refine loopK_next (i + 1, _) ⟨by simp only; omega, by simp [go_sem, he], fun j hj hj' hji => ?_⟩ (by simp only; omega) rfl (by simp [go_sem]) (by simp [go_sem, wrap_succ (i := i) (by omega)])
          by_cases e : j = i
          · subst e
            simp at q1 q2 q3
            exact Prod.ext q1 (Prod.ext q2 q3)
          · exact hno j hj hj' (by simp only at hji; omega)
  · simp [go_sem]
    refine KB (hk _ he) ?_
    simp
    exact List.ext_getElem (by omega) fun j hj hj' => hno j hj hj' (by omega)
end Go.Proofs.Ytlljiccilldnaaa.Ad
