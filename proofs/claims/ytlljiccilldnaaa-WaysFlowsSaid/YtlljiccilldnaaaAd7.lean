/- Get and List of a database. -/
import Derived.Test.YtlljiccilldnaaaAd6
set_option linter.unusedVariables false
set_option linter.unusedSimpArgs false
set_option maxRecDepth 10000
namespace Go.Proofs.Ytlljiccilldnaaa.Ad
open Go Go.Am
open Go.Proofs.Ytlljiccilldnaaa.Fx
open Go.Proofs.Ytlljiccilldnaaa.Ba (wrap_small wrap_succ sameInts_spec)
variable {H : Heap} {K : Value → Heap → Prop}

theorem sl_nil {α : Type} {R : Heap → α → List Value → Prop} {sz : Nat} (H : Heap) : Sl R sz H (.slice none 0 0) [] := ⟨none, 0, rfl, Nat.le_refl _, fun _ => rfl, fun ad h => (by cases h)⟩

def getO (st : Nat → Option Adv) (id : Int) : Option Adv := if 0 ≤ id ∧ id < 16 then st id.toNat else none
theorem getO_out {st : Nat → Option Adv} {id : Int} (h : ¬ (0 ≤ id ∧ id < 16)) : getO st id = none := if_neg h
theorem getO_in {st : Nat → Option Adv} {id : Int} (h : 0 ≤ id ∧ id < 16) : getO st id = st id.toNat := if_pos h

/-- 'Get'. -/
theorem get_spec {b : Nat} {st : Nat → Option Adv} {id : Int} (hb : BaseSt H b st) (hls : ∀ i, (adOf st i).links.length < 1000000)
    (hk : ∀ H' s', Ext H H' → Sl RLk 2 H' s' ((getO st id).getD zeroA).links → K (.tuple #[advV ((getO st id).getD zeroA) s', .int .i64 (if (getO st id).isSome then 0 else 4)]) H') : Wcall Try.prog 84 #[.pointer (some ⟨b, 0, none⟩), .int .i64 id] H K := by
  refine call_cells (rs := #[.cell 4 84, .tmp 5]) Try.func84 rfl Try.ntmps84 rfl (by simp) ?_
  have hbl := BaseAt.lt hb
  have bad : getO st id = none → ∀ H', Ext H H' → K (.tuple #[.agg #[.int .i64 0, .int .i64 0, .int .i64 0, .slice none 0 0], .int .i64 4]) H' := fun h H' he => by
    have := hk H' (.slice none 0 0) he (by rw [h]; exact sl_nil _)
    rw [h] at this
    simpa [advV, advC, zeroA] using this
  simp [go_sem]
  refine Gd.forkN (fun d1 => ?_) (fun d1 => ?_)
  rotate_left
  · simp [go_sem, d1]
    exact bad (getO_out (by omega)) _ (by simp [go_sem])
  simp [go_sem, d1]
  refine Gd.forkN (fun d2 => ?_) (fun d2 => ?_)
  rotate_left
  · simp [go_sem, d1, d2]
    exact bad (getO_out (by omega)) _ (by simp [go_sem])
  simp [go_sem, d1, d2]
  have hid : 0 ≤ id ∧ id < 16 := by omega
  obtain ⟨n, hn⟩ : ∃ n : Nat, id = n := ⟨id.toNat, by omega⟩
  subst hn
  have hn16 : n < 16 := by omega
  have rh := BaseAt.rdHas hb hn16
  have d1' : ¬ ((n : Int) < 0) := by omega
  have ho := getO_in (st := st) hid
  simp at ho
  obtain ⟨sx, rx, hsx⟩ := BaseAt.rdAdv hb hn16
  simp [go_sem, rh, hbl, hid]
  cases hst : st n with
  | none =>
    simp [go_sem, hasOf, hst]
    exact bad (by rw [ho, hst]) _ (by simp [go_sem])
  | some x =>
    have hax : adOf st n = x := by simp [adOf, hst]
    rw [hax] at rx hsx
    unfold advC at rx
    have hlx := hls n
    rw [hax] at hlx
    simp [go_sem, hasOf, hst, hid, rx, hbl]
    refine own_spec (a := x) ((hsx.le RLk.monoL hide_le).ext RLk.mono (by simp [go_sem])) hlx fun H2 s2 e2 hs2 => ?_
    have e02 : Ext H H2 := by refine Ext.trans ?_ e2; simp [go_sem]
    obtain ⟨a2, c2, hv⟩ := (hs2 (fun _ => false) (by simp)).shape
    have g2 : H2[H.length]? = some ⟨[.int .i64 0, .int .i64 0, .int .i64 0, .slice none 0 0], 0, true, .live⟩ := e2.at (get_new _ _)
    have l2 := (List.getElem?_eq_some_iff.1 g2).1
    have w2 := wr_at g2 (off := 0) (vs := [.int .i64 x.id, .int .i64 x.seq, .int .i64 x.age, s2]) (by simp)
    have g3 : (H2.set H.length ⟨[.int .i64 x.id, .int .i64 x.seq, .int .i64 x.age, s2], 0, true, .live⟩)[H.length]? = some ⟨[.int .i64 x.id, .int .i64 x.seq, .int .i64 x.age, s2], 0, true, .live⟩ := List.getElem?_set_self l2
    have r3 := rd_at g3 (off := 0) (n := 4) (by simp)
    have hs3 := (hs2 (one H.length) (fun i hi => by simp [one] at hi; simp [newBlk_length, hi])).le RLk.monoL ((hide_set (S := one H.length) (k' := ⟨[.int .i64 x.id, .int .i64 x.seq, .int .i64 x.age, s2], 0, true, .live⟩) (by simp [one]) g2 rfl rfl).trans hide_le)
    have fin := hk _ s2 (ext_set e02 (Nat.le_refl _)) (by rw [ho, hst]; exact hs3)
    rw [ho, hst] at fin
    subst hv
    simp at w2 r3
    simp [go_sem, advV, advC, w2, r3, l2]
    exact fin

theorem extract_take {α : Type} (l : List α) (i n : Nat) : (l.toArray.extract i (i + n)) = ((l.drop i).take n).toArray := by
  simp [List.extract_eq_take_drop]

/-- All advertisements of the database, as a value. -/
theorem BaseAt.all {S : Nat → Bool} {b : Nat} {ad : Nat → Adv} {has : Nat → Bool} (h : BaseAt S H b ad has) : ∃ l : List Value, rdBlk H b 0 64 = some l ∧
    ∀ i : Nat, i < 16 → ∃ s, (l.drop (i * 4)).take 4 = advC (ad i) s ∧ Sl RLk 2 (hide S H) s (ad i).links := by
  obtain ⟨cells, h1, h2, h3⟩ := h.ex
  refine ⟨_, rd_at h1 (by omega), fun i hi => ?_⟩
  obtain ⟨s, e, hs⟩ := (h3 i hi).1
  exact ⟨s, by rw [← e, List.drop_take, List.take_take, Nat.min_eq_left (by omega), List.drop_zero], hs⟩

def listL (st : Nat → Option Adv) (n : Nat) : List Adv := (List.range n).filterMap st
theorem listL_succ {st : Nat → Option Adv} {n : Nat} : listL st (n + 1) = listL st n ++ (match st n with | some a => [a] | none => []) := by
  unfold listL
  rw [List.range_succ, List.filterMap_append]
  cases h : st n <;> simp [h]
theorem listL_len (st : Nat → Option Adv) (n : Nat) : (listL st n).length ≤ n := by
  unfold listL
  have := List.length_filterMap_le st (List.range n)
  simpa using this

/-- 'List'. -/
theorem listG_spec {b : Nat} {st : Nat → Option Adv} (hb : BaseSt H b st) (hls : ∀ i, (adOf st i).links.length < 1000000) (hk : ∀ H' s', Ext H H' → GSl RAdv 4 H.length H' s' (listL st 16) → K s' H') : Wcall Try.prog 77 #[.pointer (some ⟨b, 0, none⟩)] H K := by
  refine call_body (rs := #[.tmp 2]) Try.func77 rfl Try.ntmps77 rfl rfl (by simp) ?_
  have hbl := BaseAt.lt hb
  obtain ⟨l, rl, hl⟩ := BaseAt.all hb
  simp [go_sem, rl]
  refine Wc.loopw 27 (fun i : Nat × Heap × Value => [(0, .pointer (some ⟨b, 0, none⟩)), (3, i.2.2), (9, .agg l.toArray), (10, .int .i64 i.1)]) (fun i => i.2.1)
    (fun i => i.1 ≤ 16 ∧ Ext H i.2.1 ∧ GSl RAdv 4 H.length i.2.1 i.2.2 (listL st i.1)) (fun i => 16 - i.1) (0, _, _)
    ⟨Nat.zero_le _, Ext.refl _, GSl.nil⟩ (by simp [go_sem]) rfl (by simp [go_sem]) ?_
  rintro ⟨i, H1, s1⟩ ⟨hi, he, hg⟩
  simp only at hi he hg
  simp [go_sem]
  refine Br.forkD (fun h => ?_) (fun h => ?_)
  · have hi16 : i < 16 := by omega
    obtain ⟨s, ri, hs⟩ := hl i hi16
    have hb1 := BaseAt.ext hb he
    have hb1l := hb1.lt
    have rh := hb1.rdHas hi16
    unfold advC at ri
    simp [go_sem, h, ri, rh, hb1l]
    cases hst : st i with
    | none =>
      have hsucc : listL st (i + 1) = listL st i := by rw [listL_succ, hst]; simp
      simp [go_sem, hasOf, hst]
      exact loopK_next (i + 1, _, s1) ⟨by simp only; omega, by simp [go_sem, he], by rw [hsucc]; exact hg.ext RAdv.monoL (by simp [go_sem])⟩ (by simp only; omega) rfl (by simp [go_sem]) (by simp [go_sem, wrap_succ (i := i) (by omega)])
    | some x =>
      have hsucc : listL st (i + 1) = listL st i ++ [x] := by rw [listL_succ, hst]
      have hax : adOf st i = x := by simp [adOf, hst]
      have hlx := hls i
      rw [hax] at hlx hs
      simp [go_sem, hasOf, hst, hax]
      refine own_spec (a := x) ((hs.le RLk.monoL hide_le).ext RLk.mono (by simp [go_sem, he])) hlx fun H2 s2 e2 hs2 => ?_
      obtain ⟨a2, c2, hv⟩ := (hs2 (fun _ => false) (by simp)).shape
      have e12 : Ext H1 H2 := by refine Ext.trans ?_ e2; simp [go_sem]
      subst hv
      simp [go_sem, advV, advC]
      have hg2 : GSl RAdv 4 H.length (newBlk H2 (advC x (.slice a2 x.links.length c2))) s1 (listL st i) := hg.ext RAdv.monoL (by simp [go_sem, e12])
      refine op2_append (ys := [x]) (l := advC x (.slice a2 x.links.length c2)) hg2 RAdv.monoL (by have := (he.trans e12).len; simp [newBlk_length]; omega)
        u74 z84 i84 s84 rfl (by omega) (by rw [b84]; omega) (news_slice u74 rfl (by simp) (by simp [go_sem, advC])) (by simp) (by simp [advC]) ?_ ?_ ?_
      · intro j y hy
        have hj : j = 0 := by have := (List.getElem?_eq_some_iff.1 hy).1; simp at this; omega
        subst hj
        simp at hy
        subst hy
        refine ⟨_, rfl, ?_⟩
        have := hs2 (atB s1) (fun i hi => by have := (hg.lt hi).2; simp [newBlk_length]; omega)
        exact this.le RLk.monoL (hide_ext (by simp [go_sem]))
      · have := listL_len st i; simp; omega
      intro s' H' hg' _ _ hext _ _
      simp [go_sem]
      refine loopK_next (i + 1, H', s') ⟨by simp only; omega, hext H (by omega) (by simp [go_sem, he.trans e12]), ?_⟩ (by simp only; omega) rfl (by simp [go_sem]) (by simp [go_sem, wrap_succ (i := i) (by omega)])
      rw [hsucc]; exact hg'
  · simp [go_sem]
    have : i = 16 := by omega
    subst this
    exact hk _ _ he hg
theorem list_spec {b : Nat} {st : Nat → Option Adv} (hb : BaseSt H b st) (hls : ∀ i, (adOf st i).links.length < 1000000) (hk : ∀ H' s', Ext H H' → Sl RAdv 4 H' s' (listL st 16) → K s' H') : Wcall Try.prog 77 #[.pointer (some ⟨b, 0, none⟩)] H K :=
  listG_spec hb hls fun H' s' he hg => hk H' s' he (hg.sl RAdv.monoL)
end Go.Proofs.Ytlljiccilldnaaa.Ad
