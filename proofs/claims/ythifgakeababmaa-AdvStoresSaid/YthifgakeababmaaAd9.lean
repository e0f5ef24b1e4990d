/- Tick of a database. -/
import Derived.Test.YthifgakeababmaaAd8
set_option linter.unusedVariables false
set_option linter.unusedSimpArgs false
set_option maxRecDepth 10000
namespace Go.Proofs.Ythifgakeababmaa.Ad
open Go Go.Am
open Go.Proofs.Ythifgakeababmaa.Fx
open Go.Proofs.Ythifgakeababmaa.Ba (wrap_small wrap_succ sameInts_spec)
variable {H : Heap} {K : Value → Heap → Prop}

theorem hide_le_of {A S : Nat → Bool} {H H' : Heap} (h : Le (hide A H) H') (hA : ∀ i, A i = true → S i = true) : Le (hide S H) (hide S H') :=
  hide_le_hide (by simpa [hide_len] using h.1) fun b k hk => by
    obtain ⟨k', e, q⟩ := h.2 b _ (by rw [hide_get, hk]; rfl)
    refine ⟨k', e, ?_⟩
    cases hS : S b with
    | false =>
      have : A b = false := by
        cases hq : A b
        · rfl
        · rw [hA b hq] at hS; cases hS
      simp only [this, Bool.false_eq_true, if_false] at q
      exact .inr ⟨rfl, q⟩
    | true =>
      refine .inl ⟨rfl, ?_⟩
      cases hq : A b with
      | false =>
        simp only [hq, Bool.false_eq_true, if_false] at q
        rcases q with rfl | ⟨_, q1, q2⟩
        · exact ⟨rfl, rfl⟩
        · exact ⟨q1, q2⟩
      | true =>
        simp only [hq, if_true] at q
        rcases q with rfl | ⟨_, q1, q2⟩
        · exact ⟨rfl, rfl⟩
        · exact ⟨q1, q2⟩
theorem BaseAt.keep {S : Nat → Bool} {b : Nat} {ad : Nat → Adv} {has : Nat → Bool} (h : BaseAt S H b ad has) {H' : Heap} (hb : H'[b]? = H[b]?) (hl : Le (hide S H) (hide S H')) : BaseAt S H' b ad has := by
  obtain ⟨cells, h1, h2, h3⟩ := h.ex
  exact ⟨cells, hb.trans h1, h2, fun i hi => ⟨RAdv.monoL _ _ _ _ hl (h3 i hi).1, (h3 i hi).2⟩⟩

def tick1 (n : Int) (a : Adv) : Option Adv := if a.age + n ≥ 3600 then none else some { a with age := a.age + n }
def tickSt (n : Int) (st : Nat → Option Adv) : Nat → Option Adv := fun i => (st i).bind (tick1 n)
def tickUp (n : Int) (st : Nat → Option Adv) (i : Nat) : Nat → Option Adv := fun j => if j < i then tickSt n st j else st j
theorem tickUp_zero {n : Int} {st : Nat → Option Adv} : tickUp n st 0 = st := by funext j; simp [tickUp]
theorem tickUp_self {n : Int} {st : Nat → Option Adv} {i : Nat} : tickUp n st i i = st i := by simp [tickUp]
theorem tickUp_succ {n : Int} {st : Nat → Option Adv} {i : Nat} : tickUp n st (i + 1) = upd (tickUp n st i) i (tickSt n st i) := by
  funext j
  unfold tickUp upd
  by_cases h : j = i
  · subst h; simp
  · rw [if_neg h]
    by_cases h2 : j < i
    · rw [if_pos (by omega)]; exact (if_pos h2).symm
    · rw [if_neg (by omega)]; exact (if_neg h2).symm
def goneAt (n : Int) (st : Nat → Option Adv) (i : Nat) : Option Int := match st i with
  | some a => if a.age + n ≥ 3600 then some (i : Int) else none
  | none => none
def goneL (n : Int) (st : Nat → Option Adv) (k : Nat) : List Int := (List.range k).filterMap (goneAt n st)
theorem goneL_succ {n : Int} {st : Nat → Option Adv} {i : Nat} : goneL n st (i + 1) = goneL n st i ++ (goneAt n st i).toList := by
  unfold goneL
  rw [List.range_succ, List.filterMap_append]
  cases h : goneAt n st i <;> simp [h]
theorem goneL_len (n : Int) (st : Nat → Option Adv) (k : Nat) : (goneL n st k).length ≤ k := by
  unfold goneL
  have := List.length_filterMap_le (goneAt n st) (List.range k)
  simpa using this
theorem tickSt_none {n : Int} {st : Nat → Option Adv} {i : Nat} (h : st i = none) : tickSt n st i = none := by unfold tickSt; rw [h]; rfl
theorem upd_id {α : Type} {f : Nat → α} {i : Nat} {x : α} (h : f i = x) : upd f i x = f := by
  funext j; unfold upd; split
  · rename_i e; rw [e, h]
  · rfl

/-- 'Tick'. -/
theorem tick_spec {b : Nat} {st : Nat → Option Adv} {n : Int} (hb : BaseSt H b st) (hage : ∀ i a, st i = some a → 0 ≤ a.age ∧ a.age ≤ 3600)
    (hk0 : (n < 0 ∨ n > 1000000000) → K (.tuple #[.slice none 0 0, .int .i64 10]) H)
    (hk1 : ¬ (n < 0 ∨ n > 1000000000) → ∀ H' s', H.length ≤ H'.length → Le (hide (one b) H) (hide (one b) H') → BaseSt H' b (tickSt n st) → Sl RInt 1 H' s' (goneL n st 16) → K (.tuple #[s', .int .i64 0]) H') :
    Wcall Try.prog 96 #[.pointer (some ⟨b, 0, none⟩), .int .i64 n] H K := by
  refine call_body (rs := #[.tmp 4, .tmp 5]) Try.func96 rfl Try.ntmps96 rfl rfl (by simp) ?_
  have hbl := BaseAt.lt hb
  simp [go_sem]
  refine Gd.forkN (fun d1 => ?_) (fun d1 => ?_)
  rotate_left
  · simp [go_sem, d1]
    exact hk0 (by omega)
  simp [go_sem, d1]
  refine Br.forkD (fun d2 => ?_) (fun d2 => ?_)
  · simp [go_sem, d1, d2]
    exact hk0 (by omega)
  simp [go_sem, d1, d2]
  have hn : ¬ (n < 0 ∨ n > 1000000000) := by omega
  have hfin := hk1 hn
  have hle0 : Le (hide (one b) H) (hide (fun q => q == b || decide (H.length ≤ q)) H) := hide_le_hide (Nat.le_refl _) fun q k hq => ⟨k, hq, by
    have hql := (List.getElem?_eq_some_iff.1 hq).1
    by_cases e : q = b
    · exact .inl ⟨by simp [one, e], rfl, rfl⟩
    · exact .inr ⟨by simp [e, hql], .refl _⟩⟩
  have hle1 : ∀ H', Le (hide (fun q => q == b || decide (H.length ≤ q)) H') (hide (one b) H') := fun H' => hide_mono fun i hi => by simp [one] at hi; simp [hi]
  have hSb : (fun q => q == b || decide (H.length ≤ q)) b = true := by simp
  have hSm : ∀ q, H.length ≤ q → (fun q => q == b || decide (H.length ≤ q)) q = true := fun q hq => by simp [hq]
  generalize (fun q => q == b || decide (H.length ≤ q)) = S at hle0 hle1 hSb hSm
  refine Wc.loopw 65 (fun i : Nat × Heap × Value => [(0, .pointer (some ⟨b, 0, none⟩)), (1, .int .i64 n), (6, i.2.2), (14, .int .i64 i.1)]) (fun i => i.2.1)
    (fun i => i.1 ≤ 16 ∧ H.length ≤ i.2.1.length ∧ Le (hide S H) (hide S i.2.1) ∧ BaseAt S i.2.1 b (adOf (tickUp n st i.1)) (hasOf (tickUp n st i.1)) ∧ GSl RInt 1 H.length i.2.1 i.2.2 (goneL n st i.1)) (fun i => 16 - i.1) (0, _, _)
    ⟨Nat.zero_le _, Nat.le_refl _, Le.refl _, by rw [tickUp_zero]; exact BaseAt.le hb hle0, GSl.nil⟩ (by simp [go_sem]) rfl (by simp [go_sem]) ?_
  rintro ⟨i, H1, s1⟩ ⟨hi, hlen, hle, hb1, hg⟩
  simp only at hi hlen hle hb1 hg
  simp [go_sem]
  refine Br.forkD (fun h => ?_) (fun h => ?_)
  · have hi16 : i < 16 := by omega
    have hb1l := hb1.lt
    have rh := hb1.rdHas hi16
    have hup : tickUp n st i i = st i := tickUp_self
    simp [go_sem, h, rh, hb1l]
    cases hst : st i with
    | none =>
      have hho : hasOf (tickUp n st i) i = false := by simp [hasOf, hup, hst]
      simp [go_sem, hho]
      refine loopK_next (i + 1, _, s1) ⟨by simp only; omega, hlen, hle, ?_, ?_⟩ (by simp only; omega) rfl (by simp [go_sem]) (by simp [go_sem, wrap_succ (i := i) (by omega)])
      · simp only; rw [tickUp_succ, tickSt_none hst, upd_id (hup.trans hst)]; exact hb1
      · simp only; rw [goneL_succ, goneAt, hst]; simpa using hg
    | some x =>
      have hho : hasOf (tickUp n st i) i = true := by simp [hasOf, hup, hst]
      have hax : adOf (tickUp n st i) i = x := by simp [adOf, hup, hst]
      obtain ⟨sx, rx, hsx⟩ := hb1.rdAdv hi16
      rw [hax] at rx hsx
      unfold advC at rx
      have rx2 : rdBlk H1 b (i * 4 + 2) 1 = some [.int .i64 x.age] := by simpa using rdBlk_sub rx (i := 2) (k := 1) (by omega)
      have hag := hage i x hst
      have hw : IntKind.i64.wrap (x.age + n) = x.age + n := wrap_small (by omega) (by omega)
      obtain ⟨k1, w1, b1, q1⟩ := hb1.wrAge hSb hi16 (min 3600 (x.age + n))
      rw [hax] at b1
      have b1l := b1.lt
      have r1 : rdBlk (H1.set b k1) b (i * 4 + 2) 1 = some [.int .i64 (min 3600 (x.age + n))] := by
        obtain ⟨s', rx', _⟩ := b1.rdAdv hi16
        rw [upd_self] at rx'
        unfold advC at rx'
        simpa using rdBlk_sub rx' (i := 2) (k := 1) (by omega)
      simp [go_sem, hho]
      refine Wc.drawn mixed (by kernel_rfl) ?_
      simp [go_sem, rx2, hw, h, hb1l, w1]
      simp [go_sem, r1, hb1l, h]
      refine Br.forkD (fun g => ?_) (fun g => ?_)
      · have hge : x.age + n ≥ 3600 := by omega
        have htk : tickSt n st i = none := by unfold tickSt; rw [hst]; simp [tick1, hge]
        obtain ⟨k2, w2, b2, q2⟩ := b1.wrAdv hSb hi16 (x := zeroA) (s := .slice none 0 0) (sl_nil _)
        obtain ⟨k3, w3, b3', q3⟩ := b2.wrHas hSb hi16 false
        unfold advC zeroA at w2
        simp only at w2
        have hset : ((H1.set b k1).set b k2).set b k3 = H1.set b k3 := by simp
        rw [List.set_set] at w2 w3 b2 q2 b3' q3
        rw [List.set_set] at w3 b3' q3
        simp [go_sem]
        refine Wc.drawn mixed (by kernel_rfl) ?_
        simp [go_sem, h, hb1l, w2, w3]
        have nb : atB s1 b = false := by
          cases hq : atB s1 b
          · rfl
          · have := (hg.lt hq).1; omega
        have hg2 : GSl RInt 1 H.length (H1.set b k3) s1 (goneL n st i) := hg.frame (fun q k hq hk => by
          have : b ≠ q := fun e => by rw [← e, nb] at hq; cases hq
          rw [List.getElem?_set_ne this]; exact hk) (fun _ _ _ h => h)
        have hg3 : GSl RInt 1 H.length (newBlk (H1.set b k3) [.int .i64 i]) s1 (goneL n st i) := hg2.ext RInt.monoL (by simp [go_sem])
        refine op2_append (ys := [(i : Int)]) (l := [.int .i64 i]) hg3 RInt.monoL (by simp [newBlk_length]; omega)
          u49 z3 i3 s3 rfl (by omega) (by rw [b3]; omega) (news_one u49 rfl (by simp [go_sem])) (by simp) (by simp) ?_ (by have := goneL_len n st i; simp; omega) ?_
        · intro k y hy
          have hk0 : k = 0 := by have := (List.getElem?_eq_some_iff.1 hy).1; simp at this; omega
          subst hk0
          simp at hy
          subst hy
          rfl
        intro s' H' hg' hkeep hlt hext hat hleA
        have hle2 : Le (hide S (newBlk (H1.set b k3) [.int .i64 i])) (hide S H') := hide_le_of hleA fun q hq => hSm q (hg3.lt hq).1
        have b4 := BaseAt.ext b3' (H' := newBlk (H1.set b k3) [.int .i64 i]) (by simp [go_sem])
        have b5 := b4.keep (hkeep b (by simp [newBlk_length]; omega) nb) hle2
        simp [go_sem]
        refine loopK_next (i + 1, H', s') ⟨by simp only; omega, ?_, ?_, ?_, ?_⟩ (by simp only; omega) rfl (by simp [go_sem]) (by simp [go_sem, wrap_succ (i := i) (by omega)])
        · simp [newBlk_length] at hlt; simp only; omega
        · exact ((((hle.trans q1).trans q2).trans q3).trans (hide_ext (by simp [go_sem]))).trans hle2
        · simp only
          rw [tickUp_succ, htk, adOf_del, hasOf_del]
          have e1 : ∀ y, upd (upd (adOf (tickUp n st i)) i y) i zeroA = upd (adOf (tickUp n st i)) i zeroA := fun y => by funext j; unfold upd; split <;> rfl
          rw [← e1]; exact b5
        · simp only
          rw [goneL_succ, goneAt, hst]
          simpa [hge] using hg'
      · have hlt : ¬ x.age + n ≥ 3600 := by omega
        have htk : tickSt n st i = some { x with age := x.age + n } := by unfold tickSt; rw [hst]; simp [tick1, hlt]
        have hmin : min 3600 (x.age + n) = x.age + n := by omega
        simp [go_sem]
        have nb : atB s1 b = false := by
          cases hq : atB s1 b
          · rfl
          · have := (hg.lt hq).1; omega
        refine loopK_next (i + 1, _, s1) ⟨by simp only; omega, by simpa using hlen, hle.trans q1, ?_, ?_⟩ (by simp only; omega) rfl (by simp [go_sem]) (by simp [go_sem, wrap_succ (i := i) (by omega)])
        · simp only
          rw [tickUp_succ, htk, adOf_upd, hasOf_upd]
          have e2 : upd (hasOf (tickUp n st i)) i true = hasOf (tickUp n st i) := upd_id hho
          rw [e2]
          rw [hmin] at b1
          exact b1
        · simp only
          rw [goneL_succ, goneAt, hst]
          have : GSl RInt 1 H.length (H1.set b k1) s1 (goneL n st i) := hg.frame (fun q k hq hk => by
            have : b ≠ q := fun e => by rw [← e, nb] at hq; cases hq
            rw [List.getElem?_set_ne this]; exact hk) (fun _ _ _ h => h)
          simpa [hlt] using this
  · simp [go_sem]
    have : i = 16 := by omega
    subst this
    refine hfin H1 s1 hlen ((hle0.trans hle).trans (hle1 H1)) ?_ (hg.sl RInt.monoL)
    have hb2 := hb1.le (hle1 H1)
    obtain ⟨cells, h1, h2, h3⟩ := hb2.ex
    refine ⟨cells, h1, h2, fun j hj => ?_⟩
    have e1 : tickUp n st 16 j = tickSt n st j := by simp [tickUp, hj]
    have := h3 j hj
    simpa only [adOf, hasOf, e1] using this
end Go.Proofs.Ythifgakeababmaa.Ad
