/- Encode; what the database and the reference's lists have to do with each other. -/
import Derived.Test.YtlljiccilldnaaaAd14
set_option linter.unusedVariables false
set_option linter.unusedSimpArgs false
set_option maxRecDepth 10000
namespace Go.Proofs.Ytlljiccilldnaaa.Ad
open Go Go.Am
open Go.Proofs.Ytlljiccilldnaaa.Fx
open Go.Proofs.Ytlljiccilldnaaa.Ba (wrap_small wrap_succ sameInts_spec)
variable {H : Heap} {K : Value → Heap → Prop}

theorem gsl_str {s : Value} {m : Nat} {ns : List Int} (h : GSl RBy 1 m H s ns) (hne : ns ≠ []) : aBytesStr Try.prog H 144 9 s = some (.string (strOf ns)) := by
  obtain ⟨cells, hl, hR, h⟩ := h.ex
  rcases h with ⟨rfl, rfl⟩ | ⟨b, k, hb, rfl, _, hk, rfl, hmode, hsh⟩
  · exact absurd rfl hne
  have hc : k.cells = ns.map (Value.int .u8) := by
    apply List.ext_getElem?
    intro i
    by_cases hi : i < ns.length
    · have := hR i _ (List.getElem?_eq_getElem hi)
      unfold RBy at this
      rw [Nat.mul_one, List.drop_eq_getElem_cons (by omega), List.take_succ_cons] at this
      injection this with e _
      rw [List.getElem?_eq_getElem (by omega), e]
      simp [hi]
    · rw [List.getElem?_eq_none (by omega), List.getElem?_eq_none (by simp; omega)]
  have hr : rdBlk H b 0 ns.length = some (ns.map (Value.int .u8)) := by
    unfold rdBlk
    rw [hk]
    simp only
    rw [if_pos ⟨by rw [hmode]; simp, by omega⟩, List.drop_zero, List.take_of_length_le (by omega), hc]
  have hn0 : ns.length ≠ 0 := fun e => hne (List.length_eq_zero_iff.1 e)
  simp [aBytesStr, u144, u9, u5, hne, hr, bytesOf_map]

def encL (a : Adv) : List Int := bytesL a a.age ++ [(sums a).1, (sums a).2]

/-- 'Encode' of a valid advertisement. -/
theorem encode_spec {a : Adv} {s : Value} (hs : Sl RLk 2 H s a.links) (hf : fault a = 0) (hk : ∀ H', Ext H H' → K (.tuple #[.string (strOf (encL a)), .int .i64 0]) H') : Wcall Try.prog 107 #[advV a s] H K := by
  have hfl := fault_len hf
  obtain ⟨al, c, rfl⟩ := hs.shape
  refine call_body (rs := #[.tmp 2, .tmp 3]) Try.func107 rfl Try.ntmps107 rfl rfl (by simp) ?_
  simp [go_sem, advV, advC]
  refine check_spec (a := a) (hs.ext RLk.mono (by simp [go_sem])) fun H1 e1 => ?_
  have r1 : rdBlk H1 H.length 0 4 = some [.int .i64 a.id, .int .i64 a.seq, .int .i64 a.age, .slice al a.links.length c] := e1.rd (by simp [go_sem])
  have e01 : Ext H H1 := Ext.trans (by simp [go_sem]) e1
  simp [go_sem, hf, r1]
  refine bytes_spec (a := a) (hs.ext RLk.mono e01) (by omega) fun H2 s2 e2 g2 => ?_
  have r2 := e2.rd r1
  have r22 : rdBlk H2 H.length 2 1 = some [.int .i64 a.age] := by simpa using rdBlk_sub r2 (i := 2) (k := 1) (by omega)
  have l2 := rdBlk_lt r2
  simp [go_sem]
  refine sum_spec (g2.sl RBy.monoL) (by rw [bytesL_len]; omega) (bytesL_in a 0) ?_
  have hin := fsum_in (bytesL a 0)
  unfold In255 at hin
  simp [go_sem, r2, r22, l2]
  refine bytes_spec (a := a) (age := a.age) (hs.ext RLk.mono (e01.trans e2)) (by omega) fun H3 s3 e3 g3 => ?_
  have e03 := (e01.trans e2).trans e3
  have w1 : IntKind.u8.wrap (fsum (bytesL a 0)).1 = (fsum (bytesL a 0)).1 := by rw [wrap_u8]; omega
  have w2 : IntKind.u8.wrap (fsum (bytesL a 0)).2 = (fsum (bytesL a 0)).2 := by rw [wrap_u8]; omega
  simp [go_sem, w1, w2]
  refine op2_append (ys := [(fsum (bytesL a 0)).1, (fsum (bytesL a 0)).2]) (l := [(fsum (bytesL a 0)).1, (fsum (bytesL a 0)).2].map (Value.int .u8)) ((g3.ext RBy.monoL (H' := newBlk H3 [.int .u8 (fsum (bytesL a 0)).1, .int .u8 (fsum (bytesL a 0)).2]) (by simp [go_sem]))) RBy.monoL (by have := e3.len; simp [newBlk_length]; omega)
    u144 z5 i5 s5 rfl (by omega) (by rw [b5]; omega) (news_slice u144 rfl (by simp) (by simp [go_sem])) (by simp) (by simp) ?_ (by rw [bytesL_len]; simp; omega) ?_
  · intro j y hy
    exact rby_map hy
  intro s' H' hg' _ _ hext _ _
  have hst := gsl_str hg' (by simp)
  obtain ⟨a5, n5, rfl⟩ : ∃ a n, s' = .slice a n n := by obtain ⟨a, e⟩ := hg'.shape; exact ⟨a, _, e⟩
  simp [go_sem, hst]
  exact hk _ (hext H (by have := (e01.trans e2).len; omega) (by simp [go_sem, e03]))

/-! ### Plain laws -/
def StOk (st : Nat → Option Adv) : Prop := ∀ i x, st i = some x → fault x = 0 ∧ x.id = i
theorem stOf_ok (l : List Adv) : StOk (stOf l) := fun i x h => bestA_fault h
theorem StOk.links {st : Nat → Option Adv} (h : StOk st) (i : Nat) : (adOf st i).links.length ≤ 16 := by
  unfold adOf
  cases hi : st i with
  | none => simp [zeroA]
  | some x => exact fault_len (h i x hi).1
theorem fault_peer {a : Adv} (hf : fault a = 0) : ∀ x ∈ a.links, 0 ≤ x.1 ∧ x.1 < 16 := fun x hx => by
  have : ¬ lkBad x := fun hb => by
    rw [fault_link (fault_zero hf) (by have := fault_len hf; omega) hx hb] at hf; cases hf
  unfold lkBad at this; omega
theorem StOk.peer {st : Nat → Option Adv} (h : StOk st) : ∀ i, ∀ x ∈ (adOf st i).links, 0 ≤ x.1 ∧ x.1 < 16 := fun i x hx => by
  unfold adOf at hx
  cases hi : st i with
  | none => rw [hi] at hx; simp [zeroA] at hx
  | some y => rw [hi] at hx; exact fault_peer (h i y hi).1 x hx

theorem beats_iff {st : Nat → Option Adv} {a : Adv} (hf : fault a = 0) : (beats (st a.id.toNat) a = true) ↔ 0 < putN st a := by
  unfold beats putN
  rw [if_neg (by simp [hf])]
  cases st a.id.toNat <;> simp

/-- A 'Put' makes the state of one more. -/
theorem put_stOf (l : List Adv) (a : Adv) : putSt (stOf l) a = stOf (l ++ [a]) := by
  funext i
  unfold putSt
  have e : stOf (l ++ [a]) i = bstep i (stOf l i) a := bestA_snoc
  rw [e]
  unfold bstep
  by_cases hf : fault a = 0
  · have nb := fault_zero hf
    unfold advBad at nb
    have hb := beats_iff (st := stOf l) hf
    by_cases hi : a.id = i
    · have hi2 : a.id.toNat = i := by omega
      rw [hi2] at hb
      by_cases hp : 0 < putN (stOf l) a
      · rw [if_pos ⟨hf, hp⟩, if_pos ⟨hf, hi, hb.2 hp⟩, hi2, upd_self]
      · rw [if_neg (fun h => hp h.2), if_neg (fun h => hp (hb.1 h.2.2))]
    · have : i ≠ a.id.toNat := by omega
      by_cases hp : 0 < putN (stOf l) a
      · rw [if_pos ⟨hf, hp⟩, if_neg (fun h => hi h.2.1), upd_ne this]
      · rw [if_neg (fun h => hp h.2), if_neg (fun h => hi h.2.1)]
  · rw [if_neg (fun h => hf h.1), if_neg (fun h => hf h.1)]

def ofO {β γ : Type} (g : β → List γ) (o : Option β) : List γ := match o with
  | some y => g y
  | none => []
theorem filterMap_flatMap {α β γ : Type} (f : α → Option β) (g : β → List γ) : ∀ l : List α, (l.filterMap f).flatMap g = l.flatMap fun x => ofO g (f x)
  | [] => rfl
  | x :: l => by
    rw [List.flatMap_cons, ← filterMap_flatMap f g l]
    cases h : f x <;> simp [h, ofO]
theorem flatMap_congr' {α β : Type} {f g : α → List β} : ∀ {l : List α}, (∀ x ∈ l, f x = g x) → l.flatMap f = l.flatMap g
  | [], _ => rfl
  | x :: l, h => by rw [List.flatMap_cons, List.flatMap_cons, h x (List.mem_cons_self ..), flatMap_congr' fun y hy => h y (List.mem_cons_of_mem _ hy)]
/-- Only one place counts. -/
theorem flatMap_one {β : Type} {p : Nat} {L : List β} : ∀ n, (List.range n).flatMap (fun i => if i = p then L else []) = if p < n then L else []
  | 0 => by simp
  | n + 1 => by
    rw [List.range_succ, List.flatMap_append, flatMap_one n]
    by_cases h : p < n
    · rw [if_pos h, if_pos (by omega)]
      have : n ≠ p := by omega
      simp [this]
    · rw [if_neg h]
      by_cases h2 : n = p
      · subst h2; simp
      · rw [if_neg (by omega)]; simp [h2]

theorem peer_inc {a : Adv} (hf : fault a = 0) {i j : Nat} (hi : i < j) (hj : j < a.links.length) : a.links[i].1 < a.links[j].1 := by
  have step : ∀ k, (h : k + 1 < a.links.length) → a.links[k].1 < a.links[k + 1].1 := fun k h => by
    rcases Int.lt_or_le a.links[k].1 a.links[k + 1].1 with q | q
    · exact q
    · have hfl := fault_len hf
      have nx : ¬ ∃ x ∈ a.links, lkBad x := fun ⟨x, hx, hb⟩ => by rw [fault_link (fault_zero hf) (by omega) hx hb] at hf; cases hf
      have := fault_form (fault_zero hf) (by omega) nx (i := k + 1) h (by
        unfold lkForm
        right
        rw [peerAt_get h, Nat.add_sub_cancel, peerAt_get (by omega)]
        exact ⟨by omega, q⟩)
      rw [this] at hf; cases hf
  obtain ⟨d, rfl⟩ : ∃ d, j = i + 1 + d := ⟨j - i - 1, by omega⟩
  induction d with
  | zero => exact step i hj
  | succ d ih => exact Int.lt_trans (ih (by omega) (by omega) step) (step (i + 1 + d) hj)

theorem links_one {β : Type} {e : List β} {p : Int} : ∀ (ls : List (Int × Int)), ls.Pairwise (fun x y => x.1 < y.1) → ls.flatMap (fun y => if y.1 = p then e else []) = if peerB ls p then e else []
  | [], _ => by simp [peerB]
  | x :: ls, h => by
    rw [List.pairwise_cons] at h
    rw [List.flatMap_cons, links_one ls h.2]
    by_cases hx : x.1 = p
    · have : peerB ls p = false := by
        cases hq : peerB ls p
        · rfl
        · obtain ⟨y, hy, e⟩ := List.any_eq_true.1 hq
          have := h.1 y hy
          simp at e; omega
      rw [if_pos hx, this]
      simp [peerB, hx]
    · have : peerB (x :: ls) p = peerB ls p := by unfold peerB; rw [List.any_cons, decide_eq_false hx, Bool.false_or]
      rw [if_neg hx, this, List.nil_append]

theorem graph_eq {st : Nat → Option Adv} (h : StOk st) : graphOfL (listL st 16) = graphL st 16 := by
  unfold graphOfL graphL listL
  rw [filterMap_flatMap]
  refine flatMap_congr' fun i hi => ?_
  unfold adOf
  cases hst : st i with
  | none => simp [zeroA, edgesOf, ofO]
  | some a =>
    obtain ⟨hfa, hia⟩ := h i a hst
    show g1 _ a = _
    simp only [Option.getD_some]
    unfold g1 edgesOf
    have key : ∀ x ∈ a.links, g2 ((List.range 16).filterMap st) a x = if (namesB st i x.1 && namesB st x.1 i) = true then [((i : Int), x.1, x.2)] else [] := by
      intro x hx
      have hp := fault_peer hfa x hx
      unfold g2
      rw [filterMap_flatMap]
      have e1 : (List.range 16).flatMap (fun j => ofO (g3 a x) (st j)) = (List.range 16).flatMap (fun j => if j = x.1.toNat then (ofO (g3 a x) (st x.1.toNat)) else []) := flatMap_congr' fun j hj => by
        by_cases e : j = x.1.toNat
        · subst e; rw [if_pos rfl]
        · rw [if_neg e]
          cases hj2 : st j with
          | none => rfl
          | some y =>
            have := (h j y hj2).2
            show g3 a x y = []
            unfold g3
            rw [List.flatMap_eq_nil_iff]
            intro z _
            unfold g4
            rw [if_neg]
            intro hc; omega
      rw [e1, flatMap_one, if_pos (by omega)]
      have hn1 : namesB st i x.1 = decide (a.age < 3600) := by
        unfold namesB
        rw [show ((i : Int)).toNat = i by omega, hst]
        have : peerB a.links x.1 = true := List.any_eq_true.2 ⟨x, hx, by simp⟩
        simp [this]
      rw [hn1]
      unfold namesB
      cases hj2 : st x.1.toNat with
      | none => simp [ofO]
      | some y =>
        obtain ⟨hfy, hiy⟩ := h _ y hj2
        show g3 a x y = _
        unfold g3
        have hyx : y.id = x.1 := by omega
        have e2 : y.links.flatMap (g4 a x y) = y.links.flatMap (fun z => if z.1 = (i : Int) then (if a.age < 3600 ∧ y.age < 3600 then [((i : Int), x.1, x.2)] else []) else []) := flatMap_congr' fun z _ => by
          unfold g4
          rw [hyx, hia]
          by_cases q1 : z.1 = (i : Int) <;> by_cases q2 : a.age < 3600 <;> by_cases q3 : y.age < 3600 <;> simp [q1, q2, q3]
        rw [e2, links_one _ (List.pairwise_iff_getElem.2 fun p q hp hq hpq => peer_inc hfy hpq hq)]
        by_cases q1 : peerB y.links i = true <;> by_cases q2 : a.age < 3600 <;> by_cases q3 : y.age < 3600 <;> simp [q1, q2, q3]
    rw [flatMap_congr' key]
    generalize a.links = ls
    induction ls with
    | nil => rfl
    | cons x ls ih =>
      rw [List.flatMap_cons, ih]
      by_cases hc : (namesB st i x.1 && namesB st x.1 i) = true
      · rw [if_pos hc, List.filter_cons_of_pos (by exact hc)]; rfl
      · rw [if_neg hc, List.filter_cons_of_neg (by exact hc)]; rfl
end Go.Proofs.Ytlljiccilldnaaa.Ad
