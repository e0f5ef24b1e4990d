/- The database of advertisements in memory; New and Put. -/
import Derived.Test.YtlljiccilldnaaaAd5
set_option linter.unusedVariables false
set_option linter.unusedSimpArgs false
set_option maxRecDepth 10000
namespace Go.Proofs.Ytlljiccilldnaaa.Ad
open Go Go.Am
open Go.Proofs.Ytlljiccilldnaaa.Fx
open Go.Proofs.Ytlljiccilldnaaa.Ba (wrap_small wrap_succ sameInts_spec)
variable {H : Heap} {K : Value → Heap → Prop}

def upd {α : Type} (f : Nat → α) (i : Nat) (x : α) : Nat → α := fun j => if j = i then x else f j
theorem upd_self {α : Type} {f : Nat → α} {i : Nat} {x : α} : upd f i x i = x := by simp [upd]
theorem upd_ne {α : Type} {f : Nat → α} {i j : Nat} {x : α} (h : j ≠ i) : upd f i x j = f j := by simp [upd, h]

/-- A piece of a list is put in another's place. -/
theorem splice_get {α : Type} {cells vs : List α} {off : Nat} (h : off + vs.length ≤ cells.length) (j : Nat) : (cells.take off ++ vs ++ cells.drop (off + vs.length))[j]? = if off ≤ j ∧ j < off + vs.length then vs[j - off]? else cells[j]? := by
  have hl : (cells.take off).length = off := by simp; omega
  rw [List.append_assoc]
  by_cases h1 : j < off
  · rw [List.getElem?_append_left (by omega), List.getElem?_take, if_pos h1, if_neg (by omega)]
  · rw [List.getElem?_append_right (by omega), hl]
    by_cases h2 : j < off + vs.length
    · rw [if_pos ⟨by omega, h2⟩, List.getElem?_append_left (by omega)]
    · rw [if_neg (by omega), List.getElem?_append_right (by omega), List.getElem?_drop]
      congr 1; omega
theorem splice_same {α : Type} {cells vs : List α} {off n : Nat} (h : off + vs.length ≤ cells.length) (hn : n = vs.length) : ((cells.take off ++ vs ++ cells.drop (off + vs.length)).drop off).take n = vs := by
  subst hn
  apply List.ext_getElem?
  intro j
  rw [List.getElem?_take]
  split
  · rw [List.getElem?_drop, splice_get h, if_pos (by omega)]; congr 1; omega
  · rw [List.getElem?_eq_none (by omega)]
theorem splice_other {α : Type} {cells vs : List α} {off o m : Nat} (h : off + vs.length ≤ cells.length) (ho : o + m ≤ off ∨ off + vs.length ≤ o) : ((cells.take off ++ vs ++ cells.drop (off + vs.length)).drop o).take m = (cells.drop o).take m := by
  apply List.ext_getElem?
  intro j
  rw [List.getElem?_take, List.getElem?_take]
  split
  · rw [List.getElem?_drop, splice_get h, if_neg (by omega), List.getElem?_drop]
  · rfl
theorem splice_len {α : Type} {cells vs : List α} {off : Nat} (h : off + vs.length ≤ cells.length) : (cells.take off ++ vs ++ cells.drop (off + vs.length)).length = cells.length := by simp; omega

structure BaseAt (S : Nat → Bool) (H : Heap) (b : Nat) (ad : Nat → Adv) (has : Nat → Bool) : Prop where
  ex : ∃ cells : List Value, H[b]? = some ⟨cells, 0, true, .live⟩ ∧ cells.length = 80 ∧ ∀ i, i < 16 → RAdv (hide S H) (ad i) ((cells.drop (i * 4)).take 4) ∧ (cells.drop (64 + i)).take 1 = [.bool (has i)]
section
variable {S : Nat → Bool} {b : Nat} {ad : Nat → Adv} {has : Nat → Bool}
theorem BaseAt.lt (h : BaseAt S H b ad has) : b < H.length := by obtain ⟨cells, h1, _⟩ := h.ex; exact (List.getElem?_eq_some_iff.1 h1).1
theorem BaseAt.ext (h : BaseAt S H b ad has) {H' : Heap} (he : Ext H H') : BaseAt S H' b ad has := by
  obtain ⟨cells, h1, h2, h3⟩ := h.ex
  exact ⟨cells, he.at h1, h2, fun i hi => ⟨RAdv.monoL _ _ _ _ (hide_ext he) (h3 i hi).1, (h3 i hi).2⟩⟩
theorem BaseAt.le (h : BaseAt S H b ad has) {S' : Nat → Bool} (hl : Le (hide S H) (hide S' H)) : BaseAt S' H b ad has := by
  obtain ⟨cells, h1, h2, h3⟩ := h.ex
  exact ⟨cells, h1, h2, fun i hi => ⟨RAdv.monoL _ _ _ _ hl (h3 i hi).1, (h3 i hi).2⟩⟩
theorem BaseAt.rdHas (h : BaseAt S H b ad has) {i : Nat} (hi : i < 16) : rdBlk H b (64 + i) 1 = some [.bool (has i)] := by
  obtain ⟨cells, h1, h2, h3⟩ := h.ex
  rw [rd_at h1 (by omega), (h3 i hi).2]
theorem BaseAt.rdAdv (h : BaseAt S H b ad has) {i : Nat} (hi : i < 16) : ∃ s, rdBlk H b (i * 4) 4 = some (advC (ad i) s) ∧ Sl RLk 2 (hide S H) s (ad i).links := by
  obtain ⟨cells, h1, h2, h3⟩ := h.ex
  obtain ⟨s, e, hs⟩ := (h3 i hi).1
  exact ⟨s, by rw [rd_at h1 (by omega), e], hs⟩
theorem BaseAt.wrAdv (h : BaseAt S H b ad has) (hS : S b = true) {i : Nat} (hi : i < 16) {x : Adv} {s : Value} (hs : Sl RLk 2 (hide S H) s x.links) : ∃ k, wrBlk H b (i * 4) (advC x s) = some (H.set b k) ∧ BaseAt S (H.set b k) b (upd ad i x) has ∧ ∀ S' : Nat → Bool, S' b = true → Le (hide S' H) (hide S' (H.set b k)) := by
  obtain ⟨cells, h1, h2, h3⟩ := h.ex
  have hle : i * 4 + (advC x s).length ≤ cells.length := by simp [advC]; omega
  have hl0 : ∀ S' : Nat → Bool, S' b = true → Le (hide S' H) (hide S' (H.set b ⟨cells.take (i * 4) ++ advC x s ++ cells.drop (i * 4 + (advC x s).length), 0, true, .live⟩)) := fun S' hS' => hide_set hS' h1 rfl rfl
  have hl := hl0 S hS
  refine ⟨_, wr_at h1 hle, ⟨_, List.getElem?_set_self h.lt, by rw [splice_len hle]; exact h2, fun j hj => ⟨?_, ?_⟩⟩, hl0⟩
  · by_cases e : j = i
    · subst e
      rw [upd_self, splice_same hle (n := 4) rfl]
      exact ⟨s, rfl, hs.le RLk.monoL hl⟩
    · rw [upd_ne e, splice_other hle (by simp [advC]; omega)]
      exact RAdv.monoL _ _ _ _ hl (h3 j hj).1
  · rw [splice_other hle (by simp [advC]; omega)]
    exact (h3 j hj).2
theorem BaseAt.wrHas (h : BaseAt S H b ad has) (hS : S b = true) {i : Nat} (hi : i < 16) (v : Bool) : ∃ k, wrBlk H b (64 + i) [.bool v] = some (H.set b k) ∧ BaseAt S (H.set b k) b ad (upd has i v) ∧ ∀ S' : Nat → Bool, S' b = true → Le (hide S' H) (hide S' (H.set b k)) := by
  obtain ⟨cells, h1, h2, h3⟩ := h.ex
  have hle : 64 + i + [Value.bool v].length ≤ cells.length := by simp; omega
  have hl0 : ∀ S' : Nat → Bool, S' b = true → Le (hide S' H) (hide S' (H.set b ⟨cells.take (64 + i) ++ [Value.bool v] ++ cells.drop (64 + i + [Value.bool v].length), 0, true, .live⟩)) := fun S' hS' => hide_set hS' h1 rfl rfl
  have hl := hl0 S hS
  refine ⟨_, wr_at h1 hle, ⟨_, List.getElem?_set_self h.lt, by rw [splice_len hle]; exact h2, fun j hj => ⟨?_, ?_⟩⟩, hl0⟩
  · rw [splice_other hle (by simp; omega)]
    exact RAdv.monoL _ _ _ _ hl (h3 j hj).1
  · by_cases e : j = i
    · subst e
      rw [upd_self, splice_same hle (n := 1) rfl]
    · rw [upd_ne e, splice_other hle (by simp; omega)]
      exact (h3 j hj).2
theorem BaseAt.wrAge (h : BaseAt S H b ad has) (hS : S b = true) {i : Nat} (hi : i < 16) (v : Int) : ∃ k, wrBlk H b (i * 4 + 2) [.int .i64 v] = some (H.set b k) ∧ BaseAt S (H.set b k) b (upd ad i { ad i with age := v }) has ∧ ∀ S' : Nat → Bool, S' b = true → Le (hide S' H) (hide S' (H.set b k)) := by
  obtain ⟨cells, h1, h2, h3⟩ := h.ex
  have hle : i * 4 + 2 + [Value.int .i64 v].length ≤ cells.length := by simp; omega
  have hl0 : ∀ S' : Nat → Bool, S' b = true → Le (hide S' H) (hide S' (H.set b ⟨cells.take (i * 4 + 2) ++ [Value.int .i64 v] ++ cells.drop (i * 4 + 2 + [Value.int .i64 v].length), 0, true, .live⟩)) := fun S' hS' => hide_set hS' h1 rfl rfl
  have hl := hl0 S hS
  refine ⟨_, wr_at h1 hle, ⟨_, List.getElem?_set_self h.lt, by rw [splice_len hle]; exact h2, fun j hj => ⟨?_, ?_⟩⟩, hl0⟩
  · by_cases e : j = i
    · subst e
      rw [upd_self]
      obtain ⟨s, e1, hs⟩ := (h3 j hj).1
      refine ⟨s, ?_, hs.le RLk.monoL hl⟩
      have g : ∀ m, m < 4 → cells[j * 4 + m]? = (advC (ad j) s)[m]? := fun m hm => by
        rw [← e1, List.getElem?_take, if_pos hm, List.getElem?_drop]
      apply List.ext_getElem?
      intro m
      rw [List.getElem?_take]
      split
      · rename_i hm
        rw [List.getElem?_drop, splice_get hle]
        match m, hm with
        | 0, _ => rw [if_neg (by omega), g 0 (by omega)]; rfl
        | 1, _ => rw [if_neg (by omega), g 1 (by omega)]; rfl
        | 2, _ => rw [if_pos (by simp), Nat.sub_self]; rfl
        | 3, _ => rw [if_neg (by simp), g 3 (by omega)]; rfl
      · rw [List.getElem?_eq_none (by simp [advC]; omega)]
    · rw [upd_ne e, splice_other hle (by simp; omega)]
      exact RAdv.monoL _ _ _ _ hl (h3 j hj).1
  · rw [splice_other hle (by simp; omega)]
    exact (h3 j hj).2
end

def zeroA : Adv := ⟨0, 0, 0, []⟩
def adOf (st : Nat → Option Adv) : Nat → Adv := fun i => (st i).getD zeroA
def hasOf (st : Nat → Option Adv) : Nat → Bool := fun i => (st i).isSome
/-- The database holds these advertisements. -/
def BaseSt (H : Heap) (b : Nat) (st : Nat → Option Adv) : Prop := BaseAt (one b) H b (adOf st) (hasOf st)
theorem adOf_upd {st : Nat → Option Adv} {i : Nat} {x : Adv} : adOf (upd st i (some x)) = upd (adOf st) i x := by
  funext j; unfold adOf upd; split <;> rfl
theorem hasOf_upd {st : Nat → Option Adv} {i : Nat} {x : Adv} : hasOf (upd st i (some x)) = upd (hasOf st) i true := by
  funext j; unfold hasOf upd; split <;> rfl
theorem adOf_del {st : Nat → Option Adv} {i : Nat} : adOf (upd st i none) = upd (adOf st) i zeroA := by
  funext j; unfold adOf upd; split <;> rfl
theorem hasOf_del {st : Nat → Option Adv} {i : Nat} : hasOf (upd st i none) = upd (hasOf st) i false := by
  funext j; unfold hasOf upd; split <;> rfl

def putN (st : Nat → Option Adv) (a : Adv) : Int := if fault a ≠ 0 then 0 else match st a.id.toNat with
  | none => 1
  | some x => newerZ a x
def putSt (st : Nat → Option Adv) (a : Adv) : Nat → Option Adv := if fault a = 0 ∧ 0 < putN st a then upd st a.id.toNat (some a) else st

theorem fault_zero {a : Adv} (h : fault a = 0) : ¬ advBad a := fun hb => by rw [fault_bad hb] at h; cases h

theorem fault_len {a : Adv} (hf : fault a = 0) : a.links.length ≤ 16 := by
  rcases Nat.lt_or_ge 16 a.links.length with h | h
  · rw [fault_large (fault_zero hf) h] at hf; cases hf
  · exact h
theorem putN_bad {st : Nat → Option Adv} {a : Adv} (h : fault a ≠ 0) : putN st a = 0 := by unfold putN; rw [if_pos h]
theorem putN_none {st : Nat → Option Adv} {a : Adv} (h : fault a = 0) (h2 : st a.id.toNat = none) : putN st a = 1 := by unfold putN; rw [if_neg (by simp [h]), h2]
theorem putN_some {st : Nat → Option Adv} {a x : Adv} (h : fault a = 0) (h2 : st a.id.toNat = some x) : putN st a = newerZ a x := by unfold putN; rw [if_neg (by simp [h]), h2]

theorem keepS_set2 {S : Nat → Prop} {b : Nat} {k k' : Blk} (h : ¬ S b) : KeepS S (H.set b k) (H.set b k') := fun c hc _ => by
  have hne : b ≠ c := fun e => h (by rw [e]; exact hc)
  rw [List.getElem?_set_ne hne, List.getElem?_set_ne hne]
theorem KT {v v' : Value} {H' : Heap} (h : K v H') (e : v = v') : K v' H' := e ▸ h

theorem zs163_adv : ∀ {i : Nat}, i < 16 → (zs163.drop (i * 4)).take 4 = advC zeroA (.slice none 0 0)
  | 0, _ => rfl
  | 1, _ => rfl
  | 2, _ => rfl
  | 3, _ => rfl
  | 4, _ => rfl
  | 5, _ => rfl
  | 6, _ => rfl
  | 7, _ => rfl
  | 8, _ => rfl
  | 9, _ => rfl
  | 10, _ => rfl
  | 11, _ => rfl
  | 12, _ => rfl
  | 13, _ => rfl
  | 14, _ => rfl
  | 15, _ => rfl
  | i + 16, h => absurd h (by omega)
theorem zs163_has : ∀ {i : Nat}, i < 16 → (zs163.drop (64 + i)).take 1 = [.bool false]
  | 0, _ => rfl
  | 1, _ => rfl
  | 2, _ => rfl
  | 3, _ => rfl
  | 4, _ => rfl
  | 5, _ => rfl
  | 6, _ => rfl
  | 7, _ => rfl
  | 8, _ => rfl
  | 9, _ => rfl
  | 10, _ => rfl
  | 11, _ => rfl
  | 12, _ => rfl
  | 13, _ => rfl
  | 14, _ => rfl
  | 15, _ => rfl
  | i + 16, h => absurd h (by omega)

/-- 'New'. -/
theorem new_spec (hk : ∀ H', Ext H H' → BaseSt H' H.length (fun _ => none) → K (.pointer (some ⟨H.length, 0, none⟩)) H') : Wcall Try.prog 75 #[] H K := by
  refine call_body (rs := #[.tmp 0]) Try.func75 rfl Try.ntmps75 rfl rfl (by simp) ?_
  simp [go_sem]
  exact hk _ (by simp [go_sem]) ⟨_, get_new _ _, zs163_len, fun i hi => ⟨⟨.slice none 0 0, zs163_adv hi, none, 0, rfl, Nat.le_refl _, fun _ => rfl, fun ad h => (by cases h)⟩, zs163_has hi⟩⟩


/-- 'Put'. -/
theorem put_specS {S : Nat → Bool} {b : Nat} {st : Nat → Option Adv} {a : Adv} {s : Value} (hS : S b = true) (hSl : ∀ i, S i = true → i < H.length) (hb : BaseAt S H b (adOf st) (hasOf st)) (hs : Sl RLk 2 (hide S H) s a.links) (hls : ∀ i, (adOf st i).links.length < 1000000)
    (hk : ∀ H', H.length ≤ H'.length → Le (hide (one b) H) (hide (one b) H') → BaseAt S H' b (adOf (putSt st a)) (hasOf (putSt st a)) → K (.tuple #[.int .i64 (putN st a), .int .i64 (fault a)]) H') : Wcall Try.prog 104 #[.pointer (some ⟨b, 0, none⟩), advV a s] H K := by
  have hsH : Sl RLk 2 H s a.links := hs.le RLk.monoL hide_le
  obtain ⟨al, c, rfl⟩ := hs.shape
  have hbl := BaseAt.lt hb
  refine call_body (rs := #[.tmp 4, .tmp 5]) Try.func104 rfl Try.ntmps104 rfl rfl (by simp) ?_
  simp [go_sem, advV, advC]
  refine check_spec (a := a) (hsH.ext RLk.mono (by simp [go_sem])) fun H1 e1 => ?_
  have e01 : Ext H H1 := by refine Ext.trans ?_ e1; simp [go_sem]
  have r0 : rdBlk H1 H.length 0 4 = some [.int .i64 a.id, .int .i64 a.seq, .int .i64 a.age, .slice al a.links.length c] := e1.rd (by simp [go_sem])
  have r01 : rdBlk H1 H.length 0 1 = some [.int .i64 a.id] := by simpa using rdBlk_sub r0 (i := 0) (k := 1) (by omega)
  have l0 : H.length < H1.length := rdBlk_lt r0
  have hb1 : BaseAt S H1 b (adOf st) (hasOf st) := BaseAt.ext hb e01
  simp [go_sem]
  refine Br.forkN (fun hf => ?_) (fun hf => ?_)
  · simp [go_sem]
    have := hk H1 e01.len (hide_ext e01) (by rw [putSt, if_neg (fun h => hf h.1)]; exact hb1)
    rw [putN_bad hf] at this
    exact this
  have nb := fault_zero hf
  have hl : a.links.length < 1000000 := by have := fault_len hf; omega
  have hid : 0 ≤ a.id ∧ a.id < 16 := by unfold advBad at nb; omega
  obtain ⟨n, hn⟩ : ∃ n : Nat, a.id = n := ⟨a.id.toNat, by omega⟩
  have hn16 : n < 16 := by omega
  have hnt : a.id.toNat = n := by omega
  have rh := BaseAt.rdHas hb1 hn16
  simp [go_sem]
  refine Wc.drawn mixed (by kernel_rfl) ?_
  simp [go_sem, r01, hid, hnt, rh]
  cases hst : st n with
  | none =>
    have hpn : putN st a = 1 := putN_none hf (by rw [hnt]; exact hst)
    simp [go_sem, hasOf, hst]
    have r02 : rdBlk H1 H.length 0 4 = some [.int .i64 a.id, .int .i64 a.seq, .int .i64 a.age, .slice al a.links.length c] := (Ext.refl H1).rd r0
    have r03 : rdBlk H1 H.length 0 1 = some [.int .i64 a.id] := (Ext.refl H1).rd r01
    refine Wc.drawnS (fun c => c = H.length) mixed (by kernel_rfl) ?_
    simp [go_sem, r03, r02]
    refine own_spec (a := a) (hsH.ext RLk.mono (e01.trans (Ext.refl H1))) hl fun H3 s3 e3 hs3 => ?_
    obtain ⟨a3, c3, hs3v⟩ := (hs3 (fun _ => false) (by simp)).shape
    have e13 := (Ext.refl H1).trans e3
    have hb3 := BaseAt.ext hb1 e13
    obtain ⟨k1, w1, b1, q1⟩ := BaseAt.wrAdv hb3 hS hn16 (x := a) (s := s3) (hs3 S (fun i hi => by have := hSl i hi; have := e01.len; have := (Ext.refl H1).len; omega))
    obtain ⟨k2, w2, b2, q2⟩ := BaseAt.wrHas b1 hS hn16 true
    subst hs3v
    unfold advC at w1
    have hlb : b < (H3.set b k1).length := b1.lt
    have hlb2 : b < H3.length := hb3.lt
    rw [List.set_set] at b2 q2
    have hlh : H.length < H3.length := by have := e13.len; omega
    have hps : 0 < putN st a → putSt st a = upd st n (some a) := fun h => by rw [putSt, if_pos ⟨hf, h⟩, hnt]
    have fin := hk (H3.set b k2) (by simp; omega) (((hide_ext (e01.trans e13)).trans (q1 (one b) (by simp [one]))).trans (q2 (one b) (by simp [one]))) (by rw [hps (by omega)]; rw [adOf_upd, hasOf_upd]; exact b2)
    simp [go_sem, advV, advC, keepS_ext e3, hid, hnt, w1, w2, hlb2]
    refine ⟨keepS_set (by omega), keepS_set2 (by omega), ?_⟩
    rw [hf] at fin
    rw [hpn] at fin
    exact fin
  | some x =>
    have hpn : putN st a = newerZ a x := putN_some hf (by rw [hnt]; exact hst)
    have hax : adOf st n = x := by simp [adOf, hst]
    obtain ⟨sx, rx, hsx⟩ := BaseAt.rdAdv hb1 hn16
    rw [hax] at rx hsx
    unfold advC at rx
    have hlx := hls n
    rw [hax] at hlx
    simp [go_sem, hasOf, hst]
    refine Wc.drawn mixed (by kernel_rfl) ?_
    simp [go_sem, r01, r0, hid, hnt, rx]
    refine newer_spec (a := a) (b := x) (hsH.ext RLk.mono e01) (hsx.le RLk.monoL hide_le) hl hlx fun H2 e2 => ?_
    simp [go_sem]
    refine Br.forkD (fun hp => ?_) (fun hp => ?_)
    · simp [go_sem]
      have r02 : rdBlk H2 H.length 0 4 = some [.int .i64 a.id, .int .i64 a.seq, .int .i64 a.age, .slice al a.links.length c] := e2.rd r0
      have r03 : rdBlk H2 H.length 0 1 = some [.int .i64 a.id] := e2.rd r01
      refine Wc.drawnS (fun c => c = H.length) mixed (by kernel_rfl) ?_
      simp [go_sem, r03, r02]
      refine own_spec (a := a) (hsH.ext RLk.mono (e01.trans e2)) hl fun H3 s3 e3 hs3 => ?_
      obtain ⟨a3, c3, hs3v⟩ := (hs3 (fun _ => false) (by simp)).shape
      have e13 := e2.trans e3
      have hb3 := BaseAt.ext hb1 e13
      obtain ⟨k1, w1, b1, q1⟩ := BaseAt.wrAdv hb3 hS hn16 (x := a) (s := s3) (hs3 S (fun i hi => by have := hSl i hi; have := e01.len; have := e2.len; omega))
      obtain ⟨k2, w2, b2, q2⟩ := BaseAt.wrHas b1 hS hn16 true
      subst hs3v
      unfold advC at w1
      have hlb : b < (H3.set b k1).length := b1.lt
      have hlb2 : b < H3.length := hb3.lt
      rw [List.set_set] at b2 q2
      have hlh : H.length < H3.length := by have := e13.len; omega
      have hps : 0 < putN st a → putSt st a = upd st n (some a) := fun h => by rw [putSt, if_pos ⟨hf, h⟩, hnt]
      have fin := hk (H3.set b k2) (by simp; omega) (((hide_ext (e01.trans e13)).trans (q1 (one b) (by simp [one]))).trans (q2 (one b) (by simp [one]))) (by rw [hps (by omega)]; rw [adOf_upd, hasOf_upd]; exact b2)
      simp [go_sem, advV, advC, keepS_ext e3, hid, hnt, w1, w2, hlb2]
      refine ⟨keepS_set (by omega), keepS_set2 (by omega), ?_⟩
      rw [hf] at fin
      rw [hpn] at fin
      exact fin
    · simp [go_sem]
      have := hk H2 (by have := e01.len; have := e2.len; omega) (hide_ext (e01.trans e2)) (by rw [putSt, if_neg (by omega)]; exact BaseAt.ext hb1 e2)
      rw [hpn, hf] at this
      exact this

/-- 'Put', where only the database is hidden. -/
theorem put_spec {b : Nat} {st : Nat → Option Adv} {a : Adv} {s : Value} (hb : BaseSt H b st) (hs : Sl RLk 2 (hide (one b) H) s a.links) (hls : ∀ i, (adOf st i).links.length < 1000000)
    (hk : ∀ H', H.length ≤ H'.length → Le (hide (one b) H) (hide (one b) H') → BaseSt H' b (putSt st a) → K (.tuple #[.int .i64 (putN st a), .int .i64 (fault a)]) H') : Wcall Try.prog 104 #[.pointer (some ⟨b, 0, none⟩), advV a s] H K :=
  put_specS (S := one b) (by simp [one]) (fun i hi => by have := BaseAt.lt hb; simp [one] at hi; omega) hb hs hls hk
end Go.Proofs.Ytlljiccilldnaaa.Ad
