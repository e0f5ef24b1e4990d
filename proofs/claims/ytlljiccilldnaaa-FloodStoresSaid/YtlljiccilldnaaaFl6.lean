/- New, Up, Down, In of nothing, Tick. -/
import Derived.Test.YtlljiccilldnaaaFl5
set_option linter.unusedVariables false
set_option linter.unusedSimpArgs false
set_option maxRecDepth 10000
set_option maxHeartbeats 1000000
namespace Go.Proofs.Ytlljiccilldnaaa.Fl
open Go Go.Am
open Go.Proofs.Ytlljiccilldnaaa.Fx Go.Proofs.Ytlljiccilldnaaa.Ad
open Go.Proofs.Ytlljiccilldnaaa.Ba (wrap_small wrap_succ sameInts_spec)
variable {H : Heap} {K : Value → Heap → Prop}

structure Rtr (S : Nat → Bool) (H : Heap) (r b : Nat) (id seq now : Int) (pt : Nat → Port) (st : Nat → Option Adv) : Prop where
  rt : RtAt S H r b id seq now pt
  ba : BaseAt S H b (adOf st) (hasOf st)
  cov : Cov S r b
  ne : r ≠ b
  ok : StOk st
  one : One pt
  hid : 0 ≤ id ∧ id < 16
  hseq : 0 ≤ seq ∧ seq ≤ 1073741824
  own : (st id.toNat).isSome = true
theorem Rtr.ext {S : Nat → Bool} {r b : Nat} {id seq now : Int} {pt : Nat → Port} {st : Nat → Option Adv} (h : Rtr S H r b id seq now pt st) {H' : Heap} (he : Ext H H') : Rtr S H' r b id seq now pt st :=
  ⟨h.rt.ext he, h.ba.ext he, h.cov, h.ne, h.ok, h.one, h.hid, h.hseq, h.own⟩

def pt0 : Nat → Port := fun _ => ⟨false, 0, 0, []⟩
theorem putSt_ok {st : Nat → Option Adv} (hok : StOk st) (a : Adv) : StOk (putSt st a) := by
  unfold putSt
  split
  · rename_i h
    have nb := fault_zero h.1
    unfold advBad at nb
    intro i x hx
    by_cases e : i = a.id.toNat
    · subst e
      rw [upd_self] at hx
      cases hx
      exact ⟨h.1, by omega⟩
    · rw [upd_ne e] at hx
      exact hok i x hx
  · exact hok
theorem putSt_some {st : Nat → Option Adv} {a : Adv} {i : Nat} (h : (st i).isSome = true) : (putSt st a i).isSome = true := by
  unfold putSt
  split
  · unfold upd; split
    · rfl
    · exact h
  · exact h
theorem putSt_other {st : Nat → Option Adv} {a : Adv} {i : Nat} (h : i ≠ a.id.toNat) : putSt st a i = st i := by
  unfold putSt
  split
  · exact upd_ne h
  · rfl

def isI (o : Option Value) : Bool := match o with
  | some (.int .i64 n) => n == 0
  | _ => false
def isF (o : Option Value) : Bool := match o with
  | some (.bool b) => !b
  | _ => false
def isN (o : Option Value) : Bool := match o with
  | some (.slice none 0 0) => true
  | _ => false
theorem isI_eq {o : Option Value} (h : isI o = true) : o = some (.int .i64 0) := by
  unfold isI at h
  split at h
  · simp at h; rw [h]
  · cases h
theorem isF_eq {o : Option Value} (h : isF o = true) : o = some (.bool false) := by
  unfold isF at h
  split at h
  · simp at h; rw [h]
  · cases h
theorem isN_eq {o : Option Value} (h : isN o = true) : o = some (.slice none 0 0) := by
  unfold isN at h
  split at h
  · rfl
  · cases h
theorem zs128_chk : ((List.range 8).all fun p => isF zs128[4 + p * 36]? && isI zs128[4 + p * 36 + 1]? && isI zs128[4 + p * 36 + 2]? && isN zs128[4 + p * 36 + 35]? && (List.range 16).all fun j => isI zs128[4 + p * 36 + 3 + j]? && isF zs128[4 + p * 36 + 19 + j]?) = true := by decide +kernel
theorem zs128_port {S : Nat → Bool} {H : Heap} {p : Nat} (hp : p < 8) : PortAt S H zs128 (4 + p * 36) (pt0 p) := by
  have := List.all_eq_true.1 zs128_chk p (List.mem_range.2 hp)
  simp only [Bool.and_eq_true] at this
  obtain ⟨⟨⟨⟨a, b⟩, c⟩, d⟩, e⟩ := this
  have e' := List.all_eq_true.1 e
  refine ⟨isF_eq a, isI_eq b, isI_eq c, fun j hj => ⟨0, ?_⟩, fun j hj => ⟨false, ?_⟩, _, isN_eq d, sl_nil _, by simp [pt0], fun _ => rfl⟩
  · have := e' j (List.mem_range.2 hj)
    rw [Bool.and_eq_true] at this
    exact isI_eq this.1
  · have := e' j (List.mem_range.2 hj)
    rw [Bool.and_eq_true] at this
    exact isF_eq this.2

theorem pt0_one : One pt0 := fun p q _ _ h => by simp [pt0] at h
theorem fault_self {id : Int} (hid : 0 ≤ id ∧ id < 16) : fault ⟨id, 1, 0, []⟩ = 0 := by
  refine fault_ok ?_ (by simp) (by simp) (fun i hi => by simp at hi)
  unfold advBad; simp; omega

theorem new_spec' {id : Int} (hid : 0 ≤ id ∧ id < 16) (hk : ∀ H' r b, H.length ≤ r → H.length ≤ b → Le H (hide (two r b) H') → Rtr (two r b) H' r b id 1 0 pt0 (putSt (fun _ => none) ⟨id, 1, 0, []⟩) → K (.tuple #[.pointer (some ⟨r, 0, none⟩), .int .i64 0]) H') : Wcall Try.prog 38 #[.int .i64 id] H K := by
  refine call_body (rs := #[.tmp 2, .tmp 3]) Try.func38 rfl Try.ntmps38 rfl rfl (by simp) ?_
  have d1 : ¬ id < 0 := by omega
  have d2 : ¬ 16 ≤ id := by omega
  simp [go_sem, d1, d2]
  refine new_spec fun H1 e1 hb1 => ?_
  simp [go_sem, zs128_len]
  generalize hN : Value.int IntKind.i64 id :: (List.take 2 zs128.tail ++ Value.pointer (some { block := H.length, off := 0 }) :: List.drop 4 zs128) = N
  have hNl : N.length = 292 := by rw [← hN]; simp [zs128_len]
  have hN4 : ∀ j, 4 ≤ j → N[j]? = zs128[j]? := fun j hj => by
    rw [← hN]
    obtain ⟨q, rfl⟩ : ∃ q, j = q + 4 := ⟨j - 4, by omega⟩
    rw [List.getElem?_cons_succ, List.getElem?_append_right (by simp; omega)]
    have e : (List.take 2 zs128.tail).length = 2 := by simp [zs128_len]
    rw [e, show q + 3 - 2 = q + 1 by omega, List.getElem?_cons_succ, List.getElem?_drop]
    congr 1; omega
  have hg : (newBlk H1 N)[H1.length]? = some ⟨N, 0, true, .live⟩ := get_new _ _
  have hrt : RtAt (two H1.length H.length) (newBlk H1 N) H1.length H.length id 0 0 pt0 := by
    refine ⟨N, hg, hNl, by rw [← hN]; rfl, by rw [← hN]; rfl, by rw [← hN]; rfl, by rw [← hN]; rfl, fun p hp => ?_⟩
    have z := zs128_port (S := two H1.length H.length) (H := newBlk H1 N) hp
    obtain ⟨s, a1, a2, a3⟩ := z.ak
    exact ⟨by rw [hN4 _ (by omega)]; exact z.up, by rw [hN4 _ (by omega)]; exact z.peer, by rw [hN4 _ (by omega)]; exact z.cost, fun j hj => by rw [hN4 _ (by omega)]; exact z.wait j hj, fun j hj => by rw [hN4 _ (by omega)]; exact z.send j hj, s, by rw [hN4 _ (by omega)]; exact a1, a2, a3⟩
  have e12 : Ext H1 (newBlk H1 N) := by simp [go_sem]
  have hb1l := BaseAt.lt hb1
  have hne : H1.length ≠ H.length := by omega
  have hba : BaseAt (two H1.length H.length) (newBlk H1 N) H.length (adOf fun _ => none) (hasOf fun _ => none) := by
    refine BaseAt.ext (BaseAt.le hb1 (hide_le_hide (Nat.le_refl _) fun q k hq => ⟨k, hq, ?_⟩)) e12
    have hql := (List.getElem?_eq_some_iff.1 hq).1
    cases hc : one H.length q
    · refine .inr ⟨?_, .refl _⟩
      simp [one] at hc
      simp [two, hc]; omega
    · exact .inl ⟨rfl, rfl, rfl⟩
  refine ownR_spec hrt hba cov_two (fun q hq => by simp [two] at hq; simp [newBlk_length]; omega) hne (fun i x h => by cases h) pt0_one hid (by omega) fun H2 l2 le2 h2 hb2 => ?_
  simp [go_sem]
  refine hk H2 _ _ (by have := e1.len; omega) (Nat.le_refl _) ?_ ⟨h2, hb2, cov_two, hne, putSt_ok (fun i x h => by cases h) _, pt0_one, hid, by simp [seqUp], ?_⟩
  · refine Le.trans (Ext.hide (e1.trans e12) (fun q hq => ?_)) (le2 _ cov_two)
    have := e1.len
    simp [two] at hq; omega
  · have hf := fault_self hid
    unfold putSt
    rw [if_pos ⟨by exact hf, by rw [putN_none (by exact hf) rfl]; omega⟩, upd_self]
    rfl
end Go.Proofs.Ytlljiccilldnaaa.Fl
