/- Advertisements: what is wrong with one: the program's answer and the reference's. -/
import Derived.Test.YtlljiccilldnaaaAm19
import Derived.Test.YtlljiccilldnaaaBa1
import Derived.Test.YtlljiccilldnaaaFxFlood
set_option linter.unusedVariables false
set_option linter.unusedSimpArgs false
set_option maxRecDepth 10000
namespace Go.Proofs.Ytlljiccilldnaaa.Ad
open Go Go.Am
open Go.Proofs.Ytlljiccilldnaaa.Fx
open Go.Proofs.Ytlljiccilldnaaa.Ba (wrap_small wrap_succ sameInts_spec)
variable {H : Heap} {K : Value → Heap → Prop}

theorem KI {k : IntKind} {b b' : Int} {H' : Heap} (h : K (.int k b) H') (e : b = b') : K (.int k b') H' := e ▸ h

/-- An advertisement. -/
structure Adv where
  id : Int
  seq : Int
  age : Int
  links : List (Int × Int)
  deriving DecidableEq

def RLk (H : Heap) (x : Int × Int) (cells : List Value) : Prop := cells = [.int .i64 x.1, .int .i64 x.2]
theorem RLk.monoL : MonoL RLk := fun _ _ _ _ _ h => h
theorem RLk.mono : Mono RLk := RLk.monoL.mono
def advC (a : Adv) (s : Value) : List Value := [.int .i64 a.id, .int .i64 a.seq, .int .i64 a.age, s]
def advV (a : Adv) (s : Value) : Value := .agg (advC a s).toArray
def RAdv (H : Heap) (a : Adv) (cells : List Value) : Prop := ∃ s, cells = advC a s ∧ Sl RLk 2 H s a.links
theorem RAdv.monoL : MonoL RAdv := fun _ _ _ _ hl ⟨s, h, hs⟩ => ⟨s, h, hs.le RLk.monoL hl⟩
theorem RAdv.mono : Mono RAdv := RAdv.monoL.mono

def lkBad (x : Int × Int) : Prop := x.1 < 0 ∨ x.1 > 15 ∨ x.2 < 1 ∨ x.2 > 65535
instance (x : Int × Int) : Decidable (lkBad x) := by unfold lkBad; infer_instance
def advBad (a : Adv) : Prop := a.id < 0 ∨ a.id > 15 ∨ a.seq < 1 ∨ a.seq > 1073741824 ∨ a.age < 0 ∨ a.age > 3600
instance (x : Adv) : Decidable (advBad x) := by unfold advBad; infer_instance
def peerAt (a : Adv) (i : Nat) : Int := (a.links.getD i (0, 0)).1
def lkForm (a : Adv) (i : Nat) : Prop := peerAt a i = a.id ∨ (0 < i ∧ peerAt a i ≤ peerAt a (i - 1))
instance (x : Adv) (i : Nat) : Decidable (lkForm x i) := by unfold lkForm; infer_instance
def fault (a : Adv) : Int := if advBad a then 10 else if 16 < a.links.length then 2 else if ∃ x ∈ a.links, lkBad x then 10 else if ∃ i ∈ List.range a.links.length, lkForm a i then 3 else 0

theorem fault_bad {a : Adv} (h : advBad a) : fault a = 10 := by unfold fault; rw [if_pos h]
theorem fault_large {a : Adv} (h : ¬ advBad a) (h2 : 16 < a.links.length) : fault a = 2 := by unfold fault; rw [if_neg h, if_pos h2]
theorem fault_link {a : Adv} (h : ¬ advBad a) (h2 : ¬ 16 < a.links.length) {x : Int × Int} (hx : x ∈ a.links) (hb : lkBad x) : fault a = 10 := by
  unfold fault; rw [if_neg h, if_neg h2, if_pos ⟨x, hx, hb⟩]
theorem fault_form {a : Adv} (h : ¬ advBad a) (h2 : ¬ 16 < a.links.length) (h3 : ¬ ∃ x ∈ a.links, lkBad x) {i : Nat} (hi : i < a.links.length) (hb : lkForm a i) : fault a = 3 := by
  unfold fault; rw [if_neg h, if_neg h2, if_neg h3, if_pos ⟨i, List.mem_range.2 hi, hb⟩]
theorem fault_ok {a : Adv} (h : ¬ advBad a) (h2 : ¬ 16 < a.links.length) (h3 : ¬ ∃ x ∈ a.links, lkBad x) (h4 : ∀ i, i < a.links.length → ¬ lkForm a i) : fault a = 0 := by
  unfold fault; rw [if_neg h, if_neg h2, if_neg h3, if_neg]
  rintro ⟨i, hi, hb⟩
  exact h4 i (List.mem_range.1 hi) hb
theorem peerAt_get {a : Adv} {i : Nat} (h : i < a.links.length) : peerAt a i = a.links[i].1 := by
  unfold peerAt; rw [List.getD_eq_getElem?_getD, List.getElem?_eq_getElem h]; rfl

theorem no_bad {l : List (Int × Int)} (h : ∀ j (h : j < l.length), ¬ lkBad l[j]) : ¬ ∃ x ∈ l, lkBad x := by
  rintro ⟨x, hx, hb⟩
  obtain ⟨j, hj, rfl⟩ := List.getElem_of_mem hx
  exact h j hj hb

/-- 'AdvFault'. -/
theorem advFault_spec {a : Adv} {s : Value} (hs : Sl RLk 2 H s a.links) (hk : ∀ H', Ext H H' → K (.int .i64 (fault a)) H') : Wcall Try.prog 41 #[advV a s] H K := by
  obtain ⟨al, c, rfl⟩ := hs.shape
  refine call_body (rs := #[.tmp 2]) Try.func41 rfl Try.ntmps41 rfl rfl (by simp) ?_
  simp [go_sem, advV, advC]
  refine Gd.forkN (fun d1 => ?_) (fun d1 => ?_)
  rotate_left
  · simp [go_sem, d1]
    exact KI (hk _ (by simp [go_sem])) (fault_bad (by unfold advBad; omega))
  simp [go_sem, d1]
  refine Gd.forkN (fun d2 => ?_) (fun d2 => ?_)
  rotate_left
  · simp [go_sem, d1, d2]
    exact KI (hk _ (by simp [go_sem])) (fault_bad (by unfold advBad; omega))
  simp [go_sem, d1, d2]
  refine Gd.forkN (fun d3 => ?_) (fun d3 => ?_)
  rotate_left
  · simp [go_sem, d1, d2, d3]
    exact KI (hk _ (by simp [go_sem])) (fault_bad (by unfold advBad; omega))
  simp [go_sem, d1, d2, d3]
  refine Gd.forkN (fun d4 => ?_) (fun d4 => ?_)
  rotate_left
  · simp [go_sem, d1, d2, d3, d4]
    exact KI (hk _ (by simp [go_sem])) (fault_bad (by unfold advBad; omega))
  simp [go_sem, d1, d2, d3, d4]
  refine Gd.forkN (fun d5 => ?_) (fun d5 => ?_)
  rotate_left
  · simp [go_sem, d1, d2, d3, d4, d5]
    exact KI (hk _ (by simp [go_sem])) (fault_bad (by unfold advBad; omega))
  simp [go_sem, d1, d2, d3, d4, d5]
  refine Br.forkD (fun d6 => ?_) (fun d6 => ?_)
  · simp [go_sem, d1, d2, d3, d4, d5, d6]
    exact KI (hk _ (by simp [go_sem])) (fault_bad (by unfold advBad; omega))
  simp [go_sem, d1, d2, d3, d4, d5, d6]
  have nb : ¬ advBad a := by unfold advBad; omega
  refine Br.forkD (fun d7 => ?_) (fun d7 => ?_)
  · simp [go_sem]
    exact KI (hk _ (by simp [go_sem])) (fault_large nb (by omega))
  have nl : ¬ 16 < a.links.length := by omega
  simp [go_sem]
  refine Wc.loopw 87 (fun i : Nat × Heap => [(1, .pointer (some ⟨H.length, 0, none⟩)), (41, .slice al a.links.length c), (42, .int .i64 a.links.length), (43, .int .i64 i.1)]) (fun i => i.2)
    (fun i => i.1 ≤ a.links.length ∧ Ext (newBlk H [.int .i64 a.id, .int .i64 a.seq, .int .i64 a.age, .slice al a.links.length c]) i.2 ∧ ∀ j (h : j < a.links.length), j < i.1 → ¬ lkBad a.links[j]) (fun i => a.links.length - i.1) (0, _)
    ⟨Nat.zero_le _, Ext.refl _, fun _ _ h => absurd h (by simp)⟩ (by simp [go_sem]) rfl (by simp [go_sem]) ?_
  rintro ⟨i, H1⟩ ⟨hi, he, hno⟩
  simp only at hi he hno
  have he0 : Ext H H1 := (Ext.new (Ext.refl H)).trans he
  have hs1 := hs.ext RLk.mono he0
  simp [go_sem]
  refine Br.forkD (fun h => ?_) (fun h => ?_)
  · obtain ⟨b, off, cells, rfl, hb, _, hr, hc⟩ := hs1.get h
    unfold RLk at hc
    obtain ⟨x, hx⟩ : ∃ x, a.links[i] = x := ⟨_, rfl⟩
    have hxm : x ∈ a.links := by rw [← hx]; exact List.getElem_mem h
    rw [hx] at hc
    subst hc
    simp [go_sem, hr, h]
    refine Gd.forkN (fun e1 => ?_) (fun e1 => ?_)
    rotate_left
    · simp [go_sem, hr, h, e1]
      exact KI (hk _ (by simp [go_sem, he0])) (fault_link nb nl hxm (by unfold lkBad; omega))
    simp [go_sem, hr, h, e1]
    refine Gd.forkN (fun e2 => ?_) (fun e2 => ?_)
    rotate_left
    · simp [go_sem, hr, h, e1, e2]
      exact KI (hk _ (by simp [go_sem, he0])) (fault_link nb nl hxm (by unfold lkBad; omega))
    simp [go_sem, hr, h, e1, e2]
    refine Gd.forkN (fun e3 => ?_) (fun e3 => ?_)
    rotate_left
    · simp [go_sem, hr, h, e1, e2, e3]
      exact KI (hk _ (by simp [go_sem, he0])) (fault_link nb nl hxm (by unfold lkBad; omega))
    simp [go_sem, hr, h, e1, e2, e3]
    refine Br.forkD (fun e4 => ?_) (fun e4 => ?_)
    · simp [go_sem, hr, h, e1, e2, e3, e4]
      exact KI (hk _ (by simp [go_sem, he0])) (fault_link nb nl hxm (by unfold lkBad; omega))
    simp [go_sem, hr, h, e1, e2, e3, e4]
    refine loopK_next (i + 1, _) ⟨by simp only; omega, by simp [go_sem, he], fun j hj hji => ?_⟩ (by simp only; omega) rfl (by simp [go_sem]) (by simp [go_sem, wrap_succ (i := i) (by omega)])
    by_cases hij : j = i
    · subst hij; rw [hx]; unfold lkBad; omega
    · exact hno j hj (by simp only at hji; omega)
  have nx : ¬ ∃ x ∈ a.links, lkBad x := no_bad fun j hj => hno j hj (by omega)
  have hb1 : rdBlk H1 H.length 3 1 = some [.slice al a.links.length c] := he.rd (by simp [go_sem])
  simp [go_sem, hb1]
  refine Wc.loopw 87 (fun i : Nat × Heap => [(1, .pointer (some ⟨H.length, 0, none⟩)), (5, .int .i64 (if i.1 = 0 then -1 else peerAt a (i.1 - 1))), (67, .slice al a.links.length c), (68, .int .i64 a.links.length), (69, .int .i64 i.1)]) (fun i => i.2)
    (fun i => i.1 ≤ a.links.length ∧ Ext H1 i.2 ∧ ∀ j, j < i.1 → ¬ lkForm a j) (fun i => a.links.length - i.1) (0, _)
    ⟨Nat.zero_le _, Ext.refl _, fun _ h => absurd h (by simp)⟩ (by simp [go_sem]) rfl (by simp [go_sem]) ?_
  rintro ⟨i, H2⟩ ⟨hi2, he2, hnf⟩
  simp only at hi2 he2 hnf
  have he3 : Ext H H2 := he0.trans he2
  have hs2 := hs.ext RLk.mono he3
  have hb2 : rdBlk H2 H.length 0 1 = some [.int .i64 a.id] := (he.trans he2).rd (by simp [go_sem])
  have hlt : H.length < H2.length := rdBlk_lt hb2
  simp [go_sem]
  refine Br.forkD (fun h => ?_) (fun h => ?_)
  · obtain ⟨b, off, cells, rfl, hb, _, hr, hc⟩ := hs2.get h
    unfold RLk at hc
    have hp := peerAt_get h
    have hpos : 0 ≤ peerAt a i := by
      rw [hp]
      have := hno i h (by omega)
      unfold lkBad at this; omega
    rw [← hp] at hc
    subst hc
    have hL : peerAt a i ≤ (if i = 0 then -1 else peerAt a (i - 1)) → lkForm a i := fun hh => by
      unfold lkForm; split at hh <;> omega
    simp [go_sem, hr, h, hb2, hlt]
    refine Gd.forkN (fun e1 => ?_) (fun e1 => ?_)
    rotate_left
    · simp [go_sem, hr, h, hb2, hlt, e1]
      exact KI (hk _ (by simp [go_sem, he3])) (fault_form nb nl nx h (by first | exact .inl e1 | exact hL e2))
    simp [go_sem, hr, h, hb2, hlt, e1]
    refine Br.forkD (fun e2 => ?_) (fun e2 => ?_)
    · simp [go_sem, hr, h, hb2, hlt, e1, e2]
      exact KI (hk _ (by simp [go_sem, he3])) (fault_form nb nl nx h (by first | exact .inl e1 | exact hL e2))
    simp [go_sem, hr, h, hb2, hlt, e1, e2]
    refine loopK_next (i + 1, _) ⟨by simp only; omega, by simp [go_sem, he2], fun j hj => ?_⟩ (by simp only; omega) rfl (by simp [go_sem]) (by simp [go_sem, wrap_succ (i := i) (by omega)])
    by_cases hij : j = i
    · subst hij
      unfold lkForm
      rintro (h1 | ⟨h1, h2⟩)
      · exact e1 h1
      · rw [if_neg (by omega)] at e2; omega
    · exact hnf j (by simp only at hj; omega)
  · simp [go_sem]
    exact KI (hk _ he3) (fault_ok nb nl nx fun j hj => hnf j (by omega))
end Go.Proofs.Ytlljiccilldnaaa.Ad
