/- Tick; In of what is no message and of nothing. -/
import Derived.Test.YtlljiccilldnaaaFl7
set_option linter.unusedVariables false
set_option linter.unusedSimpArgs false
set_option maxRecDepth 10000
set_option maxHeartbeats 8000000
namespace Go.Proofs.Ytlljiccilldnaaa.Fl
open Go Go.Am
open Go.Proofs.Ytlljiccilldnaaa.Fx Go.Proofs.Ytlljiccilldnaaa.Ad
open Go.Proofs.Ytlljiccilldnaaa.Ba (wrap_small wrap_succ sameInts_spec)
variable {H : Heap} {K : Value → Heap → Prop}
variable {S : Nat → Bool} {r b : Nat} {id seq now : Int} {pt : Nat → Port} {st : Nat → Option Adv}

/-- 'Tick'. -/
theorem tickR_spec (h : Rtr S H r b id seq 0 pt st) {t : Int} (hk0 : (t < 0 ∨ t > 1000000000) → K (.tuple #[.slice none 0 0, .int .i64 10]) H) (hk1 : ¬ (t < 0 ∨ t > 1000000000) → ∀ H' s', K (.tuple #[s', .int .i64 0]) H') : Wcall Try.prog 52 #[.pointer (some ⟨r, 0, none⟩), .int .i64 t] H K := by
  refine call_body (rs := #[.tmp 4, .tmp 5]) Try.func52 rfl Try.ntmps52 rfl rfl (by simp) ?_
  have hrl := h.rt.lt
  have rn := h.rt.rdNow
  simp [go_sem]
  refine Gd.forkN (fun d1 => ?_) (fun d1 => ?_)
  rotate_left
  · simp [go_sem, d1]
    exact hk0 (by omega)
  simp [go_sem, d1]
  refine Br.forkD (fun d2 => ?_) (fun d2 => ?_)
  · simp [go_sem, d1, d2]
    exact hk0 (by omega)
  simp [go_sem, d1, d2]
  have hk1 := hk1 (by omega)
  obtain ⟨k1, w1, h1, l1⟩ := h.rt.wrNow h.cov.l t
  have hb1 := h.ba.ofRt h.cov h.ne l1
  simp [go_sem, rn, hrl, d1, w1]
  generalize H.set r k1 = H1 at h1 hb1
  have h1l := h1.lt
  obtain ⟨l, rl, hll, hl⟩ := h1.all
  simp [go_sem, rl, hll, h1l]
  refine Wc.loopw 57 (fun i : Nat × Heap => [(0, .pointer (some ⟨r, 0, none⟩)), (1, .int .i64 t), (31, .agg l.toArray), (32, .int .i64 i.1)]) (fun i => i.2)
    (fun i => i.1 ≤ 8 ∧ H1.length ≤ i.2.length ∧ (∀ S' : Nat → Bool, S' r = true → Le (hide S' H1) (hide S' i.2)) ∧ RtAt S i.2 r b id seq t pt) (fun i => 8 - i.1) (0, _)
    ⟨Nat.zero_le _, Nat.le_refl _, fun _ _ => Le.refl _, h1⟩ (by simp [go_sem]) rfl (by simp [go_sem]) ?_
  rintro ⟨i, H2⟩ ⟨hi, len2, le2, h2⟩
  simp only at hi len2 le2 h2
  simp [go_sem]
  refine Br.forkD (fun g => ?_) (fun g => ?_)
  · have hi8 : i < 8 := by omega
    obtain ⟨pc, hpc, hpl, hup, hpe, hco, wl, hwl, hwll, hww⟩ := hl i hi8
    have e23 : Ext H2 (newBlk H2 pc) := by simp [go_sem]
    have hwl' : List.take 16 (List.drop 3 pc) = wl := hwl
    simp [go_sem, g, hpc, hpl, zs125_len, zs125_drop, hwl', hwll]
    refine Wc.loopw 57 (fun j : Nat × Heap => [(0, .pointer (some ⟨r, 0, none⟩)), (1, .int .i64 t), (6, .int .i64 i), (31, .agg l.toArray), (32, .int .i64 i), (37, .agg wl.toArray), (38, .int .i64 j.1)]) (fun j => j.2)
      (fun j => j.1 ≤ 16 ∧ H1.length ≤ j.2.length ∧ (∀ S' : Nat → Bool, S' r = true → Le (hide S' H1) (hide S' j.2)) ∧ RtAt S j.2 r b id seq t pt) (fun j => 16 - j.1) (0, _)
      ⟨Nat.zero_le _, by simp [newBlk_length]; omega, fun S' hS' => (le2 S' hS').trans (hide_ext e23), h2.ext e23⟩ (by simp [go_sem]) rfl (by simp [go_sem]) ?_
    rintro ⟨j, H3⟩ ⟨hj, len3, le3, h3⟩
    simp only at hj len3 le3 h3
    simp [go_sem]
    refine Br.forkD (fun g2 => ?_) (fun g2 => ?_)
    · have hj16 : j < 16 := by omega
      obtain ⟨w, hw⟩ := hww j hj16
      have hwg : wl[j]'(by omega) = .int .i64 w := by
        rw [List.getElem?_eq_getElem (by omega)] at hw
        exact Option.some.inj hw
      have skip : (fun j : Nat × Heap => j.1 ≤ 16 ∧ H1.length ≤ j.2.length ∧ (∀ S' : Nat → Bool, S' r = true → Le (hide S' H1) (hide S' j.2)) ∧ RtAt S j.2 r b id seq t pt) (j + 1, H3) := ⟨by simp only; omega, len3, le3, h3⟩
      simp [go_sem, g2, hwll, hj16, hwg]
      refine Gd.forkD (fun c1 => ?_) (fun c1 => ?_)
      rotate_left
      · simp [go_sem, c1]
        exact loopK_next (j + 1, H3) skip (by simp only; omega) rfl (by simp [go_sem]) (by simp [go_sem, wrap_succ (i := j) (by omega)])
      simp [go_sem, c1]
      refine Br.forkD (fun c2 => ?_) (fun c2 => ?_)
      · simp [go_sem]
        refine post_spec h3 h.cov.l hi8 hj16 fun H4 l4 le4 h4 => ?_
        simp [go_sem]
        exact loopK_next (j + 1, H4) ⟨by simp only; omega, by simp only; omega, fun S' hS' => (le3 S' hS').trans (le4 S' hS'), h4⟩ (by simp only; omega) rfl (by simp [go_sem]) (by simp [go_sem, wrap_succ (i := j) (by omega)])
      · simp [go_sem]
        exact loopK_next (j + 1, H3) skip (by simp only; omega) rfl (by simp [go_sem]) (by simp [go_sem, wrap_succ (i := j) (by omega)])
    · simp [go_sem]
      exact loopK_next (i + 1, H3) ⟨by simp only; omega, len3, le3, h3⟩ (by simp only; omega) rfl (by simp [go_sem]) (by simp [go_sem, wrap_succ (i := i) (by omega)])
  · simp [go_sem]
    refine sentR_spec h2 (hb1.ofRt h.cov h.ne le2) h.cov h.ne h.ok fun H7 s7 l7 le7 h7 hb7 => ?_
    simp [go_sem]
    exact hk1 _ _

theorem ba_isEmpty (s : ByteArray) : s.toList.isEmpty = decide (s.size = 0) := by
  rw [ByteArray.toList_eq]
  have : s.size = s.data.toList.length := (Array.length_toList).symm
  rw [this]
  cases s.data.toList <;> simp

/-- 'read' of what begins with a mark of neither kind. -/
theorem readBad_spec {s : ByteArray} (h0 : 0 < s.size) (h1 : s[0]'h0 = 63) (hk : K (.tuple #[.slice none 0 0, .slice none 0 0, .bool false]) H) : Wcall Try.prog 82 #[.string s] H K := by
  refine call_body (rs := #[.tmp 2, .tmp 3, .tmp 4]) Try.func82 rfl Try.ntmps82 rfl rfl (by simp) ?_
  simp [go_sem]
  refine Wc.loopw 93 (fun _ : Unit => [(0, .string s)]) (fun _ => H) (fun _ => True) (fun _ => 0) () trivial (by simp [go_sem]) rfl (by simp [go_sem]) ?_
  intro _ _
  have he : ¬ s.size = 0 := by omega
  simp [go_sem, ba_isEmpty, he, h0, h1]
  exact hk

/-- 'read' of nothing. -/
theorem readNil_spec {s : ByteArray} (h0 : s.size = 0) (hk : K (.tuple #[.slice none 0 0, .slice none 0 0, .bool true]) H) : Wcall Try.prog 82 #[.string s] H K := by
  refine call_body (rs := #[.tmp 2, .tmp 3, .tmp 4]) Try.func82 rfl Try.ntmps82 rfl rfl (by simp) ?_
  simp [go_sem]
  refine Wc.loopw 93 (fun _ : Unit => [(0, .string s), (5, .slice none 0 0), (6, .slice none 0 0)]) (fun _ => H) (fun _ => True) (fun _ => 0) () trivial (by simp [go_sem]) rfl (by simp [go_sem]) ?_
  intro _ _
  simp [go_sem, ba_isEmpty, h0]
  exact hk

/-- 'In' of what is no message. -/
theorem inBad_spec (h : Rtr S H r b id seq now pt st) {p : Nat} (hp : p < 8) (hu : (pt p).up = true) {s : ByteArray} (h0 : 0 < s.size) (h1 : s[0]'h0 = 63) (hk : K (.tuple #[.slice none 0 0, .int .i64 3]) H) : Wcall Try.prog 43 #[.pointer (some ⟨r, 0, none⟩), .int .i64 p, .string s] H K := by
  refine call_body (rs := #[.tmp 6, .tmp 7]) Try.func43 rfl Try.ntmps43 rfl rfl (by simp) ?_
  have hrl := h.rt.lt
  have ru := h.rt.rdUp hp
  rw [hu] at ru
  have hp8 : (p : Int) < 8 := by omega
  have e1 : ¬ (p : Int) < 0 := by omega
  have e2 : ¬ (8 : Int) ≤ p := by omega
  simp [go_sem, e1, e2, hp8, ru, hrl]
  refine readBad_spec h0 h1 ?_
  simp [go_sem]
  exact hk

/-- 'In' of nothing. -/
theorem inNil_spec (h : Rtr S H r b id seq now pt st) {p : Nat} (hp : p < 8) (hu : (pt p).up = true) {s : ByteArray} (h0 : s.size = 0)
    (hk : ∀ H' s', H.length ≤ H'.length → LeC r b H H' → Rtr S H' r b id seq now (noAk pt 8) st → K (.tuple #[s', .int .i64 0]) H') : Wcall Try.prog 43 #[.pointer (some ⟨r, 0, none⟩), .int .i64 p, .string s] H K := by
  refine call_body (rs := #[.tmp 6, .tmp 7]) Try.func43 rfl Try.ntmps43 rfl rfl (by simp) ?_
  have hrl := h.rt.lt
  have ru := h.rt.rdUp hp
  rw [hu] at ru
  have hp8 : (p : Int) < 8 := by omega
  have e1 : ¬ (p : Int) < 0 := by omega
  have e2 : ¬ (8 : Int) ≤ p := by omega
  simp [go_sem, e1, e2, hp8, ru, hrl]
  refine readNil_spec h0 ?_
  simp [go_sem]
  refine Wc.loopw 102 (fun _ : Unit => [(0, .pointer (some ⟨r, 0, none⟩)), (9, .slice none 0 0), (42, .int .i64 0), (43, .int .i64 0)]) (fun _ => H) (fun _ => True) (fun _ => 0) () trivial (by simp [go_sem]) rfl (by simp [go_sem]) ?_
  intro _ _
  simp [go_sem]
  refine Wc.loopw 102 (fun _ : Unit => [(0, .pointer (some ⟨r, 0, none⟩)), (53, .int .i64 0), (54, .int .i64 0)]) (fun _ => H) (fun _ => True) (fun _ => 0) () trivial (by simp [go_sem]) rfl (by simp [go_sem]) ?_
  intro _ _
  simp [go_sem]
  refine sentR_spec h.rt h.ba h.cov h.ne h.ok fun H7 s7 l7 le7 h7 hb7 => ?_
  simp [go_sem]
  exact hk H7 s7 l7 le7 ⟨h7, hb7, h.cov, h.ne, h.ok, fun x y hx hy h1 h2 => h.one x y hx hy (by rw [← noAk_up (pt := pt) (i := 8)]; exact h1) (by rw [← noAk_up (pt := pt) (i := 8)]; exact h2), h.hid, h.hseq, h.own⟩

/-- 'List' of a router. -/
theorem rlist_spec (h : Rtr S H r b id seq now pt st) (hk : ∀ H' s', Ext H H' → GSl RAdv 4 H.length H' s' (listL st 16) → K s' H') : Wcall Try.prog 45 #[.pointer (some ⟨r, 0, none⟩)] H K := by
  refine call_body (rs := #[.tmp 2]) Try.func45 rfl Try.ntmps45 rfl rfl (by simp) ?_
  have rb := h.rt.rdBase
  have hl := h.rt.lt
  simp [go_sem, rb, hl]
  refine listG_spec (get_two h.cov h.ba) (fun i => by have := h.ok.links i; omega) fun H5 s5 e5 hg5 => ?_
  simp [go_sem]
  exact hk _ _ e5 hg5

theorem put_self {id : Int} (hid : 0 ≤ id ∧ id < 16) : putSt (fun _ => none) ⟨id, 1, 0, []⟩ = upd (fun _ => none) id.toNat (some ⟨id, 1, 0, []⟩) := by
  have hf := fault_self hid
  unfold putSt
  rw [if_pos ⟨hf, by rw [putN_none hf rfl]; omega⟩]

/-- 'floodLives'. -/
theorem lives_spec (hk : ∀ H', Le H H' → K (.bool true) H') : Wcall Try.prog 37 #[] H K := by
  refine call_body (rs := #[.tmp 0]) Try.func37 rfl Try.ntmps37 rfl rfl (by simp) ?_
  simp [go_sem]
  refine new_spec' (by omega) fun H1 r b hr hb le1 h1 => ?_
  rw [put_self (by omega)] at h1
  simp [go_sem]
  refine rlist_spec h1 fun H2 s2 e2 hg2 => ?_
  obtain ⟨a2, rfl⟩ := hg2.shape
  have hl : (listL (upd (fun _ => none) (3 : Int).toNat (some ⟨3, 1, 0, []⟩)) 16).length = 1 := rfl
  rw [hl]
  simp [go_sem]
  exact hk _ ((le1.trans hide_le).trans e2.le)

theorem str_begin {P : Program} {s : ByteArray} {t : TypeId} {j : Int} (ht : P.underlying t = some .string) (h0 : 0 ≤ j) (hj : j ≤ s.size) : aSlice P H t (.string s) none (some (.int .i64 j)) none = some (.string (s.extract 0 j.toNat)) := by
  simp [aSlice, ht, aBound, h0, hj]

theorem begin_spec {s : ByteArray} (hk : K (.string (s.extract 0 (min s.size 12))) H) : Wcall Try.prog 50 #[.string s, .int .i64 12] H K := by
  refine call_body (rs := #[.tmp 4]) Try.func50 rfl Try.ntmps50 rfl rfl (by simp) ?_
  simp [go_sem]
  rw [str_begin u9 (by omega) (by omega), show (min (s.size : Int) 12).toNat = min s.size 12 by omega]
  simp [go_sem]
  exact hk

theorem le_hide2 {S : Nat → Bool} {H H' : Heap} (h : Le H H') : Le (hide S H) (hide S H') :=
  hide_le_hide h.1 fun b k hk => by
    obtain ⟨k', e, q⟩ := h.2 b k hk
    refine ⟨k', e, ?_⟩
    cases hS : S b
    · exact .inr ⟨rfl, q⟩
    · refine .inl ⟨rfl, ?_⟩
      rcases q with rfl | ⟨_, q1, q2⟩
      · exact ⟨rfl, rfl⟩
      · exact ⟨q1, q2⟩
theorem Rtr.le (h : Rtr S H r b id seq now pt st) {H' : Heap} (hl : Le H H') : Rtr S H' r b id seq now pt st := by
  have get : ∀ (q : Nat) (k : Blk), H[q]? = some k → k.mode ≠ .dead → H'[q]? = some k := fun q k hk hm => by
    obtain ⟨k', e, c⟩ := hl.2 q k hk
    rcases c with rfl | ⟨c, _⟩
    · exact e
    · exact absurd c hm
  obtain ⟨k1, e1, m1⟩ := h.rt.get
  obtain ⟨k2, e2, m2⟩ := h.ba.get
  exact ⟨h.rt.keep ((get _ _ e1 m1).trans e1.symm) (le_hide2 hl), h.ba.keep ((get _ _ e2 m2).trans e2.symm) (le_hide2 hl), h.cov, h.ne, h.ok, h.one, h.hid, h.hseq, h.own⟩

/-- The law about errors. -/
theorem errors_spec {id port peer cost t : Int} {s : ByteArray} (hk : ∀ H', K (.bool true) H') : Wcall Try.prog 8 #[.int .i64 id, .int .i64 port, .int .i64 peer, .int .i64 cost, .int .i64 t, .string s] H K := by
  refine call_body (rs := #[.tmp 12]) Try.func8 rfl Try.ntmps8 rfl rfl (by simp) ?_
  simp [go_sem]
  refine new_spec' (by omega) fun H1 r b hr hb le1 h1 => ?_
  simp [go_sem]
  refine lives_spec fun H2 le2 => ?_
  have h2 := h1.le le2
  simp [go_sem]
  refine begin_spec ?_
  generalize hs1 : s.extract 0 (min s.size 12) = s1
  have hs1l : s1.size ≤ 12 := by rw [← hs1]; simp; omega
  have hq2 : 0 < ((⟨#[63]⟩ : ByteArray) ++ s1).size := by rw [ByteArray.size_append]; show 0 < 1 + _; omega
  have hq3 : ((⟨#[63]⟩ : ByteArray) ++ s1)[0]'hq2 = 63 := by
    rw [ByteArray.getElem_append_left (by decide)]; rfl
  have hq1 : (⟨#[63]⟩ : ByteArray).size + s1.size ≤ 9223372036854775807 := by show 1 + _ ≤ _; omega
  simp [go_sem]
  by_cases hid : 0 ≤ id ∧ id < 16
  · refine new_spec' hid fun H3 r2 b2 _ _ le3 _ => ?_
    have h3 := h2.le (le3.trans hide_le)
    simp [go_sem, hid]
    by_cases c1 : port < 0
    · have c1n : ¬ 0 ≤ port := by omega
      simp [go_sem, c1, c1n]
      refine down_spec h3 (fun p hp _ => rfl) ?_
      rw [show (if port < 0 ∨ port > 7 then (10 : Int) else 4) = 10 by first | exact if_pos (by omega) | exact if_neg (by omega)]
      simp [go_sem, c1, c1n]
      refine upBad_spec h3 (e := 10) (by omega) ?_
      simp [go_sem, c1, c1n]
      refine tickR_spec h3 (fun ht => ?_) (fun ht H8 s8 => ?_)
      · by_cases t0 : t < 0
        · simp [go_sem, t0]
          exact hk _
        · have t1 : 1000000000 < t := by omega
          simp [go_sem, t0, t1]
          exact hk _
      · have t0 : ¬ t < 0 := by omega
        have t1 : ¬ 1000000000 < t := by omega
        simp [go_sem, t0, t1]
        exact hk _
    have c1p : 0 ≤ port := by omega
    by_cases c2 : 7 < port
    · have c2n : ¬ port < 8 := by omega
      simp [go_sem, c1, c1p, c2, c2n]
      refine down_spec h3 (fun p hp _ => rfl) ?_
      rw [show (if port < 0 ∨ port > 7 then (10 : Int) else 4) = 10 by first | exact if_pos (by omega) | exact if_neg (by omega)]
      simp [go_sem, c1, c1p, c2, c2n]
      refine upBad_spec h3 (e := 10) (by omega) ?_
      simp [go_sem, c1, c1p, c2, c2n]
      refine tickR_spec h3 (fun ht => ?_) (fun ht H8 s8 => ?_)
      · by_cases t0 : t < 0
        · simp [go_sem, t0]
          exact hk _
        · have t1 : 1000000000 < t := by omega
          simp [go_sem, t0, t1]
          exact hk _
      · have t0 : ¬ t < 0 := by omega
        have t1 : ¬ 1000000000 < t := by omega
        simp [go_sem, t0, t1]
        exact hk _
    have c2p : port < 8 := by omega
    by_cases c3 : peer < 0
    · simp [go_sem, c1, c1p, c2, c2p, c3]
      refine down_spec h3 (fun p hp _ => rfl) ?_
      rw [show (if port < 0 ∨ port > 7 then (10 : Int) else 4) = 4 by first | exact if_pos (by omega) | exact if_neg (by omega)]
      simp [go_sem, c1, c1p, c2, c2p, c3]
      refine upBad_spec h3 (e := 10) (by omega) ?_
      simp [go_sem, c1, c1p, c2, c2p, c3]
      refine tickR_spec h3 (fun ht => ?_) (fun ht H8 s8 => ?_)
      · by_cases t0 : t < 0
        · simp [go_sem, t0]
          exact hk _
        · have t1 : 1000000000 < t := by omega
          simp [go_sem, t0, t1]
          exact hk _
      · have t0 : ¬ t < 0 := by omega
        have t1 : ¬ 1000000000 < t := by omega
        simp [go_sem, t0, t1]
        exact hk _
    by_cases c4 : 15 < peer
    · simp [go_sem, c1, c1p, c2, c2p, c3, c4]
      refine down_spec h3 (fun p hp _ => rfl) ?_
      rw [show (if port < 0 ∨ port > 7 then (10 : Int) else 4) = 4 by first | exact if_pos (by omega) | exact if_neg (by omega)]
      simp [go_sem, c1, c1p, c2, c2p, c3, c4]
      refine upBad_spec h3 (e := 10) (by omega) ?_
      simp [go_sem, c1, c1p, c2, c2p, c3, c4]
      refine tickR_spec h3 (fun ht => ?_) (fun ht H8 s8 => ?_)
      · by_cases t0 : t < 0
        · simp [go_sem, t0]
          exact hk _
        · have t1 : 1000000000 < t := by omega
          simp [go_sem, t0, t1]
          exact hk _
      · have t0 : ¬ t < 0 := by omega
        have t1 : ¬ 1000000000 < t := by omega
        simp [go_sem, t0, t1]
        exact hk _
    by_cases c5 : cost < 1
    · simp [go_sem, c1, c1p, c2, c2p, c3, c4, c5]
      refine down_spec h3 (fun p hp _ => rfl) ?_
      rw [show (if port < 0 ∨ port > 7 then (10 : Int) else 4) = 4 by first | exact if_pos (by omega) | exact if_neg (by omega)]
      simp [go_sem, c1, c1p, c2, c2p, c3, c4, c5]
      refine upBad_spec h3 (e := 10) (by omega) ?_
      simp [go_sem, c1, c1p, c2, c2p, c3, c4, c5]
      refine tickR_spec h3 (fun ht => ?_) (fun ht H8 s8 => ?_)
      · by_cases t0 : t < 0
        · simp [go_sem, t0]
          exact hk _
        · have t1 : 1000000000 < t := by omega
          simp [go_sem, t0, t1]
          exact hk _
      · have t0 : ¬ t < 0 := by omega
        have t1 : ¬ 1000000000 < t := by omega
        simp [go_sem, t0, t1]
        exact hk _
    by_cases c6 : 65535 < cost
    · simp [go_sem, c1, c1p, c2, c2p, c3, c4, c5, c6]
      refine down_spec h3 (fun p hp _ => rfl) ?_
      rw [show (if port < 0 ∨ port > 7 then (10 : Int) else 4) = 4 by first | exact if_pos (by omega) | exact if_neg (by omega)]
      simp [go_sem, c1, c1p, c2, c2p, c3, c4, c5, c6]
      refine upBad_spec h3 (e := 10) (by omega) ?_
      simp [go_sem, c1, c1p, c2, c2p, c3, c4, c5, c6]
      refine tickR_spec h3 (fun ht => ?_) (fun ht H8 s8 => ?_)
      · by_cases t0 : t < 0
        · simp [go_sem, t0]
          exact hk _
        · have t1 : 1000000000 < t := by omega
          simp [go_sem, t0, t1]
          exact hk _
      · have t0 : ¬ t < 0 := by omega
        have t1 : ¬ 1000000000 < t := by omega
        simp [go_sem, t0, t1]
        exact hk _
    by_cases c7 : peer = 5
    · subst c7
      simp [go_sem, c1, c1p, c2, c2p, c5, c6]
      refine down_spec h3 (fun p hp _ => rfl) ?_
      rw [show (if port < 0 ∨ port > 7 then (10 : Int) else 4) = 4 by first | exact if_pos (by omega) | exact if_neg (by omega)]
      simp [go_sem, c1, c1p, c2, c2p, c5, c6]
      refine upBad_spec h3 (e := 1) (by omega) ?_
      simp [go_sem, c1, c1p, c2, c2p, c5, c6]
      refine tickR_spec h3 (fun ht => ?_) (fun ht H8 s8 => ?_)
      · by_cases t0 : t < 0
        · simp [go_sem, t0]
          exact hk _
        · have t1 : 1000000000 < t := by omega
          simp [go_sem, t0, t1]
          exact hk _
      · have t0 : ¬ t < 0 := by omega
        have t1 : ¬ 1000000000 < t := by omega
        simp [go_sem, t0, t1]
        exact hk _
    simp [go_sem, c1, c1p, c2, c2p, c3, c4, c5, c6, c7]
    refine down_spec h3 (fun p hp _ => rfl) ?_
    rw [show (if port < 0 ∨ port > 7 then (10 : Int) else 4) = 4 by exact if_neg (by omega)]
    simp [go_sem, c1, c1p, c2, c2p, c3, c4, c5, c6, c7]
    obtain ⟨p, rfl⟩ : ∃ p : Nat, port = p := ⟨port.toNat, by omega⟩
    have hp : p < 8 := by omega
    refine upOk_spec h3 (fun q hq => by simp [two] at hq; have := h3.rt.lt; have := h3.ba.lt; omega) hp (by omega) (by omega) c7 (fun q _ => rfl) fun H4 s4 pt4 st4 l4 le4 h4 hup4 hak4 ho4 => ?_
    have hu4 : (pt4 p).up = true := (hup4 p hp).2 rfl
    simp [go_sem]
    refine upBad_spec h4 (e := 6) (.inr ⟨by omega, .inr ⟨c7, by simpa using hu4, rfl⟩⟩) ?_
    simp [go_sem, hq1]
    refine inBad_spec h4 hp hu4 hq2 hq3 ?_
    simp [go_sem]
    refine inNil_spec h4 hp hu4 rfl fun H5 s5 l5 le5 h5 => ?_
    simp [go_sem]
    refine tickR_spec h5 (fun ht => ?_) (fun ht H8 s8 => ?_)
    · by_cases t0 : t < 0
      · simp [go_sem, t0]
        exact hk _
      · have t1 : 1000000000 < t := by omega
        simp [go_sem, t0, t1]
        exact hk _
    · have t0 : ¬ t < 0 := by omega
      have t1 : ¬ 1000000000 < t := by omega
      simp [go_sem, t0, t1]
      exact hk _
  · refine newBad_spec hid ?_
    have h3 := h2
    by_cases i1 : 0 ≤ id
    · have i2 : ¬ id < 16 := by omega
      simp [go_sem, i1, i2]
      by_cases c1 : port < 0
      · have c1n : ¬ 0 ≤ port := by omega
        simp [go_sem, c1, c1n]
        refine down_spec h3 (fun p hp _ => rfl) ?_
        rw [show (if port < 0 ∨ port > 7 then (10 : Int) else 4) = 10 by first | exact if_pos (by omega) | exact if_neg (by omega)]
        simp [go_sem, c1, c1n]
        refine upBad_spec h3 (e := 10) (by omega) ?_
        simp [go_sem, c1, c1n]
        refine tickR_spec h3 (fun ht => ?_) (fun ht H8 s8 => ?_)
        · by_cases t0 : t < 0
          · simp [go_sem, t0]
            exact hk _
          · have t1 : 1000000000 < t := by omega
            simp [go_sem, t0, t1]
            exact hk _
        · have t0 : ¬ t < 0 := by omega
          have t1 : ¬ 1000000000 < t := by omega
          simp [go_sem, t0, t1]
          exact hk _
      have c1p : 0 ≤ port := by omega
      by_cases c2 : 7 < port
      · have c2n : ¬ port < 8 := by omega
        simp [go_sem, c1, c1p, c2, c2n]
        refine down_spec h3 (fun p hp _ => rfl) ?_
        rw [show (if port < 0 ∨ port > 7 then (10 : Int) else 4) = 10 by first | exact if_pos (by omega) | exact if_neg (by omega)]
        simp [go_sem, c1, c1p, c2, c2n]
        refine upBad_spec h3 (e := 10) (by omega) ?_
        simp [go_sem, c1, c1p, c2, c2n]
        refine tickR_spec h3 (fun ht => ?_) (fun ht H8 s8 => ?_)
        · by_cases t0 : t < 0
          · simp [go_sem, t0]
            exact hk _
          · have t1 : 1000000000 < t := by omega
            simp [go_sem, t0, t1]
            exact hk _
        · have t0 : ¬ t < 0 := by omega
          have t1 : ¬ 1000000000 < t := by omega
          simp [go_sem, t0, t1]
          exact hk _
      have c2p : port < 8 := by omega
      by_cases c3 : peer < 0
      · simp [go_sem, c1, c1p, c2, c2p, c3]
        refine down_spec h3 (fun p hp _ => rfl) ?_
        rw [show (if port < 0 ∨ port > 7 then (10 : Int) else 4) = 4 by first | exact if_pos (by omega) | exact if_neg (by omega)]
        simp [go_sem, c1, c1p, c2, c2p, c3]
        refine upBad_spec h3 (e := 10) (by omega) ?_
        simp [go_sem, c1, c1p, c2, c2p, c3]
        refine tickR_spec h3 (fun ht => ?_) (fun ht H8 s8 => ?_)
        · by_cases t0 : t < 0
          · simp [go_sem, t0]
            exact hk _
          · have t1 : 1000000000 < t := by omega
            simp [go_sem, t0, t1]
            exact hk _
        · have t0 : ¬ t < 0 := by omega
          have t1 : ¬ 1000000000 < t := by omega
          simp [go_sem, t0, t1]
          exact hk _
      by_cases c4 : 15 < peer
      · simp [go_sem, c1, c1p, c2, c2p, c3, c4]
        refine down_spec h3 (fun p hp _ => rfl) ?_
        rw [show (if port < 0 ∨ port > 7 then (10 : Int) else 4) = 4 by first | exact if_pos (by omega) | exact if_neg (by omega)]
        simp [go_sem, c1, c1p, c2, c2p, c3, c4]
        refine upBad_spec h3 (e := 10) (by omega) ?_
        simp [go_sem, c1, c1p, c2, c2p, c3, c4]
        refine tickR_spec h3 (fun ht => ?_) (fun ht H8 s8 => ?_)
        · by_cases t0 : t < 0
          · simp [go_sem, t0]
            exact hk _
          · have t1 : 1000000000 < t := by omega
            simp [go_sem, t0, t1]
            exact hk _
        · have t0 : ¬ t < 0 := by omega
          have t1 : ¬ 1000000000 < t := by omega
          simp [go_sem, t0, t1]
          exact hk _
      by_cases c5 : cost < 1
      · simp [go_sem, c1, c1p, c2, c2p, c3, c4, c5]
        refine down_spec h3 (fun p hp _ => rfl) ?_
        rw [show (if port < 0 ∨ port > 7 then (10 : Int) else 4) = 4 by first | exact if_pos (by omega) | exact if_neg (by omega)]
        simp [go_sem, c1, c1p, c2, c2p, c3, c4, c5]
        refine upBad_spec h3 (e := 10) (by omega) ?_
        simp [go_sem, c1, c1p, c2, c2p, c3, c4, c5]
        refine tickR_spec h3 (fun ht => ?_) (fun ht H8 s8 => ?_)
        · by_cases t0 : t < 0
          · simp [go_sem, t0]
            exact hk _
          · have t1 : 1000000000 < t := by omega
            simp [go_sem, t0, t1]
            exact hk _
        · have t0 : ¬ t < 0 := by omega
          have t1 : ¬ 1000000000 < t := by omega
          simp [go_sem, t0, t1]
          exact hk _
      by_cases c6 : 65535 < cost
      · simp [go_sem, c1, c1p, c2, c2p, c3, c4, c5, c6]
        refine down_spec h3 (fun p hp _ => rfl) ?_
        rw [show (if port < 0 ∨ port > 7 then (10 : Int) else 4) = 4 by first | exact if_pos (by omega) | exact if_neg (by omega)]
        simp [go_sem, c1, c1p, c2, c2p, c3, c4, c5, c6]
        refine upBad_spec h3 (e := 10) (by omega) ?_
        simp [go_sem, c1, c1p, c2, c2p, c3, c4, c5, c6]
        refine tickR_spec h3 (fun ht => ?_) (fun ht H8 s8 => ?_)
        · by_cases t0 : t < 0
          · simp [go_sem, t0]
            exact hk _
          · have t1 : 1000000000 < t := by omega
            simp [go_sem, t0, t1]
            exact hk _
        · have t0 : ¬ t < 0 := by omega
          have t1 : ¬ 1000000000 < t := by omega
          simp [go_sem, t0, t1]
          exact hk _
      by_cases c7 : peer = 5
      · subst c7
        simp [go_sem, c1, c1p, c2, c2p, c5, c6]
        refine down_spec h3 (fun p hp _ => rfl) ?_
        rw [show (if port < 0 ∨ port > 7 then (10 : Int) else 4) = 4 by first | exact if_pos (by omega) | exact if_neg (by omega)]
        simp [go_sem, c1, c1p, c2, c2p, c5, c6]
        refine upBad_spec h3 (e := 1) (by omega) ?_
        simp [go_sem, c1, c1p, c2, c2p, c5, c6]
        refine tickR_spec h3 (fun ht => ?_) (fun ht H8 s8 => ?_)
        · by_cases t0 : t < 0
          · simp [go_sem, t0]
            exact hk _
          · have t1 : 1000000000 < t := by omega
            simp [go_sem, t0, t1]
            exact hk _
        · have t0 : ¬ t < 0 := by omega
          have t1 : ¬ 1000000000 < t := by omega
          simp [go_sem, t0, t1]
          exact hk _
      simp [go_sem, c1, c1p, c2, c2p, c3, c4, c5, c6, c7]
      refine down_spec h3 (fun p hp _ => rfl) ?_
      rw [show (if port < 0 ∨ port > 7 then (10 : Int) else 4) = 4 by exact if_neg (by omega)]
      simp [go_sem, c1, c1p, c2, c2p, c3, c4, c5, c6, c7]
      obtain ⟨p, rfl⟩ : ∃ p : Nat, port = p := ⟨port.toNat, by omega⟩
      have hp : p < 8 := by omega
      refine upOk_spec h3 (fun q hq => by simp [two] at hq; have := h3.rt.lt; have := h3.ba.lt; omega) hp (by omega) (by omega) c7 (fun q _ => rfl) fun H4 s4 pt4 st4 l4 le4 h4 hup4 hak4 ho4 => ?_
      have hu4 : (pt4 p).up = true := (hup4 p hp).2 rfl
      simp [go_sem]
      refine upBad_spec h4 (e := 6) (.inr ⟨by omega, .inr ⟨c7, by simpa using hu4, rfl⟩⟩) ?_
      simp [go_sem, hq1]
      refine inBad_spec h4 hp hu4 hq2 hq3 ?_
      simp [go_sem]
      refine inNil_spec h4 hp hu4 rfl fun H5 s5 l5 le5 h5 => ?_
      simp [go_sem]
      refine tickR_spec h5 (fun ht => ?_) (fun ht H8 s8 => ?_)
      · by_cases t0 : t < 0
        · simp [go_sem, t0]
          exact hk _
        · have t1 : 1000000000 < t := by omega
          simp [go_sem, t0, t1]
          exact hk _
      · have t0 : ¬ t < 0 := by omega
        have t1 : ¬ 1000000000 < t := by omega
        simp [go_sem, t0, t1]
        exact hk _
    · simp [go_sem, i1]
      by_cases c1 : port < 0
      · have c1n : ¬ 0 ≤ port := by omega
        simp [go_sem, c1, c1n]
        refine down_spec h3 (fun p hp _ => rfl) ?_
        rw [show (if port < 0 ∨ port > 7 then (10 : Int) else 4) = 10 by first | exact if_pos (by omega) | exact if_neg (by omega)]
        simp [go_sem, c1, c1n]
        refine upBad_spec h3 (e := 10) (by omega) ?_
        simp [go_sem, c1, c1n]
        refine tickR_spec h3 (fun ht => ?_) (fun ht H8 s8 => ?_)
        · by_cases t0 : t < 0
          · simp [go_sem, t0]
            exact hk _
          · have t1 : 1000000000 < t := by omega
            simp [go_sem, t0, t1]
            exact hk _
        · have t0 : ¬ t < 0 := by omega
          have t1 : ¬ 1000000000 < t := by omega
          simp [go_sem, t0, t1]
          exact hk _
      have c1p : 0 ≤ port := by omega
      by_cases c2 : 7 < port
      · have c2n : ¬ port < 8 := by omega
        simp [go_sem, c1, c1p, c2, c2n]
        refine down_spec h3 (fun p hp _ => rfl) ?_
        rw [show (if port < 0 ∨ port > 7 then (10 : Int) else 4) = 10 by first | exact if_pos (by omega) | exact if_neg (by omega)]
        simp [go_sem, c1, c1p, c2, c2n]
        refine upBad_spec h3 (e := 10) (by omega) ?_
        simp [go_sem, c1, c1p, c2, c2n]
        refine tickR_spec h3 (fun ht => ?_) (fun ht H8 s8 => ?_)
        · by_cases t0 : t < 0
          · simp [go_sem, t0]
            exact hk _
          · have t1 : 1000000000 < t := by omega
            simp [go_sem, t0, t1]
            exact hk _
        · have t0 : ¬ t < 0 := by omega
          have t1 : ¬ 1000000000 < t := by omega
          simp [go_sem, t0, t1]
          exact hk _
      have c2p : port < 8 := by omega
      by_cases c3 : peer < 0
      · simp [go_sem, c1, c1p, c2, c2p, c3]
        refine down_spec h3 (fun p hp _ => rfl) ?_
        rw [show (if port < 0 ∨ port > 7 then (10 : Int) else 4) = 4 by first | exact if_pos (by omega) | exact if_neg (by omega)]
        simp [go_sem, c1, c1p, c2, c2p, c3]
        refine upBad_spec h3 (e := 10) (by omega) ?_
        simp [go_sem, c1, c1p, c2, c2p, c3]
        refine tickR_spec h3 (fun ht => ?_) (fun ht H8 s8 => ?_)
        · by_cases t0 : t < 0
          · simp [go_sem, t0]
            exact hk _
          · have t1 : 1000000000 < t := by omega
            simp [go_sem, t0, t1]
            exact hk _
        · have t0 : ¬ t < 0 := by omega
          have t1 : ¬ 1000000000 < t := by omega
          simp [go_sem, t0, t1]
          exact hk _
      by_cases c4 : 15 < peer
      · simp [go_sem, c1, c1p, c2, c2p, c3, c4]
        refine down_spec h3 (fun p hp _ => rfl) ?_
        rw [show (if port < 0 ∨ port > 7 then (10 : Int) else 4) = 4 by first | exact if_pos (by omega) | exact if_neg (by omega)]
        simp [go_sem, c1, c1p, c2, c2p, c3, c4]
        refine upBad_spec h3 (e := 10) (by omega) ?_
        simp [go_sem, c1, c1p, c2, c2p, c3, c4]
        refine tickR_spec h3 (fun ht => ?_) (fun ht H8 s8 => ?_)
        · by_cases t0 : t < 0
          · simp [go_sem, t0]
            exact hk _
          · have t1 : 1000000000 < t := by omega
            simp [go_sem, t0, t1]
            exact hk _
        · have t0 : ¬ t < 0 := by omega
          have t1 : ¬ 1000000000 < t := by omega
          simp [go_sem, t0, t1]
          exact hk _
      by_cases c5 : cost < 1
      · simp [go_sem, c1, c1p, c2, c2p, c3, c4, c5]
        refine down_spec h3 (fun p hp _ => rfl) ?_
        rw [show (if port < 0 ∨ port > 7 then (10 : Int) else 4) = 4 by first | exact if_pos (by omega) | exact if_neg (by omega)]
        simp [go_sem, c1, c1p, c2, c2p, c3, c4, c5]
        refine upBad_spec h3 (e := 10) (by omega) ?_
        simp [go_sem, c1, c1p, c2, c2p, c3, c4, c5]
        refine tickR_spec h3 (fun ht => ?_) (fun ht H8 s8 => ?_)
        · by_cases t0 : t < 0
          · simp [go_sem, t0]
            exact hk _
          · have t1 : 1000000000 < t := by omega
            simp [go_sem, t0, t1]
            exact hk _
        · have t0 : ¬ t < 0 := by omega
          have t1 : ¬ 1000000000 < t := by omega
          simp [go_sem, t0, t1]
          exact hk _
      by_cases c6 : 65535 < cost
      · simp [go_sem, c1, c1p, c2, c2p, c3, c4, c5, c6]
        refine down_spec h3 (fun p hp _ => rfl) ?_
        rw [show (if port < 0 ∨ port > 7 then (10 : Int) else 4) = 4 by first | exact if_pos (by omega) | exact if_neg (by omega)]
        simp [go_sem, c1, c1p, c2, c2p, c3, c4, c5, c6]
        refine upBad_spec h3 (e := 10) (by omega) ?_
        simp [go_sem, c1, c1p, c2, c2p, c3, c4, c5, c6]
        refine tickR_spec h3 (fun ht => ?_) (fun ht H8 s8 => ?_)
        · by_cases t0 : t < 0
          · simp [go_sem, t0]
            exact hk _
          · have t1 : 1000000000 < t := by omega
            simp [go_sem, t0, t1]
            exact hk _
        · have t0 : ¬ t < 0 := by omega
          have t1 : ¬ 1000000000 < t := by omega
          simp [go_sem, t0, t1]
          exact hk _
      by_cases c7 : peer = 5
      · subst c7
        simp [go_sem, c1, c1p, c2, c2p, c5, c6]
        refine down_spec h3 (fun p hp _ => rfl) ?_
        rw [show (if port < 0 ∨ port > 7 then (10 : Int) else 4) = 4 by first | exact if_pos (by omega) | exact if_neg (by omega)]
        simp [go_sem, c1, c1p, c2, c2p, c5, c6]
        refine upBad_spec h3 (e := 1) (by omega) ?_
        simp [go_sem, c1, c1p, c2, c2p, c5, c6]
        refine tickR_spec h3 (fun ht => ?_) (fun ht H8 s8 => ?_)
        · by_cases t0 : t < 0
          · simp [go_sem, t0]
            exact hk _
          · have t1 : 1000000000 < t := by omega
            simp [go_sem, t0, t1]
            exact hk _
        · have t0 : ¬ t < 0 := by omega
          have t1 : ¬ 1000000000 < t := by omega
          simp [go_sem, t0, t1]
          exact hk _
      simp [go_sem, c1, c1p, c2, c2p, c3, c4, c5, c6, c7]
      refine down_spec h3 (fun p hp _ => rfl) ?_
      rw [show (if port < 0 ∨ port > 7 then (10 : Int) else 4) = 4 by exact if_neg (by omega)]
      simp [go_sem, c1, c1p, c2, c2p, c3, c4, c5, c6, c7]
      obtain ⟨p, rfl⟩ : ∃ p : Nat, port = p := ⟨port.toNat, by omega⟩
      have hp : p < 8 := by omega
      refine upOk_spec h3 (fun q hq => by simp [two] at hq; have := h3.rt.lt; have := h3.ba.lt; omega) hp (by omega) (by omega) c7 (fun q _ => rfl) fun H4 s4 pt4 st4 l4 le4 h4 hup4 hak4 ho4 => ?_
      have hu4 : (pt4 p).up = true := (hup4 p hp).2 rfl
      simp [go_sem]
      refine upBad_spec h4 (e := 6) (.inr ⟨by omega, .inr ⟨c7, by simpa using hu4, rfl⟩⟩) ?_
      simp [go_sem, hq1]
      refine inBad_spec h4 hp hu4 hq2 hq3 ?_
      simp [go_sem]
      refine inNil_spec h4 hp hu4 rfl fun H5 s5 l5 le5 h5 => ?_
      simp [go_sem]
      refine tickR_spec h5 (fun ht => ?_) (fun ht H8 s8 => ?_)
      · by_cases t0 : t < 0
        · simp [go_sem, t0]
          exact hk _
        · have t1 : 1000000000 < t := by omega
          simp [go_sem, t0, t1]
          exact hk _
      · have t0 : ¬ t < 0 := by omega
        have t1 : ¬ 1000000000 < t := by omega
        simp [go_sem, t0, t1]
        exact hk _
end Go.Proofs.Ytlljiccilldnaaa.Fl
