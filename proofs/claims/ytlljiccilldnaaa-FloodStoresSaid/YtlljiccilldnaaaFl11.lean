/- How an advertisement is taken. -/
import Derived.Test.YtlljiccilldnaaaFl10
import Derived.Test.YtlljiccilldnaaaFl8
set_option linter.unusedVariables false
set_option linter.unusedSimpArgs false
set_option maxRecDepth 10000
set_option maxHeartbeats 1000000
namespace Go.Proofs.Ytlljiccilldnaaa.Fl
open Go Go.Am
open Go.Proofs.Ytlljiccilldnaaa.Fx Go.Proofs.Ytlljiccilldnaaa.Ad
open Go.Proofs.Ytlljiccilldnaaa.Ba (wrap_small wrap_succ sameInts_spec)
variable {H : Heap} {K : Value → Heap → Prop}
section
variable {S : Nat → Bool} {r b : Nat} {id seq now : Int} {pt : Nat → Port} {st : Nat → Option Adv}
theorem RtAt.rdWait (h : RtAt S H r b id seq now pt) {p j : Nat} (hp : p < 8) (hj : j < 16) : ∃ w, rdBlk H r (4 + p * 36 + 3 + j) 1 = some [.int .i64 w] := by
  obtain ⟨cells, h1, h2, h3, h4, h5, h6, h7⟩ := h.ex
  obtain ⟨w, hw⟩ := (h7 p hp).wait j hj
  exact ⟨w, rd_one h1 hw⟩
theorem RtAt.rdSend (h : RtAt S H r b id seq now pt) {p j : Nat} (hp : p < 8) (hj : j < 16) : ∃ w, rdBlk H r (4 + p * 36 + 19 + j) 1 = some [.bool w] := by
  obtain ⟨cells, h1, h2, h3, h4, h5, h6, h7⟩ := h.ex
  obtain ⟨w, hw⟩ := (h7 p hp).send j hj
  exact ⟨w, rd_one h1 hw⟩

/-- 'take', of an advertisement of another router. -/
theorem take_spec (h : Rtr S H r b id seq now pt st) (hSl : ∀ q, S q = true → q < H.length) {p : Nat} (hp : p < 8) {a : Adv} {s : Value} (hs : Sl RLk 2 (hide S H) s a.links) (hf : fault a = 0) (hne : a.id ≠ id) (hak : (pt p).ak = [])
    (hk : ∀ H' pt', H.length ≤ H'.length → LeC r b H H' → Rtr S H' r b id seq now pt' (putSt st a) → (∀ q, (pt' q).up = (pt q).up) → K undef H') :
    Wcall Try.prog 83 #[.pointer (some ⟨r, 0, none⟩), .int .i64 p, advV a s] H K := by
  have nb := fault_zero hf
  unfold advBad at nb
  obtain ⟨al, c, rfl⟩ := hs.shape
  obtain ⟨n, hn⟩ : ∃ n : Nat, a.id = n := ⟨a.id.toNat, by omega⟩
  have hj : n < 16 := by omega
  have hj16 : (n : Int) < 16 := by omega
  have hp8 : (p : Int) < 8 := by omega
  have hrl := h.rt.lt
  have hbl := h.ba.lt
  have ri := h.rt.rdId
  have rb := h.rt.rdBase
  have hok1 := putSt_ok h.ok a
  have hown1 : (putSt st a id.toNat).isSome = true := putSt_some h.own
  have hnid : ¬ (n : Int) = id := by omega
  refine call_body (rs := #[]) Try.func83 rfl Try.ntmps83 rfl rfl (by simp) ?_
  simp [go_sem, advV, advC, hp8, hn]
  refine Wc.drawn mixed (by kernel_rfl) ?_
  simp [go_sem, ri, hrl, hnid]
  refine Wc.drawn mixed (by kernel_rfl) ?_
  simp [go_sem, rb, hrl]
  rw [← hn]
  have e01 : Ext H (newBlk H [.int .i64 a.id, .int .i64 a.seq, .int .i64 a.age, .slice al a.links.length c]) := by simp [go_sem]
  refine put_specS (a := a) (st := st) h.cov.r (fun q hq => by have := hSl q hq; simp [newBlk_length]; omega) (h.ba.ext e01) (hs.le RLk.monoL (hide_ext e01)) (fun i => by have := h.ok.links i; omega) fun H1 l1 lep hb1 => ?_
  have h1 := (h.rt.ext e01).ofBase h.cov h.ne lep
  have bx1 : H1[H.length]? = some ⟨[.int .i64 n, .int .i64 a.seq, .int .i64 a.age, .slice al a.links.length c], 0, true, .live⟩ := le_get lep (by rw [← hn]; exact get_new _ _) (by simp) (one_ne (by omega))
  have le1 : LeC r b H H1 := (LeC.ext e01).trans (LeC.ofB lep)
  have len1 : H.length ≤ H1.length := by simp [newBlk_length] at l1; omega
  have rn0 := rd_one bx1 (off := 0) rfl
  have lx1 := (List.getElem?_eq_some_iff.1 bx1).1
  have h1l := h1.lt
  generalize putN st a = pn
  simp [go_sem]
  refine Br.forkD (fun c1 => ?_) (fun c1 => ?_)
  · simp [go_sem]
    obtain ⟨k1, w1, h2, l2⟩ := h1.wrWait h.cov.l hp hj 0
    obtain ⟨k2, w2, h3, l3⟩ := h2.wrSend h.cov.l hp hj false
    have hb3 := (hb1.ofRt h.cov h.ne l2).ofRt h.cov h.ne l3
    have bx2 : ((H1.set r k1).set r k2)[H.length]? = some ⟨[.int .i64 n, .int .i64 a.seq, .int .i64 a.age, .slice al a.links.length c], 0, true, .live⟩ := by
      rw [List.getElem?_set_ne (by omega), List.getElem?_set_ne (by omega)]; exact bx1
    rw [List.set_set] at w2 h3 hb3 bx2
    have le3 := (le1.trans (LeC.ofR l2)).trans (LeC.ofR l3)
    rw [List.set_set] at le3
    refine Wc.drawnS (fun c => c = H.length) mixed (by kernel_rfl) ?_
    simp [go_sem, rn0, hj16, w1, w2, h1l]
    have kne : ¬ r = H.length := by omega
    refine ⟨keepS_set (by omega), keepS_set2 (by omega), ?_⟩
    have len3 : (H1.set r k2).length = H1.length := by simp
    generalize H1.set r k2 = H2 at h3 hb3 bx2 le3 len3
    have rn2 := rd_one bx2 (off := 0) rfl
    have l2' := (List.getElem?_eq_some_iff.1 bx2).1
    simp [go_sem, rn2, l2']
    refine flood_spec h3 h.cov.l hj fun H4 l4' le4' h4 => ?_
    have hb4 := hb3.ofRt h.cov h.ne le4'
    have bx4 : H4[H.length]? = some ⟨[.int .i64 n, .int .i64 a.seq, .int .i64 a.age, .slice al a.links.length c], 0, true, .live⟩ := le_get (le4' (Am.one r) (by simp [Am.one])) bx2 (by simp) (one_ne (by omega))
    have le4 := le3.trans (LeC.ofR le4')
    simp [go_sem]
    have rn4 := rd_one bx4 (off := 0) rfl
    have rs4 := rd_one bx4 (off := 1) rfl
    have l4 := (List.getElem?_eq_some_iff.1 bx4).1
    have h4l := h4.lt
    obtain ⟨sk, rk, hsk, _, hskn⟩ := h4.rdAk hp
    rw [hskn hak] at rk
    refine Wc.drawnG [4, 6, 8] [10] (fun c => c = r ∨ c = H.length) mixed (by kernel_rfl) ?_
    simp [go_sem, rk, h4l, rn4, rs4, l4]
    refine op2_append (R := RAk) (sz := 2) (m := H4.length) (xs := []) (ys := [((n : Int), a.seq)]) (l := [.int .i64 n, .int .i64 a.seq]) GSl.nil RAk.monoL (by simp [newBlk_length])
      u123 z141 i141 s141 rfl (by omega) (by rw [b141]; omega) (news_one u123 rfl (by simp [go_sem])) (by simp) (by simp) ?_ (by simp) ?_
    · intro k y hy
      have hk0 : k = 0 := by have := (List.getElem?_eq_some_iff.1 hy).1; simp at this; omega
      subst hk0
      simp at hy
      subst hy
      rfl
    intro s' H' hg' hkeep hlt hext hat hle
    obtain ⟨a5, n5, rfl⟩ : ∃ a n, s' = .slice a n n := by obtain ⟨a, e⟩ := hg'.shape; exact ⟨a, _, e⟩
    have e45 : Ext H4 H' := hext H4 (Nat.le_refl _) (by simp [go_sem])
    have h5 := h4.ext e45
    have hb5 := hb4.ext e45
    have hb4l := hb4.lt
    obtain ⟨k6, w6, h6, l6⟩ := h5.wrAk h.cov.l hp (s := .slice a5 n5 n5) (l := [] ++ [((n : Int), a.seq)]) (GSl.unhide (R := RAk) (B := []) RAk.monoL hg' (fun q hq => by have := hSl q hq; omega) ⟨Nat.zero_le _, fun b k hk => by simp at hk⟩) ⟨by simp, fun e => by simp at e⟩
    have hb6 := hb5.ofRt h.cov h.ne l6
    have h5l := h5.lt
    simp [go_sem, w6, h5l]
    refine hk _ _ (by have := e45.len; simp; omega) ((le4.trans (LeC.ext e45)).trans (LeC.ofR l6)) ⟨h6, hb6, h.cov, h.ne, hok1, ?_, h.hid, h.hseq, hown1⟩ ?_
    · intro x y hx hy q1 q2
      refine h.one x y hx hy ?_ ?_
      · by_cases e : x = p
        · subst e; simpa [upd_self] using q1
        · simpa [upd_ne e] using q1
      · by_cases e : y = p
        · subst e; simpa [upd_self] using q2
        · simpa [upd_ne e] using q2
    · intro q
      by_cases e : q = p
      · subst e; simp [upd_self]
      · simp [upd_ne e]
  simp [go_sem]
  refine Br.forkD (fun c2 => ?_) (fun c2 => ?_)
  · simp [go_sem, rn0, lx1]
    refine post_spec h1 h.cov.l hp hj fun H4 l4 le4 h4 => ?_
    simp [go_sem]
    exact hk H4 pt (by omega) (le1.trans (LeC.ofR le4)) ⟨h4, hb1.ofRt h.cov h.ne le4, h.cov, h.ne, hok1, h.one, h.hid, h.hseq, hown1⟩ (fun _ => rfl)
  obtain ⟨w, rw'⟩ := h1.rdWait hp hj
  obtain ⟨v, rv'⟩ := h1.rdSend hp hj
  have last : True := trivial
  simp [go_sem]
  refine Wc.drawn mixed (by kernel_rfl) ?_
  simp [go_sem, rn0, lx1, hj16, rw', h1l]
  have stores : ∀ x : Bool, x = true ∨ x = false := fun x => by cases x <;> simp
  by_cases cw : 0 < w
  · cases v with
    | false =>
      simp [go_sem, cw, rn0, lx1, hj16, rv', h1l]
      obtain ⟨k1, w1, h2, l2⟩ := h1.wrWait h.cov.l hp hj 0
      refine Wc.drawnS (fun c => c = H.length) mixed (by kernel_rfl) ?_
      simp [go_sem, rn0, hj16, w1, h1l]
      refine ⟨keepS_set (by omega), ?_⟩
      exact hk _ pt (by simp; omega) (le1.trans (LeC.ofR l2)) ⟨h2, hb1.ofRt h.cov h.ne l2, h.cov, h.ne, hok1, h.one, h.hid, h.hseq, hown1⟩ (fun _ => rfl)
    | true =>
      simp [go_sem, cw, rn0, lx1, hj16, rv', h1l]
      obtain ⟨k1, w1, h2, l2⟩ := h1.wrWait h.cov.l hp hj 0
      obtain ⟨k2, w2, h3, l3⟩ := h2.wrSend h.cov.l hp hj false
      have hb3 := (hb1.ofRt h.cov h.ne l2).ofRt h.cov h.ne l3
      have bx2 : ((H1.set r k1).set r k2)[H.length]? = some ⟨[.int .i64 n, .int .i64 a.seq, .int .i64 a.age, .slice al a.links.length c], 0, true, .live⟩ := by
        rw [List.getElem?_set_ne (by omega), List.getElem?_set_ne (by omega)]; exact bx1
      rw [List.set_set] at w2 h3 hb3 bx2
      have le3 := (le1.trans (LeC.ofR l2)).trans (LeC.ofR l3)
      rw [List.set_set] at le3
      refine Wc.drawnS (fun c => c = H.length) mixed (by kernel_rfl) ?_
      simp [go_sem, rn0, hj16, w1, w2, h1l]
      have kne : ¬ r = H.length := by omega
      refine ⟨keepS_set (by omega), keepS_set2 (by omega), ?_⟩
      have len3 : (H1.set r k2).length = H1.length := by simp
      generalize H1.set r k2 = H2 at h3 hb3 bx2 le3 len3
      have h4 := h3
      have hb4 := hb3
      have bx4 := bx2
      have le4 := le3
      generalize hH4 : H2 = H4 at h4 hb4 bx4 le4
      have rn4 := rd_one bx4 (off := 0) rfl
      have rs4 := rd_one bx4 (off := 1) rfl
      have l4 := (List.getElem?_eq_some_iff.1 bx4).1
      have h4l := h4.lt
      obtain ⟨sk, rk, hsk, _, hskn⟩ := h4.rdAk hp
      rw [hskn hak] at rk
      refine Wc.drawnG [4, 6, 8] [10] (fun c => c = r ∨ c = H.length) mixed (by kernel_rfl) ?_
      simp [go_sem, rk, h4l, rn4, rs4, l4]
      refine op2_append (R := RAk) (sz := 2) (m := H4.length) (xs := []) (ys := [((n : Int), a.seq)]) (l := [.int .i64 n, .int .i64 a.seq]) GSl.nil RAk.monoL (by simp [newBlk_length])
        u123 z141 i141 s141 rfl (by omega) (by rw [b141]; omega) (news_one u123 rfl (by simp [go_sem])) (by simp) (by simp) ?_ (by simp) ?_
      · intro k y hy
        have hk0 : k = 0 := by have := (List.getElem?_eq_some_iff.1 hy).1; simp at this; omega
        subst hk0
        simp at hy
        subst hy
        rfl
      intro s' H' hg' hkeep hlt hext hat hle
      obtain ⟨a5, n5, rfl⟩ : ∃ a n, s' = .slice a n n := by obtain ⟨a, e⟩ := hg'.shape; exact ⟨a, _, e⟩
      have e45 : Ext H4 H' := hext H4 (Nat.le_refl _) (by simp [go_sem])
      have h5 := h4.ext e45
      have hb5 := hb4.ext e45
      have hb4l := hb4.lt
      obtain ⟨k6, w6, h6, l6⟩ := h5.wrAk h.cov.l hp (s := .slice a5 n5 n5) (l := [] ++ [((n : Int), a.seq)]) (GSl.unhide (R := RAk) (B := []) RAk.monoL hg' (fun q hq => by have := hSl q hq; omega) ⟨Nat.zero_le _, fun b k hk => by simp at hk⟩) ⟨by simp, fun e => by simp at e⟩
      have hb6 := hb5.ofRt h.cov h.ne l6
      have h5l := h5.lt
      simp [go_sem, w6, h5l]
      refine hk _ _ (by have := e45.len; simp; omega) ((le4.trans (LeC.ext e45)).trans (LeC.ofR l6)) ⟨h6, hb6, h.cov, h.ne, hok1, ?_, h.hid, h.hseq, hown1⟩ ?_
      · intro x y hx hy q1 q2
        refine h.one x y hx hy ?_ ?_
        · by_cases e : x = p
          · subst e; simpa [upd_self] using q1
          · simpa [upd_ne e] using q1
        · by_cases e : y = p
          · subst e; simpa [upd_self] using q2
          · simpa [upd_ne e] using q2
      · intro q
        by_cases e : q = p
        · subst e; simp [upd_self]
        · simp [upd_ne e]
  · simp [go_sem, cw]
    obtain ⟨k1, w1, h2, l2⟩ := h1.wrWait h.cov.l hp hj 0
    obtain ⟨k2, w2, h3, l3⟩ := h2.wrSend h.cov.l hp hj false
    have hb3 := (hb1.ofRt h.cov h.ne l2).ofRt h.cov h.ne l3
    have bx2 : ((H1.set r k1).set r k2)[H.length]? = some ⟨[.int .i64 n, .int .i64 a.seq, .int .i64 a.age, .slice al a.links.length c], 0, true, .live⟩ := by
      rw [List.getElem?_set_ne (by omega), List.getElem?_set_ne (by omega)]; exact bx1
    rw [List.set_set] at w2 h3 hb3 bx2
    have le3 := (le1.trans (LeC.ofR l2)).trans (LeC.ofR l3)
    rw [List.set_set] at le3
    refine Wc.drawnS (fun c => c = H.length) mixed (by kernel_rfl) ?_
    simp [go_sem, rn0, hj16, w1, w2, h1l]
    have kne : ¬ r = H.length := by omega
    refine ⟨keepS_set (by omega), keepS_set2 (by omega), ?_⟩
    have len3 : (H1.set r k2).length = H1.length := by simp
    generalize H1.set r k2 = H2 at h3 hb3 bx2 le3 len3
    have h4 := h3
    have hb4 := hb3
    have bx4 := bx2
    have le4 := le3
    generalize hH4 : H2 = H4 at h4 hb4 bx4 le4
    have rn4 := rd_one bx4 (off := 0) rfl
    have rs4 := rd_one bx4 (off := 1) rfl
    have l4 := (List.getElem?_eq_some_iff.1 bx4).1
    have h4l := h4.lt
    obtain ⟨sk, rk, hsk, _, hskn⟩ := h4.rdAk hp
    rw [hskn hak] at rk
    refine Wc.drawnG [4, 6, 8] [10] (fun c => c = r ∨ c = H.length) mixed (by kernel_rfl) ?_
    simp [go_sem, rk, h4l, rn4, rs4, l4]
    refine op2_append (R := RAk) (sz := 2) (m := H4.length) (xs := []) (ys := [((n : Int), a.seq)]) (l := [.int .i64 n, .int .i64 a.seq]) GSl.nil RAk.monoL (by simp [newBlk_length])
      u123 z141 i141 s141 rfl (by omega) (by rw [b141]; omega) (news_one u123 rfl (by simp [go_sem])) (by simp) (by simp) ?_ (by simp) ?_
    · intro k y hy
      have hk0 : k = 0 := by have := (List.getElem?_eq_some_iff.1 hy).1; simp at this; omega
      subst hk0
      simp at hy
      subst hy
      rfl
    intro s' H' hg' hkeep hlt hext hat hle
    obtain ⟨a5, n5, rfl⟩ : ∃ a n, s' = .slice a n n := by obtain ⟨a, e⟩ := hg'.shape; exact ⟨a, _, e⟩
    have e45 : Ext H4 H' := hext H4 (Nat.le_refl _) (by simp [go_sem])
    have h5 := h4.ext e45
    have hb5 := hb4.ext e45
    have hb4l := hb4.lt
    obtain ⟨k6, w6, h6, l6⟩ := h5.wrAk h.cov.l hp (s := .slice a5 n5 n5) (l := [] ++ [((n : Int), a.seq)]) (GSl.unhide (R := RAk) (B := []) RAk.monoL hg' (fun q hq => by have := hSl q hq; omega) ⟨Nat.zero_le _, fun b k hk => by simp at hk⟩) ⟨by simp, fun e => by simp at e⟩
    have hb6 := hb5.ofRt h.cov h.ne l6
    have h5l := h5.lt
    simp [go_sem, w6, h5l]
    refine hk _ _ (by have := e45.len; simp; omega) ((le4.trans (LeC.ext e45)).trans (LeC.ofR l6)) ⟨h6, hb6, h.cov, h.ne, hok1, ?_, h.hid, h.hseq, hown1⟩ ?_
    · intro x y hx hy q1 q2
      refine h.one x y hx hy ?_ ?_
      · by_cases e : x = p
        · subst e; simpa [upd_self] using q1
        · simpa [upd_ne e] using q1
      · by_cases e : y = p
        · subst e; simpa [upd_self] using q2
        · simpa [upd_ne e] using q2
    · intro q
      by_cases e : q = p
      · subst e; simp [upd_self]
      · simp [upd_ne e]
end
end Go.Proofs.Ytlljiccilldnaaa.Fl
