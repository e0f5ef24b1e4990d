/- Up, Down, Tick, and In of what is no message. -/
import Derived.Test.YtlljiccilldnaaaFl6
set_option linter.unusedVariables false
set_option linter.unusedSimpArgs false
set_option maxRecDepth 10000
set_option maxHeartbeats 1000000
namespace Go.Proofs.Ytlljiccilldnaaa.Fl
open Go Go.Am
open Go.Proofs.Ytlljiccilldnaaa.Fx Go.Proofs.Ytlljiccilldnaaa.Ad
open Go.Proofs.Ytlljiccilldnaaa.Ba (wrap_small wrap_succ sameInts_spec)
variable {H : Heap} {K : Value → Heap → Prop}

theorem _root_.Go.Am.GSl.of {α : Type} {R R' : Heap → α → List Value → Prop} {sz m : Nat} {H : Heap} {s : Value} {xs : List α} (h : GSl R sz m H s xs) (hR : ∀ x c, R (hide (atB s) H) x c → R' (hide (atB s) H) x c) : GSl R' sz m H s xs := by
  obtain ⟨cells, h1, h2, h3⟩ := h.ex
  exact ⟨cells, h1, fun i x hx => hR _ _ (h2 i x hx), h3⟩
theorem newBad_spec {id : Int} (hid : ¬ (0 ≤ id ∧ id < 16)) (hk : K (.tuple #[.pointer none, .int .i64 10]) H) : Wcall Try.prog 38 #[.int .i64 id] H K := by
  refine call_body (rs := #[.tmp 2, .tmp 3]) Try.func38 rfl Try.ntmps38 rfl rfl (by simp) ?_
  simp [go_sem]
  refine Gd.forkN (fun d1 => ?_) (fun d1 => ?_)
  rotate_left
  · simp [go_sem, d1]
    exact hk
  simp [go_sem, d1]
  refine Br.forkD (fun d2 => ?_) (fun d2 => ?_)
  · simp [go_sem, d1, d2]
    exact hk
  simp [go_sem, d1, d2]
  omega

section
variable {S : Nat → Bool} {r b : Nat} {id seq now : Int} {pt : Nat → Port} {st : Nat → Option Adv}

/-- 'Down' of a port that is not used. -/
theorem down_spec (h : Rtr S H r b id seq now pt st) {port : Int} (hn : ∀ p : Nat, p < 8 → port = p → (pt p).up = false) (hk : K (.tuple #[.slice none 0 0, .int .i64 (if port < 0 ∨ port > 7 then 10 else 4)]) H) : Wcall Try.prog 51 #[.pointer (some ⟨r, 0, none⟩), .int .i64 port] H K := by
  refine call_body (rs := #[.tmp 4, .tmp 5]) Try.func51 rfl Try.ntmps51 rfl rfl (by simp) ?_
  have hrl := h.rt.lt
  simp [go_sem]
  refine Gd.forkN (fun d1 => ?_) (fun d1 => ?_)
  rotate_left
  · simp [go_sem, d1]
    rw [if_pos (by omega)] at hk; exact hk
  simp [go_sem, d1]
  refine Br.forkD (fun d2 => ?_) (fun d2 => ?_)
  · simp [go_sem, d1, d2]
    rw [if_pos (by omega)] at hk; exact hk
  simp [go_sem, d1, d2]
  rw [if_neg (by omega)] at hk
  obtain ⟨p, rfl⟩ : ∃ p : Nat, port = p := ⟨port.toNat, by omega⟩
  have hp : p < 8 := by omega
  have ru := h.rt.rdUp hp
  rw [hn p hp rfl] at ru
  have hp8 : (p : Int) < 8 := by omega
  simp [go_sem, hp8, ru, hrl]
  exact hk

/-- 'Up', refused. -/
theorem upBad_spec (h : Rtr S H r b id seq now pt st) {port peer cost e : Int} (hf : ((port < 0 ∨ port > 7 ∨ peer < 0 ∨ peer > 15 ∨ cost < 1 ∨ cost > 65535) ∧ e = 10) ∨ (¬ (port < 0 ∨ port > 7 ∨ peer < 0 ∨ peer > 15 ∨ cost < 1 ∨ cost > 65535) ∧ ((peer = id ∧ e = 1) ∨ (peer ≠ id ∧ (pt port.toNat).up = true ∧ e = 6))))
    (hk : K (.tuple #[.slice none 0 0, .int .i64 e]) H) : Wcall Try.prog 39 #[.pointer (some ⟨r, 0, none⟩), .int .i64 port, .int .i64 peer, .int .i64 cost] H K := by
  refine call_body (rs := #[.tmp 8, .tmp 9]) Try.func39 rfl Try.ntmps39 rfl rfl (by simp) ?_
  have hrl := h.rt.lt
  have ri := h.rt.rdId
  simp [go_sem]
  refine Gd.forkN (fun d1 => ?_) (fun d1 => ?_)
  rotate_left
  · simp [go_sem, d1]
    obtain rfl : e = 10 := by omega
    exact hk
  simp [go_sem, d1]
  refine Gd.forkN (fun d2 => ?_) (fun d2 => ?_)
  rotate_left
  · simp [go_sem, d1, d2]
    obtain rfl : e = 10 := by omega
    exact hk
  simp [go_sem, d1, d2]
  refine Gd.forkN (fun d3 => ?_) (fun d3 => ?_)
  rotate_left
  · simp [go_sem, d1, d2, d3]
    obtain rfl : e = 10 := by omega
    exact hk
  simp [go_sem, d1, d2, d3]
  refine Gd.forkN (fun d4 => ?_) (fun d4 => ?_)
  rotate_left
  · simp [go_sem, d1, d2, d3, d4]
    obtain rfl : e = 10 := by omega
    exact hk
  simp [go_sem, d1, d2, d3, d4]
  refine Gd.forkN (fun d5 => ?_) (fun d5 => ?_)
  rotate_left
  · simp [go_sem, d1, d2, d3, d4, d5]
    obtain rfl : e = 10 := by omega
    exact hk
  simp [go_sem, d1, d2, d3, d4, d5]
  refine Br.forkD (fun d6 => ?_) (fun d6 => ?_)
  · simp [go_sem, d1, d2, d3, d4, d5, d6]
    obtain rfl : e = 10 := by omega
    exact hk
  simp [go_sem, d1, d2, d3, d4, d5, d6]
  simp [go_sem, ri, hrl]
  refine Br.forkD (fun d7 => ?_) (fun d7 => ?_)
  · simp [go_sem]
    obtain rfl : e = 1 := by omega
    exact hk
  obtain ⟨p, rfl⟩ : ∃ p : Nat, port = p := ⟨port.toNat, by omega⟩
  have hp : p < 8 := by omega
  have ru := h.rt.rdUp hp
  have hp8 : (p : Int) < 8 := by omega
  have hu : (pt p).up = true ∧ e = 6 := by
    rcases hf with h | ⟨_, h | h⟩
    · omega
    · exact absurd h.1 d7
    · simpa using h.2
  rw [hu.1] at ru
  obtain ⟨_, rfl⟩ := hu
  simp [go_sem, hp8, ru, hrl]
  exact hk

theorem noAk_up {p : Nat} {i : Nat} : (noAk pt i p).up = (pt p).up := by unfold noAk; split <;> rfl
theorem noAk_ak {p : Nat} (hp : p < 8) : (noAk pt 8 p).ak = [] := by unfold noAk; rw [if_pos hp]

/-- 'Up' of the first line. -/
theorem upOk_spec (h : Rtr S H r b id seq now pt st) (hSl : ∀ q, S q = true → q < H.length) {p : Nat} {peer cost : Int} (hp : p < 8) (hpe : 0 ≤ peer ∧ peer ≤ 15) (hco : 1 ≤ cost ∧ cost ≤ 65535) (hid : peer ≠ id) (hno : ∀ q, q < 8 → (pt q).up = false)
    (hk : ∀ H' s' pt' st', H.length ≤ H'.length → LeC r b H H' → Rtr S H' r b id (seqUp seq) now pt' st' → (∀ q, q < 8 → ((pt' q).up = true ↔ q = p)) → (∀ q, q < 8 → (pt' q).ak = []) → (∀ i, i ≠ id.toNat → st' i = st i) → K (.tuple #[s', .int .i64 0]) H') :
    Wcall Try.prog 39 #[.pointer (some ⟨r, 0, none⟩), .int .i64 p, .int .i64 peer, .int .i64 cost] H K := by
  refine call_body (rs := #[.tmp 8, .tmp 9]) Try.func39 rfl Try.ntmps39 rfl rfl (by simp) ?_
  have hrl := h.rt.lt
  have ri := h.rt.rdId
  have hp8 : (p : Int) < 8 := by omega
  have ru := h.rt.rdUp hp
  rw [hno p hp] at ru
  obtain ⟨k1, w1, h1, l1⟩ := h.rt.wrUp h.cov.l hp true
  obtain ⟨k2, w2, h2, l2⟩ := h1.wrPeer h.cov.l hp peer
  obtain ⟨k3, w3, h3, l3⟩ := h2.wrCost h.cov.l hp cost
  have hb3 := ((h.ba.ofRt h.cov h.ne l1).ofRt h.cov h.ne l2).ofRt h.cov h.ne l3
  have le3 : LeC r b H _ := ((LeC.ofR l1).trans (LeC.ofR l2)).trans (LeC.ofR l3)
  have e1 : ¬ (p : Int) < 0 := by omega
  have e2 : ¬ (8 : Int) ≤ p := by omega
  have e3 : ¬ peer < 0 := by omega
  have e4 : ¬ (16 : Int) ≤ peer := by omega
  have e5 : ¬ cost < 1 := by omega
  have e6 : ¬ (65535 : Int) < cost := by omega
  have ept : upd (upd (upd pt p { pt p with up := true }) p { upd pt p { pt p with up := true } p with peer := peer }) p { upd (upd pt p { pt p with up := true }) p { upd pt p { pt p with up := true } p with peer := peer } p with cost := cost } = upd pt p ⟨true, peer, cost, (pt p).ak⟩ := by
    funext q
    unfold upd
    by_cases hq : q = p <;> simp [hq]
  rw [ept] at h3
  generalize hpt : upd pt p ⟨true, peer, cost, (pt p).ak⟩ = pt1 at h3
  have hup1 : ∀ q, q < 8 → ((pt1 q).up = true ↔ q = p) := fun q hq => by
    rw [← hpt]
    by_cases e : q = p
    · subst e; simp [upd_self]
    · rw [upd_ne e, hno q hq]; simp [e]
  have hone : One pt1 := fun x y hx hy h1 h2 => ((hup1 x hx).1 h1).trans ((hup1 y hy).1 h2).symm
  rw [List.set_set] at w2 w3 h3 hb3 le3
  rw [List.set_set] at w3 h3 hb3 le3
  simp [go_sem, e1, e2, e3, e4, e5, e6, ri, hrl, hid, hp8, ru, w1, w2, w3]
  have hlen3 : (H.set r k3).length = H.length := by simp
  generalize H.set r k3 = H3 at h3 hb3 le3 hlen3
  refine ownR_spec h3 hb3 h.cov (fun q hq => by have := hSl q hq; omega) h.ne h.ok hone h.hid h.hseq fun H4 l4 le4 h4 hb4 => ?_
  have hok4 := putSt_ok h.ok (ownAdv id seq pt1)
  have hs4 := putSt_some (a := ownAdv id seq pt1) h.own
  have ho4 : ∀ i, i ≠ id.toNat → putSt st (ownAdv id seq pt1) i = st i := fun i hi => putSt_other hi
  generalize putSt st (ownAdv id seq pt1) = st1 at hb4 hok4 hs4 ho4
  have rb := h4.rdBase
  have h4l := h4.lt
  simp [go_sem, rb, h4l]
  refine listG_spec (get_two h.cov hb4) (fun i => by have := hok4.links i; omega) fun H5 s5 e5' hg5 => ?_
  have hgi := hg5.of (R' := fun _ x c => ∃ s, c = advC x s) fun x c ⟨s, h, _⟩ => ⟨s, h⟩
  obtain ⟨a5, rfl⟩ := hg5.shape
  have h5 := h4.ext e5'
  have hb5 := hb4.ext e5'
  have hll := listL_len st1 16
  have hmem : ∀ y ∈ listL st1 16, 0 ≤ y.id ∧ y.id < 16 := fun y hy => ⟨(mem_listL hok4 hy).2.1, (mem_listL hok4 hy).2.2.1⟩
  generalize listL st1 16 = all at *
  simp [go_sem]
  refine Wc.loopw 87 (fun i : Nat × Heap => [(0, .pointer (some ⟨r, 0, none⟩)), (1, .int .i64 p), (73, .slice a5 all.length all.length), (74, .int .i64 all.length), (75, .int .i64 i.1)]) (fun i => i.2)
    (fun i => i.1 ≤ all.length ∧ H5.length ≤ i.2.length ∧ (∀ S' : Nat → Bool, S' r = true → Le (hide S' H5) (hide S' i.2)) ∧ RtAt S i.2 r b id (seqUp seq) now pt1) (fun i => all.length - i.1) (0, _)
    ⟨Nat.zero_le _, Nat.le_refl _, fun _ _ => Le.refl _, h5⟩ (by simp [go_sem]) rfl (by simp [go_sem]) ?_
  rintro ⟨i, H6⟩ ⟨hi, l6, le6, h6⟩
  simp only at hi l6 le6 h6
  simp [go_sem]
  refine Br.forkD (fun g => ?_) (fun g => ?_)
  · have hsl : Sl (fun _ x c => ∃ s, c = advC x s) 4 H6 (.slice a5 all.length all.length) all := (hgi.frame (fun q k hq hk => by
      have hq4 := (hgi.lt hq).1
      obtain ⟨cells, _, _, hx⟩ := hgi.ex
      refine le_get (le6 (Am.one r) (by simp [Am.one])) hk ?_ (one_ne (by omega))
      rcases hx with ⟨_, he⟩ | ⟨b', k', _, he, _, hk', _, hm, _⟩
      · rw [he] at hq; simp [atB] at hq
      · rw [he] at hq
        simp [atB, Am.one] at hq
        subst hq
        rw [hk'] at hk; cases hk
        rw [hm]; simp) (fun _ _ _ h => h)).sl (fun _ _ _ _ _ h => h)
    obtain ⟨b', off, cells, rfl, _, _, hr, sx, hc⟩ := hsl.get g
    have hym := hmem _ (List.getElem_mem g)
    generalize all[i] = y at hc hym
    unfold advC at hc
    subst hc
    obtain ⟨n, hn⟩ : ∃ n : Nat, y.id = n := ⟨y.id.toNat, by omega⟩
    have e67 : Ext H6 (newBlk H6 [.int .i64 y.id, .int .i64 y.seq, .int .i64 y.age, sx]) := by simp [go_sem]
    simp [go_sem, hr, g, hn]
    rw [hn] at e67
    refine post_spec (h6.ext e67) h.cov.l hp (j := n) (by omega) fun H7 l7 le7 h7 => ?_
    simp [go_sem]
    exact loopK_next (i + 1, H7) ⟨by simp only; omega, by simp [newBlk_length] at l7; simp only; omega, fun S' hS' => ((le6 S' hS').trans (hide_ext e67)).trans (le7 S' hS'), h7⟩ (by simp only; omega) rfl (by simp [go_sem]) (by simp [go_sem, wrap_succ (i := i) (by omega)])
  · simp [go_sem]
    have hb6 := hb5.ofRt h.cov h.ne le6
    refine sentR_spec h6 hb6 h.cov h.ne hok4 fun H7 s7 l7 le7 h7 hb7 => ?_
    simp [go_sem]
    refine hk H7 s7 (noAk pt1 8) st1 (by have := e5'.len; omega) ((((le3.trans le4).trans (LeC.ext e5')).trans (LeC.ofR le6)).trans le7) ⟨h7, hb7, h.cov, h.ne, hok4, fun x y hx hy h1 h2 => hone x y hx hy (by rw [← noAk_up (pt := pt1) (i := 8)]; exact h1) (by rw [← noAk_up (pt := pt1) (i := 8)]; exact h2), h.hid, by have := h.hseq; unfold seqUp; omega, hs4⟩
      (fun q hq => by rw [noAk_up]; exact hup1 q hq) (fun q hq => noAk_ak hq) ho4
end
end Go.Proofs.Ytlljiccilldnaaa.Fl
