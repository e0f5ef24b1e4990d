/- The routing process of a router in memory; marks. -/
import Derived.Test.YtlljiccilldnaaaAd16
set_option linter.unusedVariables false
set_option linter.unusedSimpArgs false
set_option maxRecDepth 10000
namespace Go.Proofs.Ytlljiccilldnaaa.Fl
open Go Go.Am
open Go.Proofs.Ytlljiccilldnaaa.Fx Go.Proofs.Ytlljiccilldnaaa.Ad
open Go.Proofs.Ytlljiccilldnaaa.Ba (wrap_small wrap_succ sameInts_spec)
variable {H : Heap} {K : Value → Heap → Prop}

def RAk (H : Heap) (x : Int × Int) (cells : List Value) : Prop := cells = [.int .i64 x.1, .int .i64 x.2]
theorem RAk.monoL : MonoL RAk := fun _ _ _ _ _ h => h

/-- What is known of a port. -/
structure Port where
  up : Bool
  peer : Int
  cost : Int
  ak : List (Int × Int)

structure PortAt (S : Nat → Bool) (H : Heap) (cells : List Value) (o : Nat) (x : Port) : Prop where
  up : cells[o]? = some (.bool x.up)
  peer : cells[o + 1]? = some (.int .i64 x.peer)
  cost : cells[o + 2]? = some (.int .i64 x.cost)
  wait : ∀ j, j < 16 → ∃ w, cells[o + 3 + j]? = some (.int .i64 w)
  send : ∀ j, j < 16 → ∃ v, cells[o + 19 + j]? = some (.bool v)
  ak : ∃ s, cells[o + 35]? = some s ∧ Sl RAk 2 (hide S H) s x.ak ∧ x.ak.length ≤ 1 ∧ (x.ak = [] → s = .slice none 0 0)

theorem PortAt.le {S S' : Nat → Bool} {H H' : Heap} {cells : List Value} {o : Nat} {x : Port} (h : PortAt S H cells o x) (hl : Le (hide S H) (hide S' H')) : PortAt S' H' cells o x := by
  obtain ⟨s, h1, h2, h3⟩ := h.ak
  exact ⟨h.up, h.peer, h.cost, h.wait, h.send, s, h1, h2.le RAk.monoL hl, h3⟩

/-- A router's block. -/
structure RtAt (S : Nat → Bool) (H : Heap) (r b : Nat) (id seq now : Int) (pt : Nat → Port) : Prop where
  ex : ∃ cells : List Value, H[r]? = some ⟨cells, 0, true, .live⟩ ∧ cells.length = 292 ∧ cells[0]? = some (.int .i64 id) ∧ cells[1]? = some (.int .i64 seq) ∧ cells[2]? = some (.int .i64 now) ∧ cells[3]? = some (.pointer (some ⟨b, 0, none⟩)) ∧
    ∀ p, p < 8 → PortAt S H cells (4 + p * 36) (pt p)
section
variable {S : Nat → Bool} {r b : Nat} {id seq now : Int} {pt : Nat → Port}
theorem RtAt.lt (h : RtAt S H r b id seq now pt) : r < H.length := by obtain ⟨cells, h1, _⟩ := h.ex; exact (List.getElem?_eq_some_iff.1 h1).1
theorem RtAt.keep (h : RtAt S H r b id seq now pt) {S' : Nat → Bool} {H' : Heap} (hr : H'[r]? = H[r]?) (hl : Le (hide S H) (hide S' H')) : RtAt S' H' r b id seq now pt := by
  obtain ⟨cells, h1, h2, h3, h4, h5, h6, h7⟩ := h.ex
  exact ⟨cells, hr.trans h1, h2, h3, h4, h5, h6, fun p hp => (h7 p hp).le hl⟩
theorem RtAt.ext (h : RtAt S H r b id seq now pt) {H' : Heap} (he : Ext H H') : RtAt S H' r b id seq now pt := h.keep (he.get h.lt) (hide_ext he)

theorem rd_one {H : Heap} {b off : Nat} {cells : List Value} {sz : Nat} {t : Bool} {v : Value} (h : H[b]? = some ⟨cells, sz, t, .live⟩) (hv : cells[off]? = some v) : rdBlk H b off 1 = some [v] := by
  obtain ⟨hi, rfl⟩ := List.getElem?_eq_some_iff.1 hv
  rw [rd_at h (by omega), List.drop_eq_getElem_cons hi]
  rfl
theorem RtAt.rdId (h : RtAt S H r b id seq now pt) : rdBlk H r 0 1 = some [.int .i64 id] := by obtain ⟨cells, h1, h2, h3, h4, h5, h6, h7⟩ := h.ex; exact rd_one h1 h3
theorem RtAt.rdSeq (h : RtAt S H r b id seq now pt) : rdBlk H r 1 1 = some [.int .i64 seq] := by obtain ⟨cells, h1, h2, h3, h4, h5, h6, h7⟩ := h.ex; exact rd_one h1 h4
theorem RtAt.rdNow (h : RtAt S H r b id seq now pt) : rdBlk H r 2 1 = some [.int .i64 now] := by obtain ⟨cells, h1, h2, h3, h4, h5, h6, h7⟩ := h.ex; exact rd_one h1 h5
theorem RtAt.rdBase (h : RtAt S H r b id seq now pt) : rdBlk H r 3 1 = some [.pointer (some ⟨b, 0, none⟩)] := by obtain ⟨cells, h1, h2, h3, h4, h5, h6, h7⟩ := h.ex; exact rd_one h1 h6
theorem RtAt.rdUp (h : RtAt S H r b id seq now pt) {p : Nat} (hp : p < 8) : rdBlk H r (4 + p * 36) 1 = some [.bool (pt p).up] := by obtain ⟨cells, h1, h2, h3, h4, h5, h6, h7⟩ := h.ex; exact rd_one h1 (h7 p hp).up

/-- One cell of the router changes. -/
theorem RtAt.wr (h : RtAt S H r b id seq now pt) (hS : S r = true) {off : Nat} {v : Value} {id' seq' now' : Int} {pt' : Nat → Port} (ho : off < 292) (ho3 : off ≠ 3)
    (h0 : off ≠ 0 → id' = id) (h0' : off = 0 → v = .int .i64 id') (h1 : off ≠ 1 → seq' = seq) (h1' : off = 1 → v = .int .i64 seq') (h2 : off ≠ 2 → now' = now) (h2' : off = 2 → v = .int .i64 now')
    (hp : ∀ p, p < 8 → (off < 4 + p * 36 ∨ 4 + p * 36 + 36 ≤ off → pt' p = pt p) ∧ ∀ j, j < 36 → off = 4 + p * 36 + j → (j = 0 → v = .bool (pt' p).up ∧ (pt' p).peer = (pt p).peer ∧ (pt' p).cost = (pt p).cost ∧ (pt' p).ak = (pt p).ak) ∧
      (j = 1 → v = .int .i64 (pt' p).peer ∧ (pt' p).up = (pt p).up ∧ (pt' p).cost = (pt p).cost ∧ (pt' p).ak = (pt p).ak) ∧ (j = 2 → v = .int .i64 (pt' p).cost ∧ (pt' p).up = (pt p).up ∧ (pt' p).peer = (pt p).peer ∧ (pt' p).ak = (pt p).ak) ∧
      (3 ≤ j → j < 19 → (∃ w, v = .int .i64 w) ∧ pt' p = pt p) ∧ (19 ≤ j → j < 35 → (∃ w, v = .bool w) ∧ pt' p = pt p) ∧
      (j = 35 → Sl RAk 2 (hide S H) v (pt' p).ak ∧ ((pt' p).ak.length ≤ 1 ∧ ((pt' p).ak = [] → v = .slice none 0 0)) ∧ (pt' p).up = (pt p).up ∧ (pt' p).peer = (pt p).peer ∧ (pt' p).cost = (pt p).cost)) :
    ∃ k, wrBlk H r off [v] = some (H.set r k) ∧ RtAt S (H.set r k) r b id' seq' now' pt' ∧ ∀ S' : Nat → Bool, S' r = true → Le (hide S' H) (hide S' (H.set r k)) := by
  obtain ⟨cells, e1, e2, e3, e4, e5, e6, e7⟩ := h.ex
  have hle : off + [v].length ≤ cells.length := by simp; omega
  have hw := wr_at e1 hle
  have hlen := splice_len hle
  have hg : ∀ j, (cells.take off ++ [v] ++ cells.drop (off + [v].length))[j]? = if j = off then some v else cells[j]? := fun j => by
    rw [splice_get hle]
    by_cases e : j = off
    · subst e; simp
    · rw [if_neg e, if_neg]; simp; omega
  generalize cells.take off ++ [v] ++ cells.drop (off + [v].length) = N at hw hlen hg
  have hl : ∀ S' : Nat → Bool, S' r = true → Le (hide S' H) (hide S' (H.set r ⟨N, 0, true, .live⟩)) := fun S' hS' => hide_set hS' e1 rfl rfl
  refine ⟨_, hw, ⟨_, List.getElem?_set_self h.lt, hlen.trans e2, ?_, ?_, ?_, ?_, fun p hp8 => ?_⟩, hl⟩
  · rw [hg]; split
    · rename_i e; rw [h0' e.symm]
    · rename_i e; rw [h0 (fun h => e h.symm)]; exact e3
  · rw [hg]; split
    · rename_i e; rw [h1' e.symm]
    · rename_i e; rw [h1 (fun h => e h.symm)]; exact e4
  · rw [hg]; split
    · rename_i e; rw [h2' e.symm]
    · rename_i e; rw [h2 (fun h => e h.symm)]; exact e5
  · rw [hg, if_neg (fun h => ho3 h.symm)]; exact e6
  · obtain ⟨q1, q2⟩ := hp p hp8
    have old := (e7 p hp8).le (hl S hS)
    by_cases hin : off < 4 + p * 36 ∨ 4 + p * 36 + 36 ≤ off
    · rw [q1 hin]
      have g : ∀ j, j < 36 → N[4 + p * 36 + j]? = cells[4 + p * 36 + j]? := fun j hj => by rw [hg, if_neg (by omega)]
      obtain ⟨s, a1, a2, a3⟩ := old.ak
      exact ⟨by simpa using (g 0 (by omega)).trans old.up, (g 1 (by omega)).trans old.peer, (g 2 (by omega)).trans old.cost, fun j hj => by obtain ⟨w, hw⟩ := old.wait j hj; exact ⟨w, by rw [Nat.add_assoc, g _ (by omega), ← Nat.add_assoc]; exact hw⟩,
        fun j hj => by obtain ⟨w, hw⟩ := old.send j hj; exact ⟨w, by rw [Nat.add_assoc, g _ (by omega), ← Nat.add_assoc]; exact hw⟩, s, (g 35 (by omega)).trans a1, a2, a3⟩
    · obtain ⟨j, hj, hj36⟩ : ∃ j, off = 4 + p * 36 + j ∧ j < 36 := ⟨off - (4 + p * 36), by omega, by omega⟩
      subst hj
      obtain ⟨r0, r1, r2, r3, r4, r5⟩ := q2 j hj36 rfl
      obtain ⟨s, a1, a2, a3⟩ := old.ak
      have g : ∀ i, i ≠ j → N[4 + p * 36 + i]? = cells[4 + p * 36 + i]? := fun i hi => by rw [hg, if_neg (by omega)]
      have gs : N[4 + p * 36 + j]? = some v := by rw [hg, if_pos rfl]
      have gw : ∀ i, i < 16 → (3 + i = j → ∃ w, v = .int .i64 w) → ∃ w, N[4 + p * 36 + 3 + i]? = some (.int .i64 w) := fun i hi hw => by
        by_cases e : 3 + i = j
        · obtain ⟨w, rfl⟩ := hw e
          subst e
          exact ⟨w, by rw [Nat.add_assoc (4 + p * 36)]; exact gs⟩
        · obtain ⟨w, hw⟩ := old.wait i hi
          exact ⟨w, by rw [Nat.add_assoc (4 + p * 36), g _ e, ← Nat.add_assoc]; exact hw⟩
      have gv : ∀ i, i < 16 → (19 + i = j → ∃ w, v = .bool w) → ∃ w, N[4 + p * 36 + 19 + i]? = some (.bool w) := fun i hi hw => by
        by_cases e : 19 + i = j
        · obtain ⟨w, rfl⟩ := hw e
          subst e
          exact ⟨w, by rw [Nat.add_assoc (4 + p * 36)]; exact gs⟩
        · obtain ⟨w, hw⟩ := old.send i hi
          exact ⟨w, by rw [Nat.add_assoc (4 + p * 36), g _ e, ← Nat.add_assoc]; exact hw⟩
      have nw : ¬ (3 ≤ j ∧ j < 19) → ∀ i, i < 16 → ∃ w, N[4 + p * 36 + 3 + i]? = some (.int .i64 w) := fun hn i hi => gw i hi (fun e => by omega)
      have nv : ¬ (19 ≤ j ∧ j < 35) → ∀ i, i < 16 → ∃ w, N[4 + p * 36 + 19 + i]? = some (.bool w) := fun hn i hi => gv i hi (fun e => by omega)
      rcases Nat.lt_or_ge j 3 with c | c
      · match j, c with
        | 0, _ =>
          obtain ⟨z1, z2, z3, z4⟩ := r0 rfl
          exact ⟨by rw [← z1]; simpa using gs, by rw [z2]; exact (g 1 (by omega)).trans old.peer, by rw [z3]; exact (g 2 (by omega)).trans old.cost, nw (by omega), nv (by omega), s, (g 35 (by omega)).trans a1, by rw [z4]; exact a2, by rw [z4]; exact a3⟩
        | 1, _ =>
          obtain ⟨z1, z2, z3, z4⟩ := r1 rfl
          exact ⟨by rw [z2]; simpa using (g 0 (by omega)).trans old.up, by rw [← z1]; exact gs, by rw [z3]; exact (g 2 (by omega)).trans old.cost, nw (by omega), nv (by omega), s, (g 35 (by omega)).trans a1, by rw [z4]; exact a2, by rw [z4]; exact a3⟩
        | 2, _ =>
          obtain ⟨z1, z2, z3, z4⟩ := r2 rfl
          exact ⟨by rw [z2]; simpa using (g 0 (by omega)).trans old.up, by rw [z3]; exact (g 1 (by omega)).trans old.peer, by rw [← z1]; exact gs, nw (by omega), nv (by omega), s, (g 35 (by omega)).trans a1, by rw [z4]; exact a2, by rw [z4]; exact a3⟩
      · by_cases c2 : j < 19
        · obtain ⟨z1, z2⟩ := r3 c c2
          rw [z2]
          exact ⟨by simpa using (g 0 (by omega)).trans old.up, (g 1 (by omega)).trans old.peer, (g 2 (by omega)).trans old.cost, fun i hi => gw i hi (fun _ => z1), nv (by omega), s, (g 35 (by omega)).trans a1, a2, a3⟩
        · by_cases c3 : j < 35
          · obtain ⟨z1, z2⟩ := r4 (by omega) c3
            rw [z2]
            exact ⟨by simpa using (g 0 (by omega)).trans old.up, (g 1 (by omega)).trans old.peer, (g 2 (by omega)).trans old.cost, nw (by omega), fun i hi => gv i hi (fun _ => z1), s, (g 35 (by omega)).trans a1, a2, a3⟩
          · have : j = 35 := by omega
            subst this
            obtain ⟨z1, z2, z3, z4, z5⟩ := r5 rfl
            exact ⟨by rw [z3]; simpa using (g 0 (by omega)).trans old.up, by rw [z4]; exact (g 1 (by omega)).trans old.peer, by rw [z5]; exact (g 2 (by omega)).trans old.cost, nw (by omega), nv (by omega), v, gs, z1.le RAk.monoL (hl S hS), z2⟩

theorem RtAt.wrSeq (h : RtAt S H r b id seq now pt) (hS : S r = true) (x : Int) : ∃ k, wrBlk H r 1 [.int .i64 x] = some (H.set r k) ∧ RtAt S (H.set r k) r b id x now pt ∧ ∀ S' : Nat → Bool, S' r = true → Le (hide S' H) (hide S' (H.set r k)) :=
  h.wr hS (by omega) (by omega) (by omega) (by omega) (by omega) (fun _ => rfl) (by omega) (by omega)
    (fun q hq => ⟨fun _ => rfl, fun i hi36 hi => ⟨by omega, by omega, by omega, by omega, by omega, by omega⟩⟩)
theorem RtAt.wrNow (h : RtAt S H r b id seq now pt) (hS : S r = true) (x : Int) : ∃ k, wrBlk H r 2 [.int .i64 x] = some (H.set r k) ∧ RtAt S (H.set r k) r b id seq x pt ∧ ∀ S' : Nat → Bool, S' r = true → Le (hide S' H) (hide S' (H.set r k)) :=
  h.wr hS (by omega) (by omega) (by omega) (by omega) (by omega) (by omega) (by omega) (fun _ => rfl)
    (fun q hq => ⟨fun _ => rfl, fun i hi36 hi => ⟨by omega, by omega, by omega, by omega, by omega, by omega⟩⟩)
theorem RtAt.wrWait (h : RtAt S H r b id seq now pt) (hS : S r = true) {p j : Nat} (hp : p < 8) (hj : j < 16) (x : Int) : ∃ k, wrBlk H r (4 + p * 36 + 3 + j) [.int .i64 x] = some (H.set r k) ∧ RtAt S (H.set r k) r b id seq now pt ∧ ∀ S' : Nat → Bool, S' r = true → Le (hide S' H) (hide S' (H.set r k)) :=
  h.wr hS (by omega) (by omega) (by omega) (by omega) (by omega) (by omega) (by omega) (by omega)
    (fun q hq => ⟨fun _ => rfl, fun i hi36 hi => ⟨by omega, by omega, by omega, fun _ _ => ⟨⟨_, rfl⟩, rfl⟩, by omega, by omega⟩⟩)
theorem RtAt.wrSend (h : RtAt S H r b id seq now pt) (hS : S r = true) {p j : Nat} (hp : p < 8) (hj : j < 16) (x : Bool) : ∃ k, wrBlk H r (4 + p * 36 + 19 + j) [.bool x] = some (H.set r k) ∧ RtAt S (H.set r k) r b id seq now pt ∧ ∀ S' : Nat → Bool, S' r = true → Le (hide S' H) (hide S' (H.set r k)) :=
  h.wr hS (by omega) (by omega) (by omega) (by omega) (by omega) (by omega) (by omega) (by omega)
    (fun q hq => ⟨fun _ => rfl, fun i hi36 hi => ⟨by omega, by omega, by omega, by omega, fun _ _ => ⟨⟨_, rfl⟩, rfl⟩, by omega⟩⟩)
theorem RtAt.wrUp (h : RtAt S H r b id seq now pt) (hS : S r = true) {p : Nat} (hp : p < 8) (x : Bool) : ∃ k, wrBlk H r (4 + p * 36) [.bool x] = some (H.set r k) ∧ RtAt S (H.set r k) r b id seq now (upd pt p { pt p with up := x }) ∧ ∀ S' : Nat → Bool, S' r = true → Le (hide S' H) (hide S' (H.set r k)) :=
  h.wr hS (by omega) (by omega) (by omega) (by omega) (by omega) (by omega) (by omega) (by omega)
    (fun q hq => ⟨fun hh => upd_ne (by omega), fun i hi36 hi => by
      have e : q = p := by omega
      subst e
      simp only [upd_self]
      exact ⟨fun _ => ⟨by first | trivial | rfl | omega, by first | trivial | rfl | omega, by first | trivial | rfl | omega, by first | trivial | rfl | omega⟩, fun _ => ⟨by first | trivial | rfl | omega, by first | trivial | rfl | omega, by first | trivial | rfl | omega, by first | trivial | rfl | omega⟩, fun _ => ⟨by first | trivial | rfl | omega, by first | trivial | rfl | omega, by first | trivial | rfl | omega, by first | trivial | rfl | omega⟩, by omega, by omega, fun _ => ⟨by first | exact hs | omega, by first | exact hl | omega, by first | trivial | rfl | omega, by first | trivial | rfl | omega, by first | trivial | rfl | omega⟩⟩⟩)
theorem RtAt.wrPeer (h : RtAt S H r b id seq now pt) (hS : S r = true) {p : Nat} (hp : p < 8) (x : Int) : ∃ k, wrBlk H r (4 + p * 36 + 1) [.int .i64 x] = some (H.set r k) ∧ RtAt S (H.set r k) r b id seq now (upd pt p { pt p with peer := x }) ∧ ∀ S' : Nat → Bool, S' r = true → Le (hide S' H) (hide S' (H.set r k)) :=
  h.wr hS (by omega) (by omega) (by omega) (by omega) (by omega) (by omega) (by omega) (by omega)
    (fun q hq => ⟨fun hh => upd_ne (by omega), fun i hi36 hi => by
      have e : q = p := by omega
      subst e
      simp only [upd_self]
      exact ⟨fun _ => ⟨by first | trivial | rfl | omega, by first | trivial | rfl | omega, by first | trivial | rfl | omega, by first | trivial | rfl | omega⟩, fun _ => ⟨by first | trivial | rfl | omega, by first | trivial | rfl | omega, by first | trivial | rfl | omega, by first | trivial | rfl | omega⟩, fun _ => ⟨by first | trivial | rfl | omega, by first | trivial | rfl | omega, by first | trivial | rfl | omega, by first | trivial | rfl | omega⟩, by omega, by omega, fun _ => ⟨by first | exact hs | omega, by first | exact hl | omega, by first | trivial | rfl | omega, by first | trivial | rfl | omega, by first | trivial | rfl | omega⟩⟩⟩)
theorem RtAt.wrCost (h : RtAt S H r b id seq now pt) (hS : S r = true) {p : Nat} (hp : p < 8) (x : Int) : ∃ k, wrBlk H r (4 + p * 36 + 2) [.int .i64 x] = some (H.set r k) ∧ RtAt S (H.set r k) r b id seq now (upd pt p { pt p with cost := x }) ∧ ∀ S' : Nat → Bool, S' r = true → Le (hide S' H) (hide S' (H.set r k)) :=
  h.wr hS (by omega) (by omega) (by omega) (by omega) (by omega) (by omega) (by omega) (by omega)
    (fun q hq => ⟨fun hh => upd_ne (by omega), fun i hi36 hi => by
      have e : q = p := by omega
      subst e
      simp only [upd_self]
      exact ⟨fun _ => ⟨by first | trivial | rfl | omega, by first | trivial | rfl | omega, by first | trivial | rfl | omega, by first | trivial | rfl | omega⟩, fun _ => ⟨by first | trivial | rfl | omega, by first | trivial | rfl | omega, by first | trivial | rfl | omega, by first | trivial | rfl | omega⟩, fun _ => ⟨by first | trivial | rfl | omega, by first | trivial | rfl | omega, by first | trivial | rfl | omega, by first | trivial | rfl | omega⟩, by omega, by omega, fun _ => ⟨by first | exact hs | omega, by first | exact hl | omega, by first | trivial | rfl | omega, by first | trivial | rfl | omega, by first | trivial | rfl | omega⟩⟩⟩)
theorem RtAt.wrAk (h : RtAt S H r b id seq now pt) (hS : S r = true) {p : Nat} (hp : p < 8) {s : Value} {l : List (Int × Int)} (hs : Sl RAk 2 (hide S H) s l) (hl : l.length ≤ 1 ∧ (l = [] → s = .slice none 0 0)) : ∃ k, wrBlk H r (4 + p * 36 + 35) [s] = some (H.set r k) ∧ RtAt S (H.set r k) r b id seq now (upd pt p { pt p with ak := l }) ∧ ∀ S' : Nat → Bool, S' r = true → Le (hide S' H) (hide S' (H.set r k)) :=
  h.wr hS (by omega) (by omega) (by omega) (by omega) (by omega) (by omega) (by omega) (by omega)
    (fun q hq => ⟨fun hh => upd_ne (by omega), fun i hi36 hi => by
      have e : q = p := by omega
      subst e
      simp only [upd_self]
      exact ⟨fun _ => ⟨by first | trivial | rfl | omega, by first | trivial | rfl | omega, by first | trivial | rfl | omega, by first | trivial | rfl | omega⟩, fun _ => ⟨by first | trivial | rfl | omega, by first | trivial | rfl | omega, by first | trivial | rfl | omega, by first | trivial | rfl | omega⟩, fun _ => ⟨by first | trivial | rfl | omega, by first | trivial | rfl | omega, by first | trivial | rfl | omega, by first | trivial | rfl | omega⟩, by omega, by omega, fun _ => ⟨by first | exact hs | omega, by first | exact hl | omega, by first | trivial | rfl | omega, by first | trivial | rfl | omega, by first | trivial | rfl | omega⟩⟩⟩)
end

/-- 'post'. -/
theorem post_spec {S : Nat → Bool} {r b : Nat} {id seq now : Int} {pt : Nat → Port} {p j : Nat} (h : RtAt S H r b id seq now pt) (hS : S r = true) (hp : p < 8) (hj : j < 16)
    (hk : ∀ H', H.length ≤ H'.length → (∀ S' : Nat → Bool, S' r = true → Le (hide S' H) (hide S' H')) → RtAt S H' r b id seq now pt → K undef H') : Wcall Try.prog 78 #[.pointer (some ⟨r, 0, none⟩), .int .i64 p, .int .i64 j] H K := by
  refine call_body (rs := #[]) Try.func78 rfl Try.ntmps78 rfl rfl (by simp) ?_
  have hp8 : (p : Int) < 8 := by omega
  have hj16 : (j : Int) < 16 := by omega
  have hpj : (p : Int) < 8 ∧ (j : Int) < 16 := by omega
  have hrl := h.lt
  obtain ⟨k1, w1, h1, l1⟩ := h.wrSend hS hp hj true
  obtain ⟨k2, w2, h2, l2⟩ := h1.wrWait hS hp hj (IntKind.i64.wrap (now + 5))
  have rn := h1.rdNow
  have h1l := h1.lt
  simp [go_sem, hp8, hj16, w1]
  refine Wc.drawn mixed (by kernel_rfl) ?_
  simp at w2 h2 l2 rn
  simp [go_sem, hp8, hj16, rn, hrl, w2]
  exact hk _ (by simp) (fun S' hS' => by simpa using (l1 S' hS').trans (by simpa using l2 S' hS')) h2
end Go.Proofs.Ytlljiccilldnaaa.Fl
