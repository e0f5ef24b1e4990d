/- Marks on all ports; what a router says of itself. -/
import Derived.Test.YtlljiccilldnaaaFl1
set_option linter.unusedVariables false
set_option linter.unusedSimpArgs false
set_option maxRecDepth 10000
namespace Go.Proofs.Ytlljiccilldnaaa.Fl
open Go Go.Am
open Go.Proofs.Ytlljiccilldnaaa.Fx Go.Proofs.Ytlljiccilldnaaa.Ad
open Go.Proofs.Ytlljiccilldnaaa.Ba (wrap_small wrap_succ sameInts_spec)
variable {H : Heap} {K : Value → Heap → Prop}
section
variable {S : Nat → Bool} {r b : Nat} {id seq now : Int} {pt : Nat → Port}

/-- All ports, as a value. -/
theorem RtAt.all (h : RtAt S H r b id seq now pt) : ∃ l : List Value, rdBlk H r 4 288 = some l ∧ l.length = 288 ∧
    ∀ p, p < 8 → ∃ pc, (l.drop (p * 36)).take 36 = pc ∧ pc.length = 36 ∧ pc.take 1 = [.bool (pt p).up] ∧ (pc.drop 1).take 1 = [.int .i64 (pt p).peer] ∧ (pc.drop 2).take 1 = [.int .i64 (pt p).cost] ∧
      (∃ wl : List Value, (pc.drop 3).take 16 = wl ∧ wl.length = 16 ∧ ∀ j, j < 16 → ∃ w : Int, wl[j]? = some (.int .i64 w)) := by
  obtain ⟨cells, h1, h2, h3, h4, h5, h6, h7⟩ := h.ex
  refine ⟨_, rd_at h1 (by omega), by simp; omega, fun p hp => ?_⟩
  have hq := h7 p hp
  have g : ∀ j, j < 36 → ((((cells.drop 4).take 288).drop (p * 36)).take 36)[j]? = cells[4 + p * 36 + j]? := fun j hj => by
    rw [List.getElem?_take, if_pos hj, List.getElem?_drop, List.getElem?_take, if_pos (by omega), List.getElem?_drop]
    congr 1; omega
  have hl : ((((cells.drop 4).take 288).drop (p * 36)).take 36).length = 36 := by simp; omega
  generalize (((cells.drop 4).take 288).drop (p * 36)).take 36 = pc at g hl
  have one : ∀ j v, j < 36 → cells[4 + p * 36 + j]? = some v → (pc.drop j).take 1 = [v] := fun j v hj hv => by
    have := (g j hj).trans hv
    obtain ⟨hi, rfl⟩ := List.getElem?_eq_some_iff.1 this
    rw [List.drop_eq_getElem_cons hi]; rfl
  refine ⟨pc, rfl, hl, by simpa using one 0 _ (by omega) hq.up, one 1 _ (by omega) hq.peer, one 2 _ (by omega) hq.cost, _, rfl, by simp; omega, fun j hj => ?_⟩
  obtain ⟨w, hw⟩ := hq.wait j hj
  exact ⟨w, by rw [List.getElem?_take, if_pos hj, List.getElem?_drop, g _ (by omega), ← hw]; congr 1; omega⟩
end

theorem zs125_drop : zs125.drop 36 = [] := by kernel_rfl

/-- 'flood'. -/
theorem flood_spec {S : Nat → Bool} {r b : Nat} {id seq now but : Int} {pt : Nat → Port} {j : Nat} (h : RtAt S H r b id seq now pt) (hS : S r = true) (hj : j < 16)
    (hk : ∀ H', H.length ≤ H'.length → (∀ S' : Nat → Bool, S' r = true → Le (hide S' H) (hide S' H')) → RtAt S H' r b id seq now pt → K undef H') : Wcall Try.prog 105 #[.pointer (some ⟨r, 0, none⟩), .int .i64 j, .int .i64 but] H K := by
  refine call_body (rs := #[]) Try.func105 rfl Try.ntmps105 rfl rfl (by simp) ?_
  obtain ⟨l, rl, hll, hl⟩ := h.all
  have hrl := h.lt
  simp [go_sem, rl, hll]
  refine Wc.loopw 28 (fun i : Nat × Heap => [(0, .pointer (some ⟨r, 0, none⟩)), (1, .int .i64 j), (2, .int .i64 but), (11, .agg l.toArray), (12, .int .i64 i.1)]) (fun i => i.2)
    (fun i => i.1 ≤ 8 ∧ H.length ≤ i.2.length ∧ (∀ S' : Nat → Bool, S' r = true → Le (hide S' H) (hide S' i.2)) ∧ RtAt S i.2 r b id seq now pt) (fun i => 8 - i.1) (0, _)
    ⟨Nat.zero_le _, Nat.le_refl _, fun _ _ => Le.refl _, h⟩ (by simp [go_sem]) rfl (by simp [go_sem]) ?_
  rintro ⟨i, H1⟩ ⟨hi, hlen, hle, h1⟩
  simp only at hi hlen hle h1
  simp [go_sem]
  refine Br.forkD (fun g => ?_) (fun g => ?_)
  · have hi8 : i < 8 := by omega
    obtain ⟨pc, hpc, hpl, hup, hpe, hco, _⟩ := hl i hi8
    have e12 : Ext H1 (newBlk H1 pc) := by simp [go_sem]
    have stay : (fun i : Nat × Heap => i.1 ≤ 8 ∧ H.length ≤ i.2.length ∧ (∀ S' : Nat → Bool, S' r = true → Le (hide S' H) (hide S' i.2)) ∧ RtAt S i.2 r b id seq now pt) (i + 1, newBlk H1 pc) :=
      ⟨by simp only; omega, by simp [newBlk_length]; omega, fun S' hS' => (hle S' hS').trans (hide_ext e12), h1.ext e12⟩
    simp [go_sem, g, hpc, hpl, zs125_len, zs125_drop, hup]
    cases hu : (pt i).up with
    | false =>
      simp [go_sem]
      exact loopK_next (i + 1, newBlk H1 pc) stay (by simp only; omega) rfl (by simp [go_sem]) (by simp [go_sem, wrap_succ (i := i) (by omega)])
    | true =>
      simp [go_sem]
      refine Br.forkN (fun g2 => ?_) (fun g2 => ?_)
      · simp [go_sem]
        refine post_spec (h1.ext e12) hS hi8 hj fun H2 l2 le2 h2 => ?_
        simp [go_sem]
        exact loopK_next (i + 1, H2) ⟨by simp only; omega, by simp [newBlk_length] at l2; simp only; omega, fun S' hS' => ((hle S' hS').trans (hide_ext e12)).trans (le2 S' hS'), h2⟩ (by simp only; omega) rfl (by simp [go_sem]) (by simp [go_sem, wrap_succ (i := i) (by omega)])
      · simp [go_sem]
        exact loopK_next (i + 1, newBlk H1 pc) stay (by simp only; omega) rfl (by simp [go_sem]) (by simp [go_sem, wrap_succ (i := i) (by omega)])
  · simp [go_sem]
    exact hk _ hlen hle h1

/-- The closure of 'own'. -/
theorem ownB_spec {x : Int × Int} {p : Nat} {peer : Int} (hp : rdBlk H p 1 1 = some [.int .i64 peer]) (hk : ∀ H', Ext H H' → K (.bool (decide (peer ≤ x.1))) H') : Wcall Try.prog 102 #[.agg #[.int .i64 x.1, .int .i64 x.2], .pointer (some ⟨p, 0, none⟩)] H K := by
  refine call_body (rs := #[.tmp 3]) Try.func102 rfl Try.ntmps102 rfl rfl (by simp) ?_
  have hpl := rdBlk_lt hp
  simp [go_sem, hp, hpl]
  exact hk _ (by simp [go_sem])

/-- 'slices.IndexFunc' at that closure: something. -/
theorem indexOwn_spec {s : Value} {ls : List (Int × Int)} {p : Nat} {peer : Int} (hs : Sl RLk 2 H s ls) (hl : ls.length < 1000000) (hp : rdBlk H p 1 1 = some [.int .i64 peer])
    (hk : ∀ H' (r : Int), Ext H H' → (ls = [] → r = -1) → K (.int .i64 r) H') : Wcall Try.prog 101 #[s, .func (.func 102) #[] #[.pointer (some ⟨p, 0, none⟩)]] H K := by
  obtain ⟨a, c, rfl⟩ := hs.shape
  refine call_body (rs := #[.tmp 4]) Try.func101 rfl Try.ntmps101 rfl rfl (by simp) ?_
  simp [go_sem]
  refine Wc.loopw 19 (fun i : Nat × Heap => [(0, .slice a ls.length c), (1, .func (.func 102) #[] #[.pointer (some ⟨p, 0, none⟩)]), (7, .int .i64 ls.length), (8, .int .i64 i.1)]) (fun i => i.2)
    (fun i => i.1 ≤ ls.length ∧ Ext H i.2) (fun i => ls.length - i.1) (0, _) ⟨Nat.zero_le _, Ext.refl _⟩ (by simp [go_sem]) rfl (by simp [go_sem]) ?_
  rintro ⟨i, H1⟩ ⟨hi, he⟩
  simp only at hi he
  simp [go_sem]
  refine Br.forkD (fun h => ?_) (fun h => ?_)
  · obtain ⟨b, off, cells, rfl, hb, _, hr, hc⟩ := (hs.ext RLk.mono he).get h
    unfold RLk at hc
    subst hc
    simp [go_sem, h, hr]
    refine ownB_spec (x := ls[i]) (he.rd hp) fun H2 e2 => ?_
    simp [go_sem]
    refine Br.forkD (fun h2 => ?_) (fun h2 => ?_)
    · simp [go_sem]
      exact hk _ _ (he.trans e2) (fun e => by subst e; simp at h)
    · simp [go_sem]
      exact loopK_next (i + 1, H2) ⟨by simp only; omega, he.trans e2⟩ (by simp only; omega) rfl (by simp [go_sem]) (by simp [go_sem, wrap_succ (i := i) (by omega)])
  · simp [go_sem]
    exact hk _ _ he (fun _ => rfl)
end Go.Proofs.Ytlljiccilldnaaa.Fl
