/- In of one advertisement. -/
import Derived.Test.YtlljiccilldnaaaFl11
set_option linter.unusedVariables false
set_option linter.unusedSimpArgs false
set_option maxRecDepth 10000
set_option maxHeartbeats 1000000
namespace Go.Proofs.Ytlljiccilldnaaa.Fl
open Go Go.Am
open Go.Proofs.Ytlljiccilldnaaa.Fx Go.Proofs.Ytlljiccilldnaaa.Ad
open Go.Proofs.Ytlljiccilldnaaa.Ba (wrap_small wrap_succ sameInts_spec)
variable {H : Heap} {K : Value → Heap → Prop}
variable {S : Nat → Bool} {r b : Nat} {id seq now : Int} {pt : Nat → Port} {st : Nat → Option Adv}

/-- 'In' of one advertisement of another router. -/
theorem inOne_spec (h : Rtr S H r b id seq now pt st) (hSl : ∀ q, S q = true → q < H.length) {p : Nat} (hp : p < 8) (hu : (pt p).up = true) (hak : ∀ q, q < 8 → (pt q).ak = []) {a : Adv} (hf : fault a = 0) (hne : a.id ≠ id)
    (hk : ∀ H' s' pt', H.length ≤ H'.length → LeC r b H H' → Rtr S H' r b id seq now pt' (putSt st a) → (∀ q, (pt' q).up = (pt q).up) → (∀ q, q < 8 → (pt' q).ak = []) → K (.tuple #[s', .int .i64 0]) H') :
    Wcall Try.prog 43 #[.pointer (some ⟨r, 0, none⟩), .int .i64 p, .string (strOf (msgL a))] H K := by
  refine call_body (rs := #[.tmp 6, .tmp 7]) Try.func43 rfl Try.ntmps43 rfl rfl (by simp) ?_
  have hrl := h.rt.lt
  have hbl := h.ba.lt
  have ru := h.rt.rdUp hp
  rw [hu] at ru
  have hp8 : (p : Int) < 8 := by omega
  have e1 : ¬ (p : Int) < 0 := by omega
  have e2 : ¬ (8 : Int) ≤ p := by omega
  simp [go_sem, e1, e2, hp8, ru, hrl]
  refine readOne_spec hf fun H1 s1 e01 hs1 => ?_
  have hsl := hs1 S hSl
  obtain ⟨a1, c1, hv⟩ := hsl.shape
  simp at hv
  subst hv
  have h1 := h.ext e01
  obtain ⟨bb, off, cells, e', _, _, hr, sx, hc, hsx⟩ := hsl.get (i := 0) (by simp)
  subst e'
  replace hr := hide_le.rd hr
  simp at hr hc hsx
  unfold advC at hc
  subst hc
  have l01 := e01.len
  simp [go_sem]
  refine Wc.loopw 102 (fun i : Nat × Heap × (Nat → Port) => [(0, .pointer (some ⟨r, 0, none⟩)), (1, .int .i64 p), (9, .slice none 0 0), (41, .slice (some ⟨bb, off, none⟩) 1 c1), (42, .int .i64 1), (43, .int .i64 i.1)]) (fun i => i.2.1)
    (fun i => (i.1 = 0 ∧ i.2.1 = H1 ∧ i.2.2 = pt) ∨ (i.1 = 1 ∧ H.length ≤ i.2.1.length ∧ LeC r b H i.2.1 ∧ Rtr S i.2.1 r b id seq now i.2.2 (putSt st a) ∧ ∀ q, (i.2.2 q).up = (pt q).up)) (fun i => 1 - i.1) (0, _, pt)
    (.inl ⟨rfl, rfl, rfl⟩) (by simp [go_sem]) rfl (by simp [go_sem]) ?_
  rintro ⟨i, H2, pt2⟩ (⟨rfl, rfl, rfl⟩ | ⟨rfl, l2, le2, h2, hup2⟩)
  · simp only at l01
    simp [go_sem, hr]
    have e12 : Ext H2 (newBlk H2 [.int .i64 a.id, .int .i64 a.seq, .int .i64 a.age, sx]) := by simp [go_sem]
    refine take_spec (h1.ext e12) (fun q hq => by have := hSl q hq; simp [newBlk_length]; omega) hp (a := a) (hsx.le RLk.monoL (hide_ext e12)) hf hne (hak p hp) fun H3 pt3 l3 le3 h3 hup3 => ?_
    simp [go_sem]
    exact loopK_next (1, H3, pt3) (.inr ⟨rfl, by simp [newBlk_length] at l3; simp only; omega, ((LeC.ext e01).trans (LeC.ext e12)).trans le3, h3, hup3⟩) (by simp) rfl (by simp [go_sem]) (by simp [go_sem, wrap_small (x := 1) (by omega) (by omega)])
  · simp only at l2 le2 h2 hup2
    simp [go_sem]
    refine Wc.loopw 102 (fun _ : Unit => [(0, .pointer (some ⟨r, 0, none⟩)), (53, .int .i64 0), (54, .int .i64 0)]) (fun _ => H2) (fun _ => True) (fun _ => 0) () trivial (by simp [go_sem]) rfl (by simp [go_sem]) ?_
    intro _ _
    simp [go_sem]
    refine sentR_spec h2.rt h2.ba h2.cov h2.ne h2.ok fun H7 s7 l7 le7 h7 hb7 => ?_
    simp [go_sem]
    refine hk H7 s7 (noAk pt2 8) (by omega) (le2.trans le7) ⟨h7, hb7, h2.cov, h2.ne, h2.ok, fun x y hx hy q1 q2 => h2.one x y hx hy (by rw [← noAk_up (pt := pt2) (i := 8)]; exact q1) (by rw [← noAk_up (pt := pt2) (i := 8)]; exact q2), h2.hid, h2.hseq, h2.own⟩
      (fun q => by rw [noAk_up]; exact hup2 q) (fun q hq => noAk_ak hq)

theorem sl_set_small {α : Type} {R : Heap → α → List Value → Prop} {sz : Nat} {s : Value} {xs : List α} {b' : Nat} {k k' : Blk} (h : Sl R sz H s xs) (hk : H[b']? = some k) (hl : k.cells.length < sz) (h1 : k'.sz = k.sz) (h2 : k'.tight = k.tight) (hR : ∀ x c, R H x c → R (H.set b' k') x c) : Sl R sz (H.set b' k') s xs := by
  obtain ⟨a, c, e, hc, hn, hs⟩ := h
  refine ⟨a, c, e, hc, hn, fun ad ha => ?_⟩
  obtain ⟨q1, q2, q3, q4⟩ := hs ad ha
  have hb := (List.getElem?_eq_some_iff.1 hk).1
  refine ⟨q1, by simpa using q2, ?_, fun i x hx => ?_⟩
  · unfold okShare at q3 ⊢
    by_cases e : b' = ad.block
    · subst e
      rw [hk] at q3
      rw [List.getElem?_set_self hb]
      simp only [h1, h2]; exact q3
    · rw [List.getElem?_set_ne e]; exact q3
  · obtain ⟨cells, w1, w2⟩ := q4 i x hx
    refine ⟨cells, ?_, hR _ _ w2⟩
    have hne : b' ≠ ad.block := by
      intro e
      subst e
      unfold rdBlk at w1
      rw [hk] at w1
      simp only at w1
      split at w1
      · omega
      · cases w1
    unfold rdBlk at w1 ⊢
    rw [List.getElem?_set_ne hne]; exact w1

/-- 'Graph' of a router. -/
theorem rgraph_spec (h : Rtr S H r b id seq now pt st) (hk : ∀ H' s', Ext H H' → Sl REd 3 H' s' (graphL st 16) → K (.agg #[.int .i64 16, s']) H') : Wcall Try.prog 46 #[.pointer (some ⟨r, 0, none⟩)] H K := by
  refine call_cells (rs := #[.cell 2 49]) Try.func46 rfl Try.ntmps46 rfl (by simp) ?_
  have rb := h.rt.rdBase
  have hl := h.rt.lt
  simp [go_sem, rb, hl]
  refine graph_spec (BaseAt.ext (get_two h.cov h.ba) (by simp [go_sem])) (fun i => by have := h.ok.links i; omega) h.ok.peer fun H1 s1 e1 hs1 => ?_
  obtain ⟨a1, c1, rfl⟩ := hs1.shape
  have hz : H1[H.length]? = some ⟨[.int .i64 0, .slice none 0 0], 0, true, .live⟩ := e1.at (get_new _ _)
  have lz := (List.getElem?_eq_some_iff.1 hz).1
  have wz := wr_at hz (off := 0) (vs := [.int .i64 16, .slice a1 (graphL st 16).length c1]) (by simp)
  have gz : (H1.set H.length ⟨[.int .i64 16, .slice a1 (graphL st 16).length c1], 0, true, .live⟩)[H.length]? = some ⟨[.int .i64 16, .slice a1 (graphL st 16).length c1], 0, true, .live⟩ := List.getElem?_set_self lz
  have rz := rd_at gz (off := 0) (n := 2) (by simp)
  simp at wz rz
  simp [go_sem, wz, rz, lz]
  exact hk _ _ (ext_set (Ext.trans (by simp [go_sem]) e1) (Nat.le_refl _)) (sl_set_small hs1 hz (by simp) rfl rfl (fun _ _ h => h))
end Go.Proofs.Ytlljiccilldnaaa.Fl
