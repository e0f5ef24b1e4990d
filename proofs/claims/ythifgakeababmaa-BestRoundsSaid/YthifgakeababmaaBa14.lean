/- A round, by the reference. -/
import Derived.Test.YthifgakeababmaaBa13
set_option linter.unusedVariables false
set_option linter.unusedSimpArgs false
set_option maxRecDepth 10000
set_option maxHeartbeats 4000000
namespace Go.Proofs.Ythifgakeababmaa.Ba
open Go Go.Am
open Go.Proofs.Ythifgakeababmaa.Fx
variable {H : Heap} {K : Value → Heap → Prop}

/-- A way's first domain is the domain whose way it is. -/
def Heads (ws : List (List Int)) : Prop := ∀ v, v < ws.length → wayOf ws v ≠ [] → (wayOf ws v).getD 0 0 = v

def NotAt (b : Nat) (s : Value) : Prop := ∀ a l c, s = .slice (some a) l c → a.block ≠ b
theorem sl_set' {H : Heap} {s : Value} {xs : List Int} {b : Nat} {k : Blk} (h : Sl RInt 1 H s xs) (hf : NotAt b s) : Sl RInt 1 (H.set b k) s xs := by
  obtain ⟨a, c, e, hc, hn, hs⟩ := h
  refine ⟨a, c, e, hc, hn, fun ad ha => ?_⟩
  obtain ⟨h1, h2, h3, h4⟩ := hs ad ha
  have hne : b ≠ ad.block := by have := hf ad _ _ (by rw [e, ha]); omega
  have hg : (H.set b k)[ad.block]? = H[ad.block]? := List.getElem?_set_ne hne
  refine ⟨h1, by simpa using h2, by unfold okShare at h3 ⊢; rw [hg]; exact h3, fun i x hx => ?_⟩
  obtain ⟨cells, h5, h6⟩ := h4 i x hx
  exact ⟨cells, by rw [rdBlk_congr hg]; exact h5, h6⟩
theorem sl_notAt {H : Heap} {s : Value} {xs : List Int} {b : Nat} (h : Sl RInt 1 H s xs) (hb : H.length ≤ b) : NotAt b s := by
  obtain ⟨a, c, e, hc, hn, hs⟩ := h
  intro ad l c' e'
  rw [e] at e'
  cases e'
  have := (hs ad rfl).2.1
  omega

theorem append_one {x : Value} {u : Int} {ys : List Int} {b : Nat} (hb : b = H.length) (hs : Sl RInt 1 (newBlk H [.int .i64 u]) x ys) (hy : ys ≠ []) (hl : ys.length < 1000000) :
    aAppend Try.prog (newBlk H [.int .i64 u]) 49 49 (.slice (some ⟨b, 0, none⟩) 1 1) x = some (.slice (some ⟨b + 1, 0, none⟩) (1 + ys.length) (1 + ys.length), newBlk H [.int .i64 u] ++ [room (u :: ys) 0]) := by
  subst hb
  have hn := news_ints (z := .int .i64 0) rfl hs
  have hpos : 0 < ys.length := List.length_pos_iff.2 hy
  have e2 : (1 + ys.length) * 8 ≤ 140737488355328 ∧ 1 + ys.length ≤ 140737488355328 := by omega
  have hg : ∀ hlt, (newBlk H [.int .i64 u])[H.length]'hlt = ⟨[.int .i64 u], 0, true, .live⟩ := by intro hlt; simp [newBlk]
  have e1 : ¬ (1 + ys.length ≤ 1) := by omega
  have hr : rdBlk (newBlk H [.int .i64 u]) H.length 0 1 = some [.int .i64 u] := by simp [rdBlk_new _ _ _ _ _ rfl]
  simp only [hg, e1, aAppend, u49, z3, i3, s3, b3, hn, Value.cells]
  simp [hn, hy, e1, e2, hg, hr, newBlk_length, room, ints]

theorem cand_iff {ls : List Ln} (h : Valid ls) {u : Int} {ws : List (List Int)} {v : Nat} (hu : In16 u) (hv : v < ws.length) (hw : Ways ws) (hh : Heads ws) :
    cand (tab ls) u ws v ↔ (kKind ls u v ≠ 0 ∧ wayOf ws v ≠ [] ∧ u ∉ wayOf ws v ∧ ¬ ((if 1 < (wayOf ws v).length then kKind ls v ((wayOf ws v).getD 1 0) else 1) ≠ 1 ∧ kKind ls v u ≠ 1)) := by
  have iv : In16 (v : Int) := by have := hw.len; unfold In16; omega
  unfold cand
  rw [tk_kind h hu iv]
  by_cases hne : wayOf ws v = []
  · simp [hne]
  have hd := hh v hv hne
  have hpos : 0 < (wayOf ws v).length := List.length_pos_iff.2 hne
  have hin : ∀ x ∈ wayOf ws v, In16 x := by rw [wayOf_get hv]; exact hw.ins _ (List.getElem_mem hv)
  unfold expo
  rw [hd, tk_kind h iv hu]
  by_cases hl : 1 < (wayOf ws v).length
  · have h1 : In16 ((wayOf ws v).getD 1 0) := by
      rw [List.getD_eq_getElem?_getD, List.getElem?_eq_getElem hl]
      exact hin _ (List.getElem_mem hl)
    rw [tk_kind h iv h1, if_pos hl]
    have : ¬ (wayOf ws v).length = 1 := by omega
    grind
  · rw [if_neg hl]
    have : (wayOf ws v).length = 1 := by omega
    grind

theorem cIdx_cand {T : List Int} {u : Int} {ws : List (List Int)} : ∀ (n k : Nat), cIdx T u ws n = some k → cand T u ws k
  | 0, k, h => by simp [cIdx] at h
  | n + 1, k, h => by
    rw [cIdx_succ] at h
    have ih := cIdx_cand (T := T) (u := u) (ws := ws) n
    by_cases hc : cand T u ws n
    · cases hb : cIdx T u ws n with
      | none => rw [hb, cStep_none hc] at h; cases h; exact hc
      | some j =>
        rw [hb, cStep_some hc] at h
        split at h
        · cases h; exact hc
        · cases h; exact ih _ hb
    · rw [cStep_no hc] at h; exact ih _ h

theorem cIdx_rank {ls : List Ln} (h : Valid ls) {u : Int} {ws : List (List Int)} {v : Nat} (hu : In16 u) (hv : v < ws.length) (hw : Ways ws) (hlens : ∀ w ∈ ws, w.length ≤ 30) (hc : cand (tab ls) u ws v) :
    cIdx (tab ls) u ws (v + 1) = if rankOf ls u ws (cIdx (tab ls) u ws v) < rank ls u ws v then some v else cIdx (tab ls) u ws v := by
  have hl := hw.len
  have iv : In16 (v : Int) := by unfold In16; omega
  have h1 : (wayOf ws v).length ≤ 30 := by rw [wayOf_get hv]; exact hlens _ (List.getElem_mem hv)
  rw [cIdx_succ]
  cases hb : cIdx (tab ls) u ws v with
  | none => rw [cStep_none hc, if_pos (show rankOf ls u ws none < _ from rank_pos h (by omega) h1)]
  | some k =>
    have hk := cIdx_lt v k hb
    have hck := cIdx_cand v k hb
    have ik : In16 (k : Int) := by unfold In16; omega
    have h2 : (wayOf ws k).length ≤ 30 := by rw [wayOf_get (by omega)]; exact hlens _ (List.getElem_mem _)
    have := rank_better h (ws := ws) hu hk (by omega) h1 h2 (by rw [← tk_kind h hu iv]; exact hc.1) (by rw [← tk_kind h hu ik]; exact hck.1)
    rw [cStep_some hc]
    by_cases hbt : better (tab ls) u ws v k
    · rw [if_pos hbt, if_pos (show rankOf ls u ws (some k) < _ from this.2 hbt)]
    · rw [if_neg hbt, if_neg (fun hr : rankOf ls u ws (some k) < _ => hbt (this.1 hr))]

theorem append_out0 {H : Heap} {x : Value} {b : Nat} (hb : b = H.length) : aAppend Try.prog (newBlk H [x]) 62 62 (.slice none 0 0) (.slice (some ⟨b, 0, none⟩) 1 1) = some (.slice (some ⟨b + 1, 0, none⟩) 1 1, newBlk H [x] ++ [⟨[x], 1, false, .live⟩]) := by
  subst hb
  have hr : rdBlk (newBlk H [x]) H.length 0 1 = some [x] := by simp [rdBlk_new _ _ _ _ _ rfl]
  simp [aAppend, u62, z98, i98, s98, b98, aNews, Value.cells, hr, newBlk_length]

theorem append_out {H : Heap} {x : Value} {b bo : Nat} {vs : List Value} (hb : b = H.length) (hbo : H[bo]? = some ⟨vs, 1, false, .live⟩) (hpos : 0 < vs.length) (hl : vs.length < 100000) :
    aAppend Try.prog (newBlk H [x]) 62 62 (.slice (some ⟨bo, 0, none⟩) vs.length vs.length) (.slice (some ⟨b, 0, none⟩) 1 1) = some (.slice (some ⟨b + 1, 0, none⟩) (vs.length + 1) (vs.length + 1), (newBlk H [x]).set bo ⟨vs, 1, false, .dead⟩ ++ [⟨vs ++ [x], 1, false, .live⟩]) := by
  subst hb
  have hlt := (List.getElem?_eq_some_iff.1 hbo).1
  have hr : rdBlk (newBlk H [x]) H.length 0 1 = some [x] := by simp [rdBlk_new _ _ _ _ _ rfl]
  have ho : (newBlk H [x])[bo]? = some ⟨vs, 1, false, .live⟩ := by rw [newBlk, List.getElem?_append_left hlt]; exact hbo
  have hr2 : rdBlk (newBlk H [x]) bo 0 vs.length = some vs := by
    unfold rdBlk
    rw [ho]
    simp
  have e1 : ¬ (vs.length + 1 ≤ vs.length) := by omega
  have e2 : (vs.length + 1) * 24 ≤ 140737488355328 ∧ vs.length + 1 ≤ 140737488355328 := by omega
  have hl2 : ((newBlk H [x]).set bo ⟨vs, 1, false, .dead⟩).length = H.length + 1 := by simp [newBlk_length]
  unfold aAppend
  simp only [u62, z98, i98]
  rw [if_pos (by simp [s98, b98, Value.cells])]
  simp only [aNews, u62]
  rw [if_neg (by omega)]
  simp only [Value.cells, List.size_toArray, List.length_cons, List.length_nil, Nat.zero_add, Nat.mul_one, hr, Option.map_some]
  rw [if_neg (by omega), if_neg e1, if_pos (by rw [b98]; exact e2)]
  simp only [s98, Nat.mul_one, ho, hr2]
  rw [if_neg (by simp), if_pos (by simp)]
  simp [newBlk_length]

theorem roundOf_spec {n : Int} {s t : Value} {ls : List Ln} {ws : List (List Int)} {origin : Int} (hls : Sl RLn 5 H t ls) (hl : ls.length < 1000000) (hval : Valid ls) (hs : Sl RWay 1 H s ws) (hw : Ways ws) (hlens : ∀ w ∈ ws, w.length ≤ 30) (hh : Heads ws) (hn : n = ws.length)
    (hk : ∀ H' s', Ext H H' → Sl RWay 1 H' s' (rnd (tab ls) origin ws) → K s' H') :
    Wcall Try.prog 34 #[netV n t, .int .i64 origin, s] H K := by
  obtain ⟨a, c, rfl⟩ := hs.shape
  obtain ⟨at_, ct, rfl⟩ := hls.shape
  have hlen := hw.len
  subst hn
  refine call_body (rs := #[.tmp 6]) Try.func34 rfl Try.ntmps34 rfl rfl (by simp) ?_
  simp [go_sem, netV]
  refine Wc.loopw 114 (fun i : Nat × Heap × Nat => [(1, .int .i64 origin), (2, .slice a ws.length c), (3, .pointer (some ⟨H.length, 0, none⟩)), (7, if i.1 = 0 then .slice none 0 0 else .slice (some ⟨i.2.2, 0, none⟩) i.1 i.1), (20, .int .i64 ws.length), (21, .int .i64 i.1)]) (fun i => i.2.1)
    (fun i => i.1 ≤ ws.length ∧ Ext (newBlk H [.int .i64 ws.length, .slice at_ ls.length ct]) i.2.1 ∧ ∃ vs : List Value, vs.length = i.1 ∧ (0 < i.1 → H.length < i.2.2 ∧ i.2.1[i.2.2]? = some ⟨vs, 1, false, .live⟩) ∧ (∀ j x, vs[j]? = some x → Sl RInt 1 i.2.1 x (rWay (tab ls) origin ws j) ∧ NotAt i.2.2 x)) (fun i => ws.length - i.1) (0, _, 0)
    ⟨Nat.zero_le _, Ext.refl _, [], rfl, fun h => absurd h (by simp), fun j x hx => by simp at hx⟩ (by simp [go_sem]) rfl (by simp [go_sem]) ?_
  rintro ⟨u, H1, bo⟩ ⟨hi, he, vs, hvl, hblk, hout⟩
  simp only at hi he hvl hblk hout
  have he0 : Ext H H1 := (Ext.new (Ext.refl H)).trans he
  have hlt : H.length < H1.length := by have := he.len; simp [newBlk_length] at this; omega
  simp [go_sem]
  refine Br.forkD (fun h => ?_) (fun h => ?_)
  · have hu16 : In16 (u : Int) := by unfold In16; omega
    simp [go_sem, h]
    refine Wc.loopw 114 (fun i : Nat × Heap => [(1, .int .i64 origin), (2, .slice a ws.length c), (3, .pointer (some ⟨H.length, 0, none⟩)), (7, if u = 0 then .slice none 0 0 else .slice (some ⟨bo, 0, none⟩) u u), (8, .int .i64 u), (9, .pointer (some ⟨H1.length, 0, none⟩)), (10, .int .i64 (rankOf ls u ws (cIdx (tab ls) u ws i.1))), (20, .int .i64 ws.length), (21, .int .i64 u), (25, .slice a ws.length c), (26, .int .i64 ws.length), (27, .int .i64 i.1)]) (fun i => i.2)
      (fun i => i.1 ≤ ws.length ∧ Ext H1 i.2 ∧ ∃ bv, i.2[H1.length]? = some ⟨[bv], 0, true, .live⟩ ∧ Sl RInt 1 i.2 bv (bestOf u ws (cIdx (tab ls) u ws i.1)) ∧ Fresh (H1.length + 1) bv) (fun i => ws.length - i.1) (0, _)
      ⟨Nat.zero_le _, Ext.new (Ext.refl _), .slice none 0 0, by simp [newBlk], ⟨none, 0, rfl, Nat.le_refl _, fun _ => rfl, fun ad h => (by cases h)⟩, fun a l c e => (by cases e)⟩ (by simp [go_sem]) rfl (by simp [go_sem, cIdx, rankOf]) ?_
    rintro ⟨v, H2⟩ ⟨hv, he2, bv, hbv, hbs, hbf⟩
    simp only at hv he2 hbv hbs hbf
    have hlt2 : H1.length < H2.length := (List.getElem?_eq_some_iff.1 hbv).1
    have heT : Ext H H2 := he0.trans he2
    have hs2 := hs.ext RWay.mono heT
    have hls2 := hls.ext RLn.mono heT
    have hbox : rdBlk H2 H.length 0 2 = some [.int .i64 ws.length, .slice at_ ls.length ct] := (he.trans he2).rd (by simp [go_sem])
    have hltb : H.length < H2.length := by omega
    simp [go_sem]
    refine Br.forkD (fun hvl2 => ?_) (fun hvl2 => ?_)
    · obtain ⟨b, off, cells, rfl, hb, _, hr, sv, rfl, hsv⟩ := hs2.get hvl2
      simp at hr
      obtain ⟨av, cv, rfl⟩ := hsv.shape
      have hv16 : v < 16 := by omega
      have hiv : In16 (v : Int) := by unfold In16; omega
      have hwv := wayOf_get hvl2
      have hmem := List.getElem_mem hvl2
      have hinw := hw.ins _ hmem
      have hlw := hlens _ hmem
      have hci := cand_iff hval hu16 hvl2 hw hh
      have hsucc := cIdx_succ (T := tab ls) (u := (u : Int)) (ws := ws) v
      rw [hwv] at hci
      generalize hw0 : ws[v] = way at *
      simp [go_sem, hr, hvl2, hbox, hltb]
      refine kind_spec (n := ws.length) (u := u) (v := v) (hls2.new RLn.mono _) hl hval.k fun H3 e3 => ?_
      have b12 : rdBlk H3 H2.length 0 1 = some [.slice av way.length cv] := e3.rd (by simp [go_sem])
      have b3 : rdBlk H3 H.length 0 2 = some [.int .i64 ws.length, .slice at_ ls.length ct] := ((Ext.new (Ext.refl _)).trans e3).rd hbox
      have e23 : Ext H2 H3 := (Ext.new (Ext.refl _)).trans e3
      have hsv3 := hsv.ext RInt.mono e23
      have stay : ¬ cand (tab ls) u ws v → cIdx (tab ls) u ws (v + 1) = cIdx (tab ls) u ws v := fun hc => by rw [hsucc, cStep_no hc]
      have keep : ∀ H', Ext H2 H' → ¬ cand (tab ls) u ws v → (v + 1 ≤ ws.length ∧ Ext H1 H' ∧ ∃ bv, H'[H1.length]? = some ⟨[bv], 0, true, .live⟩ ∧ Sl RInt 1 H' bv (bestOf u ws (cIdx (tab ls) u ws (v + 1))) ∧ Fresh (H1.length + 1) bv) := fun H' e' hc => by
        refine ⟨by omega, he2.trans e', bv, ext_get (H := H) e' hbv, ?_, hbf⟩
        rw [stay hc]; exact hbs.ext RInt.mono e'
      simp [go_sem]
      refine Gd.forkNB (fun g1 => ?_) (fun g1 => ?_)
      rotate_left
      · simp at g1
        have hc : ¬ cand (tab ls) u ws v := by rw [hci]; simp [g1]
        simp [go_sem, g1]
        exact loopK_next (v + 1, _) (keep _ (e23) hc) (by simp only; omega) rfl (by simp [go_sem]) (by simp [go_sem, wrap_succ (i := v) (by omega), stay hc])
      simp [go_sem, g1, b12]
      refine Gd.forkNB (fun g2 => ?_) (fun g2 => ?_)
      rotate_left
      · simp at g2
        have hc : ¬ cand (tab ls) u ws v := by rw [hci]; simp [g2]
        simp [go_sem, g2]
        exact loopK_next (v + 1, _) (keep _ (e23) hc) (by simp only; omega) rfl (by simp [go_sem]) (by simp [go_sem, wrap_succ (i := v) (by omega), stay hc])
      simp [go_sem, g1, g2, b12]
      refine has_spec hsv3 (by omega) u ?_
      simp [go_sem]
      refine Br.fork (fun g3 => ?_) (fun g3 => ?_)
      · simp at g3
        have hc : ¬ cand (tab ls) u ws v := by rw [hci]; simp [g3]
        simp [go_sem, g3]
        exact loopK_next (v + 1, _) (keep _ (e23) hc) (by simp only; omega) rfl (by simp [go_sem]) (by simp [go_sem, wrap_succ (i := v) (by omega), stay hc])
      simp [go_sem, g3, b12]
      refine Br.fork (fun g4 => ?_) (fun g4 => ?_)
      · have hl1 : 1 < way.length := by simp at g4; omega
        have hl1' : (1 : Int) < way.length := by omega
        obtain ⟨bw, offw, cw, hav, hbw, _, hrw, hcw⟩ := hsv3.get hl1
        subst hav
        unfold RInt at hcw
        subst hcw
        simp at hrw
        have hlt3 : H.length < H3.length := rdBlk_lt b3
        simp [go_sem, g4]
        refine Wc.drawn mixed (by kernel_rfl) ?_
        simp [go_sem, b3, b12, hrw, hl1, hl1']
        refine kind_spec (n := ws.length) (u := v) (v := way[1]) (hls2.ext RLn.mono e23) hl hval.k fun H4 e4 => ?_
        have b12b := e4.rd b12
        have b3b := e4.rd b3
        simp [go_sem, b3b]
        refine kind_spec (n := ws.length) (u := v) (v := u) (hls2.ext RLn.mono (e23.trans e4)) hl hval.k fun H5 e5 => ?_
        have b12c := e5.rd b12b
        have hd1 : way.getD 1 0 = way[1] := by rw [List.getD_eq_getElem?_getD, List.getElem?_eq_getElem hl1]; rfl
        rw [if_pos hl1, hd1] at hci
        simp [go_sem]
        refine Gd.forkNB (fun g5 => ?_) (fun g5 => ?_)
        · simp [go_sem, g5]
          refine Br.forkNB (fun g6 => ?_) (fun g6 => ?_)
          · simp at g1 g3 g5 g6
            have hc : ¬ cand (tab ls) u ws v := by rw [hci]; simp [g1, g5, g6]
            simp [go_sem, g6]
            exact loopK_next (v + 1, _) (keep _ ((e23.trans e4).trans e5) hc) (by simp only; omega) rfl (by simp [go_sem]) (by simp [go_sem, wrap_succ (i := v) (by omega), stay hc])
          · have hc : cand (tab ls) u ws v := by rw [hci]; simp at g1 g2 g3 g6; simp [g1, g2, g3, g6]
            have hck := cIdx_rank hval hu16 hvl2 hw hlens hc
            have hrk : rank ls u ws v = (kPref ls u v * 64 + 40 - way.length) * 64 + 40 - v := by unfold rank; rw [hwv]
            have hpr := pref_range hval (u := (u : Int)) (v := (v : Int))
            have w1 : IntKind.i64.wrap (kPref ls u v * 64) = kPref ls u v * 64 := wrap_small (by omega) (by omega)
            have w2 : IntKind.i64.wrap (kPref ls u v * 64 + 40) = kPref ls u v * 64 + 40 := wrap_small (by omega) (by omega)
            have w3 : IntKind.i64.wrap (kPref ls u v * 64 + 40 - way.length) = kPref ls u v * 64 + 40 - way.length := wrap_small (by omega) (by omega)
            have w4 : IntKind.i64.wrap ((kPref ls u v * 64 + 40 - way.length) * 64) = (kPref ls u v * 64 + 40 - way.length) * 64 := wrap_small (by omega) (by omega)
            have w5 : IntKind.i64.wrap ((kPref ls u v * 64 + 40 - way.length) * 64 + 40) = (kPref ls u v * 64 + 40 - way.length) * 64 + 40 := wrap_small (by omega) (by omega)
            have w6 : IntKind.i64.wrap ((kPref ls u v * 64 + 40 - way.length) * 64 + 40 - v) = (kPref ls u v * 64 + 40 - way.length) * 64 + 40 - v := wrap_small (by omega) (by omega)
            have hne : way ≠ [] := by simpa using g2
            have hE : Ext H2 H5 := (e23.trans e4).trans e5
            have hbn := ext_get (H := H) hE hbv
            have hltn := (List.getElem?_eq_some_iff.1 hbn).1
            have hlt2n : H2.length < H5.length := rdBlk_lt b12c
            have hsn := hsv.ext RInt.mono hE
            have hap := append_one (H := H5) (u := u) rfl (hsn.new RInt.mono [.int .i64 u]) hne (by omega)
            simp [go_sem, g6, b12c, w1, w2, w3, w4, w5, w6]
            refine Br.forkD (fun r1 => ?_) (fun r1 => ?_)
            · rw [← hrk] at r1
              rw [if_pos r1] at hck
              have hwr : ∀ s : Value, wrBlk (newBlk H5 [.int .i64 u] ++ [room (u :: way) 0]) H1.length 0 [s] = some ((newBlk H5 [.int .i64 u] ++ [room (u :: way) 0]).set H1.length ⟨[s], 0, true, .live⟩) := fun s => by
                have : (newBlk H5 [.int .i64 u] ++ [room (u :: way) 0])[H1.length]? = some ⟨[bv], 0, true, .live⟩ := by rw [newBlk, List.append_assoc, List.getElem?_append_left hltn]; exact hbn
                unfold wrBlk
                rw [this]
                rfl
              have hsl := sl_room (H := newBlk H5 [.int .i64 u]) (zs := u :: way) (m := 0)
              have hll : (newBlk H5 [.int .i64 u] ++ [room (u :: way) 0]).length = H5.length + 2 := by simp [newBlk_length]
              simp [go_sem, g6, b12c, hlt2n, hap, hwr, w6]
              refine loopK_next (v + 1, _) ⟨by simp only; omega, ext_set ((he2.trans hE).trans (Ext.more (Ext.new (Ext.refl _)))) (Nat.le_refl _), .slice (some ⟨H5.length + 1, 0, none⟩) (1 + way.length) (1 + way.length), ?_, ?_, fun a l c e => by cases e; simp only; omega⟩ (by simp only; omega) rfl (by simp [go_sem]) (by simp [go_sem, wrap_succ (i := v) (by omega), hck, rankOf, hrk])
              · exact List.getElem?_set_self (by omega)
              · rw [hck]
                simp only [bestOf, hwv]
                refine sl_set' ?_ (fun a l c e => by cases e; simp only; omega)
                rw [Nat.add_comm 1 way.length]
                simpa [newBlk_length] using hsl
            · rw [← hrk] at r1
              rw [if_neg r1] at hck
              simp [go_sem]
              refine loopK_next (v + 1, H5) ⟨by simp only; omega, he2.trans hE, bv, hbn, by rw [hck]; exact hbs.ext RInt.mono hE, hbf⟩ (by simp only; omega) rfl (by simp [go_sem]) (by simp [go_sem, wrap_succ (i := v) (by omega), hck])
        · simp [go_sem, g5]
          have hc : cand (tab ls) u ws v := by rw [hci]; simp at g1 g2 g3 g5; simp [g1, g2, g3, g5]
          have hck := cIdx_rank hval hu16 hvl2 hw hlens hc
          have hrk : rank ls u ws v = (kPref ls u v * 64 + 40 - way.length) * 64 + 40 - v := by unfold rank; rw [hwv]
          have hpr := pref_range hval (u := (u : Int)) (v := (v : Int))
          have w1 : IntKind.i64.wrap (kPref ls u v * 64) = kPref ls u v * 64 := wrap_small (by omega) (by omega)
          have w2 : IntKind.i64.wrap (kPref ls u v * 64 + 40) = kPref ls u v * 64 + 40 := wrap_small (by omega) (by omega)
          have w3 : IntKind.i64.wrap (kPref ls u v * 64 + 40 - way.length) = kPref ls u v * 64 + 40 - way.length := wrap_small (by omega) (by omega)
          have w4 : IntKind.i64.wrap ((kPref ls u v * 64 + 40 - way.length) * 64) = (kPref ls u v * 64 + 40 - way.length) * 64 := wrap_small (by omega) (by omega)
          have w5 : IntKind.i64.wrap ((kPref ls u v * 64 + 40 - way.length) * 64 + 40) = (kPref ls u v * 64 + 40 - way.length) * 64 + 40 := wrap_small (by omega) (by omega)
          have w6 : IntKind.i64.wrap ((kPref ls u v * 64 + 40 - way.length) * 64 + 40 - v) = (kPref ls u v * 64 + 40 - way.length) * 64 + 40 - v := wrap_small (by omega) (by omega)
          have hne : way ≠ [] := by simpa using g2
          have hE : Ext H2 H5 := (e23.trans e4).trans e5
          have hbn := ext_get (H := H) hE hbv
          have hltn := (List.getElem?_eq_some_iff.1 hbn).1
          have hlt2n : H2.length < H5.length := rdBlk_lt b12c
          have hsn := hsv.ext RInt.mono hE
          have hap := append_one (H := H5) (u := u) rfl (hsn.new RInt.mono [.int .i64 u]) hne (by omega)
          simp [go_sem, g5, b12c, w1, w2, w3, w4, w5, w6]
          refine Br.forkD (fun r1 => ?_) (fun r1 => ?_)
          · rw [← hrk] at r1
            rw [if_pos r1] at hck
            have hwr : ∀ s : Value, wrBlk (newBlk H5 [.int .i64 u] ++ [room (u :: way) 0]) H1.length 0 [s] = some ((newBlk H5 [.int .i64 u] ++ [room (u :: way) 0]).set H1.length ⟨[s], 0, true, .live⟩) := fun s => by
              have : (newBlk H5 [.int .i64 u] ++ [room (u :: way) 0])[H1.length]? = some ⟨[bv], 0, true, .live⟩ := by rw [newBlk, List.append_assoc, List.getElem?_append_left hltn]; exact hbn
              unfold wrBlk
              rw [this]
              rfl
            have hsl := sl_room (H := newBlk H5 [.int .i64 u]) (zs := u :: way) (m := 0)
            have hll : (newBlk H5 [.int .i64 u] ++ [room (u :: way) 0]).length = H5.length + 2 := by simp [newBlk_length]
            simp [go_sem, g5, b12c, hlt2n, hap, hwr, w6]
            refine loopK_next (v + 1, _) ⟨by simp only; omega, ext_set ((he2.trans hE).trans (Ext.more (Ext.new (Ext.refl _)))) (Nat.le_refl _), .slice (some ⟨H5.length + 1, 0, none⟩) (1 + way.length) (1 + way.length), ?_, ?_, fun a l c e => by cases e; simp only; omega⟩ (by simp only; omega) rfl (by simp [go_sem]) (by simp [go_sem, wrap_succ (i := v) (by omega), hck, rankOf, hrk])
            · exact List.getElem?_set_self (by omega)
            · rw [hck]
              simp only [bestOf, hwv]
              refine sl_set' ?_ (fun a l c e => by cases e; simp only; omega)
              rw [Nat.add_comm 1 way.length]
              simpa [newBlk_length] using hsl
          · rw [← hrk] at r1
            rw [if_neg r1] at hck
            simp [go_sem]
            refine loopK_next (v + 1, H5) ⟨by simp only; omega, he2.trans hE, bv, hbn, by rw [hck]; exact hbs.ext RInt.mono hE, hbf⟩ (by simp only; omega) rfl (by simp [go_sem]) (by simp [go_sem, wrap_succ (i := v) (by omega), hck])
      · have hl1 : ¬ 1 < way.length := by simp at g4; omega
        simp [go_sem, b3]
        refine kind_spec (n := ws.length) (u := v) (v := u) (hls2.ext RLn.mono e23) hl hval.k fun H5 e5 => ?_
        have b12c := e5.rd b12
        rw [if_neg hl1] at hci
        simp [go_sem]
        have hc : cand (tab ls) u ws v := by rw [hci]; simp at g1 g2 g3; simp [g1, g2, g3]
        have hck := cIdx_rank hval hu16 hvl2 hw hlens hc
        have hrk : rank ls u ws v = (kPref ls u v * 64 + 40 - way.length) * 64 + 40 - v := by unfold rank; rw [hwv]
        have hpr := pref_range hval (u := (u : Int)) (v := (v : Int))
        have w1 : IntKind.i64.wrap (kPref ls u v * 64) = kPref ls u v * 64 := wrap_small (by omega) (by omega)
        have w2 : IntKind.i64.wrap (kPref ls u v * 64 + 40) = kPref ls u v * 64 + 40 := wrap_small (by omega) (by omega)
        have w3 : IntKind.i64.wrap (kPref ls u v * 64 + 40 - way.length) = kPref ls u v * 64 + 40 - way.length := wrap_small (by omega) (by omega)
        have w4 : IntKind.i64.wrap ((kPref ls u v * 64 + 40 - way.length) * 64) = (kPref ls u v * 64 + 40 - way.length) * 64 := wrap_small (by omega) (by omega)
        have w5 : IntKind.i64.wrap ((kPref ls u v * 64 + 40 - way.length) * 64 + 40) = (kPref ls u v * 64 + 40 - way.length) * 64 + 40 := wrap_small (by omega) (by omega)
        have w6 : IntKind.i64.wrap ((kPref ls u v * 64 + 40 - way.length) * 64 + 40 - v) = (kPref ls u v * 64 + 40 - way.length) * 64 + 40 - v := wrap_small (by omega) (by omega)
        have hne : way ≠ [] := by simpa using g2
        have hE : Ext H2 H5 := e23.trans e5
        have hbn := ext_get (H := H) hE hbv
        have hltn := (List.getElem?_eq_some_iff.1 hbn).1
        have hlt2n : H2.length < H5.length := rdBlk_lt b12c
        have hsn := hsv.ext RInt.mono hE
        have hap := append_one (H := H5) (u := u) rfl (hsn.new RInt.mono [.int .i64 u]) hne (by omega)
        simp [go_sem, g2, b12c, w1, w2, w3, w4, w5, w6]
        refine Br.forkD (fun r1 => ?_) (fun r1 => ?_)
        · rw [← hrk] at r1
          rw [if_pos r1] at hck
          have hwr : ∀ s : Value, wrBlk (newBlk H5 [.int .i64 u] ++ [room (u :: way) 0]) H1.length 0 [s] = some ((newBlk H5 [.int .i64 u] ++ [room (u :: way) 0]).set H1.length ⟨[s], 0, true, .live⟩) := fun s => by
            have : (newBlk H5 [.int .i64 u] ++ [room (u :: way) 0])[H1.length]? = some ⟨[bv], 0, true, .live⟩ := by rw [newBlk, List.append_assoc, List.getElem?_append_left hltn]; exact hbn
            unfold wrBlk
            rw [this]
            rfl
          have hsl := sl_room (H := newBlk H5 [.int .i64 u]) (zs := u :: way) (m := 0)
          have hll : (newBlk H5 [.int .i64 u] ++ [room (u :: way) 0]).length = H5.length + 2 := by simp [newBlk_length]
          simp [go_sem, g2, b12c, hlt2n, hap, hwr, w6]
          refine loopK_next (v + 1, _) ⟨by simp only; omega, ext_set ((he2.trans hE).trans (Ext.more (Ext.new (Ext.refl _)))) (Nat.le_refl _), .slice (some ⟨H5.length + 1, 0, none⟩) (1 + way.length) (1 + way.length), ?_, ?_, fun a l c e => by cases e; simp only; omega⟩ (by simp only; omega) rfl (by simp [go_sem]) (by simp [go_sem, wrap_succ (i := v) (by omega), hck, rankOf, hrk])
          · exact List.getElem?_set_self (by omega)
          · rw [hck]
            simp only [bestOf, hwv]
            refine sl_set' ?_ (fun a l c e => by cases e; simp only; omega)
            rw [Nat.add_comm 1 way.length]
            simpa [newBlk_length] using hsl
        · rw [← hrk] at r1
          rw [if_neg r1] at hck
          simp [go_sem]
          refine loopK_next (v + 1, H5) ⟨by simp only; omega, he2.trans hE, bv, hbn, by rw [hck]; exact hbs.ext RInt.mono hE, hbf⟩ (by simp only; omega) rfl (by simp [go_sem]) (by simp [go_sem, wrap_succ (i := v) (by omega), hck])
    · have hvv : v = ws.length := by omega
      subst hvv
      have finish : ∀ (H3 : Heap) (lb cb : Nat) (ab : Option Addr), Ext H1 H3 → rdBlk H3 H1.length 0 1 = some [.slice ab lb cb] → Sl RInt 1 H3 (.slice ab lb cb) (rWay (tab ls) origin ws u) → Fresh (H1.length + 1) (.slice ab lb cb) →
          ∃ s H', aAppend Try.prog (newBlk H3 [.slice ab lb cb]) 62 62 (if u = 0 then .slice none 0 0 else .slice (some ⟨bo, 0, none⟩) u u) (.slice (some ⟨H3.length, 0, none⟩) 1 1) = some (s, H') ∧
            s = .slice (some ⟨H3.length + 1, 0, none⟩) (u + 1) (u + 1) ∧ Ext (newBlk H [.int .i64 ws.length, .slice at_ ls.length ct]) H' ∧ ∃ vs : List Value, vs.length = u + 1 ∧ (0 < u + 1 → H.length < H3.length + 1 ∧ H'[H3.length + 1]? = some ⟨vs, 1, false, .live⟩) ∧ (∀ j x, vs[j]? = some x → Sl RInt 1 H' x (rWay (tab ls) origin ws j) ∧ NotAt (H3.length + 1) x) := by
        intro H3 lb cb ab e3 hr3 hs3 hf3
        have hlt3 : H1.length ≤ H3.length := e3.len
        by_cases hu0 : u = 0
        · subst hu0
          have : vs = [] := List.length_eq_zero_iff.1 hvl
          subst this
          refine ⟨_, _, by rw [if_pos rfl]; exact append_out0 rfl, rfl, (he.trans e3).trans (Ext.more (Ext.new (Ext.refl _))), [.slice ab lb cb], rfl, fun _ => ⟨by omega, by simp [newBlk]⟩, fun j x hx => ?_⟩
          have hj := (List.getElem?_eq_some_iff.1 hx).1
          have hj0 : j = 0 := by simp at hj; exact hj
          subst hj0
          simp at hx
          subst hx
          have h1 := hs3.new RInt.mono [.slice ab lb cb]
          exact ⟨h1.mono RInt.mono _, sl_notAt h1 (by simp [newBlk_length])⟩
        · obtain ⟨hb1, hb2⟩ := hblk (by omega)
          have hbo3 := ext_get (H := H) e3 hb2
          have hblt := (List.getElem?_eq_some_iff.1 hb2).1
          have hap := append_out (x := .slice ab lb cb) (b := H3.length) rfl hbo3 (by omega) (by omega)
          rw [hvl] at hap
          have hE : Ext (newBlk H [.int .i64 ws.length, .slice at_ ls.length ct]) (newBlk H3 [.slice ab lb cb]) := (he.trans e3).trans (Ext.new (Ext.refl _))
          have hlen3 : ((newBlk H3 [.slice ab lb cb]).set bo ⟨vs, 1, false, .dead⟩).length = H3.length + 1 := by simp [newBlk_length]
          refine ⟨_, _, by rw [if_neg hu0]; exact hap, rfl, (ext_set hE (by simp [newBlk_length]; omega)).trans ⟨_, rfl⟩, vs ++ [.slice ab lb cb], by simp [hvl], fun _ => ⟨by omega, by rw [List.getElem?_append_right (by omega), hlen3]; simp⟩, fun j x hx => ?_⟩
          have key : Sl RInt 1 ((newBlk H3 [.slice ab lb cb]).set bo ⟨vs, 1, false, .dead⟩) x (rWay (tab ls) origin ws j) := by
            by_cases hj : j < vs.length
            · rw [List.getElem?_append_left hj] at hx
              obtain ⟨q1, q2⟩ := hout j x hx
              exact sl_set' (q1.ext RInt.mono (e3.trans (Ext.new (Ext.refl _)))) q2
            · rw [List.getElem?_append_right (by omega)] at hx
              have hjl := (List.getElem?_eq_some_iff.1 hx).1
              have hju : j = u := by simp at hjl; omega
              subst hju
              simp [hvl] at hx
              subst hx
              exact sl_set' (hs3.new RInt.mono _) (fun a l c e => by have := hf3 a l c e; omega)
          exact ⟨key.mono RInt.mono _, sl_notAt key (by omega)⟩
      simp [go_sem]
      refine Br.fork (fun g => ?_) (fun g => ?_)
      · have hg : (u : Int) = origin := by simpa using g
        have hrw : rWay (tab ls) origin ws u = [(u : Int)] := by simp [rWay, hg]
        have hw2 : wrBlk H2 H1.length 0 [.slice (some ⟨H2.length, 0, none⟩) 1 1] = some (H2.set H1.length ⟨[.slice (some ⟨H2.length, 0, none⟩) 1 1], 0, true, .live⟩) := by
          unfold wrBlk
          rw [hbv]
          rfl
        have hr2 : rdBlk (H2.set H1.length ⟨[.slice (some ⟨H2.length, 0, none⟩) 1 1], 0, true, .live⟩) H1.length 0 1 = some [.slice (some ⟨H2.length, 0, none⟩) 1 1] := by
          simp [rdBlk, hlt2]
        have hl3 : H1.length < (H2.set H1.length ⟨[.slice (some ⟨H2.length, 0, none⟩) 1 1], 0, true, .live⟩).length := by simpa using hlt2
        obtain ⟨s, H', ha, rfl, f1, f2⟩ := finish (newBlk (H2.set H1.length ⟨[.slice (some ⟨H2.length, 0, none⟩) 1 1], 0, true, .live⟩) [.int .i64 u]) 1 1 (some ⟨H2.length, 0, none⟩)
          ((ext_set he2 (Nat.le_refl _)).trans (Ext.new (Ext.refl _))) (by rw [rdBlk_old _ _ _ _ _ hl3]; exact hr2)
          (by rw [hrw]; exact sl_ints _ [(u : Int)] (by simp)) (fun a l c e => by cases e; exact hlt2)
        simp [newBlk_length] at ha
        simp [go_sem, g, hw2, hr2, hl3, hlt2, ha]
        exact loopK_next (u + 1, H', H2.length + 1 + 1) ⟨by simp only; omega, f1, by simpa [newBlk_length] using f2⟩ (by simp only; omega) rfl (by simp [go_sem]) (by simp [go_sem, wrap_succ (i := u) (by omega), newBlk_length])
      · have hg : ¬ (u : Int) = origin := by simpa using g
        have hrw : rWay (tab ls) origin ws u = bestOf u ws (cIdx (tab ls) u ws ws.length) := by
          unfold rWay chosen bestOf
          rw [if_neg hg]
          cases cIdx (tab ls) u ws ws.length <;> rfl
        obtain ⟨ab, cb, rfl⟩ := hbs.shape
        have hr2 : rdBlk H2 H1.length 0 1 = some [.slice ab (bestOf u ws (cIdx (tab ls) u ws ws.length)).length cb] := by simp [rdBlk, hbv]
        obtain ⟨s, H', ha, rfl, f1, f2⟩ := finish H2 _ cb ab he2 hr2 (by rw [hrw]; exact hbs) hbf
        simp [go_sem, g, hr2, ha]
        exact loopK_next (u + 1, H', H2.length + 1) ⟨by simp only; omega, f1, f2⟩ (by simp only; omega) rfl (by simp [go_sem]) (by simp [go_sem, wrap_succ (i := u) (by omega)])
  · have huu : u = ws.length := by omega
    subst huu
    simp [go_sem]
    refine hk _ _ he0 ?_
    by_cases hu0 : ws.length = 0
    · have : ws = [] := List.length_eq_zero_iff.1 hu0
      subst this
      exact ⟨none, 0, by simp [rnd], by simp [rnd], fun _ => rfl, fun ad h => (by cases h)⟩
    · rw [if_neg (fun e : ws = [] => hu0 (by rw [e]; rfl))]
      obtain ⟨hb1, hb2⟩ := hblk (by omega)
      refine ⟨some ⟨bo, 0, none⟩, ws.length, by simp [rnd], by simp [rnd], fun h => (by cases h), fun ad ha => ?_⟩
      cases ha
      refine ⟨rfl, (List.getElem?_eq_some_iff.1 hb2).1, by simp [okShare, hb2], fun i x hx => ?_⟩
      have hi := (List.getElem?_eq_some_iff.1 hx).1
      simp [rnd] at hi
      have hvi : i < vs.length := by omega
      have hv : vs[i]? = some vs[i] := List.getElem?_eq_getElem hvi
      refine ⟨[vs[i]], ?_, vs[i], rfl, ?_⟩
      · simp only [rdBlk, hb2, Nat.zero_add, Nat.mul_one]
        rw [if_pos ⟨by simp, by omega⟩, List.drop_eq_getElem_cons hvi]
        rfl
      · have := (hout i _ hv).1
        simp [rnd, hi] at hx
        rw [← hx]; exact this
end Go.Proofs.Ythifgakeababmaa.Ba
