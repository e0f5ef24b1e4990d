/- The law: Put, Get, List, Tick and Graph return what the document says. -/
import Derived.Test.YthifgakeababmaaAd16
set_option linter.unusedVariables false
set_option linter.unusedSimpArgs false
set_option maxRecDepth 10000
set_option maxHeartbeats 1000000
namespace Go.Proofs.Ythifgakeababmaa.Ad
open Go Go.Am
open Go.Proofs.Ythifgakeababmaa.Fx
open Go.Proofs.Ythifgakeababmaa.Ba (wrap_small wrap_succ sameInts_spec)
variable {H : Heap} {K : Value → Heap → Prop}

def wStep (a : Adv) (w : Int) (x : Adv) : Int := if fault a = 0 ∧ x.id = a.id then newerZ a x else w
def wantL (a : Adv) (l : List Adv) : Int := l.foldl (wStep a) 1
theorem wantL_succ {a : Adv} {l : List Adv} {i : Nat} (h : i < l.length) : wantL a (l.take (i + 1)) = wStep a (wantL a (l.take i)) l[i] := by
  unfold wantL
  rw [List.take_succ_eq_append_getElem h, List.foldl_append]; rfl
theorem wantL_none {a : Adv} : ∀ (l : List Adv) (w : Int), (∀ x ∈ l, x.id ≠ a.id) → l.foldl (wStep a) w = w
  | [], _, _ => rfl
  | x :: l, w, h => by
    rw [List.foldl_cons, show wStep a w x = w from if_neg (fun hh => h x (List.mem_cons_self ..) hh.2)]
    exact wantL_none l w fun y hy => h y (List.mem_cons_of_mem _ hy)
theorem want_eq {st : Nat → Option Adv} (hok : StOk st) {a : Adv} (hf : fault a = 0) : wantL a (listL st 16) = putN st a := by
  have nb := fault_zero hf
  unfold advBad at nb
  have key : ∀ n, wantL a (listL st n) = match (if a.id.toNat < n then st a.id.toNat else none) with
      | none => 1
      | some x => newerZ a x := by
    intro n
    induction n with
    | zero => rfl
    | succ n ih =>
      have hs := listL_succ (st := st) (n := n)
      cases hst : st n with
      | none =>
        have : listL st (n + 1) = listL st n := by rw [hs, hst]; simp
        rw [this, ih]
        by_cases h : a.id.toNat < n
        · rw [if_pos h, if_pos (by omega)]
        · rw [if_neg h]
          by_cases h2 : a.id.toNat = n
          · rw [if_pos (by omega), h2, hst]
          · rw [if_neg (by omega)]
      | some x =>
        have : listL st (n + 1) = listL st n ++ [x] := by rw [hs, hst]
        have hx := (hok n x hst).2
        have e1 : wantL a (listL st n ++ [x]) = wStep a (wantL a (listL st n)) x := by unfold wantL; rw [List.foldl_append]; rfl
        rw [this, e1]
        by_cases h2 : a.id.toNat = n
        · rw [if_pos (by omega), h2, hst]
          exact if_pos ⟨hf, by omega⟩
        · rw [show wStep a (wantL a (listL st n)) x = wantL a (listL st n) from if_neg (fun h => h2 (by omega)), ih]
          by_cases h : a.id.toNat < n
          · rw [if_pos h, if_pos (by omega)]
          · rw [if_neg h, if_neg (by omega)]
  rw [key 16, if_pos (by omega)]
  unfold putN
  rw [if_neg (by simp [hf])]
  cases st a.id.toNat <;> rfl

theorem le_hide_one {H H' : Heap} {b : Nat} (he : Ext H H') (hb : H.length ≤ b) : Le H (hide (one b) H') := he.hide fun i hi => by simp [one] at hi; omega

def seenI (l : List Adv) (id : Int) : Int := if (l.any fun y => decide (y.id = id)) = true then 0 else 4
theorem seenI_nil (id : Int) : seenI [] id = 4 := rfl
theorem seenI_succ {l : List Adv} {id : Int} {j : Nat} (h : j < l.length) : seenI (l.take (j + 1)) id = if l[j].id = id then 0 else seenI (l.take j) id := by
  unfold seenI
  rw [List.take_succ_eq_append_getElem h, List.any_append]
  by_cases hc : l[j].id = id
  · simp [hc]
  · simp only [List.any_cons, List.any_nil, decide_eq_false hc, Bool.or_false, if_neg hc]

/-- The law. -/
theorem law_spec {n id : Int} {s : Value} {l : List Adv} (hs : Sl RAdv 4 H s l) (hk : ∀ H', K (.bool true) H') : Wcall Try.prog 7 #[s, .int .i64 n, .int .i64 id] H K := by
  obtain ⟨as_, c, rfl⟩ := hs.shape
  refine call_body (rs := #[.tmp 6]) Try.func7 rfl Try.ntmps7 rfl rfl (by simp) ?_
  simp [go_sem]
  refine new_spec fun H1 e1 hb1 => ?_
  simp [go_sem]
  refine lives_spec fun H2 e2 => ?_
  have e02 := e1.trans e2
  have hb2 : BaseSt H2 H.length (fun _ => none) := BaseAt.ext hb1 e2
  have hbl := BaseAt.lt hb2
  simp [go_sem]
  refine some_spec (hs.ext RAdv.mono e02) ?_
  have hs6 : Sl RAdv 4 (hide (one H.length) H2) (.slice as_ (min l.length 6) c) (l.take (min l.length 6)) := (hs.le RAdv.monoL (le_hide_one e02 (Nat.le_refl _))).take _ (by omega)
  generalize hl6 : l.take (min l.length 6) = l6 at hs6
  have hlen6 : min l.length 6 = l6.length := by rw [← hl6]; simp
  have h6 : l6.length ≤ 6 := by omega
  rw [hlen6] at hs6 ⊢
  simp [go_sem]
  refine Wc.loopw 147 (fun i : Nat × Heap => [(0, .slice as_ l6.length c), (1, .int .i64 n), (2, .int .i64 id), (7, .pointer (some ⟨H.length, 0, none⟩)), (34, .slice as_ l6.length c), (35, .int .i64 l6.length), (36, .int .i64 i.1)]) (fun i => i.2)
    (fun i => i.1 ≤ l6.length ∧ H2.length ≤ i.2.length ∧ Le (hide (one H.length) H2) (hide (one H.length) i.2) ∧ BaseSt i.2 H.length (stOf (l6.take i.1))) (fun i => l6.length - i.1) (0, _)
    ⟨Nat.zero_le _, Nat.le_refl _, Le.refl _, hb2⟩ (by simp [go_sem]) rfl (by simp [go_sem]) ?_
  rintro ⟨i, H3⟩ ⟨hi, hlen3, hle3, hb3⟩
  simp only at hi hlen3 hle3 hb3
  have hb3l := BaseAt.lt hb3
  have hs3 := hs6.le RAdv.monoL hle3
  have hs3H := hs3.le RAdv.monoL hide_le
  simp [go_sem]
  refine Br.forkD (fun h => ?_) (fun h => ?_)
  · obtain ⟨b, off, cells, rfl, hb, _, hr, sx, hc, hsx⟩ := hs3.get h
    replace hr := hide_le.rd hr
    have hput := put_stOf (l6.take i) l6[i]
    rw [← List.take_succ_eq_append_getElem h] at hput
    obtain ⟨x, hx⟩ : ∃ x, l6[i] = x := ⟨_, rfl⟩
    rw [hx] at hc hsx hput
    unfold advC at hc
    subst hc
    obtain ⟨ax, cx, rfl⟩ := hsx.shape
    have hsxH := hsx.le RLk.monoL hide_le
    have hsl := (hs3H.ext RAdv.mono (Ext.new (l := [.int .i64 x.id, .int .i64 x.seq, .int .i64 x.age, .slice ax x.links.length cx]) (Ext.refl _))).aSlice u68 i41 s41 (j := (i : Int)) (by omega) (by omega)
    have hok := stOf_ok (l6.take i)
    simp [go_sem, hr, h, hsl]
    refine newest_spec ((hs3H.ext RAdv.mono (Ext.new (Ext.refl _))).take i (by omega)) (by simp; omega) fun H4 s4 e4 hs4 => ?_
    have r4 : rdBlk H4 H3.length 0 4 = some [.int .i64 x.id, .int .i64 x.seq, .int .i64 x.age, .slice ax x.links.length cx] := e4.rd (by simp [go_sem])
    have e34 : Ext H3 H4 := Ext.trans (by simp [go_sem]) e4
    obtain ⟨a4, c4, rfl⟩ := hs4.shape
    have hwl := listL_len (stOf (l6.take i)) 16
    simp [go_sem, r4]
    refine advFault_spec (a := x) (hsxH.ext RLk.mono e34) fun H5 e5 => ?_
    have e35 := e34.trans e5
    have r5 := e5.rd r4
    have hs5 := hs4.ext RAdv.mono e5
    simp [go_sem]
    refine Wc.loopw 147 (fun j : Nat × Heap => [(0, .slice (some ⟨b, off, none⟩) l6.length c), (1, .int .i64 n), (2, .int .i64 id), (7, .pointer (some ⟨H.length, 0, none⟩)), (9, .pointer (some ⟨H3.length, 0, none⟩)), (11, .int .i64 (wantL x ((listL (stOf (l6.take i)) 16).take j.1))), (12, .int .i64 (fault x)), (34, .slice (some ⟨b, off, none⟩) l6.length c), (35, .int .i64 l6.length), (36, .int .i64 i), (47, .slice a4 (listL (stOf (l6.take i)) 16).length c4), (48, .int .i64 (listL (stOf (l6.take i)) 16).length), (49, .int .i64 j.1)]) (fun j => j.2)
      (fun j => j.1 ≤ (listL (stOf (l6.take i)) 16).length ∧ Ext H5 j.2) (fun j => (listL (stOf (l6.take i)) 16).length - j.1) (0, _)
      ⟨Nat.zero_le _, Ext.refl _⟩ (by simp [go_sem]) rfl (by simp [go_sem, wantL]) ?_
    rintro ⟨j, H6⟩ ⟨hj, e6⟩
    simp only at hj e6
    have r6 := e6.rd r5
    have l6' := rdBlk_lt r6
    simp [go_sem]
    refine Br.forkD (fun h2 => ?_) (fun h2 => ?_)
    · obtain ⟨bw, offw, cellsw, rfl, hbw, _, hrw, sw, hcw, hsw⟩ := (hs5.ext RAdv.mono e6).get h2
      have hsucc := wantL_succ (a := x) h2
      have hwm := mem_listL hok (List.getElem_mem h2)
      obtain ⟨y, hy⟩ : ∃ y, (listL (stOf (l6.take i)) 16)[j] = y := ⟨_, rfl⟩
      rw [hy] at hcw hsw hsucc hwm
      unfold advC at hcw
      subst hcw
      obtain ⟨ay, cy, rfl⟩ := hsw.shape
      have r60 : rdBlk H6 H3.length 0 1 = some [.int .i64 x.id] := by simpa using rdBlk_sub r6 (i := 0) (k := 1) (by omega)
      simp [go_sem, hrw, h2]
      by_cases F : fault x = 0
      · simp [go_sem, F, r60, l6']
        refine Br.fork (fun g => ?_) (fun g => ?_)
        · have g' : y.id = x.id := by simpa using g
          simp [go_sem, r6, l6']
          refine advNewer_spec (a := x) (b := y) (hsxH.ext RLk.mono ((e35.trans e6).trans (by simp [go_sem]))) (hsw.ext RLk.mono (by simp [go_sem])) F hwm.1 fun H7 e7 => ?_
          simp [go_sem]
          refine loopK_next (j + 1, H7) ⟨by simp only; omega, e6.trans (Ext.trans (by simp [go_sem]) e7)⟩ (by simp only; omega) rfl (by simp [go_sem]) (by simp [go_sem, wrap_succ (i := j) (by omega), hsucc, wStep, F, g'])
        · have g' : ¬ y.id = x.id := by simpa using g
          simp [go_sem]
          refine loopK_next (j + 1, _) ⟨by simp only; omega, e6.trans (by simp [go_sem])⟩ (by simp only; omega) rfl (by simp [go_sem]) (by simp [go_sem, wrap_succ (i := j) (by omega), hsucc, wStep, F, g'])
      · simp [go_sem, F]
        refine loopK_next (j + 1, _) ⟨by simp only; omega, e6.trans (by simp [go_sem])⟩ (by simp only; omega) rfl (by simp [go_sem]) (by simp [go_sem, wrap_succ (i := j) (by omega), hsucc, wStep, F])
    · have : j = (listL (stOf (l6.take i)) 16).length := by omega
      subst this
      rw [List.take_length]
      have e36 := e35.trans e6
      simp [go_sem, r6, l6']
      refine put_spec (a := x) (BaseAt.ext hb3 e36) (hsx.le RLk.monoL (hide_ext e36)) (fun i => by have := hok.links i; omega) fun H7 hlen7 hle7 hb7 => ?_
      rw [hput] at hb7
      by_cases F : fault x = 0
      · have hw := want_eq hok F
        simp [go_sem, F, hw]
        exact loopK_next (i + 1, H7) ⟨by simp only; omega, by have := e36.len; simp only; omega, (hle3.trans (hide_ext e36)).trans hle7, hb7⟩ (by simp only; omega) rfl (by simp [go_sem]) (by simp [go_sem, wrap_succ (i := i) (by omega)])
      · have hp := putN_bad (st := stOf (l6.take i)) F
        simp [go_sem, F, hp]
        exact loopK_next (i + 1, H7) ⟨by simp only; omega, by have := e36.len; simp only; omega, (hle3.trans (hide_ext e36)).trans hle7, hb7⟩ (by simp only; omega) rfl (by simp [go_sem]) (by simp [go_sem, wrap_succ (i := i) (by omega)])
  · have : i = l6.length := by omega
    subst this
    rw [List.take_length] at hb3
    have hok := stOf_ok l6
    generalize hst : stOf l6 = st at *
    have hls : ∀ i, (adOf st i).links.length < 1000000 := fun i => by have := hok.links i; omega
    have hll := listL_len st 16
    have hmem : ∀ y ∈ listL st 16, y.links.length < 1000000 := fun y hy => by have := fault_len (mem_listL hok hy).1; omega
    have geq := graph_eq hok
    have glen := graphL_len (st := st) (fun i => by have := hok.links i; omega) 16
    simp [go_sem]
    refine newestB_spec (B := hide (one H.length) H3) hide_le (hs3.inB hide_le) (by omega) fun H4 s4 e4 hg4 => ?_
    rw [hst] at hg4
    have hs4 : Sl RAdv 4 H4 s4 (listL st 16) := (hg4.sl (fun _ _ _ _ _ h => h)).of fun x c h => RAdv.monoL _ _ _ _ (hide_le.trans e4.le) h
    obtain ⟨a4, c4, rfl⟩ := hs4.shape
    simp [go_sem]
    refine graph_spec (BaseAt.ext hb3 e4) (fun i => by have := hok.links i; omega) hok.peer fun H5 s5 e5 hs5 => ?_
    obtain ⟨a5, c5, rfl⟩ := hs5.shape
    simp [go_sem]
    refine graphOf_spec (hs4.ext RAdv.mono (e5.trans (Ext.new (Ext.refl _)))) (by omega) (fun a ha => fault_len (mem_listL hok ha).1) fun H6 s6 e6 hs6 => ?_
    rw [geq] at hs6
    obtain ⟨a6, c6, rfl⟩ := hs6.shape
    have e56 : Ext H5 H6 := Ext.trans (by simp [go_sem]) e6
    have r6 : rdBlk H6 H5.length 0 2 = some [.int .i64 16, .slice a5 (graphL st 16).length c5] := e6.rd (by simp [go_sem])
    have e36 := (e4.trans e5).trans e56
    simp [go_sem]
    refine list_spec (BaseAt.ext hb3 (e36.trans (Ext.new (Ext.refl _)))) hls fun H7 s7 e7 hs7 => ?_
    have e67 : Ext H6 H7 := Ext.trans (by simp [go_sem]) e7
    have r7 := e67.rd r6
    have r70 : rdBlk H7 H5.length 0 1 = some [.int .i64 16] := by simpa using rdBlk_sub r7 (i := 0) (k := 1) (by omega)
    have q7 : rdBlk H7 H6.length 0 2 = some [.int .i64 16, .slice a6 (graphL st 16).length c6] := e7.rd (by simp [go_sem])
    have e37 := e36.trans e67
    have e47 := (e5.trans e56).trans e67
    simp [go_sem]
    refine sameAdvs_spec hs7 (hs4.ext RAdv.mono e47) (by omega) (by omega) hmem hmem fun H8 e8 => ?_
    have r80 := e8.rd r70
    have r8 := e8.rd r7
    have r81 : rdBlk H8 H5.length 1 1 = some [.slice a5 (graphL st 16).length c5] := by simpa using rdBlk_sub r8 (i := 1) (k := 1) (by omega)
    have q8 := e8.rd q7
    have q81 : rdBlk H8 H6.length 1 1 = some [.slice a6 (graphL st 16).length c6] := by simpa using rdBlk_sub q8 (i := 1) (k := 1) (by omega)
    have lr := rdBlk_lt r8
    have lq := rdBlk_lt q8
    have e48 := e47.trans e8
    have e38 := e37.trans e8
    simp [go_sem, r80, r81, q81, lr, lq]
    refine sameEdges_spec (hs5.ext REd.monoL.mono ((e56.trans e67).trans e8)) (hs6.ext REd.monoL.mono (e67.trans e8)) (by omega) (by omega) fun H9 e9 => ?_
    have e39 := e38.trans e9
    have e49 := e48.trans e9
    simp [go_sem]
    refine get_spec (id := id) (BaseAt.ext hb3 e39) hls fun H10 s10 e10 hs10 => ?_
    have hs104 := hs4.ext RAdv.mono (e49.trans e10)
    have e310 := e39.trans e10
    obtain ⟨a10, c10, rfl⟩ := hs10.shape
    have hgl : ((getO st id).getD zeroA).links.length < 1000000 := by
      unfold getO
      split
      · have := hok.links id.toNat
        unfold adOf at this; omega
      · simp [zeroA]
    have hmm : ∀ y ∈ listL st 16, y.id = id → getO st id = some y := fun y hy hyi => by
      have := mem_listL hok hy
      rw [getO_in (by omega), ← hyi]; exact this.2.2.2
    have hany : ((listL st 16).any fun y => decide (y.id = id)) = (getO st id).isSome := by
      cases hg : getO st id with
      | none =>
        simp only [Option.isSome_none]
        rw [List.any_eq_false]
        intro y hy
        simp
        intro hyi
        rw [hmm y hy hyi] at hg; cases hg
      | some y =>
        simp only [Option.isSome_some]
        rw [List.any_eq_true]
        unfold getO at hg
        split at hg
        · rename_i hid
          refine ⟨y, ?_, ?_⟩
          · unfold listL
            exact List.mem_filterMap.2 ⟨id.toNat, List.mem_range.2 (by omega), hg⟩
          · have := (hok _ _ hg).2
            simp; omega
        · cases hg
    generalize hx : (getO st id).getD zeroA = x at *
    generalize hall : listL st 16 = all at *
    simp [go_sem, advV, advC]
    refine Wc.loopw 147 (fun j : Nat × Heap => [(1, .int .i64 n), (2, .int .i64 id), (7, .pointer (some ⟨H.length, 0, none⟩)), (17, .slice a4 all.length c4), (20, .pointer (some ⟨H10.length, 0, none⟩)), (21, .int .i64 (if (getO st id).isSome then 0 else 4)), (22, .int .i64 (seenI (all.take j.1) id)), (123, .slice a4 all.length c4), (124, .int .i64 all.length), (125, .int .i64 j.1)]) (fun j => j.2)
      (fun j => j.1 ≤ all.length ∧ Ext (newBlk H10 [.int .i64 x.id, .int .i64 x.seq, .int .i64 x.age, .slice a10 x.links.length c10]) j.2) (fun j => all.length - j.1) (0, _)
      ⟨Nat.zero_le _, Ext.refl _⟩ (by simp [go_sem]) rfl (by simp [go_sem, seenI_nil]) ?_
    rintro ⟨j, H11⟩ ⟨hj, e11⟩
    simp only at hj e11
    have e1011 : Ext H10 H11 := Ext.trans (by simp [go_sem]) e11
    have r11 : rdBlk H11 H10.length 0 4 = some [.int .i64 x.id, .int .i64 x.seq, .int .i64 x.age, .slice a10 x.links.length c10] := e11.rd (by simp [go_sem])
    have l11 := rdBlk_lt r11
    simp [go_sem]
    refine Br.forkD (fun h => ?_) (fun h => ?_)
    · obtain ⟨bw, offw, cellsw, rfl, hbw, _, hrw, sw, hcw, hsw⟩ := (hs104.ext RAdv.mono e1011).get h
      have hwm := hmem _ (List.getElem_mem h)
      have hwy := hmm _ (List.getElem_mem h)
      have hany2 := seenI_succ (id := id) h
      obtain ⟨y, hy⟩ : ∃ y, all[j] = y := ⟨_, rfl⟩
      rw [hy] at hcw hsw hwm hwy hany2
      unfold advC at hcw
      subst hcw
      obtain ⟨ay, cy, rfl⟩ := hsw.shape
      simp [go_sem, hrw, h]
      refine Br.fork (fun g => ?_) (fun g => ?_)
      · have g' : y.id = id := by simpa using g
        have hxy : x = y := by rw [← hx, hwy g']; rfl
        simp [go_sem, r11, l11]
        refine sameAdv_spec (a := x) (b := y) (hs10.ext RLk.mono (e1011.trans (by simp [go_sem]))) (hsw.ext RLk.mono (by simp [go_sem])) hgl hwm fun H12 e12 => ?_
        rw [decide_eq_true hxy]
        simp [go_sem]
        refine loopK_next (j + 1, H12) ⟨by simp only; omega, e11.trans (Ext.trans (by simp [go_sem]) e12)⟩ (by simp only; omega) rfl (by simp [go_sem]) (by simp [go_sem, wrap_succ (i := j) (by omega), hany2, g'])
      · have g' : ¬ y.id = id := by simpa using g
        simp [go_sem]
        refine loopK_next (j + 1, _) ⟨by simp only; omega, e11.trans (by simp [go_sem])⟩ (by simp only; omega) rfl (by simp [go_sem]) (by simp [go_sem, wrap_succ (i := j) (by omega), hany2, g'])
    · have : j = all.length := by omega
      subst this
      have hsi : seenI all id = if (getO st id).isSome then 0 else 4 := by unfold seenI; rw [hany]
      rw [List.take_length, hsi]
      have e311 := e310.trans e1011
      simp [go_sem]
      have hs114 : Sl RAdv 4 (hide (one H.length) H11) (.slice a4 all.length c4) (listL st 16) := by
        rw [hall]
        have hle : Ext H4 H11 := (e49.trans e10).trans e1011
        exact (hg4.ext (fun _ _ _ _ _ h => h) hle).unhide RAdv.monoL (fun q hq => by simp [one] at hq; omega) (hide_ext (e4.trans hle))
      refine advTicks_spec (BaseAt.ext hb3 e311) hok hs114 fun H12 => ?_
      simp [go_sem]
      exact hk _
end Go.Proofs.Ythifgakeababmaa.Ad
