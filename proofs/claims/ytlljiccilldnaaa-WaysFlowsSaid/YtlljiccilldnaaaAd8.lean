/- The graph of a database. -/
import Derived.Test.YtlljiccilldnaaaAd7
set_option linter.unusedVariables false
set_option linter.unusedSimpArgs false
set_option maxRecDepth 10000
namespace Go.Proofs.Ytlljiccilldnaaa.Ad
open Go Go.Am
open Go.Proofs.Ytlljiccilldnaaa.Fx
open Go.Proofs.Ytlljiccilldnaaa.Ba (wrap_small wrap_succ sameInts_spec)
variable {H : Heap} {K : Value → Heap → Prop}

theorem KB {b b' : Bool} {H' : Heap} (h : K (.bool b) H') (e : b = b') : K (.bool b') H' := e ▸ h

/-- The closure of 'names'. -/
theorem isPeer_spec {x : Int × Int} {p : Nat} {peer : Int} (hp : rdBlk H p 0 1 = some [.int .i64 peer]) (hk : ∀ H', Ext H H' → K (.bool (decide (x.1 = peer))) H') : Wcall Try.prog 140 #[.agg #[.int .i64 x.1, .int .i64 x.2], .pointer (some ⟨p, 0, none⟩)] H K := by
  refine call_body (rs := #[.tmp 3]) Try.func140 rfl Try.ntmps140 rfl rfl (by simp) ?_
  have hpl := rdBlk_lt hp
  simp [go_sem, hp, hpl]
  exact hk _ (by simp [go_sem])

def peerB (ls : List (Int × Int)) (peer : Int) : Bool := ls.any fun x => decide (x.1 = peer)

/-- 'slices.IndexFunc' at that closure. -/
theorem indexFunc_spec {s : Value} {ls : List (Int × Int)} {p : Nat} {peer : Int} (hs : Sl RLk 2 H s ls) (hl : ls.length < 1000000) (hp : rdBlk H p 0 1 = some [.int .i64 peer])
    (hk : ∀ H' (r : Int), Ext H H' → decide (0 ≤ r) = peerB ls peer → K (.int .i64 r) H') : Wcall Try.prog 101 #[s, .func (.func 140) #[] #[.pointer (some ⟨p, 0, none⟩)]] H K := by
  obtain ⟨a, c, rfl⟩ := hs.shape
  refine call_body (rs := #[.tmp 4]) Try.func101 rfl Try.ntmps101 rfl rfl (by simp) ?_
  simp [go_sem]
  refine Wc.loopw 19 (fun i : Nat × Heap => [(0, .slice a ls.length c), (1, .func (.func 140) #[] #[.pointer (some ⟨p, 0, none⟩)]), (7, .int .i64 ls.length), (8, .int .i64 i.1)]) (fun i => i.2)
    (fun i => i.1 ≤ ls.length ∧ Ext H i.2 ∧ ∀ j (h : j < ls.length), j < i.1 → ls[j].1 ≠ peer) (fun i => ls.length - i.1) (0, _) ⟨Nat.zero_le _, Ext.refl _, fun _ _ h => absurd h (by simp)⟩ (by simp [go_sem]) rfl (by simp [go_sem]) ?_
  rintro ⟨i, H1⟩ ⟨hi, he, hno⟩
  simp only at hi he hno
  simp [go_sem]
  refine Br.forkD (fun h => ?_) (fun h => ?_)
  · obtain ⟨b, off, cells, rfl, hb, _, hr, hc⟩ := (hs.ext RLk.mono he).get h
    unfold RLk at hc
    subst hc
    simp [go_sem, h, hr]
    refine isPeer_spec (x := ls[i]) (he.rd hp) fun H2 e2 => ?_
    simp [go_sem]
    refine Br.forkD (fun h2 => ?_) (fun h2 => ?_)
    · simp [go_sem]
      refine hk _ _ (he.trans e2) ?_
      have : peerB ls peer = true := List.any_eq_true.2 ⟨_, List.getElem_mem h, by simpa using h2⟩
      rw [this]; simp
    · simp [go_sem]
      refine loopK_next (i + 1, H2) ⟨by simp only; omega, he.trans e2, fun j hj hji => ?_⟩ (by simp only; omega) rfl (by simp [go_sem]) (by simp [go_sem, wrap_succ (i := i) (by omega)])
      by_cases e : j = i
      · subst e; exact h2
      · exact hno j hj (by simp only at hji; omega)
  · simp [go_sem]
    refine hk _ _ he ?_
    have : peerB ls peer = false := by
      cases hq : peerB ls peer
      · rfl
      · obtain ⟨x, hx, e⟩ := List.any_eq_true.1 hq
        obtain ⟨j, hj, rfl⟩ := List.getElem_of_mem hx
        exact absurd (by simpa using e) (hno j hj (by omega))
    rw [this]; rfl

theorem containsFunc_spec {s : Value} {ls : List (Int × Int)} {p : Nat} {peer : Int} (hs : Sl RLk 2 H s ls) (hl : ls.length < 1000000) (hp : rdBlk H p 0 1 = some [.int .i64 peer])
    (hk : ∀ H', Ext H H' → K (.bool (peerB ls peer)) H') : Wcall Try.prog 139 #[s, .func (.func 140) #[] #[.pointer (some ⟨p, 0, none⟩)]] H K := by
  refine call_body (rs := #[.tmp 4]) Try.func139 rfl Try.ntmps139 rfl rfl (by simp) ?_
  simp [go_sem]
  refine indexFunc_spec hs hl hp fun H1 r e1 hr => ?_
  simp [go_sem]
  rw [hr]
  exact hk _ e1

def namesB (st : Nat → Option Adv) (id peer : Int) : Bool := match st id.toNat with
  | some a => decide (a.age < 3600) && peerB a.links peer
  | none => false

/-- 'names'. -/
theorem names_spec {b : Nat} {st : Nat → Option Adv} {id peer : Int} (hb : BaseSt H b st) (hls : ∀ i, (adOf st i).links.length < 1000000) (hid : 0 ≤ id ∧ id < 16) (hk : ∀ H', Ext H H' → K (.bool (namesB st id peer)) H') :
    Wcall Try.prog 110 #[.pointer (some ⟨b, 0, none⟩), .int .i64 id, .int .i64 peer] H K := by
  obtain ⟨n, hn⟩ : ∃ n : Nat, id = n := ⟨id.toNat, by omega⟩
  subst hn
  have hn16 : n < 16 := by omega
  refine call_body (rs := #[.tmp 6]) Try.func110 rfl Try.ntmps110 rfl rfl (by simp) ?_
  have hbl := BaseAt.lt hb
  have rh := BaseAt.rdHas hb hn16
  obtain ⟨sx, rx, hsx⟩ := BaseAt.rdAdv hb hn16
  simp [go_sem, hid, hn16, rh, hbl]
  cases hst : st n with
  | none =>
    simp [go_sem, hasOf, hst]
    exact KB (hk _ (by simp [go_sem])) (by simp [namesB, hst])
  | some x =>
    have hax : adOf st n = x := by simp [adOf, hst]
    rw [hax] at rx hsx
    unfold advC at rx
    have rx2 : rdBlk H b (n * 4 + 2) 1 = some [.int .i64 x.age] := by simpa using rdBlk_sub rx (i := 2) (k := 1) (by omega)
    have rx3 : rdBlk H b (n * 4 + 3) 1 = some [sx] := by simpa using rdBlk_sub rx (i := 3) (k := 1) (by omega)
    have hlx := hls n
    rw [hax] at hlx
    have hsH := hsx.le RLk.monoL hide_le
    simp [go_sem, hasOf, hst, hid, hn16, rx2, hbl]
    refine Gd.forkD (fun d => ?_) (fun d => ?_)
    · simp [go_sem, d, hid, hn16, rx3, hbl]
      refine containsFunc_spec (peer := peer) (hsH.ext RLk.mono (by simp [go_sem])) hlx (by simp [go_sem]) fun H2 e2 => ?_
      simp [go_sem]
      refine KB (hk _ ?_) (by simp [namesB, hst, d])
      refine Ext.trans ?_ e2; simp [go_sem]
    · simp [go_sem, d]
      exact KB (hk _ (by simp [go_sem])) (by simp [namesB, hst, d])

/-- An edge. -/
def REd (H : Heap) (x : Int × Int × Int) (cells : List Value) : Prop := cells = [.int .i64 x.1, .int .i64 x.2.1, .int .i64 x.2.2]
theorem REd.monoL : MonoL REd := fun _ _ _ _ _ h => h
def edgesOf (st : Nat → Option Adv) (id : Int) (ls : List (Int × Int)) : List (Int × Int × Int) := (ls.filter fun x => namesB st id x.1 && namesB st x.1 id).map fun x => (id, x.1, x.2)
def graphL (st : Nat → Option Adv) (n : Nat) : List (Int × Int × Int) := (List.range n).flatMap fun (i : Nat) => edgesOf st (i : Int) (adOf st i).links
theorem graphL_succ {st : Nat → Option Adv} {n : Nat} : graphL st (n + 1) = graphL st n ++ edgesOf st n (adOf st n).links := by
  unfold graphL
  rw [List.range_succ, List.flatMap_append]; simp
theorem edgesOf_succ {st : Nat → Option Adv} {id : Int} {ls : List (Int × Int)} {i : Nat} (h : i < ls.length) : edgesOf st id (ls.take (i + 1)) = edgesOf st id (ls.take i) ++ (if namesB st id ls[i].1 && namesB st ls[i].1 id then [(id, ls[i].1, ls[i].2)] else []) := by
  unfold edgesOf
  rw [List.take_succ_eq_append_getElem h, List.filter_append, List.map_append]
  congr 1
  by_cases hc : (namesB st id ls[i].1 && namesB st ls[i].1 id) = true
  · rw [if_pos hc, List.filter_cons_of_pos (by exact hc)]; simp
  · rw [if_neg hc, List.filter_cons_of_neg (by exact hc)]; simp
theorem edgesOf_len {st : Nat → Option Adv} {id : Int} {ls : List (Int × Int)} : (edgesOf st id ls).length ≤ ls.length := by
  unfold edgesOf
  rw [List.length_map]; exact List.length_filter_le _ _
theorem graphL_len {st : Nat → Option Adv} (hls : ∀ i, (adOf st i).links.length ≤ 1000) : ∀ n, (graphL st n).length ≤ 1000 * n
  | 0 => by simp [graphL]
  | n + 1 => by
    have := graphL_len hls n
    have h2 := edgesOf_len (st := st) (id := n) (ls := (adOf st n).links)
    have h3 := hls n
    rw [graphL_succ, List.length_append]
    omega

theorem news_one {t e' : TypeId} {z : Value} {b : Nat} {cells : List Value} {sz : Nat} (hu : Try.prog.underlying t = some (.slice e')) (hz : z.cells.size = sz) (hr : rdBlk H b 0 sz = some cells) : aNews Try.prog H z t (.slice (some ⟨b, 0, none⟩) 1 1) = some (1, cells) :=
  news_slice hu hz (by omega) (by simpa using hr)

/-- 'Graph'. -/
theorem graph_spec {b : Nat} {st : Nat → Option Adv} (hb : BaseSt H b st) (hls : ∀ i, (adOf st i).links.length ≤ 1000) (hpe : ∀ i, ∀ x ∈ (adOf st i).links, 0 ≤ x.1 ∧ x.1 < 16)
    (hk : ∀ H' s', Ext H H' → Sl REd 3 H' s' (graphL st 16) → K (.agg #[.int .i64 16, s']) H') : Wcall Try.prog 85 #[.pointer (some ⟨b, 0, none⟩)] H K := by
  refine call_cells (rs := #[.cell 2 49]) Try.func85 rfl Try.ntmps85 rfl (by simp) ?_
  have hbl := BaseAt.lt hb
  have hls2 : ∀ i, (adOf st i).links.length < 1000000 := fun i => by have := hls i; omega
  obtain ⟨l, rl, hl⟩ := BaseAt.all hb
  simp [go_sem, rl, hbl]
  refine Wc.loopw 50 (fun i : Nat × Heap × Value => [(0, .pointer (some ⟨b, 0, none⟩)), (2, .pointer (some ⟨H.length, 0, none⟩)), (3, .pointer (some ⟨H.length + 1, 0, none⟩)), (12, .agg l.toArray), (13, .int .i64 i.1)]) (fun i => i.2.1)
    (fun i => i.1 ≤ 16 ∧ Ext H i.2.1 ∧ i.2.1[H.length]? = some ⟨[.int .i64 0, .slice none 0 0], 0, true, .live⟩ ∧ i.2.1[H.length + 1]? = some ⟨[.int .i64 16, i.2.2], 0, true, .live⟩ ∧ GSl REd 3 (H.length + 2) i.2.1 i.2.2 (graphL st i.1)) (fun i => 16 - i.1) (0, _, .slice none 0 0)
    ⟨Nat.zero_le _, by simp [go_sem], by simp [newBlk], by simp [newBlk], GSl.nil⟩ (by simp [go_sem]) rfl (by simp [go_sem]) ?_
  rintro ⟨i, H1, s1⟩ ⟨hi, he, hz, hg, hgs⟩
  simp only at hi he hz hg hgs
  simp [go_sem]
  refine Br.forkD (fun h => ?_) (fun h => ?_)
  · have hi16 : i < 16 := by omega
    obtain ⟨s, ri, hs⟩ := hl i hi16
    have hsH := hs.le RLk.monoL hide_le
    obtain ⟨al, c, rfl⟩ := hsH.shape
    have hsucc := graphL_succ (st := st) (n := i)
    have hpi := hpe i
    generalize hlsq : (adOf st i).links = ls at *
    have hll : ls.length ≤ 1000 := by rw [← hlsq]; exact hls i
    unfold advC at ri
    simp [go_sem, h, ri]
    refine Wc.loopw 50 (fun j : Nat × Heap × Value => [(0, .pointer (some ⟨b, 0, none⟩)), (2, .pointer (some ⟨H.length, 0, none⟩)), (3, .pointer (some ⟨H.length + 1, 0, none⟩)), (4, .int .i64 i), (12, .agg l.toArray), (13, .int .i64 i), (18, .slice al ls.length c), (19, .int .i64 ls.length), (20, .int .i64 j.1)]) (fun j => j.2.1)
      (fun j => j.1 ≤ ls.length ∧ Ext H j.2.1 ∧ j.2.1[H.length]? = some ⟨[.int .i64 0, .slice none 0 0], 0, true, .live⟩ ∧ j.2.1[H.length + 1]? = some ⟨[.int .i64 16, j.2.2], 0, true, .live⟩ ∧ GSl REd 3 (H.length + 2) j.2.1 j.2.2 (graphL st i ++ edgesOf st i (ls.take j.1))) (fun j => ls.length - j.1) (0, _, s1)
      ⟨Nat.zero_le _, by simp [go_sem, he], Ext.at (Ext.new (Ext.refl _)) hz, Ext.at (Ext.new (Ext.refl _)) hg, by simpa [edgesOf, newBlk] using hgs.ext REd.monoL (Ext.new (Ext.refl _))⟩ (by simp [go_sem]) rfl (by simp [go_sem]) ?_
    rintro ⟨j, H2, s2⟩ ⟨hj, he2, hz2, hg2, hgs2⟩
    simp only at hj he2 hz2 hg2 hgs2
    simp [go_sem]
    refine Br.forkD (fun h2 => ?_) (fun h2 => ?_)
    · obtain ⟨bb, off, cells, rfl, _, _, hr, hc⟩ := (hsH.ext RLk.mono he2).get h2
      unfold RLk at hc
      have hes := edgesOf_succ (st := st) (id := i) h2
      have hxm := hpi _ (List.getElem_mem h2)
      obtain ⟨x, hx⟩ : ∃ x, ls[j] = x := ⟨_, rfl⟩
      rw [hx] at hc hes hxm
      subst hc
      have glen : (graphL st i ++ edgesOf st i (ls.take j)).length ≤ 100000 := by
        have q1 := graphL_len hls i
        have q2 := edgesOf_len (st := st) (id := i) (ls := ls.take j)
        rw [List.length_append]
        simp at q2
        omega
      simp [go_sem, hr, h2]
      refine names_spec (BaseAt.ext hb (by simp [go_sem, he2])) hls2 (by omega) fun H3 e3 => ?_
      have e23 : Ext H2 H3 := by refine Ext.trans ?_ e3; simp [go_sem]
      have rx3 : rdBlk H3 H2.length 0 2 = some [.int .i64 x.1, .int .i64 x.2] := e3.rd (by simp [go_sem])
      have rx31 : rdBlk H3 H2.length 0 1 = some [.int .i64 x.1] := by simpa using rdBlk_sub rx3 (i := 0) (k := 1) (by omega)
      have l3 := rdBlk_lt rx3
      cases c1 : namesB st i x.1 with
      | false =>
        rw [c1] at hes
        simp [go_sem]
        exact loopK_next (j + 1, H3, s2) ⟨by simp only; omega, he2.trans e23, e23.at hz2, e23.at hg2, by simp at hes; simp only; rw [hes]; exact hgs2.ext REd.monoL e23⟩ (by simp only; omega) rfl (by simp [go_sem]) (by simp [go_sem, wrap_succ (i := j) (by omega)])
      | true =>
        rw [c1] at hes
        simp [go_sem, rx31, l3]
        refine names_spec (BaseAt.ext hb (he2.trans e23)) hls2 (by omega) fun H4 e4 => ?_
        have e24 := e23.trans e4
        have rx4 := e4.rd rx3
        have rx41 := e4.rd rx31
        have rx42 : rdBlk H4 H2.length 1 1 = some [.int .i64 x.2] := by simpa using rdBlk_sub rx4 (i := 1) (k := 1) (by omega)
        cases c2 : namesB st x.1 i with
        | false =>
          rw [c2] at hes
          simp [go_sem]
          exact loopK_next (j + 1, H4, s2) ⟨by simp only; omega, he2.trans e24, e24.at hz2, e24.at hg2, by simp at hes; simp only; rw [hes]; exact hgs2.ext REd.monoL e24⟩ (by simp only; omega) rfl (by simp [go_sem]) (by simp [go_sem, wrap_succ (i := j) (by omega)])
        | true =>
          rw [c2] at hes
          simp at hes
          have hg4 := e24.at hg2
          have l4 := (List.getElem?_eq_some_iff.1 hg4).1
          have rg4 := rd_at hg4 (off := 1) (n := 1) (by simp)
          simp at rg4
          have l4' := rdBlk_lt rx4
          obtain ⟨as2, hsh2⟩ := hgs2.shape
          simp [go_sem, rg4, rx41, rx42, l4, l4']
          have hgs4 : GSl REd 3 (H.length + 2) (newBlk H4 [.int .i64 i, .int .i64 x.1, .int .i64 x.2]) s2 (graphL st i ++ edgesOf st i (ls.take j)) := hgs2.ext REd.monoL (by simp [go_sem, e24])
          refine op2_append (ys := [((i : Int), x.1, x.2)]) (l := [.int .i64 i, .int .i64 x.1, .int .i64 x.2]) hgs4 REd.monoL (by simp [newBlk_length]; omega)
            u47 z65 i65 s65 rfl (by omega) (by rw [b65]; omega) (news_one u47 rfl (by simp [go_sem])) (by simp) (by simp) ?_ (by simp at glen ⊢; omega) ?_
          · intro k y hy
            have hk0 : k = 0 := by have := (List.getElem?_eq_some_iff.1 hy).1; simp at this; omega
            subst hk0
            simp at hy
            subst hy
            rfl
          intro s' H' hg' hkeep hlt hext hat hle
          have e4' : Ext H (newBlk H4 [.int .i64 i, .int .i64 x.1, .int .i64 x.2]) := by simp [go_sem, he2.trans e24]
          have nat : ∀ q, q < H.length + 2 → atB s2 q = false := fun q hq => by
            cases hc : atB s2 q
            · rfl
            · have := (hgs4.lt hc).1; omega
          have hg5 : H'[H.length + 1]? = some ⟨[.int .i64 16, s2], 0, true, .live⟩ := by
            rw [hkeep _ (by simp [newBlk_length]; omega) (nat _ (by omega))]; exact Ext.at (Ext.new (Ext.refl _)) hg4
          have hz5 : H'[H.length]? = some ⟨[.int .i64 0, .slice none 0 0], 0, true, .live⟩ := by
            rw [hkeep _ (by simp [newBlk_length]; omega) (nat _ (by omega))]; exact Ext.at (Ext.new (Ext.refl _)) (e24.at hz2)
          have w5 := wr_at hg5 (off := 1) (vs := [s']) (by simp)
          simp at w5
          have l5 := (List.getElem?_eq_some_iff.1 hg5).1
          have e5 : Ext H H' := hext H (by omega) e4'
          obtain ⟨as5, n5, hsh5⟩ : ∃ a n, s' = .slice a n n := by obtain ⟨a, e⟩ := hg'.shape; exact ⟨a, _, e⟩
          have hsol : solid s' = true := by rw [hsh5]; rfl
          have hcel : s'.cells = #[s'] := by rw [hsh5]; rfl
          have nat' : ∀ q, q < H.length + 2 → atB s' q = false := fun q hq => by rw [hat]; exact one_ne (by simp [newBlk_length]; omega)
          have fin : GSl REd 3 (H.length + 2) (H'.set (H.length + 1) ⟨[.int .i64 16, s'], 0, true, .live⟩) s' (graphL st i ++ edgesOf st i (ls.take (j + 1))) := by
            rw [hes, ← List.append_assoc]
            refine hg'.frame (fun q k hq hk => ?_) (fun _ _ _ h => h)
            have : q ≠ H.length + 1 := fun e => by rw [nat' q (by omega)] at hq; cases hq
            rw [List.getElem?_set_ne (Ne.symm this)]; exact hk
          simp [go_sem, hsh5]
          simp [go_sem, ← hsh5, w5]
          exact loopK_next (j + 1, _, s') ⟨by simp only; omega, ext_set e5 (by omega), by rw [List.getElem?_set_ne (by omega)]; exact hz5, List.getElem?_set_self l5, fin⟩ (by simp only; omega) rfl (by simp [go_sem]) (by simp [go_sem, wrap_succ (i := j) (by omega)])
    · simp [go_sem]
      have : j = ls.length := by omega
      subst this
      rw [List.take_length] at hgs2
      exact loopK_next (i + 1, H2, s2) ⟨by simp only; omega, he2, hz2, hg2, by simp only; rw [hsucc]; exact hgs2⟩ (by simp only; omega) rfl (by simp [go_sem]) (by simp [go_sem, wrap_succ (i := i) (by omega)])
  · have : i = 16 := by omega
    subst this
    obtain ⟨as1, hsh1⟩ := hgs.shape
    have l1 := (List.getElem?_eq_some_iff.1 hz).1
    have r1 := rd_at hg (off := 0) (n := 2) (by simp)
    have w1 := wr_at hz (off := 0) (vs := [.int .i64 16, s1]) (by simp)
    have g2 : (H1.set H.length ⟨[.int .i64 16, s1], 0, true, .live⟩)[H.length]? = some ⟨[.int .i64 16, s1], 0, true, .live⟩ := List.getElem?_set_self l1
    have r2 := rd_at g2 (off := 0) (n := 2) (by simp)
    simp at r1 w1 r2
    simp [go_sem, r1, w1, r2]
    refine hk _ _ (ext_set he (Nat.le_refl _)) (GSl.sl (m := H.length + 2) REd.monoL (hgs.frame (fun q k hq hk => ?_) (fun _ _ _ h => h)))
    have := (hgs.lt hq).1
    rw [List.getElem?_set_ne (by omega)]; exact hk
end Go.Proofs.Ytlljiccilldnaaa.Ad
