/- The law: what was flooded is kept. -/
import Derived.Test.YtlljiccilldnaaaFl12
set_option linter.unusedVariables false
set_option linter.unusedSimpArgs false
set_option maxRecDepth 10000
set_option maxHeartbeats 2000000
namespace Go.Proofs.Ytlljiccilldnaaa.Fl
open Go Go.Am
open Go.Proofs.Ytlljiccilldnaaa.Fx Go.Proofs.Ytlljiccilldnaaa.Ad
open Go.Proofs.Ytlljiccilldnaaa.Ba (wrap_small wrap_succ sameInts_spec)
variable {H : Heap} {K : Value → Heap → Prop}

theorem some5_spec {a : Option Addr} {m c : Nat} {ls : List Adv} (hs : Sl RAdv 4 H (.slice a m c) ls) (hk : K (.slice a (min ls.length 5) c) H) : Wcall Try.prog 40 #[.slice a m c, .int .i64 5] H K := by
  have := hs.len
  subst this
  refine call_body (rs := #[.tmp 4]) Try.func40 rfl Try.ntmps40 rfl rfl (by simp) ?_
  simp [go_sem]
  rw [hs.aSlice u74 i84 s84 (by omega) (by omega)]
  simp [go_sem]
  rw [show (min (ls.length : Int) 5).toNat = min ls.length 5 by omega]
  exact hk

theorem le_app {A A' T : Nat → Bool} {H H' : Heap} (hle : Le (hide A H) H') (hA' : ∀ q, q < H.length → A' q = false) : Le (hide (fun q => T q || A q) H) (hide (fun q => T q || A' q) H') :=
  hide_le_hide (by have := hle.1; simpa [hide_len] using this) fun q k hk => by
    have hql := (List.getElem?_eq_some_iff.1 hk).1
    obtain ⟨k', e, h⟩ := hle.2 q _ (by rw [hide_get, hk, Option.map_some])
    refine ⟨k', e, ?_⟩
    have hd : k'.sz = k.sz ∧ k'.tight = k.tight := by
      cases hA : A q <;> rw [hA] at h <;> rcases h with rfl | ⟨_, q1, q2⟩ <;> simp_all
    cases hT : T q with
    | true => exact .inl ⟨by simp, hd.1, hd.2⟩
    | false =>
      cases hA : A q with
      | true => exact .inl ⟨by simp, hd.1, hd.2⟩
      | false =>
        rw [hA] at h
        exact .inr ⟨by simp [hA' q hql], by simpa using h⟩

theorem base_keep2 {S S' : Nat → Bool} {b : Nat} {ad : Nat → Adv} {has : Nat → Bool} (h : BaseAt S H b ad has) {H' : Heap} (hb : H'[b]? = H[b]?) (hl : Le (hide S H) (hide S' H')) : BaseAt S' H' b ad has := by
  obtain ⟨cells, h1, h2, h3⟩ := h.ex
  exact ⟨cells, hb.trans h1, h2, fun i hi => ⟨RAdv.monoL _ _ _ _ hl (h3 i hi).1, (h3 i hi).2⟩⟩
theorem le_more {A T : Nat → Bool} {B H : Heap} (h : Le B (hide T H)) (hA : ∀ q, A q = true → B.length ≤ q) : Le B (hide (fun q => T q || A q) H) :=
  ⟨by simpa [hide_len] using h.1, fun q k hk => by
    have hql := (List.getElem?_eq_some_iff.1 hk).1
    obtain ⟨k', e, h⟩ := h.2 q k hk
    refine ⟨k', ?_, h⟩
    have : A q = false := by
      cases hc : A q
      · rfl
      · have := hA q hc; omega
    rw [hide_get] at e ⊢
    simpa [this] using e⟩

theorem gsl_leC {α : Type} {R0 : α → List Value → Prop} {sz m r b : Nat} {s : Value} {xs : List α} (h : GSl (fun _ => R0) sz m H s xs) {H' : Heap} (hl : LeC r b H H') (hr : r < m) (hb : b < m) : GSl (fun _ => R0) sz m H' s xs :=
  h.frame (fun q k hq hk => by
    have hq4 := (h.lt hq).1
    obtain ⟨cells, _, _, hx⟩ := h.ex
    refine le_get (hl (two r b) cov_two) hk ?_ (by simp [two]; omega)
    rcases hx with ⟨_, he⟩ | ⟨b', k', _, he, _, hk', _, hm, _⟩
    · rw [he] at hq; simp [atB] at hq
    · rw [he] at hq
      simp [atB, Am.one] at hq
      subst hq
      rw [hk'] at hk; cases hk
      rw [hm]; simp) (fun _ _ _ h => h)

theorem putSt_congr {st st' : Nat → Option Adv} {n : Nat} {a : Adv} (h : ∀ j, j ≠ n → st j = st' j) (ha : a.id.toNat ≠ n) : ∀ j, j ≠ n → putSt st a j = putSt st' a j := fun j hj => by
  have hp : putN st a = putN st' a := by unfold putN; rw [h _ ha]
  unfold putSt
  rw [hp]
  split
  · unfold upd
    split
    · rfl
    · exact h j hj
  · exact h j hj

theorem listL_out {st : Nat → Option Adv} (hok : StOk st) (k : Nat) : ∀ n, (listL st n).filter (fun y => !decide (y.id = (k : Int))) = listL (upd st k none) n ∧ (listL st n).length = (listL (upd st k none) n).length + if k < n ∧ (st k).isSome = true then 1 else 0 := by
  intro n
  induction n with
  | zero => exact ⟨rfl, rfl⟩
  | succ n ih =>
    obtain ⟨ih1, ih2⟩ := ih
    have hs := listL_succ (st := st) (n := n)
    have hs2 := listL_succ (st := upd st k none) (n := n)
    by_cases hkn : k = n
    · subst hkn
      rw [upd_self] at hs2
      simp only [Nat.lt_irrefl, false_and, if_false] at ih2
      cases hst : st k with
      | none =>
        rw [hst] at hs
        rw [hs, hs2]
        simp [ih1, ih2]
      | some x =>
        have hx := (hok k x hst).2
        rw [hst] at hs
        rw [hs, hs2]
        simp [ih1, ih2, hx]
    · rw [upd_ne (fun e => hkn e.symm)] at hs2
      have hlt : (k < n + 1 ∧ (st k).isSome = true) = (k < n ∧ (st k).isSome = true) := by
        apply propext; constructor <;> intro h <;> exact ⟨by omega, h.2⟩
      cases hst : st n with
      | none =>
        rw [hst] at hs hs2
        rw [hs, hs2]
        simp only [hlt]
        simp [ih1, ih2]
      | some x =>
        have hx := (hok n x hst).2
        have hne : ¬ x.id = (k : Int) := by omega
        rw [hst] at hs hs2
        rw [hs, hs2]
        simp only [hlt]
        simp [ih1, ih2, hne]
        omega

def keepP (id : Int) (a : Adv) : Bool := decide (fault a = 0 ∧ a.id ≠ id)
def gotL (id : Int) (l : List Adv) : List Adv := l.filter (keepP id)
theorem gotL_succ {id : Int} {l : List Adv} {i : Nat} (h : i < l.length) : gotL id (l.take (i + 1)) = gotL id (l.take i) ++ if keepP id l[i] then [l[i]] else [] := by
  unfold gotL
  rw [List.take_succ_eq_append_getElem h, List.filter_append]
  cases hc : keepP id l[i] <;> simp [hc]
theorem gotL_own {id : Int} (hid : 0 ≤ id) (l : List Adv) : stOf (gotL id l) id.toNat = none := by
  cases h : stOf (gotL id l) id.toNat with
  | none => rfl
  | some x =>
    exfalso
    unfold stOf at h
    have key : ∀ (l : List Adv) (b : Option Adv), (∀ y ∈ l, y.id ≠ id) → l.foldl (bstep ((id.toNat : Nat) : Int)) b = b := by
      intro l
      induction l with
      | nil => intros; rfl
      | cons y l ih =>
        intro b hy
        rw [List.foldl_cons]
        have : bstep ((id.toNat : Nat) : Int) b y = b := if_neg fun hh => hy y (List.mem_cons_self ..) (by have := hh.2.1; omega)
        rw [this]
        exact ih b fun z hz => hy z (List.mem_cons_of_mem _ hz)
    unfold bestA at h
    rw [key _ none (fun y hy => by unfold gotL at hy; have := (List.mem_filter.1 hy).2; unfold keepP at this; simp at this; exact this.2)] at h
    cases h

theorem str65 : (⟨#[65]⟩ : ByteArray) = strOf [65] := by decide

/-- The law about what was flooded. -/
theorem stores_spec {id : Int} {s : Value} {l : List Adv} (hs : Sl RAdv 4 H s l) (hk : ∀ H', K (.bool true) H') : Wcall Try.prog 7 #[.int .i64 id, s] H K := by
  obtain ⟨as_, c, rfl⟩ := hs.shape
  refine call_body (rs := #[.tmp 4]) Try.func7 rfl Try.ntmps7 rfl rfl (by simp) ?_
  simp [go_sem]
  refine lives_spec fun H2 le2 => ?_
  simp [go_sem]
  by_cases hid : 0 ≤ id ∧ id < 16
  rotate_left
  · refine newBad_spec hid ?_
    by_cases i1 : id < 0
    · simp [go_sem, i1]
      exact hk _
    · have i2 : 15 < id := by omega
      simp [go_sem, i1, i2]
      exact hk _
  have d1 : ¬ id < 0 := by omega
  have d2 : ¬ 15 < id := by omega
  refine new_spec' hid fun H3 r b hr hb le3 h3 => ?_
  rw [put_self hid] at h3
  have w1 : IntKind.i64.wrap (id + 1) = id + 1 := wrap_small (by omega) (by omega)
  have t1 : (id + 1).tmod 16 = (id + 1) % 16 := Int.tmod_eq_emod_of_nonneg (by omega)
  have w2 : IntKind.i64.wrap ((id + 1) % 16) = (id + 1) % 16 := wrap_small (by omega) (by omega)
  simp [go_sem, d1, d2, w1, t1, w2]
  refine upOk_spec h3 (fun q hq => by simp [two] at hq; have := h3.rt.lt; have := h3.ba.lt; omega) (p := 2) (by omega) (by omega) (by omega) (by omega) (fun q _ => rfl) fun H4 s4 pt4 st4 l4 le4 h4 hup4 hak4 ho4 => ?_
  have hu4 : (pt4 2).up = true := (hup4 2 (by omega)).2 rfl
  have ho4' : ∀ j, j ≠ id.toNat → st4 j = stOf (gotL id []) j := fun j hj => by rw [ho4 j hj, upd_ne hj]; rfl
  have hB : Sl RAdv 4 (hide (two r b) H4) (.slice as_ l.length c) l := hs.le RAdv.monoL ((le2.trans le3).trans (le4 _ cov_two))
  have hrl4 := h4.rt.lt
  have hbl4 := h4.ba.lt
  simp [go_sem]
  refine some5_spec (hB.le RAdv.monoL hide_le) ?_
  have hB5 := hB.take (min l.length 5) (by omega)
  generalize hl5 : l.take (min l.length 5) = l5 at hB5
  have hlen5 : min l.length 5 = l5.length := by rw [← hl5]; simp
  rw [hlen5] at hB5 ⊢
  have h5 : l5.length ≤ 5 := by omega
  obtain ⟨B, hBe⟩ : ∃ B, hide (two r b) H4 = B := ⟨_, rfl⟩
  rw [hBe] at hB5
  have hBl : B.length = H4.length := by rw [← hBe]; exact hide_len
  simp [go_sem]
  refine Wc.loopw 135 (fun i : Nat × Heap × Value × (Nat → Port) × (Nat → Option Adv) => [(0, .int .i64 id), (5, .pointer (some ⟨r, 0, none⟩)), (9, i.2.2.1), (56, .slice as_ l5.length c), (57, .int .i64 l5.length), (58, .int .i64 i.1)]) (fun i => i.2.1)
    (fun i => i.1 ≤ l5.length ∧ H4.length ≤ i.2.1.length ∧ Le B (hide (two r b) i.2.1) ∧ GSl (fun _ => RAdv B) 4 H4.length i.2.1 i.2.2.1 (gotL id (l5.take i.1)) ∧ Rtr (fun q => two r b q || atB i.2.2.1 q) i.2.1 r b id (seqUp 1) 0 i.2.2.2.1 i.2.2.2.2 ∧ (i.2.2.2.1 2).up = true ∧ (∀ q, q < 8 → (i.2.2.2.1 q).ak = []) ∧ (∀ j, j ≠ id.toNat → i.2.2.2.2 j = stOf (gotL id (l5.take i.1)) j)) (fun i => l5.length - i.1) (0, _, .slice none 0 0, pt4, st4)
    ⟨Nat.zero_le _, Nat.le_refl _, by rw [hBe]; exact Le.refl _, GSl.nil, by
      have : (fun q => two r b q || atB (.slice none 0 0) q) = two r b := by funext q; simp [atB]
      simp only [this]; exact h4, hu4, hak4, ho4'⟩ (by simp [go_sem]) rfl (by simp [go_sem]) ?_
  rintro ⟨i, H5, s9, pt5, st5⟩ ⟨hi, l5', le5, hg5, h5r, hu5, hak5, ho5⟩
  simp only at hi l5' le5 hg5 h5r hu5 hak5 ho5
  have leB := le5.trans hide_le
  have hSl5 : ∀ q, (two r b q || atB s9 q) = true → q < H5.length := fun q hq => by
    rw [Bool.or_eq_true] at hq
    rcases hq with hq | hq
    · simp [two] at hq; omega
    · exact (hg5.lt hq).2
  have hglen : (gotL id (l5.take i)).length ≤ 5 := by
    unfold gotL
    have := List.length_filter_le (keepP id) (l5.take i)
    simp at this; omega
  simp [go_sem]
  refine Br.forkD (fun g => ?_) (fun g => ?_)
  · obtain ⟨bb, off, cells, rfl, _, _, hr5, sx, hc5, hsx⟩ := (hB5.inB leB).get g
    have hsucc := gotL_succ (id := id) g
    obtain ⟨x, hx⟩ : ∃ x, l5[i] = x := ⟨_, rfl⟩
    rw [hx] at hc5 hsx hsucc
    unfold advC at hc5
    subst hc5
    obtain ⟨ax, cx, rfl⟩ := hsx.shape
    have hsxH := hsx.le RLk.monoL leB
    simp [go_sem, hr5, g]
    refine advFault_spec (a := x) (hsxH.ext RLk.mono (by simp [go_sem])) fun H6 e6 => ?_
    have e56 : Ext H5 H6 := Ext.trans (by simp [go_sem]) e6
    have r6 : rdBlk H6 H5.length 0 4 = some [.int .i64 x.id, .int .i64 x.seq, .int .i64 x.age, .slice ax x.links.length cx] := e6.rd (by simp [go_sem])
    have r60 : rdBlk H6 H5.length 0 1 = some [.int .i64 x.id] := by simpa using rdBlk_sub r6 (i := 0) (k := 1) (by omega)
    have l6 := rdBlk_lt r6
    have skip : keepP id x = false → (fun i : Nat × Heap × Value × (Nat → Port) × (Nat → Option Adv) => i.1 ≤ l5.length ∧ H4.length ≤ i.2.1.length ∧ Le B (hide (two r b) i.2.1) ∧ GSl (fun _ => RAdv B) 4 H4.length i.2.1 i.2.2.1 (gotL id (l5.take i.1)) ∧ Rtr (fun q => two r b q || atB i.2.2.1 q) i.2.1 r b id (seqUp 1) 0 i.2.2.2.1 i.2.2.2.2 ∧ (i.2.2.2.1 2).up = true ∧ (∀ q, q < 8 → (i.2.2.2.1 q).ak = []) ∧ (∀ j, j ≠ id.toNat → i.2.2.2.2 j = stOf (gotL id (l5.take i.1)) j)) (i + 1, H6, s9, pt5, st5) := fun hkp => by
      have hs' : gotL id (l5.take (i + 1)) = gotL id (l5.take i) := by rw [hsucc, hkp]; simp
      exact ⟨by simp only; omega, by have := e56.len; simp only; omega, le5.trans (hide_ext e56), by simp only; rw [hs']; exact hg5.ext (fun _ _ _ _ _ h => h) e56, h5r.ext e56, hu5, hak5, by simp only; rw [hs']; exact ho5⟩
    by_cases F : fault x = 0
    rotate_left
    · simp [go_sem, F]
      exact loopK_next (i + 1, H6, s9, pt5, st5) (skip (by simp [keepP, F])) (by simp only; omega) rfl (by simp [go_sem]) (by simp [go_sem, wrap_succ (i := i) (by omega)])
    by_cases hxi : x.id = id
    · simp [go_sem, F, r60, l6, hxi]
      exact loopK_next (i + 1, H6, s9, pt5, st5) (skip (by simp [keepP, hxi])) (by simp only; omega) rfl (by simp [go_sem]) (by simp [go_sem, wrap_succ (i := i) (by omega)])
    have hkp : keepP id x = true := by simp [keepP, F, hxi]
    rw [hkp] at hsucc
    simp only [if_true] at hsucc
    have hfl := fault_len F
    have hel := encL_len x
    have nbx := fault_zero F
    unfold advBad at nbx
    simp [go_sem, F, r60, r6, l6, hxi]
    refine advText_spec (a := x) (hsxH.ext RLk.mono e56) F fun H7 e7 => ?_
    simp [go_sem]
    refine digits_spec' 1 rfl (by omega) (by simp only [strOf_size]; omega) (by omega) fun H8 e8 => ?_
    have dd : digT ((strOf (encL x)).size : Int) 1 = [((encL x).length : Int)] := by rw [digT1, strOf_size]; congr 1; omega
    rw [dd]
    have z1 : (strOf [65]).size + (strOf [((encL x).length : Int)]).size ≤ 9223372036854775807 := by simp only [strOf_size]; simp
    have z2 : (strOf [65, ((encL x).length : Int)]).size + (strOf (encL x)).size ≤ 9223372036854775807 := by simp only [strOf_size]; simp; omega
    simp [go_sem, str65, z1, z2, strOf_append]
    have e58 := (e56.trans e7).trans e8
    have r8 := (e7.trans e8).rd r6
    refine inOne_spec (a := x) (p := 2) (h5r.ext e58) (fun q hq => by have := hSl5 q hq; have := e58.len; omega) (by omega) hu5 hak5 F hxi fun H9 s81 pt9 l9 le9 h9 hup9 hak9 => ?_
    have hg9 := gsl_leC (hg5.ext (fun _ _ _ _ _ h => h) e58) le9 hrl4 hbl4
    have le59 : Le B (hide (two r b) H9) := (le5.trans (hide_ext e58)).trans (le9 _ cov_two)
    have bx6 : H6[H5.length]? = some ⟨[.int .i64 x.id, .int .i64 x.seq, .int .i64 x.age, .slice ax x.links.length cx], 0, true, .live⟩ := e6.at (get_new _ _)
    have bx9 := le_get (le9 _ cov_two) ((e7.trans e8).at bx6) (by simp) (by simp [two]; omega)
    have r9 := rd_at bx9 (off := 0) (n := 4) (by simp)
    have lx9 := (List.getElem?_eq_some_iff.1 bx9).1
    simp at r9
    obtain ⟨a9, hsh9⟩ := hg5.shape
    simp [go_sem, r9, lx9]
    have eN : Ext H9 (newBlk H9 (advC x (.slice ax x.links.length cx))) := by simp [go_sem]
    have hgN : GSl (fun _ => RAdv B) 4 H4.length (newBlk H9 (advC x (.slice ax x.links.length cx))) s9 (gotL id (l5.take i)) := hg9.ext (fun _ _ _ _ _ h => h) eN
    have h89 := e58.len
    refine op2_append (ys := [x]) (l := advC x (.slice ax x.links.length cx)) hgN (fun _ _ _ _ _ h => h) (by simp [newBlk_length]; omega)
      u74 z84 i84 s84 rfl (by omega) (by rw [b84]; omega) (news_one u74 rfl (by simp [go_sem, advC])) (by simp) (by simp [advC]) ?_ (by simp; omega) ?_
    · intro k y hy
      have hk0 : k = 0 := by have := (List.getElem?_eq_some_iff.1 hy).1; simp at this; omega
      subst hk0
      simp at hy
      subst hy
      exact ⟨_, rfl, hsx⟩
    intro s' H' hg' hkeep hlt hext hat hle
    have nat : ∀ q, q < H4.length → atB s9 q = false := fun q hq => by
      cases hc : atB s9 q
      · rfl
      · have := (hg5.lt hc).1; omega
    have h9N := h9.ext eN
    have le6 : Le (hide (fun q => two r b q || atB s9 q) (newBlk H9 (advC x (.slice ax x.links.length cx)))) (hide (fun q => two r b q || atB s' q) H') := le_app hle fun q hq => by rw [hat]; exact one_ne (by simp only [newBlk_length] at hq ⊢; omega)
    have hrt := h9N.rt.keep (hkeep r (by simp [newBlk_length]; omega) (nat r hrl4)) le6
    have hba := base_keep2 h9N.ba (hkeep b (by simp [newBlk_length]; omega) (nat b hbl4)) le6
    have le7 : Le B (hide (two r b) H') := by
      have := (le_more (A := atB s9) (le59.trans (hide_ext eN)) (fun q hq => by have := (hg5.lt hq).1; omega)).trans (le_app (A' := fun _ => false) (T := two r b) hle fun _ _ => rfl)
      simpa using this
    have ho9 : ∀ j, j ≠ id.toNat → putSt st5 x j = stOf (gotL id (l5.take i) ++ [x]) j := fun j hj => by
      rw [← put_stOf]
      exact putSt_congr ho5 (by omega) j hj
    rw [← hsucc] at hg' ho9
    simp [go_sem]
    exact loopK_next (i + 1, H', s', pt9, putSt st5 x) ⟨by simp only; omega, by simp [newBlk_length] at hlt; simp only; omega, le7, hg', ⟨hrt, hba, ⟨by simp [two_l], by simp [two_r]⟩, h9.ne, h9.ok, h9.one, h9.hid, h9.hseq, h9.own⟩, by simp only; rw [hup9]; exact hu5, hak9, ho9⟩ (by simp only; omega) rfl (by simp [go_sem]) (by simp [go_sem, wrap_succ (i := i) (by omega)])
  · have : i = l5.length := by omega
    subst this
    rw [List.take_length] at hg5 ho5 hglen
    obtain ⟨k, hk0⟩ : ∃ k : Nat, id = k := ⟨id.toNat, by omega⟩
    have hkn : id.toNat = k := by omega
    have hst : upd st5 k none = stOf (gotL id l5) := by
      funext j
      by_cases e : j = k
      · rw [e, upd_self, ← hkn, gotL_own hid.1]
      · rw [upd_ne e, ho5 j (by omega)]
    obtain ⟨out1, out2⟩ := listL_out h5r.ok k 16
    have own := h5r.own
    rw [hkn] at own
    rw [hst] at out1 out2
    rw [if_pos ⟨by omega, own⟩] at out2
    rw [← hk0] at out1
    have hok5 := h5r.ok
    simp [go_sem]
    refine rlist_spec h5r fun H6 s6 e6 hg6 => ?_
    have hll := listL_len st5 16
    have hmm : ∀ y ∈ listL st5 16, fault y = 0 := fun y hy => (mem_listL hok5 hy).1
    have geq := graph_eq hok5
    have glen := graphL_len (st := st5) (fun i => by have := hok5.links i; omega) 16
    generalize hall : listL st5 16 = all at *
    obtain ⟨oth, hoth⟩ : ∃ oth, listL (stOf (gotL id l5)) 16 = oth := ⟨_, rfl⟩
    rw [hoth] at out1 out2
    have hmo : ∀ y ∈ oth, y.links.length < 1000000 := fun y hy => by
      rw [← out1] at hy
      have := fault_len (hmm y (List.mem_filter.1 hy).1); omega
    have hs6 := hg6.sl RAdv.monoL
    have hs6B := hs6.inB (Le.refl _)
    obtain ⟨a6, hsh6⟩ := hg6.shape
    subst hsh6
    simp [go_sem]
    refine Wc.loopw 135 (fun j : Nat × Heap × Value => [(0, .int .i64 id), (5, .pointer (some ⟨r, 0, none⟩)), (9, s9), (15, .slice a6 all.length all.length), (16, j.2.2), (93, .slice a6 all.length all.length), (94, .int .i64 all.length), (95, .int .i64 j.1)]) (fun j => j.2.1)
      (fun j => j.1 ≤ all.length ∧ Ext H6 j.2.1 ∧ GSl (fun _ => RAdv H6) 4 H6.length j.2.1 j.2.2 ((all.take j.1).filter fun y => !decide (y.id = id))) (fun j => all.length - j.1) (0, _, .slice none 0 0)
      ⟨Nat.zero_le _, Ext.refl _, GSl.nil⟩ (by simp [go_sem]) rfl (by simp [go_sem]) ?_
    rintro ⟨j, H7, s16⟩ ⟨hj, e7, hg7⟩
    simp only at hj e7 hg7
    simp [go_sem]
    refine Br.forkD (fun g2 => ?_) (fun g2 => ?_)
    · obtain ⟨bb, off, cells, rfl, _, _, hr7, sx, hc7, hsx⟩ := (hs6B.ext (MonoL.mono (R := fun _ => RAdv H6) (fun _ _ _ _ _ h => h)) e7).get g2
      obtain ⟨x, hx⟩ : ∃ x, all[j] = x := ⟨_, rfl⟩
      have hsucc : (all.take (j + 1)).filter (fun y => !decide (y.id = id)) = (all.take j).filter (fun y => !decide (y.id = id)) ++ if x.id = id then [] else [x] := by
        rw [List.take_succ_eq_append_getElem g2, List.filter_append, hx]
        by_cases e : x.id = id <;> simp [e]
      rw [hx] at hc7 hsx
      unfold advC at hc7
      subst hc7
      obtain ⟨ax, cx, rfl⟩ := hsx.shape
      obtain ⟨a7, hsh7⟩ := hg7.shape
      have hfl : ((all.take j).filter fun y => !decide (y.id = id)).length ≤ 16 := by
        have := List.length_filter_le (fun y : Adv => !decide (y.id = id)) (all.take j)
        simp at this; omega
      simp [go_sem, hr7, g2]
      by_cases e : x.id = id
      · simp [go_sem, e]
        refine loopK_next (j + 1, _, s16) ⟨by simp only; omega, e7.trans (Ext.new (Ext.refl _)), ?_⟩ (by simp only; omega) rfl (by simp [go_sem]) (by simp [go_sem, wrap_succ (i := j) (by omega)])
        simp only
        rw [hsucc, if_pos e, List.append_nil]
        exact hg7.ext (fun _ _ _ _ _ h => h) (Ext.new (Ext.refl _))
      · rw [if_neg e] at hsucc
        simp [go_sem, e]
        have hgN : GSl (fun _ => RAdv H6) 4 H6.length (newBlk (newBlk H7 (advC x (.slice ax x.links.length cx))) (advC x (.slice ax x.links.length cx))) s16 ((all.take j).filter fun y => !decide (y.id = id)) := hg7.ext (fun _ _ _ _ _ h => h) (by simp [go_sem])
        refine op2_append (ys := [x]) (l := advC x (.slice ax x.links.length cx)) hgN (fun _ _ _ _ _ h => h) (by have := e7.len; simp [newBlk_length]; omega)
          u74 z84 i84 s84 rfl (by omega) (by rw [b84]; omega) (news_one u74 rfl (by simp [go_sem, advC])) (by simp) (by simp [advC]) ?_ (by simp; omega) ?_
        · intro k y hy
          have hk0 : k = 0 := by have := (List.getElem?_eq_some_iff.1 hy).1; simp at this; omega
          subst hk0
          simp at hy
          subst hy
          exact ⟨_, rfl, hsx⟩
        intro s' H' hg' hkeep hlt hext hat hle
        rw [← hsucc] at hg'
        simp [go_sem]
        exact loopK_next (j + 1, H', s') ⟨by simp only; omega, hext H6 (Nat.le_refl _) (by simp [go_sem, e7]), hg'⟩ (by simp only; omega) rfl (by simp [go_sem]) (by simp [go_sem, wrap_succ (i := j) (by omega)])
    · have : j = all.length := by omega
      subst this
      rw [List.take_length, out1] at hg7
      have h7 := (h5r.ext e6).ext e7
      obtain ⟨a7, hsh7⟩ := hg7.shape
      obtain ⟨a9, hsh9⟩ := hg5.shape
      have e57 := e6.trans e7
      have hal : (all.length : Int) = oth.length + 1 := by omega
      have ww : IntKind.i64.wrap ((oth.length : Int) + 1) = oth.length + 1 := wrap_small (by omega) (by omega)
      simp [go_sem]
      refine rgraph_spec h7 fun H8 s8 e8 hs8 => ?_
      obtain ⟨a8, c8, rfl⟩ := hs8.shape
      simp [go_sem]
      refine Wc.drawnG [14, 19] [9, 10, 21, 23] (fun c => c = H8.length) mixed (by kernel_rfl) ?_
      rw [hsh7] at hg7 ⊢
      simp [go_sem, hal, ww]
      have e79 : Ext H7 (newBlk H8 [.int .i64 16, .slice a8 (graphL st5 16).length c8]) := by simp [go_sem, e8]
      refine newestB_spec (B := B) (leB.trans (e57.trans e79).le) ((hg5.ext (fun _ _ _ _ _ h => h) (e57.trans e79)).sl (fun _ _ _ _ _ h => h)) (by omega) fun H9 s10 e9 hg9 => ?_
      rw [hoth] at hg9
      have e59 := (e57.trans e79).trans e9
      have e69 := (e7.trans e79).trans e9
      have hs10 : Sl RAdv 4 H9 s10 oth := (hg9.sl (fun _ _ _ _ _ h => h)).of fun x c h => RAdv.monoL _ _ _ _ (leB.trans e59.le) h
      have hs16 : Sl RAdv 4 H9 (.slice a7 oth.length oth.length) oth := ((hg7.ext (fun _ _ _ _ _ h => h) (e79.trans e9)).sl (fun _ _ _ _ _ h => h)).of fun x c h => RAdv.monoL _ _ _ _ e69.le h
      have bx8 : (newBlk H8 [.int .i64 16, .slice a8 (graphL st5 16).length c8])[H8.length]? = some ⟨[.int .i64 16, .slice a8 (graphL st5 16).length c8], 0, true, .live⟩ := get_new _ _
      simp [go_sem]
      refine ⟨keepS_ext e9, ?_⟩
      refine sameAdvs_spec hs16 hs10 (by omega) (by omega) hmo hmo fun H10 e10 => ?_
      have bx10 := (e9.trans e10).at bx8
      have r10 := rd_one bx10 (off := 0) rfl
      have r11 := rd_one bx10 (off := 1) rfl
      have lx10 := (List.getElem?_eq_some_iff.1 bx10).1
      simp [go_sem, r10, r11, lx10]
      refine ⟨keepS_ext e10, ?_⟩
      refine graphOf_spec (hs6.ext RAdv.mono (e69.trans e10)) (by omega) (fun a ha => fault_len (hmm a ha)) fun H11 s11 e11 hs11 => ?_
      rw [geq] at hs11
      obtain ⟨a11, c11, rfl⟩ := hs11.shape
      simp [go_sem]
      refine ⟨keepS_ext e11, ?_⟩
      refine sameEdges_spec (hs8.ext REd.monoL.mono ((Ext.trans (Ext.new (Ext.refl _)) (e9.trans e10)).trans e11)) hs11 (by omega) (by omega) fun H12 e12 => ?_
      simp [go_sem]
      exact ⟨keepS_ext e12, hk _⟩
end Go.Proofs.Ytlljiccilldnaaa.Fl
