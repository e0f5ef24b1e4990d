/- The router's own advertisement. -/
import Derived.Test.YtlljiccilldnaaaFl2
set_option linter.unusedVariables false
set_option linter.unusedSimpArgs false
set_option maxRecDepth 10000
namespace Go.Proofs.Ytlljiccilldnaaa.Fl
open Go Go.Am
open Go.Proofs.Ytlljiccilldnaaa.Fx Go.Proofs.Ytlljiccilldnaaa.Ad
open Go.Proofs.Ytlljiccilldnaaa.Ba (wrap_small wrap_succ sameInts_spec)
variable {H : Heap} {K : Value → Heap → Prop}

@[go_sem] theorem keepS_top {m : Nat} {H : Heap} {a b : List Value} (h : m ≤ H.length) : KeepS (Old m) (newBlk H a) (newBlk H b) ↔ True := by
  simp only [iff_true]
  intro c hc _
  unfold Old at hc
  unfold newBlk
  rw [List.getElem?_append_left (by omega), List.getElem?_append_left (by omega)]
theorem le_get {A : Nat → Bool} {H H' : Heap} (h : Le (hide A H) (hide A H')) {q : Nat} {k : Blk} (hq : H[q]? = some k) (hk : k.mode ≠ .dead) (hA : A q = false) : H'[q]? = some k := by
  obtain ⟨k', e, b⟩ := h.2 q k (by rw [hide_get, hq, Option.map_some, if_neg (by rw [hA]; simp)])
  rcases b with rfl | ⟨b, _⟩
  · rw [hide_get] at e
    cases hc : H'[q]? with
    | none => rw [hc] at e; cases e
    | some k2 =>
      rw [hc, Option.map_some, if_neg (by rw [hA]; simp)] at e
      exact e
  · exact absurd b hk
theorem hide_up {A S : Nat → Bool} {H H' : Heap} (h : Le (hide A H) (hide A H')) (hA : ∀ i, A i = true → S i = true) : Le (hide S H) (hide S H') := hide_le_of (h.trans hide_le) hA
def two (r b : Nat) : Nat → Bool := fun q => q == r || q == b
theorem two_l {r b : Nat} : two r b r = true := by simp [two]
theorem two_r {r b : Nat} : two r b b = true := by simp [two]

/-- The router's blocks are among those. -/
structure Cov (S : Nat → Bool) (r b : Nat) : Prop where
  l : S r = true
  r : S b = true
theorem cov_two {r b : Nat} : Cov (two r b) r b := ⟨two_l, two_r⟩
/-- Only the router's blocks change. -/
def LeC (r b : Nat) (H H' : Heap) : Prop := ∀ T : Nat → Bool, Cov T r b → Le (hide T H) (hide T H')
theorem LeC.refl {r b : Nat} {H : Heap} : LeC r b H H := fun _ _ => Le.refl _
theorem LeC.trans {r b : Nat} {H H1 H2 : Heap} (h : LeC r b H H1) (h2 : LeC r b H1 H2) : LeC r b H H2 := fun T hT => (h T hT).trans (h2 T hT)
theorem LeC.ext {r b : Nat} {H H1 : Heap} (h : Ext H H1) : LeC r b H H1 := fun _ _ => hide_ext h
theorem LeC.ofR {r b : Nat} {H H1 : Heap} (h : ∀ S' : Nat → Bool, S' r = true → Le (hide S' H) (hide S' H1)) : LeC r b H H1 := fun T hT => h T hT.l
theorem LeC.ofB {r b : Nat} {H H1 : Heap} (h : Le (hide (one b) H) (hide (one b) H1)) : LeC r b H H1 := fun T hT => hide_up h fun i hi => by simp [one] at hi; subst hi; exact hT.r
def upG (T : Nat → Bool) (n : Nat) : Nat → Bool := fun q => T q || decide (n ≤ q)
theorem upG_0 {T : Nat → Bool} {H : Heap} : Le (hide T H) (hide (upG T H.length) H) := hide_le_hide (Nat.le_refl _) fun q k hq => ⟨k, hq, by
    have hql := (List.getElem?_eq_some_iff.1 hq).1
    unfold upG
    cases hc' : T q
    · refine .inr ⟨?_, .refl _⟩
      simp [hc', hql]
    · exact .inl ⟨rfl, rfl, rfl⟩⟩
theorem upG_9 {T : Nat → Bool} {n : Nat} {H' : Heap} : Le (hide (upG T n) H') (hide T H') := hide_mono fun i hi => by simp [upG, hi]
theorem upG_l {T : Nat → Bool} {n q : Nat} (h : T q = true) : upG T n q = true := by simp [upG, h]
theorem upG_m {T : Nat → Bool} {n q : Nat} (h : n ≤ q) : upG T n q = true := by simp [upG, h]
section
variable {S : Nat → Bool} {r b : Nat} {id seq now : Int} {pt : Nat → Port}
theorem RtAt.get (h : RtAt S H r b id seq now pt) : ∃ k, H[r]? = some k ∧ k.mode ≠ .dead := by obtain ⟨cells, h1, _⟩ := h.ex; exact ⟨_, h1, by simp⟩
theorem _root_.Go.Proofs.Ytlljiccilldnaaa.Ad.BaseAt.get {ad : Nat → Adv} {has : Nat → Bool} (h : BaseAt S H b ad has) : ∃ k, H[b]? = some k ∧ k.mode ≠ .dead := by obtain ⟨cells, h1, _⟩ := h.ex; exact ⟨_, h1, by simp⟩
/-- The router, where the database changed. -/
theorem RtAt.ofBase (h : RtAt S H r b id seq now pt) (hc : Cov S r b) (hrb : r ≠ b) {H' : Heap} (hl : Le (hide (one b) H) (hide (one b) H')) : RtAt S H' r b id seq now pt := by
  obtain ⟨k, hk, hm⟩ := h.get
  exact h.keep (by rw [le_get hl hk hm (one_ne hrb), hk]) (hide_up hl fun i hi => by simp [one] at hi; subst hi; exact hc.r)
/-- The database, where the router changed. -/
theorem _root_.Go.Proofs.Ytlljiccilldnaaa.Ad.BaseAt.ofRt {ad : Nat → Adv} {has : Nat → Bool} (h : BaseAt S H b ad has) (hc : Cov S r b) (hrb : r ≠ b) {H' : Heap} (hl : ∀ S' : Nat → Bool, S' r = true → Le (hide S' H) (hide S' H')) : BaseAt S H' b ad has := by
  obtain ⟨k, hk, hm⟩ := h.get
  have hl1 := hl (one r) (by simp [one])
  exact h.keep (by rw [le_get hl1 hk hm (one_ne (Ne.symm hrb)), hk]) (hl _ hc.l)
end

def ownLs (pt : Nat → Port) (i : Nat) : List (Int × Int) := (List.range i).filterMap fun p => if (pt p).up then some ((pt p).peer, (pt p).cost) else none
theorem ownLs_succ {pt : Nat → Port} {i : Nat} : ownLs pt (i + 1) = ownLs pt i ++ (if (pt i).up then [((pt i).peer, (pt i).cost)] else []) := by
  unfold ownLs
  rw [List.range_succ, List.filterMap_append]
  cases h : (pt i).up <;> simp [h]
theorem ownLs_len (pt : Nat → Port) (i : Nat) : (ownLs pt i).length ≤ i := by
  unfold ownLs
  have := List.length_filterMap_le (fun p => if (pt p).up then some ((pt p).peer, (pt p).cost) else none) (List.range i)
  simpa using this
/-- At most one port is used. -/
def One (pt : Nat → Port) : Prop := ∀ p q, p < 8 → q < 8 → (pt p).up = true → (pt q).up = true → p = q
theorem ownLs_nil {pt : Nat → Port} (h : One pt) {i : Nat} (hi : i < 8) (hu : (pt i).up = true) : ownLs pt i = [] := by
  unfold ownLs
  rw [List.filterMap_eq_nil_iff]
  intro p hp
  have hp' := List.mem_range.1 hp
  rw [if_neg]
  intro hup
  have := h p i (by omega) hi hup hu
  omega

def seqUp (seq : Int) : Int := min 1073741824 (seq + 1)
def ownAdv (id seq : Int) (pt : Nat → Port) : Adv := ⟨id, seqUp seq, 0, ownLs pt 8⟩

theorem gsl_hide {S : Nat → Bool} {m : Nat} {s : Value} {xs : List (Int × Int)} (h : GSl RLk 2 m H s xs) (hS : ∀ q, S q = true → q < m) : Sl RLk 2 (hide S H) s xs :=
  GSl.unhide (R := RLk) (B := []) RLk.monoL h hS ⟨Nat.zero_le _, fun b k hk => by simp at hk⟩

/-- 'own'. -/
theorem ownR_spec {S : Nat → Bool} {r b : Nat} {id seq now : Int} {pt : Nat → Port} {st : Nat → Option Adv} (h : RtAt S H r b id seq now pt) (hb : BaseAt S H b (adOf st) (hasOf st)) (hc : Cov S r b) (hSl : ∀ q, S q = true → q < H.length) (hrb : r ≠ b) (hok : StOk st) (hone : One pt) (hid : 0 ≤ id ∧ id < 16) (hseq : 0 ≤ seq ∧ seq ≤ 1073741824)
    (hk : ∀ H', H.length ≤ H'.length → LeC r b H H' → RtAt S H' r b id (seqUp seq) now pt → BaseAt S H' b (adOf (putSt st (ownAdv id seq pt))) (hasOf (putSt st (ownAdv id seq pt))) → K undef H') :
    Wcall Try.prog 76 #[.pointer (some ⟨r, 0, none⟩)] H K := by
  refine call_body (rs := #[]) Try.func76 rfl Try.ntmps76 rfl rfl (by simp) ?_
  have hrl := h.lt
  have rs := h.rdSeq
  have hw : IntKind.i64.wrap (seq + 1) = seq + 1 := wrap_small (by omega) (by omega)
  obtain ⟨k1, w1, h1, l1⟩ := h.wrSeq hc.l (seqUp seq)
  have hb1 := hb.ofRt hc hrb l1
  unfold seqUp at w1
  simp [go_sem, rs, hw, hrl, w1]
  have hlen1 : (H.set r k1).length = H.length := by simp
  have le1 : LeC r b H _ := LeC.ofR l1
  generalize H.set r k1 = H1 at h1 hb1 hlen1 le1
  have ri := h1.rdId
  have rq := h1.rdSeq
  have h1l := h1.lt
  unfold seqUp at rq
  obtain ⟨l, rl, hll, hl⟩ := h1.all
  refine Wc.drawnS (Old H1.length) mixed (by kernel_rfl) ?_
  simp [go_sem, ri, rq, h1l, rl, hll]
  refine Wc.loopw 100 (fun i : Nat × Heap × Value => [(0, .pointer (some ⟨r, 0, none⟩)), (2, .pointer (some ⟨H1.length, 0, none⟩)), (27, .agg l.toArray), (28, .int .i64 i.1)]) (fun i => i.2.1)
    (fun i => i.1 ≤ 8 ∧ Ext H1 i.2.1 ∧ i.2.1[H1.length]? = some ⟨[.int .i64 id, .int .i64 (min 1073741824 (seq + 1)), .int .i64 0, i.2.2], 0, true, .live⟩ ∧ GSl RLk 2 (H1.length + 1) i.2.1 i.2.2 (ownLs pt i.1)) (fun i => 8 - i.1) (0, _, .slice none 0 0)
    ⟨Nat.zero_le _, by simp [go_sem], get_new _ _, GSl.nil⟩ (by simp [go_sem]) rfl (by simp [go_sem]) ?_
  rintro ⟨i, H2, s2⟩ ⟨hi, e12, hbx, hg⟩
  simp only at hi e12 hbx hg
  simp [go_sem]
  refine Br.forkD (fun g => ?_) (fun g => ?_)
  · have hi8 : i < 8 := by omega
    obtain ⟨pc, hpc, hpl, hup, hpe, hco, _⟩ := hl i hi8
    have lbx := (List.getElem?_eq_some_iff.1 hbx).1
    have rb3 : rdBlk H2 H1.length 3 1 = some [s2] := rd_one hbx rfl
    obtain ⟨a2, hsh2⟩ := hg.shape
    have hsl2 := hg.sl RLk.monoL
    have hlsl := ownLs_len pt i
    have hsucc := ownLs_succ (pt := pt) (i := i)
    have rp0 : ∀ H', Ext (newBlk H2 pc) H' → rdBlk H' H2.length 0 1 = some [.bool (pt i).up] := fun H' he => he.rd (by simp [go_sem, hpl, hup])
    have rp1 : ∀ H', Ext (newBlk H2 pc) H' → rdBlk H' H2.length 1 1 = some [.int .i64 (pt i).peer] := fun H' he => he.rd (by rw [rdBlk_new _ _ _ _ _ rfl, if_pos (by omega), hpe])
    have rp2 : ∀ H', Ext (newBlk H2 pc) H' → rdBlk H' H2.length 2 1 = some [.int .i64 (pt i).cost] := fun H' he => he.rd (by rw [rdBlk_new _ _ _ _ _ rfl, if_pos (by omega), hco])
    simp [go_sem, g, hpc, hpl, zs125_len, zs125_drop, rb3, lbx]
    refine indexOwn_spec (hsl2.ext RLk.mono (by simp [go_sem])) (by omega) (rp1 _ (Ext.refl _)) fun H3 rr e3 hrr => ?_
    have e23 : Ext H2 H3 := Ext.trans (by simp [go_sem]) e3
    have q0 := rp0 H3 e3
    have q1 := rp1 H3 e3
    have q2 := rp2 H3 e3
    have lq := rdBlk_lt q0
    simp [go_sem, q0, lq]
    cases hu : (pt i).up with
    | false =>
      simp [go_sem]
      exact loopK_next (i + 1, H3, s2) ⟨by simp only; omega, e12.trans e23, e23.at hbx, by simp only; rw [hsucc, hu]; simpa using hg.ext RLk.monoL e23⟩ (by simp only; omega) rfl (by simp [go_sem]) (by simp [go_sem, wrap_succ (i := i) (by omega)])
    | true =>
      have hnil := ownLs_nil hone hi8 hu
      have hr1 := hrr hnil
      subst hr1
      have hbx3 := e23.at hbx
      have rb33 : rdBlk H3 H1.length 3 1 = some [s2] := rd_one hbx3 rfl
      have lbx3 := (List.getElem?_eq_some_iff.1 hbx3).1
      simp [go_sem, q1, q2, lq, rb33, lbx3]
      have hg3 : GSl RLk 2 (H1.length + 1) (newBlk H3 [.int .i64 (pt i).peer, .int .i64 (pt i).cost]) s2 (ownLs pt i) := hg.ext RLk.monoL (by simp [go_sem, e23])
      refine op2_append (ys := [((pt i).peer, (pt i).cost)]) (l := [.int .i64 (pt i).peer, .int .i64 (pt i).cost]) hg3 RLk.monoL (by simp [newBlk_length]; omega)
        u82 z133 i133 s133 rfl (by omega) (by rw [b133]; omega) (news_one u82 rfl (by simp [go_sem])) (by simp) (by simp) ?_ (by simp; omega) ?_
      · intro k y hy
        have hk0 : k = 0 := by have := (List.getElem?_eq_some_iff.1 hy).1; simp at this; omega
        subst hk0
        simp at hy
        subst hy
        rfl
      intro s' H' hg' hkeep hlt hext hat hle
      obtain ⟨a5, n5, rfl⟩ : ∃ a n, s' = .slice a n n := by obtain ⟨a, e⟩ := hg'.shape; exact ⟨a, _, e⟩
      have nat : atB s2 H1.length = false := by
        cases hc : atB s2 H1.length
        · rfl
        · have := (hg3.lt hc).1; omega
      have nat' : atB (.slice a5 n5 n5) H1.length = false := by rw [hat]; exact one_ne (by simp [newBlk_length]; omega)
      have hbx5 : H'[H1.length]? = some ⟨[.int .i64 id, .int .i64 (min 1073741824 (seq + 1)), .int .i64 0, s2], 0, true, .live⟩ := by
        rw [hkeep _ (by simp [newBlk_length]; omega) nat]; exact Ext.at (Ext.new (Ext.refl _)) hbx3
      have w5 := wr_at hbx5 (off := 3) (vs := [.slice a5 n5 n5]) (by simp)
      simp at w5
      have l5 := (List.getElem?_eq_some_iff.1 hbx5).1
      have e15 : Ext H1 H' := hext H1 (by omega) (by simp [go_sem, e12.trans e23])
      simp [go_sem, w5, l5]
      refine loopK_next (i + 1, _, .slice a5 n5 n5) ⟨by simp only; omega, ext_set e15 (Nat.le_refl _), List.getElem?_set_self l5, ?_⟩ (by simp only; omega) rfl (by simp [go_sem]) (by simp [go_sem, wrap_succ (i := i) (by omega)])
      simp only
      rw [hsucc, hu]
      simp only [if_true]
      refine hg'.frame (fun q k hq hk => ?_) (fun _ _ _ h => h)
      have : q ≠ H1.length := fun e => by rw [e, nat'] at hq; cases hq
      rw [List.getElem?_set_ne (Ne.symm this)]; exact hk
  · have : i = 8 := by omega
    subst this
    have h2 := h1.ext e12
    have hb2 := hb1.ext e12
    have rb := h2.rdBase
    have h2l := h2.lt
    have b2l := hb2.lt
    have lbx := (List.getElem?_eq_some_iff.1 hbx).1
    have rbx := rd_at hbx (off := 0) (n := 4) (by simp)
    simp at rbx
    obtain ⟨a2, n2, hsh2⟩ : ∃ a n, s2 = .slice a n n := by obtain ⟨a, e⟩ := hg.shape; exact ⟨a, _, e⟩
    have hidl := h1.lt
    simp [go_sem]
    refine Wc.drawn mixed (by kernel_rfl) ?_
    simp [go_sem, rb, h2l, rbx]
    refine put_specS (a := ownAdv id seq pt) (st := st) hc.r (fun q hq => by have := hSl q hq; have := e12.len; omega) hb2 (gsl_hide hg (fun q hq => by have := hSl q hq; omega)) (fun i => by have := hok.links i; omega) fun H3 l3 le3 hb3 => ?_
    have h3 := h2.ofBase hc hrb le3
    have ri3 := h3.rdId
    have h3l := h3.lt
    obtain ⟨n, hn⟩ : ∃ n : Nat, id = n := ⟨id.toNat, by omega⟩
    subst hn
    simp [go_sem, ri3, h3l]
    refine flood_spec h3 hc.l (j := n) (by omega) fun H4 l4 le4 h4 => ?_
    simp [go_sem]
    refine hk H4 (by have := e12.len; omega) ?_ h4 (hb3.ofRt hc hrb le4)
    exact ((le1.trans (LeC.ext e12)).trans (LeC.ofB le3)).trans (LeC.ofR le4)
end Go.Proofs.Ytlljiccilldnaaa.Fl
