/- 'sent'. -/
import Derived.Test.YtlljiccilldnaaaFl4
set_option linter.unusedVariables false
set_option linter.unusedSimpArgs false
set_option maxRecDepth 10000
set_option maxHeartbeats 1000000
namespace Go.Proofs.Ytlljiccilldnaaa.Fl
open Go Go.Am
open Go.Proofs.Ytlljiccilldnaaa.Fx Go.Proofs.Ytlljiccilldnaaa.Ad
open Go.Proofs.Ytlljiccilldnaaa.Ba (wrap_small wrap_succ sameInts_spec)
variable {H : Heap} {K : Value → Heap → Prop}

def noAk (pt : Nat → Port) (i : Nat) : Nat → Port := fun p => if p < i then { pt p with ak := [] } else pt p
theorem noAk_succ {pt : Nat → Port} {i : Nat} : noAk pt (i + 1) = upd (noAk pt i) i { noAk pt i i with ak := [] } := by
  funext p
  unfold noAk upd
  by_cases h : p = i
  · subst h; simp
  · rw [if_neg h]
    by_cases h2 : p < i
    · rw [if_pos (by omega)]; exact (if_pos h2).symm
    · rw [if_neg (by omega)]; exact (if_neg h2).symm
theorem noAk_zero {pt : Nat → Port} : noAk pt 0 = pt := by funext p; simp [noAk]

theorem get_two {S : Nat → Bool} {r b : Nat} {ad : Nat → Adv} {has : Nat → Bool} (hc : Cov S r b) (h : BaseAt S H b ad has) : BaseAt (one b) H b ad has := h.le (hide_mono fun i hi => by simp [one] at hi; subst hi; exact hc.r)

theorem _root_.Go.Proofs.Ytlljiccilldnaaa.Ad.BaseAt.ofRtS {S : Nat → Bool} {r b : Nat} {ad : Nat → Adv} {has : Nat → Bool} (h : BaseAt S H b ad has) (hS : S r = true) (hrb : r ≠ b) {H' : Heap} (hl : ∀ S' : Nat → Bool, S' r = true → Le (hide S' H) (hide S' H')) : BaseAt S H' b ad has := by
  obtain ⟨k, hk, hm⟩ := h.get
  have hl1 := hl (one r) (by simp [one])
  exact h.keep (by rw [le_get hl1 hk hm (one_ne (Ne.symm hrb)), hk]) (hl _ hS)

theorem sentR_spec {T : Nat → Bool} {r b : Nat} {id seq now : Int} {pt : Nat → Port} {st : Nat → Option Adv} (h : RtAt T H r b id seq now pt) (hb : BaseAt T H b (adOf st) (hasOf st)) (hc : Cov T r b) (hrb : r ≠ b) (hok : StOk st)
    (hk : ∀ H' s', H.length ≤ H'.length → LeC r b H H' → RtAt T H' r b id seq now (noAk pt 8) → BaseAt T H' b (adOf st) (hasOf st) → K s' H') :
    Wcall Try.prog 79 #[.pointer (some ⟨r, 0, none⟩)] H K := by
  have hls : ∀ i, (adOf st i).links.length < 1000000 := fun i => by have := hok.links i; omega
  have hrl := h.lt
  have hbl := hb.lt
  have hle0 := upG_0 (T := T) (H := H)
  have hle9 := fun H' => upG_9 (T := T) (n := H.length) (H' := H')
  have hSr : upG T H.length r = true := upG_l hc.l
  have hSb : upG T H.length b = true := upG_l hc.r
  have hSm : ∀ q, H.length ≤ q → upG T H.length q = true := fun q hq => upG_m hq
  generalize upG T H.length = S at hle0 hle9 hSr hSb hSm
  refine call_body (rs := #[.tmp 2]) Try.func79 rfl Try.ntmps79 rfl rfl (by simp) ?_
  simp [go_sem]
  refine Wc.loopw 109 (fun i : Nat × Heap × Value × List (Int × ByteArray) => [(0, .pointer (some ⟨r, 0, none⟩)), (3, i.2.2.1), (15, .int .i64 i.1)]) (fun i => i.2.1)
    (fun i => i.1 ≤ 8 ∧ H.length ≤ i.2.1.length ∧ (∀ S : Nat → Bool, S r = true → S b = true → (∀ q, H.length ≤ q → S q = true) → Le (hide S H) (hide S i.2.1)) ∧ RtAt S i.2.1 r b id seq now (noAk pt i.1) ∧ BaseAt S i.2.1 b (adOf st) (hasOf st) ∧ GSl RSe 2 H.length i.2.1 i.2.2.1 i.2.2.2 ∧ i.2.2.2.length ≤ i.1) (fun i => 8 - i.1) (0, _, _, [])
    ⟨Nat.zero_le _, Nat.le_refl _, fun _ _ _ _ => Le.refl _, by rw [noAk_zero]; exact h.keep rfl hle0, hb.le hle0, GSl.nil, Nat.le_refl _⟩ (by simp [go_sem]) rfl (by simp [go_sem]) ?_
  rintro ⟨i, H1, s3, out⟩ ⟨hi, hlen1, hle1, h1, hb1, hg3, hout⟩
  simp only at hi hlen1 hle1 h1 hb1 hg3 hout
  simp [go_sem]
  refine Br.forkD (fun g => ?_) (fun g => ?_)
  rotate_left
  · simp [go_sem]
    have : i = 8 := by omega
    subst this
    exact hk _ _ hlen1 (fun T' hT' => (upG_0.trans (hle1 _ (upG_l hT'.l) (upG_l hT'.r) fun q hq => upG_m hq)).trans upG_9) (h1.keep rfl (hle9 _)) (hb1.le (hle9 _))
  have hi8 : i < 8 := by omega
  obtain ⟨wl, rwl, hwl, hwb⟩ := h1.sends hi8
  simp [go_sem, g, rwl, hwl]
  refine Wc.loopw 109 (fun j : Nat × Heap × Value × List Int => [(0, .pointer (some ⟨r, 0, none⟩)), (3, s3), (4, .int .i64 i), (5, .pointer (some ⟨r, 4 + i * 36, none⟩)), (6, j.2.2.1), (15, .int .i64 i), (26, .agg wl.toArray), (27, .int .i64 j.1)]) (fun j => j.2.1)
    (fun j => j.1 ≤ 16 ∧ Ext H1 j.2.1 ∧ GSl RBy 1 H1.length j.2.1 j.2.2.1 j.2.2.2 ∧ j.2.2.2.length ≤ 80 * j.1) (fun j => 16 - j.1) (0, _, .slice none 0 0, [])
    ⟨Nat.zero_le _, Ext.refl _, GSl.nil, Nat.le_refl _⟩ (by simp [go_sem]) rfl (by simp [go_sem]) ?_
  · rintro ⟨j, H2, s6, ns⟩ ⟨hj, e12, hg6, hns⟩
    simp only at hj e12 hg6 hns
    have h2 := h1.ext e12
    have hb2 := hb1.ext e12
    have rb := h2.rdBase
    have h2l := h2.lt
    simp [go_sem]
    refine Br.forkD (fun g2 => ?_) (fun g2 => ?_)
    · have hj16 : j < 16 := by omega
      obtain ⟨v, hv⟩ := hwb j hj16
      have hvg : wl[j]'(by omega) = .bool v := by
        rw [List.getElem?_eq_getElem (by omega)] at hv
        exact Option.some.inj hv
      simp [go_sem, g2, hwl, hj16, hvg, rb, h2l]
      refine get_spec (id := (j : Int)) (hb2.le (hide_mono fun q hq => by simp [one] at hq; subst hq; exact hSb)) hls fun H3 s7 e3 hs7 => ?_
      have e13 := e12.trans e3
      have hgo : getO st (j : Int) = st j := by rw [getO_in (by omega)]; rfl
      rw [hgo] at hs7 ⊢
      cases v with
      | false =>
        obtain ⟨a7, c7, rfl⟩ := hs7.shape
        simp [go_sem, advV, advC]
        exact loopK_next (j + 1, _, s6, ns) ⟨by simp only; omega, by simp [go_sem, e13], hg6.ext RBy.monoL (by simp [go_sem, e3]), by simp only; omega⟩ (by simp only; omega) rfl (by simp [go_sem]) (by simp [go_sem, wrap_succ (i := j) (by omega)])
      | true =>
        cases hst : st j with
        | none =>
          rw [hst] at hs7
          obtain ⟨a7, c7, rfl⟩ := hs7.shape
          simp [go_sem, advV, advC]
          exact loopK_next (j + 1, _, s6, ns) ⟨by simp only; omega, by simp [go_sem, e13], hg6.ext RBy.monoL (by simp [go_sem, e3]), by simp only; omega⟩ (by simp only; omega) rfl (by simp [go_sem]) (by simp [go_sem, wrap_succ (i := j) (by omega)])
        | some x =>
          have hfx := (hok j x hst).1
          have hlx := fault_len hfx
          have hel := encL_len x
          rw [hst] at hs7
          simp only [Option.getD_some] at hs7
          obtain ⟨a7, c7, rfl⟩ := hs7.shape
          simp [go_sem, advV, advC]
          refine encode_spec (a := x) (hs7.ext RLk.mono (by simp [go_sem])) hfx fun H4 e4 => ?_
          have e14 : Ext H1 H4 := e13.trans (Ext.trans (by simp [go_sem]) e4)
          have e24 : Ext H2 H4 := e3.trans (Ext.trans (by simp [go_sem]) e4)
          have wl8 : IntKind.u8.wrap ((encL x).length : Int) = ((encL x).length : Int) % 256 := wrap_u8 _
          have hg4 : GSl RBy 1 H1.length (newBlk H4 [.int .u8 65, .int .u8 (((encL x).length : Int) % 256)]) s6 ns := hg6.ext RBy.monoL (by simp [go_sem, e24])
          simp [go_sem, strOf_size, wl8]
          refine byappend (ys := [65, ((encL x).length : Int) % 256]) hg4 (by have := e14.len; simp [newBlk_length]; omega) (news_slice u144 rfl (by simp) (by simp [go_sem])) (by simp) (by simp; omega) fun a5 n5 H5 hg5 _ _ hext5 _ _ => ?_
          have e15 := hext5 H1 (Nat.le_refl _) (by simp [go_sem, e14])
          simp [go_sem]
          refine byappend (ys := encL x) hg5 e15.len (news_str (encL_in x)) (fun e => by rw [e] at hel; simp at hel; omega) (by simp; omega) fun a6 n6 H6 hg6' _ _ hext6 _ _ => ?_
          simp [go_sem]
          exact loopK_next (j + 1, H6, _, _) ⟨by simp only; omega, hext6 H1 (Nat.le_refl _) e15, hg6', by simp only [List.length_append, List.length_cons, List.length_nil]; omega⟩ (by simp only; omega) rfl (by simp [go_sem]) (by simp [go_sem, wrap_succ (i := j) (by omega)])
    · have : j = 16 := by omega
      subst this
      obtain ⟨sk, rk, hsk, hkl, _⟩ := h1.rdAk hi8
      replace rk := e12.rd rk
      have hskH := hsk.le RAk.monoL hide_le
      obtain ⟨ak, ck, rfl⟩ := hskH.shape
      generalize (noAk pt i i).ak = kl at *
      simp [go_sem, rk, h2l]
      refine Wc.loopw 109 (fun q : Nat × Heap × Value × List Int => [(0, .pointer (some ⟨r, 0, none⟩)), (3, s3), (4, .int .i64 i), (5, .pointer (some ⟨r, 4 + i * 36, none⟩)), (6, q.2.2.1), (15, .int .i64 i), (62, .slice ak kl.length ck), (63, .int .i64 kl.length), (64, .int .i64 q.1)]) (fun q => q.2.1)
        (fun q => q.1 ≤ kl.length ∧ Ext H1 q.2.1 ∧ GSl RBy 1 H1.length q.2.1 q.2.2.1 q.2.2.2 ∧ q.2.2.2.length ≤ 1280 + 6 * q.1) (fun q => kl.length - q.1) (0, _, s6, ns)
        ⟨Nat.zero_le _, e12, hg6, by simp only; omega⟩ (by simp [go_sem]) rfl (by simp [go_sem]) ?_
      rintro ⟨q, H3, s8, ms⟩ ⟨hq, e13, hg8, hms⟩
      simp only at hq e13 hg8 hms
      simp [go_sem]
      refine Br.forkD (fun g3 => ?_) (fun g3 => ?_)
      · obtain ⟨bk, offk, cellsk, rfl, _, _, hrk, hck⟩ := (hskH.ext RAk.monoL.mono e13).get g3
        unfold RAk at hck
        subst hck
        simp [go_sem, hrk, g3, wrap_u8, fdiv_24, fdiv_16, fdiv_8]
        generalize kl[q] = y
        have hg9 : GSl RBy 1 H1.length (newBlk (newBlk H3 [.int .i64 y.1, .int .i64 y.2]) [.int .u8 75, .int .u8 (y.1 % 256), .int .u8 (y.2 / 16777216 % 256), .int .u8 (y.2 / 65536 % 256), .int .u8 (y.2 / 256 % 256), .int .u8 (y.2 % 256)]) s8 ms := hg8.ext RBy.monoL (by simp [go_sem])
        refine byappend (ys := [75, y.1 % 256, y.2 / 16777216 % 256, y.2 / 65536 % 256, y.2 / 256 % 256, y.2 % 256]) hg9 (by have := e13.len; simp [newBlk_length]; omega) (news_slice u144 rfl (by simp) (by simp [go_sem])) (by simp) (by simp; omega) fun a5 n5 H5 hg5 _ _ hext5 _ _ => ?_
        simp [go_sem]
        exact loopK_next (q + 1, H5, _, _) ⟨by simp only; omega, hext5 H1 (Nat.le_refl _) (by simp [go_sem, e13]), hg5, by simp only [List.length_append, List.length_cons, List.length_nil]; omega⟩ (by simp only; omega) rfl (by simp [go_sem]) (by simp [go_sem, wrap_succ (i := q) (by omega)])
      · have h3 := h1.ext e13
        have hb3 := hb1.ext e13
        obtain ⟨k4, w4, h4, l4⟩ := h3.wrSends hSr hi8 (vs := List.replicate 16 (.bool false)) (by simp) (fun j hj => ⟨false, by rw [List.getElem?_replicate, if_pos hj]⟩)
        obtain ⟨k5, w5, h5, l5⟩ := h4.wrAk hSr hi8 (s := .slice none 0 0) (l := []) (sl_nil _) (by simp)
        have hb5 := (hb3.ofRtS hSr hrb l4).ofRtS hSr hrb l5
        have h3l := h3.lt
        have nat : ∀ q, atB s8 q = true → q ≠ r := fun q hq => by have := (hg8.lt hq).1; omega
        have nat3 : ∀ q, atB s3 q = true → q ≠ r := fun q hq => by have := (hg3.lt hq).1; omega
        rw [List.set_set] at w5 h5 l5 hb5
        rw [← noAk_succ] at h5
        have le5 := fun (S : Nat → Bool) (x : S r = true) (y : S b = true) z => ((hle1 S x y z).trans (hide_ext e13)).trans ((l4 _ x).trans (l5 _ x))
        have hg10 : GSl RBy 1 H1.length (H3.set r k5) s8 ms := hg8.frame (fun q k hq hk => by rw [List.getElem?_set_ne (Ne.symm (nat q hq))]; exact hk) (fun _ _ _ h => h)
        have hg11 : GSl RSe 2 H.length (H3.set r k5) s3 out := (hg3.ext RSe.monoL e13).frame (fun q k hq hk => by rw [List.getElem?_set_ne (Ne.symm (nat3 q hq))]; exact hk) (fun _ _ _ h => h)
        obtain ⟨a8, hsh8⟩ := hg8.shape
        simp only [List.replicate] at w4
        have hel := e13.len
        subst hsh8
        simp [go_sem, w4, w5]
        have hlen4 : (H3.set r k5).length = H3.length := by simp
        generalize H3.set r k5 = H4 at *
        refine Br.forkD (fun g4 => ?_) (fun g4 => ?_)
        · have hst := gsl_str hg10 (fun e => by rw [e] at g4; simp at g4)
          simp [go_sem, hst]
          have hg12 : GSl RSe 2 H.length (newBlk H4 [.int .i64 i, .string (strOf ms)]) s3 out := hg11.ext RSe.monoL (by simp [go_sem])
          refine op2_append (ys := [((i : Int), strOf ms)]) (l := [.int .i64 i, .string (strOf ms)]) hg12 RSe.monoL (by simp [newBlk_length]; omega)
            u78 z173 i173 s173 rfl (by omega) (by rw [b173]; omega) (news_one u78 rfl (by simp [go_sem])) (by simp) (by simp) ?_ (by simp; omega) ?_
          · intro k y hy
            have hk0 : k = 0 := by have := (List.getElem?_eq_some_iff.1 hy).1; simp at this; omega
            subst hk0
            simp at hy
            subst hy
            rfl
          intro s' H' hg' hkeep hlt hext hat hle
          have e45 : Ext H4 (newBlk H4 [.int .i64 i, .string (strOf ms)]) := by simp [go_sem]
          have nr : ∀ q, q < H.length → atB s3 q = false := fun q hq => by
            cases hc : atB s3 q
            · rfl
            · have := (hg12.lt hc).1; omega
          have hl6' := fun (S : Nat → Bool) (z : ∀ q, H.length ≤ q → S q = true) => hide_le_of (S := S) hle fun q hq => z q (hg12.lt hq).1
          have hl6 := hl6' S hSm
          have h6 := (h5.ext e45).keep (hkeep r (by simp [newBlk_length]; omega) (nr r hrl)) hl6
          have hb6 := (hb5.ext e45).keep (hkeep b (by simp [newBlk_length]; omega) (nr b hbl)) hl6
          simp [go_sem]
          exact loopK_next (i + 1, H', s', _) ⟨by simp only; omega, by simp [newBlk_length] at hlt; simp only; omega, fun S x y z => ((le5 S x y z).trans (hide_ext e45)).trans (hl6' S z), h6, hb6, hg', by simp; omega⟩ (by simp only; omega) rfl (by simp [go_sem]) (by simp [go_sem, wrap_succ (i := i) (by omega)])
        · simp [go_sem]
          exact loopK_next (i + 1, H4, s3, out) ⟨by simp only; omega, by simp only; omega, le5, h5, hb5, hg11, by simp only; omega⟩ (by simp only; omega) rfl (by simp [go_sem]) (by simp [go_sem, wrap_succ (i := i) (by omega)])
end Go.Proofs.Ytlljiccilldnaaa.Fl
