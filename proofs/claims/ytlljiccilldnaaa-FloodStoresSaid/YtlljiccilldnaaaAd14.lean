/- The graph of a list of advertisements, by the reference. -/
import Derived.Test.YtlljiccilldnaaaAd13
set_option linter.unusedVariables false
set_option linter.unusedSimpArgs false
set_option maxRecDepth 10000
namespace Go.Proofs.Ytlljiccilldnaaa.Ad
open Go Go.Am
open Go.Proofs.Ytlljiccilldnaaa.Fx
open Go.Proofs.Ytlljiccilldnaaa.Ba (wrap_small wrap_succ sameInts_spec)
variable {H : Heap} {K : Value → Heap → Prop}

abbrev Edge := Int × Int × Int
/-- A graph that is being built, in a box. -/
structure Gst (H0 H : Heap) (s : Value) (L : List Edge) : Prop where
  ext : Ext H0 H
  zero : H[H0.length]? = some ⟨[.int .i64 0, .slice none 0 0], 0, true, .live⟩
  box : H[H0.length + 1]? = some ⟨[.int .i64 16, s], 0, true, .live⟩
  sl : GSl REd 3 (H0.length + 2) H s L
theorem Gst.new {H0 : Heap} {s : Value} {L : List Edge} (h : Gst H0 H s L) {H' : Heap} (he : Ext H H') : Gst H0 H' s L := ⟨h.ext.trans he, he.at h.zero, he.at h.box, h.sl.ext REd.monoL he⟩
/-- A box beside it. -/
structure Bx (H0 H : Heap) (s : Value) (p : Nat) (cells : List Value) : Prop where
  get : H[p]? = some ⟨cells, 0, true, .live⟩
  off : atB s p = false
  ge : H0.length + 2 ≤ p
theorem Bx.new {H0 : Heap} {s : Value} {p : Nat} {cells : List Value} (h : Bx H0 H s p cells) {H' : Heap} (he : Ext H H') : Bx H0 H' s p cells := ⟨he.at h.get, h.off, h.ge⟩
theorem Gst.bx {H0 : Heap} {s : Value} {L : List Edge} (h : Gst H0 H s L) (cells : List Value) : Bx H0 (newBlk H cells) s H.length cells := ⟨get_new _ _, by
  cases hq : atB s H.length
  · rfl
  · have := (h.sl.lt hq).2; omega, by have := (List.getElem?_eq_some_iff.1 h.box).1; omega⟩

theorem gappend {H0 : Heap} {s : Value} {L : List Edge} {e : Edge} {p : Nat} (hp : p = H.length) (h : Gst H0 H s L) (hL : L.length ≤ 1000000)
    (hk : ∀ a n H' H'', wrBlk H' (H0.length + 1) 1 [.slice a n n] = some H'' → Gst H0 H'' (.slice a n n) (L ++ [e]) → (∀ p cells, Bx H0 H s p cells → Bx H0 H'' (.slice a n n) p cells) → H0.length + 1 < H'.length → K (.slice a n n) H') :
    Op2 (aAppend Try.prog (newBlk H [.int .i64 e.1, .int .i64 e.2.1, .int .i64 e.2.2]) 47 47 s (.slice (some ⟨p, 0, none⟩) 1 1)) K := by
  subst hp
  have l0 := (List.getElem?_eq_some_iff.1 h.box).1
  have hg := h.sl.ext REd.monoL (H' := newBlk H [.int .i64 e.1, .int .i64 e.2.1, .int .i64 e.2.2]) (by simp [go_sem])
  refine op2_append (ys := [e]) (l := [.int .i64 e.1, .int .i64 e.2.1, .int .i64 e.2.2]) hg REd.monoL (by simp [newBlk_length]; omega)
    u47 z65 i65 s65 rfl (by omega) (by rw [b65]; omega) (news_one u47 rfl (by simp [go_sem])) (by simp) (by simp) ?_ (by simp; omega) ?_
  · intro k y hy
    have hk0 : k = 0 := by have := (List.getElem?_eq_some_iff.1 hy).1; simp at this; omega
    subst hk0
    simp at hy
    subst hy
    rfl
  intro s' H' hg' hkeep hlt hext hat hle
  obtain ⟨a5, n5, rfl⟩ : ∃ a n, s' = .slice a n n := by obtain ⟨a, e⟩ := hg'.shape; exact ⟨a, _, e⟩
  have nat : ∀ q, q < H0.length + 2 → atB s q = false := fun q hq => by
    cases hc : atB s q
    · rfl
    · have := (hg.lt hc).1; omega
  have nat' : ∀ q, q < H.length + 1 → atB (.slice a5 n5 n5) q = false := fun q hq => by rw [hat]; exact one_ne (by simp [newBlk_length]; omega)
  have old : ∀ q k, H[q]? = some k → atB s q = false → H'[q]? = some k := fun q k hq hn => by
    have hl := (List.getElem?_eq_some_iff.1 hq).1
    rw [hkeep q (by simp [newBlk_length]; omega) hn]
    exact Ext.at (Ext.new (Ext.refl _)) hq
  have hb5 := old _ _ h.box (nat _ (by omega))
  have hz5 := old _ _ h.zero (nat _ (by omega))
  have w5 := wr_at hb5 (off := 1) (vs := [.slice a5 n5 n5]) (by simp)
  simp at w5
  have l5 := (List.getElem?_eq_some_iff.1 hb5).1
  have e5 : Ext H0 H' := hext H0 (by omega) (by simp [go_sem, h.ext])
  refine hk _ _ _ _ w5 ⟨ext_set e5 (by omega), by rw [List.getElem?_set_ne (by omega)]; exact hz5, List.getElem?_set_self l5, ?_⟩ (fun p cells hp => ⟨?_, ?_, hp.ge⟩) l5
  · refine hg'.frame (fun q k hq hk => ?_) (fun _ _ _ h => h)
    have : q ≠ H0.length + 1 := fun e => by rw [nat' q (by omega)] at hq; cases hq
    rw [List.getElem?_set_ne (Ne.symm this)]; exact hk
  · have := hp.ge
    rw [List.getElem?_set_ne (by omega)]
    exact old _ _ hp.get hp.off
  · have := (List.getElem?_eq_some_iff.1 hp.get).1
    exact nat' p (by omega)

def g4 (a : Adv) (x : Int × Int) (b : Adv) (y : Int × Int) : List Edge := if b.id = x.1 ∧ y.1 = a.id ∧ a.age < 3600 ∧ b.age < 3600 then [(a.id, x.1, x.2)] else []
def g3 (a : Adv) (x : Int × Int) (b : Adv) : List Edge := b.links.flatMap (g4 a x b)
def g2 (l : List Adv) (a : Adv) (x : Int × Int) : List Edge := l.flatMap (g3 a x)
def g1 (l : List Adv) (a : Adv) : List Edge := a.links.flatMap (g2 l a)
def graphOfL (l : List Adv) : List Edge := l.flatMap (g1 l)
theorem flatMap_succ {α β : Type} {l : List α} {f : α → List β} {i : Nat} (h : i < l.length) : (l.take (i + 1)).flatMap f = (l.take i).flatMap f ++ f l[i] := by
  rw [List.take_succ_eq_append_getElem h, List.flatMap_append]; simp
theorem flatMap_le {α β : Type} {f : α → List β} {c : Nat} : ∀ {l : List α}, (∀ x ∈ l, (f x).length ≤ c) → (l.flatMap f).length ≤ l.length * c
  | [], _ => by simp
  | x :: l, h => by
    have := flatMap_le (l := l) (fun y hy => h y (List.mem_cons_of_mem _ hy))
    have h1 := h x (List.mem_cons_self ..)
    rw [List.flatMap_cons, List.length_append, List.length_cons, Nat.add_mul]; omega

theorem len_step {P : List Edge} {n m c : Nat} (h : P.length + n * c ≤ m) {α : Type} {l : List α} {f : α → List Edge} (hf : ∀ x ∈ l, (f x).length ≤ c) {i : Nat} (hi : i ≤ n) (hl : l.length = n) : (P ++ (l.take i).flatMap f).length + (n - i) * c ≤ m := by
  have := flatMap_le (l := l.take i) (f := f) (c := c) (fun x hx => hf x (List.mem_of_mem_take hx))
  have e : (l.take i).length = i := by simp; omega
  rw [e] at this
  have e2 : i * c + (n - i) * c = n * c := by rw [← Nat.add_mul]; congr 1; omega
  rw [List.length_append]; omega

/-- 'GraphOf'. -/
theorem graphOf_spec {s : Value} {l : List Adv} (hs : Sl RAdv 4 H s l) (hl : l.length ≤ 16) (hlk : ∀ a ∈ l, a.links.length ≤ 16) (hk : ∀ H' s', Ext H H' → Sl REd 3 H' s' (graphOfL l) → K (.agg #[.int .i64 16, s']) H') : Wcall Try.prog 49 #[s] H K := by
  obtain ⟨as_, c, rfl⟩ := hs.shape
  have b3 : ∀ a x, ∀ b ∈ l, (g3 a x b).length ≤ 16 := fun a x b hb => by
    have := flatMap_le (l := b.links) (f := g4 a x b) (c := 1) (fun y _ => by unfold g4; split <;> simp)
    have := hlk b hb
    unfold g3; omega
  have b2 : ∀ a x, (g2 l a x).length ≤ 256 := fun a x => by
    have := flatMap_le (l := l) (f := g3 a x) (c := 16) (b3 a x)
    unfold g2; omega
  have b1 : ∀ a ∈ l, (g1 l a).length ≤ 4096 := fun a ha => by
    have := flatMap_le (l := a.links) (f := g2 l a) (c := 256) (fun x _ => b2 a x)
    have := hlk a ha
    unfold g1; omega
  refine call_cells (rs := #[.cell 2 49]) Try.func49 rfl Try.ntmps49 rfl (by simp) ?_
  simp [go_sem]
  have g0 : Gst H (newBlk (newBlk H [.int .i64 0, .slice none 0 0]) [.int .i64 16, .slice none 0 0]) (.slice none 0 0) ((l.take 0).flatMap (g1 l)) := ⟨by simp [go_sem], by simp [newBlk], by simp [newBlk], GSl.nil⟩
  refine Wc.loopw 78 (fun i : Nat × Heap × Value => [(0, .slice as_ l.length c), (2, .pointer (some ⟨H.length, 0, none⟩)), (3, .pointer (some ⟨H.length + 1, 0, none⟩)), (13, .slice as_ l.length c), (14, .int .i64 l.length), (15, .int .i64 i.1)]) (fun i => i.2.1)
    (fun i => i.1 ≤ l.length ∧ Gst H i.2.1 i.2.2 ((l.take i.1).flatMap (g1 l))) (fun i => l.length - i.1) (0, _, _)
    ⟨Nat.zero_le _, g0⟩ (by simp [go_sem]) rfl (by simp [go_sem]) ?_
  rintro ⟨i, H1, s1⟩ ⟨hi, hG1⟩
  simp only at hi hG1
  simp [go_sem]
  refine Br.forkD (fun h => ?_) (fun h => ?_)
  rotate_left
  · have : i = l.length := by omega
    subst this
    rw [List.take_length] at hG1
    obtain ⟨as1, n1, hsh1⟩ : ∃ a n, s1 = .slice a n n := by obtain ⟨a, e⟩ := hG1.sl.shape; exact ⟨a, _, e⟩
    have l1 := (List.getElem?_eq_some_iff.1 hG1.zero).1
    have r1 := rd_at hG1.box (off := 0) (n := 2) (by simp)
    have w1 := wr_at hG1.zero (off := 0) (vs := [.int .i64 16, s1]) (by simp)
    have gg2 : (H1.set H.length ⟨[.int .i64 16, s1], 0, true, .live⟩)[H.length]? = some ⟨[.int .i64 16, s1], 0, true, .live⟩ := List.getElem?_set_self l1
    have r2 := rd_at gg2 (off := 0) (n := 2) (by simp)
    simp at r1 w1 r2
    simp [go_sem, r1, w1, r2]
    refine hk _ _ (ext_set hG1.ext (Nat.le_refl _)) (GSl.sl (m := H.length + 2) REd.monoL (hG1.sl.frame (fun q k hq hk => ?_) (fun _ _ _ h => h)))
    have := (hG1.sl.lt hq).1
    rw [List.getElem?_set_ne (by omega)]; exact hk
  obtain ⟨b, off, cells, rfl, hb, _, hr, sa, hc, hsa⟩ := hs.get h
  have hsucc1 := flatMap_succ (f := g1 l) h
  have ham : l[i] ∈ l := List.getElem_mem h
  obtain ⟨a, ha⟩ : ∃ a, l[i] = a := ⟨_, rfl⟩
  rw [ha] at hc hsa hsucc1 ham
  have hla := hlk a ham
  unfold advC at hc
  subst hc
  obtain ⟨aa, ca, rfl⟩ := hsa.shape
  replace hr := hG1.ext.rd hr
  have len1 : ((l.take i).flatMap (g1 l)).length + 4096 ≤ 70000 := by
    have := flatMap_le (l := l.take i) (f := g1 l) (c := 4096) (fun x hx => b1 x (List.mem_of_mem_take hx))
    have e : (l.take i).length = i := by simp; omega
    rw [e] at this
    omega
  generalize hP1 : (l.take i).flatMap (g1 l) = P1 at *
  simp [go_sem, hr, h]
  refine Wc.loopw 78 (fun j : Nat × Heap × Value => [(0, .slice (some ⟨b, off, none⟩) l.length c), (2, .pointer (some ⟨H.length, 0, none⟩)), (3, .pointer (some ⟨H.length + 1, 0, none⟩)), (5, .pointer (some ⟨H1.length, 0, none⟩)), (13, .slice (some ⟨b, off, none⟩) l.length c), (14, .int .i64 l.length), (15, .int .i64 i), (20, .slice aa a.links.length ca), (21, .int .i64 a.links.length), (22, .int .i64 j.1)]) (fun j => j.2.1)
    (fun j => j.1 ≤ a.links.length ∧ Gst H j.2.1 j.2.2 (P1 ++ (a.links.take j.1).flatMap (g2 l a)) ∧ Bx H j.2.1 j.2.2 H1.length [.int .i64 a.id, .int .i64 a.seq, .int .i64 a.age, .slice aa a.links.length ca]) (fun j => a.links.length - j.1) (0, _, s1)
    ⟨Nat.zero_le _, by simpa [newBlk] using hG1.new (Ext.new (Ext.refl _)), by simpa [newBlk] using hG1.bx _⟩ (by simp [go_sem]) rfl (by simp [go_sem]) ?_
  rintro ⟨j, H2, s2⟩ ⟨hj, hG2, hBa2⟩
  simp only at hj hG2 hBa2
  simp [go_sem]
  refine Br.forkD (fun hj2 => ?_) (fun hj2 => ?_)
  rotate_left
  · simp [go_sem]
    have : j = a.links.length := by omega
    subst this
    rw [List.take_length] at hG2
    exact loopK_next (i + 1, H2, s2) ⟨by simp only; omega, by simp only; rw [hsucc1]; exact hG2⟩ (by simp only; omega) rfl (by simp [go_sem]) (by simp [go_sem, wrap_succ (i := i) (by omega)])
  have hsl2 : Sl RLk 2 H2 (.slice aa a.links.length ca) a.links := hsa.ext RLk.mono hG2.ext
  obtain ⟨bl, offl, cellsl, rfl, hbl, _, hrl, hcl⟩ := hsl2.get hj2
  unfold RLk at hcl
  have hsucc2 := flatMap_succ (f := g2 l a) hj2
  obtain ⟨x, hx⟩ : ∃ x, a.links[j] = x := ⟨_, rfl⟩
  rw [hx] at hcl hsucc2
  subst hcl
  have len2 : (P1 ++ (a.links.take j).flatMap (g2 l a)).length + 256 ≤ 70000 := by
    have := flatMap_le (l := a.links.take j) (f := g2 l a) (c := 256) (fun x _ => b2 a x)
    have e : (a.links.take j).length = j := by simp; omega
    rw [e] at this
    rw [List.length_append]; omega
  generalize hP2 : P1 ++ (a.links.take j).flatMap (g2 l a) = P2 at *
  have hs2' : P1 ++ (a.links.take (j + 1)).flatMap (g2 l a) = P2 ++ g2 l a x := by rw [hsucc2, ← List.append_assoc, hP2]
  simp [go_sem, hrl, hj2]
  refine Wc.loopw 78 (fun k : Nat × Heap × Value => [(0, .slice (some ⟨b, off, none⟩) l.length c), (2, .pointer (some ⟨H.length, 0, none⟩)), (3, .pointer (some ⟨H.length + 1, 0, none⟩)), (5, .pointer (some ⟨H1.length, 0, none⟩)), (7, .pointer (some ⟨H2.length, 0, none⟩)), (13, .slice (some ⟨b, off, none⟩) l.length c), (14, .int .i64 l.length), (15, .int .i64 i), (20, .slice (some ⟨bl, offl, none⟩) a.links.length ca), (21, .int .i64 a.links.length), (22, .int .i64 j), (26, .slice (some ⟨b, off, none⟩) l.length c), (27, .int .i64 l.length), (28, .int .i64 k.1)]) (fun k => k.2.1)
    (fun k => k.1 ≤ l.length ∧ Gst H k.2.1 k.2.2 (P2 ++ (l.take k.1).flatMap (g3 a x)) ∧ Bx H k.2.1 k.2.2 H1.length [.int .i64 a.id, .int .i64 a.seq, .int .i64 a.age, .slice (some ⟨bl, offl, none⟩) a.links.length ca] ∧ Bx H k.2.1 k.2.2 H2.length [.int .i64 x.1, .int .i64 x.2]) (fun k => l.length - k.1) (0, _, s2)
    ⟨Nat.zero_le _, by simpa [newBlk] using hG2.new (Ext.new (Ext.refl _)), by simpa [newBlk] using hBa2.new (Ext.new (Ext.refl _)), by simpa [newBlk] using hG2.bx _⟩ (by simp [go_sem]) rfl (by simp [go_sem]) ?_
  rintro ⟨k, H3, s3⟩ ⟨hk1, hG3, hBa3, hBx3⟩
  simp only at hk1 hG3 hBa3 hBx3
  simp [go_sem]
  refine Br.forkD (fun hk2 => ?_) (fun hk2 => ?_)
  rotate_left
  · simp [go_sem]
    have : k = l.length := by omega
    subst this
    rw [List.take_length] at hG3
    exact loopK_next (j + 1, H3, s3) ⟨by simp only; omega, by simp only; rw [hs2']; exact hG3, hBa3⟩ (by simp only; omega) rfl (by simp [go_sem]) (by simp [go_sem, wrap_succ (i := j) (by omega)])
  obtain ⟨b', off', cells', e', hb', _, hr', sb, hc', hsb⟩ := hs.get hk2
  cases e'
  have hsucc3 := flatMap_succ (f := g3 a x) hk2
  have hbm : l[k] ∈ l := List.getElem_mem hk2
  obtain ⟨bb, hbb⟩ : ∃ bb, l[k] = bb := ⟨_, rfl⟩
  rw [hbb] at hc' hsb hsucc3 hbm
  have hlb := hlk bb hbm
  unfold advC at hc'
  subst hc'
  obtain ⟨ab, cb, rfl⟩ := hsb.shape
  replace hr' := hG3.ext.rd hr'
  have len3 : (P2 ++ (l.take k).flatMap (g3 a x)).length + 16 ≤ 70000 := by
    have := flatMap_le (l := l.take k) (f := g3 a x) (c := 16) (fun y hy => b3 a x y (List.mem_of_mem_take hy))
    have e : (l.take k).length = k := by simp; omega
    rw [e] at this
    rw [List.length_append]; omega
  generalize hP3 : P2 ++ (l.take k).flatMap (g3 a x) = P3 at *
  have hs3' : P2 ++ (l.take (k + 1)).flatMap (g3 a x) = P3 ++ g3 a x bb := by rw [hsucc3, ← List.append_assoc, hP3]
  simp [go_sem, hr', hk2]
  refine Wc.loopw 78 (fun m : Nat × Heap × Value => [(0, .slice (some ⟨b, off, none⟩) l.length c), (2, .pointer (some ⟨H.length, 0, none⟩)), (3, .pointer (some ⟨H.length + 1, 0, none⟩)), (5, .pointer (some ⟨H1.length, 0, none⟩)), (7, .pointer (some ⟨H2.length, 0, none⟩)), (9, .pointer (some ⟨H3.length, 0, none⟩)), (13, .slice (some ⟨b, off, none⟩) l.length c), (14, .int .i64 l.length), (15, .int .i64 i), (20, .slice (some ⟨bl, offl, none⟩) a.links.length ca), (21, .int .i64 a.links.length), (22, .int .i64 j), (26, .slice (some ⟨b, off, none⟩) l.length c), (27, .int .i64 l.length), (28, .int .i64 k), (33, .slice ab bb.links.length cb), (34, .int .i64 bb.links.length), (35, .int .i64 m.1)]) (fun m => m.2.1)
    (fun m => m.1 ≤ bb.links.length ∧ Gst H m.2.1 m.2.2 (P3 ++ (bb.links.take m.1).flatMap (g4 a x bb)) ∧ Bx H m.2.1 m.2.2 H1.length [.int .i64 a.id, .int .i64 a.seq, .int .i64 a.age, .slice (some ⟨bl, offl, none⟩) a.links.length ca] ∧ Bx H m.2.1 m.2.2 H2.length [.int .i64 x.1, .int .i64 x.2] ∧ Bx H m.2.1 m.2.2 H3.length [.int .i64 bb.id, .int .i64 bb.seq, .int .i64 bb.age, .slice ab bb.links.length cb]) (fun m => bb.links.length - m.1) (0, _, s3)
    ⟨Nat.zero_le _, by simpa [newBlk] using hG3.new (Ext.new (Ext.refl _)), by simpa [newBlk] using hBa3.new (Ext.new (Ext.refl _)), by simpa [newBlk] using hBx3.new (Ext.new (Ext.refl _)), by simpa [newBlk] using hG3.bx _⟩ (by simp [go_sem]) rfl (by simp [go_sem]) ?_
  rintro ⟨m, H4, s4⟩ ⟨hm1, hG4, hBa4, hBx4, hBb4⟩
  simp only at hm1 hG4 hBa4 hBx4 hBb4
  simp [go_sem]
  refine Br.forkD (fun hm2 => ?_) (fun hm2 => ?_)
  rotate_left
  · simp [go_sem]
    have : m = bb.links.length := by omega
    subst this
    rw [List.take_length] at hG4
    exact loopK_next (k + 1, H4, s4) ⟨by simp only; omega, by simp only; rw [hs3']; exact hG4, hBa4, hBx4⟩ (by simp only; omega) rfl (by simp [go_sem]) (by simp [go_sem, wrap_succ (i := k) (by omega)])
  obtain ⟨by_, offy, cellsy, rfl, hby, _, hry, hcy⟩ := (hsb.ext RLk.mono hG4.ext).get hm2
  unfold RLk at hcy
  have hsucc4 := flatMap_succ (f := g4 a x bb) hm2
  obtain ⟨y, hy⟩ : ∃ y, bb.links[m] = y := ⟨_, rfl⟩
  rw [hy] at hcy hsucc4
  subst hcy
  have len4 : (P3 ++ (bb.links.take m).flatMap (g4 a x bb)).length + 1 ≤ 70000 := by
    have := flatMap_le (l := bb.links.take m) (f := g4 a x bb) (c := 1) (fun y _ => by unfold g4; split <;> simp)
    have e : (bb.links.take m).length = m := by simp; omega
    rw [e] at this
    rw [List.length_append]; omega
  generalize hP4 : P3 ++ (bb.links.take m).flatMap (g4 a x bb) = P4 at *
  have hs4' : P3 ++ (bb.links.take (m + 1)).flatMap (g4 a x bb) = P4 ++ g4 a x bb y := by rw [hsucc4, ← List.append_assoc, hP4]
  have ra := hBa4.new (H' := newBlk H4 [.int .i64 y.1, .int .i64 y.2]) (by simp [go_sem])
  have rx := hBx4.new (H' := newBlk H4 [.int .i64 y.1, .int .i64 y.2]) (by simp [go_sem])
  have rb := hBb4.new (H' := newBlk H4 [.int .i64 y.1, .int .i64 y.2]) (by simp [go_sem])
  have la := (List.getElem?_eq_some_iff.1 hBa4.get).1
  have lx := (List.getElem?_eq_some_iff.1 hBx4.get).1
  have lb := (List.getElem?_eq_some_iff.1 hBb4.get).1
  have ra0 : rdBlk H4 H1.length 0 1 = some [.int .i64 a.id] := by simpa using rd_at hBa4.get (off := 0) (n := 1) (by simp)
  have ra2 : rdBlk H4 H1.length 2 1 = some [.int .i64 a.age] := by simpa using rd_at hBa4.get (off := 2) (n := 1) (by simp)
  have rx0 : rdBlk H4 H2.length 0 1 = some [.int .i64 x.1] := by simpa using rd_at hBx4.get (off := 0) (n := 1) (by simp)
  have rx1 : rdBlk H4 H2.length 1 1 = some [.int .i64 x.2] := by simpa using rd_at hBx4.get (off := 1) (n := 1) (by simp)
  have rb0 : rdBlk H4 H3.length 0 1 = some [.int .i64 bb.id] := by simpa using rd_at hBb4.get (off := 0) (n := 1) (by simp)
  have rb2 : rdBlk H4 H3.length 2 1 = some [.int .i64 bb.age] := by simpa using rd_at hBb4.get (off := 2) (n := 1) (by simp)
  have hG4n := hG4.new (H' := newBlk H4 [.int .i64 y.1, .int .i64 y.2]) (by simp [go_sem])
  have rg1 : rdBlk (newBlk H4 [.int .i64 y.1, .int .i64 y.2]) (H.length + 1) 1 1 = some [s4] := by simpa using rd_at hG4n.box (off := 1) (n := 1) (by simp)
  have lg := (List.getElem?_eq_some_iff.1 hG4.box).1
  have rg0 : rdBlk H4 (H.length + 1) 1 1 = some [s4] := by simpa using rd_at hG4.box (off := 1) (n := 1) (by simp)
  obtain ⟨a4, n4, hsh4⟩ : ∃ a n, s4 = .slice a n n := by obtain ⟨a, e⟩ := hG4.sl.shape; exact ⟨a, _, e⟩
  simp [go_sem, hry, hm2, ra0, rx0, rb0, la, lx, lb]
  refine Gd.fork (fun e1 => ?_) (fun e1 => ?_)
  rotate_left
  · simp [go_sem, ra0, ra2, la, lx, lb, e1]
    exact loopK_next (m + 1, _, s4) ⟨by simp only; omega, by simp only; rw [hs4', show g4 a x bb y = [] from if_neg (fun hh => by first | (simp [hh.2.1] at e2; done) | (simp [hh.1] at e1; done)), List.append_nil]; exact hG4n, ra, rx, rb⟩ (by simp only; omega) rfl (by simp [go_sem]) (by simp [go_sem, wrap_succ (i := m) (by omega)])
  simp [go_sem, ra0, ra2, la, lx, lb, e1]
  refine Gd.fork (fun e2 => ?_) (fun e2 => ?_)
  rotate_left
  · simp [go_sem, ra0, ra2, la, lx, lb, e1, e2]
    exact loopK_next (m + 1, _, s4) ⟨by simp only; omega, by simp only; rw [hs4', show g4 a x bb y = [] from if_neg (fun hh => by first | (simp [hh.2.1] at e2; done) | (simp [hh.1] at e1; done)), List.append_nil]; exact hG4n, ra, rx, rb⟩ (by simp only; omega) rfl (by simp [go_sem]) (by simp [go_sem, wrap_succ (i := m) (by omega)])
  simp [go_sem, ra0, ra2, la, lx, lb, e1, e2]
  refine Gd.forkD (fun e3 => ?_) (fun e3 => ?_)
  rotate_left
  · simp [go_sem, e3]
    exact loopK_next (m + 1, _, s4) ⟨by simp only; omega, by simp only; rw [hs4', show g4 a x bb y = [] from if_neg (fun hh => e3 hh.2.2.1), List.append_nil]; exact hG4n, ra, rx, rb⟩ (by simp only; omega) rfl (by simp [go_sem]) (by simp [go_sem, wrap_succ (i := m) (by omega)])
  simp [go_sem, e3, rb2, lb]
  refine Br.forkD (fun e4 => ?_) (fun e4 => ?_)
  rotate_left
  · simp [go_sem]
    exact loopK_next (m + 1, _, s4) ⟨by simp only; omega, by simp only; rw [hs4', show g4 a x bb y = [] from if_neg (fun hh => e4 hh.2.2.2), List.append_nil]; exact hG4n, ra, rx, rb⟩ (by simp only; omega) rfl (by simp [go_sem]) (by simp [go_sem, wrap_succ (i := m) (by omega)])
  have heq : g4 a x bb y = [(a.id, x.1, x.2)] := if_pos ⟨by simpa using e1, by simpa using e2, e3, e4⟩
  simp [go_sem, rg0, lg, ra0, la, rx0, rx1, lx]
  refine gappend (e := (a.id, x.1, x.2)) (by simp [newBlk_length]) hG4n (by omega) fun a5 n5 H5 H6 w5 hG6 hBk l5 => ?_
  simp [go_sem, w5]
  exact loopK_next (m + 1, H6, .slice a5 n5 n5) ⟨by simp only; omega, by simp only; rw [hs4', heq]; exact hG6, hBk _ _ ra, hBk _ _ rx, hBk _ _ rb⟩ (by simp only; omega) rfl (by simp [go_sem]) (by simp [go_sem, wrap_succ (i := m) (by omega)])
end Go.Proofs.Ytlljiccilldnaaa.Ad
