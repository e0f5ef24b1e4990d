/- The newest of a list, by the reference. -/
import Derived.Test.YtlljiccilldnaaaAd12
set_option linter.unusedVariables false
set_option linter.unusedSimpArgs false
set_option maxRecDepth 10000
namespace Go.Proofs.Ytlljiccilldnaaa.Ad
open Go Go.Am
open Go.Proofs.Ytlljiccilldnaaa.Fx
open Go.Proofs.Ytlljiccilldnaaa.Ba (wrap_small wrap_succ sameInts_spec)
variable {H : Heap} {K : Value → Heap → Prop}

theorem _root_.Go.Am.Sl.of {α : Type} {R R' : Heap → α → List Value → Prop} {sz : Nat} {H : Heap} {s : Value} {xs : List α} (h : Sl R sz H s xs) (hR : ∀ x c, R H x c → R' H x c) : Sl R' sz H s xs := by
  obtain ⟨a, c, e, hc, hn, hs⟩ := h
  refine ⟨a, c, e, hc, hn, fun ad ha => ?_⟩
  obtain ⟨h1, h2, h3, h4⟩ := hs ad ha
  refine ⟨h1, h2, h3, fun i x hx => ?_⟩
  obtain ⟨cells, h5, h6⟩ := h4 i x hx
  exact ⟨cells, h5, hR _ _ h6⟩
/-- Elements that are known in a smaller memory. -/
theorem _root_.Go.Am.Sl.inB {α : Type} {R : Heap → α → List Value → Prop} {sz : Nat} {B H : Heap} {s : Value} {xs : List α} (h : Sl R sz B s xs) (hl : Le B H) : Sl (fun _ => R B) sz H s xs :=
  (h.of (R' := fun _ => R B) fun x c h => h).le (fun _ _ _ _ _ h => h) hl
theorem _root_.Go.Am.GSl.unhide {α : Type} {R : Heap → α → List Value → Prop} {sz m : Nat} {B H : Heap} {s : Value} {xs : List α} (hm : MonoL R) (h : GSl (fun _ => R B) sz m H s xs) {S : Nat → Bool} (hS : ∀ q, S q = true → q < m) (hl : Le B (hide S H)) : Sl R sz (hide S H) s xs := by
  obtain ⟨cells, hc, hR, h⟩ := h.ex
  rcases h with ⟨rfl, rfl⟩ | ⟨b, k, hb, rfl, hne, hk, rfl, hmode, hsh⟩
  · exact ⟨none, 0, rfl, Nat.le_refl _, fun _ => rfl, fun ad h => (by cases h)⟩
  · have hSb : S b = false := by
      cases hq : S b
      · rfl
      · have := hS b hq; omega
    have hg : (hide S H)[b]? = some k := by rw [hide_get, hk, Option.map_some, if_neg (by rw [hSb]; simp)]
    refine ⟨_, _, rfl, Nat.le_refl _, fun h => (by cases h), fun ad ha => ?_⟩
    cases ha
    refine ⟨rfl, by rw [hide_len]; exact (List.getElem?_eq_some_iff.1 hk).1, ?_, fun i x hx => ⟨(k.cells.drop (i * sz)).take sz, ?_, hm _ _ _ _ hl (hR i x hx)⟩⟩
    · unfold okShare; rw [hg]; rcases hsh with h | h <;> simp [h]
    · have hi := (List.getElem?_eq_some_iff.1 hx).1
      have : (i + 1) * sz ≤ xs.length * sz := Nat.mul_le_mul_right _ (by omega)
      rw [Nat.succ_mul] at this
      unfold rdBlk
      rw [hg]
      simp only [Nat.zero_add]
      rw [if_pos ⟨by rw [hmode]; simp, by omega⟩]
def beats (b : Option Adv) (a : Adv) : Bool := match b with
  | none => true
  | some x => decide (0 < newerZ a x)
def bstep (id : Int) (b : Option Adv) (a : Adv) : Option Adv := if fault a = 0 ∧ a.id = id ∧ beats b a = true then some a else b
def bestA (l : List Adv) (id : Int) : Option Adv := l.foldl (bstep id) none
def stOf (l : List Adv) : Nat → Option Adv := fun i => bestA l i
theorem bestA_snoc {l : List Adv} {a : Adv} {id : Int} : bestA (l ++ [a]) id = bstep id (bestA l id) a := by
  unfold bestA; rw [List.foldl_append]; rfl
theorem bestA_succ {l : List Adv} {i : Nat} {id : Int} (h : i < l.length) : bestA (l.take (i + 1)) id = bstep id (bestA (l.take i) id) l[i] := by
  rw [List.take_succ_eq_append_getElem h, bestA_snoc]
theorem bestA_ok (id : Int) : ∀ (l : List Adv) (b : Option Adv), (∀ x, b = some x → fault x = 0 ∧ x.id = id) → ∀ x, l.foldl (bstep id) b = some x → fault x = 0 ∧ x.id = id
  | [], b, hb, x, h => hb x h
  | a :: l, b, hb, x, h => by
    refine bestA_ok id l (bstep id b a) (fun y hy => ?_) x h
    unfold bstep at hy
    split at hy
    · rename_i hc; cases hy; exact ⟨hc.1, hc.2.1⟩
    · exact hb y hy
theorem bestA_fault {l : List Adv} {id : Int} {x : Adv} (h : bestA l id = some x) : fault x = 0 ∧ x.id = id := bestA_ok id l none (fun _ h => (by cases h)) x h

def idxV (r : Option Nat) : Int := match r with
  | none => -1
  | some j => j
/-- The place of the best so far. -/
def At (l : List Adv) (r : Option Nat) (b : Option Adv) : Prop := match r with
  | none => b = none
  | some j => ∃ h : j < l.length, b = some l[j]

/-- 'Newest'. -/
theorem newestB_spec {B : Heap} {s : Value} {l : List Adv} (hB : Le B H) (hs0 : Sl (fun _ => RAdv B) 4 H s l) (hl : l.length < 1000000) (hk : ∀ H' s', Ext H H' → GSl (fun _ => RAdv B) 4 H.length H' s' (listL (stOf l) 16) → K s' H') : Wcall Try.prog 48 #[s] H K := by
  have hs : Sl RAdv 4 H s l := hs0.of fun x c h => RAdv.monoL _ _ _ _ hB h
  have monoB : MonoL (fun _ : Heap => RAdv B) := fun _ _ _ _ _ h => h
  obtain ⟨as_, c, rfl⟩ := hs.shape
  refine call_body (rs := #[.tmp 2]) Try.func48 rfl Try.ntmps48 rfl rfl (by simp) ?_
  simp [go_sem]
  refine Wc.loopw 53 (fun i : Nat × Heap × Value => [(0, .slice as_ l.length c), (3, i.2.2), (8, .int .i64 i.1)]) (fun i => i.2.1)
    (fun i => i.1 ≤ 16 ∧ Ext H i.2.1 ∧ GSl (fun _ => RAdv B) 4 H.length i.2.1 i.2.2 (listL (stOf l) i.1)) (fun i => 16 - i.1) (0, _, _)
    ⟨Nat.zero_le _, Ext.refl _, GSl.nil⟩ (by simp [go_sem]) rfl (by simp [go_sem]) ?_
  rintro ⟨id, H1, s1⟩ ⟨hi, he, hg⟩
  simp only at hi he hg
  simp [go_sem]
  refine Br.forkD (fun h16 => ?_) (fun h16 => ?_)
  rotate_left
  · simp [go_sem]
    have : id = 16 := by omega
    subst this
    exact hk _ _ he hg
  simp [go_sem]
  refine Wc.loopw 53 (fun i : Nat × Heap × Option Nat => [(0, .slice as_ l.length c), (3, s1), (4, .int .i64 id), (5, .int .i64 (idxV i.2.2)), (8, .int .i64 id), (11, .slice as_ l.length c), (12, .int .i64 l.length), (13, .int .i64 i.1)]) (fun i => i.2.1)
    (fun i => i.1 ≤ l.length ∧ Ext H1 i.2.1 ∧ At l i.2.2 (bestA (l.take i.1) id)) (fun i => l.length - i.1) (0, _, none)
    ⟨Nat.zero_le _, Ext.refl _, rfl⟩ (by simp [go_sem]) rfl (by simp [go_sem, idxV]) ?_
  rintro ⟨i, H2, r⟩ ⟨hi2, he2, hat⟩
  simp only at hi2 he2 hat
  have he02 := he.trans he2
  simp [go_sem]
  refine Br.forkD (fun h => ?_) (fun h => ?_)
  · obtain ⟨b, off, cells, rfl, hb, _, hr, sx, hc, hsx⟩ := (hs.ext RAdv.mono he02).get h
    have hsucc := bestA_succ (id := id) h
    obtain ⟨x, hx⟩ : ∃ x, l[i] = x := ⟨_, rfl⟩
    have hil : i < l.length := h
    rw [hx] at hc hsx hsucc
    unfold advC at hc
    subst hc
    have skip : ∀ H3, Ext H2 H3 → ¬ (fault x = 0 ∧ x.id = id ∧ beats (bestA (l.take i) id) x = true) → (i + 1 ≤ l.length ∧ Ext H1 H3 ∧ At l r (bestA (l.take (i + 1)) id)) := fun H3 e3 hn => ⟨by omega, he2.trans e3, by rw [hsucc, bstep, if_neg hn]; exact hat⟩
    have take : ∀ H3, Ext H2 H3 → (fault x = 0 ∧ x.id = id ∧ beats (bestA (l.take i) id) x = true) → (i + 1 ≤ l.length ∧ Ext H1 H3 ∧ At l (some i) (bestA (l.take (i + 1)) id)) := fun H3 e3 hn => ⟨by omega, he2.trans e3, by rw [hsucc, bstep, if_pos hn]; exact ⟨hil, by rw [hx]⟩⟩
    simp [go_sem, hr, h]
    refine Wc.drawnS (Old (H2.length + 1)) mixed (by kernel_rfl) ?_
    simp [go_sem]
    refine advFault_spec (a := x) (hsx.ext RLk.mono (by simp [go_sem])) fun H3 e3 => ?_
    have e23 : Ext H2 H3 := Ext.trans (by simp [go_sem]) e3
    have r3 : rdBlk H3 H2.length 0 4 = some [.int .i64 x.id, .int .i64 x.seq, .int .i64 x.age, sx] := e3.rd (by simp [go_sem])
    have r31 : rdBlk H3 H2.length 0 1 = some [.int .i64 x.id] := by simpa using rdBlk_sub r3 (i := 0) (k := 1) (by omega)
    simp [go_sem, keepS_ext e3]
    refine Gd4.fork (fun d1 => ?_) (fun d1 => ?_)
    rotate_left
    · simp [go_sem, d1]
      exact loopK_next (i + 1, H3, r) (skip H3 e23 (fun hn => by simp [hn.1] at d1)) (by simp only; omega) rfl (by simp [go_sem]) (by simp [go_sem, wrap_succ (i := i) (by omega)])
    have f0 : fault x = 0 := by simpa using d1
    simp [go_sem, d1, r31]
    refine Gd4.fork (fun d2 => ?_) (fun d2 => ?_)
    rotate_left
    · simp [go_sem, d1, d2]
      exact loopK_next (i + 1, H3, r) (skip H3 e23 (fun hn => by simp [hn.2.1] at d2)) (by simp only; omega) rfl (by simp [go_sem]) (by simp [go_sem, wrap_succ (i := i) (by omega)])
    have i0 : x.id = id := by simpa using d2
    cases r with
    | none =>
      have hb0 : bestA (l.take i) id = none := hat
      simp [go_sem, d1, d2, idxV]
      exact loopK_next (i + 1, H3, some i) (take H3 e23 ⟨f0, i0, by rw [hb0]; rfl⟩) (by simp only; omega) rfl (by simp [go_sem]) (by simp [go_sem, wrap_succ (i := i) (by omega), idxV])
    | some j =>
      obtain ⟨hj, hbj⟩ := hat
      have hfj := bestA_fault hbj
      obtain ⟨b', off', cells', e', hb', _, hr', sy, hc', hsy⟩ := (hs.ext RAdv.mono (he02.trans e23)).get hj
      cases e'
      obtain ⟨y, hy⟩ : ∃ y, l[j] = y := ⟨_, rfl⟩
      rw [hy] at hc' hsy hbj hfj
      unfold advC at hc'
      subst hc'
      have hj0 : ¬ ((j : Int) < 0) := by omega
      have hb2 : b < H2.length := hb
      have hj1 : j < l.length := hj
      obtain ⟨asx, nx, csx, hsxv⟩ : ∃ a n c, sx = .slice a n c := by obtain ⟨a, c, e⟩ := hsx.shape; exact ⟨_, _, _, e⟩
      simp [go_sem, d1, d2, idxV, hj0, r3, hj, hr']
      refine ⟨by omega, ?_⟩
      refine advNewer_spec (a := x) (b := y) (hsx.ext RLk.mono e23) hsy f0 hfj.1 fun H4 e4 => ?_
      simp [go_sem, keepS_ext e4]
      refine Br.forkD (fun g => ?_) (fun g => ?_)
      · simp [go_sem]
        exact loopK_next (i + 1, H4, some i) (take H4 (e23.trans e4) ⟨f0, i0, by rw [hbj]; simpa [beats] using g⟩) (by simp only; omega) rfl (by simp [go_sem]) (by simp [go_sem, wrap_succ (i := i) (by omega), idxV])
      · simp [go_sem]
        exact loopK_next (i + 1, H4, some j) (skip H4 (e23.trans e4) (fun hn => by rw [hbj] at hn; simp [beats] at hn; exact g hn.2.2)) (by simp only; omega) rfl (by simp [go_sem]) (by simp [go_sem, wrap_succ (i := i) (by omega), idxV])
  · have : i = l.length := by omega
    subst this
    rw [List.take_length] at hat
    have hst : stOf l id = bestA l id := rfl
    cases r with
    | none =>
      have hb0 : bestA l id = none := hat
      simp [go_sem, idxV]
      exact loopK_next (id + 1, H2, s1) ⟨by simp only; omega, he02, by simp only; rw [listL_succ, hst, hb0]; simpa using hg.ext monoB he2⟩ (by simp only; omega) rfl (by simp [go_sem]) (by simp [go_sem, wrap_succ (i := id) (by omega)])
    | some j =>
      obtain ⟨hj, hbj⟩ := hat
      obtain ⟨b', off', cells', rfl, hb', _, hr', sy, hc', hsy⟩ := (hs.ext RAdv.mono he02).get hj
      obtain ⟨_, _, _, e0, _, _, hr0, sy0, hc0, hsy0⟩ := hs0.get hj
      cases e0
      obtain ⟨y, hy⟩ : ∃ y, l[j] = y := ⟨_, rfl⟩
      have hr0' := he02.rd hr0
      rw [hr'] at hr0'
      rw [hy] at hc' hsy hbj hc0 hsy0
      have hsyy : sy0 = sy := by
        have : cells' = _ := Option.some.inj hr0'
        rw [hc', hc0] at this
        simp [advC] at this
        exact this.symm
      subst hsyy
      have hj0 : (0 : Int) ≤ j := by omega
      have hsucc : listL (stOf l) (id + 1) = listL (stOf l) id ++ [y] := by rw [listL_succ, hst, hbj]
      have hcc := hc'
      unfold advC at hcc
      subst hcc
      simp [go_sem, idxV, hj0, hj, hr']
      have hg2 : GSl (fun _ => RAdv B) 4 H.length (newBlk H2 (advC y sy0)) s1 (listL (stOf l) id) := hg.ext monoB (by simp [go_sem, he2])
      refine op2_append (ys := [y]) (l := advC y sy0) hg2 monoB (by have := he02.len; simp [newBlk_length]; omega)
        u74 z84 i84 s84 rfl (by omega) (by rw [b84]; omega) (news_one u74 rfl (by simp [go_sem, advC])) (by simp) (by simp [advC]) ?_ (by have := listL_len (stOf l) id; simp; omega) ?_
      · intro k z hz
        have hk0 : k = 0 := by have := (List.getElem?_eq_some_iff.1 hz).1; simp at this; omega
        subst hk0
        simp at hz
        subst hz
        exact ⟨_, rfl, hsy0⟩
      intro s' H' hg' _ _ hext _ _
      simp [go_sem]
      exact loopK_next (id + 1, H', s') ⟨by simp only; omega, hext H (by omega) (by simp [go_sem, he02]), by simp only; rw [hsucc]; exact hg'⟩ (by simp only; omega) rfl (by simp [go_sem]) (by simp [go_sem, wrap_succ (i := id) (by omega)])

theorem newest_spec {s : Value} {l : List Adv} (hs : Sl RAdv 4 H s l) (hl : l.length < 1000000) (hk : ∀ H' s', Ext H H' → Sl RAdv 4 H' s' (listL (stOf l) 16) → K s' H') : Wcall Try.prog 48 #[s] H K :=
  newestB_spec (B := H) (Le.refl H) (hs.of fun x c h => h) hl fun H' s' he hg => hk H' s' he ((hg.sl (fun _ _ _ _ _ h => h)).of fun x c h => RAdv.monoL _ _ _ _ he.le h)
end Go.Proofs.Ytlljiccilldnaaa.Ad
