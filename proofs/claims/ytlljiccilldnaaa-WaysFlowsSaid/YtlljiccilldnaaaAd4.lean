/- Which of two advertisements is newer; copies. -/
import Derived.Test.YtlljiccilldnaaaAd3
set_option linter.unusedVariables false
set_option linter.unusedSimpArgs false
set_option maxRecDepth 10000
namespace Go.Proofs.Ytlljiccilldnaaa.Ad
open Go Go.Am
open Go.Proofs.Ytlljiccilldnaaa.Fx
open Go.Proofs.Ytlljiccilldnaaa.Ba (wrap_small wrap_succ sameInts_spec)
variable {H : Heap} {K : Value → Heap → Prop}

def orL (xs : List Int) : Int := (xs.find? (fun x => decide (x ≠ 0))).getD 0

/-- 'cmp.Or'. -/
theorem orL_spec {s : Value} {xs : List Int} (hs : Sl RInt 1 H s xs) (hl : xs.length < 1000000) (hk : K (.int .i64 (orL xs)) H) : Wcall Try.prog 57 #[s] H K := by
  obtain ⟨a, c, rfl⟩ := hs.shape
  refine call_body (rs := #[.tmp 2]) Try.func57 rfl Try.ntmps57 rfl rfl (by simp) ?_
  simp [go_sem]
  refine Wc.loopw 18 (fun i : Nat => [(2, .int .i64 0), (3, .int .i64 0), (6, .slice a xs.length c), (7, .int .i64 xs.length), (8, .int .i64 i)]) (fun _ => H) (fun i => i ≤ xs.length ∧ ∀ j (h : j < xs.length), j < i → xs[j] = 0) (fun i => xs.length - i) 0
    ⟨Nat.zero_le _, fun _ _ h => absurd h (by omega)⟩ (by simp [go_sem]) rfl (by simp [go_sem]) ?_
  rintro i ⟨hi, h0⟩
  simp [go_sem]
  refine Br.forkD (fun h => ?_) (fun h => ?_)
  · obtain ⟨b, off, cells, rfl, hb, _, hr, rfl⟩ := hs.get h
    simp at hr
    simp [go_sem, hr, h]
    refine Br.forkN (fun h3 => ?_) (fun h3 => ?_)
    · simp [go_sem]
      have : orL xs = xs[i] := by
        unfold orL
        rw [show xs.find? (fun x => decide (x ≠ 0)) = some xs[i] from List.find?_eq_some_iff_getElem.2 ⟨by simpa using h3, i, h, rfl, fun j hj => by simpa using h0 j (by omega) hj⟩]
        rfl
      rw [← this]; exact hk
    · simp [go_sem]
      refine loopK_next (i + 1) ⟨by omega, fun j hj hji => ?_⟩ (by omega) rfl (by simp [go_sem]) (by simp [go_sem, wrap_succ (i := i) (by omega)])
      by_cases he : j = i
      · subst he; simpa using h3
      · exact h0 j hj (by omega)
  · simp [go_sem]
    have : orL xs = 0 := by
      unfold orL
      rw [show xs.find? (fun x => decide (x ≠ 0)) = none from List.find?_eq_none.2 fun x hx => by
        obtain ⟨j, hj, rfl⟩ := List.getElem_of_mem hx
        simpa using h0 j hj (by omega)]
      rfl
    rw [← this]; exact hk

def cmpI (x y : Int) : Int := if x < y then -1 else if y < x then 1 else 0

theorem cmpI_cases (x y : Int) : (cmpI x y = -1 ∧ x < y) ∨ (cmpI x y = 0 ∧ x = y) ∨ (cmpI x y = 1 ∧ y < x) := by
  unfold cmpI; split
  · omega
  · split <;> omega

theorem isNaN_spec {x : Int} (hk : K (.bool false) H) : Wcall Try.prog 124 #[.int .i64 x] H K := by
  refine call_body (rs := #[.tmp 2]) Try.func124 rfl Try.ntmps124 rfl rfl (by simp) ?_
  simp [go_sem]
  exact hk

/-- 'cmp.Compare'. -/
theorem compare_spec {x y : Int} (hk : K (.int .i64 (cmpI x y)) H) : Wcall Try.prog 94 #[.int .i64 x, .int .i64 y] H K := by
  unfold cmpI at hk
  refine call_body (rs := #[.tmp 4]) Try.func94 rfl Try.ntmps94 rfl rfl (by simp) ?_
  simp [go_sem]
  refine isNaN_spec ?_
  simp [go_sem]
  refine isNaN_spec ?_
  simp [go_sem]
  refine Br.forkD (fun h => ?_) (fun h => ?_)
  · simp [go_sem]
    rw [if_pos h] at hk; exact hk
  rw [if_neg h] at hk
  simp [go_sem]
  refine Br.forkD (fun h2 => ?_) (fun h2 => ?_)
  · simp [go_sem]
    rw [if_pos h2] at hk; exact hk
  simp [go_sem]
  rw [if_neg h2] at hk; exact hk

def gone (a : Adv) : Int := if a.age = 3600 then 1 else 0
theorem gone_spec {a : Adv} {s : Value} (hs : ∃ al n c, s = .slice al n c) (hk : ∀ H', Ext H H' → K (.int .i64 (gone a)) H') : Wcall Try.prog 160 #[advV a s] H K := by
  obtain ⟨al, n, c, rfl⟩ := hs
  refine call_body (rs := #[.tmp 2]) Try.func160 rfl Try.ntmps160 rfl rfl (by simp) ?_
  simp [go_sem, advV, advC]
  refine Br.forkD (fun h => ?_) (fun h => ?_)
  · simp [go_sem]
    exact KI (hk _ (by simp [go_sem])) (by unfold gone; rw [if_pos h])
  · simp [go_sem]
    exact KI (hk _ (by simp [go_sem])) (by unfold gone; rw [if_neg h])

def sums (a : Adv) : Int × Int := fsum (bytesL a 0)
def ck (a : Adv) : Int := (sums a).2 * 256 + (sums a).1
def rank (a : Adv) : Int := (a.seq * 2 + gone a) * 65536 + ck a
def newerZ (a b : Adv) : Int := cmpI (rank a) (rank b)

theorem bytesL_in (a : Adv) (age : Int) : ∀ x ∈ bytesL a age, 0 ≤ x ∧ x < 256 := by
  intro x hx
  unfold bytesL at hx
  rcases List.mem_append.1 hx with h | h
  · simp [headBytes] at h; omega
  · obtain ⟨y, _, h⟩ := List.mem_flatMap.1 h
    simp [lkBytes] at h; omega
theorem bytesL_len (a : Adv) (age : Int) : (bytesL a age).length = 8 + 3 * a.links.length := by
  unfold bytesL
  rw [List.length_append, flat_len]; simp [headBytes]

theorem wrap_i64 (n : Int) (h0 : 0 ≤ n) (h1 : n < 2 ^ 62) : IntKind.i64.wrap n = n := wrap_small (by omega) (by omega)
theorem join8 (y x : Int) (hy0 : 0 ≤ y) (hy : y < 255) (hx0 : 0 ≤ x) (hx : x < 255) : Go.bits .or .i64 (IntKind.i64.wrap (y * 256)) x = y * 256 + x := by
  rw [wrap_small (by omega) (by omega)]
  exact bits_join .i64 62 (by decide) wrap_i64 8 _ _ (by omega) (by omega) (by omega) hx0 (by omega) (by omega)

theorem newer_or {a b : Adv} : orL [cmpI a.seq b.seq, cmpI (gone a) (gone b), cmpI (ck a) (ck b)] = newerZ a b := by
  have h1 := fsum_in (bytesL a 0)
  have h2 := fsum_in (bytesL b 0)
  unfold In255 at h1 h2
  have g1 : gone a = 0 ∨ gone a = 1 := by unfold gone; split <;> simp
  have g2 : gone b = 0 ∨ gone b = 1 := by unfold gone; split <;> simp
  have k1 : 0 ≤ ck a ∧ ck a < 65536 := by unfold ck sums; omega
  have k2 : 0 ≤ ck b ∧ ck b < 65536 := by unfold ck sums; omega
  unfold newerZ rank
  generalize ck a = ca at *
  generalize ck b = cb at *
  generalize gone a = ga at *
  generalize gone b = gb at *
  generalize a.seq = sa at *
  generalize b.seq = sb at *
  have o : ∀ x y z : Int, orL [x, y, z] = if x ≠ 0 then x else if y ≠ 0 then y else z := by
    intro x y z
    unfold orL
    by_cases hx : x = 0 <;> by_cases hy : y = 0 <;> by_cases hz : z = 0 <;> simp [hx, hy, hz]
  rw [o]
  have c1 := cmpI_cases sa sb
  have c2 := cmpI_cases ga gb
  have c3 := cmpI_cases ca cb
  have c4 := cmpI_cases ((sa * 2 + ga) * 65536 + ca) ((sb * 2 + gb) * 65536 + cb)
  split
  · omega
  · split <;> omega

theorem sl_ints3 (H : Heap) {x y z : Int} {b : Nat} (h : b = H.length) : Sl RInt 1 (newBlk H [.int .i64 x, .int .i64 y, .int .i64 z]) (.slice (some ⟨b, 0, none⟩) 3 3) [x, y, z] := by
  refine ⟨_, _, rfl, Nat.le_refl _, fun h => (by cases h), fun ad ha => ?_⟩
  cases ha
  refine ⟨rfl, by simp [newBlk_length, h], okShare_new h, fun i v hv => ⟨_, ?_, rfl⟩⟩
  rw [rdBlk_new _ _ _ _ _ h]
  match i with
  | 0 => simp at hv; subst hv; rfl
  | 1 => simp at hv; subst hv; rfl
  | 2 => simp at hv; subst hv; rfl
  | n + 3 => simp at hv

/-- 'newer'. -/
theorem newer_spec {a b : Adv} {s t : Value} (hs : Sl RLk 2 H s a.links) (ht : Sl RLk 2 H t b.links) (hl : a.links.length < 1000000) (hl2 : b.links.length < 1000000) (hk : ∀ H', Ext H H' → K (.int .i64 (newerZ a b)) H') : Wcall Try.prog 135 #[advV a s, advV b t] H K := by
  obtain ⟨as_, cs, rfl⟩ := hs.shape
  obtain ⟨at_, ct, rfl⟩ := ht.shape
  refine call_body (rs := #[.tmp 4]) Try.func135 rfl Try.ntmps135 rfl rfl (by simp) ?_
  simp [go_sem, advV, advC]
  refine bytes_spec (a := a) (hs.ext RLk.mono (by simp [go_sem])) hl fun H1 s1 e1 g1 => ?_
  have ha0 : rdBlk H1 H.length 0 4 = some [.int .i64 a.id, .int .i64 a.seq, .int .i64 a.age, .slice as_ a.links.length cs] := e1.rd (by simp [go_sem])
  have hb0 : rdBlk H1 (H.length + 1) 0 4 = some [.int .i64 b.id, .int .i64 b.seq, .int .i64 b.age, .slice at_ b.links.length ct] := e1.rd (by simp [go_sem])
  have e01 : Ext H H1 := by refine Ext.trans ?_ e1; simp [go_sem]
  simp [go_sem]
  refine sum_spec (g1.sl RBy.monoL) (by rw [bytesL_len]; omega) (bytesL_in a 0) ?_
  simp [go_sem, hb0]
  refine bytes_spec (a := b) (ht.ext RLk.mono e01) hl2 fun H2 s2 e2 g2 => ?_
  have ha2 := e2.rd ha0
  have hb2 := e2.rd hb0
  have ha21 : rdBlk H2 H.length 1 1 = some [.int .i64 a.seq] := by simpa using rdBlk_sub ha2 (i := 1) (k := 1) (by omega)
  have hb21 : rdBlk H2 (H.length + 1) 1 1 = some [.int .i64 b.seq] := by simpa using rdBlk_sub hb2 (i := 1) (k := 1) (by omega)
  have e02 := e01.trans e2
  simp [go_sem]
  refine sum_spec (g2.sl RBy.monoL) (by rw [bytesL_len]; omega) (bytesL_in b 0) ?_
  have i1 := fsum_in (bytesL a 0)
  have i2 := fsum_in (bytesL b 0)
  unfold In255 at i1 i2
  have j1 := join8 _ _ i1.2.2.1 i1.2.2.2 i1.1 i1.2.1
  have j2 := join8 _ _ i2.2.2.1 i2.2.2.2 i2.1 i2.2.1
  simp [go_sem]
  have l1 : H.length < H2.length := rdBlk_lt ha2
  have l2 : H.length + 1 < H2.length := rdBlk_lt hb2
  refine Wc.drawnS (Old H2.length) mixed (by kernel_rfl) ?_
  simp [go_sem, ha21, hb21, l1, l2]
  refine compare_spec ?_
  simp [go_sem, ha2, l1, l2]
  refine gone_spec (a := a) ⟨_, _, _, rfl⟩ fun H3 e3 => ?_
  have hb3 := e3.rd hb2
  simp [go_sem, hb3, keepS_ext e3, l1, l2]
  refine gone_spec (a := b) ⟨_, _, _, rfl⟩ fun H4 e4 => ?_
  simp [go_sem, keepS_ext e4]
  refine compare_spec ?_
  simp [go_sem, j1, j2]
  refine compare_spec ?_
  simp [go_sem]
  refine orL_spec (sl_ints3 H4 rfl) (by simp) ?_
  simp [go_sem]
  exact KI (hk _ (((e02.trans e3).trans e4).new)) (newer_or (a := a) (b := b)).symm
end Go.Proofs.Ytlljiccilldnaaa.Ad
