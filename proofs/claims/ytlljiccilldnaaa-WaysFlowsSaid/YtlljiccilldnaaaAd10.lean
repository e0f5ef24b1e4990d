/- The reference: digits, bytes, sums and ranks. -/
import Derived.Test.YtlljiccilldnaaaAd9
import Derived.Test.YtlljiccilldnaaaAm20
set_option linter.unusedVariables false
set_option linter.unusedSimpArgs false
set_option maxRecDepth 10000
namespace Go.Proofs.Ytlljiccilldnaaa.Ad
open Go Go.Am
open Go.Proofs.Ytlljiccilldnaaa.Fx
open Go.Proofs.Ytlljiccilldnaaa.Ba (wrap_small wrap_succ sameInts_spec)
variable {H : Heap} {K : Value → Heap → Prop}

def digT (n : Int) : Nat → List Int
  | 0 => []
  | k + 1 => (n / 256 ^ k % 256) :: digT n k
theorem digT_len (n : Int) : ∀ k, (digT n k).length = k
  | 0 => rfl
  | k + 1 => by simp [digT, digT_len n k]
theorem pow256 (k : Nat) : (0 : Int) < 256 ^ k := Int.pow_pos (by omega)

/-- 'Digits'. -/
theorem digits_spec {n : Int} {k : Nat} (h0 : 0 ≤ n) (h1 : n < 9223372036854775808) (hk9 : k ≤ 9) (hk : ∀ H', Ext H H' → K (.string (strOf (digT n k))) H') : Wcall Try.prog 44 #[.int .i64 n, .int .i64 k] H K := by
  refine call_body (rs := #[.tmp 4]) Try.func44 rfl Try.ntmps44 rfl rfl (by simp) ?_
  simp [go_sem]
  refine Wc.loopw 20 (fun i : Nat × Heap => [(0, .int .i64 (n / 256 ^ i.1)), (5, .string (strOf (digT n i.1))), (6, .int .i64 k), (7, .int .i64 i.1)]) (fun i => i.2) (fun i => i.1 ≤ k ∧ Ext H i.2) (fun i => k - i.1) (0, _)
    ⟨Nat.zero_le _, Ext.refl _⟩ (by simp [go_sem]) rfl (by simp [go_sem, digT, strOf_nil]; rfl) ?_
  rintro ⟨i, H1⟩ ⟨hi, he⟩
  simp only at hi he
  have hp := pow256 i
  have hd : 0 ≤ n / 256 ^ i := Int.ediv_nonneg h0 (by omega)
  have hd1 : n / 256 ^ i ≤ n := Int.ediv_le_self _ h0
  have hs := digT_len n i
  simp [go_sem]
  refine Br.forkD (fun h => ?_) (fun h => ?_)
  · have t1 : (n / 256 ^ i).tmod 256 = n / 256 ^ i % 256 := Int.tmod_eq_emod_of_nonneg hd
    have t2 : (n / 256 ^ i).tdiv 256 = n / 256 ^ i / 256 := Int.tdiv_eq_ediv_of_nonneg hd
    have w1 : IntKind.u8.wrap (n / 256 ^ i % 256) = n / 256 ^ i % 256 := by rw [wrap_u8]; omega
    have s1 : aBytesStr Try.prog (newBlk H1 [.int .u8 (n / 256 ^ i % 256)]) 144 9 (.slice (some ⟨H1.length, 0, none⟩) 1 1) = some (.string (strOf [n / 256 ^ i % 256])) := by
      simp [aBytesStr, u144, u9, u5, rdBlk_new _ _ _ _ _ rfl, bytesOf]
    have a1 : (strOf [n / 256 ^ i % 256]).size + (strOf (digT n i)).size ≤ 9223372036854775807 := by rw [strOf_size, strOf_size, hs]; simp; omega
    have c1 : strOf [n / 256 ^ i % 256] ++ strOf (digT n i) = strOf (digT n (i + 1)) := by rw [strOf_append]; rfl
    have w2 : IntKind.i64.wrap (n / 256 ^ i / 256) = n / 256 ^ (i + 1) := by
      rw [wrap_small (by omega) (by omega), Int.ediv_ediv_of_nonneg (by omega), Int.pow_succ]
    simp [go_sem, h, t1, w1, s1, a1, c1, t2, w2]
    exact loopK_next (i + 1, _) ⟨by simp only; omega, by simp [go_sem, he]⟩ (by simp only; omega) rfl (by simp [go_sem]) (by simp [go_sem, wrap_succ (i := i) (by omega)])
  · simp [go_sem]
    have : i = k := by omega
    subst this
    exact hk _ he

theorem digits_spec' {n kk : Int} (k : Nat) (e : kk = k) (h0 : 0 ≤ n) (h1 : n < 9223372036854775808) (hk9 : k ≤ 9) (hk : ∀ H', Ext H H' → K (.string (strOf (digT n k))) H') : Wcall Try.prog 44 #[.int .i64 n, .int .i64 kk] H K := by
  subst e; exact digits_spec h0 h1 hk9 hk

theorem digT1 (n : Int) : digT n 1 = [n % 256] := by simp [digT]
theorem digT2 (n : Int) : digT n 2 = [n / 256 % 256, n % 256] := by simp [digT]
theorem digT4 (n : Int) : digT n 4 = [n / 16777216 % 256, n / 65536 % 256, n / 256 % 256, n % 256] := by simp [digT]

/-- 'AdvBytes'. -/
theorem advBytes_spec {a : Adv} {age : Int} {s : Value} (hs : Sl RLk 2 H s a.links) (hf : fault a = 0) (ha : 0 ≤ age ∧ age ≤ 3600) (hk : ∀ H', Ext H H' → K (.string (strOf (bytesL a age))) H') : Wcall Try.prog 81 #[advV a s, .int .i64 age] H K := by
  have nb := fault_zero hf
  unfold advBad at nb
  have hl16 : a.links.length ≤ 16 := fault_len hf
  have hlk : ∀ x ∈ a.links, ¬ lkBad x := fun x hx hb => by
    rw [fault_link (fault_zero hf) (by omega) hx hb] at hf; cases hf
  obtain ⟨al, c, rfl⟩ := hs.shape
  refine call_body (rs := #[.tmp 4]) Try.func81 rfl Try.ntmps81 rfl rfl (by simp) ?_
  simp [go_sem, advV, advC]
  refine Wc.drawnS (Old (H.length + 1)) mixed (by kernel_rfl) ?_
  simp [go_sem]
  refine digits_spec' 1 rfl (by omega) (by omega) (by omega) fun H1 e1 => ?_
  have f1 : Ext (newBlk H [.int .i64 a.id, .int .i64 a.seq, .int .i64 a.age, .slice al a.links.length c]) H1 := e1
  have r1 : rdBlk H1 H.length 1 1 = some [.int .i64 a.seq] := f1.rd (by simp [go_sem])
  simp [go_sem, keepS_ext e1, r1]
  refine digits_spec' 4 rfl (by omega) (by omega) (by omega) fun H2 e2 => ?_
  have z1 : (strOf (digT a.id 1)).size + (strOf (digT a.seq 4)).size ≤ 9223372036854775807 := by simp only [strOf_size, digT_len]; omega
  simp [go_sem, keepS_ext e2, z1, strOf_append]
  refine digits_spec' 2 rfl (by omega) (by omega) (by omega) fun H3 e3 => ?_
  have z2 : (strOf (digT a.id 1 ++ digT a.seq 4)).size + (strOf (digT age 2)).size ≤ 9223372036854775807 := by simp only [strOf_size, digT_len, List.length_append]; omega
  have f3 := (f1.trans e2).trans e3
  have r3 : rdBlk H3 H.length 3 1 = some [.slice al a.links.length c] := f3.rd (by simp [go_sem])
  simp [go_sem, keepS_ext e3, z2, strOf_append, r3]
  refine digits_spec' 1 rfl (by omega) (by omega) (by omega) fun H4 e4 => ?_
  have z3 : (strOf (digT a.id 1 ++ (digT a.seq 4 ++ digT age 2))).size + (strOf (digT (a.links.length : Int) 1)).size ≤ 9223372036854775807 := by simp only [strOf_size, digT_len, List.length_append]; omega
  have f4 := f3.trans e4
  have r4 : rdBlk H4 H.length 3 1 = some [.slice al a.links.length c] := f4.rd (by simp [go_sem])
  have hd : digT a.id 1 ++ (digT a.seq 4 ++ (digT age 2 ++ digT (a.links.length : Int) 1)) = headBytes a age ++ (a.links.take 0).flatMap lkBytes := by
    rw [digT1, digT4, digT2, digT1]; simp [headBytes]
  simp [go_sem, keepS_ext e4, z3, strOf_append, r4]
  refine Wc.loopw 41 (fun i : Nat × Heap => [(5, .string (strOf (headBytes a age ++ (a.links.take i.1).flatMap lkBytes))), (24, .slice al a.links.length c), (25, .int .i64 a.links.length), (26, .int .i64 i.1)]) (fun i => i.2) (fun i => i.1 ≤ a.links.length ∧ Ext H i.2) (fun i => a.links.length - i.1) (0, _)
    ⟨Nat.zero_le _, Ext.trans (by simp [go_sem]) f4⟩ (by simp [go_sem]) rfl (by simp [go_sem, hd]) ?_
  rintro ⟨i, H5⟩ ⟨hi, he⟩
  simp only at hi he
  simp [go_sem]
  refine Br.forkD (fun h => ?_) (fun h => ?_)
  · obtain ⟨b, off, cells, rfl, _, _, hr, hc⟩ := (hs.ext RLk.mono he).get h
    unfold RLk at hc
    have hsucc := flat_succ h
    have hx1 := hlk _ (List.getElem_mem h)
    obtain ⟨x, hx⟩ : ∃ x, a.links[i] = x := ⟨_, rfl⟩
    rw [hx] at hc hsucc hx1
    unfold lkBad at hx1
    subst hc
    have hpl := flat_len (a.links.take i)
    rw [List.length_take] at hpl
    have hhb : (headBytes a age).length = 8 := rfl
    simp [go_sem, hr, h]
    refine Wc.drawnS (Old (H5.length + 1)) mixed (by kernel_rfl) ?_
    simp [go_sem]
    refine digits_spec' 1 rfl (by omega) (by omega) (by omega) fun H6 e6 => ?_
    have r6 : rdBlk H6 H5.length 1 1 = some [.int .i64 x.2] := e6.rd (by simp [go_sem])
    simp [go_sem, keepS_ext e6, r6]
    refine digits_spec' 2 rfl (by omega) (by omega) (by omega) fun H7 e7 => ?_
    have z5 : (strOf (digT x.1 1)).size + (strOf (digT x.2 2)).size ≤ 9223372036854775807 := by simp only [strOf_size, digT_len]; omega
    have z6 : (strOf (headBytes a age ++ (a.links.take i).flatMap lkBytes)).size + (strOf (digT x.1 1 ++ digT x.2 2)).size ≤ 9223372036854775807 := by
      simp only [strOf_size, digT_len, List.length_append, hpl, hhb]; omega
    have hlb : digT x.1 1 ++ digT x.2 2 = lkBytes x := by rw [digT1, digT2]; rfl
    rw [hlb] at z6
    simp [go_sem, keepS_ext e7, z5, strOf_append, hlb, z6]
    refine loopK_next (i + 1, _) ⟨by simp only; omega, he.trans (Ext.trans (Ext.trans (by simp [go_sem]) e6) e7)⟩ (by simp only; omega) rfl (by simp [go_sem]) (by simp [go_sem, wrap_succ (i := i) (by omega), hsucc])
  · simp [go_sem]
    have : i = a.links.length := by omega
    subst this
    rw [List.take_length]
    exact hk _ he
end Go.Proofs.Ytlljiccilldnaaa.Ad
