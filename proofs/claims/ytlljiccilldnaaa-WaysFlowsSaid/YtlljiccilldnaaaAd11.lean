/- The reference: sums, ranks, equality of advertisements. -/
import Derived.Test.YtlljiccilldnaaaAd10
set_option linter.unusedVariables false
set_option linter.unusedSimpArgs false
set_option maxRecDepth 10000
namespace Go.Proofs.Ytlljiccilldnaaa.Ad
open Go Go.Am
open Go.Proofs.Ytlljiccilldnaaa.Fx
open Go.Proofs.Ytlljiccilldnaaa.Ba (wrap_small wrap_succ sameInts_spec)
variable {H : Heap} {K : Value → Heap → Prop}

def gStep (p : Int × Int) (c : Int) : Int × Int := (p.1 + c, p.2 + (p.1 + c))
def gsum (l : List Int) : Int × Int := l.foldl gStep (0, 0)
theorem gsum_succ {l : List Int} {i : Nat} (h : i < l.length) : gsum (l.take (i + 1)) = gStep (gsum (l.take i)) l[i] := by
  unfold gsum
  rw [List.take_succ_eq_append_getElem h, List.foldl_append]; rfl
theorem fsum_gsum (l : List Int) : fsum l = ((gsum l).1 % 255, (gsum l).2 % 255) := by
  have : ∀ (l : List Int) (p q : Int × Int), p = (q.1 % 255, q.2 % 255) → l.foldl fStep p = ((l.foldl gStep q).1 % 255, (l.foldl gStep q).2 % 255) := by
    intro l
    induction l with
    | nil => intro p q h; exact h
    | cons x l ih =>
      intro p q h
      refine ih _ _ ?_
      subst h
      unfold fStep gStep
      simp only [Prod.mk.injEq]
      constructor <;> omega
  exact this l _ _ rfl
theorem gsum_bound {l : List Int} (hb : ∀ x ∈ l, 0 ≤ x ∧ x < 256) : ∀ i, i ≤ l.length → 0 ≤ (gsum (l.take i)).1 ∧ (gsum (l.take i)).1 ≤ 255 * i ∧ 0 ≤ (gsum (l.take i)).2 ∧ (gsum (l.take i)).2 ≤ 255 * (i * l.length) := by
  intro i
  induction i with
  | zero => intro _; simp [gsum]
  | succ i ih =>
    intro hi
    have h := ih (by omega)
    rw [gsum_succ (by omega)]
    have hx := hb _ (List.getElem_mem (show i < l.length by omega))
    unfold gStep
    simp only
    have e : ((i + 1 : Nat) : Int) * l.length = i * l.length + l.length := by rw [Int.natCast_add, Int.add_mul]; simp
    generalize ((i : Int) * l.length) = p at *
    refine ⟨by omega, by omega, by omega, ?_⟩
    rw [e]
    omega

/-- 'AdvSum'. -/
theorem advSum_spec {a : Adv} {s : Value} (hs : Sl RLk 2 H s a.links) (hf : fault a = 0) (hk : ∀ H', Ext H H' → K (.tuple #[.int .i64 (sums a).1, .int .i64 (sums a).2]) H') : Wcall Try.prog 80 #[advV a s] H K := by
  have hfl := fault_len hf
  have hbl := bytesL_len a 0
  have hby := bytesL_in a 0
  obtain ⟨al, c, rfl⟩ := hs.shape
  refine call_body (rs := #[.tmp 2, .tmp 3]) Try.func80 rfl Try.ntmps80 rfl rfl (by simp) ?_
  simp [go_sem, advV, advC]
  refine advBytes_spec (a := a) (age := 0) (hs.ext RLk.mono (by simp [go_sem])) hf (by omega) fun H1 e1 => ?_
  have he : Ext H H1 := Ext.trans (by simp [go_sem]) e1
  unfold sums at hk
  generalize bytesL a 0 = l at *
  simp [go_sem, strOf_size]
  refine Wc.loopw 37 (fun i : Nat => [(4, .string (strOf l)), (5, .int .i64 (gsum (l.take i)).1), (6, .int .i64 ((gsum (l.take i)).2 + (l.length - i) * (gsum (l.take i)).1)), (11, .int .i64 l.length), (12, .int .i64 i)]) (fun _ => H1) (fun i => i ≤ l.length) (fun i => l.length - i) 0
    (Nat.zero_le _) (by simp [go_sem]) rfl (by simp [go_sem, gsum]) ?_
  intro i hi
  have gb := gsum_bound hby i hi
  have p1 : (i : Int) * l.length ≤ 56 * 56 := by
    have : (i : Int) * l.length ≤ 56 * l.length := Int.mul_le_mul_of_nonneg_right (by omega) (by omega)
    omega
  simp [go_sem]
  refine Br.forkD (fun h => ?_) (fun h => ?_)
  · have hsucc := gsum_succ h
    have hx := hby _ (List.getElem_mem h)
    have u1 := u8_toNat hx.1 hx.2
    have hsz : i < (strOf l).size := by rw [strOf_size]; exact h
    have sg : (strOf l)[i] = UInt8.ofNat l[i].toNat := by
      have := strOf_get h
      rw [getElem?_pos (strOf l) i hsz] at this
      exact Option.some.inj this
    have gb2 := gsum_bound hby (i + 1) h
    have w1 : IntKind.i64.wrap l[i] = l[i] := wrap_small (by omega) (by omega)
    have w2 : IntKind.i64.wrap ((gsum (l.take i)).1 + l[i]) = (gsum (l.take i)).1 + l[i] := wrap_small (by omega) (by omega)
    have w3 : IntKind.i64.wrap ((l.length : Int) - i) = (l.length : Int) - i := wrap_small (by omega) (by omega)
    have q1 : 0 ≤ ((l.length : Int) - i) * l[i] := Int.mul_nonneg (by omega) hx.1
    have q2 : ((l.length : Int) - i) * l[i] ≤ 56 * l[i] := Int.mul_le_mul_of_nonneg_right (by omega) hx.1
    have q3 : 0 ≤ ((l.length : Int) - i) * (gsum (l.take i)).1 := Int.mul_nonneg (by omega) gb.1
    have q4 : ((l.length : Int) - i) * (gsum (l.take i)).1 ≤ 56 * (gsum (l.take i)).1 := Int.mul_le_mul_of_nonneg_right (by omega) gb.1
    have w4 : IntKind.i64.wrap (((l.length : Int) - i) * l[i]) = ((l.length : Int) - i) * l[i] := wrap_small (by omega) (by omega)
    have w5 : IntKind.i64.wrap ((gsum (l.take i)).2 + (l.length - i) * (gsum (l.take i)).1 + ((l.length : Int) - i) * l[i]) = (gsum (l.take (i + 1))).2 + ((l.length : Int) - ((i : Int) + 1)) * (gsum (l.take (i + 1))).1 := by
      rw [wrap_small (by omega) (by omega), hsucc]
      unfold gStep
      simp only
      generalize (gsum (l.take i)).1 = x
      generalize (gsum (l.take i)).2 = y
      generalize l[i] = z
      have e1 : ((l.length : Int) - ((i : Int) + 1)) = ((l.length : Int) - i) - 1 := by omega
      rw [e1]
      generalize (l.length : Int) - (i : Int) = d
      rw [Int.sub_mul, Int.mul_add]
      omega
    have hs1 : (gsum (l.take (i + 1))).1 = (gsum (l.take i)).1 + l[i] := by rw [hsucc]; rfl
    have u2 : (((strOf l)[i]).toNat : Int) = l[i] := by rw [sg]; exact u1
    simp [go_sem, h, u2, w1, w2, strOf_size, w3, w4, w5]
    exact loopK_next (i + 1) h (by omega) rfl (by simp [go_sem]) (by simp [go_sem, wrap_succ (i := i) (by omega), hs1])
  · simp [go_sem]
    have : i = l.length := by omega
    subst this
    rw [List.take_length] at *
    have t1 : (gsum l).1.tmod 255 = (gsum l).1 % 255 := Int.tmod_eq_emod_of_nonneg gb.1
    have t2 : (gsum l).2.tmod 255 = (gsum l).2 % 255 := Int.tmod_eq_emod_of_nonneg gb.2.2.1
    rw [fsum_gsum] at hk
    simp [t1, t2]
    exact hk _ he

/-- 'AdvRank'. -/
theorem advRank_spec {a : Adv} {s : Value} (hs : Sl RLk 2 H s a.links) (hf : fault a = 0) (hk : ∀ H', Ext H H' → K (.int .i64 (rank a)) H') : Wcall Try.prog 111 #[advV a s] H K := by
  have nb := fault_zero hf
  unfold advBad at nb
  obtain ⟨al, c, rfl⟩ := hs.shape
  refine call_body (rs := #[.tmp 2]) Try.func111 rfl Try.ntmps111 rfl rfl (by simp) ?_
  simp [go_sem, advV, advC]
  refine advSum_spec (a := a) (hs.ext RLk.mono (by simp [go_sem])) hf fun H1 e1 => ?_
  have he : Ext H H1 := Ext.trans (by simp [go_sem]) e1
  have r1 : rdBlk H1 H.length 1 1 = some [.int .i64 a.seq] := e1.rd (by simp [go_sem])
  have r2 : rdBlk H1 H.length 2 1 = some [.int .i64 a.age] := e1.rd (by simp [go_sem])
  have hin := fsum_in (bytesL a 0)
  change In255 (sums a) at hin
  unfold In255 at hin
  have w1 : IntKind.i64.wrap (a.seq * 2) = a.seq * 2 := wrap_small (by omega) (by omega)
  simp [go_sem, r1, r2, w1]
  refine Br.forkD (fun h => ?_) (fun h => ?_)
  · have w2 : IntKind.i64.wrap (a.seq * 2 + 1) = a.seq * 2 + 1 := wrap_small (by omega) (by omega)
    have w3 : IntKind.i64.wrap ((a.seq * 2 + 1) * 256) = (a.seq * 2 + 1) * 256 := wrap_small (by omega) (by omega)
    have w4 : IntKind.i64.wrap ((a.seq * 2 + 1) * 256 + (sums a).2) = (a.seq * 2 + 1) * 256 + (sums a).2 := wrap_small (by omega) (by omega)
    have w5 : IntKind.i64.wrap (((a.seq * 2 + 1) * 256 + (sums a).2) * 256) = ((a.seq * 2 + 1) * 256 + (sums a).2) * 256 := wrap_small (by omega) (by omega)
    have w6 : IntKind.i64.wrap (((a.seq * 2 + 1) * 256 + (sums a).2) * 256 + (sums a).1) = ((a.seq * 2 + 1) * 256 + (sums a).2) * 256 + (sums a).1 := wrap_small (by omega) (by omega)
    simp [go_sem, w2, w3, w4, w5, w6]
    exact KI (hk _ he) (by simp [rank, gone, h, ck]; omega)
  · have w3 : IntKind.i64.wrap ((a.seq * 2) * 256) = (a.seq * 2) * 256 := wrap_small (by omega) (by omega)
    have w4 : IntKind.i64.wrap ((a.seq * 2) * 256 + (sums a).2) = (a.seq * 2) * 256 + (sums a).2 := wrap_small (by omega) (by omega)
    have w5 : IntKind.i64.wrap (((a.seq * 2) * 256 + (sums a).2) * 256) = ((a.seq * 2) * 256 + (sums a).2) * 256 := wrap_small (by omega) (by omega)
    have w6 : IntKind.i64.wrap (((a.seq * 2) * 256 + (sums a).2) * 256 + (sums a).1) = ((a.seq * 2) * 256 + (sums a).2) * 256 + (sums a).1 := wrap_small (by omega) (by omega)
    simp [go_sem, w3, w4, w5, w6]
    exact KI (hk _ he) (by simp [rank, gone, h, ck]; omega)

/-- 'AdvNewer'. -/
theorem advNewer_spec {a b : Adv} {s t : Value} (hs : Sl RLk 2 H s a.links) (ht : Sl RLk 2 H t b.links) (hf : fault a = 0) (hf2 : fault b = 0) (hk : ∀ H', Ext H H' → K (.int .i64 (newerZ a b)) H') : Wcall Try.prog 87 #[advV a s, advV b t] H K := by
  obtain ⟨as_, cs, rfl⟩ := hs.shape
  obtain ⟨at_, ct, rfl⟩ := ht.shape
  refine call_body (rs := #[.tmp 4]) Try.func87 rfl Try.ntmps87 rfl rfl (by simp) ?_
  simp [go_sem, advV, advC]
  refine Wc.drawnS (Old (H.length + 1 + 1)) mixed (by kernel_rfl) ?_
  simp [go_sem]
  refine advRank_spec (a := a) (hs.ext RLk.mono (by simp [go_sem])) hf fun H1 e1 => ?_
  have he : Ext H H1 := Ext.trans (by simp [go_sem]) e1
  have r1 : rdBlk H1 (H.length + 1) 0 4 = some [.int .i64 b.id, .int .i64 b.seq, .int .i64 b.age, .slice at_ b.links.length ct] := e1.rd (by simp [go_sem])
  simp [go_sem, keepS_ext e1, r1]
  refine advRank_spec (a := b) (ht.ext RLk.mono he) hf2 fun H2 e2 => ?_
  simp [go_sem, keepS_ext e2]
  have fin := hk H2 (he.trans e2)
  unfold newerZ cmpI at fin
  refine Br.forkD (fun h => ?_) (fun h => ?_)
  · simp [go_sem]
    rw [if_neg (by omega), if_pos h] at fin; exact fin
  simp [go_sem]
  refine Br.forkD (fun h2 => ?_) (fun h2 => ?_)
  · simp [go_sem]
    rw [if_pos h2] at fin; exact fin
  simp [go_sem]
  rw [if_neg h2, if_neg h] at fin; exact fin
end Go.Proofs.Ytlljiccilldnaaa.Ad
