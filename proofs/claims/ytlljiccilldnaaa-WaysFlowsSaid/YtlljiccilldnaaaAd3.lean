/- The bytes of an advertisement, and their sum. -/
import Derived.Test.YtlljiccilldnaaaAd2
import Derived.Laws.BitsLemmas
set_option linter.unusedVariables false
set_option linter.unusedSimpArgs false
set_option maxRecDepth 10000
namespace Go.Proofs.Ytlljiccilldnaaa.Ad
open Go Go.Am
open Go.Proofs.Ytlljiccilldnaaa.Fx
open Go.Proofs.Ytlljiccilldnaaa.Ba (wrap_small wrap_succ sameInts_spec)
variable {H : Heap} {K : Value → Heap → Prop}

def RBy (H : Heap) (x : Int) (cells : List Value) : Prop := cells = [.int .u8 x]
theorem RBy.monoL : MonoL RBy := fun _ _ _ _ _ h => h
theorem RBy.mono : Mono RBy := RBy.monoL.mono

theorem rby_map {H : Heap} {l : List Int} {i : Nat} {y : Int} (h : l[i]? = some y) : RBy H y (((l.map (Value.int .u8)).drop (i * 1)).take 1) := by
  obtain ⟨hi, rfl⟩ := List.getElem?_eq_some_iff.1 h
  unfold RBy
  rw [Nat.mul_one, List.drop_eq_getElem_cons (by simpa using hi)]
  simp

theorem wrap_u8 (x : Int) : IntKind.u8.wrap x = x % 256 := by simp [IntKind.wrap, IntKind.signed, IntKind.bits]
theorem fdiv_pos (x : Int) (n : Nat) : x.fdiv (n : Int) = x / n := Int.fdiv_eq_ediv_of_nonneg _ (Int.natCast_nonneg n)

def lkBytes (x : Int × Int) : List Int := [x.1 % 256, x.2 / 256 % 256, x.2 % 256]
def headBytes (a : Adv) (age : Int) : List Int := [a.id % 256, a.seq / 16777216 % 256, a.seq / 65536 % 256, a.seq / 256 % 256, a.seq % 256, age / 256 % 256, age % 256, (a.links.length : Int) % 256]
def bytesL (a : Adv) (age : Int) : List Int := headBytes a age ++ a.links.flatMap lkBytes

theorem fdiv_24 (x : Int) : x.fdiv 16777216 = x / 16777216 := Int.fdiv_eq_ediv_of_nonneg _ (by omega)
theorem fdiv_16 (x : Int) : x.fdiv 65536 = x / 65536 := Int.fdiv_eq_ediv_of_nonneg _ (by omega)
theorem fdiv_8 (x : Int) : x.fdiv 256 = x / 256 := Int.fdiv_eq_ediv_of_nonneg _ (by omega)

theorem flat_succ {ls : List (Int × Int)} {i : Nat} (h : i < ls.length) : (ls.take (i + 1)).flatMap lkBytes = (ls.take i).flatMap lkBytes ++ lkBytes ls[i] := by
  rw [List.take_succ_eq_append_getElem h, List.flatMap_append]; simp

theorem flat_len : ∀ (ls : List (Int × Int)), (ls.flatMap lkBytes).length = 3 * ls.length
  | [] => rfl
  | x :: ls => by rw [List.flatMap_cons, List.length_append, flat_len ls]; simp [lkBytes]; omega

/-- 'bytes'. -/
theorem bytes_spec {a : Adv} {age : Int} {s : Value} (hs : Sl RLk 2 H s a.links) (hl : a.links.length < 1000000) (hk : ∀ H' s', Ext H H' → GSl RBy 1 H.length H' s' (bytesL a age) → K s' H') : Wcall Try.prog 138 #[advV a s, .int .i64 age] H K := by
  obtain ⟨al, c, rfl⟩ := hs.shape
  refine call_body (rs := #[.tmp 4]) Try.func138 rfl Try.ntmps138 rfl rfl (by simp) ?_
  simp [go_sem, advV, advC, wrap_u8, fdiv_24, fdiv_16, fdiv_8]
  have g0 : GSl RBy 1 H.length (newBlk (newBlk H [.int .i64 a.id, .int .i64 a.seq, .int .i64 a.age, .slice al a.links.length c]) ((headBytes a age).map (Value.int .u8))) (.slice (some ⟨H.length + 1, 0, none⟩) 8 8) (headBytes a age ++ (a.links.take 0).flatMap lkBytes) := by
    refine ⟨(headBytes a age).map (Value.int .u8), by simp [headBytes], fun i x hx => ?_, .inr ⟨H.length + 1, ⟨(headBytes a age).map (Value.int .u8), 0, true, .live⟩, by omega, by simp [headBytes], by simp [headBytes], by simp [newBlk], rfl, rfl, .inl rfl⟩⟩
    exact rby_map (by simpa using hx)
  refine Wc.loopw 58 (fun i : Nat × Heap × Value => [(5, i.2.2), (37, .slice al a.links.length c), (38, .int .i64 a.links.length), (39, .int .i64 i.1)]) (fun i => i.2.1)
    (fun i => i.1 ≤ a.links.length ∧ Ext H i.2.1 ∧ GSl RBy 1 H.length i.2.1 i.2.2 (headBytes a age ++ (a.links.take i.1).flatMap lkBytes)) (fun i => a.links.length - i.1) (0, _, _)
    ⟨Nat.zero_le _, by simp [go_sem], g0⟩ (by simp [go_sem]) rfl (by simp [go_sem]) ?_
  rintro ⟨i, H1, s1⟩ ⟨hi, he, hg⟩
  simp only at hi he hg
  have hs1 := hs.ext RLk.mono he
  simp [go_sem]
  refine Br.forkD (fun h => ?_) (fun h => ?_)
  · obtain ⟨b, off, cells, rfl, hb, _, hr, hc⟩ := hs1.get h
    unfold RLk at hc
    have hsucc := flat_succ h
    obtain ⟨x, hx⟩ : ∃ x, a.links[i] = x := ⟨_, rfl⟩
    rw [hx] at hc hsucc
    subst hc
    simp [go_sem, hr, h, wrap_u8, fdiv_8]
    refine op2_append (ys := lkBytes x) (l := (lkBytes x).map (Value.int .u8)) ((hg.ext RBy.monoL (H' := newBlk (newBlk H1 [.int .i64 x.1, .int .i64 x.2]) [.int .u8 (x.1 % 256), .int .u8 (x.2 / 256 % 256), .int .u8 (x.2 % 256)]) (by simp [go_sem]))) RBy.monoL (by have := he.len; simp [newBlk_length]; omega)
      u144 z5 i5 s5 rfl (by omega) (by rw [b5]; omega) (news_slice u144 rfl (by simp) (by simp [go_sem, lkBytes])) (by simp [lkBytes]) (by simp [lkBytes]) ?_ ?_ ?_
    · intro j y hy
      exact rby_map hy
    · have := flat_len (a.links.take i)
      rw [List.length_take] at this
      simp only [List.length_append, this, headBytes, lkBytes, List.length_cons, List.length_nil]
      omega
    intro s' H' hg' _ _ hext _ _
    simp [go_sem]
    refine loopK_next (i + 1, H', s') ⟨by simp only; omega, hext H (by omega) (by simp [go_sem, he]), ?_⟩ (by simp only; omega) rfl (by simp [go_sem]) (by simp [go_sem, wrap_succ (i := i) (by omega)])
    rw [hsucc, ← List.append_assoc]
    exact hg'
  · simp [go_sem]
    have : i = a.links.length := by omega
    subst this
    rw [List.take_length] at hg
    exact hk _ _ he hg

def fStep (p : Int × Int) (c : Int) : Int × Int := ((p.1 + c) % 255, (p.2 + (p.1 + c) % 255) % 255)
def fsum (l : List Int) : Int × Int := l.foldl fStep (0, 0)
theorem fsum_succ {l : List Int} {i : Nat} (h : i < l.length) : fsum (l.take (i + 1)) = fStep (fsum (l.take i)) l[i] := by
  unfold fsum
  rw [List.take_succ_eq_append_getElem h, List.foldl_append]; rfl
def In255 (p : Int × Int) : Prop := 0 ≤ p.1 ∧ p.1 < 255 ∧ 0 ≤ p.2 ∧ p.2 < 255
theorem fsum_in (l : List Int) : In255 (fsum l) := by
  have : ∀ (l : List Int) (p : Int × Int), In255 p → In255 (l.foldl fStep p) := by
    intro l
    induction l with
    | nil => intro p h; exact h
    | cons x l ih => intro p h; exact ih _ (by unfold In255 fStep; simp only; omega)
  exact this l _ (by unfold In255; simp)

/-- 'sum'. -/
theorem sum_spec {s : Value} {l : List Int} (hs : Sl RBy 1 H s l) (hl : l.length < 1000000000) (hb : ∀ x ∈ l, 0 ≤ x ∧ x < 256) (hk : K (.tuple #[.int .i64 (fsum l).1, .int .i64 (fsum l).2]) H) : Wcall Try.prog 137 #[s] H K := by
  obtain ⟨a, c, rfl⟩ := hs.shape
  refine call_body (rs := #[.tmp 2, .tmp 3]) Try.func137 rfl Try.ntmps137 rfl rfl (by simp) ?_
  simp [go_sem]
  refine Wc.loopw 26 (fun i : Nat => [(4, .int .i64 (fsum (l.take i)).1), (5, .int .i64 (fsum (l.take i)).2), (8, .slice a l.length c), (9, .int .i64 l.length), (10, .int .i64 i)]) (fun _ => H) (fun i => i ≤ l.length) (fun i => l.length - i) 0
    (Nat.zero_le _) (by simp [go_sem]) rfl (by simp [go_sem, fsum]) ?_
  rintro i hi
  simp [go_sem]
  refine Br.forkD (fun h => ?_) (fun h => ?_)
  · obtain ⟨b, off, cells, rfl, _, _, hr, hc⟩ := hs.get h
    unfold RBy at hc
    subst hc
    simp at hr
    have hsucc := fsum_succ h
    have hx := hb _ (List.getElem_mem h)
    have hin := fsum_in (l.take i)
    unfold In255 at hin
    have e0 : IntKind.i64.wrap l[i] = l[i] := wrap_small (by omega) (by omega)
    have e1 : IntKind.i64.wrap ((fsum (l.take i)).1 + l[i]) = (fsum (l.take i)).1 + l[i] := wrap_small (by omega) (by omega)
    have t1 : ((fsum (l.take i)).1 + l[i]).tmod 255 = ((fsum (l.take i)).1 + l[i]) % 255 := Int.tmod_eq_emod_of_nonneg (by omega)
    have e2 : IntKind.i64.wrap ((fsum (l.take i)).2 + ((fsum (l.take i)).1 + l[i]) % 255) = (fsum (l.take i)).2 + ((fsum (l.take i)).1 + l[i]) % 255 := wrap_small (by omega) (by omega)
    have t2 : ((fsum (l.take i)).2 + ((fsum (l.take i)).1 + l[i]) % 255).tmod 255 = ((fsum (l.take i)).2 + ((fsum (l.take i)).1 + l[i]) % 255) % 255 := Int.tmod_eq_emod_of_nonneg (by omega)
    simp [go_sem, hr, h, e0, e1, t1, e2, t2]
    refine loopK_next (i + 1) h (by omega) rfl (by simp [go_sem]) (by simp [go_sem, wrap_succ (i := i) (by omega), hsucc, fStep])
  · simp [go_sem]
    have : i = l.length := by omega
    subst this
    rw [List.take_length]
    exact hk
end Go.Proofs.Ytlljiccilldnaaa.Ad
