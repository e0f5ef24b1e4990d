/- A message of one advertisement: its text, and how it is read. -/
import Derived.Test.YtlljiccilldnaaaFl9
import Derived.Test.YtlljiccilldnaaaFl8
set_option linter.unusedVariables false
set_option linter.unusedSimpArgs false
set_option maxRecDepth 10000
set_option maxHeartbeats 1000000
namespace Go.Proofs.Ytlljiccilldnaaa.Fl
open Go Go.Am
open Go.Proofs.Ytlljiccilldnaaa.Fx Go.Proofs.Ytlljiccilldnaaa.Ad
open Go.Proofs.Ytlljiccilldnaaa.Ba (wrap_small wrap_succ sameInts_spec)
variable {H : Heap} {K : Value → Heap → Prop}

/-- 'AdvText'. -/
theorem advText_spec {a : Adv} {s : Value} (hs : Sl RLk 2 H s a.links) (hf : fault a = 0) (hk : ∀ H', Ext H H' → K (.string (strOf (encL a))) H') : Wcall Try.prog 42 #[advV a s] H K := by
  have nb := fault_zero hf
  unfold advBad at nb
  have hfl := fault_len hf
  obtain ⟨al, c, rfl⟩ := hs.shape
  refine call_body (rs := #[.tmp 2]) Try.func42 rfl Try.ntmps42 rfl rfl (by simp) ?_
  simp [go_sem, advV, advC]
  refine advSum_spec (a := a) (hs.ext RLk.mono (by simp [go_sem])) hf fun H1 e1 => ?_
  have e01 : Ext H H1 := Ext.trans (by simp [go_sem]) e1
  have r1 : rdBlk H1 H.length 0 4 = some [.int .i64 a.id, .int .i64 a.seq, .int .i64 a.age, .slice al a.links.length c] := e1.rd (by simp [go_sem])
  have r12 : rdBlk H1 H.length 2 1 = some [.int .i64 a.age] := by simpa using rdBlk_sub r1 (i := 2) (k := 1) (by omega)
  have l1 := rdBlk_lt r1
  have hin := fsum_in (bytesL a 0)
  change In255 (sums a) at hin
  unfold In255 at hin
  simp [go_sem, r1, r12, l1]
  refine advBytes_spec (a := a) (age := a.age) (hs.ext RLk.mono e01) hf (by omega) fun H2 e2 => ?_
  have hb := bytesL_len a a.age
  simp [go_sem]
  refine digits_spec' 1 rfl (by omega) (by omega) (by omega) fun H3 e3 => ?_
  have d1 : digT (sums a).1 1 = [(sums a).1] := by rw [digT1]; congr 1; omega
  have d2 : digT (sums a).2 1 = [(sums a).2] := by rw [digT1]; congr 1; omega
  have z1 : (strOf (bytesL a a.age)).size + (strOf [(sums a).1]).size ≤ 9223372036854775807 := by simp only [strOf_size]; rw [hb]; simp; omega
  rw [d1]
  simp [go_sem, z1, strOf_append]
  refine digits_spec' 1 rfl (by omega) (by omega) (by omega) fun H4 e4 => ?_
  have z2 : (strOf (bytesL a a.age ++ [(sums a).1])).size + (strOf [(sums a).2]).size ≤ 9223372036854775807 := by simp only [strOf_size, List.length_append]; rw [hb]; simp; omega
  rw [d2]
  simp [go_sem, z2, strOf_append]
  exact hk _ (((e01.trans e2).trans e3).trans e4)

theorem strOf_extract {L : List Int} {i j : Nat} (hj : j ≤ L.length) : (strOf L).extract i j = strOf ((L.take j).drop i) := by
  apply ba_ext
  rw [strOf_data, ByteArray.data_extract, Array.toList_extract, strOf_data]
  simp [u8s, List.extract_eq_drop_take', List.map_take, List.map_drop]

theorem str_slice {P : Program} {s : ByteArray} {t : TypeId} {i j : Int} (ht : P.underlying t = some .string) (h0 : 0 ≤ i) (hij : i ≤ j) (hj : j ≤ s.size) : aSlice P H t (.string s) (some (.int .i64 i)) (some (.int .i64 j)) none = some (.string (s.extract i.toNat j.toNat)) := by
  have : (0 : Int) ≤ j := by omega
  have h3 : i ≤ max j 0 := by omega
  simp [aSlice, ht, aBound, h0, hj, this, h3]
theorem str_from {P : Program} {s : ByteArray} {t : TypeId} {i : Int} (ht : P.underlying t = some .string) (h0 : 0 ≤ i) (hj : i ≤ s.size) : aSlice P H t (.string s) (some (.int .i64 i)) none none = some (.string (s.extract i.toNat s.size)) := by
  simp [aSlice, ht, aBound, h0, hj]

@[go_sem] theorem keepS_false {H H' : Heap} : KeepS (fun _ => False) H H' ↔ True := by
  simp only [iff_true]; intro b h; exact h.elim
def msgL (a : Adv) : List Int := 65 :: ((encL a).length : Int) :: encL a

/-- 'read' of a message of one advertisement. -/
theorem readOne_spec {a : Adv} (hf : fault a = 0) (hk : ∀ H' s', Ext H H' → (∀ S : Nat → Bool, (∀ q, S q = true → q < H.length) → Sl RAdv 4 (hide S H') s' [a]) → K (.tuple #[s', .slice none 0 0, .bool true]) H') : Wcall Try.prog 82 #[.string (strOf (msgL a))] H K := by
  have hfl := fault_len hf
  have hL := encL_len a
  have hin : ∀ x ∈ msgL a, 0 ≤ x ∧ x < 256 := by
    intro x hx
    unfold msgL at hx
    rcases List.mem_cons.1 hx with rfl | hx
    · omega
    rcases List.mem_cons.1 hx with rfl | hx
    · omega
    exact encL_in a x hx
  have hsz : (strOf (msgL a)).size = 2 + (encL a).length := by rw [strOf_size]; simp [msgL]; omega
  have g0 : ∀ h' : 0 < (strOf (msgL a)).size, (((strOf (msgL a))[0]'h').toNat : Int) = 65 := fun h' => bt hin (by simp [msgL]) h'
  have g1 : ∀ h' : 1 < (strOf (msgL a)).size, (((strOf (msgL a))[1]'h').toNat : Int) = (encL a).length := fun h' => bt hin (by simp [msgL]) h'
  have ex1 : (strOf (msgL a)).extract 2 (2 + (encL a).length) = strOf (encL a) := by
    rw [strOf_extract (by simp [msgL]; omega)]
    congr 1
    rw [List.take_of_length_le (by simp [msgL]; omega)]; rfl
  have ex2 : ((strOf (msgL a)).extract (2 + (encL a).length) (2 + (encL a).length)).size = 0 := by simp
  generalize hm : strOf (msgL a) = s at *
  refine call_body (rs := #[.tmp 2, .tmp 3, .tmp 4]) Try.func82 rfl Try.ntmps82 rfl rfl (by simp) ?_
  simp [go_sem]
  refine Wc.loopw 93 (fun i : Nat × Heap × ByteArray × Value => [(0, .string i.2.2.1), (5, i.2.2.2), (6, .slice none 0 0)]) (fun i => i.2.1)
    (fun i => (i.1 = 0 ∧ i.2.1 = H ∧ i.2.2.1 = s ∧ i.2.2.2 = .slice none 0 0) ∨ (i.1 = 1 ∧ Ext H i.2.1 ∧ i.2.2.1.size = 0 ∧ ∀ S : Nat → Bool, (∀ q, S q = true → q < H.length) → Sl RAdv 4 (hide S i.2.1) i.2.2.2 [a])) (fun i => 1 - i.1) (0, _, s, _)
    (.inl ⟨rfl, rfl, rfl, rfl⟩) (by simp [go_sem]) rfl (by simp [go_sem]) ?_
  rintro ⟨i, H1, s1, s5⟩ (⟨rfl, rfl, rfl, rfl⟩ | ⟨rfl, he, hs0, hsl⟩)
  · simp only at *
    have hne : ¬ s1.size = 0 := by omega
    have h0 : 0 < s1.size := by omega
    have h1 : 1 < s1.size := by omega
    have c0 := g0 h0
    have c1 := g1 h1
    have w1 : IntKind.i64.wrap ((encL a).length : Int) = (encL a).length := wrap_small (by omega) (by omega)
    have w2 : IntKind.i64.wrap (2 + ((encL a).length : Int)) = 2 + (encL a).length := wrap_small (by omega) (by omega)
    have cs : (s1.size : Int) = 2 + (encL a).length := by omega
    have c2 : (2 : Int) ≤ 2 + (encL a).length := by omega
    have q1 := str_slice (P := Try.prog) (H := H1) (s := s1) (i := 2) (j := 2 + (encL a).length) u9 (by omega) (by omega) (by omega)
    rw [show (2 + ((encL a).length : Int)).toNat = 2 + (encL a).length by omega, show (2 : Int).toNat = 2 from rfl, ex1] at q1
    simp [go_sem, ba_isEmpty, hne, h0, h1, c0, c1, w1, w2, cs, c2, q1]
    refine decode_spec hf fun H2 s2 e2 hg2 => ?_
    obtain ⟨a2, hsh2⟩ := hg2.shape
    have hB : RAdv (hide (fun q => decide (q < H1.length)) (newBlk H2 (advC a s2))) a (advC a s2) := ⟨s2, rfl, gsl_hide (hg2.ext RLk.monoL (by simp [go_sem])) (fun q hq => by simpa using hq)⟩
    subst hsh2
    simp [go_sem, advV, advC]
    refine Wc.drawnG [6] [2, 3] (fun _ => False) mixed (by kernel_rfl) ?_
    simp [go_sem]
    refine op2_append (R := fun _ => RAdv (hide (fun q => decide (q < H1.length)) (newBlk H2 (advC a (.slice a2 a.links.length a.links.length))))) (sz := 4) (m := H1.length) (xs := []) (ys := [a]) (l := advC a (.slice a2 a.links.length a.links.length)) GSl.nil (fun _ _ _ _ _ h => h) (by have := e2.len; simp [newBlk_length]; omega)
      u74 z84 i84 s84 rfl (by omega) (by rw [b84]; omega) (news_one u74 rfl (by simp [go_sem, advC])) (by simp) (by simp [advC]) ?_ (by simp) ?_
    · intro k y hy
      have hk0 : k = 0 := by have := (List.getElem?_eq_some_iff.1 hy).1; simp at this; omega
      subst hk0
      simp at hy
      subst hy
      exact hB
    intro s' H' hg' hkeep hlt hext hat hle
    have e13 : Ext H1 H' := hext H1 (Nat.le_refl _) (by simp [go_sem, e2])
    have q2 := str_from (P := Try.prog) (s := s1) (H := H') (i := 2 + (encL a).length) u9 (by omega) (by omega)
    rw [show (2 + ((encL a).length : Int)).toNat = 2 + (encL a).length by omega, show s1.size = 2 + (encL a).length by omega] at q2
    have hX : Le (newBlk H2 (advC a (.slice a2 a.links.length a.links.length))) H' :=
      (Ext.le (H' := newBlk (newBlk H2 (advC a (.slice a2 a.links.length a.links.length))) (advC a (.slice a2 a.links.length a.links.length))) (by simp [go_sem])).trans ((Ext.hide (S := atB (.slice none 0 0)) (Ext.refl _) (fun q hq => by simp [atB] at hq)).trans hle)
    simp [go_sem, q2]
    have hfin : ∀ S : Nat → Bool, (∀ q, S q = true → q < H1.length) → Sl RAdv 4 (hide S H') s' [a] := fun S hS => hg'.unhide RAdv.monoL hS ((hide_mono fun q hq => by simpa using hS q hq).trans (le_hide2 hX))
    refine loopK_next (1, H', ByteArray.empty, s') (.inr ⟨rfl, e13, rfl, hfin⟩) (by simp) rfl ?_ ?_
    · simp [go_sem]
    · simp [go_sem]
  · have hne : s1.size = 0 := hs0
    simp [go_sem, ba_isEmpty, hne]
    exact hk _ _ he hsl
end Go.Proofs.Ytlljiccilldnaaa.Fl
