/- Decode of what was encoded. -/
import Derived.Test.YtlljiccilldnaaaFl7
import Derived.Test.YtlljiccilldnaaaAm21
set_option linter.unusedVariables false
set_option linter.unusedSimpArgs false
set_option maxRecDepth 10000
set_option maxHeartbeats 1000000
namespace Go.Proofs.Ytlljiccilldnaaa.Fl
open Go Go.Am
open Go.Proofs.Ytlljiccilldnaaa.Fx Go.Proofs.Ytlljiccilldnaaa.Ad
open Go.Proofs.Ytlljiccilldnaaa.Ba (wrap_small wrap_succ sameInts_spec)
variable {H : Heap} {K : Value → Heap → Prop}

theorem _root_.Go.Am.GSl.low {α : Type} {R : Heap → α → List Value → Prop} {sz m m' : Nat} {H : Heap} {s : Value} {xs : List α} (h : GSl R sz m H s xs) (hm : m' ≤ m) : GSl R sz m' H s xs := by
  obtain ⟨cells, h1, h2, h3⟩ := h.ex
  refine ⟨cells, h1, h2, ?_⟩
  rcases h3 with h3 | ⟨b, k, hb, h3⟩
  · exact .inl h3
  · exact .inr ⟨b, k, by omega, h3⟩
theorem bt {L : List Int} (hL : ∀ x ∈ L, 0 ≤ x ∧ x < 256) {i : Nat} (h : i < L.length) (h' : i < (strOf L).size) : (((strOf L)[i]'h').toNat : Int) = L[i] := by
  have := strOf_get h
  rw [getElem?_pos (strOf L) i h'] at this
  rw [Option.some.inj this]
  exact u8_toNat (hL _ (List.getElem_mem h)).1 (hL _ (List.getElem_mem h)).2

theorem join_any (x y : Int) (i : Nat) (hx0 : 0 ≤ x) (hx : x % 2 ^ i = 0) (hx1 : x < 2 ^ 62) (hy0 : 0 ≤ y) (hy : y < 2 ^ i) (hy1 : y < 2 ^ 62) : Go.bits .or .i64 x y = x + y :=
  bits_join .i64 62 (by decide) wrap_i64 i x y hx0 hx hx1 hy0 hy hy1

theorem encL_get {a : Adv} (hf : fault a = 0) : (encL a).length = 10 + 3 * a.links.length ∧ ∃ R, encL a = [a.id, a.seq / 16777216, a.seq / 65536 % 256, a.seq / 256 % 256, a.seq % 256, a.age / 256, a.age % 256, (a.links.length : Int)] ++ R := by
  have nb := fault_zero hf
  unfold advBad at nb
  have hl := fault_len hf
  refine ⟨encL_len a, a.links.flatMap lkBytes ++ [(sums a).1, (sums a).2], ?_⟩
  unfold encL bytesL headBytes
  rw [show a.id % 256 = a.id by omega, show a.seq / 16777216 % 256 = a.seq / 16777216 by omega, show a.age / 256 % 256 = a.age / 256 by omega, show (a.links.length : Int) % 256 = a.links.length by omega]
  simp

theorem flat_get : ∀ (ls : List (Int × Int)) (i : Nat) (h : i < ls.length), (ls.flatMap lkBytes)[3 * i]? = some (ls[i].1 % 256) ∧ (ls.flatMap lkBytes)[3 * i + 1]? = some (ls[i].2 / 256 % 256) ∧ (ls.flatMap lkBytes)[3 * i + 2]? = some (ls[i].2 % 256)
  | [], i, h => by simp at h
  | x :: ls, 0, h => by simp [lkBytes]
  | x :: ls, i + 1, h => by
    have := flat_get ls i (by simpa using h)
    rw [List.flatMap_cons]
    have e : (lkBytes x).length = 3 := rfl
    refine ⟨?_, ?_, ?_⟩
    · rw [List.getElem?_append_right (by omega), e, show 3 * (i + 1) - 3 = 3 * i by omega]; exact this.1
    · rw [List.getElem?_append_right (by omega), e, show 3 * (i + 1) + 1 - 3 = 3 * i + 1 by omega]; exact this.2.1
    · rw [List.getElem?_append_right (by omega), e, show 3 * (i + 1) + 2 - 3 = 3 * i + 2 by omega]; exact this.2.2

theorem encL_link {a : Adv} {i : Nat} (h : i < a.links.length) : (encL a)[8 + 3 * i]? = some (a.links[i].1 % 256) ∧ (encL a)[8 + 3 * i + 1]? = some (a.links[i].2 / 256 % 256) ∧ (encL a)[8 + 3 * i + 2]? = some (a.links[i].2 % 256) := by
  have hf := flat_get a.links i h
  have hl := flat_len a.links
  have key : ∀ j v, (a.links.flatMap lkBytes)[j]? = some v → (encL a)[8 + j]? = some v := fun j v hv => by
    have hj := (List.getElem?_eq_some_iff.1 hv).1
    unfold encL bytesL
    rw [List.append_assoc, List.getElem?_append_right (by simp [headBytes]), show (headBytes a a.age).length = 8 from rfl, show 8 + j - 8 = j by omega, List.getElem?_append_left hj]
    exact hv
  refine ⟨key _ _ hf.1, ?_, ?_⟩
  · rw [Nat.add_assoc]; exact key _ _ hf.2.1
  · rw [Nat.add_assoc]; exact key _ _ hf.2.2
theorem encL_last {a : Adv} : (encL a)[8 + 3 * a.links.length]? = some (sums a).1 ∧ (encL a)[9 + 3 * a.links.length]? = some (sums a).2 := by
  have hb := bytesL_len a a.age
  unfold encL
  refine ⟨?_, ?_⟩
  · rw [List.getElem?_append_right (by omega), hb, Nat.sub_self]; rfl
  · rw [List.getElem?_append_right (by omega), hb, show 9 + 3 * a.links.length - (8 + 3 * a.links.length) = 1 by omega]; rfl

/-- 'Decode' of an encoding. -/
theorem decode_spec {a : Adv} (hf : fault a = 0) (hk : ∀ H' s', Ext H H' → GSl RLk 2 H.length H' s' a.links → K (.tuple #[advV a s', .int .i64 0]) H') : Wcall Try.prog 108 #[.string (strOf (encL a))] H K := by
  have nb := fault_zero hf
  unfold advBad at nb
  have hfl := fault_len hf
  obtain ⟨hL, R, hR⟩ := encL_get hf
  have hin := encL_in a
  have hsz := strOf_size (encL a)
  have lks : ∀ x ∈ a.links, ¬ lkBad x := fun x hx hb => by
    rw [fault_link (fault_zero hf) (by omega) hx hb] at hf; cases hf
  have hget : ∀ i v, (encL a)[i]? = some v → ∀ h' : i < (strOf (encL a)).size, (((strOf (encL a))[i]'h').toNat : Int) = v := fun i v hv h' => by
    obtain ⟨h, e⟩ := List.getElem?_eq_some_iff.1 hv
    rw [bt hin h h', e]
  have g0 := hget 0 a.id (by rw [hR]; rfl)
  have g1 := hget 1 _ (by rw [hR]; rfl)
  have g2 := hget 2 _ (by rw [hR]; rfl)
  have g3 := hget 3 _ (by rw [hR]; rfl)
  have g4 := hget 4 _ (by rw [hR]; rfl)
  have g5 := hget 5 _ (by rw [hR]; rfl)
  have g6 := hget 6 _ (by rw [hR]; rfl)
  have g7 := hget 7 _ (by rw [hR]; rfl)
  have gl : ∀ i (h : i < a.links.length), _ := fun i h => encL_link h
  have ge := encL_last (a := a)
  have ga := hget _ _ ge.1
  have gb := hget _ _ ge.2
  rw [hL] at hsz
  generalize hs : strOf (encL a) = s at *
  refine call_cells (rs := #[.cell 2 84, .tmp 3]) Try.func108 rfl Try.ntmps108 rfl (by simp) ?_
  have c10 : ¬ (10 + 3 * (a.links.length : Int) < 10) := by omega
  have wn : IntKind.i64.wrap (a.links.length : Int) = a.links.length := wrap_small (by omega) (by omega)
  have w3 : IntKind.i64.wrap (3 * (a.links.length : Int)) = 3 * a.links.length := wrap_small (by omega) (by omega)
  have w10 : IntKind.i64.wrap (10 + 3 * (a.links.length : Int)) = 10 + 3 * a.links.length := wrap_small (by omega) (by omega)
  have h0 : 0 < s.size := by omega
  have h1 : 1 < s.size := by omega
  have h2 : 2 < s.size := by omega
  have h3 : 3 < s.size := by omega
  have h4 : 4 < s.size := by omega
  have h5 : 5 < s.size := by omega
  have h6 : 6 < s.size := by omega
  have h7 : 7 < s.size := by omega
  have cs : (s.size : Int) = 10 + 3 * a.links.length := by omega
  simp [go_sem, h7, g7, wn, w3, w10, cs, c10]
  refine Wc.drawnS (Old (H.length + 1)) mixed (by kernel_rfl) ?_
  have v0 : IntKind.i64.wrap a.id = a.id := wrap_small (by omega) (by omega)
  have v1 : IntKind.i64.wrap (a.seq / 16777216) = a.seq / 16777216 := wrap_small (by omega) (by omega)
  have v2 : IntKind.i64.wrap (a.seq / 65536 % 256) = a.seq / 65536 % 256 := wrap_small (by omega) (by omega)
  have v3 : IntKind.i64.wrap (a.seq / 256 % 256) = a.seq / 256 % 256 := wrap_small (by omega) (by omega)
  have v4 : IntKind.i64.wrap (a.seq % 256) = a.seq % 256 := wrap_small (by omega) (by omega)
  have v5 : IntKind.i64.wrap (a.age / 256) = a.age / 256 := wrap_small (by omega) (by omega)
  have v6 : IntKind.i64.wrap (a.age % 256) = a.age % 256 := wrap_small (by omega) (by omega)
  have s1 : IntKind.i64.wrap (a.seq / 16777216 * 16777216) = a.seq / 16777216 * 16777216 := wrap_small (by omega) (by omega)
  have s2 : IntKind.i64.wrap (a.seq / 65536 % 256 * 65536) = a.seq / 65536 % 256 * 65536 := wrap_small (by omega) (by omega)
  have s3 : IntKind.i64.wrap (a.seq / 256 % 256 * 256) = a.seq / 256 % 256 * 256 := wrap_small (by omega) (by omega)
  have s5 : IntKind.i64.wrap (a.age / 256 * 256) = a.age / 256 * 256 := wrap_small (by omega) (by omega)
  have j1 : Go.bits .or .i64 (a.seq / 16777216 * 16777216) (a.seq / 65536 % 256 * 65536) = a.seq / 65536 * 65536 := by
    rw [join_any _ _ 24 (by omega) (by omega) (by omega) (by omega) (by omega) (by omega)]; omega
  have j2 : Go.bits .or .i64 (a.seq / 65536 * 65536) (a.seq / 256 % 256 * 256) = a.seq / 256 * 256 := by
    rw [join_any _ _ 16 (by omega) (by omega) (by omega) (by omega) (by omega) (by omega)]; omega
  have j3 : Go.bits .or .i64 (a.seq / 256 * 256) (a.seq % 256) = a.seq := by
    rw [join_any _ _ 8 (by omega) (by omega) (by omega) (by omega) (by omega) (by omega)]; omega
  have j5 : Go.bits .or .i64 (a.age / 256 * 256) (a.age % 256) = a.age := by
    rw [join_any _ _ 8 (by omega) (by omega) (by omega) (by omega) (by omega) (by omega)]; omega
  simp [go_sem, h0, h1, h2, h3, h4, h5, h6, g0, g1, g2, g3, g4, g5, g6, v0, v1, v2, v3, v4, v5, v6, s1, s2, s3, s5, j1, j2, j3, j5]
  refine Wc.loopw 124 (fun i : Nat × Heap × Value => [(0, .string s), (2, .pointer (some ⟨H.length, 0, none⟩)), (5, .pointer (some ⟨H.length + 1, 0, none⟩)), (6, .int .i64 (8 + 3 * (i.1 : Int)))]) (fun i => i.2.1)
    (fun i => i.1 ≤ a.links.length ∧ Ext H i.2.1 ∧ i.2.1[H.length]? = some ⟨[.int .i64 0, .int .i64 0, .int .i64 0, .slice none 0 0], 0, true, .live⟩ ∧ i.2.1[H.length + 1]? = some ⟨[.int .i64 a.id, .int .i64 a.seq, .int .i64 a.age, i.2.2], 0, true, .live⟩ ∧ GSl RLk 2 (H.length + 2) i.2.1 i.2.2 (a.links.take i.1)) (fun i => a.links.length - i.1) (0, _, .slice none 0 0)
    ⟨Nat.zero_le _, by simp [go_sem], by simp [newBlk], by simp [newBlk], GSl.nil⟩ (by simp [go_sem]) rfl (by simp [go_sem]) ?_
  rintro ⟨i, H1, s8⟩ ⟨hi, he, hz, hbx, hg⟩
  simp only at hi he hz hbx hg
  have lbx := (List.getElem?_eq_some_iff.1 hbx).1
  have w2 : IntKind.i64.wrap (10 + 3 * (a.links.length : Int) - 2) = 8 + 3 * a.links.length := by rw [wrap_small (by omega) (by omega)]; omega
  simp [go_sem, cs, w2]
  refine Br.forkD (fun g => ?_) (fun g => ?_)
  · have hil : i < a.links.length := by omega
    obtain ⟨l0, l1, l2⟩ := gl i hil
    have hx := lks _ (List.getElem_mem hil)
    have htk := List.take_succ_eq_append_getElem hil
    generalize a.links[i] = x at l0 l1 l2 hx htk
    unfold lkBad at hx
    have b0 := hget _ _ l0
    have b1 := hget _ _ l1
    have b2 := hget _ _ l2
    have t0 : (8 + 3 * (i : Int)).toNat = 8 + 3 * i := by omega
    have t1 : (8 + 3 * (i : Int) + 1).toNat = 8 + 3 * i + 1 := by omega
    have t2 : (8 + 3 * (i : Int) + 2).toNat = 8 + 3 * i + 2 := by omega
    have u0 : 0 ≤ 8 + 3 * (i : Int) := by omega
    have u1 : 0 ≤ 8 + 3 * (i : Int) + 1 := by omega
    have u2 : 0 ≤ 8 + 3 * (i : Int) + 2 := by omega
    have z1 : IntKind.i64.wrap (8 + 3 * (i : Int) + 1) = 8 + 3 * i + 1 := wrap_small (by omega) (by omega)
    have z2 : IntKind.i64.wrap (8 + 3 * (i : Int) + 2) = 8 + 3 * i + 2 := wrap_small (by omega) (by omega)
    have n0 : 8 + 3 * i < s.size := by omega
    have n1 : 8 + 3 * i + 1 < s.size := by omega
    have n2 : 8 + 3 * i + 2 < s.size := by omega
    have y0 : IntKind.i64.wrap (x.1 % 256) = x.1 := by rw [wrap_small (by omega) (by omega)]; omega
    have y1 : IntKind.i64.wrap (x.2 / 256 % 256) = x.2 / 256 := by rw [wrap_small (by omega) (by omega)]; omega
    have y2 : IntKind.i64.wrap (x.2 % 256) = x.2 % 256 := wrap_small (by omega) (by omega)
    have y3 : IntKind.i64.wrap (x.2 / 256 * 256) = x.2 / 256 * 256 := wrap_small (by omega) (by omega)
    have jj : Go.bits .or .i64 (x.2 / 256 * 256) (x.2 % 256) = x.2 := by
      rw [join_any _ _ 8 (by omega) (by omega) (by omega) (by omega) (by omega) (by omega)]; omega
    have rb3 : rdBlk H1 (H.length + 1) 3 1 = some [s8] := rd_one hbx rfl
    obtain ⟨a8, hsh8⟩ := hg.shape
    simp [go_sem]
    refine Wc.drawnG [1] [19] (fun c => c = H.length + 1) mixed (by kernel_rfl) ?_
    simp [go_sem, u0, u1, u2, t0, t1, t2, z1, z2, n0, n1, n2, b0, b1, b2, y0, y1, y2, y3, jj, rb3, lbx]
    have hg1 : GSl RLk 2 (H.length + 2) (newBlk H1 [.int .i64 x.1, .int .i64 x.2]) s8 (a.links.take i) := hg.ext RLk.monoL (by simp [go_sem])
    refine op2_append (ys := [x]) (l := [.int .i64 x.1, .int .i64 x.2]) hg1 RLk.monoL (by simp [newBlk_length]; omega)
      u82 z133 i133 s133 rfl (by omega) (by rw [b133]; omega) (news_one u82 rfl (by simp [go_sem])) (by simp) (by simp) ?_ (by simp; omega) ?_
    · intro k y hy
      have hk0 : k = 0 := by have := (List.getElem?_eq_some_iff.1 hy).1; simp at this; omega
      subst hk0
      simp at hy
      subst hy
      rfl
    intro s' H' hg' hkeep hlt hext hat hle
    obtain ⟨a5, n5, rfl⟩ : ∃ a n, s' = .slice a n n := by obtain ⟨a, e⟩ := hg'.shape; exact ⟨a, _, e⟩
    have nat : ∀ q, q < H.length + 2 → atB s8 q = false := fun q hq => by
      cases hc : atB s8 q
      · rfl
      · have := (hg1.lt hc).1; omega
    have nat' : ∀ q, q < H.length + 2 → atB (.slice a5 n5 n5) q = false := fun q hq => by
      have := he.len
      rw [hat]; exact one_ne (by simp [newBlk_length]; omega)
    have hbx5 : H'[H.length + 1]? = some ⟨[.int .i64 a.id, .int .i64 a.seq, .int .i64 a.age, s8], 0, true, .live⟩ := by
      rw [hkeep _ (by simp [newBlk_length]; omega) (nat _ (by omega))]; exact Ext.at (Ext.new (Ext.refl _)) hbx
    have hz5 : H'[H.length]? = some ⟨[.int .i64 0, .int .i64 0, .int .i64 0, .slice none 0 0], 0, true, .live⟩ := by
      rw [hkeep _ (by simp [newBlk_length]; omega) (nat _ (by omega))]; exact Ext.at (Ext.new (Ext.refl _)) hz
    have w5 := wr_at hbx5 (off := 3) (vs := [.slice a5 n5 n5]) (by simp)
    simp at w5
    have l5 := (List.getElem?_eq_some_iff.1 hbx5).1
    have e15 : Ext H H' := hext H (by omega) (by simp [go_sem, he])
    have wn3 : IntKind.i64.wrap (8 + 3 * (i : Int) + 3) = 8 + 3 * ((i : Int) + 1) := by rw [wrap_small (by omega) (by omega)]; omega
    simp [go_sem, w5, l5]
    refine loopK_next (i + 1, _, .slice a5 n5 n5) ⟨by simp only; omega, ext_set e15 (by omega), by rw [List.getElem?_set_ne (by omega)]; exact hz5, List.getElem?_set_self l5, ?_⟩ (by simp only; omega) rfl (by simp [go_sem]) (by simp [go_sem, wn3])
    simp only
    rw [htk]
    refine hg'.frame (fun q k hq hk => ?_) (fun _ _ _ h => h)
    have : q ≠ H.length + 1 := fun e => by rw [e, nat' _ (by omega)] at hq; cases hq
    rw [List.getElem?_set_ne (Ne.symm this)]; exact hk
  · have : i = a.links.length := by omega
    subst this
    rw [List.take_length] at hg
    have rb4 : rdBlk H1 (H.length + 1) 0 4 = some [.int .i64 a.id, .int .i64 a.seq, .int .i64 a.age, s8] := by simpa using rd_at hbx (off := 0) (n := 4) (by simp)
    have hsl := hg.sl RLk.monoL
    obtain ⟨a8, c8, rfl⟩ := hsl.shape
    simp [go_sem, rb4, lbx]
    refine bytes_spec (a := a) hsl (by omega) fun H2 s2 e2 g2' => ?_
    simp [go_sem]
    refine sum_spec (g2'.sl RBy.monoL) (by rw [bytesL_len]; omega) (bytesL_in a 0) ?_
    have hin2 := fsum_in (bytesL a 0)
    unfold In255 at hin2
    have x1 : IntKind.i64.wrap (10 + 3 * (a.links.length : Int) - 2) = 8 + 3 * a.links.length := by rw [wrap_small (by omega) (by omega)]; omega
    have x2 : IntKind.i64.wrap (10 + 3 * (a.links.length : Int) - 1) = 9 + 3 * a.links.length := by rw [wrap_small (by omega) (by omega)]; omega
    have t0 : (8 + 3 * (a.links.length : Int)).toNat = 8 + 3 * a.links.length := by omega
    have t1 : (9 + 3 * (a.links.length : Int)).toNat = 9 + 3 * a.links.length := by omega
    have u0 : 0 ≤ 8 + 3 * (a.links.length : Int) := by omega
    have u1 : 0 ≤ 9 + 3 * (a.links.length : Int) := by omega
    have n0 : 8 + 3 * a.links.length < s.size := by omega
    have n1 : 9 + 3 * a.links.length < s.size := by omega
    have f0 := ga n0
    have f1 := gb n1
    unfold sums at f0 f1
    have y0 : IntKind.i64.wrap (fsum (bytesL a 0)).1 = (fsum (bytesL a 0)).1 := wrap_small (by omega) (by omega)
    have y1 : IntKind.i64.wrap (fsum (bytesL a 0)).2 = (fsum (bytesL a 0)).2 := wrap_small (by omega) (by omega)
    have rb42 := e2.rd rb4
    have lb2 := rdBlk_lt rb42
    simp [go_sem, cs, x1, x2, t0, t1, u0, u1, n0, n1, f0, f1, y0, y1, rb42, lb2]
    refine check_spec (a := a) (hsl.ext RLk.mono e2) fun H3 e3 => ?_
    have rb43 := e3.rd rb42
    have lb3 := rdBlk_lt rb43
    have hz3 := (e2.trans e3).at hz
    have lz3 := (List.getElem?_eq_some_iff.1 hz3).1
    have wz := wr_at hz3 (off := 0) (vs := [.int .i64 a.id, .int .i64 a.seq, .int .i64 a.age, .slice a8 a.links.length c8]) (by simp)
    have gz : (H3.set H.length ⟨[.int .i64 a.id, .int .i64 a.seq, .int .i64 a.age, .slice a8 a.links.length c8], 0, true, .live⟩)[H.length]? = some ⟨[.int .i64 a.id, .int .i64 a.seq, .int .i64 a.age, .slice a8 a.links.length c8], 0, true, .live⟩ := List.getElem?_set_self lz3
    have rz := rd_at gz (off := 0) (n := 4) (by simp)
    simp at wz rz
    simp [go_sem, hf, rb43, lb3, wz, rz, lz3]
    refine hk _ _ (ext_set ((he.trans e2).trans e3) (Nat.le_refl _)) (GSl.low (m := H.length + 2) ((hg.ext RLk.monoL (e2.trans e3)).frame (fun q k hq hk => ?_) (fun _ _ _ h => h)) (by omega))
    have := (hg.lt hq).1
    rw [List.getElem?_set_ne (by omega)]; exact hk
end Go.Proofs.Ytlljiccilldnaaa.Fl
