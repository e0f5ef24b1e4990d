-- Written by this session's own program (wip/myprint.py) out of the translation.
import Derived.Test.YthifgakeababmaaPr0
import Derived.Test.YthifgakeababmaaPrBits
namespace Go.Proofs.Ythifgakeababmaa.Pr
open Go.RowKit Go.Proofs.YthifgakeababmaaW.PrintWords Go.Proofs.YthifgakeababmaaW.PrintLast Go.Proofs.YthifgakeababmaaW.PrintMore
attribute [local go_sem] max2_int min2_int max_two min_two max_three min_three max_four min_four   -- for this text's walks alone
set_option linter.unusedVariables false
set_option linter.unusedSimpArgs false


/-! ### slices_Grow_int_int: function 131; by hand; of nil alone -/
def slices_Grow_int_int.f (l0 : List Int) (a1 : Int) : Option (List Int) := if l0 = [] ∧ 0 ≤ a1 ∧ a1 ≤ 17592186044416 then some [] else none
set_option maxHeartbeats 1000000 in
set_option maxRecDepth 100000 in
theorem slices_Grow_int_int.calls (A0 : Option Addr) (c0 : Nat) (l0 : List Int) (a1 : Int) (r : List Int) (w : World) (hr0 : Kd.C (Kd.int .i64) w A0 l0.length l0) (hc0 : l0.length ≤ c0) (h : slices_Grow_int_int.f l0 a1 = some r) (hA : A0 = none ∧ c0 = 0 := by exact ⟨rfl, rfl⟩) :
    Calls Try.prog 131 #[.slice A0 l0.length c0, .int .i64 a1] w fun e w' => ∃ v0_ : Value, e = .returned (v0_) ∧ Kd.R (Kd.int .i64) 3 w' w.heap.size (fun _ => True) v0_ r ∧ Below w.heap.size w w' := by
  unfold slices_Grow_int_int.f at h
  obtain ⟨rfl, rfl⟩ := hA
  by_cases hl : l0 = [] ∧ 0 ≤ a1 ∧ a1 ≤ 17592186044416
  · rw [if_pos hl] at h
    obtain rfl := Option.some.inj h
    obtain ⟨rfl, h1, h2⟩ := hl
    have e1 : ¬ a1 < 0 := by omega
    have e2 : wrap64 (a1 - 0) = a1 := by unfold wrap64; omega
    by_cases hp : a1 > 0
    · have hi0 := info_parts info3
      go_enter Try.func131, Try.ntmps131
      go_wp2_with (first
        | ((with_reducible refine gate_dst (N := 22) rfl ?_); refine Kd.R_append_zeros (Kd.int .i64) (w0 := w) w.heap.size rfl (.tmp 20) (.tmp 21) 49 3 3 (.int .i64 0) 8 rfl Try.underlying49 Try.underlying3 info3 rfl (by decide) (by omega) (.slice none 0 0) ([] : List Int) 0 a1 (fun _ => True) rfl rfl ?aZ ?aF ?aO h1 ?aB ?aS ?aL ?_; (case aZ => rfl); (case aF => exact fun _ _ => trivial); (case aO => exact Kd.R_nil _ _ _ _ _); (case aB => exact Below.refl _ _); (case aS => exact Nat.le_refl _); (case aL => simp only [List.length_nil]; omega); intro v7 w7 HO7 HB7 hg7 hn7; have hO7 := Aside0.mk HO7; have hB7 := Aside0.mk HB7; clear hg7 hn7; obtain ⟨g, cap, rfl, _⟩ := Kd.R_form HO7 (by simp; omega); clear HO7 HB7))
      go_ret
      have hr := Kd.R_take (m := 0) hO7.out (by omega)
      rw [List.take_zero] at hr
      exact ⟨_, rfl, hr, hB7.out⟩
    · have : a1 = 0 := by omega
      subst this
      go_enter Try.func131, Try.ntmps131
      go_wp2
      go_ret
      exact ⟨_, rfl, Kd.R_nil _ _ _ _ _, Below.refl _ _⟩
  · rw [if_neg hl] at h; cases h


/-! ### slices_Repeat_int_int: function 105; by hand; of one element, at most 100 times -/
theorem mul_small : ∀ n : Fin 101, bits_Mul.f 1 (n.1 : Int) = some (0, (n.1 : Int)) := by decide +kernel
theorem mul_one (a : Int) (h0 : 0 ≤ a) (h1 : a ≤ 100) : bits_Mul.f 1 a = some (0, a) := by
  obtain ⟨n, rfl⟩ := Int.eq_ofNat_of_zero_le h0
  exact mul_small ⟨n, by omega⟩
/-- A block that holds 'm' copies ahead of 'n'. -/
def RepSt (w0 W : World) (g cap n m : Nat) (x : Int) : Prop := ∃ cur : Array Value, W.heap[g]? = some (.cells cur 3 (0, 0)) ∧ cur.size = cap ∧ n ≤ cap ∧ cap ≤ maxLen ∧ cur.toList.take m = List.replicate m (.int .i64 x) ∧ Below w0.heap.size w0 W ∧ w0.heap.size ≤ g
theorem size3 : (Try.prog.info? 3).map (·.size) = some 1 := by
  obtain ⟨i, hi, _, hs, _⟩ := info_parts info3
  rw [hi]; simp [hs]
theorem rep_first (w0 w7 : World) (v7 : Value) (n c0 : Nat) (ad : Addr) (x : Int) (hn : 1 ≤ n) (HO : Kd.R (Kd.int .i64) 3 w7 w0.heap.size (fun _ => True) v7 (List.replicate n 0)) (hB : Below w0.heap.size w0 w7)
    (hx : w0.cell? (ad.add (Int.toNat 0)) = some (.int .i64 x)) : ∃ g cap w8, v7 = .slice (some ⟨g, 0, none⟩) n cap ∧ Sem.run Try.prog (Builtin.copy_ #[49, 49] 3 #[v7, .slice (some ad) 1 c0]) w7 = .ok (.int .i64 1) w8 ∧ RepSt w0 w8 g cap n 1 x := by
  obtain ⟨inner, hlen, hown⟩ := Kd.R_own HO
  rw [List.length_replicate] at hown
  rcases hown with ⟨_, h0⟩ | ⟨g, cap, cur, rfl, hgb, hcur, hnc, hcm, hcs, _⟩
  · exfalso; omega
  have hcs' : cur.size = cap := by rw [hcs]; exact Nat.mul_one _
  have hx7 := (hB.cell (World.block_lt_of_cell? w0 _ hx)).trans hx
  have hrun := run_copy_row (P := Try.prog) w7 49 49 3 3 g 0 n cap ad 1 c0 cur 3 [.int .i64 x] Try.underlying49 size3 hcur (Nat.min_eq_left hn).symm
    (by intro j v hj; cases j with
      | zero => (simp only [List.getElem?_cons_zero, Option.some.injEq] at hj; subst hj; exact hx7)
      | succ j => simp at hj) (by simp; omega) (by simp [Value.oneCell'])
  refine ⟨g, cap, _, rfl, hrun, _, setRow_heap w7 g cur _ 3 (0, 0) hcur, ?_, hnc, hcm, ?_, below_setRow hB hgb _, hgb⟩
  · simp; omega
  · rfl
theorem rep_step (w0 W : World) (g cap n m : Nat) (x : Int) (h : RepSt w0 W g cap n m x) (hm : 1 ≤ m) (hmn : m < n) :
    ∃ w8, Sem.run Try.prog (Builtin.copy_ #[49, 49] 3 #[.slice (some ⟨g, m, none⟩) (n - m) (cap - m), .slice (some ⟨g, 0, none⟩) m cap]) W = .ok (.int .i64 ((Nat.min m (n - m) : Nat) : Int)) w8 ∧ RepSt w0 w8 g cap n (m + Nat.min m (n - m)) x := by
  obtain ⟨cur, hcur, hsz, hnc, hcm, htk, hB, hg⟩ := h
  obtain ⟨d, hd⟩ : ∃ d, Nat.min m (n - m) = d := ⟨_, rfl⟩
  have hdm : d ≤ m := by rw [← hd]; exact Nat.min_le_left _ _
  have hdn' : d ≤ n - m := by rw [← hd]; exact Nat.min_le_right _ _
  have hdn : m + d ≤ n := by omega
  have hl : (List.replicate d (Value.int .i64 x)).length = Nat.min m (n - m) := by rw [List.length_replicate, hd]
  have hrun := run_copy_row (P := Try.prog) W 49 49 3 3 g m (n - m) (cap - m) ⟨g, 0, none⟩ m cap cur 3 (List.replicate d (.int .i64 x)) Try.underlying49 size3 hcur hl
    (by
      intro j v hj
      have hjl : j < d := by have := (List.getElem?_eq_some_iff.1 hj).1; rw [List.length_replicate] at this; exact this
      rw [add_plain, cell_of_row W g j cur 3 (0, 0) hcur]
      have hjm : j < m := Nat.lt_of_lt_of_le hjl hdm
      have e1 : (cur.toList.take m)[j]? = cur.toList[j]? := by rw [List.getElem?_take, if_pos hjm]
      rw [← Array.getElem?_toList, ← e1, htk, List.getElem?_replicate, if_pos (by omega)]
      rw [List.getElem?_replicate, if_pos hjl] at hj
      exact hj) (by rw [List.length_replicate]; omega) (by intro v hv; rw [List.eq_of_mem_replicate hv]; rfl)
  rw [List.length_replicate] at hrun
  refine ⟨_, by rw [hd]; exact hrun, _, setRow_heap W g cur _ 3 (0, 0) hcur, ?_, hnc, hcm, ?_, below_setRow hB hg _, hg⟩
  · simp only [List.size_toArray, List.length_append, List.length_take, List.length_replicate, List.length_drop, Array.length_toList]; omega
  · rw [hd, htk, List.replicate_append_replicate, List.take_append_of_le_length (by rw [List.length_replicate]; omega)]
    exact List.take_of_length_le (by rw [List.length_replicate]; omega)
theorem rep_drew {w0 W : World} {g cap n m : Nat} {x : Int} (h : RepSt w0 W g cap n m x) : RepSt w0 W.drew g cap n m x := by
  obtain ⟨cur, hcur, hsz, hnc, hcm, htk, hB, hg⟩ := h
  exact ⟨cur, hcur, hsz, hnc, hcm, htk, below_drew hB, hg⟩
theorem rep_end (w0 W : World) (g cap n : Nat) (x : Int) (h : RepSt w0 W g cap n n x) : Kd.R (Kd.int .i64) 3 W w0.heap.size (fun _ => True) (.slice (some ⟨g, 0, none⟩) n cap) (List.replicate n x) := by
  obtain ⟨cur, hcur, hsz, hnc, hcm, htk, hB, hg⟩ := h
  refine Kd.R_of_own ⟨?_, .inr ⟨g, cap, cur, by rw [List.length_replicate], hg, hcur, by rw [List.length_replicate]; exact hnc, hcm, by rw [hsz, Nat.mul_one], ?_⟩⟩ (fun _ _ => trivial)
  · rw [encs_length, Nat.mul_one]
  · rw [List.length_replicate, Nat.mul_one, htk]
    unfold encs
    rw [List.map_replicate]
def slices_Repeat_int_int.f (l0 : List Int) (a1 : Int) : Option (List Int) := if l0.length = 1 ∧ 0 ≤ a1 ∧ a1 ≤ 100 then some (List.replicate a1.toNat (rd l0 0)) else none
set_option maxHeartbeats 1000000 in
set_option maxRecDepth 100000 in
theorem slices_Repeat_int_int.calls (A0 : Option Addr) (c0 : Nat) (l0 : List Int) (a1 : Int) (r : List Int) (w : World) (hr0 : Kd.C (Kd.int .i64) w A0 l0.length l0) (hc0 : l0.length ≤ c0) (h : slices_Repeat_int_int.f l0 a1 = some r) :
    Calls Try.prog 105 #[.slice A0 l0.length c0, .int .i64 a1] w fun e w' => ∃ v0_ : Value, e = .returned (v0_) ∧ Kd.R (Kd.int .i64) 3 w' w.heap.size (fun _ => True) v0_ r ∧ Below w.heap.size w w' := by
  unfold slices_Repeat_int_int.f at h
  by_cases hl : l0.length = 1 ∧ 0 ≤ a1 ∧ a1 ≤ 100
  · rw [if_pos hl] at h
    obtain rfl := Option.some.inj h
    obtain ⟨hl, h1, h2⟩ := hl
    obtain ⟨x, rfl⟩ : ∃ x, l0 = [x] := by
      cases l0 with
      | nil => simp at hl
      | cons x l => cases l with
        | nil => exact ⟨x, rfl⟩
        | cons _ _ => simp at hl
    obtain ⟨ad, rfl, hx⟩ := (Kd.reads_of_C (d := (0 : Int)) hr0).at_ 0 (by omega) (by simp)
    have hmul := mul_one a1 h1 h2
    have e1 : ¬ a1 < 0 := by omega
    have e2 : wrap64 a1 = a1 := by unfold wrap64; omega
    have e2' : IntKind.i64.wrap a1 = a1 := (i64_w _).trans e2
    have e3 : IntKind.u64.wrap a1 = a1 := by rw [IntKind.wrap_u64]; omega
    have e4 : ¬ (9223372036854775807 < a1) := by omega
    have hrep : rd [x] 0 = x := rfl
    rw [hrep]
    by_cases hz : a1 = 0
    · subst hz
      go_enter Try.func105, Try.ntmps105
      go_wp2_with fail
      refine (bits_Mul.calls 1 0 0 0 _ hmul).mono ?_
      rintro e w1 ⟨rfl, hb⟩
      have hB1 := Aside0.mk hb.below
      clear hb
      go_wp2_with (first
        | ((with_reducible refine gate_dst (N := 30) rfl ?_); refine Kd.R_make (Kd.int .i64) (w0 := w) w.heap.size 3 rfl (N := 30) rfl 49 (.tmp 29) (.tmp 29) rfl 0 rfl rfl Try.underlying49 (.int .i64 0) 8 info3 rfl (by decide) (by omega) 0 (ok := fun _ => True) (okp := fun _ => True) ?hz (fun _ hk => hk) trivial h1 ?hl hB1.out hB1.out.size ?_; (case hz => rfl); (case hl => omega); intro v7 w7 HO7 HB7 hg7 hn7; have hO7 := Aside0.mk HO7; have hB7 := Aside0.mk HB7; clear hn7 hg7; obtain ⟨A7, c7, rfl⟩ := Kd.R_slice HO7; have hrun := run_copy_none (P := Try.prog) w7 49 49 3 3 A7 (some ad) (List.replicate (Int.toNat 0) (0 : Int)).length c7 1 c0 Try.underlying49 size3 (by simp); rw [show (List.replicate (Int.toNat 0) (0 : Int)).length = 0 from rfl] at hrun; clear HO7 HB7))
      go_loopg [8] 0 (fun kq v8 w' => v8 = .int .i64 0 ∧ w' = w7)
      case atStart => exact ⟨rfl, rfl⟩
      case round =>
        obtain ⟨rfl, rfl⟩ := hrel
        go_wp2
        go_ret
        exact ⟨_, rfl, hO7.out, hB7.out⟩
    · have hp : 1 ≤ a1.toNat := by omega
      obtain ⟨n, hn⟩ : ∃ n : Nat, a1.toNat = n := ⟨_, rfl⟩
      have hna := Aside0.mk (show a1 = (n : Int) by omega)
      rw [hn] at hp ⊢
      go_enter Try.func105, Try.ntmps105
      go_wp2_with fail
      refine (bits_Mul.calls 1 a1 0 a1 _ hmul).mono ?_
      rintro e w1 ⟨rfl, hb⟩
      have hB1 := Aside0.mk hb.below
      clear hb
      go_wp2_with (first
        | ((with_reducible refine gate_dst (N := 30) rfl ?_); refine Kd.R_make (Kd.int .i64) (w0 := w) w.heap.size 3 rfl (N := 30) rfl 49 (.tmp 29) (.tmp 29) rfl a1 rfl rfl Try.underlying49 (.int .i64 0) 8 info3 rfl (by decide) (by omega) 0 (ok := fun _ => True) (okp := fun _ => True) ?hz (fun _ hk => hk) trivial h1 ?hl hB1.out hB1.out.size ?_; (case hz => rfl); (case hl => omega); intro v7 w7 HO7 HB7 hg7 hn7; rw [hn] at HO7; have h8 := rep_first w w7 v7 n c0 ad x hp HO7 HB7 hx; clear HO7 HB7 hg7 hn7; obtain ⟨g, cap, w8, rfl, hrun, hS⟩ := h8; have hS8 := Aside0.mk hS; clear hS))
      go_loopg [8] n (fun kq v8 w' => ∃ m : Nat, v8 = .int .i64 (m : Int) ∧ Aside0 (1 ≤ m ∧ m ≤ n ∧ kq = n - m + 1) ∧ Aside0 (RepSt w w' g cap n m x))
      case atStart => exact ⟨1, rfl, ⟨Nat.le_refl _, hp, by omega⟩, hS8⟩
      case round =>
        clear hrun hS8
        obtain ⟨m, rfl, hm, hS⟩ := hrel
        by_cases hmn : m < n
        · obtain ⟨w9, hrun, hS9⟩ := rep_step w _ g cap n m x (rep_drew hS.out) hm.out.1 hmn
          obtain ⟨d, hd⟩ : ∃ d, Nat.min m (n - m) = d := ⟨_, rfl⟩
          rw [hd] at hrun hS9
          obtain ⟨i0, hi0, _, hs0, _⟩ := info_parts info3
          have hnc : n ≤ cap := by obtain ⟨_, _, _, h, _⟩ := hS.out; exact h
          have hcut1 := cut_from (P := Try.prog) 49 3 .i64 Try.underlying49 hi0 1 hs0 (some ⟨g, 0, none⟩) n cap (m : Int) (by omega) (by omega)
          have hcut2 := cut_to (P := Try.prog) 49 3 .i64 Try.underlying49 hi0 (some ⟨g, 0, none⟩) n cap (m : Int) (by omega) (by omega) hnc
          simp only [Int.toNat_natCast, if_neg (show ¬ cap = m by omega), Option.map_some, Nat.mul_one, add_plain] at hcut1 hcut2
          have hdm : 1 ≤ d ∧ m + d ≤ n := by
            have := hm.out.1
            rw [← hd]
            have h1 : Nat.min m (n - m) = m ∨ Nat.min m (n - m) = n - m := by
              rcases Nat.le_total m (n - m) with h | h
              · exact .inl (Nat.min_eq_left h)
              · exact .inr (Nat.min_eq_right h)
            rcases h1 with h1 | h1
            · have := Nat.min_le_right m (n - m); have e : min m (n - m) = Nat.min m (n - m) := rfl; omega
            · omega
          have hlt : decide ((m : Int) < (n : Int)) = true := decide_eq_true (by omega)
          have hw : wrap64 ((m : Int) + (d : Int)) = ((m + d : Nat) : Int) := by unfold wrap64; omega
          have hw' := (i64_w _).trans hw
          have hnA := Aside0.mk hnc
          clear hnc hd hS
          go_wp2
          go_region
          clear hrun hcut1 hcut2 hw hw' hlt
          go_wp2
          go_roundg (n - (m + d) + 1)
          case measure => have h9 := hm.out; have h8 := hdm; clear hdm; omega
          case rel => exact ⟨m + d, by rw [Int.natCast_add], ⟨by omega, hdm.2, rfl⟩, ⟨hS9⟩⟩
        · have hmn' : m = n := by have := hm.out.2.1; omega
          subst hmn'
          have hE := rep_end _ _ _ _ _ _ hS.out
          have hB := hS.out
          have hlt : decide ((m : Int) < (m : Int)) = false := decide_eq_false (by omega)
          go_wp2
          go_ret
          obtain ⟨_, _, _, _, _, _, hB, _⟩ := hB
          exact ⟨_, rfl, hE, hB⟩
  · rw [if_neg hl] at h; cases h


/-! ### slices_Clone_int_int: function 106; by hand -/
def slices_Clone_int_int.f (l0 : List Int) : Option (List Int) := if l0.length ≤ 17592186044416 then some l0 else none
set_option maxHeartbeats 1000000 in
set_option maxRecDepth 100000 in
theorem slices_Clone_int_int.calls (A0 : Option Addr) (c0 : Nat) (l0 : List Int) (r : List Int) (w : World) (hr0 : Kd.C (Kd.int .i64) w A0 l0.length l0) (hc0 : l0.length ≤ c0) (h : slices_Clone_int_int.f l0 = some r) :
    Calls Try.prog 106 #[.slice A0 l0.length c0] w fun e w' => ∃ v0_ : Value, e = .returned (v0_) ∧ Kd.R (Kd.int .i64) 3 w' w.heap.size (fun _ => True) v0_ r ∧ Below w.heap.size w w' := by
  unfold slices_Clone_int_int.f at h
  by_cases hl : l0.length ≤ 17592186044416
  · rw [if_pos hl] at h
    obtain rfl := Option.some.inj h
    have hnil : ∀ (W : World) (A : Option Addr) (n c : Nat), Sem.run Try.prog (binOp .eql 49 (.slice A n c) (.slice none 0 0)) W = .ok (.bool A.isNone) W := fun W A n c => run_eql_slice_nil W 49 3 A n c Try.underlying49
    cases A0 with
    | none =>
      have hn : l0 = [] := by
        have := (Kd.reads_of_C (d := (0 : Int)) hr0).2
        cases l0 with
        | nil => rfl
        | cons x l => obtain ⟨ad, h1, _⟩ := (Kd.reads_of_C (d := (0 : Int)) hr0).at_ 0 (by omega) (by simp); cases h1
      subst hn
      go_enter Try.func106, Try.ntmps106
      go_wp2
      go_ret
      exact ⟨_, rfl, Kd.R_nil _ _ _ _ _, Below.refl _ _⟩
    | some ad =>
      go_enter Try.func106, Try.ntmps106
      go_wp2_with (first
        | ((with_reducible refine gate_dst (N := 5) rfl ?_); refine Kd.R_lit (Kd.int .i64) w.heap.size 3 ?hg (N := 5) ?hd (w0 := w) (xs := ([] : List Int)) (inner := []) (ok := fun _ => True) (okp := fun _ => True) ?hr ?hp (fun _ hk => hk) trivial (Below.refl _ _) (Nat.le_refl _) (by simp) ?_; (case hd => rfl); (case hg => rfl); (case hr => first | (go_simp; done) | (go_simp; rfl)); (case hp => exact (Reps.none _ _)); intro v5 w5 HO5 HB5 hg5 hn5; have hO5 := Aside0.mk HO5; have hB5 := Aside0.mk HB5; have hR5 := Aside0.mk (Kd.C_below hr0 HB5); clear HO5 HB5 hg5 hn5)
        | ((with_reducible refine gate_dst (N := 7) rfl ?_); refine Kd.R_append_rows (Kd.int .i64) (w0 := w) w.heap.size rfl (.tmp 5) (.tmp 6) 49 3 (.int .i64 0) 8 rfl Try.underlying49 info3 rfl (by decide) (by omega) v5 ([] : List Int) l0 _ _ _ (fun _ => True) (fun _ => False) rfl rfl ?aO ?aR (fun _ _ h => h) (fun _ h => h.elim) ?aF ?aB ?aS ?aL ?_; (case aR => exact hR5.out); (case aB => exact hB5.out); (case aF => exact fun _ _ => trivial); (case aO => exact hO5.out); (case aS => exact hB5.out.size); (case aL => simp only [List.length_nil]; omega); intro v7 w7 HO7 HB7 hg7 hn7; have hO7 := Aside0.mk HO7; have hB7 := Aside0.mk HB7; clear HO7 HB7 hg7 hn7))
      go_ret
      exact ⟨_, rfl, hO7.out, hB7.out⟩
  · rw [if_neg hl] at h; cases h

end Go.Proofs.Ythifgakeababmaa.Pr
