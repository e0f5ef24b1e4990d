/- The law: the flow of a packet. -/
import Derived.Test.YtlljiccilldnaaaWf6
set_option linter.unusedVariables false
set_option linter.unusedSimpArgs false
set_option maxRecDepth 10000
set_option maxHeartbeats 4000000
namespace Go.Proofs.Ytlljiccilldnaaa.Wf
open Go Go.Am
open Go.Proofs.Ytlljiccilldnaaa.Fx
open Go.Proofs.Ytlljiccilldnaaa.Ba (wrap_small wrap_succ)
open Go.Proofs.Ytlljiccilldnaaa.Ad (KB KI)
variable {H : Heap} {K : Value → Heap → Prop}

theorem byteAt_ext {s : ByteArray} {i j k : Nat} (h : i + k < j) : byteAt (s.extract i j) k = byteAt s (i + k) := by
  unfold byteAt
  rw [ByteArray.data_extract, Array.toList_extract, List.extract_eq_drop_take', List.getElem?_drop, List.getElem?_take, if_pos h]

theorem keepS_tops {S : Nat → Prop} {H : Heap} {a b : List Value} (h : ∀ c, S c → c < H.length) : KeepS S (newBlk H a) (newBlk H b) := fun c hc _ => by
  have := h c hc
  unfold newBlk
  rw [List.getElem?_append_left (by omega), List.getElem?_append_left (by omega)]
/-- The law. -/
theorem flows_spec {p : Pk} (hk : ∀ H', K (.bool true) H') : Wcall Try.prog 4 #[pkV p] H K := by
  refine call_body (rs := #[.tmp 2]) Try.func4 rfl Try.ntmps4 rfl rfl (by simp) ?_
  simp [go_sem, pkV, pkC]
  refine lives_spec fun H1 e1 => ?_
  have hb1 : H1[H.length]? = some ⟨pkC p, 0, true, .live⟩ := e1.at (get_new _ _)
  have r1 : rdBlk H1 H.length 0 9 = some (pkC p) := by simpa [pkC] using rd_at hb1 (off := 0) (n := 9) (by simp [pkC])
  have l1 := rdBlk_lt r1
  simp [go_sem, r1, l1, pkC]
  refine bare_spec (p := p) fun H2 e2 => ?_
  have hb2 := e2.at hb1
  have l2 := (List.getElem?_eq_some_iff.1 hb2).1
  generalize bareP p = q
  have w2 := wr_at hb2 (off := 0) (vs := pkC q) (by simp [pkC])
  have hb3 : (H2.set H.length ⟨pkC q, 0, true, .live⟩)[H.length]? = some ⟨pkC q, 0, true, .live⟩ := List.getElem?_set_self l2
  simp [pkC] at w2
  simp [go_sem, pkV, pkC, w2, l2]
  obtain ⟨H3, hH3⟩ : ∃ H3, H2.set H.length ⟨pkC q, 0, true, .live⟩ = H3 := ⟨_, rfl⟩
  rw [hH3] at hb3
  simp only [pkC] at hH3
  rw [hH3]
  have r3 := rd_at hb3 (off := 0) (n := 9) (by simp [pkC])
  have l3 := (List.getElem?_eq_some_iff.1 hb3).1
  simp [pkC] at r3
  simp [go_sem, r3, l3]
  refine flow_spec (p := q) fun H4 e4 => ?_
  have hb5 := (e4.trans (Ext.new (l := flC (if pkFault q = 0 then flowOf q else zFlow)) (Ext.refl _))).at hb3
  have r5 := rd_at hb5 (off := 0) (n := 9) (by simp [pkC])
  have l5 := (List.getElem?_eq_some_iff.1 hb5).1
  have l4 := e4.len
  simp [pkC] at r5
  simp [flC] at r5 hb5
  have l3' : H.length < H4.length := by omega
  simp [go_sem, flV, flC, r5, l3']
  refine pfault_spec (p := q) fun H6 e6 => ?_
  have hb6 := e6.at hb5
  have l6 := (List.getElem?_eq_some_iff.1 hb6).1
  by_cases F : pkFault q = 0
  · have hx : H6[H4.length]? = some ⟨flC (flowOf q), 0, true, .live⟩ := by
      have := e6.at (get_new H4 _)
      rw [if_pos F] at this
      exact this
    have lx := (List.getElem?_eq_some_iff.1 hx).1
    have rx := rd_at hx (off := 0) (n := 5) (by simp [flC])
    simp [flC] at rx
    have r0 := Fl.rd_one hb6 (off := 0) rfl
    have r1 := Fl.rd_one hb6 (off := 1) rfl
    have r2 := Fl.rd_one hb6 (off := 2) rfl
    have r5' := Fl.rd_one hb6 (off := 5) rfl
    have r6 := Fl.rd_one hb6 (off := 6) rfl
    have r8 := Fl.rd_one hb6 (off := 8) rfl
    simp [go_sem, F, r0, r1, r2, l6]
    cases q6 : decide (q.proto = 6) with
    | false =>
      simp [go_sem, r2, l6]
      cases q17 : decide (q.proto = 17) with
      | false =>
        have np : ¬ portsIn q := by simp at q6 q17; simp [portsIn, q6, q17]
        have hf : flowOf q = ⟨q.src, q.dst, q.proto, 0, 0⟩ := if_neg np
        rw [hf] at rx
        simp [go_sem, rx, lx, r8, l6]
        exact hk _
      | true =>
        have hp : q.proto = 6 ∨ q.proto = 17 := .inr (by simpa using q17)
        simp [go_sem, r5', l6]
        cases q0 : decide (q.off = 0) with
        | false =>
          have np : ¬ portsIn q := by simp at q0; simp [portsIn, q0]
          have hf : flowOf q = ⟨q.src, q.dst, q.proto, 0, 0⟩ := if_neg np
          rw [hf] at rx
          simp [go_sem, rx, lx, r8, l6]
          exact hk _
        | true =>
          simp [go_sem, r6, l6]
          cases hm : q.more with
          | true =>
            have np : ¬ portsIn q := by simp [portsIn, hm]
            have hf : flowOf q = ⟨q.src, q.dst, q.proto, 0, 0⟩ := if_neg np
            rw [hf] at rx
            simp [go_sem, rx, lx, r8, l6]
            exact hk _
          | false =>
            simp [go_sem, r8, l6]
            cases q4 : decide ((3 : Int) < q.body.size) with
            | false =>
              have np : ¬ portsIn q := by simp at q4; simp [portsIn]; omega
              have hf : flowOf q = ⟨q.src, q.dst, q.proto, 0, 0⟩ := if_neg np
              rw [hf] at rx
              simp [go_sem, rx, lx, r8, l6]
              exact hk _
            | true =>
              have h4 : 4 ≤ q.body.size := by simp at q4; omega
              have hf : flowOf q = ⟨q.src, q.dst, q.proto, byteAt q.body 0 * 256 + byteAt q.body 1, byteAt q.body 2 * 256 + byteAt q.body 3⟩ := if_pos ⟨hp, by simpa using q0, hm, h4⟩
              rw [hf] at rx
              have s1 := fun H' => str_begin (P := Try.prog) (H := H') (s := q.body) (j := 2) u9 (by omega) (by omega)
              have s2 := fun H' => str_slice (P := Try.prog) (H := H') (s := q.body) (i := 2) (j := 4) u9 (by omega) (by omega) (by omega)
              simp [go_sem]
              refine Wc.drawnG [0, 1, 2, 4, 5, 6, 8, 10] [3, 7, 9, 11] (fun c => c = H.length) mixed (by kernel_rfl) ?_
              simp [go_sem, r8, l6, s1]
              refine value_spec (by simp; omega) ?_
              simp [go_sem, r8, l6, s2]
              refine value_spec (by simp; omega) ?_
              rw [byteAt_ext (by omega), byteAt_ext (by omega), byteAt_ext (by omega), byteAt_ext (by omega)]
              simp [go_sem, rx, lx]
              exact ⟨keepS_tops fun c hc => by subst hc; exact l6, keepS_tops fun c hc => by subst hc; exact l6, hk _⟩
    | true =>
      have hp : q.proto = 6 ∨ q.proto = 17 := .inl (by simpa using q6)
      simp [go_sem, r5', l6]
      cases q0 : decide (q.off = 0) with
      | false =>
        have np : ¬ portsIn q := by simp at q0; simp [portsIn, q0]
        have hf : flowOf q = ⟨q.src, q.dst, q.proto, 0, 0⟩ := if_neg np
        rw [hf] at rx
        simp [go_sem, rx, lx, r8, l6]
        exact hk _
      | true =>
        simp [go_sem, r6, l6]
        cases hm : q.more with
        | true =>
          have np : ¬ portsIn q := by simp [portsIn, hm]
          have hf : flowOf q = ⟨q.src, q.dst, q.proto, 0, 0⟩ := if_neg np
          rw [hf] at rx
          simp [go_sem, rx, lx, r8, l6]
          exact hk _
        | false =>
          simp [go_sem, r8, l6]
          cases q4 : decide ((3 : Int) < q.body.size) with
          | false =>
            have np : ¬ portsIn q := by simp at q4; simp [portsIn]; omega
            have hf : flowOf q = ⟨q.src, q.dst, q.proto, 0, 0⟩ := if_neg np
            rw [hf] at rx
            simp [go_sem, rx, lx, r8, l6]
            exact hk _
          | true =>
            have h4 : 4 ≤ q.body.size := by simp at q4; omega
            have hf : flowOf q = ⟨q.src, q.dst, q.proto, byteAt q.body 0 * 256 + byteAt q.body 1, byteAt q.body 2 * 256 + byteAt q.body 3⟩ := if_pos ⟨hp, by simpa using q0, hm, h4⟩
            rw [hf] at rx
            have s1 := fun H' => str_begin (P := Try.prog) (H := H') (s := q.body) (j := 2) u9 (by omega) (by omega)
            have s2 := fun H' => str_slice (P := Try.prog) (H := H') (s := q.body) (i := 2) (j := 4) u9 (by omega) (by omega) (by omega)
            simp [go_sem]
            refine Wc.drawnG [0, 1, 2, 4, 5, 6, 8, 10] [3, 7, 9, 11] (fun c => c = H.length) mixed (by kernel_rfl) ?_
            simp [go_sem, r8, l6, s1]
            refine value_spec (by simp; omega) ?_
            simp [go_sem, r8, l6, s2]
            refine value_spec (by simp; omega) ?_
            rw [byteAt_ext (by omega), byteAt_ext (by omega), byteAt_ext (by omega), byteAt_ext (by omega)]
            simp [go_sem, rx, lx]
            exact ⟨keepS_tops fun c hc => by subst hc; exact l6, keepS_tops fun c hc => by subst hc; exact l6, hk _⟩
  · have hx : H6[H4.length]? = some ⟨flC zFlow, 0, true, .live⟩ := by
      have := e6.at (get_new H4 _)
      rw [if_neg F] at this
      exact this
    have lx := (List.getElem?_eq_some_iff.1 hx).1
    have rx := rd_at hx (off := 0) (n := 5) (by simp [flC])
    simp [flC, zFlow] at rx
    simp [go_sem, F, rx, lx]
    exact hk _
end Go.Proofs.Ytlljiccilldnaaa.Wf
