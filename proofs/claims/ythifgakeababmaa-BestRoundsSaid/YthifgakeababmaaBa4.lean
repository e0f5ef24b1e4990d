/- What is wrong with a network, by the reference. -/
import Derived.Test.YthifgakeababmaaBa3
set_option linter.unusedVariables false
set_option linter.unusedSimpArgs false
set_option maxRecDepth 10000
namespace Go.Proofs.Ythifgakeababmaa.Ba
open Go Go.Am
open Go.Proofs.Ythifgakeababmaa.Fx
variable {H : Heap} {K : Value → Heap → Prop}

theorem clash_comm_iff (x y : Ln) : clash x y ↔ (x.a = y.a ∧ x.b = y.b) ∨ (x.a = y.b ∧ x.b = y.a) := by unfold clash; grind

theorem netFault_spec {n : Int} {s : Value} {ls : List Ln} (hs : Sl RLn 5 H s ls) (hl : ls.length < 1000000) (hk : ∀ H', Ext H H' → K (.int .i64 (fault n ls)) H') : Wcall Try.prog 32 #[netV n s] H K := by
  obtain ⟨a, c, rfl⟩ := hs.shape
  refine call_body (rs := #[.tmp 2]) Try.func32 rfl Try.ntmps32 rfl rfl (by simp) ?_
  simp [go_sem, netV]
  refine Gd.forkN (fun c1 => ?_) (fun c1 => ?_) <;> simp [go_sem, c1]
  · refine Br.forkD (fun c2 => ?_) (fun c2 => ?_) <;> simp [go_sem, c1, c2]
    · exact KI (hk _ (by simp [go_sem])) (by simp [fault]; omega)
    · refine Br.forkD (fun c3 => ?_) (fun c3 => ?_) <;> simp [go_sem, c1, c2, c3]
      · exact KI (hk _ (by simp [go_sem])) (by simp [fault]; omega)
      · refine Wc.loopw 121 (fun i : Nat × Heap => [(1, .pointer (some ⟨H.length, 0, none⟩)), (20, .slice a ls.length c), (21, .int .i64 ls.length), (22, .int .i64 i.1)]) (fun i => i.2)
          (fun i => i.1 ≤ ls.length ∧ Ext (newBlk H [.int .i64 n, .slice a ls.length c]) i.2 ∧ ∀ j (h : j < ls.length), j < i.1 → lnFault n (ls.take j) ls[j] = 0) (fun i => ls.length - i.1) (0, _)
          ⟨Nat.zero_le _, Ext.refl _, fun _ _ h => absurd h (by omega)⟩ (by simp [go_sem]) rfl (by simp [go_sem]) ?_
        rintro ⟨i, H1⟩ ⟨hi, he, hno⟩
        simp only at hi he hno
        have hb0 : rdBlk H1 H.length 0 1 = some [.int .i64 n] := he.rd (by simp [go_sem])
        have hb1 : rdBlk H1 H.length 1 1 = some [.slice a ls.length c] := he.rd (by simp [go_sem])
        have hlt : H.length < H1.length := by have := he.len; simp [newBlk_length] at this; omega
        have he0 : Ext H H1 := (Ext.new (Ext.refl H)).trans he
        have hs1 := hs.ext RLn.mono he0
        simp [go_sem]
        refine Br.forkD (fun h => ?_) (fun h => ?_)
        · obtain ⟨b, off, cells, rfl, hb, _, hr, hc⟩ := hs1.get h
          unfold RLn Ln.cells at hc
          have hff := firstFault_at h hno
          have hf0 : fault n ls = firstFault n ls := by simp [fault]; omega
          obtain ⟨x, hx⟩ : ∃ x, ls[i] = x := ⟨_, rfl⟩
          rw [hx] at hc hff
          subst hc
          simp [go_sem, hr, h, hb0, hb1, hlt]
          have done10 : bad n x → firstFault n ls = 10 := fun hb => by rw [hff (by simp [lnFault, hb])]; simp [lnFault, hb]
          refine Gd.forkN (fun d1 => ?_) (fun d1 => ?_)
          rotate_left
          · simp [go_sem, hr, h, hb0, hb1, hlt, d1]
            exact KI (hk _ (by simp [go_sem, he0])) (hf0.trans (done10 (by unfold bad; omega)))
          simp [go_sem, hr, h, hb0, hb1, hlt, d1]
          refine Gd.forkN (fun d2 => ?_) (fun d2 => ?_)
          rotate_left
          · simp [go_sem, hr, h, hb0, hb1, hlt, d1, d2]
            exact KI (hk _ (by simp [go_sem, he0])) (hf0.trans (done10 (by unfold bad; omega)))
          simp [go_sem, hr, h, hb0, hb1, hlt, d1, d2]
          refine Gd.forkN (fun d3 => ?_) (fun d3 => ?_)
          rotate_left
          · simp [go_sem, hr, h, hb0, hb1, hlt, d1, d2, d3]
            exact KI (hk _ (by simp [go_sem, he0])) (hf0.trans (done10 (by unfold bad; omega)))
          simp [go_sem, hr, h, hb0, hb1, hlt, d1, d2, d3]
          refine Gd.forkN (fun d4 => ?_) (fun d4 => ?_)
          rotate_left
          · simp [go_sem, hr, h, hb0, hb1, hlt, d1, d2, d3, d4]
            exact KI (hk _ (by simp [go_sem, he0])) (hf0.trans (done10 (by unfold bad; omega)))
          simp [go_sem, hr, h, hb0, hb1, hlt, d1, d2, d3, d4]
          refine Gd.forkN (fun d5 => ?_) (fun d5 => ?_)
          rotate_left
          · simp [go_sem, hr, h, hb0, hb1, hlt, d1, d2, d3, d4, d5]
            exact KI (hk _ (by simp [go_sem, he0])) (hf0.trans (done10 (by unfold bad; omega)))
          simp [go_sem, hr, h, hb0, hb1, hlt, d1, d2, d3, d4, d5]
          refine Gd.forkN (fun d6 => ?_) (fun d6 => ?_)
          rotate_left
          · simp [go_sem, hr, h, hb0, hb1, hlt, d1, d2, d3, d4, d5, d6]
            exact KI (hk _ (by simp [go_sem, he0])) (hf0.trans (done10 (by unfold bad; omega)))
          simp [go_sem, hr, h, hb0, hb1, hlt, d1, d2, d3, d4, d5, d6]
          refine Gd.forkN (fun d7 => ?_) (fun d7 => ?_)
          rotate_left
          · simp [go_sem, hr, h, hb0, hb1, hlt, d1, d2, d3, d4, d5, d6, d7]
            exact KI (hk _ (by simp [go_sem, he0])) (hf0.trans (done10 (by unfold bad; omega)))
          simp [go_sem, hr, h, hb0, hb1, hlt, d1, d2, d3, d4, d5, d6, d7]
          refine Gd.forkN (fun d8 => ?_) (fun d8 => ?_)
          rotate_left
          · simp [go_sem, hr, h, hb0, hb1, hlt, d1, d2, d3, d4, d5, d6, d7, d8]
            exact KI (hk _ (by simp [go_sem, he0])) (hf0.trans (done10 (by unfold bad; omega)))
          simp [go_sem, hr, h, hb0, hb1, hlt, d1, d2, d3, d4, d5, d6, d7, d8]
          refine Gd.forkN (fun d9 => ?_) (fun d9 => ?_)
          rotate_left
          · simp [go_sem, hr, h, hb0, hb1, hlt, d1, d2, d3, d4, d5, d6, d7, d8, d9]
            exact KI (hk _ (by simp [go_sem, he0])) (hf0.trans (done10 (by unfold bad; omega)))
          simp [go_sem, hr, h, hb0, hb1, hlt, d1, d2, d3, d4, d5, d6, d7, d8, d9]
          refine Br.forkD (fun e1 => ?_) (fun e1 => ?_)
          · simp [go_sem, hr, h, hb0, hb1, hlt, d1, d2, d3, d4, d5, d6, d7, d8, d9, e1]
            exact KI (hk _ (by simp [go_sem, he0])) (hf0.trans (done10 (by unfold bad; omega)))
          have nb : ¬ bad n x := by unfold bad; omega
          simp [go_sem, hr, h, hb0, hb1, hlt, d1, d2, d3, d4, d5, d6, d7, d8, d9, e1]
          refine Br.forkD (fun e2 => ?_) (fun e2 => ?_)
          · simp [go_sem, hr, h, hb0, hb1, hlt, d1, d2, d3, d4, d5, d6, d7, d8, d9, e1, e2]
            exact KI (hk _ (by simp [go_sem, he0])) (hf0.trans (by rw [hff (by simp [lnFault, nb, e2])]; simp [lnFault, nb, e2]))
          have hs2 := hs1.new RLn.mono x.cells
          unfold Ln.cells at hs2
          have hsl := hs2.aSlice u55 i60 s60 (j := (i : Int)) (by omega) (by omega)
          simp [go_sem, hr, h, hb0, hb1, hlt, d1, d2, d3, d4, d5, d6, d7, d8, d9, e1, e2, hsl]
          have hs3 := hs2.take i (by omega)
          refine Wc.loopw 121 (fun p : Nat × Heap => [(1, .pointer (some ⟨H.length, 0, none⟩)), (20, .slice (some ⟨b, off, none⟩) ls.length c), (21, .int .i64 ls.length), (22, .int .i64 i), (4, .pointer (some ⟨H1.length, 0, none⟩)), (87, .slice (some ⟨b, off, none⟩) i c), (88, .int .i64 i), (89, .int .i64 p.1)]) (fun p => p.2)
            (fun p => p.1 ≤ i ∧ Ext (newBlk H1 x.cells) p.2 ∧ ∀ j (hj : j < ls.length), j < p.1 → ¬ clash x ls[j]) (fun p => i - p.1) (0, _)
            ⟨Nat.zero_le _, Ext.refl _, fun _ _ h => absurd h (by omega)⟩ (by simp [go_sem]) rfl (by simp [go_sem]) ?_
          rintro ⟨j, H2⟩ ⟨hj, hej, hnoj⟩
          simp only at hj hej hnoj
          have hxa : rdBlk H2 H1.length 0 1 = some [.int .i64 x.a] := hej.rd (by simp [go_sem, Ln.cells])
          have hxb : rdBlk H2 H1.length 1 1 = some [.int .i64 x.b] := hej.rd (by simp [go_sem, Ln.cells])
          have hlt2 : H1.length < H2.length := by have := hej.len; simp [newBlk_length] at this; omega
          have he2 : Ext H1 H2 := (Ext.new (Ext.refl H1)).trans hej
          simp [go_sem]
          refine Br.forkD (fun f1 => ?_) (fun f1 => ?_)
          · have hjl : j < ls.length := by omega
            obtain ⟨b', off', cells', e', _, _, hr2, hc2⟩ := (hs1.ext RLn.mono he2).get hjl
            cases e'
            unfold RLn Ln.cells at hc2
            obtain ⟨y, hy⟩ : ∃ y, ls[j] = y := ⟨_, rfl⟩
            rw [hy] at hc2
            subst hc2
            simp [go_sem, f1, hr2, hxa, hxb, hlt2]
            have yes : clash x y → firstFault n ls = 6 := fun hc => by
              have : ∃ z ∈ ls.take i, clash x z := ⟨y, by rw [← hy]; exact List.mem_take_iff_getElem.2 ⟨j, by omega, rfl⟩, hc⟩
              rw [hff (by simp only [lnFault, if_neg nb, if_neg e2, if_pos this]; decide)]; simp only [lnFault, if_neg nb, if_neg e2, if_pos this]
            have next : ¬ clash x y → ∀ H3, Ext H2 H3 → ∀ k (hk : k < ls.length), k < j + 1 → ¬ clash x ls[k] := fun hc H3 _ k hk hkj => by
              by_cases hkk : k = j
              · subst hkk; rw [hy]; exact hc
              · exact hnoj k hk (by omega)
            refine Gd.forkD (fun g1 => ?_) (fun g1 => ?_)
            · simp [go_sem, f1, hr2, hxa, hxb, hlt2, g1]
              refine Gd.forkN (fun g2 => ?_) (fun g2 => ?_)
              · simp [go_sem, f1, hr2, hxa, hxb, hlt2, g1, g2]
                refine Gd.forkD (fun g3 => ?_) (fun g3 => ?_)
                · simp [go_sem, f1, hr2, hxa, hxb, hlt2, g1, g2, g3, wrap_succ (i := j) (by omega)]
                  exact loopK_next (j + 1, _) ⟨by simp only; omega, by simp [go_sem, hej], next (by unfold clash; omega) _ (Ext.refl _)⟩ (by simp only; omega) rfl (by simp [go_sem]) (by simp [go_sem])
                · simp [go_sem, f1, hr2, hxa, hxb, hlt2, g1, g2, g3, wrap_succ (i := j) (by omega)]
                  exact loopK_next (j + 1, _) ⟨by simp only; omega, by simp [go_sem, hej], next (by unfold clash; omega) _ (Ext.refl _)⟩ (by simp only; omega) rfl (by simp [go_sem]) (by simp [go_sem])
              · simp [go_sem, f1, hr2, hxa, hxb, hlt2, g1, g2]
                exact KI (hk _ (by simp [go_sem, he0.trans he2])) (hf0.trans (yes (by unfold clash; omega)))
            · simp [go_sem, f1, hr2, hxa, hxb, hlt2, g1]
              refine Gd.forkD (fun g3 => ?_) (fun g3 => ?_)
              · simp [go_sem, f1, hr2, hxa, hxb, hlt2, g1, g3]
                refine Br.forkD (fun g4 => ?_) (fun g4 => ?_)
                · simp [go_sem, f1, hr2, hxa, hxb, hlt2, g1, g3, g4]
                  exact KI (hk _ (by simp [go_sem, he0.trans he2])) (hf0.trans (yes (by unfold clash; omega)))
                · simp [go_sem, f1, hr2, hxa, hxb, hlt2, g1, g3, g4, wrap_succ (i := j) (by omega)]
                  exact loopK_next (j + 1, _) ⟨by simp only; omega, by simp [go_sem, hej], next (by unfold clash; omega) _ (Ext.refl _)⟩ (by simp only; omega) rfl (by simp [go_sem]) (by simp [go_sem])
              · simp [go_sem, f1, hr2, hxa, hxb, hlt2, g1, g3, wrap_succ (i := j) (by omega)]
                exact loopK_next (j + 1, _) ⟨by simp only; omega, by simp [go_sem, hej], next (by unfold clash; omega) _ (Ext.refl _)⟩ (by simp only; omega) rfl (by simp [go_sem]) (by simp [go_sem])
          · have hji : j = i := by omega
            subst hji
            have none_ : ¬ ∃ z ∈ ls.take j, clash x z := by
              rintro ⟨z, hz, hc⟩
              obtain ⟨k, hk, rfl⟩ := List.mem_take_iff_getElem.1 hz
              exact hnoj k (by omega) (by omega) hc
            simp [go_sem]
            refine loopK_next (j + 1, _) ⟨by simp only; omega, he.trans he2, fun k hk hki => ?_⟩ (by simp only; omega) rfl (by simp [go_sem]) (by simp [go_sem, wrap_succ (i := j) (by omega)])
            by_cases hij : k = j
            · subst hij; rw [hx]; simp only [lnFault, if_neg nb, if_neg e2, if_neg none_]
            · exact hno k hk (by simp only at hki; omega)
        · simp [go_sem]
          exact KI (hk _ he0) (by rw [show fault n ls = firstFault n ls by simp [fault]; omega]; exact firstFault_none fun j hj => hno j hj (by omega))
  · exact KI (hk _ (by simp [go_sem])) (by simp [fault]; omega)
end Go.Proofs.Ythifgakeababmaa.Ba
