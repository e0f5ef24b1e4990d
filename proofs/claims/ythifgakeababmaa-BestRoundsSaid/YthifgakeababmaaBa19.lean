/- The law: Check and Round return what the document says. -/
import Derived.Test.YthifgakeababmaaBa18
set_option linter.unusedVariables false
set_option linter.unusedSimpArgs false
set_option maxRecDepth 10000
set_option maxHeartbeats 4000000
namespace Go.Proofs.Ythifgakeababmaa.Ba
open Go Go.Am
open Go.Proofs.Ythifgakeababmaa.Fx
variable {H : Heap} {K : Value → Heap → Prop}

theorem rounds_spec {n origin : Int} {s t : Value} {ls : List Ln} {wl : List (List Int)} (hs : Sl RLn 5 H s ls) (ht : Sl RWay 1 H t wl) (hlens : ∀ w ∈ wl, w.length < 9223372036854775808) (hk : ∀ H', K (.bool true) H') : Wcall Try.prog 9 #[netV n s, .int .i64 origin, t] H K := by
  obtain ⟨a, c, rfl⟩ := hs.shape
  obtain ⟨aw, cw, rfl⟩ := ht.shape
  refine call_body (rs := #[.tmp 6]) Try.func9 rfl Try.ntmps9 rfl rfl (by simp) ?_
  simp [go_sem, netV]
  refine lives_spec fun H1 e1 => ?_
  have hg : H1[H.length]? = some ⟨[.int .i64 n, .slice a ls.length c], 0, true, .live⟩ := ext_get (H := H) e1 (by simp [newBlk])
  have hlt := (List.getElem?_eq_some_iff.1 hg).1
  have hb1 : rdBlk H1 H.length 1 1 = some [.slice a ls.length c] := e1.rd (by simp [go_sem])
  have he1 : Ext H H1 := (Ext.new (Ext.refl H)).trans e1
  simp [go_sem, hb1]
  refine some_spec (hs.ext RLn.mono he1) ?_
  simp [go_sem]
  refine someWays_spec (ht.ext RWay.mono he1) ?_
  have hw : wrBlk H1 H.length 1 [.slice a (min ls.length 6) c] = some (H1.set H.length ⟨[.int .i64 n, .slice a (min ls.length 6) c], 0, true, .live⟩) := by
    unfold wrBlk
    rw [hg]
    rfl
  have heS : Ext H (H1.set H.length ⟨[.int .i64 n, .slice a (min ls.length 6) c], 0, true, .live⟩) := ext_set he1 (Nat.le_refl _)
  have hs6 := (hs.ext RLn.mono heS).take (min ls.length 6) (by omega)
  have ht6 := (ht.ext RWay.mono heS).take (min wl.length 17) (by omega)
  generalize hl6 : ls.take (min ls.length 6) = l6 at hs6
  generalize hw17 : wl.take (min wl.length 17) = ws at ht6
  have h6 : l6.length < 1000000 := by rw [← hl6]; simp; omega
  have h17 : ws.length < 1000000 := by rw [← hw17]; simp; omega
  have hle : ∀ w ∈ ws, w.length < 9223372036854775808 := fun w hw => hlens w (by rw [← hw17] at hw; exact List.mem_of_mem_take hw)
  have hset : ∀ k : Blk, (H1.set H.length k)[H.length]? = some k := fun k => by simp [hlt]
  generalize hH2 : H1.set H.length ⟨[.int .i64 n, .slice a (min ls.length 6) c], 0, true, .live⟩ = H2 at hw hs6 ht6
  have hg2 : H2[H.length]? = some ⟨[.int .i64 n, .slice a (min ls.length 6) c], 0, true, .live⟩ := hH2 ▸ hset _
  generalize hlen6 : min ls.length 6 = m6 at *
  generalize hlen17 : min wl.length 17 = m17 at *
  have hb02 : rdBlk H2 H.length 0 2 = some [.int .i64 n, .slice a m6 c] := by simp [rdBlk, hg2]
  simp [go_sem, hw, hlt, hb02]
  refine netFault_spec hs6 h6 fun H3 e3 => ?_
  have hb3 := e3.rd hb02
  simp [go_sem, hb3]
  refine check_spec (hs6.ext RLn.mono e3) h6 fun H4 e4 => ?_
  have hb4 := e4.rd hb3
  have e24 := e3.trans e4
  have hb40 : rdBlk H4 H.length 0 1 = some [.int .i64 n] := e24.rd (by simp [rdBlk, hg2])
  have hs4 := hs6.ext RLn.mono e24
  have ht4 := ht6.ext RWay.mono e24
  by_cases F0 : fault n l6 = 0
  · by_cases O1 : origin < 0
    · simp [go_sem, F0, O1, hb4, hb40]
      refine bestRound_spec hs4 h6 ht4 h17 hle ?_ (fun _ h => absurd h (by omega))
      intro H5 e _ h0 hc
      have he : e = 1 := by rcases hc with h | h | h <;> first | exact absurd F0 h.1 | exact h.2.2 | exact absurd (.inl O1) h.2.1
      subst he
      simp [go_sem]
      exact hk _
    · by_cases O2 : n ≤ origin
      · simp [go_sem, F0, O1, O2, hb4, hb40]
        refine bestRound_spec hs4 h6 ht4 h17 hle ?_ (fun _ _ h => absurd h (by omega))
        intro H5 e _ h0 hc
        have he : e = 1 := by rcases hc with h | h | h <;> first | exact absurd F0 h.1 | exact h.2.2 | exact absurd (.inr O2) h.2.1
        subst he
        simp [go_sem]
        exact hk _
      · have hfz := fault_zero F0
        have hval := fault_valid F0
        simp [go_sem, F0, O1, O2, hb4, hb40]
        refine wayward_spec (n := n) hs4 h6 hval.k ht4 h17 hle fun H5 b e5 hb => ?_
        have hb5 := e5.rd hb4
        have hs5 := hs4.ext RLn.mono e5
        have ht5 := ht4.ext RWay.mono e5
        cases b with
        | true =>
          have hnF : ¬ Formed n l6 ws := hb.1 rfl
          simp [go_sem, hb5]
          refine bestRound_spec hs5 h6 ht5 h17 hle ?_ (fun _ _ _ h => absurd h hnF)
          intro H6 e _ h0 hc
          have he : e = 3 := by rcases hc with h | h | h <;> first | exact absurd F0 h.1 | exact h.2.2.2 | exact absurd h.2.1 (by omega)
          subst he
          simp [go_sem]
          exact hk _
        | false =>
          have hF : Formed n l6 ws := Classical.byContradiction fun h => by have := hb.2 h; cases this
          simp [go_sem, hb5]
          refine bestRound_spec hs5 h6 ht5 h17 hle ?_ ?_
          · intro H6 e _ h0 hc
            exfalso
            rcases hc with h | h | h
            · exact h.1 F0
            · have := h.2.1; omega
            · exact h.2.2.1 hF
          · intro _ _ _ _ H6 s6 e6 hs6'
            have hb6 := e6.rd hb5
            obtain ⟨ao, co, rfl⟩ := hs6'.shape
            have hW := formed_ways hF hfz.2.1
            have hL := formed_lens hF hfz.2.1
            simp [go_sem, hb6]
            refine roundOf_spec (n := n) (hs5.ext RLn.mono e6) h6 hval (ht5.ext RWay.mono e6) hW (fun w hw => by have := hL w hw; omega) (formed_heads hF) hF.1.symm fun H7 s7 e7 hs7 => ?_
            have hrl : (rnd (tab l6) origin ws).length < 1000000 := by rw [rnd_len]; exact h17
            have hrw : ∀ w ∈ rnd (tab l6) origin ws, w.length < 100000 := fun w hw => by
              obtain ⟨u, hu, rfl⟩ := List.mem_map.1 hw
              unfold rWay
              split
              · simp
              · have := chosen_len (T := tab l6) (u := (u : Int)) (ws := ws) (m := 16) hL
                omega
            simp [go_sem]
            refine sameBest_spec (hs6'.ext RWay.mono e7) hs7 hrl hrl hrw hrw fun H8 e8 => ?_
            simp [go_sem]
            exact hk _
  · simp [go_sem, F0, hb4, hb40]
    refine bestRound_spec hs4 h6 ht4 h17 hle ?_ (fun h => absurd h F0)
    intro H5 e _ h0 hc
    have he : e = fault n l6 := by rcases hc with h | h | h <;> first | exact h.2 | exact absurd h.1 F0
    subst he
    simp [go_sem, F0]
    exact hk _
end Go.Proofs.Ythifgakeababmaa.Ba
