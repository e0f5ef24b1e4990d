/- Whether routes are ways of a network: the reference's answer. -/
import Derived.Test.YthifgakeababmaaBa15
import Derived.Test.YthifgakeababmaaFxRounds
set_option linter.unusedVariables false
set_option linter.unusedSimpArgs false
set_option maxRecDepth 10000
set_option maxHeartbeats 4000000
namespace Go.Proofs.Ythifgakeababmaa.Ba
open Go Go.Am
open Go.Proofs.Ythifgakeababmaa.Fx
variable {H : Heap} {K : Value → Heap → Prop}

/-- The i-th domain of a way is as it should be. -/
def okAt (ls : List Ln) (n : Int) (way : List Int) (v i : Nat) : Prop := ∀ w, way[i]? = some w → 0 ≤ w ∧ w < n ∧ (i = 0 → w = v) ∧ w ∉ way.take i ∧ (0 < i → kKind ls (way.getD (i - 1) 0) w ≠ 0)
def okWay (ls : List Ln) (n : Int) (way : List Int) (v : Nat) : Prop := ∀ i, i < way.length → okAt ls n way v i
def Formed (n : Int) (ls : List Ln) (ws : List (List Int)) : Prop := (ws.length : Int) = n ∧ ∀ v, v < ws.length → okWay ls n (wayOf ws v) v

theorem wayward_spec {n : Int} {s t : Value} {ls : List Ln} {ws : List (List Int)} (hls : Sl RLn 5 H t ls) (hl : ls.length < 1000000) (hval : ∀ x ∈ ls, 1 ≤ x.k ∧ x.k ≤ 3) (hs : Sl RWay 1 H s ws) (hwl : ws.length < 1000000) (hlens : ∀ w ∈ ws, w.length < 9223372036854775808)
    (hk : ∀ H' b, Ext H H' → (b = true ↔ ¬ Formed n ls ws) → K (.bool b) H') : Wcall Try.prog 58 #[netV n t, s] H K := by
  obtain ⟨a, c, rfl⟩ := hs.shape
  obtain ⟨at_, ct, rfl⟩ := hls.shape
  refine call_body (rs := #[.tmp 4]) Try.func58 rfl Try.ntmps58 rfl rfl (by simp) ?_
  simp [go_sem, netV]
  refine Br.forkN (fun g0 => ?_) (fun g0 => ?_)
  · simp [go_sem]
    exact hk _ true (Ext.new (Ext.refl _)) (by simp [Formed, g0])
  simp [go_sem, g0]
  refine Wc.loopw 74 (fun i : Nat × Heap => [(2, .pointer (some ⟨H.length, 0, none⟩)), (16, .slice a ws.length c), (17, .int .i64 ws.length), (18, .int .i64 i.1)]) (fun i => i.2)
    (fun i => i.1 ≤ ws.length ∧ Ext (newBlk H [.int .i64 n, .slice at_ ls.length ct]) i.2 ∧ ∀ v, v < i.1 → okWay ls n (wayOf ws v) v) (fun i => ws.length - i.1) (0, _)
    ⟨Nat.zero_le _, Ext.refl _, fun v hv => absurd hv (by simp)⟩ (by simp [go_sem, g0]) rfl (by simp [go_sem, g0]) ?_
  rintro ⟨v, H1⟩ ⟨hv, he, hno⟩
  simp only at hv he hno
  have he0 : Ext H H1 := (Ext.new (Ext.refl H)).trans he
  have hs1 := hs.ext RWay.mono he0
  simp [go_sem]
  refine Br.forkD (fun h => ?_) (fun h => ?_)
  · obtain ⟨b, off, cells, rfl, hb, _, hr, sv, rfl, hsv⟩ := hs1.get h
    simp at hr
    obtain ⟨av, cv, rfl⟩ := hsv.shape
    have hwv := wayOf_get h
    have hlw := hlens _ (List.getElem_mem h)
    generalize hw0 : ws[v] = way at *
    simp [go_sem, hr, h]
    refine Wc.loopw 74 (fun i : Nat × Heap => [(2, .pointer (some ⟨H.length, 0, none⟩)), (16, .slice (some ⟨b, off, none⟩) ws.length c), (17, .int .i64 ws.length), (18, .int .i64 v), (5, .int .i64 v), (6, .pointer (some ⟨H1.length, 0, none⟩)), (24, .slice av way.length cv), (25, .int .i64 way.length), (26, .int .i64 i.1)]) (fun i => i.2)
      (fun i => i.1 ≤ way.length ∧ Ext (newBlk H1 [.slice av way.length cv]) i.2 ∧ ∀ j, j < i.1 → okAt ls n way v j) (fun i => way.length - i.1) (0, _)
      ⟨Nat.zero_le _, Ext.refl _, fun v hv => absurd hv (by simp)⟩ (by simp [go_sem]) rfl (by simp [go_sem]) ?_
    rintro ⟨i, H2⟩ ⟨hi, he2, hnoi⟩
    simp only at hi he2 hnoi
    have heT : Ext H1 H2 := (Ext.new (Ext.refl _)).trans he2
    have hb2 : rdBlk H2 H.length 0 2 = some [.int .i64 n, .slice at_ ls.length ct] := (he.trans heT).rd (by simp [go_sem])
    have hb0 : rdBlk H2 H.length 0 1 = some [.int .i64 n] := (he.trans heT).rd (by simp [go_sem])
    have hb6 : rdBlk H2 H1.length 0 1 = some [.slice av way.length cv] := he2.rd (by simp [go_sem])
    have hsv2 := hsv.ext RInt.mono heT
    have heA : Ext H H2 := he0.trans heT
    simp [go_sem]
    refine Br.forkD (fun h3 => ?_) (fun h3 => ?_)
    · obtain ⟨bw, offw, cw, rfl, hbw, _, hrw, hcw⟩ := hsv2.get h3
      unfold RInt at hcw
      subst hcw
      simp at hrw
      obtain ⟨w, hww⟩ : ∃ w, way[i] = w := ⟨_, rfl⟩
      rw [hww] at hrw
      have hgw : way[i]? = some w := by rw [List.getElem?_eq_getElem h3, hww]
      have fail : ¬ okAt ls n way v i → ∀ H', Ext H H' → K (.bool true) H' := fun hn H' e' => hk _ true e' (by simp only [true_iff]; exact fun hf => hn (by have := hf.2 v h i (by rw [hwv]; exact h3); rw [hwv] at this; exact this))
      simp [go_sem, hrw, h3, hb0]
      refine Gd.forkNB (fun d1 => ?_) (fun d1 => ?_)
      rotate_left
      · have hn : ¬ okAt ls n way v i := fun ho => by have := ho w hgw; simp at d1; omega
        simp [go_sem, hrw, h3, hb0, d1]
        exact fail hn _ heA
      simp [go_sem, hb0, d1]
      refine Gd.forkNB (fun d2 => ?_) (fun d2 => ?_)
      rotate_left
      · have hn : ¬ okAt ls n way v i := fun ho => by have := ho w hgw; simp at d2; omega
        simp [go_sem, hrw, h3, hb0, d1, d2]
        exact fail hn _ heA
      simp [go_sem, hb0, d1, d2]
      have hsl2 : ∀ j : Int, 0 ≤ j → j ≤ way.length → aSlice Try.prog H2 49 (.slice (some ⟨bw, offw, none⟩) way.length cv) none (some (.int .i64 j)) none = some (.slice (some ⟨bw, offw, none⟩) j.toNat cv) := fun j h1 h2 => hsv2.aSlice u49 i3 s3 h1 h2
      have htk := hsv2.take i (by omega)
      have hlt : (way.take i).length < 9223372036854775808 := by simp; omega
      have fin : okAt ls n way v i → ∀ j, j < i + 1 → okAt ls n way v j := fun ho j hj => by
        by_cases hji : j = i
        · subst hji; exact ho
        · exact hnoi j (by omega)
      rcases Nat.eq_zero_or_pos i with hi0 | hpos
      · subst hi0
        simp [go_sem, d1, d2]
        refine Gd.fork (fun d3 => ?_) (fun d3 => ?_)
        · simp [go_sem, d1, d2, d3, hb6, hsl2 0 (by omega) (by omega)]
          refine has_spec htk hlt w ?_
          have hok : okAt ls n way v 0 := fun w' hw' => by
            rw [hgw] at hw'; cases hw'
            simp at d1 d2 d3
            exact ⟨by omega, by omega, fun _ => d3, by simp, fun h => absurd h (by omega)⟩
          simp [go_sem]
          exact loopK_next (1, H2) ⟨by simp only; omega, he2, fin hok⟩ (by simp only; omega) rfl (by simp [go_sem]) (by simp [go_sem]; decide)
        · have hn : ¬ okAt ls n way v 0 := fun ho => by have := ho w hgw; simp at d3; exact d3 (this.2.2.1 rfl)
          simp [go_sem, d1, d2, d3]
          exact fail hn _ heA
      · have hne0 : ¬ i = 0 := by omega
        simp [go_sem, d1, d2, hne0, hb6, hsl2 i (by omega) (by omega)]
        refine has_spec htk hlt w ?_
        simp [go_sem]
        refine Br.fork (fun d4 => ?_) (fun d4 => ?_)
        · have hn : ¬ okAt ls n way v i := fun ho => by have := ho w hgw; simp at d4; exact this.2.2.2.1 d4
          simp [go_sem, d4]
          exact fail hn _ heA
        · have hi1 : i - 1 < way.length := by omega
          obtain ⟨bw', offw', cw', e', _, _, hrp, hcp⟩ := hsv2.get hi1
          cases e'
          unfold RInt at hcp
          subst hcp
          simp at hrp
          have hgp : way.getD (i - 1) 0 = way[i - 1] := by rw [List.getD_eq_getElem?_getD, List.getElem?_eq_getElem hi1]; rfl
          have hwr : IntKind.i64.wrap ((i : Int) - 1) = ((i - 1 : Nat) : Int) := by rw [wrap_small] <;> omega
          simp [go_sem, d4, hpos]
          refine Wc.drawn mixed (by kernel_rfl) ?_
          simp [go_sem, hb2, hb6, hwr, hi1, hrp]
          refine kind_spec (n := n) (u := way[i - 1]) (v := w) (hls.ext RLn.mono heA) hl hval fun H3 e3 => ?_
          simp [go_sem]
          refine Br.fork (fun d5 => ?_) (fun d5 => ?_)
          · have hn : ¬ okAt ls n way v i := fun ho => by have := (ho w hgw).2.2.2.2 hpos; rw [hgp] at this; simp at d5; exact this d5
            simp [go_sem, d5]
            exact fail hn _ (heA.trans e3)
          · have hok : okAt ls n way v i := fun w' hw' => by
              rw [hgw] at hw'; cases hw'
              simp at d1 d2 d4 d5
              exact ⟨by omega, by omega, fun h => absurd h hne0, d4, fun _ => by rw [hgp]; exact d5⟩
            simp [go_sem, d5]
            exact loopK_next (i + 1, H3) ⟨by simp only; omega, he2.trans e3, fin hok⟩ (by simp only; omega) rfl (by simp [go_sem]) (by simp [go_sem, wrap_succ (i := i) (by omega)])
    · simp [go_sem]
      refine loopK_next (v + 1, H2) ⟨by simp only; omega, he.trans heT, fun v' hv' => ?_⟩ (by simp only; omega) rfl (by simp [go_sem]) (by simp [go_sem, wrap_succ (i := v) (by omega)])
      by_cases hvv : v' = v
      · subst hvv; rw [hwv]; exact fun i' hi' => hnoi i' (by omega)
      · exact hno v' (by simp only at hv'; omega)
  · simp [go_sem]
    refine hk _ false he0 ?_
    have : Formed n ls ws := ⟨g0, fun v' hv' => hno v' (by omega)⟩
    simp [this]
end Go.Proofs.Ythifgakeababmaa.Ba
