/- The law: Settle returns what its rounds lead to. -/
import Derived.Test.YthifgakeababmaaBa14
set_option linter.unusedVariables false
set_option linter.unusedSimpArgs false
set_option maxRecDepth 10000
set_option maxHeartbeats 4000000
namespace Go.Proofs.Ythifgakeababmaa.Ba
open Go Go.Am
open Go.Proofs.Ythifgakeababmaa.Fx
variable {H : Heap} {K : Value → Heap → Prop}

theorem heads_rnd {T : List Int} {origin : Int} {ws : List (List Int)} : Heads (rnd T origin ws) := by
  intro v hv hne
  rw [rnd_len] at hv
  have e : wayOf (rnd T origin ws) v = rWay T origin ws v := by
    rw [wayOf_get (by rw [rnd_len]; exact hv)]
    simp [rnd]
  rw [e] at hne ⊢
  unfold rWay at hne ⊢
  split
  · rename_i h; simp [h]
  · rename_i h
    rw [if_neg h] at hne
    unfold chosen at hne ⊢
    split
    · rename_i hc; rw [hc] at hne; exact absurd rfl hne
    · rfl

theorem heads_nil (n : Nat) : Heads (List.replicate n []) := by
  intro v hv hne
  rw [wayOf_get hv] at hne
  simp at hne

theorem heads_it {T : List Int} {origin : Int} {n : Nat} : ∀ i, Heads (itW (rnd T origin) (List.replicate n []) i)
  | 0 => heads_nil n
  | i + 1 => heads_rnd

def lv : List Ln := [⟨0, 1, 1, 0, 0⟩]
theorem lv_fault : fault 2 lv = 0 := by decide +kernel
def lvT : List Int := tab lv
theorem lv0 : rnd (tab lv) 0 (itW (rnd (tab lv) 0) (List.replicate (2 : Int).toNat []) 0) ≠ itW (rnd (tab lv) 0) (List.replicate (2 : Int).toNat []) 0 := by decide +kernel
theorem lv1 : rnd (tab lv) 0 (itW (rnd (tab lv) 0) (List.replicate (2 : Int).toNat []) 1) ≠ itW (rnd (tab lv) 0) (List.replicate (2 : Int).toNat []) 1 := by decide +kernel
theorem lv2 : rnd (tab lv) 0 (itW (rnd (tab lv) 0) (List.replicate (2 : Int).toNat []) 2) = itW (rnd (tab lv) 0) (List.replicate (2 : Int).toNat []) 2 := by decide +kernel
theorem lv2' : itW (rnd (tab lv) 0) (List.replicate (2 : Int).toNat []) 2 = [[0], [1, 0]] := by decide +kernel

theorem lives_spec (hk : ∀ H', Ext H H' → K (.bool true) H') : Wcall Try.prog 30 #[] H K := by
  refine call_body (rs := #[.tmp 0]) Try.func30 rfl Try.ntmps30 rfl rfl (by simp) ?_
  simp [go_sem]
  have hs : Sl RLn 5 (newBlk H [.int .i64 0, .int .i64 1, .int .i64 1, .int .i64 0, .int .i64 0]) (.slice (some ⟨H.length, 0, none⟩) 1 1) lv := by
    refine ⟨some ⟨H.length, 0, none⟩, 1, rfl, by simp [lv], fun h => (by cases h), fun ad ha => ?_⟩
    cases ha
    refine ⟨rfl, by simp [newBlk_length], okShare_new rfl, fun i x hx => ?_⟩
    have hi := (List.getElem?_eq_some_iff.1 hx).1
    have hi0 : i = 0 := by simp [lv] at hi; exact hi
    subst hi0
    simp [lv] at hx
    subst hx
    exact ⟨Ln.cells ⟨0, 1, 1, 0, 0⟩, by simp [rdBlk_new _ _ _ _ _ rfl, Ln.cells], rfl⟩
  refine settle_spec (n := 2) (ls := lv) hs (by simp [lv]) ?_ ?_ ?_
  · intro H' e he h1 h2
    exfalso
    apply h2
    rw [h1, if_neg (by simpa using lv_fault), if_neg (by omega), if_neg (by omega)]
  · intro _ _ _ _ _ i H' s' hi hno hfix he hs'
    have hi2 : i = 2 := by
      rcases Nat.lt_or_ge 2 i with h | h
      · exact absurd lv2 (hno 2 h)
      · match i, h with
        | 0, _ => exact absurd hfix lv0
        | 1, _ => exact absurd hfix lv1
        | 2, _ => rfl
    subst hi2
    rw [lv2'] at hs'
    obtain ⟨a, c, rfl⟩ := hs'.shape
    obtain ⟨b, off, cells, rfl, hb, _, hr, sw, rfl, hsw⟩ := hs'.get (i := 1) (by simp)
    simp at hr hsw
    obtain ⟨aw, cw, rfl⟩ := hsw.shape
    simp [go_sem, hr]
    exact hk _ ((Ext.new (Ext.refl _)).trans he)
  · intro _ _ _ _ _ H' hno he
    exact absurd lv2 (hno 2 (by omega))

theorem law_spec {n origin most : Int} {s : Value} {ls : List Ln} (hs : Sl RLn 5 H s ls) (hk : ∀ H', K (.bool true) H') : Wcall Try.prog 6 #[netV n s, .int .i64 origin, .int .i64 most] H K := by
  obtain ⟨a, c, rfl⟩ := hs.shape
  refine call_body (rs := #[.tmp 6]) Try.func6 rfl Try.ntmps6 rfl rfl (by simp) ?_
  simp [go_sem, netV]
  refine lives_spec fun H1 e1 => ?_
  have hg : H1[H.length]? = some ⟨[.int .i64 n, .slice a ls.length c], 0, true, .live⟩ := ext_get (H := H) e1 (by simp [newBlk])
  have hlt := (List.getElem?_eq_some_iff.1 hg).1
  have hb1 : rdBlk H1 H.length 1 1 = some [.slice a ls.length c] := e1.rd (by simp [go_sem])
  have he1 : Ext H H1 := (Ext.new (Ext.refl H)).trans e1
  simp [go_sem, hb1]
  refine some_spec (hs.ext RLn.mono he1) ?_
  have hw : wrBlk H1 H.length 1 [.slice a (min ls.length 6) c] = some (H1.set H.length ⟨[.int .i64 n, .slice a (min ls.length 6) c], 0, true, .live⟩) := by
    unfold wrBlk
    rw [hg]
    rfl
  have hs6 : Sl RLn 5 (H1.set H.length ⟨[.int .i64 n, .slice a (min ls.length 6) c], 0, true, .live⟩) (.slice a (min ls.length 6) c) (ls.take (min ls.length 6)) := (hs.ext RLn.mono (ext_set he1 (Nat.le_refl _))).take _ (by omega)
  generalize hl6 : ls.take (min ls.length 6) = l6 at hs6
  have h6 : l6.length < 1000000 := by rw [← hl6]; simp; omega
  generalize hmo : min most 8 = mo
  have hmo8 : mo ≤ 8 := by omega
  have hset : ∀ k : Blk, (H1.set H.length k)[H.length]? = some k := fun k => by simp [hlt]
  generalize hH2 : H1.set H.length ⟨[.int .i64 n, .slice a (min ls.length 6) c], 0, true, .live⟩ = H2 at hw hs6
  have hg2 : H2[H.length]? = some ⟨[.int .i64 n, .slice a (min ls.length 6) c], 0, true, .live⟩ := hH2 ▸ hset _
  generalize hlen6 : min ls.length 6 = m6 at *
  have hb02 : rdBlk H2 H.length 0 2 = some [.int .i64 n, .slice a m6 c] := by simp [rdBlk, hg2]
  simp [go_sem, hw, hlt, hmo, hb02]
  refine netFault_spec hs6 h6 fun H3 e3 => ?_
  have hb3 := e3.rd hb02
  have hb30 : rdBlk H3 H.length 0 1 = some [.int .i64 n] := e3.rd (by simp [rdBlk, hg2])
  have hs63 := hs6.ext RLn.mono e3
  -- the errors
  have errs : ∀ (e : Int), e ≠ 0 → (e = if fault n l6 ≠ 0 then fault n l6 else if origin < 0 ∨ origin ≥ n then 1 else if mo < 1 ∨ mo > 1000 then 10 else 0) → e = (if fault n l6 ≠ 0 then fault n l6 else if origin < 0 ∨ origin ≥ n then 1 else if mo < 1 ∨ mo > 1000 then 10 else 0) := fun _ _ h => h
  by_cases F0 : fault n l6 = 0
  · by_cases O1 : origin < 0
    · simp [go_sem, F0, O1, hb3, hb30]
      refine settle_spec hs63 h6 ?_ (fun _ h => absurd h (by omega)) (fun _ h => absurd h (by omega))
      intro H4 e _ he h0
      rw [if_neg (by simpa using F0), if_pos (.inl O1)] at he
      subst he
      simp [go_sem]
      exact hk _
    · by_cases O2 : n ≤ origin
      · simp [go_sem, F0, O1, O2, hb3, hb30]
        refine settle_spec hs63 h6 ?_ (fun _ _ h => absurd h (by omega)) (fun _ _ h => absurd h (by omega))
        intro H4 e _ he h0
        rw [if_neg (by simpa using F0), if_pos (.inr O2)] at he
        subst he
        simp [go_sem]
        exact hk _
      · by_cases M : mo < 1
        · simp [go_sem, F0, O1, O2, M, hb3, hb30]
          refine settle_spec hs63 h6 ?_ (fun _ _ _ h => absurd h (by omega)) (fun _ _ _ h => absurd h (by omega))
          intro H4 e _ he h0
          rw [if_neg (by simpa using F0), if_neg (by omega), if_pos (.inl M)] at he
          subst he
          simp [go_sem]
          exact hk _
        · simp [go_sem, F0, O1, O2, M, hb3, hb30]
          have hfz := fault_zero F0
          have hval := fault_valid F0
          have hn16 : n.toNat ≤ 16 := by omega
          have ho16 : In16 origin := by unfold In16; omega
          have hR := Round.iter (T := tab l6) (origin := origin) hn16 ho16
          have hHd := heads_it (T := tab l6) (origin := origin) (n := n.toNat)
          have hnn : (n.toNat : Int) = n := by omega
          refine settle_spec hs63 h6 ?_ ?_ ?_
          · intro H4 e _ he h0
            rw [if_neg (by simpa using F0), if_neg (by omega), if_neg (by omega)] at he
            exact absurd he h0
          · intro _ _ _ _ _ i0 H4 s' hi0 hno hfix he4 hs'
            have hb4 := he4.rd hb3
            have hb40 := he4.rd hb30
            have hs64 := hs63.ext RLn.mono he4
            have hnil := sl_nils H4 n.toNat H4.length rfl
            obtain ⟨ao, co, rfl⟩ := hs'.shape
            generalize hf : rnd (tab l6) origin = f at hno hfix hR hHd hs'
            generalize hl0 : List.replicate n.toNat ([] : List Int) = l0 at hno hfix hR hHd hs' hnil
            have hn0 : 0 ≤ n ∧ n ≤ 4294967296 := by omega
            simp [go_sem, aMakeSlice, hn0, hb40]
            refine Wc.loopw 103 (fun i : Nat × Heap × Value => [(1, .int .i64 origin), (3, .pointer (some ⟨H.length, 0, none⟩)), (8, .slice ao (itW f l0 i0).length co), (9, .int .i64 i0), (10, .int .i64 0), (11, i.2.2), (67, .int .i64 mo), (68, .int .i64 i.1)]) (fun i => i.2.1)
              (fun i => i.1 ≤ i0 ∧ Ext H4 i.2.1 ∧ Sl RWay 1 i.2.1 i.2.2 (itW f l0 i.1)) (fun i => i0 - i.1) (0, _, .slice (some ⟨H4.length, 0, none⟩) n.toNat n.toNat)
              ⟨Nat.zero_le _, Ext.new (Ext.refl _), hnil⟩ (by simp [go_sem]) rfl (by simp [go_sem]) ?_
            rintro ⟨i, H5, lv⟩ ⟨hi, he5, hlv⟩
            simp only at hi he5 hlv
            obtain ⟨al, cl, rfl⟩ := hlv.shape
            have him : (i : Int) < mo := by omega
            have hRi := hR i
            have hRi2 : Round n.toNat (i + 1) (f (itW f l0 i)) := hR (i + 1)
            have hb5 := he5.rd hb4
            simp [go_sem, him, hb5]
            refine roundOf_spec (n := n) (hs64.ext RLn.mono he5) h6 hval hlv (hRi.ways hn16 (by omega)) (fun w hw => by have := hRi.lens w hw; omega) (hHd i) (by rw [hRi.len]; exact hnn.symm) fun H6 s6 e6 hs6' => ?_
            rw [hf] at hs6'
            simp [go_sem]
            refine sameBest_spec hs6' (hlv.ext RWay.mono e6) (by rw [hRi2.len]; omega) (by rw [hRi.len]; omega) (fun w hw => by have := hRi2.lens w hw; omega) (fun w hw => by have := hRi.lens w hw; omega) fun H7 e7 => ?_
            simp [go_sem]
            refine Br.forkD (fun g => ?_) (fun g => ?_)
            · have hii : i = i0 := by
                rcases Nat.lt_or_ge i i0 with h | h
                · exact absurd g (hno i h)
                · omega
              subst hii
              simp [go_sem, g]
              refine sameBest_spec (hs'.ext RWay.mono ((he5.trans e6).trans e7)) (hlv.ext RWay.mono (e6.trans e7)) (by rw [hRi.len]; omega) (by rw [hRi.len]; omega) (fun w hw => by have := hRi.lens w hw; omega) (fun w hw => by have := hRi.lens w hw; omega) fun H8 e8 => ?_
              simp [go_sem]
              exact hk _
            · have hlt' : i < i0 := by
                rcases Nat.lt_or_ge i i0 with h | h
                · exact h
                · exact absurd (by have : i = i0 := by omega
                                   subst this; exact hfix) g
              simp [go_sem, g]
              exact loopK_next (i + 1, H7, s6) ⟨by simp only; omega, (he5.trans e6).trans e7, hs6'.ext RWay.mono e7⟩ (by simp only; omega) rfl (by simp [go_sem]) (by simp [go_sem, wrap_succ (i := i) (by omega)])
          · intro _ _ _ _ _ H4 hno he4
            have hb4 := he4.rd hb3
            have hb40 := he4.rd hb30
            have hs64 := hs63.ext RLn.mono he4
            have hnil := sl_nils H4 n.toNat H4.length rfl
            generalize hf : rnd (tab l6) origin = f at hno hR hHd
            generalize hl0 : List.replicate n.toNat ([] : List Int) = l0 at hno hR hHd hnil
            have hn0 : 0 ≤ n ∧ n ≤ 4294967296 := by omega
            simp [go_sem, aMakeSlice, hn0, hb40]
            refine Wc.loopw 103 (fun i : Nat × Heap × Value => [(1, .int .i64 origin), (3, .pointer (some ⟨H.length, 0, none⟩)), (8, .slice none 0 0), (9, .int .i64 0), (10, .int .i64 12), (11, i.2.2), (67, .int .i64 mo), (68, .int .i64 i.1)]) (fun i => i.2.1)
              (fun i => (i.1 : Int) ≤ mo ∧ Ext H4 i.2.1 ∧ Sl RWay 1 i.2.1 i.2.2 (itW f l0 i.1)) (fun i => mo.toNat - i.1) (0, _, .slice (some ⟨H4.length, 0, none⟩) n.toNat n.toNat)
              ⟨by simp only; omega, Ext.new (Ext.refl _), hnil⟩ (by simp [go_sem]) rfl (by simp [go_sem]) ?_
            rintro ⟨i, H5, lv⟩ ⟨hi, he5, hlv⟩
            simp only at hi he5 hlv
            obtain ⟨al, cl, rfl⟩ := hlv.shape
            have hRi := hR i
            have hRi2 : Round n.toNat (i + 1) (f (itW f l0 i)) := hR (i + 1)
            have hb5 := he5.rd hb4
            simp [go_sem]
            refine Br.forkD (fun him => ?_) (fun him => ?_)
            · simp [go_sem, him, hb5]
              refine roundOf_spec (n := n) (hs64.ext RLn.mono he5) h6 hval hlv (hRi.ways hn16 (by omega)) (fun w hw => by have := hRi.lens w hw; omega) (hHd i) (by rw [hRi.len]; exact hnn.symm) fun H6 s6 e6 hs6' => ?_
              rw [hf] at hs6'
              simp [go_sem]
              refine sameBest_spec hs6' (hlv.ext RWay.mono e6) (by rw [hRi2.len]; omega) (by rw [hRi.len]; omega) (fun w hw => by have := hRi2.lens w hw; omega) (fun w hw => by have := hRi.lens w hw; omega) fun H7 e7 => ?_
              have g := hno i him
              simp [go_sem, g]
              exact loopK_next (i + 1, H7, s6) ⟨by simp only; omega, (he5.trans e6).trans e7, hs6'.ext RWay.mono e7⟩ (by simp only; omega) rfl (by simp [go_sem]) (by simp [go_sem, wrap_succ (i := i) (by omega)])
            · simp [go_sem, him]
              exact hk _
  · simp [go_sem, F0, hb3, hb30]
    refine settle_spec hs63 h6 ?_ (fun h => absurd h F0) (fun h => absurd h F0)
    intro H4 e _ he h0
    rw [if_pos F0] at he
    subst he
    simp [go_sem, F0]
    exact hk _
end Go.Proofs.Ythifgakeababmaa.Ba
