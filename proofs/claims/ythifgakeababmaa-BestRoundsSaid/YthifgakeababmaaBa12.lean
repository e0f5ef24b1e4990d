/- Settling: rounds until nothing changes. -/
import Derived.Test.YthifgakeababmaaBa11
set_option linter.unusedVariables false
set_option linter.unusedSimpArgs false
set_option maxRecDepth 10000
namespace Go.Proofs.Ythifgakeababmaa.Ba
open Go Go.Am
open Go.Proofs.Ythifgakeababmaa.Fx
variable {H : Heap} {K : Value → Heap → Prop}

def itW (f : List (List Int) → List (List Int)) (l : List (List Int)) : Nat → List (List Int)
  | 0 => l
  | i + 1 => f (itW f l i)

theorem firstFault_zero {n : Int} {ls : List Ln} (h : firstFault n ls = 0) {x : Ln} (hx : x ∈ ls) : ∃ i, ∃ hi : i < ls.length, ls[i] = x ∧ lnFault n (ls.take i) x = 0 := by
  obtain ⟨i, hi, rfl⟩ := List.getElem_of_mem hx
  refine ⟨i, hi, rfl, ?_⟩
  unfold firstFault at h
  cases hf : (lnFaults n ls).find? (· ≠ 0) with
  | none =>
    rw [List.find?_eq_none] at hf
    have := hf (lnFault n (ls.take i) ls[i]) (by rw [← lnFaults_get hi]; exact List.getElem_mem _)
    simpa using this
  | some y =>
    rw [hf] at h
    have := List.find?_some hf
    simp at h this
    exact absurd h this

theorem fault_zero {n : Int} {ls : List Ln} (h : fault n ls = 0) : 1 ≤ n ∧ n ≤ 16 ∧ firstFault n ls = 0 := by
  unfold fault at h
  split at h
  · omega
  · split at h
    · omega
    · exact ⟨by omega, by omega, h⟩

theorem fault_link {n : Int} {ls : List Ln} (h : fault n ls = 0) {x : Ln} (hx : x ∈ ls) : ¬ bad n x := by
  obtain ⟨i, hi, _, h0⟩ := firstFault_zero (fault_zero h).2.2 hx
  intro hb
  unfold lnFault at h0
  rw [if_pos hb] at h0
  omega

theorem fault_tab {n : Int} {ls : List Ln} (h : fault n ls = 0) : ∀ x ∈ ls, inTab x := by
  intro x hx
  have h1 := fault_link h hx
  have h2 := fault_zero h
  unfold bad at h1
  unfold inTab
  omega

theorem rnd_len {T : List Int} {origin : Int} {ws : List (List Int)} : (rnd T origin ws).length = ws.length := by simp [rnd]

theorem chosen_len {T : List Int} {u : Int} {ws : List (List Int)} {m : Nat} (h : ∀ w ∈ ws, w.length ≤ m) : (chosen T u ws).length ≤ m + 1 := by
  unfold chosen
  split
  · simp
  · rename_i k hk
    have hkl := cIdx_lt _ k hk
    rw [wayOf_get hkl]
    have := h _ (List.getElem_mem hkl)
    simpa using this

theorem chosen_in {T : List Int} {u : Int} {ws : List (List Int)} (hu : In16 u) (h : ∀ w ∈ ws, ∀ x ∈ w, In16 x) : ∀ x ∈ chosen T u ws, In16 x := by
  intro x hx
  unfold chosen at hx
  split at hx
  · cases hx
  · rename_i k hk
    have hkl := cIdx_lt _ k hk
    rw [wayOf_get hkl] at hx
    rcases List.mem_cons.1 hx with rfl | hx
    · exact hu
    · exact h _ (List.getElem_mem hkl) x hx

/-- The routes behind i rounds. -/
structure Round (n : Nat) (m : Nat) (ws : List (List Int)) : Prop where
  len : ws.length = n
  lens : ∀ w ∈ ws, w.length ≤ m
  ins : ∀ w ∈ ws, ∀ x ∈ w, In16 x

theorem Round.next {T : List Int} {origin : Int} {n m : Nat} {ws : List (List Int)} (h : Round n m ws) (hn : n ≤ 16) (ho : In16 origin) : Round n (m + 1) (rnd T origin ws) := by
  refine ⟨rnd_len.trans h.len, fun w hw => ?_, fun w hw x hx => ?_⟩
  · obtain ⟨u, hu, rfl⟩ := List.mem_map.1 hw
    unfold rWay
    split
    · simp
    · exact chosen_len h.lens
  · obtain ⟨u, hu, rfl⟩ := List.mem_map.1 hw
    have hul := List.mem_range.1 hu
    rw [h.len] at hul
    unfold rWay at hx
    split at hx
    · rw [List.mem_singleton] at hx; subst hx; exact ho
    · exact chosen_in (by unfold In16; omega) h.ins x hx

theorem Round.start (n : Nat) : Round n 0 (List.replicate n []) := ⟨by simp, fun w hw => by rw [(List.mem_replicate.1 hw).2]; simp, fun w hw x hx => by rw [(List.mem_replicate.1 hw).2] at hx; cases hx⟩

theorem Round.iter {T : List Int} {origin : Int} {n : Nat} (hn : n ≤ 16) (ho : In16 origin) : ∀ i, Round n i (itW (rnd T origin) (List.replicate n []) i)
  | 0 => Round.start n
  | i + 1 => (Round.iter hn ho i).next hn ho

theorem Round.ways {n m : Nat} {ws : List (List Int)} (h : Round n m ws) (hn : n ≤ 16) (hm : m < 100000) : Ways ws := ⟨by rw [h.len]; exact hn, fun w hw => by have := h.lens w hw; omega, h.ins⟩

theorem tabAt_new {T : List Int} {b : Nat} (hT : T.length = 512) (hb : b = H.length) : TabAt (newBlk H (ints T)) b T := by
  refine ⟨by simp [newBlk_length, hb], hT, fun o ho => ?_⟩
  rw [rdBlk_new _ _ _ _ _ hb, if_pos (by simp [ints]; omega), ints, ← List.map_drop, List.drop_eq_getElem_cons ho]
  rfl

theorem sl_nils (H : Heap) (n b : Nat) (hb : b = H.length) : Sl RWay 1 (newBlk H (List.replicate n (.slice none 0 0))) (.slice (some ⟨b, 0, none⟩) n n) (List.replicate n []) := by
  refine ⟨some ⟨b, 0, none⟩, n, by simp, by simp, fun h => (by cases h), fun ad ha => ?_⟩
  cases ha
  refine ⟨rfl, by simp [newBlk_length, hb], okShare_new hb, fun i x hx => ?_⟩
  have hi := (List.getElem?_eq_some_iff.1 hx).1
  simp at hi
  have hx' : x = [] := by simp [hi] at hx; exact hx
  subst hx'
  refine ⟨[.slice none 0 0], ?_, .slice none 0 0, rfl, none, 0, rfl, Nat.le_refl _, fun _ => rfl, fun ad h => (by cases h)⟩
  rw [rdBlk_new _ _ _ _ _ hb, if_pos (by simp; omega), Nat.zero_add, Nat.mul_one, List.drop_replicate]
  obtain ⟨m, hm⟩ : ∃ m, n - i = m + 1 := ⟨n - i - 1, by omega⟩
  rw [hm]; rfl

theorem settle_spec {n origin most : Int} {s : Value} {ls : List Ln} (hs : Sl RLn 5 H s ls) (hl : ls.length < 1000000)
    (hk0 : ∀ H' e, Ext H H' → (e = if fault n ls ≠ 0 then fault n ls else if origin < 0 ∨ origin ≥ n then 1 else if most < 1 ∨ most > 1000 then 10 else 0) → e ≠ 0 → K (.tuple #[.slice none 0 0, .int .i64 0, .int .i64 e]) H')
    (hk1 : fault n ls = 0 → 0 ≤ origin → origin < n → 1 ≤ most → most ≤ 1000 → ∀ (i : Nat) H' s', i < most → (∀ j, j < i → rnd (tab ls) origin (itW (rnd (tab ls) origin) (List.replicate n.toNat []) j) ≠ itW (rnd (tab ls) origin) (List.replicate n.toNat []) j) →
      rnd (tab ls) origin (itW (rnd (tab ls) origin) (List.replicate n.toNat []) i) = itW (rnd (tab ls) origin) (List.replicate n.toNat []) i → Ext H H' → Sl RWay 1 H' s' (itW (rnd (tab ls) origin) (List.replicate n.toNat []) i) → K (.tuple #[s', .int .i64 i, .int .i64 0]) H')
    (hk2 : fault n ls = 0 → 0 ≤ origin → origin < n → 1 ≤ most → most ≤ 1000 → ∀ H', (∀ j : Nat, j < most → rnd (tab ls) origin (itW (rnd (tab ls) origin) (List.replicate n.toNat []) j) ≠ itW (rnd (tab ls) origin) (List.replicate n.toNat []) j) → Ext H H' → K (.tuple #[.slice none 0 0, .int .i64 0, .int .i64 12]) H') :
    Wcall Try.prog 33 #[netV n s, .int .i64 origin, .int .i64 most] H K := by
  obtain ⟨a, c, rfl⟩ := hs.shape
  refine call_body (rs := #[.tmp 6, .tmp 7, .tmp 8]) Try.func33 rfl Try.ntmps33 rfl rfl (by simp) ?_
  simp [go_sem, netV]
  refine check_spec (hs.new RLn.mono _) hl fun H1 e1 => ?_
  have hb0 : rdBlk H1 H.length 0 1 = some [.int .i64 n] := e1.rd (by simp [go_sem])
  have hb2 : rdBlk H1 H.length 0 2 = some [.int .i64 n, .slice a ls.length c] := e1.rd (by simp [go_sem])
  have he1 : Ext H H1 := (Ext.new (Ext.refl H)).trans e1
  simp [go_sem]
  refine Br.forkN (fun g1 => ?_) (fun g1 => ?_)
  · simp [go_sem]
    exact hk0 _ _ he1 (by simp [g1]) g1
  simp [go_sem, g1]
  refine Gd.forkN (fun g2 => ?_) (fun g2 => ?_)
  rotate_left
  · simp [go_sem, g2]
    exact hk0 _ _ he1 (by simp [g1, g2]) (by simp)
  simp [go_sem, g2, hb0]
  refine Br.forkD (fun g3 => ?_) (fun g3 => ?_)
  · simp [go_sem, g3]
    exact hk0 _ _ he1 (by simp [g1, g3]) (by simp)
  simp [go_sem, g3]
  have hor : ¬ (origin < 0 ∨ origin ≥ n) := by omega
  refine Gd.forkN (fun g4 => ?_) (fun g4 => ?_)
  rotate_left
  · simp [go_sem, g4]
    exact hk0 _ _ he1 (by rw [if_neg (by simpa using g1), if_neg hor, if_pos (by omega)]) (by simp)
  simp [go_sem, g4]
  refine Br.forkD (fun g5 => ?_) (fun g5 => ?_)
  · simp [go_sem, g5]
    exact hk0 _ _ he1 (by rw [if_neg (by simpa using g1), if_neg hor, if_pos (by omega)]) (by simp)
  have hfz := fault_zero g1
  have htab := fault_tab g1
  have hT := tab_len htab
  have hIl : (ints (tab ls)).length = 512 := by simp [ints, hT]
  have hdr : zs146.drop 512 = [] := List.drop_of_length_le (by rw [zs146_len]; omega)
  simp [go_sem, g5, hb2]
  refine ties_spec (n := n) (hs.ext RLn.mono he1) hl htab fun H2 e2 => ?_
  have hb02 := e2.rd hb0
  have hlt2 : H.length < H2.length := rdBlk_lt hb02
  simp [go_sem, hIl, zs146_len, hdr, hb02, hlt2, aMakeSlice]
  refine ⟨by omega, ?_⟩
  have hn16 : n.toNat ≤ 16 := by omega
  have ho16 : In16 origin := by unfold In16; omega
  have htb := tabAt_new (H := H2) hT rfl
  have hnil := sl_nils (newBlk H2 (ints (tab ls))) n.toNat (H2.length + 1) (by simp [go_sem])
  have hR := Round.iter (T := tab ls) (origin := origin) hn16 ho16
  have heH : Ext H (newBlk H2 (ints (tab ls))) := (he1.trans e2).trans (Ext.new (Ext.refl _))
  generalize hf : rnd (tab ls) origin = f at hk1 hk2 hR
  generalize hl0 : List.replicate n.toNat ([] : List Int) = l0 at hk1 hk2 hR hnil
  refine Wc.loopw 55 (fun i : Nat × Heap × Value => [(1, .int .i64 origin), (10, .pointer (some ⟨H2.length, 0, none⟩)), (11, i.2.2), (41, .int .i64 most), (42, .int .i64 i.1)]) (fun i => i.2.1)
    (fun i => (i.1 : Int) ≤ most ∧ Ext (newBlk H2 (ints (tab ls))) i.2.1 ∧ Sl RWay 1 i.2.1 i.2.2 (itW f l0 i.1) ∧ ∀ j, j < i.1 → f (itW f l0 j) ≠ itW f l0 j) (fun i => most.toNat - i.1) (0, _, .slice (some ⟨H2.length + 1, 0, none⟩) n.toNat n.toNat)
    ⟨by simp only; omega, Ext.new (Ext.refl _), hnil, fun j hj => absurd hj (by simp)⟩ (by simp [go_sem]) rfl (by simp [go_sem]) ?_
  rintro ⟨i, H3, sv⟩ ⟨hi, he, hsv, hno⟩
  simp only at hi he hsv hno
  obtain ⟨av, cv, rfl⟩ := hsv.shape
  simp [go_sem]
  refine Br.forkD (fun h => ?_) (fun h => ?_)
  · have hRi := hR i
    have hRi2 : Round n.toNat (i + 1) (f (itW f l0 i)) := hR (i + 1)
    have hil : i < 100000 := by omega
    simp [go_sem, h]
    refine round_spec (htb.ext he) hsv (hRi.ways hn16 hil) fun H4 s4 e4 hs4 => ?_
    rw [hf] at hs4
    simp [go_sem]
    refine equalFunc_spec hs4 (hsv.ext RWay.mono e4) (by rw [hRi2.len]; omega) (by rw [hRi.len]; omega) (fun w hw => by have := hRi2.lens w hw; omega) (fun w hw => by have := hRi.lens w hw; omega) fun H5 e5 => ?_
    have heA : Ext H H5 := ((heH.trans he).trans e4).trans e5
    simp [go_sem]
    refine Br.forkD (fun g => ?_) (fun g => ?_)
    · simp [go_sem, g]
      exact hk1 g1 (by omega) (by omega) (by omega) (by omega) i H5 _ h hno g heA (hsv.ext RWay.mono (e4.trans e5))
    · simp [go_sem, g]
      refine loopK_next (i + 1, H5, s4) ⟨by simp only; omega, (he.trans e4).trans e5, hs4.ext RWay.mono e5, fun j hj => ?_⟩ (by simp only; omega) rfl (by simp [go_sem]) (by simp [go_sem, wrap_succ (i := i) (by omega)])
      by_cases hji : j = i
      · subst hji; exact g
      · exact hno j (by simp only at hj; omega)
  · simp [go_sem, h]
    exact hk2 g1 (by omega) (by omega) (by omega) (by omega) H3 (fun j hj => hno j (by omega)) (heH.trans he)
end Go.Proofs.Ythifgakeababmaa.Ba
