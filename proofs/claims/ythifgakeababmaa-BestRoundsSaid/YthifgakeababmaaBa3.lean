/- What is wrong with a network: the program's answer and the reference's. -/
import Derived.Test.YthifgakeababmaaBa2
set_option linter.unusedVariables false
set_option linter.unusedSimpArgs false
set_option maxRecDepth 10000
namespace Go.Proofs.Ythifgakeababmaa.Ba
open Go Go.Am
open Go.Proofs.Ythifgakeababmaa.Fx
variable {H : Heap} {K : Value → Heap → Prop}

theorem KI {k : IntKind} {b b' : Int} {H' : Heap} (h : K (.int k b) H') (e : b = b') : K (.int k b') H' := e ▸ h

def bad (n : Int) (x : Ln) : Prop := x.a < 0 ∨ x.a ≥ n ∨ x.b < 0 ∨ x.b ≥ n ∨ x.k < 1 ∨ x.k > 3 ∨ x.pa < 0 ∨ x.pa > 1000 ∨ x.pb < 0 ∨ x.pb > 1000
instance (n : Int) (x : Ln) : Decidable (bad n x) := by unfold bad; infer_instance
def lnFault (n : Int) (pre : List Ln) (x : Ln) : Int := if bad n x then 10 else if x.a = x.b then 1 else if ∃ y ∈ pre, clash x y then 6 else 0
def lnFaults (n : Int) (ls : List Ln) : List Int := (List.range ls.length).map fun i => match ls[i]? with
  | some x => lnFault n (ls.take i) x
  | none => 0
def firstFault (n : Int) (ls : List Ln) : Int := ((lnFaults n ls).find? (· ≠ 0)).getD 0
def fault (n : Int) (ls : List Ln) : Int := if n < 1 ∨ n > 16 then 10 else if ls.length > 64 then 2 else firstFault n ls

theorem lnFaults_get {n : Int} {ls : List Ln} {i : Nat} (h : i < ls.length) : (lnFaults n ls)[i]'(by simp [lnFaults, h]) = lnFault n (ls.take i) ls[i] := by
  simp [lnFaults, h]

theorem firstFault_at {n : Int} {ls : List Ln} {i : Nat} (h : i < ls.length) (h0 : ∀ j (hj : j < ls.length), j < i → lnFault n (ls.take j) ls[j] = 0) (h1 : lnFault n (ls.take i) ls[i] ≠ 0) : firstFault n ls = lnFault n (ls.take i) ls[i] := by
  have hl : (lnFaults n ls).length = ls.length := by simp [lnFaults]
  have : (lnFaults n ls).find? (· ≠ 0) = some (lnFault n (ls.take i) ls[i]) := by
    rw [List.find?_eq_some_iff_getElem]
    refine ⟨by simpa using h1, i, by omega, lnFaults_get h, fun j hj => ?_⟩
    rw [lnFaults_get (by omega)]
    simpa using h0 j (by omega) hj
  unfold firstFault; rw [this]; rfl

theorem firstFault_none {n : Int} {ls : List Ln} (h0 : ∀ j (hj : j < ls.length), lnFault n (ls.take j) ls[j] = 0) : firstFault n ls = 0 := by
  have hl : (lnFaults n ls).length = ls.length := by simp [lnFaults]
  have : (lnFaults n ls).find? (· ≠ 0) = none := by
    rw [List.find?_eq_none]
    intro x hx
    obtain ⟨j, hj, rfl⟩ := List.getElem_of_mem hx
    rw [lnFaults_get (by omega)]
    simpa using h0 j (by omega)
  unfold firstFault; rw [this]; rfl

/-- A network's value. -/
def netV (n : Int) (s : Value) : Value := .agg #[.int .i64 n, s]

theorem check_spec {n : Int} {s : Value} {ls : List Ln} (hs : Sl RLn 5 H s ls) (hl : ls.length < 1000000) (hk : ∀ H', Ext H H' → K (.int .i64 (fault n ls)) H') : Wcall Try.prog 57 #[netV n s] H K := by
  obtain ⟨a, c, rfl⟩ := hs.shape
  refine call_body (rs := #[.tmp 2]) Try.func57 rfl Try.ntmps57 rfl rfl (by simp) ?_
  simp [go_sem, netV]
  refine Gd.forkN (fun c1 => ?_) (fun c1 => ?_) <;> simp [go_sem, c1]
  · refine Br.forkD (fun c2 => ?_) (fun c2 => ?_) <;> simp [go_sem, c1, c2]
    · exact KI (hk _ (by simp [go_sem])) (by simp [fault]; omega)
    · refine Br.forkD (fun c3 => ?_) (fun c3 => ?_) <;> simp [go_sem, c1, c2, c3]
      · exact KI (hk _ (by simp [go_sem])) (by simp [fault]; omega)
      · refine Wc.loopw 84 (fun i : Nat × Heap => [(1, .pointer (some ⟨H.length, 0, none⟩)), (20, .slice a ls.length c), (21, .int .i64 ls.length), (22, .int .i64 i.1)]) (fun i => i.2)
          (fun i => i.1 ≤ ls.length ∧ Ext (newBlk H [.int .i64 n, .slice a ls.length c]) i.2 ∧ ∀ j (h : j < ls.length), j < i.1 → lnFault n (ls.take j) ls[j] = 0) (fun i => ls.length - i.1) (0, _)
          ⟨Nat.zero_le _, Ext.refl _, fun _ _ h => absurd h (by omega)⟩ (by simp [go_sem]) rfl (by simp [go_sem]) ?_
        rintro ⟨i, H1⟩ ⟨hi, he, hno⟩
        simp only at hi he hno
        have hb0 : rdBlk H1 H.length 0 1 = some [.int .i64 n] := he.rd (by simp [go_sem])
        have hb1 : rdBlk H1 H.length 1 1 = some [.slice a ls.length c] := he.rd (by simp [go_sem])
        have hlt : H.length < H1.length := by have := he.len; simp [newBlk_length] at this; omega
        have he0 : Ext H H1 := (Ext.new (Ext.refl H)).trans he
        have hs1 := hs.ext RLn.mono he0
        simp [go_sem]
        refine Br.forkD (fun h => ?_) (fun h => ?_)
        · obtain ⟨b, off, cells, rfl, hb, _, hr, hc⟩ := hs1.get h
          unfold RLn Ln.cells at hc
          have hff := firstFault_at h hno
          have hf0 : fault n ls = firstFault n ls := by simp [fault]; omega
          obtain ⟨x, hx⟩ : ∃ x, ls[i] = x := ⟨_, rfl⟩
          rw [hx] at hc hff
          subst hc
          simp [go_sem, hr, h, hb0, hb1, hlt]
          have done10 : bad n x → firstFault n ls = 10 := fun hb => by rw [hff (by simp [lnFault, hb])]; simp [lnFault, hb]
          refine Gd.forkN (fun d1 => ?_) (fun d1 => ?_)
          rotate_left
          · simp [go_sem, hr, h, hb0, hb1, hlt, d1]
            exact KI (hk _ (by simp [go_sem, he0])) (hf0.trans (done10 (by unfold bad; omega)))
          simp [go_sem, hr, h, hb0, hb1, hlt, d1]
          refine Gd.forkN (fun d2 => ?_) (fun d2 => ?_)
          rotate_left
          · simp [go_sem, hr, h, hb0, hb1, hlt, d1, d2]
            exact KI (hk _ (by simp [go_sem, he0])) (hf0.trans (done10 (by unfold bad; omega)))
          simp [go_sem, hr, h, hb0, hb1, hlt, d1, d2]
          refine Gd.forkN (fun d3 => ?_) (fun d3 => ?_)
          rotate_left
          · simp [go_sem, hr, h, hb0, hb1, hlt, d1, d2, d3]
            exact KI (hk _ (by simp [go_sem, he0])) (hf0.trans (done10 (by unfold bad; omega)))
          simp [go_sem, hr, h, hb0, hb1, hlt, d1, d2, d3]
          refine Gd.forkN (fun d4 => ?_) (fun d4 => ?_)
          rotate_left
          · simp [go_sem, hr, h, hb0, hb1, hlt, d1, d2, d3, d4]
            exact KI (hk _ (by simp [go_sem, he0])) (hf0.trans (done10 (by unfold bad; omega)))
          simp [go_sem, hr, h, hb0, hb1, hlt, d1, d2, d3, d4]
          refine Gd.forkN (fun d5 => ?_) (fun d5 => ?_)
          rotate_left
          · simp [go_sem, hr, h, hb0, hb1, hlt, d1, d2, d3, d4, d5]
            exact KI (hk _ (by simp [go_sem, he0])) (hf0.trans (done10 (by unfold bad; omega)))
          simp [go_sem, hr, h, hb0, hb1, hlt, d1, d2, d3, d4, d5]
          refine Br.forkD (fun d6 => ?_) (fun d6 => ?_)
          · simp [go_sem, hr, h, hb0, hb1, hlt, d1, d2, d3, d4, d5, d6]
            exact KI (hk _ (by simp [go_sem, he0])) (hf0.trans (done10 (by unfold bad; omega)))
          have nb : ¬ bad n x := by unfold bad; omega
          simp [go_sem, hr, h, hb0, hb1, hlt, d1, d2, d3, d4, d5, d6]
          refine Br.forkD (fun d7 => ?_) (fun d7 => ?_)
          · simp [go_sem, hr, h, hb0, hb1, hlt, d1, d2, d3, d4, d5, d6, d7]
            exact KI (hk _ (by simp [go_sem, he0])) (hf0.trans (by rw [hff (by simp [lnFault, nb, d7])]; simp [lnFault, nb, d7]))
          have hs2 := hs1.new RLn.mono x.cells
          unfold Ln.cells at hs2
          have hsl := hs2.aSlice u55 i60 s60 (j := (i : Int)) (by omega) (by omega)
          simp [go_sem, hr, h, hb0, hb1, hlt, d1, d2, d3, d4, d5, d6, d7, hsl]
          refine containsClash_spec (x := x) (hs2.take i (by omega)) (by simp; omega) (by simp [go_sem]) (by simp [go_sem]) (by simp [go_sem]) fun X => ?_
          simp [go_sem]
          refine Br.forkD (fun d8 => ?_) (fun d8 => ?_)
          · simp [go_sem]
            exact KI (hk _ (by simp [go_sem, he0])) (hf0.trans (by rw [hff (by simp [lnFault, nb, d7, d8])]; simp [lnFault, nb, d7, d8]))
          · simp [go_sem]
            refine loopK_next (i + 1, _) ⟨by simp only; omega, by simp [go_sem, he], fun j hj hji => ?_⟩ (by simp only; omega) rfl (by simp [go_sem]) (by simp [go_sem, wrap_succ (i := i) (by omega)])
            by_cases hij : j = i
            · subst hij; rw [hx]; simp [lnFault, nb, d7, d8]
            · exact hno j hj (by simp only at hji; omega)
        · simp [go_sem]
          exact KI (hk _ he0) (by rw [show fault n ls = firstFault n ls by simp [fault]; omega]; exact firstFault_none fun j hj => hno j hj (by omega))
  · exact KI (hk _ (by simp [go_sem])) (by simp [fault]; omega)
end Go.Proofs.Ythifgakeababmaa.Ba
