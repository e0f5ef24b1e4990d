/- The table says what the reference says; ranks order as the choice does. -/
import Derived.Test.YthifgakeababmaaBa12
set_option linter.unusedVariables false
set_option linter.unusedSimpArgs false
set_option maxRecDepth 10000
namespace Go.Proofs.Ythifgakeababmaa.Ba
open Go Go.Am

theorem put2_get {T : List Int} {o j : Nat} {k p : Int} (h : o + 2 ≤ T.length) : (put2 T o k p).getD j 0 = if j = o then k else if j = o + 1 then p else T.getD j 0 := by
  have ht : (T.take o).length = o := by simp; omega
  unfold put2
  simp only [List.getD_eq_getElem?_getD]
  by_cases h1 : j < o
  · rw [List.append_assoc, List.getElem?_append_left (by omega), if_neg (by omega), if_neg (by omega), List.getElem?_take_of_lt h1]
  · by_cases h2 : j = o
    · subst h2
      rw [List.append_assoc, List.getElem?_append_right (by omega), ht, if_pos rfl]
      simp
    · by_cases h3 : j = o + 1
      · subst h3
        rw [List.append_assoc, List.getElem?_append_right (by omega), ht, if_neg h2, if_pos rfl]
        simp
      · rw [List.getElem?_append_right (by simp; omega), if_neg h2, if_neg h3, List.getElem?_drop]
        congr 2
        simp
        omega

def agree (T : List Int) (p : Int × Int) (u v : Int) : Prop := tk T u v = p.1 ∧ (p.1 ≠ 0 → tp T u v = orOf p.2 (400 - 100 * p.1))

theorem agree_step {T : List Int} {p : Int × Int} {u v : Int} {x : Ln} (hT : T.length = 512) (hx : inTab x) (hab : x.a ≠ x.b) (hu : In16 u) (hv : In16 v) (h : agree T p u v) : agree (tStep T x) (kStep u v p x) u v := by
  unfold inTab at hx
  unfold In16 at hu hv
  have e1 := put2_len (T := T) (o := x.a.toNat * 32 + x.b.toNat * 2) (k := x.k) (p := orOf x.pa (400 - 100 * x.k)) (by omega)
  unfold agree tk tp tStep at *
  rw [put2_get (by omega), put2_get (by omega), put2_get (by omega), put2_get (by omega)]
  generalize hj : u.toNat * 32 + v.toNat * 2 = j
  generalize ho1 : x.a.toNat * 32 + x.b.toNat * 2 = o1
  generalize ho2 : x.b.toNat * 32 + x.a.toNat * 2 = o2
  rw [hj] at h
  have q1 : ¬ j = o1 + 1 := by omega
  have q2 : ¬ j = o2 + 1 := by omega
  have q3 : ¬ j + 1 = o1 := by omega
  have q4 : ¬ j + 1 = o2 := by omega
  unfold kStep
  simp only
  by_cases c2 : x.a = v ∧ x.b = u
  · have e : j = o2 := by rw [← hj, ← ho2, c2.1, c2.2]
    have e' : j + 1 = o2 + 1 := by rw [e]
    simp only [if_pos c2, if_pos e, if_neg q4, if_pos e']
    exact ⟨trivial, fun _ => trivial⟩
  · have n2 : ¬ j = o2 := fun e => c2 ⟨by omega, by omega⟩
    have n2' : ¬ j + 1 = o2 + 1 := by omega
    by_cases c1 : x.a = u ∧ x.b = v
    · have e : j = o1 := by rw [← hj, ← ho1, c1.1, c1.2]
      have e' : j + 1 = o1 + 1 := by rw [e]
      simp only [if_neg c2, if_pos c1, if_neg n2, if_neg q2, if_pos e, if_neg q4, if_neg n2', if_neg q3, if_pos e']
      exact ⟨trivial, fun _ => trivial⟩
    · have n1 : ¬ j = o1 := fun e => c1 ⟨by omega, by omega⟩
      have n1' : ¬ j + 1 = o1 + 1 := by omega
      simp only [if_neg c2, if_neg c1, if_neg n2, if_neg q2, if_neg n1, if_neg q1, if_neg q4, if_neg n2', if_neg q3, if_neg n1']
      exact h

theorem agree_all {u v : Int} (hu : In16 u) (hv : In16 v) : ∀ (ls : List Ln) (T : List Int) (p : Int × Int), T.length = 512 → (∀ x ∈ ls, inTab x ∧ x.a ≠ x.b) → agree T p u v → agree (ls.foldl tStep T) (ls.foldl (kStep u v) p) u v
  | [], _, _, _, _, h => h
  | x :: ls, T, p, hT, hl, h => by
    have hx := hl x (List.mem_cons_self ..)
    exact agree_all hu hv ls _ _ (tStep_len hx.1 hT) (fun y hy => hl y (List.mem_cons_of_mem _ hy)) (agree_step hT hx.1 hx.2 hu hv h)

theorem zeroT_get (j : Nat) : zeroT.getD j 0 = 0 := by
  unfold zeroT
  rw [List.getD_eq_getElem?_getD, List.getElem?_replicate]
  split <;> rfl

structure Valid (ls : List Ln) : Prop where
  tab : ∀ x ∈ ls, inTab x ∧ x.a ≠ x.b
  pref : ∀ x ∈ ls, 0 ≤ x.pa ∧ x.pa ≤ 1000 ∧ 0 ≤ x.pb ∧ x.pb ≤ 1000

theorem fault_valid {n : Int} {ls : List Ln} (h : fault n ls = 0) : Valid ls := by
  refine ⟨fun x hx => ⟨fault_tab h x hx, ?_⟩, fun x hx => ?_⟩
  · obtain ⟨i, hi, _, h0⟩ := firstFault_zero (fault_zero h).2.2 hx
    intro e
    unfold lnFault at h0
    split at h0
    · omega
    · simp [e] at h0
  · have := fault_link h hx
    unfold bad at this
    omega

theorem tab_agree {ls : List Ln} (h : Valid ls) {u v : Int} (hu : In16 u) (hv : In16 v) : agree (tab ls) (kRaw ls u v) u v :=
  agree_all hu hv ls zeroT (0, 0) zeroT_len h.tab ⟨by unfold tk; rw [zeroT_get], fun h => absurd rfl h⟩

theorem tk_kind {ls : List Ln} (h : Valid ls) {u v : Int} (hu : In16 u) (hv : In16 v) : tk (tab ls) u v = kKind ls u v := (tab_agree h hu hv).1
theorem tp_pref {ls : List Ln} (h : Valid ls) {u v : Int} (hu : In16 u) (hv : In16 v) (h0 : kKind ls u v ≠ 0) : tp (tab ls) u v = kPref ls u v := by
  rw [(tab_agree h hu hv).2 h0]
  unfold kPref orOf usualOf
  unfold kKind at h0
  by_cases h1 : (kRaw ls u v).2 = 0
  · simp [h1, h0]
  · simp [h1]

theorem kRaw_pref {u v : Int} : ∀ {ls : List Ln}, (∀ x ∈ ls, 0 ≤ x.pa ∧ x.pa ≤ 1000 ∧ 0 ≤ x.pb ∧ x.pb ≤ 1000) → ∀ p : Int × Int, 0 ≤ p.2 ∧ p.2 ≤ 1000 → 0 ≤ (ls.foldl (kStep u v) p).2 ∧ (ls.foldl (kStep u v) p).2 ≤ 1000
  | [], _, p, hp => hp
  | x :: ls, h, p, hp => by
    rw [List.foldl_cons]
    refine kRaw_pref (fun y hy => h y (List.mem_cons_of_mem _ hy)) _ ?_
    have := h x (List.mem_cons_self ..)
    unfold kStep
    split <;> (try split) <;> simp <;> omega

theorem Valid.k {ls : List Ln} (h : Valid ls) : ∀ x ∈ ls, 1 ≤ x.k ∧ x.k ≤ 3 := fun x hx => by have := (h.tab x hx).1; unfold inTab at this; omega

theorem pref_range {ls : List Ln} (h : Valid ls) {u v : Int} : 0 ≤ kPref ls u v ∧ kPref ls u v ≤ 1000 := by
  have h1 := kRaw_pref (u := u) (v := v) h.pref (0, 0) ⟨by simp, by simp⟩
  have h2 := kind_range (u := u) (v := v) h.k
  unfold kKind at h2
  unfold kPref usualOf
  split
  · split <;> omega
  · exact h1

/-- The reference's rank. -/
def rank (ls : List Ln) (u : Int) (ws : List (List Int)) (v : Nat) : Int := (kPref ls u v * 64 + 40 - (wayOf ws v).length) * 64 + 40 - v
def rankOf (ls : List Ln) (u : Int) (ws : List (List Int)) : Option Nat → Int
  | none => -1
  | some k => rank ls u ws k
def bestOf (u : Int) (ws : List (List Int)) : Option Nat → List Int
  | none => []
  | some k => u :: wayOf ws k

theorem rank_pos {ls : List Ln} (h : Valid ls) {u : Int} {ws : List (List Int)} {v : Nat} (hv : v < 16) (hl : (wayOf ws v).length ≤ 30) : rank ls u ws v > -1 := by
  have := pref_range h (u := u) (v := v)
  unfold rank; omega

theorem rank_better {ls : List Ln} (h : Valid ls) {u : Int} {ws : List (List Int)} {v k : Nat} (hu : In16 u) (hkv : k < v) (hv : v < 16) (hl : (wayOf ws v).length ≤ 30) (hl2 : (wayOf ws k).length ≤ 30) (h1 : kKind ls u v ≠ 0) (h2 : kKind ls u k ≠ 0) :
    rank ls u ws v > rank ls u ws k ↔ better (tab ls) u ws v k := by
  have i1 : In16 (v : Int) := by unfold In16; omega
  have i2 : In16 (k : Int) := by unfold In16; omega
  unfold better rank
  rw [tp_pref h hu i1 h1, tp_pref h hu i2 h2]
  omega
end Go.Proofs.Ythifgakeababmaa.Ba
