/- Regions whose order the tape draws: the theorem. -/
import Derived.Test.YtlljiccilldnaaaAm9
set_option linter.unusedVariables false
set_option linter.unusedSimpArgs false
namespace Go.Am
open Go

structure Lex (P : Program) (ops : Array Oper) (E : Nat → Env) (H : Nat → Heap) (v : Nat → Value) (F G : List Nat) (S : Nat → Prop) : Prop where
  env : ∀ (k : Nat) (o : Oper), ops[k]? = some o → E (k + 1) = (E k).putO o.dst (v k)
  step : ∀ (k : Nat) (o : Oper), ops[k]? = some o →
    (guardOn ops o (E k) = some false ∧ v k = undef ∧ H (k + 1) = H k) ∨
    (guardOn ops o (E k) = some true ∧ (heapy o.op = false → fVal P o.op (E k).ev (H k) = some (v k) ∧ H (k + 1) = H k ∧ (k ∈ F → ∀ b, seen o.op (E k).ev = some b → S b)) ∧
      (heapy o.op = true → OpTo P o (E k).ev (H k) (v k) (H (k + 1)) ∧ (k ∈ G → ∀ b, S b → b < (H k).length → (H (k + 1))[b]? = (H k)[b]?)))

def dOk (ops : Array Oper) (F G : List Nat) : Bool :=
  Region.lexB .any ops && (List.range ops.size).all fun j => (List.range ops.size).all fun i => !decide (i < j) || (match ops[i]?, ops[j]? with
    | some oi, some oj => ((Region.before ops).getD j 0).testBit i ||
        (!(heapy oi.op && heapy oj.op) && (!(heapy oi.op && looky oj.op) || (F.contains j && G.contains i)) && (!(looky oi.op && heapy oj.op) || (F.contains i && G.contains j)))
    | _, _ => true)

section
variable {P : Program} {ops : Array Oper} {F G : List Nat}

theorem lexFrom_spec : ∀ (fuel k : Nat) (listed : Array Bool), Region.lexFrom .any ops fuel k listed = true → k + fuel = ops.size → (∀ i, i < ops.size → listed.getD i true = decide (i < k) ∧ listed.getD i false = decide (i < k)) → listed.size = ops.size →
    ∀ i oi, k ≤ i → ops[i]? = some oi → (∀ e ∈ oi.after, Region.binds .any e = true → e.on < i) ∧ (∀ j oj, i < j → ops[j]? = some oj → (∃ e ∈ oj.after, Region.binds .any e = true ∧ e.on = i) ∨ oi.apart ops oj = true)
  | 0, k, listed, h, hk, hL, hs, i, oi, hki, hi => absurd (Array.getElem?_eq_some_iff.1 hi).1 (by omega)
  | fuel + 1, k, listed, h, hk, hL, hs, i, oi, hki, hi => by
    simp only [Region.lexFrom, Bool.and_eq_true] at h
    obtain ⟨⟨h1, h2⟩, h3⟩ := h
    by_cases he : i = k
    · subst he
      refine ⟨fun e hem hb => ?_, fun j oj hij hj => ?_⟩
      · have hr : i ∈ Region.ready .any ops listed := by simpa using h1
        obtain ⟨_, o, ho, hall⟩ := mem_ready.1 hr
        rw [hi] at ho; cases ho
        have := hall e hem hb
        by_cases hlt : e.on < ops.size
        · rw [(hL e.on hlt).2] at this; simpa using this
        · rw [Array.getD_eq_getD_getElem?, Array.getElem?_eq_none (by omega)] at this; cases this
      · by_cases hex : ∃ e ∈ oj.after, Region.binds .any e = true ∧ e.on = i
        · exact .inl hex
        · right
          have hjl := (Array.getElem?_eq_some_iff.1 hj).1
          exact Region.free_spec hi h2 j oj hj (by omega) (by rw [(hL j hjl).1]; simp; omega) (fun e hem hb heq => hex ⟨e, hem, hb, heq⟩)
    · refine lexFrom_spec fuel (k + 1) _ h3 (by omega) (fun m hm => ?_) (by simpa using hs) i oi (by omega) hi
      by_cases hmk : m = k
      · subst hmk
        have : (listed.setIfInBounds m true)[m]? = some true := by rw [Array.getElem?_setIfInBounds_self, if_pos (by omega)]
        simp [Array.getD_eq_getD_getElem?, this]
      · rw [getD_set_ne true (Ne.symm hmk), getD_set_ne false (Ne.symm hmk), (hL m hm).1, (hL m hm).2]
        constructor <;> (congr 1; apply propext; omega)

structure Stat (ops : Array Oper) (F G : List Nat) : Prop where
  nosel : Region.noSelect ops = true
  deps : ∀ (i : Nat) (oi : Oper), ops[i]? = some oi → ∀ e ∈ oi.after, Region.binds .any e = true → e.on < i
  free : ∀ (i j : Nat) (oi oj : Oper), i < j → ops[i]? = some oi → ops[j]? = some oj → (∃ e ∈ oj.after, Region.binds .any e = true ∧ e.on = i) ∨ oi.apart ops oj = true
  ord : ∀ (i j : Nat) (oi oj : Oper), i < j → ops[i]? = some oi → ops[j]? = some oj → Before ops i j ∨ (¬ (heapy oi.op = true ∧ heapy oj.op = true) ∧ (heapy oi.op = true → looky oj.op = true → j ∈ F ∧ i ∈ G) ∧ (looky oi.op = true → heapy oj.op = true → i ∈ F ∧ j ∈ G))

theorem dOk_spec (h : dOk ops F G = true) : Stat ops F G := by
  simp only [dOk, Region.lexB, Bool.and_eq_true] at h
  obtain ⟨⟨h1, h2⟩, h3⟩ := h
  have hs := lexFrom_spec ops.size 0 (Array.replicate ops.size false) h2 (by omega) (fun i hi => by simp [Array.getD_eq_getD_getElem?, hi]) (by simp)
  refine ⟨h1, fun i oi hi => (hs i oi (Nat.zero_le _) hi).1, fun i j oi oj hij hi hj => (hs i oi (Nat.zero_le _) hi).2 j oj hij hj, fun i j oi oj hij hi hj => ?_⟩
  have hil := (Array.getElem?_eq_some_iff.1 hi).1
  have hjl := (Array.getElem?_eq_some_iff.1 hj).1
  have := List.all_eq_true.1 (List.all_eq_true.1 h3 j (by simpa using hjl)) i (by simpa using hil)
  simp only [hi, hj, hij, decide_true, Bool.not_true, Bool.false_or] at this
  rcases Bool.or_eq_true _ _ ▸ this with hb | hb
  · exact .inl (before_sound hb)
  · right
    simp only [Bool.and_eq_true, Bool.or_eq_true, Bool.not_eq_true', List.contains_iff_mem] at hb
    obtain ⟨⟨b1, b2⟩, b3⟩ := hb
    refine ⟨fun ⟨c1, c2⟩ => by simp [c1, c2] at b1, fun c1 c2 => ?_, fun c1 c2 => ?_⟩
    · simpa [c1, c2] using b2
    · simpa [c1, c2] using b3

/-- The slots behind those operations that are listed. -/
def EL (ops : Array Oper) (v : Nat → Value) (E0 : Env) (listed : Array Bool) : Nat → Env
  | 0 => E0
  | k + 1 => match ops[k]? with
    | some o => if listed.getD k false = true then (EL ops v E0 listed k).putO o.dst (v k) else EL ops v E0 listed k
    | none => EL ops v E0 listed k

theorem putO_comm (E : Env) {x y : Option Nat} (v u : Value) (h : ∀ d, x = some d → y ≠ some d) : (E.putO x v).putO y u = (E.putO y u).putO x v := by
  cases x with
  | none => rfl
  | some d =>
    cases y with
    | none => rfl
    | some e =>
      have hne : d ≠ e := fun he => h d rfl (he ▸ rfl)
      have hne' : e ≠ d := Ne.symm hne
      simp only [Env.putO, Env.put]
      congr 1
      funext t
      by_cases h1 : t = e
      · subst h1; simp [hne']
      · by_cases h2 : t = d
        · subst h2; simp [hne]
        · simp [h1, h2]

theorem putO_other (E : Env) {x : Option Nat} {v : Value} {t : Nat} (h : ∀ d, x = some d → d ≠ t) : (E.putO x v).f t = E.f t := by
  cases x with
  | none => rfl
  | some d => exact f_put_ne E d t v (Ne.symm (h d rfl))

theorem EL_set {v : Nat → Value} {E0 : Env} {listed : Array Bool} {j : Nat} {oj : Oper} (hj : ops[j]? = some oj) (hsz : j < listed.size) (hun : listed.getD j false = false)
    (hap : ∀ m om, j < m → ops[m]? = some om → listed.getD m false = true → oj.apart ops om = true) : ∀ k, EL ops v E0 (listed.setIfInBounds j true) k = if j < k then (EL ops v E0 listed k).putO oj.dst (v j) else EL ops v E0 listed k
  | 0 => by simp [EL]
  | k + 1 => by
    simp only [EL]
    have ih := EL_set (v := v) (E0 := E0) hj hsz hun hap k
    cases hk : ops[k]? with
    | none =>
      simp only
      rw [ih]
      have hkl : ops.size ≤ k := by
        rcases Nat.lt_or_ge k ops.size with h | h
        · rw [Array.getElem?_eq_getElem h] at hk; cases hk
        · exact h
      have hjl := (Array.getElem?_eq_some_iff.1 hj).1
      rw [if_pos (by omega), if_pos (by omega)]
    | some o =>
      simp only
      by_cases he : k = j
      · subst he
        rw [hj] at hk; cases hk
        have : (listed.setIfInBounds k true).getD k false = true := by rw [Array.getD_eq_getD_getElem?, Array.getElem?_setIfInBounds_self, if_pos hsz]; rfl
        rw [if_pos this, ih, if_neg (by omega), if_pos (by omega), hun]
        simp
      · rw [getD_set_ne false (Ne.symm he), ih]
        by_cases hlt : j < k
        · have hlt2 : j < k + 1 := by omega
          simp only [hlt, hlt2, if_true]
          split
          · rename_i hl
            exact putO_comm _ _ _ (fun d hd => (Oper.apart_spec (hap k o hlt hk hl)).2.1 d hd)
          · rfl
        · have hlt2 : ¬ j < k + 1 := by omega
          simp only [hlt, hlt2, if_false]

theorem EL_n {v : Nat → Value} {E0 : Env} {listed : Array Bool} : ∀ k, (EL ops v E0 listed k).n = E0.n
  | 0 => rfl
  | k + 1 => by
    simp only [EL]
    split
    · split
      · rename_i o _ _
        cases hd : o.dst <;> simp [Env.putO, Env.put, EL_n k]
      · exact EL_n k
    · exact EL_n k

variable {E : Nat → Env} {H : Nat → Heap} {v : Nat → Value} {S : Nat → Prop}

def Closed (ops : Array Oper) (listed : Array Bool) : Prop := ∀ (j : Nat) (o : Oper), ops[j]? = some o → listed.getD j false = true → ∀ e ∈ o.after, Region.binds .any e = true → listed.getD e.on false = true

theorem Closed.before {listed : Array Bool} (hc : Closed ops listed) {i j : Nat} (h : Before ops i j) : listed.getD j false = true → listed.getD i false = true := by
  induction h with
  | direct ho he hb heq => intro hj; rw [← heq]; exact hc _ _ ho hj _ he hb
  | trans _ _ ih1 ih2 => intro hj; exact ih1 (ih2 hj)

theorem ready_before {listed : Array Bool} (hc : Closed ops listed) {i j : Nat} (h : Before ops i j) (hr : j ∈ Region.ready .any ops listed) : listed.getD i false = true := by
  induction h with
  | direct ho he hb heq =>
    obtain ⟨_, o, ho', hall⟩ := mem_ready.1 hr
    rw [ho] at ho'; cases ho'
    rw [← heq]; exact hall _ he hb
  | trans h1 _ _ ih2 => exact hc.before h1 (ih2 hr)

theorem Before.lt (hs : Stat ops F G) {i j : Nat} (h : Before ops i j) : i < j := by
  induction h with
  | direct ho he hb heq => rw [← heq]; exact hs.deps _ _ ho _ he hb
  | trans _ _ ih1 ih2 => omega

/-- An operation that is ready finds in its slots what it finds in the text's order. -/
theorem EL_looks (hs : Stat ops F G) (hx : Lex P ops E H v F G S) {listed : Array Bool} (hc : Closed ops listed) {j : Nat} {oj : Oper} (hj : ops[j]? = some oj) (hr : j ∈ Region.ready .any ops listed) (hun : listed.getD j false = false) {t : Nat} (ht : t ∈ oj.looksAt ops) :
    ∀ k, k ≤ ops.size → (EL ops v (E 0) listed k).f t = (E (min k j)).f t
  | 0, _ => by simp [EL]
  | k + 1, hkn => by
    have ih := EL_looks hs hx hc hj hr hun ht k (by omega)
    obtain ⟨ok, hk⟩ : ∃ o, ops[k]? = some o := ⟨ops[k], Array.getElem?_eq_getElem (by omega)⟩
    simp only [EL, hk]
    by_cases hkj : k < j
    · rw [Nat.min_eq_left (by omega)] at ih ⊢
      rw [hx.env k ok hk]
      split
      · cases hd : ok.dst with
        | none => simpa [Env.putO] using ih
        | some d =>
          simp only [Env.putO, Env.put]
          have hn : (EL ops v (E 0) listed k).n = (E k).n := by
            rw [EL_n]
            have : ∀ m, m ≤ ops.size → (E m).n = (E 0).n := by
              intro m
              induction m with
              | zero => intro _; rfl
              | succ m ihm =>
                intro hm
                obtain ⟨om, hom⟩ : ∃ o, ops[m]? = some o := ⟨ops[m], Array.getElem?_eq_getElem (by omega)⟩
                rw [hx.env m om hom]
                cases om.dst <;> simpa [Env.putO, Env.put] using ihm (by omega)
            exact (this k (by omega)).symm
          rw [hn]
          split
          · rfl
          · exact ih
      · rename_i hl
        rw [ih]
        refine (putO_other _ fun d hd => ?_).symm
        rcases hs.free k j ok oj hkj hk hj with ⟨e, he, hb, heq⟩ | hap
        · obtain ⟨_, o, ho, hall⟩ := mem_ready.1 hr
          rw [hj] at ho; cases ho
          have := hall e he hb
          rw [heq] at this
          exact absurd this hl
        · intro hdt
          subst hdt
          exact (Oper.apart_spec hap).1 _ hd ht
    · rw [Nat.min_eq_right (by omega)] at ih ⊢
      split
      · rename_i hl
        rw [← ih]
        have hne : k ≠ j := fun e => by subst e; rw [hun] at hl; cases hl
        refine putO_other _ fun d hd => ?_
        rcases hs.free j k oj ok (by omega) hj hk with ⟨e, he, hb, heq⟩ | hap
        · have := hc k ok hk hl e he hb
          rw [heq, hun] at this; cases this
        · intro hdt
          subst hdt
          exact (Oper.apart_spec hap).2.2 _ hd ht
      · exact ih
end
end Go.Am
