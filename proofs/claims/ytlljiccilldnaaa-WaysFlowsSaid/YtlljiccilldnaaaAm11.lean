/- Regions whose order the tape draws: every order does what the text's order does. -/
import Derived.Test.YtlljiccilldnaaaAm10
set_option linter.unusedVariables false
set_option linter.unusedSimpArgs false
namespace Go.Am
open Go

section
variable {P : Program} {ops : Array Oper} {F G : List Nat}

/-- One operation, in the machine; its operands are known, the rest of the slots need not be the same. -/
theorem op_wpL {ι : Map} {w : World} {a : Act} {E : Env} {H H' : Heap} {v : Value} {o : Oper} {ρ : Operand → Value} (hr : Rel ι H w) (he : ERel ι E a) (hd : a.defers = []) (hv : ∀ x ∈ o.op.operands, VRel ι (ρ x) (a.eval x)) (h : OpTo P o ρ H v H') {K : Act → World → Prop} {Q : Exit → Act → World → Prop}
    (hk : ∀ ι' a' w', Step ι H w ι' H' w' → ERel ι' (E.putO o.dst v) a' → a'.defers = [] → K a' w') : o.wp P a w K Q := by
  have hy := h.run ι w a.eval hr hv
  unfold Oper.wp
  generalize (execOp a.eval o).run P w = r at hy
  cases r with
  | halt x w' => exact hy.elim
  | ok n w' =>
    cases n <;> simp only [Yields] at hy
    case value u =>
      obtain ⟨ι', h1, h2⟩ := hy
      exact hk ι' _ _ h2 ((he.mono (h2.sub hr)).put _ h1) (by rw [Act.put_defers_eq]; exact hd)
    case skip =>
      obtain ⟨rfl, ι', h2⟩ := hy
      exact hk ι' _ _ h2 ((he.mono (h2.sub hr)).put _ .undef) (by rw [Act.put_defers_eq]; exact hd)
    case enter f args =>
      refine Calls.mono hy ?_
      rintro e w2 ⟨v', ι', rfl, h1, h2⟩
      exact hk ι' _ _ h2 ((he.mono (h2.sub hr)).put _ h1) (by rw [Act.put_defers_eq]; exact hd)

theorem guardOn_congr {E E2 : Env} {o : Oper} (h : ∀ t ∈ o.looksAt ops, E.f t = E2.f t) : guardOn ops o E = guardOn ops o E2 := by
  unfold guardOn
  split
  · rfl
  · rename_i j want hg
    split
    · rfl
    · rename_i d hd
      rw [h d (by simp [Oper.looksAt, hg, hd])]

theorem count_set {p : Nat → Bool} {j : Nat} (hj : p j = true) : ∀ n, j < n → (List.range n).countP p = (List.range n).countP (fun i => p i && !(i == j)) + 1
  | 0, h => by omega
  | n + 1, h => by
    rw [List.range_succ, List.countP_append, List.countP_append]
    by_cases he : j = n
    · subst he
      have h1 : (List.range j).countP p = (List.range j).countP (fun i => p i && !(i == j)) := by
        refine List.countP_congr fun i hi => ?_
        have : i ≠ j := by have := List.mem_range.1 hi; omega
        simp [this]
      rw [h1]
      simp [hj]
    · rw [count_set hj n (by omega)]
      have : n ≠ j := fun e => he e.symm
      simp [this]
      omega

variable {E : Nat → Env} {H : Nat → Heap} {v : Nat → Value} {S : Nat → Prop}

theorem Lex.ext (hx : Lex P ops E H v F G S) : ∀ {i j : Nat}, i ≤ j → j ≤ ops.size → HExt (H i) (H j) := by
  intro i j hij
  induction j with
  | zero => intro _; have : i = 0 := by omega
            subst this; exact .refl _
  | succ j ih =>
    intro hj
    by_cases he : i = j + 1
    · subst he; exact .refl _
    · refine (ih (by omega) (by omega)).trans ?_
      have hk : ops[j]? = some ops[j] := Array.getElem?_eq_getElem (by omega)
      rcases hx.step j _ hk with ⟨_, _, h⟩ | ⟨_, h1, h2⟩
      · rw [h]; exact .refl _
      · cases hh : heapy ops[j].op with
        | false => rw [(h1 hh).2.1]; exact .refl _
        | true => exact (h2 hh).1.ext

/-- What lies behind the operations that do not change memory. -/
theorem Lex.still (hx : Lex P ops E H v F G S) {b : Nat} : ∀ {i j : Nat}, i ≤ j → j ≤ ops.size → b < (H i).length → (∀ k o, i ≤ k → k < j → ops[k]? = some o → heapy o.op = true → k ∈ G ∧ S b) → (H j)[b]? = (H i)[b]? := by
  intro i j hij
  induction j with
  | zero => intro _ _ _; have : i = 0 := by omega
            subst this; rfl
  | succ j ih =>
    intro hj hb hh
    by_cases he : i = j + 1
    · subst he; rfl
    · have h0 := ih (by omega) (by omega) hb (fun k o h1 h2 h3 h4 => hh k o h1 (by omega) h3 h4)
      rw [← h0]
      have hk : ops[j]? = some ops[j] := Array.getElem?_eq_getElem (by omega)
      have hlt : b < (H j).length := Nat.lt_of_lt_of_le hb (hx.ext (i := i) (j := j) (by omega) (by omega)).len
      rcases hx.step j _ hk with ⟨_, _, h⟩ | ⟨_, h1, h2⟩
      · rw [h]
      · cases hhe : heapy ops[j].op with
        | false => rw [(h1 hhe).2.1]
        | true =>
          obtain ⟨g, sb⟩ := hh j _ (by omega) (by omega) hk hhe
          exact (h2 hhe).2 g b sb hlt

theorem Lex.quiet (hx : Lex P ops E H v F G S) : ∀ {i j : Nat}, i ≤ j → j ≤ ops.size → (∀ k o, i ≤ k → k < j → ops[k]? = some o → heapy o.op = false) → H j = H i := by
  intro i j hij
  induction j with
  | zero => intro _ _; have : i = 0 := by omega
            subst this; rfl
  | succ j ih =>
    intro hj hh
    by_cases he : i = j + 1
    · subst he; rfl
    · rw [← ih (by omega) (by omega) (fun k o h1 h2 h3 => hh k o h1 (by omega) h3)]
      have hk : ops[j]? = some ops[j] := Array.getElem?_eq_getElem (by omega)
      rcases hx.step j _ hk with ⟨_, _, h⟩ | ⟨_, h1, h2⟩
      · exact h
      · exact (h1 (hh j _ (by omega) (by omega) hk)).2.1

theorem EL_all (hx : Lex P ops E H v F G S) {listed : Array Bool} (hl : ∀ i, i < ops.size → listed.getD i false = true) : ∀ k, k ≤ ops.size → EL ops v (E 0) listed k = E k
  | 0, _ => rfl
  | k + 1, hk => by
    have h0 : ops[k]? = some ops[k] := Array.getElem?_eq_getElem (by omega)
    simp only [EL, h0, hl k (by omega), if_true]
    rw [EL_all hx hl k (by omega), hx.env k _ h0]

theorem Lex.any (hs : Stat ops F G) (hx : Lex P ops E H v F G S) {ι0 : Map} {w0 : World} {Q : Exit → Act → World → Prop}
    (hQ : ∀ ι a w, Step ι0 (H 0) w0 ι (H ops.size) w → ERel ι (E ops.size) a → a.defers = [] → Q .normal a w) :
    ∀ (fuel : Nat) (listed : Array Bool) (x : Nat) (ι : Map) (a : Act) (w : World), listed.size = ops.size → (List.range ops.size).countP (fun i => !listed.getD i true) = fuel → Closed ops listed →
      x ≤ ops.size → (∀ i o, ops[i]? = some o → heapy o.op = true → (listed.getD i false = true ↔ i < x)) →
      Step ι0 (H 0) w0 ι (H x) w → ERel ι (EL ops v (E 0) listed ops.size) a → a.defers = [] → wpAny P .any ops Q fuel listed a w := by
  have fin : ∀ (listed : Array Bool) (x : Nat) (ι : Map) (a : Act) (w : World), (∀ i, i < ops.size → listed.getD i false = true) → x ≤ ops.size → (∀ i o, ops[i]? = some o → heapy o.op = true → (listed.getD i false = true ↔ i < x)) →
      Step ι0 (H 0) w0 ι (H x) w → ERel ι (EL ops v (E 0) listed ops.size) a → a.defers = [] → Q .normal a w := by
    intro listed x ι a w hl hxs hheap hst he hd
    have : H ops.size = H x := hx.quiet hxs (Nat.le_refl _) fun k o h1 h2 h3 => by
      cases hh : heapy o.op with
      | false => rfl
      | true => have := (hheap k o h3 hh).1 (hl k h2); omega
    rw [← this] at hst
    rw [EL_all hx hl _ (Nat.le_refl _)] at he
    exact hQ ι a w hst he hd
  have allof : ∀ (listed : Array Bool), listed.size = ops.size → Region.ready .any ops listed = [] → ∀ i, i < ops.size → listed.getD i false = true := by
    intro listed hsz hr i
    induction i using Nat.strongRecOn with
    | _ i ih =>
      intro hi
      cases hli : listed.getD i false with
      | true => rfl
      | false =>
        exfalso
        have hg : listed.getD i true = false := by
          rw [Array.getD_eq_getD_getElem?, Array.getElem?_eq_getElem (by omega)] at hli ⊢
          exact hli
        have : i ∈ Region.ready .any ops listed := mem_ready.2 ⟨hg, ops[i], Array.getElem?_eq_getElem hi, fun e he hb => by
          have := hs.deps i _ (Array.getElem?_eq_getElem hi) e he hb
          exact ih e.on this (by omega)⟩
        rw [hr] at this; cases this
  intro fuel
  induction fuel with
  | zero =>
    intro listed x ι a w hsz hc hcl hxs hheap hst he hd
    have hl : ∀ i, i < ops.size → listed.getD i true = true := fun i hi => by
      have := List.countP_eq_zero.1 hc i (List.mem_range.2 hi)
      simpa using this
    have hl' : ∀ i, i < ops.size → listed.getD i false = true := fun i hi => by
      have := hl i hi
      rw [Array.getD_eq_getD_getElem?, Array.getElem?_eq_getElem (by omega)] at this ⊢
      exact this
    refine ⟨?_, fin listed x ι a w hl' hxs hheap hst he hd⟩
    cases hr : Region.ready .any ops listed with
    | nil => rfl
    | cons j _ =>
      have hj : j ∈ Region.ready .any ops listed := by rw [hr]; exact List.mem_cons_self ..
      obtain ⟨h1, o, ho, _⟩ := mem_ready.1 hj
      rw [hl j (Array.getElem?_eq_some_iff.1 ho).1] at h1; cases h1
  | succ fuel ih =>
    intro listed x ι a w hsz hc hcl hxs hheap hst he hd
    refine ⟨fun hr => fin listed x ι a w (allof listed hsz hr) hxs hheap hst he hd, fun j hj => ?_⟩
    obtain ⟨hun, oj, ho, hall⟩ := mem_ready.1 hj
    have hjl := (Array.getElem?_eq_some_iff.1 ho).1
    have hun' : listed.getD j false = false := by
      rw [Array.getD_eq_getD_getElem?, Array.getElem?_eq_getElem (by omega)] at hun ⊢
      exact hun
    have hlook : ∀ t ∈ oj.looksAt ops, (EL ops v (E 0) listed ops.size).f t = (E j).f t := fun t ht => by
      have := EL_looks hs hx hcl ho hj hun' ht ops.size (Nat.le_refl _)
      rwa [Nat.min_eq_right (by omega)] at this
    have hg := guardOn_congr hlook
    have hrel := hst.rel
    have hv : ∀ y ∈ oj.op.operands, VRel ι ((E j).ev y) (a.eval y) := fun y hy => by
      have := he.ev y
      cases y with
      | tmp t =>
        have hm : t ∈ oj.looksAt ops := by
          unfold Oper.looksAt
          refine List.mem_append_left _ (List.mem_filterMap.2 ⟨.tmp t, by simpa using hy, rfl⟩)
        have h1 := hlook t hm
        show VRel ι ((E j).f t) _
        rw [← h1]
        exact this
      | _ => exact this
    -- what comes behind
    have next : ∀ (x' : Nat) (ι' : Map) (a' : Act) (w' : World), x' ≤ ops.size → (∀ i o, ops[i]? = some o → heapy o.op = true → ((listed.setIfInBounds j true).getD i false = true ↔ i < x')) →
        Step ι0 (H 0) w0 ι' (H x') w' → ERel ι' ((EL ops v (E 0) listed ops.size).putO oj.dst (v j)) a' → a'.defers = [] → wpAny P .any ops Q fuel (listed.setIfInBounds j true) a' w' := by
      intro x' ι' a' w' hx' hheap' hst' he' hd'
      refine ih (listed.setIfInBounds j true) x' ι' a' w' (by simpa using hsz) ?_ ?_ hx' hheap' hst' ?_ hd'
      · have h1 := count_set (p := fun i => !listed.getD i true) (j := j) (by simp [hun]) ops.size hjl
        have h2 : (List.range ops.size).countP (fun i => !(listed.setIfInBounds j true).getD i true) = (List.range ops.size).countP (fun i => !listed.getD i true && !(i == j)) := by
          refine List.countP_congr fun i hi => ?_
          by_cases hij : i = j
          · subst hij
            simp [Array.getD_eq_getD_getElem?, Array.getElem?_setIfInBounds_self, hsz, hjl]
          · rw [getD_set_ne true (Ne.symm hij)]; simp [hij]
        rw [h2]; omega
      · intro k o hk hkl e hem hb
        have hset : ∀ i, listed.getD i false = true → (listed.setIfInBounds j true).getD i false = true := fun i hi => by
          by_cases hij : i = j
          · subst hij; rw [hun'] at hi; cases hi
          · rw [getD_set_ne false (Ne.symm hij)]; exact hi
        by_cases hkj : k = j
        · subst hkj
          rw [ho] at hk; cases hk
          exact hset _ (hall e hem hb)
        · rw [getD_set_ne false (Ne.symm hkj)] at hkl
          exact hset _ (hcl k o hk hkl e hem hb)
      · rw [EL_set ho (by omega) hun' (fun m om hjm hm hml => ?_) ops.size, if_pos hjl]
        · exact he'
        · rcases hs.free j m oj om hjm ho hm with ⟨e, hem, hb, heq⟩ | h
          · have := hcl m om hm hml e hem hb
            rw [heq, hun'] at this; cases this
          · exact h
    have keep : ∀ i o, ops[i]? = some o → heapy o.op = true → i ≠ j → ((listed.setIfInBounds j true).getD i false = true ↔ i < x) := fun i o hi hh hij => by
      rw [getD_set_ne false (Ne.symm hij)]; exact hheap i o hi hh
    -- the next heap operation
    have tick : heapy oj.op = true → x ≤ j ∧ H j = H x ∧ (∀ i o, ops[i]? = some o → heapy o.op = true → ((listed.setIfInBounds j true).getD i false = true ↔ i < j + 1)) := by
      intro hh
      have hxj : x ≤ j := by
        rcases Nat.lt_or_ge j x with h | h
        · have := (hheap j oj ho hh).2 h
          rw [hun'] at this; cases this
        · exact h
      have hnone : ∀ k o, x ≤ k → k < j → ops[k]? = some o → heapy o.op = false := fun k o h1 h2 h3 => by
        cases hk : heapy o.op with
        | false => rfl
        | true =>
          rcases hs.ord k j o oj h2 h3 ho with hb | ⟨hb, _⟩
          · have := (hheap k o h3 hk).1 (ready_before hcl hb hj)
            omega
          · exact absurd ⟨hk, hh⟩ hb
      refine ⟨hxj, hx.quiet hxj (by omega) hnone, fun i o hi hhi => ?_⟩
      by_cases hij : i = j
      · subst hij
        simp [Array.getD_eq_getD_getElem?, Array.getElem?_setIfInBounds_self, hsz, hjl]
      · rw [keep i o hi hhi hij]
        constructor
        · intro h; omega
        · intro h
          rcases Nat.lt_or_ge i x with h' | h'
          · exact h'
          · have := hnone i o h' (by omega) hi
            rw [hhi] at this; cases this
    simp only [wpOp, ho]
    rcases hx.step j oj ho with ⟨g0, v0, hH⟩ | ⟨g1, hq, hp⟩
    · -- not carried out
      rw [guardOn_run he (hg.trans g0)]
      simp only [Bool.false_eq_true, if_false]
      have he' : ERel ι ((EL ops v (E 0) listed ops.size).putO oj.dst (v j)) (a.put oj.dst undef) := he.put _ (by rw [v0]; exact .undef)
      cases hh : heapy oj.op with
      | false =>
        exact next x ι _ w hxs (fun i o hi hhi => keep i o hi hhi (fun e => by subst e; rw [ho] at hi; cases hi; rw [hh] at hhi; cases hhi)) hst he' (by rw [Act.put_defers_eq]; exact hd)
      | true =>
        obtain ⟨h1, h2, h3⟩ := tick hh
        exact next (j + 1) ι _ w (by omega) h3 (by rw [hH, h2]; exact hst) he' (by rw [Act.put_defers_eq]; exact hd)
    · rw [guardOn_run he (hg.trans g1)]
      simp only [if_true]
      cases hh : heapy oj.op with
      | true =>
        obtain ⟨h1, h2, h3⟩ := tick hh
        refine .inl (op_wpL hrel he hd hv (h2 ▸ (hp hh).1) fun ι' a' w' hs' he' hd' => ?_)
        exact next (j + 1) ι' a' w' (by omega) h3 (hst.trans (hx.ext (Nat.zero_le _) hxs) hs') he' hd'
      | false =>
        obtain ⟨hf, hHe, hF⟩ := hq hh
        have hfx : fVal P oj.op (E j).ev (H x) = some (v j) := by
          cases hsb : seen oj.op (E j).ev with
          | none => rw [← hf]; exact fVal_congr fun b hb => by rw [hsb] at hb; cases hb
          | some b =>
            have hlook' := seen_looky hsb
            rcases seen_lt hf hsb with hlt | hany
            · rw [← hf]
              refine fVal_congr fun b' hb' => ?_
              rw [hsb] at hb'; cases hb'
              rcases Nat.lt_or_ge j x with hjx | hxj
              · -- it comes late
                have := hx.still (b := b) (i := j) (j := x) (by omega) hxs hlt fun k o h1 h2 h3 h4 => by
                  have hkl := (hheap k o h3 h4).2 h2
                  have hjk : j < k := by
                    rcases Nat.lt_or_ge j k with h | h
                    · exact h
                    · have : k = j := by omega
                      subst this; rw [ho] at h3; cases h3; rw [hh] at h4; cases h4
                  rcases hs.ord j k oj o hjk ho h3 with hb | ⟨_, _, hb⟩
                  · have := hcl.before hb hkl
                    rw [hun'] at this; cases this
                  · exact ⟨(hb hlook' h4).2, hF (hb hlook' h4).1 b hsb⟩
                exact this
              · obtain ⟨inf, hinf⟩ := seen_rel hsb hv
                have hbx := hrel.lt hinf
                have := hx.still (b := b) (i := x) (j := j) hxj (by omega) hbx fun k o h1 h2 h3 h4 => by
                  rcases hs.ord k j o oj h2 h3 ho with hb | ⟨_, hb, _⟩
                  · have := (hheap k o h3 h4).1 (ready_before hcl hb hj)
                    omega
                  · exact ⟨(hb h4 hlook').2, hF (hb h4 hlook').1 b hsb⟩
                exact this.symm
            · exact hany _
        refine .inl (op_wpL hrel he hd hv (fVal_op hfx) fun ι' a' w' hs' he' hd' => ?_)
        exact next x ι' a' w' hxs (fun i o hi hhi => keep i o hi hhi (fun e => by subst e; rw [ho] at hi; cases hi; rw [hh] at hhi; cases hhi)) (hst.trans (hx.ext (Nat.zero_le _) hxs) hs') he' hd'

theorem Lex.code (hm : P.follows .mixedOrders = true) (hok : dOk ops F G = true) {id : Nat} (hx : Lex P ops E H v F G S) : CodeTo P (.region id ops true) (E 0) (H 0) .normal (E ops.size) (H ops.size) := by
  refine ⟨hx.ext (Nat.zero_le _) (Nat.le_refl _), fun ι w a hr he hd => wp_region_any hm ?_⟩
  have s0 : Step ι (H 0) w ι (H 0) { w with drawn := w.drawn + 1 } := Step.drew hr
  refine Lex.any (dOk_spec hok) hx (ι0 := ι) (w0 := w) (Q := After ι (H 0) w .normal (E ops.size) (H ops.size)) (fun ι' a' w' hs he' hd' => ⟨rfl, hd', ι', hs, he'⟩) ops.size (Array.replicate ops.size false) 0 ι a _ (by simp) ?_ ?_ (Nat.zero_le _) ?_ s0 ?_ hd
  · have : ∀ i ∈ List.range ops.size, (!(Array.replicate ops.size false).getD i true) = true := fun i hi => by
      have := List.mem_range.1 hi
      simp [Array.getD_eq_getD_getElem?, this]
    rw [List.countP_eq_length.2 this, List.length_range]
  · intro j o ho hl
    have := (Array.getElem?_eq_some_iff.1 ho).1
    simp [Array.getD_eq_getD_getElem?, this] at hl
  · intro i o ho _
    have := (Array.getElem?_eq_some_iff.1 ho).1
    simp [Array.getD_eq_getD_getElem?, this]
  · have : ∀ k, k ≤ ops.size → EL ops v (E 0) (Array.replicate ops.size false) k = E 0 := by
      intro k
      induction k with
      | zero => intro _; rfl
      | succ k ih =>
        intro hk
        have h0 : ops[k]? = some ops[k] := Array.getElem?_eq_getElem (by omega)
        have hlt : k < ops.size := by omega
        simp only [EL, h0]
        rw [if_neg (by simp [Array.getD_eq_getD_getElem?, hlt])]
        exact ih (by omega)
    rw [this _ (Nat.le_refl _)]
    exact he
end
end Go.Am
