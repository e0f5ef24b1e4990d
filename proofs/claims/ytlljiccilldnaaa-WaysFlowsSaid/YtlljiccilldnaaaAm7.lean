/- A walk through code, operation by operation. -/
import Derived.Test.YtlljiccilldnaaaAm6
set_option linter.unusedVariables false
set_option linter.unusedSimpArgs false
namespace Go.Am
open Go
variable {P : Program} {ρ : Operand → Value} {H H' : Heap} {v : Value} {o : Oper}
section
variable {E E' : Env}

/-- Is the operation carried out? -/
def guardOn (ops : Array Oper) (o : Oper) (E : Env) : Option Bool :=
  match o.guard with
  | none => some true
  | some (j, want) => match (ops[j]?).bind (·.dst) with
    | none => some false
    | some d => match E.f d with
      | .bool b => some (b == want)
      | .tuple vs => if vs.size = 0 then some false else none
      | _ => none

theorem guardOn_run {ι : Map} {a : Act} {ops : Array Oper} {b : Bool} (he : ERel ι E a) (h : guardOn ops o E = some b) : Region.wanted o (yielded ops a.tmps) = b := by
  unfold guardOn at h
  unfold Region.wanted
  split at h
  · rename_i hg; cases h; rw [hg]
  · rename_i j want hg
    rw [hg]
    simp only
    split at h
    · rename_i hd
      cases h
      simp [yielded, hd]
    · rename_i d hd
      have hs := he.slot d
      split at h
      · rename_i b' e
        cases h
        rw [e] at hs
        have hv := bool_inv hs
        have : a.tmps[d]? = some (.bool b') := by
          rw [Array.getD_eq_getD_getElem?] at hv
          cases hq : a.tmps[d]? with
          | none => rw [hq] at hv; simp [undef] at hv
          | some x => rw [hq] at hv; simpa using hv
        simp [yielded, hd, this]
      · rename_i vs e
        split at h
        · rename_i hz
          cases h
          rw [e] at hs
          obtain ⟨vs', hv, hsz, _⟩ := tuple_inv hs (by omega)
          have : ∀ b, a.tmps[d]? ≠ some (.bool b) := by
            intro b hb
            rw [Array.getD_eq_getD_getElem?, hb] at hv
            cases hv
          have hy : yielded ops a.tmps j = none := by
            unfold yielded
            rw [hd]
            simp only [Option.bind_some]
            try (cases hq : a.tmps[d]? with
            | none => rfl
            | some x => cases x <;> first | rfl | exact absurd hq (this _))
          rw [hy]; rfl
        · cases h
      · cases h

end

inductive RunOps (P : Program) (ops : Array Oper) : List Oper → Env → Heap → Env → Heap → Prop
  | nil {E : Env} {H : Heap} : RunOps P ops [] E H E H
  | op {o : Oper} {l : List Oper} {E : Env} {H : Heap} {v : Value} {H1 : Heap} {E' : Env} {H' : Heap} : guardOn ops o E = some true → OpTo P o E.ev H v H1 → RunOps P ops l (E.putO o.dst v) H1 E' H' → RunOps P ops (o :: l) E H E' H'
  | skip {o : Oper} {l : List Oper} {E : Env} {H : Heap} {E' : Env} {H' : Heap} : guardOn ops o E = some false → RunOps P ops l (E.putO o.dst undef) H E' H' → RunOps P ops (o :: l) E H E' H'

variable {E E' : Env}
theorem RunOps.ext {ops : Array Oper} {l : List Oper} (h : RunOps P ops l E H E' H') : HExt H H' := by
  induction h with
  | nil => exact .refl _
  | op _ h _ ih => exact h.ext.trans ih
  | skip _ _ ih => exact ih

/-- One operation, in the machine. -/
theorem op_wp {ι : Map} {w : World} {a : Act} (hr : Rel ι H w) (he : ERel ι E a) (hd : a.defers = []) (h : OpTo P o E.ev H v H') {K : Act → World → Prop} {Q : Exit → Act → World → Prop}
    (hk : ∀ ι' a' w', Step ι H w ι' H' w' → ERel ι' (E.putO o.dst v) a' → a'.defers = [] → (∃ u, a' = a.put o.dst u) → K a' w') : o.wp P a w K Q := by
  have hy := h.run ι w a.eval hr (fun x _ => he.ev x)
  unfold Oper.wp
  generalize (execOp a.eval o).run P w = r at hy
  cases r with
  | halt x w' => exact hy.elim
  | ok n w' =>
    cases n <;> simp only [Yields] at hy
    case value u =>
      obtain ⟨ι', h1, h2⟩ := hy
      exact hk ι' _ _ h2 ((he.mono (h2.sub hr)).put _ h1) (by rw [Act.put_defers_eq]; exact hd) ⟨u, rfl⟩
    case skip =>
      obtain ⟨rfl, ι', h2⟩ := hy
      exact hk ι' _ _ h2 ((he.mono (h2.sub hr)).put _ .undef) (by rw [Act.put_defers_eq]; exact hd) ⟨undef, rfl⟩
    case enter f args =>
      refine Calls.mono hy ?_
      rintro e w2 ⟨v', ι', rfl, h1, h2⟩
      exact hk ι' _ _ h2 ((he.mono (h2.sub hr)).put _ h1) (by rw [Act.put_defers_eq]; exact hd) ⟨v', rfl⟩

theorem RunOps.wp {ops : Array Oper} : ∀ {l : List Oper} {E : Env} {H : Heap} {E' : Env} {H' : Heap}, RunOps P ops l E H E' H' → ∀ (k : Nat), (∀ j, l[j]? = ops[k + j]?) → ∀ (ι : Map) (w : World) (a : Act), Rel ι H w → ERel ι E a → a.defers = [] →
    ∀ Q : Exit → Act → World → Prop, (∀ ι' a' w', Step ι H w ι' H' w' → ERel ι' E' a' → a'.defers = [] → Q .normal a' w') → wpOps P ops Q (List.range' k l.length) a w := by
  intro l E H E' H' h
  induction h with
  | nil => intro k hl ι w a hr he hd Q hQ; exact hQ ι a w (.refl hr) he hd
  | @op o l E H v H1 E' H' hg ho _ ih =>
    intro k hl ι w a hr he hd Q hQ
    have h0 : ops[k]? = some o := by simpa using (hl 0).symm
    simp only [List.length_cons, List.range'_succ, wpOps, h0, guardOn_run he hg, if_true]
    refine .inl (op_wp hr he hd ho fun ι' a' w' hs he' hd' _ => ?_)
    exact ih (k + 1) (fun j => by have := hl (j + 1); simpa [Nat.add_assoc, Nat.add_comm 1 j] using this) ι' w' a' hs.rel he' hd' Q (fun ι2 a2 w2 s2 => hQ ι2 a2 w2 (hs.trans ho.ext s2))
  | @skip o l E H E' H' hg _ ih =>
    intro k hl ι w a hr he hd Q hQ
    have h0 : ops[k]? = some o := by simpa using (hl 0).symm
    simp only [List.length_cons, List.range'_succ, wpOps, h0, guardOn_run he hg, Bool.false_eq_true, if_false]
    exact ih (k + 1) (fun j => by have := hl (j + 1); simpa [Nat.add_assoc, Nat.add_comm 1 j] using this) ι w _ hr (he.put _ .undef) (by rw [Act.put_defers_eq]; exact hd) Q hQ

theorem RunOps.code {ops : Array Oper} {id : Nat} (h : RunOps P ops ops.toList E H E' H') : CodeTo P (.region id ops false) E H .normal E' H' :=
  ⟨h.ext, fun ι w a hr he hd => wp_region (by
    have := h.wp 0 (fun j => by simp) ι w a hr he hd (After ι H w .normal E' H') (fun ι' a' w' hs he' hd' => ⟨rfl, hd', ι', hs, he'⟩)
    rw [List.range_eq_range']
    simpa using this)⟩

/-! ### The walk -/
def opt {α : Type} (x : Option α) (k : α → Prop) : Prop := match x with | some a => k a | none => False
theorem opt_some {α : Type} (a : α) (k : α → Prop) : opt (some a) k = k a := rfl
theorem opt_iff {α : Type} {x : Option α} {k : α → Prop} : opt x k → ∃ a, x = some a ∧ k a := by
  cases x with
  | none => exact fun h => h.elim
  | some a => exact fun h => ⟨a, rfl, h⟩

/-- What is to be shown of one operation. -/
def xOp (P : Program) (o : Op) (ρ : Operand → Value) (H : Heap) (K : Value → Heap → Prop) : Prop :=
  match o with
  | .move x | .assign x => K (ρ x) H
  | .pick c a b => match ρ c with
    | .bool t => K (if t then ρ a else ρ b) H
    | _ => False
  | .alloc el => opt (aZero P el) fun z => K (.pointer (some ⟨H.length, 0, none⟩)) (newBlk H z.cells.toList)
  | .box _ x => solid (ρ x) = true ∧ K (.pointer (some ⟨H.length, 0, none⟩)) (newBlk H (ρ x).cells.toList)
  | .build t parts => opt (aBuild P t (partsOf ρ parts)) fun v => K v H
  | .buildSlice t len parts => opt (aBuildSlice P t len (partsOf ρ parts)) fun l => K (.slice (some ⟨H.length, 0, none⟩) len len) (newBlk H l)
  | .load t x => opt (rdVal P H t (ρ x)) fun v => K v H
  | .store t x y => opt (wrVal P H t (ρ x) (ρ y)) fun H' => K undef H'
  | .nilCheck x => opt (aNilCheck (ρ x)) fun v => K v H
  | .binOp op t x y _ => opt (aBin P op t (ρ x) (ρ y)) fun v => K v H
  | .unOp op _ x => opt (aUn op (ρ x)) fun v => K v H
  | .convert src dst x => opt ((aConv P src dst (ρ x)).or (aBytesStr P H src dst (ρ x))) fun v => K v H
  | .makeInterface t x => P.concrete t = true ∧ K (.iface t (ρ x)) H
  | .makeFunc fn first caps => K (.func fn (first.map ρ) (caps.map ρ)) H
  | .makeSlice t x y => opt (aMakeSlice P t (ρ x) (ρ y)) fun r => K (.slice (some ⟨H.length, 0, none⟩) r.2.1 r.2.2) (newBlk H r.1)
  | .slice t x lo hi mx => opt (aSlice P H t (ρ x) (lo.map ρ) (hi.map ρ) (mx.map ρ)) fun v => K v H
  | .fieldAddr s x f => opt (aFieldAddr P s (ρ x) f) fun v => K v H
  | .field t x f => opt (aField P t (ρ x) f) fun v => K v H
  | .indexAddr t x i => opt (aIndexAddr P t (ρ x) (ρ i)) fun v => K v H
  | .index t x i => opt (aIndex P t (ρ x) (ρ i)) fun v => K v H
  | .extract x i => opt (aExtract (ρ x) i) fun v => K v H
  | .call { callee := .value f, args, .. } => opt (aCallee (ρ f) (args.map ρ)) fun r => callable P r.1 = true ∧ Wcall P r.1 r.2 H K
  | .call { callee := .invoke r name, args, .. } => opt (aMethod P H (ρ r) name) fun q => callable P q.1 = true ∧ Wcall P q.1 (#[q.2] ++ args.map ρ) H K
  | .call { callee := .builtin b, args, argTypes } => match b, args.toList, argTypes.toList with
    | .len, [x], [t] => opt (aLen P t (ρ x)) fun v => K v H
    | .cap, [x], [t] => opt (aCap P H t (ρ x)) fun v => K v H
    | .min, xs, _ => opt (aFold (fun x y => if y < x then y else x) (xs.map ρ)) fun v => K v H
    | .max, xs, _ => opt (aFold (fun x y => if y > x then y else x) (xs.map ρ)) fun v => K v H
    | .append, [s, x], [t, u] => opt (aAppend P H t u (ρ s) (ρ x)) fun r => K r.1 r.2
    | .copy, [x, y], [t, _] => opt (aCopy P H t (ρ x) (ρ y)) fun r => K r.1 r.2
    | .clear, [x], [t] => opt (aClear P H t (ρ x)) fun H' => K undef H'
    | _, _, _ => False
  | _ => False

theorem toArray_of {α : Type} {a : Array α} {l : List α} (h : a.toList = l) : a = l.toArray := by rw [← h]

theorem xOp_sound {K : Value → Heap → Prop} (h : xOp P o.op ρ H K) : ∃ v H', OpTo P o ρ H v H' ∧ K v H' := by
  obtain ⟨dst, op, ty, pos, after, g⟩ := o
  cases op <;> simp only [xOp] at h <;> first | (exact h.elim; done) | skip
  case move x => exact ⟨_, _, .move, h⟩
  case assign x => exact ⟨_, _, .assign, h⟩
  case pick c a b =>
    split at h
    · rename_i t e; exact ⟨_, _, .pick e, h⟩
    · exact h.elim
  case alloc el => obtain ⟨z, e, hk⟩ := opt_iff h; exact ⟨_, _, .alloc e, hk⟩
  case box el x => exact ⟨_, _, .box h.1, h.2⟩
  case build t parts => obtain ⟨v, e, hk⟩ := opt_iff h; exact ⟨_, _, .build e, hk⟩
  case buildSlice t len parts => obtain ⟨l, e, hk⟩ := opt_iff h; exact ⟨_, _, .buildSlice e, hk⟩
  case load t x => obtain ⟨v, e, hk⟩ := opt_iff h; exact ⟨_, _, .load e, hk⟩
  case store t x y => obtain ⟨H', e, hk⟩ := opt_iff h; exact ⟨_, _, .store e, hk⟩
  case nilCheck x => obtain ⟨v, e, hk⟩ := opt_iff h; exact ⟨_, _, .nilCheck e, hk⟩
  case binOp op t x y t' => obtain ⟨v, e, hk⟩ := opt_iff h; exact ⟨_, _, .binOp e, hk⟩
  case unOp op t x => obtain ⟨v, e, hk⟩ := opt_iff h; exact ⟨_, _, .unOp e, hk⟩
  case convert src des x =>
    obtain ⟨v, e, hk⟩ := opt_iff h
    cases hc : aConv P src des (ρ x) with
    | some u => rw [hc] at e; cases e; exact ⟨_, _, .convert hc, hk⟩
    | none => rw [hc] at e; exact ⟨_, _, .bytesStr e, hk⟩
  case makeInterface t x => exact ⟨_, _, .makeInterface h.1, h.2⟩
  case makeFunc fn first caps => exact ⟨_, _, .makeFunc, h⟩
  case makeSlice t x y => obtain ⟨⟨l, n, m⟩, e, hk⟩ := opt_iff h; exact ⟨_, _, .makeSlice e, hk⟩
  case slice t x lo hi mx => obtain ⟨v, e, hk⟩ := opt_iff h; exact ⟨_, _, .slice e, hk⟩
  case fieldAddr s x f => obtain ⟨v, e, hk⟩ := opt_iff h; exact ⟨_, _, .fieldAddr e, hk⟩
  case field t x f => obtain ⟨v, e, hk⟩ := opt_iff h; exact ⟨_, _, .field e, hk⟩
  case indexAddr t x i => obtain ⟨v, e, hk⟩ := opt_iff h; exact ⟨_, _, .indexAddr e, hk⟩
  case index t x i => obtain ⟨v, e, hk⟩ := opt_iff h; exact ⟨_, _, .index e, hk⟩
  case extract x i => obtain ⟨v, e, hk⟩ := opt_iff h; exact ⟨_, _, .extract e, hk⟩
  case call c =>
    obtain ⟨callee, args, ts⟩ := c
    cases callee with
    | value f =>
      simp only [xOp] at h
      obtain ⟨⟨fn, as_⟩, e, hc, v, H', hcall, hk⟩ := opt_iff h
      exact ⟨v, H', .call e hc hcall, hk⟩
    | invoke r name =>
      simp only [xOp] at h
      obtain ⟨⟨fn, x⟩, e, hc, v, H', hcall, hk⟩ := opt_iff h
      exact ⟨v, H', .invoke e hc hcall, hk⟩
    | builtin b =>
      simp only [xOp] at h
      split at h
      · rename_i x t ea et
        obtain ⟨v, e, hk⟩ := opt_iff h
        rw [toArray_of ea, toArray_of et]
        exact ⟨_, _, .len e, hk⟩
      · rename_i x t ea et
        obtain ⟨v, e, hk⟩ := opt_iff h
        rw [toArray_of ea, toArray_of et]
        exact ⟨_, _, .cap e, hk⟩
      · obtain ⟨v, e, hk⟩ := opt_iff h
        exact ⟨_, _, .minmax (.inl ⟨rfl, rfl⟩) (by rw [Array.toList_map]; exact e), hk⟩
      · obtain ⟨v, e, hk⟩ := opt_iff h
        exact ⟨_, _, .minmax (.inr ⟨rfl, rfl⟩) (by rw [Array.toList_map]; exact e), hk⟩
      · rename_i s x t u ea et
        obtain ⟨⟨v, H'⟩, e, hk⟩ := opt_iff h
        rw [toArray_of ea, toArray_of et]
        exact ⟨_, _, .append e, hk⟩
      · rename_i x y t u ea et
        obtain ⟨⟨v, H'⟩, e, hk⟩ := opt_iff h
        rw [toArray_of ea, toArray_of et]
        exact ⟨_, _, .copy e, hk⟩
      · rename_i x t ea et
        obtain ⟨H', e, hk⟩ := opt_iff h
        rw [toArray_of ea, toArray_of et]
        exact ⟨_, _, .clear e, hk⟩
      · exact h.elim

def xOps (P : Program) (ops : Array Oper) : List Oper → Env → Heap → (Env → Heap → Prop) → Prop
  | [], E, H, K => K E H
  | o :: l, E, H, K => match guardOn ops o E with
    | some true => xOp P o.op E.ev H fun v H1 => xOps P ops l (E.putO o.dst v) H1 K
    | some false => xOps P ops l (E.putO o.dst undef) H K
    | none => False

theorem xOps_sound {ops : Array Oper} : ∀ {l : List Oper} {E : Env} {H : Heap} {K : Env → Heap → Prop}, xOps P ops l E H K → ∃ E' H', RunOps P ops l E H E' H' ∧ K E' H'
  | [], E, H, K, h => ⟨E, H, .nil, h⟩
  | o :: l, E, H, K, h => by
    simp only [xOps] at h
    split at h
    · rename_i hg
      obtain ⟨v, H1, ho, hk⟩ := xOp_sound h
      obtain ⟨E', H', hr, hk'⟩ := xOps_sound hk
      exact ⟨E', H', .op hg ho hr, hk'⟩
    · rename_i hg
      obtain ⟨E', H', hr, hk'⟩ := xOps_sound h
      exact ⟨E', H', .skip hg hr, hk'⟩
    · exact h.elim

def xC (P : Program) : Code → Env → Heap → (Exit → Env → Heap → Prop) → Prop
  | .skip, E, H, Q => Q .normal E H
  | .ret, E, H, Q => Q .ret E H
  | .exit id, E, H, Q => Q (.exit id) E H
  | .seq a b, E, H, Q => xC P a E H (thenC (fun E' H' => xC P b E' H' Q) Q)
  | .cond c a b, E, H, Q => match E.ev c with
    | .bool t => if t then xC P a E H Q else xC P b E H Q
    | _ => False
  | .block id c, E, H, Q => xC P c E H (blockC id Q)
  | .region _ ops false, E, H, Q => xOps P ops ops.toList E H fun E' H' => Q .normal E' H'
  | c, E, H, Q => Wc P c E H Q

theorem xC_sound : ∀ {c : Code} {E : Env} {H : Heap} {Q : Exit → Env → Heap → Prop}, xC P c E H Q → Wc P c E H Q := by
  intro c
  induction c with
  | skip => intro E H Q h; exact .skip h
  | ret => intro E H Q h; exact .ret h
  | exit id => intro E H Q h; exact .exit h
  | seq a b iha ihb =>
    intro E H Q h
    simp only [xC] at h
    exact .seq ((iha h).mono fun e E' H' hq => by cases e <;> first | exact ihb hq | exact hq)
  | cond c a b iha ihb =>
    intro E H Q h
    simp only [xC] at h
    split at h
    · rename_i t e
      refine .cond e ?_
      cases t
      · exact ihb (by simpa using h)
      · exact iha (by simpa using h)
    · exact h.elim
  | block id c ih => intro E H Q h; exact .block (ih h)
  | region id ops draw =>
    intro E H Q h
    cases draw with
    | false =>
      obtain ⟨E', H', hr, hk⟩ := xOps_sound (by simpa only [xC] using h)
      exact ⟨.normal, E', H', hr.code, hk⟩
    | true => exact h
  | _ => intro E H Q h; exact h
end Go.Am
