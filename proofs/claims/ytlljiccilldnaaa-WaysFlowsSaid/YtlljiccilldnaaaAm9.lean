/- Regions whose order the tape draws: one walk in the text's order serves every order. -/
import Derived.Test.YtlljiccilldnaaaAm8
set_option linter.unusedVariables false
set_option linter.unusedSimpArgs false
namespace Go.Am
open Go

/-! ### What waits for what -/
inductive Before (ops : Array Oper) : Nat → Nat → Prop
  | direct {i j : Nat} {o : Oper} {e : Edge} : ops[j]? = some o → e ∈ o.after → Region.binds .any e = true → e.on = i → Before ops i j
  | trans {i k j : Nat} : Before ops i k → Before ops k j → Before ops i j

theorem before_fold (ops : Array Oper) : ∀ (l : List Oper) (acc : Array Nat), (∀ k, l[k]? = ops[acc.size + k]?) → (∀ j i, (acc.getD j 0).testBit i = true → Before ops i j) →
    ∀ j i, ((l.foldl (fun acc o => acc.push (o.after.foldl (fun s e => if Region.binds .any e then s ||| 2 ^ e.on ||| acc.getD e.on 0 else s) 0)) acc).getD j 0).testBit i = true → Before ops i j
  | [], acc, _, h => h
  | o :: l, acc, hl, h => by
    simp only [List.foldl_cons]
    have h0 : ops[acc.size]? = some o := by simpa using (hl 0).symm
    refine before_fold ops l _ (fun k => by have := hl (k + 1); simpa [Nat.add_assoc, Nat.add_comm 1 k] using this) (fun j i hb => ?_)
    by_cases hj : j < acc.size
    · rw [Array.getD_eq_getD_getElem?, Array.getElem?_push, if_neg (by omega), ← Array.getD_eq_getD_getElem?] at hb
      exact h j i hb
    · by_cases hj2 : j = acc.size
      · subst hj2
        rw [Array.getD_eq_getD_getElem?, Array.getElem?_push, if_pos rfl, Option.getD_some, ← Array.foldl_toList] at hb
        have key : ∀ (es : List Edge) (s : Nat), (∀ e ∈ es, e ∈ o.after) → (∀ i, s.testBit i = true → Before ops i acc.size) → ∀ i, (es.foldl (fun s e => if Region.binds .any e then s ||| 2 ^ e.on ||| acc.getD e.on 0 else s) s).testBit i = true → Before ops i acc.size := by
          intro es
          induction es with
          | nil => intro s _ hs i hi; exact hs i hi
          | cons e es ih =>
            intro s hes hs i hi
            simp only [List.foldl_cons] at hi
            refine ih _ (fun e' he' => hes e' (List.mem_cons_of_mem _ he')) (fun i hi => ?_) i hi
            split at hi
            · rename_i hbind
              simp only [Nat.testBit_or, Bool.or_eq_true] at hi
              have he : Before ops e.on acc.size := .direct h0 (hes e (List.mem_cons_self ..)) hbind rfl
              rcases hi with (hi | hi) | hi
              · exact hs i hi
              · rw [Nat.testBit_two_pow] at hi
                simp at hi
                subst hi
                exact he
              · exact .trans (h _ _ hi) he
            · exact hs i hi
        exact key _ 0 (fun e he => by simpa using he) (fun i hi => by simp at hi) i hb
      · rw [Array.getD_eq_getD_getElem?, Array.getElem?_eq_none (by simp; omega)] at hb
        simp at hb

theorem before_sound {ops : Array Oper} {i j : Nat} (h : ((Region.before ops).getD j 0).testBit i = true) : Before ops i j := by
  unfold Region.before at h
  rw [← Array.foldl_toList] at h
  exact before_fold ops ops.toList #[] (fun k => by simp) (fun j i hb => by simp at hb) j i h

/-! ### Kinds of operations -/
/-- It may change memory, or enter a function. -/
def heapy : Op → Bool
  | .move _ | .assign _ | .pick .. | .build .. | .load .. | .nilCheck _ | .binOp .. | .unOp .. | .convert .. | .makeInterface .. | .makeFunc .. | .slice .. | .fieldAddr .. | .field .. | .indexAddr .. | .index .. | .extract .. => false
  | .call { callee := .builtin .len, .. } | .call { callee := .builtin .cap, .. } | .call { callee := .builtin .min, .. } | .call { callee := .builtin .max, .. } => false
  | _ => true

/-- It may look at memory. -/
def looky : Op → Bool
  | .load .. | .convert .. | .slice .. => true
  | .call { callee := .builtin .cap, .. } => true
  | _ => false

/-- The value of an operation that changes nothing. -/
def fVal (P : Program) (o : Op) (ρ : Operand → Value) (H : Heap) : Option Value :=
  match o with
  | .move x | .assign x => some (ρ x)
  | .pick c a b => match ρ c with
    | .bool t => some (if t then ρ a else ρ b)
    | _ => none
  | .build t parts => aBuild P t (partsOf ρ parts)
  | .load t x => rdVal P H t (ρ x)
  | .nilCheck x => aNilCheck (ρ x)
  | .binOp op t x y _ => aBin P op t (ρ x) (ρ y)
  | .unOp op _ x => aUn op (ρ x)
  | .convert src dst x => (aConv P src dst (ρ x)).or (aBytesStr P H src dst (ρ x))
  | .makeInterface t x => if P.concrete t = true then some (.iface t (ρ x)) else none
  | .makeFunc fn first caps => some (.func fn (first.map ρ) (caps.map ρ))
  | .slice t x lo hi mx => aSlice P H t (ρ x) (lo.map ρ) (hi.map ρ) (mx.map ρ)
  | .fieldAddr s x f => aFieldAddr P s (ρ x) f
  | .field t x f => aField P t (ρ x) f
  | .indexAddr t x i => aIndexAddr P t (ρ x) (ρ i)
  | .index t x i => aIndex P t (ρ x) (ρ i)
  | .extract x i => aExtract (ρ x) i
  | .call { callee := .builtin b, args, argTypes } => match b, args.toList, argTypes.toList with
    | .len, [x], [t] => aLen P t (ρ x)
    | .cap, [x], [t] => aCap P H t (ρ x)
    | .min, xs, _ => aFold (fun x y => if y < x then y else x) (xs.map ρ)
    | .max, xs, _ => aFold (fun x y => if y > x then y else x) (xs.map ρ)
    | _, _, _ => none
  | _ => none

/-- The block that it looks at. -/
def blkOf : Value → Option Nat
  | .pointer (some a) => some a.block
  | .slice (some a) _ _ => some a.block
  | _ => none
def seen (o : Op) (ρ : Operand → Value) : Option Nat :=
  match o with
  | .load _ x | .convert _ _ x | .slice _ x _ _ _ => blkOf (ρ x)
  | .call { callee := .builtin .cap, args, .. } => match args.toList with
    | [x] => blkOf (ρ x)
    | _ => none
  | _ => none

section
variable {P : Program} {ρ : Operand → Value} {H H' : Heap} {v : Value} {o : Oper}

theorem fVal_xOp {op : Op} (h : fVal P op ρ H = some v) : xOp P op ρ H (fun u H' => u = v ∧ H' = H) := by
  cases op <;> simp only [fVal] at h <;> first | (cases h; done) | skip
  case move x => cases h; exact ⟨rfl, rfl⟩
  case assign x => cases h; exact ⟨rfl, rfl⟩
  case pick c a b =>
    simp only [xOp]
    split at h
    · rename_i t e; cases h; simp only [e]; exact ⟨trivial, trivial⟩
    · cases h
  case makeInterface t x =>
    split at h
    · rename_i hc; cases h; exact ⟨hc, rfl, rfl⟩
    · cases h
  case makeFunc fn a b => cases h; exact ⟨rfl, rfl⟩
  case call c =>
    obtain ⟨callee, args, ts⟩ := c
    cases callee with
    | builtin b =>
      simp only [fVal] at h
      simp only [xOp]
      split at h
      · rename_i ea et; rw [ea, et]; simp only [h, opt_some]; exact ⟨trivial, trivial⟩
      · rename_i ea et; rw [ea, et]; simp only [h, opt_some]; exact ⟨trivial, trivial⟩
      · simp only [h, opt_some]; exact ⟨trivial, trivial⟩
      · simp only [h, opt_some]; exact ⟨trivial, trivial⟩
      · cases h
    | _ => simp only [fVal] at h; cases h
  all_goals (simp only [xOp, h, opt_some]; exact ⟨trivial, trivial⟩)

theorem fVal_op (h : fVal P o.op ρ H = some v) : OpTo P o ρ H v H := by
  obtain ⟨u, H', ho, rfl, rfl⟩ := xOp_sound (fVal_xOp h)
  exact ho

theorem rdBlk_congr {H2 : Heap} {b off n : Nat} (h : H[b]? = H2[b]?) : rdBlk H b off n = rdBlk H2 b off n := by unfold rdBlk; rw [h]

/-- It hangs on the one block that it looks at. -/
theorem fVal_congr {H2 : Heap} {op : Op} (h : ∀ b, seen op ρ = some b → H[b]? = H2[b]?) : fVal P op ρ H = fVal P op ρ H2 := by
  cases op <;> try rfl
  case load t x =>
    simp only [fVal, rdVal]
    split
    · rename_i a e
      have hb := h a.block (by simp [seen, e, blkOf])
      simp only [rdBlk_congr hb]
    · rfl
  case convert src dst x =>
    simp only [fVal, aBytesStr]
    congr 1
    split
    · rename_i e a n c hs hd ex
      split
      · split
        · rfl
        · rename_i a
          have hb := h a.block (by simp [seen, ex, blkOf])
          simp only [rdBlk_congr hb]
      · rfl
    · rfl
  case slice t x lo hi mx =>
    simp only [fVal, aSlice]
    split
    · rfl
    split
    · rfl
    · rename_i e a len cap hu ex
      split
      · split
        · split
          · split
            · split
              · rfl
              · rename_i q _ _ _ _ _ _ _ ad
                have hb := h ad.block (by simp [seen, ex, blkOf])
                have hs : ∀ n, okShare H ad.block n = okShare H2 ad.block n := fun n => by unfold okShare; rw [hb]
                rw [hs]
            · rfl
          · rfl
        · rfl
      · rfl
    · rename_i n e ad hu ex
      have hb := h ad.block (by simp [seen, ex, blkOf])
      simp only [hb]
    · rfl
  case call c =>
    obtain ⟨callee, args, ts⟩ := c
    cases callee with
    | builtin b =>
      simp only [fVal]
      split <;> try rfl
      rename_i x t ea et
      simp only [aCap]
      split
      · rfl
      · rename_i e a n c hu ex
        have hb := h a.block (by simp [seen, ea, ex, blkOf])
        simp only [hb]
      · rfl
    | _ => rfl

theorem seen_looky {op : Op} {b : Nat} (h : seen op ρ = some b) : looky op = true := by
  unfold seen at h
  split at h <;> first | rfl | cases h

theorem seen_rel {ι : Map} {op : Op} {ρ' : Operand → Value} {b : Nat} (h : seen op ρ = some b) (hx : ∀ x ∈ op.operands, VRel ι (ρ x) (ρ' x)) : ∃ inf, ι b = some inf := by
  have key : ∀ (v v' : Value), blkOf v = some b → VRel ι v v' → ∃ inf, ι b = some inf := by
    intro v v' hv hr
    unfold blkOf at hv
    split at hv
    · cases hv
      obtain ⟨b', off, inf, rfl, hb, _⟩ := ptr_some_inv hr
      exact ⟨inf, hb⟩
    · cases hv
      exact (slice_block hr).2
    · cases hv
  unfold seen at h
  split at h
  · rename_i x; exact key _ _ h (hx x (by simp [Op.operands]))
  · rename_i x; exact key _ _ h (hx x (by simp [Op.operands]))
  · rename_i x _ _ _; exact key _ _ h (hx x (by simp [Op.operands]))
  · rename_i args ts
    split at h
    · rename_i x e
      exact key _ _ h (hx x (by
        have : args = #[x] := toArray_of e
        subst this
        simp [Op.operands, Call.operands]))
    · cases h
  · cases h

theorem rdBlk_lt {b off n : Nat} {l : List Value} (h : rdBlk H b off n = some l) : b < H.length := by
  unfold rdBlk at h
  split at h
  · rename_i k hk; exact (List.getElem?_eq_some_iff.1 hk).1
  · cases h

/-- The block is there, or does not matter. -/
theorem seen_lt {op : Op} {b : Nat} (h : fVal P op ρ H = some v) (hs : seen op ρ = some b) : b < H.length ∨ ∀ H2, fVal P op ρ H2 = some v := by
  unfold seen at hs
  split at hs
  · rename_i t x
    left
    simp only [fVal, rdVal] at h
    split at h
    · rename_i a e
      rw [e] at hs; cases hs
      split at h
      · rw [Option.map_eq_some_iff] at h
        obtain ⟨l, hl, _⟩ := h
        exact rdBlk_lt hl
      · split at h
        · rename_i hl; exact rdBlk_lt hl
        · cases h
      · cases h
    · cases h
  · rename_i src dst x
    simp only [fVal] at h
    cases hc : aConv P src dst (ρ x) with
    | some u =>
      rw [hc] at h; cases h
      right
      intro H2
      simp only [fVal, hc]
      rfl
    | none =>
      rw [hc] at h
      simp only [Option.none_or] at h
      unfold aBytesStr at h
      split at h
      · rename_i e a n c h1 h2 ex
        split at h
        · rename_i he
          split at h
          · rw [ex] at hs; cases hs
          · rename_i a
            rw [ex] at hs; cases hs
            split at h
            · rename_i hn
              right
              intro H2
              rw [ex] at hc
              simp only [fVal, ex, hc, Option.none_or, aBytesStr, h1, h2, he, if_pos hn]
              exact h
            · split at h
              · rename_i l hl; exact .inl (rdBlk_lt hl)
              · cases h
        · cases h
      · cases h
  · rename_i t x lo hi mx
    left
    simp only [fVal, aSlice] at h
    split at h
    · cases h
    split at h
    · rename_i s hu ex; rw [ex] at hs; cases hs
    · rename_i e a len cap hu ex
      repeat' (split at h)
      all_goals first
        | (cases h; done)
        | (rw [ex] at hs; cases hs; done)
        | skip
      rename_i hsh
      rw [ex] at hs; cases hs
      simp only [Bool.and_eq_true] at hsh
      have := hsh.1
      unfold okShare at this
      split at this
      · rename_i k hk; exact (List.getElem?_eq_some_iff.1 hk).1
      · cases this
    · rename_i n e ad hu ex
      rw [ex] at hs; cases hs
      repeat' (split at h)
      all_goals first
        | (cases h; done)
        | skip
      rename_i k hk _
      exact (List.getElem?_eq_some_iff.1 hk).1
    · cases h
  · rename_i args ts
    left
    split at hs
    · rename_i x e
      simp only [fVal, e] at h
      cases hts : ts.toList with
      | nil => rw [hts] at h; simp at h
      | cons t tl =>
        cases tl with
        | cons _ _ => rw [hts] at h; simp at h
        | nil =>
          rw [hts] at h
          simp only [aCap] at h
          split at h
          · rename_i hx2; rw [hx2] at hs; cases hs
          · rename_i ex
            rw [ex] at hs; cases hs
            split at h
            · rename_i k hk; exact (List.getElem?_eq_some_iff.1 hk).1
            · cases h
          · cases h
    · cases hs
  · cases hs
end
end Go.Am
