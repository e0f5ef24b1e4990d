/- What one operation gives, and that the machine's operation gives the like. -/
import Derived.Test.YtlljiccilldnaaaAm2
import Derived.Laws.StructEq
import Derived.Laws.BytesString
set_option linter.unusedVariables false
set_option linter.unusedSimpArgs false
namespace Go.Am
open Go

/-- What the machine's operation has come to. -/
def Yields (P : Program) (ι : Map) (H : Heap) (w : World) (v : Value) (H' : Heap) : Result Next → Prop
  | .ok (.value v') w1 => ∃ ι', VRel ι' v v' ∧ Step ι H w ι' H' w1
  | .ok .skip w1 => v = undef ∧ ∃ ι', Step ι H w ι' H' w1
  | .ok (.enter f args) w1 => Calls P f args w1 (fun e w2 => ∃ v' ι', e = .returned v' ∧ VRel ι' v v' ∧ Step ι H w ι' H' w2)
  | _ => False

structure OpTo (P : Program) (o : Oper) (ρ : Operand → Value) (H : Heap) (v : Value) (H' : Heap) : Prop where
  ext : HExt H H'
  run : ∀ ι w ρ', Rel ι H w → (∀ x ∈ o.op.operands, VRel ι (ρ x) (ρ' x)) → Yields P ι H w v H' ((execOp ρ' o).run P w)

variable {P : Program} {ρ : Operand → Value} {H H' : Heap} {v : Value} {o : Oper}

/-- An operation that leaves memory alone. -/
theorem OpTo.pure (h : ∀ ι w ρ', Rel ι H w → (∀ x ∈ o.op.operands, VRel ι (ρ x) (ρ' x)) → ∃ v', (execOp ρ' o).run P w = .ok (.value v') w ∧ VRel ι v v') : OpTo P o ρ H v H :=
  ⟨.refl H, fun ι w ρ' hr hx => by
    obtain ⟨v', e, hv⟩ := h ι w ρ' hr hx
    rw [e]
    exact ⟨ι, hv, .refl hr⟩⟩

/-! ### Values -/
def aInt (op : BinOp) (k : IntKind) (a : Int) (k' : IntKind) (b : Int) : Option Value :=
  match op with
  | .shl => if 0 ≤ b then some (.int k (k.wrap (a * 2 ^ (min b.toNat k.bits)))) else none
  | .shr => if 0 ≤ b then some (.int k (a.fdiv (2 ^ (min b.toNat k.bits)))) else none
  | .add => if k = k' then some (.int k (k.wrap (a + b))) else none
  | .sub => if k = k' then some (.int k (k.wrap (a - b))) else none
  | .mul => if k = k' then some (.int k (k.wrap (a * b))) else none
  | .quo => if k = k' then if b = 0 then none else some (.int k (k.wrap (a.tdiv b))) else none
  | .rem => if k = k' then if b = 0 then none else some (.int k (a.tmod b)) else none
  | .and => if k = k' then some (.int k (Go.bits .and k a b)) else none
  | .or => if k = k' then some (.int k (Go.bits .or k a b)) else none
  | .xor => if k = k' then some (.int k (Go.bits .xor k a b)) else none
  | .andNot => if k = k' then some (.int k (Go.bits .andNot k a b)) else none
  | .eql => if k = k' then some (.bool (a == b)) else none
  | .neq => if k = k' then some (.bool (a != b)) else none
  | .lss => if k = k' then some (.bool (decide (a < b))) else none
  | .leq => if k = k' then some (.bool (decide (a ≤ b))) else none
  | .gtr => if k = k' then some (.bool (decide (a > b))) else none
  | .geq => if k = k' then some (.bool (decide (a ≥ b))) else none

def aStr (op : BinOp) (a b : ByteArray) : Option Value :=
  match op with
  | .add => if a.size + b.size ≤ 9223372036854775807 then some (.string (a ++ b)) else none
  | .eql => some (.bool (a.toList == b.toList))
  | .neq => some (.bool (!(a.toList == b.toList)))
  | .lss => some (.bool (Op.bytesLess a.toList b.toList))
  | _ => none

def aIsAgg (P : Program) (t : TypeId) : Option Bool :=
  match P.underlying t with
  | some (.struct _) | some (.array _ _) => some true
  | some _ => some false
  | none => none

def aPart (P : Program) (t : TypeId) (cs : Array Value) (off : Nat) : Option Value :=
  match aIsAgg P t, P.info? t with
  | some true, some i => some (.agg (cs.extract off (off + i.size)))
  | some false, _ => cs[off]?
  | _, _ => none

theorem run_isAgg {t : TypeId} {b : Bool} (h : aIsAgg P t = some b) (w : World) : (isAgg t).run P w = .ok b w := by
  unfold aIsAgg at h
  unfold isAgg
  cases hd : P.underlying t with
  | none => rw [hd] at h; cases h
  | some d =>
    rw [hd] at h
    rw [Sem.run_bind, run_underlying hd w]
    cases d <;> simp_all

theorem run_sizeOf' {t : TypeId} {i : TypeInfo} (h : P.info? t = some i) (w : World) : (sizeOf t).run P w = .ok i.size w := by
  simp [sizeOf, typeInfo, h]

theorem run_part {t : TypeId} {cs : Array Value} {off : Nat} {v : Value} (h : aPart P t cs off = some v) (w : World) : (part t cs off).run P w = .ok v w := by
  unfold aPart at h
  split at h
  · rename_i i h1 h2
    cases h
    simp [part, Sem.run_bind, run_isAgg h1, run_sizeOf' h2]
  · rename_i h1
    simp [part, Sem.run_bind, run_isAgg h1, h]
  · cases h

theorem aggRel_get {ι : Map} {cs cs' : Array Value} (h : VRel ι (.agg cs) (.agg cs')) : cs.size = cs'.size ∧ (∀ i (h : i < cs.size), cs[i].oneCell' = true) ∧ ∀ i (h : i < cs.size) (h' : i < cs'.size), VRel ι cs[i] cs'[i] := by
  cases h with
  | agg h1 h2 h3 => exact ⟨h1, h2, h3⟩

theorem VRel.agg_inv {ι : Map} {cs : Array Value} {v' : Value} (h : VRel ι (.agg cs) v') : ∃ cs', v' = .agg cs' := by
  generalize hv : Value.agg cs = v at h
  cases h <;> first | exact ⟨_, rfl⟩ | (simp [Am.poison] at hv; done) | cases hv

theorem aPart_rel {ι : Map} {t : TypeId} {cs cs' : Array Value} {off : Nat} {v : Value} (h : aPart P t cs off = some v) (hr : VRel ι (.agg cs) (.agg cs')) : ∃ v', aPart P t cs' off = some v' ∧ VRel ι v v' := by
  obtain ⟨h1, h2, h3⟩ := aggRel_get hr
  unfold aPart at h ⊢
  split at h
  · rename_i i e1 e2
    cases h
    refine ⟨_, rfl, .agg (by simp [h1]) (fun i hi => ?_) (fun i hi hi' => ?_)⟩
    · simp only [Array.getElem_extract]; exact h2 _ _
    · simp only [Array.getElem_extract]; exact h3 _ _ _
  · have hlt := (Array.getElem?_eq_some_iff.1 h).1
    have e := (Array.getElem?_eq_some_iff.1 h).2
    refine ⟨cs'[off]'(by omega), Array.getElem?_eq_getElem _, ?_⟩
    rw [← e]; exact h3 _ _ _
  · cases h

def eqBy (P : Program) (eq : TypeId → Value → Value → Option Bool) (xs ys : Array Value) : List Field → Option Bool
  | [] => some true
  | f :: fs =>
    if f.name ≠ "_" then
      match aPart P f.type xs f.offset, aPart P f.type ys f.offset with
      | some a, some b => match eq f.type a b with
        | some true => eqBy P eq xs ys fs
        | some false => some false
        | none => none
      | _, _ => none
    else none

def aEq (P : Program) : Nat → TypeId → Value → Value → Option Bool
  | 0, _, _, _ => none
  | d + 1, t, x, y =>
    match P.underlying t, x, y with
    | some .bool, .bool a, .bool b => some (a == b)
    | some (.int _), .int k a, .int k' b => if k = k' then some (a == b) else none
    | some .string, .string a, .string b => some (a.toList == b.toList)
    | some (.pointer _), .pointer none, .pointer b => some b.isNone
    | some (.pointer _), .pointer (some _), .pointer none => some false
    | some (.slice _), .slice none _ _, .slice b _ _ => some b.isNone
    | some (.slice _), .slice (some _) _ _, .slice none _ _ => some false
    | some (.struct fs), .agg xs, .agg ys => if P.stoodInHeld t = false then eqBy P (aEq P d) xs ys fs.toList else none
    | _, _, _ => none

theorem ptr_isNone {ι : Map} {a a' : Option Addr} (h : VRel ι (.pointer a) (.pointer a')) : a'.isNone = a.isNone := by cases h <;> rfl
theorem ptr_inv {ι : Map} {a : Option Addr} {v' : Value} (h : VRel ι (.pointer a) v') : ∃ a', v' = .pointer a' ∧ a'.isNone = a.isNone := by
  generalize hv : Value.pointer a = v at h
  cases h <;> first | (cases hv; exact ⟨_, rfl, rfl⟩) | (simp [Am.poison] at hv; done) | cases hv
theorem slice_inv {ι : Map} {a : Option Addr} {l c : Nat} {v' : Value} (h : VRel ι (.slice a l c) v') : ∃ a' c', v' = .slice a' l c' ∧ a'.isNone = a.isNone ∧ c ≤ c' := by
  generalize hv : Value.slice a l c = v at h
  cases h <;> first | (cases hv; exact ⟨_, _, rfl, rfl, by omega⟩) | (simp [Am.poison] at hv; done) | cases hv
theorem bool_inv {ι : Map} {b : Bool} {v' : Value} (h : VRel ι (.bool b) v') : v' = .bool b := by
  generalize hv : Value.bool b = v at h
  cases h <;> first | (cases hv; rfl) | (simp [Am.poison] at hv; done) | cases hv
theorem int_inv {ι : Map} {k : IntKind} {n : Int} {v' : Value} (h : VRel ι (.int k n) v') : v' = .int k n := by
  generalize hv : Value.int k n = v at h
  cases h <;> first | (cases hv; rfl) | (simp [Am.poison] at hv; done) | cases hv
theorem string_inv {ι : Map} {s : ByteArray} {v' : Value} (h : VRel ι (.string s) v') : v' = .string s := by
  generalize hv : Value.string s = v at h
  cases h <;> first | (cases hv; rfl) | (simp [Am.poison] at hv; done) | cases hv

theorem aEq_run : ∀ (d : Nat) (t : TypeId) (x y : Value) (r : Bool), aEq P d t x y = some r → ∀ (e : Nat), d ≤ e → ∀ (ι : Map) (x' y' : Value), VRel ι x x' → VRel ι y y' → ∀ w, (Op.equalIn e t x' y').run P w = .ok r w := by
  intro d
  induction d with
  | zero => intro t x y r h; simp [aEq] at h
  | succ d ih =>
    have fields : ∀ (fs : List Field) (xs ys : Array Value) (r : Bool), eqBy P (aEq P d) xs ys fs = some r → ∀ (e : Nat), d ≤ e → ∀ (ι : Map) (xs' ys' : Array Value), VRel ι (.agg xs) (.agg xs') → VRel ι (.agg ys) (.agg ys') → ∀ w, (Op.eqFields e xs' ys' fs).run P w = .ok r w := by
      intro fs
      induction fs with
      | nil => intro xs ys r h e he ι xs' ys' h1 h2 w; simp only [eqBy] at h; cases h; simp [Op.eqFields]
      | cons f fs ihf =>
        intro xs ys r h e he ι xs' ys' h1 h2 w
        simp only [eqBy] at h
        split at h
        · rename_i hname
          split at h
          · rename_i a b ha hb
            obtain ⟨a', ha', ra⟩ := aPart_rel ha h1
            obtain ⟨b', hb', rb⟩ := aPart_rel hb h2
            have pa := run_part ha' w
            have pb := run_part hb' w
            split at h
            · rename_i hq
              have := ih _ _ _ _ hq e he ι a' b' ra rb w
              simp only [Op.eqFields, hname, ne_eq, not_false_eq_true, if_true, Sem.run_bind, pa, pb, this, Result.andThen_ok]
              simpa using ihf xs ys r h e he ι xs' ys' h1 h2 w
            · rename_i hq
              cases h
              have := ih _ _ _ _ hq e he ι a' b' ra rb w
              simp only [Op.eqFields, hname, ne_eq, not_false_eq_true, if_true, Sem.run_bind, pa, pb, this, Result.andThen_ok]
              simp
            · cases h
          · cases h
        · cases h
    intro t x y r h e he ι x' y' h1 h2 w
    obtain ⟨e, rfl⟩ : ∃ m, e = m + 1 := ⟨e - 1, by omega⟩
    simp only [aEq] at h
    split at h
    · rename_i hu; cases h; rw [bool_inv h1, bool_inv h2]; exact run_equalIn_bool' w e t _ _ hu
    · rename_i k k' a k2 b hu
      split at h
      · cases h; rename_i hk; subst hk; rw [int_inv h1, int_inv h2]; exact run_equalIn_int w e t _ _ _ _ hu
      · cases h
    · rename_i hu; cases h; rw [string_inv h1, string_inv h2]; exact run_equalIn_string w e t _ _ hu
    · rename_i hu; cases h
      obtain ⟨a', rfl, e1⟩ := ptr_inv h1
      obtain ⟨b', rfl, e2⟩ := ptr_inv h2
      cases a' with
      | some a => cases e1
      | none => rw [← e2]; simp [Op.equalIn, run_underlying hu]
    · rename_i hu; cases h
      obtain ⟨a', rfl, e1⟩ := ptr_inv h1
      obtain ⟨b', rfl, e2⟩ := ptr_inv h2
      cases a' with
      | none => cases e1
      | some a => cases b' with
        | some b => cases e2
        | none => simp [Op.equalIn, run_underlying hu]
    · rename_i hu; cases h
      obtain ⟨a', c1, rfl, e1, _⟩ := slice_inv h1
      obtain ⟨b', c2, rfl, e2, _⟩ := slice_inv h2
      cases a' with
      | some a => cases e1
      | none => rw [← e2]; simp [Op.equalIn, run_underlying hu]
    · rename_i hu; cases h
      obtain ⟨a', c1, rfl, e1, _⟩ := slice_inv h1
      obtain ⟨b', c2, rfl, e2, _⟩ := slice_inv h2
      cases a' with
      | none => cases e1
      | some a => cases b' with
        | some b => cases e2
        | none => simp [Op.equalIn, run_underlying hu]
    · rename_i fs xs ys hu
      split at h
      · rename_i hs
        obtain ⟨xs', rfl⟩ := h1.agg_inv
        obtain ⟨ys', rfl⟩ := h2.agg_inv
        have hf : P.fieldsOf t = fs := by simp [Program.fieldsOf, hu]
        rw [run_equalIn_struct w e t xs' ys' (by rw [hf]; exact hu) hs, hf]
        exact fields _ _ _ _ h e (by omega) ι xs' ys' h1 h2 w
      · cases h
    · cases h

def aCmp (P : Program) (op : BinOp) (t : TypeId) (x y : Value) : Option Value :=
  match op with
  | .eql => (aEq P 4 t x y).map (fun r => .bool r)
  | .neq => (aEq P 4 t x y).map (fun r => .bool (!r))
  | _ => none

def aBin (P : Program) (op : BinOp) (t : TypeId) (x y : Value) : Option Value :=
  match x, y with
  | .int k a, .int k' b => aInt op k a k' b
  | .string a, .string b => aStr op a b
  | .bool a, .bool b => aCmp P op t (.bool a) (.bool b)
  | .pointer a, .pointer b => aCmp P op t (.pointer a) (.pointer b)
  | .slice a l c, .slice b l' c' => aCmp P op t (.slice a l c) (.slice b l' c')
  | .agg xs, .agg ys => if P.eqGuardType P.depth t = false then aCmp P op t (.agg xs) (.agg ys) else none
  | _, _ => none

theorem aInt_run {op : BinOp} {k k' : IntKind} {a b : Int} (h : aInt op k a k' b = some v) (t : TypeId) (w : World) : (binOp op t (.int k a) (.int k' b)).run P w = .ok v w := by
  cases op <;> simp only [aInt] at h
  case shl => split at h <;> cases h; rename_i hb; rw [binOp_shl]; simp [Op.shift, Int.not_lt.2 hb]
  case shr => split at h <;> cases h; rename_i hb; rw [binOp_shr]; simp [Op.shift, Int.not_lt.2 hb]
  case quo =>
    split at h
    · split at h
      · cases h
      · cases h; rename_i hk hb; subst hk; simp [binOp, Op.intDiv, hb]
    · cases h
  case rem =>
    split at h
    · split at h
      · cases h
      · cases h; rename_i hk hb; subst hk; simp [binOp, Op.intDiv, hb]
    · cases h
  all_goals
    split at h
    · cases h; rename_i hk; subst hk; simp [binOp, Op.intArith, Op.intCmp]; try rfl
    · cases h

theorem aStr_run {op : BinOp} {a b : ByteArray} (h : aStr op a b = some v) (t : TypeId) (w : World) : (binOp op t (.string a) (.string b)).run P w = .ok v w := by
  cases op <;> simp only [aStr] at h
  case add =>
    split at h <;> cases h
    rename_i hs
    have : ¬ (((a.size + b.size : Nat) : Int) > IntKind.i64.max) := by rw [IntKind.max_i64]; omega
    simp [binOp, Op.stringOp]
    omega
  all_goals first
    | (cases h; done)
    | (cases h; simp [binOp, Op.stringOp])

theorem aCmp_run {op : BinOp} {t : TypeId} {x y x' y' : Value} {ι : Map} (h : aCmp P op t x y = some v) (hx : VRel ι x x') (hy : VRel ι y y') (w : World) :
    ∃ r, v = .bool r ∧ ((op = .eql ∧ (Op.equal t x' y').run P w = .ok r w) ∨ (op = .neq ∧ (Op.equal t x' y').run P w = .ok (!r) w)) := by
  cases op <;> simp only [aCmp, Option.map_eq_some_iff] at h <;> try (cases h; done)
  · obtain ⟨r, h1, rfl⟩ := h
    exact ⟨r, rfl, .inl ⟨rfl, aEq_run 4 t x y r h1 Op.maxDepth (by decide) ι x' y' hx hy w⟩⟩
  · obtain ⟨r, h1, rfl⟩ := h
    exact ⟨!r, rfl, .inr ⟨rfl, by rw [Bool.not_not]; exact aEq_run 4 t x y r h1 Op.maxDepth (by decide) ι x' y' hx hy w⟩⟩

theorem aBin_run {op : BinOp} {t : TypeId} {x y x' y' : Value} {ι : Map} (h : aBin P op t x y = some v) (hx : VRel ι x x') (hy : VRel ι y y') (xo yo : Operand) (w : World) :
    (eqGuard op t xo yo x' y').run P w = .ok () w ∧ (binOp op t x' y').run P w = .ok v w ∧ VRel ι v v := by
  unfold aBin at h
  split at h
  · rw [int_inv hx, int_inv hy]
    refine ⟨by rw [eqGuard_at_int]; rfl, aInt_run h t w, ?_⟩
    unfold aInt at h
    repeat' (split at h)
    all_goals first
      | (cases h; first | exact .int _ _ | exact .bool _)
      | cases h
  · rw [string_inv hx, string_inv hy]
    refine ⟨by rw [eqGuard_at_string]; rfl, aStr_run h t w, ?_⟩
    unfold aStr at h
    repeat' (split at h)
    all_goals first
      | (cases h; first | exact .string _ | exact .bool _)
      | cases h
  · rw [bool_inv hx, bool_inv hy]
    obtain ⟨r, rfl, hr⟩ := aCmp_run h (.bool (ι := ι) _) (.bool _) w
    refine ⟨by rw [eqGuard_at_bool]; rfl, ?_, .bool _⟩
    rcases hr with ⟨rfl, hr⟩ | ⟨rfl, hr⟩ <;> simp [binOp, hr]
  · obtain ⟨a', rfl, _⟩ := ptr_inv hx
    obtain ⟨b', rfl, _⟩ := ptr_inv hy
    obtain ⟨r, rfl, hr⟩ := aCmp_run h hx hy w
    refine ⟨by rw [eqGuard_at_pointer]; rfl, ?_, .bool _⟩
    rcases hr with ⟨rfl, hr⟩ | ⟨rfl, hr⟩ <;> simp [binOp, hr]
  · obtain ⟨a', c1, rfl, _⟩ := slice_inv hx
    obtain ⟨b', c2, rfl, _⟩ := slice_inv hy
    obtain ⟨r, rfl, hr⟩ := aCmp_run h hx hy w
    refine ⟨by rw [eqGuard_at_slice]; rfl, ?_, .bool _⟩
    rcases hr with ⟨rfl, hr⟩ | ⟨rfl, hr⟩ <;> simp [binOp, hr]
  · split at h
    · rename_i hg
      obtain ⟨xs', rfl⟩ := hx.agg_inv
      obtain ⟨ys', rfl⟩ := hy.agg_inv
      obtain ⟨r, rfl, hr⟩ := aCmp_run h hx hy w
      refine ⟨run_eqGuard_agg w op t xo yo _ _ hg, ?_, .bool _⟩
      rcases hr with ⟨rfl, hr⟩ | ⟨rfl, hr⟩ <;> simp [binOp, hr]
    · cases h
  · cases h

theorem OpTo.binOp {dst : Option Tmp} {op : BinOp} {t t' ty : TypeId} {x y : Operand} {pos : String} {after : Array Edge} {g : Option (Nat × Bool)}
    (h : aBin P op t (ρ x) (ρ y) = some v) : OpTo P ⟨dst, .binOp op t x y t', ty, pos, after, g⟩ ρ H v H :=
  .pure fun ι w ρ' hr hx => by
    obtain ⟨h1, h2, h3⟩ := aBin_run h (hx x (by simp [Op.operands])) (hx y (by simp [Op.operands])) x y w
    refine ⟨v, ?_, h3⟩
    simp only [execOp, Sem.run_bind, h1, h2, Result.andThen_ok, Sem.run_pure]

theorem OpTo.move {dst : Option Tmp} {ty : TypeId} {x : Operand} {pos : String} {after : Array Edge} {g : Option (Nat × Bool)} : OpTo P ⟨dst, .move x, ty, pos, after, g⟩ ρ H (ρ x) H :=
  .pure fun ι w ρ' hr hx => ⟨ρ' x, by simp [execOp], hx x (by simp [Op.operands])⟩
theorem OpTo.assign {dst : Option Tmp} {ty : TypeId} {x : Operand} {pos : String} {after : Array Edge} {g : Option (Nat × Bool)} : OpTo P ⟨dst, .assign x, ty, pos, after, g⟩ ρ H (ρ x) H :=
  .pure fun ι w ρ' hr hx => ⟨ρ' x, by simp [execOp], hx x (by simp [Op.operands])⟩
theorem OpTo.pick {dst : Option Tmp} {ty : TypeId} {c a b : Operand} {pos : String} {after : Array Edge} {g : Option (Nat × Bool)} {t : Bool} (hc : ρ c = .bool t) :
    OpTo P ⟨dst, .pick c a b, ty, pos, after, g⟩ ρ H (if t then ρ a else ρ b) H :=
  .pure fun ι w ρ' hr hx => by
    have h1 := hx c (by simp [Op.operands])
    rw [hc] at h1
    refine ⟨if t then ρ' a else ρ' b, by simp [execOp, bool_inv h1, asBool], ?_⟩
    cases t
    · exact hx b (by simp [Op.operands])
    · exact hx a (by simp [Op.operands])

def aUn (op : UnOp) (x : Value) : Option Value :=
  match op, x with
  | .not, .bool b => some (.bool (!b))
  | .neg, .int k n => some (.int k (k.wrap (0 - n)))
  | .xor, .int k n => some (.int k (Go.bits .xor k (if k.signed then -1 else k.max) n))
  | _, _ => none

theorem OpTo.unOp {dst : Option Tmp} {op : UnOp} {t ty : TypeId} {x : Operand} {pos : String} {after : Array Edge} {g : Option (Nat × Bool)} (h : aUn op (ρ x) = some v) :
    OpTo P ⟨dst, .unOp op t x, ty, pos, after, g⟩ ρ H v H :=
  .pure fun ι w ρ' hr hx => by
    have h1 := hx x (by simp [Op.operands])
    unfold aUn at h
    split at h
    · rename_i b e; rw [e] at h1; cases h; exact ⟨_, by simp [execOp, bool_inv h1, Op.unary], .bool _⟩
    · rename_i k n e; rw [e] at h1; cases h; exact ⟨_, by simp [execOp, int_inv h1, Op.unary, Op.intArith], .int _ _⟩
    · rename_i k n e; rw [e] at h1; cases h; exact ⟨_, by simp [execOp, int_inv h1, Op.unary]; rfl, .int _ _⟩
    · cases h

def aConv (P : Program) (src dst : TypeId) (x : Value) : Option Value :=
  match P.underlying src, P.underlying dst, x with
  | some _, some (.int k), .int _ n => some (.int k (k.wrap n))
  | some _, some .string, .string s => some (.string s)
  | _, _, _ => none

theorem OpTo.convert {dst : Option Tmp} {src des ty : TypeId} {x : Operand} {pos : String} {after : Array Edge} {g : Option (Nat × Bool)} (h : aConv P src des (ρ x) = some v) :
    OpTo P ⟨dst, .convert src des x, ty, pos, after, g⟩ ρ H v H :=
  .pure fun ι w ρ' hr hx => by
    have h1 := hx x (by simp [Op.operands])
    unfold aConv at h
    split at h
    · rename_i d k k' n e1 e2 e; rw [e] at h1; cases h; exact ⟨_, by simp [execOp, int_inv h1, Go.convert, run_underlying e1, run_underlying e2, Conv.intToInt], .int _ _⟩
    · rename_i d s e1 e2 e; rw [e] at h1; cases h; exact ⟨_, by simp [execOp, string_inv h1, Go.convert, run_underlying e1, run_underlying e2], .string _⟩
    · cases h

theorem OpTo.makeInterface {dst : Option Tmp} {t ty : TypeId} {x : Operand} {pos : String} {after : Array Edge} {g : Option (Nat × Bool)} (h : P.concrete t = true) :
    OpTo P ⟨dst, .makeInterface t x, ty, pos, after, g⟩ ρ H (.iface t (ρ x)) H :=
  .pure fun ι w ρ' hr hx => ⟨_, by simp [execOp, run_makeInterface w t (ρ' x) h], .iface t (hx x (by simp [Op.operands]))⟩

theorem OpTo.makeFunc {dst : Option Tmp} {fn : Fn} {first caps : Array Operand} {ty : TypeId} {pos : String} {after : Array Edge} {g : Option (Nat × Bool)} :
    OpTo P ⟨dst, .makeFunc fn first caps, ty, pos, after, g⟩ ρ H (.func fn (first.map ρ) (caps.map ρ)) H :=
  .pure fun ι w ρ' hr hx => by
    refine ⟨.func fn (first.map ρ') (caps.map ρ'), by simp [execOp, Instr.makeFunc], .func fn (by simp) (by simp) (fun i h h' => ?_) (fun i h h' => ?_)⟩
    · simp only [Array.getElem_map]; exact hx _ (by simp only [Op.operands, Array.mem_append]; exact .inl (Array.getElem_mem _))
    · simp only [Array.getElem_map]; exact hx _ (by simp only [Op.operands, Array.mem_append]; exact .inr (Array.getElem_mem _))

def aExtract (x : Value) (i : Nat) : Option Value :=
  match x with
  | .tuple vs => if vs.size = 1 then none else vs[i]?
  | _ => none

theorem tuple_inv {ι : Map} {vs : Array Value} {v' : Value} (h : VRel ι (.tuple vs) v') (hp : vs.size ≠ 1) : ∃ vs', v' = .tuple vs' ∧ vs.size = vs'.size ∧ ∀ i (h : i < vs.size) (h' : i < vs'.size), VRel ι vs[i] vs'[i] := by
  generalize hv : Value.tuple vs = v at h
  cases h <;> first | (cases hv; exact ⟨_, rfl, by assumption, by assumption⟩) | (simp [Am.poison] at hv; subst hv; simp at hp; done) | cases hv

theorem OpTo.extract {dst : Option Tmp} {i : Nat} {ty : TypeId} {x : Operand} {pos : String} {after : Array Edge} {g : Option (Nat × Bool)} (h : aExtract (ρ x) i = some v) :
    OpTo P ⟨dst, .extract x i, ty, pos, after, g⟩ ρ H v H :=
  .pure fun ι w ρ' hr hx => by
    have h1 := hx x (by simp [Op.operands])
    unfold aExtract at h
    split at h
    · rename_i vs e
      rw [e] at h1
      split at h
      · cases h
      · rename_i hne
        obtain ⟨vs', e', hs, hall⟩ := tuple_inv h1 hne
        obtain ⟨hi, rfl⟩ := Array.getElem?_eq_some_iff.1 h
        exact ⟨vs'[i]'(by omega), by simp [execOp, Instr.extract, e', Array.getElem?_eq_getElem (show i < vs'.size by omega)], hall i hi (by omega)⟩
    · cases h

def aNilCheck (x : Value) : Option Value :=
  match x with
  | .pointer (some a) => some (.pointer (some a))
  | .func (.func f) a c => some (.func (.func f) a c)
  | _ => none

theorem func_inv {ι : Map} {fn : Fn} {f c : Array Value} {v' : Value} (h : VRel ι (.func fn f c) v') : ∃ f' c', v' = .func fn f' c' ∧ f.size = f'.size ∧ c.size = c'.size ∧ (∀ i (h : i < f.size) (h' : i < f'.size), VRel ι f[i] f'[i]) ∧
    (∀ i (h : i < c.size) (h' : i < c'.size), VRel ι c[i] c'[i]) := by
  generalize hv : Value.func fn f c = v at h
  cases h <;> first | (cases hv; exact ⟨_, _, rfl, by assumption, by assumption, by assumption, by assumption⟩) | (simp [Am.poison] at hv; done) | cases hv

theorem OpTo.nilCheck {dst : Option Tmp} {ty : TypeId} {x : Operand} {pos : String} {after : Array Edge} {g : Option (Nat × Bool)} (h : aNilCheck (ρ x) = some v) :
    OpTo P ⟨dst, .nilCheck x, ty, pos, after, g⟩ ρ H v H :=
  .pure fun ι w ρ' hr hx => by
    have h1 := hx x (by simp [Op.operands])
    unfold aNilCheck at h
    split at h
    · rename_i a e
      rw [e] at h1; cases h
      obtain ⟨a', e', hn⟩ := ptr_inv h1
      cases a' with
      | none => cases hn
      | some a' => exact ⟨.pointer (some a'), by simp [execOp, e'], by rw [← e']; exact h1⟩
    · rename_i f a c e
      rw [e] at h1; cases h
      obtain ⟨f', c', e', _⟩ := func_inv h1
      exact ⟨.func (.func f) f' c', by simp [execOp, e'], by rw [← e']; exact h1⟩
    · cases h

def aFieldAddr (P : Program) (s : TypeId) (x : Value) (f : Nat) : Option Value :=
  match P.underlying s, x with
  | some (.struct fs), .pointer (some a) => match fs[f]? with
    | some fd => match P.info? fd.type with
      | some i => if i.size = 0 then none else some (.pointer (some ⟨a.block, a.off + fd.offset, none⟩))
      | none => none
    | none => none
  | _, _ => none

theorem ptr_some_inv {ι : Map} {a : Addr} {v' : Value} (h : VRel ι (.pointer (some a)) v') : ∃ b off inf, a = ⟨b, off, none⟩ ∧ ι b = some inf ∧ v' = .pointer (some ⟨inf.B, inf.sh + off, none⟩) := by
  generalize hv : Value.pointer (some a) = v at h
  cases h <;> first | (cases hv; exact ⟨_, _, _, rfl, by assumption, rfl⟩) | (simp [Am.poison] at hv; done) | cases hv

theorem Addr.add_eq (b o n : Nat) : Addr.add ⟨b, o, none⟩ n = ⟨b, o + n, none⟩ := by unfold Addr.add; split <;> simp_all

theorem OpTo.fieldAddr {dst : Option Tmp} {s ty : TypeId} {f : Nat} {x : Operand} {pos : String} {after : Array Edge} {g : Option (Nat × Bool)} (h : aFieldAddr P s (ρ x) f = some v) :
    OpTo P ⟨dst, .fieldAddr s x f, ty, pos, after, g⟩ ρ H v H :=
  .pure fun ι w ρ' hr hx => by
    have h1 := hx x (by simp [Op.operands])
    unfold aFieldAddr at h
    split at h
    · rename_i fs a hu e
      rw [e] at h1
      split at h
      · rename_i fd hf
        split at h
        · rename_i i hi
          split at h
          · cases h
          · rename_i hz
            cases h
            obtain ⟨b, off, inf, rfl, hb, e'⟩ := ptr_some_inv h1
            refine ⟨.pointer (some ⟨inf.B, inf.sh + (off + fd.offset), none⟩), ?_, .ptr hb⟩
            simp [execOp, Instr.fieldAt, run_underlying hu, hf, e', Instr.sureAddr, fieldPlace, run_sizeOf' hi, hz, Addr.add_eq, Nat.add_assoc]
        · cases h
      · cases h
    · cases h

def aField (P : Program) (t : TypeId) (x : Value) (f : Nat) : Option Value :=
  match P.underlying t, x with
  | some (.struct fs), .agg cs => match fs[f]? with
    | some fd => aPart P fd.type cs fd.offset
    | none => none
  | _, _ => none

theorem OpTo.field {dst : Option Tmp} {t ty : TypeId} {f : Nat} {x : Operand} {pos : String} {after : Array Edge} {g : Option (Nat × Bool)} (h : aField P t (ρ x) f = some v) :
    OpTo P ⟨dst, .field t x f, ty, pos, after, g⟩ ρ H v H :=
  .pure fun ι w ρ' hr hx => by
    have h1 := hx x (by simp [Op.operands])
    unfold aField at h
    split at h
    · rename_i fs cs hu e
      rw [e] at h1
      split at h
      · rename_i fd hf
        obtain ⟨cs', e'⟩ := h1.agg_inv
        rw [e'] at h1
        obtain ⟨v', hv', hrel⟩ := aPart_rel h h1
        exact ⟨v', by simp [execOp, Instr.field, run_underlying hu, hf, e', asAgg, run_part hv'], hrel⟩
      · cases h
    · cases h

def aIndexAddr (P : Program) (t : TypeId) (x i : Value) : Option Value :=
  match P.underlying t, x, i with
  | some (.array n e), .pointer (some a), .int _ j => match P.info? e with
    | some q => if 0 ≤ j ∧ j < n then some (.pointer (some ⟨a.block, a.off + j.toNat * q.size, none⟩)) else none
    | none => none
  | some (.slice e), .slice (some a) n _, .int _ j => match P.info? e with
    | some q => if 0 ≤ j ∧ j < n then some (.pointer (some ⟨a.block, a.off + j.toNat * q.size, none⟩)) else none
    | none => none
  | _, _, _ => none

theorem slice_some_inv {ι : Map} {a : Addr} {l c : Nat} {v' : Value} (h : VRel ι (.slice (some a) l c) v') : (l = 0 ∧ c = 0 ∧ ∃ a', v' = .slice (some a') 0 0) ∨ ∃ b off c' inf, a = ⟨b, off, none⟩ ∧ ι b = some inf ∧ v' = .slice (some ⟨inf.B, inf.sh + off, none⟩) l c' ∧ l ≤ c ∧ c ≤ c' ∧
    (inf.tight = true ∨ off + c * inf.sz < inf.size → c' = c) ∧ (inf.tight = false → inf.sh + off + c' * inf.sz ≤ inf.top) := by
  generalize hv : Value.slice (some a) l c = v at h
  cases h <;> first
    | (cases hv; exact .inr ⟨_, _, _, _, rfl, by assumption, rfl, by assumption, by assumption, by assumption, by assumption⟩)
    | (cases hv; exact .inl ⟨rfl, rfl, _, rfl⟩)
    | (simp [Am.poison] at hv; done)
    | cases hv

theorem slice_block {ι : Map} {a : Addr} {l c : Nat} {v' : Value} (h : VRel ι (.slice (some a) l c) v') : a = ⟨a.block, a.off, none⟩ ∧ ∃ inf, ι a.block = some inf := by
  generalize hv : Value.slice (some a) l c = v at h
  cases h <;> first
    | (cases hv; exact ⟨rfl, _, by assumption⟩)
    | (simp [Am.poison] at hv; done)
    | cases hv

theorem OpTo.indexAddr {dst : Option Tmp} {t ty : TypeId} {x i : Operand} {pos : String} {after : Array Edge} {g : Option (Nat × Bool)} (h : aIndexAddr P t (ρ x) (ρ i) = some v) :
    OpTo P ⟨dst, .indexAddr t x i, ty, pos, after, g⟩ ρ H v H :=
  .pure fun ι w ρ' hr hx => by
    have h1 := hx x (by simp [Op.operands])
    have h2 := hx i (by simp [Op.operands])
    unfold aIndexAddr at h
    split at h
    · rename_i n e a k j hu ex ei
      rw [ex] at h1; rw [ei] at h2
      split at h
      · rename_i q hq
        split at h
        · rename_i hj
          cases h
          obtain ⟨b, off, inf, rfl, hb, e'⟩ := ptr_some_inv h1
          refine ⟨.pointer (some ⟨inf.B, inf.sh + (off + j.toNat * q.size), none⟩), ?_, .ptr hb⟩
          simp [execOp, Instr.indexAt, int_inv h2, asIntOf, run_underlying hu, e', Instr.sureAddr, hj, run_sizeOf' hq, Addr.add_eq, Nat.add_assoc]
        · cases h
      · cases h
    · rename_i e a n c k j hu ex ei
      rw [ex] at h1; rw [ei] at h2
      split at h
      · rename_i q hq
        split at h
        · rename_i hj
          cases h
          rcases slice_some_inv h1 with ⟨rfl, _⟩ | ⟨b, off, c', inf, rfl, hb, e', _⟩
          · omega
          refine ⟨.pointer (some ⟨inf.B, inf.sh + (off + j.toNat * q.size), none⟩), ?_, .ptr hb⟩
          simp [execOp, Instr.indexAt, int_inv h2, asIntOf, run_underlying hu, e', hj, run_sizeOf' hq, Addr.add_eq, Nat.add_assoc]
        · cases h
      · cases h
    · cases h

def aIndex (P : Program) (t : TypeId) (x i : Value) : Option Value :=
  match P.underlying t, x, i with
  | some (.array n e), .agg cs, .int _ j => match P.info? e with
    | some q => if 0 ≤ j ∧ j < n then aPart P e cs (j.toNat * q.size) else none
    | none => none
  | some .string, .string s, .int _ j => if 0 ≤ j then match s[j.toNat]? with
      | some b => some (.int .u8 b.toNat)
      | none => none
    else none
  | _, _, _ => none

theorem OpTo.index {dst : Option Tmp} {t ty : TypeId} {x i : Operand} {pos : String} {after : Array Edge} {g : Option (Nat × Bool)} (h : aIndex P t (ρ x) (ρ i) = some v) :
    OpTo P ⟨dst, .index t x i, ty, pos, after, g⟩ ρ H v H :=
  .pure fun ι w ρ' hr hx => by
    have h1 := hx x (by simp [Op.operands])
    have h2 := hx i (by simp [Op.operands])
    unfold aIndex at h
    split at h
    · rename_i n e cs k j hu ex ei
      rw [ex] at h1; rw [ei] at h2
      split at h
      · rename_i q hq
        split at h
        · rename_i hj
          obtain ⟨cs', e'⟩ := h1.agg_inv
          rw [e'] at h1
          obtain ⟨v', hv', hrel⟩ := aPart_rel h h1
          exact ⟨v', by simp [execOp, Instr.index, int_inv h2, asIntOf, run_underlying hu, e', hj, run_sizeOf' hq, run_part hv'], hrel⟩
        · cases h
      · cases h
    · rename_i s k j hu ex ei
      rw [ex] at h1; rw [ei] at h2
      split at h
      · rename_i hj
        split at h
        · rename_i b hb
          cases h
          exact ⟨_, by simp [execOp, Instr.index, int_inv h2, asIntOf, run_underlying hu, string_inv h1, hj, hb], .int _ _⟩
        · cases h
      · cases h
    · cases h
end Go.Am
