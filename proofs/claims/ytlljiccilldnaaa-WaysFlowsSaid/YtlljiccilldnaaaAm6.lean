/- len, copy and their like; calls. -/
import Derived.Test.YtlljiccilldnaaaAm5
import Derived.Laws.BytesString
set_option linter.unusedVariables false
set_option linter.unusedSimpArgs false
namespace Go.Am
open Go
variable {P : Program} {ρ : Operand → Value} {H H' : Heap} {v : Value} {o : Oper}

def aLen (P : Program) (t : TypeId) (x : Value) : Option Value :=
  match P.underlying t, x with
  | some .string, .string s => some (.int .i64 s.size)
  | some (.array n _), _ => some (.int .i64 n)
  | some (.slice _), .slice _ n _ => some (.int .i64 n)
  | some (.pointer arr), _ => match P.underlying arr with
    | some (.array n _) => some (.int .i64 n)
    | _ => none
  | _, _ => none

theorem OpTo.len {dst : Option Tmp} {t ty : TypeId} {x : Operand} {pos : String} {after : Array Edge} {g : Option (Nat × Bool)} (h : aLen P t (ρ x) = some v) :
    OpTo P ⟨dst, .call { callee := .builtin .len, args := #[x], argTypes := #[t] }, ty, pos, after, g⟩ ρ H v H :=
  .pure fun ι w ρ' hr hx => by
    have h1 := hx x (by simp [Op.operands, Call.operands])
    have hrun : (execOp ρ' ⟨dst, .call { callee := .builtin .len, args := #[x], argTypes := #[t] }, ty, pos, after, g⟩).run P w = ((Builtin.len_ #[t] ty #[ρ' x]).run P w).andThen fun a w' => .ok (.value a) w' := by
      simp [execOp, resolve, invoke, builtin]
    unfold aLen at h
    split at h
    · rename_i s hu e; rw [e] at h1; cases h
      exact ⟨_, by rw [hrun, string_inv h1]; simp [Builtin.len_, run_underlying hu, goInt], .int _ _⟩
    · rename_i n el hu; cases h
      exact ⟨_, by rw [hrun]; simp [Builtin.len_, run_underlying hu, goInt], .int _ _⟩
    · rename_i el a n c hu e; rw [e] at h1; cases h
      obtain ⟨a', c', e', _⟩ := slice_inv h1
      exact ⟨_, by rw [hrun, e']; simp [Builtin.len_, run_underlying hu, goInt], .int _ _⟩
    · rename_i arr hu
      split at h
      · rename_i n el hu2; cases h
        exact ⟨_, by rw [hrun]; simp [Builtin.len_, run_underlying hu, run_underlying hu2, goInt], .int _ _⟩
      · cases h
    · cases h

/-- cap, where it is known. -/
def aCap (P : Program) (H : Heap) (t : TypeId) (x : Value) : Option Value :=
  match P.underlying t, x with
  | some (.slice e), .slice none _ c => some (.int .i64 c)
  | some (.slice e), .slice (some a) _ c => match H[a.block]? with
    | some k => if k.tight || decide (a.off + c * k.sz < k.cells.length) then some (.int .i64 c) else none
    | none => none
  | _, _ => none

theorem OpTo.cap {dst : Option Tmp} {t ty : TypeId} {x : Operand} {pos : String} {after : Array Edge} {g : Option (Nat × Bool)} (h : aCap P H t (ρ x) = some v) :
    OpTo P ⟨dst, .call { callee := .builtin .cap, args := #[x], argTypes := #[t] }, ty, pos, after, g⟩ ρ H v H :=
  .pure fun ι w ρ' hr hx => by
    have h1 := hx x (by simp [Op.operands, Call.operands])
    have hrun : (execOp ρ' ⟨dst, .call { callee := .builtin .cap, args := #[x], argTypes := #[t] }, ty, pos, after, g⟩).run P w = ((Builtin.cap_ #[t] ty #[ρ' x]).run P w).andThen fun a w' => .ok (.value a) w' := by
      simp [execOp, resolve, invoke, builtin]
    unfold aCap at h
    split at h
    · rename_i e n c hu ex; rw [ex] at h1; cases h
      have e' : ρ' x = .slice none 0 0 ∧ c = 0 := by
        generalize hv : ρ' x = vs at h1
        cases h1; exact ⟨rfl, rfl⟩
      exact ⟨_, by rw [hrun, e'.1, e'.2]; simp [Builtin.cap_, run_underlying hu, goInt], .int _ _⟩
    · rename_i e a n c hu ex
      rw [ex] at h1
      split at h
      · rename_i k hk
        split at h
        · rename_i hex0
          cases h
          rcases slice_some_inv h1 with ⟨rfl, rfl, a', e'⟩ | ⟨b, off, c', inf, rfl, hb, e', hlc, hcc, hex, hrm⟩
          · exact ⟨_, by rw [hrun, e']; simp [Builtin.cap_, run_underlying hu, goInt], .int _ _⟩
          · obtain ⟨kk, p1, p2, p3, p4, _⟩ := hr.blk b inf hb
            rw [hk] at p1; cases p1
            have hc' : c' = c := by
              apply hex
              simp only [Bool.or_eq_true, decide_eq_true_eq] at hex0
              rcases hex0 with h3 | h3
              · exact .inl (p4.trans h3)
              · right; rw [p2, p3]; exact h3
            subst hc'
            exact ⟨_, by rw [hrun, e']; simp [Builtin.cap_, run_underlying hu, goInt], .int _ _⟩
        · cases h
      · cases h
    · cases h

def foldStep (f : Int → Int → Int) (acc : Option Value) (y : Value) : Option Value :=
  match acc, y with
  | some (.int k x), .int _ y => some (.int k (f x y))
  | _, _ => none

def aFold (f : Int → Int → Int) : List Value → Option Value
  | .int k x :: rest => rest.foldl (foldStep f) (some (.int k x))
  | _ => none

theorem aFold_none (f : Int → Int → Int) (l : List Value) : l.foldl (foldStep f) none = none := by
  induction l with
  | nil => rfl
  | cons v l ih => rw [List.foldl_cons]; exact ih

theorem fold_ints {f : Int → Int → Int} : ∀ (l : List Value) (k : IntKind) (x : Int) (v : Value), l.foldl (foldStep f) (some (.int k x)) = some v → (∃ k n, v = .int k n) ∧ ∀ y ∈ l, ∃ k n, y = .int k n
  | [], k, x, v, h => by cases h; exact ⟨⟨_, _, rfl⟩, by simp⟩
  | y :: l, k, x, v, h => by
    simp only [List.foldl_cons] at h
    cases y with
    | int k' y =>
      obtain ⟨h2, h3⟩ := fold_ints l k (f x y) v h
      refine ⟨h2, fun z hz => ?_⟩
      rcases List.mem_cons.1 hz with rfl | hz
      · exact ⟨_, _, rfl⟩
      · exact h3 z hz
    | _ => simp only [foldStep] at h; rw [aFold_none] at h; cases h

theorem run_fold {f : Int → Int → Int} {m2 : Value → Value → Sem Value} (hm : ∀ k k' x y w, (m2 (.int k x) (.int k' y)).run P w = .ok (.int k (f x y)) w) (w : World) : ∀ (l : List Value) (k : IntKind) (x : Int) (v : Value),
    l.foldl (foldStep f) (some (.int k x)) = some v → (l.foldlM m2 (.int k x)).run P w = .ok v w
  | [], k, x, v, h => by cases h; simp
  | y :: l, k, x, v, h => by
    simp only [List.foldl_cons] at h
    cases y with
    | int k' y =>
      have h1 := run_fold hm w l k (f x y) v h
      simp [List.foldlM_cons, hm, h1]
    | _ => simp only [foldStep] at h; rw [aFold_none] at h; cases h

theorem OpTo.minmax {dst : Option Tmp} {b : Builtin} {ts : Array TypeId} {ty : TypeId} {xs : Array Operand} {pos : String} {after : Array Edge} {g : Option (Nat × Bool)} {f : Int → Int → Int}
    (hb : (b = .min ∧ f = fun x y => if y < x then y else x) ∨ (b = .max ∧ f = fun x y => if y > x then y else x)) (h : aFold f (xs.map ρ).toList = some v) :
    OpTo P ⟨dst, .call { callee := .builtin b, args := xs, argTypes := ts }, ty, pos, after, g⟩ ρ H v H :=
  .pure fun ι w ρ' hr hx => by
    cases hl : xs.toList with
    | nil => simp [hl, aFold] at h
    | cons y ys =>
      simp only [Array.toList_map, hl, List.map_cons] at h
      cases hy : ρ y with
      | int k x =>
        simp only [hy, aFold] at h
        have hall : (∃ k n, v = .int k n) ∧ ∀ z ∈ ys.map ρ, ∃ k n, z = .int k n := fold_ints _ k x v h
        have heq : (xs.map ρ').toList = .int k x :: ys.map ρ := by
          have hy' := hx y (by simp [Op.operands, Call.operands, ← Array.mem_toList_iff, hl])
          rw [hy] at hy'
          simp only [Array.toList_map, hl, List.map_cons, int_inv hy']
          congr 1
          refine List.map_congr_left fun z hz => ?_
          obtain ⟨k', n', e⟩ := hall.2 (ρ z) (List.mem_map.2 ⟨z, hz, rfl⟩)
          have hz' := hx z (by simp [Op.operands, Call.operands, ← Array.mem_toList_iff, hl, hz])
          rw [e] at hz'
          rw [int_inv hz', e]
        obtain ⟨k0, n0, rfl⟩ := hall.1
        have heq' : List.map ρ' xs.toList = .int k x :: ys.map ρ := by rw [← heq, Array.toList_map]
        refine ⟨.int k0 n0, ?_, .int _ _⟩
        rcases hb with ⟨rfl, rfl⟩ | ⟨rfl, rfl⟩
        · have := run_fold (P := P) (f := fun x y => if y < x then y else x) (m2 := Builtin.min2) (fun k k' x y w => by simp [Builtin.min2]) w _ k x _ h
          simp [execOp, resolve, invoke, builtin, Builtin.min_, heq', this]
        · have := run_fold (P := P) (f := fun x y => if y > x then y else x) (m2 := Builtin.max2) (fun k k' x y w => by simp [Builtin.max2]) w _ k x _ h
          simp [execOp, resolve, invoke, builtin, Builtin.max_, heq', this]
      | _ => simp [hy, aFold] at h

/-- copy: how many elements, and memory behind it. -/
def aCopy (P : Program) (H : Heap) (t : TypeId) (d s : Value) : Option (Value × Heap) :=
  match P.underlying t, d, s with
  | some (.slice e), .slice da dl _, .slice sa sl _ => match P.info? e with
    | some q => if Nat.min sl dl = 0 then some (.int .i64 0, H) else match da, sa with
      | some da, some sa => match rdBlk H sa.block sa.off (Nat.min sl dl * q.size) with
        | some l => (wrBlk H da.block da.off l).map fun H' => (.int .i64 (Nat.min sl dl : Nat), H')
        | none => none
      | _, _ => none
    | none => none
  | _, _, _ => none

theorem aCopy_ext {t : TypeId} {d s : Value} (h : aCopy P H t d s = some (v, H')) : HExt H H' := by
  unfold aCopy at h
  split at h
  · split at h
    · split at h
      · cases h; exact .refl _
      · split at h
        · split at h
          · rw [Option.map_eq_some_iff] at h
            obtain ⟨H1, h1, h2⟩ := h
            cases h2
            exact wrBlk_ext h1
          · cases h
        · cases h
    · cases h
  · cases h

theorem OpTo.copy {dst : Option Tmp} {t u ty : TypeId} {x y : Operand} {pos : String} {after : Array Edge} {g : Option (Nat × Bool)} (h : aCopy P H t (ρ x) (ρ y) = some (v, H')) :
    OpTo P ⟨dst, .call { callee := .builtin .copy, args := #[x, y], argTypes := #[t, u] }, ty, pos, after, g⟩ ρ H v H' :=
  ⟨aCopy_ext h, fun ι w ρ' hr hx => by
    have h1 := hx x (by simp [Op.operands, Call.operands])
    have h2 := hx y (by simp [Op.operands, Call.operands])
    have hrun : (execOp ρ' ⟨dst, .call { callee := .builtin .copy, args := #[x, y], argTypes := #[t, u] }, ty, pos, after, g⟩).run P w = ((Builtin.copy_ #[t, u] ty #[ρ' x, ρ' y]).run P w).andThen fun a w' => .ok (.value a) w' := by
      simp [execOp, resolve, invoke, builtin]
    unfold aCopy at h
    split at h
    · rename_i e da dl dc sa sl sc hu ex ey
      rw [ex] at h1; rw [ey] at h2
      obtain ⟨da', dc', ed, hnd, _⟩ := slice_inv h1
      obtain ⟨sa', sc', es, hns, _⟩ := slice_inv h2
      split at h
      · rename_i q hq
        split at h
        · rename_i h0
          cases h
          have : (Builtin.copy_ #[t, u] ty #[ρ' x, ρ' y]).run P w = .ok (.int .i64 0) w := by
            rw [ed, es]
            cases da' <;> cases sa' <;> simp [Builtin.copy_, run_underlying hu, Builtin.lenOf, run_sizeOf' hq, h0, Builtin.firstCells, loadCells, loadCellsFrom, storeCells, goInt]
          rw [hrun, this]
          exact ⟨ι, .int _ _, .refl hr⟩
        · rename_i h0
          split at h
          · rename_i da sa
            split at h
            · rename_i l hl
              rw [Option.map_eq_some_iff] at h
              obtain ⟨H1, hw1, h⟩ := h
              cases h
              have hmin : 0 < Nat.min sl dl := Nat.pos_of_ne_zero h0
              have hsl : 0 < sl := Nat.lt_of_lt_of_le hmin (Nat.min_le_left _ _)
              have hdl : 0 < dl := Nat.lt_of_lt_of_le hmin (Nat.min_le_right _ _)
              rcases slice_some_inv h1 with ⟨rfl, _⟩ | ⟨b, off, c', inf, rfl, hb, e', _⟩
              · exact absurd hdl (by omega)
              rcases slice_some_inv h2 with ⟨rfl, _⟩ | ⟨b2, off2, c2, inf2, rfl, hb2, e2, _⟩
              · exact absurd hsl (by omega)
              obtain ⟨l', g1, g2, g3, g4⟩ := rdBlk_run hr hb2 hl
              obtain ⟨w', k1, k2⟩ := wrBlk_run (P := P) hr hb hw1 g1
              have hf := run_firstCells_some (P := P) w q.size (Nat.min sl dl) ⟨inf2.B, inf2.sh + off2, none⟩ sl c2 l' g3 g4
              have : (Builtin.copy_ #[t, u] ty #[ρ' x, ρ' y]).run P w = .ok (.int .i64 (Nat.min sl dl : Nat)) w' := by
                rw [e', e2]
                simp [Builtin.copy_, run_underlying hu, Builtin.lenOf, run_sizeOf' hq, hf, k1, goInt]
              rw [hrun, this]
              exact ⟨ι, .int _ _, k2⟩
            · cases h
          · cases h
      · cases h
    · cases h⟩

def aClear (P : Program) (H : Heap) (t : TypeId) (x : Value) : Option Heap :=
  match P.underlying t, x with
  | some (.slice e), .slice a n _ => if n = 0 then some H else match aZero P e, P.info? e, a with
    | some z, some q, some a => if q.size = z.cells.size ∧ 0 < q.size then wrBlk H a.block a.off (zeros z n) else none
    | _, _, _ => none
  | _, _ => none

theorem OpTo.clear {dst : Option Tmp} {t ty : TypeId} {x : Operand} {pos : String} {after : Array Edge} {g : Option (Nat × Bool)} (h : aClear P H t (ρ x) = some H') :
    OpTo P ⟨dst, .call { callee := .builtin .clear, args := #[x], argTypes := #[t] }, ty, pos, after, g⟩ ρ H undef H' := by
  have hrun : ∀ ρ' w, (execOp ρ' ⟨dst, .call { callee := .builtin .clear, args := #[x], argTypes := #[t] }, ty, pos, after, g⟩).run P w = ((Builtin.clear_ #[t] ty #[ρ' x]).run P w).andThen fun a w' => .ok (.value a) w' := by
    intro ρ' w; simp [execOp, resolve, invoke, builtin]
  unfold aClear at h
  split at h
  · rename_i e a n c hu ex
    split at h
    · rename_i h0
      subst h0
      cases h
      refine .pure fun ι w ρ' hr hx => ?_
      have h1 := hx x (by simp [Op.operands, Call.operands])
      rw [ex] at h1
      obtain ⟨a', c', e', _⟩ := slice_inv h1
      refine ⟨undef, ?_, .undef⟩
      rw [hrun, e']
      cases a' <;> simp [Builtin.clear_, run_underlying hu, undef]
    · rename_i h0
      split at h
      · rename_i z q a ez hq
        split at h
        · rename_i hs
          refine ⟨wrBlk_ext h, fun ι w ρ' hr hx => ?_⟩
          have h1 := hx x (by simp [Op.operands, Call.operands])
          rw [ex] at h1
          rcases slice_some_inv h1 with ⟨rfl, _⟩ | ⟨b, off, c', inf, rfl, hb, e', _⟩
          · exact absurd rfl h0
          obtain ⟨hz, hpl, _⟩ := aZero_run ez w
          obtain ⟨w', k1, k2⟩ := wrBlk_run (P := P) hr hb h (CRel.const (ι := ι) (zeros_plain hpl n))
          have hza := zeroCells_list z n (by omega)
          have : (Builtin.clear_ #[t] ty #[ρ' x]).run P w = .ok (.tuple #[]) w' := by
            rw [e']
            obtain ⟨m, rfl⟩ : ∃ m, n = m + 1 := ⟨n - 1, by omega⟩
            simp [Builtin.clear_, run_underlying hu, hz, hza, k1]
          rw [hrun, this]
          exact ⟨ι, .undef, k2⟩
        · cases h
      · cases h
  · cases h

/-- string(bytes). -/
def bytesOf : List Value → Option (List Int)
  | [] => some []
  | .int .u8 n :: l => (bytesOf l).map (n :: ·)
  | _ => none

def strOf (ns : List Int) : ByteArray := ns.foldl (fun r n => r.push (UInt8.ofNat n.toNat)) ByteArray.empty

def aBytesStr (P : Program) (H : Heap) (src dst : TypeId) (x : Value) : Option Value :=
  match P.underlying src, P.underlying dst, x with
  | some (.slice e), some .string, .slice a n _ => match P.underlying e with
    | some (.int .u8) => match a with
      | none => some (.string .empty)
      | some a => if n = 0 then some (.string .empty) else match rdBlk H a.block a.off n with
        | some l => (bytesOf l).map fun ns => .string (strOf ns)
        | none => none
    | _ => none
  | _, _, _ => none

theorem bytesOf_eq : ∀ {l : List Value} {ns : List Int}, bytesOf l = some ns → l = ns.map (Value.int .u8)
  | [], ns, h => by cases h; rfl
  | v :: l, ns, h => by
    unfold bytesOf at h
    split at h
    · rename_i e; cases e
    · rename_i n l' e
      cases e
      rw [Option.map_eq_some_iff] at h
      obtain ⟨m, h1, rfl⟩ := h
      rw [bytesOf_eq h1]; rfl
    · cases h

theorem crel_bytes {ι : Map} {ns : List Int} {l' : List Value} (h : CRel ι (ns.map (Value.int .u8)) l') : l' = ns.map (Value.int .u8) := by
  apply List.ext_getElem?
  intro i
  by_cases hi : i < ns.length
  · have hg : (ns.map (Value.int .u8))[i]? = some (.int .u8 ns[i]) := by simp [hi]
    obtain ⟨v', h1, _, h3⟩ := h.get hg
    rw [h1, hg, int_inv h3]
  · have := h.1
    rw [List.getElem?_eq_none (by simp at this; omega), List.getElem?_eq_none (by simp; omega)]

theorem OpTo.bytesStr {dst : Option Tmp} {src des ty : TypeId} {x : Operand} {pos : String} {after : Array Edge} {g : Option (Nat × Bool)} (h : aBytesStr P H src des (ρ x) = some v) :
    OpTo P ⟨dst, .convert src des x, ty, pos, after, g⟩ ρ H v H :=
  .pure fun ι w ρ' hr hx => by
    have h1 := hx x (by simp [Op.operands])
    unfold aBytesStr at h
    split at h
    · rename_i e a n c hs hd ex
      rw [ex] at h1
      split at h
      · rename_i he
        obtain ⟨a', c', e', hn, _⟩ := slice_inv h1
        have hconv : (Go.convert src des (ρ' x)).run P w = (Conv.bytesToString (.slice a' n c')).run P w := by rw [e']; exact run_convert_bytes_string w src des e a' n c' hs he hd
        split at h
        · cases h
          cases a' with
          | some a' => cases hn
          | none => exact ⟨_, by simp [execOp, hconv, Conv.bytesToString], .string _⟩
        · rename_i a
          split at h
          · rename_i h0
            subst h0
            cases h
            cases a' with
            | none => cases hn
            | some a' => exact ⟨_, by simp [execOp, hconv, Conv.bytesToString, loadCells, loadCellsFrom], .string _⟩
          · rename_i h0
            split at h
            · rename_i l hl
              rw [Option.map_eq_some_iff] at h
              obtain ⟨ns, hns, rfl⟩ := h
              rcases slice_some_inv h1 with ⟨rfl, _⟩ | ⟨b, off, c2, inf, rfl, hb, e2, _⟩
              · exact absurd rfl h0
              obtain ⟨l', g1, g2, g3, g4⟩ := rdBlk_run hr hb hl
              rw [bytesOf_eq hns] at g1
              have hl' := crel_bytes g1
              rw [e'] at e2
              cases e2
              have hload := run_loadCells' (P := P) g4 g3
              rw [hl'] at hload
              exact ⟨_, by simp [execOp, hconv, run_bytesToString w _ n c' ns hload, strOf], .string _⟩
            · cases h
      · cases h
    · cases h

/-! ### Calls -/
def callable (P : Program) (f : FuncId) : Bool :=
  match P.funcs[f]? with
  | some fn => !(fn.name == "runtime.NumGoroutine") && fn.body.isSome
  | none => false

theorem run_callFunc {f : FuncId} (h : callable P f = true) (args : Array Value) (w : World) : (callFunc f args).run P w = .ok (.enter f args) w := by
  unfold callable at h
  cases hf : P.funcs[f]? with
  | none => simp [hf] at h
  | some fn =>
    simp only [hf, Bool.and_eq_true, Bool.not_eq_true'] at h
    have hb : fn.body ≠ none := by
      intro e; rw [e] at h; simp at h
    have hn : fn.name ≠ "runtime.NumGoroutine" := by simpa using h.1
    simp [callFunc, hf, hn, hb]

theorem arel_map {ι : Map} {ρ' : Operand → Value} {xs : Array Operand} (h : ∀ x ∈ xs, VRel ι (ρ x) (ρ' x)) : (xs.map ρ).size = (xs.map ρ').size ∧ ∀ i (h1 : i < (xs.map ρ).size) (h2 : i < (xs.map ρ').size), VRel ι (xs.map ρ)[i] (xs.map ρ')[i] :=
  ⟨by simp, fun i h1 h2 => by simp only [Array.getElem_map]; exact h _ (Array.getElem_mem _)⟩

theorem arel_append {ι : Map} {a a' b b' : Array Value} (h1 : a.size = a'.size) (h2 : ∀ i (h : i < a.size) (h' : i < a'.size), VRel ι a[i] a'[i]) (h3 : b.size = b'.size) (h4 : ∀ i (h : i < b.size) (h' : i < b'.size), VRel ι b[i] b'[i]) :
    (a ++ b).size = (a' ++ b').size ∧ ∀ i (h : i < (a ++ b).size) (h' : i < (a' ++ b').size), VRel ι (a ++ b)[i] (a' ++ b')[i] := by
  refine ⟨by simp [h1, h3], fun i h h' => ?_⟩
  rw [Array.getElem_append, Array.getElem_append]
  split
  · rename_i hi
    rw [dif_pos (by omega)]
    exact h2 _ _ _
  · rename_i hi
    rw [dif_neg (by omega)]
    simp only [← h1]
    exact h4 _ _ _

/-- Which function a call of this value enters, and with what. -/
def aCallee (f : Value) (args : Array Value) : Option (FuncId × Array Value) :=
  match f with
  | .func (.func g) first caps => some (g, first ++ args ++ caps)
  | _ => none

theorem OpTo.call {dst : Option Tmp} {ts : Array TypeId} {ty : TypeId} {f : Operand} {xs : Array Operand} {pos : String} {after : Array Edge} {g : Option (Nat × Bool)} {fn : FuncId} {args : Array Value}
    (h : aCallee (ρ f) (xs.map ρ) = some (fn, args)) (hc : callable P fn = true) (hcall : CallTo P fn args H v H') : OpTo P ⟨dst, .call { callee := .value f, args := xs, argTypes := ts }, ty, pos, after, g⟩ ρ H v H' :=
  ⟨hcall.ext, fun ι w ρ' hr hx => by
    have h1 := hx f (by simp [Op.operands, Call.operands])
    have h2 : ∀ x ∈ xs, VRel ι (ρ x) (ρ' x) := fun x hx' => hx x (by simp [Op.operands, Call.operands, hx'])
    unfold aCallee at h
    split at h
    · rename_i g first caps e
      rw [e] at h1
      cases h
      obtain ⟨first', caps', e', s1, s2, r1, r2⟩ := func_inv h1
      obtain ⟨m1, m2⟩ := arel_map h2
      obtain ⟨n1, n2⟩ := arel_append s1 r1 m1 m2
      obtain ⟨k1, k2⟩ := arel_append n1 n2 s2 r2
      have hrun : (execOp ρ' ⟨dst, .call { callee := .value f, args := xs, argTypes := ts }, ty, pos, after, ‹_›⟩).run P w = .ok (.enter fn (first' ++ xs.map ρ' ++ caps')) w := by
        simp only [execOp, resolve, e', Deferred.ofValue, Sem.run_bind, Sem.run_pure, Result.andThen_ok, invoke]
        exact run_callFunc hc _ w
      rw [hrun]
      exact hcall.run ι w _ hr k1 k2
    · cases h⟩

/-- Which function a call of a method through an interface value enters, and with what receiver. -/
def aMethod (P : Program) (H : Heap) (r : Value) (name : String) : Option (FuncId × Value) :=
  match r with
  | .iface t v => match P.info? t with
    | some q => match q.methods.find? (·.name == name) with
      | some m => if m.path.isEmpty then match m.func, P.underlying t with
          | some (f, true), some (.pointer _) => some (f, v)
          | some (f, false), some (.pointer el) => (rdVal P H el v).map fun x => (f, x)
          | some (f, false), some _ => some (f, v)
          | _, _ => none
        else none
      | none => none
    | none => none
  | _ => none

theorem iface_inv {ι : Map} {t : TypeId} {v v' : Value} (h : VRel ι (.iface t v) v') : ∃ u, v' = .iface t u ∧ VRel ι v u := by
  generalize hv : Value.iface t v = x at h
  cases h <;> first | (cases hv; exact ⟨_, rfl, by assumption⟩) | (simp [Am.poison] at hv; done) | cases hv

theorem aMethod_run {ι : Map} {w : World} {r r' x : Value} {name : String} {f : FuncId} (hr : Rel ι H w) (h : aMethod P H r name = some (f, x)) (hrel : VRel ι r r') :
    ∃ t u x', r' = .iface t u ∧ VRel ι x x' ∧ (method (P.types.size + Made.depth) t u name).run P w = .ok (f, x') w := by
  unfold aMethod at h
  split at h
  · rename_i t v
    obtain ⟨u, rfl, hv⟩ := iface_inv hrel
    split at h
    · rename_i q hq
      split at h
      · rename_i m hm
        split at h
        · rename_i hp
          obtain ⟨fuel, hfuel⟩ : ∃ k, P.types.size + Made.depth = k + 1 := ⟨P.types.size + Made.depth - 1, by have : 0 < Made.depth := (by decide); omega⟩
          have hpath : m.path.toList = [] := by
            have := Array.isEmpty_iff.1 hp
            rw [this]
          have hti : (typeInfo t).run P w = .ok q w := by simp [typeInfo, hq]
          rw [hfuel]
          split at h
          · rename_i f0 el hmf hu
            cases h
            refine ⟨t, u, u, rfl, hv, ?_⟩
            simp [method, Sem.run_bind, hti, hm, hpath, follow, hmf, receiverAt, run_underlying hu, Place.get]
          · rename_i f0 el hmf hu
            rw [Option.map_eq_some_iff] at h
            obtain ⟨y, hy, h⟩ := h
            cases h
            obtain ⟨y', _, hy2, a, rfl, hl⟩ := rdVal_run hr hy hv
            refine ⟨t, _, y', rfl, hy2, ?_⟩
            have hchk : ∀ s1 s2, (Builtin.ssaWrapNilChk_ #[t] t #[.pointer (some a), strVal s1, strVal s2]).run P w = .ok (.pointer (some a)) w := fun _ _ => rfl
            simp [method, Sem.run_bind, hti, hm, hpath, hp, follow, hmf, receiverAt, run_underlying hu, Place.get, hchk, asAddr, hl, Array.isEmpty_iff.1 hp]
          · rename_i f0 d hne hmf hu
            cases h
            refine ⟨t, u, u, rfl, hv, ?_⟩
            cases d <;> first
              | (simp [method, Sem.run_bind, hti, hm, hpath, follow, hmf, receiverAt, run_underlying hu, Place.get]; done)
              | exact absurd rfl (hne _)
          · cases h
        · cases h
      · cases h
    · cases h
  · cases h

theorem OpTo.invoke {dst : Option Tmp} {ts : Array TypeId} {ty : TypeId} {f : Operand} {name : String} {xs : Array Operand} {pos : String} {after : Array Edge} {g : Option (Nat × Bool)} {fn : FuncId} {r : Value}
    (h : aMethod P H (ρ f) name = some (fn, r)) (hc : callable P fn = true) (hcall : CallTo P fn (#[r] ++ xs.map ρ) H v H') : OpTo P ⟨dst, .call { callee := .invoke f name, args := xs, argTypes := ts }, ty, pos, after, g⟩ ρ H v H' :=
  ⟨hcall.ext, fun ι w ρ' hr hx => by
    have h1 := hx f (by simp [Op.operands, Call.operands])
    have h2 : ∀ x ∈ xs, VRel ι (ρ x) (ρ' x) := fun x hx' => hx x (by simp [Op.operands, Call.operands, hx'])
    obtain ⟨t, u, x', e', hxr, hm⟩ := aMethod_run hr h h1
    obtain ⟨m1, m2⟩ := arel_map h2
    obtain ⟨k1, k2⟩ := arel_append (a := #[r]) (a' := #[x']) rfl (fun i h h' => by (have : i = 0 := (by simp at h; omega)); subst this; exact hxr) m1 m2
    have hrun : (execOp ρ' ⟨dst, .call { callee := .invoke f name, args := xs, argTypes := ts }, ty, pos, after, g⟩).run P w = .ok (.enter fn (#[x'] ++ xs.map ρ')) w := by
      simp only [execOp, resolve, e', Sem.run_bind, Sem.run_pure, Result.andThen_ok, Go.invoke]
      have h0 : (#[Value.iface t u] ++ xs.map ρ')[0]? = some (Value.iface t u) := by rw [Array.getElem?_append_left (by simp)]; rfl
      have h3 : (#[Value.iface t u] ++ xs.map ρ').extract 1 (#[Value.iface t u] ++ xs.map ρ').size = xs.map ρ' := by
        apply Array.ext'
        simp
        exact List.take_of_length_le (by simp)
      simp only [h0, h3, callMethod, Sem.run_bind, run_program, Result.andThen_ok, hm]
      exact run_callFunc hc _ w
    rw [hrun]
    exact hcall.run ι w _ hr k1 k2⟩
end Go.Am
