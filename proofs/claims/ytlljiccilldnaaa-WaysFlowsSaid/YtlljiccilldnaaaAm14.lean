/- The walk, step by step: what comes behind an operation stands frozen until its turn. -/
import Derived.Test.YtlljiccilldnaaaAm13
set_option linter.unusedVariables false
set_option linter.unusedSimpArgs false
namespace Go.Am
open Go
section
variable {P : Program}

/-! ### Frozen continuations -/
def OpsK (P : Program) (ops : Array Oper) (l : List Oper) (E : Env) (d : Option Nat) (K : Env → Heap → Prop) : Value → Heap → Prop := fun v H => xOps P ops l (E.putO d v) H K
def NormK (Q : Exit → Env → Heap → Prop) : Env → Heap → Prop := fun E H => Q .normal E H
def Then (P : Program) (b : Code) (Q : Exit → Env → Heap → Prop) : Exit → Env → Heap → Prop := thenC (fun E' H' => xC P b E' H' Q) Q
def Blk' (id : Nat) (Q : Exit → Env → Heap → Prop) : Exit → Env → Heap → Prop := blockC id Q
def Gd (g : Option Bool) (P : Program) (ops : Array Oper) (o : Oper) (l : List Oper) (E : Env) (H : Heap) (K : Env → Heap → Prop) : Prop := match g with
  | some true => xOp P o.op E.ev H fun v H1 => xOps P ops l (E.putO o.dst v) H1 K
  | some false => xOps P ops l (E.putO o.dst undef) H K
  | none => False
def Br (v : Value) (P : Program) (a b : Code) (E : Env) (H : Heap) (Q : Exit → Env → Heap → Prop) : Prop := match v with
  | .bool t => if t then xC P a E H Q else xC P b E H Q
  | _ => False
def Op1 (o : Option Value) (K : Value → Heap → Prop) (H : Heap) : Prop := opt o fun v => K v H
def OpH (o : Option Heap) (K : Value → Heap → Prop) : Prop := opt o fun H => K undef H
def Op2 (o : Option (Value × Heap)) (K : Value → Heap → Prop) : Prop := opt o fun r => K r.1 r.2
def OpB (o : Option (List Value)) (n : Nat) (K : Value → Heap → Prop) (H : Heap) : Prop := opt o fun l => K (.slice (some ⟨H.length, 0, none⟩) n n) (newBlk H l)
def OpM (o : Option (List Value × Nat × Nat)) (K : Value → Heap → Prop) (H : Heap) : Prop := opt o fun r => K (.slice (some ⟨H.length, 0, none⟩) r.2.1 r.2.2) (newBlk H r.1)
def OpA (o : Option Value) (K : Value → Heap → Prop) (H : Heap) : Prop := opt o fun z => K (.pointer (some ⟨H.length, 0, none⟩)) (newBlk H z.cells.toList)
def OpC (P : Program) (o : Option (FuncId × Array Value)) (K : Value → Heap → Prop) (H : Heap) : Prop := opt o fun r => callable P r.1 = true ∧ Wcall P r.1 r.2 H K
def OpP (v a b : Value) (K : Value → Heap → Prop) (H : Heap) : Prop := match v with
  | .bool t => K (if t then a else b) H
  | _ => False
def SolidK (v : Value) (K : Value → Heap → Prop) (H : Heap) : Prop := solid v = true ∧ K (.pointer (some ⟨H.length, 0, none⟩)) (newBlk H v.cells.toList)

variable {ops : Array Oper} {o : Oper} {l : List Oper} {E : Env} {H : Heap} {K : Env → Heap → Prop} {Q : Exit → Env → Heap → Prop} {k : Value → Heap → Prop} {v : Value} {ρ : Operand → Value}

@[go_sem] theorem opsK_app {d : Option Nat} : OpsK P ops l E d K v H = xOps P ops l (E.putO d v) H K := by simp only [OpsK]
@[go_sem] theorem normK_app : NormK Q E H = Q .normal E H := by simp only [NormK]
@[go_sem] theorem then_normal {b : Code} : Then P b Q .normal E H = xC P b E H Q := by simp only [Then, thenC]
@[go_sem] theorem then_ret {b : Code} : Then P b Q .ret E H = Q .ret E H := by simp only [Then, thenC]
@[go_sem] theorem then_exit {b : Code} {i : Nat} : Then P b Q (.exit i) E H = Q (.exit i) E H := by simp only [Then, thenC]
@[go_sem] theorem blk_normal {i : Nat} : Blk' i Q .normal E H = Q .normal E H := by simp only [Blk', blockC]
@[go_sem] theorem blk_ret {i : Nat} : Blk' i Q .ret E H = Q .ret E H := by simp only [Blk', blockC]
@[go_sem] theorem blk_same {i : Nat} : Blk' i Q (.exit i) E H = Q .normal E H := by simp only [Blk', blockC, if_true]
@[go_sem] theorem blk_other {i j : Nat} (h : j ≠ i) : Blk' i Q (.exit j) E H = Q (.exit j) E H := by simp only [Blk', blockC, if_neg h]
@[go_sem] theorem gd_true : Gd (some true) P ops o l E H K = xOp P o.op E.ev H (OpsK P ops l E o.dst K) := by simp only [Gd]; rfl
@[go_sem] theorem gd_false : Gd (some false) P ops o l E H K = xOps P ops l (E.putO o.dst undef) H K := by simp only [Gd]
@[go_sem] theorem br_true {a b : Code} : Br (.bool true) P a b E H Q = xC P a E H Q := by simp only [Br, if_true]
@[go_sem] theorem br_false {a b : Code} : Br (.bool false) P a b E H Q = xC P b E H Q := by simp [Br]
@[go_sem] theorem op1_some : Op1 (some v) k H = k v H := by simp only [Op1, opt]
@[go_sem] theorem op1_ite {c : Prop} [Decidable c] : Op1 (if c then some v else none) k H ↔ c ∧ k v H := by
  by_cases h : c <;> simp [h, Op1, opt]
@[go_sem] theorem opH_some : OpH (some H) k = k undef H := by simp only [OpH, opt]
@[go_sem] theorem opH_ite {c : Prop} [Decidable c] : OpH (if c then some H else none) k ↔ c ∧ k undef H := by
  by_cases h : c <;> simp [h, OpH, opt]
@[go_sem] theorem op2_some : Op2 (some (v, H)) k = k v H := by simp only [Op2, opt]
@[go_sem] theorem op2_ite {c : Prop} [Decidable c] : Op2 (if c then some (v, H) else none) k ↔ c ∧ k v H := by
  by_cases h : c <;> simp [h, Op2, opt]
@[go_sem] theorem opB_some {cs : List Value} {n : Nat} : OpB (some cs) n k H = k (.slice (some ⟨H.length, 0, none⟩) n n) (newBlk H cs) := by simp only [OpB, opt]
@[go_sem] theorem opM_some {cs : List Value} {n m : Nat} : OpM (some (cs, n, m)) k H = k (.slice (some ⟨H.length, 0, none⟩) n m) (newBlk H cs) := by simp only [OpM, opt]
@[go_sem] theorem opM_ite {c : Prop} [Decidable c] {cs : List Value} {n m : Nat} : OpM (if c then some (cs, n, m) else none) k H ↔ c ∧ k (.slice (some ⟨H.length, 0, none⟩) n m) (newBlk H cs) := by
  by_cases h : c <;> simp [h, OpM, opt]
@[go_sem] theorem opA_some : OpA (some v) k H = k (.pointer (some ⟨H.length, 0, none⟩)) (newBlk H v.cells.toList) := by simp only [OpA, opt]
@[go_sem] theorem opC_some {f : FuncId} {as_ : Array Value} : OpC P (some (f, as_)) k H = (callable P f = true ∧ Wcall P f as_ H k) := by simp only [OpC, opt]
@[go_sem] theorem opP_true {a b : Value} : OpP (.bool true) a b k H = k a H := by simp only [OpP, if_true]
@[go_sem] theorem opP_false {a b : Value} : OpP (.bool false) a b k H = k b H := by simp [OpP]

@[go_sem] theorem xOps_nil : xOps P ops [] E H K = K E H := by simp only [xOps]
@[go_sem] theorem xOps_cons : xOps P ops (o :: l) E H K = Gd (guardOn ops o E) P ops o l E H K := by rw [xOps]; rfl
@[go_sem] theorem xC_skip : xC P .skip E H Q = Q .normal E H := by simp only [xC]
@[go_sem] theorem xC_ret : xC P .ret E H Q = Q .ret E H := by simp only [xC]
@[go_sem] theorem xC_exit {i : Nat} : xC P (.exit i) E H Q = Q (.exit i) E H := by simp only [xC]
@[go_sem] theorem xC_seq {a b : Code} : xC P (.seq a b) E H Q = xC P a E H (Then P b Q) := by simp only [xC]; rfl
@[go_sem] theorem xC_cond {c : Operand} {a b : Code} : xC P (.cond c a b) E H Q = Br (E.ev c) P a b E H Q := by simp only [xC]; rfl
@[go_sem] theorem xC_block {i : Nat} {c : Code} : xC P (.block i c) E H Q = xC P c E H (Blk' i Q) := by simp only [xC]; rfl
@[go_sem] theorem xC_region {i : Nat} : xC P (.region i ops false) E H Q = xOps P ops ops.toList E H (NormK Q) := by simp only [xC]; rfl
@[go_sem] theorem xC_loop {c : Code} : xC P (.loop c) E H Q = Wc P (.loop c) E H Q := by simp only [xC]
@[go_sem] theorem xC_drawn {i : Nat} : xC P (.region i ops true) E H Q = Wc P (.region i ops true) E H Q := by simp only [xC]

@[go_sem] theorem xOp_move {x : Operand} : xOp P (.move x) ρ H k = k (ρ x) H := by simp only [xOp]
@[go_sem] theorem xOp_assign {x : Operand} : xOp P (.assign x) ρ H k = k (ρ x) H := by simp only [xOp]
@[go_sem] theorem xOp_pick {c a b : Operand} : xOp P (.pick c a b) ρ H k = OpP (ρ c) (ρ a) (ρ b) k H := by simp only [xOp]; rfl
@[go_sem] theorem xOp_alloc {el : TypeId} : xOp P (.alloc el) ρ H k = OpA (aZero P el) k H := by simp only [xOp]; rfl
@[go_sem] theorem xOp_box {el : TypeId} {x : Operand} : xOp P (.box el x) ρ H k = SolidK (ρ x) k H := by simp only [xOp]; rfl
@[go_sem] theorem xOp_build {t : TypeId} {parts : Array (Nat × Operand)} : xOp P (.build t parts) ρ H k = Op1 (aBuild P t (partsOf ρ parts)) k H := by simp only [xOp]; rfl
@[go_sem] theorem xOp_buildSlice {t : TypeId} {n : Nat} {parts : Array (Nat × Operand)} : xOp P (.buildSlice t n parts) ρ H k = OpB (aBuildSlice P t n (partsOf ρ parts)) n k H := by simp only [xOp]; rfl
@[go_sem] theorem xOp_load {t : TypeId} {x : Operand} : xOp P (.load t x) ρ H k = Op1 (rdVal P H t (ρ x)) k H := by simp only [xOp]; rfl
@[go_sem] theorem xOp_store {t : TypeId} {x y : Operand} : xOp P (.store t x y) ρ H k = OpH (wrVal P H t (ρ x) (ρ y)) k := by simp only [xOp]; rfl
@[go_sem] theorem xOp_nilCheck {x : Operand} : xOp P (.nilCheck x) ρ H k = Op1 (aNilCheck (ρ x)) k H := by simp only [xOp]; rfl
@[go_sem] theorem xOp_binOp {op : BinOp} {t t' : TypeId} {x y : Operand} : xOp P (.binOp op t x y t') ρ H k = Op1 (aBin P op t (ρ x) (ρ y)) k H := by simp only [xOp]; rfl
@[go_sem] theorem xOp_unOp {op : UnOp} {t : TypeId} {x : Operand} : xOp P (.unOp op t x) ρ H k = Op1 (aUn op (ρ x)) k H := by simp only [xOp]; rfl
@[go_sem] theorem xOp_convert {s d : TypeId} {x : Operand} : xOp P (.convert s d x) ρ H k = Op1 ((aConv P s d (ρ x)).or (aBytesStr P H s d (ρ x))) k H := by simp only [xOp]; rfl
@[go_sem] theorem xOp_makeInterface {t : TypeId} {x : Operand} : xOp P (.makeInterface t x) ρ H k = (P.concrete t = true ∧ k (.iface t (ρ x)) H) := by simp only [xOp]
@[go_sem] theorem xOp_makeFunc {fn : Fn} {a b : Array Operand} : xOp P (.makeFunc fn a b) ρ H k = k (.func fn (a.map ρ) (b.map ρ)) H := by simp only [xOp]
@[go_sem] theorem xOp_makeSlice {t : TypeId} {x y : Operand} : xOp P (.makeSlice t x y) ρ H k = OpM (aMakeSlice P t (ρ x) (ρ y)) k H := by simp only [xOp]; rfl
@[go_sem] theorem xOp_slice {t : TypeId} {x : Operand} {lo hi mx : Option Operand} : xOp P (.slice t x lo hi mx) ρ H k = Op1 (aSlice P H t (ρ x) (lo.map ρ) (hi.map ρ) (mx.map ρ)) k H := by simp only [xOp]; rfl
@[go_sem] theorem xOp_fieldAddr {s : TypeId} {x : Operand} {f : Nat} : xOp P (.fieldAddr s x f) ρ H k = Op1 (aFieldAddr P s (ρ x) f) k H := by simp only [xOp]; rfl
@[go_sem] theorem xOp_field {s : TypeId} {x : Operand} {f : Nat} : xOp P (.field s x f) ρ H k = Op1 (aField P s (ρ x) f) k H := by simp only [xOp]; rfl
@[go_sem] theorem xOp_indexAddr {t : TypeId} {x i : Operand} : xOp P (.indexAddr t x i) ρ H k = Op1 (aIndexAddr P t (ρ x) (ρ i)) k H := by simp only [xOp]; rfl
@[go_sem] theorem xOp_index {t : TypeId} {x i : Operand} : xOp P (.index t x i) ρ H k = Op1 (aIndex P t (ρ x) (ρ i)) k H := by simp only [xOp]; rfl
@[go_sem] theorem xOp_extract {x : Operand} {i : Nat} : xOp P (.extract x i) ρ H k = Op1 (aExtract (ρ x) i) k H := by simp only [xOp]; rfl
@[go_sem] theorem xOp_call {f : Operand} {xs : Array Operand} {ts : Array TypeId} : xOp P (.call { callee := .value f, args := xs, argTypes := ts }) ρ H k = OpC P (aCallee (ρ f) (xs.map ρ)) k H := by simp only [xOp]; rfl
@[go_sem] theorem xOp_len {x : Operand} {t : TypeId} : xOp P (.call { callee := .builtin .len, args := #[x], argTypes := #[t] }) ρ H k = Op1 (aLen P t (ρ x)) k H := by simp only [xOp]; rfl
@[go_sem] theorem xOp_cap {x : Operand} {t : TypeId} : xOp P (.call { callee := .builtin .cap, args := #[x], argTypes := #[t] }) ρ H k = Op1 (aCap P H t (ρ x)) k H := by simp only [xOp]; rfl
@[go_sem] theorem xOp_min {xs : Array Operand} {ts : Array TypeId} : xOp P (.call { callee := .builtin .min, args := xs, argTypes := ts }) ρ H k = Op1 (aFold (fun x y => if y < x then y else x) (xs.toList.map ρ)) k H := by simp only [xOp]; rfl
@[go_sem] theorem xOp_max {xs : Array Operand} {ts : Array TypeId} : xOp P (.call { callee := .builtin .max, args := xs, argTypes := ts }) ρ H k = Op1 (aFold (fun x y => if y > x then y else x) (xs.toList.map ρ)) k H := by simp only [xOp]; rfl
@[go_sem] theorem xOp_append {s x : Operand} {t u : TypeId} : xOp P (.call { callee := .builtin .append, args := #[s, x], argTypes := #[t, u] }) ρ H k = Op2 (aAppend P H t u (ρ s) (ρ x)) k := by simp only [xOp]; rfl
@[go_sem] theorem xOp_copy {x y : Operand} {t u : TypeId} : xOp P (.call { callee := .builtin .copy, args := #[x, y], argTypes := #[t, u] }) ρ H k = Op2 (aCopy P H t (ρ x) (ρ y)) k := by simp only [xOp]; rfl
@[go_sem] theorem xOp_clear {x : Operand} {t : TypeId} : xOp P (.call { callee := .builtin .clear, args := #[x], argTypes := #[t] }) ρ H k = OpH (aClear P H t (ρ x)) k := by simp only [xOp]; rfl

/-! ### Forks -/
theorem Br.fork {t : Bool} {a b : Code} (h1 : t = true → xC P a E H Q) (h2 : t = false → xC P b E H Q) : Br (.bool t) P a b E H Q := by
  cases t
  · simpa [Br] using h2 rfl
  · simpa [Br] using h1 rfl
theorem Gd.fork {t : Bool} (h1 : t = true → xOp P o.op E.ev H (OpsK P ops l E o.dst K)) (h2 : t = false → xOps P ops l (E.putO o.dst undef) H K) : Gd (some t) P ops o l E H K := by
  cases t
  · simpa [Gd] using h2 rfl
  · rw [gd_true]; exact h1 rfl

/-! ### New blocks -/
@[go_sem] theorem newBlk_length (H : Heap) (l : List Value) : (newBlk H l).length = H.length + 1 := by simp [newBlk]
@[go_sem] theorem rdBlk_new (H : Heap) (l : List Value) (b off n : Nat) (h : b = H.length) : rdBlk (newBlk H l) b off n = if off + n ≤ l.length then some ((l.drop off).take n) else none := by
  subst h; simp [rdBlk, newBlk]
@[go_sem] theorem rdBlk_old (H : Heap) (l : List Value) (b off n : Nat) (h : b < H.length) : rdBlk (newBlk H l) b off n = rdBlk H b off n := by
  unfold rdBlk newBlk; rw [List.getElem?_append_left h]
@[go_sem] theorem rdBlk_app (H X : Heap) (b off n : Nat) (h : b < H.length) : rdBlk (H ++ X) b off n = rdBlk H b off n := by
  unfold rdBlk; rw [List.getElem?_append_left h]
@[go_sem] theorem wrBlk_new (H : Heap) (l vs : List Value) (b off : Nat) (h : b = H.length) : wrBlk (newBlk H l) b off vs = if off + vs.length ≤ l.length then some (newBlk H (l.take off ++ vs ++ l.drop (off + vs.length))) else none := by
  subst h; simp [wrBlk, newBlk]
@[go_sem] theorem wrBlk_old (H : Heap) (l vs : List Value) (b off : Nat) (h : b < H.length) : wrBlk (newBlk H l) b off vs = (wrBlk H b off vs).map (fun H' => newBlk H' l) := by
  unfold wrBlk newBlk
  rw [List.getElem?_append_left h]
  cases hk : H[b]? with
  | none => rfl
  | some k =>
    simp only
    split
    · simp [h]
    · rfl
end
attribute [go_sem] SolidK aFold foldStep
end Go.Am
