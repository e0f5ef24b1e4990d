/- The logic of runs over a heap of one's own: values and blocks told apart from the machine's, and what a run of code does to them. -/
import Derived.Calls
import Derived.Still
import Derived.Below
import Derived.Laws.Entries
set_option linter.unusedVariables false
set_option linter.unusedSimpArgs false
namespace Go.Am
open Go

/-- What is known of a block: where it lies in the machine's memory, and how large it is. -/
structure Info where
  B : Nat
  sh : Nat
  top : Nat
  size : Nat
  sz : Nat
  tight : Bool

abbrev Map := Nat → Option Info

/-- A slot of which nothing is said. -/
def poison : Value := .tuple #[.tuple #[]]

inductive VRel (ι : Map) : Value → Value → Prop
  | poison (v : Value) : VRel ι Am.poison v
  | bool (b : Bool) : VRel ι (.bool b) (.bool b)
  | int (k : IntKind) (n : Int) : VRel ι (.int k n) (.int k n)
  | string (s : ByteArray) : VRel ι (.string s) (.string s)
  | nilptr : VRel ι (.pointer none) (.pointer none)
  | ptr {b off : Nat} {inf : Info} : ι b = some inf → VRel ι (.pointer (some ⟨b, off, none⟩)) (.pointer (some ⟨inf.B, inf.sh + off, none⟩))
  | nilslice : VRel ι (.slice none 0 0) (.slice none 0 0)
  | slice0 {b off : Nat} {a' : Addr} {inf : Info} : ι b = some inf → VRel ι (.slice (some ⟨b, off, none⟩) 0 0) (.slice (some a') 0 0)
  | slice {b off len cap cap' : Nat} {inf : Info} : ι b = some inf → len ≤ cap → cap ≤ cap' → (inf.tight = true ∨ off + cap * inf.sz < inf.size → cap' = cap) →
      (inf.tight = false → inf.sh + off + cap' * inf.sz ≤ inf.top) → VRel ι (.slice (some ⟨b, off, none⟩) len cap) (.slice (some ⟨inf.B, inf.sh + off, none⟩) len cap')
  | nilFunc : VRel ι .nilFunc .nilFunc
  | func (fn : Fn) {f c f' c' : Array Value} : f.size = f'.size → c.size = c'.size → (∀ i (h : i < f.size) (h' : i < f'.size), VRel ι f[i] f'[i]) →
      (∀ i (h : i < c.size) (h' : i < c'.size), VRel ι c[i] c'[i]) → VRel ι (.func fn f c) (.func fn f' c')
  | nilIface : VRel ι .nilIface .nilIface
  | iface (t : TypeId) {v v' : Value} : VRel ι v v' → VRel ι (.iface t v) (.iface t v')
  | agg {cs cs' : Array Value} : cs.size = cs'.size → (∀ i (h : i < cs.size), cs[i].oneCell' = true) → (∀ i (h : i < cs.size) (h' : i < cs'.size), VRel ι cs[i] cs'[i]) → VRel ι (.agg cs) (.agg cs')
  | tuple {vs vs' : Array Value} : vs.size = vs'.size → (∀ i (h : i < vs.size) (h' : i < vs'.size), VRel ι vs[i] vs'[i]) → VRel ι (.tuple vs) (.tuple vs')

def Sub (ι ι' : Map) : Prop := ∀ b inf, ι b = some inf → ι' b = some inf

theorem VRel.mono {ι ι' : Map} (hs : Sub ι ι') {v v' : Value} (h : VRel ι v v') : VRel ι' v v' := by
  induction h with
  | poison v => exact .poison v
  | bool b => exact .bool b
  | int k n => exact .int k n
  | string s => exact .string s
  | nilptr => exact .nilptr
  | ptr h => exact .ptr (hs _ _ h)
  | nilslice => exact .nilslice
  | slice0 h => exact .slice0 (hs _ _ h)
  | slice h h1 h2 h3 h4 => exact .slice (hs _ _ h) h1 h2 h3 h4
  | nilFunc => exact .nilFunc
  | func fn h1 h2 _ _ ih1 ih2 => exact .func fn h1 h2 ih1 ih2
  | nilIface => exact .nilIface
  | iface t _ ih => exact .iface t ih
  | agg h1 h2 _ ih => exact .agg h1 h2 ih
  | tuple h1 _ ih => exact .tuple h1 ih

/-- A value of one cell stays one. -/
theorem VRel.oneCell' {ι : Map} {v v' : Value} (h : VRel ι v v') (h1 : v.oneCell' = true) : v'.oneCell' = true := by
  cases h <;> first | rfl | (simp [Value.oneCell', Am.poison] at h1)

inductive Mode where
  | live | ro | dead
  deriving DecidableEq

structure Blk where
  cells : List Value
  sz : Nat
  tight : Bool
  mode : Mode

abbrev Heap := List Blk

structure BlkRel (ι : Map) (blk : Blk) (inf : Info) (w : World) : Prop where
  ex : ∃ cs el fr, w.heap[inf.B]? = some (.cells cs el fr) ∧ cs.size = inf.top ∧ inf.sh + blk.cells.length ≤ inf.top ∧
    (∀ i v, blk.cells[i]? = some v → v.oneCell' = true ∧ ∃ v', cs[inf.sh + i]? = some v' ∧ VRel ι v v') ∧
    (blk.mode = .live → fr = (0, 0))

structure Rel (ι : Map) (H : Heap) (w : World) : Prop where
  blk : ∀ b inf, ι b = some inf → ∃ k, H[b]? = some k ∧ inf.size = k.cells.length ∧ inf.sz = k.sz ∧ inf.tight = k.tight ∧ (k.mode ≠ .dead → BlkRel ι k inf w)
  apart : ∀ b1 b2 i1 i2 k1 k2, ι b1 = some i1 → ι b2 = some i2 → b1 ≠ b2 → H[b1]? = some k1 → H[b2]? = some k2 → k1.mode = .live → k2.mode ≠ .dead → i1.B ≠ i2.B

theorem Rel.lt {ι : Map} {H : Heap} {w : World} (h : Rel ι H w) {b : Nat} {inf : Info} (hb : ι b = some inf) : b < H.length := by
  obtain ⟨k, hk, _⟩ := h.blk b inf hb
  exact (List.getElem?_eq_some_iff.1 hk).1

/-- The machine's blocks that may be written: those of live blocks. -/
def Writes (ι : Map) (H : Heap) (k : Nat) : Prop := ∃ b inf blk, ι b = some inf ∧ H[b]? = some blk ∧ blk.mode = .live ∧ inf.B = k

structure HExt (H H' : Heap) : Prop where
  len : H.length ≤ H'.length
  same : ∀ (b : Nat) (k k' : Blk), H[b]? = some k → H'[b]? = some k' → k'.sz = k.sz ∧ k'.tight = k.tight ∧ k'.cells.length = k.cells.length
  live : ∀ (b : Nat) (k k' : Blk), H[b]? = some k → H'[b]? = some k' → k'.mode = .live → k.mode = .live

theorem HExt.refl (H : Heap) : HExt H H := ⟨Nat.le_refl _, fun b k k' h h' => by rw [h] at h'; cases h'; exact ⟨rfl, rfl, rfl⟩, fun b k k' h h' hl => by rw [h] at h'; cases h'; exact hl⟩

theorem HExt.trans {H H1 H2 : Heap} (h : HExt H H1) (h' : HExt H1 H2) : HExt H H2 := by
  refine ⟨Nat.le_trans h.len h'.len, fun b k k' hk hk' => ?_, fun b k k' hk hk' hl => ?_⟩
  · have hb : b < H.length := (List.getElem?_eq_some_iff.1 hk).1
    have hb1 : b < H1.length := Nat.lt_of_lt_of_le hb h.len
    have h1 := h.same b k _ hk (List.getElem?_eq_getElem hb1)
    have h2 := h'.same b _ _ (List.getElem?_eq_getElem hb1) hk'
    exact ⟨h2.1.trans h1.1, h2.2.1.trans h1.2.1, h2.2.2.trans h1.2.2⟩
  have hb : b < H.length := (List.getElem?_eq_some_iff.1 hk).1
  have hb1 : b < H1.length := Nat.lt_of_lt_of_le hb h.len
  exact h.live b k _ hk (List.getElem?_eq_getElem hb1) (h'.live b _ _ (List.getElem?_eq_getElem hb1) hk' hl)

structure Step (ι : Map) (H : Heap) (w : World) (ι' : Map) (H' : Heap) (w' : World) : Prop where
  map : ∀ b, b < H.length → ι' b = ι b
  rel : Rel ι' H' w'
  os : w'.os = w.os
  tape : w'.tape = w.tape
  output : w'.output = w.output
  size : w.heap.size ≤ w'.heap.size
  frame : ∀ k, k < w.heap.size → ¬ Writes ι H k → w'.heap[k]? = w.heap[k]?
  fresh : ∀ b inf, H.length ≤ b → ι' b = some inf → w.heap.size ≤ inf.B ∨ Writes ι H inf.B

theorem Step.sub {ι ι' : Map} {H H' : Heap} {w w' : World} (h : Step ι H w ι' H' w') (hr : Rel ι H w) : Sub ι ι' := fun b inf hb => by
  rw [h.map b (hr.lt hb)]; exact hb

theorem Step.refl {ι : Map} {H : Heap} {w : World} (h : Rel ι H w) : Step ι H w ι H w :=
  ⟨fun _ _ => rfl, h, rfl, rfl, rfl, Nat.le_refl _, fun _ _ _ => rfl, fun b inf hb hi => absurd (h.lt hi) (Nat.not_lt.2 hb)⟩

theorem Step.writes {ι ι1 : Map} {H H1 : Heap} {w w1 : World} (s : Step ι H w ι1 H1 w1) (hx : HExt H H1) {k : Nat} (hk : k < w.heap.size) (h : Writes ι1 H1 k) : Writes ι H k := by
  obtain ⟨b, inf, blk, hi, hh, hl, rfl⟩ := h
  rcases Nat.lt_or_ge b H.length with hlt | hge
  · exact ⟨b, inf, _, by rw [← s.map b hlt]; exact hi, List.getElem?_eq_getElem hlt, hx.live b _ _ (List.getElem?_eq_getElem hlt) hh hl, rfl⟩
  · rcases s.fresh b inf hge hi with h | h
    · omega
    · exact h

theorem Step.trans {ι ι1 ι2 : Map} {H H1 H2 : Heap} {w w1 w2 : World} (s : Step ι H w ι1 H1 w1) (hx : HExt H H1) (s' : Step ι1 H1 w1 ι2 H2 w2) : Step ι H w ι2 H2 w2 := by
  refine ⟨fun b hb => (s'.map b (Nat.lt_of_lt_of_le hb hx.len)).trans (s.map b hb), s'.rel, s'.os.trans s.os, s'.tape.trans s.tape, s'.output.trans s.output, Nat.le_trans s.size s'.size, fun k hk hn => ?_, fun b inf hb hi => ?_⟩
  · rw [s'.frame k (Nat.lt_of_lt_of_le hk s.size) (fun h => hn (s.writes hx hk h)), s.frame k hk hn]
  · rcases Nat.lt_or_ge b H1.length with hlt | hge
    · rw [s'.map b hlt] at hi
      exact s.fresh b inf hb hi
    · rcases s'.fresh b inf hge hi with h | h
      · exact .inl (Nat.le_trans s.size h)
      · rcases Nat.lt_or_ge inf.B w.heap.size with h1 | h1
        · exact .inr (s.writes hx h1 h)
        · exact .inl h1

/-- Constants that may stand in code: no address in them. -/
def plainConst : Value → Bool
  | .bool _ | .int _ _ | .string _ | .pointer none | .slice none 0 0 | .nilFunc | .nilIface => true
  | _ => false

theorem VRel.plain {ι : Map} {v : Value} (h : plainConst v = true) : VRel ι v v := by
  unfold plainConst at h
  split at h <;> first | constructor | cases h

/-- Constants in code, deep: aggregates of plain cells, and interfaces of plain values. -/
def okConst : Value → Bool
  | .agg cs => cs.all plainConst
  | .iface _ v => plainConst v
  | .tuple vs => vs.all plainConst
  | v => plainConst v

theorem plainConst_one {v : Value} (h : plainConst v = true) : v.oneCell' = true := by
  unfold plainConst at h
  split at h <;> first | rfl | cases h

theorem VRel.const {ι : Map} {v : Value} (h : okConst v = true) : VRel ι v v := by
  cases v with
  | agg cs =>
    simp only [okConst] at h
    have h' := Array.all_eq_true_iff_forall_mem.1 h
    exact .agg rfl (fun i hi => plainConst_one (h' _ (Array.getElem_mem hi))) (fun i hi _ => .plain (h' _ (Array.getElem_mem hi)))
  | iface t v => exact .iface t (.plain h)
  | tuple vs =>
    simp only [okConst] at h
    have h' := Array.all_eq_true_iff_forall_mem.1 h
    exact .tuple rfl (fun i hi _ => .plain (h' _ (Array.getElem_mem hi)))
  | _ => exact .plain h

/-- The slots. -/
structure Env where
  n : Nat
  f : Nat → Value

def Env.put (E : Env) (d : Nat) (v : Value) : Env := ⟨E.n, fun t => if t = d ∧ d < E.n then v else E.f t⟩
def Env.putO (E : Env) (d : Option Nat) (v : Value) : Env := match d with | some d => E.put d v | none => E
def Env.init (n : Nat) (args : Array Value) : Env := ⟨n, fun t => args.getD t undef⟩
def Env.ev (E : Env) : Operand → Value
  | .tmp t => E.f t
  | .const v => if okConst v then v else poison
  | .global _ => poison
  | .func f => .func (.func f) #[] #[]

structure ERel (ι : Map) (E : Env) (a : Act) : Prop where
  size : a.tmps.size = E.n
  slot : ∀ t, VRel ι (E.f t) (a.tmps.getD t undef)

theorem VRel.undef {ι : Map} : VRel ι undef undef := .tuple rfl (fun i h _ => absurd h (by simp))

theorem ERel.mono {ι ι' : Map} (hs : Sub ι ι') {E : Env} {a : Act} (h : ERel ι E a) : ERel ι' E a := ⟨h.size, fun t => (h.slot t).mono hs⟩

theorem ERel.put {ι : Map} {E : Env} {a : Act} (h : ERel ι E a) (d : Option Nat) {v v' : Value} (hv : VRel ι v v') : ERel ι (E.putO d v) (a.put d v') := by
  cases d with
  | none => exact h
  | some d =>
    refine ⟨by simp [Act.put, Env.putO, Env.put, h.size], fun t => ?_⟩
    simp only [Env.putO, Env.put, Act.put, Array.getD_eq_getD_getElem?]
    by_cases hd : t = d ∧ d < E.n
    · obtain ⟨rfl, hd⟩ := hd
      rw [if_pos ⟨rfl, hd⟩, Array.getElem?_setIfInBounds_self]
      rw [if_pos (by rw [h.size]; exact hd)]
      exact hv
    · rw [if_neg hd]
      by_cases htd : t = d
      · subst htd
        have hd' : ¬ t < a.tmps.size := fun h' => hd ⟨rfl, by rw [← h.size]; exact h'⟩
        have := h.slot t
        rw [Array.getD_eq_getD_getElem?, Array.getElem?_eq_none (by omega)] at this
        rw [Array.getElem?_eq_none (by simp; omega)]
        exact this
      · rw [Array.getElem?_setIfInBounds_ne (Ne.symm htd)]
        have := h.slot t
        rw [Array.getD_eq_getD_getElem?] at this
        exact this

theorem Act.put_defers_eq (a : Act) (d : Option Nat) (v : Value) : (a.put d v).defers = a.defers := by cases d <;> rfl

theorem ERel.ev {ι : Map} {E : Env} {a : Act} (h : ERel ι E a) (x : Operand) : VRel ι (E.ev x) (a.eval x) := by
  cases x with
  | tmp t => exact h.slot t
  | const v =>
    show VRel ι (if okConst v then v else poison) v
    split
    · exact .const (by assumption)
    · exact .poison _
  | global g => exact .poison _
  | func f => exact .func _ rfl rfl (fun i h _ => absurd h (by simp)) (fun i h _ => absurd h (by simp))

/-! ### Runs of code -/

def After (ι : Map) (H : Heap) (w : World) (e : Exit) (E' : Env) (H' : Heap) (e1 : Exit) (a1 : Act) (w1 : World) : Prop :=
  e1 = e ∧ a1.defers = [] ∧ ∃ ι', Step ι H w ι' H' w1 ∧ ERel ι' E' a1

structure CodeTo (P : Program) (c : Code) (E : Env) (H : Heap) (e : Exit) (E' : Env) (H' : Heap) : Prop where
  ext : HExt H H'
  run : ∀ ι w a, Rel ι H w → ERel ι E a → a.defers = [] → c.wp P (After ι H w e E' H') a w

structure CallTo (P : Program) (f : FuncId) (args : Array Value) (H : Heap) (v : Value) (H' : Heap) : Prop where
  ext : HExt H H'
  run : ∀ ι w (args' : Array Value), Rel ι H w → args.size = args'.size → (∀ i (h : i < args.size) (h' : i < args'.size), VRel ι args[i] args'[i]) →
    Calls P f args' w (fun e w1 => ∃ v' ι', e = .returned v' ∧ VRel ι' v v' ∧ Step ι H w ι' H' w1)

def Wc (P : Program) (c : Code) (E : Env) (H : Heap) (Q : Exit → Env → Heap → Prop) : Prop := ∃ e E' H', CodeTo P c E H e E' H' ∧ Q e E' H'
def Wcall (P : Program) (f : FuncId) (args : Array Value) (H : Heap) (K : Value → Heap → Prop) : Prop := ∃ v H', CallTo P f args H v H' ∧ K v H'

variable {P : Program} {E : Env} {H : Heap} {Q : Exit → Env → Heap → Prop}

theorem Wc.mono {c : Code} {Q' : Exit → Env → Heap → Prop} (h : Wc P c E H Q) (hq : ∀ e E' H', Q e E' H' → Q' e E' H') : Wc P c E H Q' :=
  let ⟨e, E', H', h1, h2⟩ := h; ⟨e, E', H', h1, hq _ _ _ h2⟩

theorem Wcall.mono {f : FuncId} {args : Array Value} {K K' : Value → Heap → Prop} (h : Wcall P f args H K) (hq : ∀ v H', K v H' → K' v H') : Wcall P f args H K' :=
  let ⟨v, H', h1, h2⟩ := h; ⟨v, H', h1, hq _ _ h2⟩

theorem Wc.skip (h : Q .normal E H) : Wc P .skip E H Q :=
  ⟨_, _, _, ⟨.refl _, fun _ _ _ hr he hd => wp_skip ⟨rfl, hd, _, .refl hr, he⟩⟩, h⟩
theorem Wc.label {l : Nat} (h : Q .normal E H) : Wc P (.label l) E H Q :=
  ⟨_, _, _, ⟨.refl _, fun _ _ _ hr he hd => wp_label ⟨rfl, hd, _, .refl hr, he⟩⟩, h⟩
theorem Wc.exit {id : Nat} (h : Q (.exit id) E H) : Wc P (.exit id) E H Q :=
  ⟨_, _, _, ⟨.refl _, fun _ _ _ hr he hd => wp_exit ⟨rfl, hd, _, .refl hr, he⟩⟩, h⟩
theorem Wc.ret (h : Q .ret E H) : Wc P .ret E H Q :=
  ⟨_, _, _, ⟨.refl _, fun _ _ _ hr he hd => wp_ret ⟨rfl, hd, _, .refl hr, he⟩⟩, h⟩

/-- What comes behind a piece of code that ended so. -/
def thenC (next : Env → Heap → Prop) (Q : Exit → Env → Heap → Prop) : Exit → Env → Heap → Prop
  | .normal, E, H => next E H
  | e, E, H => Q e E H

theorem Wc.seq {x y : Code} (h : Wc P x E H (thenC (fun E' H' => Wc P y E' H' Q) Q)) : Wc P (.seq x y) E H Q := by
  obtain ⟨e, E1, H1, h1, h2⟩ := h
  cases e with
  | normal =>
    obtain ⟨e2, E2, H2, h3, h4⟩ := h2
    refine ⟨e2, E2, H2, ⟨h1.ext.trans h3.ext, fun ι w a hr he hd => wp_seq (wp_mono (h1.run ι w a hr he hd) ?_)⟩, h4⟩
    rintro e a1 w1 ⟨rfl, hd1, ι1, s1, he1⟩
    refine wp_mono (h3.run ι1 w1 a1 s1.rel he1 hd1) ?_
    rintro e a2 w2 ⟨rfl, hd2, ι2, s2, he2⟩
    exact ⟨rfl, hd2, ι2, s1.trans h1.ext s2, he2⟩
  | _ =>
    refine ⟨_, E1, H1, ⟨h1.ext, fun ι w a hr he hd => wp_seq (wp_mono (h1.run ι w a hr he hd) ?_)⟩, h2⟩
    rintro e a1 w1 ⟨rfl, h⟩
    exact ⟨rfl, h⟩

theorem Wc.cond {c : Operand} {x y : Code} {t : Bool} (hc : E.ev c = .bool t) (h : Wc P (if t then x else y) E H Q) : Wc P (.cond c x y) E H Q := by
  obtain ⟨e, E', H', h1, h2⟩ := h
  refine ⟨e, E', H', ⟨h1.ext, fun ι w a hr he hd => ?_⟩, h2⟩
  have hv := he.ev c
  rw [hc] at hv
  refine wp_cond (t := t) ?_ (h1.run ι w a hr he hd)
  generalize a.eval c = v' at hv ⊢
  cases hv; rfl

def blockC (id : Nat) (Q : Exit → Env → Heap → Prop) : Exit → Env → Heap → Prop
  | .exit id', E, H => if id' = id then Q .normal E H else Q (.exit id') E H
  | e, E, H => Q e E H

theorem Wc.block {id : Nat} {c : Code} (h : Wc P c E H (blockC id Q)) : Wc P (.block id c) E H Q := by
  obtain ⟨e, E', H', h1, h2⟩ := h
  cases e with
  | exit id' =>
    by_cases hid : id' = id
    · subst hid
      simp only [blockC, if_true] at h2
      refine ⟨.normal, E', H', ⟨h1.ext, fun ι w a hr he hd => wp_block (wp_mono (h1.run ι w a hr he hd) ?_)⟩, h2⟩
      rintro e a1 w1 ⟨rfl, h⟩
      show (if id' = id' then _ else _)
      rw [if_pos rfl]; exact ⟨rfl, h⟩
    · simp only [blockC, if_neg hid] at h2
      refine ⟨.exit id', E', H', ⟨h1.ext, fun ι w a hr he hd => wp_block (wp_mono (h1.run ι w a hr he hd) ?_)⟩, h2⟩
      rintro e a1 w1 ⟨rfl, h⟩
      show (if id' = id then _ else _)
      rw [if_neg hid]; exact ⟨rfl, h⟩
  | _ =>
    refine ⟨_, E', H', ⟨h1.ext, fun ι w a hr he hd => wp_block (wp_mono (h1.run ι w a hr he hd) ?_)⟩, h2⟩
    rintro e a1 w1 ⟨rfl, h⟩
    exact ⟨rfl, h⟩

/-- Fewer slots said. -/
def EnvLe (E E' : Env) : Prop := E.n = E'.n ∧ ∀ t, E.f t = E'.f t ∨ E.f t = poison

theorem ERel.le {ι : Map} {E E' : Env} {a : Act} (h : ERel ι E' a) (hl : EnvLe E E') : ERel ι E a :=
  ⟨h.size.trans hl.1.symm, fun t => by
    rcases hl.2 t with h' | h'
    · rw [h']; exact h.slot t
    · rw [h']; exact .poison _⟩

theorem Wc.le {c : Code} {E0 : Env} (hl : EnvLe E0 E) (h : Wc P c E0 H Q) : Wc P c E H Q := by
  obtain ⟨e, E', H', h1, h2⟩ := h
  exact ⟨e, E', H', ⟨h1.ext, fun ι w a hr he hd => h1.run ι w a hr (he.le hl) hd⟩, h2⟩

inductive LoopTo (P : Program) (c : Code) : Env → Heap → Exit → Env → Heap → Prop
  | done {E H e E' H'} : CodeTo P c E H e E' H' → e ≠ .normal → LoopTo P c E H e E' H'
  | next {E H E1 E2 H1 e E' H'} : CodeTo P c E H .normal E1 H1 → EnvLe E2 E1 → LoopTo P c E2 H1 e E' H' → LoopTo P c E H e E' H'

theorem LoopTo.ext {c : Code} {e : Exit} {E' : Env} {H' : Heap} (h : LoopTo P c E H e E' H') : HExt H H' := by
  induction h with
  | done h _ => exact h.ext
  | next h _ _ ih => exact h.ext.trans ih

theorem LoopTo.code {c : Code} {e : Exit} {E' : Env} {H' : Heap} (h : LoopTo P c E H e E' H') : CodeTo P (.loop c) E H e E' H' := by
  refine ⟨h.ext, fun ι w a hr he hd b k cs => ?_⟩
  have key : ∀ ι w a, Rel ι H w → ERel ι E a → a.defers = [] → ∃ e1 a1 w1, After ι H w e E' H' e1 a1 w1 ∧ Arrives P (lone (b.at a (.code c :: .inLoop c :: k)) cs w) b k cs e1 a1 w1 := by
    clear hr he hd ι w a
    induction h with
    | done h1 hne =>
      intro ι w a hr he hd
      obtain ⟨e1, a1, w1, hq, harr⟩ := h1.run ι w a hr he hd b (.inLoop c :: k) cs
      refine ⟨e1, a1, w1, hq, ?_⟩
      exact .pass (x := .inLoop c) rfl (fun _ _ => .inl (by rw [hq.1]; exact hne)) harr
    | next h1 hl _ ih =>
      intro ι w a hr he hd
      obtain ⟨e1, a1, w1, ⟨rfl, hd1, ι1, s1, he1⟩, harr⟩ := h1.run ι w a hr he hd b (.inLoop c :: k) cs
      obtain ⟨e2, a2, w2, ⟨rfl, hd2, ι2, s2, he2⟩, harr2⟩ := ih ι1 w1 a1 s1.rel (he1.le hl) hd1
      exact ⟨_, a2, w2, ⟨rfl, hd2, ι2, s1.trans h1.ext s2, he2⟩, .of_steps (Steps.trans harr (.one step_inLoop)) harr2⟩
  obtain ⟨e1, a1, w1, hq, harr⟩ := key ι w a hr he hd
  exact ⟨e1, a1, w1, hq, .of_steps (.one step_loop) harr⟩

/-- A loop by what holds at its head, with a measure. -/
theorem Wc.loop {c : Code} (I : Nat → Env → Heap → Prop) (n : Nat) (h0 : I n E H)
    (round : ∀ n E H, I n E H → Wc P c E H (thenC (fun E' H' => ∃ m E2, m < n ∧ EnvLe E2 E' ∧ I m E2 H') Q)) : Wc P (.loop c) E H Q := by
  have key : ∀ n E H, I n E H → ∃ e E' H', LoopTo P c E H e E' H' ∧ Q e E' H' := by
    intro n
    induction n using Nat.strongRecOn with
    | _ n ih =>
      intro E H hI
      obtain ⟨e, E1, H1, h1, h2⟩ := round n E H hI
      cases e with
      | normal =>
        obtain ⟨m, E2, hm, hl, hI2⟩ := h2
        obtain ⟨e, E', H', h3, h4⟩ := ih m hm E2 H1 hI2
        exact ⟨e, E', H', .next h1 hl h3, h4⟩
      | _ => exact ⟨_, E1, H1, .done h1 (by simp), h2⟩
  obtain ⟨e, E', H', h1, h2⟩ := key n E H h0
  exact ⟨e, E', H', h1.code, h2⟩

/-! ### Calls -/
def resultOf (rs : Array ResultVar) (E : Env) : Value :=
  let vs := rs.map fun | .tmp t => E.f t | .cell _ _ => poison
  if h : vs.size = 1 then vs[0] else .tuple vs

def allTmps (rs : Array ResultVar) : Bool := rs.toList.all fun | .tmp _ => true | _ => false

theorem mapM_pure {α β : Type} (f : α → Sem β) (g : α → β) (w : World) : ∀ (l : List α), (∀ x ∈ l, f x = Sem.pure (g x)) → (l.mapM f).run P w = .ok (l.map g) w
  | [], _ => by simp [pure]
  | x :: l, h => by
    have ih := mapM_pure f g w l (fun y hy => h y (List.mem_cons_of_mem _ hy))
    have hx : (f x).run P w = .ok (g x) w := by rw [h x (List.mem_cons_self ..)]; rfl
    rw [List.mapM_cons]
    simp only [Sem.run_bind, hx, ih, Result.andThen_ok, List.map_cons]
    rfl

theorem run_results {fn : Func} (h : allTmps fn.results = true) (tmps : Array Value) (w : World) :
    (results fn tmps).run P w = .ok (let vs := fn.results.map fun | .tmp t => tmps.getD t undef | .cell _ _ => poison
      if h : vs.size = 1 then vs[0] else .tuple vs) w := by
  have h' := List.all_eq_true.1 h
  unfold results
  simp only [Sem.run_bind, Array.mapM_eq_mapM_toList, Sem.run_map]
  rw [mapM_pure _ (fun | .tmp t => tmps.getD t undef | .cell _ _ => poison) w fn.results.toList (fun x hx => by
    have := h' x hx
    cases x with
    | tmp t => rfl
    | cell a t => cases this)]
  simp only [Result.andThen_ok, Array.toList_map.symm, Array.toArray_toList]
  rfl

theorem resultOf_rel {ι : Map} {a : Act} (he : ERel ι E a) (rs : Array ResultVar) :
    VRel ι (resultOf rs E) (let vs := rs.map fun | .tmp t => a.tmps.getD t undef | .cell _ _ => poison
      if h : vs.size = 1 then vs[0] else .tuple vs) := by
  unfold resultOf
  by_cases h : rs.size = 1
  · simp only [Array.size_map, h, dif_pos]
    simp only [Array.getElem_map]
    cases rs[0] with
    | tmp t => exact he.slot _
    | cell a t => exact .poison _
  · simp only [Array.size_map, h, dif_neg, not_false_eq_true]
    refine .tuple (by simp) (fun i h1 h2 => ?_)
    simp only [Array.getElem_map]
    have hi : i < rs.size := by simpa using h1
    cases rs[i]'hi with
    | tmp t => exact he.slot _
    | cell a t => exact .poison _

theorem Wcall.body {f : FuncId} {fn : Func} {c : Code} {args : Array Value} {K : Value → Heap → Prop} (hf : P.funcs[f]? = some fn) (hb : fn.body = some c) (hr : allTmps fn.results = true) (hn : args.size ≤ fn.ntmps)
    (h : Wc P c (.init fn.ntmps args) H (fun e E' H' => (e = .ret ∨ e = .normal) ∧ K (resultOf fn.results E') H')) : Wcall P f args H K := by
  obtain ⟨e, E', H', h1, he, hk⟩ := h
  refine ⟨_, H', ⟨h1.ext, fun ι w args' hrel hsz hargs => calls_of_wp hf hb (wp_mono (h1.run ι w _ hrel ?_ rfl) ?_)⟩, hk⟩
  · refine ⟨by simp [Env.init]; omega, fun t => ?_⟩
    simp only [Env.init, Array.getD_eq_getD_getElem?]
    rcases Nat.lt_or_ge t args.size with ht | ht
    · rw [Array.getElem?_append_left (by omega), Array.getElem?_eq_getElem ht, Array.getElem?_eq_getElem (by omega)]
      exact hargs t ht (by omega)
    · rw [Array.getElem?_eq_none ht, Array.getElem?_append_right (by omega)]
      by_cases hlt : t - args'.size < fn.ntmps - args'.size
      · rw [Array.getElem?_replicate, if_pos hlt]; exact .undef
      · rw [Array.getElem?_replicate, if_neg hlt]; exact .undef
  · rintro e1 a1 w1 ⟨rfl, hd, ι', s, he'⟩
    rcases he with rfl | rfl
    · exact ⟨hd, _, run_results hr _ _, _, ι', rfl, resultOf_rel he' _, s⟩
    · exact ⟨hd, _, run_results hr _ _, _, ι', rfl, resultOf_rel he' _, s⟩
end Go.Am
