/- Laws for the walk: slots, reading slices, loops. -/
import Derived.Test.YtlljiccilldnaaaAm7
set_option linter.unusedVariables false
set_option linter.unusedSimpArgs false
namespace Go.Am
open Go
attribute [go_sem] guardOn aBin aInt aStr aCmp aUn aConv aExtract aNilCheck aFieldAddr aField aIndexAddr aIndex aLen aCap rdVal wrVal aCallee aIsAgg aPart aEq eqBy partsOf aBound solid Value.cells aBuild aFill aBuildSlice Option.or

/-! ### Slots -/
@[go_sem] theorem putO_some (E : Env) (d : Nat) (v : Value) : E.putO (some d) v = E.put d v := rfl
@[go_sem] theorem putO_none (E : Env) (v : Value) : E.putO none v = E := rfl
@[go_sem] theorem n_put (E : Env) (d : Nat) (v : Value) : (E.put d v).n = E.n := by simp only [Env.put]
@[go_sem] theorem f_put_eq (E : Env) (d : Nat) (v : Value) (h : d < E.n) : (E.put d v).f d = v := by simp [Env.put, h]
@[go_sem] theorem f_put_ne (E : Env) (d t : Nat) (v : Value) (h : t ≠ d) : (E.put d v).f t = E.f t := by simp [Env.put, h]
@[go_sem] theorem ev_tmp (E : Env) (t : Nat) : E.ev (.tmp t) = E.f t := rfl
@[go_sem] theorem ev_func (E : Env) (f : FuncId) : E.ev (.func f) = .func (.func f) #[] #[] := rfl
@[go_sem] theorem ev_int (E : Env) (k : IntKind) (n : Int) : E.ev (.const (.int k n)) = .int k n := rfl
@[go_sem] theorem ev_bool (E : Env) (b : Bool) : E.ev (.const (.bool b)) = .bool b := rfl
@[go_sem] theorem ev_string (E : Env) (s : ByteArray) : E.ev (.const (.string s)) = .string s := rfl
@[go_sem] theorem ev_nilptr (E : Env) : E.ev (.const (.pointer none)) = .pointer none := rfl
@[go_sem] theorem ev_nilslice (E : Env) : E.ev (.const (.slice none 0 0)) = .slice none 0 0 := rfl
@[go_sem] theorem ev_nilIface (E : Env) : E.ev (.const .nilIface) = .nilIface := rfl
@[go_sem] theorem ev_nilFunc (E : Env) : E.ev (.const .nilFunc) = .nilFunc := rfl
theorem ev_const (E : Env) {v : Value} (h : okConst v = true) : E.ev (.const v) = v := if_pos h
@[go_sem] theorem ev_agg (E : Env) (cs : Array Value) (h : cs.toList.all plainConst = true) : E.ev (.const (.agg cs)) = .agg cs := ev_const E (by simpa [okConst] using h)
attribute [go_sem] plainConst
@[go_sem] theorem init_n (n : Nat) (args : Array Value) : (Env.init n args).n = n := by simp only [Env.init]
@[go_sem] theorem init_f (n t : Nat) (args : Array Value) : (Env.init n args).f t = args.getD t undef := rfl

/-- Slots by a list. -/
def Env.of (n : Nat) (l : List (Nat × Value)) : Env := ⟨n, fun t => match l.lookup t with | some v => v | none => poison⟩
@[go_sem] theorem of_n (n : Nat) (l : List (Nat × Value)) : (Env.of n l).n = n := by simp only [Env.of]
@[go_sem] theorem of_eq (n d : Nat) (v : Value) (l : List (Nat × Value)) : (Env.of n ((d, v) :: l)).f d = v := by simp [Env.of]
@[go_sem] theorem of_ne (n d t : Nat) (v : Value) (l : List (Nat × Value)) (h : t ≠ d) : (Env.of n ((d, v) :: l)).f t = (Env.of n l).f t := by
  have : (t == d) = false := by simpa using h
  simp [Env.of, List.lookup, this]

theorem lookup_mem {l : List (Nat × Value)} {t : Nat} {v : Value} (h : l.lookup t = some v) : (t, v) ∈ l := by
  induction l with
  | nil => simp at h
  | cons p l ih =>
    obtain ⟨d, u⟩ := p
    by_cases hd : t = d
    · subst hd
      simp at h
      subst h
      exact List.mem_cons_self ..
    · have : (t == d) = false := by simpa using hd
      rw [List.lookup_cons, this] at h
      exact List.mem_cons_of_mem _ (ih h)

theorem le_of {n : Nat} {l : List (Nat × Value)} {E : Env} (hn : E.n = n) (h : ∀ p ∈ l, E.f p.1 = p.2) : EnvLe (Env.of n l) E := by
  refine ⟨hn.symm, fun t => ?_⟩
  cases hl : l.lookup t with
  | none => right; simp [Env.of, hl]
  | some v => left; simp only [Env.of, hl]; exact (h _ (lookup_mem hl)).symm

/-- A loop whose slots and memory are told by its variables. -/
theorem Wc.loopv {P : Program} {c : Code} {E : Env} {H : Heap} {Q : Exit → Env → Heap → Prop} {σ : Type} (n : Nat) (env : σ → List (Nat × Value)) (heap : σ → Heap) (I : σ → Prop) (m : σ → Nat) (s0 : σ)
    (hn : E.n = n) (h0 : ∀ p ∈ env s0, E.f p.1 = p.2) (hH : H = heap s0) (hI : I s0)
    (round : ∀ s, I s → xC P c (Env.of n (env s)) (heap s) (thenC (fun E' H' => E'.n = n ∧ ∃ s', m s' < m s ∧ (∀ p ∈ env s', E'.f p.1 = p.2) ∧ H' = heap s' ∧ I s') Q)) : Wc P (.loop c) E H Q := by
  refine Wc.le (le_of hn h0) (Wc.loop (fun k E H => ∃ s, m s = k ∧ E = Env.of n (env s) ∧ H = heap s ∧ I s) (m s0) ⟨s0, rfl, rfl, hH, hI⟩ ?_)
  rintro k E H ⟨s, rfl, rfl, rfl, hs⟩
  refine (xC_sound (round s hs)).mono fun e E' H' hq => ?_
  cases e with
  | normal =>
    obtain ⟨hn', s', hm, he, rfl, hI'⟩ := hq
    exact ⟨m s', Env.of n (env s'), hm, le_of hn' he, s', rfl, rfl, rfl, hI'⟩
  | _ => exact hq

/-- Fewer slots, at the head of a piece of code. -/
theorem xC.cut {P : Program} {c : Code} {E : Env} {H : Heap} {Q : Exit → Env → Heap → Prop} (n : Nat) (l : List (Nat × Value)) (hn : E.n = n) (h0 : ∀ p ∈ l, E.f p.1 = p.2) (h : xC P c (Env.of n l) H Q) : Wc P c E H Q :=
  Wc.le (le_of hn h0) (xC_sound h)

/-- A call by its code. -/
theorem call_body {P : Program} {f : FuncId} {fn : Func} {c : Code} {args : Array Value} {H : Heap} {K : Value → Heap → Prop} {n : Nat} {rs : Array ResultVar} (hf : P.funcs[f]? = some fn) (hb : fn.body = some c) (hn : fn.ntmps = n) (hrs : fn.results = rs) (hr : allTmps rs = true)
    (hsz : args.size ≤ n) (h : xC P c (.init n args) H (fun e E' H' => (e = .ret ∨ e = .normal) ∧ K (resultOf rs E') H')) : Wcall P f args H K := by
  subst hn; subst hrs
  exact Wcall.body hf hb hr hsz (xC_sound h)

@[go_sem] theorem result_one (E : Env) (t : Nat) : resultOf #[.tmp t] E = E.f t := by simp [resultOf]
@[go_sem] theorem result_two (E : Env) (t u : Nat) : resultOf #[.tmp t, .tmp u] E = .tuple #[E.f t, E.f u] := by simp [resultOf]
@[go_sem] theorem result_three (E : Env) (t u v : Nat) : resultOf #[.tmp t, .tmp u, .tmp v] E = .tuple #[E.f t, E.f u, E.f v] := by simp [resultOf]
@[go_sem] theorem result_none (E : Env) : resultOf #[] E = undef := by simp [resultOf, undef]

/-! ### Slices -/
/-- The slice's cells, sz to an element. -/
def Reads (H : Heap) (s : Value) (sz n : Nat) (cells : List Value) : Prop :=
  cells.length = n * sz ∧ ((s = .slice none 0 0 ∧ n = 0) ∨ ∃ b off cap, s = .slice (some ⟨b, off, none⟩) n cap ∧ n ≤ cap ∧ okShare H b sz = true ∧ rdBlk H b off (n * sz) = some cells)

theorem rdBlk_sub {H : Heap} {b off n i k : Nat} {cells : List Value} (h : rdBlk H b off n = some cells) (hi : i + k ≤ n) : rdBlk H b (off + i) k = some ((cells.drop i).take k) := by
  unfold rdBlk at h ⊢
  split at h
  · rename_i blk hb
    split at h
    · rename_i hd
      cases h
      rw [if_pos ⟨hd.1, by omega⟩]
      congr 1
      rw [List.drop_take, List.take_take, List.drop_drop, Nat.min_eq_left (by omega)]
    · cases h
  · cases h

theorem rdBlk_len {H : Heap} {b off n : Nat} {cells : List Value} (h : rdBlk H b off n = some cells) : cells.length = n := by
  unfold rdBlk at h
  split at h
  · split at h
    · rename_i hd; cases h; simp; omega
    · cases h
  · cases h
end Go.Am
