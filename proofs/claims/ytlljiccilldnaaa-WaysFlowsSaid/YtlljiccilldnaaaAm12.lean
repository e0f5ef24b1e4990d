/- Drawn regions, walked in the text's order; results that are read from memory. -/
import Derived.Test.YtlljiccilldnaaaAm11
set_option linter.unusedVariables false
set_option linter.unusedSimpArgs false
namespace Go.Am
open Go

section
variable {P : Program} {ops : Array Oper} {F G : List Nat} {S : Nat → Prop}

/-- The walk through a region whose order the tape draws. -/
def xDrawn (P : Program) (ops : Array Oper) (F G : List Nat) (S : Nat → Prop) : List Oper → Nat → Env → Heap → (Env → Heap → Prop) → Prop
  | [], _, E, H, K => K E H
  | o :: l, k, E, H, K => match guardOn ops o E with
    | some true => if heapy o.op = true
        then xOp P o.op E.ev H fun v H1 => (k ∈ G → ∀ b, S b → b < H.length → H1[b]? = H[b]?) ∧ xDrawn P ops F G S l (k + 1) (E.putO o.dst v) H1 K
        else opt (fVal P o.op E.ev H) fun v => (k ∈ F → ∀ b, seen o.op E.ev = some b → S b) ∧ xDrawn P ops F G S l (k + 1) (E.putO o.dst v) H K
    | some false => xDrawn P ops F G S l (k + 1) (E.putO o.dst undef) H K
    | none => False

theorem xDrawn_lex : ∀ (l : List Oper) (k : Nat) (E0 : Env) (H0 : Heap) (K : Env → Heap → Prop), xDrawn P ops F G S l k E0 H0 K →
    ∃ (E : Nat → Env) (H : Nat → Heap) (v : Nat → Value), E 0 = E0 ∧ H 0 = H0 ∧ K (E l.length) (H l.length) ∧
      (∀ j o, l[j]? = some o → E (j + 1) = (E j).putO o.dst (v j)) ∧
      (∀ j o, l[j]? = some o →
        (guardOn ops o (E j) = some false ∧ v j = undef ∧ H (j + 1) = H j) ∨
        (guardOn ops o (E j) = some true ∧ (heapy o.op = false → fVal P o.op (E j).ev (H j) = some (v j) ∧ H (j + 1) = H j ∧ (k + j ∈ F → ∀ b, seen o.op (E j).ev = some b → S b)) ∧
          (heapy o.op = true → OpTo P o (E j).ev (H j) (v j) (H (j + 1)) ∧ (k + j ∈ G → ∀ b, S b → b < (H j).length → (H (j + 1))[b]? = (H j)[b]?))))
  | [], k, E0, H0, K, h => ⟨fun _ => E0, fun _ => H0, fun _ => undef, rfl, rfl, h, fun j o ho => by simp at ho, fun j o ho => by simp at ho⟩
  | o :: l, k, E0, H0, K, h => by
    have key : ∀ (v0 : Value) (H1 : Heap), xDrawn P ops F G S l (k + 1) (E0.putO o.dst v0) H1 K →
        ((guardOn ops o E0 = some false ∧ v0 = undef ∧ H1 = H0) ∨
          (guardOn ops o E0 = some true ∧ (heapy o.op = false → fVal P o.op E0.ev H0 = some v0 ∧ H1 = H0 ∧ (k ∈ F → ∀ b, seen o.op E0.ev = some b → S b)) ∧
            (heapy o.op = true → OpTo P o E0.ev H0 v0 H1 ∧ (k ∈ G → ∀ b, S b → b < H0.length → H1[b]? = H0[b]?)))) →
        ∃ (E : Nat → Env) (H : Nat → Heap) (v : Nat → Value), E 0 = E0 ∧ H 0 = H0 ∧ K (E (o :: l).length) (H (o :: l).length) ∧
          (∀ j o', (o :: l)[j]? = some o' → E (j + 1) = (E j).putO o'.dst (v j)) ∧
          (∀ j o', (o :: l)[j]? = some o' →
            (guardOn ops o' (E j) = some false ∧ v j = undef ∧ H (j + 1) = H j) ∨
            (guardOn ops o' (E j) = some true ∧ (heapy o'.op = false → fVal P o'.op (E j).ev (H j) = some (v j) ∧ H (j + 1) = H j ∧ (k + j ∈ F → ∀ b, seen o'.op (E j).ev = some b → S b)) ∧
              (heapy o'.op = true → OpTo P o' (E j).ev (H j) (v j) (H (j + 1)) ∧ (k + j ∈ G → ∀ b, S b → b < (H j).length → (H (j + 1))[b]? = (H j)[b]?)))) := by
      intro v0 H1 hr h0
      obtain ⟨E, H, v, hE, hH, hK, h1, h2⟩ := xDrawn_lex l (k + 1) _ _ _ hr
      refine ⟨fun | 0 => E0 | j + 1 => E j, fun | 0 => H0 | j + 1 => H j, fun | 0 => v0 | j + 1 => v j, rfl, rfl, hK, ?_, ?_⟩
      · intro j o' ho'
        cases j with
        | zero => simp at ho'; subst ho'; exact hE
        | succ j => exact h1 j o' (by simpa using ho')
      · intro j o' ho'
        cases j with
        | zero => simp at ho'; subst ho'; simp only [hH, Nat.add_zero]; exact h0
        | succ j =>
          have := h2 j o' (by simpa using ho')
          rw [show k + 1 + j = k + (j + 1) by omega] at this
          exact this
    simp only [xDrawn] at h
    split at h
    · rename_i hg
      split at h
      · rename_i hh
        obtain ⟨v0, H1, ho, hG, hr⟩ := xOp_sound h
        exact key v0 H1 hr (.inr ⟨hg, fun (hf : heapy o.op = false) => (by rw [hh] at hf; cases hf), fun _ => ⟨ho, hG⟩⟩)
      · rename_i hh
        obtain ⟨v0, e, hF, hr⟩ := opt_iff h
        exact key v0 H0 hr (.inr ⟨hg, fun _ => ⟨e, rfl, hF⟩, fun hf => absurd hf hh⟩)
    · rename_i hg
      exact key undef H0 h (.inl ⟨hg, rfl, rfl⟩)
    · exact h.elim

/-- A region whose order the tape draws: F: those that look at blocks of S; G: those that leave these alone. -/
theorem Wc.drawFG (F G : List Nat) (S : Nat → Prop) {id : Nat} {E : Env} {H : Heap} {Q : Exit → Env → Heap → Prop} (hm : P.follows .mixedOrders = true) (hok : dOk ops F G = true)
    (h : xDrawn P ops F G S ops.toList 0 E H fun E' H' => Q .normal E' H') : Wc P (.region id ops true) E H Q := by
  obtain ⟨Ef, Hf, v, hE, hH, hK, h1, h2⟩ := xDrawn_lex ops.toList 0 E H _ h
  have hx : Lex P ops Ef Hf v F G S := ⟨fun k o ho => h1 k o (by simpa using ho), fun k o ho => by
    have := h2 k o (by simpa using ho)
    simpa only [Nat.zero_add] using this⟩
  refine ⟨.normal, Ef ops.size, Hf ops.size, ?_, by simpa using hK⟩
  have := hx.code hm hok (id := id)
  rw [hE, hH] at this
  exact this

theorem Wc.draw {id : Nat} {E : Env} {H : Heap} {Q : Exit → Env → Heap → Prop} (hm : P.follows .mixedOrders = true) (hok : dOk ops [] [] = true)
    (h : xDrawn P ops [] [] (fun _ => False) ops.toList 0 E H fun E' H' => Q .normal E' H') : Wc P (.region id ops true) E H Q := Wc.drawFG [] [] _ hm hok h
end

/-! ### Results that are read from memory -/
def resVals (P : Program) (E : Env) (H : Heap) : List ResultVar → Option (List Value)
  | [] => some []
  | .tmp t :: l => (resVals P E H l).map (E.f t :: ·)
  | .cell a t :: l => match rdVal P H t (E.f a), resVals P E H l with
    | some v, some vs => some (v :: vs)
    | _, _ => none

def packed (vs : List Value) : Value := match vs with
  | [v] => v
  | vs => .tuple vs.toArray

section
variable {P : Program}
theorem mapM_cons_run {α β : Type} {f : α → Sem β} {x : α} {l : List α} {w : World} {v : β} {vs : List β} (h : (f x).run P w = .ok v w) (h2 : (l.mapM f).run P w = .ok vs w) : ((x :: l).mapM f).run P w = .ok (v :: vs) w := by
  rw [List.mapM_cons]
  simp only [Sem.run_bind, h, h2, Result.andThen_ok]
  rfl

def resRun (a : Act) : ResultVar → Sem Value
  | .tmp t => Pure.pure (a.tmps.getD t undef)
  | .cell b t => do loadVar t (← asAddr (a.tmps.getD b undef))

theorem results_run (fn : Func) (a : Act) : results fn a.tmps = (do let vs ← fn.results.mapM (resRun a); Pure.pure (if h : vs.size = 1 then vs[0] else .tuple vs)) := by
  unfold results
  congr 2

theorem resVals_run {ι : Map} {H : Heap} {w : World} {E : Env} {a : Act} (hr : Rel ι H w) (he : ERel ι E a) : ∀ {rs : List ResultVar} {vs : List Value}, resVals P E H rs = some vs →
    ∃ vs', (rs.mapM (resRun a)).run P w = .ok vs' w ∧ vs.length = vs'.length ∧ ∀ i (h : i < vs.length) (h' : i < vs'.length), VRel ι vs[i] vs'[i]
  | [], vs, h => by
    cases h
    exact ⟨[], by simp [pure], rfl, fun i h => absurd h (by simp)⟩
  | .tmp t :: l, vs, h => by
    simp only [resVals, Option.map_eq_some_iff] at h
    obtain ⟨vs0, h0, rfl⟩ := h
    obtain ⟨vs', h1, h2, h3⟩ := resVals_run hr he h0
    refine ⟨a.tmps.getD t undef :: vs', ?_, by simp [h2], fun i hi hi' => ?_⟩
    · exact mapM_cons_run rfl h1
    · cases i with
      | zero => exact he.slot t
      | succ i => exact h3 i (by simpa using hi) (by simpa using hi')
  | .cell b t :: l, vs, h => by
    simp only [resVals] at h
    split at h
    · rename_i v vs0 hv h0
      cases h
      obtain ⟨vs', h1, h2, h3⟩ := resVals_run hr he h0
      obtain ⟨v', _, hrel, ad, hp, hl⟩ := rdVal_run hr hv (he.slot b)
      refine ⟨v' :: vs', ?_, by simp [h2], fun i hi hi' => ?_⟩
      · refine mapM_cons_run ?_ h1
        simp only [resRun, Sem.run_bind, hp, asAddr]
        exact hl
      · cases i with
        | zero => exact hrel
        | succ i => exact h3 i (by simpa using hi) (by simpa using hi')
    · cases h

theorem call_cells {f : FuncId} {fn : Func} {c : Code} {args : Array Value} {H : Heap} {K : Value → Heap → Prop} {n : Nat} {rs : Array ResultVar} (hf : P.funcs[f]? = some fn) (hb : fn.body = some c) (hn : fn.ntmps = n) (hrs : fn.results = rs)
    (hsz : args.size ≤ n) (h : xC P c (.init n args) H (fun e E' H' => (e = .ret ∨ e = .normal) ∧ opt (resVals P E' H' rs.toList) fun vs => K (packed vs) H')) : Wcall P f args H K := by
  subst hn; subst hrs
  obtain ⟨e, E', H', h1, he, hk⟩ := xC_sound h
  obtain ⟨vs, hvs, hk⟩ := opt_iff hk
  refine ⟨_, H', ⟨h1.ext, fun ι w args' hrel hs hargs => calls_of_wp hf hb (wp_mono (h1.run ι w _ hrel ?_ rfl) ?_)⟩, hk⟩
  · refine ⟨by simp [Env.init]; omega, fun t => ?_⟩
    simp only [Env.init, Array.getD_eq_getD_getElem?]
    rcases Nat.lt_or_ge t args.size with ht | ht
    · rw [Array.getElem?_append_left (by omega), Array.getElem?_eq_getElem ht, Array.getElem?_eq_getElem (by omega)]
      exact hargs t ht (by omega)
    · rw [Array.getElem?_eq_none ht, Array.getElem?_append_right (by omega)]
      by_cases hlt : t - args'.size < fn.ntmps - args'.size
      · rw [Array.getElem?_replicate, if_pos hlt]; exact .undef
      · rw [Array.getElem?_replicate, if_neg hlt]; exact .undef
  · rintro e1 a1 w1 ⟨rfl, hd, ι', s, he'⟩
    obtain ⟨vs', g1, g2, g3⟩ := resVals_run (P := P) s.rel he' hvs
    have g4 : (results fn a1.tmps).run P w1 = .ok (if h : vs'.toArray.size = 1 then vs'.toArray[0] else .tuple vs'.toArray) w1 := by
      rw [results_run]
      simp only [Sem.run_bind, Array.mapM_eq_mapM_toList, Sem.run_map]
      rw [g1]
      rfl
    have g5 : VRel ι' (packed vs) (if h : vs'.toArray.size = 1 then vs'.toArray[0] else .tuple vs'.toArray) := by
      match vs, vs', g2, g3 with
      | [], [], _, _ => exact .tuple rfl (fun i h _ => absurd h (by simp))
      | [v], [v'], _, g3 => simpa [packed] using g3 0 (by simp) (by simp)
      | v :: u :: l, v' :: u' :: l', g2, g3 =>
        simp only [packed]
        rw [dif_neg (by simp)]
        exact .tuple (by simpa using g2) (fun i h h' => by simpa using g3 i (by simpa using h) (by simpa using h'))
    rcases he with rfl | rfl
    · exact ⟨hd, _, g4, _, ι', rfl, g5, s⟩
    · exact ⟨hd, _, g4, _, ι', rfl, g5, s⟩
end
attribute [go_sem] resVals packed
end Go.Am
