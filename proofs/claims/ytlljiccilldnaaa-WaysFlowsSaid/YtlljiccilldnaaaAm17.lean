/- Drawn regions in which loads and changes of memory are not ordered: the loads look at one block that the changes leave alone. -/
import Derived.Test.YtlljiccilldnaaaAm16
set_option linter.unusedVariables false
set_option linter.unusedSimpArgs false
namespace Go.Am
open Go
section
variable {P : Program} {ops : Array Oper} {o : Oper} {l : List Oper} {E : Env} {H : Heap} {K : Env → Heap → Prop} {Q : Exit → Env → Heap → Prop} {k : Value → Heap → Prop} {v : Value} {s0 : Nat}

/-- The block s0 is as it was. -/
def Keep (s0 : Nat) (H H' : Heap) : Prop := s0 < H.length → H'[s0]? = H[s0]?
/-- Only s0 is looked at. -/
def Sees (s0 : Nat) (x : Option Nat) : Prop := ∀ b, x = some b → b = s0
@[go_sem] theorem keep_refl : Keep s0 H H ↔ True := by simp [Keep]
@[go_sem] theorem keep_new {l : List Value} : Keep s0 H (newBlk H l) ↔ True := by
  simp only [iff_true]; intro h; unfold newBlk; rw [List.getElem?_append_left h]
@[go_sem] theorem sees_none : Sees s0 none ↔ True := by simp [Sees]
@[go_sem] theorem sees_some {b : Nat} : Sees s0 (some b) ↔ b = s0 := by simp [Sees]

def xF (P : Program) (ops : Array Oper) (s0 : Nat) : List Oper → Env → Heap → (Env → Heap → Prop) → Prop
  | [], E, H, K => K E H
  | o :: l, E, H, K => match guardOn ops o E with
    | some true => if heapy o.op = true
        then xOp P o.op E.ev H fun v H1 => Keep s0 H H1 ∧ xF P ops s0 l (E.putO o.dst v) H1 K
        else Sees s0 (seen o.op E.ev) ∧ opt (fVal P o.op E.ev H) fun v => xF P ops s0 l (E.putO o.dst v) H K
    | some false => xF P ops s0 l (E.putO o.dst undef) H K
    | none => False

theorem xF_drawn {F G : List Nat} : ∀ {l : List Oper} {n : Nat} {E : Env} {H : Heap}, xF P ops s0 l E H K → xDrawn P ops F G (fun b => b = s0) l n E H K
  | [], n, E, H, h => h
  | o :: l, n, E, H, h => by
    simp only [xF] at h
    simp only [xDrawn]
    cases hg : guardOn ops o E with
    | none => rw [hg] at h; exact h
    | some t =>
      rw [hg] at h
      cases t with
      | false => exact xF_drawn h
      | true =>
        simp only at h ⊢
        by_cases hh : heapy o.op = true
        · rw [if_pos hh] at h ⊢
          exact xOp_mono (fun v H1 h => ⟨fun hm b hb hl => (by subst hb; exact h.1 hl), xF_drawn h.2⟩) h
        · rw [if_neg hh] at h ⊢
          obtain ⟨hs, h⟩ := h
          obtain ⟨v, e, h⟩ := opt_iff h
          rw [e]
          exact ⟨fun hm b hb => hs b hb, xF_drawn h⟩

theorem Wc.drawnF (s0 : Nat) {id : Nat} (hm : P.follows .mixedOrders = true) (hok : dOk ops (List.range ops.size) (List.range ops.size) = true) (h : xF P ops s0 ops.toList E H (NormK Q)) : Wc P (.region id ops true) E H Q :=
  Wc.drawFG _ _ _ hm hok (xF_drawn h)

def FK (P : Program) (ops : Array Oper) (s0 : Nat) (l : List Oper) (E : Env) (H0 : Heap) (d : Option Nat) (K : Env → Heap → Prop) : Value → Heap → Prop := fun v H1 => Keep s0 H0 H1 ∧ xF P ops s0 l (E.putO d v) H1 K
def FK2 (P : Program) (ops : Array Oper) (s0 : Nat) (l : List Oper) (E : Env) (d : Option Nat) (K : Env → Heap → Prop) : Value → Heap → Prop := fun v H1 => xF P ops s0 l (E.putO d v) H1 K
def Gd3 (g : Option Bool) (b : Bool) (P : Program) (ops : Array Oper) (s0 : Nat) (o : Oper) (l : List Oper) (E : Env) (H : Heap) (K : Env → Heap → Prop) : Prop := match g with
  | some true => if b = true
        then xOp P o.op E.ev H (FK P ops s0 l E H o.dst K)
        else Sees s0 (seen o.op E.ev) ∧ Op1 (fVal P o.op E.ev H) (FK2 P ops s0 l E o.dst K) H
  | some false => xF P ops s0 l (E.putO o.dst undef) H K
  | none => False
@[go_sem] theorem xF_nil : xF P ops s0 [] E H K = K E H := by simp only [xF]
@[go_sem] theorem xF_cons : xF P ops s0 (o :: l) E H K = Gd3 (guardOn ops o E) (heapy o.op) P ops s0 o l E H K := by rw [xF]; rfl
@[go_sem] theorem fK_app {H0 : Heap} {d : Option Nat} : FK P ops s0 l E H0 d K v H ↔ Keep s0 H0 H ∧ xF P ops s0 l (E.putO d v) H K := by simp only [FK]
@[go_sem] theorem fK2_app {d : Option Nat} : FK2 P ops s0 l E d K v H = xF P ops s0 l (E.putO d v) H K := by simp only [FK2]
@[go_sem] theorem gd3_heapy : Gd3 (some true) true P ops s0 o l E H K = xOp P o.op E.ev H (FK P ops s0 l E H o.dst K) := by simp only [Gd3, if_true]
@[go_sem] theorem gd3_plain : Gd3 (some true) false P ops s0 o l E H K ↔ Sees s0 (seen o.op E.ev) ∧ Op1 (fVal P o.op E.ev H) (FK2 P ops s0 l E o.dst K) H := by simp [Gd3]
@[go_sem] theorem gd3_false {b : Bool} : Gd3 (some false) b P ops s0 o l E H K = xF P ops s0 l (E.putO o.dst undef) H K := by simp only [Gd3]
end
attribute [go_sem] seen blkOf
end Go.Am
