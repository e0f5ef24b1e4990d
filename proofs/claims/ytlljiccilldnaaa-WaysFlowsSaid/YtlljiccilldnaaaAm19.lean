/- Drawn regions in which loads and changes of memory are not ordered: the loads look at some blocks that the changes leave alone. -/
import Derived.Test.YtlljiccilldnaaaAm18
set_option linter.unusedVariables false
set_option linter.unusedSimpArgs false
namespace Go.Am
open Go
section
variable {P : Program} {ops : Array Oper} {o : Oper} {l : List Oper} {E : Env} {H : Heap} {K : Env → Heap → Prop} {Q : Exit → Env → Heap → Prop} {k : Value → Heap → Prop} {v : Value} {S : Nat → Prop}

def KeepS (S : Nat → Prop) (H H' : Heap) : Prop := ∀ b, S b → b < H.length → H'[b]? = H[b]?
def SeesS (S : Nat → Prop) (x : Option Nat) : Prop := ∀ b, x = some b → S b
@[go_sem] theorem keepS_refl : KeepS S H H ↔ True := by simp [KeepS]
@[go_sem] theorem keepS_new {l : List Value} : KeepS S H (newBlk H l) ↔ True := by
  simp only [iff_true]; intro b _ h; unfold newBlk; rw [List.getElem?_append_left h]
theorem keepS_ext {H' : Heap} (h : Ext H H') : KeepS S H H' := fun b _ hb => h.get hb
theorem keepS_set {b : Nat} {k : Blk} (h : ¬ S b) : KeepS S H (H.set b k) := fun c hc _ => List.getElem?_set_ne (fun e => by subst e; exact h hc)
@[go_sem] theorem seesS_none : SeesS S none ↔ True := by simp [SeesS]
@[go_sem] theorem seesS_some {b : Nat} : SeesS S (some b) ↔ S b := by simp [SeesS]
/-- The blocks that are there. -/
def Old (m : Nat) : Nat → Prop := fun b => b < m
@[go_sem] theorem old_iff {m b : Nat} : Old m b ↔ b < m := Iff.rfl

def xG (P : Program) (ops : Array Oper) (S : Nat → Prop) : List Oper → Env → Heap → (Env → Heap → Prop) → Prop
  | [], E, H, K => K E H
  | o :: l, E, H, K => match guardOn ops o E with
    | some true => if heapy o.op = true
        then xOp P o.op E.ev H fun v H1 => KeepS S H H1 ∧ xG P ops S l (E.putO o.dst v) H1 K
        else SeesS S (seen o.op E.ev) ∧ opt (fVal P o.op E.ev H) fun v => xG P ops S l (E.putO o.dst v) H K
    | some false => xG P ops S l (E.putO o.dst undef) H K
    | none => False

theorem xG_drawn {F G : List Nat} : ∀ {l : List Oper} {n : Nat} {E : Env} {H : Heap}, xG P ops S l E H K → xDrawn P ops F G S l n E H K
  | [], n, E, H, h => h
  | o :: l, n, E, H, h => by
    simp only [xG] at h
    simp only [xDrawn]
    cases hg : guardOn ops o E with
    | none => rw [hg] at h; exact h
    | some t =>
      rw [hg] at h
      cases t with
      | false => exact xG_drawn h
      | true =>
        simp only at h ⊢
        by_cases hh : heapy o.op = true
        · rw [if_pos hh] at h ⊢
          exact xOp_mono (fun v H1 h => ⟨fun hm b hb hl => h.1 b hb hl, xG_drawn h.2⟩) h
        · rw [if_neg hh] at h ⊢
          obtain ⟨hs, h⟩ := h
          obtain ⟨v, e, h⟩ := opt_iff h
          rw [e]
          exact ⟨fun hm b hb => hs b hb, xG_drawn h⟩

theorem Wc.drawnS (S : Nat → Prop) {id : Nat} (hm : P.follows .mixedOrders = true) (hok : dOk ops (List.range ops.size) (List.range ops.size) = true) (h : xG P ops S ops.toList E H (NormK Q)) : Wc P (.region id ops true) E H Q :=
  Wc.drawFG _ _ _ hm hok (xG_drawn h)

def GK (P : Program) (ops : Array Oper) (S : Nat → Prop) (l : List Oper) (E : Env) (H0 : Heap) (d : Option Nat) (K : Env → Heap → Prop) : Value → Heap → Prop := fun v H1 => KeepS S H0 H1 ∧ xG P ops S l (E.putO d v) H1 K
def GK2 (P : Program) (ops : Array Oper) (S : Nat → Prop) (l : List Oper) (E : Env) (d : Option Nat) (K : Env → Heap → Prop) : Value → Heap → Prop := fun v H1 => xG P ops S l (E.putO d v) H1 K
def Gd4 (g : Option Bool) (b : Bool) (P : Program) (ops : Array Oper) (S : Nat → Prop) (o : Oper) (l : List Oper) (E : Env) (H : Heap) (K : Env → Heap → Prop) : Prop := match g with
  | some true => if b = true
        then xOp P o.op E.ev H (GK P ops S l E H o.dst K)
        else SeesS S (seen o.op E.ev) ∧ Op1 (fVal P o.op E.ev H) (GK2 P ops S l E o.dst K) H
  | some false => xG P ops S l (E.putO o.dst undef) H K
  | none => False
@[go_sem] theorem xG_nil : xG P ops S [] E H K = K E H := by simp only [xG]
@[go_sem] theorem xG_cons : xG P ops S (o :: l) E H K = Gd4 (guardOn ops o E) (heapy o.op) P ops S o l E H K := by rw [xG]; rfl
@[go_sem] theorem gK_app {H0 : Heap} {d : Option Nat} : GK P ops S l E H0 d K v H ↔ KeepS S H0 H ∧ xG P ops S l (E.putO d v) H K := by simp only [GK]
@[go_sem] theorem gK2_app {d : Option Nat} : GK2 P ops S l E d K v H = xG P ops S l (E.putO d v) H K := by simp only [GK2]
@[go_sem] theorem gd4_heapy : Gd4 (some true) true P ops S o l E H K = xOp P o.op E.ev H (GK P ops S l E H o.dst K) := by simp only [Gd4, if_true]
@[go_sem] theorem gd4_plain : Gd4 (some true) false P ops S o l E H K ↔ SeesS S (seen o.op E.ev) ∧ Op1 (fVal P o.op E.ev H) (GK2 P ops S l E o.dst K) H := by simp [Gd4]
@[go_sem] theorem gd4_false {b : Bool} : Gd4 (some false) b P ops S o l E H K = xG P ops S l (E.putO o.dst undef) H K := by simp only [Gd4]
theorem Gd4.fork {t b : Bool} (h1 : t = true → Gd4 (some true) b P ops S o l E H K) (h2 : t = false → xG P ops S l (E.putO o.dst undef) H K) : Gd4 (some t) b P ops S o l E H K := by
  cases t
  · simpa [Gd4] using h2 rfl
  · exact h1 rfl
theorem Gd4.forkD {b : Bool} {c : Prop} [Decidable c] (h1 : c → Gd4 (some true) b P ops S o l E H K) (h2 : ¬ c → xG P ops S l (E.putO o.dst undef) H K) : Gd4 (some (decide c)) b P ops S o l E H K :=
  Gd4.fork (fun h => h1 (by simpa using h)) (fun h => h2 (by simpa using h))
theorem Gd4.forkN {b : Bool} {c : Prop} [Decidable c] (h1 : ¬ c → Gd4 (some true) b P ops S o l E H K) (h2 : c → xG P ops S l (E.putO o.dst undef) H K) : Gd4 (some (!decide c)) b P ops S o l E H K :=
  Gd4.fork (fun h => h1 (by simpa using h)) (fun h => h2 (by simpa using h))
theorem Gd4.forkNB {t b : Bool} (h1 : t = false → Gd4 (some true) b P ops S o l E H K) (h2 : t = true → xG P ops S l (E.putO o.dst undef) H K) : Gd4 (some (!t)) b P ops S o l E H K :=
  Gd4.fork (fun h => h1 (by simpa using h)) (fun h => h2 (by simpa using h))
end
end Go.Am
