/- Drawn regions: only the loads of F and the changes of G need not be ordered. -/
import Derived.Test.YtlljiccilldnaaaAm20
set_option linter.unusedVariables false
set_option linter.unusedSimpArgs false
namespace Go.Am
open Go
section
variable {P : Program} {ops : Array Oper} {o : Oper} {l : List Oper} {E : Env} {H : Heap} {K : Env → Heap → Prop} {Q : Exit → Env → Heap → Prop} {k : Value → Heap → Prop} {v : Value} {S : Nat → Prop} {F G : List Nat} {n : Nat}

def xE (P : Program) (ops : Array Oper) (F G : List Nat) (S : Nat → Prop) : List Oper → Nat → Env → Heap → (Env → Heap → Prop) → Prop
  | [], _, E, H, K => K E H
  | o :: l, n, E, H, K => match guardOn ops o E with
    | some true => if heapy o.op = true
        then xOp P o.op E.ev H fun v H1 => (n ∈ G → KeepS S H H1) ∧ xE P ops F G S l (n + 1) (E.putO o.dst v) H1 K
        else (n ∈ F → SeesS S (seen o.op E.ev)) ∧ opt (fVal P o.op E.ev H) fun v => xE P ops F G S l (n + 1) (E.putO o.dst v) H K
    | some false => xE P ops F G S l (n + 1) (E.putO o.dst undef) H K
    | none => False

theorem xE_drawn : ∀ {l : List Oper} {n : Nat} {E : Env} {H : Heap}, xE P ops F G S l n E H K → xDrawn P ops F G S l n E H K
  | [], n, E, H, h => h
  | o :: l, n, E, H, h => by
    simp only [xE] at h
    simp only [xDrawn]
    cases hg : guardOn ops o E with
    | none => rw [hg] at h; exact h
    | some t =>
      rw [hg] at h
      cases t with
      | false => exact xE_drawn h
      | true =>
        simp only at h ⊢
        by_cases hh : heapy o.op = true
        · rw [if_pos hh] at h ⊢
          exact xOp_mono (fun v H1 h => ⟨fun hm b hb hl => h.1 hm b hb hl, xE_drawn h.2⟩) h
        · rw [if_neg hh] at h ⊢
          obtain ⟨hs, h⟩ := h
          obtain ⟨v, e, h⟩ := opt_iff h
          rw [e]
          exact ⟨fun hm b hb => hs hm b hb, xE_drawn h⟩

theorem Wc.drawnG (F G : List Nat) (S : Nat → Prop) {id : Nat} (hm : P.follows .mixedOrders = true) (hok : dOk ops F G = true) (h : xE P ops F G S ops.toList 0 E H (NormK Q)) : Wc P (.region id ops true) E H Q :=
  Wc.drawFG _ _ _ hm hok (xE_drawn h)

def EK (P : Program) (ops : Array Oper) (F G : List Nat) (S : Nat → Prop) (l : List Oper) (n : Nat) (E : Env) (H0 : Heap) (d : Option Nat) (K : Env → Heap → Prop) : Value → Heap → Prop := fun v H1 => (n ∈ G → KeepS S H0 H1) ∧ xE P ops F G S l (n + 1) (E.putO d v) H1 K
def EK2 (P : Program) (ops : Array Oper) (F G : List Nat) (S : Nat → Prop) (l : List Oper) (n : Nat) (E : Env) (d : Option Nat) (K : Env → Heap → Prop) : Value → Heap → Prop := fun v H1 => xE P ops F G S l (n + 1) (E.putO d v) H1 K
def Gd5 (g : Option Bool) (b : Bool) (P : Program) (ops : Array Oper) (F G : List Nat) (S : Nat → Prop) (o : Oper) (l : List Oper) (n : Nat) (E : Env) (H : Heap) (K : Env → Heap → Prop) : Prop := match g with
  | some true => if b = true
        then xOp P o.op E.ev H (EK P ops F G S l n E H o.dst K)
        else (n ∈ F → SeesS S (seen o.op E.ev)) ∧ Op1 (fVal P o.op E.ev H) (EK2 P ops F G S l n E o.dst K) H
  | some false => xE P ops F G S l (n + 1) (E.putO o.dst undef) H K
  | none => False
@[go_sem] theorem xE_nil : xE P ops F G S [] n E H K = K E H := by simp only [xE]
@[go_sem] theorem xE_cons : xE P ops F G S (o :: l) n E H K = Gd5 (guardOn ops o E) (heapy o.op) P ops F G S o l n E H K := by rw [xE]; rfl
@[go_sem] theorem eK_app {H0 : Heap} {d : Option Nat} : EK P ops F G S l n E H0 d K v H ↔ (n ∈ G → KeepS S H0 H) ∧ xE P ops F G S l (n + 1) (E.putO d v) H K := by simp only [EK]
@[go_sem] theorem eK2_app {d : Option Nat} : EK2 P ops F G S l n E d K v H = xE P ops F G S l (n + 1) (E.putO d v) H K := by simp only [EK2]
@[go_sem] theorem gd5_heapy : Gd5 (some true) true P ops F G S o l n E H K = xOp P o.op E.ev H (EK P ops F G S l n E H o.dst K) := by simp only [Gd5, if_true]
@[go_sem] theorem gd5_plain : Gd5 (some true) false P ops F G S o l n E H K ↔ (n ∈ F → SeesS S (seen o.op E.ev)) ∧ Op1 (fVal P o.op E.ev H) (EK2 P ops F G S l n E o.dst K) H := by simp [Gd5]
@[go_sem] theorem gd5_false {b : Bool} : Gd5 (some false) b P ops F G S o l n E H K = xE P ops F G S l (n + 1) (E.putO o.dst undef) H K := by simp only [Gd5]
theorem Gd5.fork {t b : Bool} (h1 : t = true → Gd5 (some true) b P ops F G S o l n E H K) (h2 : t = false → xE P ops F G S l (n + 1) (E.putO o.dst undef) H K) : Gd5 (some t) b P ops F G S o l n E H K := by
  cases t
  · simpa [Gd5] using h2 rfl
  · exact h1 rfl
theorem Gd5.forkD {b : Bool} {c : Prop} [Decidable c] (h1 : c → Gd5 (some true) b P ops F G S o l n E H K) (h2 : ¬ c → xE P ops F G S l (n + 1) (E.putO o.dst undef) H K) : Gd5 (some (decide c)) b P ops F G S o l n E H K :=
  Gd5.fork (fun h => h1 (by simpa using h)) (fun h => h2 (by simpa using h))
end
end Go.Am
