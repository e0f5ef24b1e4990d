/- Drawn regions in the frozen walk. -/
import Derived.Test.YtlljiccilldnaaaAm15
set_option linter.unusedVariables false
set_option linter.unusedSimpArgs false
namespace Go.Am
open Go
section
variable {P : Program} {ops : Array Oper} {o : Oper} {l : List Oper} {E : Env} {H : Heap} {K : Env → Heap → Prop} {Q : Exit → Env → Heap → Prop} {k : Value → Heap → Prop} {v : Value}

def xD (P : Program) (ops : Array Oper) : List Oper → Env → Heap → (Env → Heap → Prop) → Prop
  | [], E, H, K => K E H
  | o :: l, E, H, K => match guardOn ops o E with
    | some true => if heapy o.op = true
        then xOp P o.op E.ev H fun v H1 => xD P ops l (E.putO o.dst v) H1 K
        else opt (fVal P o.op E.ev H) fun v => xD P ops l (E.putO o.dst v) H K
    | some false => xD P ops l (E.putO o.dst undef) H K
    | none => False

theorem xOp_mono {op : Op} {ρ : Operand → Value} {k k' : Value → Heap → Prop} (hk : ∀ v H, k v H → k' v H) (h : xOp P op ρ H k) : xOp P op ρ H k' := by
  have hopt : ∀ {α : Type} {x : Option α} {f g : α → Prop}, (∀ a, f a → g a) → opt x f → opt x g := by
    intro α x f g hfg h
    cases x with
    | none => exact h
    | some a => exact hfg a h
  cases op <;> simp only [xOp] at h ⊢ <;> first | exact hk _ _ h | exact hopt (fun _ h => hk _ _ h) h | exact h | exact ⟨h.1, hk _ _ h.2⟩ | skip
  case pick c a b => split at h <;> first | exact hk _ _ h | exact h
  case call c =>
    obtain ⟨callee, args, ts⟩ := c
    cases callee with
    | value f => exact hopt (fun _ h => ⟨h.1, h.2.mono hk⟩) h
    | invoke r name => exact hopt (fun _ h => ⟨h.1, h.2.mono hk⟩) h
    | builtin b =>
      simp only [xOp] at h ⊢
      split at h <;> first | exact h.elim | exact hopt (fun _ h => hk _ _ h) h

theorem xD_drawn : ∀ {l : List Oper} {n : Nat} {E : Env} {H : Heap}, xD P ops l E H K → xDrawn P ops [] [] (fun _ => False) l n E H K
  | [], n, E, H, h => h
  | o :: l, n, E, H, h => by
    simp only [xD] at h
    simp only [xDrawn]
    cases hg : guardOn ops o E with
    | none => rw [hg] at h; exact h
    | some t =>
      rw [hg] at h
      cases t with
      | false => exact xD_drawn h
      | true =>
        simp only at h ⊢
        by_cases hh : heapy o.op = true
        · rw [if_pos hh] at h ⊢
          exact xOp_mono (fun v H1 h => ⟨fun hm => (by cases hm), xD_drawn h⟩) h
        · rw [if_neg hh] at h ⊢
          obtain ⟨v, e, h⟩ := opt_iff h
          rw [e]
          exact ⟨fun hm => (by cases hm), xD_drawn h⟩

/-- A region whose order the tape draws. -/
theorem Wc.drawn {id : Nat} (hm : P.follows .mixedOrders = true) (hok : dOk ops [] [] = true) (h : xD P ops ops.toList E H (NormK Q)) : Wc P (.region id ops true) E H Q :=
  Wc.draw hm hok (xD_drawn h)

def DK (P : Program) (ops : Array Oper) (l : List Oper) (E : Env) (d : Option Nat) (K : Env → Heap → Prop) : Value → Heap → Prop := fun v H => xD P ops l (E.putO d v) H K
def Gd2 (g : Option Bool) (b : Bool) (P : Program) (ops : Array Oper) (o : Oper) (l : List Oper) (E : Env) (H : Heap) (K : Env → Heap → Prop) : Prop := match g with
  | some true => if b = true
        then xOp P o.op E.ev H fun v H1 => xD P ops l (E.putO o.dst v) H1 K
        else opt (fVal P o.op E.ev H) fun v => xD P ops l (E.putO o.dst v) H K
  | some false => xD P ops l (E.putO o.dst undef) H K
  | none => False
@[go_sem] theorem xD_nil : xD P ops [] E H K = K E H := by simp only [xD]
@[go_sem] theorem xD_cons : xD P ops (o :: l) E H K = Gd2 (guardOn ops o E) (heapy o.op) P ops o l E H K := by rw [xD]; rfl
@[go_sem] theorem dK_app {d : Option Nat} : DK P ops l E d K v H = xD P ops l (E.putO d v) H K := by simp only [DK]
@[go_sem] theorem gd2_heapy : Gd2 (some true) true P ops o l E H K = xOp P o.op E.ev H (DK P ops l E o.dst K) := by simp only [Gd2, if_true]; rfl
@[go_sem] theorem gd2_plain : Gd2 (some true) false P ops o l E H K = Op1 (fVal P o.op E.ev H) (DK P ops l E o.dst K) H := by simp [Gd2]; rfl
@[go_sem] theorem gd2_false {b : Bool} : Gd2 (some false) b P ops o l E H K = xD P ops l (E.putO o.dst undef) H K := by simp only [Gd2]
theorem Gd2.fork {t b : Bool} (h1 : t = true → Gd2 (some true) b P ops o l E H K) (h2 : t = false → xD P ops l (E.putO o.dst undef) H K) : Gd2 (some t) b P ops o l E H K := by
  cases t
  · simpa [Gd2] using h2 rfl
  · exact h1 rfl
theorem Gd2.forkD {b : Bool} {c : Prop} [Decidable c] (h1 : c → Gd2 (some true) b P ops o l E H K) (h2 : ¬ c → xD P ops l (E.putO o.dst undef) H K) : Gd2 (some (decide c)) b P ops o l E H K :=
  Gd2.fork (fun h => h1 (by simpa using h)) (fun h => h2 (by simpa using h))
theorem Gd2.forkN {b : Bool} {c : Prop} [Decidable c] (h1 : ¬ c → Gd2 (some true) b P ops o l E H K) (h2 : c → xD P ops l (E.putO o.dst undef) H K) : Gd2 (some (!decide c)) b P ops o l E H K :=
  Gd2.fork (fun h => h1 (by simpa using h)) (fun h => h2 (by simpa using h))
end
attribute [go_sem] heapy fVal undef zeros

section
variable {P : Program} {ops : Array Oper} {o : Oper} {l : List Oper} {E : Env} {H : Heap} {K : Env → Heap → Prop} {Q : Exit → Env → Heap → Prop}
theorem Br.forkNB {t : Bool} {a b : Code} (h1 : t = false → xC P a E H Q) (h2 : t = true → xC P b E H Q) : Br (.bool (!t)) P a b E H Q :=
  Br.fork (fun h => h1 (by simpa using h)) (fun h => h2 (by simpa using h))
theorem Gd.forkNB {t : Bool} (h1 : t = false → xOp P o.op E.ev H (OpsK P ops l E o.dst K)) (h2 : t = true → xOps P ops l (E.putO o.dst undef) H K) : Gd (some (!t)) P ops o l E H K :=
  Gd.fork (fun h => h1 (by simpa using h)) (fun h => h2 (by simpa using h))
theorem Gd2.forkNB {t b : Bool} (h1 : t = false → Gd2 (some true) b P ops o l E H K) (h2 : t = true → xD P ops l (E.putO o.dst undef) H K) : Gd2 (some (!t)) b P ops o l E H K :=
  Gd2.fork (fun h => h1 (by simpa using h)) (fun h => h2 (by simpa using h))
end

/-! ### Several new blocks -/
@[go_sem] theorem lt_add2 (a : Nat) : a < a + 1 + 1 := by omega
@[go_sem] theorem lt_add3 (a : Nat) : a < a + 1 + 1 + 1 := by omega
@[go_sem] theorem lt_add4 (a : Nat) : a < a + 1 + 1 + 1 + 1 := by omega
section
variable {H : Heap} {l1 l2 l3 l4 vs : List Value} {b off n : Nat}
@[go_sem] theorem rdBlk_old2 (h : b < H.length) : rdBlk (newBlk (newBlk H l1) l2) b off n = rdBlk H b off n := by
  rw [rdBlk_old _ _ _ _ _ (by simp [newBlk_length]; omega), rdBlk_old _ _ _ _ _ h]
@[go_sem] theorem rdBlk_old3 (h : b < H.length) : rdBlk (newBlk (newBlk (newBlk H l1) l2) l3) b off n = rdBlk H b off n := by
  rw [rdBlk_old _ _ _ _ _ (by simp [newBlk_length]; omega), rdBlk_old2 h]
@[go_sem] theorem rdBlk_old4 (h : b < H.length) : rdBlk (newBlk (newBlk (newBlk (newBlk H l1) l2) l3) l4) b off n = rdBlk H b off n := by
  rw [rdBlk_old _ _ _ _ _ (by simp [newBlk_length]; omega), rdBlk_old3 h]
@[go_sem] theorem wrBlk_old2 (h : b < H.length) : wrBlk (newBlk (newBlk H l1) l2) b off vs = (wrBlk H b off vs).map (fun H' => newBlk (newBlk H' l1) l2) := by
  rw [wrBlk_old _ _ _ _ _ (by simp [newBlk_length]; omega), wrBlk_old _ _ _ _ _ h, Option.map_map]; rfl
@[go_sem] theorem wrBlk_old3 (h : b < H.length) : wrBlk (newBlk (newBlk (newBlk H l1) l2) l3) b off vs = (wrBlk H b off vs).map (fun H' => newBlk (newBlk (newBlk H' l1) l2) l3) := by
  rw [wrBlk_old _ _ _ _ _ (by simp [newBlk_length]; omega), wrBlk_old2 h, Option.map_map]; rfl
@[go_sem] theorem wrBlk_old4 (h : b < H.length) : wrBlk (newBlk (newBlk (newBlk (newBlk H l1) l2) l3) l4) b off vs = (wrBlk H b off vs).map (fun H' => newBlk (newBlk (newBlk (newBlk H' l1) l2) l3) l4) := by
  rw [wrBlk_old _ _ _ _ _ (by simp [newBlk_length]; omega), wrBlk_old3 h, Option.map_map]; rfl
end

/-! ### Memory that only grew -/
def Ext (H H' : Heap) : Prop := ∃ X, H' = H ++ X
@[go_sem] theorem Ext.refl (H : Heap) : Ext H H := ⟨[], by simp⟩
theorem Ext.trans {H1 H2 H3 : Heap} (h : Ext H1 H2) (h' : Ext H2 H3) : Ext H1 H3 := by
  obtain ⟨X, rfl⟩ := h
  obtain ⟨Y, rfl⟩ := h'
  exact ⟨X ++ Y, by simp⟩
@[go_sem] theorem Ext.new {H H' : Heap} {l : List Value} (h : Ext H H') : Ext H (newBlk H' l) := h.trans ⟨_, rfl⟩
@[go_sem] theorem Ext.more {H H' X : Heap} (h : Ext H H') : Ext H (H' ++ X) := h.trans ⟨_, rfl⟩
theorem Ext.len {H H' : Heap} (h : Ext H H') : H.length ≤ H'.length := by
  obtain ⟨X, rfl⟩ := h
  simp
theorem Ext.rd {H H' : Heap} (h : Ext H H') {b off n : Nat} {l : List Value} (hr : rdBlk H b off n = some l) : rdBlk H' b off n = some l := by
  obtain ⟨X, rfl⟩ := h
  rw [rdBlk_app _ _ _ _ _ (rdBlk_lt hr)]; exact hr
theorem Sl.ext {α : Type} {R : Heap → α → List Value → Prop} {sz : Nat} (hm : Mono R) {s : Value} {xs : List α} {H H' : Heap} (h : Sl R sz H s xs) (he : Ext H H') : Sl R sz H' s xs := by
  obtain ⟨X, rfl⟩ := he
  exact h.mono hm X
@[go_sem] theorem ite_min (a b : Int) : (if b < a then b else a) = min a b := by
  simp only [Int.min_def]; split <;> split <;> omega
@[go_sem] theorem ite_max (a b : Int) : (if a < b then b else a) = max a b := by
  simp only [Int.max_def]; split <;> split <;> omega
end Go.Am
