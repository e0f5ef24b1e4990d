/- Forks, loops and slices for the walk. -/
import Derived.Test.YtlljiccilldnaaaAm14
set_option linter.unusedVariables false
set_option linter.unusedSimpArgs false
namespace Go.Am
open Go
section
variable {P : Program} {ops : Array Oper} {o : Oper} {l : List Oper} {E : Env} {H : Heap} {K : Env → Heap → Prop} {Q : Exit → Env → Heap → Prop} {k : Value → Heap → Prop} {v : Value}

@[go_sem] theorem int_beq (a b : Int) : (a == b) = decide (a = b) := by
  by_cases h : a = b <;> simp [h]
@[go_sem] theorem int_bne (a b : Int) : (a != b) = decide (¬ a = b) := by
  by_cases h : a = b <;> simp [h]

theorem Br.forkD {c : Prop} [Decidable c] {a b : Code} (h1 : c → xC P a E H Q) (h2 : ¬ c → xC P b E H Q) : Br (.bool (decide c)) P a b E H Q :=
  Br.fork (fun h => h1 (by simpa using h)) (fun h => h2 (by simpa using h))
theorem Br.forkN {c : Prop} [Decidable c] {a b : Code} (h1 : ¬ c → xC P a E H Q) (h2 : c → xC P b E H Q) : Br (.bool (!decide c)) P a b E H Q :=
  Br.fork (fun h => h1 (by simpa using h)) (fun h => h2 (by simpa using h))
theorem Gd.forkD {c : Prop} [Decidable c] (h1 : c → xOp P o.op E.ev H (OpsK P ops l E o.dst K)) (h2 : ¬ c → xOps P ops l (E.putO o.dst undef) H K) : Gd (some (decide c)) P ops o l E H K :=
  Gd.fork (fun h => h1 (by simpa using h)) (fun h => h2 (by simpa using h))
theorem Gd.forkN {c : Prop} [Decidable c] (h1 : ¬ c → xOp P o.op E.ev H (OpsK P ops l E o.dst K)) (h2 : c → xOps P ops l (E.putO o.dst undef) H K) : Gd (some (!decide c)) P ops o l E H K :=
  Gd.fork (fun h => h1 (by simpa using h)) (fun h => h2 (by simpa using h))

/-! ### Loops -/
def LoopK {σ : Type} (n : Nat) (env : σ → List (Nat × Value)) (heap : σ → Heap) (I : σ → Prop) (m : σ → Nat) (s : σ) (Q : Exit → Env → Heap → Prop) : Exit → Env → Heap → Prop :=
  thenC (fun E' H' => E'.n = n ∧ ∃ s', m s' < m s ∧ (∀ p ∈ env s', E'.f p.1 = p.2) ∧ H' = heap s' ∧ I s') Q
section
variable {σ : Type} {n : Nat} {env : σ → List (Nat × Value)} {heap : σ → Heap} {I : σ → Prop} {m : σ → Nat} {s : σ}
@[go_sem] theorem loopK_exit {i : Nat} : LoopK n env heap I m s Q (.exit i) E H = Q (.exit i) E H := by simp only [LoopK, thenC]
@[go_sem] theorem loopK_ret : LoopK n env heap I m s Q .ret E H = Q .ret E H := by simp only [LoopK, thenC]
theorem loopK_next (s' : σ) (hI : I s') (hm : m s' < m s) (hH : H = heap s') (hn : E.n = n) (he : ∀ p ∈ env s', E.f p.1 = p.2) : LoopK n env heap I m s Q .normal E H := ⟨hn, s', hm, he, hH, hI⟩
end
theorem Wc.loopw {c : Code} {σ : Type} (n : Nat) (env : σ → List (Nat × Value)) (heap : σ → Heap) (I : σ → Prop) (m : σ → Nat) (s0 : σ)
    (hI : I s0) (hn : E.n = n) (hH : H = heap s0) (h0 : ∀ p ∈ env s0, E.f p.1 = p.2)
    (round : ∀ s, I s → xC P c (Env.of n (env s)) (heap s) (LoopK n env heap I m s Q)) : Wc P (.loop c) E H Q :=
  Wc.loopv n env heap I m s0 hn h0 hH hI round

/-! ### Slices -/
def Sl {α : Type} (R : Heap → α → List Value → Prop) (sz : Nat) (H : Heap) (s : Value) (xs : List α) : Prop :=
  ∃ a c, s = .slice a xs.length c ∧ xs.length ≤ c ∧ (a = none → c = 0) ∧ ∀ ad, a = some ad → ad.spot = none ∧ ad.block < H.length ∧ okShare H ad.block sz = true ∧
    ∀ i x, xs[i]? = some x → ∃ cells, rdBlk H ad.block (ad.off + i * sz) sz = some cells ∧ R H x cells

def RInt (H : Heap) (x : Int) (cells : List Value) : Prop := cells = [.int .i64 x]
theorem RInt.mono : Mono RInt := fun _ _ _ _ h => h

theorem okShare_app {X : Heap} {b sz : Nat} (h : b < H.length) : okShare (H ++ X) b sz = okShare H b sz := by
  unfold okShare; rw [List.getElem?_append_left h]

theorem Sl.mono {α : Type} {R : Heap → α → List Value → Prop} {sz : Nat} (hm : Mono R) {s : Value} {xs : List α} (h : Sl R sz H s xs) (X : Heap) : Sl R sz (H ++ X) s xs := by
  obtain ⟨a, c, e, hc, hn, hs⟩ := h
  refine ⟨a, c, e, hc, hn, fun ad ha => ?_⟩
  obtain ⟨h1, h2, h3, h4⟩ := hs ad ha
  refine ⟨h1, by simp; omega, by rw [okShare_app h2]; exact h3, fun i x hx => ?_⟩
  obtain ⟨cells, h5, h6⟩ := h4 i x hx
  exact ⟨cells, by rw [rdBlk_app _ _ _ _ _ h2]; exact h5, hm _ _ _ _ h6⟩

theorem Sl.new {α : Type} {R : Heap → α → List Value → Prop} {sz : Nat} (hm : Mono R) {s : Value} {xs : List α} (h : Sl R sz H s xs) (cells : List Value) : Sl R sz (newBlk H cells) s xs := h.mono hm _

/-- The element at a place. -/
theorem Sl.get {α : Type} {R : Heap → α → List Value → Prop} {sz : Nat} {a : Option Addr} {n c : Nat} {xs : List α} (h : Sl R sz H (.slice a n c) xs) {i : Nat} (hi : i < xs.length) :
    ∃ b off cells, a = some ⟨b, off, none⟩ ∧ b < H.length ∧ n = xs.length ∧ rdBlk H b (off + i * sz) sz = some cells ∧ R H xs[i] cells := by
  obtain ⟨a', c', e, hc, hn, hs⟩ := h
  cases e
  cases a with
  | none => have := hn rfl; omega
  | some ad =>
    obtain ⟨b, off, sp⟩ := ad
    obtain ⟨h1, h2, h3, h4⟩ := hs _ rfl
    simp only at h1
    subst h1
    obtain ⟨cells, h5, h6⟩ := h4 i _ (List.getElem?_eq_getElem hi)
    exact ⟨b, off, cells, rfl, h2, rfl, h5, h6⟩

theorem Sl.len {α : Type} {R : Heap → α → List Value → Prop} {sz : Nat} {a : Option Addr} {n c : Nat} {xs : List α} (h : Sl R sz H (.slice a n c) xs) : n = xs.length := by
  obtain ⟨a', c', e, _⟩ := h
  cases e; rfl
theorem Sl.shape {α : Type} {R : Heap → α → List Value → Prop} {sz : Nat} {s : Value} {xs : List α} (h : Sl R sz H s xs) : ∃ a c, s = .slice a xs.length c := by
  obtain ⟨a', c', e, _⟩ := h
  exact ⟨_, _, e⟩

theorem Sl.take {α : Type} {R : Heap → α → List Value → Prop} {sz : Nat} {a : Option Addr} {n c : Nat} {xs : List α} (h : Sl R sz H (.slice a n c) xs) (j : Nat) (hj : j ≤ xs.length) : Sl R sz H (.slice a j c) (xs.take j) := by
  obtain ⟨a', c', e, hc, hn, hs⟩ := h
  cases e
  refine ⟨a, c, by simp [Nat.min_eq_left hj], by simp; omega, hn, fun ad ha => ?_⟩
  obtain ⟨h1, h2, h3, h4⟩ := hs ad ha
  refine ⟨h1, h2, h3, fun i x hx => h4 i x ?_⟩
  rw [List.getElem?_take] at hx
  split at hx
  · exact hx
  · cases hx

theorem Sl.aSlice {α : Type} {R : Heap → α → List Value → Prop} {sz : Nat} {a : Option Addr} {n c : Nat} {xs : List α} (h : Sl R sz H (.slice a n c) xs) {t e : TypeId} {q : TypeInfo} (ht : P.underlying t = some (.slice e)) (hq : P.info? e = some q) (hs : q.size = sz)
    {j : Int} (h0 : 0 ≤ j) (hj : j ≤ xs.length) : Am.aSlice P H t (.slice a n c) none (some (.int .i64 j)) none = some (.slice a j.toNat c) := by
  obtain ⟨a', c', e', hc, hn, hs'⟩ := h
  cases e'
  have hb : 0 ≤ j ∧ j ≤ (c : Int) := ⟨h0, by omega⟩
  cases a with
  | none =>
    have := hn rfl
    subst this
    have : j = 0 := by omega
    subst this
    simp [Am.aSlice, ht, hq, aBound]
  | some ad =>
    obtain ⟨b, off, sp⟩ := ad
    obtain ⟨h1, h2, h3, h4⟩ := hs' _ rfl
    simp only at h1
    subst h1
    have : j.toNat ≤ c := by omega
    simp [Am.aSlice, ht, hq, aBound, hb, hs, h3, this]

theorem Sl.ofR {α : Type} {R : Heap → α → List Value → Prop} {sz : Nat} {s : Value} {xs : List α} (h : RSlice R sz H xs s) : Sl R sz H s xs := by
  rcases h with ⟨rfl, rfl⟩ | ⟨b, rfl, rfl, k, hb, hk⟩ | ⟨b, cap, cells, rfl, h2, h3, h4, h5, h6, h7⟩
  · exact ⟨none, 0, rfl, Nat.le_refl _, fun _ => rfl, fun ad h => (by cases h)⟩
  · exact ⟨_, 0, rfl, Nat.le_refl _, fun h => (by cases h), fun ad h => (by cases h; exact ⟨rfl, (List.getElem?_eq_some_iff.1 hb).1, by simp [okShare, hb, hk], fun i x hx => by simp at hx⟩)⟩
  · refine ⟨_, cap, rfl, h2, fun h => (by cases h), fun ad h => ?_⟩
    cases h
    refine ⟨rfl, (List.getElem?_eq_some_iff.1 h5).1, by simp [okShare, h5], fun i x hx => ⟨_, ?_, h7 i x hx⟩⟩
    have hi := (List.getElem?_eq_some_iff.1 hx).1
    have : (i + 1) * sz ≤ cap * sz := Nat.mul_le_mul_right _ (by omega)
    rw [Nat.succ_mul] at this
    simp only [rdBlk, h5, Nat.zero_add]
    rw [if_pos ⟨by simp, by omega⟩]

theorem wrBlk_app (H X : Heap) (b off : Nat) (vs : List Value) (h : b < H.length) : wrBlk (H ++ X) b off vs = (wrBlk H b off vs).map (· ++ X) := by
  unfold wrBlk
  rw [List.getElem?_append_left h]
  cases hk : H[b]? with
  | none => rfl
  | some k =>
    simp only
    split
    · simp [h, List.set_append]
    · rfl
end
end Go.Am
