/- Next hops: what is wrong with a list of them. -/
import Derived.Test.YtlljiccilldnaaaFxWays
import Derived.Test.YtlljiccilldnaaaAd12
set_option linter.unusedVariables false
set_option linter.unusedSimpArgs false
set_option maxRecDepth 10000
set_option maxHeartbeats 1000000
namespace Go.Proofs.Ytlljiccilldnaaa.Wf
open Go Go.Am
open Go.Proofs.Ytlljiccilldnaaa.Fx
open Go.Proofs.Ytlljiccilldnaaa.Ba (wrap_small wrap_succ)
open Go.Proofs.Ytlljiccilldnaaa.Ad (KB KI)
variable {H : Heap} {K : Value → Heap → Prop}

/-- A next hop: port and address. -/
abbrev Nx := Int × Int
def RNx (H : Heap) (x : Nx) (cells : List Value) : Prop := cells = [.int .i64 x.1, .int .u32 x.2]
theorem RNx.monoL : MonoL RNx := fun _ _ _ _ _ h => h
theorem RNx.mono : Mono RNx := RNx.monoL.mono
/-- A flow. -/
structure Flow where
  src : Int
  dst : Int
  proto : Int
  sp : Int
  dp : Int
deriving DecidableEq
def flC (f : Flow) : List Value := [.int .u32 f.src, .int .u32 f.dst, .int .i64 f.proto, .int .i64 f.sp, .int .i64 f.dp]
def flV (f : Flow) : Value := .agg (flC f).toArray

def nbad (x : Nx) : Bool := decide (x.1 < 0 ∨ 8 ≤ x.1)
/-- 'wrong$1'. -/
theorem nbad_spec {x : Nx} (hk : ∀ H', Ext H H' → K (.bool (nbad x)) H') : Wcall Try.prog 89 #[.agg #[.int .i64 x.1, .int .u32 x.2]] H K := by
  refine call_body (rs := #[.tmp 2]) Try.func89 rfl Try.ntmps89 rfl rfl (by simp) ?_
  by_cases h : x.1 < 0
  · simp [go_sem, h]
    exact KB (hk _ (by simp [go_sem])) (by simp [nbad, h])
  · simp [go_sem, h]
    exact KB (hk _ (by simp [go_sem])) (by simp [nbad, h])

/-- 'slices.IndexFunc'. -/
theorem idxF_spec {s : Value} {xs : List Nx} (hs : Sl RNx 2 H s xs) (hl : xs.length < 1000000) (hk : ∀ H' v, Ext H H' → (0 ≤ v ↔ ∃ x ∈ xs, nbad x = true) → K (.int .i64 v) H') : Wcall Try.prog 112 #[s, .func (.func 89) #[] #[]] H K := by
  obtain ⟨as_, c, rfl⟩ := hs.shape
  refine call_body (rs := #[.tmp 4]) Try.func112 rfl Try.ntmps112 rfl rfl (by simp) ?_
  simp [go_sem]
  refine Wc.loopw 19 (fun i : Nat × Heap => [(0, .slice as_ xs.length c), (1, .func (.func 89) #[] #[]), (6, .slice as_ xs.length c), (7, .int .i64 xs.length), (8, .int .i64 i.1)]) (fun i => i.2)
    (fun i => i.1 ≤ xs.length ∧ Ext H i.2 ∧ ∀ j (h : j < xs.length), j < i.1 → nbad xs[j] = false) (fun i => xs.length - i.1) (0, _)
    ⟨Nat.zero_le _, Ext.refl _, fun _ _ h => absurd h (by simp)⟩ (by simp [go_sem]) rfl (by simp [go_sem]) ?_
  rintro ⟨i, H1⟩ ⟨hi, he, hno⟩
  simp only at hi he hno
  simp [go_sem]
  refine Br.forkD (fun h => ?_) (fun h => ?_)
  · obtain ⟨bb, off, cells, rfl, hb, _, hr, hc⟩ := (hs.ext RNx.mono he).get h
    unfold RNx at hc
    subst hc
    simp [go_sem, hr, h]
    refine nbad_spec fun H2 e2 => ?_
    cases hn : nbad xs[i] with
    | true =>
      simp [go_sem]
      exact hk _ _ (he.trans e2) ⟨fun _ => ⟨_, List.getElem_mem h, hn⟩, fun _ => by omega⟩
    | false =>
      simp [go_sem]
      refine loopK_next (i + 1, H2) ⟨by simp only; omega, he.trans e2, fun j hj hji => ?_⟩ (by simp only; omega) rfl (by simp [go_sem]) (by simp [go_sem, wrap_succ (i := i) (by omega)])
      by_cases e : j = i
      · subst e; exact hn
      · exact hno j hj (by simp only at hji; omega)
  · simp [go_sem]
    refine hk _ _ he ⟨fun h => absurd h (by omega), fun ⟨x, hx, hb⟩ => ?_⟩
    obtain ⟨j, hj, rfl⟩ := List.getElem_of_mem hx
    rw [hno j hj (by omega)] at hb; cases hb

/-- 'slices.ContainsFunc'. -/
theorem hasF_spec {s : Value} {xs : List Nx} (hs : Sl RNx 2 H s xs) (hl : xs.length < 1000000) (hk : ∀ H', Ext H H' → K (.bool (decide (∃ x ∈ xs, nbad x = true))) H') : Wcall Try.prog 88 #[s, .func (.func 89) #[] #[]] H K := by
  obtain ⟨as_, c, rfl⟩ := hs.shape
  refine call_body (rs := #[.tmp 4]) Try.func88 rfl Try.ntmps88 rfl rfl (by simp) ?_
  simp [go_sem]
  refine idxF_spec hs hl fun H1 v e1 hv => ?_
  simp [go_sem]
  exact KB (hk _ e1) (by rw [decide_eq_decide]; simpa using hv.symm)

/-- 'slices.Index'. -/
theorem idx_spec {s : Value} {xs : List Nx} {x : Nx} (hs : Sl RNx 2 H s xs) (hl : xs.length < 1000000) (hk : ∀ H' v, Ext H H' → (0 ≤ v ↔ x ∈ xs) → K (.int .i64 v) H') : Wcall Try.prog 113 #[s, .agg #[.int .i64 x.1, .int .u32 x.2]] H K := by
  obtain ⟨as_, c, rfl⟩ := hs.shape
  refine call_body (rs := #[.tmp 4]) Try.func113 rfl Try.ntmps113 rfl rfl (by simp) ?_
  simp [go_sem]
  refine Wc.loopw 19 (fun i : Nat × Heap => [(0, .slice as_ xs.length c), (3, .pointer (some ⟨H.length, 0, none⟩)), (6, .slice as_ xs.length c), (7, .int .i64 xs.length), (8, .int .i64 i.1)]) (fun i => i.2)
    (fun i => i.1 ≤ xs.length ∧ Ext (newBlk H [.int .i64 x.1, .int .u32 x.2]) i.2 ∧ ∀ j (h : j < xs.length), j < i.1 → x ≠ xs[j]) (fun i => xs.length - i.1) (0, _)
    ⟨Nat.zero_le _, Ext.refl _, fun _ _ h => absurd h (by simp)⟩ (by simp [go_sem]) rfl (by simp [go_sem]) ?_
  rintro ⟨i, H1⟩ ⟨hi, he, hno⟩
  simp only at hi he hno
  have he' : Ext H H1 := Ext.trans (by simp [go_sem]) he
  simp [go_sem]
  refine Br.forkD (fun h => ?_) (fun h => ?_)
  · obtain ⟨bb, off, cells, rfl, hb, _, hr, hc⟩ := (hs.ext RNx.mono he').get h
    unfold RNx at hc
    subst hc
    have rx : rdBlk H1 H.length 0 2 = some [.int .i64 x.1, .int .u32 x.2] := he.rd (by simp [go_sem])
    have lx := rdBlk_lt rx
    simp [go_sem]
    refine Wc.drawn mixed (by kernel_rfl) ?_
    simp [go_sem, hr, h, rx, lx]
    have nxt : x ≠ xs[i] → (fun i : Nat × Heap => i.1 ≤ xs.length ∧ Ext (newBlk H [.int .i64 x.1, .int .u32 x.2]) i.2 ∧ ∀ j (h : j < xs.length), j < i.1 → x ≠ xs[j]) (i + 1, H1) := fun hn => ⟨by simp only; omega, he, fun j hj hji => by
      by_cases e : j = i
      · subst e; exact hn
      · exact hno j hj (by simp only at hji; omega)⟩
    cases q1 : decide (x.1 = xs[i].1) with
    | false =>
      simp [go_sem]
      exact loopK_next (i + 1, H1) (nxt fun e => by rw [e] at q1; simp at q1) (by simp only; omega) rfl (by simp [go_sem]) (by simp [go_sem, wrap_succ (i := i) (by omega)])
    | true =>
      cases q2 : decide (x.2 = xs[i].2) with
      | false =>
        simp [go_sem]
        exact loopK_next (i + 1, H1) (nxt fun e => by rw [e] at q2; simp at q2) (by simp only; omega) rfl (by simp [go_sem]) (by simp [go_sem, wrap_succ (i := i) (by omega)])
      | true =>
        simp [go_sem]
        simp at q1 q2
        exact hk _ _ he' ⟨fun _ => by rw [show x = xs[i] from Prod.ext q1 q2]; exact List.getElem_mem h, fun _ => by omega⟩
  · simp [go_sem]
    refine hk _ _ he' ⟨fun h => absurd h (by omega), fun hx => ?_⟩
    obtain ⟨j, hj, e⟩ := List.getElem_of_mem hx
    exact absurd e.symm (hno j hj (by omega))

/-- 'slices.Contains'. -/
theorem has_spec {s : Value} {xs : List Nx} {x : Nx} (hs : Sl RNx 2 H s xs) (hl : xs.length < 1000000) (hk : ∀ H', Ext H H' → K (.bool (decide (x ∈ xs))) H') : Wcall Try.prog 90 #[s, .agg #[.int .i64 x.1, .int .u32 x.2]] H K := by
  obtain ⟨as_, c, rfl⟩ := hs.shape
  refine call_body (rs := #[.tmp 4]) Try.func90 rfl Try.ntmps90 rfl rfl (by simp) ?_
  simp [go_sem]
  refine idx_spec (x := x) (hs.ext RNx.mono (by simp [go_sem])) hl fun H1 v e1 hv => ?_
  simp [go_sem]
  exact KB (hk _ (Ext.trans (by simp [go_sem]) e1)) (by rw [decide_eq_decide]; exact hv.symm)
end Go.Proofs.Ytlljiccilldnaaa.Wf
