/- What a domain is to another, by the reference. -/
import Derived.Test.YthifgakeababmaaBa4
set_option linter.unusedVariables false
set_option linter.unusedSimpArgs false
set_option maxRecDepth 10000
namespace Go.Proofs.Ythifgakeababmaa.Ba
open Go Go.Am
open Go.Proofs.Ythifgakeababmaa.Fx
variable {H : Heap} {K : Value → Heap → Prop}

theorem some_spec {a : Option Addr} {m c : Nat} {ls : List Ln} (hs : Sl RLn 5 H (.slice a m c) ls) (hk : K (.slice a (min ls.length 6) c) H) : Wcall Try.prog 31 #[.slice a m c, .int .i64 6] H K := by
  have := hs.len
  subst this
  refine call_body (rs := #[.tmp 4]) Try.func31 rfl Try.ntmps31 rfl rfl (by simp) ?_
  simp [go_sem]
  rw [hs.aSlice u55 i60 s60 (by omega) (by omega)]
  simp [go_sem]
  rw [show (min (ls.length : Int) 6).toNat = min ls.length 6 by omega]
  exact hk

def kStep (u v : Int) (p : Int × Int) (x : Ln) : Int × Int :=
  let p1 := if x.a = u ∧ x.b = v then (x.k, x.pa) else p
  if x.a = v ∧ x.b = u then (4 - x.k, x.pb) else p1
def kRaw (ls : List Ln) (u v : Int) : Int × Int := ls.foldl (kStep u v) (0, 0)
def usualOf (k : Int) : Int := if k = 0 then 0 else 400 - 100 * k
def kPref (ls : List Ln) (u v : Int) : Int := if (kRaw ls u v).2 = 0 then usualOf (kRaw ls u v).1 else (kRaw ls u v).2
def kKind (ls : List Ln) (u v : Int) : Int := (kRaw ls u v).1

theorem kRaw_succ {ls : List Ln} {u v : Int} {i : Nat} (h : i < ls.length) : kRaw (ls.take (i + 1)) u v = kStep u v (kRaw (ls.take i) u v) ls[i] := by
  unfold kRaw
  rw [List.take_succ_eq_append_getElem h, List.foldl_append]
  rfl

theorem kRaw_range {u v : Int} : ∀ {ls : List Ln}, (∀ x ∈ ls, 1 ≤ x.k ∧ x.k ≤ 3) → ∀ p : Int × Int, 0 ≤ p.1 ∧ p.1 ≤ 3 → 0 ≤ (ls.foldl (kStep u v) p).1 ∧ (ls.foldl (kStep u v) p).1 ≤ 3
  | [], _, p, hp => hp
  | x :: ls, h, p, hp => by
    rw [List.foldl_cons]
    refine kRaw_range (fun y hy => h y (List.mem_cons_of_mem _ hy)) _ ?_
    have := h x (List.mem_cons_self ..)
    unfold kStep
    split <;> (try split) <;> simp <;> omega

theorem kind_range {ls : List Ln} {u v : Int} (h : ∀ x ∈ ls, 1 ≤ x.k ∧ x.k ≤ 3) : 0 ≤ kKind ls u v ∧ kKind ls u v ≤ 3 := kRaw_range h _ ⟨by simp, by simp⟩

theorem kind_spec {n u v : Int} {s : Value} {ls : List Ln} (hs : Sl RLn 5 H s ls) (hl : ls.length < 1000000) (hv : ∀ x ∈ ls, 1 ≤ x.k ∧ x.k ≤ 3) (hk : ∀ H', Ext H H' → K (.tuple #[.int .i64 (kKind ls u v), .int .i64 (kPref ls u v)]) H') :
    Wcall Try.prog 90 #[netV n s, .int .i64 u, .int .i64 v] H K := by
  obtain ⟨a, c, rfl⟩ := hs.shape
  refine call_body (rs := #[.tmp 6, .tmp 7]) Try.func90 rfl Try.ntmps90 rfl rfl (by simp) ?_
  simp [go_sem, netV]
  refine Wc.loopw 57 (fun i : Nat × Heap => [(1, .int .i64 u), (2, .int .i64 v), (8, .int .i64 (kRaw (ls.take i.1) u v).1), (9, .int .i64 (kRaw (ls.take i.1) u v).2), (13, .slice a ls.length c), (14, .int .i64 ls.length), (15, .int .i64 i.1)]) (fun i => i.2)
    (fun i => i.1 ≤ ls.length ∧ Ext H i.2) (fun i => ls.length - i.1) (0, _) ⟨Nat.zero_le _, by simp [go_sem]⟩ (by simp [go_sem]) rfl (by simp [go_sem, kRaw]) ?_
  rintro ⟨i, H1⟩ ⟨hi, he⟩
  simp only at hi he
  have hs1 := hs.ext RLn.mono he
  simp [go_sem]
  refine Br.forkD (fun h => ?_) (fun h => ?_)
  · obtain ⟨b, off, cells, rfl, hb, _, hr, hc⟩ := hs1.get h
    unfold RLn Ln.cells at hc
    obtain ⟨x, hx⟩ : ∃ x, ls[i] = x := ⟨_, rfl⟩
    have hkx : 1 ≤ x.k ∧ x.k ≤ 3 := hv x (by rw [← hx]; exact List.getElem_mem h)
    have hsucc := kRaw_succ (u := u) (v := v) h
    rw [hx] at hc hsucc
    subst hc
    have hw : IntKind.i64.wrap (4 - x.k) = 4 - x.k := wrap_small (by omega) (by omega)
    simp [go_sem, hr, h]
    refine Gd.fork (fun g1 => ?_) (fun g1 => ?_)
    · simp [go_sem, hr, h, g1]
      refine Br.fork (fun g2 => ?_) (fun g2 => ?_)
      · simp [go_sem, hr, h, g1, g2]
        refine Wc.drawn mixed (by kernel_rfl) ?_
        simp [go_sem, hr, h, g1, g2]
        refine Gd.fork (fun q1 => ?_) (fun q1 => ?_)
        · simp [go_sem, hr, h, g1, g2, q1]
          refine Br.fork (fun q2 => ?_) (fun q2 => ?_)
          · simp [go_sem, hr, h, g1, g2, q1, q2]
            refine Wc.drawn mixed (by kernel_rfl) ?_
            simp [go_sem, hr, h, g1, g2, q1, q2, hw]
            refine loopK_next (i + 1, _) ⟨by simp only; omega, by simp [go_sem, he]⟩ (by simp only; omega) rfl (by simp [go_sem]) ?_
            simp [go_sem, hsucc, wrap_succ (i := i) (by omega)]
            simp only [decide_eq_true_eq, decide_eq_false_iff_not] at *
            grind [kStep]
          · simp [go_sem, hr, h, g1, g2, q1, q2, hw]
            refine loopK_next (i + 1, _) ⟨by simp only; omega, by simp [go_sem, he]⟩ (by simp only; omega) rfl (by simp [go_sem]) ?_
            simp [go_sem, hsucc, wrap_succ (i := i) (by omega)]
            simp only [decide_eq_true_eq, decide_eq_false_iff_not] at *
            grind [kStep]
        · simp [go_sem, hr, h, g1, g2, q1, hw]
          refine loopK_next (i + 1, _) ⟨by simp only; omega, by simp [go_sem, he]⟩ (by simp only; omega) rfl (by simp [go_sem]) ?_
          simp [go_sem, hsucc, wrap_succ (i := i) (by omega)]
          simp only [decide_eq_true_eq, decide_eq_false_iff_not] at *
          grind [kStep]
      · simp [go_sem, hr, h, g1, g2]
        refine Gd.fork (fun q1 => ?_) (fun q1 => ?_)
        · simp [go_sem, hr, h, g1, g2, q1]
          refine Br.fork (fun q2 => ?_) (fun q2 => ?_)
          · simp [go_sem, hr, h, g1, g2, q1, q2]
            refine Wc.drawn mixed (by kernel_rfl) ?_
            simp [go_sem, hr, h, g1, g2, q1, q2, hw]
            refine loopK_next (i + 1, _) ⟨by simp only; omega, by simp [go_sem, he]⟩ (by simp only; omega) rfl (by simp [go_sem]) ?_
            simp [go_sem, hsucc, wrap_succ (i := i) (by omega)]
            simp only [decide_eq_true_eq, decide_eq_false_iff_not] at *
            grind [kStep]
          · simp [go_sem, hr, h, g1, g2, q1, q2, hw]
            refine loopK_next (i + 1, _) ⟨by simp only; omega, by simp [go_sem, he]⟩ (by simp only; omega) rfl (by simp [go_sem]) ?_
            simp [go_sem, hsucc, wrap_succ (i := i) (by omega)]
            simp only [decide_eq_true_eq, decide_eq_false_iff_not] at *
            grind [kStep]
        · simp [go_sem, hr, h, g1, g2, q1, hw]
          refine loopK_next (i + 1, _) ⟨by simp only; omega, by simp [go_sem, he]⟩ (by simp only; omega) rfl (by simp [go_sem]) ?_
          simp [go_sem, hsucc, wrap_succ (i := i) (by omega)]
          simp only [decide_eq_true_eq, decide_eq_false_iff_not] at *
          grind [kStep]
    · simp [go_sem, hr, h, g1]
      refine Gd.fork (fun q1 => ?_) (fun q1 => ?_)
      · simp [go_sem, hr, h, g1, q1]
        refine Br.fork (fun q2 => ?_) (fun q2 => ?_)
        · simp [go_sem, hr, h, g1, q1, q2]
          refine Wc.drawn mixed (by kernel_rfl) ?_
          simp [go_sem, hr, h, g1, q1, q2, hw]
          refine loopK_next (i + 1, _) ⟨by simp only; omega, by simp [go_sem, he]⟩ (by simp only; omega) rfl (by simp [go_sem]) ?_
          simp [go_sem, hsucc, wrap_succ (i := i) (by omega)]
          simp only [decide_eq_true_eq, decide_eq_false_iff_not] at *
          grind [kStep]
        · simp [go_sem, hr, h, g1, q1, q2, hw]
          refine loopK_next (i + 1, _) ⟨by simp only; omega, by simp [go_sem, he]⟩ (by simp only; omega) rfl (by simp [go_sem]) ?_
          simp [go_sem, hsucc, wrap_succ (i := i) (by omega)]
          simp only [decide_eq_true_eq, decide_eq_false_iff_not] at *
          grind [kStep]
      · simp [go_sem, hr, h, g1, q1, hw]
        refine loopK_next (i + 1, _) ⟨by simp only; omega, by simp [go_sem, he]⟩ (by simp only; omega) rfl (by simp [go_sem]) ?_
        simp [go_sem, hsucc, wrap_succ (i := i) (by omega)]
        simp only [decide_eq_true_eq, decide_eq_false_iff_not] at *
        grind [kStep]
  · have hii : i = ls.length := by omega
    subst hii
    simp [go_sem]
    have hr0 := kind_range (u := u) (v := v) hv
    unfold kKind at hr0
    refine Br.forkD (fun h2 => ?_) (fun h2 => ?_)
    · have h4 : (kRaw ls u v).1 = 0 ∨ (kRaw ls u v).1 = 1 ∨ (kRaw ls u v).1 = 2 ∨ (kRaw ls u v).1 = 3 := by omega
      have hf : kPref ls u v = usualOf (kRaw ls u v).1 := by simp [kPref, h2]
      have hkk := hk (newBlk H1 [.int .i64 0, .int .i64 300, .int .i64 200, .int .i64 100]) (by simp [go_sem, he])
      rw [hf] at hkk
      unfold kKind at hkk
      rcases h4 with h4 | h4 | h4 | h4 <;> simp [go_sem, h2, h4] <;> rw [h4] at hkk <;> exact hkk
    · simp [go_sem, h2]
      have hkk := hk H1 he
      simpa [kKind, kPref, h2] using hkk
end Go.Proofs.Ythifgakeababmaa.Ba
