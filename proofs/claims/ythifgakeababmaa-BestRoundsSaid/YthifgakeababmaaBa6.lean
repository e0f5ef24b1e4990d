/- The table of ties. -/
import Derived.Test.YthifgakeababmaaBa5
import Derived.Test.YthifgakeababmaaAm17
set_option linter.unusedVariables false
set_option linter.unusedSimpArgs false
set_option maxRecDepth 10000
namespace Go.Proofs.Ythifgakeababmaa.Ba
open Go Go.Am
open Go.Proofs.Ythifgakeababmaa.Fx
variable {H : Heap} {K : Value → Heap → Prop}

def put2 (T : List Int) (o : Nat) (k p : Int) : List Int := T.take o ++ [k, p] ++ T.drop (o + 2)
def tStep (T : List Int) (x : Ln) : List Int :=
  put2 (put2 T (x.a.toNat * 32 + x.b.toNat * 2) x.k (orOf x.pa (400 - 100 * x.k))) (x.b.toNat * 32 + x.a.toNat * 2) (4 - x.k) (orOf x.pb (400 - 100 * (4 - x.k)))
def zeroT : List Int := List.replicate 512 0
theorem zeroT_len : zeroT.length = 512 := by kernel_rfl
def tab (ls : List Ln) : List Int := ls.foldl tStep zeroT
def ints (T : List Int) : List Value := T.map (Value.int .i64)

theorem ints_zeroT : ints zeroT = zs146 := by kernel_rfl

theorem put2_len {T : List Int} {o : Nat} {k p : Int} (h : o + 2 ≤ T.length) : (put2 T o k p).length = T.length := by simp [put2]; omega
theorem tab_succ {ls : List Ln} {i : Nat} (h : i < ls.length) : tab (ls.take (i + 1)) = tStep (tab (ls.take i)) ls[i] := by
  unfold tab
  rw [List.take_succ_eq_append_getElem h, List.foldl_append]
  rfl

def inTab (x : Ln) : Prop := 0 ≤ x.a ∧ x.a < 16 ∧ 0 ≤ x.b ∧ x.b < 16 ∧ 1 ≤ x.k ∧ x.k ≤ 3

theorem tStep_len {T : List Int} {x : Ln} (hx : inTab x) (h : T.length = 512) : (tStep T x).length = 512 := by
  unfold inTab at hx
  have e1 := put2_len (T := T) (o := x.a.toNat * 32 + x.b.toNat * 2) (k := x.k) (p := orOf x.pa (400 - 100 * x.k)) (by omega)
  unfold tStep
  rw [put2_len (by omega), e1, h]

theorem tab_len : ∀ {ls : List Ln}, (∀ x ∈ ls, inTab x) → (tab ls).length = 512 := by
  intro ls h
  have : ∀ (l : List Ln) (T : List Int), (∀ x ∈ l, inTab x) → T.length = 512 → (l.foldl tStep T).length = 512 := by
    intro l
    induction l with
    | nil => intro T _ hT; exact hT
    | cons x l ih => intro T hl hT; exact ih _ (fun y hy => hl y (List.mem_cons_of_mem _ hy)) (tStep_len (hl x (List.mem_cons_self ..)) hT)
  exact this ls _ h zeroT_len

theorem tabWr {H : Heap} {b : Nat} {T : List Int} {off : Nat} {k p : Int} (h : H[b]? = some ⟨ints T, 0, true, .live⟩) (hl : off + 2 ≤ T.length) : wrBlk H b off [.int .i64 k, .int .i64 p] = some (H.set b ⟨ints (put2 T off k p), 0, true, .live⟩) := by
  unfold wrBlk
  simp only [h]
  rw [if_pos (by simp [ints]; omega)]
  simp [ints, put2]

theorem ext_set {H H' : Heap} {b : Nat} {k : Blk} (h : Ext H H') (hb : H.length ≤ b) : Ext H (H'.set b k) := by
  obtain ⟨X, rfl⟩ := h
  exact ⟨X.set (b - H.length) k, by rw [List.set_append_right _ _ hb]⟩

theorem okShare_new {H : Heap} {l : List Value} {b sz : Nat} (h : b = H.length) : okShare (newBlk H l) b sz = true := by
  subst h; simp [okShare, newBlk]

theorem sl_ints (H : Heap) (xs : List Int) {b : Nat} (h : b = H.length) : Sl RInt 1 (newBlk H (ints xs)) (.slice (some ⟨b, 0, none⟩) xs.length xs.length) xs := by
  refine ⟨_, _, rfl, Nat.le_refl _, fun h => (by cases h), fun ad ha => ?_⟩
  cases ha
  refine ⟨rfl, by simp [newBlk_length, h], okShare_new h, fun i x hx => ⟨_, ?_, rfl⟩⟩
  obtain ⟨hi, rfl⟩ := List.getElem?_eq_some_iff.1 hx
  rw [rdBlk_new _ _ _ _ _ h, if_pos (by simp [ints]; omega)]
  rw [Nat.zero_add, Nat.mul_one, ints, ← List.map_drop, List.drop_eq_getElem_cons hi]
  rfl

theorem keep_set2 {H : Heap} {b s0 : Nat} {k : Blk} {l1 l2 : List Value} (h : b ≠ s0) : Keep s0 (newBlk (newBlk H l1) l2) (newBlk (newBlk (H.set b k) l1) l2) := by
  intro _
  simp [newBlk, List.getElem?_append, List.getElem?_set_ne h]
theorem keep_set3 {H : Heap} {b s0 : Nat} {k : Blk} {l1 l2 l3 : List Value} (h : b ≠ s0) : Keep s0 (newBlk (newBlk (newBlk H l1) l2) l3) (newBlk (newBlk (newBlk (H.set b k) l1) l2) l3) := by
  intro _
  simp [newBlk, List.getElem?_append, List.getElem?_set_ne h]

theorem ties_spec {n : Int} {s : Value} {ls : List Ln} (hs : Sl RLn 5 H s ls) (hl : ls.length < 1000000) (hv : ∀ x ∈ ls, inTab x) (hk : ∀ H', Ext H H' → K (.agg (ints (tab ls)).toArray) H') : Wcall Try.prog 85 #[netV n s] H K := by
  obtain ⟨a, c, rfl⟩ := hs.shape
  refine call_cells (rs := #[.cell 2 146]) Try.func85 rfl Try.ntmps85 rfl (by simp) ?_
  simp [go_sem, netV]
  refine Wc.loopw 49 (fun i : Nat × Heap => [(2, .pointer (some ⟨H.length + 1, 0, none⟩)), (3, .pointer (some ⟨H.length + 2, 0, none⟩)), (8, .slice a ls.length c), (9, .int .i64 ls.length), (10, .int .i64 i.1)]) (fun i => i.2)
    (fun i => i.1 ≤ ls.length ∧ Ext H i.2 ∧ i.2[H.length + 1]? = some ⟨zs146, 0, true, .live⟩ ∧ i.2[H.length + 2]? = some ⟨ints (tab (ls.take i.1)), 0, true, .live⟩) (fun i => ls.length - i.1) (0, _)
    ⟨Nat.zero_le _, Ext.new (Ext.new (Ext.new (Ext.refl H))), by simp [newBlk], by simp [newBlk, tab, ints_zeroT]⟩ (by simp [go_sem]) rfl (by simp [go_sem]) ?_
  rintro ⟨i, H1⟩ ⟨hi, he, hz, ht⟩
  simp only at hi he hz ht
  have hs1 := hs.ext RLn.mono he
  have hlt : H.length + 2 < H1.length := (List.getElem?_eq_some_iff.1 ht).1
  simp [go_sem]
  refine Br.forkD (fun h => ?_) (fun h => ?_)
  · obtain ⟨b, off, cells, rfl, hb, _, hr, hc⟩ := hs1.get h
    unfold RLn Ln.cells at hc
    have hsucc := tab_succ h
    obtain ⟨x, hx⟩ : ∃ x, ls[i] = x := ⟨_, rfl⟩
    have hkx : inTab x := hv x (by rw [← hx]; exact List.getElem_mem h)
    rw [hx] at hc hsucc
    subst hc
    have hkx' := hkx
    unfold inTab at hkx'
    have hw : IntKind.i64.wrap (4 - x.k) = 4 - x.k := wrap_small (by omega) (by omega)
    simp [go_sem, hr, h, hw]
    refine Wc.drawnF H1.length mixed (by kernel_rfl) ?_
    simp [go_sem]
    refine usual_spec x.k (by omega) (by omega) ?_
    simp [go_sem]
    refine or_spec (x := x.pa) (y := 400 - 100 * x.k) (sl_ints (newBlk H1 _) [x.pa, 400 - 100 * x.k] (by simp [go_sem])) ?_
    have hT : (tab (ls.take i)).length = 512 := tab_len fun y hy => hv y (List.mem_of_mem_take hy)
    simp [go_sem, tabWr ht (show x.a.toNat * 32 + x.b.toNat * 2 + 2 ≤ _ by omega), hlt]
    refine ⟨by omega, by omega, keep_set2 (by omega), ?_⟩
    generalize hH2 : H1.set _ _ = H2
    have hl2 : H2.length = H1.length := by rw [← hH2]; simp
    have ht2 : H2[H.length + 2]? = some ⟨ints (put2 (tab (ls.take i)) (x.a.toNat * 32 + x.b.toNat * 2) x.k (orOf x.pa (400 - 100 * x.k))), 0, true, .live⟩ := by rw [← hH2]; simp [hlt]
    have hz2 : H2[H.length + 1]? = some ⟨zs146, 0, true, .live⟩ := by rw [← hH2, List.getElem?_set_ne (by omega)]; exact hz
    have he2 : Ext H H2 := hH2 ▸ ext_set he (by omega)
    have hT2 := put2_len (T := tab (ls.take i)) (o := x.a.toNat * 32 + x.b.toNat * 2) (k := x.k) (p := orOf x.pa (400 - 100 * x.k)) (by omega)
    refine Wc.drawnF H1.length mixed (by kernel_rfl) ?_
    simp [go_sem, hl2]
    refine usual_spec (4 - x.k) (by omega) (by omega) ?_
    simp [go_sem, hl2]
    refine or_spec (x := x.pb) (y := 400 - 100 * (4 - x.k)) (sl_ints (newBlk (newBlk H2 _) _) [x.pb, 400 - 100 * (4 - x.k)] (by simp [go_sem, hl2])) ?_
    simp [go_sem, tabWr ht2 (show x.b.toNat * 32 + x.a.toNat * 2 + 2 ≤ _ by omega), hlt, hl2]
    refine ⟨by omega, by omega, keep_set3 (by omega), ?_⟩
    generalize hH3 : H2.set _ _ = H3
    have hl3 : H3.length = H2.length := by rw [← hH3]; simp
    have ht3 : H3[H.length + 2]? = some ⟨ints (tab (ls.take (i + 1))), 0, true, .live⟩ := by rw [← hH3, hsucc]; simp [hlt, hl2, tStep]
    have hz3 : H3[H.length + 1]? = some ⟨zs146, 0, true, .live⟩ := by rw [← hH3, List.getElem?_set_ne (by omega)]; exact hz2
    have he3 : Ext H H3 := hH3 ▸ ext_set he2 (by omega)
    refine loopK_next (i + 1, _) ⟨by simp only; omega, Ext.new (Ext.new (Ext.new he3)), ?_, ?_⟩ (by simp only; omega) rfl (by simp [go_sem]) (by simp [go_sem, wrap_succ (i := i) (by omega)])
    · simp [newBlk, List.getElem?_append, hl3, hl2, hz3]; omega
    · simp [newBlk, List.getElem?_append, hl3, hl2, ht3]; omega
  · have hii : i = ls.length := by omega
    subst hii
    rw [List.take_length] at ht
    have hT := tab_len hv
    have hIl : (ints (tab ls)).length = 512 := by simp [ints, hT]
    have hrd : rdBlk H1 (H.length + 2) 0 512 = some (ints (tab ls)) := by
      unfold rdBlk
      rw [ht]
      simp only
      rw [if_pos ⟨by simp, by omega⟩, List.drop_zero, List.take_of_length_le (by omega)]
    have hwr : wrBlk H1 (H.length + 1) 0 (ints (tab ls)) = some (H1.set (H.length + 1) ⟨ints (tab ls), 0, true, .live⟩) := by
      unfold wrBlk
      rw [hz]
      simp only
      rw [if_pos (by simp [zs146_len, hIl]), List.take_zero, List.drop_of_length_le (by rw [zs146_len]; omega)]
      simp
    have hrd2 : rdBlk (H1.set (H.length + 1) ⟨ints (tab ls), 0, true, .live⟩) (H.length + 1) 0 512 = some (ints (tab ls)) := by
      unfold rdBlk
      rw [List.getElem?_set_self (by omega)]
      simp only
      rw [if_pos ⟨by simp, by omega⟩, List.drop_zero, List.take_of_length_le (by omega)]
    simp [go_sem, hrd, hwr, hrd2, hIl, opt_some]
    exact hk _ (ext_set he (by omega))
end Go.Proofs.Ythifgakeababmaa.Ba
