/- Cells, blocks and what one operation does to them. -/
import Derived.Test.YtlljiccilldnaaaAm1
import Derived.Laws.AppendOwn
import Derived.Laws.Build
import Derived.Laws.Slices
set_option linter.unusedVariables false
set_option linter.unusedSimpArgs false
namespace Go.Am
open Go

def CRel (ι : Map) (l l' : List Value) : Prop := l.length = l'.length ∧ ∀ i (h : i < l.length) (h' : i < l'.length), l[i].oneCell' = true ∧ VRel ι l[i] l'[i]

theorem CRel.mono {ι ι' : Map} (hs : Sub ι ι') {l l' : List Value} (h : CRel ι l l') : CRel ι' l l' := ⟨h.1, fun i h1 h2 => ⟨(h.2 i h1 h2).1, (h.2 i h1 h2).2.mono hs⟩⟩
theorem CRel.nil {ι : Map} : CRel ι [] [] := ⟨rfl, fun i h => absurd h (by simp)⟩
theorem CRel.append {ι : Map} {a a' b b' : List Value} (h1 : CRel ι a a') (h2 : CRel ι b b') : CRel ι (a ++ b) (a' ++ b') := by
  refine ⟨by simp [h1.1, h2.1], fun i h h' => ?_⟩
  by_cases hi : i < a.length
  · rw [List.getElem_append_left hi, List.getElem_append_left (by have := h1.1; omega)]
    exact h1.2 i hi _
  · have e := h1.1
    rw [List.getElem_append_right (by omega), List.getElem_append_right (by omega)]
    simp only [← e]
    exact h2.2 _ _ _
theorem CRel.take {ι : Map} {a a' : List Value} (h1 : CRel ι a a') (n : Nat) : CRel ι (a.take n) (a'.take n) := by
  refine ⟨by simp [h1.1], fun i h h' => ?_⟩
  simp only [List.getElem_take]
  exact h1.2 _ _ _
theorem CRel.drop {ι : Map} {a a' : List Value} (h1 : CRel ι a a') (n : Nat) : CRel ι (a.drop n) (a'.drop n) := by
  refine ⟨by simp [h1.1], fun i h h' => ?_⟩
  simp only [List.getElem_drop]
  exact h1.2 _ _ _
theorem CRel.one {ι : Map} {v v' : Value} (h1 : v.oneCell' = true) (h : VRel ι v v') : CRel ι [v] [v'] := by
  refine ⟨rfl, fun i h2 h3 => ?_⟩
  have : i = 0 := by simp at h2; omega
  subst this
  exact ⟨h1, h⟩
theorem CRel.get {ι : Map} {a a' : List Value} (h : CRel ι a a') {i : Nat} {v : Value} (hv : a[i]? = some v) : ∃ v', a'[i]? = some v' ∧ v.oneCell' = true ∧ VRel ι v v' := by
  obtain ⟨hi, rfl⟩ := List.getElem?_eq_some_iff.1 hv
  have hi' : i < a'.length := by rw [← h.1]; exact hi
  exact ⟨_, List.getElem?_eq_getElem hi', h.2 i hi hi'⟩
theorem CRel.one' {ι : Map} {a a' : List Value} (h : CRel ι a a') : ∀ v ∈ a', v.oneCell' = true := by
  intro v hv
  obtain ⟨i, hi, rfl⟩ := List.getElem_of_mem hv
  have hi' : i < a.length := by rw [h.1]; exact hi
  exact (h.2 i hi' hi).2.oneCell' (h.2 i hi' hi).1
theorem CRel.const {ι : Map} {l : List Value} (h : l.all plainConst = true) : CRel ι l l := by
  have h' := List.all_eq_true.1 h
  exact ⟨rfl, fun i h1 _ => ⟨plainConst_one (h' _ (List.getElem_mem h1)), .plain (h' _ (List.getElem_mem h1))⟩⟩
theorem CRel.of_get {ι : Map} {a a' : List Value} (hl : a.length = a'.length) (h : ∀ (i : Nat) (v : Value), a[i]? = some v → v.oneCell' = true ∧ ∃ v', a'[i]? = some v' ∧ VRel ι v v') : CRel ι a a' := by
  refine ⟨hl, fun i h1 h2 => ?_⟩
  obtain ⟨ho, v', hv', hr⟩ := h i _ (List.getElem?_eq_getElem h1)
  rw [List.getElem?_eq_getElem h2] at hv'
  cases hv'
  exact ⟨ho, hr⟩

/-- A value that may lie in memory. -/
def solid : Value → Bool
  | .tuple _ => false
  | _ => true

theorem cells_rel {ι : Map} {v v' : Value} (h : VRel ι v v') (hs : solid v = true) : CRel ι v.cells.toList v'.cells.toList := by
  cases h with
  | agg h1 h2 h3 =>
    refine ⟨by simpa [Value.cells] using h1, fun i h h' => ?_⟩
    simp only [Value.cells, Array.getElem_toList]
    exact ⟨h2 i (by simpa [Value.cells] using h), h3 i (by simpa [Value.cells] using h) (by simpa [Value.cells] using h')⟩
  | poison v => cases hs
  | tuple => cases hs
  | bool b => exact .one rfl (.bool b)
  | int k n => exact .one rfl (.int k n)
  | string s => exact .one rfl (.string s)
  | nilptr => exact .one rfl .nilptr
  | ptr h => exact .one rfl (.ptr h)
  | nilslice => exact .one rfl .nilslice
  | slice0 h => exact .one rfl (.slice0 h)
  | slice h1 h2 h3 h4 h5 => exact .one rfl (.slice h1 h2 h3 h4 h5)
  | nilFunc => exact .one rfl .nilFunc
  | func fn h1 h2 h3 h4 => exact .one rfl (.func fn h1 h2 h3 h4)
  | nilIface => exact .one rfl .nilIface
  | iface t h => exact .one rfl (.iface t h)

theorem VRel.ofCells {ι : Map} {l l' : List Value} (h : CRel ι l l') : VRel ι (.agg l.toArray) (.agg l'.toArray) :=
  .agg (by simpa using h.1) (fun i hi => by simpa using (h.2 i (by simpa using hi) (by rw [← h.1]; simpa using hi)).1) (fun i hi hi' => by simpa using (h.2 i (by simpa using hi) (by simpa using hi')).2)

/-! ### Steps -/
theorem BlkRel.of_heap {ι : Map} {blk : Blk} {inf : Info} {w w' : World} (h : BlkRel ι blk inf w) (hw : w'.heap[inf.B]? = w.heap[inf.B]?) : BlkRel ι blk inf w' := by
  obtain ⟨cs, el, fr, h1, h2⟩ := h.ex
  exact ⟨cs, el, fr, hw.trans h1, h2⟩
theorem BlkRel.mono {ι ι' : Map} (hs : Sub ι ι') {blk : Blk} {inf : Info} {w : World} (h : BlkRel ι blk inf w) : BlkRel ι' blk inf w := by
  obtain ⟨cs, el, fr, h1, h2, h3, h4, h5⟩ := h.ex
  exact ⟨cs, el, fr, h1, h2, h3, fun i v hv => let ⟨ho, v', hv', hr⟩ := h4 i v hv; ⟨ho, v', hv', hr.mono hs⟩, h5⟩
theorem BlkRel.lt {ι : Map} {blk : Blk} {inf : Info} {w : World} (h : BlkRel ι blk inf w) : inf.B < w.heap.size := by
  obtain ⟨cs, el, fr, h1, _⟩ := h.ex
  exact (Array.getElem?_eq_some_iff.1 h1).1

/-- The cells of a block, in the machine. -/
theorem BlkRel.cells {ι : Map} {blk : Blk} {inf : Info} {w : World} (h : BlkRel ι blk inf w) {off n : Nat} (hn : off + n ≤ blk.cells.length) :
    ∃ l', CRel ι ((blk.cells.drop off).take n) l' ∧ l'.length = n ∧ ∀ j v', l'[j]? = some v' → w.cell? ((⟨inf.B, inf.sh + off, none⟩ : Addr).add j) = some v' := by
  obtain ⟨cs, el, fr, h1, h2, h3, h4, h5⟩ := h.ex
  have hl : ((cs.toList.drop (inf.sh + off)).take n).length = n := by simp; omega
  refine ⟨(cs.toList.drop (inf.sh + off)).take n, .of_get (by rw [hl]; simp; omega) (fun i v hv => ?_), hl, fun j v' hv => ?_⟩
  · have hi : i < n := by have := (List.getElem?_eq_some_iff.1 hv).1; simp at this; omega
    rw [List.getElem?_take, if_pos hi, List.getElem?_drop] at hv
    obtain ⟨ho, v', hv', hr⟩ := h4 _ v hv
    refine ⟨ho, v', ?_, hr⟩
    rw [List.getElem?_take, if_pos hi, List.getElem?_drop]
    simpa [Nat.add_assoc] using hv'
  · have hi : j < n := by have := (List.getElem?_eq_some_iff.1 hv).1; simp at this; omega
    rw [List.getElem?_take, if_pos hi, List.getElem?_drop] at hv
    have hadd : (⟨inf.B, inf.sh + off, none⟩ : Addr).add j = ⟨inf.B, inf.sh + off + j, none⟩ := by unfold Addr.add; split <;> simp_all
    rw [hadd, cell_of_row w _ _ cs el fr h1]
    simpa using hv

theorem Rel.of_heap {ι : Map} {H : Heap} {w w' : World} (h : Rel ι H w) (hw : ∀ k, k < w.heap.size → w'.heap[k]? = w.heap[k]?) : Rel ι H w' :=
  ⟨fun b inf hb => let ⟨k, h1, h2, h3, h4, h5⟩ := h.blk b inf hb; ⟨k, h1, h2, h3, h4, fun hd => (h5 hd).of_heap (hw _ (h5 hd).lt)⟩, h.apart⟩

theorem Step.drew {ι : Map} {H : Heap} {w : World} (h : Rel ι H w) : Step ι H w ι H w.drew :=
  ⟨fun _ _ => rfl, h.of_heap (fun _ _ => rfl), rfl, rfl, rfl, Nat.le_refl _, fun _ _ _ => rfl, fun b inf hb hi => absurd (h.lt hi) (Nat.not_lt.2 hb)⟩

def Map.add (ι : Map) (b : Nat) (inf : Info) : Map := fun x => if x = b then some inf else ι x
theorem Map.add_same (ι : Map) (b : Nat) (inf : Info) : ι.add b inf b = some inf := by simp [Map.add]
theorem Map.add_other (ι : Map) {b x : Nat} (inf : Info) (h : x ≠ b) : ι.add b inf x = ι x := by simp [Map.add, h]
theorem Map.add_sub {ι : Map} {b : Nat} {inf : Info} (h : ι b = none) : Sub ι (ι.add b inf) := fun x i hx => by
  have : x ≠ b := fun e => by rw [e, h] at hx; cases hx
  rw [Map.add_other _ _ this]; exact hx
theorem Rel.none {ι : Map} {H : Heap} {w : World} (h : Rel ι H w) {b : Nat} (hb : H.length ≤ b) : ι b = none := by
  cases hi : ι b with
  | none => rfl
  | some inf => exact absurd (h.lt hi) (Nat.not_lt.2 hb)

theorem HExt.app (H : Heap) (k : Blk) : HExt H (H ++ [k]) := by
  refine ⟨by simp, fun b k1 k2 h1 h2 => ?_, fun b k1 k2 h1 h2 hl => ?_⟩
  · have hb : b < H.length := (List.getElem?_eq_some_iff.1 h1).1
    rw [List.getElem?_append_left hb, h1] at h2; cases h2; exact ⟨rfl, rfl, rfl⟩
  · have hb : b < H.length := (List.getElem?_eq_some_iff.1 h1).1
    rw [List.getElem?_append_left hb, h1] at h2; cases h2; exact hl

/-- A new block. -/
theorem Step.new {ι : Map} {H : Heap} {w : World} (hr : Rel ι H w) (cells : List Value) (cells' : Array Value) (sz : Nat) (tight : Bool) (el : TypeId) (hn : cells.length ≤ cells'.size)
    (hc : ∀ (i : Nat) (v : Value), cells[i]? = some v → v.oneCell' = true ∧ ∃ v', cells'[i]? = some v' ∧ VRel ι v v') :
    Step ι H w (ι.add H.length ⟨w.heap.size, 0, cells'.size, cells.length, sz, tight⟩) (H ++ [⟨cells, sz, tight, .live⟩]) (w.alloc (.cells cells' el)) := by
  have hsub : Sub ι (ι.add H.length ⟨w.heap.size, 0, cells'.size, cells.length, sz, tight⟩) := Map.add_sub (hr.none (Nat.le_refl _))
  refine ⟨fun b hb => Map.add_other _ _ (by omega), ⟨fun b inf hb => ?_, fun b1 b2 i1 i2 k1 k2 h1 h2 hne g1 g2 hl hd => ?_⟩, rfl, rfl, rfl, by simp, fun k hk _ => heap_alloc_old w _ k hk, fun b inf hb hi => ?_⟩
  · by_cases he : b = H.length
    · subst he
      rw [Map.add_same] at hb
      cases hb
      refine ⟨⟨cells, sz, tight, .live⟩, by rw [List.getElem?_append_right (Nat.le_refl _)]; simp, rfl, rfl, rfl, fun _ => ⟨cells', el, (0, 0), heap_alloc_new w _, rfl, by simpa using hn, fun i v hv => ?_, fun _ => rfl⟩⟩
      obtain ⟨ho, v', hv', hrel⟩ := hc i v hv
      exact ⟨ho, v', by simpa using hv', hrel.mono hsub⟩
    · rw [Map.add_other _ _ he] at hb
      obtain ⟨k, g1, g2, g3, g4, g5⟩ := hr.blk b inf hb
      exact ⟨k, by rw [List.getElem?_append_left (hr.lt hb)]; exact g1, g2, g3, g4, fun hd => ((g5 hd).of_heap (heap_alloc_old w _ _ (g5 hd).lt)).mono hsub⟩
  · have old : ∀ b i k, ι b = some i → (H ++ [(⟨cells, sz, tight, .live⟩ : Blk)])[b]? = some k → k.mode ≠ .dead → H[b]? = some k ∧ i.B < w.heap.size := fun b i k hb hk hd => by
      rw [List.getElem?_append_left (hr.lt hb)] at hk
      obtain ⟨k0, g1, _, _, _, g5⟩ := hr.blk b i hb
      rw [g1] at hk; cases hk
      exact ⟨g1, (g5 hd).lt⟩
    by_cases e1 : b1 = H.length
    · subst e1
      rw [Map.add_same] at h1; cases h1
      rw [Map.add_other _ _ (Ne.symm hne)] at h2
      have := (old b2 i2 k2 h2 g2 hd).2
      simp only; omega
    · rw [Map.add_other _ _ e1] at h1
      have o1 := old b1 i1 k1 h1 g1 (by rw [hl]; simp)
      by_cases e2 : b2 = H.length
      · subst e2
        rw [Map.add_same] at h2; cases h2
        have := o1.2
        simp only; omega
      · rw [Map.add_other _ _ e2] at h2
        exact hr.apart b1 b2 i1 i2 k1 k2 h1 h2 hne o1.1 (old b2 i2 k2 h2 g2 hd).1 hl hd
  · by_cases he : b = H.length
    · subst he
      rw [Map.add_same] at hi; cases hi
      exact .inl (Nat.le_refl _)
    · rw [Map.add_other _ _ he] at hi
      exact absurd (hr.lt hi) (Nat.not_lt.2 hb)

theorem HExt.set {H : Heap} {b : Nat} {k k' : Blk} (hk : H[b]? = some k) (h1 : k'.sz = k.sz) (h2 : k'.tight = k.tight) (h3 : k'.cells.length = k.cells.length) (h4 : k'.mode = .live → k.mode = .live) : HExt H (H.set b k') := by
  refine ⟨by simp, fun x k1 k2 g1 g2 => ?_, fun x k1 k2 g1 g2 hl => ?_⟩
  · by_cases e : b = x
    · subst e
      rw [hk] at g1; cases g1
      rw [List.getElem?_set_self (List.getElem?_eq_some_iff.1 hk).1] at g2; cases g2
      exact ⟨h1, h2, h3⟩
    · rw [List.getElem?_set_ne e, g1] at g2; cases g2; exact ⟨rfl, rfl, rfl⟩
  · by_cases e : b = x
    · subst e
      rw [hk] at g1; cases g1
      rw [List.getElem?_set_self (List.getElem?_eq_some_iff.1 hk).1] at g2; cases g2
      exact h4 hl
    · rw [List.getElem?_set_ne e, g1] at g2; cases g2; exact hl

/-- A store into a live block. -/
theorem Step.write {ι : Map} {H : Heap} {w : World} (hr : Rel ι H w) {b : Nat} {inf : Info} {k : Blk} (hb : ι b = some inf) (hk : H[b]? = some k) (hl : k.mode = .live) {off : Nat} {vs vs' : List Value} (hv : CRel ι vs vs')
    (hn : off + vs.length ≤ k.cells.length) {cs : Array Value} {el : TypeId} {fr : Nat × Nat} (hw : w.heap[inf.B]? = some (.cells cs el fr)) :
    Step ι H w ι (H.set b { k with cells := k.cells.take off ++ vs ++ k.cells.drop (off + vs.length) }) (w.setRow inf.B (cs.toList.take (inf.sh + off) ++ vs' ++ cs.toList.drop (inf.sh + off + vs'.length)).toArray) := by
  have hlt : b < H.length := hr.lt hb
  obtain ⟨k0, g1, g2, g3, g4, g5⟩ := hr.blk b inf hb
  rw [hk] at g1; cases g1
  obtain ⟨cs0, el0, fr0, q1, q2, q3, q4, q5⟩ := (g5 (by rw [hl]; simp)).ex
  rw [hw] at q1; cases q1
  have hother : ∀ x i kx, ι x = some i → x ≠ b → H[x]? = some kx → kx.mode ≠ .dead → i.B ≠ inf.B := fun x i kx hx hne hkx hd e => hr.apart b x inf i k kx hb hx (Ne.symm hne) hk hkx hl hd e.symm
  refine ⟨fun _ _ => rfl, ⟨fun x i hx => ?_, fun b1 b2 i1 i2 k1 k2 h1 h2 hne e1 e2 hl1 hd => ?_⟩, rfl, rfl, rfl, by simp, fun x hx hnw => setRow_other w _ x _ (fun e => hnw ⟨b, inf, k, hb, hk, hl, e.symm⟩), fun x i hx hi => absurd (hr.lt hi) (Nat.not_lt.2 hx)⟩
  · by_cases e : x = b
    · subst e
      rw [hb] at hx; cases hx
      refine ⟨_, List.getElem?_set_self hlt, ?_, g3, g4, fun _ => ⟨_, el, fr, setRow_heap w _ cs _ el fr hw, ?_, ?_, fun i v hi => ?_, q5⟩⟩
      · simp; omega
      · simp; have := hv.1; omega
      · simp; omega
      · have hvl := hv.1
        rw [List.append_assoc] at hi
        by_cases c1 : i < off
        · rw [List.getElem?_append_left (by simp; omega), List.getElem?_take, if_pos c1] at hi
          obtain ⟨ho, v', hv', hrel⟩ := q4 i v hi
          refine ⟨ho, v', ?_, hrel⟩
          rw [List.append_assoc, List.getElem?_toArray, List.getElem?_append_left (by simp; omega), List.getElem?_take, if_pos (by omega)]
          simpa using hv'
        · rw [List.getElem?_append_right (by simp; omega)] at hi
          have hlen : (k.cells.take off).length = off := by simp; omega
          rw [hlen] at hi
          have hlen' : (cs.toList.take (inf.sh + off)).length = inf.sh + off := by simp; omega
          by_cases c2 : i < off + vs.length
          · rw [List.getElem?_append_left (by omega)] at hi
            obtain ⟨v', hv', ho, hrel⟩ := hv.get hi
            refine ⟨ho, v', ?_, hrel⟩
            rw [List.append_assoc, List.getElem?_toArray, List.getElem?_append_right (by omega), hlen', List.getElem?_append_left (by omega)]
            rw [← hv']; congr 1; omega
          · rw [List.getElem?_append_right (by omega), List.getElem?_drop] at hi
            have e3 : off + vs.length + (i - off - vs.length) = i := by omega
            rw [e3] at hi
            obtain ⟨ho, v', hv', hrel⟩ := q4 i v hi
            refine ⟨ho, v', ?_, hrel⟩
            rw [List.append_assoc, List.getElem?_toArray, List.getElem?_append_right (by omega), hlen', List.getElem?_append_right (by omega), List.getElem?_drop]
            have e4 : inf.sh + off + vs'.length + (inf.sh + i - (inf.sh + off) - vs'.length) = inf.sh + i := by omega
            rw [e4]
            simpa using hv'
    · obtain ⟨kx, p1, p2, p3, p4, p5⟩ := hr.blk x i hx
      exact ⟨kx, by rw [List.getElem?_set_ne (Ne.symm e)]; exact p1, p2, p3, p4, fun hd => (p5 hd).of_heap (setRow_other w _ _ _ (hother x i kx hx e p1 hd))⟩
  · have old : ∀ (x : Nat) (kx : Blk), (H.set b { k with cells := k.cells.take off ++ vs ++ k.cells.drop (off + vs.length) })[x]? = some kx → ∃ ky : Blk, H[x]? = some ky ∧ ky.mode = kx.mode := fun x kx hx => by
      by_cases e : b = x
      · subst e
        rw [List.getElem?_set_self hlt] at hx; cases hx
        exact ⟨k, hk, rfl⟩
      · rw [List.getElem?_set_ne e] at hx; exact ⟨kx, hx, rfl⟩
    obtain ⟨y1, p1, m1⟩ := old b1 k1 e1
    obtain ⟨y2, p2, m2⟩ := old b2 k2 e2
    exact hr.apart b1 b2 i1 i2 y1 y2 h1 h2 hne p1 p2 (m1.trans hl1) (by rw [m2]; exact hd)
end Go.Am
