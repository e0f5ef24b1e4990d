/- The way in and the way out: what the arguments read as becomes blocks that are not written; a run that returns true leaves memory as it was. -/
import Derived.Test.YtlljiccilldnaaaAm12
import Derived.Deep.Slices
import Derived.ChangeArms
import Derived.WideShapes
import Derived.Below
set_option linter.unusedVariables false
set_option linter.unusedSimpArgs false
namespace Go.Am
open Go Go.RowKit Go.ChangeShapes Go.WideShapes Go.Deep

def NoLive (H : Heap) : Prop := ∀ k ∈ H, k.mode ≠ .live
theorem NoLive.app {H X : Heap} (h : NoLive H) (h' : NoLive X) : NoLive (H ++ X) := fun k hk => by
  rcases List.mem_append.1 hk with h1 | h1
  · exact h k h1
  · exact h' k h1
theorem NoLive.nil : NoLive [] := fun k hk => by cases hk

/-- A predicate on memory that more blocks do not break. -/
def Mono {α : Type} (R : Heap → α → List Value → Prop) : Prop := ∀ H X x c, R H x c → R (H ++ X) x c

variable {P : Program}

def Enters {α : Type} (P : Program) (t : TypeId) (sz : Nat) (R : Heap → α → List Value → Prop) : Prop :=
  Mono R ∧ ∀ {Hh : Type} (enc : TypeId × Value → Hh) (w : World) (base : Nat) (held : Bool) (n : Nat) (cs : List Value) (y : DataW Hh × List MemPlace),
    DataW.trod enc P w base (fun _ => true) held n t cs = some y → cs.length = sz ∧ ∀ ι H, Rel ι H w → NoLive H →
      ∃ ι' X x cells, Sub ι ι' ∧ NoLive X ∧ Rel ι' (H ++ X) w ∧ CRel ι' cells cs ∧ R (H ++ X) x cells

theorem enters_int {t : TypeId} {k : IntKind} (ht : P.underlying t = some (.int k)) : Enters P t 1 (fun _ (x : Int) cells => cells = [.int k x] ∧ (Lit.int k x).wf = true) :=
  ⟨fun H X x c h => h, fun enc w base held n cs y h => by
    obtain ⟨x, rfl, _, hw⟩ := DataW.trod_int ht h
    exact ⟨rfl, fun ι H hr hn => ⟨ι, [], x, [.int k x], fun _ _ h => h, .nil, by simpa using hr, CRel.const (by simp [plainConst]), rfl, hw⟩⟩⟩

theorem enters_bool {t : TypeId} (ht : P.underlying t = some .bool) : Enters P t 1 (fun _ (x : Bool) cells => cells = [.bool x]) :=
  ⟨fun H X x c h => h, fun enc w base held n cs y h => by
    obtain ⟨x, rfl, _⟩ := DataW.trod_bool ht h
    exact ⟨rfl, fun ι H hr hn => ⟨ι, [], x, [.bool x], fun _ _ h => h, .nil, by simpa using hr, CRel.const (by simp [plainConst]), rfl⟩⟩⟩

theorem enters_string {t : TypeId} (ht : P.underlying t = some .string) : Enters P t 1 (fun _ (x : ByteArray) cells => cells = [.string x] ∧ x.size ≤ maxLen) :=
  ⟨fun H X x c h => h, fun enc w base held n cs y h => by
    obtain ⟨x, rfl, _, hw⟩ := DataW.trod_string ht h
    exact ⟨rfl, fun ι H hr hn => ⟨ι, [], x, [.string x], fun _ _ h => h, .nil, by simpa using hr, CRel.const (by simp [plainConst]), rfl, hw⟩⟩⟩

/-- A list of elements, as a slice of a block that is not written. -/
def RSlice {α : Type} (R : Heap → α → List Value → Prop) (sz : Nat) (H : Heap) (xs : List α) (s : Value) : Prop :=
  (s = .slice none 0 0 ∧ xs = []) ∨ (∃ b, s = .slice (some ⟨b, 0, none⟩) 0 0 ∧ xs = [] ∧ ∃ k, H[b]? = some k ∧ k.tight = true) ∨
    ∃ b cap cells, s = .slice (some ⟨b, 0, none⟩) xs.length cap ∧ xs.length ≤ cap ∧ 0 < cap ∧ cap ≤ maxLen ∧ H[b]? = some ⟨cells, sz, true, .ro⟩ ∧ cells.length = cap * sz ∧ ∀ i x, xs[i]? = some x → R H x ((cells.drop (i * sz)).take sz)

theorem RSlice.mono {α : Type} {R : Heap → α → List Value → Prop} {sz : Nat} (hm : Mono R) {H X : Heap} {xs : List α} {s : Value} (h : RSlice R sz H xs s) : RSlice R sz (H ++ X) xs s := by
  rcases h with h | ⟨b, h1, h2, k, h3, h4⟩ | ⟨b, cap, cells, h1, h2, h3, h4, h5, h6, h7⟩
  · exact .inl h
  · exact .inr (.inl ⟨b, h1, h2, k, by rw [List.getElem?_append_left (List.getElem?_eq_some_iff.1 h3).1]; exact h3, h4⟩)
  · refine .inr (.inr ⟨b, cap, cells, h1, h2, h3, h4, ?_, h6, fun i x hx => hm _ _ _ _ (h7 i x hx)⟩)
    rw [List.getElem?_append_left (List.getElem?_eq_some_iff.1 h5).1]; exact h5

theorem Rel.more {ι : Map} {H : Heap} {w : World} (h : Rel ι H w) (hn : NoLive H) {k : Blk} {inf : Info} (hk : k.mode ≠ .live) (h1 : inf.size = k.cells.length) (h2 : inf.sz = k.sz) (h3 : inf.tight = k.tight) (hb : k.mode ≠ .dead → BlkRel (ι.add H.length inf) k inf w) : Rel (ι.add H.length inf) (H ++ [k]) w := by
  have hsub : Sub ι (ι.add H.length inf) := Map.add_sub (h.none (Nat.le_refl _))
  refine ⟨fun b i hbi => ?_, fun b1 b2 i1 i2 k1 k2 e1 e2 hne g1 g2 hl hd => ?_⟩
  · by_cases he : b = H.length
    · subst he
      rw [Map.add_same] at hbi; cases hbi
      exact ⟨k, by simp, h1, h2, h3, hb⟩
    · rw [Map.add_other _ _ he] at hbi
      obtain ⟨k', q1, q2, q3, q4, q5⟩ := h.blk b i hbi
      refine ⟨k', by rw [List.getElem?_append_left (List.getElem?_eq_some_iff.1 q1).1]; exact q1, q2, q3, q4, fun hd => ?_⟩
      obtain ⟨cs, el, fr, r1, r2, r3, r4, r5⟩ := (q5 hd).ex
      exact ⟨cs, el, fr, r1, r2, r3, fun i v hv => by
        obtain ⟨s1, v', s2, s3⟩ := r4 i v hv
        exact ⟨s1, v', s2, s3.mono hsub⟩, r5⟩
  · have : k1 ∈ H ++ [k] := List.mem_of_getElem? g1
    rcases List.mem_append.1 this with hm | hm
    · exact absurd hl (hn _ hm)
    · rw [List.mem_singleton] at hm
      subst hm
      exact absurd hl hk

theorem addr_add (a : Addr) (i j : Nat) (h : a.spot = none) : (a.add i).add j = a.add (i + j) := by
  unfold Addr.add
  cases a
  simp only at h
  subst h
  by_cases hi : i = 0 <;> by_cases hj : j = 0 <;> simp [hi, hj, Nat.add_assoc]

theorem enters_rows {α : Type} {e : TypeId} {sz : Nat} {R : Heap → α → List Value → Prop} (he : Enters P e sz R) {Hh : Type} {enc : TypeId × Value → Hh} {w : World} {base : Nat} {held : Bool} {a : Addr} {n cap : Nat} (D : Nat → DataW Hh × List MemPlace)
    (hx : ∀ i, i < cap → ∃ cs', w.cells? base (a.add (i * sz)) sz = some cs' ∧ DataW.trod enc P w base (fun _ => true) held n e cs' = some (D i)) :
    ∀ k, k ≤ cap → ∀ ι H, Rel ι H w → NoLive H → ∃ (ι' : Map) (X : Heap) (xs : List α) (cells : List Value), Sub ι ι' ∧ NoLive X ∧ Rel ι' (H ++ X) w ∧ xs.length = k ∧ cells.length = k * sz ∧
      (∀ i j v, i < k → j < sz → cells[i * sz + j]? = some v → v.oneCell' = true ∧ ∃ v', w.cell? ((a.add (i * sz)).add j) = some v' ∧ VRel ι' v v') ∧
      ∀ (i : Nat) (x : α), xs[i]? = some x → R (H ++ X) x ((cells.drop (i * sz)).take sz) := by
  intro k
  induction k with
  | zero =>
    intro _ ι H hr hn
    exact ⟨ι, [], [], [], fun _ _ h => h, .nil, by simpa using hr, rfl, by simp, fun i j v hi => absurd hi (by omega), fun i x hx => by simp at hx⟩
  | succ k ih =>
    intro hk ι H hr hn
    obtain ⟨ι1, X1, xs, cells, s1, n1, r1, l1, l2, c1, e1⟩ := ih (by omega) ι H hr hn
    obtain ⟨cs', hcs, htrod⟩ := hx k (by omega)
    obtain ⟨hsz, hent⟩ := he.2 enc w base held n cs' _ htrod
    obtain ⟨ι2, X2, x, cells2, s2, n2, r2, c2, e2⟩ := hent ι1 (H ++ X1) r1 (hn.app n1)
    obtain ⟨_, hcl, hat⟩ := World.cells?_some hcs
    have hl2 : cells2.length = sz := c2.1.trans hsz
    refine ⟨ι2, X1 ++ X2, xs ++ [x], cells ++ cells2, fun b i hb => s2 b i (s1 b i hb), n1.app n2, by rw [← List.append_assoc]; exact r2, by simp [l1], by simp [l2, hl2, Nat.succ_mul], ?_, ?_⟩
    · intro i j v hi hj hv
      by_cases hik : i < k
      · have hb : i * sz + j < cells.length := by
          have : (i + 1) * sz ≤ k * sz := Nat.mul_le_mul_right _ hik
          rw [Nat.succ_mul] at this
          omega
        rw [List.getElem?_append_left hb] at hv
        obtain ⟨q1, v', q2, q3⟩ := c1 i j v hik hj hv
        exact ⟨q1, v', q2, q3.mono s2⟩
      · have : i = k := by omega
        subst this
        rw [List.getElem?_append_right (by omega)] at hv
        rw [show i * sz + j - cells.length = j by omega] at hv
        obtain ⟨hj', rfl⟩ := List.getElem?_eq_some_iff.1 hv
        obtain ⟨q1, q2⟩ := c2.2 j hj' (by rw [hcl]; omega)
        refine ⟨q1, cs'[j]'(by rw [hcl]; omega), ?_, q2⟩
        rw [hat j hj, List.getElem?_eq_getElem]
    · intro i y hy
      rw [← List.append_assoc]
      by_cases hik : i < k
      · rw [List.getElem?_append_left (by omega)] at hy
        have := he.1 _ X2 _ _ (e1 i y hy)
        have hb : (i + 1) * sz ≤ k * sz := Nat.mul_le_mul_right _ hik
        rw [Nat.succ_mul] at hb
        rw [List.drop_append_of_le_length (by omega), List.take_append_of_le_length (by simp; omega)]
        exact this
      · have hlt := (List.getElem?_eq_some_iff.1 hy).1
        have : i = k := by simp at hlt; omega
        subst this
        rw [List.getElem?_append_right (by omega), l1, Nat.sub_self] at hy
        simp at hy
        subst hy
        rw [List.drop_append, show i * sz - cells.length = 0 by omega, List.drop_of_length_le (by omega)]
        simp only [List.nil_append, List.drop_zero]
        rw [List.take_of_length_le (by omega)]
        exact e2

theorem enters_slice {α : Type} {t e : TypeId} {sz : Nat} {R : Heap → α → List Value → Prop} (ht : P.underlying t = some (.slice e)) (hc : P.cellsOf e = sz) (hpos : 0 < sz) (he : Enters P e sz R) :
    Enters P t 1 (fun H (xs : List α) cells => ∃ s, cells = [s] ∧ RSlice R sz H xs s) := by
  subst hc
  refine ⟨fun H X x c ⟨s, hs, h⟩ => ⟨s, hs, h.mono he.1⟩, fun enc w base held n cs y h => ?_⟩
  rcases open_slice ht h with ⟨rfl, _⟩ | ⟨a, len, cap, m, n', D, Pl, rfl, hb, hl, hm, hmm, _, hi⟩
  · exact ⟨rfl, fun ι H hr hn => ⟨ι, [], [], [.slice none 0 0], fun _ _ h => h, .nil, by simpa using hr, CRel.one rfl .nilslice, _, rfl, .inl ⟨rfl, rfl⟩⟩⟩
  · refine ⟨rfl, fun ι H hr hn => ?_⟩
    simp only [if_true] at hmm
    subst hmm
    by_cases hz : m = 0
    · subst hz
      have : len = 0 := by omega
      subst this
      refine ⟨ι.add H.length ⟨0, 0, 0, 0, 0, true⟩, [⟨[], 0, true, .dead⟩], [], [.slice (some ⟨H.length, 0, none⟩) 0 0], Map.add_sub (hr.none (Nat.le_refl _)), fun k hk => by simp at hk; subst hk; simp,
        hr.more hn (by simp) rfl rfl rfl (fun hd => absurd rfl hd), CRel.one rfl (.slice0 (Map.add_same _ _ _)), _, rfl, .inr (.inl ⟨H.length, rfl, rfl, ⟨[], 0, true, .dead⟩, by simp, rfl⟩)⟩
    · obtain ⟨ι1, X1, xs, cells, s1, n1, r1, l1, l2, c1, e1⟩ := enters_rows he (fun i => (D i, Pl i)) hi m (Nat.le_refl _) ι H hr hn
      have hsz0 : 0 < m * P.cellsOf e := Nat.mul_pos (by omega) hpos
      have hcell : ∀ j v, cells[j]? = some v → v.oneCell' = true ∧ ∃ v', w.cell? ((a.add (j / P.cellsOf e * P.cellsOf e)).add (j % P.cellsOf e)) = some v' ∧ VRel ι1 v v' := fun j v hv => by
        have hlt := (List.getElem?_eq_some_iff.1 hv).1
        rw [l2] at hlt
        refine c1 (j / P.cellsOf e) (j % P.cellsOf e) v (Nat.div_lt_of_lt_mul (by rw [Nat.mul_comm]; exact hlt)) (Nat.mod_lt _ hpos) ?_
        rw [Nat.mul_comm, Nat.div_add_mod]; exact hv
      have hspot : a.spot = none := by
        obtain ⟨v0, hv0⟩ : ∃ v, cells[0]? = some v := ⟨_, List.getElem?_eq_getElem (by omega)⟩
        obtain ⟨_, v', hc', _⟩ := hcell 0 v0 hv0
        simp [Addr.add] at hc'
        unfold World.cell? at hc'
        split at hc'
        · split at hc'
          · cases hc'
          · rename_i hs; simpa using hs
        · cases hc'
      have hcell' : ∀ j v, cells[j]? = some v → v.oneCell' = true ∧ ∃ v', w.cell? (a.add j) = some v' ∧ VRel ι1 v v' := fun j v hv => by
        have := hcell j v hv
        rw [addr_add _ _ _ hspot, Nat.mul_comm, Nat.div_add_mod] at this
        exact this
      obtain ⟨ab, ao, as_⟩ := a
      simp only at hspot
      subst hspot
      have hat : ∀ j v, cells[j]? = some v → v.oneCell' = true ∧ ∃ v', w.cell? ⟨ab, ao + j, none⟩ = some v' ∧ VRel ι1 v v' := fun j v hv => by
        have := hcell' j v hv
        unfold Addr.add at this
        by_cases hj : j = 0
        · subst hj; simpa using this
        · simpa [hj] using this
      obtain ⟨cb, el, fr, hcb⟩ : ∃ cb el fr, w.heap[ab]? = some (.cells cb el fr) := by
        obtain ⟨v0, hv0⟩ : ∃ v, cells[0]? = some v := ⟨_, List.getElem?_eq_getElem (by omega)⟩
        obtain ⟨_, v', hc', _⟩ := hat 0 v0 hv0
        unfold World.cell? at hc'
        split at hc'
        · rename_i c x y hh; exact ⟨c, x, y, hh⟩
        · cases hc'
      have hget : ∀ j v, cells[j]? = some v → v.oneCell' = true ∧ ∃ v', cb[ao + j]? = some v' ∧ VRel ι1 v v' := fun j v hv => by
        obtain ⟨q1, v', q2, q3⟩ := hat j v hv
        simp [World.cell?, hcb] at q2
        exact ⟨q1, v', q2, q3⟩
      have htop : ao + cells.length ≤ cb.size := by
        obtain ⟨v0, hv0⟩ : ∃ v, cells[cells.length - 1]? = some v := ⟨_, List.getElem?_eq_getElem (by omega)⟩
        obtain ⟨_, v', hc', _⟩ := hget _ v0 hv0
        have := (Array.getElem?_eq_some_iff.1 hc').1
        omega
      have hsub : Sub ι1 (ι1.add (H ++ X1).length ⟨ab, ao, cb.size, cells.length, P.cellsOf e, true⟩) := Map.add_sub (r1.none (Nat.le_refl _))
      have hblk : BlkRel (ι1.add (H ++ X1).length ⟨ab, ao, cb.size, cells.length, P.cellsOf e, true⟩) ⟨cells, P.cellsOf e, true, .ro⟩ ⟨ab, ao, cb.size, cells.length, P.cellsOf e, true⟩ w :=
        ⟨cb, el, fr, hcb, rfl, htop, fun i v hv => by
          obtain ⟨q1, v', q2, q3⟩ := hget i v hv
          exact ⟨q1, v', q2, q3.mono hsub⟩, fun h => by cases h⟩
      have hrel := r1.more (hn.app n1) (k := ⟨cells, P.cellsOf e, true, .ro⟩) (inf := ⟨ab, ao, cb.size, cells.length, P.cellsOf e, true⟩) (by simp) rfl rfl rfl (fun _ => hblk)
      refine ⟨_, X1 ++ [⟨cells, P.cellsOf e, true, .ro⟩], xs.take len, [.slice (some ⟨(H ++ X1).length, 0, none⟩) len m], fun b i hbi => hsub b i (s1 b i hbi), n1.app (fun k hk => by simp at hk; subst hk; simp),
        by rw [← List.append_assoc]; exact hrel, CRel.one rfl ?_, _, rfl, .inr (.inr ⟨(H ++ X1).length, m, cells, ?_, ?_, by omega, hm, ?_, l2, fun i x hx => ?_⟩)⟩
      · exact VRel.slice (inf := ⟨ab, ao, cb.size, cells.length, P.cellsOf e, true⟩) (off := 0) (Map.add_same _ _ _) hl (Nat.le_refl _) (fun _ => rfl) (fun h => by cases h)
      · rw [List.length_take, l1, Nat.min_eq_left hl]
      · rw [List.length_take, l1]; omega
      · rw [← List.append_assoc]; simp
      · rw [← List.append_assoc]
        refine he.1 _ _ _ _ (e1 i x ?_)
        rw [List.getElem?_take] at hx
        split at hx
        · exact hx
        · cases hx

/-! ### Structs -/
def EntersF {α : Type} (P : Program) (fs : List Field) (off sz : Nat) (R : Heap → α → List Value → Prop) : Prop :=
  Mono R ∧ ∀ {Hh : Type} (enc : TypeId × Value → Hh) (w : World) (base : Nat) (held : Bool) (n : Nat) (cs : List Value),
    (∀ (i : Nat) (f : Field), fs[i]? = some f → ∃ y, DataW.trod enc P w base (fun _ => true) held n f.type ((cs.drop f.offset).take (P.cellsOf f.type)) = some y) → ∀ ι H, Rel ι H w → NoLive H →
      ∃ ι' X x cells, Sub ι ι' ∧ NoLive X ∧ Rel ι' (H ++ X) w ∧ CRel ι' cells ((cs.drop off).take sz) ∧ R (H ++ X) x cells

theorem entersF_one {α : Type} {f : Field} {off sz : Nat} {R : Heap → α → List Value → Prop} (ho : f.offset = off) (hc : P.cellsOf f.type = sz) (h : Enters P f.type sz R) : EntersF P [f] off sz R :=
  ⟨h.1, fun enc w base held n cs hf ι H hr hn => by
    obtain ⟨y, hy⟩ := hf 0 f rfl
    rw [ho, hc] at hy
    exact (h.2 enc w base held n _ y hy).2 ι H hr hn⟩

/-- Two parts, one behind the other. -/
def RPair {α β : Type} (R : Heap → α → List Value → Prop) (S : Heap → β → List Value → Prop) (H : Heap) (x : α × β) (cells : List Value) : Prop := ∃ c d, cells = c ++ d ∧ R H x.1 c ∧ S H x.2 d

theorem entersF_cons {α β : Type} {f : Field} {fs : List Field} {off sz sz2 : Nat} {R : Heap → α → List Value → Prop} {S : Heap → β → List Value → Prop} (ho : f.offset = off) (hc : P.cellsOf f.type = sz) (h : Enters P f.type sz R)
    (hs : EntersF P fs (off + sz) sz2 S) : EntersF P (f :: fs) off (sz + sz2) (RPair R S) :=
  ⟨fun H X x c ⟨c1, c2, e, h1, h2⟩ => ⟨c1, c2, e, h.1 _ _ _ _ h1, hs.1 _ _ _ _ h2⟩, fun enc w base held n cs hf ι H hr hn => by
    obtain ⟨y, hy⟩ := hf 0 f rfl
    rw [ho, hc] at hy
    obtain ⟨ι1, X1, x1, c1, s1, n1, r1, e1, q1⟩ := (h.2 enc w base held n _ y hy).2 ι H hr hn
    obtain ⟨ι2, X2, x2, c2, s2, n2, r2, e2, q2⟩ := hs.2 enc w base held n cs (fun i f' hi => hf (i + 1) f' hi) ι1 (H ++ X1) r1 (hn.app n1)
    refine ⟨ι2, X1 ++ X2, (x1, x2), c1 ++ c2, fun b i hb => s2 b i (s1 b i hb), n1.app n2, by rw [← List.append_assoc]; exact r2, ?_, c1, c2, rfl, by rw [← List.append_assoc]; exact h.1 _ _ _ _ q1, by rw [← List.append_assoc]; exact q2⟩
    rw [List.take_add, List.drop_drop]
    exact (e1.mono s2).append e2⟩

theorem enters_struct {α : Type} {t : TypeId} {fs : Array Field} {sz : Nat} {R : Heap → α → List Value → Prop} (ht : P.underlying t = some (.struct fs)) (hc : P.cellsOf t = sz) (h : EntersF P fs.toList 0 sz R) : Enters P t sz R :=
  ⟨h.1, fun enc w base held n cs y hy => by
    obtain ⟨xs, n', _, _, hl, hxl, hi⟩ := DataW.trod_struct ht hy
    refine ⟨hl.trans hc, fun ι H hr hn => ?_⟩
    have := h.2 enc w base held n' cs (fun i f' hf => by
      have hf' : fs[i]? = some f' := by simpa using hf
      have := hi i f' hf'
      have hlt : i < xs.length := by rw [hxl]; exact (Array.getElem?_eq_some_iff.1 hf').1
      rw [List.getElem?_eq_getElem hlt] at this
      exact ⟨_, this⟩) ι H hr hn
    rw [List.drop_zero, List.take_of_length_le (by omega)] at this
    exact this⟩

/-! ### Arguments -/
theorem arg_struct {α : Type} {t : TypeId} {fs : Array Field} {sz : Nat} {R : Heap → α → List Value → Prop} (ht : P.underlying t = some (.struct fs)) (he : Enters P t sz R) {r : Reach} {b0 : Nat} {Hh : Type} {enc : TypeId × Value → Hh} {w : World} {base : Nat} {held : Bool}
    {v : Value} {dd : DataW Hh} {p : List MemPlace} (hv : Value.okWide P w r b0 t v) (h : DataW.Trod enc P w base (fun _ => true) held t v dd p) {ι : Map} {H : Heap} (hr : Rel ι H w) (hn : NoLive H) :
    ∃ ι' X x cells, Sub ι ι' ∧ NoLive X ∧ Rel ι' (H ++ X) w ∧ VRel ι' (.agg cells.toArray) v ∧ R (H ++ X) x cells := by
  obtain ⟨cs, rfl, _⟩ := okWide_struct ht hv
  obtain ⟨fuel, hf⟩ := h
  obtain ⟨ι', X, x, cells, h1, h2, h3, h4, h5⟩ := (he.2 enc w base held fuel _ _ hf).2 ι H hr hn
  exact ⟨ι', X, x, cells, h1, h2, h3, VRel.ofCells (l' := cs.toList) (by simpa [Value.cells] using h4), h5⟩

theorem arg_slice {α : Type} {t e : TypeId} {R : Heap → List α → List Value → Prop} {S : Heap → List α → Value → Prop} (ht : P.underlying t = some (.slice e)) (he : Enters P t 1 R) (hRS : ∀ H x cells, R H x cells → ∃ s, cells = [s] ∧ S H x s) {r : Reach} {b0 : Nat} {Hh : Type} {enc : TypeId × Value → Hh} {w : World} {base : Nat} {held : Bool}
    {v : Value} {dd : DataW Hh} {p : List MemPlace} (hv : Value.okWide P w r b0 t v) (h : DataW.Trod enc P w base (fun _ => true) held t v dd p) {ι : Map} {H : Heap} (hr : Rel ι H w) (hn : NoLive H) :
    ∃ ι' X xs s, Sub ι ι' ∧ NoLive X ∧ Rel ι' (H ++ X) w ∧ VRel ι' s v ∧ S (H ++ X) xs s := by
  obtain ⟨a0, len, cap, rfl⟩ := okWide_slice ht hv
  obtain ⟨fuel, hf⟩ := h
  obtain ⟨ι', X, x, cells, h1, h2, h3, h4, h5⟩ := (he.2 enc w base held fuel _ _ hf).2 ι H hr hn
  obtain ⟨s, rfl, h6⟩ := hRS _ _ _ h5
  refine ⟨ι', X, x, s, h1, h2, h3, ?_, h6⟩
  have := (h4.2 0 (by simp) (by simp [Value.cells])).2
  simpa [Value.cells] using this

theorem Rel.empty (w : World) : Rel (fun _ => Option.none) [] w := ⟨fun _ _ h => (nomatch h), fun _ _ _ _ _ _ h => (nomatch h)⟩

/-- The way out. -/
theorem returns_true {f : FuncId} {args args' : Array Value} {ι : Map} {H : Heap} {w : World} (hr : Rel ι H w) (hn : NoLive H) (hs : args.size = args'.size) (ha : ∀ i (h : i < args.size) (h' : i < args'.size), VRel ι args[i] args'[i])
    (h : Wcall P f args H fun v _ => v = .bool true) : Calls P f args' w fun e w' => e = .returned (.bool true) ∧ Below w.heap.size w w' := by
  obtain ⟨v, H', hc, rfl⟩ := h
  refine Calls.mono (hc.run ι w args' hr hs ha) ?_
  rintro e w1 ⟨v', ι', rfl, hv, hst⟩
  have : v' = .bool true := by cases hv; rfl
  subst this
  refine ⟨rfl, hst.os, hst.tape, hst.output, hst.size, fun k hk => hst.frame k hk ?_⟩
  rintro ⟨b, inf, blk, _, hb, hl, _⟩
  exact hn blk (List.mem_of_getElem? hb) hl
end Go.Am
