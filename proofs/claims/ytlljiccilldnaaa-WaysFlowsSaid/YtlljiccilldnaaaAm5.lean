/- append, copy, len and their like. -/
import Derived.Test.YtlljiccilldnaaaAm4
set_option linter.unusedVariables false
set_option linter.unusedSimpArgs false
namespace Go.Am
open Go
variable {P : Program} {ρ : Operand → Value} {H H' : Heap} {v : Value} {o : Oper}

/-- What is appended: how many elements, and their cells. -/
def aNews (P : Program) (H : Heap) (z : Value) (u : TypeId) (x : Value) : Option (Nat × List Value) :=
  match P.underlying u, x with
  | some (.int _), .int _ l => if 0 ≤ l ∧ l ≤ 4294967296 then some (l.toNat, zeros z l.toNat) else none
  | some (.slice _), .slice none _ _ => some (0, [])
  | some (.slice _), .slice (some a) n _ => if n = 0 then some (0, []) else (rdBlk H a.block a.off (n * z.cells.size)).map fun l => (n, l)
  | some .string, .string s => if z.cells.size = 1 then some (s.size, s.data.toList.map fun b => .int .u8 b.toNat) else none
  | _, _ => none

/-- How the machine comes to what is appended. -/
structure NewsRun (P : Program) (w : World) (q : TypeInfo) (e : TypeId) (u : TypeId) (x' : Value) (n : Nat) (l' : List Value) : Prop where
  run : ∀ (w1 : World), w1.heap = w.heap → ∀ (base : Option Addr) (sLen sCap : Nat) (t ty : TypeId), P.underlying t = some (.slice e) →
    (sLen + n ≤ sCap → ∀ w2, (match base with | some a => storeCells (a.add (sLen * q.size)) l' | none => Pure.pure () : Sem Unit).run P w1 = .ok () w2 →
      (Builtin.append_ #[t, u] ty #[.slice base sLen sCap, x']).run P w1 = .ok (.slice base (sLen + n) sCap) w2)
  grow : ∀ (w1 : World), w1.heap = w.heap → ∀ (base : Option Addr) (sLen sCap : Nat) (t ty : TypeId) (z : Value) (olds : List Value), P.underlying t = some (.slice e) → q.zero = some z → sCap < sLen + n → (sLen + n) * q.bytes ≤ 140737488355328 → sLen + n ≤ 140737488355328 →
    (∀ w2 : World, w2.heap = w.heap → (Builtin.firstCells q.size sLen (.slice base sLen sCap)).run P w2 = .ok olds.toArray w2) →
      (Builtin.append_ #[t, u] ty #[.slice base sLen sCap, x']).run P w1 =
        .ok (.slice (some ⟨w1.heap.size, 0, none⟩) (sLen + n) (grownCap w1 (sLen + n) sCap e))
          (w1.drew.alloc (.cells (olds.toArray ++ l'.toArray ++ Builtin.zeroCells z.cells (grownCap w1 (sLen + n) sCap e - (sLen + n))) e))

theorem newsRun_plain {w : World} {q : TypeInfo} {e u : TypeId} {x' : Value} {n : Nat} {l' : List Value} (hq : P.info? e = some q) {du : TypeDesc} (hu : P.underlying u = some du) (hdu : (∃ e', du = .slice e') ∨ du = .string)
    (hlen : ∀ w1, (Builtin.lenOf x').run P w1 = .ok n w1) (hf : ∀ w1 : World, w1.heap = w.heap → (Builtin.firstCells q.size n x').run P w1 = .ok l'.toArray w1) : NewsRun P w q e u x' n l' := by
  have hti : ∀ w1, (typeInfo e).run P w1 = .ok q w1 := by intro w1; simp [typeInfo, hq]
  refine ⟨fun w1 hw base sLen sCap t ty ht hroom w2 hst => ?_, fun w1 hw base sLen sCap t ty z olds ht hzz hg hb h47 ho => ?_⟩
  · have hf1 := hf w1 hw
    cases base with
    | none =>
      have e2 : w2 = w1 := by injection hst with _ e; exact e.symm
      subst e2
      rcases hdu with ⟨e', rfl⟩ | rfl <;> simp [Builtin.append_, run_underlying ht, run_underlying hu, run_sizeOf' hq, hlen, hroom, hf1]
    | some a =>
      have hst' : (storeCells (a.add (sLen * q.size)) l').run P w1 = .ok () w2 := hst
      rcases hdu with ⟨e', rfl⟩ | rfl <;> simp [Builtin.append_, run_underlying ht, run_underlying hu, run_sizeOf' hq, hlen, hroom, hf1, hst']
  · have hf1 := hf w1.drew hw
    have ho1 := ho w1.drew hw
    have hn : ¬ (sLen + n ≤ sCap) := by omega
    have h63' : ¬ (9223372036854775807 < ((sLen : Int) + (n : Int))) := by omega
    have h48' : ¬ (281474976710656 < Builtin.nextslicecap (sLen + n) sCap * q.bytes) := by have := growslice_fits hg hb; omega
    have hzv : ∀ w1, (zeroValue e).run P w1 = .ok z w1 := by intro w1; simp [zeroValue, hti, hzz]
    rcases hdu with ⟨e', rfl⟩ | rfl <;>
      simp [Builtin.append_, run_underlying ht, run_underlying hu, run_sizeOf' hq, hlen, hn, hti, h63', h48', run_askRoom', Question.forced, hf1, ho1, newRow, grownCap, hzv] <;>
      (congr 2; apply Array.ext'; simp [List.append_assoc])

theorem zeroCells_list (z : Value) (n : Nat) (hz : 0 < z.cells.size) : (Builtin.zeroCells z.cells n).toList = zeros z n := zeros_array z n hz

theorem newsRun_int {w : World} {q : TypeInfo} {e u : TypeId} {l : Int} {k k' : IntKind} {z : Value} (hq : P.info? e = some q) (hzz : q.zero = some z) (hsz : q.size = z.cells.size) (hs0 : 0 < q.size) (hby : q.bytes ≤ 65536) (hu : P.underlying u = some (.int k'))
    (h0 : 0 ≤ l) (h1 : l ≤ 4294967296) : NewsRun P w q e u (.int k l) l.toNat (zeros z l.toNat) := by
  have hti : ∀ w1, (typeInfo e).run P w1 = .ok q w1 := by intro w1; simp [typeInfo, hq]
  have hzv : ∀ w1, (zeroValue e).run P w1 = .ok z w1 := by intro w1; simp [zeroValue, hti, hzz]
  have hw64 := i64_wrap h0 (by omega)
  have hb0 : l * (q.bytes : Int) ≤ 281474976710656 := by
    have : l * (q.bytes : Int) ≤ 4294967296 * 65536 := Int.mul_le_mul h1 (by omega) (by omega) (by omega)
    omega
  have hneg : ¬ (l < 0) := by omega
  have hbig : ¬ (281474976710656 < l * (q.bytes : Int)) := by omega
  have hza := zeroCells_list z l.toNat (by omega)
  have hzarr : Builtin.zeroCells z.cells l.toNat = (zeros z l.toNat).toArray := by rw [← hza]
  have hl0 : l.toNat * q.size = 0 → zeros z l.toNat = [] := by
    intro h
    have hl0 : l.toNat = 0 := by rcases Nat.mul_eq_zero.1 h with h | h <;> omega
    simp [hl0, zeros]
  refine ⟨fun w1 hw base sLen sCap t ty ht hroom w2 hst => ?_, fun w1 hw base sLen sCap t ty z' olds ht hzz' hg hb h47 ho => ?_⟩
  · cases base with
    | none =>
      have e2 : w2 = w1 := by injection hst with _ e; exact e.symm
      subst e2
      simp [Builtin.append_, run_underlying ht, run_underlying hu, run_sizeOf' hq, asInt, asIntOf, hw64, hneg, hti, hbig, hroom, hzv]
    | some a =>
      have hst' : (storeCells (a.add (sLen * q.size)) (zeros z l.toNat)).run P w1 = .ok () w2 := hst
      simp [Builtin.append_, run_underlying ht, run_underlying hu, run_sizeOf' hq, asInt, asIntOf, hw64, hneg, hti, hbig, hroom, hzv]
      split
      · rename_i h
        rw [hl0 h] at hst'
        simp [hst']
      · simp [hza, hst']
  · have ho1 := ho w1.drew hw
    rw [hzz] at hzz'; cases hzz'
    have hn : ¬ (sLen + l.toNat ≤ sCap) := by omega
    have h63' : ¬ (9223372036854775807 < ((sLen : Int) + (l.toNat : Int))) := by omega
    have h63'' : ¬ (9223372036854775807 < ((sLen : Int) + max l 0)) := by omega
    have h48' : ¬ (281474976710656 < Builtin.nextslicecap (sLen + l.toNat) sCap * q.bytes) := by have := growslice_fits hg hb; omega
    simp [Builtin.append_, run_underlying ht, run_underlying hu, run_sizeOf' hq, asInt, asIntOf, hw64, hneg, hti, hbig, hn, h63', h63'', h48', run_askRoom', Question.forced, ho1, newRow, grownCap, hzv]
    split
    · rename_i h
      rw [hl0 h]
      simp
    · rw [hzarr]
      simp
      congr 2; apply Array.ext'; simp [List.append_assoc]

theorem str_cells {ι : Map} (s : ByteArray) : CRel ι (s.data.toList.map fun b => Value.int .u8 b.toNat) (s.data.toList.map fun b => Value.int .u8 b.toNat) :=
  CRel.const (List.all_eq_true.2 fun x hx => by simp only [List.mem_map] at hx; obtain ⟨b, _, rfl⟩ := hx; rfl)

/-- What is appended, in the machine. -/
theorem aNews_run {ι : Map} {w : World} {q : TypeInfo} {e u : TypeId} {z x x' : Value} {n : Nat} {l : List Value} (hr : Rel ι H w) (hq : P.info? e = some q) (hzz : q.zero = some z) (hpl : z.cells.toList.all plainConst = true) (hsz : q.size = z.cells.size) (hs0 : 0 < q.size) (hby : q.bytes ≤ 65536)
    (h : aNews P H z u x = some (n, l)) (hx : VRel ι x x') : ∃ l', CRel ι l l' ∧ l.length = n * q.size ∧ NewsRun P w q e u x' n l' := by
  unfold aNews at h
  split at h
  · rename_i k k' i hu
    split at h
    · rename_i hi
      cases h
      rw [int_inv hx]
      exact ⟨_, CRel.const (zeros_plain hpl _), by rw [length_zeros, hsz], newsRun_int hq hzz hsz hs0 hby hu hi.1 hi.2⟩
    · cases h
  · rename_i e' n' c hu
    cases h
    obtain ⟨a', c', rfl, hn, _⟩ := slice_inv hx
    cases a' with
    | some a' => cases hn
    | none =>
      have : n' = 0 := by
        generalize hv : Value.slice none n' c' = v' at hx
        cases hx <;> first | rfl | cases hv
      subst this
      exact ⟨[], CRel.nil, by simp, newsRun_plain hq hu (.inl ⟨_, rfl⟩) (fun w1 => by simp [Builtin.lenOf]) (fun w1 _ => by simp [Builtin.firstCells])⟩
  · rename_i e' a n' c hu
    split at h
    · rename_i hn0
      subst hn0
      cases h
      obtain ⟨a', c', rfl, hn, _⟩ := slice_inv hx
      refine ⟨[], CRel.nil, by simp, newsRun_plain hq hu (.inl ⟨_, rfl⟩) (fun w1 => by simp [Builtin.lenOf]) (fun w1 _ => ?_)⟩
      cases a' with
      | none => cases hn
      | some a' => simp [Builtin.firstCells, loadCells, loadCellsFrom]
    · rename_i hn0
      rw [Option.map_eq_some_iff] at h
      obtain ⟨l0, h1, h2⟩ := h
      cases h2
      rcases slice_some_inv hx with ⟨rfl, _⟩ | ⟨b, off, c', inf, rfl, hb, rfl, _⟩
      · exact absurd rfl hn0
      obtain ⟨l', g1, g2, g3, g4⟩ := rdBlk_run hr hb h1
      refine ⟨l', g1, by rw [g2, hsz], newsRun_plain hq hu (.inl ⟨_, rfl⟩) (fun w1 => by simp [Builtin.lenOf]) (fun w1 hw => ?_)⟩
      refine run_firstCells_some w1 q.size n _ _ _ l' (by rw [g3, hsz]) (fun j v' hv => ?_)
      have := g4 j v' hv
      simpa [World.cell?, hw] using this
  · rename_i s hu
    split at h
    · rename_i h1
      cases h
      rw [string_inv hx]
      have hs1 : s.data.toList.length = s.size := rfl
      refine ⟨_, str_cells s, by simp [hsz, h1, hs1], newsRun_plain hq hu (.inr rfl) (fun w1 => by simp [Builtin.lenOf]) (fun w1 _ => ?_)⟩
      simp [Builtin.firstCells]
      apply Array.ext'
      simp
    · cases h
  · cases h

/-! ### append -/
theorem Step.kill {ι : Map} {w : World} (hr : Rel ι H w) {b : Nat} {k : Blk} (hk : H[b]? = some k) : Step ι H w ι (H.set b { k with mode := .dead }) w := by
  have hlt : b < H.length := (List.getElem?_eq_some_iff.1 hk).1
  refine ⟨fun _ _ => rfl, ⟨fun x i hx => ?_, fun b1 b2 i1 i2 k1 k2 h1 h2 hne e1 e2 hl hd => ?_⟩, rfl, rfl, rfl, Nat.le_refl _, fun _ _ _ => rfl, fun x i hx hi => absurd (hr.lt hi) (Nat.not_lt.2 hx)⟩
  · obtain ⟨kx, g1, g2, g3, g4, g5⟩ := hr.blk x i hx
    by_cases e : b = x
    · subst e
      rw [hk] at g1; cases g1
      exact ⟨_, List.getElem?_set_self hlt, g2, g3, g4, fun h => absurd rfl h⟩
    · exact ⟨kx, by rw [List.getElem?_set_ne e]; exact g1, g2, g3, g4, g5⟩
  · by_cases c1 : b = b1
    · subst c1
      rw [List.getElem?_set_self hlt] at e1; cases e1; cases hl
    · by_cases c2 : b = b2
      · subst c2
        rw [List.getElem?_set_self hlt] at e2; cases e2; exact absurd rfl hd
      · rw [List.getElem?_set_ne c1] at e1
        rw [List.getElem?_set_ne c2] at e2
        exact hr.apart b1 b2 i1 i2 k1 k2 h1 h2 hne e1 e2 hl hd

theorem kill_ext {b : Nat} {k : Blk} (hk : H[b]? = some k) : HExt H (H.set b { k with mode := .dead }) := HExt.set hk rfl rfl rfl (fun h => by cases h)

/-- A slice that grows where it lies: its block is told anew. -/
theorem Step.regrow {ι : Map} {w : World} (hr : Rel ι H w) {b : Nat} {inf : Info} {k : Blk} (hb : ι b = some inf) (hk : H[b]? = some k) (hl : k.mode = .live) {off m sz : Nat} {l l' : List Value} (hv : CRel ι l l') (hm : off + m ≤ k.cells.length)
    {cs : Array Value} {el : TypeId} {fr : Nat × Nat} (hw : w.heap[inf.B]? = some (.cells cs el fr)) (hfit : inf.sh + off + m + l.length ≤ inf.top) :
    Step ι H w (ι.add H.length ⟨inf.B, inf.sh + off, inf.top, m + l.length, sz, false⟩) (H.set b { k with mode := .dead } ++ [⟨(k.cells.drop off).take m ++ l, sz, false, .live⟩])
      (w.setRow inf.B (cs.toList.take (inf.sh + off + m) ++ l' ++ cs.toList.drop (inf.sh + off + m + l'.length)).toArray) := by
  have hlt : b < H.length := hr.lt hb
  have hsub : Sub ι (ι.add H.length ⟨inf.B, inf.sh + off, inf.top, m + l.length, sz, false⟩) := Map.add_sub (hr.none (Nat.le_refl _))
  obtain ⟨k0, g1, g2, g3, g4, g5⟩ := hr.blk b inf hb
  rw [hk] at g1; cases g1
  obtain ⟨cs0, el0, fr0, q1, q2, q3, q4, q5⟩ := (g5 (by rw [hl]; simp)).ex
  rw [hw] at q1; cases q1
  have hvl := hv.1
  have hother : ∀ (x : Nat) (i : Info) (kx : Blk), ι x = some i → x ≠ b → H[x]? = some kx → kx.mode ≠ .dead → i.B ≠ inf.B := fun x i kx hx hne hkx hd e => hr.apart b x inf i k kx hb hx (Ne.symm hne) hk hkx hl hd e.symm
  have hset : ∀ (x : Nat) (kx : Blk), x ≠ H.length → (H.set b { k with mode := .dead } ++ [(⟨(k.cells.drop off).take m ++ l, sz, false, .live⟩ : Blk)])[x]? = some kx → kx.mode ≠ .dead → H[x]? = some kx ∧ x ≠ b := fun x kx hx hkx hd => by
    have hxl : x < (H.set b { k with mode := .dead }).length := by
      have := (List.getElem?_eq_some_iff.1 hkx).1
      simp at this ⊢; omega
    rw [List.getElem?_append_left hxl] at hkx
    by_cases e : b = x
    · subst e
      rw [List.getElem?_set_self hlt] at hkx; cases hkx; exact absurd rfl hd
    · rw [List.getElem?_set_ne e] at hkx; exact ⟨hkx, Ne.symm e⟩
  refine ⟨fun x hx => Map.add_other _ _ (by omega), ⟨fun x i hx => ?_, fun b1 b2 i1 i2 k1 k2 h1 h2 hne e1 e2 hl1 hd => ?_⟩, rfl, rfl, rfl, by simp, fun x hx hnw => setRow_other w _ x _ (fun e => hnw ⟨b, inf, k, hb, hk, hl, e.symm⟩), fun x i hx hi => ?_⟩
  · by_cases e : x = H.length
    · subst e
      rw [Map.add_same] at hx; cases hx
      refine ⟨⟨(k.cells.drop off).take m ++ l, sz, false, .live⟩, by rw [List.getElem?_append_right (by simp)]; simp, by simp; omega, rfl, rfl, fun _ => ⟨_, el, fr, setRow_heap w _ cs _ el fr hw, by simp; omega, by simp; omega, fun i v hi => ?_, fun _ => q5 hl⟩⟩
      by_cases c1 : i < m
      · rw [List.getElem?_append_left (by simp; omega), List.getElem?_take, if_pos c1, List.getElem?_drop] at hi
        obtain ⟨ho, v', hv', hrel⟩ := q4 _ v hi
        refine ⟨ho, v', ?_, hrel.mono hsub⟩
        simp only
        rw [List.append_assoc, List.getElem?_toArray, List.getElem?_append_left (by simp; omega), List.getElem?_take, if_pos (by omega)]
        simpa [Nat.add_assoc] using hv'
      · have hlen : ((k.cells.drop off).take m).length = m := by simp; omega
        rw [List.getElem?_append_right (by omega), hlen] at hi
        obtain ⟨v', hv', ho, hrel⟩ := hv.get hi
        refine ⟨ho, v', ?_, hrel.mono hsub⟩
        have hil := (List.getElem?_eq_some_iff.1 hi).1
        have hlen' : (cs.toList.take (inf.sh + off + m)).length = inf.sh + off + m := by simp; omega
        simp only
        rw [List.append_assoc, List.getElem?_toArray, List.getElem?_append_right (by omega), hlen', List.getElem?_append_left (by omega)]
        rw [← hv']; congr 1; omega
    · rw [Map.add_other _ _ e] at hx
      obtain ⟨kx, p1, p2, p3, p4, p5⟩ := hr.blk x i hx
      have hxl := hr.lt hx
      by_cases e2 : x = b
      · subst e2
        rw [hk] at p1; cases p1
        exact ⟨{ k with mode := .dead }, by rw [List.getElem?_append_left (by simp; omega), List.getElem?_set_self hlt], p2, p3, p4, fun h => absurd rfl h⟩
      · exact ⟨kx, by rw [List.getElem?_append_left (by simp; omega), List.getElem?_set_ne (Ne.symm e2)]; exact p1, p2, p3, p4, fun hd => ((p5 hd).of_heap (setRow_other w _ _ _ (hother x i kx hx e2 p1 hd))).mono hsub⟩
  · by_cases c1 : b1 = H.length
    · subst c1
      rw [Map.add_same] at h1; cases h1
      have c2 : b2 ≠ H.length := Ne.symm hne
      rw [Map.add_other _ _ c2] at h2
      obtain ⟨g, gb⟩ := hset b2 k2 c2 e2 hd
      exact fun e => hother b2 i2 k2 h2 gb g hd e.symm
    · rw [Map.add_other _ _ c1] at h1
      obtain ⟨ga, gab⟩ := hset b1 k1 c1 e1 (by rw [hl1]; simp)
      by_cases c2 : b2 = H.length
      · subst c2
        rw [Map.add_same] at h2; cases h2
        exact hother b1 i1 k1 h1 gab ga (by rw [hl1]; simp)
      · rw [Map.add_other _ _ c2] at h2
        exact hr.apart b1 b2 i1 i2 k1 k2 h1 h2 hne ga (hset b2 k2 c2 e2 hd).1 hl1 hd
  · by_cases e : x = H.length
    · subst e
      rw [Map.add_same] at hi; cases hi
      exact .inr ⟨b, inf, k, hb, hk, hl, rfl⟩
    · rw [Map.add_other _ _ e] at hi
      exact absurd (hr.lt hi) (Nat.not_lt.2 hx)

/-- A slice that grows in a new block. -/
theorem grow_new {ι : Map} {w : World} (hr : Rel ι H w) {olds olds' l l' : List Value} (ho : CRel ι olds olds') (hv : CRel ι l l') (z : Value) (size need cap : Nat) (e : TypeId) (hsz : z.cells.size = size) (hlen : olds.length + l.length = need * size) (hc : need ≤ cap) :
    ∃ ι', VRel ι' (.slice (some ⟨H.length, 0, none⟩) need need) (.slice (some ⟨w.heap.size, 0, none⟩) need cap) ∧
      Step ι H w ι' (H ++ [⟨olds ++ l, size, false, .live⟩]) (w.drew.alloc (.cells (olds'.toArray ++ l'.toArray ++ Builtin.zeroCells z.cells (cap - need)) e)) := by
  have hca : CRel ι (olds ++ l) (olds' ++ l') := ho.append hv
  have h1 := ho.1
  have h2 := hv.1
  have htop : (olds'.toArray ++ l'.toArray ++ Builtin.zeroCells z.cells (cap - need)).size = cap * size := by
    simp only [Array.size_append, List.size_toArray, size_zeroCells, hsz]
    rw [← h1, ← h2, hlen, ← Nat.add_mul]; congr 1; omega
  have s := Step.new (Step.drew hr).rel (olds ++ l) (olds'.toArray ++ l'.toArray ++ Builtin.zeroCells z.cells (cap - need)) size false e (by simp; omega) (fun i v hi => by
    obtain ⟨v', g1, g2, g3⟩ := hca.get hi
    refine ⟨g2, v', ?_, g3⟩
    have hil := (List.getElem?_eq_some_iff.1 g1).1
    have : (olds'.toArray ++ l'.toArray ++ Builtin.zeroCells z.cells (cap - need))[i]? = (olds' ++ l' ++ (Builtin.zeroCells z.cells (cap - need)).toList)[i]? := by rw [← Array.getElem?_toList]; simp
    rw [this, List.getElem?_append_left hil]
    exact g1)
  refine ⟨_, ?_, (Step.drew hr).trans (.refl H) s⟩
  refine .slice (b := H.length) (off := 0) (inf := ⟨w.heap.size, 0, _, _, size, false⟩) (Map.add_same _ _ _) (Nat.le_refl _) hc (fun h => ?_) (fun _ => ?_)
  · rcases h with h | h
    · cases h
    · simp only [List.length_append] at h; omega
  · simp only [htop]; omega

def aAppend (P : Program) (H : Heap) (t u : TypeId) (s x : Value) : Option (Value × Heap) :=
  match P.underlying t with
  | some (.slice e) => match aZero P e, P.info? e with
    | some z, some q => if q.size = z.cells.size ∧ 0 < q.size ∧ q.bytes ≤ 65536 then
      match aNews P H z u x with
      | some (n, l) => match s with
        | .slice none len cap =>
          if n = 0 ∧ len = 0 ∧ cap = 0 then some (.slice none 0 0, H)
          else if len = 0 ∧ cap = 0 ∧ n * q.bytes ≤ 140737488355328 ∧ n ≤ 140737488355328 then some (.slice (some ⟨H.length, 0, none⟩) n n, H ++ [⟨l, q.size, false, .live⟩]) else none
        | .slice (some a) len cap =>
          if n = 0 then if len ≤ cap then some (.slice (some a) len cap, H) else none
          else if len + n ≤ cap then (wrBlk H a.block (a.off + len * q.size) l).map fun H' => (.slice (some a) (len + n) cap, H')
          else if (len + n) * q.bytes ≤ 140737488355328 ∧ len + n ≤ 140737488355328 then
            match H[a.block]?, rdBlk H a.block a.off (len * q.size) with
            | some k, some olds =>
              if k.tight || (k.sz == q.size && decide (a.off + cap * q.size < k.cells.length)) then some (.slice (some ⟨H.length, 0, none⟩) (len + n) (len + n), H ++ [⟨olds ++ l, q.size, false, .live⟩])
              else if k.mode = .live ∧ k.sz = q.size then some (.slice (some ⟨H.length, 0, none⟩) (len + n) (len + n), H.set a.block { k with mode := .dead } ++ [⟨olds ++ l, q.size, false, .live⟩])
              else none
            | _, _ => none
          else none
        | _ => none
      | none => none
      else none
    | _, _ => none
  | _ => none

theorem aZero_info {t : TypeId} {z : Value} {q : TypeInfo} (h : aZero P t = some z) (hq : P.info? t = some q) : q.zero = some z := by
  unfold aZero at h
  rw [hq] at h
  simp only at h
  split at h
  · rename_i z' hz
    split at h
    · cases h; exact hz
    · cases h
  · cases h

theorem OpTo.append {dst : Option Tmp} {t u ty : TypeId} {s x : Operand} {pos : String} {after : Array Edge} {g : Option (Nat × Bool)} (h : aAppend P H t u (ρ s) (ρ x) = some (v, H')) :
    OpTo P ⟨dst, .call { callee := .builtin .append, args := #[s, x], argTypes := #[t, u] }, ty, pos, after, g⟩ ρ H v H' := by
  have hrun : ∀ (ρ' : Operand → Value) (w : World), (execOp ρ' ⟨dst, .call { callee := .builtin .append, args := #[s, x], argTypes := #[t, u] }, ty, pos, after, g⟩).run P w =
      ((Builtin.append_ #[t, u] ty #[ρ' s, ρ' x]).run P w).andThen fun a w' => .ok (.value a) w' := by
    intro ρ' w
    simp [execOp, resolve, invoke, builtin]
  unfold aAppend at h
  split at h
  · rename_i e hu
    split at h
    · rename_i z q ez hq
      split at h
      · rename_i hs
        obtain ⟨hs1, hs2, hs3⟩ := hs
        split at h
        · rename_i n l hn
          obtain ⟨_, hpl, _⟩ := aZero_run ez default
          have hzz := aZero_info ez hq
          split at h
          · rename_i len cap es
            split at h
            · rename_i h0
              obtain ⟨rfl, rfl, rfl⟩ := h0
              cases h
              refine .pure fun ι w ρ' hr hx => ?_
              have h1 := hx s (by simp [Op.operands, Call.operands])
              have h2 := hx x (by simp [Op.operands, Call.operands])
              obtain ⟨l', g1, g2, g3⟩ := aNews_run hr hq hzz hpl hs1 hs2 hs3 hn h2
              rw [es] at h1
              have e' : ρ' s = .slice none 0 0 := by
                generalize hv : ρ' s = vs at h1
                cases h1; rfl
              refine ⟨.slice none 0 0, ?_, .nilslice⟩
              rw [hrun, e', g3.run w rfl none 0 0 t ty hu (Nat.le_refl _) w rfl]
              rfl
            · rename_i h0
              split at h
              · rename_i hb
                obtain ⟨rfl, rfl, hb1, hb2⟩ := hb
                cases h
                refine ⟨HExt.app _ _, fun ι w ρ' hr hx => ?_⟩
                have h1 := hx s (by simp [Op.operands, Call.operands])
                have h2 := hx x (by simp [Op.operands, Call.operands])
                obtain ⟨l', g1, g2, g3⟩ := aNews_run hr hq hzz hpl hs1 hs2 hs3 hn h2
                rw [es] at h1
                have e' : ρ' s = .slice none 0 0 := by
                  generalize hv : ρ' s = vs at h1
                  cases h1; rfl
                have hgr := g3.grow w rfl none 0 0 t ty z [] hu hzz (by omega) (by simpa using hb1) (by omega) (fun w2 _ => by simp [Builtin.firstCells])
                obtain ⟨ι', k1, k2⟩ := grow_new hr (CRel.nil (ι := ι)) g1 z q.size n (grownCap w (0 + n) 0 e) e hs1.symm (by simpa using g2) (by have := grownCap_ge w (0 + n) 0 e; omega)
                rw [hrun, e', hgr]
                simp only [Nat.zero_add] at k1 k2 ⊢
                exact ⟨ι', k1, k2⟩
              · cases h
          · rename_i a len cap es
            split at h
            · rename_i h0
              subst h0
              split at h
              · rename_i hlc
                cases h
                refine .pure fun ι w ρ' hr hx => ?_
                have h1 := hx s (by simp [Op.operands, Call.operands])
                have h2 := hx x (by simp [Op.operands, Call.operands])
                obtain ⟨l', g1, g2, g3⟩ := aNews_run hr hq hzz hpl hs1 hs2 hs3 hn h2
                rw [es] at h1
                have hl0 : l' = [] := List.eq_nil_of_length_eq_zero (by rw [← g1.1, g2]; simp)
                subst hl0
                obtain ⟨a', c', e', hnn, hcc⟩ := slice_inv h1
                refine ⟨ρ' s, ?_, h1⟩
                rw [hrun, e', g3.run w rfl a' len c' t ty hu (by omega) w (by cases a' <;> rfl)]
                rfl
              · cases h
            · rename_i h0
              split at h
              · rename_i hroom
                rw [Option.map_eq_some_iff] at h
                obtain ⟨H1, hw1, h⟩ := h
                cases h
                refine ⟨wrBlk_ext hw1, fun ι w ρ' hr hx => ?_⟩
                have h1 := hx s (by simp [Op.operands, Call.operands])
                have h2 := hx x (by simp [Op.operands, Call.operands])
                obtain ⟨l', g1, g2, g3⟩ := aNews_run hr hq hzz hpl hs1 hs2 hs3 hn h2
                rw [es] at h1
                rcases slice_some_inv h1 with ⟨rfl, rfl, _⟩ | ⟨b, off, c', inf, rfl, hb, e', hlc, hcc, hex, hrm⟩
                · omega
                obtain ⟨w', k1, k2⟩ := wrBlk_run (P := P) hr hb hw1 g1
                rw [hrun, e', g3.run w rfl (some ⟨inf.B, inf.sh + off, none⟩) len c' t ty hu (by omega) w' (by simpa [Addr.add_eq, Nat.add_assoc] using k1)]
                exact ⟨ι, .slice hb hroom hcc hex hrm, k2⟩
              · rename_i hroom
                split at h
                · rename_i hb
                  obtain ⟨hb1, hb2⟩ := hb
                  split at h
                  · rename_i k olds hk hold
                    split at h
                    · rename_i hex0
                      cases h
                      refine ⟨HExt.app _ _, fun ι w ρ' hr hx => ?_⟩
                      have h1 := hx s (by simp [Op.operands, Call.operands])
                      have h2 := hx x (by simp [Op.operands, Call.operands])
                      obtain ⟨l', g1, g2, g3⟩ := aNews_run hr hq hzz hpl hs1 hs2 hs3 hn h2
                      rw [es] at h1
                      rcases slice_some_inv h1 with ⟨rfl, rfl, a', e'⟩ | ⟨b, off, c', inf, rfl, hb, e', hlc, hcc, hex, hrm⟩
                      · have ho0 : olds = [] := by
                          unfold rdBlk at hold
                          rw [hk] at hold
                          simp only [Nat.zero_mul] at hold
                          split at hold
                          · cases hold; simp
                          · cases hold
                        subst ho0
                        have hgr := g3.grow w rfl (some a') 0 0 t ty z [] hu hzz (by omega) hb1 hb2 (fun w2 _ => by simp [Builtin.firstCells, loadCells, loadCellsFrom])
                        obtain ⟨ι', k1, k2⟩ := grow_new hr (CRel.nil (ι := ι)) g1 z q.size (0 + n) (grownCap w (0 + n) 0 e) e hs1.symm (by simpa using g2) (grownCap_ge w (0 + n) 0 e)
                        rw [hrun, e', hgr]
                        exact ⟨ι', k1, k2⟩
                      · obtain ⟨kk, p1, p2, p3, p4, _⟩ := hr.blk b inf hb
                        rw [hk] at p1; cases p1
                        have hc' : c' = cap := by
                          apply hex
                          simp only [Bool.or_eq_true, Bool.and_eq_true, beq_iff_eq, decide_eq_true_eq] at hex0
                          rcases hex0 with h3 | ⟨h3, h4⟩
                          · exact .inl (p4.trans h3)
                          · right; rw [p2, p3, h3]; exact h4
                        subst hc'
                        obtain ⟨olds', o1, o2, o3, o4⟩ := rdBlk_run hr hb hold
                        have hgr := g3.grow w rfl (some ⟨inf.B, inf.sh + off, none⟩) len c' t ty z olds' hu hzz (by omega) hb1 hb2 (fun w2 hw2 => run_firstCells_some w2 q.size len _ _ _ olds' o3 (fun j v' hv => by
                          have := o4 j v' hv
                          simpa [World.cell?, hw2] using this))
                        obtain ⟨ι', k1, k2⟩ := grow_new hr o1 g1 z q.size (len + n) (grownCap w (len + n) c' e) e hs1.symm (by rw [o2, g2, Nat.add_mul]) (grownCap_ge w (len + n) c' e)
                        rw [hrun, e', hgr]
                        exact ⟨ι', k1, k2⟩
                    · split at h
                      · rename_i hlive
                        cases h
                        have hx1 : HExt (H.set a.block { k with mode := .dead }) (H.set a.block { k with mode := .dead } ++ [⟨olds ++ l, q.size, false, .live⟩]) := HExt.app _ _
                        refine ⟨(kill_ext hk).trans hx1, fun ι w ρ' hr hx => ?_⟩
                        have h1 := hx s (by simp [Op.operands, Call.operands])
                        have h2 := hx x (by simp [Op.operands, Call.operands])
                        obtain ⟨l', g1, g2, g3⟩ := aNews_run hr hq hzz hpl hs1 hs2 hs3 hn h2
                        rw [es] at h1
                        have hkill := Step.kill hr hk
                        have hlenH : (H.set a.block { k with mode := .dead }).length = H.length := by simp
                        rcases slice_some_inv h1 with ⟨rfl, rfl, a', e'⟩ | ⟨b, off, c', inf, rfl, hb, e', hlc, hcc, hex, hrm⟩
                        · have ho0 : olds = [] := by
                            unfold rdBlk at hold
                            rw [hk] at hold
                            simp only [Nat.zero_mul] at hold
                            split at hold
                            · cases hold; simp
                            · cases hold
                          subst ho0
                          have hgr := g3.grow w rfl (some a') 0 0 t ty z [] hu hzz (by omega) hb1 hb2 (fun w2 _ => by simp [Builtin.firstCells, loadCells, loadCellsFrom])
                          obtain ⟨ι', k1, k2⟩ := grow_new hkill.rel (CRel.nil (ι := ι)) g1 z q.size (0 + n) (grownCap w (0 + n) 0 e) e hs1.symm (by simpa using g2) (grownCap_ge w (0 + n) 0 e)
                          rw [hrun, e', hgr]
                          rw [hlenH] at k1
                          exact ⟨ι', k1, hkill.trans (kill_ext hk) k2⟩
                        · obtain ⟨olds', o1, o2, o3, o4⟩ := rdBlk_run hr hb hold
                          obtain ⟨kk, p1, p2, p3, p4, p5⟩ := hr.blk b inf hb
                          rw [hk] at p1; cases p1
                          have hin : off + len * q.size ≤ k.cells.length ∧ olds = (k.cells.drop off).take (len * q.size) := by
                            unfold rdBlk at hold
                            rw [hk] at hold
                            simp only at hold
                            split at hold
                            · rename_i hh; cases hold; exact ⟨hh.2, rfl⟩
                            · cases hold
                          by_cases hin2 : len + n ≤ c'
                          · obtain ⟨cs, el, fr, q1, q2, q3, q4, q5⟩ := (p5 (by rw [hlive.1]; simp)).ex
                            have hfr := q5 hlive.1
                            subst hfr
                            have ht : inf.tight = false := by
                              cases hti : inf.tight with
                              | false => rfl
                              | true => have := hex (.inl hti); omega
                            have hrm1 := hrm ht
                            rw [p3, hlive.2] at hrm1
                            have hll := g1.1
                            have hfit : inf.sh + off + len * q.size + l.length ≤ inf.top := by
                              rw [g2]
                              have : (len + n) * q.size ≤ c' * q.size := Nat.mul_le_mul_right _ hin2
                              rw [Nat.add_mul] at this
                              omega
                            have hst := run_storeCells_at P inf.B (inf.sh + off + len * q.size) el l' 0 cs w q1 (by omega) g1.one'
                            simp only [Nat.add_zero] at hst
                            have hs5 := Step.regrow hr hb hk hlive.1 (sz := q.size) g1 hin.1 q1 hfit
                            rw [hrun, e', g3.run w rfl (some ⟨inf.B, inf.sh + off, none⟩) len c' t ty hu hin2 (w.setRow inf.B (cs.toList.take (inf.sh + off + len * q.size) ++ l' ++ cs.toList.drop (inf.sh + off + len * q.size + l'.length)).toArray) (by show (storeCells (Addr.add ⟨inf.B, inf.sh + off, none⟩ (len * q.size)) l').run P w = _; rw [Addr.add_eq]; exact hst)]
                            rw [hin.2]
                            refine ⟨_, ?_, hs5⟩
                            refine .slice (b := H.length) (off := 0) (inf := ⟨inf.B, inf.sh + off, inf.top, len * q.size + l.length, q.size, false⟩) (Map.add_same _ _ _) (Nat.le_refl _) hin2 (fun hh => ?_) (fun _ => ?_)
                            · rcases hh with hh | hh
                              · cases hh
                              · simp only at hh; rw [g2, ← Nat.add_mul] at hh; omega
                            · simp only; omega
                          · have hgr := g3.grow w rfl (some ⟨inf.B, inf.sh + off, none⟩) len c' t ty z olds' hu hzz (by omega) hb1 hb2 (fun w2 hw2 => run_firstCells_some w2 q.size len _ _ _ olds' o3 (fun j v' hv => by
                              have := o4 j v' hv
                              simpa [World.cell?, hw2] using this))
                            obtain ⟨ι', k1, k2⟩ := grow_new hkill.rel o1 g1 z q.size (len + n) (grownCap w (len + n) c' e) e hs1.symm (by rw [o2, g2, Nat.add_mul]) (grownCap_ge w (len + n) c' e)
                            rw [hrun, e', hgr]
                            rw [hlenH] at k1
                            exact ⟨ι', k1, hkill.trans (kill_ext hk) k2⟩
                      · cases h
                  · cases h
                · cases h
          · cases h
        · cases h
      · cases h
    · cases h
  · cases h
end Go.Am
