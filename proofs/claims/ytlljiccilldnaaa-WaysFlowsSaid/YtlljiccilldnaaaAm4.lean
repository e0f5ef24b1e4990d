/- Operations that read or write memory. -/
import Derived.Test.YtlljiccilldnaaaAm3
import Derived.Laws.Small
set_option linter.unusedVariables false
set_option linter.unusedSimpArgs false
namespace Go.Am
open Go
variable {P : Program} {ρ : Operand → Value} {H H' : Heap} {v : Value} {o : Oper}

/-! ### Slicing -/
def aBound (x : Option Value) (dflt top : Nat) : Option Nat :=
  match x with
  | none => some dflt
  | some (.int _ i) => if 0 ≤ i ∧ i ≤ top then some i.toNat else none
  | some _ => none

theorem aBound_mono {x : Option Value} {d top top' r : Nat} (h : aBound x d top = some r) (ht : top ≤ top') : aBound x d top' = some r := by
  unfold aBound at h ⊢
  split at h
  · exact h
  · split at h
    · rename_i hi; rw [if_pos (by omega)]; exact h
    · cases h
  · cases h

theorem aBound_d (x : Value) (d d' top : Nat) : aBound (some x) d top = aBound (some x) d' top := by cases x <;> rfl

theorem aBound_rel {ι : Map} {x : Option Operand} {ρ' : Operand → Value} {d top r : Nat} (h : aBound (x.map ρ) d top = some r) (hx : ∀ y, x = some y → VRel ι (ρ y) (ρ' y)) : x.map ρ' = x.map ρ := by
  cases x with
  | none => rfl
  | some y =>
    have hy := hx y rfl
    simp only [Option.map_some] at h ⊢
    unfold aBound at h
    split at h
    · rename_i e; cases e
    · rename_i k i e
      cases e' : ρ y <;> rw [e'] at e <;> cases e
      rw [e'] at hy; rw [int_inv hy]
    · cases h

theorem run_bound {x : Value} {d top r : Nat} {code : BoundsCode} (h : aBound (some x) d top = some r) (w : World) : (Instr.sliceBound x top code).run P w = .ok r w := by
  unfold aBound at h
  split at h
  · rename_i e; cases e
  · rename_i k i e
    cases e
    split at h
    · rename_i hi; cases h; exact run_sliceBound w k i top code hi.1 hi.2
    · cases h
  · cases h

theorem run_bounds {isSlice : Bool} {len cap l h m : Nat} {lo hi mx : Option Value} (hm : aBound mx cap cap = some m) (hh : aBound hi len m = some h) (hl : aBound lo 0 h = some l) (hne : mx.isSome = true → hi.isSome = true) (w : World) :
    (Instr.sliceBounds isSlice len cap lo hi mx).run P w = .ok (l, h, m) w := by
  unfold Instr.sliceBounds
  cases mx with
  | none =>
    cases hm
    cases hi with
    | none =>
      cases hh
      cases lo with
      | none => cases hl; simp
      | some lo => simp [run_bound hl]
    | some hi =>
      cases lo with
      | none => cases hl; simp [run_bound hh]
      | some lo => simp [run_bound hh, run_bound hl]
  | some mx =>
    cases hi with
    | none => simp at hne
    | some hi =>
      cases lo with
      | none => cases hl; simp [run_bound hh, run_bound hm]
      | some lo => simp [run_bound hh, run_bound hm, run_bound hl]

/-- May this block's slices be cut at elements of so many cells? -/
def okShare (H : Heap) (b size : Nat) : Bool :=
  match H[b]? with
  | some k => k.tight || k.sz == size
  | none => false

def aSlice (P : Program) (H : Heap) (t : TypeId) (x : Value) (lo hi mx : Option Value) : Option Value :=
  if mx.isSome && !hi.isSome then none else
  match P.underlying t, x with
  | some .string, .string s =>
    if mx.isSome then none else
    match aBound hi s.size s.size with
    | some h => match aBound lo 0 h with
      | some l => some (.string (s.extract l h))
      | none => none
    | none => none
  | some (.slice e), .slice a len cap =>
    match P.info? e with
    | some q => match aBound mx cap cap with
      | some m => match aBound hi len m with
        | some h => match aBound lo 0 h with
          | some l => match a with
            | none => if h = 0 ∧ m = 0 then some (.slice none 0 0) else none
            | some ad => if okShare H ad.block q.size && decide (h ≤ m) then some (.slice (some ⟨ad.block, ad.off + l * q.size, none⟩) (h - l) (m - l)) else none
          | none => none
        | none => none
      | none => none
    | none => none
  | some (.array n e), .pointer (some ad) =>
    match P.info? e with
    | some q => match aBound mx n n with
      | some m => match aBound hi n m with
        | some h => match aBound lo 0 h with
          | some l => match H[ad.block]? with
            | some k => if k.tight && decide (h ≤ m) then some (.slice (some ⟨ad.block, ad.off + l * q.size, none⟩) (h - l) (m - l)) else none
            | none => none
          | none => none
        | none => none
      | none => none
    | none => none
  | _, _ => none

theorem aBound_le {x : Option Value} {d top r : Nat} (h : aBound x d top = some r) (hd : d ≤ top) : r ≤ top := by
  unfold aBound at h
  split at h
  · cases h; exact hd
  · split at h
    · cases h; omega
    · cases h
  · cases h

theorem okShare_rel {ι : Map} {w : World} {b size : Nat} {inf : Info} (hr : Rel ι H w) (hb : ι b = some inf) (h : okShare H b size = true) : inf.tight = true ∨ inf.sz = size := by
  obtain ⟨k, h1, h2, h3, h4, _⟩ := hr.blk b inf hb
  unfold okShare at h
  rw [h1] at h
  simp at h
  rcases h with h | h
  · exact .inl (h4.trans h)
  · exact .inr (h3.trans h)

theorem OpTo.slice {dst : Option Tmp} {t ty : TypeId} {x : Operand} {lo hi mx : Option Operand} {pos : String} {after : Array Edge} {g : Option (Nat × Bool)} (h : aSlice P H t (ρ x) (lo.map ρ) (hi.map ρ) (mx.map ρ) = some v) :
    OpTo P ⟨dst, .slice t x lo hi mx, ty, pos, after, g⟩ ρ H v H :=
  .pure fun ι w ρ' hr hx => by
    have h1 := hx x (by simp [Op.operands])
    have hlo : ∀ y, lo = some y → VRel ι (ρ y) (ρ' y) := fun y e => hx y (by simp [Op.operands, e])
    have hhi : ∀ y, hi = some y → VRel ι (ρ y) (ρ' y) := fun y e => hx y (by simp [Op.operands, e])
    have hmx : ∀ y, mx = some y → VRel ι (ρ y) (ρ' y) := fun y e => hx y (by simp [Op.operands, e])
    unfold aSlice at h
    split at h
    · cases h
    rename_i hne
    have hne' : (mx.map ρ).isSome = true → (hi.map ρ).isSome = true := by
      cases mx <;> cases hi <;> simp at hne ⊢
    split at h
    · rename_i s hu e
      rw [e] at h1
      split at h
      · cases h
      rename_i hms
      have hm0 : mx = none := by cases mx <;> simp at hms ⊢
      subst hm0
      split at h
      · rename_i hh e2
        split at h
        · rename_i l e3
          cases h
          refine ⟨_, ?_, .string _⟩
          have b := run_bounds (P := P) (isSlice := false) (len := s.size) (cap := s.size) (mx := none) (m := s.size) rfl e2 e3 (by simp) w
          simp only [execOp, Sem.run_bind, string_inv h1, run_sliceAt_string w t _ _ _ _ hu]
          rw [aBound_rel e2 hhi, aBound_rel e3 hlo]
          simp [Instr.slice, run_underlying hu, b]
        · cases h
      · cases h
    · rename_i el a len cap hu e
      rw [e] at h1
      split at h
      · rename_i q hq
        split at h
        · rename_i m em
          split at h
          · rename_i hh eh
            split at h
            · rename_i l elo
              have hue : P.underlying t = some (.slice (P.elem t)) := by simp [Program.elem, hu]
              have hel : P.elem t = el := by simp [Program.elem, hu]
              split at h
              · split at h
                · rename_i hz
                  cases h
                  obtain ⟨a', c', e', hn, hc⟩ := slice_inv h1
                  cases a' with
                  | some a' => cases hn
                  | none =>
                    generalize hv : ρ' x = vx at h1 e'
                    have hc0 : c' = 0 ∧ cap = 0 ∧ len = 0 := by
                      subst e'
                      cases h1; exact ⟨rfl, rfl, rfl⟩
                    obtain ⟨rfl, rfl, rfl⟩ := hc0
                    obtain ⟨rfl, rfl⟩ := hz
                    have hl0 : l = 0 := by have := aBound_le elo (Nat.zero_le _); omega
                    subst hl0
                    refine ⟨.slice none 0 0, ?_, .nilslice⟩
                    have b := run_bounds (P := P) (isSlice := true) em eh elo hne' w
                    simp only [execOp, Sem.run_bind, hv, e', run_sliceAt_slice w t _ _ _ _ hue]
                    rw [aBound_rel em hmx, aBound_rel eh hhi, aBound_rel elo hlo]
                    simp [Instr.slice, run_underlying hu, b, run_sizeOf' hq]
                · cases h
              · rename_i ad
                split at h
                · rename_i hs
                  simp only [Bool.and_eq_true, decide_eq_true_eq] at hs
                  obtain ⟨hs, hhm⟩ := hs
                  cases h
                  have hlh : l ≤ hh := aBound_le elo (Nat.zero_le _)
                  have hmc : m ≤ cap := aBound_le em (Nat.le_refl _)
                  -- the machine's own bound
                  have conc : ∀ (a' : Addr) (c' : Nat), ρ' x = .slice (some a') len c' → cap ≤ c' → ∃ m', m ≤ m' ∧ m' ≤ c' ∧ (mx = none → m' = c' ∧ m = cap) ∧ (mx ≠ none → m' = m) ∧
                      (execOp ρ' ⟨dst, .slice t x lo hi mx, ty, pos, after, g⟩).run P w = .ok (.value (.slice (some (if m' = l then a' else a'.add (l * q.size))) (hh - l) (m' - l))) w := by
                    intro a' c' e' hc
                    obtain ⟨m', em', h1', h2', h3', h4'⟩ : ∃ m', aBound (mx.map ρ) c' c' = some m' ∧ m ≤ m' ∧ m' ≤ c' ∧ (mx = none → m' = c' ∧ m = cap) ∧ (mx ≠ none → m' = m) := by
                      cases mx with
                      | none => cases em; exact ⟨c', rfl, hc, Nat.le_refl _, fun _ => ⟨rfl, rfl⟩, fun h => absurd rfl h⟩
                      | some y => exact ⟨m, (aBound_d _ _ _ _).trans (aBound_mono em hc), Nat.le_refl _, by omega, fun h => (by cases h), fun _ => rfl⟩
                    refine ⟨m', h1', h2', h3', h4', ?_⟩
                    have b := run_bounds (P := P) (isSlice := true) em' (aBound_mono eh h1') elo hne' w
                    simp only [execOp, Sem.run_bind, e', run_sliceAt_slice w t _ _ _ _ hue]
                    rw [aBound_rel em hmx, aBound_rel eh hhi, aBound_rel elo hlo]
                    simp [Instr.slice, run_underlying hu, b, run_sizeOf' hq]
                    split <;> rfl
                  rcases slice_some_inv h1 with ⟨rfl, rfl, a', e'⟩ | ⟨b, off, c', inf, rfl, hb, e', hlc, hcc, hex, hroom⟩
                  · obtain ⟨m', g1, g2, _, _, g5⟩ := conc a' 0 e' (Nat.le_refl _)
                    refine ⟨_, g5, ?_⟩
                    have : hh - l = 0 ∧ m - l = 0 ∧ m' - l = 0 := by omega
                    rw [this.1, this.2.1, this.2.2]
                    obtain ⟨_, _, hb⟩ := slice_block h1
                    exact .slice0 hb
                  · obtain ⟨m', g1, g2, g3, g4, g5⟩ := conc _ c' e' hcc
                    refine ⟨_, g5, ?_⟩
                    have hsz := okShare_rel hr hb hs
                    by_cases hml : m' = l
                    · rw [if_pos hml]
                      have : hh - l = 0 ∧ m - l = 0 ∧ m' - l = 0 := by omega
                      rw [this.1, this.2.1, this.2.2]
                      exact .slice0 hb
                    · rw [if_neg hml, Addr.add_eq]
                      have hadd : inf.sh + off + l * q.size = inf.sh + (off + l * q.size) := by omega
                      rw [hadd]
                      show VRel ι (.slice (some ⟨b, off + l * q.size, none⟩) (hh - l) (m - l)) _
                      refine .slice hb (by omega) (by omega) (fun hcond => ?_) (fun ht => ?_)
                      · by_cases hmx0 : mx = none
                        · obtain ⟨rfl, rfl⟩ := g3 hmx0
                          have hc2 : m' = m := by
                            apply hex
                            rcases hcond with hcond | hcond
                            · exact .inl hcond
                            · rcases hsz with hsz | hsz
                              · exact .inl hsz
                              · right
                                simp only [hsz] at hcond ⊢
                                have : l * q.size + (m - l) * q.size = m * q.size := by rw [← Nat.add_mul]; congr 1; omega
                                omega
                          omega
                        · have := g4 hmx0
                          omega
                      · have hr1 := hroom ht
                        rcases hsz with hsz | hsz
                        · rw [hsz] at ht; cases ht
                        · rw [hsz] at hr1 ⊢
                          have : l * q.size + (m' - l) * q.size = m' * q.size := by rw [← Nat.add_mul]; congr 1; omega
                          have : m' * q.size ≤ c' * q.size := Nat.mul_le_mul_right _ g2
                          omega
                · cases h
            · cases h
          · cases h
        · cases h
      · cases h
    · rename_i n el ad hu e
      rw [e] at h1
      split at h
      · rename_i q hq
        split at h
        · rename_i m em
          split at h
          · rename_i hh eh
            split at h
            · rename_i l elo
              split at h
              · rename_i k hk
                split at h
                · rename_i hs
                  simp only [Bool.and_eq_true, decide_eq_true_eq] at hs
                  obtain ⟨hs, hhm⟩ := hs
                  cases h
                  have hlh : l ≤ hh := aBound_le elo (Nat.zero_le _)
                  have hmc : m ≤ n := aBound_le em (Nat.le_refl _)
                  obtain ⟨b, off, inf, rfl, hb, e'⟩ := ptr_some_inv h1
                  have b0 := run_bounds (P := P) (isSlice := false) em eh elo hne' w
                  have run : (execOp ρ' ⟨dst, .slice t x lo hi mx, ty, pos, after, g⟩).run P w = .ok (.value (.slice (some (if m = l then ⟨inf.B, inf.sh + off, none⟩ else ⟨inf.B, inf.sh + off + l * q.size, none⟩)) (hh - l) (m - l))) w := by
                    simp only [execOp, Sem.run_bind, e']
                    rw [aBound_rel em hmx, aBound_rel eh hhi, aBound_rel elo hlo]
                    simp [Instr.sliceAt, run_underlying hu, Instr.sureAddr, b0, run_sizeOf' hq, Addr.add_eq]
                  refine ⟨_, run, ?_⟩
                  by_cases hml : m = l
                  · have : hh - l = 0 ∧ m - l = 0 := by omega
                    rw [this.1, this.2]
                    exact .slice0 hb
                  · rw [if_neg hml, Nat.add_assoc]
                    obtain ⟨k', g1, _, _, g4, _⟩ := hr.blk b inf hb
                    rw [hk] at g1; cases g1
                    show VRel ι (.slice (some ⟨b, off + l * q.size, none⟩) (hh - l) (m - l)) _
                    exact .slice hb (by omega) (Nat.le_refl _) (fun _ => rfl) (fun ht => by rw [g4, hs] at ht; cases ht)
                · cases h
              · cases h
            · cases h
          · cases h
        · cases h
      · cases h
    · cases h

/-! ### New blocks -/
def newBlk (H : Heap) (cells : List Value) : Heap := H ++ [⟨cells, 0, true, .live⟩]

theorem new_yields {w : World} {ι : Map} (hr : Rel ι H w) {cells : List Value} {cells' : Array Value} (hc : CRel ι cells cells'.toList) (el : TypeId) :
    ∃ ι', VRel ι' (.pointer (some ⟨H.length, 0, none⟩)) (.pointer (some ⟨w.heap.size, 0, none⟩)) ∧ Step ι H w ι' (newBlk H cells) (w.alloc (.cells cells' el)) := by
  have hl : cells.length = cells'.size := by simpa using hc.1
  have s := Step.new hr cells cells' 0 true el (by omega) (fun i v hv => by
    obtain ⟨v', h1, h2, h3⟩ := hc.get hv
    exact ⟨h2, v', by simpa using h1, h3⟩)
  refine ⟨_, ?_, s⟩
  exact .ptr (b := H.length) (off := 0) (inf := ⟨w.heap.size, 0, cells'.size, cells.length, 0, true⟩) (Map.add_same _ _ _)

theorem newBlk_ext (H : Heap) (cells : List Value) : HExt H (newBlk H cells) := HExt.app H _

theorem OpTo.box {dst : Option Tmp} {el ty : TypeId} {x : Operand} {pos : String} {after : Array Edge} {g : Option (Nat × Bool)} (h : solid (ρ x) = true) :
    OpTo P ⟨dst, .box el x, ty, pos, after, g⟩ ρ H (.pointer (some ⟨H.length, 0, none⟩)) (newBlk H (ρ x).cells.toList) :=
  ⟨newBlk_ext _ _, fun ι w ρ' hr hx => by
    have h1 := cells_rel (hx x (by simp [Op.operands])) h
    obtain ⟨ι', h2, h3⟩ := new_yields hr h1 el
    have e : (execOp ρ' ⟨dst, .box el x, ty, pos, after, g⟩).run P w = .ok (.value (.pointer (some ⟨w.heap.size, 0, none⟩))) (w.alloc (.cells (ρ' x).cells el)) := by
      simp [execOp, Instr.box, newVar, newRow]
    rw [e]
    exact ⟨ι', h2, h3⟩⟩

/-- A type's zero value, if it can lie in memory. -/
def aZero (P : Program) (t : TypeId) : Option Value :=
  match P.info? t with
  | some i => match i.zero with
    | some z => if solid z && z.cells.all plainConst then some z else none
    | none => none
  | none => none

theorem aZero_run {t : TypeId} {z : Value} (h : aZero P t = some z) (w : World) : (zeroValue t).run P w = .ok z w ∧ z.cells.toList.all plainConst = true ∧ solid z = true := by
  unfold aZero at h
  split at h
  · rename_i i hi
    split at h
    · rename_i z' hz
      split at h
      · rename_i hs
        cases h
        simp only [Bool.and_eq_true] at hs
        exact ⟨by simp [zeroValue, typeInfo, hi, hz], by simpa using hs.2, hs.1⟩
      · cases h
    · cases h
  · cases h

theorem OpTo.alloc {dst : Option Tmp} {el ty : TypeId} {pos : String} {after : Array Edge} {g : Option (Nat × Bool)} {z : Value} (h : aZero P el = some z) :
    OpTo P ⟨dst, .alloc el, ty, pos, after, g⟩ ρ H (.pointer (some ⟨H.length, 0, none⟩)) (newBlk H z.cells.toList) :=
  ⟨newBlk_ext _ _, fun ι w ρ' hr hx => by
    obtain ⟨hz, hp, _⟩ := aZero_run h w
    obtain ⟨ι', h2, h3⟩ := new_yields hr (CRel.const (ι := ι) hp) el
    have e : (execOp ρ' ⟨dst, .alloc el, ty, pos, after, g⟩).run P w = .ok (.value (.pointer (some ⟨w.heap.size, 0, none⟩))) (w.alloc (.cells z.cells el)) := by
      simp [execOp, Instr.alloc, hz, newVar, newRow]
    rw [e]
    exact ⟨ι', h2, h3⟩⟩

/-! ### Literals -/
def aFill (place : Nat → Option (Nat × Nat)) : List Value → List (Nat × Value) → Option (List Value)
  | cells, [] => some cells
  | cells, (i, v) :: rest =>
    match place i with
    | none => none
    | some (off, size) => if solid v && decide (v.cells.size = size) && decide (off + size ≤ cells.length) then aFill place (cells.take off ++ v.cells.toList ++ cells.drop (off + size)) rest else none

theorem foldl_set (off : Nat) : ∀ (l : List Value) (k : Nat) (cs : Array Value), off + k + l.length ≤ cs.size →
    ((l.zipIdx k).foldl (fun (cs : Array Value) (p : Value × Nat) => cs.setIfInBounds (off + p.2) p.1) cs).toList = cs.toList.take (off + k) ++ l ++ cs.toList.drop (off + k + l.length)
  | [], k, cs, h => by simp
  | v :: l, k, cs, h => by
    simp only [List.zipIdx_cons, List.foldl_cons]
    simp only [List.length_cons] at h ⊢
    rw [foldl_set off l (k + 1) _ (by simp; omega)]
    have e := list_seg_step cs.toList (off + k) v l (by simp; omega)
    simp only [Array.toList_setIfInBounds]
    rw [← Nat.add_assoc]
    rw [e]

theorem fill_rel {ι : Map} (place : Nat → Option (Nat × Nat)) : ∀ (parts parts' : List (Nat × Value)) (cells : List Value) (cells' : Array Value) (r : List Value), CRel ι cells cells'.toList → parts.length = parts'.length →
    (∀ i (h : i < parts.length) (h' : i < parts'.length), parts[i].1 = parts'[i].1 ∧ VRel ι parts[i].2 parts'[i].2) → aFill place cells parts = some r → ∃ r', Instr.fill place cells' parts' = some r' ∧ CRel ι r r'.toList
  | [], [], cells, cells', r, hc, _, _, h => by cases h; exact ⟨cells', rfl, hc⟩
  | [], _ :: _, _, _, _, _, hl, _, _ => by simp at hl
  | _ :: _, [], _, _, _, _, hl, _, _ => by simp at hl
  | (i, v) :: parts, (i', v') :: parts', cells, cells', r, hc, hl, hp, h => by
    have h0 := hp 0 (by simp) (by simp)
    simp only [List.getElem_cons_zero] at h0
    obtain ⟨e, hv⟩ := h0
    subst e
    simp only [aFill] at h
    simp only [Instr.fill]
    split at h
    · cases h
    · rename_i off size hpl
      split at h
      · rename_i hs
        simp only [Bool.and_eq_true, decide_eq_true_eq] at hs
        obtain ⟨⟨hs1, hs2⟩, hs3⟩ := hs
        have hcv := cells_rel hv hs1
        have hsz : v'.cells.size = size := by have := hcv.1; simp at this; omega
        have hcl : cells.length = cells'.size := by simpa using hc.1
        rw [hpl]
        simp only
        rw [if_neg (by simp; omega)]
        refine fill_rel place parts parts' _ _ r ?_ (by simpa using hl) (fun j h1 h2 => hp (j + 1) (by simpa using h1) (by simpa using h2)) h
        have hf := foldl_set off v'.cells.toList 0 cells' (by simp; omega)
        have he : (v'.cells.zipIdx.foldl (fun (cs : Array Value) (p : Value × Nat) => cs.setIfInBounds (off + p.2) p.1) cells').toList = cells'.toList.take off ++ v'.cells.toList ++ cells'.toList.drop (off + size) := by
          rw [← Array.foldl_toList, Array.toList_zipIdx]
          simpa [hsz] using hf
        rw [he]
        exact ((hc.take off).append hcv).append (hc.drop (off + size))
      · cases h

def aBuild (P : Program) (t : TypeId) (parts : List (Nat × Value)) : Option Value :=
  match aZero P t, P.underlying t with
  | some z, some (.struct fs) => if fs.all (fun f => (P.info? f.type).isSome) then (aFill (fun i => (fs[i]?).map fun f => (f.offset, P.cellsOf f.type)) z.cells.toList parts).map (fun l => .agg l.toArray) else none
  | some z, some (.array _ e) => match P.info? e with
    | some q => (aFill (fun i => some (i * q.size, q.size)) z.cells.toList parts).map (fun l => .agg l.toArray)
    | none => none
  | _, _ => none

theorem run_places (fs : Array Field) (h : fs.all (fun f => (P.info? f.type).isSome) = true) (w : World) :
    (fs.mapM fun f => (do pure (f.offset, ← sizeOf f.type) : Sem (Nat × Nat))).run P w = .ok (fs.map fun f => (f.offset, P.cellsOf f.type)) w := by
  have h' := Array.all_eq_true_iff_forall_mem.1 h
  rw [Array.mapM_eq_mapM_toList, Sem.run_map]
  have : ∀ l : List Field, (∀ f ∈ l, (P.info? f.type).isSome = true) → (l.mapM fun f => (do pure (f.offset, ← sizeOf f.type) : Sem (Nat × Nat))).run P w = .ok (l.map fun f => (f.offset, P.cellsOf f.type)) w := by
    intro l
    induction l with
    | nil => intro _; simp
    | cons f l ih =>
      intro hl
      obtain ⟨i, hi⟩ := Option.isSome_iff_exists.1 (hl f (by simp))
      have ih' := ih (fun g hg => hl g (by simp [hg]))
      have e : P.cellsOf f.type = i.size := by simp [Program.cellsOf, hi]
      rw [List.mapM_cons]
      simp only [Sem.run_bind, run_sizeOf' hi, Result.andThen_ok, ih', Sem.run_pure, List.map_cons, e]
  rw [this fs.toList (fun f hf => h' f (by simpa using hf))]
  simp only [Result.andThen_ok]
  congr 1
  apply Array.ext'
  simp

def partsOf (ρ : Operand → Value) (parts : Array (Nat × Operand)) : List (Nat × Value) := parts.toList.map fun p => (p.1, ρ p.2)
theorem partsOf_eq (ρ : Operand → Value) (parts : Array (Nat × Operand)) : (parts.map fun (i, x) => (i, ρ x)).toList = partsOf ρ parts := by
  simp only [Array.toList_map]
  rfl

theorem parts_rel {ι : Map} {ρ' : Operand → Value} (parts : Array (Nat × Operand)) (hx : ∀ x ∈ (parts.toList.map (·.2)).toArray, VRel ι (ρ x) (ρ' x)) :
    (partsOf ρ parts).length = (partsOf ρ' parts).length ∧ ∀ i (h : i < (partsOf ρ parts).length) (h' : i < (partsOf ρ' parts).length), (partsOf ρ parts)[i].1 = (partsOf ρ' parts)[i].1 ∧ VRel ι (partsOf ρ parts)[i].2 (partsOf ρ' parts)[i].2 := by
  refine ⟨by simp [partsOf], fun i h h' => ?_⟩
  have hi : i < parts.toList.length := by simpa [partsOf] using h
  simp only [partsOf, List.getElem_map]
  refine ⟨trivial, hx _ ?_⟩
  simp only [List.mem_toArray, List.mem_map]
  exact ⟨parts.toList[i], List.getElem_mem hi, rfl⟩

theorem OpTo.build {dst : Option Tmp} {t ty : TypeId} {parts : Array (Nat × Operand)} {pos : String} {after : Array Edge} {g : Option (Nat × Bool)} (h : aBuild P t (partsOf ρ parts) = some v) :
    OpTo P ⟨dst, .build t parts, ty, pos, after, g⟩ ρ H v H :=
  .pure fun ι w ρ' hr hx => by
    obtain ⟨hl, hp⟩ := parts_rel parts hx
    unfold aBuild at h
    split at h
    · rename_i z fs ez hu
      split at h
      · rename_i ha
        obtain ⟨hz, hpl, _⟩ := aZero_run ez w
        rw [Option.map_eq_some_iff] at h
        obtain ⟨l, hl1, rfl⟩ := h
        obtain ⟨r', h1, h2⟩ := fill_rel (ι := ι) _ _ (partsOf ρ' parts) z.cells.toList z.cells l (CRel.const hpl) hl hp hl1
        refine ⟨.agg r', ?_, ?_⟩
        · have hpls := run_places (P := P) fs ha w
          have hpf : (fun i : Nat => (fs.map fun f : Field => (f.offset, P.cellsOf f.type))[i]?) = (fun i : Nat => (fs[i]?).map fun f : Field => (f.offset, P.cellsOf f.type)) := by funext i; simp
          simp only [execOp, Instr.build, Sem.run_bind, hz, run_underlying hu, Result.andThen_ok, hpls, hpf, partsOf_eq, h1]
          simp
        · have := VRel.ofCells h2
          simpa using this
      · cases h
    · rename_i z n e ez hu
      split at h
      · rename_i q hq
        obtain ⟨hz, hpl, _⟩ := aZero_run ez w
        rw [Option.map_eq_some_iff] at h
        obtain ⟨l, hl1, rfl⟩ := h
        obtain ⟨r', h1, h2⟩ := fill_rel (ι := ι) _ _ (partsOf ρ' parts) z.cells.toList z.cells l (CRel.const hpl) hl hp hl1
        refine ⟨.agg r', ?_, ?_⟩
        · simp only [execOp, Instr.build, Sem.run_bind, hz, run_underlying hu, Result.andThen_ok, run_sizeOf' hq, partsOf_eq, h1]
          simp
        · have := VRel.ofCells h2
          simpa using this
      · cases h
    · cases h

/-- So many zero elements. -/
def zeros (z : Value) (n : Nat) : List Value := (List.replicate n z.cells.toList).flatten

theorem length_zeros (z : Value) (n : Nat) : (zeros z n).length = n * z.cells.size := by simp [zeros]

theorem flatten_replicate_get (l : List Value) : ∀ (n i : Nat), i < n * l.length → ((List.replicate n l).flatten)[i]? = l[i % l.length]?
  | 0, i, h => by simp at h
  | n + 1, i, h => by
    rw [List.replicate_succ, List.flatten_cons]
    by_cases hi : i < l.length
    · rw [List.getElem?_append_left hi, Nat.mod_eq_of_lt hi]
    · rw [List.getElem?_append_right (by omega), flatten_replicate_get l n (i - l.length) (by rw [Nat.succ_mul] at h; omega)]
      congr 1
      exact (Nat.mod_eq_sub_mod (by omega)).symm

theorem zeros_array (z : Value) (n : Nat) (hz : 0 < z.cells.size) : ((Array.range (n * z.cells.size)).map (z.cells[· % z.cells.size]!)).toList = zeros z n := by
  apply List.ext_getElem?
  intro i
  by_cases hi : i < n * z.cells.size
  · have h1 : (zeros z n)[i]? = z.cells.toList[i % z.cells.toList.length]? := flatten_replicate_get z.cells.toList n i (by simpa using hi)
    rw [h1]
    have hm : i % z.cells.size < z.cells.size := Nat.mod_lt _ hz
    simp [hi, hm]
  · rw [List.getElem?_eq_none (by simp; omega), List.getElem?_eq_none (by rw [length_zeros]; omega)]

theorem zeros_plain {z : Value} (h : z.cells.toList.all plainConst = true) (n : Nat) : (zeros z n).all plainConst = true := by
  have h' := List.all_eq_true.1 h
  refine List.all_eq_true.2 fun x hx => ?_
  simp only [zeros, List.mem_flatten, List.mem_replicate] at hx
  obtain ⟨l, ⟨_, rfl⟩, hx⟩ := hx
  exact h' x hx

def aBuildSlice (P : Program) (t : TypeId) (len : Nat) (parts : List (Nat × Value)) : Option (List Value) :=
  match P.underlying t with
  | some (.slice e) => match aZero P e, P.info? e with
    | some z, some q => if q.size = z.cells.size ∧ 0 < q.size ∧ len * q.size ≤ 16777216 then aFill (fun i => some (i * q.size, q.size)) (zeros z len) parts else none
    | _, _ => none
  | _ => none

theorem new_slice {w : World} {ι : Map} (hr : Rel ι H w) {cells : List Value} {cells' : Array Value} (hc : CRel ι cells cells'.toList) (el : TypeId) {len cap : Nat} (hl : len ≤ cap) :
    ∃ ι', VRel ι' (.slice (some ⟨H.length, 0, none⟩) len cap) (.slice (some ⟨w.heap.size, 0, none⟩) len cap) ∧ Step ι H w ι' (newBlk H cells) (w.alloc (.cells cells' el)) := by
  have hl' : cells.length = cells'.size := by simpa using hc.1
  have s := Step.new hr cells cells' 0 true el (by omega) (fun i v hv => by
    obtain ⟨v', h1, h2, h3⟩ := hc.get hv
    exact ⟨h2, v', by simpa using h1, h3⟩)
  refine ⟨_, ?_, s⟩
  exact .slice (b := H.length) (off := 0) (inf := ⟨w.heap.size, 0, cells'.size, cells.length, 0, true⟩) (Map.add_same _ _ _) hl (Nat.le_refl _) (fun _ => rfl) (fun h => by cases h)

theorem OpTo.buildSlice {dst : Option Tmp} {t ty : TypeId} {len : Nat} {parts : Array (Nat × Operand)} {pos : String} {after : Array Edge} {g : Option (Nat × Bool)} {l : List Value} (h : aBuildSlice P t len (partsOf ρ parts) = some l) :
    OpTo P ⟨dst, .buildSlice t len parts, ty, pos, after, g⟩ ρ H (.slice (some ⟨H.length, 0, none⟩) len len) (newBlk H l) :=
  ⟨newBlk_ext _ _, fun ι w ρ' hr hx => by
    obtain ⟨hl, hp⟩ := parts_rel parts hx
    unfold aBuildSlice at h
    split at h
    · rename_i e hu
      split at h
      · rename_i z q ez hq
        split at h
        · rename_i hs
          obtain ⟨hs1, hs2, hs3⟩ := hs
          obtain ⟨hz, hpl, _⟩ := aZero_run ez w
          have hza := zeros_array z len (by omega)
          obtain ⟨r', h1, h2⟩ := fill_rel (ι := ι) _ _ (partsOf ρ' parts) (zeros z len) ((Array.range (len * z.cells.size)).map (z.cells[· % z.cells.size]!)) l
            (by rw [hza]; exact CRel.const (zeros_plain hpl len)) hl hp h
          obtain ⟨ι', h3, h4⟩ := new_slice hr h2 e (Nat.le_refl len)
          have run : (execOp ρ' ⟨dst, .buildSlice t len parts, ty, pos, after, g⟩).run P w = .ok (.value (.slice (some ⟨w.heap.size, 0, none⟩) len len)) (w.alloc (.cells r' e)) := by
            have hbig : ¬ (len * q.size > 2 ^ 24) := by omega
            by_cases h0 : len * q.size = 0
            · have h0' : len * z.cells.size = 0 := by rw [← hs1]; exact h0
              rw [h0', show (Array.range 0) = #[] from rfl, Array.map_empty] at h1
              simp only [execOp, Instr.buildSlice, Sem.run_bind, run_underlying hu, run_sizeOf' hq, Result.andThen_ok, partsOf_eq, if_neg hbig, if_pos h0]
              simp only [Sem.run_pure, Result.andThen_ok, h0, show (Array.range 0) = #[] from rfl, Array.map_empty, h1]
              simp [newRow]
            · rw [show len * z.cells.size = len * q.size by rw [hs1]] at h1
              simp only [execOp, Instr.buildSlice, Sem.run_bind, run_underlying hu, run_sizeOf' hq, Result.andThen_ok, partsOf_eq, if_neg hbig, if_neg h0, hz]
              simp only [Sem.run_pure, Result.andThen_ok, h1]
              simp [newRow]
          rw [run]
          exact ⟨ι', h3, h4⟩
        · cases h
      · cases h
    · cases h⟩

theorem i64_wrap {n : Int} (h0 : 0 ≤ n) (h1 : n ≤ 9223372036854775807) : IntKind.i64.wrap n = n := by
  simp [IntKind.wrap, IntKind.signed, IntKind.bits] at *
  omega

theorem run_askRoom' (n : Nat) (w : World) : (askRoom n).run P w = .ok () w := by unfold askRoom; split <;> rfl

def aMakeSlice (P : Program) (t : TypeId) (l c : Value) : Option (List Value × Nat × Nat) :=
  match P.underlying t, l, c with
  | some (.slice e), .int _ l, .int _ c => match aZero P e, P.info? e with
    | some z, some q => if q.size = z.cells.size ∧ 0 < q.size ∧ 0 ≤ l ∧ l ≤ c ∧ c ≤ 4294967296 ∧ q.bytes ≤ 65536 then some (zeros z c.toNat, l.toNat, c.toNat) else none
    | _, _ => none
  | _, _, _ => none

theorem OpTo.makeSlice {dst : Option Tmp} {t ty : TypeId} {x y : Operand} {pos : String} {after : Array Edge} {g : Option (Nat × Bool)} {l : List Value} {n m : Nat} (h : aMakeSlice P t (ρ x) (ρ y) = some (l, n, m)) :
    OpTo P ⟨dst, .makeSlice t x y, ty, pos, after, g⟩ ρ H (.slice (some ⟨H.length, 0, none⟩) n m) (newBlk H l) :=
  ⟨newBlk_ext _ _, fun ι w ρ' hr hx => by
    have h1 := hx x (by simp [Op.operands])
    have h2 := hx y (by simp [Op.operands])
    unfold aMakeSlice at h
    split at h
    · rename_i e k1 l0 k2 c0 hu ex ey
      rw [ex] at h1; rw [ey] at h2
      split at h
      · rename_i z q ez hq
        split at h
        · rename_i hs
          obtain ⟨hs1, hs2, hs3, hs4, hs5, hs6⟩ := hs
          cases h
          obtain ⟨hz, hpl, _⟩ := aZero_run ez w
          have hza := zeros_array z c0.toNat (by omega)
          obtain ⟨ι', h3, h4⟩ := new_slice (cells' := (Array.range (c0.toNat * z.cells.size)).map (z.cells[· % z.cells.size]!)) hr (by rw [hza]; exact CRel.const (ι := ι) (zeros_plain hpl _)) e (show l0.toNat ≤ c0.toNat by omega)
          have run : (execOp ρ' ⟨dst, .makeSlice t x y, ty, pos, after, g⟩).run P w = .ok (.value (.slice (some ⟨w.heap.size, 0, none⟩) l0.toNat c0.toNat)) (w.alloc (.cells ((Array.range (c0.toNat * z.cells.size)).map (z.cells[· % z.cells.size]!)) e)) := by
            have w1 := i64_wrap hs3 (by omega)
            have w2 := i64_wrap (n := c0) (by omega) (by omega)
            have hti : (typeInfo e).run P w = .ok q w := by simp [typeInfo, hq]
            have hb : (q.bytes : Int) * c0 ≤ 281474976710656 := by
              have : (q.bytes : Int) * c0 ≤ 65536 * 4294967296 := Int.mul_le_mul (by omega) hs5 (by omega) (by omega)
              omega
            have hbad : (decide (c0 < 0) || decide ((q.bytes : Int) * c0 > 2 ^ 48) || decide (l0 < 0) || decide (l0 > c0)) = false := by
              simp; omega
            simp only [execOp, Instr.makeSlice, Sem.run_bind, run_underlying hu, Result.andThen_ok, int_inv h1, int_inv h2, asInt, asIntOf, Sem.run_pure, hti, w1, w2]
            simp only [hbad, Bool.false_eq_true, if_false]
            by_cases h0 : c0.toNat * q.size = 0
            · have hsz : c0.toNat * z.cells.size = 0 := by rw [← hs1]; exact h0
              simp only [Sem.run_bind, run_askRoom', Result.andThen_ok, run_sizeOf' hq, if_pos h0, Sem.run_pure, h0, hsz, show (Array.range 0) = #[] from rfl, Array.map_empty]
              simp [newRow]
            · have hsz : c0.toNat * z.cells.size = c0.toNat * q.size := by rw [hs1]
              simp only [Sem.run_bind, run_askRoom', Result.andThen_ok, run_sizeOf' hq, if_neg h0, Sem.run_pure, hz, hsz]
              simp [newRow]
          rw [run]
          exact ⟨ι', h3, h4⟩
        · cases h
      · cases h
    · cases h⟩

/-! ### Loads and stores -/
def rdBlk (H : Heap) (b off n : Nat) : Option (List Value) :=
  match H[b]? with
  | some k => if k.mode ≠ .dead ∧ off + n ≤ k.cells.length then some ((k.cells.drop off).take n) else none
  | none => none

def rdVal (P : Program) (H : Heap) (t : TypeId) (x : Value) : Option Value :=
  match x with
  | .pointer (some a) => match aIsAgg P t, P.info? t with
    | some true, some i => (rdBlk H a.block a.off i.size).map (fun l => .agg l.toArray)
    | some false, _ => match rdBlk H a.block a.off 1 with
      | some [v] => some v
      | _ => none
    | _, _ => none
  | _ => none

theorem rdBlk_run {ι : Map} {w : World} {b off n : Nat} {inf : Info} {l : List Value} (hr : Rel ι H w) (hb : ι b = some inf) (h : rdBlk H b off n = some l) :
    ∃ l', CRel ι l l' ∧ l.length = n ∧ l'.length = n ∧ ∀ j v', l'[j]? = some v' → w.cell? ((⟨inf.B, inf.sh + off, none⟩ : Addr).add j) = some v' := by
  unfold rdBlk at h
  split at h
  · rename_i k hk
    split at h
    · rename_i hd
      cases h
      obtain ⟨k', g1, _, _, _, g5⟩ := hr.blk b inf hb
      rw [hk] at g1; cases g1
      obtain ⟨l', h1, h2, h3⟩ := (g5 hd.1).cells hd.2
      exact ⟨l', h1, by rw [h1.1, h2], h2, h3⟩
    · cases h
  · cases h

theorem run_loadCells' {w : World} {a : Addr} {l' : List Value} (h : ∀ j v', l'[j]? = some v' → w.cell? (a.add j) = some v') {n : Nat} (hn : l'.length = n) : (loadCells a n).run P w = .ok l'.toArray w := by
  subst hn; exact run_loadCells_list w a l' h

theorem rdVal_run {ι : Map} {w : World} {t : TypeId} {x x' v : Value} (hr : Rel ι H w) (h : rdVal P H t x = some v) (hx : VRel ι x x') : ∃ v', (Instr.loadAt t x').run P w = .ok v' w ∧ VRel ι v v' ∧ ∃ a, x' = .pointer (some a) ∧ (loadVar t a).run P w = .ok v' w := by
  unfold rdVal at h
  split at h
  · rename_i a
    obtain ⟨b, off, inf, rfl, hb, rfl⟩ := ptr_some_inv hx
    split at h
    · rename_i i ha hi
      rw [Option.map_eq_some_iff] at h
      obtain ⟨l, h1, rfl⟩ := h
      obtain ⟨l', h2, h3, h4, h5⟩ := rdBlk_run hr hb h1
      have hl : (loadVar t ⟨inf.B, inf.sh + off, none⟩).run P w = .ok (.agg l'.toArray) w := by
        simp [loadVar, Sem.run_bind, run_isAgg ha, run_sizeOf' hi, run_loadCells' h5 h4]
      refine ⟨.agg l'.toArray, ?_, VRel.ofCells h2, _, rfl, hl⟩
      simp [Instr.loadAt, Instr.sureAddr, hl]
    · rename_i ha
      split at h
      · rename_i v0 h1
        cases h
        obtain ⟨l', h2, h3, h4, h5⟩ := rdBlk_run hr hb h1
        obtain ⟨v', hv', _, hrel⟩ := h2.get (i := 0) (v := v) rfl
        have hc := h5 0 v' hv'
        simp only [Addr.add, if_true] at hc
        have hl : (loadVar t ⟨inf.B, inf.sh + off, none⟩).run P w = .ok v' w := by
          simp [loadVar, Sem.run_bind, run_isAgg ha, run_load, hc]
        refine ⟨v', ?_, hrel, _, rfl, hl⟩
        simp [Instr.loadAt, Instr.sureAddr, hl]
      · cases h
    · cases h
  · cases h

theorem OpTo.load {dst : Option Tmp} {t ty : TypeId} {x : Operand} {pos : String} {after : Array Edge} {g : Option (Nat × Bool)} (h : rdVal P H t (ρ x) = some v) :
    OpTo P ⟨dst, .load t x, ty, pos, after, g⟩ ρ H v H :=
  .pure fun ι w ρ' hr hx => by
    obtain ⟨v', h1, h2, _⟩ := rdVal_run hr h (hx x (by simp [Op.operands]))
    exact ⟨v', by simp [execOp, h1], h2⟩

def wrBlk (H : Heap) (b off : Nat) (vs : List Value) : Option Heap :=
  match H[b]? with
  | some k => if k.mode = .live ∧ off + vs.length ≤ k.cells.length then some (H.set b { k with cells := k.cells.take off ++ vs ++ k.cells.drop (off + vs.length) }) else none
  | none => none

theorem wrBlk_ext {b off : Nat} {vs : List Value} (h : wrBlk H b off vs = some H') : HExt H H' := by
  unfold wrBlk at h
  split at h
  · rename_i k hk
    split at h
    · rename_i hs
      cases h
      exact HExt.set hk rfl rfl (by simp; omega) (fun _ => hs.1)
    · cases h
  · cases h

theorem wrBlk_run {ι : Map} {w : World} {b off : Nat} {inf : Info} {vs vs' : List Value} (hr : Rel ι H w) (hb : ι b = some inf) (h : wrBlk H b off vs = some H') (hv : CRel ι vs vs') :
    ∃ w', (storeCells ⟨inf.B, inf.sh + off, none⟩ vs').run P w = .ok () w' ∧ Step ι H w ι H' w' := by
  unfold wrBlk at h
  split at h
  · rename_i k hk
    split at h
    · rename_i hs
      cases h
      obtain ⟨k', g1, g2, g3, g4, g5⟩ := hr.blk b inf hb
      rw [hk] at g1; cases g1
      obtain ⟨cs, el, fr, q1, q2, q3, q4, q5⟩ := (g5 (by rw [hs.1]; simp)).ex
      have hfr := q5 hs.1
      subst hfr
      have hst := run_storeCells_at P inf.B (inf.sh + off) el vs' 0 cs w q1 (by have := hv.1; omega) hv.one'
      exact ⟨_, hst, Step.write hr hb hk hs.1 hv hs.2 q1⟩
    · cases h
  · cases h

def wrVal (P : Program) (H : Heap) (t : TypeId) (x v : Value) : Option Heap :=
  match x, P.info? t with
  | .pointer (some a), some i => if solid v && decide (v.cells.size = i.size) then wrBlk H a.block a.off v.cells.toList else none
  | _, _ => none

theorem OpTo.store {dst : Option Tmp} {t ty : TypeId} {x y : Operand} {pos : String} {after : Array Edge} {g : Option (Nat × Bool)} (h : wrVal P H t (ρ x) (ρ y) = some H') :
    OpTo P ⟨dst, .store t x y, ty, pos, after, g⟩ ρ H undef H' := by
  unfold wrVal at h
  split at h
  · rename_i a i ex hi
    split at h
    · rename_i hs
      simp only [Bool.and_eq_true, decide_eq_true_eq] at hs
      refine ⟨wrBlk_ext h, fun ι w ρ' hr hx => ?_⟩
      have h1 := hx x (by simp [Op.operands])
      have h2 := hx y (by simp [Op.operands])
      rw [ex] at h1
      obtain ⟨b, off, inf, rfl, hb, e'⟩ := ptr_some_inv h1
      have hcv := cells_rel h2 hs.1
      obtain ⟨w', hw, hstep⟩ := wrBlk_run (P := P) hr hb h hcv
      have hsz : (ρ' y).cells.size = i.size := by have := hcv.1; simp at this; omega
      have e : (execOp ρ' ⟨dst, .store t x y, ty, pos, after, g⟩).run P w = .ok .skip w' := by
        simp only [execOp, Instr.storeAt, e', Instr.sureAddr, storeVar, Sem.run_bind, Sem.run_pure, Result.andThen_ok, run_sizeOf' hi, hsz, ne_eq, not_true_eq_false, if_false, hw]
      rw [e]
      exact ⟨rfl, ι, hstep⟩
    · cases h
  · cases h
end Go.Am
