/- Memory of which some blocks are hidden; slices that grow. -/
import Derived.Test.YtlljiccilldnaaaAm17
set_option linter.unusedVariables false
set_option linter.unusedSimpArgs false
namespace Go.Am
open Go

/-! ### More is known -/
def BLe (k k' : Blk) : Prop := k' = k ∨ (k.mode = .dead ∧ k'.sz = k.sz ∧ k'.tight = k.tight)
theorem BLe.refl (k : Blk) : BLe k k := .inl rfl
theorem BLe.trans {k1 k2 k3 : Blk} (h : BLe k1 k2) (h' : BLe k2 k3) : BLe k1 k3 := by
  rcases h with rfl | ⟨a, b, c⟩
  · exact h'
  · rcases h' with rfl | ⟨a', b', c'⟩
    · exact .inr ⟨a, b, c⟩
    · exact .inr ⟨a, b'.trans b, c'.trans c⟩
/-- What H says of memory, H' says too. -/
def Le (H H' : Heap) : Prop := H.length ≤ H'.length ∧ ∀ (b : Nat) (k : Blk), H[b]? = some k → ∃ k', H'[b]? = some k' ∧ BLe k k'
theorem Le.refl (H : Heap) : Le H H := ⟨Nat.le_refl _, fun b k h => ⟨k, h, .refl k⟩⟩
theorem Le.trans {H1 H2 H3 : Heap} (h : Le H1 H2) (h' : Le H2 H3) : Le H1 H3 := ⟨Nat.le_trans h.1 h'.1, fun b k hk => by
  obtain ⟨k1, e1, q1⟩ := h.2 b k hk
  obtain ⟨k2, e2, q2⟩ := h'.2 b k1 e1
  exact ⟨k2, e2, q1.trans q2⟩⟩
theorem Ext.get {H H' : Heap} (h : Ext H H') {b : Nat} (hb : b < H.length) : H'[b]? = H[b]? := by
  obtain ⟨X, rfl⟩ := h
  rw [List.getElem?_append_left hb]
theorem Ext.le {H H' : Heap} (h : Ext H H') : Le H H' := ⟨h.len, fun b k hk => ⟨k, by rw [h.get (List.getElem?_eq_some_iff.1 hk).1]; exact hk, .refl k⟩⟩
theorem Le.rd {H H' : Heap} (h : Le H H') {b off n : Nat} {l : List Value} (hr : rdBlk H b off n = some l) : rdBlk H' b off n = some l := by
  unfold rdBlk at hr
  split at hr
  · rename_i k hk
    split at hr
    · rename_i hd
      obtain ⟨k', e, q⟩ := h.2 b k hk
      rcases q with rfl | ⟨q, _⟩
      · unfold rdBlk; rw [e]; simp only; rw [if_pos hd]; exact hr
      · exact absurd q hd.1
    · cases hr
  · cases hr
theorem Le.share {H H' : Heap} (h : Le H H') {b sz : Nat} (hr : okShare H b sz = true) : okShare H' b sz = true := by
  unfold okShare at hr
  split at hr
  · rename_i k hk
    obtain ⟨k', e, q⟩ := h.2 b k hk
    unfold okShare
    rw [e]
    rcases q with rfl | ⟨_, q1, q2⟩
    · exact hr
    · simp only; rw [q1, q2]; exact hr
  · cases hr
/-- A predicate on memory that more knowledge does not break. -/
def MonoL {α : Type} (R : Heap → α → List Value → Prop) : Prop := ∀ H H' x c, Le H H' → R H x c → R H' x c
theorem MonoL.mono {α : Type} {R : Heap → α → List Value → Prop} (h : MonoL R) : Mono R := fun H X x c hr => h _ _ _ _ (Ext.le ⟨X, rfl⟩) hr
theorem Sl.le {α : Type} {R : Heap → α → List Value → Prop} {sz : Nat} (hm : MonoL R) {H H' : Heap} {s : Value} {xs : List α} (h : Sl R sz H s xs) (hl : Le H H') : Sl R sz H' s xs := by
  obtain ⟨a, c, e, hc, hn, hs⟩ := h
  refine ⟨a, c, e, hc, hn, fun ad ha => ?_⟩
  obtain ⟨h1, h2, h3, h4⟩ := hs ad ha
  refine ⟨h1, Nat.lt_of_lt_of_le h2 hl.1, hl.share h3, fun i x hx => ?_⟩
  obtain ⟨cells, h5, h6⟩ := h4 i x hx
  exact ⟨cells, hl.rd h5, hm _ _ _ _ hl h6⟩
theorem RInt.monoL : MonoL RInt := fun _ _ _ _ _ h => h

theorem ext_set {H H' : Heap} {b : Nat} {k : Blk} (h : Ext H H') (hb : H.length ≤ b) : Ext H (H'.set b k) := by
  obtain ⟨X, rfl⟩ := h
  exact ⟨X.set (b - H.length) k, by rw [List.set_append_right _ _ hb]⟩
theorem okShare_new {H : Heap} {l : List Value} {b sz : Nat} (h : b = H.length) : okShare (newBlk H l) b sz = true := by
  subst h; simp [okShare, newBlk]
theorem wr_at {H : Heap} {b off : Nat} {cells vs : List Value} {sz : Nat} {t : Bool} (h : H[b]? = some ⟨cells, sz, t, .live⟩) (hl : off + vs.length ≤ cells.length) : wrBlk H b off vs = some (H.set b ⟨cells.take off ++ vs ++ cells.drop (off + vs.length), sz, t, .live⟩) := by
  unfold wrBlk; rw [h]; simp only; rw [if_pos ⟨trivial, hl⟩]
theorem rd_at {H : Heap} {b off n : Nat} {cells : List Value} {sz : Nat} {t : Bool} (h : H[b]? = some ⟨cells, sz, t, .live⟩) (hl : off + n ≤ cells.length) : rdBlk H b off n = some ((cells.drop off).take n) := by
  unfold rdBlk; rw [h]; simp only; rw [if_pos ⟨by simp, hl⟩]
theorem get_new (H : Heap) (l : List Value) : (newBlk H l)[H.length]? = some ⟨l, 0, true, .live⟩ := by simp [newBlk]
theorem Ext.at {H H' : Heap} (h : Ext H H') {b : Nat} {k : Blk} (hk : H[b]? = some k) : H'[b]? = some k := by
  rw [h.get (List.getElem?_eq_some_iff.1 hk).1]; exact hk

/-! ### Hidden blocks -/
def hide (S : Nat → Bool) (H : Heap) : Heap := H.mapIdx fun i k => if S i then { k with mode := .dead } else k
@[go_sem] theorem hide_len {S : Nat → Bool} {H : Heap} : (hide S H).length = H.length := by simp [hide]
theorem hide_get {S : Nat → Bool} {H : Heap} {b : Nat} : (hide S H)[b]? = (H[b]?).map fun k => if S b then { k with mode := .dead } else k := by simp [hide]
theorem hide_le {S : Nat → Bool} {H : Heap} : Le (hide S H) H := ⟨by simp [hide_len], fun b k hk => by
  rw [hide_get] at hk
  cases h : H[b]? with
  | none => rw [h] at hk; cases hk
  | some k0 =>
    rw [h] at hk
    simp only [Option.map_some, Option.some.injEq] at hk
    refine ⟨k0, rfl, ?_⟩
    split at hk
    · subst hk; exact .inr ⟨rfl, rfl, rfl⟩
    · exact .inl hk⟩
/-- How two memories with hidden blocks compare. -/
theorem hide_le_hide {S S' : Nat → Bool} {H H' : Heap} (hl : H.length ≤ H'.length) (h : ∀ (b : Nat) (k : Blk), H[b]? = some k → ∃ k', H'[b]? = some k' ∧ ((S b = true ∧ k'.sz = k.sz ∧ k'.tight = k.tight) ∨ (S' b = false ∧ BLe k k'))) : Le (hide S H) (hide S' H') :=
  ⟨by simpa [hide_len] using hl, fun b k hk => by
    rw [hide_get] at hk
    cases hb : H[b]? with
    | none => rw [hb] at hk; cases hk
    | some k0 =>
      rw [hb] at hk
      simp only [Option.map_some, Option.some.injEq] at hk
      obtain ⟨k', e, q⟩ := h b k0 hb
      refine ⟨_, by rw [hide_get, e]; rfl, ?_⟩
      rcases q with ⟨q1, q2, q3⟩ | ⟨q1, q2⟩
      · rw [if_pos q1] at hk
        subst hk
        refine .inr ⟨rfl, ?_, ?_⟩ <;> (split <;> assumption)
      · simp only [q1, Bool.false_eq_true, if_false]
        split at hk
        · subst hk
          rcases q2 with rfl | ⟨_, b2, c2⟩
          · exact .inr ⟨rfl, rfl, rfl⟩
          · exact .inr ⟨rfl, b2, c2⟩
        · subst hk; exact q2⟩
theorem le_hide {S' : Nat → Bool} {H H' : Heap} (hl : H.length ≤ H'.length) (h : ∀ (b : Nat) (k : Blk), H[b]? = some k → ∃ k', H'[b]? = some k' ∧ (S' b = false ∧ BLe k k')) : Le H (hide S' H') :=
  ⟨by simpa [hide_len] using hl, fun b k hk => by
    obtain ⟨k', e, q1, q2⟩ := h b k hk
    exact ⟨k', by rw [hide_get, e, Option.map_some, if_neg (by rw [q1]; simp)], q2⟩⟩
theorem hide_ext {S : Nat → Bool} {H H' : Heap} (h : Ext H H') : Le (hide S H) (hide S H') :=
  hide_le_hide h.len fun b k hk => ⟨k, by rw [h.get (List.getElem?_eq_some_iff.1 hk).1]; exact hk, by
    cases hS : S b
    · exact .inr ⟨rfl, .refl _⟩
    · exact .inl ⟨rfl, rfl, rfl⟩⟩
theorem hide_mono {S S' : Nat → Bool} {H : Heap} (h : ∀ i, S' i = true → S i = true) : Le (hide S H) (hide S' H) :=
  hide_le_hide (Nat.le_refl _) fun b k hk => ⟨k, hk, by
    cases hS : S' b
    · exact .inr ⟨rfl, .refl _⟩
    · exact .inl ⟨h _ hS, rfl, rfl⟩⟩
/-- Blocks that came later may be hidden. -/
theorem Ext.hide {S : Nat → Bool} {H H' : Heap} (h : Ext H H') (hS : ∀ i, S i = true → H.length ≤ i) : Le H (hide S H') :=
  le_hide h.len fun b k hk => by
    have hb := (List.getElem?_eq_some_iff.1 hk).1
    refine ⟨k, by rw [h.get hb]; exact hk, ?_, .refl _⟩
    cases hSb : S b
    · rfl
    · have := hS b hSb; omega
/-- A hidden block changes. -/
theorem hide_set {S : Nat → Bool} {H : Heap} {b : Nat} {k k' : Blk} (hS : S b = true) (hk : H[b]? = some k) (h1 : k'.sz = k.sz) (h2 : k'.tight = k.tight) : Le (hide S H) (hide S (H.set b k')) :=
  hide_le_hide (by simp) fun i ki hi => by
    by_cases e : b = i
    · subst e
      rw [hk] at hi; cases hi
      exact ⟨k', List.getElem?_set_self (List.getElem?_eq_some_iff.1 hk).1, .inl ⟨hS, h1, h2⟩⟩
    · refine ⟨ki, by rw [List.getElem?_set_ne e]; exact hi, ?_⟩
      cases hSi : S i
      · exact .inr ⟨rfl, .refl _⟩
      · exact .inl ⟨rfl, rfl, rfl⟩
def one (b : Nat) : Nat → Bool := fun i => i == b
@[go_sem] theorem one_self {b : Nat} : one b b = true := by simp [one]
theorem one_ne {b i : Nat} (h : i ≠ b) : one b i = false := by simp [one, h]

/-! ### Slices that grow -/
/-- The block of a slice. -/
def atB (s : Value) : Nat → Bool := match s with
  | .slice (some a) _ _ => one a.block
  | _ => fun _ => false
structure GSl {α : Type} (R : Heap → α → List Value → Prop) (sz m : Nat) (H : Heap) (s : Value) (xs : List α) : Prop where
  ex : ∃ cells : List Value, cells.length = xs.length * sz ∧ (∀ (i : Nat) (x : α), xs[i]? = some x → R (hide (atB s) H) x ((cells.drop (i * sz)).take sz)) ∧
    ((xs = [] ∧ s = .slice none 0 0) ∨ ∃ b k, m ≤ b ∧ s = .slice (some ⟨b, 0, none⟩) xs.length xs.length ∧ xs ≠ [] ∧ H[b]? = some k ∧ k.cells = cells ∧ k.mode = .live ∧ (k.tight = true ∨ k.sz = sz))
section
variable {α : Type} {R : Heap → α → List Value → Prop} {sz m : Nat} {H : Heap} {s : Value} {xs : List α}
theorem GSl.nil : GSl R sz m H (.slice none 0 0) [] := ⟨[], by simp, fun i x hx => by simp at hx, .inl ⟨rfl, rfl⟩⟩
theorem GSl.sl (hm : MonoL R) (h : GSl R sz m H s xs) : Sl R sz H s xs := by
  obtain ⟨cells, hl, hR, h⟩ := h.ex
  rcases h with ⟨rfl, rfl⟩ | ⟨b, k, hb, rfl, hne, hk, rfl, hmode, hsh⟩
  · exact ⟨none, 0, rfl, Nat.le_refl _, fun _ => rfl, fun ad h => (by cases h)⟩
  · refine ⟨_, _, rfl, Nat.le_refl _, fun h => (by cases h), fun ad ha => ?_⟩
    cases ha
    refine ⟨rfl, (List.getElem?_eq_some_iff.1 hk).1, ?_, fun i x hx => ⟨(k.cells.drop (i * sz)).take sz, ?_, hm _ _ _ _ hide_le (hR i x hx)⟩⟩
    · unfold okShare; rw [hk]; rcases hsh with h | h <;> simp [h]
    · have hi := (List.getElem?_eq_some_iff.1 hx).1
      have : (i + 1) * sz ≤ xs.length * sz := Nat.mul_le_mul_right _ (by omega)
      rw [Nat.succ_mul] at this
      unfold rdBlk
      rw [hk]
      simp only [Nat.zero_add]
      rw [if_pos ⟨by rw [hmode]; simp, by omega⟩]
theorem GSl.ext (hm : MonoL R) (h : GSl R sz m H s xs) {H' : Heap} (he : Ext H H') : GSl R sz m H' s xs := by
  obtain ⟨cells, hl, hR, h⟩ := h.ex
  refine ⟨cells, hl, fun i x hx => hm _ _ _ _ (hide_ext he) (hR i x hx), ?_⟩
  rcases h with h | ⟨b, k, hb, e, hne, hk, h⟩
  · exact .inl h
  · exact .inr ⟨b, k, hb, e, hne, by rw [he.get (List.getElem?_eq_some_iff.1 hk).1]; exact hk, h⟩
theorem GSl.shape (h : GSl R sz m H s xs) : ∃ a, s = .slice a xs.length xs.length := by
  obtain ⟨cells, hl, hR, h⟩ := h.ex
  rcases h with ⟨rfl, rfl⟩ | ⟨b, k, hb, rfl, _⟩
  · exact ⟨_, rfl⟩
  · exact ⟨_, rfl⟩
/-- A new block is not that of the slice. -/
theorem GSl.lt (h : GSl R sz m H s xs) {i : Nat} (hi : atB s i = true) : m ≤ i ∧ i < H.length := by
  obtain ⟨cells, hl, hR, h⟩ := h.ex
  rcases h with ⟨rfl, rfl⟩ | ⟨b, k, hb, rfl, hne, hk, _⟩
  · simp [atB] at hi
  · simp [atB, one] at hi
    subst hi
    exact ⟨hb, (List.getElem?_eq_some_iff.1 hk).1⟩
/-- Memory changes elsewhere, and the elements do not look there. -/
theorem GSl.frame (h : GSl R sz m H s xs) {H' : Heap} (hk : ∀ i k, atB s i = true → H[i]? = some k → H'[i]? = some k) (hR' : ∀ x c, x ∈ xs → R (hide (atB s) H) x c → R (hide (atB s) H') x c) : GSl R sz m H' s xs := by
  obtain ⟨cells, hl, hR, h⟩ := h.ex
  refine ⟨cells, hl, fun i x hx => hR' _ _ (List.mem_of_getElem? hx) (hR i x hx), ?_⟩
  rcases h with h | ⟨b, k, hb, rfl, hne, hkb, h⟩
  · exact .inl h
  · exact .inr ⟨b, k, hb, rfl, hne, hk b k (by simp [atB, one]) hkb, h⟩

variable {P : Program}
/-- What is appended: the elements of a slice. -/
theorem news_slice {t e' : TypeId} {z : Value} {b n c : Nat} {cells : List Value} (hu : P.underlying t = some (.slice e')) (hz : z.cells.size = sz) (hn : n ≠ 0) (hr : rdBlk H b 0 (n * sz) = some cells) : aNews P H z t (.slice (some ⟨b, 0, none⟩) n c) = some (n, cells) := by
  subst hz
  simp [aNews, hu, hn, hr]

theorem op2_append {t u e : TypeId} {z : Value} {q : TypeInfo} {K : Value → Heap → Prop} {ys : List α} {l : List Value} {x : Value} (hg : GSl R sz m H s xs) (hm : MonoL R) (hmH : m ≤ H.length)
    (ht : P.underlying t = some (.slice e)) (hz : aZero P e = some z) (hq : P.info? e = some q) (hqs : q.size = sz) (hzs : z.cells.size = sz) (hpos : 0 < sz) (hby : q.bytes ≤ 65536)
    (hn : aNews P H z u x = some (ys.length, l)) (hy : ys ≠ []) (hll : l.length = ys.length * sz) (hlR : ∀ (i : Nat) (y : α), ys[i]? = some y → R (hide (atB s) H) y ((l.drop (i * sz)).take sz)) (hsm : xs.length + ys.length ≤ 1000000000)
    (hk : ∀ s' H', GSl R sz m H' s' (xs ++ ys) → (∀ i, i < H.length → atB s i = false → H'[i]? = H[i]?) → H.length < H'.length → (∀ H0, H0.length ≤ m → Ext H0 H → Ext H0 H') → atB s' = one H.length → Le (hide (atB s) H) H' → K s' H') : Op2 (aAppend P H t u s x) K := by
  obtain ⟨cells, hl, hR, h⟩ := hg.ex
  have hyl : 0 < ys.length := List.length_pos_iff.2 hy
  have hel : ∀ (H' : Heap), Le (hide (atB s) H) H' → ∀ (i : Nat) (x : α), (xs ++ ys)[i]? = some x → R H' x (((cells ++ l).drop (i * sz)).take sz) := by
    intro H' hle i x hx
    by_cases hi : i < xs.length
    · rw [List.getElem?_append_left hi] at hx
      have := hm _ _ _ _ hle (hR i x hx)
      have hb : (i + 1) * sz ≤ xs.length * sz := Nat.mul_le_mul_right _ hi
      rw [Nat.succ_mul] at hb
      rw [List.drop_append_of_le_length (by omega), List.take_append_of_le_length (by simp; omega)]
      exact this
    · rw [List.getElem?_append_right (by omega)] at hx
      have := hm _ _ _ _ hle (hlR _ x hx)
      have e1 : i * sz = cells.length + (i - xs.length) * sz := by rw [hl, ← Nat.add_mul]; congr 1; omega
      rw [e1, List.drop_append, List.drop_of_length_le (by omega), List.nil_append, Nat.add_sub_cancel_left]
      exact this
  have hnz : ys.length ≠ 0 := by omega
  have b1 : ∀ n, n ≤ 1000000000 → n * q.bytes ≤ 140737488355328 := fun n hn => Nat.le_trans (Nat.mul_le_mul hn hby) (by decide)
  rcases h with ⟨rfl, rfl⟩ | ⟨b, k, hb, rfl, hne, hkb, rfl, hmode, hsh⟩
  · have hap : aAppend P H t u (.slice none 0 0) x = some (.slice (some ⟨H.length, 0, none⟩) ys.length ys.length, H ++ [⟨l, sz, false, .live⟩]) := by
      simp only [aAppend, ht, hz, hq, hn]
      rw [if_pos ⟨by rw [hqs, hzs], by omega, hby⟩, if_neg (by omega), if_pos (by refine ⟨trivial, trivial, b1 _ (by simp at hsm; omega), by simp at hsm; omega⟩), hqs]
    rw [hap]
    show K _ _
    have hext : Ext H (H ++ [⟨l, sz, false, .live⟩]) := ⟨_, rfl⟩
    refine hk _ _ ⟨l, by simpa using hll, ?_, .inr ⟨H.length, ⟨l, sz, false, .live⟩, hmH, by simp, by simpa using hy, by simp, rfl, rfl, .inr rfl⟩⟩ (fun i hi _ => hext.get hi) (by simp) (fun H0 _ h0 => h0.trans hext) rfl (hide_le.trans hext.le)
    have := hel (hide (one H.length) (H ++ [⟨l, sz, false, .live⟩])) (hide_le.trans (hext.hide (fun i hi => by simp [one] at hi; omega)))
    have hc0 : cells = [] := by simpa using hl
    subst hc0
    exact this
  · have hblt := (List.getElem?_eq_some_iff.1 hkb).1
    have hxl : 0 < xs.length := List.length_pos_iff.2 hne
    have hrd : rdBlk H b 0 (xs.length * sz) = some k.cells := by
      unfold rdBlk
      rw [hkb]
      simp only [Nat.zero_add]
      rw [if_pos ⟨by rw [hmode]; simp, by omega⟩, List.drop_zero, List.take_of_length_le (by omega)]
    have hgt : ¬ (xs.length + ys.length ≤ xs.length) := by omega
    have base : aAppend P H t u (.slice (some ⟨b, 0, none⟩) xs.length xs.length) x = if k.tight || (k.sz == sz && decide (0 + xs.length * sz < k.cells.length)) then some (.slice (some ⟨H.length, 0, none⟩) (xs.length + ys.length) (xs.length + ys.length), H ++ [⟨k.cells ++ l, sz, false, .live⟩])
        else if k.mode = .live ∧ k.sz = sz then some (.slice (some ⟨H.length, 0, none⟩) (xs.length + ys.length) (xs.length + ys.length), H.set b { k with mode := .dead } ++ [⟨k.cells ++ l, sz, false, .live⟩]) else none := by
      simp only [aAppend, ht, hz, hq, hn]
      rw [if_pos ⟨by rw [hqs, hzs], by omega, hby⟩, if_neg hnz, if_neg hgt, if_pos ⟨b1 _ hsm, by omega⟩]
      simp only [hqs, hkb, hrd]
    rw [base]
    by_cases hti : k.tight = true
    · rw [if_pos (by simp [hti])]
      show K _ _
      have hext : Ext H (H ++ [⟨k.cells ++ l, sz, false, .live⟩]) := ⟨_, rfl⟩
      refine hk _ _ ⟨k.cells ++ l, by simp [hl, hll, Nat.add_mul], ?_, .inr ⟨H.length, ⟨k.cells ++ l, sz, false, .live⟩, hmH, by simp, by simp [hne], by simp, rfl, rfl, .inr rfl⟩⟩ (fun i hi _ => hext.get hi) (by simp) (fun H0 _ h0 => h0.trans hext) rfl (hide_le.trans hext.le)
      exact hel (hide (one H.length) _) (hide_le.trans (hext.hide (fun i hi => by simp [one] at hi; omega)))
    · have hksz : k.sz = sz := by rcases hsh with h | h; exact absurd h hti; exact h
      have hno : ¬ (k.tight || (k.sz == sz && decide (0 + xs.length * sz < k.cells.length))) = true := by simp [hti]; intro _; omega
      rw [if_neg hno, if_pos ⟨hmode, hksz⟩]
      show K (.slice (some ⟨H.length, 0, none⟩) (xs.length + ys.length) (xs.length + ys.length)) (H.set b { k with mode := .dead } ++ [⟨k.cells ++ l, sz, false, .live⟩])
      have hget : ∀ i, i < H.length → i ≠ b → (H.set b { k with mode := .dead } ++ [⟨k.cells ++ l, sz, false, .live⟩])[i]? = H[i]? := fun i hi hne => by
        rw [List.getElem?_append_left (by simpa using hi), List.getElem?_set_ne (Ne.symm hne)]
      have hgetb : (H.set b { k with mode := .dead } ++ [(⟨k.cells ++ l, sz, false, .live⟩ : Blk)])[b]? = some { k with mode := .dead } := by
        rw [List.getElem?_append_left (by simpa using hblt), List.getElem?_set_self hblt]
      have hle0 : Le (hide (one b) H) (hide (one H.length) (H.set b { k with mode := .dead } ++ [⟨k.cells ++ l, sz, false, .live⟩])) := by
        refine hide_le_hide (by simp) fun i ki hi => ?_
        have hil := (List.getElem?_eq_some_iff.1 hi).1
        by_cases e : i = b
        · subst e
          rw [hkb] at hi; cases hi
          exact ⟨_, hgetb, .inl ⟨by simp [one], rfl, rfl⟩⟩
        · exact ⟨ki, by rw [hget i hil e]; exact hi, .inr ⟨one_ne (by omega), .refl _⟩⟩
      refine hk _ _ ⟨k.cells ++ l, by simp [hl, hll, Nat.add_mul], ?_, .inr ⟨H.length, ⟨k.cells ++ l, sz, false, .live⟩, hmH, by simp, by simp [hne], by simp, rfl, rfl, .inr rfl⟩⟩
        (fun i hi hni => hget i hi (by intro e; subst e; simp [atB, one] at hni)) (by simp) (fun H0 h0 he0 => ?_) rfl (hle0.trans hide_le)
      · exact hel (hide (one H.length) _) hle0
      · obtain ⟨X, rfl⟩ := he0
        refine ⟨X.set (b - H0.length) { k with mode := .dead } ++ [⟨k.cells ++ l, sz, false, .live⟩], ?_⟩
        rw [List.set_append_right _ _ (by omega), List.append_assoc]
end
end Go.Am
