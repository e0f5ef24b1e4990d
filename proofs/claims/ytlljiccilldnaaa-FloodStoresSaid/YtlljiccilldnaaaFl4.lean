/- What a router sends. -/
import Derived.Test.YtlljiccilldnaaaFl3
set_option linter.unusedVariables false
set_option linter.unusedSimpArgs false
set_option maxRecDepth 10000
namespace Go.Proofs.Ytlljiccilldnaaa.Fl
open Go Go.Am
open Go.Proofs.Ytlljiccilldnaaa.Fx Go.Proofs.Ytlljiccilldnaaa.Ad
open Go.Proofs.Ytlljiccilldnaaa.Ba (wrap_small wrap_succ sameInts_spec)
variable {H : Heap} {K : Value → Heap → Prop}
section
variable {S : Nat → Bool} {r b : Nat} {id seq now : Int} {pt : Nat → Port}

theorem RtAt.sends (h : RtAt S H r b id seq now pt) {p : Nat} (hp : p < 8) : ∃ wl : List Value, rdBlk H r (4 + p * 36 + 19) 16 = some wl ∧ wl.length = 16 ∧ ∀ j, j < 16 → ∃ v, wl[j]? = some (.bool v) := by
  obtain ⟨cells, h1, h2, h3, h4, h5, h6, h7⟩ := h.ex
  refine ⟨_, rd_at h1 (by omega), by simp; omega, fun j hj => ?_⟩
  obtain ⟨v, hv⟩ := (h7 p hp).send j hj
  exact ⟨v, by rw [List.getElem?_take, if_pos hj, List.getElem?_drop]; exact hv⟩
theorem RtAt.rdAk (h : RtAt S H r b id seq now pt) {p : Nat} (hp : p < 8) : ∃ s, rdBlk H r (4 + p * 36 + 35) 1 = some [s] ∧ Sl RAk 2 (hide S H) s (pt p).ak ∧ (pt p).ak.length ≤ 1 ∧ ((pt p).ak = [] → s = .slice none 0 0) := by
  obtain ⟨cells, h1, h2, h3, h4, h5, h6, h7⟩ := h.ex
  obtain ⟨s, e, hs, hl⟩ := (h7 p hp).ak
  exact ⟨s, rd_one h1 e, hs, hl⟩
theorem RtAt.wrSends (h : RtAt S H r b id seq now pt) (hS : S r = true) {p : Nat} (hp : p < 8) {vs : List Value} (hv : vs.length = 16) (hb : ∀ j, j < 16 → ∃ v, vs[j]? = some (.bool v)) : ∃ k, wrBlk H r (4 + p * 36 + 19) vs = some (H.set r k) ∧ RtAt S (H.set r k) r b id seq now pt ∧ ∀ S' : Nat → Bool, S' r = true → Le (hide S' H) (hide S' (H.set r k)) := by
  obtain ⟨cells, e1, e2, e3, e4, e5, e6, e7⟩ := h.ex
  have hle : 4 + p * 36 + 19 + vs.length ≤ cells.length := by omega
  have hw := wr_at e1 hle
  have hlen := splice_len hle
  have hg : ∀ j, (cells.take (4 + p * 36 + 19) ++ vs ++ cells.drop (4 + p * 36 + 19 + vs.length))[j]? = if 4 + p * 36 + 19 ≤ j ∧ j < 4 + p * 36 + 35 then vs[j - (4 + p * 36 + 19)]? else cells[j]? := fun j => by
    rw [splice_get hle, hv]
  generalize cells.take (4 + p * 36 + 19) ++ vs ++ cells.drop (4 + p * 36 + 19 + vs.length) = N at hw hlen hg
  have hl : ∀ S' : Nat → Bool, S' r = true → Le (hide S' H) (hide S' (H.set r ⟨N, 0, true, .live⟩)) := fun S' hS' => hide_set hS' e1 rfl rfl
  refine ⟨_, hw, ⟨_, List.getElem?_set_self h.lt, hlen.trans e2, by rw [hg, if_neg (by omega)]; exact e3, by rw [hg, if_neg (by omega)]; exact e4, by rw [hg, if_neg (by omega)]; exact e5, by rw [hg, if_neg (by omega)]; exact e6, fun q hq => ?_⟩, hl⟩
  have old := (e7 q hq).le (hl S hS)
  obtain ⟨s, a1, a2, a3⟩ := old.ak
  refine ⟨by rw [hg, if_neg (by omega)]; exact old.up, by rw [hg, if_neg (by omega)]; exact old.peer, by rw [hg, if_neg (by omega)]; exact old.cost, fun j hj => ?_, fun j hj => ?_, s, by rw [hg, if_neg (by omega)]; exact a1, a2, a3⟩
  · obtain ⟨w, hw⟩ := old.wait j hj
    exact ⟨w, by rw [hg, if_neg (by omega)]; exact hw⟩
  · by_cases e : q = p
    · subst e
      obtain ⟨v, hv⟩ := hb j hj
      exact ⟨v, by rw [hg, if_pos (by omega), show 4 + q * 36 + 19 + j - (4 + q * 36 + 19) = j by omega]; exact hv⟩
    · obtain ⟨v, hv⟩ := old.send j hj
      exact ⟨v, by rw [hg, if_neg (by omega)]; exact hv⟩
end

def RSe (H : Heap) (x : Int × ByteArray) (cells : List Value) : Prop := cells = [.int .i64 x.1, .string x.2]
theorem RSe.monoL : MonoL RSe := fun _ _ _ _ _ h => h

theorem u8_map {L : List Int} (h : ∀ x ∈ L, 0 ≤ x ∧ x < 256) : (strOf L).data.toList.map (fun c : UInt8 => Value.int .u8 c.toNat) = L.map (Value.int .u8) := by
  rw [strOf_data]
  unfold u8s
  rw [List.map_map]
  apply List.map_congr_left
  intro x hx
  simp only [Function.comp_apply]
  rw [u8_toNat (h x hx).1 (h x hx).2]
theorem news_str {L : List Int} (h : ∀ x ∈ L, 0 ≤ x ∧ x < 256) : aNews Try.prog H (.int .u8 0) 9 (.string (strOf L)) = some (L.length, L.map (Value.int .u8)) := by
  simp only [aNews, u9]
  rw [if_pos (by rfl), strOf_size]
  have := u8_map h
  simp only [this]
theorem encL_in (a : Adv) : ∀ x ∈ encL a, 0 ≤ x ∧ x < 256 := by
  intro x hx
  unfold encL at hx
  rcases List.mem_append.1 hx with h | h
  · exact bytesL_in a a.age x h
  · have := fsum_in (bytesL a 0)
    change In255 (sums a) at this
    unfold In255 at this
    simp at h; omega
theorem encL_len (a : Adv) : (encL a).length = 10 + 3 * a.links.length := by
  unfold encL; rw [List.length_append, bytesL_len]; simp; omega

/-- Several bytes are appended. -/
theorem byappend {m : Nat} {s : Value} {xs ys : List Int} {u : TypeId} {x : Value} (hg : GSl RBy 1 m H s xs) (hmH : m ≤ H.length) (hn : aNews Try.prog H (.int .u8 0) u x = some (ys.length, ys.map (Value.int .u8))) (hy : ys ≠ []) (hsm : xs.length + ys.length ≤ 1000000000)
    (hk : ∀ a n H', GSl RBy 1 m H' (.slice a n n) (xs ++ ys) → (∀ i, i < H.length → atB s i = false → H'[i]? = H[i]?) → H.length < H'.length → (∀ H0, H0.length ≤ m → Ext H0 H → Ext H0 H') → atB (.slice a n n) = one H.length → Le (hide (atB s) H) H' → K (.slice a n n) H') :
    Op2 (aAppend Try.prog H 144 u s x) K := by
  refine op2_append hg RBy.monoL hmH u144 z5 i5 s5 rfl (by omega) (by rw [b5]; omega) hn hy (by simp) (fun i y hi => rby_map hi) hsm ?_
  intro s' H' hg' h1 h2 h3 h4 h5
  obtain ⟨a, e⟩ := hg'.shape
  subst e
  exact hk _ _ _ hg' h1 h2 h3 h4 h5
end Go.Proofs.Ytlljiccilldnaaa.Fl
