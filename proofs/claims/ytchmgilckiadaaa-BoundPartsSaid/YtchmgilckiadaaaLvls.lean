/- The document's stack of levels, in memory; and what the pass keeps. -/
import Derived.Test.YtchmgilckiadaaaFine
namespace Go.Proofs.Ytchmgilckiadaaa
open Go.RowKit
def lvlCells (l : List Lvl) : List Value := l.flatMap fun b => [.int .i64 b.op, .int .i64 b.arg, .int .i64 b.sum, .int .i64 b.thn, .bool b.els]
theorem lvlCells_len : ∀ l, (lvlCells l).length = l.length * 5
  | [] => rfl
  | b :: l => by
    have := lvlCells_len l
    simp only [lvlCells, List.flatMap_cons, List.length_append, List.length_cons, List.length_nil] at this ⊢
    omega
theorem lvlCells_snoc (l : List Lvl) (b : Lvl) : lvlCells (l ++ [b]) = lvlCells l ++ [.int .i64 b.op, .int .i64 b.arg, .int .i64 b.sum, .int .i64 b.thn, .bool b.els] := by simp [lvlCells]
theorem own_ext {w w1 : World} {B n s : Nat} {e : TypeId} {v : Value} {xs : List Value} (h : w.ownsRow B e s v n xs) (hb : Below w.heap.size w w1) : w1.ownsRow B e s v n xs := by
  refine ⟨h.1, ?_⟩
  rcases h.2 with h1 | ⟨g, cap, cur, h1, h2, h3, h4⟩
  · exact .inl h1
  · exact .inr ⟨g, cap, cur, h1, h2, (hb.block g (heap_lt h3)).trans h3, h4⟩
theorem own_set {w : World} {B n s q cap : Nat} {e : TypeId} {xs : List Value} (h : w.ownsRow B e s (.slice (some ⟨q, 0, none⟩) n cap) n xs) (k : Nat) (v : Value) : (w.setCell ⟨q, k, none⟩ v).ownsRow B e s (.slice (some ⟨q, 0, none⟩) n cap) n (xs.set k v) := by
  refine ⟨by rw [List.length_set]; exact h.1, ?_⟩
  rcases h.2 with ⟨h1, _⟩ | ⟨g, cap', cur, h1, h2, h3, h4, h5, h6, h7⟩
  · simp at h1
  · simp only [Value.slice.injEq, Option.some.injEq, Addr.mk.injEq, and_true, true_and] at h1
    obtain ⟨rfl, rfl⟩ := h1
    refine .inr ⟨q, cap, cur.setIfInBounds k v, rfl, h2, ?_, h4, h5, by simpa using h6, ?_⟩
    · rw [heap_setCell_same w q k _ _ _ h3]
    · rw [Array.toList_setIfInBounds, List.take_set, h7]
theorem own_pop {w : World} {B n s q cap : Nat} {e : TypeId} {xs ys : List Value} (h : w.ownsRow B e s (.slice (some ⟨q, 0, none⟩) (n + 1) cap) (n + 1) (xs ++ ys)) (hx : xs.length = n * s) : w.ownsRow B e s (.slice (some ⟨q, 0, none⟩) n cap) n xs := by
  refine ⟨hx, ?_⟩
  rcases h.2 with ⟨h1, _⟩ | ⟨g, cap', cur, h1, h2, h3, h4, h5, h6, h7⟩
  · simp at h1
  · simp only [Value.slice.injEq, Option.some.injEq, Addr.mk.injEq, and_true, true_and] at h1
    obtain ⟨rfl, rfl⟩ := h1
    refine .inr ⟨q, cap, cur, rfl, h2, h3, by omega, h5, h6, ?_⟩
    have h8 := congrArg (List.take (n * s)) h7
    rw [List.take_take, Nat.min_eq_left (Nat.mul_le_mul_right s (by omega)), List.take_left' hx] at h8
    exact h8
/-- The stack in memory: the topmost level last. -/
structure LRow (w wr : World) (q cap d : Nat) (b : Lvl) (t : List Lvl) : Prop where
  own : wr.ownsRow w.heap.size 97 5 (.slice (some ⟨q, 0, none⟩) (d + 1) cap) (d + 1) (lvlCells t.reverse ++ [.int .i64 b.op, .int .i64 b.arg, .int .i64 b.sum, .int .i64 b.thn, .bool b.els])
  len : t.length = d
  below : Below w.heap.size w wr
theorem LRow.ge {w wr : World} {q cap d : Nat} {b : Lvl} {t : List Lvl} (h : LRow w wr q cap d b t) : w.heap.size ≤ q ∧ q < wr.heap.size ∧ (∀ k, wr.frozen? ⟨q, k, none⟩ = false) ∧ d + 1 ≤ cap := by
  rcases h.own.2 with ⟨h1, _⟩ | ⟨g, cap', cur, h1, h2, h3, h4, h5, h6, h7⟩
  · simp at h1
  · simp only [Value.slice.injEq, Option.some.injEq, Addr.mk.injEq, and_true, true_and] at h1
    obtain ⟨rfl, rfl⟩ := h1
    exact ⟨h2, heap_lt h3, fun k => frozen_of_row wr _ _ _ _ h3, h4⟩
theorem LRow.at_ {w wr : World} {q cap d : Nat} {b : Lvl} {t : List Lvl} (h : LRow w wr q cap d b t) : LvlAt wr q (d * 5) b := by
  have hl : (lvlCells t.reverse).length = d * 5 := by rw [lvlCells_len, List.length_reverse, h.len]
  have hx : ∀ j, j < 5 → wr.cell? ⟨q, d * 5 + j, none⟩ = ([.int .i64 b.op, .int .i64 b.arg, .int .i64 b.sum, .int .i64 b.thn, .bool b.els] : List Value)[j]? := fun j hj => by
    rw [h.own.cellAt (d * 5 + j) (by omega), List.getElem?_append_right (by omega), hl, Nat.add_sub_cancel_left]
  exact ⟨hx 0 (by omega), hx 1 (by omega), hx 2 (by omega), hx 3 (by omega), hx 4 (by omega)⟩
theorem LRow.ext {w wr w1 : World} {q cap d : Nat} {b : Lvl} {t : List Lvl} (h : LRow w wr q cap d b t) (hb : Below wr.heap.size wr w1) : LRow w w1 q cap d b t := ⟨own_ext h.own hb, h.len, h.below.trans (hb.mono h.below.size)⟩
theorem LRow.drewN {w wr : World} {q cap d : Nat} {b : Lvl} {t : List Lvl} (h : LRow w wr q cap d b t) (n : Nat) : LRow w (wr.drewN n) q cap d b t := h.ext (below_drewN (Below.refl _ _) n)
theorem set_app {l : List Value} {a0 a1 a2 a3 a4 v : Value} {k j : Nat} (hl : l.length = k) : (l ++ [a0, a1, a2, a3, a4]).set (k + j) v = l ++ [a0, a1, a2, a3, a4].set j v := by
  rw [List.set_append_right _ _ (by omega), hl, Nat.add_sub_cancel_left]
theorem LRow.sum {w wr : World} {q cap d : Nat} {b : Lvl} {t : List Lvl} (h : LRow w wr q cap d b t) (x : Int) : LRow w (wr.setCell ⟨q, d * 5 + 2, none⟩ (.int .i64 x)) q cap d ⟨b.op, b.arg, x, b.thn, b.els⟩ t := by
  have hl : (lvlCells t.reverse).length = d * 5 := by rw [lvlCells_len, List.length_reverse, h.len]
  have h1 := own_set h.own (d * 5 + 2) (.int .i64 x)
  rw [set_app hl] at h1
  exact ⟨h1, h.len, h.below.setCell h.ge.1 _⟩
theorem LRow.thn {w wr : World} {q cap d : Nat} {b : Lvl} {t : List Lvl} (h : LRow w wr q cap d b t) (x : Int) : LRow w (wr.setCell ⟨q, d * 5 + 3, none⟩ (.int .i64 x)) q cap d ⟨b.op, b.arg, b.sum, x, b.els⟩ t := by
  have hl : (lvlCells t.reverse).length = d * 5 := by rw [lvlCells_len, List.length_reverse, h.len]
  have h1 := own_set h.own (d * 5 + 3) (.int .i64 x)
  rw [set_app hl] at h1
  exact ⟨h1, h.len, h.below.setCell h.ge.1 _⟩
theorem LRow.els {w wr : World} {q cap d : Nat} {b : Lvl} {t : List Lvl} (h : LRow w wr q cap d b t) (x : Bool) : LRow w (wr.setCell ⟨q, d * 5 + 4, none⟩ (.bool x)) q cap d ⟨b.op, b.arg, b.sum, b.thn, x⟩ t := by
  have hl : (lvlCells t.reverse).length = d * 5 := by rw [lvlCells_len, List.length_reverse, h.len]
  have h1 := own_set h.own (d * 5 + 4) (.bool x)
  rw [set_app hl] at h1
  exact ⟨h1, h.len, h.below.setCell h.ge.1 _⟩
theorem LRow.pop {w wr : World} {q cap d : Nat} {b p : Lvl} {t : List Lvl} (h : LRow w wr q cap (d + 1) b (p :: t)) : LRow w wr q cap d p t := by
  have hl : t.length = d := by have := h.len; simpa using this
  have h1 := h.own
  rw [List.reverse_cons, lvlCells_snoc] at h1
  exact ⟨own_pop h1 (by simp [lvlCells_len, hl]; omega), hl, h.below⟩
/-- What the pass keeps: what stood ahead of an else is a sum that was cut. -/
theorem thn_step {ks : List Int} {s s' : List Lvl} {x : Ins} (h : ∀ b ∈ s, b.thn ≤ 1048577) (hs : stepL ks s x = some s') : ∀ b ∈ s', b.thn ≤ 1048577 := by
  unfold stepL at hs
  split at hs
  · simp at hs
  · rename_i b t
    have hb := h b (by simp)
    have ht : ∀ y ∈ t, y.thn ≤ 1048577 := fun y hy => h y (by simp [hy])
    split at hs
    · split at hs
      · simp at hs
      · injection hs with hs
        subst hs
        intro y hy
        simp only [List.mem_cons] at hy
        rcases hy with rfl | rfl | hy
        · simp
        · exact hb
        · exact ht y hy
    · split at hs
      · split at hs
        · simp at hs
        · injection hs with hs
          subst hs
          intro y hy
          simp only [List.mem_cons] at hy
          rcases hy with rfl | hy
          · exact cut_le _
          · exact ht y hy
      · split at hs
        · split at hs
          · simp at hs
          · rename_i p t'
            injection hs with hs
            subst hs
            intro y hy
            simp only [List.mem_cons] at hy
            rcases hy with rfl | hy
            · exact ht p (by simp)
            · exact ht y (by simp [hy])
        · split at hs
          · split at hs
            · injection hs with hs
              subst hs
              intro y hy
              simp only [List.mem_cons] at hy
              rcases hy with rfl | hy
              · exact hb
              · exact ht y hy
            · simp at hs
          · split at hs
            · injection hs with hs
              subst hs
              intro y hy
              simp only [List.mem_cons] at hy
              rcases hy with rfl | hy
              · exact hb
              · exact ht y hy
            · injection hs with hs
              subst hs
              intro y hy
              simp only [List.mem_cons] at hy
              rcases hy with rfl | hy
              · exact hb
              · exact ht y hy
theorem run_some {ks : List Int} {c : List Ins} {s0 r : List Lvl} (h : runL ks s0 c = some r) {k : Nat} (hk : k < c.length) {s : List Lvl} (hs : runL ks s0 (c.take k) = some s) : ∃ s', stepL ks s (c.getD k (0, 0)) = some s' ∧ runL ks s0 (c.take (k + 1)) = some s' := by
  have h1 : c = c.take (k + 1) ++ c.drop (k + 1) := (List.take_append_drop _ _).symm
  rw [h1, runL_append] at h
  obtain ⟨s', h2, _⟩ := Option.bind_eq_some_iff.1 h
  have h3 := h2
  rw [take_snoc c k (0, 0) hk, runL_append, hs, Option.bind_some, runL_cons] at h3
  obtain ⟨s2, h4, h5⟩ := Option.bind_eq_some_iff.1 h3
  rw [runL_nil] at h5
  injection h5 with h5
  subst h5
  exact ⟨s2, h4, h2⟩
end Go.Proofs.Ytchmgilckiadaaa
