/- Words for what lies in memory: slices of numbers, of instructions. -/
import Derived.Test.YtchmgilckiadaaaTab
import Derived.RowKit3
import Derived.Maps.AppendAt
import Derived.Deep.AppendLies
import Derived.OwnWalk
namespace Go.Proofs.Ytchmgilckiadaaa
open Go.RowKit

theorem getD_in {α : Type} {l : List α} {i : Nat} {d : α} (h : i < l.length) : l.getD i d ∈ l := by
  have : l.getD i d = l[i] := by simp [h]
  rw [this]
  exact List.getElem_mem h
/-- A number that an int holds. -/
def I64 (x : Int) : Prop := -9223372036854775808 ≤ x ∧ x ≤ 9223372036854775807
/-- A slice of n elements of s cells each, that holds these cells. -/
def CellsAt (w : World) (v : Value) (n s : Nat) (f : Nat → Value) : Prop :=
  ∃ A c, v = .slice A n c ∧ (0 < n → ∃ b off, A = some ⟨b, off, none⟩ ∧ ∀ j, j < n * s → w.cell? ⟨b, off + j, none⟩ = some (f j))
theorem CellsAt.ext {w w1 : World} {v : Value} {n s : Nat} {f : Nat → Value} (h : CellsAt w v n s f) (hb : Below w.heap.size w w1) : CellsAt w1 v n s f := by
  obtain ⟨A, c, rfl, hc⟩ := h
  refine ⟨A, c, rfl, fun h0 => ?_⟩
  obtain ⟨b, off, rfl, hd⟩ := hc h0
  refine ⟨b, off, rfl, fun j hj => ?_⟩
  exact (hb.cell (World.block_lt_of_cell? w _ (hd j hj))).trans (hd j hj)
theorem CellsAt.congr {w : World} {v : Value} {n s : Nat} {f g : Nat → Value} (h : CellsAt w v n s f) (hf : ∀ j, j < n * s → f j = g j) : CellsAt w v n s g := by
  obtain ⟨A, c, rfl, hc⟩ := h
  refine ⟨A, c, rfl, fun h0 => ?_⟩
  obtain ⟨b, off, rfl, hd⟩ := hc h0
  exact ⟨b, off, rfl, fun j hj => by rw [hd j hj, hf j hj]⟩

/-- A []int that reads as these numbers. -/
structure Ints (w : World) (v : Value) (xs : List Int) : Prop where
  at_ : CellsAt w v xs.length 1 (fun j => .int .i64 (xs.getD j 0))
  len : xs.length * 8 ≤ 281474976710656
  i64 : ∀ x ∈ xs, I64 x
theorem Ints.ext {w w1 : World} {v : Value} {xs : List Int} (h : Ints w v xs) (hb : Below w.heap.size w w1) : Ints w1 v xs := ⟨h.at_.ext hb, h.len, h.i64⟩
theorem Ints.open_ {w : World} {v : Value} {xs : List Int} (h : Ints w v xs) : ∃ A c, v = .slice A xs.length c ∧ (∀ j, j < xs.length → ∃ b off, A = some ⟨b, off, none⟩ ∧ w.cell? ⟨b, off + j, none⟩ = some (.int .i64 (xs.getD j 0))) := by
  obtain ⟨⟨A, c, rfl, hc⟩, _, _⟩ := h
  refine ⟨A, c, rfl, fun j hj => ?_⟩
  obtain ⟨b, off, rfl, hd⟩ := hc (by omega)
  exact ⟨b, off, rfl, hd j (by omega)⟩
theorem Ints.open1 {w : World} {v : Value} {xs : List Int} (h : Ints w v xs) (h0 : 0 < xs.length) : ∃ b off c, v = .slice (some ⟨b, off, none⟩) xs.length c ∧ (∀ j, j < xs.length → w.cell? ⟨b, off + j, none⟩ = some (.int .i64 (xs.getD j 0))) := by
  obtain ⟨⟨A, c, rfl, hc⟩, _, _⟩ := h
  obtain ⟨b, off, rfl, hd⟩ := hc h0
  exact ⟨b, off, c, rfl, fun j hj => hd j (by omega)⟩
theorem i64_getD {xs : List Int} (h : ∀ x ∈ xs, I64 x) (j : Nat) : I64 (xs.getD j 0) := by
  by_cases hj : j < xs.length
  · have : xs.getD j 0 = xs[j] := by simp [hj]
    rw [this]
    exact h _ (List.getElem_mem hj)
  · have : xs.getD j 0 = 0 := by simp [List.getElem?_eq_none (Nat.le_of_not_lt hj)]
    rw [this]
    exact ⟨by omega, by omega⟩
theorem ints_nil (w : World) (c : Nat) : Ints w (.slice none 0 c) [] := ⟨⟨none, c, rfl, fun h => by simp at h⟩, by simp, by simp⟩

/-- An instruction: an operation, and its number. -/
abbrev Ins := Int × Int
/-- A []api.Instr that reads as these instructions. -/
structure Code_ (w : World) (v : Value) (c : List Ins) : Prop where
  at_ : CellsAt w v c.length 2 (fun j => .int .i64 (if j % 2 = 0 then (c.getD (j / 2) (0, 0)).1 else (c.getD (j / 2) (0, 0)).2))
  len : c.length * 16 ≤ 281474976710656
  i64 : ∀ x ∈ c, I64 x.1 ∧ I64 x.2
theorem Code_.ext {w w1 : World} {v : Value} {c : List Ins} (h : Code_ w v c) (hb : Below w.heap.size w w1) : Code_ w1 v c := ⟨h.at_.ext hb, h.len, h.i64⟩
theorem Code_.open_ {w : World} {v : Value} {c : List Ins} (h : Code_ w v c) : ∃ A k, v = .slice A c.length k ∧ (∀ j, j < c.length → ∃ b off, A = some ⟨b, off, none⟩ ∧
    w.cell? ⟨b, off + j * 2, none⟩ = some (.int .i64 (c.getD j (0, 0)).1) ∧ w.cell? ⟨b, off + j * 2 + 1, none⟩ = some (.int .i64 (c.getD j (0, 0)).2)) := by
  obtain ⟨⟨A, k, rfl, hc⟩, _, _⟩ := h
  refine ⟨A, k, rfl, fun j hj => ?_⟩
  obtain ⟨b, off, rfl, hd⟩ := hc (by omega)
  refine ⟨b, off, rfl, ?_, ?_⟩
  · rw [hd (j * 2) (by omega)]; dsimp only; rw [if_pos (by omega), show j * 2 / 2 = j by omega]
  · rw [Nat.add_assoc, hd (j * 2 + 1) (by omega)]; dsimp only; rw [if_neg (by omega), show (j * 2 + 1) / 2 = j by omega]
theorem Code_.open1 {w : World} {v : Value} {c : List Ins} (h : Code_ w v c) (h0 : 0 < c.length) : ∃ b off k, v = .slice (some ⟨b, off, none⟩) c.length k ∧ (∀ j, j < c.length →
    w.cell? ⟨b, off + j * 2, none⟩ = some (.int .i64 (c.getD j (0, 0)).1) ∧ w.cell? ⟨b, off + j * 2 + 1, none⟩ = some (.int .i64 (c.getD j (0, 0)).2)) := by
  obtain ⟨⟨A, k, rfl, hc⟩, _, _⟩ := h
  obtain ⟨b, off, rfl, hd⟩ := hc h0
  refine ⟨b, off, k, rfl, fun j hj => ⟨?_, ?_⟩⟩
  · rw [hd (j * 2) (by omega)]; dsimp only; rw [if_pos (by omega), show j * 2 / 2 = j by omega]
  · rw [Nat.add_assoc, hd (j * 2 + 1) (by omega)]; dsimp only; rw [if_neg (by omega), show (j * 2 + 1) / 2 = j by omega]
theorem code_i64 {c : List Ins} (h : ∀ x ∈ c, I64 x.1 ∧ I64 x.2) (j : Nat) : I64 (c.getD j (0, 0)).1 ∧ I64 (c.getD j (0, 0)).2 := by
  by_cases hj : j < c.length
  · have : c.getD j (0, 0) = c[j] := by simp [hj]
    rw [this]
    exact h _ (List.getElem_mem hj)
  · have : c.getD j (0, 0) = (0, 0) := by simp [List.getElem?_eq_none (Nat.le_of_not_lt hj)]
    rw [this]
    exact ⟨⟨by simp, by simp⟩, ⟨by simp, by simp⟩⟩
section
variable {P : Program} {ops : Array Oper} {rest : List Oper} {o : Oper} {a : Act} {Q : Exit → Act → World → Prop}
/-- 'append(v, x, ..)': the goal's world is W with the elements' own new block. -/
theorem wp_append_lit {W : World} (base : Nat) (hgd : o.guard = none) (s x : Operand) (t e : TypeId) (z : Value) (size bytes : Nat)
    (ho : o.op = .call { callee := .builtin .append, args := #[s, x], argTypes := #[t, t] })
    (ht : P.underlying t = some (.slice e)) (hinfo : (P.info? e).map (fun i => (i.zero, i.size, i.bytes)) = some (some z, size, bytes)) (hz : z.cells.size = size) (hsz : 0 < size)
    (v : Value) (n m : Nat) (xs : List Value) (cs : Array Value) (fr : Nat) (hfr : fr = W.heap.size) (hs : a.eval s = v) (hx : a.eval x = .slice (some ⟨fr, 0, none⟩) m m) (hl : cs.size = m * size) (h1 : ∀ u ∈ cs.toList, u.oneCell' = true)
    (HO : W.ownsRow base e size v n xs) (hbase : base ≤ W.heap.size) (h63 : n + m ≤ maxLen) (hb : (n + m) * bytes ≤ 140737488355328)
    (h : ∀ v1 w1, w1.ownsRow base e size v1 (n + m) (xs ++ cs.toList) → W.grownBy w1 v.ownBlock → (v1.ownBlock = v.ownBlock ∨ ∃ b, v1.ownBlock = some b ∧ W.heap.size ≤ b) → (v1 = .slice none 0 0 ↔ v = .slice none 0 0 ∧ m = 0) → wpList P ops Q rest (a.put o.dst v1) w1) :
    wpList P ops Q (o :: rest) a (W.alloc (.cells cs e)) := by
  subst hfr
  obtain ⟨i0, hi, hz0, hz1, hz2⟩ := info_parts hinfo
  refine wpList_append_own_at (W.alloc (.cells cs e)) hgd s x t ho base e i0 z size bytes ht hi hz0 hz1 hz2 hz hsz v n xs hs (HO.alloc _) ⟨W.heap.size, 0, none⟩ m m cs.toList hx (by simpa using hl)
    (World.news_of_block (cs := cs) (t := e) (fr := (0, 0)) (heap_alloc_new W _)) h1 h63 hb (by simp; omega) ?_
  intro v1 w1 hown hg hnil hat
  refine h v1 w1 hown (World.grownBy.trans (World.grownBy_alloc W _ _) hg) ?_ hnil
  rcases hat with hat | hat
  · exact .inl hat
  · exact .inr ⟨_, hat, by simp⟩
end
end Go.Proofs.Ytchmgilckiadaaa
