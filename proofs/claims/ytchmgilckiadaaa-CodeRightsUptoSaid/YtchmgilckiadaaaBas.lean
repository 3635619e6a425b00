/- Small words that many texts use. -/
import Derived.Test.YtchmgilckiadaaaVoc
import Derived.Below
namespace Go.Proofs.Ytchmgilckiadaaa
open Go.RowKit
/-- Numbers as values. -/
def intVals (l : List Int) : List Value := l.map fun (k : Int) => .int .i64 k
theorem heap_lt {w : World} {k : Nat} {o : Obj} (h : w.heap[k]? = some o) : k < w.heap.size := (Array.getElem?_eq_some_iff.1 h).1
theorem take_snoc {α : Type} (l : List α) (k : Nat) (d : α) (h : k < l.length) : l.take (k + 1) = l.take k ++ [l.getD k d] := by
  rw [List.take_succ_eq_append_getElem h]
  simp [h]
theorem below_new (W : World) (o : Obj) : Below W.heap.size W (W.alloc o) := (Below.refl _ _).alloc (Nat.le_refl _) _
theorem cell_ext {w w1 : World} {a : Addr} {v : Value} (h : w.cell? a = some v) (hb : Below w.heap.size w w1) : w1.cell? a = some v := (hb.cell (World.block_lt_of_cell? w _ h)).trans h
theorem info_int : (Try.prog.info? 3).map (fun i => (i.zero, i.size, i.bytes)) = some (some (.int .i64 0), 1, 8) := by kernel_rfl
theorem row_slice {w : World} {B e s n : Nat} {v : Value} {xs : List Value} (h : w.ownsRow B e s v n xs) : ∃ A cap, v = .slice A n cap := by
  rcases h.2 with ⟨rfl, rfl, _⟩ | ⟨q, cap, cur, rfl, _⟩
  · exact ⟨none, 0, rfl⟩
  · exact ⟨_, _, rfl⟩
theorem own_exts {w w1 : World} {B n s : Nat} {e : TypeId} {v : Value} {xs : List Value} (h : w.ownsRow B e s v n xs) (hb : Below w.heap.size w w1) : w1.ownsRow B e s v n xs := by
  refine ⟨h.1, ?_⟩
  rcases h.2 with h1 | ⟨g, cap, cur, h1, h2, h3, h4⟩
  · exact .inl h1
  · exact .inr ⟨g, cap, cur, h1, h2, (hb.block g (heap_lt h3)).trans h3, h4⟩
theorem ints_any {w : World} {B : Nat} {v : Value} {l : List Int} (h : w.ownsRow B 3 1 v l.length (intVals l)) (hlen : l.length * 8 ≤ 281474976710656) (hi : ∀ x ∈ l, I64 x) : Ints w v l := by
  rcases h.2 with ⟨hv, h0⟩ | ⟨q, cap, cur, hv, _, hh, _, _, _, htake⟩
  · subst hv
    rw [List.length_eq_zero_iff.1 h0]
    exact ⟨⟨none, 0, rfl, fun h => by simp at h⟩, by simp, by simp⟩
  · subst hv
    refine ⟨⟨_, _, rfl, fun _ => ⟨_, _, rfl, fun j hj => ?_⟩⟩, by omega, hi⟩
    have hj' : j < l.length := by omega
    rw [Nat.zero_add, h.cellAt j (by omega)]
    simp [intVals, hj']
/-- The cells of instructions. -/
def insCells (c : List Ins) : List Value := c.flatMap fun x => [.int .i64 x.1, .int .i64 x.2]
theorem insCells_len : ∀ c, (insCells c).length = c.length * 2
  | [] => rfl
  | x :: c => by
    have h := insCells_len c
    simp only [insCells, List.flatMap_cons, List.length_append, List.length_cons, List.length_nil] at h ⊢
    omega
theorem insCells_at : ∀ (c : List Ins) (j : Nat), j < c.length * 2 → (insCells c)[j]? = some (.int .i64 (if j % 2 = 0 then (c.getD (j / 2) (0, 0)).1 else (c.getD (j / 2) (0, 0)).2))
  | [], j, h => by simp at h
  | x :: c, 0, _ => by simp [insCells]
  | x :: c, 1, _ => by simp [insCells]
  | x :: c, j + 2, h => by
    have h1 := insCells_at c j (by simp only [List.length_cons] at h; omega)
    have e : insCells (x :: c) = .int .i64 x.1 :: .int .i64 x.2 :: insCells c := by simp [insCells]
    rw [e, List.getElem?_cons_succ, List.getElem?_cons_succ, h1]
    have e1 : (j + 2) % 2 = j % 2 := by omega
    have e2 : (j + 2) / 2 = j / 2 + 1 := by omega
    rw [e1, e2]
    simp
theorem code_block {w : World} {q cap : Nat} {c : List Ins} {cs : Array Value} (h : w.heap[q]? = some (.cells cs 35 (0, 0))) (hcs : cs.toList.take (c.length * 2) = insCells c) (hl : c.length * 16 ≤ 281474976710656) (hi : ∀ x ∈ c, I64 x.1 ∧ I64 x.2) :
    Code_ w (.slice (some ⟨q, 0, none⟩) c.length cap) c := by
  refine ⟨⟨_, _, rfl, fun _ => ⟨_, _, rfl, fun j hj => ?_⟩⟩, hl, hi⟩
  rw [Nat.zero_add, cell_of_row w q j _ _ _ h, ← insCells_at c j hj, ← hcs]
  rw [List.getElem?_take_of_lt hj]
  simp
end Go.Proofs.Ytchmgilckiadaaa
