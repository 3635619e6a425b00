/- law09's helpers: num, knows; instructions that lie in a block. -/
import Derived.Test.YtchmgilckiadaaaPartA
namespace Go.Proofs.Ytchmgilckiadaaa
open Go.RowKit
theorem num_any (n : Int) (w : World) : Calls Try.prog 29 #[.int .i64 n] w fun e w' => e = .returned (.int .i64 n) ∧ w = w' := by
  go_enter Try.func29, Try.ntmps29
  go_wp2
  go_ret
  exact ⟨rfl, rfl⟩
/-- The cells of instructions. -/
def insCells (c : List Ins) : List Value := c.flatMap fun x => [.int .i64 x.1, .int .i64 x.2]
theorem insCells_len : ∀ c, (insCells c).length = c.length * 2
  | [] => rfl
  | x :: c => by
    have h := insCells_len c
    simp only [insCells, List.flatMap_cons, List.length_append, List.length_cons, List.length_nil] at h ⊢
    omega
theorem insCells_at : ∀ (c : List Ins) (j : Nat), j < c.length * 2 → (insCells c)[j]? = some (.int .i64 (if j % 2 = 0 then (c.getD (j / 2) (0, 0)).1 else (c.getD (j / 2) (0, 0)).2))
  | [], j, h => by simp at h
  | x :: c, 0, _ => by simp [insCells]
  | x :: c, 1, _ => by simp [insCells]
  | x :: c, j + 2, h => by
    have h1 := insCells_at c j (by simp only [List.length_cons] at h; omega)
    have e : insCells (x :: c) = .int .i64 x.1 :: .int .i64 x.2 :: insCells c := by simp [insCells]
    rw [e, List.getElem?_cons_succ, List.getElem?_cons_succ, h1]
    have e1 : (j + 2) % 2 = j % 2 := by omega
    have e2 : (j + 2) / 2 = j / 2 + 1 := by omega
    rw [e1, e2]
    simp
theorem code_block {w : World} {q cap : Nat} {c : List Ins} {cs : Array Value} (h : w.heap[q]? = some (.cells cs 35 (0, 0))) (hcs : cs.toList.take (c.length * 2) = insCells c) (hl : c.length * 16 ≤ 281474976710656) (hi : ∀ x ∈ c, I64 x.1 ∧ I64 x.2) :
    Code_ w (.slice (some ⟨q, 0, none⟩) c.length cap) c := by
  refine ⟨⟨_, _, rfl, fun _ => ⟨_, _, rfl, fun j hj => ?_⟩⟩, hl, hi⟩
  rw [Nat.zero_add, cell_of_row w q j _ _ _ h, ← insCells_at c j hj, ← hcs]
  rw [List.getElem?_take_of_lt hj]
  simp
theorem knows_out : partOut [] [(51, 3), (1, 1), (5, 0), (50, 0)] = (11, 0) := by decide +kernel
theorem knows_any (w : World) : Calls Try.prog 25 #[] w fun e w' => e = .returned (.bool true) ∧ Below w.heap.size w w' := by
  obtain ⟨W1, hW1⟩ : ∃ W1, W1 = w.alloc (.cells #[.int .i64 51, .int .i64 3, .int .i64 1, .int .i64 1, .int .i64 5, .int .i64 0, .int .i64 50, .int .i64 0] 35) := ⟨_, rfl⟩
  have hb1 : Below w.heap.size w W1 := by rw [hW1]; exact below_new w _
  have hcode : Code_ W1 (.slice (some ⟨w.heap.size, 0, none⟩) 4 4) [(51, 3), (1, 1), (5, 0), (50, 0)] := by
    rw [hW1]
    exact code_block (c := [(51, 3), (1, 1), (5, 0), (50, 0)]) (World.alloc_heap_new w _) rfl (by decide) (by simp [I64])
  have hp := part_any _ (.slice none 0 0) _ [] W1 hcode ⟨⟨none, 0, rfl, fun h => by simp at h⟩, by simp, by simp⟩ (by decide)
  rw [knows_out] at hp
  rw [hW1] at hp
  have HP := Lib.hid hp
  have HB := Lib.hid hb1
  have HW := Lib.hid hW1
  clear hcode hp hb1 hW1
  go_enter Try.func25, Try.ntmps25
  go_wp2_with (first
    | (go_at_call 27; (with_reducible refine HP.out.mono ?_); go_must (rintro e w1 ⟨rfl, hb⟩; rw [← HW.out] at hb))
    | (go_at_call 29; (with_reducible refine (num_any _ _).mono ?_); rintro e w2 ⟨rfl, rfl⟩))
  go_ret
  exact ⟨rfl, HB.out.trans (hb.mono HB.out.size)⟩
end Go.Proofs.Ytchmgilckiadaaa
