/- ref03.Cost, ref09.Cut: what they answer. -/
import Derived.Test.YtchmgilckiadaaaMat
import Derived.Test.YtchmgilckiadaaaLaw
namespace Go.Proofs.Ytchmgilckiadaaa
open Go.RowKit
theorem cutr_any (n : Int) (w : World) : Calls Try.prog 85 #[.int .i64 n] w fun e w' => e = .returned (.int .i64 (cut n)) ∧ w = w' := by
  have hmin := run_min_r (P := Try.prog)
  go_enter Try.func85, Try.ntmps85
  go_wp2
  go_ret
  exact ⟨rfl, rfl⟩
/-- The document's costs. -/
def costRow : List Int := [0, 1, 1, 1, 1, 1, 1, 1, 1, 1, 1, 1, 1, 2, 4, 4, 1, 1, 1, 1, 1, 1, 1, 1, 1, 1, 1, 1, 1, 1, 1, 1, 1, 6, 6, 2, 4, 4, 3, 3, 2, 20, 15, 30, 25, 20, 10, 1, 1, 1, 1, 2, 1, 5]
theorem costRow_is : ∀ k : Nat, k < 54 → costRow.getD k 0 = costF k := by decide +kernel
theorem cost_out {op : Int} (h : op < 1 ∨ 53 < op) : costF op = 0 := by
  unfold costF rowAt
  rw [if_pos h]
  rfl
set_option maxRecDepth 100000 in
set_option maxHeartbeats 4000000 in
theorem costr_any (op : Int) (w : World) : Calls Try.prog 84 #[.int .i64 op] w fun e w' => e = .returned (.int .i64 (costF op)) ∧ Below w.heap.size w w' := by
  by_cases h : op < 1 ∨ 53 < op
  · rw [cost_out h]
    rcases h with h | h
    all_goals
      go_enter Try.func84, Try.ntmps84
      go_wp2
      go_ret
      exact ⟨rfl, below_new w _⟩
  · obtain ⟨k, rfl⟩ : ∃ k : Nat, op = k := ⟨op.toNat, by omega⟩
    have hk : k < 54 := by omega
    have hcell : (w.alloc (.cells (intVals costRow).toArray 3)).cell? ⟨w.heap.size, k, none⟩ = some (.int .i64 (costF k)) := by
      rw [cell_of_row _ _ _ _ _ _ (World.alloc_heap_new w _), ← costRow_is k hk]
      have hl : k < costRow.length := hk
      simp [intVals, hl]
    have e : (intVals costRow).toArray = #[.int .i64 0, .int .i64 1, .int .i64 1, .int .i64 1, .int .i64 1, .int .i64 1, .int .i64 1, .int .i64 1, .int .i64 1, .int .i64 1, .int .i64 1, .int .i64 1, .int .i64 1, .int .i64 2, .int .i64 4, .int .i64 4, .int .i64 1, .int .i64 1, .int .i64 1, .int .i64 1, .int .i64 1, .int .i64 1, .int .i64 1, .int .i64 1, .int .i64 1, .int .i64 1, .int .i64 1, .int .i64 1, .int .i64 1, .int .i64 1, .int .i64 1, .int .i64 1, .int .i64 1, .int .i64 6, .int .i64 6, .int .i64 2, .int .i64 4, .int .i64 4, .int .i64 3, .int .i64 3, .int .i64 2, .int .i64 20, .int .i64 15, .int .i64 30, .int .i64 25, .int .i64 20, .int .i64 10, .int .i64 1, .int .i64 1, .int .i64 1, .int .i64 1, .int .i64 2, .int .i64 1, .int .i64 5] := rfl
    rw [e] at hcell
    have hk1 : ¬ (k : Int) < 1 := by omega
    have hk2 : ¬ 53 < (k : Int) := by omega
    have hk3 : (k : Int) < 54 := by omega
    have hk4 : (0 : Int) ≤ k := by omega
    clear e h
    generalize costF k = x at *
    go_enter Try.func84, Try.ntmps84
    go_wp2
    go_ret
    exact ⟨rfl, below_new w _⟩
end Go.Proofs.Ytchmgilckiadaaa
