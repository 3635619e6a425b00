/- bound.sum, bound.times: sums and products that are cut. -/
import Derived.Test.YtchmgilckiadaaaBas
import Derived.Test.YtchmgilckiadaaaVoc
namespace Go.Proofs.Ytchmgilckiadaaa
open Go.RowKit
/-- Cut at MaxGas + 1. -/
def cut (n : Int) : Int := min 1048577 n
theorem cut_le (n : Int) : cut n ≤ 1048577 := by unfold cut; omega
theorem cut_nn {n : Int} (h : 0 ≤ n) : 0 ≤ cut n := by unfold cut; omega
theorem cut_of_le {n : Int} (h : n ≤ 1048577) : cut n = n := by unfold cut; omega
theorem cut_cut (n : Int) : cut (cut n) = cut n := by unfold cut; omega
def sumF (l : List Int) : Int := l.foldl (fun n x => cut (n + cut x)) 0
theorem sumF_snoc (l : List Int) (x : Int) : sumF (l ++ [x]) = cut (sumF l + cut x) := by simp [sumF, List.foldl_append]
theorem sumF_bd : ∀ (l : List Int), (∀ x ∈ l, 0 ≤ x) → 0 ≤ sumF l ∧ sumF l ≤ 1048577 := by
  intro l
  suffices ∀ (l : List Int) (n : Int), 0 ≤ n ∧ n ≤ 1048577 → (∀ x ∈ l, 0 ≤ x) → 0 ≤ l.foldl (fun n x => cut (n + cut x)) n ∧ l.foldl (fun n x => cut (n + cut x)) n ≤ 1048577 from this l 0 (by omega)
  intro l
  induction l with
  | nil => intro n h _; exact h
  | cons x l ih =>
    intro n h hx
    have hx0 := hx x (List.mem_cons_self ..)
    have h1 : 0 ≤ cut (n + cut x) := cut_nn (by have := cut_nn hx0; omega)
    exact ih _ ⟨h1, cut_le _⟩ fun y hy => hx y (List.mem_cons_of_mem _ hy)
theorem sumF_two (a b : Int) (h1 : a ≤ 1048577) : sumF [a, b] = cut (a + cut b) := by
  simp only [sumF, List.foldl_cons, List.foldl_nil]
  rw [Int.zero_add, cut_cut, cut_of_le h1]
set_option maxHeartbeats 400000 in
theorem sum_any (v : Value) (xs : List Int) (w : World) (h : Ints w v xs) (hx : ∀ x ∈ xs, 0 ≤ x) :
    Calls Try.prog 80 #[v] w fun e w' => e = .returned (.int .i64 (sumF xs)) ∧ w = w' := by
  have hlen := h.len
  have hi := h.i64
  obtain ⟨a, c, rfl, hr⟩ := h.open_
  clear h
  have HR := Lib.hid hr
  have HX := Lib.hid hx
  have HI := Lib.hid hi
  clear hr hx hi
  go_enter Try.func80, Try.ntmps80
  go_wp2
  go_loop [3, 5, 8] (fun n x i => ∃ k : Nat, k ≤ xs.length ∧ i = .int .i64 k ∧ n = .int .i64 (sumF (xs.take k))) (fun _ _ i => xs.length - (intOf i).toNat)
  case atStart => exact ⟨0, Nat.zero_le _, rfl, rfl⟩
  case round =>
    obtain ⟨k, hk, rfl, rfl⟩ := hrel
    by_cases hlt : k < xs.length
    · obtain ⟨b, off, rfl, hc⟩ := HR.out k hlt
      have hx0 : 0 ≤ xs.getD k 0 := by
        have : xs.getD k 0 = xs[k] := by simp [hlt]
        rw [this]; exact HX.out _ (List.getElem_mem hlt)
      have hx1 := (i64_getD HI.out k).2
      have hs := sumF_bd (xs.take k) fun x hx => HX.out x (List.mem_of_mem_take hx)
      have hsn : sumF (xs.take (k + 1)) = cut (sumF (xs.take k) + cut (xs.getD k 0)) := by rw [take_snoc xs k 0 hlt, sumF_snoc]
      generalize hr : sumF (xs.take (k + 1)) = q1 at hsn
      have HR1 := Lib.hid hr
      clear hr
      generalize hq : sumF (xs.take k) = q0 at *
      generalize hy : xs.getD k 0 = y at *
      have HS := Lib.hid hsn
      have HQ := Lib.hid hq
      have HY := Lib.hid hy
      clear hsn hq hy
      go_wp2
      go_round
      case rel =>
        refine ⟨k + 1, by omega, by go_num, ?_⟩
        rw [HR1.out, HS.out]
        congr 1
        unfold cut
        omega
      case measure => simp [intOf]; omega
    · go_wp2
      go_ret
      refine ⟨?_, rfl⟩
      rw [List.take_of_length_le (by omega)]
      rfl
def timesF (n x : Int) : Int := cut (cut n * cut x)
theorem mul_bd {a b : Int} (h0 : 0 ≤ a) (h1 : a ≤ 1048577) (h2 : 0 ≤ b) (h3 : b ≤ 1048577) : 0 ≤ a * b ∧ a * b ≤ 1099513724929 := by
  refine ⟨Int.mul_nonneg h0 h2, ?_⟩
  have := Int.mul_le_mul h1 h3 h2 (by omega)
  omega
theorem timesF_bd {n x : Int} (h0 : 0 ≤ n) (h1 : 0 ≤ x) : 0 ≤ timesF n x ∧ timesF n x ≤ 1048577 := by
  have := mul_bd (cut_nn h0) (cut_le n) (cut_nn h1) (cut_le x)
  exact ⟨cut_nn this.1, cut_le _⟩
theorem run_min_l {P : Program} (x : Int) (w : World) : (Builtin.min_ #[3, 3] 3 #[.int .i64 1048577, .int .i64 x]).run P w = .ok (.int .i64 (cut x)) w := by
  unfold cut
  by_cases h : x < 1048577
  · rw [show min 1048577 x = x by omega]
    simp [Builtin.min_, Builtin.min2, h]
  · rw [show min 1048577 x = 1048577 by omega]
    simp [Builtin.min_, Builtin.min2, h]
theorem run_min_r {P : Program} (x : Int) (w : World) : (Builtin.min_ #[3, 3] 3 #[.int .i64 x, .int .i64 1048577]).run P w = .ok (.int .i64 (cut x)) w := by
  unfold cut
  by_cases h : 1048577 < x
  · rw [show min 1048577 x = 1048577 by omega]
    simp [Builtin.min_, Builtin.min2, h]
  · rw [show min 1048577 x = x by omega]
    simp [Builtin.min_, Builtin.min2, h]
theorem times_any (n x : Int) (w : World) (h0 : 0 ≤ n) (h1 : 0 ≤ x) :
    Calls Try.prog 81 #[.int .i64 n, .int .i64 x] w fun e w' => e = .returned (.int .i64 (timesF n x)) ∧ w = w' := by
  have hm := mul_bd (cut_nn h0) (cut_le n) (cut_nn h1) (cut_le x)
  have hw : wrap64 (cut n * cut x) = cut n * cut x := IntWalk.wrap64_in _ ⟨by omega, by omega⟩
  have h1 := run_min_r (P := Try.prog)
  have h2 := run_min_l (P := Try.prog)
  go_enter Try.func81, Try.ntmps81
  go_wp2
  go_ret
  exact ⟨rfl, rfl⟩
end Go.Proofs.Ytchmgilckiadaaa
