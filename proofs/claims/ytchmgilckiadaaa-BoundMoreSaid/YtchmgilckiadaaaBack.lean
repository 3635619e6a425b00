/- slices.Backward: its function value, as a range over it takes it: from the last element to the first. -/
import Derived.Test.YtchmgilckiadaaaPush
import Derived.RangeFuncNested
import Derived.RangeFuncBound
import Derived.RangeFuncCalls
import Derived.RangeFuncLeaves
import Derived.Shelf.Abstract
import Derived.Shelf.RegionOpen
import Derived.OwnWalkIn
import Derived.TacticsInMore
import Derived.LoopNIn
import Derived.LoopIn
namespace Go.Proofs.Ytchmgilckiadaaa
open Go.RowKit Go.Shelf
attribute [local go_sem] Oper.semAt_some
/-- The first k of n, from the last one on. -/
def downTo (n k : Nat) : List Nat := (List.range k).map fun j => n - 1 - j
theorem downTo_succ (n k : Nat) : downTo n (k + 1) = downTo n k ++ [n - 1 - k] := by simp [downTo, List.range_succ]
theorem downTo_length (n k : Nat) : (downTo n k).length = k := by simp [downTo]
/-- A row that is read: n elements of one cell. -/
def RowAt (w : World) (n₀ : Nat) (v : Value) (n : Nat) (vals : Nat → Value) : Prop :=
  ∃ A c, v = .slice A n c ∧ (0 < n → ∃ b off, A = some ⟨b, off, none⟩ ∧ b < n₀ ∧ ∀ j, j < n → w.cell? ⟨b, off + j, none⟩ = some (vals j))
theorem RowAt.below {w w1 : World} {n₀ : Nat} {v : Value} {n : Nat} {vals : Nat → Value} (h : RowAt w n₀ v n vals) (hb : Below n₀ w w1) : RowAt w1 n₀ v n vals := by
  obtain ⟨A, c, rfl, hc⟩ := h
  refine ⟨A, c, rfl, fun h0 => ?_⟩
  obtain ⟨b, off, rfl, hlt, hd⟩ := hc h0
  exact ⟨b, off, rfl, hlt, fun j hj => (hb.cell (p := ⟨b, off + j, none⟩) hlt).trans (hd j hj)⟩

set_option maxRecDepth 100000 in
set_option maxHeartbeats 2000000 in
theorem back1_ptr (F : Fence) (n : Nat) (hF : F.fn 199) (hro : F.round = none) (hn : 1 ≤ n) (l Bs n₀ len : Nat) (sv : Value) (vals : Nat → Value) (hreach : len ≤ 1152921504606846976) (J Jx : List Nat → World → Prop)
    (hY : ∀ (pre : List Nat) (x : Nat) (W : World), J pre W → pre.length < len → x < len → YieldAt F (n - 1) Try.prog l #[.int .i64 (x : Int), vals x] W fun e W' =>
      (e = .returned (.bool true) ∧ J (pre ++ [x]) W' ∧ Below n₀ W W') ∨ (e = .returned (.bool false) ∧ Jx (pre ++ [x]) W'))
    (W : World) (hBs : W.cell? ⟨Bs, 0, none⟩ = some sv) (hlt : Bs < n₀) (hR : RowAt W n₀ sv len vals) (h0 : J [] W) :
    CallsIn F n Try.prog 199 #[.func (.yield l) #[] #[], .pointer (some ⟨Bs, 0, none⟩)] W fun e W' => (∃ v, e = .returned v) ∧
      ((∃ ys, ys = downTo len len ∧ J ys W') ∨ (∃ pre, (∃ k, k ≤ len ∧ pre = downTo len k) ∧ Jx pre W')) := by
  obtain ⟨A, cp, rfl, hc⟩ := hR
  have HC := Lib.hid hc
  clear hc
  refine callsIn_of_wp Try.func199 rfl hF ?_ hro
  simp only [Try.ntmps199, List.size_toArray, List.length_cons, List.length_nil, Nat.reduceAdd, Nat.reduceSub, Array.replicate_succ, Array.replicate_zero, List.push_toArray, List.append_toArray, List.nil_append, List.cons_append]
  gi_wp2
  gi_loopw [3] (fun i wr => ∃ k : Nat, k ≤ len ∧ i = .int .i64 ((len : Int) - 1 - k) ∧ J (downTo len k) wr ∧ Below n₀ W wr)
    (fun i _ => (intOf i + 1).toNat)
  case atStart => exact ⟨0, Nat.zero_le _, by simp, h0, Below.refl _ _⟩
  case round =>
    obtain ⟨k, hk, rfl, hJs, hnx⟩ := hrel
    have hBs' := (hnx.cell (p := ⟨Bs, 0, none⟩) hlt).trans hBs
    by_cases hlt2 : k < len
    · obtain ⟨b, off, rfl, hb, hd⟩ := HC.out (by omega)
      obtain ⟨x, hx⟩ : ∃ x : Nat, x = len - 1 - k := ⟨_, rfl⟩
      have e1 : (len : Int) - 1 - k = (x : Int) := by omega
      obtain ⟨fn, tmps, assign, body, hy, hR⟩ := hY _ x wr hJs (by rw [downTo_length]; exact hlt2) (by omega)
      have hcx := (hnx.cell (p := ⟨b, off + x, none⟩) hb).trans (hd x (by omega))
      have hxl : x < len := by omega
      have hx0 : (0 : Int) ≤ (x : Int) := Int.natCast_nonneg _
      have HX := Lib.hid hx
      have HD := Lib.hid hd
      rw [e1]
      clear hx e1 hd
      generalize hv : vals x = vx at hcx hy
      have HV := Lib.hid hv
      clear hv
      gi_wp2
      refine hR.mono ?_
      rintro e W3 (⟨rfl, hJ3, hk3⟩ | ⟨rfl, hJx3⟩)
      · gi_wp2
        go_roundw
        case rel => exact ⟨k + 1, by omega, by have := HX.out; congr 1; omega, by rw [downTo_succ, ← HX.out]; exact hJ3, hnx.trans hk3⟩
        case measure => simp [intOf] <;> omega
      · gi_wp2
        refine bodyPost_ret (results_none rfl _ _ _) rfl ?_
        exact ⟨⟨_, rfl⟩, .inr ⟨_, ⟨k + 1, by omega, by rw [downTo_succ, ← HX.out]⟩, hJx3⟩⟩
    · obtain rfl : k = len := by omega
      have e1 : (k : Int) - 1 - k = -1 := by omega
      rw [e1]
      clear e1
      gi_wp2
      go_end0
      exact ⟨⟨_, rfl⟩, .inl ⟨_, rfl, hJs⟩⟩
/-- slices.Backward: the slice's value is boxed; the function value holds the box. -/
theorem back_ptr (a : Option Addr) (n c : Nat) (w : World) :
    Calls Try.prog 191 #[.slice a n c] w fun e w' => e = .returned (.func (.func 199) #[] #[.pointer (some ⟨w.heap.size, 0, none⟩)]) ∧ w.alloc (.cells #[.slice a n c] 150) = w' := by
  go_enter Try.func191, Try.ntmps191
  go_wp2
  go_ret
  exact ⟨rfl, rfl⟩
theorem back_stops_ptr (F : Fence) (n : Nat) (hF : F.fn 199) (hro : F.round = none) (hn : 1 ≤ n) (Bs n₀ len : Nat) (sv : Value) (vals : Nat → Value) (hreach : len ≤ 1152921504606846976) (w : World) (hBs : Bs < n₀) (hn₀ : n₀ ≤ w.heap.size)
    (hc : w.cell? ⟨Bs, 0, none⟩ = some sv) (hI : RowAt w n₀ sv len vals) :
    SeqStopsK F n Try.prog 199 #[.pointer (some ⟨Bs, 0, none⟩)] (fun x : Nat => #[Value.int .i64 ((min x (len - 1) : Nat) : Int), vals (min x (len - 1))]) (Below n₀) (fun ys => ys = downTo len len) (fun pre => ∃ k, k ≤ len ∧ pre = downTo len k) len w := fun l J Jx W hW _ _ hY h0 =>
  back1_ptr F n hF hro hn l Bs n₀ len sv vals hreach J Jx (fun pre x W hj hl hx => by have h := hY pre x W hj hl; simp only [Nat.min_eq_left (show x ≤ len - 1 by omega)] at h; exact h) W ((hW.cell (p := ⟨Bs, 0, none⟩) (by simp; omega)).trans hc) hBs (hI.below (hW.mono hn₀)) h0

set_option maxRecDepth 100000 in
set_option maxHeartbeats 2000000 in
theorem back1_int (F : Fence) (n : Nat) (hF : F.fn 196) (hro : F.round = none) (hn : 1 ≤ n) (l Bs n₀ len : Nat) (sv : Value) (vals : Nat → Value) (hreach : len ≤ 1152921504606846976) (J Jx : List Nat → World → Prop)
    (hY : ∀ (pre : List Nat) (x : Nat) (W : World), J pre W → pre.length < len → x < len → YieldAt F (n - 1) Try.prog l #[.int .i64 (x : Int), vals x] W fun e W' =>
      (e = .returned (.bool true) ∧ J (pre ++ [x]) W' ∧ Below n₀ W W') ∨ (e = .returned (.bool false) ∧ Jx (pre ++ [x]) W'))
    (W : World) (hBs : W.cell? ⟨Bs, 0, none⟩ = some sv) (hlt : Bs < n₀) (hR : RowAt W n₀ sv len vals) (h0 : J [] W) :
    CallsIn F n Try.prog 196 #[.func (.yield l) #[] #[], .pointer (some ⟨Bs, 0, none⟩)] W fun e W' => (∃ v, e = .returned v) ∧
      ((∃ ys, ys = downTo len len ∧ J ys W') ∨ (∃ pre, (∃ k, k ≤ len ∧ pre = downTo len k) ∧ Jx pre W')) := by
  obtain ⟨A, cp, rfl, hc⟩ := hR
  have HC := Lib.hid hc
  clear hc
  refine callsIn_of_wp Try.func196 rfl hF ?_ hro
  simp only [Try.ntmps196, List.size_toArray, List.length_cons, List.length_nil, Nat.reduceAdd, Nat.reduceSub, Array.replicate_succ, Array.replicate_zero, List.push_toArray, List.append_toArray, List.nil_append, List.cons_append]
  gi_wp2
  gi_loopw [3] (fun i wr => ∃ k : Nat, k ≤ len ∧ i = .int .i64 ((len : Int) - 1 - k) ∧ J (downTo len k) wr ∧ Below n₀ W wr)
    (fun i _ => (intOf i + 1).toNat)
  case atStart => exact ⟨0, Nat.zero_le _, by simp, h0, Below.refl _ _⟩
  case round =>
    obtain ⟨k, hk, rfl, hJs, hnx⟩ := hrel
    have hBs' := (hnx.cell (p := ⟨Bs, 0, none⟩) hlt).trans hBs
    by_cases hlt2 : k < len
    · obtain ⟨b, off, rfl, hb, hd⟩ := HC.out (by omega)
      obtain ⟨x, hx⟩ : ∃ x : Nat, x = len - 1 - k := ⟨_, rfl⟩
      have e1 : (len : Int) - 1 - k = (x : Int) := by omega
      obtain ⟨fn, tmps, assign, body, hy, hR⟩ := hY _ x wr hJs (by rw [downTo_length]; exact hlt2) (by omega)
      have hcx := (hnx.cell (p := ⟨b, off + x, none⟩) hb).trans (hd x (by omega))
      have hxl : x < len := by omega
      have hx0 : (0 : Int) ≤ (x : Int) := Int.natCast_nonneg _
      have HX := Lib.hid hx
      have HD := Lib.hid hd
      rw [e1]
      clear hx e1 hd
      generalize hv : vals x = vx at hcx hy
      have HV := Lib.hid hv
      clear hv
      gi_wp2
      refine hR.mono ?_
      rintro e W3 (⟨rfl, hJ3, hk3⟩ | ⟨rfl, hJx3⟩)
      · gi_wp2
        go_roundw
        case rel => exact ⟨k + 1, by omega, by have := HX.out; congr 1; omega, by rw [downTo_succ, ← HX.out]; exact hJ3, hnx.trans hk3⟩
        case measure => simp [intOf] <;> omega
      · gi_wp2
        refine bodyPost_ret (results_none rfl _ _ _) rfl ?_
        exact ⟨⟨_, rfl⟩, .inr ⟨_, ⟨k + 1, by omega, by rw [downTo_succ, ← HX.out]⟩, hJx3⟩⟩
    · obtain rfl : k = len := by omega
      have e1 : (k : Int) - 1 - k = -1 := by omega
      rw [e1]
      clear e1
      gi_wp2
      go_end0
      exact ⟨⟨_, rfl⟩, .inl ⟨_, rfl, hJs⟩⟩
/-- slices.Backward: the slice's value is boxed; the function value holds the box. -/
theorem back_int (a : Option Addr) (n c : Nat) (w : World) :
    Calls Try.prog 188 #[.slice a n c] w fun e w' => e = .returned (.func (.func 196) #[] #[.pointer (some ⟨w.heap.size, 0, none⟩)]) ∧ w.alloc (.cells #[.slice a n c] 23) = w' := by
  go_enter Try.func188, Try.ntmps188
  go_wp2
  go_ret
  exact ⟨rfl, rfl⟩
theorem back_stops_int (F : Fence) (n : Nat) (hF : F.fn 196) (hro : F.round = none) (hn : 1 ≤ n) (Bs n₀ len : Nat) (sv : Value) (vals : Nat → Value) (hreach : len ≤ 1152921504606846976) (w : World) (hBs : Bs < n₀) (hn₀ : n₀ ≤ w.heap.size)
    (hc : w.cell? ⟨Bs, 0, none⟩ = some sv) (hI : RowAt w n₀ sv len vals) :
    SeqStopsK F n Try.prog 196 #[.pointer (some ⟨Bs, 0, none⟩)] (fun x : Nat => #[Value.int .i64 ((min x (len - 1) : Nat) : Int), vals (min x (len - 1))]) (Below n₀) (fun ys => ys = downTo len len) (fun pre => ∃ k, k ≤ len ∧ pre = downTo len k) len w := fun l J Jx W hW _ _ hY h0 =>
  back1_int F n hF hro hn l Bs n₀ len sv vals hreach J Jx (fun pre x W hj hl hx => by have h := hY pre x W hj hl; simp only [Nat.min_eq_left (show x ≤ len - 1 by omega)] at h; exact h) W ((hW.cell (p := ⟨Bs, 0, none⟩) (by simp; omega)).trans hc) hBs (hI.below (hW.mono hn₀)) h0
end Go.Proofs.Ytchmgilckiadaaa
