/- code.Right's small functions: long texts, bad types; code.Slots. -/
import Derived.Test.YtchmgilckiadaaaRci
namespace Go.Proofs.Ytchmgilckiadaaa
open Go.RowKit
set_option maxHeartbeats 400000 in
theorem indexFunc_strs (f : Nat) (cap : Array Value) (p : ByteArray → Bool) (v : Value) (c : List ByteArray) (w : World) (h : Strs w v c) (hf : Asks f cap w Value.string (fun _ => True) p) :
    Calls Try.prog 149 #[v, .func (.func f) #[] cap] w fun e w' => e = .returned (.int .i64 (firstAt p c)) ∧ Below w.heap.size w w' := by
  have hlen := h.len
  obtain ⟨A, k, rfl, hr⟩ := h.open_
  clear h
  obtain ⟨heg, hf⟩ := hf
  have HR := Lib.hid hr
  have HF := Lib.hid hf
  clear hr hf
  go_enter Try.func149, Try.ntmps149
  go_wp2
  go_loopw [5, 8] (fun i8 i wr => ∃ k : Nat, k ≤ c.length ∧ i = .int .i64 k ∧ (∀ j, j < k → p (c.getD j default) = false) ∧ Below w.heap.size w wr) (fun _ i _ => c.length - (intOf i).toNat)
  case atStart => exact ⟨0, Nat.zero_le _, rfl, fun j hj => absurd hj (Nat.not_lt_zero _), Below.refl _ _⟩
  case round =>
    obtain ⟨k, hk, rfl, h0, hb⟩ := hrel
    have H0 := Lib.hid h0
    clear h0
    by_cases hlt : k < c.length
    · obtain ⟨b, off, rfl, hc1⟩ := HR.out k hlt
      have hx : True := trivial
      have hd1 := (hb.cell (World.block_lt_of_cell? w _ hc1)).trans hc1
      have hF := HF.out (c.getD k default) wr hx hb
      cases hp : p (c.getD k default)
      case false =>
        generalize hy : c.getD k default = y at *
        have HF1 := Lib.hid hF
        have HY := Lib.hid hy
        have HP := Lib.hid hp
        clear hF hy hp
        go_wp2_with (refine HF1.out.mono ?_; rintro e w2 ⟨rfl, hb2⟩; rw [HP.out])
        go_roundw
        case rel =>
          refine ⟨k + 1, by omega, by go_num, fun j hj => ?_, hb.trans (hb2.mono hb.size)⟩
          by_cases hjk : j < k
          · exact H0.out j hjk
          · rw [show j = k by omega, HY.out, HP.out]
        case measure => simp [intOf]; omega
      case true =>
        generalize hy : c.getD k default = y at *
        have HF1 := Lib.hid hF
        have HY := Lib.hid hy
        have HP := Lib.hid hp
        clear hF hy hp
        go_wp2_with (refine HF1.out.mono ?_; rintro e w2 ⟨rfl, hb2⟩; rw [HP.out])
        go_ret
        exact ⟨ret_int (firstAt_hit hlt H0.out (by rw [HY.out, HP.out])).symm, hb.trans (hb2.mono hb.size)⟩
    · go_wp2
      go_ret
      exact ⟨ret_int (firstAt_miss (fun j hj => H0.out j (by omega))).symm, hb⟩
theorem containsFunc_strs (f : Nat) (cap : Array Value) (p : ByteArray → Bool) (v : Value) (c : List ByteArray) (w : World) (h : Strs w v c) (hf : Asks f cap w Value.string (fun _ => True) p) :
    Calls Try.prog 98 #[v, .func (.func f) #[] cap] w fun e w' => e = .returned (.bool (c.any p)) ∧ Below w.heap.size w w' := by
  have H := Lib.hid (indexFunc_strs f cap p v c w h hf)
  have hn := firstAt_nn p c
  generalize hq : firstAt p c = q at hn H
  go_enter Try.func98, Try.ntmps98
  have HN := Lib.hid hn
  clear hn h hf hq
  go_wp2_with (go_at_call 149; refine H.out.mono ?_; rintro e w' ⟨rfl, hb⟩)
  go_ret
  exact ⟨ret_bool HN.out, hb⟩


theorem long_any (c : ByteArray) (w : World) : Calls Try.prog 97 (#[.string c] ++ #[]) w fun e w' => e = .returned (.bool (decide (256 < (c.size : Int)))) ∧ Below w.heap.size w w' := by
  show Calls Try.prog 97 #[.string c] w _
  go_enter Try.func97, Try.ntmps97
  go_wp2
  go_ret
  exact ⟨rfl, Below.refl _ _⟩
theorem badType_any (x : Int) (w : World) : Calls Try.prog 99 (#[.int .i64 x] ++ #[]) w fun e w' => e = .returned (.bool (!typeB x)) ∧ Below w.heap.size w w' := by
  show Calls Try.prog 99 #[.int .i64 x] w _
  obtain ⟨R, hR⟩ : ∃ R, (!typeB x) = R := ⟨_, rfl⟩
  rw [hR]
  unfold typeB at hR
  by_cases h1 : x < 1
  · have HX := Lib.hid (show true = R by rw [← hR]; simp; omega)
    clear hR
    go_enter Try.func99, Try.ntmps99
    go_wp2
    go_ret
    rw [← HX.out]
    exact ⟨rfl, Below.refl _ _⟩
  · by_cases h3 : 3 < x
    · have HX := Lib.hid (show true = R by rw [← hR]; simp; omega)
      clear hR
      go_enter Try.func99, Try.ntmps99
      go_wp2
      go_ret
      rw [← HX.out]
      exact ⟨rfl, Below.refl _ _⟩
    · have HX := Lib.hid (show false = R by rw [← hR]; simp; omega)
      have h4 : decide (3 < x) = false := decide_eq_false h3
      clear hR
      go_enter Try.func99, Try.ntmps99
      go_wp2
      go_ret
      rw [← HX.out]
      exact ⟨rfl, Below.refl _ _⟩
theorem asksLong (w : World) : Asks 97 #[] w Value.string (fun _ => True) (fun c => decide (256 < (c.size : Int))) := ⟨fun _ _ => by kernel_rfl, fun x w1 _ _ => long_any x w1⟩
theorem asksBad (w : World) : Asks 99 #[] w (.int .i64) I64 (fun x => !typeB x) := ⟨fun _ _ => by kernel_rfl, fun x w1 _ _ => badType_any x w1⟩
theorem intVals_getD (xs : List Int) (i : Nat) : (intVals xs).getD i (.int .i64 0) = .int .i64 (xs.getD i 0) := by
  by_cases h : i < xs.length
  · simp [intVals, h]
  · simp [intVals, List.getElem?_eq_none (Nat.le_of_not_lt h)]
theorem intVals_len (xs : List Int) : (intVals xs).length = xs.length := by simp [intVals]
theorem ints_part {w : World} {v : Value} {xs : List Int} (h : Ints w v xs) : CellsAt w v (intVals xs).length 1 (fun i => (intVals xs).getD i (.int .i64 0)) := by
  rw [intVals_len]
  exact h.at_.congr fun j hj => (intVals_getD xs j).symm
/-- A literal of slices of numbers. -/
theorem parts_lit {w : World} {q : Nat} {t : TypeId} {vs : List Value} {L : List (List Int)} (h : w.heap[q]? = some (.cells vs.toArray t (0, 0))) (hl : vs.length = L.length) (hv : ∀ j, j < L.length → Ints w (vs.getD j undef) (L.getD j [])) : Parts w (.slice (some ⟨q, 0, none⟩) vs.length vs.length) (L.map intVals) := by
  refine ⟨⟨_, _, by rw [List.length_map, hl], fun j hj => ?_⟩, fun l hl x hx => ?_⟩
  · rw [List.length_map] at hj
    have e : (L.map intVals).getD j [] = intVals (L.getD j []) := by simp [hj]
    refine ⟨q, 0, vs.getD j undef, rfl, ?_, ?_⟩
    · rw [Nat.zero_add, cell_of_row _ _ _ _ _ _ h]
      have : j < vs.length := by omega
      simp [this]
    · rw [e]
      exact ints_part (hv j hj)
  · obtain ⟨y, _, rfl⟩ := List.mem_map.1 hl
    obtain ⟨z, _, rfl⟩ := List.mem_map.1 hx
    rfl
theorem flat_intVals (L : List (List Int)) : (L.map intVals).flatten = intVals L.flatten := by
  induction L with
  | nil => rfl
  | cons x L ih => simp [intVals] at ih ⊢; exact ih
theorem concat_out {w : World} {B : Nat} {v : Value} {L : List (List Int)} (h : w.ownsRow B 3 1 v (L.map intVals).flatten.length (L.map intVals).flatten) (hl : L.flatten.length * 8 ≤ 281474976710656) (hi : ∀ l ∈ L, ∀ x ∈ l, I64 x) : Ints w v L.flatten := by
  rw [flat_intVals, intVals_len] at h
  refine ints_any h hl fun x hx => ?_
  obtain ⟨l, h1, h2⟩ := List.mem_flatten.1 hx
  exact hi l h1 x h2
set_option maxRecDepth 100000 in
theorem slotsc_any (v : Value) (f : Fn) (w : World) (h : FnVal w v f) (hl : (f.params.length + f.locals.length) * 8 ≤ 140737488355328) :
    Calls Try.prog 38 #[v] w fun e w' => (∃ v', e = .returned v' ∧ Ints w' v' (f.params ++ f.locals)) ∧ Below w.heap.size w w' := by
  obtain ⟨vp, vr, vl, vc, rfl, hfn⟩ := h
  obtain ⟨Ap, kp, rfl, _⟩ := hfn.p.at_
  obtain ⟨Ar, kr, rfl, _⟩ := hfn.r.at_
  obtain ⟨Al, kl, rfl, _⟩ := hfn.l.at_
  obtain ⟨Ac, kc, rfl, _⟩ := hfn.c.at_
  obtain ⟨W1, hW⟩ : ∃ W1, w.alloc (.cells #[.slice Ap f.params.length kp, .slice Ar f.results.length kr, .slice Al f.locals.length kl, .slice Ac f.code.length kc] 53) = W1 := ⟨_, rfl⟩
  have hb1 : Below w.heap.size w W1 := by rw [← hW]; exact below_new w _
  have hq1 : W1.heap[w.heap.size]? = some (.cells #[.slice Ap f.params.length kp, .slice Ar f.results.length kr, .slice Al f.locals.length kl, .slice Ac f.code.length kc] 53 (0, 0)) := by rw [← hW]; exact World.alloc_heap_new w _
  obtain ⟨g0, g1, g2, g3⟩ := four_at (Below.refl _ _) hq1
  obtain ⟨W2, hW2⟩ : ∃ W2, W1.alloc (.cells #[.slice Ap f.params.length kp, .slice Al f.locals.length kl] 23) = W2 := ⟨_, rfl⟩
  have hb2 : Below W1.heap.size W1 W2 := by rw [← hW2]; exact below_new W1 _
  have hq2 : W2.heap[W1.heap.size]? = some (.cells #[.slice Ap f.params.length kp, .slice Al f.locals.length kl] 23 (0, 0)) := by rw [← hW2]; exact World.alloc_heap_new W1 _
  have hb02 := hb1.trans (hb2.mono hb1.size)
  have hparts : Parts W2 (.slice (some ⟨W1.heap.size, 0, none⟩) 2 2) ([f.params, f.locals].map intVals) := parts_lit (vs := [.slice Ap f.params.length kp, .slice Al f.locals.length kl]) hq2 rfl (fun j hj => by
    match j, hj with
    | 0, _ => exact hfn.p.ext hb02
    | 1, _ => exact hfn.l.ext hb02)
  have hcat := concat_ints _ _ W2 hparts (by rw [flat_intVals, intVals_len]; simpa using hl) (by simp)
  have HI := Lib.hid (show ∀ l ∈ [f.params, f.locals], ∀ x ∈ l, I64 x from fun l hl => by
    simp at hl
    rcases hl with rfl | rfl
    · exact hfn.p.i64
    · exact hfn.l.i64)
  have HC := Lib.hid hcat
  have HW := Lib.hid hW
  have HW2 := Lib.hid hW2
  have HB := Lib.hid hb02
  clear hW hW2 hb1 hb2 hq1 hq2 hb02 hparts hcat hfn
  go_enter Try.func38, Try.ntmps38
  go_upto_region 1 with (fail)
  rw [HW.out]
  go_wp2_with (go_at_call 96; rw [HW2.out]; (with_reducible refine HC.out.mono ?_); go_must (rintro e w3 ⟨⟨v', rfl, ho⟩, hb⟩; have HO := Lib.hid (concat_out ho (by simp; omega) HI.out); have HB3 := Lib.hid hb; clear ho hb))
  go_ret
  exact ⟨⟨_, rfl, by simpa using HO.out⟩, HB.out.trans (HB3.out.mono HB.out.size)⟩
end Go.Proofs.Ytchmgilckiadaaa
