/- slices.IndexFunc, slices.ContainsFunc: over instructions, over numbers. -/
import Derived.Test.YtchmgilckiadaaaBas
import Derived.Test.YtchmgilckiadaaaVoc
namespace Go.Proofs.Ytchmgilckiadaaa
open Go.RowKit
/-- A function value that tells a Bool of whatever value, and makes memory alone. -/
def Asks {α : Type} (f : Nat) (cap : Array Value) (w : World) (enc : α → Value) (ok : α → Prop) (p : α → Bool) : Prop :=
  (∀ args w, (callFunc f args).run Try.prog w = .ok (.enter f args) w) ∧
  ∀ x w1, ok x → Below w.heap.size w w1 → Calls Try.prog f (#[enc x] ++ cap) w1 fun e w2 => e = .returned (.bool (p x)) ∧ Below w1.heap.size w1 w2
def encI (x : Ins) : Value := .agg #[.int .i64 x.1, .int .i64 x.2]
def okI (x : Ins) : Prop := I64 x.1 ∧ I64 x.2
/-- Where the first one is of whom p holds; -1: nowhere. -/
def firstAt {α : Type} (p : α → Bool) (l : List α) : Int := match l.findIdx? p with | some i => i | none => -1
theorem firstAt_nn {α : Type} (p : α → Bool) (l : List α) : decide (0 ≤ firstAt p l) = l.any p := by
  unfold firstAt
  rw [← List.findIdx?_isSome]
  cases h : l.findIdx? p with
  | none => simp
  | some i => simp
theorem firstAt_hit {α : Type} {p : α → Bool} {l : List α} {k : Nat} {d : α} (hk : k < l.length) (h0 : ∀ j, j < k → p (l.getD j d) = false) (h1 : p (l.getD k d) = true) : firstAt p l = k := by
  unfold firstAt
  have : l.findIdx? p = some k := by
    rw [List.findIdx?_eq_some_iff_getElem]
    refine ⟨hk, ?_, fun j hj => ?_⟩
    · simpa [hk] using h1
    · have := h0 j hj
      simpa [Nat.lt_trans hj hk] using this
  rw [this]
theorem firstAt_miss {α : Type} {p : α → Bool} {l : List α} {d : α} (h0 : ∀ j, j < l.length → p (l.getD j d) = false) : firstAt p l = -1 := by
  unfold firstAt
  have : l.findIdx? p = none := by
    rw [List.findIdx?_eq_none_iff]
    intro x hx
    obtain ⟨i, hi, rfl⟩ := List.getElem_of_mem hx
    have := h0 i hi
    simpa [hi] using this
  rw [this]
theorem ret_int {k : IntKind} {a b : Int} (h : a = b) : Ending.returned (.int k a) = .returned (.int k b) := by rw [h]
theorem ret_bool {a b : Bool} (h : a = b) : Ending.returned (.bool a) = .returned (.bool b) := by rw [h]
set_option maxHeartbeats 400000 in
theorem indexFunc_ins (f : Nat) (cap : Array Value) (p : Ins → Bool) (v : Value) (c : List Ins) (w : World) (h : Code_ w v c) (hf : Asks f cap w encI okI p) :
    Calls Try.prog 139 #[v, .func (.func f) #[] cap] w fun e w' => e = .returned (.int .i64 (firstAt p c)) ∧ Below w.heap.size w w' := by
  have hlen := h.len
  have hi := h.i64
  obtain ⟨A, k, rfl, hr⟩ := h.open_
  clear h
  obtain ⟨heg, hf⟩ := hf
  have HR := Lib.hid hr
  have HF := Lib.hid hf
  have HI := Lib.hid hi
  clear hr hf hi
  go_enter Try.func139, Try.ntmps139
  go_wp2
  go_loopw [5, 8] (fun i8 i wr => ∃ k : Nat, k ≤ c.length ∧ i = .int .i64 k ∧ (∀ j, j < k → p (c.getD j (0, 0)) = false) ∧ Below w.heap.size w wr) (fun _ i _ => c.length - (intOf i).toNat)
  case atStart => exact ⟨0, Nat.zero_le _, rfl, fun j hj => absurd hj (Nat.not_lt_zero _), Below.refl _ _⟩
  case round =>
    obtain ⟨k, hk, rfl, h0, hb⟩ := hrel
    have H0 := Lib.hid h0
    clear h0
    by_cases hlt : k < c.length
    · obtain ⟨b, off, rfl, hc1, hc2⟩ := HR.out k hlt
      have hx := code_i64 HI.out k
      have hd1 := (hb.cell (World.block_lt_of_cell? w _ hc1)).trans hc1
      have hd2 := (hb.cell (World.block_lt_of_cell? w _ hc2)).trans hc2
      have hF := HF.out (c.getD k (0, 0)) wr hx hb
      cases hp : p (c.getD k (0, 0))
      case false =>
        generalize hy : c.getD k (0, 0) = y at *
        simp only [encI] at hF
        have HF1 := Lib.hid hF
        have HY := Lib.hid hy
        have HP := Lib.hid hp
        clear hF hy hp
        go_wp2_with (refine HF1.out.mono ?_; rintro e w2 ⟨rfl, hb2⟩; rw [HP.out])
        go_roundw
        case rel =>
          refine ⟨k + 1, by omega, by go_num, fun j hj => ?_, hb.trans (hb2.mono hb.size)⟩
          by_cases hjk : j < k
          · exact H0.out j hjk
          · rw [show j = k by omega, HY.out, HP.out]
        case measure => simp [intOf]; omega
      case true =>
        generalize hy : c.getD k (0, 0) = y at *
        simp only [encI] at hF
        have HF1 := Lib.hid hF
        have HY := Lib.hid hy
        have HP := Lib.hid hp
        clear hF hy hp
        go_wp2_with (refine HF1.out.mono ?_; rintro e w2 ⟨rfl, hb2⟩; rw [HP.out])
        go_ret
        exact ⟨ret_int (firstAt_hit hlt H0.out (by rw [HY.out, HP.out])).symm, hb.trans (hb2.mono hb.size)⟩
    · go_wp2
      go_ret
      exact ⟨ret_int (firstAt_miss (fun j hj => H0.out j (by omega))).symm, hb⟩
set_option maxHeartbeats 400000 in
theorem indexFunc_ints (f : Nat) (cap : Array Value) (p : Int → Bool) (v : Value) (c : List Int) (w : World) (h : Ints w v c) (hf : Asks f cap w (.int .i64) I64 p) :
    Calls Try.prog 140 #[v, .func (.func f) #[] cap] w fun e w' => e = .returned (.int .i64 (firstAt p c)) ∧ Below w.heap.size w w' := by
  have hlen := h.len
  have hi := h.i64
  obtain ⟨A, k, rfl, hr⟩ := h.open_
  clear h
  obtain ⟨heg, hf⟩ := hf
  have HR := Lib.hid hr
  have HF := Lib.hid hf
  have HI := Lib.hid hi
  clear hr hf hi
  go_enter Try.func140, Try.ntmps140
  go_wp2
  go_loopw [5, 8] (fun i8 i wr => ∃ k : Nat, k ≤ c.length ∧ i = .int .i64 k ∧ (∀ j, j < k → p (c.getD j 0) = false) ∧ Below w.heap.size w wr) (fun _ i _ => c.length - (intOf i).toNat)
  case atStart => exact ⟨0, Nat.zero_le _, rfl, fun j hj => absurd hj (Nat.not_lt_zero _), Below.refl _ _⟩
  case round =>
    obtain ⟨k, hk, rfl, h0, hb⟩ := hrel
    have H0 := Lib.hid h0
    clear h0
    by_cases hlt : k < c.length
    · obtain ⟨b, off, rfl, hc1⟩ := HR.out k hlt
      have hx := i64_getD HI.out k
      have hd1 := (hb.cell (World.block_lt_of_cell? w _ hc1)).trans hc1
      have hF := HF.out (c.getD k 0) wr hx hb
      cases hp : p (c.getD k 0)
      case false =>
        generalize hy : c.getD k 0 = y at *
        have HF1 := Lib.hid hF
        have HY := Lib.hid hy
        have HP := Lib.hid hp
        clear hF hy hp
        go_wp2_with (refine HF1.out.mono ?_; rintro e w2 ⟨rfl, hb2⟩; rw [HP.out])
        go_roundw
        case rel =>
          refine ⟨k + 1, by omega, by go_num, fun j hj => ?_, hb.trans (hb2.mono hb.size)⟩
          by_cases hjk : j < k
          · exact H0.out j hjk
          · rw [show j = k by omega, HY.out, HP.out]
        case measure => simp [intOf]; omega
      case true =>
        generalize hy : c.getD k 0 = y at *
        have HF1 := Lib.hid hF
        have HY := Lib.hid hy
        have HP := Lib.hid hp
        clear hF hy hp
        go_wp2_with (refine HF1.out.mono ?_; rintro e w2 ⟨rfl, hb2⟩; rw [HP.out])
        go_ret
        exact ⟨ret_int (firstAt_hit hlt H0.out (by rw [HY.out, HP.out])).symm, hb.trans (hb2.mono hb.size)⟩
    · go_wp2
      go_ret
      exact ⟨ret_int (firstAt_miss (fun j hj => H0.out j (by omega))).symm, hb⟩
end Go.Proofs.Ytchmgilckiadaaa
