/- Are two lists of numbers the same: law03.Ints, ref04.ints2, slices.Equal. -/
import Derived.Test.YtchmgilckiadaaaClonl
namespace Go.Proofs.Ytchmgilckiadaaa
open Go.RowKit
deriving instance DecidableEq for Fn
deriving instance DecidableEq for Scr
theorem list_eq_of {α : Type} (d : α) {a b : List α} (hl : a.length = b.length) (h : ∀ j, j < a.length → a.getD j d = b.getD j d) : a = b := by
  refine List.ext_getElem hl fun j h1 h2 => ?_
  have := h j h1
  simpa [h1, h2] using this
theorem list_ne_len {α : Type} [DecidableEq α] {a b : List α} (hl : (a.length : Int) ≠ b.length) : decide (a = b) = false := by
  simp
  rintro rfl
  exact hl rfl
theorem list_ne_at {α : Type} [DecidableEq α] (d : α) {a b : List α} (j : Nat) (h : a.getD j d ≠ b.getD j d) : decide (a = b) = false := by
  simp only [decide_eq_false_iff_not]
  rintro rfl
  exact h rfl
theorem list_eq_yes {α : Type} [DecidableEq α] (d : α) {a b : List α} (hl : a.length = b.length) (h : ∀ j, j < a.length → a.getD j d = b.getD j d) : decide (a = b) = true := by
  simp only [decide_eq_true_eq]
  exact list_eq_of d hl h
set_option maxRecDepth 100000 in
theorem ints3_any (va vb : Value) (a b : List Int) (w : World) (ha : Ints w va a) (hb : Ints w vb b) :
    Calls Try.prog 30 #[va, vb] w fun e w' => e = .returned (.bool (decide (a = b))) ∧ Below w.heap.size w w' := by
  have hla := ha.len
  have hlb := hb.len
  obtain ⟨A, k1, rfl, hr⟩ := ha.open_
  obtain ⟨A2, k2, rfl, hr2⟩ := hb.open_
  have HR := Lib.hid hr
  have HR2 := Lib.hid hr2
  obtain ⟨R, hR⟩ : ∃ R, decide (a = b) = R := ⟨_, rfl⟩
  rw [hR]
  have HL := Lib.hid (fun h => (list_ne_len (a := a) (b := b) h).symm.trans hR)
  have HN := Lib.hid (fun j h => (list_ne_at (0 : Int) (a := a) (b := b) j h).symm.trans hR)
  have HY := Lib.hid (fun hl h => (list_eq_yes (0 : Int) (a := a) (b := b) hl h).symm.trans hR)
  clear ha hb hr hr2 hR
  by_cases hll : (a.length : Int) = b.length
  case neg =>
    have HF := Lib.hid (HL.out hll)
    go_enter Try.func30, Try.ntmps30
    go_wp2
    go_ret
    rw [← HF.out]
    exact ⟨rfl, Below.refl _ _⟩
  have hll' : a.length = b.length := by omega
  go_enter Try.func30, Try.ntmps30
  go_wp2
  go_loopw [5] (fun i wr => ∃ k : Nat, k ≤ a.length ∧ i = .int .i64 k ∧ Below w.heap.size w wr ∧ ∀ j, j < k → a.getD j 0 = b.getD j 0) (fun i _ => a.length - (intOf i).toNat)
  case atStart => exact ⟨0, Nat.zero_le _, rfl, Below.refl _ _, fun j h => by omega⟩
  case round =>
    obtain ⟨k, hk, rfl, hbe, hall⟩ := hrel
    have HALL := Lib.hid hall
    clear hall
    by_cases hlt : k < a.length
    · obtain ⟨bb, off, rfl, hc1⟩ := HR.out k hlt
      obtain ⟨b2, off2, rfl, hc2⟩ := HR2.out k (hll' ▸ hlt)
      have hc1 := (hbe.cell (World.block_lt_of_cell? w _ hc1)).trans hc1
      have hc2 := (hbe.cell (World.block_lt_of_cell? w _ hc2)).trans hc2
      have hk0 : (0 : Int) ≤ k := by omega
      have hk1 : (k : Int) < (a.length : Int) := by omega
      have hk2 : (k : Int) < (b.length : Int) := by omega
      by_cases hy : a.getD k 0 = b.getD k 0
      · have HX := Lib.hid (show ∀ j, j < k + 1 → a.getD j 0 = b.getD j 0 from fun j hj => by
          by_cases e : j = k
          · subst e; exact hy
          · exact HALL.out j (by omega))
        rw [← hy] at hc2
        generalize a.getD k 0 = y at *
        go_wp2_with (fail)
        go_quiet (fail)
        go_wp2
        go_roundw
        case rel => exact ⟨k + 1, by omega, by go_num, below_drewN hbe _, HX.out⟩
        case measure => simp [intOf]; omega
      · have HX := Lib.hid (HN.out k hy)
        have hyb : (a.getD k 0 == b.getD k 0) = false := by simpa using hy
        generalize a.getD k 0 = y at *
        generalize b.getD k 0 = z at *
        go_wp2_with (fail)
        go_quiet (fail)
        go_wp2
        go_ret
        rw [← HX.out]
        exact ⟨rfl, below_drewN hbe _⟩
    · have e : k = a.length := by omega
      subst e
      have HX := Lib.hid (HY.out hll' HALL.out)
      go_wp2
      go_ret
      rw [← HX.out]
      exact ⟨rfl, hbe⟩
set_option maxRecDepth 100000 in
theorem ints2_any (va vb : Value) (a b : List Int) (w : World) (ha : Ints w va a) (hb : Ints w vb b) :
    Calls Try.prog 95 #[va, vb] w fun e w' => e = .returned (.bool (decide (a = b))) ∧ Below w.heap.size w w' := by
  have hla := ha.len
  have hlb := hb.len
  obtain ⟨A, k1, rfl, hr⟩ := ha.open_
  obtain ⟨A2, k2, rfl, hr2⟩ := hb.open_
  have HR := Lib.hid hr
  have HR2 := Lib.hid hr2
  obtain ⟨R, hR⟩ : ∃ R, decide (a = b) = R := ⟨_, rfl⟩
  rw [hR]
  have HL := Lib.hid (fun h => (list_ne_len (a := a) (b := b) h).symm.trans hR)
  have HN := Lib.hid (fun j h => (list_ne_at (0 : Int) (a := a) (b := b) j h).symm.trans hR)
  have HY := Lib.hid (fun hl h => (list_eq_yes (0 : Int) (a := a) (b := b) hl h).symm.trans hR)
  clear ha hb hr hr2 hR
  by_cases hll : (a.length : Int) = b.length
  case neg =>
    have HF := Lib.hid (HL.out hll)
    go_enter Try.func95, Try.ntmps95
    go_wp2
    go_ret
    rw [← HF.out]
    exact ⟨rfl, Below.refl _ _⟩
  have hll' : a.length = b.length := by omega
  go_enter Try.func95, Try.ntmps95
  go_wp2
  go_loopw [5] (fun i wr => ∃ k : Nat, k ≤ a.length ∧ i = .int .i64 k ∧ Below w.heap.size w wr ∧ ∀ j, j < k → a.getD j 0 = b.getD j 0) (fun i _ => a.length - (intOf i).toNat)
  case atStart => exact ⟨0, Nat.zero_le _, rfl, Below.refl _ _, fun j h => by omega⟩
  case round =>
    obtain ⟨k, hk, rfl, hbe, hall⟩ := hrel
    have HALL := Lib.hid hall
    clear hall
    by_cases hlt : k < a.length
    · obtain ⟨bb, off, rfl, hc1⟩ := HR.out k hlt
      obtain ⟨b2, off2, rfl, hc2⟩ := HR2.out k (hll' ▸ hlt)
      have hc1 := (hbe.cell (World.block_lt_of_cell? w _ hc1)).trans hc1
      have hc2 := (hbe.cell (World.block_lt_of_cell? w _ hc2)).trans hc2
      have hk0 : (0 : Int) ≤ k := by omega
      have hk1 : (k : Int) < (a.length : Int) := by omega
      have hk2 : (k : Int) < (b.length : Int) := by omega
      by_cases hy : a.getD k 0 = b.getD k 0
      · have HX := Lib.hid (show ∀ j, j < k + 1 → a.getD j 0 = b.getD j 0 from fun j hj => by
          by_cases e : j = k
          · subst e; exact hy
          · exact HALL.out j (by omega))
        rw [← hy] at hc2
        generalize a.getD k 0 = y at *
        go_wp2_with (fail)
        go_quiet (fail)
        go_wp2
        go_roundw
        case rel => exact ⟨k + 1, by omega, by go_num, below_drewN hbe _, HX.out⟩
        case measure => simp [intOf]; omega
      · have HX := Lib.hid (HN.out k hy)
        have hyb : (a.getD k 0 == b.getD k 0) = false := by simpa using hy
        generalize a.getD k 0 = y at *
        generalize b.getD k 0 = z at *
        go_wp2_with (fail)
        go_quiet (fail)
        go_wp2
        go_ret
        rw [← HX.out]
        exact ⟨rfl, below_drewN hbe _⟩
    · have e : k = a.length := by omega
      subst e
      have HX := Lib.hid (HY.out hll' HALL.out)
      go_wp2
      go_ret
      rw [← HX.out]
      exact ⟨rfl, hbe⟩
end Go.Proofs.Ytchmgilckiadaaa
