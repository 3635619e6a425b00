/- slices.Equal: of numbers, of strings, of instructions. -/
import Derived.Test.YtchmgilckiadaaaSmi
import Derived.Laws.StructEq
import Derived.Lib.SlicesS
namespace Go.Proofs.Ytchmgilckiadaaa
open Go.RowKit
theorem Strs.open_ {w : World} {v : Value} {l : List ByteArray} (h : Strs w v l) : ∃ A c, v = .slice A l.length c ∧ (∀ j, j < l.length → ∃ b off, A = some ⟨b, off, none⟩ ∧ w.cell? ⟨b, off + j, none⟩ = some (.string (l.getD j default))) := by
  obtain ⟨⟨A, c, rfl, hc⟩, _⟩ := h
  refine ⟨A, c, rfl, fun j hj => ?_⟩
  obtain ⟨b, off, rfl, hd⟩ := hc (by omega)
  exact ⟨b, off, rfl, hd j (by omega)⟩
/-- Are two instructions the same? -/
def insEq (a b c d : Int) : Bool := a == c && b == d
theorem insEq_refl (a b : Int) : insEq a b a b = true := by simp [insEq]
theorem neq_ins (w : World) (a b c d : Int) : (binOp .neq 35 (.agg #[.int .i64 a, .int .i64 b]) (.agg #[.int .i64 c, .int .i64 d])).run Try.prog w = .ok (.bool (!(insEq a b c d))) w := by
  have u3 := Try.underlying3
  have a3 := Try.isAgg3
  have z3 := Try.sizeOf3
  have hS : Try.prog.underlying 35 = some (.struct (Try.prog.fieldsOf 35)) := by kernel_rfl
  have hp : Try.prog.stoodInHeld 35 = false := by kernel_rfl
  rw [run_neq_struct, show (10000 : Nat) = 9999 + 1 from rfl, run_equalIn_agg w 9999 35 _ _ hS hp]
  simp only [Program.fieldsOf, Try.underlying35]
  go_simp
  by_cases h1 : a = c <;> by_cases h2 : b = d <;> simp [h1, h2, insEq]
theorem guard_ins (w : World) (x y : Operand) (xs ys : Array Value) : (eqGuard .neq 35 x y (.agg xs) (.agg ys)).run Try.prog w = .ok () w := run_eqGuard_agg w .neq _ x y xs ys (by kernel_rfl)
attribute [local go_sem] neq_ins guard_ins insEq_refl
set_option maxRecDepth 100000 in
theorem eqInts_any (va vb : Value) (a b : List Int) (w : World) (ha : Ints w va a) (hb : Ints w vb b) :
    Calls Try.prog 108 #[va, vb] w fun e w' => e = .returned (.bool (decide (a = b))) ∧ Below w.heap.size w w' := by
  have hla := ha.len
  have hlb := hb.len
  obtain ⟨A, k1, rfl, hr⟩ := ha.open_
  obtain ⟨A2, k2, rfl, hr2⟩ := hb.open_
  have HR := Lib.hid hr
  have HR2 := Lib.hid hr2
  obtain ⟨R, hR⟩ : ∃ R, decide (a = b) = R := ⟨_, rfl⟩
  rw [hR]
  have HL := Lib.hid (fun h => (list_ne_len (a := a) (b := b) h).symm.trans hR)
  have HN := Lib.hid (fun j h => (list_ne_at (0 : Int) (a := a) (b := b) j h).symm.trans hR)
  have HY := Lib.hid (fun hl h => (list_eq_yes (0 : Int) (a := a) (b := b) hl h).symm.trans hR)
  clear ha hb hr hr2 hR
  by_cases hll : (a.length : Int) = b.length
  case neg =>
    have HF := Lib.hid (HL.out hll)
    go_enter Try.func108, Try.ntmps108
    go_wp2
    go_ret
    rw [← HF.out]
    exact ⟨rfl, Below.refl _ _⟩
  have hll' : a.length = b.length := by omega
  go_enter Try.func108, Try.ntmps108
  go_wp2
  go_loopw [5, 13] (fun i5 i wr => ∃ k : Nat, k ≤ a.length ∧ i = .int .i64 k ∧ Below w.heap.size w wr ∧ ∀ j, j < k → a.getD j (0 : Int) = b.getD j (0 : Int)) (fun _ i _ => a.length - (intOf i).toNat)
  case atStart => exact ⟨0, Nat.zero_le _, rfl, Below.refl _ _, fun j h => by omega⟩
  case round =>
    obtain ⟨k, hk, rfl, hbe, hall⟩ := hrel
    have HALL := Lib.hid hall
    clear hall
    by_cases hlt : k < a.length
    · obtain ⟨bb, off, rfl, hc1⟩ := HR.out k hlt
      obtain ⟨b2, off2, rfl, hc2⟩ := HR2.out k (hll' ▸ hlt)
      have hc1 := (hbe.cell (World.block_lt_of_cell? w _ hc1)).trans hc1
      have hc2 := (hbe.cell (World.block_lt_of_cell? w _ hc2)).trans hc2
      have hk0 : (0 : Int) ≤ k := by omega
      have hk1 : (k : Int) < (a.length : Int) := by omega
      have hk2 : (k : Int) < (b.length : Int) := by omega
      by_cases hy : a.getD k (0 : Int) = b.getD k (0 : Int)
      · have HX := Lib.hid (show ∀ j, j < k + 1 → a.getD j (0 : Int) = b.getD j (0 : Int) from fun j hj => by
          by_cases e : j = k
          · subst e; exact hy
          · exact HALL.out j (by omega))
        rw [← hy] at hc2
        generalize a.getD k (0 : Int) = y at *
        go_wp2_with (fail)
        go_quiet (fail)
        go_wp2
        go_roundw
        case rel => exact ⟨k + 1, by omega, by go_num, below_drewN hbe _, HX.out⟩
        case measure => simp [intOf]; omega
      · have HX := Lib.hid (HN.out k hy)
        have hyb : (a.getD k (0 : Int) == b.getD k (0 : Int)) = false := by simpa using hy
        generalize a.getD k (0 : Int) = y at *
        generalize b.getD k (0 : Int) = z at *
        go_wp2_with (fail)
        go_quiet (fail)
        go_wp2
        go_ret
        rw [← HX.out]
        exact ⟨rfl, below_drewN hbe _⟩
    · have e : k = a.length := by omega
      subst e
      have HX := Lib.hid (HY.out hll' HALL.out)
      go_wp2
      go_ret
      rw [← HX.out]
      exact ⟨rfl, hbe⟩
set_option maxRecDepth 100000 in
theorem eqStrs_any (va vb : Value) (a b : List ByteArray) (w : World) (ha : Strs w va a) (hb : Strs w vb b) :
    Calls Try.prog 105 #[va, vb] w fun e w' => e = .returned (.bool (decide (a = b))) ∧ Below w.heap.size w w' := by
  have hla := ha.len
  have hlb := hb.len
  obtain ⟨A, k1, rfl, hr⟩ := ha.open_
  obtain ⟨A2, k2, rfl, hr2⟩ := hb.open_
  have HR := Lib.hid hr
  have HR2 := Lib.hid hr2
  obtain ⟨R, hR⟩ : ∃ R, decide (a = b) = R := ⟨_, rfl⟩
  rw [hR]
  have HL := Lib.hid (fun h => (list_ne_len (a := a) (b := b) h).symm.trans hR)
  have HN := Lib.hid (fun j h => (list_ne_at (default : ByteArray) (a := a) (b := b) j h).symm.trans hR)
  have HY := Lib.hid (fun hl h => (list_eq_yes (default : ByteArray) (a := a) (b := b) hl h).symm.trans hR)
  clear ha hb hr hr2 hR
  by_cases hll : (a.length : Int) = b.length
  case neg =>
    have HF := Lib.hid (HL.out hll)
    go_enter Try.func105, Try.ntmps105
    go_wp2
    go_ret
    rw [← HF.out]
    exact ⟨rfl, Below.refl _ _⟩
  have hll' : a.length = b.length := by omega
  go_enter Try.func105, Try.ntmps105
  go_wp2
  go_loopw [5, 13] (fun i5 i wr => ∃ k : Nat, k ≤ a.length ∧ i = .int .i64 k ∧ Below w.heap.size w wr ∧ ∀ j, j < k → a.getD j (default : ByteArray) = b.getD j (default : ByteArray)) (fun _ i _ => a.length - (intOf i).toNat)
  case atStart => exact ⟨0, Nat.zero_le _, rfl, Below.refl _ _, fun j h => by omega⟩
  case round =>
    obtain ⟨k, hk, rfl, hbe, hall⟩ := hrel
    have HALL := Lib.hid hall
    clear hall
    by_cases hlt : k < a.length
    · obtain ⟨bb, off, rfl, hc1⟩ := HR.out k hlt
      obtain ⟨b2, off2, rfl, hc2⟩ := HR2.out k (hll' ▸ hlt)
      have hc1 := (hbe.cell (World.block_lt_of_cell? w _ hc1)).trans hc1
      have hc2 := (hbe.cell (World.block_lt_of_cell? w _ hc2)).trans hc2
      have hk0 : (0 : Int) ≤ k := by omega
      have hk1 : (k : Int) < (a.length : Int) := by omega
      have hk2 : (k : Int) < (b.length : Int) := by omega
      by_cases hy : a.getD k (default : ByteArray) = b.getD k (default : ByteArray)
      · have HX := Lib.hid (show ∀ j, j < k + 1 → a.getD j (default : ByteArray) = b.getD j (default : ByteArray) from fun j hj => by
          by_cases e : j = k
          · subst e; exact hy
          · exact HALL.out j (by omega))
        rw [← hy] at hc2
        generalize a.getD k (default : ByteArray) = y at *
        go_wp2_with (fail)
        go_quiet (fail)
        go_wp2
        go_roundw
        case rel => exact ⟨k + 1, by omega, by go_num, below_drewN hbe _, HX.out⟩
        case measure => simp [intOf]; omega
      · have HX := Lib.hid (HN.out k hy)
        have hyb := (Lib.bytes_beq_false_iff _ _).2 hy
        generalize a.getD k (default : ByteArray) = y at *
        generalize b.getD k (default : ByteArray) = z at *
        go_wp2_with (fail)
        go_quiet (fail)
        go_wp2
        go_ret
        rw [← HX.out]
        exact ⟨rfl, below_drewN hbe _⟩
    · have e : k = a.length := by omega
      subst e
      have HX := Lib.hid (HY.out hll' HALL.out)
      go_wp2
      go_ret
      rw [← HX.out]
      exact ⟨rfl, hbe⟩
set_option maxRecDepth 100000 in
theorem eqCode_any (va vb : Value) (a b : List Ins) (w : World) (ha : Code_ w va a) (hb : Code_ w vb b) :
    Calls Try.prog 109 #[va, vb] w fun e w' => e = .returned (.bool (decide (a = b))) ∧ Below w.heap.size w w' := by
  have hla := ha.len
  have hlb := hb.len
  obtain ⟨A, k1, rfl, hr⟩ := ha.open_
  obtain ⟨A2, k2, rfl, hr2⟩ := hb.open_
  have HR := Lib.hid hr
  have HR2 := Lib.hid hr2
  obtain ⟨R, hR⟩ : ∃ R, decide (a = b) = R := ⟨_, rfl⟩
  rw [hR]
  have HL := Lib.hid (fun h => (list_ne_len (a := a) (b := b) h).symm.trans hR)
  have HN := Lib.hid (fun j h => (list_ne_at ((0, 0) : Ins) (a := a) (b := b) j h).symm.trans hR)
  have HY := Lib.hid (fun hl h => (list_eq_yes ((0, 0) : Ins) (a := a) (b := b) hl h).symm.trans hR)
  clear ha hb hr hr2 hR
  by_cases hll : (a.length : Int) = b.length
  case neg =>
    have HF := Lib.hid (HL.out hll)
    go_enter Try.func109, Try.ntmps109
    go_wp2
    go_ret
    rw [← HF.out]
    exact ⟨rfl, Below.refl _ _⟩
  have hll' : a.length = b.length := by omega
  go_enter Try.func109, Try.ntmps109
  go_wp2
  go_loopw [5, 13] (fun i5 i wr => ∃ k : Nat, k ≤ a.length ∧ i = .int .i64 k ∧ Below w.heap.size w wr ∧ ∀ j, j < k → a.getD j ((0, 0) : Ins) = b.getD j ((0, 0) : Ins)) (fun _ i _ => a.length - (intOf i).toNat)
  case atStart => exact ⟨0, Nat.zero_le _, rfl, Below.refl _ _, fun j h => by omega⟩
  case round =>
    obtain ⟨k, hk, rfl, hbe, hall⟩ := hrel
    have HALL := Lib.hid hall
    clear hall
    by_cases hlt : k < a.length
    · obtain ⟨bb, off, rfl, hc1, hc1'⟩ := HR.out k hlt
      obtain ⟨b2, off2, rfl, hc2, hc2'⟩ := HR2.out k (hll' ▸ hlt)
      have hc1 := (hbe.cell (World.block_lt_of_cell? w _ hc1)).trans hc1
      have hc2 := (hbe.cell (World.block_lt_of_cell? w _ hc2)).trans hc2
      have hc1' := (hbe.cell (World.block_lt_of_cell? w _ hc1')).trans hc1'
      have hc2' := (hbe.cell (World.block_lt_of_cell? w _ hc2')).trans hc2'
      have hk0 : (0 : Int) ≤ k := by omega
      have hk1 : (k : Int) < (a.length : Int) := by omega
      have hk2 : (k : Int) < (b.length : Int) := by omega
      by_cases hy : a.getD k ((0, 0) : Ins) = b.getD k ((0, 0) : Ins)
      · have HX := Lib.hid (show ∀ j, j < k + 1 → a.getD j ((0, 0) : Ins) = b.getD j ((0, 0) : Ins) from fun j hj => by
          by_cases e : j = k
          · subst e; exact hy
          · exact HALL.out j (by omega))
        rw [← hy] at hc2 hc2'
        generalize a.getD k ((0, 0) : Ins) = y at *
        go_wp2_with (fail)
        go_quiet (fail)
        go_wp2
        go_roundw
        case rel => exact ⟨k + 1, by omega, by go_num, below_drewN hbe _, HX.out⟩
        case measure => simp [intOf]; omega
      · have HX := Lib.hid (HN.out k hy)
        generalize a.getD k ((0, 0) : Ins) = y at *
        generalize b.getD k ((0, 0) : Ins) = z at *
        by_cases hf : y.1 = z.1
        · have hs : ¬ y.2 = z.2 := fun h => hy (Prod.ext hf h)
          go_wp2_with (fail)
          go_quiet (fail)
          go_wp2
          go_ret
          rw [← HX.out]
          exact ⟨rfl, below_drewN hbe _⟩
        · go_wp2_with (fail)
          go_quiet (fail)
          go_wp2
          go_ret
          rw [← HX.out]
          exact ⟨rfl, below_drewN hbe _⟩
    · have e : k = a.length := by omega
      subst e
      have HX := Lib.hid (HY.out hll' HALL.out)
      go_wp2
      go_ret
      rw [← HX.out]
      exact ⟨rfl, hbe⟩
end Go.Proofs.Ytchmgilckiadaaa
