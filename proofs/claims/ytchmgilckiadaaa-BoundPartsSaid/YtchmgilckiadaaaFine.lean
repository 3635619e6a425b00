/- ref09.fine, law03.Ints: what they answer. -/
import Derived.Test.YtchmgilckiadaaaClosd
import Derived.BigQuiet
import Derived.Deep.QuietTactic
namespace Go.Proofs.Ytchmgilckiadaaa
open Go.RowKit
def fineB (c : List Ins) (ks : List Int) : Bool := !(c.any (badI ks.length) || ks.any fun x => decide (x < 0))
theorem fine_neg {c : List Ins} {ks : List Int} {j : Nat} (hj : j < ks.length) (h : ks.getD j 0 < 0) : fineB c ks = false := by
  have h1 : (ks.any fun x => decide (x < 0)) = true := List.any_eq_true.2 ⟨_, getD_in hj, by simpa using h⟩
  simp [fineB, h1]
theorem fine_bad {c : List Ins} {ks : List Int} {j : Nat} (hj : j < c.length) (h : badI ks.length (c.getD j (0, 0)) = true) : fineB c ks = false := by
  have h1 : c.any (badI ks.length) = true := List.any_eq_true.2 ⟨_, getD_in hj, h⟩
  simp [fineB, h1]
theorem fine_yes {c : List Ins} {ks : List Int} (h1 : ∀ j, j < ks.length → 0 ≤ ks.getD j 0) (h2 : ∀ j, j < c.length → badI ks.length (c.getD j (0, 0)) = false) : fineB c ks = true := by
  have h3 : c.any (badI ks.length) = false := List.any_eq_false.2 fun x hx => by
    obtain ⟨j, hj, rfl⟩ := List.mem_iff_getElem.1 hx
    have := h2 j hj
    simpa [hj] using this
  have h4 : (ks.any fun x => decide (x < 0)) = false := List.any_eq_false.2 fun x hx => by
    obtain ⟨j, hj, rfl⟩ := List.mem_iff_getElem.1 hx
    have := h1 j hj
    simp [hj] at this
    simpa using this
  simp [fineB, h3, h4]
set_option maxRecDepth 100000 in
set_option maxHeartbeats 2000000 in
theorem fine_any (vc vk : Value) (c : List Ins) (ks : List Int) (w : World) (hc : Code_ w vc c) (hk : Ints w vk ks) (hl : c.length ≤ 600) :
    Calls Try.prog 83 #[vc, vk] w fun e w' => e = .returned (.bool (fineB c ks)) ∧ w = w' := by
  have hkl := hk.len
  have HI := Lib.hid hc.i64
  obtain ⟨A, kc, rfl, hr⟩ := hc.open_
  obtain ⟨A2, k2, rfl, hr2⟩ := hk.open_
  have HR := Lib.hid hr
  have HR2 := Lib.hid hr2
  obtain ⟨R, hR⟩ : ∃ R, fineB c ks = R := ⟨_, rfl⟩
  rw [hR]
  have hneg := fun j hj h => (fine_neg (c := c) (ks := ks) (j := j) hj h).symm.trans hR
  have hbad := fun j hj h => (fine_bad (c := c) (ks := ks) (j := j) hj h).symm.trans hR
  have hyes := fun h1 h2 => (fine_yes (c := c) (ks := ks) h1 h2).symm.trans hR
  have HNEG := Lib.hid hneg
  have HBAD := Lib.hid hbad
  have HYES := Lib.hid hyes
  clear hc hk hr hr2 hneg hbad hyes hR
  go_enter Try.func83, Try.ntmps83
  go_wp2
  go_loop [5] (fun i => ∃ k : Nat, k ≤ ks.length ∧ i = .int .i64 k ∧ ∀ j, j < k → 0 ≤ ks.getD j 0) (fun i => ks.length - (intOf i).toNat)
  case atStart => exact ⟨0, Nat.zero_le _, rfl, fun j h => by omega⟩
  case round =>
    obtain ⟨k, hk, rfl, hall⟩ := hrel
    by_cases hlt : k < ks.length
    · obtain ⟨b, off, rfl, hc1⟩ := HR2.out k hlt
      have hk0 : (0 : Int) ≤ k := by omega
      have hk1 : (k : Int) < (ks.length : Int) := by omega
      have hn := HNEG.out k hlt
      have HALL := Lib.hid hall
      clear hall
      by_cases hy : ks.getD k 0 < 0
      · have HN := Lib.hid (hn hy)
        clear hn
        generalize ks.getD k 0 = y at *
        go_wp2
        go_ret
        rw [← HN.out]
        exact ⟨rfl, rfl⟩
      · have hnx : ∀ j, j < k + 1 → 0 ≤ ks.getD j 0 := fun j hj => by
          by_cases e : j = k
          · subst e; omega
          · exact HALL.out j (by omega)
        have HNX := Lib.hid hnx
        clear hnx hn
        generalize ks.getD k 0 = y at *
        go_wp2
        go_round
        case rel => exact ⟨k + 1, by omega, by go_num, HNX.out⟩
        case measure => simp [intOf]; omega
    · have e : k = ks.length := by omega
      subst e
      have HALL := Lib.hid hall
      clear hall hk hlt
      go_wp2
      go_loop [6] (fun i => ∃ k : Nat, k ≤ c.length ∧ i = .int .i64 k ∧ ∀ j, j < k → badI ks.length (c.getD j (0, 0)) = false) (fun i => c.length - (intOf i).toNat)
      case atStart => exact ⟨0, Nat.zero_le _, rfl, fun j h => by omega⟩
      case round =>
        obtain ⟨k, hk, rfl, hall2⟩ := hrel
        by_cases hlt : k < c.length
        · obtain ⟨b, off, rfl, hc1, hc2⟩ := HR.out k hlt
          have hk0 : (0 : Int) ≤ k := by omega
          have hk1 : (k : Int) < (c.length : Int) := by omega
          have hb := HBAD.out k hlt
          have hnx : badI ks.length (c.getD k (0, 0)) = false → ∀ j, j < k + 1 → badI ks.length (c.getD j (0, 0)) = false := fun h j hj => by
            by_cases e : j = k
            · subst e; exact h
            · exact hall2 j (by omega)
          have hdef : badI ks.length (c.getD k (0, 0)) = badI ks.length ((c.getD k (0, 0)).1, (c.getD k (0, 0)).2) := rfl
          rw [hdef] at hb hnx
          clear hall2 hdef
          generalize (c.getD k (0, 0)).1 = o at *
          generalize (c.getD k (0, 0)).2 = a at *
          unfold badI at hb hnx
          simp only at hb hnx
          by_cases h53 : o = 53
          · subst h53
            by_cases ha0 : a < 0
            · have HN := Lib.hid (hb (by simp [ha0]))
              clear hb hnx
              go_wp2
              go_ret
              rw [← HN.out]
              exact ⟨rfl, rfl⟩
            · by_cases ha1 : (ks.length : Int) ≤ a
              · have HN := Lib.hid (hb (by simp [ha1]))
                clear hb hnx
                go_wp2
                go_ret
                rw [← HN.out]
                exact ⟨rfl, rfl⟩
              · have HN := Lib.hid (hnx (by simp [ha0, ha1]))
                clear hb hnx
                go_wp2
                go_round
                case rel => exact ⟨k + 1, by omega, by go_num, HN.out⟩
                case measure => simp [intOf]; omega
          · have e53 : (o == 53) = false := by simpa using h53
            by_cases h51 : o = 51
            · subst h51
              by_cases ha0 : a < 0
              · have HN := Lib.hid (hb (by simp [ha0]))
                clear hb hnx
                go_wp2
                go_ret
                rw [← HN.out]
                exact ⟨rfl, rfl⟩
              · have HN := Lib.hid (hnx (by simp [ha0]))
                clear hb hnx
                go_wp2
                go_round
                case rel => exact ⟨k + 1, by omega, by go_num, HN.out⟩
                case measure => simp [intOf]; omega
            · have e51 : (o == 51) = false := by simpa using h51
              have HN := Lib.hid (hnx (by simp [h53, h51]))
              clear hb hnx
              go_wp2
              go_round
              case rel => exact ⟨k + 1, by omega, by go_num, HN.out⟩
              case measure => simp [intOf]; omega
        · have e : k = c.length := by omega
          subst e
          have HN := Lib.hid (HYES.out HALL.out hall2)
          clear hall2
          go_wp2
          go_ret
          rw [← HN.out]
          exact ⟨rfl, rfl⟩
set_option maxRecDepth 100000 in
theorem same_ints (va vb : Value) (xs : List Int) (w : World) (ha : Ints w va xs) (hb : Ints w vb xs) :
    Calls Try.prog 30 #[va, vb] w fun e w' => e = .returned (.bool true) ∧ Below w.heap.size w w' := by
  have hlen := ha.len
  obtain ⟨A, k1, rfl, hr⟩ := ha.open_
  obtain ⟨A2, k2, rfl, hr2⟩ := hb.open_
  have HR := Lib.hid hr
  have HR2 := Lib.hid hr2
  clear ha hb hr hr2
  go_enter Try.func30, Try.ntmps30
  go_wp2
  go_loopw [5] (fun i wr => ∃ k : Nat, k ≤ xs.length ∧ i = .int .i64 k ∧ Below w.heap.size w wr) (fun i _ => xs.length - (intOf i).toNat)
  case atStart => exact ⟨0, Nat.zero_le _, rfl, Below.refl _ _⟩
  case round =>
    obtain ⟨k, hk, rfl, hb⟩ := hrel
    by_cases hlt : k < xs.length
    · obtain ⟨b, off, rfl, hc1⟩ := HR.out k hlt
      obtain ⟨b2, off2, rfl, hc2⟩ := HR2.out k hlt
      have hc1 := (hb.cell (World.block_lt_of_cell? w _ hc1)).trans hc1
      have hc2 := (hb.cell (World.block_lt_of_cell? w _ hc2)).trans hc2
      have hk0 : (0 : Int) ≤ k := by omega
      have hk1 : (k : Int) < (xs.length : Int) := by omega
      generalize xs.getD k 0 = y at *
      go_wp2_with (fail)
      go_quiet (fail)
      go_wp2
      go_roundw
      case rel => exact ⟨k + 1, by omega, by go_num, below_drewN hb _⟩
      case measure => simp [intOf]; omega
    · go_wp2
      go_ret
      exact ⟨rfl, hb⟩
end Go.Proofs.Ytchmgilckiadaaa
