/- slices.Grow, slices.Concat: of numbers, of bytes. -/
import Derived.Test.YtchmgilckiadaaaSmi
import Derived.Shelf.Spec.SlicesGrow
namespace Go.Proofs.Ytchmgilckiadaaa
open Go.RowKit Go.Shelf
shelf_lay_g Lays8.n4 Nm8 4 at Try 148 as Try.growI
shelf_lay_g Lays8.n4 Nm8 4 at Try 195 as Try.growB
/-- Slices of one cell an element, one behind the other in a slice. -/
structure Parts (w : World) (v : Value) (L : List (List Value)) : Prop where
  at_ : ∃ A c, v = .slice A L.length c ∧ ∀ j, j < L.length → ∃ b off u, A = some ⟨b, off, none⟩ ∧ w.cell? ⟨b, off + j, none⟩ = some u ∧ CellsAt w u (L.getD j []).length 1 (fun i => (L.getD j []).getD i (.int .i64 0))
  one : ∀ l ∈ L, ∀ x ∈ l, x.oneCell' = true
theorem Parts.ext {w w1 : World} {v : Value} {L : List (List Value)} (h : Parts w v L) (hb : Below w.heap.size w w1) : Parts w1 v L := by
  obtain ⟨A, c, e, h1⟩ := h.at_
  refine ⟨⟨A, c, e, fun j hj => ?_⟩, h.one⟩
  obtain ⟨b, off, u, e2, h2, h3⟩ := h1 j hj
  exact ⟨b, off, u, e2, cell_ext h2 hb, h3.ext hb⟩
theorem flat_take_le (L : List (List Value)) (k : Nat) : (L.take k).flatten.length ≤ L.flatten.length := by
  have h := List.take_append_drop k L
  have h2 : (L.take k).flatten ++ (L.drop k).flatten = L.flatten := by rw [← List.flatten_append, h]
  rw [← h2]; simp
theorem flat_take_succ (L : List (List Value)) (k : Nat) (h : k < L.length) : (L.take (k + 1)).flatten = (L.take k).flatten ++ L.getD k [] := by
  rw [take_snoc L k [] h]; simp
theorem part_le (L : List (List Value)) (k : Nat) (h : k < L.length) : (L.take k).flatten.length + (L.getD k []).length ≤ L.flatten.length := by
  have h1 := flat_take_le L (k + 1)
  rw [flat_take_succ L k h] at h1
  simpa using h1
theorem list_range_getD (l : List Value) (d : Value) : l = (List.range (l.length * 1)).map (fun j => l.getD j d) := by
  apply List.ext_getElem?
  intro j
  by_cases h : j < l.length
  · simp [h]
  · rw [List.getElem?_eq_none (by omega), List.getElem?_eq_none (by simp; omega)]
theorem growNil_ints (n : Nat) (w : World) (hn : n * 8 ≤ 140737488355328) :
    Calls Try.prog 148 #[.slice none 0 0, .int .i64 n] w fun e w' => (∃ v', e = .returned v' ∧ w'.ownsRow w.heap.size 3 1 v' 0 []) ∧ Below w.heap.size w w' := by
  by_cases h0 : n = 0
  · subst h0
    refine (Any8.slices_Grow_room Try.growI none 0 0 0 w (Nat.le_refl _) (by omega) (by omega) (by omega)).mono ?_
    rintro e w' ⟨rfl, rfl⟩
    exact ⟨⟨_, rfl, World.ownsRow_nil _ _ _ _⟩, Below.refl _ _⟩
  · obtain ⟨i0, hi0, hz0, hs0, hb0⟩ := info_parts (P := Try.prog) (e := 3) (z := .int .i64 0) (size := 1) (bytes := 8) (by kernel_rfl)
    refine (Any8.slices_Grow_grow Try.growI i0 _ hi0 hz0 (by rw [hs0]; decide) none 0 0 n [] w (Nat.le_refl _) (by omega) (by rw [hb0]; omega) (by omega) (by simp) (fun _ => rfl) (by simp)).mono ?_
    rintro e w' ⟨rfl, rfl⟩
    have hge := grownCap_ge w (0 + n) 0 3
    have hle := grownCap_le_maxLen w (0 + n) 0 3 (by unfold maxLen; omega)
    refine ⟨⟨_, rfl, rfl, .inr ⟨w.heap.size, _, _, rfl, Nat.le_refl _, World.alloc_heap_new w.drew _, Nat.zero_le _, hle, ?_, rfl⟩⟩, ?_⟩
    · simp only [Array.size_append, List.size_toArray, size_zeroCells, Value.cells, List.length_nil, Array.size_singleton, List.size_toArray]
      simp
      have hge' : n ≤ grownCap w n 0 (Try.growI_ren.t 25) := grownCap_ge w n 0 _
      omega
    · exact (show Below w.heap.size w (w.drewN 1) from below_drewN (Below.refl w.heap.size w) 1).alloc (by simp) _
set_option maxRecDepth 100000 in
set_option maxHeartbeats 1000000 in
theorem concat_ints (v : Value) (L : List (List Value)) (w : World) (h : Parts w v L) (hl : L.flatten.length * 8 ≤ 140737488355328) (hk : L.length ≤ 1000000) :
    Calls Try.prog 96 #[v] w fun e w' => (∃ v', e = .returned v' ∧ w'.ownsRow w.heap.size 3 1 v' L.flatten.length L.flatten) ∧ Below w.heap.size w w' := by
  obtain ⟨A, c, rfl, hc⟩ := h.at_
  have HC := Lib.hid hc
  have HONE := Lib.hid h.one
  clear hc h
  obtain ⟨N, hN⟩ : ∃ N, L.flatten.length = N := ⟨_, rfl⟩
  have hle := fun k => hN ▸ flat_take_le L k
  have hpl := fun k h => hN ▸ part_le L k h
  have HPL := Lib.hid hpl
  have HG := Lib.hid (fun u => growNil_ints N u (hN ▸ hl))
  have HALL := Lib.hid (show ((L.take L.length).flatten) = L.flatten by rw [List.take_length])
  rw [hN] at hl
  have HNN := Lib.hid hN
  clear hN hpl
  go_enter Try.func96, Try.ntmps96
  go_wp2
  go_loop [3, 5, 11] (fun s i5 i => ∃ k : Nat, k ≤ L.length ∧ i = .int .i64 k ∧ s = .int .i64 ((L.take k).flatten.length : Nat)) (fun _ _ i => L.length - (intOf i).toNat)
  case atStart => exact ⟨0, Nat.zero_le _, rfl, by simp⟩
  case round =>
    obtain ⟨k, hk1, rfl, rfl⟩ := hrel
    by_cases hlt : k < L.length
    · obtain ⟨b, off, u, rfl, hcell, hu⟩ := HC.out k hlt
      obtain ⟨Au, cu, rfl, _⟩ := hu
      have h1 := HPL.out k hlt
      have h2 := congrArg List.length (flat_take_succ L k hlt)
      rw [List.length_append] at h2
      have H2 := Lib.hid h2
      generalize (L.getD k []).length = m at *
      generalize (L.take k).flatten.length = s at *
      have hk0 : (0 : Int) ≤ k := by omega
      have hk2 : (k : Int) < (L.length : Int) := by omega
      clear hle h2
      have hng : decide ((s : Int) + (m : Int) < 0) = false := by simp; omega
      go_wp2
      go_round
      case rel => exact ⟨k + 1, by omega, by go_num, by rw [H2.out]; go_num⟩
      case measure => simp [intOf]; omega
    · have e : k = L.length := by omega
      subst e
      rw [HALL.out, HNN.out]
      clear hle
      go_upto_region 10 with (go_at_call 148; (with_reducible refine (HG.out _).mono ?_); go_must (rintro e w1 ⟨⟨v6, rfl, hown⟩, hb⟩; have HO := Lib.hid hown; have HB := Lib.hid hb; clear hown hb))
      go_wp2
      go_loopw [6, 8, 27] (fun o i8 i wr => ∃ k : Nat, k ≤ L.length ∧ i = .int .i64 k ∧ wr.ownsRow w.heap.size 3 1 o (L.take k).flatten.length (L.take k).flatten ∧ Below w.heap.size w wr) (fun _ _ i _ => L.length - (intOf i).toNat)
      case atStart => exact ⟨0, Nat.zero_le _, rfl, by simpa using HO.out, HB.out⟩
      case round =>
        obtain ⟨k, hk1, rfl, hown, hbe⟩ := hrel
        by_cases hlt : k < L.length
        · obtain ⟨b, off, u, rfl, hcell, hu⟩ := HC.out k hlt
          have hcell := cell_ext hcell hbe
          have hu := hu.ext hbe
          have h1 := HPL.out k hlt
          obtain ⟨v', w', hrun, h3, h4, _⟩ := run_append_any (P := Try.prog) _ w.heap.size 23 23 3 (.int .i64 0) 1 8 Try.underlying23 (by kernel_rfl) rfl (by decide) _ u _ _ _ (L.getD k []) hown (fun i => (L.getD k []).getD i (.int .i64 0)) hu (list_range_getD _ _) (fun j => by
            by_cases hj : j < (L.getD k []).length
            · exact HONE.out _ (getD_in hlt) _ (getD_in hj)
            · rw [List.getD_eq_getElem?_getD (l := L.getD k []), List.getElem?_eq_none (by omega)]; rfl) (by unfold maxLen; omega) (by omega) hbe.size
          have h5 : Below w.heap.size w w' := hbe.trans ⟨h4.os, h4.tape, h4.output, h4.size, fun q hq => h4.block q (Nat.lt_of_lt_of_le hq hbe.size) (fun hh => by have := (hown.lt q hh.symm).1; omega)⟩
          rw [← List.length_append, ← flat_take_succ L k hlt] at h3
          have HR := Lib.hid hrun
          have H3 := Lib.hid h3
          have H5 := Lib.hid h5
          obtain ⟨Au, cu, rfl, _⟩ := hu
          have hk0 : (0 : Int) ≤ k := by omega
          have hk2 : (k : Int) < (L.length : Int) := by omega
          clear hown hbe hrun h3 h4 h5
          generalize (L.getD k []).length = m at *
          go_wp2_with (at_builtin; refine wpList_append_run _ rfl (.tmp 31) (.tmp 32) 23 23 rfl _ _ rfl rfl HR.out ?_)
          go_roundw
          case rel => exact ⟨k + 1, by omega, by go_num, H3.out, H5.out⟩
          case measure => simp [intOf]; omega
        · have e : k = L.length := by omega
          subst e
          rw [HALL.out] at hown
          go_wp2
          go_ret
          exact ⟨⟨_, rfl, by rw [← HNN.out]; exact hown⟩, hbe⟩
theorem growNil_byts (n : Nat) (w : World) (hn : n * 1 ≤ 140737488355328) :
    Calls Try.prog 195 #[.slice none 0 0, .int .i64 n] w fun e w' => (∃ v', e = .returned v' ∧ w'.ownsRow w.heap.size 5 1 v' 0 []) ∧ Below w.heap.size w w' := by
  by_cases h0 : n = 0
  · subst h0
    refine (Any8.slices_Grow_room Try.growB none 0 0 0 w (Nat.le_refl _) (by omega) (by omega) (by omega)).mono ?_
    rintro e w' ⟨rfl, rfl⟩
    exact ⟨⟨_, rfl, World.ownsRow_nil _ _ _ _⟩, Below.refl _ _⟩
  · obtain ⟨i0, hi0, hz0, hs0, hb0⟩ := info_parts (P := Try.prog) (e := 5) (z := .int .u8 0) (size := 1) (bytes := 1) (by kernel_rfl)
    refine (Any8.slices_Grow_grow Try.growB i0 _ hi0 hz0 (by rw [hs0]; decide) none 0 0 n [] w (Nat.le_refl _) (by omega) (by rw [hb0]; omega) (by omega) (by simp) (fun _ => rfl) (by simp)).mono ?_
    rintro e w' ⟨rfl, rfl⟩
    have hge := grownCap_ge w (0 + n) 0 5
    have hle := grownCap_le_maxLen w (0 + n) 0 5 (by unfold maxLen; omega)
    refine ⟨⟨_, rfl, rfl, .inr ⟨w.heap.size, _, _, rfl, Nat.le_refl _, World.alloc_heap_new w.drew _, Nat.zero_le _, hle, ?_, rfl⟩⟩, ?_⟩
    · simp only [Array.size_append, List.size_toArray, size_zeroCells, Value.cells, List.length_nil, Array.size_singleton, List.size_toArray]
      simp
      have hge' : n ≤ grownCap w n 0 (Try.growB_ren.t 25) := grownCap_ge w n 0 _
      omega
    · exact (show Below w.heap.size w (w.drewN 1) from below_drewN (Below.refl w.heap.size w) 1).alloc (by simp) _
set_option maxRecDepth 100000 in
set_option maxHeartbeats 1000000 in
theorem concat_byts (v : Value) (L : List (List Value)) (w : World) (h : Parts w v L) (hl : L.flatten.length * 1 ≤ 140737488355328) (hk : L.length ≤ 1000000) :
    Calls Try.prog 185 #[v] w fun e w' => (∃ v', e = .returned v' ∧ w'.ownsRow w.heap.size 5 1 v' L.flatten.length L.flatten) ∧ Below w.heap.size w w' := by
  obtain ⟨A, c, rfl, hc⟩ := h.at_
  have HC := Lib.hid hc
  have HONE := Lib.hid h.one
  clear hc h
  obtain ⟨N, hN⟩ : ∃ N, L.flatten.length = N := ⟨_, rfl⟩
  have hle := fun k => hN ▸ flat_take_le L k
  have hpl := fun k h => hN ▸ part_le L k h
  have HPL := Lib.hid hpl
  have HG := Lib.hid (fun u => growNil_byts N u (hN ▸ hl))
  have HALL := Lib.hid (show ((L.take L.length).flatten) = L.flatten by rw [List.take_length])
  rw [hN] at hl
  have HNN := Lib.hid hN
  clear hN hpl
  go_enter Try.func185, Try.ntmps185
  go_wp2
  go_loop [3, 5, 11] (fun s i5 i => ∃ k : Nat, k ≤ L.length ∧ i = .int .i64 k ∧ s = .int .i64 ((L.take k).flatten.length : Nat)) (fun _ _ i => L.length - (intOf i).toNat)
  case atStart => exact ⟨0, Nat.zero_le _, rfl, by simp⟩
  case round =>
    obtain ⟨k, hk1, rfl, rfl⟩ := hrel
    by_cases hlt : k < L.length
    · obtain ⟨b, off, u, rfl, hcell, hu⟩ := HC.out k hlt
      obtain ⟨Au, cu, rfl, _⟩ := hu
      have h1 := HPL.out k hlt
      have h2 := congrArg List.length (flat_take_succ L k hlt)
      rw [List.length_append] at h2
      have H2 := Lib.hid h2
      generalize (L.getD k []).length = m at *
      generalize (L.take k).flatten.length = s at *
      have hk0 : (0 : Int) ≤ k := by omega
      have hk2 : (k : Int) < (L.length : Int) := by omega
      clear hle h2
      have hng : decide ((s : Int) + (m : Int) < 0) = false := by simp; omega
      go_wp2
      go_round
      case rel => exact ⟨k + 1, by omega, by go_num, by rw [H2.out]; go_num⟩
      case measure => simp [intOf]; omega
    · have e : k = L.length := by omega
      subst e
      rw [HALL.out, HNN.out]
      clear hle
      go_upto_region 10 with (go_at_call 195; (with_reducible refine (HG.out _).mono ?_); go_must (rintro e w1 ⟨⟨v6, rfl, hown⟩, hb⟩; have HO := Lib.hid hown; have HB := Lib.hid hb; clear hown hb))
      go_wp2
      go_loopw [6, 8, 27] (fun o i8 i wr => ∃ k : Nat, k ≤ L.length ∧ i = .int .i64 k ∧ wr.ownsRow w.heap.size 5 1 o (L.take k).flatten.length (L.take k).flatten ∧ Below w.heap.size w wr) (fun _ _ i _ => L.length - (intOf i).toNat)
      case atStart => exact ⟨0, Nat.zero_le _, rfl, by simpa using HO.out, HB.out⟩
      case round =>
        obtain ⟨k, hk1, rfl, hown, hbe⟩ := hrel
        by_cases hlt : k < L.length
        · obtain ⟨b, off, u, rfl, hcell, hu⟩ := HC.out k hlt
          have hcell := cell_ext hcell hbe
          have hu := hu.ext hbe
          have h1 := HPL.out k hlt
          obtain ⟨v', w', hrun, h3, h4, _⟩ := run_append_any (P := Try.prog) _ w.heap.size 46 46 5 (.int .u8 0) 1 1 Try.underlying46 (by kernel_rfl) rfl (by decide) _ u _ _ _ (L.getD k []) hown (fun i => (L.getD k []).getD i (.int .i64 0)) hu (list_range_getD _ _) (fun j => by
            by_cases hj : j < (L.getD k []).length
            · exact HONE.out _ (getD_in hlt) _ (getD_in hj)
            · rw [List.getD_eq_getElem?_getD (l := L.getD k []), List.getElem?_eq_none (by omega)]; rfl) (by unfold maxLen; omega) (by omega) hbe.size
          have h5 : Below w.heap.size w w' := hbe.trans ⟨h4.os, h4.tape, h4.output, h4.size, fun q hq => h4.block q (Nat.lt_of_lt_of_le hq hbe.size) (fun hh => by have := (hown.lt q hh.symm).1; omega)⟩
          rw [← List.length_append, ← flat_take_succ L k hlt] at h3
          have HR := Lib.hid hrun
          have H3 := Lib.hid h3
          have H5 := Lib.hid h5
          obtain ⟨Au, cu, rfl, _⟩ := hu
          have hk0 : (0 : Int) ≤ k := by omega
          have hk2 : (k : Int) < (L.length : Int) := by omega
          clear hown hbe hrun h3 h4 h5
          generalize (L.getD k []).length = m at *
          go_wp2_with (at_builtin; refine wpList_append_run _ rfl (.tmp 31) (.tmp 32) 46 46 rfl _ _ rfl rfl HR.out ?_)
          go_roundw
          case rel => exact ⟨k + 1, by omega, by go_num, H3.out, H5.out⟩
          case measure => simp [intOf]; omega
        · have e : k = L.length := by omega
          subst e
          rw [HALL.out] at hown
          go_wp2
          go_ret
          exact ⟨⟨_, rfl, by rw [← HNN.out]; exact hown⟩, hbe⟩
end Go.Proofs.Ytchmgilckiadaaa
