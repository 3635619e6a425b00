/- wire.Writer: none, more; wire.big. -/
import Derived.Test.YtchmgilckiadaaaWri
import Derived.Test.YtchmgilckiadaaaRgr
namespace Go.Proofs.Ytchmgilckiadaaa
open Go.RowKit
theorem own_slice {w : World} {B n : Nat} {e : TypeId} {s : Nat} {v : Value} {xs : List Value} (h : w.ownsRow B e s v n xs) : ∃ A k, v = .slice A n k := by
  rcases h.2 with ⟨rfl, rfl⟩ | ⟨q, cap, cur, rfl, _⟩
  · exact ⟨_, _, rfl⟩
  · exact ⟨_, _, rfl⟩
theorem none_any (B q : Nat) (bs : List UInt8) (w : World) (h : WAt w B q bs) : Calls Try.prog 144 #[.pointer (some ⟨q, 0, none⟩)] w fun e w' => e = .returned (.bool false) ∧ w' = w := by
  obtain ⟨_, v, hq, _⟩ := h
  obtain ⟨c0, c1⟩ := two_at (Below.refl _ _) hq
  clear hq c0
  go_enter Try.func144, Try.ntmps144
  go_wp2
  go_ret
  exact ⟨rfl, rfl⟩
theorem info_byt : (Try.prog.info? 5).map (fun i => (i.zero, i.size, i.bytes)) = some (some (.int .u8 0), 1, 1) := by kernel_rfl
theorem bytVals_range (l : List UInt8) : bytVals l = (List.range (l.length * 1)).map (fun j => .int .u8 ((l.getD j 0).toNat : Int)) := by
  apply List.ext_getElem?
  intro j
  by_cases h : j < l.length
  · rw [bytVals_at l j h]; simp [h]
  · rw [List.getElem?_eq_none (by rw [bytVals_len]; omega), List.getElem?_eq_none (by simp; omega)]
theorem frozen_row {w : World} {q j : Nat} {cs : Array Value} {t : TypeId} (h : w.heap[q]? = some (.cells cs t (0, 0))) : w.frozen? ⟨q, j, none⟩ = false := by
  simp [World.frozen?, h]
set_option maxRecDepth 100000 in
theorem more_any (B q : Nat) (bs : List UInt8) (v : Value) (L : List (List UInt8)) (w : World) (h : WAt w B q bs) (hp : Parts w v (L.map bytVals)) (hl : bs.length + L.flatten.length ≤ 1048576) (hk : L.length ≤ 1000000) :
    Calls Try.prog 145 #[.pointer (some ⟨q, 0, none⟩), v] w (WPost B q bs L.flatten w) := by
  have hcat := concat_byts v (L.map bytVals) w hp (by rw [flat_bytVals, bytVals_len]; omega) (by rw [List.length_map]; omega)
  rw [flat_bytVals, bytVals_len] at hcat
  have HC := Lib.hid hcat
  have H := Lib.hid h
  obtain ⟨A0, k0, hv0⟩ : ∃ A k, v = .slice A L.length k := by
    obtain ⟨A, c, e, _⟩ := hp.at_
    exact ⟨A, c, by rw [e, List.length_map]⟩
  subst hv0
  clear hcat hp h
  generalize L.flatten = new at *
  go_enter Try.func145, Try.ntmps145
  go_upto_region 2 with (go_at_call 185; (with_reducible refine HC.out.mono ?_); go_must (rintro e w1 ⟨⟨v1, rfl, ho⟩, hb⟩; have HO := Lib.hid ho; have HB := Lib.hid hb; clear ho hb))
  have h1 := H.out.ext HB.out
  have hlt := h1.lt
  have HN := Lib.hid (none_any B q bs w1 h1)
  obtain ⟨hBq, vb, hq, hown⟩ := h1
  obtain ⟨Ab, kb, rfl⟩ := own_slice hown
  have hbyts := own_byts HO.out rfl
  obtain ⟨v', w2, hrun, hown2, hg, _⟩ := run_append_any (P := Try.prog) w1 B 46 46 5 (.int .u8 0) 1 1 Try.underlying46 info_byt rfl (by decide) _ _ bs.length new.length (bytVals bs) (bytVals new) hown _ hbyts (bytVals_range new) (fun j => rfl) (by unfold maxLen; omega) (by omega) (by omega)
  obtain ⟨A1, c1, rfl, _⟩ := hbyts
  obtain ⟨A2, c2, rfl⟩ := own_slice hown2
  obtain ⟨g0, g1⟩ := two_at (Below.refl _ _) hq
  have hne : some q ≠ (Value.slice Ab bs.length kb).ownBlock := fun e => by
    obtain ⟨cur, h1⟩ := row_tag hown e.symm
    exact tag_ne h1 hq (by decide) rfl
  have hq2 := (hg.block q (heap_lt hq) hne).trans hq
  obtain ⟨k0', k1'⟩ := two_at (Below.refl _ _) hq2
  have kf := frozen_row (j := 0) hq2
  have HM := Lib.hid (more_step hBq hq hown hown2 hg)
  have HR := Lib.hid hrun
  clear hq hown hown2 hg hrun hne hq2 HC H hlt
  have hc : decide ((1048576 : Int) - bs.length < new.length) = false := by simp; omega
  go_wp2_with (first
    | (go_at_call 144; (with_reducible refine HN.out.mono ?_); go_must (rintro e w3 ⟨rfl, rfl⟩))
    | (at_builtin; refine wpList_append_run _ rfl (.tmp 27) (.tmp 28) 46 46 rfl _ _ rfl rfl HR.out ?_))
  go_ret
  exact ⟨rfl, HM.out.1, (WStep.of_below HB.out).trans HM.out.2⟩
/-- Of a row being filled: so many are laid. -/
def Filled (w : World) (q size k : Nat) (f : Nat → Value) : Prop := ∃ cs : Array Value, w.heap[q]? = some (.cells cs 5 (0, 0)) ∧ cs.size = size ∧ ∀ j, j < k → cs[j]? = some (f j)
theorem Filled.set {w : World} {q size k : Nat} {f : Nat → Value} {x : Value} (h : Filled w q size k f) (hk : k < size) (hx : x = f k) : Filled (w.setCell ⟨q, k, none⟩ x) q size (k + 1) f := by
  obtain ⟨cs, h1, h2, h3⟩ := h
  rw [setCell_eq_setRow w q k _ _ _ x h1]
  refine ⟨_, setRow_heap w q _ _ _ _ h1, by simpa using h2, fun j hj => ?_⟩
  by_cases e : j = k
  · subst e
    simp [h2, hk, hx]
  · rw [Array.getElem?_setIfInBounds_ne (by omega)]
    exact h3 j (by omega)
theorem Filled.own {w : World} {q size : Nat} {l : List UInt8} (h : Filled w q size size (fun j => .int .u8 ((l.getD j 0).toNat : Int))) (hl : l.length = size) (hm : size ≤ maxLen) : w.ownsRow q 5 1 (.slice (some ⟨q, 0, none⟩) size size) size (bytVals l) := by
  obtain ⟨cs, h1, h2, h3⟩ := h
  refine ⟨by rw [bytVals_len, hl]; omega, .inr ⟨q, size, cs, rfl, Nat.le_refl _, h1, Nat.le_refl _, hm, by omega, ?_⟩⟩
  apply List.ext_getElem?
  intro j
  by_cases hj : j < size
  · rw [List.getElem?_take_of_lt (by omega), Array.getElem?_toList, h3 j hj, bytVals_at l j (by omega)]
  · rw [List.getElem?_eq_none (by simp; omega), List.getElem?_eq_none (by rw [bytVals_len]; omega)]
theorem bigF_getD (n size k : Nat) (h : k < size) : (((bigF n size).getD k 0).toNat : Int) = (n / 2 ^ (8 * (size - 1 - k)) : Nat) % 256 := by
  simp [bigF, h]
set_option maxRecDepth 100000 in
theorem big_any (n : Nat) (size : Nat) (w : World) (hn : n < 18446744073709551616) (hs : 0 < size) (hs8 : size ≤ 8) :
    Calls Try.prog 146 #[.int .u64 n, .int .i64 size] w fun e w' => (∃ v', e = .returned v' ∧ w'.ownsRow w.heap.size 5 1 v' size (bytVals (bigF n size))) ∧ Below w.heap.size w w' := by
  obtain ⟨i0, hi0, hz0, hs0, hb0⟩ := info_parts info_byt
  have hmk := run_makeSlice (P := Try.prog) w 46 5 i0 _ Try.underlying46 hi0 hz0 .i64 .i64 size size (by omega) (Int.le_refl _) (by rw [hs0]; omega) (by rw [hb0]; omega) (by omega)
  simp only [Int.toNat_natCast] at hmk
  rw [hs0, Nat.mul_one] at hmk
  obtain ⟨W1, hW⟩ : ∃ W1, w.alloc (.cells (madeCells (Value.int .u8 0).cells size) 5) = W1 := ⟨_, rfl⟩
  rw [hW] at hmk
  obtain ⟨hb1, hq1⟩ := one_box hW
  have hsz : (madeCells (Value.int .u8 0).cells size).size = size := size_madeCells _ _
  have HF0 := Lib.hid (show Filled W1 w.heap.size size 0 (fun j => .int .u8 (((bigF n size).getD j 0).toNat : Int)) from ⟨_, hq1, hsz, fun j hj => absurd hj (Nat.not_lt_zero _)⟩)
  have HB1 := Lib.hid hb1
  clear hW hb1 hq1 hsz hi0 hz0 hs0 hb0
  go_enter Try.func146, Try.ntmps146
  go_wp2
  clear hmk
  go_loopw [6, 11] (fun i6 i wr => ∃ k : Nat, k ≤ size ∧ i = .int .i64 k ∧ Filled wr w.heap.size size k (fun j => .int .u8 (((bigF n size).getD j 0).toNat : Int)) ∧ Below w.heap.size w wr) (fun _ i _ => size - (intOf i).toNat)
  case atStart => exact ⟨0, Nat.zero_le _, rfl, HF0.out, HB1.out⟩
  case round =>
    obtain ⟨k, hk, rfl, hf, hb⟩ := hrel
    by_cases hlt : k < size
    · obtain ⟨cs, h1, h2, h3⟩ := hf
      have hc : wr.cell? ⟨w.heap.size, k, none⟩ = some cs[k] := by rw [cell_of_row _ _ _ _ _ _ h1]; simp [h2, hlt]
      have hfz := frozen_row (j := k) h1
      have HF := Lib.hid (⟨cs, h1, h2, h3⟩ : Filled wr w.heap.size size k (fun j => .int .u8 (((bigF n size).getD j 0).toNat : Int)))
      have HB := Lib.hid hb
      clear h1 h3 hb
      have hk0 : (0 : Int) ≤ k := by omega
      go_wp2
      go_roundw
      case rel =>
        refine ⟨k + 1, by omega, by go_num, Filled.set HF.out hlt ?_, ?_⟩
        · rw [bigF_getD _ _ _ hlt]
          simp
        · obtain ⟨cs, h1, _⟩ := HF.out
          rw [setCell_eq_setRow _ _ _ _ _ _ _ h1]
          exact below_setRow HB.out (Nat.le_refl _) _
      case measure => simp [intOf]; omega
    · have e : k = size := by omega
      subst e
      have HF := Lib.hid hf
      clear hf
      go_wp2
      go_ret
      exact ⟨⟨_, rfl, HF.out.own (bigF_len _ _) (by unfold maxLen; omega)⟩, hb⟩
end Go.Proofs.Ytchmgilckiadaaa
