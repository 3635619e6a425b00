/- slices.Repeat at one number; math/bits.Mul at 1. -/
import Derived.Test.YtchmgilckiadaaaPush
import Derived.Shelf.Spec.SlicesInsert
import Derived.Shelf.RegionOpen
import Derived.Laws.MathBits
import Derived.RangeFuncBound
import Derived.RangeFuncLeaves
import Derived.RangeFuncRecord
namespace Go.Proofs.Ytchmgilckiadaaa
open Go.RowKit Go.Shelf
theorem mul64_one (n : Int) (h0 : 0 ≤ n) (h1 : n < 8796093022209) (w : World) : Calls Try.prog 198 #[.int .u64 1, .int .u64 n] w fun e w' => e = .returned (.tuple #[.int .u64 0, .int .u64 n]) ∧ w = w' := by
  obtain ⟨r, hr⟩ : ∃ r, n % 4294967296 = r := ⟨_, rfl⟩
  obtain ⟨q, hq⟩ : ∃ q, n / 4294967296 = q := ⟨_, rfl⟩
  have a1 : bits .and .u64 1 4294967295 = 1 := by decide +kernel
  have a2 : bits .and .u64 n 4294967295 = r := by rw [and_low32 n h0 (by omega)]; exact hr
  have a3 : bits .and .u64 0 4294967295 = 0 := by decide +kernel
  have a5 : IntKind.u64.wrap n = n := by rw [IntKind.wrap_u64]; omega
  have a6 : IntKind.u64.wrap r = r := by rw [IntKind.wrap_u64]; omega
  have a7 : r / 4294967296 = 0 := by omega
  have a8 : IntKind.u64.wrap q = q := by rw [IntKind.wrap_u64]; omega
  have a9 : q / 4294967296 = 0 := by omega
  clear hr
  go_enter Try.func198, Try.ntmps198
  go_wp2
  go_ret2
  exact ⟨rfl, rfl⟩
theorem mul_one (n : Int) (h0 : 0 ≤ n) (h1 : n < 8796093022209) (w : World) : Calls Try.prog 190 #[.int .u64 1, .int .u64 n] w fun e w' => e = .returned (.tuple #[.int .u64 0, .int .u64 n]) ∧ w = w' := by
  go_enter Try.func190, Try.ntmps190
  go_wp2_with (go_at_call 198; refine (mul64_one n h0 h1 _).mono ?_; rintro e w1 ⟨rfl, rfl⟩)
  go_ret2
  exact ⟨rfl, rfl⟩
/-- k numbers -1, zeros behind. -/
def repRow (n k : Nat) : List Int := List.replicate k (-1) ++ List.replicate (n - k) 0
theorem info1_int : (Try.prog.info? 3).map (·.size) = some 1 := by kernel_rfl
theorem setCells_heap (b : Nat) (e : TypeId) : ∀ (vs : List Value) (o : Nat) (w : World) (cs : List Value), w.heap[b]? = some (.cells cs.toArray e (0, 0)) → o + vs.length ≤ cs.length →
    (w.setCells b o vs).heap[b]? = some (.cells (cs.take o ++ vs ++ cs.drop (o + vs.length)).toArray e (0, 0))
  | [], o, w, cs, h, _ => by simpa [World.setCells] using h
  | v :: r, o, w, cs, h, hl => by
    have h1 : (w.setCell ⟨b, o, none⟩ v).heap[b]? = some (.cells (cs.set o v).toArray e (0, 0)) := by
      rw [heap_setCell_same w b o _ _ _ h]
      simp
    simp only [List.length_cons] at hl
    have h2 := setCells_heap b e r (o + 1) _ (cs.set o v) h1 (by simp; omega)
    rw [World.setCells, h2]
    congr 3
    have ho : o < cs.length := by omega
    rw [List.drop_set_of_lt (by omega), List.length_cons, show o + 1 + r.length = o + (r.length + 1) by omega, List.take_succ_eq_append_getElem (by simpa using ho), List.take_set_of_le (by omega)]
    simp
theorem setCells_below {n : Nat} (b : Nat) (hb : n ≤ b) : ∀ (vs : List Value) (o : Nat) (w0 w : World), Below n w0 w → Below n w0 (w.setCells b o vs)
  | [], _, _, _, h => h
  | _ :: r, o, w0, _, h => setCells_below b hb r (o + 1) w0 _ (h.setCell (p := ⟨b, o, none⟩) hb _)
theorem repRow_len {n k : Nat} (h : k ≤ n) : (repRow n k).length = n := by simp [repRow]; omega
theorem repRow_step {n k m : Nat} : (repRow n k).take k ++ List.replicate m (-1) ++ (repRow n k).drop (k + m) = repRow n (k + m) := by
  unfold repRow
  rw [List.take_left' (by simp), ← List.drop_drop, List.drop_left' (by simp), List.drop_replicate, List.replicate_append_replicate]
  rw [show n - k - m = n - (k + m) by omega]
theorem repRow_at {n k j : Nat} (h : j < k) : (intVals (repRow n k))[j]? = some (.int .i64 (-1)) := by
  simp [intVals, repRow, List.getElem?_append, h]
/-- copy(row[k:], src): src's first cells are -1. -/
theorem copy_rep (u : World) (q n k dc sb s sc : Nat) (hq : u.heap[q]? = some (.cells (intVals (repRow n k)).toArray 3 (0, 0))) (hk : k ≤ n) (hs : ∀ j, j < Nat.min s (n - k) → u.cell? ⟨sb, j, none⟩ = some (.int .i64 (-1))) :
    ∃ W, (Builtin.copy_ #[23, 23] 3 #[.slice (some ⟨q, k, none⟩) (n - k) dc, .slice (some ⟨sb, 0, none⟩) s sc]).run Try.prog u = .ok (.int .i64 (Nat.min s (n - k) : Nat)) W ∧
      W.heap[q]? = some (.cells (intVals (repRow n (k + Nat.min s (n - k)))).toArray 3 (0, 0)) ∧ (∀ n0 w0, n0 ≤ q → Below n0 w0 u → Below n0 w0 W) := by
  generalize hm : Nat.min s (n - k) = m at hs
  have hmn : m ≤ n - k := by rw [← hm]; exact Nat.min_le_right _ _
  have hlen := repRow_len hk
  have hcell : ∀ j, j < n → (u.cell? ⟨q, j, none⟩).isSome = true := fun j hj => by
    rw [cell_of_row u q j _ _ _ hq]
    simp [intVals, hlen, hj]
  refine ⟨u.setCells q k (List.replicate m (.int .i64 (-1))), ?_, ?_, fun n0 w0 h0 hb => setCells_below q h0 _ _ _ _ hb⟩
  · have h := run_copy_cells (P := Try.prog) u 23 23 3 3 q k (n - k) dc ⟨sb, 0, none⟩ s sc (List.replicate m (.int .i64 (-1))) Try.underlying23 info1_int (by simp [hm])
      (fun j v hj => by
        obtain ⟨hj1, hj2⟩ := List.getElem?_eq_some_iff.1 hj
        simp at hj1 hj2
        rw [Addr.add_lit, Nat.zero_add, hs j hj1, hj2])
      (fun j hj => hcell _ (by simp at hj; omega))
      (fun j _ => frozen_of_row u q _ _ _ hq) (fun v hv => by rw [List.eq_of_mem_replicate hv]; rfl)
    rw [h, List.length_replicate]
    rfl
  · have h := setCells_heap q 3 (List.replicate m (.int .i64 (-1))) k u _ hq (by simp [intVals, hlen]; omega)
    rw [h, List.length_replicate, ← repRow_step (n := n) (k := k) (m := m)]
    congr 3
    simp [intVals]
theorem copy_rep0 (u : World) (q n cap b bc : Nat) (hq : u.heap[q]? = some (.cells (intVals (repRow n 0)).toArray 3 (0, 0))) (hb : u.cell? ⟨b, 0, none⟩ = some (.int .i64 (-1))) :
    ∃ W k, (Builtin.copy_ #[23, 23] 3 #[.slice (some ⟨q, 0, none⟩) n cap, .slice (some ⟨b, 0, none⟩) 1 bc]).run Try.prog u = .ok (.int .i64 (k : Nat)) W ∧ k ≤ n ∧ (0 < n → 0 < k) ∧
      W.heap[q]? = some (.cells (intVals (repRow n k)).toArray 3 (0, 0)) ∧ (∀ n0 w0, n0 ≤ q → Below n0 w0 u → Below n0 w0 W) := by
  obtain ⟨W, h1, h2, h3⟩ := copy_rep u q n 0 cap b 1 bc hq (Nat.zero_le _) (fun j hj => by
    have : j < 1 := Nat.lt_of_lt_of_le hj (Nat.min_le_left _ _)
    rw [show j = 0 by omega]; exact hb)
  refine ⟨W, Nat.min 1 (n - 0), h1, Nat.min_le_right _ _, fun h => ?_, ?_, h3⟩
  · exact Nat.lt_min.2 ⟨by omega, by omega⟩
  · rw [Nat.zero_add] at h2; exact h2
theorem made_zero (n : Nat) : madeCells (Value.int .i64 0).cells n = (intVals (repRow n 0)).toArray := by
  apply Array.ext
  · simp [madeCells, intVals, repRow]
  · intro i h1 h2
    simp [madeCells, intVals, repRow, Value.cells, Nat.mod_one]
set_option maxRecDepth 100000 in
set_option maxHeartbeats 167772160 in
theorem rep_any (b cap n : Nat) (hn : n ≤ 8796093022208) (w : World) (hx : w.cell? ⟨b, 0, none⟩ = some (.int .i64 (-1))) :
    Calls Try.prog 175 #[.slice (some ⟨b, 0, none⟩) 1 cap, .int .i64 (n : Int)] w fun e w' => e = .returned (.slice (some ⟨w.heap.size, 0, none⟩) n n) ∧ w'.heap[w.heap.size]? = some (.cells (intVals (List.replicate n (-1))).toArray 3 (0, 0)) ∧ Below w.heap.size w w' := by
  have hlt := World.block_lt_of_cell? w _ hx
  have hmk : ∀ u : World, (Instr.makeSlice 23 (.int .i64 n) (.int .i64 n)).run Try.prog u = .ok (.slice (some ⟨u.heap.size, 0, none⟩) n n) (u.alloc (.cells (intVals (repRow n 0)).toArray 3)) := fun u => by
    obtain ⟨i, hi, h0, h1, h2⟩ := info_parts info_int
    have h := run_make (P := Try.prog) u 23 3 i (.int .i64 0) Try.underlying23 hi h0 .i64 .i64 (n : Int) n (by omega) (Int.le_refl _) (by rw [h2]; omega) (by omega)
    rw [h, h1, Int.toNat_natCast, Nat.mul_one, made_zero]
  have hmul := fun u => mul_one (n : Int) (by omega) (by omega) u
  have hn0 : (0 : Int) ≤ n := Int.natCast_nonneg _
  have hn1 : (n : Int) ≤ 8796093022208 := by omega
  obtain ⟨W1, k1, hcp, hk1, hk2, hrow, hbl⟩ := copy_rep0 (w.alloc (.cells (intVals (repRow n 0)).toArray 3)) w.heap.size n n b cap (World.alloc_heap_new w _) (((Below.refl _ w).alloc (Nat.le_refl _) _).cell (p := ⟨b, 0, none⟩) hlt |>.trans hx)
  have hb1 := hbl w.heap.size w (Nat.le_refl _) ((Below.refl _ w).alloc (Nat.le_refl _) _)
  clear hbl
  have HROW := Lib.hid hrow
  have HMUL := Lib.hid hmul
  have HK2 := Lib.hid hk2
  clear hrow hmul hk2
  go_enter Try.func175, Try.ntmps175
  go_wp2_with (go_at_call 190; refine (HMUL.out _).mono ?_; rintro e w1 ⟨rfl, rfl⟩)
  go_loopw [8] (fun i wr => ∃ k : Nat, k ≤ n ∧ (0 < n → 0 < k) ∧ i = .int .i64 k ∧ wr.heap[w.heap.size]? = some (.cells (intVals (repRow n k)).toArray 3 (0, 0)) ∧ Below w.heap.size w wr) (fun i _ => n - (intOf i).toNat)
  case atStart => exact ⟨k1, hk1, HK2.out, rfl, HROW.out, hb1⟩
  case round =>
    obtain ⟨k, hk, hk0, rfl, hrow, hb⟩ := hrel
    have h0 : (0 : Int) ≤ k := Int.natCast_nonneg _
    have h1 : (k : Int) ≤ n := by omega
    have h2 : (n : Int) ≤ 9223372036854775807 := by omega
    obtain ⟨W2, hcp2, hrow2, hbl2⟩ := copy_rep wr.drew w.heap.size n k (n - k) w.heap.size k n (by exact hrow) hk (fun j hj => by
      have : j < k := Nat.lt_of_lt_of_le hj (Nat.min_le_left _ _)
      rw [World.cell?_drew, cell_of_row wr w.heap.size j _ _ _ hrow]
      simpa using repRow_at this)
    by_cases hlt2 : k < n
    · have hmin : Nat.min k (n - k) ≤ n - k := Nat.min_le_right _ _
      have hmin0 : 0 < Nat.min k (n - k) := Nat.lt_min.2 ⟨hk0 (by omega), by omega⟩
      generalize Nat.min k (n - k) = m at *
      have hb2 := hbl2 w.heap.size w (Nat.le_refl _) hb.drew
      have HR2 := Lib.hid hrow2
      clear hrow2 hbl2 hrow
      have hne : ¬ n = k := by omega
      have hw : IntKind.i64.wrap ((k : Int) + (m : Int)) = ((k + m : Nat) : Int) := by rw [IntKind.wrap_i64]; omega
      go_wp2
      go_region_law (refine step_copy_runI rfl _ _ 23 23 rfl _ _ (by simp [Act.eval, Act.put]) (by simp [Act.eval, Act.put]) hcp2 ?_)
      simp only [List.getElem_toArray, List.getElem_cons_zero, List.getElem_cons_succ, Act.put, List.setIfInBounds_toArray, List.set_cons_succ, List.set_cons_zero]
      go_roundw
      case rel =>
        (repeat apply Exists.intro)
        exact ⟨⟨k + m, by omega, by omega, by rw [Int.natCast_add], HR2.out, hb2⟩, rfl⟩
      case measure => simp [intOf]; omega
    · have hkn : k = n := by omega
      have HR := Lib.hid hrow
      clear hcp2 hrow2 hbl2 hrow
      go_wp2
      go_ret
      refine ⟨rfl, ?_, hb⟩
      rw [HR.out, hkn]
      simp [repRow]
end Go.Proofs.Ytchmgilckiadaaa
