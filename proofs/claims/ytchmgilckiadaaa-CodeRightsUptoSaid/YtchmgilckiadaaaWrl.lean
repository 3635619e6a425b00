/- wire: NewWriter, Bytes; code's writer: list. -/
import Derived.Test.YtchmgilckiadaaaWrb
namespace Go.Proofs.Ytchmgilckiadaaa
open Go.RowKit
set_option maxRecDepth 100000 in
theorem cloneByts_any (v : Value) (l : List UInt8) (w : World) (h : Byts w v l) (hl : l.length ≤ 1048576) :
    Calls Try.prog 147 #[v] w fun e w' => (∃ v', e = .returned v' ∧ Byts w' v' l) ∧ Below w.heap.size w w' := by
  obtain ⟨A, c, rfl, hc⟩ := h
  cases A with
  | none =>
    have h0 : l = [] := by
      by_cases h : 0 < l.length
      · obtain ⟨b, off, e, _⟩ := hc h
        cases e
      · exact List.length_eq_zero_iff.1 (by omega)
    subst h0
    clear hc
    have he : (binOp .eql 46 (.slice none 0 c) (.slice none 0 0)).run Try.prog w = .ok (.bool true) w := by kernel_rfl
    go_enter Try.func147, Try.ntmps147
    go_wp2
    go_ret
    exact ⟨⟨_, rfl, ⟨none, 0, rfl, fun h => by simp at h⟩⟩, Below.refl _ _⟩
  | some a =>
    have hc1 : CellsAt w (.slice (some a) l.length c) l.length 1 (fun j => .int .u8 ((l.getD j 0).toNat : Int)) := ⟨_, c, rfl, hc⟩
    obtain ⟨W1, hW⟩ : ∃ W1, w.alloc (.cells #[] 5) = W1 := ⟨_, rfl⟩
    have hb1 : Below w.heap.size w W1 := by rw [← hW]; exact below_new w _
    obtain ⟨v', w', hrun, hb, hres⟩ := run_append_empty (P := Try.prog) W1 46 46 5 (.int .u8 0) 1 1 Try.underlying46 info_byt rfl (by decide) ⟨w.heap.size, 0, none⟩ _ l.length _ (hc1.ext hb1) (fun j => rfl) (by unfold maxLen; omega) (by omega)
    have hr : Byts w' v' l := by
      rcases hres with ⟨h0, rfl⟩ | ⟨h0, h3⟩
      · exact ⟨_, 0, by rw [h0], fun h => by omega⟩
      · rw [← bytVals_range] at h3
        exact own_byts h3 rfl
    have HR := Lib.hid hrun
    have HV := Lib.hid hr
    have HB := Lib.hid (hb1.trans (hb.mono hb1.size))
    have HW := Lib.hid hW
    clear hrun hr hb hb1 hres hc hc1 hW
    have he : (binOp .eql 46 (.slice (some a) l.length c) (.slice none 0 0)).run Try.prog w = .ok (.bool false) w := by kernel_rfl
    go_enter Try.func147, Try.ntmps147
    go_wp2_with (at_builtin; rw [HW.out]; refine wpList_append_run _ rfl (.tmp 5) (.tmp 6) 46 46 rfl _ _ rfl rfl HR.out ?_)
    go_ret
    exact ⟨⟨_, rfl, HV.out⟩, HB.out⟩
theorem bytes_any (B q : Nat) (bs : List UInt8) (w : World) (h : WAt w B q bs) (hl : bs.length ≤ 1048576) :
    Calls Try.prog 94 #[.pointer (some ⟨q, 0, none⟩)] w fun e w' => (∃ v', e = .returned v' ∧ Byts w' v' bs) ∧ Below w.heap.size w w' := by
  have HN := Lib.hid (none_any B q bs w h)
  obtain ⟨hBq, vb, hq, hown⟩ := h
  have HC := Lib.hid (cloneByts_any vb bs w (own_byts hown rfl) hl)
  obtain ⟨Ab, kb, rfl⟩ := own_slice hown
  obtain ⟨g0, g1⟩ := two_at (Below.refl _ _) hq
  clear hq hown
  go_enter Try.func94, Try.ntmps94
  go_wp2_with (first
    | (go_at_call 144; (with_reducible refine HN.out.mono ?_); go_must (rintro e w3 ⟨rfl, rfl⟩))
    | (go_at_call 147; (with_reducible refine HC.out.mono ?_); go_must (rintro e w4 ⟨⟨v4, rfl, ho⟩, hb⟩)))
  go_ret
  exact ⟨⟨_, rfl, ho⟩, hb⟩
theorem newWriter_any (w : World) : Calls Try.prog 88 #[] w fun e w' => e = .returned (.pointer (some ⟨w.heap.size, 0, none⟩)) ∧ w' = w.alloc (.cells #[.slice none 0 0, .bool true] 172) := by
  go_enter Try.func88, Try.ntmps88
  go_wp2
  go_ret
  exact ⟨rfl, rfl⟩
theorem WAt.new (w : World) : WAt (w.alloc (.cells #[.slice none 0 0, .bool true] 172)) w.heap.size w.heap.size [] := ⟨Nat.le_refl _, .slice none 0 0, World.alloc_heap_new w _, World.ownsRow_nil _ _ _ _⟩
/-- A literal of one number. -/
theorem ints_lit1 {w W1 : World} {x : Int} (hW : w.alloc (.cells #[.int .i64 x] 3) = W1) (hx : I64 x) : Ints W1 (.slice (some ⟨w.heap.size, 0, none⟩) 1 1) [x] := by
  have hq : W1.heap[w.heap.size]? = some (.cells #[.int .i64 x] 3 (0, 0)) := by rw [← hW]; exact World.alloc_heap_new w _
  refine ⟨⟨_, 1, rfl, fun _ => ⟨_, _, rfl, fun j hj => ?_⟩⟩, by simp, by simpa using hx⟩
  simp at hj
  subst hj
  rw [cell_of_row _ _ _ _ _ _ hq]
  rfl
theorem ints_lit2 {w W1 : World} {x y : Int} (hW : w.alloc (.cells #[.int .i64 x, .int .i64 y] 3) = W1) (hx : I64 x) (hy : I64 y) : Ints W1 (.slice (some ⟨w.heap.size, 0, none⟩) 2 2) [x, y] := by
  have hq : W1.heap[w.heap.size]? = some (.cells #[.int .i64 x, .int .i64 y] 3 (0, 0)) := by rw [← hW]; exact World.alloc_heap_new w _
  refine ⟨⟨_, 2, rfl, fun _ => ⟨_, _, rfl, fun j hj => ?_⟩⟩, by simp, fun z hz => ?_⟩
  · simp at hj
    rw [cell_of_row _ _ _ _ _ _ hq]
    rcases (show j = 0 ∨ j = 1 by omega) with rfl | rfl <;> rfl
  · simp at hz
    rcases hz with rfl | rfl
    · exact hx
    · exact hy
/-- Byte of a literal of one number. -/
theorem byte1_any (B q : Nat) (bs : List UInt8) (x : Int) (w W1 : World) (h : WAt w B q bs) (hW : w.alloc (.cells #[.int .i64 x] 3) = W1) (h0 : 0 ≤ x) (h1 : x < 256) (hl : bs.length + 1 ≤ 1048576) :
    Calls Try.prog 89 #[.pointer (some ⟨q, 0, none⟩), .slice (some ⟨w.heap.size, 0, none⟩) 1 1] W1 (WPost B q bs [lowB x] w) := by
  have hb1 : Below w.heap.size w W1 := by rw [← hW]; exact below_new w _
  refine (byte_any B q bs _ [x] W1 (h.ext hb1) (ints_lit1 hW ⟨by omega, by omega⟩) (by simpa using ⟨h0, h1⟩) (by simpa using hl)).mono fun e w' hp => ?_
  exact WPost.from hb1 hp
theorem byte2_any (B q : Nat) (bs : List UInt8) (x y : Int) (w W1 : World) (h : WAt w B q bs) (hW : w.alloc (.cells #[.int .i64 x, .int .i64 y] 3) = W1) (h0 : 0 ≤ x) (h1 : x < 256) (k0 : 0 ≤ y) (k1 : y < 256) (hl : bs.length + 2 ≤ 1048576) :
    Calls Try.prog 89 #[.pointer (some ⟨q, 0, none⟩), .slice (some ⟨w.heap.size, 0, none⟩) 2 2] W1 (WPost B q bs [lowB x, lowB y] w) := by
  have hb1 : Below w.heap.size w W1 := by rw [← hW]; exact below_new w _
  refine (byte_any B q bs _ [x, y] W1 (h.ext hb1) (ints_lit2 hW ⟨by omega, by omega⟩ ⟨by omega, by omega⟩) (fun z hz => ?_) (by simpa using hl)).mono fun e w' hp => ?_
  · simp at hz
    rcases hz with rfl | rfl
    · exact ⟨h0, h1⟩
    · exact ⟨k0, k1⟩
  · exact WPost.from hb1 hp
theorem int1_any (B q : Nat) (bs : List UInt8) (x : Int) (w W1 : World) (h : WAt w B q bs) (hW : w.alloc (.cells #[.int .i64 x] 3) = W1) (hx : I64 x) (hl : bs.length + 8 ≤ 1048576) :
    Calls Try.prog 93 #[.pointer (some ⟨q, 0, none⟩), .slice (some ⟨w.heap.size, 0, none⟩) 1 1] W1 (WPost B q bs (numF x) w) := by
  have hb1 : Below w.heap.size w W1 := by rw [← hW]; exact below_new w _
  refine (int_any B q bs _ [x] W1 (h.ext hb1) (ints_lit1 hW hx) (by simpa using hl)).mono fun e w' hp => ?_
  have := WPost.from hb1 hp
  simpa using this
set_option maxRecDepth 100000 in
theorem list_any (B q : Nat) (bs : List UInt8) (v : Value) (xs : List Int) (w : World) (h : WAt w B q bs) (hv : ∀ w', WStep B w w' → Ints w' v xs) (hx : ∀ x ∈ xs, 0 ≤ x ∧ x < 256) (hk : xs.length < 256) (hl : bs.length + 1 + xs.length ≤ 1048576) :
    Calls Try.prog 91 #[.agg #[.pointer (some ⟨q, 0, none⟩)], v] w fun e w' => e = .returned (.tuple #[]) ∧ WAt w' B q (bs ++ listF xs) ∧ WStep B w w' := by
  obtain ⟨A, c, rfl, _⟩ := (hv w (WStep.refl _ _)).at_
  obtain ⟨W1, hW⟩ : ∃ W1, w.alloc (.cells #[.pointer (some ⟨q, 0, none⟩)] 107) = W1 := ⟨_, rfl⟩
  obtain ⟨hb1, hq1⟩ := one_box hW
  obtain ⟨W2, hW2⟩ : ∃ W2, W1.alloc (.cells #[.int .i64 xs.length] 3) = W2 := ⟨_, rfl⟩
  have hby := byte1_any B q bs xs.length W1 W2 (h.ext hb1) hW2 (by omega) (by omega) (by omega)
  have g1 : W1.cell? ⟨w.heap.size, 0, none⟩ = some (.pointer (some ⟨q, 0, none⟩)) := by rw [cell_of_row _ _ _ _ _ _ hq1]; rfl
  have HBY := Lib.hid hby
  have HV := Lib.hid hv
  have HX := Lib.hid hx
  have HW := Lib.hid hW
  have HW2 := Lib.hid hW2
  have HB := Lib.hid hb1
  have HQ := Lib.hid hq1
  clear hby hv hx hW hW2 hb1 hq1 h
  go_enter Try.func91, Try.ntmps91
  go_upto_region 1 with (fail)
  rw [HW.out]
  go_upto_region 2 with (go_at_call 89; rw [HW2.out]; (with_reducible refine HBY.out.mono ?_); go_must (rintro e w3 ⟨rfl, h2, h3⟩; have H2 := Lib.hid h2; have H3 := Lib.hid h3; clear h2 h3))
  clear g1
  have hq3 := H3.out.row HQ.out (by decide) (by decide)
  have g1 : w3.cell? ⟨w.heap.size, 0, none⟩ = some (.pointer (some ⟨q, 0, none⟩)) := by rw [cell_of_row _ _ _ _ _ _ hq3]; rfl
  have hst := (WStep.of_below (B := B) HB.out).trans H3.out
  have HBY2 := Lib.hid (byte_any B q _ _ xs w3 H2.out (HV.out w3 hst) HX.out (by simp; omega))
  have HST := Lib.hid hst
  clear hq3 hst
  go_wp2_with (go_at_call 89; (with_reducible refine HBY2.out.mono ?_); go_must (rintro e w4 ⟨rfl, h2, h3⟩))
  go_end0
  refine ⟨rfl, ?_, HST.out.trans h3⟩
  simpa [listF] using h2
end Go.Proofs.Ytchmgilckiadaaa
