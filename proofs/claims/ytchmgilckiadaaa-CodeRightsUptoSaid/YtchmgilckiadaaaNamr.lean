/- ref03.Name, ref03.Takes: what they answer. -/
import Derived.Test.YtchmgilckiadaaaSmi
import Derived.Lib.SlicesS
namespace Go.Proofs.Ytchmgilckiadaaa
open Go.RowKit
/-- The document's names. -/
def nameRow : List ByteArray := [⟨#[]⟩, ⟨#[105, 110, 116]⟩, ⟨#[99, 111, 110, 115, 116]⟩, ⟨#[116, 114, 117, 101]⟩, ⟨#[102, 97, 108, 115, 101]⟩, ⟨#[100, 114, 111, 112]⟩, ⟨#[100, 117, 112]⟩, ⟨#[115, 119, 97, 112]⟩, ⟨#[111, 118, 101, 114]⟩, ⟨#[103, 101, 116]⟩, ⟨#[115, 101, 116]⟩, ⟨#[97, 100, 100]⟩, ⟨#[115, 117, 98]⟩, ⟨#[109, 117, 108]⟩, ⟨#[100, 105, 118]⟩, ⟨#[114, 101, 109]⟩, ⟨#[110, 101, 103]⟩, ⟨#[97, 110, 100]⟩, ⟨#[111, 114]⟩, ⟨#[120, 111, 114]⟩, ⟨#[105, 110, 118]⟩, ⟨#[115, 104, 108]⟩, ⟨#[115, 104, 114]⟩, ⟨#[101, 113]⟩, ⟨#[110, 101]⟩, ⟨#[108, 116]⟩, ⟨#[108, 101]⟩, ⟨#[103, 116]⟩, ⟨#[103, 101]⟩, ⟨#[98, 111, 116, 104]⟩, ⟨#[101, 105, 116, 104, 101, 114]⟩, ⟨#[110, 111, 116]⟩, ⟨#[108, 101, 110]⟩, ⟨#[106, 111, 105, 110]⟩, ⟨#[99, 117, 116]⟩, ⟨#[97, 116]⟩, ⟨#[115, 97, 109, 101]⟩, ⟨#[108, 101, 115, 115]⟩, ⟨#[112, 97, 99, 107]⟩, ⟨#[117, 110, 112, 97, 99, 107]⟩, ⟨#[111, 110, 101]⟩, ⟨#[108, 111, 97, 100]⟩, ⟨#[104, 97, 115]⟩, ⟨#[115, 97, 118, 101]⟩, ⟨#[119, 105, 112, 101]⟩, ⟨#[110, 101, 120, 116]⟩, ⟨#[101, 109, 105, 116]⟩, ⟨#[97, 98, 111, 114, 116]⟩, ⟨#[105, 102]⟩, ⟨#[101, 108, 115, 101]⟩, ⟨#[101, 110, 100]⟩, ⟨#[108, 111, 111, 112]⟩, ⟨#[108, 101, 97, 118, 101]⟩, ⟨#[99, 97, 108, 108]⟩]
def nameF (op : Int) : ByteArray := if op < 1 ∨ 53 < op then ⟨#[]⟩ else nameRow.getD op.toNat ⟨#[]⟩
set_option maxRecDepth 100000 in
set_option maxHeartbeats 4000000 in
theorem name3_any (op : Int) (w : World) : Calls Try.prog 171 #[.int .i64 op] w fun e w' => e = .returned (.string (nameF op)) ∧ Below w.heap.size w w' := by
  by_cases h : op < 1 ∨ 53 < op
  · have e : nameF op = ⟨#[]⟩ := by unfold nameF; rw [if_pos h]
    rw [e]
    clear e
    rcases h with h | h
    all_goals
      go_enter Try.func171, Try.ntmps171
      go_wp2
      go_ret
      exact ⟨rfl, below_new w _⟩
  · obtain ⟨k, rfl⟩ : ∃ k : Nat, op = k := ⟨op.toNat, by omega⟩
    have hk : k < 54 := by omega
    have en : nameF k = nameRow.getD k ⟨#[]⟩ := by unfold nameF; rw [if_neg h]; rfl
    have hcell : (w.alloc (.cells (nameRow.map Value.string).toArray 9)).cell? ⟨w.heap.size, k, none⟩ = some (.string (nameF k)) := by
      rw [cell_of_row _ _ _ _ _ _ (World.alloc_heap_new w _), en]
      have hl : k < nameRow.length := hk
      simp [hl]
    have e : (nameRow.map Value.string).toArray = #[.string ⟨#[]⟩, .string ⟨#[105, 110, 116]⟩, .string ⟨#[99, 111, 110, 115, 116]⟩, .string ⟨#[116, 114, 117, 101]⟩, .string ⟨#[102, 97, 108, 115, 101]⟩, .string ⟨#[100, 114, 111, 112]⟩, .string ⟨#[100, 117, 112]⟩, .string ⟨#[115, 119, 97, 112]⟩, .string ⟨#[111, 118, 101, 114]⟩, .string ⟨#[103, 101, 116]⟩, .string ⟨#[115, 101, 116]⟩, .string ⟨#[97, 100, 100]⟩, .string ⟨#[115, 117, 98]⟩, .string ⟨#[109, 117, 108]⟩, .string ⟨#[100, 105, 118]⟩, .string ⟨#[114, 101, 109]⟩, .string ⟨#[110, 101, 103]⟩, .string ⟨#[97, 110, 100]⟩, .string ⟨#[111, 114]⟩, .string ⟨#[120, 111, 114]⟩, .string ⟨#[105, 110, 118]⟩, .string ⟨#[115, 104, 108]⟩, .string ⟨#[115, 104, 114]⟩, .string ⟨#[101, 113]⟩, .string ⟨#[110, 101]⟩, .string ⟨#[108, 116]⟩, .string ⟨#[108, 101]⟩, .string ⟨#[103, 116]⟩, .string ⟨#[103, 101]⟩, .string ⟨#[98, 111, 116, 104]⟩, .string ⟨#[101, 105, 116, 104, 101, 114]⟩, .string ⟨#[110, 111, 116]⟩, .string ⟨#[108, 101, 110]⟩, .string ⟨#[106, 111, 105, 110]⟩, .string ⟨#[99, 117, 116]⟩, .string ⟨#[97, 116]⟩, .string ⟨#[115, 97, 109, 101]⟩, .string ⟨#[108, 101, 115, 115]⟩, .string ⟨#[112, 97, 99, 107]⟩, .string ⟨#[117, 110, 112, 97, 99, 107]⟩, .string ⟨#[111, 110, 101]⟩, .string ⟨#[108, 111, 97, 100]⟩, .string ⟨#[104, 97, 115]⟩, .string ⟨#[115, 97, 118, 101]⟩, .string ⟨#[119, 105, 112, 101]⟩, .string ⟨#[110, 101, 120, 116]⟩, .string ⟨#[101, 109, 105, 116]⟩, .string ⟨#[97, 98, 111, 114, 116]⟩, .string ⟨#[105, 102]⟩, .string ⟨#[101, 108, 115, 101]⟩, .string ⟨#[101, 110, 100]⟩, .string ⟨#[108, 111, 111, 112]⟩, .string ⟨#[108, 101, 97, 118, 101]⟩, .string ⟨#[99, 97, 108, 108]⟩] := rfl
    rw [e] at hcell
    have hk1 : ¬ (k : Int) < 1 := by omega
    have hk2 : ¬ 53 < (k : Int) := by omega
    have hk3 : (k : Int) < 54 := by omega
    have hk4 : (0 : Int) ≤ k := by omega
    clear e h en
    generalize nameF k = x at *
    go_enter Try.func171, Try.ntmps171
    go_wp2
    go_ret
    exact ⟨rfl, below_new w _⟩
def takesN (x : ByteArray) : Int := if x = (⟨#[105, 110, 116]⟩ : ByteArray) then 1 else if x = (⟨#[99, 111, 110, 115, 116]⟩ : ByteArray) then 2 else if x = (⟨#[103, 101, 116]⟩ : ByteArray) then 3 else if x = (⟨#[115, 101, 116]⟩ : ByteArray) then 3 else if x = (⟨#[108, 111, 111, 112]⟩ : ByteArray) then 4 else if x = (⟨#[99, 97, 108, 108]⟩ : ByteArray) then 5 else 0
theorem lit0 : (⟨#[105, 110, 116]⟩ : ByteArray).toList = [105, 110, 116] := by decide +kernel
theorem lit1 : (⟨#[99, 111, 110, 115, 116]⟩ : ByteArray).toList = [99, 111, 110, 115, 116] := by decide +kernel
theorem lit2 : (⟨#[103, 101, 116]⟩ : ByteArray).toList = [103, 101, 116] := by decide +kernel
theorem lit3 : (⟨#[115, 101, 116]⟩ : ByteArray).toList = [115, 101, 116] := by decide +kernel
theorem lit4 : (⟨#[108, 111, 111, 112]⟩ : ByteArray).toList = [108, 111, 111, 112] := by decide +kernel
theorem lit5 : (⟨#[99, 97, 108, 108]⟩ : ByteArray).toList = [99, 97, 108, 108] := by decide +kernel
/-- What an operation's number is. -/
def takesF (op : Int) : Int := (rowAt op).2.1
theorem takes_is : ∀ k : Nat, k < 54 → takesN (nameRow.getD k ⟨#[]⟩) = (rows.getD k ("", 0, "", "", 0)).2.1 := by decide +kernel
theorem takesN_name (op : Int) : takesN (nameF op) = takesF op := by
  unfold takesF rowAt nameF
  by_cases h : op < 1 ∨ 53 < op
  · rw [if_pos h, if_pos h]
    exact takes_is 0 (by omega)
  · rw [if_neg h, if_neg h]
    exact takes_is _ (by omega)
set_option maxRecDepth 100000 in
set_option maxHeartbeats 1000000 in
theorem takes3_any (op : Int) (w : World) : Calls Try.prog 155 #[.int .i64 op] w fun e w' => e = .returned (.int .i64 (takesF op)) ∧ Below w.heap.size w w' := by
  rw [← takesN_name]
  have hn := name3_any op w
  generalize nameF op = x at hn ⊢
  have HN := Lib.hid hn
  clear hn
  by_cases h0 : x = (⟨#[105, 110, 116]⟩ : ByteArray)
  · have hv : takesN x = 1 := by unfold takesN; simp only [h0]; decide +kernel
    rw [hv]
    clear hv
    have g0 : (x.toList == [105, 110, 116]) = true := by rw [← lit0]; exact (Lib.bytes_beq_iff _ _).2 h0
    clear h0
    go_enter Try.func155, Try.ntmps155
    go_wp2_with (go_at_call 171; (with_reducible refine HN.out.mono ?_); go_must (rintro e w2 ⟨rfl, hb⟩))
    go_ret
    exact ⟨rfl, hb⟩
  by_cases h1 : x = (⟨#[99, 111, 110, 115, 116]⟩ : ByteArray)
  · have hv : takesN x = 2 := by unfold takesN; simp only [h1]; decide +kernel
    rw [hv]
    clear hv
    have g0 : (x.toList == [105, 110, 116]) = false := by rw [← lit0]; exact (Lib.bytes_beq_false_iff _ _).2 h0
    have g1 : (x.toList == [99, 111, 110, 115, 116]) = true := by rw [← lit1]; exact (Lib.bytes_beq_iff _ _).2 h1
    clear h0 h1
    go_enter Try.func155, Try.ntmps155
    go_wp2_with (go_at_call 171; (with_reducible refine HN.out.mono ?_); go_must (rintro e w2 ⟨rfl, hb⟩))
    go_ret
    exact ⟨rfl, hb⟩
  by_cases h2 : x = (⟨#[103, 101, 116]⟩ : ByteArray)
  · have hv : takesN x = 3 := by unfold takesN; simp only [h2]; decide +kernel
    rw [hv]
    clear hv
    have g0 : (x.toList == [105, 110, 116]) = false := by rw [← lit0]; exact (Lib.bytes_beq_false_iff _ _).2 h0
    have g1 : (x.toList == [99, 111, 110, 115, 116]) = false := by rw [← lit1]; exact (Lib.bytes_beq_false_iff _ _).2 h1
    have g2 : (x.toList == [103, 101, 116]) = true := by rw [← lit2]; exact (Lib.bytes_beq_iff _ _).2 h2
    clear h0 h1 h2
    go_enter Try.func155, Try.ntmps155
    go_wp2_with (go_at_call 171; (with_reducible refine HN.out.mono ?_); go_must (rintro e w2 ⟨rfl, hb⟩))
    go_ret
    exact ⟨rfl, hb⟩
  by_cases h3 : x = (⟨#[115, 101, 116]⟩ : ByteArray)
  · have hv : takesN x = 3 := by unfold takesN; simp only [h3]; decide +kernel
    rw [hv]
    clear hv
    have g0 : (x.toList == [105, 110, 116]) = false := by rw [← lit0]; exact (Lib.bytes_beq_false_iff _ _).2 h0
    have g1 : (x.toList == [99, 111, 110, 115, 116]) = false := by rw [← lit1]; exact (Lib.bytes_beq_false_iff _ _).2 h1
    have g2 : (x.toList == [103, 101, 116]) = false := by rw [← lit2]; exact (Lib.bytes_beq_false_iff _ _).2 h2
    have g3 : (x.toList == [115, 101, 116]) = true := by rw [← lit3]; exact (Lib.bytes_beq_iff _ _).2 h3
    clear h0 h1 h2 h3
    go_enter Try.func155, Try.ntmps155
    go_wp2_with (go_at_call 171; (with_reducible refine HN.out.mono ?_); go_must (rintro e w2 ⟨rfl, hb⟩))
    go_ret
    exact ⟨rfl, hb⟩
  by_cases h4 : x = (⟨#[108, 111, 111, 112]⟩ : ByteArray)
  · have hv : takesN x = 4 := by unfold takesN; simp only [h4]; decide +kernel
    rw [hv]
    clear hv
    have g0 : (x.toList == [105, 110, 116]) = false := by rw [← lit0]; exact (Lib.bytes_beq_false_iff _ _).2 h0
    have g1 : (x.toList == [99, 111, 110, 115, 116]) = false := by rw [← lit1]; exact (Lib.bytes_beq_false_iff _ _).2 h1
    have g2 : (x.toList == [103, 101, 116]) = false := by rw [← lit2]; exact (Lib.bytes_beq_false_iff _ _).2 h2
    have g3 : (x.toList == [115, 101, 116]) = false := by rw [← lit3]; exact (Lib.bytes_beq_false_iff _ _).2 h3
    have g4 : (x.toList == [108, 111, 111, 112]) = true := by rw [← lit4]; exact (Lib.bytes_beq_iff _ _).2 h4
    clear h0 h1 h2 h3 h4
    go_enter Try.func155, Try.ntmps155
    go_wp2_with (go_at_call 171; (with_reducible refine HN.out.mono ?_); go_must (rintro e w2 ⟨rfl, hb⟩))
    go_ret
    exact ⟨rfl, hb⟩
  by_cases h5 : x = (⟨#[99, 97, 108, 108]⟩ : ByteArray)
  · have hv : takesN x = 5 := by unfold takesN; simp only [h5]; decide +kernel
    rw [hv]
    clear hv
    have g0 : (x.toList == [105, 110, 116]) = false := by rw [← lit0]; exact (Lib.bytes_beq_false_iff _ _).2 h0
    have g1 : (x.toList == [99, 111, 110, 115, 116]) = false := by rw [← lit1]; exact (Lib.bytes_beq_false_iff _ _).2 h1
    have g2 : (x.toList == [103, 101, 116]) = false := by rw [← lit2]; exact (Lib.bytes_beq_false_iff _ _).2 h2
    have g3 : (x.toList == [115, 101, 116]) = false := by rw [← lit3]; exact (Lib.bytes_beq_false_iff _ _).2 h3
    have g4 : (x.toList == [108, 111, 111, 112]) = false := by rw [← lit4]; exact (Lib.bytes_beq_false_iff _ _).2 h4
    have g5 : (x.toList == [99, 97, 108, 108]) = true := by rw [← lit5]; exact (Lib.bytes_beq_iff _ _).2 h5
    clear h0 h1 h2 h3 h4 h5
    go_enter Try.func155, Try.ntmps155
    go_wp2_with (go_at_call 171; (with_reducible refine HN.out.mono ?_); go_must (rintro e w2 ⟨rfl, hb⟩))
    go_ret
    exact ⟨rfl, hb⟩
  have hv : takesN x = 0 := by unfold takesN; simp only [h0, h1, h2, h3, h4, h5, if_false]
  rw [hv]
  clear hv
  have g0 : (x.toList == [105, 110, 116]) = false := by rw [← lit0]; exact (Lib.bytes_beq_false_iff _ _).2 h0
  have g1 : (x.toList == [99, 111, 110, 115, 116]) = false := by rw [← lit1]; exact (Lib.bytes_beq_false_iff _ _).2 h1
  have g2 : (x.toList == [103, 101, 116]) = false := by rw [← lit2]; exact (Lib.bytes_beq_false_iff _ _).2 h2
  have g3 : (x.toList == [115, 101, 116]) = false := by rw [← lit3]; exact (Lib.bytes_beq_false_iff _ _).2 h3
  have g4 : (x.toList == [108, 111, 111, 112]) = false := by rw [← lit4]; exact (Lib.bytes_beq_false_iff _ _).2 h4
  have g5 : (x.toList == [99, 97, 108, 108]) = false := by rw [← lit5]; exact (Lib.bytes_beq_false_iff _ _).2 h5
  clear h0 h1 h2 h3 h4 h5
  go_enter Try.func155, Try.ntmps155
  go_wp2_with (go_at_call 171; (with_reducible refine HN.out.mono ?_); go_must (rintro e w2 ⟨rfl, hb⟩))
  go_ret
  exact ⟨rfl, hb⟩
end Go.Proofs.Ytchmgilckiadaaa
