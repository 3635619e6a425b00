/- law06.Own: a copy of instructions. -/
import Derived.Test.YtchmgilckiadaaaApp
namespace Go.Proofs.Ytchmgilckiadaaa
open Go.RowKit
theorem info_ins : (Try.prog.info? 35).map (fun i => (i.zero, i.size, i.bytes)) = some (some (.agg #[.int .i64 0, .int .i64 0]), 2, 16) := by kernel_rfl
theorem code_own {w : World} {B n : Nat} {v : Value} {c : List Ins} (h : w.ownsRow B 35 2 v n (insCells c)) (hl : c.length * 16 ≤ 281474976710656) (hi : ∀ x ∈ c, I64 x.1 ∧ I64 x.2) (hn : n = c.length) : Code_ w v c := by
  subst hn
  rcases h.2 with ⟨rfl, h0⟩ | ⟨q, cap, cur, rfl, _, hh, _, _, _, htake⟩
  · refine ⟨⟨none, 0, by rw [h0], fun h => by omega⟩, hl, hi⟩
  · exact code_block hh htake hl hi
/-- What an instruction's cell is, counted from the first. -/
def insAt (c : List Ins) (j : Nat) : Value := .int .i64 (if j % 2 = 0 then (c.getD (j / 2) (0, 0)).1 else (c.getD (j / 2) (0, 0)).2)
theorem insCells_range (c : List Ins) : insCells c = (List.range (c.length * 2)).map (insAt c) := by
  apply List.ext_getElem?
  intro j
  by_cases h : j < c.length * 2
  · rw [insCells_at c j h]
    simp [h, insAt]
  · rw [List.getElem?_eq_none (by rw [insCells_len]; omega), List.getElem?_eq_none (by simp; omega)]
/-- What Own answers: a row of its own that reads as c. -/
def OwnPost (c : List Ins) (w : World) (e : Ending) (w' : World) : Prop :=
  (∃ v, e = .returned v ∧ w'.ownsRow w.heap.size 35 2 v c.length (insCells c)) ∧ Below w.heap.size w w'
set_option maxRecDepth 100000 in
theorem own_any (vc : Value) (c : List Ins) (w : World) (hc : Code_ w vc c) (hlen : c.length ≤ 8796093022208) : Calls Try.prog 26 #[vc] w (OwnPost c w) := by
  obtain ⟨W1, hW1⟩ : ∃ W1, W1 = w.alloc (.cells #[] 35) := ⟨_, rfl⟩
  have hb1 : Below w.heap.size w W1 := by rw [hW1]; exact below_new w _
  have hnil : W1.ownsRow w.heap.size 35 2 (.slice (some ⟨w.heap.size, 0, none⟩) 0 0) 0 [] := by
    refine ⟨rfl, .inr ⟨_, 0, #[], rfl, Nat.le_refl _, by rw [hW1]; exact World.alloc_heap_new w _, Nat.le_refl _, Nat.zero_le _, rfl, rfl⟩⟩
  obtain ⟨v', w', hr, hown, hg, _⟩ := run_append_any (P := Try.prog) W1 w.heap.size 22 22 35 _ 2 16 Try.underlying22 info_ins rfl (by decide) _ vc 0 c.length [] (insCells c) hnil (insAt c) (hc.ext hb1).at_ (insCells_range c) (fun j => rfl) (by unfold maxLen; omega) (by omega) hb1.size
  rw [hW1] at hr
  have HRN := Lib.hid hr
  have HO := Lib.hid hown
  have HG := Lib.hid hg
  have HB := Lib.hid hb1
  have HN := Lib.hid hnil
  clear hr hown hg hb1 hnil hW1 hc
  go_enter Try.func26, Try.ntmps26
  go_wp2_with (at_builtin; refine wpList_append_run _ rfl (.tmp 3) (.tmp 4) 22 22 rfl _ _ rfl rfl HRN.out ?_)
  go_ret
  refine ⟨⟨_, rfl, by simpa using HO.out⟩, ?_⟩
  have hg := HG.out
  exact HB.out.trans ⟨hg.os, hg.tape, hg.output, hg.size, fun q hq => hg.block q (Nat.lt_of_lt_of_le hq HB.out.size) (fun hh => by simp only [Value.ownBlock, Option.some.injEq] at hh; omega)⟩
end Go.Proofs.Ytchmgilckiadaaa
