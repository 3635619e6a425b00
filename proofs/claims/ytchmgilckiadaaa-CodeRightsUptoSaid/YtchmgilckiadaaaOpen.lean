/- The rows' arguments, opened: instructions, numbers. -/
import Derived.Test.YtchmgilckiadaaaLbs
import Derived.ProofKit
import Derived.SizedLaws
import Derived.Deep.SlicePairs
namespace Go.Proofs.Ytchmgilckiadaaa
open Go.ChangeShapes Go.WideShapes Go.ChangeAt Go.RowKit Go.Deep
theorem cells_ins : Try.prog.cellsOf 35 = 2 := by kernel_rfl
theorem bytes_ins : Try.prog.bytesOf 35 = 16 := by kernel_rfl
theorem cells_int : Try.prog.cellsOf 3 = 1 := by kernel_rfl
theorem bytes_int : Try.prog.bytesOf 3 = 8 := by kernel_rfl
theorem wf_i64 {n : Int} (h : (Lit.int .i64 n).wf = true) : I64 n := by
  have h1 : IntKind.i64.min = -9223372036854775808 := rfl
  have h2 : IntKind.i64.max = 9223372036854775807 := rfl
  simp only [Lit.wf, Bool.and_eq_true, decide_eq_true_eq] at h
  exact ⟨by omega, by omega⟩
theorem add_lit2 (b off i : Nat) : (⟨b, off, none⟩ : Addr).add i = ⟨b, off + i, none⟩ := Addr.add_lit b off i
section
variable {H : Type} {enc : TypeId × Value → H}
set_option maxRecDepth 100000 in
theorem ints_of2 {W : World} {base : Nat} {v : Value} {d : DataW H} {p : List MemPlace} (hv : Value.okWide Try.prog W .any base 23 v) (h : DataW.Trod enc Try.prog W 0 (fun _ => true) true 23 v d p)
    (hs : ∀ a b, d = .slice a b → (a.length + b.length) * Try.prog.bytesOf 3 ≤ reachBytes) : ∃ xs, Ints W v xs ∧ xs.length * 8 ≤ 140737488351232 := by
  obtain ⟨a0, len, cap, rfl⟩ := okWide_slice Try.underlying23 hv
  obtain ⟨fuel, hf⟩ := h
  rcases open_ints Try.underlying23 Try.underlying3 cells_int hf with ⟨hcs, _⟩ | ⟨a, len', cap', zs, hcs, _, hl, hm, hz, hx, hcell, hwz⟩
  · simp [Value.cells] at hcs
    obtain ⟨rfl, rfl, rfl⟩ := hcs
    exact ⟨[], ⟨⟨none, 0, rfl, fun h => by simp at h⟩, by simp, by simp⟩, by simp⟩
  · simp [Value.cells] at hcs
    obtain ⟨rfl, rfl, rfl⟩ := hcs
    simp only [Prod.mk.injEq] at hx
    obtain ⟨rfl, rfl⟩ := hx
    simp only [if_true] at hz
    have hsz := hs _ _ rfl
    rw [bytes_int] at hsz
    simp only [lits, List.length_map, List.length_take, List.length_drop, reachBytes] at hsz
    have hlen : (zs.take len).length = len := by simp; omega
    refine ⟨zs.take len, ⟨⟨some a, cap, by rw [hlen], fun h0 => ?_⟩, by omega, fun x hx => wf_i64 (hwz x (List.mem_of_mem_take hx))⟩, by rw [hlen]; omega⟩
    obtain ⟨b, off, spot⟩ := a
    have hspot : spot = none := by simpa [Addr.add] using World.cell?_spot (hcell 0 (by omega))
    subst hspot
    refine ⟨b, off, rfl, fun j hj => ?_⟩
    rw [← add_lit2, hcell j (by omega)]
    simp [show j < len by omega]
set_option maxRecDepth 100000 in
theorem ints_of {W : World} {base : Nat} {v : Value} {d : DataW H} {p : List MemPlace} (hv : Value.okWide Try.prog W .any base 23 v) (h : DataW.Trod enc Try.prog W 0 (fun _ => true) true 23 v d p)
    (hs : ∀ a b, d = .slice a b → (a.length + b.length) * Try.prog.bytesOf 3 ≤ reachBytes) : ∃ xs, Ints W v xs := by
  obtain ⟨xs, h, _⟩ := ints_of2 hv h hs
  exact ⟨xs, h⟩
set_option maxRecDepth 100000 in
theorem code_of {W : World} {base : Nat} {v : Value} {d : DataW H} {p : List MemPlace} (hv : Value.okWide Try.prog W .any base 22 v) (h : DataW.Trod enc Try.prog W 0 (fun _ => true) true 22 v d p)
    (hs : ∀ a b, d = .slice a b → (a.length + b.length) * Try.prog.bytesOf 35 ≤ reachBytes) : ∃ c, Code_ W v c ∧ c.length * 16 ≤ 140737488351232 := by
  obtain ⟨a0, len, cap, rfl⟩ := okWide_slice Try.underlying22 hv
  obtain ⟨fuel, hf⟩ := h
  rcases open_slice_pairs Try.underlying22 Try.underlying35 cells_ins rfl rfl cells_int cells_int hf with ⟨hcs, _⟩ | ⟨a, len', cap', m, n, V0, V1, D0, D1, P0, P1, hcs, _, hl, hm, hz, hx, hcell⟩
  · simp [Value.cells] at hcs
    obtain ⟨rfl, rfl, rfl⟩ := hcs
    exact ⟨[], ⟨⟨none, 0, rfl, fun h => by simp at h⟩, by simp, by simp⟩, by simp⟩
  · simp [Value.cells] at hcs
    obtain ⟨rfl, rfl, rfl⟩ := hcs
    simp only [Prod.mk.injEq] at hx
    obtain ⟨rfl, rfl⟩ := hx
    simp only [if_true] at hz
    have hsz := hs _ _ rfl
    rw [bytes_ins] at hsz
    simp only [List.length_map, List.length_range, reachBytes] at hsz
    have hv : ∀ i, ∃ x : Ins, i < m → V0 i = .int .i64 x.1 ∧ V1 i = .int .i64 x.2 ∧ I64 x.1 ∧ I64 x.2 := fun i => by
      by_cases hi : i < m
      · obtain ⟨_, _, h1, h2⟩ := hcell i hi
        obtain ⟨z0, e0, _, w0⟩ := DataW.trod_int Try.underlying3 h1
        obtain ⟨z1, e1, _, w1⟩ := DataW.trod_int Try.underlying3 h2
        simp only [List.cons.injEq, and_true] at e0 e1
        exact ⟨(z0, z1), fun _ => ⟨e0, e1, wf_i64 w0, wf_i64 w1⟩⟩
      · exact ⟨(0, 0), fun h => absurd h hi⟩
    obtain ⟨X, hX⟩ : ∃ X : Nat → Ins, ∀ i, i < m → V0 i = .int .i64 (X i).1 ∧ V1 i = .int .i64 (X i).2 ∧ I64 (X i).1 ∧ I64 (X i).2 := ⟨fun i => Classical.choose (hv i), fun i hi => Classical.choose_spec (hv i) hi⟩
    have hlen : ((List.range len).map X).length = len := by simp
    refine ⟨(List.range len).map X, ⟨⟨some a, cap, by rw [hlen], fun h0 => ?_⟩, by rw [hlen]; omega, fun x hx => ?_⟩, by rw [hlen]; omega⟩
    · obtain ⟨b, off, spot⟩ := a
      have hspot : spot = none := by simpa [Addr.add] using World.cell?_spot (hcell 0 (by omega)).1
      subst hspot
      refine ⟨b, off, rfl, fun j hj => ?_⟩
      rw [hlen] at hj
      have hj2 : j / 2 < m := by omega
      have hg : ((List.range len).map X).getD (j / 2) (0, 0) = X (j / 2) := by simp [show j / 2 < len by omega]
      obtain ⟨h1, h2, _, _⟩ := hX (j / 2) hj2
      obtain ⟨g1, g2, _, _⟩ := hcell (j / 2) hj2
      rw [add_lit2] at g1 g2
      dsimp only
      rw [hg]
      by_cases e : j % 2 = 0
      · rw [if_pos e, ← h1, ← g1]
        congr 2
        omega
      · rw [if_neg e, ← h2, ← g2]
        congr 2
        omega
    · obtain ⟨i, hi, rfl⟩ := List.mem_map.1 hx
      have hi := List.mem_range.1 hi
      exact ⟨(hX i (by omega)).2.2.1, (hX i (by omega)).2.2.2⟩
set_option maxRecDepth 100000 in
theorem code_of2 {W : World} {base : Nat} {v : Value} {d : DataW H} {p : List MemPlace} (hv : Value.okWide Try.prog W .any base 22 v) (h : DataW.Trod enc Try.prog W 0 (fun _ => true) true 22 v d p)
    (hs : ∀ a b, d = .slice a b → (a.length + b.length) * Try.prog.bytesOf 35 ≤ reachBytes) : ∃ (c : List Ins) (Ac : Option Addr) (cc : Nat), v = .slice Ac c.length cc ∧ Code_ W v c ∧ c.length ≤ cc ∧ (cc = 0 ∨ ∃ b off, Ac = some ⟨b, off, none⟩) ∧ c.length * 16 ≤ 140737488351232 := by
  obtain ⟨a0, len, cap, rfl⟩ := okWide_slice Try.underlying22 hv
  obtain ⟨fuel, hf⟩ := h
  rcases open_slice_pairs Try.underlying22 Try.underlying35 cells_ins rfl rfl cells_int cells_int hf with ⟨hcs, _⟩ | ⟨a, len', cap', m, n, V0, V1, D0, D1, P0, P1, hcs, _, hl, hm, hz, hx, hcell⟩
  · simp [Value.cells] at hcs
    obtain ⟨rfl, rfl, rfl⟩ := hcs
    exact ⟨[], none, 0, rfl, ⟨⟨none, 0, rfl, fun h => by simp at h⟩, by simp, by simp⟩, Nat.le_refl _, .inl rfl, by simp⟩
  · simp [Value.cells] at hcs
    obtain ⟨rfl, rfl, rfl⟩ := hcs
    simp only [Prod.mk.injEq] at hx
    obtain ⟨rfl, rfl⟩ := hx
    simp only [if_true] at hz
    have hsz := hs _ _ rfl
    rw [bytes_ins] at hsz
    simp only [List.length_map, List.length_range, reachBytes] at hsz
    have hv : ∀ i, ∃ x : Ins, i < m → V0 i = .int .i64 x.1 ∧ V1 i = .int .i64 x.2 ∧ I64 x.1 ∧ I64 x.2 := fun i => by
      by_cases hi : i < m
      · obtain ⟨_, _, h1, h2⟩ := hcell i hi
        obtain ⟨z0, e0, _, w0⟩ := DataW.trod_int Try.underlying3 h1
        obtain ⟨z1, e1, _, w1⟩ := DataW.trod_int Try.underlying3 h2
        simp only [List.cons.injEq, and_true] at e0 e1
        exact ⟨(z0, z1), fun _ => ⟨e0, e1, wf_i64 w0, wf_i64 w1⟩⟩
      · exact ⟨(0, 0), fun h => absurd h hi⟩
    obtain ⟨X, hX⟩ : ∃ X : Nat → Ins, ∀ i, i < m → V0 i = .int .i64 (X i).1 ∧ V1 i = .int .i64 (X i).2 ∧ I64 (X i).1 ∧ I64 (X i).2 := ⟨fun i => Classical.choose (hv i), fun i hi => Classical.choose_spec (hv i) hi⟩
    have hlen : ((List.range len).map X).length = len := by simp
    have hAA : cap = 0 ∨ ∃ b off, some a = some (⟨b, off, none⟩ : Addr) := by
      by_cases h0 : cap = 0
      · exact .inl h0
      · obtain ⟨b, off, spot⟩ := a
        have hspot : spot = none := by simpa [Addr.add] using World.cell?_spot (hcell 0 (by omega)).1
        subst hspot
        exact .inr ⟨b, off, rfl⟩
    refine ⟨(List.range len).map X, some a, cap, by rw [hlen], ⟨⟨some a, cap, by rw [hlen], fun h0 => ?_⟩, by rw [hlen]; omega, fun x hx => ?_⟩, by rw [hlen]; exact hl, hAA, by rw [hlen]; omega⟩
    · obtain ⟨b, off, spot⟩ := a
      have hspot : spot = none := by simpa [Addr.add] using World.cell?_spot (hcell 0 (by omega)).1
      subst hspot
      refine ⟨b, off, rfl, fun j hj => ?_⟩
      rw [hlen] at hj
      have hj2 : j / 2 < m := by omega
      have hg : ((List.range len).map X).getD (j / 2) (0, 0) = X (j / 2) := by simp [show j / 2 < len by omega]
      obtain ⟨h1, h2, _, _⟩ := hX (j / 2) hj2
      obtain ⟨g1, g2, _, _⟩ := hcell (j / 2) hj2
      rw [add_lit2] at g1 g2
      dsimp only
      rw [hg]
      by_cases e : j % 2 = 0
      · rw [if_pos e, ← h1, ← g1]
        congr 2
        omega
      · rw [if_neg e, ← h2, ← g2]
        congr 2
        omega
    · obtain ⟨i, hi, rfl⟩ := List.mem_map.1 hx
      have hi := List.mem_range.1 hi
      exact ⟨(hX i (by omega)).2.2.1, (hX i (by omega)).2.2.2⟩
end
end Go.Proofs.Ytchmgilckiadaaa
