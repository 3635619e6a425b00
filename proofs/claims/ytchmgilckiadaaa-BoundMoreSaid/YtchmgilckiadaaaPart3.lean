/- bound.Part's closure that tells a part's sum, and calls itself. -/
import Derived.Test.YtchmgilckiadaaaPart1
import Derived.Deep.RegionHeld3
namespace Go.Proofs.Ytchmgilckiadaaa
open Go.RowKit
/-- What an operation costs. -/
def costF (op : Int) : Int := (rowAt op).2.2.2.2
theorem rows_cost : ∀ r ∈ rows, 0 ≤ r.2.2.2.2 ∧ r.2.2.2.2 ≤ 30 := by decide
theorem costF_bd (op : Int) : 0 ≤ costF op ∧ costF op ≤ 30 := by
  unfold costF rowAt
  generalize (if op < 1 ∨ 53 < op then 0 else op.toNat) = i
  by_cases h : i < rows.length
  · have : rows.getD i ("", 0, "", "", 0) = rows[i] := by simp [h]
    rw [this]
    exact rows_cost _ (List.getElem_mem h)
  · have : rows.getD i ("", 0, "", "", 0) = ("", 0, "", "", 0) := by simp [List.getElem?_eq_none (Nat.le_of_not_lt h)]
    rw [this]
    simp
/-- The sum of the parts from i on, before 'to', onto n: what the closure answers; none: where it does not fit the places that m tells. -/
def partF (c : List Ins) (m ks : List Int) : Nat → Nat → Nat → Int → Option Int
  | 0, _, _, _ => none
  | f + 1, i, to, n =>
    if i < to then
      if (c.getD i (0, 0)).1 = 53 then
        if 0 ≤ (c.getD i (0, 0)).2 ∧ (c.getD i (0, 0)).2 < ks.length then
          partF c m ks f (i + 1) to (sumF [sumF [n, costF (c.getD i (0, 0)).1], ks.getD (c.getD i (0, 0)).2.toNat 0])
        else none
      else if (c.getD i (0, 0)).1 = 51 then
        if 0 ≤ (c.getD i (0, 0)).2 ∧ (i : Int) < m.getD i 0 ∧ m.getD i 0 < to then
          (partF c m ks f (i + 1) (m.getD i 0).toNat 0).bind fun r =>
            partF c m ks f ((m.getD i 0).toNat + 1) to (sumF [sumF [n, costF (c.getD i (0, 0)).1], timesF (c.getD i (0, 0)).2 (sumF [r, costF 50])])
        else none
      else if (c.getD i (0, 0)).1 = 48 then
        if (i : Int) < m.getD i 0 ∧ m.getD i 0 < to then
          (partF c m ks f (i + 1) (m.getD i 0).toNat 0).bind fun r =>
            if (c.getD (m.getD i 0).toNat (0, 0)).1 = 49 then
              if m.getD i 0 < m.getD (m.getD i 0).toNat 0 ∧ m.getD (m.getD i 0).toNat 0 < to then
                (partF c m ks f ((m.getD i 0).toNat + 1) (m.getD (m.getD i 0).toNat 0).toNat 0).bind fun r2 =>
                  partF c m ks f ((m.getD (m.getD i 0).toNat 0).toNat + 1) to
                    (sumF [sumF [n, costF (c.getD i (0, 0)).1], max (sumF [r, costF (c.getD (m.getD i 0).toNat (0, 0)).1]) (sumF [r2, costF 50])])
              else none
            else partF c m ks f ((m.getD i 0).toNat + 1) to (sumF [sumF [n, costF (c.getD i (0, 0)).1], sumF [r, costF (c.getD (m.getD i 0).toNat (0, 0)).1]])
        else none
      else partF c m ks f (i + 1) to (sumF [n, costF (c.getD i (0, 0)).1])
    else some n

/-- The four variables that the closure has captured. -/
structure PEnv (w : World) (bc bk bp bm : Nat) (vc vk vm : Value) (c : List Ins) (ks m : List Int) : Prop where
  pc : w.cell? ⟨bc, 0, none⟩ = some vc
  pk : w.cell? ⟨bk, 0, none⟩ = some vk
  pp : w.cell? ⟨bp, 0, none⟩ = some (.func (.func 79) #[] #[.pointer (some ⟨bc, 0, none⟩), .pointer (some ⟨bk, 0, none⟩), .pointer (some ⟨bp, 0, none⟩), .pointer (some ⟨bm, 0, none⟩)])
  pm : w.cell? ⟨bm, 0, none⟩ = some vm
  c : Code_ w vc c
  k : Ints w vk ks
  m : Ints w vm m
theorem cell_ext {w w1 : World} {a : Addr} {v : Value} (h : w.cell? a = some v) (hb : Below w.heap.size w w1) : w1.cell? a = some v := (hb.cell (World.block_lt_of_cell? w _ h)).trans h
theorem PEnv.ext {w w1 : World} {bc bk bp bm : Nat} {vc vk vm : Value} {c : List Ins} {ks m : List Int} (h : PEnv w bc bk bp bm vc vk vm c ks m) (hb : Below w.heap.size w w1) : PEnv w1 bc bk bp bm vc vk vm c ks m :=
  ⟨cell_ext h.pc hb, cell_ext h.pk hb, cell_ext h.pp hb, cell_ext h.pm hb, h.c.ext hb, h.k.ext hb, h.m.ext hb⟩
theorem ints_two (w : World) (a b : Int) (h1 : I64 a) (h2 : I64 b) : Ints (w.alloc (.cells #[.int .i64 a, .int .i64 b] 3)) (.slice (some ⟨w.heap.size, 0, none⟩) 2 2) [a, b] := by
  refine ⟨⟨_, _, rfl, fun _ => ⟨_, _, rfl, fun j hj => ?_⟩⟩, by simp, by simp [h1, h2]⟩
  rw [Nat.zero_add, cell_of_row _ w.heap.size j _ _ _ (heap_alloc_last w _)]
  match j, hj with
  | 0, _ => rfl
  | 1, _ => rfl
end Go.Proofs.Ytchmgilckiadaaa
