/- A writer in memory: what it holds, what its steps keep. -/
import Derived.Test.YtchmgilckiadaaaCod
import Derived.Test.YtchmgilckiadaaaCat
import Derived.Test.YtchmgilckiadaaaRcl
import Derived.Lib.ConvBytes
namespace Go.Proofs.Ytchmgilckiadaaa
open Go.RowKit
/-- A slice of bytes that reads as these. -/
def Byts (w : World) (v : Value) (l : List UInt8) : Prop := CellsAt w v l.length 1 (fun j => .int .u8 ((l.getD j 0).toNat : Int))
theorem Byts.ext {w w1 : World} {v : Value} {l : List UInt8} (h : Byts w v l) (hb : Below w.heap.size w w1) : Byts w1 v l := CellsAt.ext h hb
/-- A writer's block q: it holds bs in a row of its own, behind B. -/
def WAt (w : World) (B q : Nat) (bs : List UInt8) : Prop := B ≤ q ∧ ∃ v, w.heap[q]? = some (.cells #[v, .bool true] 172 (0, 0)) ∧ w.ownsRow B 5 1 v bs.length (bytVals bs)
/-- What a writer's step keeps. -/
structure WStep (B : Nat) (w w' : World) : Prop where
  os : w'.os = w.os
  tape : w'.tape = w.tape
  output : w'.output = w.output
  size : w.heap.size ≤ w'.heap.size
  block : ∀ j, j < w.heap.size → (j < B ∨ ∃ cs t fr, w.heap[j]? = some (.cells cs t fr) ∧ t ≠ 5 ∧ t ≠ 172) → w'.heap[j]? = w.heap[j]?
theorem WStep.refl (B : Nat) (w : World) : WStep B w w := ⟨rfl, rfl, rfl, Nat.le_refl _, fun _ _ _ => rfl⟩
theorem WStep.trans {B : Nat} {a b c : World} (h : WStep B a b) (k : WStep B b c) : WStep B a c := by
  refine ⟨k.os.trans h.os, k.tape.trans h.tape, k.output.trans h.output, Nat.le_trans h.size k.size, fun j hj hx => ?_⟩
  have h1 := h.block j hj hx
  refine (k.block j (Nat.lt_of_lt_of_le hj h.size) ?_).trans h1
  rcases hx with hx | ⟨cs, t, fr, h2, h3⟩
  · exact .inl hx
  · exact .inr ⟨cs, t, fr, h1.trans h2, h3⟩
theorem WStep.of_below {B : Nat} {w w' : World} (h : Below w.heap.size w w') : WStep B w w' := ⟨h.os, h.tape, h.output, h.size, fun j hj _ => h.block j hj⟩
theorem WStep.below {B : Nat} {w w' : World} (h : WStep B w w') (hB : B ≤ w.heap.size) : Below B w w' := ⟨h.os, h.tape, h.output, h.size, fun j hj => h.block j (Nat.lt_of_lt_of_le hj hB) (.inl hj)⟩
/-- A row that is neither bytes nor a writer's stays. -/
theorem WStep.row {B : Nat} {w w' : World} (h : WStep B w w') {j : Nat} {cs : Array Value} {t : TypeId} {fr : Nat × Nat} (hj : w.heap[j]? = some (.cells cs t fr)) (h1 : t ≠ 5) (h2 : t ≠ 172) : w'.heap[j]? = some (.cells cs t fr) :=
  (h.block j (heap_lt hj) (.inr ⟨cs, t, fr, hj, h1, h2⟩)).trans hj
theorem grown_of_below {w w' : World} (h : Below w.heap.size w w') (r : Option Nat) : w.grownBy w' r := ⟨h.os, h.tape, h.output, h.size, fun q hq _ => h.block q hq⟩
theorem WAt.lt {w : World} {B q : Nat} {bs : List UInt8} (h : WAt w B q bs) : B ≤ q ∧ q < w.heap.size := by
  obtain ⟨h1, v, h2, _⟩ := h
  exact ⟨h1, heap_lt h2⟩
theorem WAt.ext {w w' : World} {B q : Nat} {bs : List UInt8} (h : WAt w B q bs) (hb : Below w.heap.size w w') : WAt w' B q bs := by
  obtain ⟨h1, v, h2, h3⟩ := h
  refine ⟨h1, v, (hb.block q (heap_lt h2)).trans h2, h3.kept (grown_of_below hb none) ?_⟩
  cases v.ownBlock with
  | none => exact .inl rfl
  | some x => exact .inr (by simp)
theorem row_tag {w : World} {B : Nat} {e : TypeId} {v : Value} {n : Nat} {xs : List Value} (h : w.ownsRow B e 1 v n xs) {k : Nat} (hk : v.ownBlock = some k) : ∃ cur, w.heap[k]? = some (.cells cur e (0, 0)) := by
  rcases h.2 with ⟨rfl, _⟩ | ⟨g, cap, cur, rfl, _, hh, _⟩
  · simp [Value.ownBlock] at hk
  · simp only [Value.ownBlock, Option.some.injEq] at hk
    subst hk
    exact ⟨cur, hh⟩
theorem tag_ne {w : World} {a b : Nat} {c1 c2 : Array Value} {t1 t2 : TypeId} {f1 f2 : Nat × Nat} (h1 : w.heap[a]? = some (.cells c1 t1 f1)) (h2 : w.heap[b]? = some (.cells c2 t2 f2)) (h : t1 ≠ t2) : a ≠ b := by
  rintro rfl
  rw [h1] at h2
  simp only [Option.some.injEq, Obj.cells.injEq] at h2
  exact h h2.2.1
/-- A writer's row has grown, and its box is laid. -/
theorem more_step {w w2 : World} {B q : Nat} {bs new : List UInt8} {v v' : Value} (hBq : B ≤ q) (hq : w.heap[q]? = some (.cells #[v, .bool true] 172 (0, 0))) (hown : w.ownsRow B 5 1 v bs.length (bytVals bs))
    (hown' : w2.ownsRow B 5 1 v' (bs.length + new.length) (bytVals bs ++ bytVals new)) (hg : w.grownBy w2 v.ownBlock) :
    WAt (w2.setCell ⟨q, 0, none⟩ v') B q (bs ++ new) ∧ WStep B w (w2.setCell ⟨q, 0, none⟩ v') := by
  have hne : some q ≠ v.ownBlock := fun e => by
    obtain ⟨cur, h1⟩ := row_tag hown e.symm
    exact tag_ne h1 hq (by decide) rfl
  have hq2 : w2.heap[q]? = some (.cells #[v, .bool true] 172 (0, 0)) := (hg.block q (heap_lt hq) hne).trans hq
  rw [setCell_eq_setRow w2 q 0 _ _ _ v' hq2]
  have hs : (#[v, Value.bool true] : Array Value).setIfInBounds 0 v' = #[v', .bool true] := rfl
  rw [hs]
  refine ⟨⟨hBq, v', setRow_heap w2 q _ _ _ _ hq2, ?_⟩, ?_⟩
  · rw [List.length_append, bytVals_append]
    refine ⟨hown'.1, ?_⟩
    rcases hown'.2 with hn | ⟨g, cap, cur, e, hBg, hh, hrest⟩
    · exact .inl hn
    · exact .inr ⟨g, cap, cur, e, hBg, by rw [setRow_other _ _ _ _ (tag_ne hh hq2 (by decide))]; exact hh, hrest⟩
  · refine ⟨by simpa using hg.os, by simpa using hg.tape, by simpa using hg.output, by simpa using hg.size, fun j hj hx => ?_⟩
    have hjq : j ≠ q := by
      rcases hx with hx | ⟨cs, t, fr, h2, _, h4⟩
      · omega
      · exact tag_ne h2 hq h4
    have hjr : some j ≠ v.ownBlock := fun e => by
      obtain ⟨cur, h1⟩ := row_tag hown e.symm
      rcases hx with hx | ⟨cs, t, fr, h2, h3, _⟩
      · have := (hown.lt j e.symm).1
        omega
      · exact tag_ne h2 h1 h3 rfl
    rw [setRow_other _ _ _ _ hjq]
    exact hg.block j hj hjr
theorem bytVals_getD (l : List UInt8) (i : Nat) (h : i < l.length) (d : Value) : (bytVals l).getD i d = .int .u8 ((l.getD i 0).toNat : Int) := by
  simp [bytVals, h]
theorem bytVals_at (l : List UInt8) (i : Nat) (h : i < l.length) : (bytVals l)[i]? = some (.int .u8 ((l.getD i 0).toNat : Int)) := by
  simp [bytVals, h]
theorem own_byts {w : World} {B n : Nat} {v : Value} {l : List UInt8} (h : w.ownsRow B 5 1 v n (bytVals l)) (hn : n = l.length) : Byts w v l := by
  subst hn
  rcases h.2 with ⟨rfl, h0⟩ | ⟨q, cap, cur, rfl, _, hh, _⟩
  · exact ⟨none, 0, by rw [h0], fun h => by omega⟩
  · refine ⟨_, _, rfl, fun _ => ⟨_, _, rfl, fun j hj => ?_⟩⟩
    rw [Nat.zero_add, h.cellAt j hj, bytVals_at l j (by omega)]
theorem byts_part {w : World} {v : Value} {l : List UInt8} (h : Byts w v l) : CellsAt w v (bytVals l).length 1 (fun i => (bytVals l).getD i (.int .i64 0)) := by
  rw [bytVals_len]
  exact CellsAt.congr h fun j hj => (bytVals_getD l j (by omega) _).symm
theorem flat_bytVals (L : List (List UInt8)) : (L.map bytVals).flatten = bytVals L.flatten := by
  induction L with
  | nil => rfl
  | cons x L ih => simp [bytVals] at ih ⊢; exact ih
theorem bytVals_one (l : List UInt8) : ∀ x ∈ bytVals l, x.oneCell' = true := fun x hx => by
  obtain ⟨z, _, rfl⟩ := List.mem_map.1 hx
  rfl
/-- Slices of bytes in a row. -/
theorem parts_own {w : World} {B : Nat} {t : TypeId} {v : Value} {vs : List Value} {L : List (List UInt8)} (h : w.ownsRow B t 1 v vs.length vs) (hl : vs.length = L.length) (hv : ∀ j, j < L.length → Byts w (vs.getD j undef) (L.getD j [])) : Parts w v (L.map bytVals) := by
  refine ⟨?_, fun l hl x hx => ?_⟩
  · rcases h.2 with ⟨rfl, h0⟩ | ⟨q, cap, cur, rfl, _, hh, _⟩
    · exact ⟨none, 0, by rw [List.length_map, ← hl, h0], fun j hj => by rw [List.length_map] at hj; omega⟩
    · refine ⟨_, _, by rw [List.length_map, hl], fun j hj => ?_⟩
      rw [List.length_map] at hj
      have e : (L.map bytVals).getD j [] = bytVals (L.getD j []) := by simp [hj]
      refine ⟨q, 0, vs.getD j undef, rfl, ?_, ?_⟩
      · rw [Nat.zero_add, h.cellAt j (by omega)]
        have : j < vs.length := by omega
        simp [this]
      · rw [e]
        exact byts_part (hv j hj)
  · obtain ⟨y, _, rfl⟩ := List.mem_map.1 hl
    exact bytVals_one y x hx
/-- A literal of one slice of bytes. -/
theorem parts_one {w : World} {q : Nat} {t : TypeId} {v : Value} {l : List UInt8} (h : w.heap[q]? = some (.cells #[v] t (0, 0))) (hv : Byts w v l) : Parts w (.slice (some ⟨q, 0, none⟩) 1 1) ([l].map bytVals) := by
  refine ⟨⟨_, _, rfl, fun j hj => ?_⟩, fun l' hl x hx => ?_⟩
  · simp at hj
    subst hj
    refine ⟨q, 0, v, rfl, ?_, ?_⟩
    · rw [cell_of_row _ _ _ _ _ _ h]; rfl
    · exact byts_part hv
  · simp at hl
    subst hl
    exact bytVals_one l x hx
/-- What a writer's call answers. -/
def WPost (B q : Nat) (bs new : List UInt8) (w : World) (e : Ending) (w' : World) : Prop := e = .returned (.int .i64 0) ∧ WAt w' B q (bs ++ new) ∧ WStep B w w'
end Go.Proofs.Ytchmgilckiadaaa
