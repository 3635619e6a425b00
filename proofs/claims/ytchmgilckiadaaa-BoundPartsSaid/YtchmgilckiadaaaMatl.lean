/- ref06.Match in plain words, round by round: where it answers an error there are no places. -/
import Derived.Test.YtchmgilckiadaaaMop
namespace Go.Proofs.Ytchmgilckiadaaa
open Go.RowKit
theorem m1_stop {c : List Ins} {k : Nat} (h : m1To c k = none) : ∀ d, m1To c (k + d) = none
  | 0 => h
  | d + 1 => by rw [← Nat.add_assoc, m1To, m1_stop h d]; rfl
theorem m1_none {c : List Ins} {k : Nat} {m : List Int} (hk : k < c.length) (h : m1To c k = some m) (hs : m1Step c m k = none) : refM c = none := by
  have h1 : m1To c (k + 1) = none := by rw [m1To, h]; exact hs
  have h2 := m1_stop h1 (c.length - (k + 1))
  rw [show k + 1 + (c.length - (k + 1)) = c.length by omega] at h2
  rw [refM, h2]; rfl
theorem lack_none {c : List Ins} {q : Nat} {m : List Int} (hq : q < c.length) (h : m1To c c.length = some m) (hl : lack c m q = true) : refM c = none := by
  rw [refM, h, Option.bind_some, if_pos]
  exact List.any_eq_true.2 ⟨q, List.mem_range.2 hq, hl⟩
theorem m3_stop {c : List Ins} {m : List Int} {k : Nat} (h : m3To c m k = none) : ∀ d, m3To c m (k + d) = none
  | 0 => h
  | d + 1 => by rw [← Nat.add_assoc, m3To, m3_stop h d]; rfl
theorem m3_none {c : List Ins} {k : Nat} {m m' : List Int} (hk : k < c.length) (h0 : m1To c c.length = some m) (h : m3To c m k = some m') (hs : m3Step c m' k = none) : refM c = none := by
  have h1 : m3To c m (k + 1) = none := by rw [m3To, h]; exact hs
  have h2 := m3_stop h1 (c.length - (k + 1))
  rw [show k + 1 + (c.length - (k + 1)) = c.length by omega] at h2
  rw [refM, h0, Option.bind_some]
  split
  · rfl
  · exact h2
theorem refM_some {c : List Ins} {m m' : List Int} (h0 : m1To c c.length = some m) (hl : ∀ q, q < c.length → lack c m q = false) (h : m3To c m c.length = some m') : refM c = some m' := by
  rw [refM, h0, Option.bind_some, if_neg, h]
  intro hh
  obtain ⟨q, h1, h2⟩ := List.any_eq_true.1 hh
  have := hl q (List.mem_range.1 h1)
  rw [this] at h2
  simp at h2
theorem refM_err {c : List Ins} (h : refM c = none) : (scanF c).isSome = false := by rw [← refM_good, h]; rfl
/-- What 'closes' tells lies in the row. -/
theorem clo_in {c : List Ins} {i : Nat} (ho : isO c i) : (cloAt c i).2 < 0 ∨ (0 ≤ (cloAt c i).2 ∧ (cloAt c i).2 < c.length ∧ -1 ≤ (cloAt c i).1 ∧ (cloAt c i).1 < c.length) := by
  rcases clo_out ho with ⟨e, h1, h2, h3, _, _, hw⟩ | ⟨h1, _⟩
  · right
    refine ⟨by omega, by omega, ?_⟩
    rcases hw.oth with ⟨h4, _⟩ | ⟨x, h4, h5, h6, _⟩
    · exact ⟨by omega, by omega⟩
    · exact ⟨by omega, by omega⟩
  · left; omega
theorem m1_all {c : List Ins} {m : List Int} (h : m1To c c.length = some m) : AllEnd c ∧ M1 c c.length m := by
  have hA : AllEnd c := (m1_ok (c := c) c.length (Nat.le_refl _)).1 (by rw [h]; rfl)
  obtain ⟨m', hm', hM⟩ := m1_to hA c.length (Nat.le_refl _)
  rw [h] at hm'
  injection hm' with hm'
  subst hm'
  exact ⟨hA, hM⟩
theorem m1_start {c : List Ins} {m : List Int} (hA : AllEnd c) (hM : M1 c c.length m) : M3 c 0 m := by
  refine ⟨hM.own, fun q _ hq h52 => hM.far q hq ?_⟩
  rintro ⟨i, i1, i2, i3⟩
  have sh := hA.shut i1 i2
  rcases i3 with e | e | e
  · subst e; unfold isO at i2; omega
  · have := sh.op; rw [← e] at this; omega
  · rcases sh.oth with e1 | ⟨y, y1, _, _, y4, _⟩
    · omega
    · have : y = q := by omega
      subst this; omega
theorem m3_to {c : List Ins} {m : List Int} (hA : AllEnd c) (h0 : M3 c 0 m) : ∀ k, k ≤ c.length → ∀ m', m3To c m k = some m' → M3 c k m'
  | 0, _, m', h => by
    simp only [m3To, Option.some.injEq] at h
    subst h; exact h0
  | k + 1, hk, m', h => by
    rw [m3To] at h
    cases h1 : m3To c m k with
    | none => rw [h1] at h; simp at h
    | some m1 =>
      rw [h1, Option.bind_some] at h
      rcases m3_one hA (by omega) (m3_to hA h0 k (by omega) m1 h1) with ⟨m3, a1, a2, _⟩ | ⟨a1, _⟩
      · rw [a1] at h
        injection h with h
        subst h; exact a2
      · rw [a1] at h; simp at h
theorem leaveF_snoc {c : List Ins} {k i : Nat} {a : List Nat} {m : List Int} : leaveF c k (a ++ [i]) m = if opAt c i = 51 then (leaveF c k a m).set k ((leaveF c k a m).getD i 0) else leaveF c k a m := by
  unfold leaveF
  rw [List.foldl_append]
  rfl
/-- What the loop over the open blocks keeps. -/
theorem leave_at {c : List Ins} {k : Nat} {m : List Int} (hA : AllEnd c) (h : M3 c k m) (hk : k < c.length) (j : Nat) :
    (leaveF c k ((openM c m k).take j) m).length = c.length ∧ (∀ x ∈ leaveF c k ((openM c m k).take j) m, -1 ≤ x ∧ x < c.length) := by
  have ho := openM_own hA h.own (show k ≤ c.length by omega)
  rw [ho]
  obtain ⟨g1, g2, _⟩ := leave_ok (c := c) (k := k) ((openD c k).take j) m (by rw [h.own.len]; exact hk) (fun i hi => by
    obtain ⟨a1, a2, a3⟩ := mem_openD.1 (List.mem_of_mem_take hi)
    exact ⟨by omega, (last_own hA h.own (by omega) a2).2⟩) h.own.bd
  exact ⟨by rw [g1, h.own.len], g2⟩
theorem row_set {w : World} {q k : Nat} {m : List Int} (v : Int) (h : w.heap[q]? = some (.cells (intVals m).toArray 3 (0, 0))) : (w.setCell ⟨q, k, none⟩ (.int .i64 v)).heap[q]? = some (.cells (intVals (m.set k v)).toArray 3 (0, 0)) := by
  rw [heap_setCell_same w q k _ _ _ h]
  simp [intVals, List.map_set]
theorem row_get {w : World} {q k : Nat} {m : List Int} (h : w.heap[q]? = some (.cells (intVals m).toArray 3 (0, 0))) (hk : k < m.length) : w.cell? ⟨q, k, none⟩ = some (.int .i64 (m.getD k 0)) := by
  rw [cell_of_row w q k _ _ _ h]
  simp [intVals, hk]
theorem rep_set (n k : Nat) (h : k < n) : (repRow n k).set k (-1) = repRow n (k + 1) := by
  unfold repRow
  rw [List.set_append_right _ _ (by simp), List.length_replicate, Nat.sub_self]
  rw [show n - k = (n - (k + 1)) + 1 by omega, List.replicate_succ, List.set_cons_zero, List.replicate_succ']
  simp
end Go.Proofs.Ytchmgilckiadaaa
