/- BoundTogether: the walk. -/
import Derived.Test.YtchmgilckiadaaaCalm
namespace Go.Proofs.Ytchmgilckiadaaa
open Go.RowKit
theorem calm_ints {l : List Int} {w : World} {B : Nat} {v : Value} (h : w.ownsRow B 3 1 v (calmF l).length (intVals (calmF l))) : Ints w v (calmF l) := by
  have hlen : (calmF l).length ≤ 20 := by simp [calmF]; omega
  have hi : ∀ x ∈ calmF l, I64 x := fun x hx => by
    obtain ⟨y, _, rfl⟩ := List.mem_map.1 hx
    have := calm1_bd y
    exact ⟨by omega, by omega⟩
  rcases h.2 with ⟨hv, h0⟩ | ⟨q, cap, cur, hv, _, hh, _, _, _, htake⟩
  · subst hv
    rw [List.length_eq_zero_iff.1 h0]
    exact ⟨⟨none, 0, rfl, fun h => by simp at h⟩, by simp, by simp⟩
  · subst hv
    refine ⟨⟨_, _, rfl, fun _ => ⟨_, _, rfl, fun j hj => ?_⟩⟩, by omega, hi⟩
    have hj' : j < (calmF l).length := by omega
    rw [Nat.zero_add, h.cellAt j (by omega)]
    simp [intVals, hj']
theorem calm_nn (l : List Int) : ∀ x ∈ calmF l, 0 ≤ x := fun x hx => by
  obtain ⟨y, _, rfl⟩ := List.mem_map.1 hx
  exact (calm1_bd y).1
theorem part_zero {ks : List Int} {c : List Ins} {a : Int} (h : partOut ks c = (a, 0)) : boundV ks c = some a ∧ (∀ x ∈ c, okX ks x) := by
  unfold partOut at h
  split at h
  · simp at h
  · rename_i r hr
    split at h
    · simp at h
    · rename_i hb
      simp only [Bool.or_eq_true, not_or, Bool.not_eq_true] at hb
      simp only [Prod.mk.injEq, and_true] at h
      subst h
      exact ⟨hr, bad_ok hb.1⟩
theorem part_of {ks : List Int} {c : List Ins} {a : Int} (hk : ∀ x ∈ ks, 0 ≤ x) (hx : ∀ x ∈ c, okX ks x) (h : boundV ks c = some a) : partOut ks c = (a, 0) := by
  unfold partOut
  rw [h]
  simp only
  rw [if_neg]
  simp only [Bool.or_eq_true, not_or, Bool.not_eq_true]
  constructor
  · rw [List.any_eq_false]
    intro x hx'
    have := hx x hx'
    unfold badI
    simp only [Bool.or_eq_true, Bool.and_eq_true, beq_iff_eq, decide_eq_true_eq, not_or, not_and]
    refine ⟨fun e => ?_, fun e => ?_⟩
    · have := this.1 e; omega
    · have := this.2 e; omega
  · rw [List.any_eq_false]
    intro x hx'
    have := hk x hx'
    simp; omega
theorem part_num (ks : List Int) (c : List Ins) : 0 ≤ (partOut ks c).2 ∧ (partOut ks c).2 ≤ 31 ∧ 0 ≤ (partOut ks c).1 ∧ (partOut ks c).1 ≤ 1048577 := by
  unfold partOut
  split
  · simp
  · rename_i r hr
    split
    · simp
    · rename_i hb
      simp only [Bool.or_eq_true, not_or, Bool.not_eq_true] at hb
      have := boundV_bd (ks_ok hb.2) (bad_ok hb.1) hr
      exact ⟨Int.le_refl _, by show (0 : Int) ≤ 31; omega, this.1, this.2⟩
theorem insCells_append (c d : List Ins) : insCells (c ++ d) = insCells c ++ insCells d := by simp [insCells]
/-- Two parts together: what the law asks. -/
theorem together_out {ks : List Int} {c d : List Ins} {a b : Int} (hk : ∀ x ∈ ks, 0 ≤ x) (h1 : partOut ks c = (a, 0)) (h2 : partOut ks d = (b, 0)) : partOut ks (c ++ d) = (cut (a + b), 0) := by
  obtain ⟨h3, h4⟩ := part_zero h1
  obtain ⟨h5, h6⟩ := part_zero h2
  refine part_of hk (fun x hx => ?_) (bound_together hk h4 h6 h3 h5)
  rcases List.mem_append.1 hx with h | h
  · exact h4 x h
  · exact h6 x h
end Go.Proofs.Ytchmgilckiadaaa
