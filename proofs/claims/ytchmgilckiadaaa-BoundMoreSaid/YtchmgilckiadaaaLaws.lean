/- Plain facts for the laws of turns, of one instruction more, of callees. -/
import Derived.Test.YtchmgilckiadaaaTog
namespace Go.Proofs.Ytchmgilckiadaaa
theorem turns_out {ks : List Int} {c : List Ins} {a n : Int} (hk : ∀ x ∈ ks, 0 ≤ x) (h0 : 0 ≤ n) (hn : n ≤ 64) (h1 : partOut ks c = (a, 0)) :
    partOut ks ((51, n) :: (c ++ [(50, 0)])) = (cut (costF 51 + n * (a + costF 50)), 0) ∨ partOut ks ((51, n) :: (c ++ [(50, 0)])) = (0, 31) := by
  obtain ⟨h3, h4⟩ := part_zero h1
  rcases bound_turns hk h4 h0 hn h3 with h | h
  · left
    refine part_of hk (fun x hx => ?_) h
    rcases List.mem_cons.1 hx with rfl | hx
    · exact ⟨fun e => by simp at e, fun _ => h0⟩
    · rcases List.mem_append.1 hx with h | h
      · exact h4 x h
      · simp only [List.mem_singleton] at h
        subst h
        exact ⟨fun e => by simp at e, fun e => by simp at e⟩
  · right
    unfold partOut
    rw [h]
theorem more_out {ks : List Int} {c : List Ins} {n : Int} {x : Ins} (k : Nat) (hk : ∀ x ∈ ks, 0 ≤ x) (hs : ¬(48 ≤ x.1 ∧ x.1 ≤ 53)) (h1 : partOut ks c = (n, 0)) :
    ∃ m, partOut ks (c.take k ++ [x] ++ c.drop k) = (m, 0) ∧ n ≤ m ∧ (deepF (c.take k) ≤ 0 → m = cut (n + costF x.1)) := by
  obtain ⟨h3, h4⟩ := part_zero h1
  obtain ⟨m, hm, h5, h6⟩ := bound_more (x := x) k hk h4 hs h3
  refine ⟨m, part_of hk (fun y hy => ?_) hm, h5, h6⟩
  rcases List.mem_append.1 hy with hy | hy
  · rcases List.mem_append.1 hy with hy | hy
    · exact h4 y (List.mem_of_mem_take hy)
    · simp only [List.mem_singleton] at hy
      subst hy
      exact ⟨fun e => absurd ⟨by omega, by omega⟩ hs, fun e => absurd ⟨by omega, by omega⟩ hs⟩
  · exact h4 y (List.mem_of_mem_drop hy)
theorem leC_set : ∀ (c : List Ins) (k : Nat) (y : Ins), leX (c.getD k (0, 0)) y → leC c (c.set k y)
  | [], _, _, _ => trivial
  | _ :: c, 0, _, h => ⟨h, leC_refl c⟩
  | x :: c, k + 1, y, h => ⟨leX_refl x, leC_set c k y (by simpa using h)⟩
/-- One round more. -/
def bump (x : Ins) : Ins := if x.1 = 51 ∧ x.2 ≤ 64 then (x.1, x.2 + 1) else x
theorem bump_le (x : Ins) : leX x (bump x) := by
  unfold bump
  split
  · exact ⟨rfl, fun _ => by simp only; omega, fun e => by omega⟩
  · exact leX_refl x
theorem callees_out {ks : List Int} {c : List Ins} {a m : Int} (k : Nat) (hk : ∀ x ∈ ks, 0 ≤ x) (hm : 0 ≤ m) (h1 : partOut ks c = (a, 0)) :
    ∃ b g, partOut (ks.map (· + m)) c = (b, 0) ∧ partOut (ks.map (· + m)) (c.set k (bump (c.getD k (0, 0)))) = (g, 0) ∧ a ≤ b ∧ b ≤ g := by
  obtain ⟨h3, h4⟩ := part_zero h1
  have hk2 : ∀ x ∈ ks.map (· + m), 0 ≤ x := fun x hx => by
    obtain ⟨y, hy, rfl⟩ := List.mem_map.1 hx
    have := hk y hy
    omega
  have hkk : ∀ i, ks.getD i 0 ≤ (ks.map (· + m)).getD i 0 := fun i => by
    by_cases hi : i < ks.length
    · simp [List.getD, hi]; omega
    · simp [List.getD, List.getElem?_eq_none (Nat.le_of_not_lt hi)]
  have hx2 : ∀ x ∈ c, okX (ks.map (· + m)) x := fun x hx => by
    have := h4 x hx
    unfold okX at *
    rw [List.length_map]
    exact this
  obtain ⟨b, hb, hab⟩ := bound_mono hk hkk (leC_refl c) h4 h3
  obtain ⟨g, hg, hbg⟩ := bound_mono hk2 (fun i => Int.le_refl _) (leC_set c k _ (bump_le _)) hx2 hb
  refine ⟨b, g, part_of hk2 hx2 hb, part_of hk2 (fun x hx => ?_) hg, hab, hbg⟩
  rcases List.mem_or_eq_of_mem_set hx with h | h
  · exact hx2 x h
  · subst h
    by_cases hkc : k < c.length
    · have hin := hx2 _ (getD_in (d := ((0, 0) : Ins)) hkc)
      unfold bump
      split
      · rename_i e
        exact ⟨fun e2 => by simp only at e2; omega, fun _ => by have := hin.2 e.1; simp only; omega⟩
      · exact hin
    · rw [List.getD_eq_getElem?_getD, List.getElem?_eq_none (Nat.le_of_not_lt hkc)]
      exact ⟨fun e => by simp [bump] at e, fun e => by simp [bump] at e⟩
end Go.Proofs.Ytchmgilckiadaaa
