/- Where a block ends: what the places tell. -/
import Derived.Test.YtchmgilckiadaaaSpan2
namespace Go.Proofs.Ytchmgilckiadaaa
theorem least_of (P : Nat → Prop) : ∀ n, P n → ∃ m, m ≤ n ∧ P m ∧ ∀ k, k < m → ¬P k := by
  intro n
  induction n using Nat.strongRecOn with
  | _ n ih =>
    intro h
    by_cases hk : ∃ k, k < n ∧ P k
    · obtain ⟨k, hk1, hk2⟩ := hk
      obtain ⟨m, hm1, hm2, hm3⟩ := ih k hk1 hk2
      exact ⟨m, by omega, hm2, hm3⟩
    · exact ⟨n, Nat.le_refl _, h, fun k hk1 hk2 => hk ⟨k, hk1, hk2⟩⟩
theorem scan_len {c : List Ins} (hs : (scanF c).isSome = true) {q : Nat} (hq : q < c.length) :
    (lenAt c (q + 1) : Int) = if opAt c q = 48 ∨ opAt c q = 51 then (lenAt c q : Int) + 1 else if opAt c q = 50 then (lenAt c q : Int) - 1 else lenAt c q := by
  have h := stAt_step hs hq
  unfold lenAt
  generalize stAt c q = st at h
  generalize stAt c (q + 1) = st' at h
  obtain ⟨l, m⟩ := st
  unfold scanStep at h
  simp only at h ⊢
  split at h
  · rename_i c1
    rw [if_pos c1]
    split at h
    · simp at h
    · injection h with h; subst h; simp
  · rename_i c1
    rw [if_neg c1]
    split at h
    · rw [if_neg (by omega)]
      split at h
      · simp at h
      · rename_i b hl
        split at h
        · simp at h
        · injection h with h; subst h
          have hsp := getLast_split hl
          have := congrArg List.length hsp
          rw [List.length_append, List.length_cons, List.length_nil] at this
          simp only [List.length_append, List.length_cons, List.length_nil]
          omega
    · split at h
      · rename_i c3
        rw [if_pos c3]
        split at h
        · simp at h
        · rename_i b hl
          injection h with h; subst h
          have hsp := getLast_split hl
          have := congrArg List.length hsp
          rw [List.length_append, List.length_cons, List.length_nil] at this
          simp only
          omega
      · rename_i c3
        rw [if_neg c3]
        split at h
        · split at h
          · simp at h
          · injection h with h; subst h; simp
        · injection h with h; subst h; rfl
theorem span_at {c : List Ins} (hs : (scanF c).isSome = true) {i : Nat} (hi : i < c.length) (ho : opAt c i = 48 ∨ opAt c i = 51) : ∀ k, i + 1 + k ≤ c.length → (∀ q, i < q → q ≤ i + 1 + k → lenAt c i + 1 ≤ lenAt c q) →
    ∃ l0 b rest, Span c i (lenAt c i) (i + 1 + k) l0 b rest
  | 0, _, _ => ⟨_, _, _, span_open hs hi ho⟩
  | k + 1, hk, hq => by
    obtain ⟨l0, b, rest, sp⟩ := span_at hs hi ho k (by omega) (fun q h1 h2 => hq q h1 (by omega))
    have hq1 : i < i + 1 + k := by omega
    have hq2 : i + 1 + k < c.length := by omega
    exact span_step hs (q := i + 1 + k) sp hq1 hq2 (hq (i + 1 + k + 1) (by omega) (Nat.le_refl _))
theorem block_ends {c : List Ins} {M : List Int} (hs : scanF c = some M) {i to : Nat} (ho : opAt c i = 48 ∨ opAt c i = 51) (hit : i < to) (hto : to ≤ c.length) (hl : lenAt c to ≤ lenAt c i) :
    ∃ e, i < e ∧ e < to ∧ opAt c e = 50 ∧ lenAt c e = lenAt c i + 1 ∧ lenAt c (e + 1) = lenAt c i ∧ (∀ q, i < q → q ≤ e → lenAt c i + 1 ≤ lenAt c q) ∧
      ((M.getD i 0 = e ∧ ∀ q, i < q → q < e → lenAt c q = lenAt c i + 1 → opAt c q ≠ 49) ∨
       ∃ x, i < x ∧ x < e ∧ opAt c x = 49 ∧ lenAt c x = lenAt c i + 1 ∧ M.getD i 0 = x ∧ M.getD x 0 = e ∧ ∀ q, i < q → q < e → q ≠ x → lenAt c q = lenAt c i + 1 → opAt c q ≠ 49) := by
  have hs' : (scanF c).isSome = true := by rw [hs]; rfl
  obtain ⟨r, hr1, ⟨hr2, hr3⟩, hr4⟩ := least_of (fun q => i < q ∧ lenAt c q ≤ lenAt c i) to ⟨hit, hl⟩
  have hl1 := scan_len hs' (q := i) (by omega)
  rw [if_pos ho] at hl1
  have hne : r ≠ i + 1 := fun e => by subst e; omega
  obtain ⟨e, rfl⟩ : ∃ e, r = e + 1 := ⟨r - 1, by omega⟩
  have hmin : ∀ q, i < q → q ≤ e → lenAt c i + 1 ≤ lenAt c q := fun q h1 h2 => by
    have := hr4 q (by omega)
    simp only [not_and, Nat.not_le] at this
    exact this h1
  have hle := scan_len hs' (q := e) (by omega)
  have hme := hmin e (by omega) (Nat.le_refl _)
  have hoe : opAt c e = 50 := by
    by_cases h1 : opAt c e = 48 ∨ opAt c e = 51
    · rw [if_pos h1] at hle; omega
    · rw [if_neg h1] at hle
      by_cases h2 : opAt c e = 50
      · exact h2
      · rw [if_neg h2] at hle; omega
  rw [if_neg (by omega), if_pos hoe] at hle
  obtain ⟨l0, b, rest, sp⟩ := span_at hs' (i := i) (by omega) ho (e - (i + 1)) (by omega) (fun q h1 h2 => hmin q h1 (by omega))
  rw [show i + 1 + (e - (i + 1)) = e by omega] at sp
  have hsl := span_len sp
  have hrest : rest = [] := by
    cases rest with
    | nil => rfl
    | cons y r => simp at hsl; omega
  subst hrest
  refine ⟨e, by omega, by omega, hoe, by omega, by omega, hmin, ?_⟩
  have hst := stAt_step hs' (k := e) (by omega)
  have hok := (stAt_ok hs' (k := e) (by omega)).len
  have hst0 : stAt c e = (l0 ++ [b], (stAt c e).2) := Prod.ext sp.st rfl
  rw [hst0] at hst
  unfold scanStep at hst
  simp only at hst
  rw [if_neg (by omega), if_neg (by omega), if_pos hoe] at hst
  simp only [List.getLast?_append, List.getLast?_singleton, Option.some_or, List.dropLast_concat, Option.some.injEq] at hst
  have h1 : (stAt c (e + 1)).1 = l0 := by rw [← hst]
  have h2 : (stAt c (e + 1)).2 = b.leaves.foldl (fun m k => m.set k (e : Int)) (((stAt c e).2.set e (b.at_ : Int)).set (if 0 ≤ b.other then b.other.toNat else b.at_) (e : Int)) := by rw [← hst]
  have hfi : Free i (stAt c (e + 1)).1 := by rw [h1]; exact sp.clean i (Nat.le_refl _) (by omega)
  have hMi := free_end hs (q := e + 1) (by omega) (by omega) hfi
  have hil : i ∉ b.leaves := fun h => by have := (sp.lv i h).1; omega
  rw [h2, foldl_set_far _ _ _ _ hil] at hMi
  rcases sp.oth with ho1 | ⟨x, ho1, hx1, hx2, hx3, hx4, hx5⟩
  · left
    rw [if_neg (by omega), sp.at_, getD_set_at (by simp; omega)] at hMi
    exact ⟨hMi, fun q h3 h4 h5 h6 => by have := sp.only q h3 h4 h5 h6; omega⟩
  · right
    have hxx : (if 0 ≤ b.other then b.other.toNat else b.at_) = x := by rw [if_pos (by omega)]; omega
    rw [hxx] at hMi h2
    rw [getD_set_far (by omega), getD_set_far (by omega), hx5] at hMi
    have hfx : Free x (stAt c (e + 1)).1 := by rw [h1]; exact sp.clean x (by omega) (by omega)
    have hMx := free_end hs (q := e + 1) (by omega) (by omega) hfx
    have hxl : x ∉ b.leaves := fun h => by have := (sp.lv x h).2; omega
    rw [h2, foldl_set_far _ _ _ _ hxl, getD_set_at (by simp; omega)] at hMx
    exact ⟨x, hx1, hx2, hx3, hx4, hMi, hMx, fun q h3 h4 h5 h6 h7 => by have := sp.only q h3 h4 h6 h7; omega⟩
end Go.Proofs.Ytchmgilckiadaaa
