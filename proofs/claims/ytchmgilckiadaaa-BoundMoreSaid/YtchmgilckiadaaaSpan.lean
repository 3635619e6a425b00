/- Where a block ends, and what the places tell of it. -/
import Derived.Test.YtchmgilckiadaaaSim
namespace Go.Proofs.Ytchmgilckiadaaa
def stAt (c : List Ins) (k : Nat) : List Blk × List Int := (scanTo c k).getD ([], [])
def lenAt (c : List Ins) (k : Nat) : Nat := (stAt c k).1.length
theorem stAt_some {c : List Ins} (hs : (scanF c).isSome = true) {k : Nat} (hk : k ≤ c.length) : scanTo c k = some (stAt c k) := by
  cases h : scanTo c k with
  | some st => rw [stAt, h]; rfl
  | none =>
    have := scanTo_none h (c.length - k)
    rw [show k + (c.length - k) = c.length by omega] at this
    rw [scanF, this] at hs
    simp at hs
theorem stAt_step {c : List Ins} (hs : (scanF c).isSome = true) {k : Nat} (hk : k < c.length) : scanStep c k (stAt c k) = some (stAt c (k + 1)) := by
  have h1 := stAt_some hs (Nat.le_of_lt hk)
  have h2 := stAt_some hs (Nat.succ_le_of_lt hk)
  rw [scanTo, h1] at h2
  exact h2
theorem stAt_end {c : List Ins} {M : List Int} (hs : scanF c = some M) : stAt c c.length = ([], M) := by
  have h := stAt_some (c := c) (by rw [hs]; rfl) (Nat.le_refl _)
  rw [scanF, h, Option.bind_some] at hs
  split at hs
  · injection hs with hs
    rename_i h1
    exact Prod.ext h1 hs
  · simp at hs
theorem stAt_ok {c : List Ins} (hs : (scanF c).isSome = true) {k : Nat} (hk : k ≤ c.length) : StOk c.length k (stAt c k) := scanTo_ok (stAt_some hs hk)
/-- A place that no open block names. -/
def Free (p : Nat) (l : List Blk) : Prop := ∀ b ∈ l, b.at_ ≠ p ∧ b.other ≠ (p : Int) ∧ p ∉ b.leaves
theorem foldl_set_far (i : Int) (p : Nat) : ∀ (ks : List Nat) (m : List Int), p ∉ ks → (ks.foldl (fun m k => m.set k i) m).getD p 0 = m.getD p 0
  | [], _, _ => rfl
  | k :: r, m, h => by
    simp only [List.mem_cons, not_or] at h
    rw [List.foldl_cons, foldl_set_far i p r _ h.2]
    simp [Ne.symm h.1]
theorem getD_set_far {m : List Int} {k p : Nat} {x : Int} (h : p ≠ k) : (m.set k x).getD p 0 = m.getD p 0 := by simp [Ne.symm h]
theorem getD_set_at {m : List Int} {k : Nat} {x : Int} (h : k < m.length) : (m.set k x).getD k 0 = x := by simp [h]
/-- What no open block names stays as it is. -/
theorem free_step {c : List Ins} {q p : Nat} {st st' : List Blk × List Int} (hp : p ≠ q) (hf : Free p st.1) (h : scanStep c q st = some st') : Free p st'.1 ∧ st'.2.getD p 0 = st.2.getD p 0 := by
  obtain ⟨l, m⟩ := st
  simp only at hf
  unfold scanStep at h
  simp only at h
  split at h
  · split at h
    · simp at h
    · injection h with h; subst h
      refine ⟨fun b hb => ?_, rfl⟩
      rcases List.mem_append.1 hb with hb | hb
      · exact hf b hb
      · simp only [List.mem_singleton] at hb
        subst hb
        exact ⟨fun e => hp e.symm, by show (-1 : Int) ≠ p; omega, by simp⟩
  · split at h
    · split at h
      · simp at h
      · rename_i b hl
        split at h
        · simp at h
        · injection h with h; subst h
          have hsp := getLast_split hl
          have hb := hf b (by rw [hsp]; simp)
          refine ⟨fun b' hb' => ?_, getD_set_far (fun e => hb.1 e.symm)⟩
          rcases List.mem_append.1 hb' with h | h
          · exact hf b' ((List.dropLast_sublist _).subset h)
          · simp only [List.mem_singleton] at h
            subst h
            exact ⟨hb.1, by show (q : Int) ≠ p; omega, hb.2.2⟩
    · split at h
      · split at h
        · simp at h
        · rename_i b hl
          injection h with h; subst h
          have hsp := getLast_split hl
          have hb := hf b (by rw [hsp]; simp)
          refine ⟨fun b' hb' => hf b' ((List.dropLast_sublist _).subset hb'), ?_⟩
          simp only
          rw [foldl_set_far _ _ _ _ hb.2.2, getD_set_far, getD_set_far hp]
          split
          · have := hb.2.1; omega
          · exact fun e => hb.1 e.symm
      · split at h
        · split at h
          · simp at h
          · rename_i j hj
            injection h with h; subst h
            have hjl := topLoop_lt hj
            refine ⟨fun b' hb' => ?_, rfl⟩
            rcases List.mem_or_eq_of_mem_set hb' with h | h
            · exact hf b' h
            · subst h
              have hb := hf (l.getD j default) (getD_in hjl)
              refine ⟨hb.1, hb.2.1, fun hx => ?_⟩
              rcases List.mem_append.1 hx with h | h
              · exact hb.2.2 h
              · simp only [List.mem_singleton] at h; exact hp h
        · injection h with h; subst h
          exact ⟨hf, rfl⟩
theorem free_to {c : List Ins} (hs : (scanF c).isSome = true) {q p : Nat} (hp : p < q) (hf : Free p (stAt c q).1) : ∀ d, q + d ≤ c.length → Free p (stAt c (q + d)).1 ∧ (stAt c (q + d)).2.getD p 0 = (stAt c q).2.getD p 0
  | 0, _ => ⟨hf, rfl⟩
  | d + 1, h => by
    obtain ⟨h1, h2⟩ := free_to hs hp hf d (by omega)
    have h3 := free_step (by omega) h1 (stAt_step hs (k := q + d) (by omega))
    exact ⟨h3.1, h3.2.trans h2⟩
theorem free_end {c : List Ins} {M : List Int} (hs : scanF c = some M) {q p : Nat} (hp : p < q) (hq : q ≤ c.length) (hf : Free p (stAt c q).1) : M.getD p 0 = (stAt c q).2.getD p 0 := by
  have h := (free_to (by rw [hs]; rfl) hp hf (c.length - q) (by omega)).2
  rw [show q + (c.length - q) = c.length by omega, stAt_end hs] at h
  exact h
/-- While the block that i opened is open. -/
structure Span (c : List Ins) (i d q : Nat) (l0 : List Blk) (b : Blk) (rest : List Blk) : Prop where
  st : (stAt c q).1 = l0 ++ b :: rest
  len : l0.length = d
  clean : ∀ p, i ≤ p → opAt c p ≠ 52 → Free p l0
  at_ : b.at_ = i
  lv : ∀ y ∈ b.leaves, i < y ∧ opAt c y = 52
  oth : b.other = -1 ∨ (∃ x : Nat, b.other = x ∧ i < x ∧ x < q ∧ opAt c x = 49 ∧ lenAt c x = d + 1 ∧ (stAt c q).2.getD i 0 = x)
  only : ∀ p, i < p → p < q → lenAt c p = d + 1 → opAt c p = 49 → b.other = p
  above : ∀ y ∈ rest, i < y.at_ ∧ (0 ≤ y.other → (i : Int) < y.other) ∧ ∀ z ∈ y.leaves, i < z
theorem span_open {c : List Ins} (hs : (scanF c).isSome = true) {i : Nat} (hi : i < c.length) (ho : opAt c i = 48 ∨ opAt c i = 51) : Span c i (lenAt c i) (i + 1) (stAt c i).1 ⟨i, -1, []⟩ [] := by
  have h := stAt_step hs hi
  have hok := stAt_ok hs (Nat.le_of_lt hi)
  unfold scanStep at h
  simp only at h
  rw [if_pos ho] at h
  split at h
  · simp at h
  · injection h with h
    refine ⟨by rw [← h], rfl, fun p hp _ b hb => ?_, rfl, by simp, .inl rfl, fun p h1 h2 => by omega, by simp⟩
    have hb := hok.blk b hb
    refine ⟨by have := hb.at_; omega, by have := hb.hi; omega, fun hx => by have := hb.lv p hx; omega⟩
end Go.Proofs.Ytchmgilckiadaaa
