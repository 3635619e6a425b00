/- shape.scan in plain words: what holds of its state. -/
import Derived.Test.YtchmgilckiadaaaShp
namespace Go.Proofs.Ytchmgilckiadaaa
/-- A block's places lie ahead of k. -/
structure BlkOk (k : Nat) (b : Blk) : Prop where
  at_ : b.at_ < k
  lo : -1 ≤ b.other
  hi : b.other < k
  lv : ∀ x ∈ b.leaves, x < k
  ln : b.leaves.length ≤ k
theorem BlkOk.mono {k k' : Nat} {b : Blk} (h : BlkOk k b) (hk : k ≤ k') : BlkOk k' b := ⟨by have := h.at_; omega, h.lo, by have := h.hi; omega, fun x hx => by have := h.lv x hx; omega, by have := h.ln; omega⟩
structure StOk (n k : Nat) (st : List Blk × List Int) : Prop where
  len : st.2.length = n
  deep : st.1.length ≤ 8
  blk : ∀ b ∈ st.1, BlkOk k b
theorem foldl_set_len (i : Int) : ∀ (ks : List Nat) (m : List Int), (ks.foldl (fun m k => m.set k i) m).length = m.length
  | [], _ => rfl
  | k :: r, m => by rw [List.foldl_cons, foldl_set_len i r]; simp
theorem getLast_split {α : Type} {l : List α} {b : α} (h : l.getLast? = some b) : l = l.dropLast ++ [b] := by
  rw [List.getLast?_eq_some_iff] at h
  obtain ⟨l0, rfl⟩ := h
  simp
theorem topLoop_lt {c : List Ins} {l : List Blk} {k : Nat} (h : topLoop c l = some k) : k < l.length := by
  have := List.mem_of_find?_eq_some h
  simpa using this
theorem scanStep_ok {c : List Ins} {n k : Nat} {st st' : List Blk × List Int} (h : StOk n k st) (hs : scanStep c k st = some st') : StOk n (k + 1) st' := by
  obtain ⟨l, m⟩ := st
  obtain ⟨hn, hd, hb⟩ := h
  simp only at hn hd hb
  unfold scanStep at hs
  simp only at hs
  split at hs
  · split at hs
    · simp at hs
    · injection hs with hs
      subst hs
      refine ⟨hn, by simp; omega, fun b hb' => ?_⟩
      rcases List.mem_append.1 hb' with h | h
      · exact (hb b h).mono (by omega)
      · simp at h; subst h
        exact ⟨by simp, by simp, by simp; omega, by simp, by simp⟩
  · split at hs
    · split at hs
      · simp at hs
      · rename_i b hl
        split at hs
        · simp at hs
        · injection hs with hs
          subst hs
          have hsp := getLast_split hl
          have hbk := hb b (by rw [hsp]; simp)
          refine ⟨by simpa using hn, by simp; omega, fun b' hb' => ?_⟩
          rcases List.mem_append.1 hb' with h | h
          · exact (hb b' ((List.dropLast_sublist _).subset h)).mono (by omega)
          · simp at h; subst h
            exact ⟨by have := hbk.at_; simp only [Blk.withOther]; omega, by simp only [Blk.withOther]; omega, by simp only [Blk.withOther]; omega, fun x hx => by have := hbk.lv x hx; omega, by have := hbk.ln; simp [Blk.withOther]; omega⟩
    · split at hs
      · split at hs
        · simp at hs
        · rename_i b hl
          injection hs with hs
          subst hs
          refine ⟨by simp only [foldl_set_len]; simpa using hn, by simp; omega, fun b' hb' => (hb b' ((List.dropLast_sublist _).subset hb')).mono (by omega)⟩
      · split at hs
        · split at hs
          · simp at hs
          · rename_i j hj
            injection hs with hs
            subst hs
            have hjl := topLoop_lt hj
            refine ⟨hn, by simpa using hd, fun b' hb' => ?_⟩
            rcases List.mem_or_eq_of_mem_set hb' with h | h
            · exact (hb b' h).mono (by omega)
            · subst h
              have hbk := hb (l.getD j default) (by simp [hjl])
              refine ⟨by have := hbk.at_; simp only [Blk.withLeaf]; omega, hbk.lo, by have := hbk.hi; simp only [Blk.withLeaf]; omega, fun x hx => ?_, by have := hbk.ln; simp [Blk.withLeaf] at this ⊢; omega⟩
              rcases List.mem_append.1 hx with h | h
              · have := hbk.lv x h; omega
              · simp at h; omega
        · injection hs with hs
          subst hs
          exact ⟨hn, hd, fun b hb' => (hb b hb').mono (by omega)⟩
theorem scanTo_ok {c : List Ins} {k : Nat} {st : List Blk × List Int} (h : scanTo c k = some st) : StOk c.length k st := by
  induction k generalizing st with
  | zero =>
    simp only [scanTo, Option.some.injEq] at h
    subst h
    exact ⟨by simp, by simp, by simp⟩
  | succ k ih =>
    simp only [scanTo] at h
    cases h1 : scanTo c k with
    | none => rw [h1] at h; simp at h
    | some st1 =>
      rw [h1] at h
      exact scanStep_ok (ih h1) h
theorem scanTo_none {c : List Ins} {k : Nat} (h : scanTo c k = none) : ∀ d, scanTo c (k + d) = none
  | 0 => h
  | d + 1 => by rw [← Nat.add_assoc, scanTo, scanTo_none h d]; rfl
theorem scanF_none {c : List Ins} {k : Nat} {st : List Blk × List Int} (hk : k < c.length) (h : scanTo c k = some st) (hs : scanStep c k st = none) : scanF c = none := by
  have h1 : scanTo c (k + 1) = none := by rw [scanTo, h]; exact hs
  have h2 := scanTo_none h1 (c.length - (k + 1))
  rw [show k + 1 + (c.length - (k + 1)) = c.length by omega] at h2
  rw [scanF, h2]; rfl
theorem scanTo_succ {c : List Ins} {k : Nat} {st st' : List Blk × List Int} (h : scanTo c k = some st) (hs : scanStep c k st = some st') : scanTo c (k + 1) = some st' := by
  rw [scanTo, h]; exact hs
end Go.Proofs.Ytchmgilckiadaaa
