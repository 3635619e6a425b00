/- A block's span: step by step, and its end. -/
import Derived.Test.YtchmgilckiadaaaSpan
namespace Go.Proofs.Ytchmgilckiadaaa
theorem span_len {c : List Ins} {i d q : Nat} {l0 : List Blk} {b : Blk} {rest : List Blk} (h : Span c i d q l0 b rest) : lenAt c q = d + 1 + rest.length := by
  unfold lenAt
  rw [h.st, List.length_append, h.len, List.length_cons]
  omega
theorem only_next {c : List Ins} {i d q : Nat} {l0 : List Blk} {b : Blk} {rest : List Blk} (h : Span c i d q l0 b rest) (hn : opAt c q ≠ 49 ∨ rest ≠ []) : ∀ p, i < p → p < q + 1 → lenAt c p = d + 1 → opAt c p = 49 → b.other = p := by
  intro p h1 h2 h3 h4
  by_cases e : p = q
  · subst e
    rcases hn with hn | hn
    · exact absurd h4 hn
    · have := span_len h
      cases rest with
      | nil => exact absurd rfl hn
      | cons y r => rw [this] at h3; simp at h3
  · exact h.only p h1 (by omega) h3 h4
theorem oth_next {c : List Ins} {i d q : Nat} {l0 : List Blk} {b : Blk} {rest : List Blk} (h : Span c i d q l0 b rest) (hm : (stAt c (q + 1)).2.getD i 0 = (stAt c q).2.getD i 0) :
    b.other = -1 ∨ (∃ x : Nat, b.other = x ∧ i < x ∧ x < q + 1 ∧ opAt c x = 49 ∧ lenAt c x = d + 1 ∧ (stAt c (q + 1)).2.getD i 0 = x) := by
  rcases h.oth with h1 | ⟨x, h1, h2, h3, h4, h5, h6⟩
  · exact .inl h1
  · exact .inr ⟨x, h1, h2, by omega, h4, h5, by rw [hm]; exact h6⟩
theorem last_of {l0 : List Blk} {b : Blk} {rest : List Blk} : (rest = [] ∧ (l0 ++ b :: rest).getLast? = some b ∧ (l0 ++ b :: rest).dropLast = l0) ∨ ∃ r0 y, rest = r0 ++ [y] ∧ (l0 ++ b :: rest).getLast? = some y ∧ (l0 ++ b :: rest).dropLast = l0 ++ b :: r0 := by
  rcases snoc_cases' rest with rfl | ⟨r0, y, rfl⟩
  · left
    refine ⟨rfl, by simp, by simp⟩
  · right
    refine ⟨r0, y, rfl, ?_, ?_⟩
    · rw [show l0 ++ b :: (r0 ++ [y]) = (l0 ++ b :: r0) ++ [y] by simp, List.getLast?_concat]
    · rw [show l0 ++ b :: (r0 ++ [y]) = (l0 ++ b :: r0) ++ [y] by simp, List.dropLast_concat]
theorem set_split (l0 : List Blk) (b : Blk) (rest : List Blk) (j : Nat) (v : Blk) :
    (j < l0.length ∧ (l0 ++ b :: rest).set j v = l0.set j v ++ b :: rest ∧ (l0 ++ b :: rest).getD j default = l0.getD j default) ∨
    (j = l0.length ∧ (l0 ++ b :: rest).set j v = l0 ++ v :: rest ∧ (l0 ++ b :: rest).getD j default = b) ∨
    (l0.length < j ∧ (l0 ++ b :: rest).set j v = l0 ++ b :: rest.set (j - l0.length - 1) v ∧ (l0 ++ b :: rest).getD j default = rest.getD (j - l0.length - 1) default) := by
  rcases Nat.lt_trichotomy j l0.length with h | h | h
  · left
    refine ⟨h, by rw [List.set_append_left _ _ h], by simp [List.getElem?_append_left h]⟩
  · right; left
    subst h
    refine ⟨rfl, by rw [List.set_append_right _ _ (Nat.le_refl _)]; simp, by simp⟩
  · right; right
    obtain ⟨k, rfl⟩ : ∃ k, j = l0.length + (k + 1) := ⟨j - l0.length - 1, by omega⟩
    refine ⟨h, ?_, ?_⟩
    · rw [List.set_append_right _ _ (by omega)]
      simp only [Nat.add_sub_cancel_left, List.set_cons_succ]
      simp
    · simp only [List.getD_eq_getElem?_getD]
      rw [List.getElem?_append_right (by omega)]
      simp only [Nat.add_sub_cancel_left, List.getElem?_cons_succ]
      simp
theorem span_step {c : List Ins} (hs : (scanF c).isSome = true) {i d q : Nat} {l0 : List Blk} {b : Blk} {rest : List Blk} (sp : Span c i d q l0 b rest) (hiq : i < q) (hq : q < c.length) (hlen : d + 1 ≤ lenAt c (q + 1)) :
    ∃ l0' b' rest', Span c i d (q + 1) l0' b' rest' := by
  have h := stAt_step hs hq
  have hok := stAt_ok hs (Nat.le_of_lt hq)
  have e : stAt c q = (l0 ++ b :: rest, (stAt c q).2) := Prod.ext sp.st rfl
  have hmlen := hok.len
  rw [e] at h
  unfold scanStep at h
  simp only at h
  split at h
  · rename_i hop
    split at h
    · simp at h
    · injection h with h
      have h1 : (stAt c (q + 1)).1 = l0 ++ b :: (rest ++ [⟨q, -1, []⟩]) := by rw [← h]; simp
      have h2 : (stAt c (q + 1)).2 = (stAt c q).2 := by rw [← h]
      refine ⟨l0, b, rest ++ [⟨q, -1, []⟩], h1, sp.len, sp.clean, sp.at_, sp.lv, oth_next sp (by rw [h2]), only_next sp (.inl (by omega)), fun y hy => ?_⟩
      rcases List.mem_append.1 hy with hy | hy
      · exact sp.above y hy
      · simp only [List.mem_singleton] at hy
        subst hy
        exact ⟨hiq, fun h => by simp at h, by simp⟩
  · split at h
    · rename_i hop
      rcases last_of (l0 := l0) (b := b) (rest := rest) with ⟨hr, h3, h4⟩ | ⟨r0, y, hr, h3, h4⟩
      · rw [h3, h4] at h
        simp only at h
        split at h
        · simp at h
        · rename_i hcond
          injection h with h
          have hb0 : b.other = -1 := by
            rcases sp.oth with h5 | ⟨x, h5, _⟩
            · exact h5
            · exact absurd (.inl (by omega)) hcond
          have hl1 : lenAt c q = d + 1 := by rw [span_len sp, hr]; rfl
          have h1 : (stAt c (q + 1)).1 = l0 ++ b.withOther (q : Int) :: [] := by rw [← h]
          have h2 : (stAt c (q + 1)).2.getD i 0 = (q : Int) := by
            rw [← h]
            simp only
            rw [sp.at_]
            exact getD_set_at (by rw [hmlen]; omega)
          refine ⟨l0, b.withOther (q : Int), [], h1, sp.len, sp.clean, sp.at_, sp.lv, .inr ⟨q, rfl, hiq, by omega, hop, hl1, h2⟩, fun p hp1 hp2 hp3 hp4 => ?_, by simp⟩
          by_cases hpq : p = q
          · subst hpq; rfl
          · have := sp.only p hp1 (by omega) hp3 hp4
            omega
      · rw [h3, h4] at h
        simp only at h
        have hy := sp.above y (by rw [hr]; simp)
        split at h
        · simp at h
        · injection h with h
          have h1 : (stAt c (q + 1)).1 = l0 ++ b :: (r0 ++ [y.withOther (q : Int)]) := by rw [← h]; simp
          have h2 : (stAt c (q + 1)).2.getD i 0 = (stAt c q).2.getD i 0 := by rw [← h]; exact getD_set_far (by omega)
          refine ⟨l0, b, r0 ++ [y.withOther (q : Int)], h1, sp.len, sp.clean, sp.at_, sp.lv, oth_next sp h2, only_next sp (.inr (by rw [hr]; simp)), fun y' hy' => ?_⟩
          rcases List.mem_append.1 hy' with hy' | hy'
          · exact sp.above y' (by rw [hr]; simp [hy'])
          · simp only [List.mem_singleton] at hy'
            subst hy'
            exact ⟨hy.1, fun _ => by show (i : Int) < q; omega, hy.2.2⟩
    · split at h
      · rename_i hop
        rcases last_of (l0 := l0) (b := b) (rest := rest) with ⟨hr, h3, h4⟩ | ⟨r0, y, hr, h3, h4⟩
        · rw [h3, h4] at h
          simp only at h
          injection h with h
          have h1 : (stAt c (q + 1)).1 = l0 := by rw [← h]
          have := sp.len
          unfold lenAt at hlen
          rw [h1] at hlen
          omega
        · rw [h3, h4] at h
          simp only at h
          have hy := sp.above y (by rw [hr]; simp)
          injection h with h
          have h1 : (stAt c (q + 1)).1 = l0 ++ b :: r0 := by rw [← h]
          have h2 : (stAt c (q + 1)).2.getD i 0 = (stAt c q).2.getD i 0 := by
            rw [← h]
            simp only
            rw [foldl_set_far _ _ _ _ (fun hx => by have := hy.2.2 i hx; omega), getD_set_far, getD_set_far (by omega)]
            split
            · have := hy.2.1 ‹_›; omega
            · omega
          exact ⟨l0, b, r0, h1, sp.len, sp.clean, sp.at_, sp.lv, oth_next sp h2, only_next sp (.inl (by omega)), fun y' hy' => sp.above y' (by rw [hr]; simp [hy'])⟩
      · split at h
        · rename_i hop
          split at h
          · simp at h
          · rename_i j hj
            injection h with h
            have h2 : (stAt c (q + 1)).2 = (stAt c q).2 := by rw [← h]
            have hjl := topLoop_lt hj
            have hleaf : ∀ {y0 : Blk} {z : Nat}, z ∈ (y0.withLeaf q).leaves → z ∈ y0.leaves ∨ z = q := fun hz => by
              rcases List.mem_append.1 hz with hz | hz
              · exact .inl hz
              · simp only [List.mem_singleton] at hz; exact .inr hz
            have hon := only_next sp (.inl (by omega))
            have hoth := oth_next sp (by rw [h2])
            rcases set_split l0 b rest j (((l0 ++ b :: rest).getD j default).withLeaf q) with ⟨hj1, hj2, hj3⟩ | ⟨hj1, hj2, hj3⟩ | ⟨hj1, hj2, hj3⟩
            · have h1 : (stAt c (q + 1)).1 = l0.set j ((l0.getD j default).withLeaf q) ++ b :: rest := by rw [← h]; show (l0 ++ b :: rest).set j _ = _; rw [hj2, hj3]
              refine ⟨_, b, rest, h1, by simp [sp.len], fun p hp hpo b' hb' => ?_, sp.at_, sp.lv, hoth, hon, sp.above⟩
              rcases List.mem_or_eq_of_mem_set hb' with hb' | hb'
              · exact sp.clean p hp hpo b' hb'
              · subst hb'
                have := sp.clean p hp hpo (l0.getD j default) (getD_in hj1)
                refine ⟨this.1, this.2.1, fun hz => ?_⟩
                rcases hleaf hz with hz | hz
                · exact this.2.2 hz
                · subst hz; exact hpo hop
            · have h1 : (stAt c (q + 1)).1 = l0 ++ b.withLeaf q :: rest := by rw [← h]; show (l0 ++ b :: rest).set j _ = _; rw [hj2, hj3]
              refine ⟨l0, b.withLeaf q, rest, h1, sp.len, sp.clean, sp.at_, fun z hz => ?_, hoth, hon, sp.above⟩
              rcases hleaf hz with hz | hz
              · exact sp.lv z hz
              · subst hz; exact ⟨hiq, hop⟩
            · have hjr : j - l0.length - 1 < rest.length := by simp at hjl; omega
              have h1 : (stAt c (q + 1)).1 = l0 ++ b :: rest.set (j - l0.length - 1) ((rest.getD (j - l0.length - 1) default).withLeaf q) := by rw [← h]; show (l0 ++ b :: rest).set j _ = _; rw [hj2, hj3]
              refine ⟨l0, b, _, h1, sp.len, sp.clean, sp.at_, sp.lv, hoth, hon, fun y hy => ?_⟩
              rcases List.mem_or_eq_of_mem_set hy with hy | hy
              · exact sp.above y hy
              · subst hy
                have := sp.above _ (getD_in (d := default) hjr)
                refine ⟨this.1, this.2.1, fun z hz => ?_⟩
                rcases hleaf hz with hz | hz
                · exact this.2.2 z hz
                · omega
        · injection h with h
          have h1 : (stAt c (q + 1)).1 = l0 ++ b :: rest := by rw [← h]
          have h2 : (stAt c (q + 1)).2 = (stAt c q).2 := by rw [← h]
          exact ⟨l0, b, rest, h1, sp.len, sp.clean, sp.at_, sp.lv, oth_next sp (by rw [h2]), only_next sp (.inl (by omega)), sp.above⟩
end Go.Proofs.Ytchmgilckiadaaa
