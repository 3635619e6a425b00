/- The document's shape and shape.scan: the same instructions are of good shape. -/
import Derived.Test.YtchmgilckiadaaaRefs
namespace Go.Proofs.Ytchmgilckiadaaa
def isOB (c : List Ins) (i : Nat) : Bool := opAt c i == 48 || opAt c i == 51
theorem isOB_iff {c : List Ins} {i : Nat} : isOB c i = true ↔ isO c i := by simp [isOB, isO]
/-- The blocks that are open at k, the outermost first. -/
def openD (c : List Ins) (k : Nat) : List Nat := (List.range k).filter fun i => isOB c i && decide (k ≤ endOf c i)
theorem mem_openD {c : List Ins} {i k : Nat} : i ∈ openD c k ↔ i < k ∧ isO c i ∧ k ≤ endOf c i := by
  simp only [openD, List.mem_filter, List.mem_range, Bool.and_eq_true, isOB_iff, decide_eq_true_eq]
theorem openD_sorted (c : List Ins) (k : Nat) : (openD c k).Pairwise (· < ·) := List.Pairwise.filter _ List.pairwise_lt_range
theorem openD_next {c : List Ins} {k : Nat} (hA : AllEnd c) (hk : k < c.length) (h50 : opAt c k ≠ 50) : openD c (k + 1) = openD c k ++ (if isOB c k = true then [k] else []) := by
  unfold openD
  rw [List.range_succ, List.filter_append]
  congr 1
  · apply List.filter_congr
    intro i hi
    have hi := List.mem_range.1 hi
    by_cases ho : isO c i
    · have sh := hA.shut (by omega) ho
      have hne : endOf c i ≠ k := fun e => h50 (by rw [← e]; exact sh.op)
      congr 1
      rw [decide_eq_decide]
      omega
    · have h1 : isOB c i = false := by
        cases h : isOB c i with
        | false => rfl
        | true => exact absurd (isOB_iff.1 h) ho
      simp [h1]
  · by_cases ho : isOB c k = true
    · have sh := hA.shut hk (isOB_iff.1 ho)
      have := sh.gt
      simp [ho]
      omega
    · simp [ho]
theorem openD_end {c : List Ins} {k i : Nat} {L : List Nat} (h50 : opAt c k = 50) (h : openD c k = L ++ [i]) (he : endOf c i = k) (hn : ∀ j ∈ L, endOf c j ≠ k) : openD c (k + 1) = L := by
  have h1 : openD c (k + 1) = (openD c k).filter fun j => decide (k + 1 ≤ endOf c j) := by
    unfold openD
    have hk : isOB c k = false := by simp [isOB, h50]
    rw [List.range_succ, List.filter_append, List.filter_filter]
    simp only [List.filter_cons, List.filter_nil, hk, Bool.false_and, Bool.false_eq_true, if_false, List.append_nil]
    apply List.filter_congr
    intro j _
    cases isOB c j with
    | false => simp
    | true =>
      simp only [Bool.true_and]
      by_cases e : k + 1 ≤ endOf c j
      · simp [e]; omega
      · simp [e]
  rw [h1, h, List.filter_append, List.filter_eq_self.2 (fun j hj => ?_)]
  · simp [he]
  · have h2 : j ∈ openD c k := by rw [h]; simp [hj]
    have := (mem_openD.1 h2).2.2
    have := hn j hj
    simp only [decide_eq_true_eq]
    omega
structure Jst (c : List Ins) (k : Nat) (l : List Blk) : Prop where
  ats : l.map Blk.at_ = openD c k
  len : dep c k = (openD c k).length
  lev : ∀ j, j < (openD c k).length → dep c ((openD c k).getD j 0) = j
  oth : ∀ b ∈ l, b.other = if othOf c b.at_ < (k : Int) then othOf c b.at_ else -1
/-- May the instruction at k be? -/
def Fine (c : List Ins) (k : Nat) : Prop := (isO c k → (openD c k).length + 1 ≤ 8) ∧ (opAt c k = 49 ∨ opAt c k = 50 → openD c k ≠ []) ∧ (opAt c k = 52 → ∃ i ∈ openD c k, opAt c i = 51)
theorem oth_far {c : List Ins} {k i : Nat} (sh : Shut c i) (h : othOf c i ≠ (k : Int)) : (if othOf c i < ((k + 1 : Nat) : Int) then othOf c i else -1) = if othOf c i < (k : Int) then othOf c i else -1 := by
  rcases sh.oth with h1 | ⟨x, h1, _⟩
  · rw [if_pos (by omega), if_pos (by omega)]
  · by_cases e : othOf c i < (k : Int)
    · rw [if_pos e, if_pos (by omega)]
    · rw [if_neg e, if_neg (by omega)]
theorem oth_op {c : List Ins} {k i : Nat} (sh : Shut c i) (h : opAt c k ≠ 49) : othOf c i ≠ (k : Int) := fun e => by
  rcases sh.oth with h1 | ⟨x, h1, _, _, h2, _⟩
  · omega
  · have : x = k := by omega
    subst this
    exact h h2
structure TopOf (c : List Ins) (k i : Nat) (L : List Nat) : Prop where
  lt : i < k
  o : isO c i
  le : k ≤ endOf c i
  lev : dep c k = dep c i + 1
  out : ∀ j ∈ L, isO c j ∧ j < k ∧ k ≤ endOf c j ∧ dep c j + 2 ≤ dep c k
theorem top_of {c : List Ins} {k i : Nat} {L : List Nat} (hA : AllEnd c) (hk : k < c.length) (h : openD c k = L ++ [i]) (hlen : dep c k = (openD c k).length) (hlev : ∀ j, j < (openD c k).length → dep c ((openD c k).getD j 0) = j) : TopOf c k i L := by
  obtain ⟨h1, h2, h3⟩ := mem_openD.1 (show i ∈ openD c k by rw [h]; simp)
  have h4 := hlev L.length (by rw [h]; simp)
  rw [h] at hlen h4
  simp at hlen h4
  refine ⟨h1, h2, h3, by omega, fun j hj => ?_⟩
  obtain ⟨g1, g2, g3⟩ := mem_openD.1 (show j ∈ openD c k by rw [h]; simp [hj])
  have hs := openD_sorted c k
  rw [h] at hs
  have hji := (List.pairwise_append.1 hs).2.2 j hj i (by simp)
  have sh := hA.shut (by omega) g2
  have := sh.ways.up i hji (by omega)
  exact ⟨g2, g1, g3, by omega⟩
theorem map_leaf {l : List Blk} {j k : Nat} : (l.set j ((l.getD j default).withLeaf k)).map Blk.at_ = l.map Blk.at_ := by
  apply List.ext_getElem
  · simp
  · intro n h1 h2
    simp only [List.getElem_map, List.getElem_set]
    split
    · rename_i e
      subst e
      simp only [List.length_map] at h2
      simp [Blk.withLeaf, h2]
    · rfl
theorem jst_step {c : List Ins} {k : Nat} {l : List Blk} (m : List Int) (hA : AllEnd c) (hk : k < c.length) (hJ : Jst c k l) :
    (∃ st', scanStep c k (l, m) = some st' ∧ Jst c (k + 1) st'.1 ∧ Fine c k) ∨ (scanStep c k (l, m) = none ∧ ¬Fine c k) := by
  have hdep : dep c (k + 1) = dep c k + (if opAt c k = 48 ∨ opAt c k = 51 then 1 else if opAt c k = 50 then -1 else 0) := rfl
  have hll : l.length = (openD c k).length := by rw [← hJ.ats]; simp
  have hin : ∀ b ∈ l, Shut c b.at_ := fun b hb => by
    have := mem_openD.1 (show b.at_ ∈ openD c k by rw [← hJ.ats]; exact List.mem_map_of_mem hb)
    exact hA.shut (by omega) this.2.1
  unfold scanStep
  simp only
  by_cases c1 : opAt c k = 48 ∨ opAt c k = 51
  · rw [if_pos c1]
    rw [if_pos c1] at hdep
    by_cases h8 : 8 < l.length + 1
    · right
      rw [if_pos h8]
      exact ⟨rfl, fun h => by have := h.1 c1; omega⟩
    · left
      rw [if_neg h8]
      have hnx := openD_next hA hk (by omega)
      rw [if_pos (isOB_iff.2 c1)] at hnx
      refine ⟨_, rfl, ⟨?_, ?_, fun j hj => ?_, fun b hb => ?_⟩, fun _ => by omega, fun h => by omega, fun h => by omega⟩
      · rw [hnx, ← hJ.ats]; simp
      · rw [hnx, hdep, hJ.len]; simp
      · rw [hnx] at hj ⊢
        simp only [List.length_append, List.length_cons, List.length_nil] at hj
        by_cases e : j < (openD c k).length
        · have := hJ.lev j e
          simp only [List.getD_eq_getElem?_getD] at this ⊢
          rw [List.getElem?_append_left e]
          exact this
        · have e : j = (openD c k).length := by omega
          subst e
          simp [hJ.len]
      · rcases List.mem_append.1 hb with h | h
        · rw [oth_far (hin b h) (oth_op (hin b h) (by omega))]
          exact hJ.oth b h
        · simp only [List.mem_singleton] at h
          subst h
          have sh := hA.shut hk c1
          simp only
          rcases sh.oth with h1 | ⟨x, h1, h2, _⟩
          · rw [if_pos (by omega), h1]
          · rw [if_neg (by omega)]
  · rw [if_neg c1]
    rw [if_neg c1] at hdep
    have hnb : isOB c k ≠ true := fun h => c1 (isOB_iff.1 h)
    by_cases c2 : opAt c k = 49
    · rw [if_pos c2]
      rw [if_neg (by omega)] at hdep
      rcases snoc_cases' l with rfl | ⟨l0, b, rfl⟩
      · right
        refine ⟨rfl, fun h => h.2.1 (.inl c2) ?_⟩
        rw [← hJ.ats]; rfl
      · left
        have hsp : openD c k = l0.map Blk.at_ ++ [b.at_] := by rw [← hJ.ats]; simp
        have tp := top_of hA hk hsp hJ.len hJ.lev
        have sh := hin b (by simp)
        have hke : k ≠ endOf c b.at_ := fun e => by have := sh.op; rw [← e] at this; omega
        have hke2 := tp.le
        have hok : othOf c b.at_ = (k : Int) ∧ opAt c b.at_ = 48 := by
          rcases sh.ways.oth with ⟨_, h2⟩ | ⟨x, h1, h2, h3, h4, h5, h6, h7⟩
          · exact absurd c2 (h2 k tp.lt (by omega) tp.lev)
          · by_cases e : k = x
            · subst e; exact ⟨h1, h6⟩
            · exact absurd c2 (h7 k tp.lt (by omega) e tp.lev)
        have hbo := hJ.oth b (by simp)
        rw [if_neg (by omega)] at hbo
        simp only [List.getLast?_append, List.getLast?_singleton, Option.some_or, List.dropLast_concat]
        rw [if_neg (by rw [hok.2]; omega)]
        have hnx := openD_next hA hk (by omega)
        rw [if_neg hnb, List.append_nil] at hnx
        refine ⟨_, rfl, ⟨?_, ?_, ?_, fun b' hb => ?_⟩, fun h => absurd h c1, fun _ h => ?_, fun h => by omega⟩
        · rw [hnx, hsp]; simp [Blk.withOther]
        · rw [hnx, hdep, hJ.len]; omega
        · rw [hnx]; exact hJ.lev
        · rcases List.mem_append.1 hb with h | h
          · have sh' := hin b' (by simp [h])
            have ho := tp.out b'.at_ (List.mem_map_of_mem h)
            rw [oth_far sh' (fun e => ?_)]
            · exact hJ.oth b' (by simp [h])
            · rcases sh'.oth with h1 | ⟨x, h1, h2, h3, h4, h5, _⟩
              · omega
              · have : x = k := by omega
                subst this
                omega
          · simp only [List.mem_singleton] at h
            subst h
            show (k : Int) = if othOf c b.at_ < ((k + 1 : Nat) : Int) then othOf c b.at_ else -1
            rw [hok.1, if_pos (by omega)]
        · rw [hsp] at h; simp at h
    · rw [if_neg c2]
      by_cases c3 : opAt c k = 50
      · rw [if_pos c3]
        rw [if_pos c3] at hdep
        rcases snoc_cases' l with rfl | ⟨l0, b, rfl⟩
        · right
          refine ⟨rfl, fun h => h.2.1 (.inr c3) ?_⟩
          rw [← hJ.ats]; rfl
        · left
          have hsp : openD c k = l0.map Blk.at_ ++ [b.at_] := by rw [← hJ.ats]; simp
          have tp := top_of hA hk hsp hJ.len hJ.lev
          have sh := hin b (by simp)
          have htl := tp.lev
          have hke : endOf c b.at_ = k := by
            have h1 := tp.le
            by_cases e : endOf c b.at_ = k
            · exact e
            · have := sh.ways.up (k + 1) (by have := tp.lt; omega) (by omega)
              omega
          have hnx := openD_end c3 hsp hke (fun j hj e => by
            have ho := tp.out j hj
            have sh' := hA.shut (by omega) ho.1
            have := sh'.lev
            rw [e] at this
            omega)
          simp only [List.getLast?_append, List.getLast?_singleton, Option.some_or, List.dropLast_concat]
          refine ⟨_, rfl, ⟨?_, ?_, fun j hj => ?_, fun b' hb => ?_⟩, fun h => absurd h c1, fun _ h => ?_, fun h => by omega⟩
          · rw [hnx]
          · have := hJ.len
            rw [hsp] at this
            simp only [List.length_append, List.length_cons, List.length_nil] at this
            rw [hnx, hdep]
            omega
          · rw [hnx] at hj ⊢
            have := hJ.lev j (by rw [hsp]; simp only [List.length_append, List.length_cons, List.length_nil]; omega)
            rw [hsp] at this
            simp only [List.getD_eq_getElem?_getD] at this ⊢
            rw [List.getElem?_append_left hj] at this
            exact this
          · have sh' := hin b' (by simp [show b' ∈ l0 from hb])
            rw [oth_far sh' (oth_op sh' (by omega))]
            exact hJ.oth b' (by simp [show b' ∈ l0 from hb])
          · rw [hsp] at h; simp at h
      · rw [if_neg c3]
        rw [if_neg c3] at hdep
        have hnx := openD_next hA hk c3
        rw [if_neg hnb, List.append_nil] at hnx
        have hoth : ∀ b ∈ l, b.other = if othOf c b.at_ < ((k + 1 : Nat) : Int) then othOf c b.at_ else -1 := fun b hb => by
          rw [oth_far (hin b hb) (oth_op (hin b hb) c2)]
          exact hJ.oth b hb
        by_cases c4 : opAt c k = 52
        · rw [if_pos c4]
          have hts := topLoop_isSome (c := c) (l := l)
          cases hj : topLoop c l with
          | none =>
            right
            refine ⟨rfl, fun h => ?_⟩
            obtain ⟨i, hi1, hi2⟩ := h.2.2 c4
            rw [← hJ.ats] at hi1
            obtain ⟨b, hb1, hb2⟩ := List.mem_map.1 hi1
            rw [hj] at hts
            have h2 : l.any (fun b => opAt c b.at_ == 51) = true := List.any_eq_true.2 ⟨b, hb1, by rw [hb2, hi2]; rfl⟩
            rw [h2] at hts
            simp at hts
          | some j =>
            left
            simp only
            rw [hj] at hts
            obtain ⟨b, hb1, hb2⟩ := List.any_eq_true.1 (hts.symm.trans rfl |>.trans rfl : l.any (fun b => opAt c b.at_ == 51) = true)
            refine ⟨_, rfl, ⟨?_, ?_, ?_, fun b' hb => ?_⟩, fun h => absurd h c1, fun h => by omega, fun _ => ⟨b.at_, ?_, by simpa using hb2⟩⟩
            · rw [hnx, ← hJ.ats]; exact map_leaf
            · rw [hnx, hdep, hJ.len]; omega
            · rw [hnx]; exact hJ.lev
            · rcases List.mem_or_eq_of_mem_set hb with h | h
              · exact hoth b' h
              · subst h
                exact hoth (l.getD j default) (getD_in (topLoop_lt hj))
            · rw [← hJ.ats]; exact List.mem_map_of_mem hb1
        · rw [if_neg c4]
          left
          refine ⟨_, rfl, ⟨?_, ?_, ?_, hoth⟩, fun h => absurd h c1, fun h => by omega, fun h => absurd h c4⟩
          · rw [hnx]; exact hJ.ats
          · rw [hnx, hdep, hJ.len]; omega
          · rw [hnx]; exact hJ.lev
theorem jst_zero (c : List Ins) : Jst c 0 [] := ⟨rfl, rfl, fun j hj => by simp [openD] at hj, by simp⟩
theorem openD_last {c : List Ins} (hA : AllEnd c) : openD c c.length = [] := by
  apply List.eq_nil_iff_forall_not_mem.2
  intro i hi
  obtain ⟨h1, h2, h3⟩ := mem_openD.1 hi
  have := (hA.shut h1 h2).lt
  omega
theorem good_jst {c : List Ins} (hs : (scanF c).isSome = true) : ∀ k, k ≤ c.length → Jst c k (stAt c k).1 := by
  have hA := good_end hs
  intro k
  induction k with
  | zero => intro _; exact jst_zero c
  | succ k ih =>
    intro hk
    have h1 := ih (by omega)
    have h2 := stAt_step hs (k := k) (by omega)
    rcases jst_step (stAt c k).2 hA (by omega) h1 with ⟨st', h3, h4, _⟩ | ⟨h3, _⟩
    · rw [show ((stAt c k).1, (stAt c k).2) = stAt c k from rfl, h2] at h3
      injection h3 with h3
      rw [h3]; exact h4
    · rw [show ((stAt c k).1, (stAt c k).2) = stAt c k from rfl, h2] at h3
      simp at h3
theorem good_iff {c : List Ins} : (scanF c).isSome = true ↔ AllEnd c ∧ ∀ k, k < c.length → Fine c k := by
  constructor
  · intro hs
    have hA := good_end hs
    have hJ := good_jst hs
    refine ⟨hA, fun k hk => ?_⟩
    have h2 := stAt_step hs hk
    rcases jst_step (stAt c k).2 hA hk (hJ k (by omega)) with ⟨_, _, _, h⟩ | ⟨h3, _⟩
    · exact h
    · rw [show ((stAt c k).1, (stAt c k).2) = stAt c k from rfl, h2] at h3
      simp at h3
  · rintro ⟨hA, hF⟩
    have h : ∀ k, k ≤ c.length → ∃ st, scanTo c k = some st ∧ Jst c k st.1 := by
      intro k
      induction k with
      | zero => intro _; exact ⟨_, rfl, jst_zero c⟩
      | succ k ih =>
        intro hk
        obtain ⟨⟨l, m⟩, h1, h2⟩ := ih (by omega)
        rcases jst_step m hA (by omega) h2 with ⟨st', h3, h4, _⟩ | ⟨_, h4⟩
        · exact ⟨st', scanTo_succ h1 h3, h4⟩
        · exact absurd (hF k (by omega)) h4
    obtain ⟨st, h1, h2⟩ := h c.length (Nat.le_refl _)
    have h3 := h2.ats
    rw [openD_last hA] at h3
    have h4 : st.1 = [] := List.map_eq_nil_iff.1 h3
    rw [scanF, h1, Option.bind_some, if_pos h4]
    rfl
theorem good_deep {c : List Ins} (hs : (scanF c).isSome = true) {k : Nat} (hk : k ≤ c.length) : (openD c k).length ≤ 8 := by
  rw [← (good_jst hs k hk).ats, List.length_map]
  exact (stAt_ok hs hk).deep
theorem top_else {c : List Ins} {k i : Nat} {L : List Nat} (sh : Shut c i) (tp : TopOf c k i L) (h : opAt c k = 49) : othOf c i = (k : Int) := by
  have hke : k ≠ endOf c i := fun e => by have := sh.op; rw [← e] at this; omega
  have hke2 := tp.le
  rcases sh.ways.oth with ⟨_, h2⟩ | ⟨x, h1, h2, h3, h4, h5, h6, h7⟩
  · exact absurd h (h2 k tp.lt (by omega) tp.lev)
  · by_cases e : k = x
    · subst e; exact h1
    · exact absurd h (h7 k tp.lt (by omega) e tp.lev)
theorem top_end {c : List Ins} {k i : Nat} {L : List Nat} (sh : Shut c i) (tp : TopOf c k i L) (h : opAt c k = 50) : endOf c i = k := by
  have hdep : dep c (k + 1) = dep c k + (if opAt c k = 48 ∨ opAt c k = 51 then 1 else if opAt c k = 50 then -1 else 0) := rfl
  rw [if_neg (by omega), if_pos h] at hdep
  have htl := tp.lev
  have h1 := tp.le
  by_cases e : endOf c i = k
  · exact e
  · have := sh.ways.up (k + 1) (by have := tp.lt; omega) (by omega)
    omega
end Go.Proofs.Ytchmgilckiadaaa
