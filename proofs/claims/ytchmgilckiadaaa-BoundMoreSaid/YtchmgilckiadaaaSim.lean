/- The pass and shape.scan: the same instructions are of good shape. -/
import Derived.Test.YtchmgilckiadaaaRun4
namespace Go.Proofs.Ytchmgilckiadaaa
theorem snoc_cases' {α : Type} (l : List α) : l = [] ∨ ∃ l0 b, l = l0 ++ [b] := by
  rcases List.eq_nil_or_concat l with h | ⟨l0, b, h⟩
  · exact .inl h
  · exact .inr ⟨l0, b, by rw [h, List.concat_eq_append]⟩
/-- What of a block counts for the shape. -/
def kindB (c : List Ins) (b : Blk) : Int × Bool := (opAt c b.at_, decide (0 ≤ b.other))
def kindL (b : Lvl) : Int × Bool := (b.op, b.els)
/-- The same blocks are open. -/
def Same (c : List Ins) (l : List Blk) (s : List Lvl) : Prop := s.map kindL = (l.map (kindB c)).reverse ++ [(0, false)]
theorem same_len {c : List Ins} {l : List Blk} {s : List Lvl} (h : Same c l s) : s.length = l.length + 1 := by
  have := congrArg List.length h
  simpa using this
theorem same_any {c : List Ins} {l : List Blk} {s : List Lvl} (h : Same c l s) : s.any (fun l => l.op == 51) = l.any (fun b => opAt c b.at_ == 51) := by
  have h1 : s.any (fun l => l.op == 51) = (s.map kindL).any (fun p => p.1 == 51) := by rw [List.any_map]; rfl
  rw [h1, h, List.any_append, List.any_reverse, List.any_map]
  simp
  rfl
theorem topLoop_isSome {c : List Ins} {l : List Blk} : (topLoop c l).isSome = l.any (fun b => opAt c b.at_ == 51) := by
  rw [Bool.eq_iff_iff]
  simp only [topLoop, List.find?_isSome, List.mem_reverse, List.mem_range, List.any_eq_true]
  constructor
  · rintro ⟨k, hk, h⟩
    exact ⟨l.getD k default, getD_in hk, h⟩
  · rintro ⟨b, hb, h⟩
    obtain ⟨k, hk, rfl⟩ := List.mem_iff_getElem.1 hb
    exact ⟨k, hk, by simpa [hk] using h⟩
/-- One step: both go on, with the same blocks; or neither does. -/
theorem sim_step {ks : List Int} {c : List Ins} {k : Nat} {l : List Blk} {m : List Int} {s : List Lvl} (h : Same c l s) :
    match scanStep c k (l, m), stepL ks s (c.getD k (0, 0)) with
    | some st, some r => Same c st.1 r
    | none, none => True
    | _, _ => False := by
  have hlen := same_len h
  have hany := same_any h
  have hop : (c.getD k (0, 0)).1 = opAt c k := rfl
  match s, h, hlen, hany with
  | b :: t, h, hlen, hany =>
    simp only [List.length_cons, Nat.add_right_cancel_iff] at hlen
    unfold scanStep stepL
    simp only [hop]
    by_cases c1 : opAt c k = 48 ∨ opAt c k = 51
    · rw [if_pos c1, if_pos c1, hlen]
      by_cases c2 : 8 < l.length + 1
      · rw [if_pos c2, if_pos c2]; trivial
      · rw [if_neg c2, if_neg c2]
        simp only [Same] at h ⊢
        rw [List.map_cons, h]
        simp [kindL, kindB]
    · rw [if_neg c1, if_neg c1]
      by_cases c2 : opAt c k = 49
      · rw [if_pos c2, if_pos c2]
        rcases snoc_cases' l with rfl | ⟨l0, b0, rfl⟩
        · have hb : kindL b = (0, false) := by
            simp only [Same, List.map_cons, List.map_nil, List.reverse_nil, List.nil_append, List.cons.injEq] at h
            exact h.1
          simp only [kindL, Prod.mk.injEq] at hb
          rw [if_pos (.inr (by rw [hb.1]; decide))]
          simp
        · simp only [Same, List.map_cons, List.map_append, List.map_nil, List.reverse_append, List.reverse_cons, List.reverse_nil, List.nil_append, List.cons_append, List.cons.injEq] at h
          obtain ⟨h1, h2⟩ := h
          simp only [kindL, kindB, Prod.mk.injEq] at h1
          simp only [List.getLast?_append, List.getLast?_singleton, Option.some_or]
          by_cases c3 : 0 ≤ b0.other ∨ opAt c b0.at_ ≠ 48
          · rw [if_pos c3, if_pos (by rw [h1.1, h1.2]; simpa using c3)]; trivial
          · rw [if_neg c3, if_neg (by rw [h1.1, h1.2]; simpa using c3)]
            simp only [Same, List.map_cons, h2, List.dropLast_concat, List.map_append, List.map_nil, List.reverse_append, List.reverse_cons, List.reverse_nil, List.nil_append, List.cons_append, List.cons.injEq, and_true]
            simp [kindL, kindB, Blk.withOther, h1.1]
      · rw [if_neg c2, if_neg c2]
        by_cases c3 : opAt c k = 50
        · rw [if_pos c3, if_pos c3]
          rcases snoc_cases' l with rfl | ⟨l0, b0, rfl⟩
          · have : t = [] := by cases t with
              | nil => rfl
              | cons _ _ => simp at hlen
            subst this
            simp
          · match t, hlen, h with
            | p :: t', _, h =>
              simp only [Same, List.map_cons, List.map_append, List.map_nil, List.reverse_append, List.reverse_cons, List.reverse_nil, List.nil_append, List.cons_append, List.cons.injEq] at h
              simp only [List.getLast?_append, List.getLast?_singleton, Option.some_or, List.dropLast_concat]
              simp only [Same, List.map_cons]
              exact h.2
            | [], hlen, _ => simp at hlen
        · rw [if_neg c3, if_neg c3]
          by_cases c4 : opAt c k = 52
          · rw [if_pos c4, if_pos c4, hany, ← topLoop_isSome]
            cases ht : topLoop c l with
            | none => simp
            | some j =>
              have hj := topLoop_lt ht
              simp only [Option.isSome_some, if_true]
              simp only [Same, List.map_cons] at h ⊢
              have e1 : kindL (b.plus (costF 52)) = kindL b := rfl
              rw [e1, h]
              congr 2
              rw [List.map_set]
              have : kindB c ((l.getD j default).withLeaf k) = (l.map (kindB c))[j]'(by simpa using hj) := by simp [kindB, Blk.withLeaf, hj]
              rw [this, List.set_getElem_self]
          · rw [if_neg c4, if_neg c4]
            by_cases c5 : opAt c k = 53
            · rw [if_pos c5]; exact h
            · rw [if_neg c5]; exact h
  | [], h, hlen, _ => simp at hlen
theorem take_snocI (c : List Ins) {k : Nat} (h : k < c.length) : c.take (k + 1) = c.take k ++ [c.getD k (0, 0)] := by
  rw [List.take_succ_eq_append_getElem h]
  simp [h]
theorem run_take {ks : List Int} {s : List Lvl} (c : List Ins) {k : Nat} (h : k < c.length) : runL ks s (c.take (k + 1)) = (runL ks s (c.take k)).bind fun r => stepL ks r (c.getD k (0, 0)) := by
  rw [take_snocI c h, runL_append]
  cases runL ks s (c.take k) with
  | none => rfl
  | some r =>
    simp only [Option.bind_some, runL_cons, runL_nil]
    cases stepL ks r (c.getD k (0, 0)) <;> rfl
/-- So many steps. -/
theorem sim_to {ks : List Int} {c : List Ins} : ∀ {k : Nat}, k ≤ c.length → (match scanTo c k, runL ks [baseL] (c.take k) with
    | some st, some r => Same c st.1 r
    | none, none => True
    | _, _ => False)
  | 0, _ => rfl
  | k + 1, hk => by
    have ih := sim_to (ks := ks) (c := c) (k := k) (by omega)
    rw [run_take c (by omega), scanTo]
    match h1 : scanTo c k, h2 : runL ks [baseL] (c.take k), ih with
    | some (l, m), some r, ih => exact sim_step ih
    | none, none, _ => trivial
theorem scan_bound {ks : List Int} {c : List Ins} : (scanF c).isSome = (boundV ks c).isSome := by
  have h := sim_to (ks := ks) (c := c) (k := c.length) (Nat.le_refl _)
  rw [List.take_length] at h
  unfold scanF boundV
  match h1 : scanTo c c.length, h2 : runL ks [baseL] c, h with
  | some (l, m), some r, h =>
    have hl := same_len h
    simp only at hl
    simp only [Option.bind_some]
    match l, r, hl with
    | [], [b], _ => rfl
    | b :: l', b1 :: b2 :: r', _ => rfl
  | none, none, _ => rfl
end Go.Proofs.Ytchmgilckiadaaa
