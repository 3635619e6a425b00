/- The document's shape (ref06.closes) in plain words: where a block closes. -/
import Derived.Test.YtchmgilckiadaaaSpan3
namespace Go.Proofs.Ytchmgilckiadaaa
/-- How many blocks are open ahead of a place. -/
def dep (c : List Ins) : Nat → Int
  | 0 => 0
  | q + 1 => dep c q + (if opAt c q = 48 ∨ opAt c q = 51 then 1 else if opAt c q = 50 then -1 else 0)
/-- The loop of 'closes', from a place on. -/
def cloF (f : Bool) : List Ins → Nat → Int → Int → Int × Int
  | [], _, _, o => (o, -1)
  | x :: r, p, d, o =>
    if x.1 = 48 ∨ x.1 = 51 then cloF f r (p + 1) (d + 1) o
    else if x.1 = 49 then (if d = 0 ∧ (0 ≤ o ∨ f = false) then (-1, -1) else if d = 0 then cloF f r (p + 1) d (p : Int) else cloF f r (p + 1) d o)
    else if x.1 = 50 then (if d = 0 then (o, (p : Int)) else cloF f r (p + 1) (d - 1) o)
    else cloF f r (p + 1) d o
def cloAt (c : List Ins) (i : Nat) : Int × Int := cloF (decide (opAt c i = 48)) (c.drop (i + 1)) (i + 1) 0 (-1)
theorem drop_cons' {c : List Ins} {p : Nat} {x : Ins} {r : List Ins} (h : x :: r = c.drop p) : p < c.length ∧ opAt c p = x.1 ∧ r = c.drop (p + 1) := by
  have h1 := congrArg List.length h
  simp only [List.length_cons, List.length_drop] at h1
  have hp : p < c.length := by omega
  rw [List.drop_eq_getElem_cons hp] at h
  injection h with h2 h3
  refine ⟨hp, ?_, h3⟩
  unfold opAt
  simp [hp, h2]
/-- Up to p the block that i opened is open; o: its else, or -1. -/
structure Ways (c : List Ins) (i p : Nat) (o : Int) : Prop where
  up : ∀ q, i < q → q ≤ p → dep c i + 1 ≤ dep c q
  oth : (o = -1 ∧ ∀ q, i < q → q < p → dep c q = dep c i + 1 → opAt c q ≠ 49) ∨
    ∃ x : Nat, o = x ∧ i < x ∧ x < p ∧ opAt c x = 49 ∧ dep c x = dep c i + 1 ∧ opAt c i = 48 ∧ ∀ q, i < q → q < p → q ≠ x → dep c q = dep c i + 1 → opAt c q ≠ 49
theorem Ways.next {c : List Ins} {i p : Nat} {o : Int} (h : Ways c i p o) (h1 : opAt c p ≠ 49 ∨ dep c p ≠ dep c i + 1) (h2 : dep c i + 1 ≤ dep c (p + 1)) : Ways c i (p + 1) o := by
  refine ⟨fun q hq1 hq2 => ?_, ?_⟩
  · by_cases e : q = p + 1
    · subst e; exact h2
    · exact h.up q hq1 (by omega)
  · rcases h.oth with ⟨ho, hn⟩ | ⟨x, ho, a1, a2, a3, a4, a5, a6⟩
    · refine .inl ⟨ho, fun q q1 q2 q3 => ?_⟩
      by_cases e : q = p
      · subst e
        rcases h1 with h1 | h1
        · exact h1
        · exact absurd q3 h1
      · exact hn q q1 (by omega) q3
    · refine .inr ⟨x, ho, a1, by omega, a3, a4, a5, fun q q1 q2 q3 q4 => ?_⟩
      by_cases e : q = p
      · subst e
        rcases h1 with h1 | h1
        · exact h1
        · exact absurd q4 h1
      · exact a6 q q1 (by omega) q3 q4
/-- What 'closes' tells: an end; or none. -/
def CloOut (c : List Ins) (i : Nat) (t : Int × Int) : Prop :=
  (∃ e : Nat, t.2 = e ∧ i < e ∧ e < c.length ∧ opAt c e = 50 ∧ dep c e = dep c i + 1 ∧ Ways c i e t.1) ∨
  (t.2 = -1 ∧ ((∀ q, i < q → q ≤ c.length → dep c i + 1 ≤ dep c q) ∨
    ∃ x, i < x ∧ x < c.length ∧ opAt c x = 49 ∧ dep c x = dep c i + 1 ∧ (opAt c i ≠ 48 ∨ ∃ y, i < y ∧ y < x ∧ opAt c y = 49 ∧ dep c y = dep c i + 1) ∧ ∀ q, i < q → q ≤ x → dep c i + 1 ≤ dep c q))
theorem clo_run {c : List Ins} {i : Nat} : ∀ (r : List Ins) (p : Nat) (d o : Int), r = c.drop p → i < p → d = dep c p - dep c i - 1 → Ways c i p o → CloOut c i (cloF (decide (opAt c i = 48)) r p d o)
  | [], p, d, o, hr, hip, hd, hw => by
    have hp : c.length ≤ p := by
      have := congrArg List.length hr
      simp only [List.length_nil, List.length_drop] at this
      omega
    exact .inr ⟨rfl, .inl fun q h1 h2 => hw.up q h1 (by omega)⟩
  | x :: r, p, d, o, hr, hip, hd, hw => by
    obtain ⟨hp, hop, hr'⟩ := drop_cons' hr
    have hdp : dep c (p + 1) = dep c p + (if opAt c p = 48 ∨ opAt c p = 51 then 1 else if opAt c p = 50 then -1 else 0) := rfl
    have hu := hw.up p hip (Nat.le_refl _)
    simp only [cloF]
    rw [← hop]
    by_cases c1 : opAt c p = 48 ∨ opAt c p = 51
    · rw [if_pos c1]
      rw [if_pos c1] at hdp
      exact clo_run r (p + 1) (d + 1) o hr' (by omega) (by omega) (hw.next (.inl (by omega)) (by omega))
    · rw [if_neg c1]
      rw [if_neg c1] at hdp
      by_cases c2 : opAt c p = 49
      · rw [if_pos c2]
        rw [if_neg (by omega)] at hdp
        by_cases c3 : d = 0
        · by_cases c4 : 0 ≤ o ∨ decide (opAt c i = 48) = false
          · rw [if_pos ⟨c3, c4⟩]
            refine .inr ⟨rfl, .inr ⟨p, hip, hp, c2, by omega, ?_, hw.up⟩⟩
            rcases c4 with c4 | c4
            · rcases hw.oth with ⟨h1, _⟩ | ⟨y, h1, h2, h3, h4, h5, _⟩
              · omega
              · exact .inr ⟨y, h2, h3, h4, h5⟩
            · exact .inl (by simpa using c4)
          · rw [if_neg (fun h => c4 h.2), if_pos c3]
            refine clo_run r (p + 1) d p hr' (by omega) (by omega) ⟨fun q q1 q2 => ?_, .inr ⟨p, rfl, hip, by omega, c2, by omega, ?_, fun q q1 q2 q3 q4 => ?_⟩⟩
            · by_cases e : q = p + 1
              · subst e; omega
              · exact hw.up q q1 (by omega)
            · exact Classical.byContradiction fun h => c4 (.inr (by simpa using h))
            · rcases hw.oth with ⟨_, h2⟩ | ⟨y, h1, _⟩
              · exact h2 q q1 (by omega) q4
              · exact absurd (.inl (by omega)) c4
        · rw [if_neg (fun h => c3 h.1), if_neg c3]
          exact clo_run r (p + 1) d o hr' (by omega) (by omega) (hw.next (.inr (by omega)) (by omega))
      · rw [if_neg c2]
        by_cases c3 : opAt c p = 50
        · rw [if_pos c3]
          rw [if_pos c3] at hdp
          by_cases c4 : d = 0
          · rw [if_pos c4]
            exact .inl ⟨p, rfl, hip, hp, c3, by omega, hw⟩
          · rw [if_neg c4]
            exact clo_run r (p + 1) (d - 1) o hr' (by omega) (by omega) (hw.next (.inl c2) (by omega))
        · rw [if_neg c3]
          rw [if_neg c3] at hdp
          exact clo_run r (p + 1) d o hr' (by omega) (by omega) (hw.next (.inl c2) (by omega))
/-- A block opens here. -/
def isO (c : List Ins) (i : Nat) : Prop := opAt c i = 48 ∨ opAt c i = 51
theorem clo_out {c : List Ins} {i : Nat} (hi : isO c i) : CloOut c i (cloAt c i) := by
  have h : dep c (i + 1) = dep c i + 1 := by
    show dep c i + _ = _
    rw [if_pos (show opAt c i = 48 ∨ opAt c i = 51 from hi)]
  refine clo_run _ (i + 1) 0 (-1) rfl (by omega) (by omega) ⟨fun q h1 h2 => ?_, .inl ⟨rfl, fun q h1 h2 => by omega⟩⟩
  rw [show q = i + 1 by omega, h]
  omega
def endOf (c : List Ins) (i : Nat) : Nat := (cloAt c i).2.toNat
def othOf (c : List Ins) (i : Nat) : Int := (cloAt c i).1
/-- All blocks close. -/
def AllEnd (c : List Ins) : Prop := ∀ i, i < c.length → isO c i → 0 ≤ (cloAt c i).2
structure Shut (c : List Ins) (i : Nat) : Prop where
  eq : (cloAt c i).2 = endOf c i
  gt : i < endOf c i
  lt : endOf c i < c.length
  op : opAt c (endOf c i) = 50
  lev : dep c (endOf c i) = dep c i + 1
  ways : Ways c i (endOf c i) (othOf c i)
theorem AllEnd.shut {c : List Ins} (h : AllEnd c) {i : Nat} (hi : i < c.length) (ho : isO c i) : Shut c i := by
  have h1 := h i hi ho
  rcases clo_out ho with ⟨e, h2, h3, h4, h5, h6, h7⟩ | ⟨h2, _⟩
  · have h8 : endOf c i = e := by unfold endOf; rw [h2]; rfl
    refine ⟨?_, ?_, ?_, ?_, ?_, ?_⟩ <;> rw [h8]
    all_goals assumption
  · omega
theorem Shut.oth {c : List Ins} {i : Nat} (h : Shut c i) : othOf c i = -1 ∨ ∃ x : Nat, othOf c i = x ∧ i < x ∧ x < endOf c i ∧ opAt c x = 49 ∧ dep c x = dep c i + 1 ∧ opAt c i = 48 := by
  rcases h.ways.oth with h | ⟨x, h1, h2, h3, h4, h5, h6, _⟩
  · exact .inl h.1
  · exact .inr ⟨x, h1, h2, h3, h4, h5, h6⟩
theorem dep_len {c : List Ins} (hs : (scanF c).isSome = true) : ∀ q, q ≤ c.length → dep c q = lenAt c q
  | 0, _ => by simp [dep, lenAt, stAt, scanTo]
  | q + 1, h => by
    have h1 := dep_len hs q (by omega)
    have h2 := scan_len hs (q := q) (by omega)
    show dep c q + _ = _
    rw [h2]
    split
    · omega
    · split <;> omega
/-- Of good shape: all blocks close. -/
theorem good_end {c : List Ins} (hs : (scanF c).isSome = true) : AllEnd c := by
  intro i hi ho
  obtain ⟨M, hM⟩ := Option.isSome_iff_exists.1 hs
  have hend : lenAt c c.length ≤ lenAt c i := by
    unfold lenAt
    rw [stAt_end hM]
    simp
  obtain ⟨e, h1, h2, h3, h4, h5, h6, h7⟩ := block_ends hM ho hi (Nat.le_refl _) hend
  have hd := fun q hq => dep_len hs q hq
  have hde := hd e (by omega)
  have hdi := hd i (by omega)
  have hde1 := hd (e + 1) (by omega)
  rcases clo_out ho with ⟨e', h8, _⟩ | ⟨h8, h9⟩
  · omega
  · exfalso
    rcases h9 with h9 | ⟨x, x1, x2, x3, x4, x5, x6⟩
    · have := h9 (e + 1) (by omega) (by omega)
      omega
    · have hxe : x < e := by
        rcases Nat.lt_trichotomy x e with h | h | h
        · exact h
        · subst h; omega
        · have := x6 (e + 1) (by omega) (by omega)
          omega
      have hdx := hd x (by omega)
      -- the topmost block at x is the one that i opened
      obtain ⟨l0, b, rest, sp⟩ := span_at hs hi ho (x - (i + 1)) (by omega) (fun q q1 q2 => h6 q q1 (by omega))
      rw [show i + 1 + (x - (i + 1)) = x by omega] at sp
      have hsl := span_len sp
      have hrest : rest = [] := by
        cases rest with
        | nil => rfl
        | cons y r => simp only [List.length_cons] at hsl; omega
      subst hrest
      have hst := stAt_step hs (k := x) (by omega)
      have hst0 : stAt c x = (l0 ++ [b], (stAt c x).2) := Prod.ext sp.st rfl
      rw [hst0] at hst
      unfold scanStep at hst
      simp only at hst
      rw [if_neg (by omega), if_pos x3] at hst
      simp only [List.getLast?_append, List.getLast?_singleton, Option.some_or] at hst
      split at hst
      · simp at hst
      · rename_i hcond
        rcases x5 with x5 | ⟨y, y1, y2, y3, y4⟩
        · exact hcond (.inr (by rw [sp.at_]; exact x5))
        · have hdy := hd y (by omega)
          have := sp.only y y1 y2 (by omega) y3
          exact hcond (.inl (by omega))
end Go.Proofs.Ytchmgilckiadaaa
