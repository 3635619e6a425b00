/- The document's places (ref06.Match) in plain words: it answers just where shape.scan does. -/
import Derived.Test.YtchmgilckiadaaaRefg
namespace Go.Proofs.Ytchmgilckiadaaa
def m1Step (c : List Ins) (m : List Int) (i : Nat) : Option (List Int) :=
  if opAt c i = 48 ∨ opAt c i = 51 then
    (if (cloAt c i).2 < 0 then none
    else some (if 0 ≤ (cloAt c i).1 then ((((m.set i (cloAt c i).2).set (cloAt c i).2.toNat (i : Int)).set i (cloAt c i).1).set (cloAt c i).1.toNat (cloAt c i).2) else ((m.set i (cloAt c i).2).set (cloAt c i).2.toNat (i : Int))))
  else some m
def m1To (c : List Ins) : Nat → Option (List Int)
  | 0 => some (List.replicate c.length (-1))
  | k + 1 => (m1To c k).bind fun m => m1Step c m k
def touched (c : List Ins) (k q : Nat) : Prop := ∃ i, i < k ∧ isO c i ∧ (q = i ∨ q = endOf c i ∨ (q : Int) = othOf c i)
/-- The places of the blocks that open. -/
structure OwnM (c : List Ins) (k : Nat) (m : List Int) : Prop where
  len : m.length = c.length
  bd : ∀ x ∈ m, -1 ≤ x ∧ x < c.length
  own0 : ∀ i, i < k → isO c i → othOf c i = -1 → m.getD i 0 = endOf c i
  own1 : ∀ i (x : Nat), i < k → isO c i → othOf c i = x → m.getD i 0 = x ∧ m.getD x 0 = endOf c i
theorem shut_inj {c : List Ins} {i j : Nat} (hi : Shut c i) (hj : Shut c j) (h : endOf c i = endOf c j) : i = j := by
  have h1 := hi.lev
  have h2 := hj.lev
  have g1 := hi.gt
  have g2 := hj.gt
  rw [h] at h1
  rcases Nat.lt_trichotomy i j with h3 | h3 | h3
  · have := hi.ways.up j h3 (by omega); omega
  · exact h3
  · have := hj.ways.up i h3 (by omega); omega
theorem oth_inj {c : List Ins} {i j x : Nat} (hi : Shut c i) (hj : Shut c j) (h1 : othOf c i = x) (h2 : othOf c j = x) : i = j := by
  rcases hi.oth with h | ⟨a, a1, a2, a3, a4, a5, _⟩
  · omega
  rcases hj.oth with h | ⟨b, b1, b2, b3, b4, b5, _⟩
  · omega
  have ha : a = x := by omega
  have hb : b = x := by omega
  subst ha
  subst hb
  rcases Nat.lt_trichotomy i j with h3 | h3 | h3
  · have := hi.ways.up j h3 (by omega); omega
  · exact h3
  · have := hj.ways.up i h3 (by omega); omega
theorem mem_set_bd2 {m : List Int} {k : Nat} {v lo hi : Int} (hv : lo ≤ v ∧ v < hi) (h : ∀ x ∈ m, lo ≤ x ∧ x < hi) : ∀ x ∈ m.set k v, lo ≤ x ∧ x < hi := fun x hx => by
  rcases List.mem_or_eq_of_mem_set hx with h1 | h1
  · exact h x h1
  · rw [h1]; exact hv
/-- What one block's step sets. -/
theorem m1_shut {c : List Ins} {m : List Int} {k : Nat} (sh : Shut c k) (ho : isO c k) : m1Step c m k = some (if 0 ≤ othOf c k then ((((m.set k (endOf c k : Int)).set (endOf c k) (k : Int)).set k (othOf c k)).set (othOf c k).toNat (endOf c k : Int)) else ((m.set k (endOf c k : Int)).set (endOf c k) (k : Int))) := by
  unfold m1Step
  have h1 := sh.eq
  rw [if_pos (show opAt c k = 48 ∨ opAt c k = 51 from ho), if_neg (by omega)]
  unfold othOf
  rw [h1, Int.toNat_natCast]
theorem m1_ok {c : List Ins} : ∀ k, k ≤ c.length → ((m1To c k).isSome = true ↔ ∀ i, i < k → isO c i → 0 ≤ (cloAt c i).2)
  | 0, _ => ⟨fun _ i h => by omega, fun _ => rfl⟩
  | k + 1, hk => by
    have ih := m1_ok (c := c) k (by omega)
    constructor
    · intro h i hi ho
      rw [m1To] at h
      cases h1 : m1To c k with
      | none => rw [h1] at h; simp at h
      | some m =>
        rw [h1, Option.bind_some] at h
        by_cases e : i = k
        · subst e
          unfold m1Step at h
          rw [if_pos (show opAt c i = 48 ∨ opAt c i = 51 from ho)] at h
          split at h
          · simp at h
          · omega
        · exact ih.1 (by rw [h1]; rfl) i (by omega) ho
    · intro h
      obtain ⟨m, hm⟩ := Option.isSome_iff_exists.1 (ih.2 fun i hi => h i (by omega))
      rw [m1To, hm, Option.bind_some]
      unfold m1Step
      split
      · rename_i ho
        rw [if_neg (by have := h k (by omega) ho; omega)]
        rfl
      · rfl
structure M1 (c : List Ins) (k : Nat) (m : List Int) : Prop where
  own : OwnM c k m
  far : ∀ q, q < c.length → ¬touched c k q → m.getD q 0 = -1
  near : ∀ q, q < c.length → touched c k q → 0 ≤ m.getD q 0
theorem getD_set_or {m : List Int} {a q : Nat} {v : Int} (h : a < m.length) : (m.set a v).getD q 0 = if q = a then v else m.getD q 0 := by
  by_cases e : q = a
  · subst e; rw [if_pos rfl]; exact getD_set_at h
  · rw [if_neg e]; exact getD_set_far e
theorem m1_to {c : List Ins} (hA : AllEnd c) : ∀ k, k ≤ c.length → ∃ m, m1To c k = some m ∧ M1 c k m
  | 0, _ => ⟨_, rfl, ⟨by simp, fun x hx => by have := List.eq_of_mem_replicate hx; subst this; have := List.length_replicate (n := c.length) (a := (-1 : Int)); exact ⟨by omega, by omega⟩, fun i h => by omega, fun i x h => by omega⟩, fun q hq _ => by simp [hq], fun q _ ⟨i, h, _⟩ => by omega⟩
  | k + 1, hk => by
    obtain ⟨m, hm, hM⟩ := m1_to hA k (by omega)
    rw [m1To, hm, Option.bind_some]
    by_cases ho : isO c k
    · have sh := hA.shut (by omega) ho
      rw [m1_shut sh ho]
      have hlt := sh.lt
      have hgt := sh.gt
      have hop := sh.op
      have hml := hM.own.len
      have hoth := sh.oth
      have htk : ∀ q, touched c (k + 1) q ↔ touched c k q ∨ (q = k ∨ q = endOf c k ∨ (q : Int) = othOf c k) := fun q => by
        constructor
        · rintro ⟨i, h1, h2, h3⟩
          by_cases e : i = k
          · subst e; exact .inr h3
          · exact .inl ⟨i, by omega, h2, h3⟩
        · rintro (⟨i, h1, h2, h3⟩ | h)
          · exact ⟨i, by omega, h2, h3⟩
          · exact ⟨k, by omega, ho, h⟩
      have hopi : ∀ i, isO c i → i ≠ endOf c k := fun i h e => by
        unfold isO at h
        rw [e] at h; omega
      have hsh : ∀ i, i < k → isO c i → Shut c i := fun i h1 h2 => hA.shut (by omega) h2
      rcases hoth with ho1 | ⟨x, ho1, hx1, hx2, hx3, hx4, hx5⟩
      · rw [if_neg (by omega)]
        have hg : ∀ q, (((m.set k (endOf c k : Int)).set (endOf c k) (k : Int))).getD q 0 = if q = endOf c k then (k : Int) else if q = k then (endOf c k : Int) else m.getD q 0 := fun q => by
          rw [getD_set_or (by simp; omega), getD_set_or (by omega)]
        refine ⟨_, rfl, ⟨by simp [hml], mem_set_bd2 ⟨by omega, by omega⟩ (mem_set_bd2 ⟨by omega, by omega⟩ hM.own.bd), fun i h1 h2 h3 => ?_, fun i y h1 h2 h3 => ?_⟩, fun q hq h => ?_, fun q hq h => ?_⟩
        · rw [hg, if_neg (hopi i h2)]
          by_cases e : i = k
          · rw [if_pos e, e]
          · rw [if_neg e]; exact hM.own.own0 i (by omega) h2 h3
        · have hik : i ≠ k := fun e => by subst e; omega
          obtain ⟨g1, g2⟩ := hM.own.own1 i y (by omega) h2 h3
          have si := hsh i (by omega) h2
          rcases si.oth with e | ⟨y', y1, y2, y3, y4, _⟩
          · omega
          · have : y' = y := by omega
            subst this
            refine ⟨?_, ?_⟩
            · rw [hg, if_neg (hopi i h2), if_neg hik]; exact g1
            · rw [hg, if_neg (fun e => by rw [e] at y4; omega), if_neg (fun e => by subst e; unfold isO at ho; omega)]; exact g2
        · rw [htk] at h
          simp only [not_or] at h
          rw [hg, if_neg h.2.2.1, if_neg h.2.1]
          exact hM.far q hq h.1
        · rw [hg]
          split
          · omega
          · split
            · omega
            · rename_i n1 n2
              rcases (htk q).1 h with h | h | h | h
              · exact hM.near q hq h
              · exact absurd h n2
              · exact absurd h n1
              · omega
      · rw [ho1, if_pos (by omega), Int.toNat_natCast]
        have hxk : x ≠ k := by omega
        have hxe : x ≠ endOf c k := by omega
        have hg : ∀ q, ((((m.set k (endOf c k : Int)).set (endOf c k) (k : Int)).set k (x : Int)).set x (endOf c k : Int)).getD q 0 = if q = x then (endOf c k : Int) else if q = k then (x : Int) else if q = endOf c k then (k : Int) else m.getD q 0 := fun q => by
          rw [getD_set_or (by simp; omega), getD_set_or (by simp; omega), getD_set_or (by simp; omega), getD_set_or (by omega)]
          by_cases e1 : q = x
          · rw [if_pos e1, if_pos e1]
          · rw [if_neg e1, if_neg e1]
            by_cases e2 : q = k
            · rw [if_pos e2, if_pos e2]
            · rw [if_neg e2, if_neg e2, if_neg e2]
        refine ⟨_, rfl, ⟨by simp [hml], mem_set_bd2 ⟨by omega, by omega⟩ (mem_set_bd2 ⟨by omega, by omega⟩ (mem_set_bd2 ⟨by omega, by omega⟩ (mem_set_bd2 ⟨by omega, by omega⟩ hM.own.bd))), fun i h1 h2 h3 => ?_, fun i y h1 h2 h3 => ?_⟩, fun q hq h => ?_, fun q hq h => ?_⟩
        · have hik : i ≠ k := fun e => by subst e; omega
          rw [hg, if_neg (fun e => by unfold isO at h2; rw [e] at h2; omega), if_neg hik, if_neg (hopi i h2)]
          exact hM.own.own0 i (by omega) h2 h3
        · by_cases hik : i = k
          · subst hik
            have : y = x := by omega
            subst this
            exact ⟨by rw [hg, if_neg (by omega), if_pos rfl], by rw [hg, if_pos rfl]⟩
          · obtain ⟨g1, g2⟩ := hM.own.own1 i y (by omega) h2 h3
            have si := hsh i (by omega) h2
            have hyx : y ≠ x := fun e => hik (oth_inj si sh h3 (by rw [e]; exact ho1))
            rcases si.oth with e | ⟨y', y1, y2, y3, y4, _⟩
            · omega
            · have : y' = y := by omega
              subst this
              refine ⟨?_, ?_⟩
              · rw [hg, if_neg (fun e => by unfold isO at h2; rw [e] at h2; omega), if_neg hik, if_neg (hopi i h2)]; exact g1
              · rw [hg, if_neg hyx, if_neg (fun e => by subst e; unfold isO at ho; omega), if_neg (fun e => by rw [e] at y4; omega)]; exact g2
        · rw [htk] at h
          simp only [not_or] at h
          rw [hg, if_neg (fun e => h.2.2.2 (by omega)), if_neg h.2.1, if_neg h.2.2.1]
          exact hM.far q hq h.1
        · rw [hg]
          split
          · omega
          · split
            · omega
            · split
              · omega
              · rename_i n1 n2 n3
                rcases (htk q).1 h with h | h | h | h
                · exact hM.near q hq h
                · exact absurd h n2
                · exact absurd h n3
                · exact absurd (show q = x by omega) n1
    · have h1 : m1Step c m k = some m := by unfold m1Step; rw [if_neg (show ¬(opAt c k = 48 ∨ opAt c k = 51) from ho)]
      rw [h1]
      have hik : ∀ i, i < k + 1 → isO c i → i < k := fun i h1 h2 => by
        by_cases e : i = k
        · subst e; exact absurd h2 ho
        · omega
      refine ⟨m, rfl, ⟨hM.own.len, hM.own.bd, fun i h1 h2 => hM.own.own0 i (hik i h1 h2) h2, fun i x h1 h2 => hM.own.own1 i x (hik i h1 h2) h2⟩, fun q hq h => hM.far q hq fun ⟨i, g1, g2⟩ => h ⟨i, by omega, g2⟩, fun q hq ⟨i, g1, g2, g3⟩ => hM.near q hq ⟨i, hik i g1 g2, g2, g3⟩⟩
/-- The end that a block's places tell. -/
def lastF (c : List Ins) (m : List Int) (i : Nat) : Int := if opAt c (m.getD i 0).toNat = 49 then m.getD (m.getD i 0).toNat 0 else m.getD i 0
theorem last_own {c : List Ins} {m : List Int} (hA : AllEnd c) (h : OwnM c c.length m) {i : Nat} (hi : i < c.length) (ho : isO c i) : lastF c m i = endOf c i ∧ 0 ≤ m.getD i 0 ∧ m.getD i 0 < c.length := by
  have sh := hA.shut hi ho
  have hlt := sh.lt
  unfold lastF
  rcases sh.oth with e | ⟨x, h1, h2, h3, h4, _⟩
  · rw [h.own0 i hi ho e, Int.toNat_natCast, if_neg (by rw [sh.op]; omega)]
    exact ⟨rfl, by omega, by omega⟩
  · obtain ⟨g1, g2⟩ := h.own1 i x hi ho h1
    rw [g1, Int.toNat_natCast, if_pos h4, g2]
    exact ⟨rfl, by omega, by omega⟩
def openM (c : List Ins) (m : List Int) (k : Nat) : List Nat := (List.range k).filter fun i => isOB c i && decide ((k : Int) ≤ lastF c m i)
theorem openM_own {c : List Ins} {m : List Int} (hA : AllEnd c) (h : OwnM c c.length m) {k : Nat} (hk : k ≤ c.length) : openM c m k = openD c k := by
  apply List.filter_congr
  intro i hi
  have hi := List.mem_range.1 hi
  cases ho : isOB c i with
  | false => rfl
  | true =>
    rw [(last_own hA h (by omega) (isOB_iff.1 ho)).1]
    simp only [Bool.true_and]
    rw [decide_eq_decide]
    omega
def leaveF (c : List Ins) (k : Nat) (a : List Nat) (m : List Int) : List Int := a.foldl (fun m i => if opAt c i = 51 then m.set k (m.getD i 0) else m) m
theorem leave_ok {c : List Ins} {k : Nat} : ∀ (a : List Nat) (m : List Int), k < m.length → (∀ i ∈ a, i ≠ k ∧ 0 ≤ m.getD i 0 ∧ m.getD i 0 < c.length) → (∀ x ∈ m, -1 ≤ x ∧ x < c.length) →
    (leaveF c k a m).length = m.length ∧ (∀ x ∈ leaveF c k a m, -1 ≤ x ∧ x < c.length) ∧ (∀ q, q ≠ k → (leaveF c k a m).getD q 0 = m.getD q 0) ∧ ((0 ≤ m.getD k 0 ∨ ∃ i ∈ a, opAt c i = 51) ↔ 0 ≤ (leaveF c k a m).getD k 0)
  | [], m, _, _, h => ⟨rfl, h, fun _ _ => rfl, by simp [leaveF]⟩
  | i :: a, m, hk, h, hb => by
    have hi := h i (by simp)
    by_cases e : opAt c i = 51
    · have hs : leaveF c k (i :: a) m = leaveF c k a (m.set k (m.getD i 0)) := by simp [leaveF, e]
      rw [hs]
      obtain ⟨g1, g2, g3, g4⟩ := leave_ok a (m.set k (m.getD i 0)) (by simpa using hk) (fun j hj => by
        have := h j (by simp [hj])
        rw [getD_set_far this.1]
        exact this) (mem_set_bd2 ⟨by omega, hi.2.2⟩ hb)
      refine ⟨by rw [g1]; simp, g2, fun q hq => by rw [g3 q hq, getD_set_far hq], ⟨fun _ => g4.1 (.inl (by rw [getD_set_at hk]; exact hi.2.1)), fun _ => .inr ⟨i, by simp, e⟩⟩⟩
    · have hs : leaveF c k (i :: a) m = leaveF c k a m := by simp [leaveF, e]
      rw [hs]
      obtain ⟨g1, g2, g3, g4⟩ := leave_ok a m hk (fun j hj => h j (by simp [hj])) hb
      refine ⟨g1, g2, g3, ?_⟩
      rw [← g4]
      simp [e]
def m3Step (c : List Ins) (m : List Int) (k : Nat) : Option (List Int) :=
  if 8 < (openM c m k).length + (if isOB c k = true then 1 else 0) then none
  else if opAt c k = 52 then (if (leaveF c k (openM c m k) m).getD k 0 < 0 then none else some (leaveF c k (openM c m k) m))
  else some m
def m3To (c : List Ins) (m : List Int) : Nat → Option (List Int)
  | 0 => some m
  | k + 1 => (m3To c m k).bind fun m => m3Step c m k
structure M3 (c : List Ins) (k : Nat) (m : List Int) : Prop where
  own : OwnM c c.length m
  rest : ∀ q, k ≤ q → q < c.length → opAt c q = 52 → m.getD q 0 = -1
theorem m3_one {c : List Ins} {m : List Int} {k : Nat} (hA : AllEnd c) (hk : k < c.length) (h : M3 c k m) :
    (∃ m', m3Step c m k = some m' ∧ M3 c (k + 1) m' ∧ (openD c k).length + (if isOB c k = true then 1 else 0) ≤ 8 ∧ (opAt c k = 52 → ∃ i ∈ openD c k, opAt c i = 51)) ∨
    (m3Step c m k = none ∧ ¬((openD c k).length + (if isOB c k = true then 1 else 0) ≤ 8 ∧ (opAt c k = 52 → ∃ i ∈ openD c k, opAt c i = 51))) := by
  unfold m3Step
  rw [openM_own hA h.own (by omega)]
  by_cases h8 : 8 < (openD c k).length + (if isOB c k = true then 1 else 0)
  · right
    rw [if_pos h8]
    exact ⟨rfl, fun h => by omega⟩
  · rw [if_neg h8]
    by_cases h52 : opAt c k = 52
    · rw [if_pos h52]
      have hm : k < m.length := by rw [h.own.len]; exact hk
      obtain ⟨g1, g2, g3, g4⟩ := leave_ok (c := c) (k := k) (openD c k) m hm (fun i hi => by
        obtain ⟨a1, a2, a3⟩ := mem_openD.1 hi
        exact ⟨by omega, (last_own hA h.own (by omega) a2).2⟩) h.own.bd
      have hr := h.rest k (Nat.le_refl _) hk h52
      by_cases hneg : (leaveF c k (openD c k) m).getD k 0 < 0
      · right
        rw [if_pos hneg]
        refine ⟨rfl, fun hh => ?_⟩
        have := g4.1 (.inr (hh.2 h52))
        omega
      · left
        rw [if_neg hneg]
        refine ⟨_, rfl, ⟨⟨by rw [g1, h.own.len], g2, fun i a1 a2 a3 => ?_, fun i x a1 a2 a3 => ?_⟩, fun q q1 q2 q3 => ?_⟩, by omega, fun _ => ?_⟩
        · rw [g3 i (fun e => by unfold isO at a2; rw [e] at a2; clear g4; omega)]
          exact h.own.own0 i a1 a2 a3
        · have sh := hA.shut a1 a2
          have hx : x ≠ k := fun e => by
            rcases sh.oth with e1 | ⟨y, y1, y2, y3, y4, _⟩
            · omega
            · have : y = k := by omega
              subst this; omega
          rw [g3 i (fun e => by unfold isO at a2; rw [e] at a2; clear g4; omega), g3 x hx]
          exact h.own.own1 i x a1 a2 a3
        · rw [g3 q (by omega)]
          exact h.rest q (by omega) q2 q3
        · rcases g4.2 (by omega) with e | e
          · omega
          · exact e
    · rw [if_neg h52]
      left
      exact ⟨m, rfl, ⟨h.own, fun q q1 q2 q3 => h.rest q (by omega) q2 q3⟩, by omega, fun e => absurd e h52⟩
/-- What 'Match' answers: the places, or none. -/
def lack (c : List Ins) (m : List Int) (q : Nat) : Bool := (opAt c q == 49 || opAt c q == 50) && decide (m.getD q 0 < 0)
def refM (c : List Ins) : Option (List Int) := (m1To c c.length).bind fun m => if (List.range c.length).any (lack c m) = true then none else m3To c m c.length
theorem touch_open {c : List Ins} (hA : AllEnd c) {q : Nat} (h : opAt c q = 49 ∨ opAt c q = 50) (ht : touched c c.length q) : openD c q ≠ [] := by
  obtain ⟨i, h1, h2, h3⟩ := ht
  have sh := hA.shut h1 h2
  have hgt := sh.gt
  have hm : i ∈ openD c q := by
    rcases h3 with e | e | e
    · subst e; unfold isO at h2; omega
    · exact mem_openD.2 ⟨by omega, h2, by omega⟩
    · rcases sh.oth with e1 | ⟨y, y1, y2, y3, _⟩
      · omega
      · exact mem_openD.2 ⟨by omega, h2, by omega⟩
  exact List.ne_nil_of_mem hm
theorem open_touch {c : List Ins} (hs : (scanF c).isSome = true) {q : Nat} (hq : q < c.length) (h : opAt c q = 49 ∨ opAt c q = 50) (ho : openD c q ≠ []) : touched c c.length q := by
  have hA := good_end hs
  have hJ := good_jst hs q (by omega)
  rcases List.eq_nil_or_concat (openD c q) with e | ⟨L, i, e⟩
  · exact absurd e ho
  · rw [List.concat_eq_append] at e
    have tp := top_of hA hq e hJ.len hJ.lev
    have sh := hA.shut (by have := tp.lt; omega) tp.o
    refine ⟨i, by have := tp.lt; omega, tp.o, ?_⟩
    rcases h with h | h
    · exact .inr (.inr (top_else sh tp h).symm)
    · exact .inr (.inl (top_end sh tp h).symm)
theorem refM_good {c : List Ins} : (refM c).isSome = (scanF c).isSome := by
  rw [Bool.eq_iff_iff]
  constructor
  · intro h
    unfold refM at h
    cases h1 : m1To c c.length with
    | none => rw [h1] at h; simp at h
    | some m =>
      rw [h1, Option.bind_some] at h
      have hA : AllEnd c := (m1_ok (c := c) c.length (Nat.le_refl _)).1 (by rw [h1]; rfl)
      obtain ⟨m', hm', hM⟩ := m1_to hA c.length (Nat.le_refl _)
      rw [h1] at hm'
      injection hm' with hm'
      subst hm'
      split at h
      · simp at h
      · rename_i hn
        have h2 : ∀ q, q < c.length → (opAt c q = 49 ∨ opAt c q = 50) → openD c q ≠ [] := fun q hq ho => by
          refine touch_open hA ho (Classical.byContradiction fun ht => hn ?_)
          have := hM.far q hq ht
          exact List.any_eq_true.2 ⟨q, List.mem_range.2 hq, by unfold lack; rw [this]; rcases ho with e | e <;> rw [e] <;> rfl⟩
        have h3 : ∀ k, k ≤ c.length → (m3To c m k).isSome = true → ∃ m', m3To c m k = some m' ∧ M3 c k m' ∧ ∀ j, j < k → (openD c j).length + (if isOB c j = true then 1 else 0) ≤ 8 ∧ (opAt c j = 52 → ∃ i ∈ openD c j, opAt c i = 51) := by
          intro k
          induction k with
          | zero =>
            intro _ _
            refine ⟨m, rfl, ⟨hM.own, fun q _ hq h52 => hM.far q hq ?_⟩, fun j hj => by omega⟩
            rintro ⟨i, i1, i2, i3⟩
            have sh := hA.shut i1 i2
            rcases i3 with e | e | e
            · subst e; unfold isO at i2; omega
            · have := sh.op; rw [← e] at this; omega
            · rcases sh.oth with e1 | ⟨y, y1, _, _, y4, _⟩
              · omega
              · have : y = q := by omega
                subst this; omega
          | succ k ih =>
            intro hk hs
            rw [m3To] at hs ⊢
            cases h4 : m3To c m k with
            | none => rw [h4] at hs; simp at hs
            | some m1 =>
              obtain ⟨m2, e2, g2, g3⟩ := ih (by omega) (by rw [h4]; rfl)
              rw [h4] at e2
              injection e2 with e2
              subst e2
              rw [h4, Option.bind_some] at hs
              rw [Option.bind_some]
              rcases m3_one hA (by omega) g2 with ⟨m3, a1, a2, a3⟩ | ⟨a1, _⟩
              · refine ⟨m3, a1, a2, fun j hj => ?_⟩
                by_cases e : j = k
                · subst e; exact a3
                · exact g3 j (by omega)
              · rw [a1] at hs; simp at hs
        obtain ⟨_, _, _, h4⟩ := h3 c.length (Nat.le_refl _) h
        refine good_iff.2 ⟨hA, fun k hk => ⟨fun ho => ?_, h2 k hk, (h4 k hk).2⟩⟩
        have := (h4 k hk).1
        rw [if_pos (isOB_iff.2 ho)] at this
        exact this
  · intro hs
    obtain ⟨hA, hF⟩ := good_iff.1 hs
    obtain ⟨m, hm, hM⟩ := m1_to hA c.length (Nat.le_refl _)
    unfold refM
    rw [hm, Option.bind_some, if_neg]
    · have h3 : ∀ k, k ≤ c.length → ∃ m', m3To c m k = some m' ∧ M3 c k m' := by
        intro k
        induction k with
        | zero =>
          intro _
          refine ⟨m, rfl, ⟨hM.own, fun q _ hq h52 => hM.far q hq ?_⟩⟩
          rintro ⟨i, i1, i2, i3⟩
          have sh := hA.shut i1 i2
          rcases i3 with e | e | e
          · subst e; unfold isO at i2; omega
          · have := sh.op; rw [← e] at this; omega
          · rcases sh.oth with e1 | ⟨y, y1, _, _, y4, _⟩
            · omega
            · have : y = q := by omega
              subst this; omega
        | succ k ih =>
          intro hk
          obtain ⟨m1, h4, h5⟩ := ih (by omega)
          rw [m3To, h4, Option.bind_some]
          rcases m3_one hA (by omega) h5 with ⟨m3, a1, a2, _⟩ | ⟨_, a2⟩
          · exact ⟨m3, a1, a2⟩
          · have hf := hF k (by omega)
            have hd := good_deep hs (k := k) (by omega)
            refine absurd ⟨?_, hf.2.2⟩ a2
            by_cases e : isOB c k = true
            · rw [if_pos e]; exact hf.1 (isOB_iff.1 e)
            · rw [if_neg e]; omega
      obtain ⟨m', h4, _⟩ := h3 c.length (Nat.le_refl _)
      rw [h4]; rfl
    · intro h
      obtain ⟨q, h1, h2⟩ := List.any_eq_true.1 h
      have hq := List.mem_range.1 h1
      unfold lack at h2
      simp only [Bool.and_eq_true, Bool.or_eq_true, beq_iff_eq, decide_eq_true_eq] at h2
      have := hM.near q hq (open_touch hs hq h2.1 ((hF q hq).2.1 h2.1))
      omega
end Go.Proofs.Ytchmgilckiadaaa
