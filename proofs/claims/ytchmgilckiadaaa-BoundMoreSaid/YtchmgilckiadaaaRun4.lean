/- The bound of instructions: the four laws. -/
import Derived.Test.YtchmgilckiadaaaRun3
namespace Go.Proofs.Ytchmgilckiadaaa
/-- The bound; none: not of good shape. -/
def boundV (ks : List Int) (c : List Ins) : Option Int :=
  match runL ks [baseL] c with
  | some [b] => some b.sum
  | _ => none
theorem baseL_bot : botOk [baseL] := ⟨rfl, rfl, rfl, rfl⟩
theorem baseL_ok : ∀ b ∈ [baseL], b.Ok := fun b hb => by
  simp only [List.mem_singleton] at hb
  subst hb
  exact ⟨Int.le_refl _, by show (0 : Int) ≤ 1048577; omega, Int.le_refl _, fun h => by simp [baseL] at h⟩
theorem boundV_run {ks : List Int} {c : List Ins} {a : Int} (h : boundV ks c = some a) : runL ks [baseL] c = some [⟨0, 0, a, 0, false⟩] := by
  unfold boundV at h
  split at h
  · rename_i b hr
    injection h with h
    have hb := run_bot baseL_bot hr
    obtain ⟨h1, h2, h3, h4⟩ := hb
    rw [hr]
    obtain ⟨o, ar, s, t, e⟩ := b
    simp only at h1 h2 h3 h4 h
    subst h1 h2 h3 h4 h
    rfl
  · simp at h
theorem boundV_of {ks : List Int} {c : List Ins} {b : Lvl} (h : runL ks [baseL] c = some [b]) : boundV ks c = some b.sum := by unfold boundV; rw [h]
theorem boundV_bd {ks : List Int} {c : List Ins} {a : Int} (hk : ∀ x ∈ ks, 0 ≤ x) (hx : ∀ x ∈ c, okX ks x) (h : boundV ks c = some a) : 0 ≤ a ∧ a ≤ 1048577 := by
  have := run_ok hk hx baseL_ok (boundV_run h) _ (List.mem_singleton.2 rfl)
  exact ⟨this.s0, this.s1⟩
theorem base_lift (o a z : Int) (ctx : List Lvl) (h1 : z ≤ 1048577) : lift (putL o a z ctx) [baseL] = ⟨o, a, z, 0, false⟩ :: ctx := by
  simp [lift, putL, baseL, cut_of_le h1]
/-- One behind the other. -/
theorem bound_together {ks : List Int} {c d : List Ins} {a b : Int} (hk : ∀ x ∈ ks, 0 ≤ x) (hxc : ∀ x ∈ c, okX ks x) (hx : ∀ x ∈ d, okX ks x) (h1 : boundV ks c = some a) (h2 : boundV ks d = some b) : boundV ks (c ++ d) = some (cut (a + b)) := by
  have ha := boundV_bd hk hxc h1
  have h3 := lift_run0 (o := 0) (a := 0) (z := a) ha.1 hk (by simp) baseL_bot baseL_ok hx (boundV_run h2)
  rw [base_lift 0 0 a [] ha.2] at h3
  have h4 : runL ks [baseL] (c ++ d) = some (lift (putL 0 0 a []) [⟨0, 0, b, 0, false⟩]) := by
    rw [runL_append, boundV_run h1]
    exact h3
  exact boundV_of h4
/-- A loop of n rounds. -/
theorem bound_turns {ks : List Int} {c : List Ins} {a n : Int} (hk : ∀ x ∈ ks, 0 ≤ x) (hx : ∀ x ∈ c, okX ks x) (h0 : 0 ≤ n) (hn : n ≤ 64) (h1 : boundV ks c = some a) :
    boundV ks ((51, n) :: (c ++ [(50, 0)])) = some (cut (costF 51 + n * (a + costF 50))) ∨ boundV ks ((51, n) :: (c ++ [(50, 0)])) = none := by
  have ha := boundV_bd hk hx h1
  have h3 := lift_run (o := 51) (a := n) (z := 0) (ctx := [baseL]) (Int.le_refl _) hk baseL_bot baseL_ok hx (boundV_run h1)
  rw [base_lift 51 n 0 [baseL] (by omega)] at h3
  have h50 := costF_bd 50
  have h51 := costF_bd 51
  have hp : stepL ks [baseL] (51, n) = some [⟨51, n, 0, 0, false⟩, baseL] := by simp [stepL]
  rcases h3 with h3 | h3
  · left
    have h4 : runL ks [baseL] ((51, n) :: (c ++ [(50, 0)])) = some [baseL.plus (endF ⟨51, n, cut (0 + a), 0, false⟩)] := by
      rw [runL_cons, hp, Option.bind_some, runL_append, h3, Option.bind_some, runL_cons]
      simp [stepL, lift, putL, runL_nil]
    rw [boundV_of h4]
    congr 1
    simp only [Lvl.plus, endF, if_pos, baseL, Int.zero_add, cut_cut, cut_of_le ha.2]
    unfold timesF
    rw [cut_add_cut h51.1, cut_of_le (show n ≤ 1048577 by omega), cut_cut]
    by_cases hz : n = 0
    · subst hz; simp
    · by_cases hb : a + costF 50 ≤ 1048577
      · rw [cut_of_le hb]
      · have e1 : cut (a + costF 50) = 1048577 := by unfold cut; omega
        rw [e1]
        have h5 : 1 * (a + costF 50) ≤ n * (a + costF 50) := Int.mul_le_mul_of_nonneg_right (by omega) (by omega)
        have h6 : (1 : Int) * 1048577 ≤ n * 1048577 := Int.mul_le_mul_of_nonneg_right (by omega) (by omega)
        unfold cut
        omega
  · right
    have h4 : runL ks [baseL] ((51, n) :: (c ++ [(50, 0)])) = none := by
      rw [runL_cons, hp, Option.bind_some, runL_append, h3]
      rfl
    unfold boundV
    rw [h4]
/-- Greater bounds of what is called, more rounds. -/
theorem bound_mono {ks ks' : List Int} {c c' : List Ins} {a : Int} (hk : ∀ x ∈ ks, 0 ≤ x) (hkk : ∀ i, ks.getD i 0 ≤ ks'.getD i 0) (hc : leC c c') (hx : ∀ x ∈ c, okX ks x) (h : boundV ks c = some a) : ∃ b, boundV ks' c' = some b ∧ a ≤ b := by
  obtain ⟨r, hr, hle⟩ := mono_run hk hkk hc hx baseL_ok (leS_refl _) (boundV_run h)
  match r, hle with
  | [b], hle => exact ⟨b.sum, boundV_of hr, hle.1.sum⟩
  | _ :: _ :: _, hle => exact hle.2.elim
/-- How deep: what opens less what closes. -/
def deepF (c : List Ins) : Int := c.foldl (fun d x => if x.1 = 48 ∨ x.1 = 51 then d + 1 else if x.1 = 50 then d - 1 else d) 0
theorem deepF_snoc (c : List Ins) (x : Ins) : deepF (c ++ [x]) = if x.1 = 48 ∨ x.1 = 51 then deepF c + 1 else if x.1 = 50 then deepF c - 1 else deepF c := by simp [deepF, List.foldl_append]
theorem step_len {ks : List Int} {s r : List Lvl} {x : Ins} (h : stepL ks s x = some r) : (r.length : Int) = if x.1 = 48 ∨ x.1 = 51 then (s.length : Int) + 1 else if x.1 = 50 then (s.length : Int) - 1 else s.length := by
  unfold stepL at h
  split at h
  · simp at h
  · rename_i b t
    split at h
    · rename_i c1
      rw [if_pos c1]
      split at h
      · simp at h
      · injection h with h; subst h; simp
    · rename_i c1
      rw [if_neg c1]
      split at h
      · rename_i c2
        split at h
        · simp at h
        · rw [if_neg (by omega)]
          injection h with h; subst h; simp
      · split at h
        · rename_i c3
          rw [if_pos c3]
          split at h
          · simp at h
          · injection h with h; subst h; simp
        · rename_i c3
          rw [if_neg c3]
          split at h
          · split at h
            · injection h with h; subst h; simp
            · simp at h
          · split at h
            · injection h with h; subst h; simp
            · injection h with h; subst h; simp
theorem run_len {ks : List Int} : ∀ (c : List Ins) {s r : List Lvl} (d : Int), runL ks s c = some r → (r.length : Int) = s.length + (c.foldl (fun d x => if x.1 = 48 ∨ x.1 = 51 then d + 1 else if x.1 = 50 then d - 1 else d) d) - d
  | [], s, r, d, h => by
    rw [runL_nil] at h
    injection h with h; subst h
    simp
  | x :: c, s, r, d, h => by
    rw [runL_cons] at h
    obtain ⟨s1, h1, h2⟩ := Option.bind_eq_some_iff.1 h
    have := run_len c (if x.1 = 48 ∨ x.1 = 51 then d + 1 else if x.1 = 50 then d - 1 else d) h2
    have h3 := step_len h1
    rw [List.foldl_cons, this]
    split at h3
    · rw [if_pos ‹_›, h3]; omega
    · rw [if_neg ‹_›]
      split at h3
      · rw [if_pos ‹_›, h3]; omega
      · rw [if_neg ‹_›, h3]
/-- One instruction more, that is not of blocks and no call. -/
theorem bound_more {ks : List Int} {c : List Ins} {n : Int} {x : Ins} (k : Nat) (hk : ∀ x ∈ ks, 0 ≤ x) (hx : ∀ x ∈ c, okX ks x) (hs : ¬(48 ≤ x.1 ∧ x.1 ≤ 53)) (h : boundV ks c = some n) :
    ∃ m, boundV ks (c.take k ++ [x] ++ c.drop k) = some m ∧ n ≤ m ∧ (deepF (c.take k) ≤ 0 → m = cut (n + costF x.1)) := by
  have hr := boundV_run h
  rw [← List.take_append_drop k c, runL_append] at hr
  obtain ⟨s, h1, h2⟩ := Option.bind_eq_some_iff.1 hr
  have hx1 : ∀ y ∈ c.take k, okX ks y := fun y hy => hx y (List.mem_of_mem_take hy)
  have hx2 : ∀ y ∈ c.drop k, okX ks y := fun y hy => hx y (List.mem_of_mem_drop hy)
  have hok := run_ok hk hx1 baseL_ok h1
  have hbot := run_bot baseL_bot h1
  have hcx := costF_bd x.1
  have hlen := run_len (c.take k) 0 h1
  match s, h1, h2, hok, hbot, hlen with
  | b :: t, h1, h2, hok, hbot, hlen =>
    have hst : stepL ks (b :: t) x = some (b.plus (costF x.1) :: t) := by
      unfold stepL
      simp only
      rw [if_neg (by omega), if_neg (by omega), if_neg (by omega), if_neg (by omega), if_neg (by omega)]
    have hrun : runL ks [baseL] (c.take k ++ [x] ++ c.drop k) = runL ks (b.plus (costF x.1) :: t) (c.drop k) := by
      rw [List.append_assoc, runL_append, h1, Option.bind_some, runL_append, runL_cons, hst]
      rfl
    have hb := hok b (by simp)
    have hle : leS (b :: t) (b.plus (costF x.1) :: t) := ⟨⟨rfl, rfl, fun _ => Int.le_refl _, by
      have h1 := hb.s1
      show b.sum ≤ cut (b.sum + costF x.1)
      unfold cut; omega, Int.le_refl _⟩, leS_refl t⟩
    obtain ⟨r, hr2, hr3⟩ := mono_run hk (fun i => Int.le_refl (ks.getD i 0)) (leC_refl _) hx2 hok hle h2
    match r, hr3 with
    | [b2], hr3 =>
      refine ⟨b2.sum, ?_, hr3.1.sum, fun hd => ?_⟩
      · unfold boundV; rw [hrun, hr2]
      · match t, hbot, h2, hok, hr2, hlen with
        | [], hbot, h2, hok, hr2, _ =>
          have h5 := lift_run0 (o := 0) (a := 0) (z := costF x.1) hcx.1 hk (by simp) hbot hok hx2 h2
          obtain ⟨e1, e2, e3, e4⟩ := hbot
          have h6 : lift (putL 0 0 (costF x.1) []) [b] = [b.plus (costF x.1)] := by
            obtain ⟨o, ar, s, t, e⟩ := b
            simp only at e1 e2 e3 e4
            subst e1 e2 e3 e4
            simp [lift, putL, Lvl.plus, Int.add_comm]
          rw [h6, hr2] at h5
          injection h5 with h5
          simp only [lift, putL, List.cons.injEq, and_true] at h5
          rw [h5, Int.add_comm]
        | p :: t, _, _, _, _, hlen =>
          exfalso
          have : (0 : Int) < deepF (c.take k) := by
            unfold deepF
            simp only [List.length_cons, List.length_nil] at hlen
            omega
          omega
    | _ :: _ :: _, hr3 => exact hr3.2.elim
  | [], _, _, _, hbot, _ => exact hbot.elim
end Go.Proofs.Ytchmgilckiadaaa
