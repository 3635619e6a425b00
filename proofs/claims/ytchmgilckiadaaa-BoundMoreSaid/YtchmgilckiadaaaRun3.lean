/- Laws of the pass: one behind the other; within a loop; one more. -/
import Derived.Test.YtchmgilckiadaaaRun2
namespace Go.Proofs.Ytchmgilckiadaaa
/-- The level that takes the lowest one's place: its sum begins at z; below it lies ctx. -/
def putL (o a z : Int) (ctx : List Lvl) (b : Lvl) : List Lvl := ⟨o, a, cut (z + b.sum), 0, false⟩ :: ctx
theorem lift_cons {f : Lvl → List Lvl} {b : Lvl} {t : List Lvl} (h : t ≠ []) : lift f (b :: t) = b :: lift f t := by
  match t, h with
  | _ :: _, _ => rfl
theorem lift_ne {o a z : Int} {ctx : List Lvl} : ∀ {t : List Lvl}, t ≠ [] → lift (putL o a z ctx) t ≠ []
  | [b], _ => by simp [lift, putL]
  | b :: p :: t, _ => by simp [lift]
theorem lift_len {o a z : Int} {ctx : List Lvl} : ∀ {t : List Lvl}, t ≠ [] → (lift (putL o a z ctx) t).length = t.length + ctx.length
  | [b], _ => by simp [lift, putL]; omega
  | b :: p :: t, _ => by
    rw [lift, List.length_cons, lift_len (by simp)]
    simp only [List.length_cons]
    omega
theorem lift_any {o a z : Int} {ctx : List Lvl} : ∀ {t : List Lvl}, botOk t → t.any (fun l => l.op == 51) = true → (lift (putL o a z ctx) t).any (fun l => l.op == 51) = true
  | [b], hb, h => by
    simp only [List.any_cons, List.any_nil, Bool.or_false, beq_iff_eq] at h
    rw [hb.1] at h
    omega
  | b :: p :: t, hb, h => by
    rw [lift]
    simp only [List.any_cons, Bool.or_eq_true] at h ⊢
    rcases h with h | h
    · exact .inl h
    · exact .inr (lift_any hb (by simpa using h))
theorem plus_lift {o a z : Int} {ctx : List Lvl} (hz : 0 ≤ z) (b : Lvl) (v : Int) (hv : 0 ≤ v) : putL o a z ctx (b.plus v) = (Lvl.plus ⟨o, a, cut (z + b.sum), 0, false⟩ v) :: ctx := by
  simp only [putL, Lvl.plus]
  rw [cut_add_cut hz, cut_cut_add hv, Int.add_assoc]
theorem plus_lift2 {o a z : Int} {ctx : List Lvl} (hz : 0 ≤ z) (b : Lvl) (v u : Int) (hv : 0 ≤ v) (hu : 0 ≤ u) : putL o a z ctx ((b.plus v).plus u) = ((Lvl.plus ⟨o, a, cut (z + b.sum), 0, false⟩ v).plus u) :: ctx := by
  rw [plus_lift hz _ _ hu]
  have h := plus_lift (o := o) (a := a) (ctx := ctx) hz b v hv
  simp only [putL, Lvl.plus, List.cons.injEq, and_true, Lvl.mk.injEq, true_and] at h ⊢
  rw [h]
theorem lift_step {ks : List Int} {o a z : Int} {ctx s r : List Lvl} {x : Ins} (hz : 0 ≤ z) (hk : ∀ x ∈ ks, 0 ≤ x) (hbot : botOk s) (hok : ∀ b ∈ s, b.Ok) (h : stepL ks s x = some r) :
    stepL ks (lift (putL o a z ctx) s) x = some (lift (putL o a z ctx) r) ∨ (stepL ks (lift (putL o a z ctx) s) x = none ∧ 9 < r.length + ctx.length) := by
  match s, hbot, hok, h with
  | [b], hbot, hok, h =>
    have hop := hbot.1
    show stepL ks (⟨o, a, cut (z + b.sum), 0, false⟩ :: ctx) x = _ ∨ (stepL ks (⟨o, a, cut (z + b.sum), 0, false⟩ :: ctx) x = _ ∧ _)
    unfold stepL at h ⊢
    simp only at h ⊢
    split at h
    · rename_i c1
      rw [if_pos c1]
      split at h
      · simp at h
      · injection h with h; subst h
        by_cases c2 : 8 < ctx.length + 1
        · rw [if_pos c2]
          exact .inr ⟨rfl, by simp; omega⟩
        · rw [if_neg c2]
          exact .inl rfl
    · rename_i c1
      rw [if_neg c1]
      split at h
      · split at h
        · simp at h
        · rename_i c3
          rw [hop] at c3
          simp at c3
      · rename_i c2
        rw [if_neg c2]
        split at h
        · simp at h
        · rename_i c3
          rw [if_neg c3]
          split at h
          · split at h
            · rename_i c5
              simp [hop] at c5
            · simp at h
          · rename_i c4
            rw [if_neg c4]
            split at h
            · rename_i c5
              rw [if_pos c5]
              injection h with h; subst h
              exact .inl (by rw [lift, plus_lift2 hz _ _ _ (costF_bd 53).1 (ks_nn hk _)])
            · rename_i c5
              rw [if_neg c5]
              injection h with h; subst h
              exact .inl (by rw [lift, plus_lift hz _ _ (costF_bd x.1).1])
  | b :: p :: t, hbot, hok, h =>
    have hlen := lift_len (o := o) (a := a) (z := z) (ctx := ctx) (t := p :: t) (by simp)
    have hany := lift_any (o := o) (a := a) (z := z) (ctx := ctx) (t := b :: p :: t) hbot
    have hne := lift_ne (o := o) (a := a) (z := z) (ctx := ctx) (t := p :: t) (by simp)
    rw [lift] at hany ⊢
    unfold stepL at h ⊢
    simp only at h ⊢
    rw [hlen]
    split at h
    · rename_i c1
      rw [if_pos c1]
      split at h
      · simp at h
      · injection h with h; subst h
        by_cases c2 : 8 < (p :: t).length + ctx.length + 1
        · rw [if_pos c2]
          exact .inr ⟨rfl, by simp at c2 ⊢; omega⟩
        · rw [if_neg c2]
          exact .inl rfl
    · rename_i c1
      rw [if_neg c1]
      split at h
      · rename_i c2
        rw [if_pos c2]
        split at h
        · simp at h
        · rename_i c3
          rw [if_neg c3]
          injection h with h; subst h
          exact .inl rfl
      · rename_i c2
        rw [if_neg c2]
        split at h
        · rename_i c3
          rw [if_pos c3]
          injection h with h; subst h
          match t with
          | [] => exact .inl (by simp only [lift]; rw [plus_lift hz _ _ (endF_nn (hok b (by simp)))]; rfl)
          | q :: t' => exact .inl rfl
        · rename_i c3
          rw [if_neg c3]
          split at h
          · rename_i c4
            rw [if_pos c4]
            split at h
            · rename_i c5
              rw [if_pos (hany c5)]
              injection h with h; subst h
              exact .inl rfl
            · simp at h
          · rename_i c4
            rw [if_neg c4]
            split at h
            · rename_i c5
              rw [if_pos c5]
              injection h with h; subst h
              exact .inl rfl
            · rename_i c5
              rw [if_neg c5]
              injection h with h; subst h
              exact .inl rfl
  | [], hbot, _, _ => exact hbot.elim
theorem step_deep {ks : List Int} {s r : List Lvl} {x : Ins} (hd : s.length ≤ 9) (h : stepL ks s x = some r) : r.length ≤ 9 := by
  unfold stepL at h
  split at h
  · simp at h
  · rename_i b t
    simp only [List.length_cons] at hd
    split at h
    · split at h
      · simp at h
      · injection h with h; subst h; simp; omega
    · split at h
      · split at h
        · simp at h
        · injection h with h; subst h; simpa using hd
      · split at h
        · split at h
          · simp at h
          · injection h with h; subst h; simp at hd ⊢; omega
        · split at h
          · split at h
            · injection h with h; subst h; simpa using hd
            · simp at h
          · split at h
            · injection h with h; subst h; simpa using hd
            · injection h with h; subst h; simpa using hd
/-- The lowest level's sum begins at z. -/
theorem lift_run0 {ks : List Int} {o a z : Int} (hz : 0 ≤ z) (hk : ∀ x ∈ ks, 0 ≤ x) : ∀ {c : List Ins} {s r : List Lvl}, s.length ≤ 9 → botOk s → (∀ b ∈ s, b.Ok) → (∀ x ∈ c, okX ks x) → runL ks s c = some r →
    runL ks (lift (putL o a z []) s) c = some (lift (putL o a z []) r)
  | [], s, r, _, _, _, _, h => by
    rw [runL_nil] at h ⊢
    injection h with h; subst h; rfl
  | x :: c, s, r, hd, hb, hok, hx, h => by
    rw [runL_cons] at h ⊢
    obtain ⟨s1, h1, h2⟩ := Option.bind_eq_some_iff.1 h
    rcases lift_step (o := o) (a := a) (z := z) (ctx := []) hz hk hb hok h1 with h3 | ⟨_, h3⟩
    · rw [h3, Option.bind_some]
      exact lift_run0 hz hk (step_deep hd h1) (step_bot hb h1) (stepL_ok hk (hx x (by simp)) hok h1) (fun y hy => hx y (by simp [hy])) h2
    · have := step_deep hd h1
      simp at h3; omega
/-- .. and more levels below: where it runs, it runs as it would alone. -/
theorem lift_run {ks : List Int} {o a z : Int} {ctx : List Lvl} (hz : 0 ≤ z) (hk : ∀ x ∈ ks, 0 ≤ x) : ∀ {c : List Ins} {s r : List Lvl}, botOk s → (∀ b ∈ s, b.Ok) → (∀ x ∈ c, okX ks x) → runL ks s c = some r →
    runL ks (lift (putL o a z ctx) s) c = some (lift (putL o a z ctx) r) ∨ runL ks (lift (putL o a z ctx) s) c = none
  | [], s, r, _, _, _, h => by
    rw [runL_nil] at h
    injection h with h; subst h; exact .inl rfl
  | x :: c, s, r, hb, hok, hx, h => by
    rw [runL_cons] at h
    obtain ⟨s1, h1, h2⟩ := Option.bind_eq_some_iff.1 h
    rcases lift_step (o := o) (a := a) (z := z) (ctx := ctx) hz hk hb hok h1 with h3 | ⟨h3, _⟩
    · rw [runL_cons, h3, Option.bind_some]
      exact lift_run hz hk (step_bot hb h1) (stepL_ok hk (hx x (by simp)) hok h1) (fun y hy => hx y (by simp [hy])) h2
    · rw [runL_cons, h3]
      exact .inr rfl
end Go.Proofs.Ytchmgilckiadaaa
