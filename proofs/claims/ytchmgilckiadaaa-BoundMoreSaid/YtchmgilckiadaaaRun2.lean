/- Laws of the pass: greater numbers, a greater sum below, more levels below. -/
import Derived.Test.YtchmgilckiadaaaRun
namespace Go.Proofs.Ytchmgilckiadaaa
structure Lvl.Le (b b' : Lvl) : Prop where
  op : b.op = b'.op
  els : b.els = b'.els
  arg : b.op = 51 → b.arg ≤ b'.arg
  sum : b.sum ≤ b'.sum
  thn : b.thn ≤ b'.thn
def leS : List Lvl → List Lvl → Prop
  | [], [] => True
  | b :: t, b' :: t' => b.Le b' ∧ leS t t'
  | _, _ => False
theorem Lvl.Le.refl (b : Lvl) : b.Le b := ⟨rfl, rfl, fun _ => Int.le_refl _, Int.le_refl _, Int.le_refl _⟩
theorem leS_refl : ∀ s, leS s s
  | [] => trivial
  | b :: t => ⟨Lvl.Le.refl b, leS_refl t⟩
theorem leS_len : ∀ {s s' : List Lvl}, leS s s' → s.length = s'.length
  | [], [], _ => rfl
  | _ :: _, _ :: _, h => by simp [leS_len h.2]
  | [], _ :: _, h => h.elim
  | _ :: _, [], h => h.elim
theorem leS_any : ∀ {s s' : List Lvl}, leS s s' → s.any (fun l => l.op == 51) = s'.any (fun l => l.op == 51)
  | [], [], _ => rfl
  | b :: t, b' :: t', h => by simp [h.1.op, leS_any h.2]
  | [], _ :: _, h => h.elim
  | _ :: _, [], h => h.elim
theorem Lvl.Le.plus {b b' : Lvl} (h : b.Le b') {x x' : Int} (hx : x ≤ x') : (b.plus x).Le (b'.plus x') := ⟨h.op, h.els, h.arg, cut_mono (by have := h.sum; omega), h.thn⟩
theorem endF_mono {b b' : Lvl} (hb : b.Ok) (h : b.Le b') : endF b ≤ endF b' := by
  have h50 := costF_bd 50
  have hs := hb.s0
  have hs' := h.sum
  have ht := h.thn
  unfold endF
  rw [← h.op, ← h.els]
  split
  · rename_i ho
    have := timesF_mono (hb.a0 ho) (h.arg ho) (cut_nn (show 0 ≤ b.sum + costF 50 by omega)) (cut_mono (show b.sum + costF 50 ≤ b'.sum + costF 50 by omega))
    exact cut_mono (by omega)
  · have := cut_mono (show b.sum + costF 50 ≤ b'.sum + costF 50 by omega)
    split
    · exact cut_mono (by omega)
    · exact cut_mono (by omega)
/-- An instruction of no less number. -/
def leX (x x' : Ins) : Prop := x.1 = x'.1 ∧ (x.1 = 51 → x.2 ≤ x'.2) ∧ (x.1 = 53 → x.2 = x'.2)
theorem leX_refl (x : Ins) : leX x x := ⟨rfl, fun _ => Int.le_refl _, fun _ => rfl⟩
theorem mono_step {ks ks' : List Int} {s s' r : List Lvl} {x x' : Ins} (hk : ∀ i, ks.getD i 0 ≤ ks'.getD i 0) (hx : leX x x') (hok : ∀ b ∈ s, b.Ok) (hs : leS s s') (h : stepL ks s x = some r) : ∃ r', stepL ks' s' x' = some r' ∧ leS r r' := by
  obtain ⟨o, a⟩ := x
  obtain ⟨o', a'⟩ := x'
  obtain ⟨rfl, h51, h53⟩ := hx
  simp only at h51 h53
  match s, s', hs, hok, h with
  | b :: t, b' :: t', hs, hok, h =>
    have hl := leS_len hs.2
    have ha := leS_any hs
    unfold stepL at h ⊢
    simp only at h ⊢
    rw [← hl, ← ha, ← hs.1.op, ← hs.1.els]
    split at h
    · rename_i c1
      rw [if_pos c1]
      split at h
      · simp at h
      · rename_i c2
        rw [if_neg c2]
        injection h with h
        subst h
        exact ⟨_, rfl, ⟨rfl, rfl, h51, Int.le_refl _, Int.le_refl _⟩, hs⟩
    · rename_i c1
      rw [if_neg c1]
      split at h
      · rename_i c2
        rw [if_pos c2]
        split at h
        · simp at h
        · rename_i c3
          rw [if_neg c3]
          injection h with h
          subst h
          exact ⟨_, rfl, ⟨rfl, rfl, hs.1.arg, Int.le_refl _, cut_mono (by have := hs.1.sum; show b.sum + _ ≤ b'.sum + _; omega)⟩, hs.2⟩
      · rename_i c2
        rw [if_neg c2]
        split at h
        · rename_i c3
          rw [if_pos c3]
          match t, t', hs, h with
          | p :: t1, p' :: t1', hs, h =>
            injection h with h
            subst h
            exact ⟨_, rfl, hs.2.1.plus (endF_mono (hok b (by simp)) hs.1), hs.2.2⟩
          | [], [], _, h => simp at h
          | p :: t1, [], hs, _ => exact hs.2.elim
        · rename_i c3
          rw [if_neg c3]
          split at h
          · rename_i c4
            rw [if_pos c4]
            split at h
            · rename_i c5
              rw [if_pos c5]
              injection h with h
              subst h
              exact ⟨_, rfl, hs.1.plus (Int.le_refl _), hs.2⟩
            · simp at h
          · rename_i c4
            rw [if_neg c4]
            split at h
            · rename_i c5
              rw [if_pos c5]
              injection h with h
              subst h
              refine ⟨_, rfl, (hs.1.plus (Int.le_refl _)).plus ?_, hs.2⟩
              rw [h53 c5]
              exact hk _
            · rename_i c5
              rw [if_neg c5]
              injection h with h
              subst h
              exact ⟨_, rfl, hs.1.plus (Int.le_refl _), hs.2⟩
  | [], _, _, _, h => simp [stepL] at h
  | b :: t, [], hs, _, _ => exact hs.elim
def leC : List Ins → List Ins → Prop
  | [], [] => True
  | x :: c, x' :: c' => leX x x' ∧ leC c c'
  | _, _ => False
theorem leC_refl : ∀ c, leC c c
  | [] => trivial
  | x :: c => ⟨leX_refl x, leC_refl c⟩
theorem mono_run {ks ks' : List Int} (hk0 : ∀ x ∈ ks, 0 ≤ x) (hk : ∀ i, ks.getD i 0 ≤ ks'.getD i 0) : ∀ {c c' : List Ins} {s s' r : List Lvl}, leC c c' → (∀ x ∈ c, okX ks x) → (∀ b ∈ s, b.Ok) → leS s s' → runL ks s c = some r → ∃ r', runL ks' s' c' = some r' ∧ leS r r'
  | [], [], s, s', r, _, _, _, hs, h => by
    rw [runL_nil] at h
    injection h with h
    subst h
    exact ⟨s', rfl, hs⟩
  | x :: c, x' :: c', s, s', r, hc, hx, hok, hs, h => by
    rw [runL_cons] at h
    obtain ⟨s1, h1, h2⟩ := Option.bind_eq_some_iff.1 h
    obtain ⟨s1', h1', hs1⟩ := mono_step hk hc.1 hok hs h1
    obtain ⟨r', h2', hr⟩ := mono_run hk0 hk hc.2 (fun y hy => hx y (by simp [hy])) (stepL_ok hk0 (hx x (by simp)) hok h1) hs1 h2
    exact ⟨r', by rw [runL_cons, h1']; exact h2', hr⟩
  | [], _ :: _, _, _, _, hc, _, _, _, _ => hc.elim
  | _ :: _, [], _, _, _, hc, _, _, _, _ => hc.elim
theorem run_ok {ks : List Int} (hk : ∀ x ∈ ks, 0 ≤ x) : ∀ {c : List Ins} {s r : List Lvl}, (∀ x ∈ c, okX ks x) → (∀ b ∈ s, b.Ok) → runL ks s c = some r → ∀ b ∈ r, b.Ok
  | [], s, r, _, hok, h => by
    rw [runL_nil] at h
    injection h with h
    subst h
    exact hok
  | x :: c, s, r, hx, hok, h => by
    rw [runL_cons] at h
    obtain ⟨s1, h1, h2⟩ := Option.bind_eq_some_iff.1 h
    exact run_ok hk (fun y hy => hx y (by simp [hy])) (stepL_ok hk (hx x (by simp)) hok h1) h2

/-! the lowest level replaced, and more below it -/
def lift (f : Lvl → List Lvl) : List Lvl → List Lvl
  | [] => []
  | [b] => f b
  | b :: p :: t => b :: lift f (p :: t)
/-- The lowest level is the function's own. -/
def botOk : List Lvl → Prop
  | [] => False
  | [b] => b.op = 0 ∧ b.arg = 0 ∧ b.thn = 0 ∧ b.els = false
  | _ :: p :: t => botOk (p :: t)
theorem step_bot {ks : List Int} {s r : List Lvl} {x : Ins} (hb : botOk s) (h : stepL ks s x = some r) : botOk r := by
  match s, hb, h with
  | b :: t, hb, h =>
    have hput : ∀ (v : Int), botOk (b.plus v :: t) := fun v => by
      match t, hb with
      | [], hb => exact hb
      | _ :: _, hb => exact hb
    unfold stepL at h
    simp only at h
    split at h
    · split at h
      · simp at h
      · injection h with h; subst h; exact hb
    · split at h
      · split at h
        · simp at h
        · rename_i c3
          injection h with h; subst h
          match t, hb with
          | [], hb => exact absurd hb.1 (by intro e; rw [e] at c3; simp at c3)
          | _ :: _, hb => exact hb
      · split at h
        · match t, hb, h with
          | [], _, h => simp at h
          | [p], hb, h => simp only [Option.some.injEq] at h; subst h; exact hb
          | p :: q :: t', hb, h => simp only [Option.some.injEq] at h; subst h; exact hb
        · split at h
          · split at h
            · injection h with h; subst h; exact hput _
            · simp at h
          · split at h
            · injection h with h; subst h
              match t, hb with
              | [], hb => exact hb
              | _ :: _, hb => exact hb
            · injection h with h; subst h; exact hput _
  | [], hb, _ => exact hb.elim
theorem run_bot {ks : List Int} : ∀ {c : List Ins} {s r : List Lvl}, botOk s → runL ks s c = some r → botOk r
  | [], s, r, hb, h => by
    rw [runL_nil] at h
    injection h with h
    subst h
    exact hb
  | x :: c, s, r, hb, h => by
    rw [runL_cons] at h
    obtain ⟨s1, h1, h2⟩ := Option.bind_eq_some_iff.1 h
    exact run_bot (step_bot hb h1) h2
end Go.Proofs.Ytchmgilckiadaaa
