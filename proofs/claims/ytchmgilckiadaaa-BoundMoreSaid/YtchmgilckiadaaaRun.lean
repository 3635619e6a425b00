/- The bound of instructions, told in one pass: a stack of levels, the topmost first. -/
import Derived.Test.YtchmgilckiadaaaShq
import Derived.Test.YtchmgilckiadaaaPart3
namespace Go.Proofs.Ytchmgilckiadaaa
/-- A level: the block's operation and number, the sum so far, what stood ahead of its else, whether there is one. -/
structure Lvl where
  op : Int
  arg : Int
  sum : Int
  thn : Int
  els : Bool
def baseL : Lvl := ⟨0, 0, 0, 0, false⟩
/-- What a block costs that is closed. -/
def endF (b : Lvl) : Int :=
  if b.op = 51 then cut (costF 51 + timesF b.arg (cut (b.sum + costF 50)))
  else if b.els then cut (costF b.op + max b.thn (cut (b.sum + costF 50)))
  else cut (costF b.op + cut (b.sum + costF 50))
def Lvl.plus (b : Lvl) (x : Int) : Lvl := { b with sum := cut (b.sum + x) }
/-- One instruction; none: it is not of good shape. -/
def stepL (ks : List Int) (s : List Lvl) (x : Ins) : Option (List Lvl) :=
  match s with
  | [] => none
  | b :: t =>
    if x.1 = 48 ∨ x.1 = 51 then (if 8 < t.length + 1 then none else some (⟨x.1, x.2, 0, 0, false⟩ :: b :: t))
    else if x.1 = 49 then (if b.els = true ∨ b.op ≠ 48 then none else some (⟨b.op, b.arg, 0, cut (b.sum + costF 49), true⟩ :: t))
    else if x.1 = 50 then (match t with
      | [] => none
      | p :: t' => some (p.plus (endF b) :: t'))
    else if x.1 = 52 then (if (b :: t).any (fun l => l.op == 51) then some (b.plus (costF 52) :: t) else none)
    else if x.1 = 53 then some ((b.plus (costF 53)).plus (ks.getD x.2.toNat 0) :: t)
    else some (b.plus (costF x.1) :: t)
def runL (ks : List Int) (s : List Lvl) (c : List Ins) : Option (List Lvl) := c.foldlM (stepL ks) s
theorem runL_nil (ks : List Int) (s : List Lvl) : runL ks s [] = some s := rfl
theorem runL_cons (ks : List Int) (s : List Lvl) (x : Ins) (c : List Ins) : runL ks s (x :: c) = (stepL ks s x).bind fun s' => runL ks s' c := rfl
theorem runL_append (ks : List Int) (s : List Lvl) (c d : List Ins) : runL ks s (c ++ d) = (runL ks s c).bind fun s' => runL ks s' d := by
  simp only [runL, List.foldlM_append]; rfl

/-! cut -/
theorem cut_mono {a b : Int} (h : a ≤ b) : cut a ≤ cut b := by unfold cut; omega
theorem cut_add_cut {a b : Int} (ha : 0 ≤ a) : cut (a + cut b) = cut (a + b) := by unfold cut; omega
theorem cut_cut_add {a b : Int} (hb : 0 ≤ b) : cut (cut a + b) = cut (a + b) := by unfold cut; omega
theorem timesF_mono {a a' b b' : Int} (h0 : 0 ≤ a) (h1 : a ≤ a') (h2 : 0 ≤ b) (h3 : b ≤ b') : timesF a b ≤ timesF a' b' := by
  unfold timesF
  exact cut_mono (Int.mul_le_mul (cut_mono h1) (cut_mono h3) (cut_nn h2) (cut_nn (by omega)))
theorem timesF_nn {a b : Int} (h0 : 0 ≤ a) (h2 : 0 ≤ b) : 0 ≤ timesF a b := by
  unfold timesF
  exact cut_nn (Int.mul_nonneg (cut_nn h0) (cut_nn h2))

/-! A level is good: its numbers are not below zero. -/
structure Lvl.Ok (b : Lvl) : Prop where
  s0 : 0 ≤ b.sum
  s1 : b.sum ≤ 1048577
  t0 : 0 ≤ b.thn
  a0 : b.op = 51 → 0 ≤ b.arg
theorem endF_nn {b : Lvl} (h : b.Ok) : 0 ≤ endF b := by
  have h50 := costF_bd 50
  have h51 := costF_bd 51
  have hop := costF_bd b.op
  have hs := h.s0
  have ht := h.t0
  have hc : 0 ≤ cut (b.sum + costF 50) := cut_nn (by omega)
  unfold endF
  split
  · rename_i ho
    exact cut_nn (by have := timesF_nn (h.a0 ho) hc; omega)
  · split
    · exact cut_nn (by omega)
    · exact cut_nn (by omega)
theorem Lvl.Ok.plus {b : Lvl} (h : b.Ok) {x : Int} (hx : 0 ≤ x) : (b.plus x).Ok := ⟨cut_nn (by have := h.s0; omega), cut_le _, h.t0, h.a0⟩
/-- An instruction is good: a call of what is there, a loop of no number below zero. -/
def okX (ks : List Int) (x : Ins) : Prop := (x.1 = 53 → 0 ≤ x.2 ∧ x.2 < ks.length) ∧ (x.1 = 51 → 0 ≤ x.2)
theorem badI_ok {n : Nat} {x : Ins} (h : badI n x = false) : (x.1 = 53 → 0 ≤ x.2 ∧ x.2 < n) ∧ (x.1 = 51 → 0 ≤ x.2) := by
  simp only [badI, Bool.or_eq_false_iff, Bool.and_eq_false_iff, beq_eq_false_iff_ne, decide_eq_false_iff_not] at h
  obtain ⟨h1, h2⟩ := h
  exact ⟨fun e => by rcases h1 with h1 | h1 <;> omega, fun e => by rcases h2 with h2 | h2 <;> omega⟩
theorem ks_nn {ks : List Int} (hk : ∀ x ∈ ks, 0 ≤ x) (i : Nat) : 0 ≤ ks.getD i 0 := by
  by_cases h : i < ks.length
  · exact hk _ (getD_in h)
  · simp [List.getElem?_eq_none (Nat.le_of_not_lt h)]
theorem stepL_ok {ks : List Int} {s s' : List Lvl} {x : Ins} (hk : ∀ x ∈ ks, 0 ≤ x) (hx : okX ks x) (h : ∀ b ∈ s, b.Ok) (hs : stepL ks s x = some s') : ∀ b ∈ s', b.Ok := by
  unfold stepL at hs
  split at hs
  · simp at hs
  · rename_i b t
    have hb := h b (by simp)
    have ht : ∀ l ∈ t, l.Ok := fun l hl => h l (by simp [hl])
    have hput : ∀ {b' : Lvl} {t' : List Lvl}, b'.Ok → (∀ l ∈ t', l.Ok) → ∀ l ∈ b' :: t', l.Ok := fun h1 h2 l hl => by
      rcases List.mem_cons.1 hl with e | e
      · rw [e]; exact h1
      · exact h2 l e
    split at hs
    · split at hs
      · simp at hs
      · injection hs with hs
        subst hs
        exact hput ⟨Int.le_refl _, by show (0 : Int) ≤ 1048577; omega, Int.le_refl _, hx.2⟩ h
    · split at hs
      · split at hs
        · simp at hs
        · injection hs with hs
          subst hs
          have h49 := costF_bd 49
          have := hb.s0
          exact hput ⟨Int.le_refl _, by show (0 : Int) ≤ 1048577; omega, cut_nn (by omega), hb.a0⟩ ht
      · split at hs
        · split at hs
          · simp at hs
          · rename_i p t'
            injection hs with hs
            subst hs
            exact hput ((ht p (by simp)).plus (endF_nn hb)) fun l hl => ht l (by simp [hl])
        · split at hs
          · split at hs
            · injection hs with hs
              subst hs
              exact hput (hb.plus (costF_bd 52).1) ht
            · simp at hs
          · split at hs
            · injection hs with hs
              subst hs
              exact hput ((hb.plus (costF_bd 53).1).plus (ks_nn hk _)) ht
            · injection hs with hs
              subst hs
              exact hput (hb.plus (costF_bd x.1).1) ht
end Go.Proofs.Ytchmgilckiadaaa
