/- What bound.Part answers, in plain words. -/
import Derived.Test.YtchmgilckiadaaaVal
namespace Go.Proofs.Ytchmgilckiadaaa
theorem part_whole {ks : List Int} {c : List Ins} {M : List Int} {r : Int} (hs : scanF c = some M) (hk : ∀ x ∈ ks, 0 ≤ x) (hx : ∀ x ∈ c, okX ks x) (hr : boundV ks c = some r) : ∃ f, partF c M ks f 0 c.length 0 = some r := by
  have hs' : (scanF c).isSome = true := by rw [hs]; rfl
  have h0 : lenAt c 0 = 0 := rfl
  have hn : lenAt c c.length = 0 := by unfold lenAt; rw [stAt_end hs]; rfl
  obtain ⟨f, s', h1, h2⟩ := part_val hs hk hx c.length 0 c.length (by omega) (Nat.zero_le _) (Nat.le_refl _) (by omega) (fun q _ hq => ⟨by omega, fun hl => by
    have hst := stAt_step hs' hq
    have hnil : (stAt c q).1 = [] := List.length_eq_zero_iff.1 (by unfold lenAt at hl; rw [hl]; exact h0)
    have e : stAt c q = ([], (stAt c q).2) := Prod.ext hnil rfl
    rw [e] at hst
    unfold scanStep at hst
    simp only at hst
    constructor
    · intro ho
      rw [if_neg (by omega), if_pos ho] at hst
      simp at hst
    · intro ho
      rw [if_neg (by omega), if_neg (by omega), if_pos ho] at hst
      simp at hst⟩) baseL [] rfl
  have h3 := (sv_some (ks := ks) hs' (Nat.le_refl c.length)).1
  rw [List.take_length, h1] at h3
  rw [boundV_of h3] at hr
  injection hr with hr
  simp only at hr
  subst hr
  exact ⟨f, h2⟩
/-- The bound, and the error's number. -/
def partOut (ks : List Int) (c : List Ins) : Int × Int :=
  match boundV ks c with
  | none => (0, 31)
  | some r => if (c.any (badI ks.length) || ks.any fun x => decide (x < 0)) = true then (0, 1) else (r, 0)
theorem bad_ok {ks : List Int} {c : List Ins} (h : c.any (badI ks.length) = false) : ∀ x ∈ c, okX ks x := fun x hx => by
  have := List.any_eq_false.1 h x hx
  exact badI_ok (by simpa using this)
theorem ks_ok {ks : List Int} (h : (ks.any fun x => decide (x < 0)) = false) : ∀ x ∈ ks, 0 ≤ x := fun x hx => by
  have := List.any_eq_false.1 h x hx
  simpa using this
theorem mem_set_bd {m : List Int} {k : Nat} {v lo hi : Int} (hv : lo ≤ v ∧ v ≤ hi) (h : ∀ x ∈ m, lo ≤ x ∧ x ≤ hi) : ∀ x ∈ m.set k v, lo ≤ x ∧ x ≤ hi := fun x hx => by
  rcases List.mem_or_eq_of_mem_set hx with h1 | h1
  · exact h x h1
  · rw [h1]; exact hv
theorem mem_fold_bd {v lo hi : Int} (hv : lo ≤ v ∧ v ≤ hi) : ∀ (ks : List Nat) {m : List Int}, (∀ x ∈ m, lo ≤ x ∧ x ≤ hi) → ∀ x ∈ ks.foldl (fun m k => m.set k v) m, lo ≤ x ∧ x ≤ hi
  | [], _, h => h
  | _ :: r, _, h => mem_fold_bd hv r (mem_set_bd hv h)
theorem scan_vals {c : List Ins} : ∀ {k : Nat} {st : List Blk × List Int}, k ≤ c.length → scanTo c k = some st → ∀ x ∈ st.2, -1 ≤ x ∧ x ≤ c.length
  | 0, st, _, h => by
    simp only [scanTo, Option.some.injEq] at h
    subst h
    intro x hx
    have := List.eq_of_mem_replicate hx
    omega
  | k + 1, st', hk, h => by
    simp only [scanTo] at h
    cases h1 : scanTo c k with
    | none => rw [h1] at h; simp at h
    | some st =>
      rw [h1, Option.bind_some] at h
      have ih := scan_vals (k := k) (by omega) h1
      have hok := scanTo_ok h1
      obtain ⟨l, m⟩ := st
      unfold scanStep at h
      simp only at h ih
      split at h
      · split at h
        · simp at h
        · injection h with h; subst h; exact ih
      · split at h
        · split at h
          · simp at h
          · split at h
            · simp at h
            · injection h with h; subst h
              exact mem_set_bd ⟨by omega, by omega⟩ ih
        · split at h
          · split at h
            · simp at h
            · rename_i b hl
              injection h with h; subst h
              have hb := (hok.blk b (by show b ∈ l; rw [getLast_split hl]; simp)).at_
              exact mem_fold_bd ⟨by omega, by omega⟩ _ (mem_set_bd ⟨by omega, by omega⟩ (mem_set_bd ⟨by omega, by omega⟩ ih))
          · split at h
            · split at h
              · simp at h
              · injection h with h; subst h; exact ih
            · injection h with h; subst h; exact ih
theorem scanF_vals {c : List Ins} {m : List Int} (h : scanF c = some m) : ∀ x ∈ m, -1 ≤ x ∧ x ≤ c.length := by
  have h1 := scan_vals (Nat.le_refl _) (stAt_some (c := c) (by rw [h]; rfl) (Nat.le_refl _))
  rw [stAt_end h] at h1
  exact h1
end Go.Proofs.Ytchmgilckiadaaa
