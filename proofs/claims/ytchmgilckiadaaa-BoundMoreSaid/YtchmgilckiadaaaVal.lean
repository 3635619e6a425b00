/- bound.Part's closure answers what the pass tells. -/
import Derived.Test.YtchmgilckiadaaaSpan3
import Derived.Test.YtchmgilckiadaaaPart3a
namespace Go.Proofs.Ytchmgilckiadaaa
theorem partF_mono {c : List Ins} {m ks : List Int} : ∀ {f f' i to : Nat} {n r : Int}, f ≤ f' → partF c m ks f i to n = some r → partF c m ks f' i to n = some r := by
  intro f
  induction f with
  | zero => intro f' i to n r _ h; simp [partF] at h
  | succ f ih =>
    intro f' i to n r hf h
    obtain ⟨g, rfl⟩ : ∃ g, f' = g + 1 := ⟨f' - 1, by omega⟩
    have hfg : f ≤ g := by omega
    unfold partF at h ⊢
    split at h
    · rename_i c0
      rw [if_pos c0]
      split at h
      · rename_i c1
        rw [if_pos c1]
        split at h
        · rename_i c2
          rw [if_pos c2]
          exact ih hfg h
        · simp at h
      · rename_i c1
        rw [if_neg c1]
        split at h
        · rename_i c2
          rw [if_pos c2]
          split at h
          · rename_i c3
            rw [if_pos c3]
            obtain ⟨r1, h1, h2⟩ := Option.bind_eq_some_iff.1 h
            rw [ih hfg h1, Option.bind_some]
            exact ih hfg h2
          · simp at h
        · rename_i c2
          rw [if_neg c2]
          split at h
          · rename_i c3
            rw [if_pos c3]
            split at h
            · rename_i c4
              rw [if_pos c4]
              obtain ⟨r1, h1, h2⟩ := Option.bind_eq_some_iff.1 h
              rw [ih hfg h1, Option.bind_some]
              split at h2
              · rename_i c5
                rw [if_pos c5]
                split at h2
                · rename_i c6
                  rw [if_pos c6]
                  obtain ⟨r2, h3, h4⟩ := Option.bind_eq_some_iff.1 h2
                  rw [ih hfg h3, Option.bind_some]
                  exact ih hfg h4
                · simp at h2
              · rename_i c5
                rw [if_neg c5]
                exact ih hfg h2
            · simp at h
          · rename_i c3
            rw [if_neg c3]
            exact ih hfg h
    · rename_i c0
      rw [if_neg c0]
      exact h
def svAt (ks : List Int) (c : List Ins) (k : Nat) : List Lvl := (runL ks [baseL] (c.take k)).getD []
theorem sv_some {ks : List Int} {c : List Ins} (hs : (scanF c).isSome = true) {k : Nat} (hk : k ≤ c.length) : runL ks [baseL] (c.take k) = some (svAt ks c k) ∧ Same c (stAt c k).1 (svAt ks c k) := by
  have h := sim_to (ks := ks) hk
  rw [stAt_some hs hk] at h
  unfold svAt
  cases hr : runL ks [baseL] (c.take k) with
  | none => rw [hr] at h; exact h.elim
  | some r => rw [hr] at h; exact ⟨rfl, h⟩
theorem sv_step {ks : List Int} {c : List Ins} (hs : (scanF c).isSome = true) {k : Nat} (hk : k < c.length) : stepL ks (svAt ks c k) (c.getD k (0, 0)) = some (svAt ks c (k + 1)) := by
  have h1 := (sv_some (ks := ks) hs (Nat.le_of_lt hk)).1
  have h2 := (sv_some (ks := ks) hs (Nat.succ_le_of_lt hk)).1
  rw [run_take c hk, h1] at h2
  exact h2
theorem sv_ok {ks : List Int} {c : List Ins} (hs : (scanF c).isSome = true) (hk : ∀ x ∈ ks, 0 ≤ x) (hx : ∀ x ∈ c, okX ks x) {k : Nat} (h : k ≤ c.length) : ∀ b ∈ svAt ks c k, b.Ok :=
  run_ok hk (fun x hxx => hx x (List.mem_of_mem_take hxx)) baseL_ok (sv_some hs h).1
theorem sum_plus {a x : Int} (h0 : 0 ≤ a) (h1 : a ≤ 1048577) : sumF [a, x] = cut (a + x) := by rw [sumF_two a x h1, cut_add_cut h0]
set_option maxHeartbeats 1000000 in
theorem part_val {ks : List Int} {c : List Ins} {M : List Int} (hs : scanF c = some M) (hk : ∀ x ∈ ks, 0 ≤ x) (hx : ∀ x ∈ c, okX ks x) : ∀ (len i to : Nat), to - i ≤ len → i ≤ to → to ≤ c.length → lenAt c to = lenAt c i →
    (∀ q, i ≤ q → q < to → lenAt c i ≤ lenAt c q ∧ (lenAt c q = lenAt c i → opAt c q ≠ 49 ∧ opAt c q ≠ 50)) → ∀ b t, svAt ks c i = b :: t →
    ∃ f s', svAt ks c to = { b with sum := s' } :: t ∧ partF c M ks f i to b.sum = some s' := by
  have hs' : (scanF c).isSome = true := by rw [hs]; rfl
  intro len
  induction len with
  | zero =>
    intro i to h1 h2 h3 h4 h5 b t hb
    obtain rfl : i = to := by omega
    exact ⟨1, b.sum, by rw [hb], by unfold partF; rw [if_neg (Nat.lt_irrefl _)]⟩
  | succ len ih =>
    intro i to h1 h2 h3 h4 h5 b t hb
    by_cases hit : i = to
    · subst hit
      exact ⟨1, b.sum, by rw [hb], by unfold partF; rw [if_neg (Nat.lt_irrefl _)]⟩
    · have hlt : i < to := by omega
      have hin : i < c.length := by omega
      have hst := sv_step (ks := ks) hs' hin
      have hbo := sv_ok hs' hk hx (Nat.le_of_lt hin) b (by rw [hb]; simp)
      have hnx := (h5 i (Nat.le_refl _) hlt).2 rfl
      have hxi := hx (c.getD i (0, 0)) (getD_in hin)
      have hlen := scan_len hs' hin
      have hoi : opAt c i = (c.getD i (0, 0)).1 := rfl
      rw [hb] at hst
      generalize hxx : c.getD i (0, 0) = x at hst hxi hoi
      obtain ⟨o, a⟩ := x
      simp only at hoi
      rw [hoi] at hnx hlen
      unfold okX at hxi
      simp only at hxi
      unfold stepL at hst
      simp only at hst
      have hplain : ∀ (v : Int), (o ≠ 48 ∧ o ≠ 51) → svAt ks c (i + 1) = b.plus v :: t → ∃ f s', svAt ks c to = { b with sum := s' } :: t ∧ partF c M ks f (i + 1) to (b.plus v).sum = some s' := by
        intro v ho hsv
        rw [if_neg (by omega), if_neg hnx.2] at hlen
        obtain ⟨f, s', e1, e2⟩ := ih (i + 1) to (by omega) (by omega) h3 (by omega) (fun q hq1 hq2 => by
          have := h5 q (by omega) hq2
          exact ⟨by omega, fun e => this.2 (by omega)⟩) _ _ hsv
        exact ⟨f, s', e1, e2⟩
      by_cases c53 : o = 53
      · subst c53
        simp only [show ¬((53 : Int) = 48 ∨ (53 : Int) = 51) by omega, show ¬((53 : Int) = 49) by omega, show ¬((53 : Int) = 50) by omega, show ¬((53 : Int) = 52) by omega, if_false, if_true, Option.some.injEq] at hst
        have hpl := hplain (costF 53 + ks.getD a.toNat 0) ⟨by omega, by omega⟩ (by
          rw [← hst]
          simp only [Lvl.plus]
          rw [cut_cut_add (ks_nn hk _), Int.add_assoc])
        obtain ⟨f, s', e1, e2⟩ := hpl
        refine ⟨f + 1, s', e1, ?_⟩
        unfold partF
        rw [if_pos hlt, hxx]
        simp only [if_true]
        rw [if_pos (hxi.1 rfl)]
        have hcb := costF_bd 53
        rw [sum_plus hbo.s0 hbo.s1, sum_plus (cut_nn (by have := hbo.s0; omega)) (cut_le _), cut_cut_add (ks_nn hk _), Int.add_assoc]
        exact e2
      · by_cases c51 : o = 51
        · subst c51
          simp only [or_true, if_true] at hst
          split at hst
          · simp at hst
          · simp only [Option.some.injEq] at hst
            simp only [or_true, if_true] at hlen
            obtain ⟨e, he1, he2, he3, he4, he5, he6, hM⟩ := block_ends hs (i := i) (to := to) (.inr hoi) hlt h3 (by omega)
            have hseg : ∀ y, i < y → y ≤ e → lenAt c y = lenAt c i + 1 → (∀ q, i < q → q < y → lenAt c q = lenAt c i + 1 → opAt c q ≠ 49) → ∃ f s', svAt ks c y = ⟨51, a, s', 0, false⟩ :: b :: t ∧ partF c M ks f (i + 1) y 0 = some s' := by
              intro y hy1 hy2 hy3 hy4
              obtain ⟨f, s', e1, e2⟩ := ih (i + 1) y (by omega) (by omega) (by omega) (by omega) (fun q hq1 hq2 => ⟨by have := he6 q (by omega) (by omega); omega, fun eq => ⟨hy4 q (by omega) hq2 (by omega), fun e50 => by
                have h6 := scan_len hs' (q := q) (by omega)
                rw [if_neg (by omega), if_pos e50] at h6
                have := he6 (q + 1) (by omega) (by omega)
                omega⟩⟩) _ _ hst.symm
              exact ⟨f, s', e1, e2⟩
            rcases hM with ⟨hMi, hno⟩ | ⟨x, hx1, hx2, hx3, hx4, hMi, hMx, hno⟩
            · obtain ⟨f1, s1, e1, e2⟩ := hseg e he1 (Nat.le_refl _) he4 hno
              have hste := sv_step (ks := ks) hs' (k := e) (by omega)
              have hoe : (c.getD e (0, 0)).1 = 50 := he3
              have hs1 := sv_ok hs' hk hx (k := e) (by omega) ⟨51, a, s1, 0, false⟩ (by rw [e1]; simp)
              rw [e1] at hste
              unfold stepL at hste
              simp only [hoe] at hste
              simp only [show ¬((50 : Int) = 48 ∨ (50 : Int) = 51) by omega, show ¬((50 : Int) = 49) by omega, if_false, if_true, Option.some.injEq] at hste
              obtain ⟨f2, s', e3, e4⟩ := ih (e + 1) to (by omega) (by omega) h3 (by omega) (fun q hq1 hq2 => by
                have := h5 q (by omega) hq2
                exact ⟨by omega, fun e => this.2 (by omega)⟩) _ _ hste.symm
              refine ⟨max f1 f2 + 1, s', e3, ?_⟩
              unfold partF
              rw [if_pos hlt, hxx]
              simp only [show ¬((51 : Int) = 53) by omega, if_false, if_true]
              rw [hMi, if_pos ⟨hxi.2 rfl, by omega, by omega⟩, Int.toNat_natCast, partF_mono (Nat.le_max_left f1 f2) e2, Option.bind_some]
              refine partF_mono (Nat.le_max_right f1 f2) ?_
              have hcb := costF_bd 51
              have hcb5 := costF_bd 50
              have hsz := hs1.s0
              have hsz1 := hs1.s1
              simp only at hsz hsz1
              have htn := timesF_nn (hxi.2 rfl) (cut_nn (show 0 ≤ s1 + costF 50 by omega))
              rw [← e4]
              congr 1
              rw [sum_plus hsz hsz1, sum_plus hbo.s0 hbo.s1, sum_plus (cut_nn (by have := hbo.s0; omega)) (cut_le _), cut_cut_add htn]
              simp only [Lvl.plus, endF, if_true]
              rw [cut_add_cut hbo.s0, Int.add_assoc]
            · exfalso
              obtain ⟨f1, s1, e1, _⟩ := hseg x hx1 (by omega) hx4 (fun q h6 h7 h8 => hno q h6 (by omega) (by omega) h8)
              have hstx := sv_step (ks := ks) hs' (k := x) (by omega)
              have hox : (c.getD x (0, 0)).1 = 49 := hx3
              rw [e1] at hstx
              unfold stepL at hstx
              simp only [hox] at hstx
              simp at hstx
        · by_cases c48 : o = 48
          · subst c48
            simp only [true_or, if_true] at hst
            split at hst
            · simp at hst
            · simp only [Option.some.injEq] at hst
              simp only [true_or, if_true] at hlen
              obtain ⟨e, he1, he2, he3, he4, he5, he6, hM⟩ := block_ends hs (i := i) (to := to) (.inl hoi) hlt h3 (by omega)
              have hseg : ∀ y, i < y → y ≤ e → lenAt c y = lenAt c i + 1 → (∀ q, i < q → q < y → lenAt c q = lenAt c i + 1 → opAt c q ≠ 49) → ∃ f s', svAt ks c y = ⟨48, a, s', 0, false⟩ :: b :: t ∧ partF c M ks f (i + 1) y 0 = some s' := by
                intro y hy1 hy2 hy3 hy4
                obtain ⟨f, s', e1, e2⟩ := ih (i + 1) y (by omega) (by omega) (by omega) (by omega) (fun q hq1 hq2 => ⟨by have := he6 q (by omega) (by omega); omega, fun eq => ⟨hy4 q (by omega) hq2 (by omega), fun e50 => by
                  have h6 := scan_len hs' (q := q) (by omega)
                  rw [if_neg (by omega), if_pos e50] at h6
                  have := he6 (q + 1) (by omega) (by omega)
                  omega⟩⟩) _ _ hst.symm
                exact ⟨f, s', e1, e2⟩
              have hcb := costF_bd 48
              have hcb9 := costF_bd 49
              have hcb5 := costF_bd 50
              have hste := sv_step (ks := ks) hs' (k := e) (by omega)
              have hoe : (c.getD e (0, 0)).1 = 50 := he3
              have hrest : ∀ bb, svAt ks c (e + 1) = bb :: t → ∃ f s', svAt ks c to = { bb with sum := s' } :: t ∧ partF c M ks f (e + 1) to bb.sum = some s' := fun bb hbb =>
                ih (e + 1) to (by omega) (by omega) h3 (by omega) (fun q hq1 hq2 => by
                  have := h5 q (by omega) hq2
                  exact ⟨by omega, fun e => this.2 (by omega)⟩) _ _ hbb
              rcases hM with ⟨hMi, hno⟩ | ⟨x, hx1, hx2, hx3, hx4, hMi, hMx, hno⟩
              · obtain ⟨f1, s1, e1, e2⟩ := hseg e he1 (Nat.le_refl _) he4 hno
                have hs1 := sv_ok hs' hk hx (k := e) (by omega) ⟨48, a, s1, 0, false⟩ (by rw [e1]; simp)
                rw [e1] at hste
                unfold stepL at hste
                simp only [hoe] at hste
                simp only [show ¬((50 : Int) = 48 ∨ (50 : Int) = 51) by omega, show ¬((50 : Int) = 49) by omega, if_false, if_true, Option.some.injEq] at hste
                obtain ⟨f2, s', e3, e4⟩ := hrest _ hste.symm
                refine ⟨max f1 f2 + 1, s', e3, ?_⟩
                unfold partF
                rw [if_pos hlt, hxx]
                simp only [show ¬((48 : Int) = 53) by omega, show ¬((48 : Int) = 51) by omega, if_false, if_true]
                rw [hMi, if_pos ⟨by omega, by omega⟩, Int.toNat_natCast, partF_mono (Nat.le_max_left f1 f2) e2, Option.bind_some, hoe, if_neg (by omega)]
                refine partF_mono (Nat.le_max_right f1 f2) ?_
                have hsz := hs1.s0
                have hsz1 := hs1.s1
                simp only at hsz hsz1
                rw [← e4]
                congr 1
                rw [sum_plus hsz hsz1, sum_plus hbo.s0 hbo.s1, sum_plus (cut_nn (by have := hbo.s0; omega)) (cut_le _), cut_cut_add (cut_nn (by omega))]
                simp only [Lvl.plus, endF]
                simp only [show ¬((48 : Int) = 51) by omega, if_false, Bool.false_eq_true]
                rw [cut_add_cut hbo.s0, Int.add_assoc]
              · obtain ⟨f1, s1, e1, e2⟩ := hseg x hx1 (by omega) hx4 (fun q h6 h7 h8 => hno q h6 (by omega) (by omega) h8)
                have hs1 := sv_ok hs' hk hx (k := x) (by omega) ⟨48, a, s1, 0, false⟩ (by rw [e1]; simp)
                have hstx := sv_step (ks := ks) hs' (k := x) (by omega)
                have hox : (c.getD x (0, 0)).1 = 49 := hx3
                have hlx := scan_len hs' (q := x) (by omega)
                rw [if_neg (by omega), if_neg (by omega)] at hlx
                rw [e1] at hstx
                unfold stepL at hstx
                simp only [hox] at hstx
                simp only [show ¬((49 : Int) = 48 ∨ (49 : Int) = 51) by omega, if_false, if_true, Bool.false_eq_true, ne_eq, not_true_eq_false, or_self, Option.some.injEq] at hstx
                obtain ⟨f2, s2, e3, e4⟩ := ih (x + 1) e (by omega) (by omega) (by omega) (by omega) (fun q hq1 hq2 => ⟨by have := he6 q (by omega) (by omega); omega, fun eq => ⟨hno q (by omega) hq2 (by omega) (by omega), fun e50 => by
                  have h6 := scan_len hs' (q := q) (by omega)
                  rw [if_neg (by omega), if_pos e50] at h6
                  have := he6 (q + 1) (by omega) (by omega)
                  omega⟩⟩) _ _ hstx.symm
                have hs2 := sv_ok hs' hk hx (k := e) (by omega) ⟨48, a, s2, cut (s1 + costF 49), true⟩ (by rw [e3]; simp)
                rw [e3] at hste
                unfold stepL at hste
                simp only [hoe] at hste
                simp only [show ¬((50 : Int) = 48 ∨ (50 : Int) = 51) by omega, show ¬((50 : Int) = 49) by omega, if_false, if_true, Option.some.injEq] at hste
                obtain ⟨f3, s', e5, e6⟩ := hrest _ hste.symm
                refine ⟨max f1 (max f2 f3) + 1, s', e5, ?_⟩
                unfold partF
                rw [if_pos hlt, hxx]
                simp only [show ¬((48 : Int) = 53) by omega, show ¬((48 : Int) = 51) by omega, if_false, if_true]
                rw [hMi, if_pos ⟨by omega, by omega⟩, Int.toNat_natCast, partF_mono (Nat.le_max_left f1 _) e2, Option.bind_some, hox, if_pos rfl, hMx, if_pos ⟨by omega, by omega⟩, Int.toNat_natCast,
                  partF_mono (Nat.le_trans (Nat.le_max_left f2 f3) (Nat.le_max_right f1 _)) e4, Option.bind_some]
                refine partF_mono (Nat.le_trans (Nat.le_max_right f2 f3) (Nat.le_max_right f1 _)) ?_
                have hsz := hs1.s0
                have hsz1 := hs1.s1
                have hsy := hs2.s0
                have hsy1 := hs2.s1
                simp only at hsz hsz1 hsy hsy1
                have hm0 : 0 ≤ max (cut (s1 + costF 49)) (cut (s2 + costF 50)) := by have := cut_nn (show 0 ≤ s1 + costF 49 by omega); omega
                rw [← e6]
                congr 1
                rw [sum_plus hsz hsz1, sum_plus hsy hsy1, sum_plus hbo.s0 hbo.s1, sum_plus (cut_nn (by have := hbo.s0; omega)) (cut_le _), cut_cut_add hm0]
                simp only [Lvl.plus, endF]
                simp only [show ¬((48 : Int) = 51) by omega, if_false, if_true]
                rw [cut_add_cut hbo.s0, Int.add_assoc]
          · have hpl : ∃ f s', svAt ks c to = { b with sum := s' } :: t ∧ partF c M ks f (i + 1) to (b.plus (costF o)).sum = some s' := by
              refine hplain (costF o) ⟨c48, c51⟩ ?_
              rw [if_neg (by omega), if_neg hnx.1, if_neg hnx.2] at hst
              by_cases c52 : o = 52
              · subst c52
                rw [if_pos rfl] at hst
                split at hst
                · injection hst with hst; exact hst.symm
                · simp at hst
              · rw [if_neg c52, if_neg c53] at hst
                injection hst with hst; exact hst.symm
            obtain ⟨f, s', e1, e2⟩ := hpl
            refine ⟨f + 1, s', e1, ?_⟩
            unfold partF
            rw [if_pos hlt, hxx]
            simp only
            rw [if_neg c53, if_neg c51, if_neg c48, sum_plus hbo.s0 hbo.s1]
            exact e2
end Go.Proofs.Ytchmgilckiadaaa
