/- ref09.Part: what it answers. -/
import Derived.Test.YtchmgilckiadaaaLvls
namespace Go.Proofs.Ytchmgilckiadaaa
open Go.RowKit
theorem info_lvl : (Try.prog.info? 97).map (fun i => (i.zero, i.size, i.bytes)) = some (some (.agg #[.int .i64 0, .int .i64 0, .int .i64 0, .int .i64 0, .bool false]), 5, 40) := by kernel_rfl
theorem below_grown {w u w3 : World} {v : Value} (hb : Below w.heap.size w u) (hg : u.grownBy w3 v.ownBlock) (hne : ∀ q, v.ownBlock = some q → w.heap.size ≤ q) : Below w.heap.size w w3 :=
  hb.trans ⟨hg.os, hg.tape, hg.output, hg.size, fun q hq => hg.block q (Nat.lt_of_lt_of_le hq hb.size) (fun hh => by have := hne q hh.symm; omega)⟩
set_option maxRecDepth 100000 in
set_option maxHeartbeats 4000000 in
theorem partR_any (vc vk : Value) (c : List Ins) (ks : List Int) (w : World) (hc : Code_ w vc c) (hk : Ints w vk ks) (hl : c.length ≤ 600) :
    Calls Try.prog 28 #[vc, vk] w fun e w' => e = .returned (.tuple #[.int .i64 (partOut ks c).1, .int .i64 (partOut ks c).2]) ∧ Below w.heap.size w w' := by
  have hkl := hk.len
  have HC := Lib.hid hc
  have HK := Lib.hid hk
  obtain ⟨A, kc, rfl, hr⟩ := hc.open_
  obtain ⟨A2, k2, rfl, hr2⟩ := hk.open_
  have HR := Lib.hid hr
  have HR2 := Lib.hid hr2
  have hsb := scan_bound (ks := ks) (c := c)
  cases hv : boundV ks c with
  | none =>
    have hout : partOut ks c = (0, 31) := by unfold partOut; rw [hv]
    have hsn : (if (scanF c).isSome = true then (0 : Int) else 31) = 31 := by rw [hsb, hv]; rfl
    rw [hout]
    clear hc hk hr hr2
    go_enter Try.func28, Try.ntmps28
    go_wp2_with (first
      | (go_at_call 82; (with_reducible refine (matchR_any _ c _ HC.out hl).mono ?_); rw [hsn]; go_must (rintro e w1 ⟨⟨vm, rfl⟩, hb1⟩)))
    go_ret2
    exact ⟨rfl, hb1⟩
  | some r =>
    have hsn : (if (scanF c).isSome = true then (0 : Int) else 31) = 0 := by rw [hsb, hv]; rfl
    have hout : partOut ks c = if fineB c ks = true then (r, 0) else (0, 1) := by
      unfold partOut fineB
      rw [hv]
      simp only
      cases c.any (badI ks.length) || ks.any fun x => decide (x < 0) <;> rfl
    cases hfine : fineB c ks with
    | false =>
      rw [hfine, if_neg (by simp)] at hout
      rw [hout]
      clear hc hk hr hr2
      go_enter Try.func28, Try.ntmps28
      go_wp2_with (first
        | (go_at_call 82; (with_reducible refine (matchR_any _ c _ HC.out hl).mono ?_); rw [hsn]; go_must (rintro e w1 ⟨⟨vm, rfl⟩, hb1⟩))
        | (go_at_call 83; (with_reducible refine (fine_any _ _ c ks _ (HC.out.ext hb1) (HK.out.ext hb1) hl).mono ?_); rw [hfine]; rintro e w2 ⟨rfl, rfl⟩))
      go_ret2
      exact ⟨rfl, hb1⟩
    | true =>
      rw [hfine, if_pos rfl] at hout
      rw [hout]
      have hbad : c.any (badI ks.length) = false ∧ (ks.any fun x => decide (x < 0)) = false := by
        unfold fineB at hfine
        simpa using hfine
      have hxo := bad_ok hbad.1
      have hkn := ks_ok hbad.2
      have hrun := boundV_run hv
      have HX := Lib.hid hxo
      have HKN := Lib.hid hkn
      have HRUN := Lib.hid hrun
      clear hc hk hr hr2 hbad hxo hkn hrun hout hv hsb
      go_enter Try.func28, Try.ntmps28
      go_upto_region 6 with (first
        | (go_at_call 82; (with_reducible refine (matchR_any _ c _ HC.out hl).mono ?_); rw [hsn]; go_must (rintro e w1 ⟨⟨vm, rfl⟩, hb1⟩))
        | (go_at_call 83; (with_reducible refine (fine_any _ _ c ks _ (HC.out.ext hb1) (HK.out.ext hb1) hl).mono ?_); rw [hfine]; rintro e w2 ⟨rfl, rfl⟩))
      have hR0 : LRow w (w1.alloc (.cells #[.int .i64 0, .int .i64 0, .int .i64 0, .int .i64 0, .bool false] 97)) w1.heap.size 1 0 baseL [] :=
        ⟨⟨rfl, .inr ⟨_, 1, _, rfl, hb1.size, World.alloc_heap_new w1 _, Nat.le_refl _, by decide, rfl, rfl⟩⟩, rfl, hb1.trans ((below_new w1 _).mono hb1.size)⟩
      have HR0 := Lib.hid hR0
      have HB1 := Lib.hid hb1
      clear hR0 hb1
      go_wp2
      go_loopw [8, 9] (fun l i wr => ∃ (k q cap d : Nat) (b : Lvl) (t : List Lvl), k ≤ c.length ∧ i = .int .i64 k ∧ l = .slice (some ⟨q, 0, none⟩) (d + 1) cap ∧ runL ks [baseL] (c.take k) = some (b :: t) ∧ (∀ y ∈ b :: t, y.thn ≤ 1048577) ∧ d + 1 ≤ 9 ∧ LRow w wr q cap d b t) (fun _ i _ => c.length - (intOf i).toNat)
      case atStart => exact ⟨0, w1.heap.size, 1, 0, baseL, [], Nat.zero_le _, rfl, rfl, rfl, by simp [baseL], by omega, HR0.out⟩
      case round =>
        clear HR0
        obtain ⟨k, q, cap, d, b, t, hk, rfl, rfl, hrn, hth, hd9, hrow⟩ := hrel
        by_cases hlt : k < c.length
        · obtain ⟨b0, off, rfl, hd1, hd2⟩ := HR.out k hlt
          have hd1 := (hrow.below.cell (World.block_lt_of_cell? w _ hd1)).trans hd1
          have hd2 := (hrow.below.cell (World.block_lt_of_cell? w _ hd2)).trans hd2
          have hok := run_ok HKN.out (fun x hx => HX.out x (List.mem_of_mem_take hx)) baseL_ok hrn
          obtain ⟨s', hst, hrn'⟩ := run_some HRUN.out hlt hrn
          have hth' := thn_step hth hst
          have hxk := HX.out _ (getD_in (d := ((0, 0) : Ins)) hlt)
          have hb := hok b (by simp)
          have hbt := hth b (by simp)
          have hge := hrow.ge
          have hrl := hrow.len
          have hat := hrow.at_
          have hdp := step_deep (show (b :: t).length ≤ 9 by simp only [List.length_cons]; omega) hst
          have hk0 : (0 : Int) ≤ k := by omega
          have hk1 : (k : Int) < (c.length : Int) := by omega
          have hx : c.getD k (0, 0) = ((c.getD k (0, 0)).1, (c.getD k (0, 0)).2) := rfl
          rw [hx] at hst hxk
          have hi64 := code_i64 HC.out.i64 k
          generalize (c.getD k (0, 0)).1 = o at *
          generalize (c.getD k (0, 0)).2 = a at *
          obtain ⟨⟨hi1, hi2⟩, hi3, hi4⟩ := hi64
          unfold stepL at hst
          simp only at hst
          have HRN' := Lib.hid hrn'
          have HTH' := Lib.hid hth'
          have HROW := Lib.hid hrow
          have HOK := Lib.hid hok
          have HTH := Lib.hid hth
          have HDP := Lib.hid hdp
          have HXK := Lib.hid hxk
          obtain ⟨s0, s1, t0, a0⟩ := hb
          clear hrn' hth' hrow hrn hok hth hx hat hge hdp hxk
          have hc0 := costF_bd o
          have hw0 : w.heap.size < wr.heap.size := by have := HROW.out.ge; omega
          have hfin : ∀ (k' q' cap' d' : Nat) (w9 : World) (b' : Lvl) (t' : List Lvl), s' = b' :: t' → LRow w w9 q' cap' d' b' t' → k' = k + 1 → ∃ (k1 q1 cap1 d1 : Nat) (b1 : Lvl) (t1 : List Lvl), k1 ≤ c.length ∧ Value.int .i64 (k' : Int) = .int .i64 k1 ∧ Value.slice (some ⟨q', 0, none⟩) (d' + 1) cap' = .slice (some ⟨q1, 0, none⟩) (d1 + 1) cap1 ∧ runL ks [baseL] (c.take k1) = some (b1 :: t1) ∧ (∀ y ∈ b1 :: t1, y.thn ≤ 1048577) ∧ d1 + 1 ≤ 9 ∧ LRow w w9 q1 cap1 d1 b1 t1 := by
            rintro k' q' cap' d' w9 b' t' rfl h2 rfl
            refine ⟨k + 1, q', cap', d', b', t', by omega, rfl, rfl, HRN'.out, HTH'.out, ?_, h2⟩
            have h3 := HDP.out
            have h4 := h2.len
            simp only [List.length_cons] at h3
            omega
          have HFIN := Lib.hid hfin
          clear hfin HRN' HTH' HDP
          go_upto_block 2 with (first
            | (go_at_call 84; (with_reducible refine (costr_any _ _).mono ?_); go_must (rintro e w2 ⟨rfl, hb2⟩; have HROW2 := Lib.hid (HROW.out.ext hb2); have hd1 := cell_ext hd1 hb2; have hd2 := cell_ext hd2 hb2; clear hb2)))
          obtain ⟨hl0, hl1, hl2, hl3, hl4⟩ := HROW2.out.at_
          have hge2 := HROW2.out.ge
          obtain ⟨hq0, hq1, hq2, hq3⟩ := hge2
          have hq22 := hq2 (d * 5 + 2)
          have hq23 := hq2 (d * 5 + 3)
          have hq24 := hq2 (d * 5 + 4)
          clear hq2
          by_cases c1 : o = 48 ∨ o = 51
          · -- part open
            rw [if_pos c1] at hst
            split at hst
            · simp at hst
            · injection hst with hst
              have HST := Lib.hid hst
              clear hst
              obtain ⟨i0, hi, hz0, hz1, hz2⟩ := info_parts info_lvl
              have hs2 := HROW2.out.below.size
              rcases c1 with rfl | rfl
              all_goals
                go_wp2_with (fail)
                go_region_law (refine step_append_lies _ rfl (.tmp 61) (.tmp 73) 98 rfl w.heap.size 97 i0 _ 5 40 Try.underlying98 hi hz0 hz1 hz2 rfl (by decide) _ (d + 1) _ (by simp [Act.eval, Act.put]) (own_ext HROW2.out.own (below_new _ _).drew) ⟨_, 0, none⟩ 1 1 _ (by simp [Act.eval, Act.put]) rfl (World.news_of_block (heap_alloc_new w2 _)) (by simp [Value.oneCell']) (by omega) (by unfold maxLen; omega) (by omega) (by simp; omega) _ rfl ?_; intro g cap' w3 hown hg hat hgl)
                all_goals
                  have hm : ∀ o' a', w3.ownsRow w.heap.size 97 5 (.slice (some ⟨g, 0, none⟩) (d + 1 + 1) cap') (d + 1 + 1) ((lvlCells t.reverse ++ [.int .i64 b.op, .int .i64 b.arg, .int .i64 b.sum, .int .i64 b.thn, .bool b.els]) ++ [.int .i64 o', .int .i64 a', .int .i64 0, .int .i64 0, .bool false]) → LRow w w3 g cap' (d + 1) ⟨o', a', 0, 0, false⟩ (b :: t) := fun o' a' h => by
                    refine ⟨?_, by simp [hrl], below_grown ((HROW2.out.below.trans ((below_new w2 _).mono hs2)).drew) hg (fun q' hq' => ?_)⟩
                    · rw [List.reverse_cons, lvlCells_snoc]; exact h
                    · simp only [Value.ownBlock, Option.some.injEq] at hq'; omega
                  have HM := Lib.hid (hm _ _ hown)
                  clear hm hown hg hat hgl
                  go_wp2
                  go_roundw
                  case rel => first | exact HFIN.out _ _ _ _ _ _ _ HST.out.symm HM.out rfl | exact HFIN.out _ _ _ _ _ _ _ HST.out.symm (HM.out.ext (Below.refl _ _).drew) rfl
                  case measure => simp [intOf]; omega
            -- end open
          · rw [if_neg c1] at hst
            have e48 : (o == 48) = false := by simpa using fun e => c1 (.inl e)
            have e51 : (o == 51) = false := by simpa using fun e => c1 (.inr e)
            by_cases c2 : o = 49
            · -- part els
              rw [if_pos c2] at hst
              split at hst
              · simp at hst
              · injection hst with hst
                subst c2
                have hm1 := HROW2.out.thn (cut (b.sum + costF 49))
                have hg1 := hm1.ge.2.2.1 (d * 5 + 2)
                have hm2 := hm1.sum 0
                have hc2' := hm1.at_.2.2.1
                have hg2 := hm2.ge.2.2.1 (d * 5 + 4)
                have hm3 := hm2.els true
                have hc3' := hm2.at_.2.2.2.2
                simp only at hm2 hm3 hc2' hc3'
                have HM3 := Lib.hid hm3
                have HST := Lib.hid hst
                clear hm1 hm2 hm3 hst c1
                obtain ⟨bo, ba, bs, bt, be⟩ := b
                simp only at *
                go_wp2_with (first
                  | (go_at_call 85; (with_reducible refine (cutr_any _ _).mono ?_); rintro e w3 ⟨rfl, rfl⟩))
                go_roundw
                case rel => exact HFIN.out _ _ _ _ _ _ _ HST.out.symm HM3.out rfl
                case measure => simp [intOf]; omega
              -- end els
            · rw [if_neg c2] at hst
              have e49 : (o == 49) = false := by simpa using c2
              by_cases c3 : o = 50
              · -- part end
                rw [if_pos c3] at hst
                subst c3
                cases t with
                | nil => simp at hst
                | cons p t' =>
                  simp only at hst
                  injection hst with hst
                  obtain ⟨d, rfl⟩ : ∃ d', d = d' + 1 := ⟨t'.length, by simpa using hrl.symm⟩
                  have hcl := closed_any b w2 ⟨s0, s1, t0, a0⟩ hbt
                  have hpok := HOK.out p (by simp)
                  obtain ⟨ps0, ps1, _, _⟩ := hpok
                  have hen := endF_nn (b := b) ⟨s0, s1, t0, a0⟩
                  have hel : endF b ≤ 1048577 := by
                    unfold endF
                    split
                    · exact cut_le _
                    · split <;> exact cut_le _
                  have HCL := Lib.hid hcl
                  have HST := Lib.hid hst
                  generalize hEb : endF b = E at *
                  unfold lvlVal at HCL
                  clear hst hcl c1 hEb
                  obtain ⟨bo, ba, bs, bt, be⟩ := b
                  simp only at *
                  go_upto_region 23 with (first
                    | (go_at_call 86; (with_reducible refine HCL.out.mono ?_); go_must (rintro e w3 ⟨rfl, hb3⟩; have HROW3 := Lib.hid ((HROW2.out.ext hb3).pop); clear hb3)))
                  obtain ⟨pl0, pl1, pl2, pl3, pl4⟩ := HROW3.out.at_
                  have hpf := HROW3.out.ge.2.2.1 (d * 5 + 2)
                  have hm1 := HROW3.out.sum (cut (p.sum + E))
                  have HM1 := Lib.hid hm1
                  clear hm1
                  have hdd : ((d + 1 + 1 : Nat) : Int) = (d : Int) + 1 + 1 := by omega
                  go_wp2_with (first
                    | (go_at_call 85; (with_reducible refine (cutr_any _ _).mono ?_); rintro e w3 ⟨rfl, rfl⟩))
                  go_roundw
                  case rel => exact HFIN.out _ _ _ _ _ _ _ HST.out.symm HM1.out rfl
                  case measure => simp [intOf]; omega
                -- end end
              · rw [if_neg c3] at hst
                have e50 : (o == 50) = false := by simpa using c3
                by_cases c5 : o = 53
                · -- part call
                  subst c5
                  have hst2 : (b.plus (costF 53)).plus (ks.getD a.toNat 0) :: t = s' := by
                    rw [if_neg (by omega), if_pos rfl] at hst
                    injection hst
                  obtain ⟨ha0, ha1⟩ := HXK.out.1 rfl
                  simp only at ha0 ha1
                  obtain ⟨x, rfl⟩ : ∃ x : Nat, a = x := ⟨a.toNat, by omega⟩
                  rw [Int.toNat_natCast] at hst2
                  obtain ⟨b3, off3, e3, hy⟩ := HR2.out x (by omega)
                  subst e3
                  have hy := (HROW2.out.below.cell (World.block_lt_of_cell? w _ hy)).trans hy
                  have hkn := HKN.out _ (getD_in (d := (0 : Int)) (show x < ks.length by omega))
                  generalize ks.getD x 0 = y at *
                  have hcy := cut_nn hkn
                  have hcl := cut_le y
                  have hsum : (b.plus (costF 53)).plus y = ⟨b.op, b.arg, cut (b.sum + costF 53 + cut y), b.thn, b.els⟩ := by
                    unfold Lvl.plus
                    simp only
                    rw [cut_cut_add hkn, cut_add_cut (by omega)]
                  rw [hsum] at hst2
                  have hm1 := HROW2.out.sum (cut (b.sum + costF 53 + cut y))
                  have HM1 := Lib.hid hm1
                  have HST := Lib.hid hst2
                  have hw1 : IntKind.i64.wrap (b.sum + costF 53) = b.sum + costF 53 := by rw [IntKind.wrap_i64]; omega
                  have hw2 : IntKind.i64.wrap (b.sum + costF 53 + cut y) = b.sum + costF 53 + cut y := by rw [IntKind.wrap_i64]; omega
                  have hxi0 : (0 : Int) ≤ x := by omega
                  clear hm1 hst hst2 hsum c1 c2 c3
                  obtain ⟨bo, ba, bs, bt, be⟩ := b
                  simp only at *
                  go_wp2_with (fail)
                  go_region_with (first
                    | (go_at_call 85; (with_reducible refine (cutr_any _ _).mono ?_); rintro e w3 ⟨rfl, rfl⟩))
                  all_goals
                    go_wp2
                    go_roundw
                    case rel => exact HFIN.out _ _ _ _ _ _ _ HST.out.symm (HM1.out.ext (Below.refl _ _).drew) rfl
                    case measure => simp [intOf]; omega
                  -- end call
                · -- part other
                  have e53 : (o == 53) = false := by simpa using c5
                  have hst2 : b.plus (costF o) :: t = s' := by
                    by_cases c4 : o = 52
                    · rw [if_pos c4] at hst
                      split at hst
                      · injection hst with hst
                        rw [c4]; exact hst
                      · simp at hst
                    · rw [if_neg c4, if_neg c5] at hst
                      injection hst
                  have HST := Lib.hid hst2
                  clear hst hst2
                  have hm1 := HROW2.out.sum (cut (b.sum + costF o))
                  have HM1 := Lib.hid hm1
                  clear hm1
                  obtain ⟨bo, ba, bs, bt, be⟩ := b
                  simp only at *
                  go_wp2_with (first
                    | (go_at_call 85; (with_reducible refine (cutr_any _ _).mono ?_); rintro e w3 ⟨rfl, rfl⟩))
                  go_roundw
                  case rel => exact HFIN.out _ _ _ _ _ _ _ HST.out.symm HM1.out rfl
                  case measure => simp [intOf]; omega
                  -- end other
        · have e : k = c.length := by omega
          subst e
          rw [List.take_of_length_le (Nat.le_refl _), HRUN.out] at hrn
          injection hrn with hrn
          injection hrn with hrn1 hrn2
          subst hrn1
          subst hrn2
          have hd0 : d = 0 := hrow.len.symm
          subst hd0
          have hs := hrow.at_.2.2.1
          simp only [Nat.zero_mul, Nat.zero_add] at hs
          have HROW := Lib.hid hrow
          clear hrow
          go_wp2
          go_ret2
          exact ⟨rfl, HROW.out.below⟩
end Go.Proofs.Ytchmgilckiadaaa
