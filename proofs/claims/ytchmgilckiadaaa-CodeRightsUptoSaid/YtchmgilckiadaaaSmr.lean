/- ref04.Same: are two scripts the same? -/
import Derived.Test.YtchmgilckiadaaaSmd
namespace Go.Proofs.Ytchmgilckiadaaa
open Go.RowKit
theorem scr_no_consts {a b : Scr} {R : Bool} (hR : decide (a = b) = R) (h : a.consts ≠ b.consts) : false = R := by
  rw [← hR]; simp; rintro rfl; exact h rfl
theorem scr_no_funcs {a b : Scr} {R : Bool} (hR : decide (a = b) = R) (h : a.funcs ≠ b.funcs) : false = R := by
  rw [← hR]; simp; rintro rfl; exact h rfl
theorem scr_yes {a b : Scr} {R : Bool} (hR : decide (a = b) = R) (h1 : a.consts = b.consts) (h2 : a.funcs = b.funcs) : true = R := by
  rw [← hR]; cases a; cases b; simp at h1 h2; simp [h1, h2]
theorem fn_ne {f g : Fn} (h : f.params ≠ g.params ∨ f.results ≠ g.results ∨ f.locals ≠ g.locals ∨ f.code ≠ g.code) : f ≠ g := by
  rintro rfl; simp at h
theorem ne_of_len {α : Type} {a b : List α} (h : ¬ (a.length : Int) = b.length) : a ≠ b := by rintro rfl; exact h rfl
theorem ne_of_at {α : Type} {a b : List α} (d : α) (j : Nat) (h : ¬ a.getD j d = b.getD j d) : a ≠ b := by rintro rfl; exact h rfl
set_option maxRecDepth 100000 in
set_option maxHeartbeats 2000000 in
theorem refSame_any (va vb : Value) (a b : Scr) (w : World) (ha : ScrVal w va a) (hb : ScrVal w vb b) :
    Calls Try.prog 37 #[va, vb] w fun e w' => e = .returned (.bool (decide (a = b))) ∧ Below w.heap.size w w' := by
  obtain ⟨s1, f1, rfl, hs1, hf1⟩ := ha
  obtain ⟨s2, f2, rfl, hs2, hf2⟩ := hb
  have hl1 := hs1.len
  have hl2 := hs2.len
  have hl3 := hf1.len
  have hl4 := hf2.len
  obtain ⟨A1, k1, rfl, hr1⟩ := hs1.open_
  obtain ⟨A2, k2, rfl, hr2⟩ := hs2.open_
  obtain ⟨A3, k3, rfl, hr3⟩ := hf1.open_
  obtain ⟨A4, k4, rfl, hr4⟩ := hf2.open_
  have HR1 := Lib.hid hr1
  have HR2 := Lib.hid hr2
  have HR3 := Lib.hid hr3
  have HR4 := Lib.hid hr4
  clear hs1 hs2 hf1 hf2 hr1 hr2 hr3 hr4
  obtain ⟨R, hR⟩ : ∃ R, decide (a = b) = R := ⟨_, rfl⟩
  rw [hR]
  have HN1 := Lib.hid (fun h => scr_no_consts hR h)
  have HN2 := Lib.hid (fun h => scr_no_funcs hR h)
  have HY := Lib.hid (fun h1 h2 => scr_yes hR h1 h2)
  clear hR
  go_enter Try.func37, Try.ntmps37
  go_upto_region 1 with (fail)
  generalize hW : (w.alloc (.cells #[.slice A1 a.consts.length k1, .slice A3 a.funcs.length k3] 45)).alloc (.cells #[.slice A2 b.consts.length k2, .slice A4 b.funcs.length k4] 45) = W1
  obtain ⟨hb1, hsz, hq1, hq2⟩ := two_boxes hW
  clear hW
  have HB1 := Lib.hid hb1
  have HQ := Lib.hid (fun w' (hb : Below W1.heap.size W1 w') => And.intro (two_at hb hq1) (two_at hb hq2))
  clear hb1 hq1 hq2
  obtain ⟨⟨g0, g1⟩, k0, k1⟩ := HQ.out W1 (Below.refl _ _)
  by_cases hc : (a.consts.length : Int) = b.consts.length
  case neg =>
    -- part ne1
    have HF := Lib.hid (HN1.out (ne_of_len hc))
    go_wp2
    go_ret
    rw [← HF.out]
    exact ⟨rfl, HB1.out⟩
    -- end ne1
  by_cases hf : (a.funcs.length : Int) = b.funcs.length
  case neg =>
    -- part ne2
    have HF := Lib.hid (HN2.out (ne_of_len hf))
    go_wp2
    go_ret
    rw [← HF.out]
    exact ⟨rfl, HB1.out⟩
    -- end ne2
  have HLC := Lib.hid (show a.consts.length = b.consts.length by omega)
  have HLF := Lib.hid (show a.funcs.length = b.funcs.length by omega)
  go_wp2
  go_loopw [5] (fun i wr => ∃ k : Nat, k ≤ a.consts.length ∧ i = .int .i64 k ∧ Below W1.heap.size W1 wr ∧ ∀ j, j < k → a.consts.getD j default = b.consts.getD j default) (fun i _ => a.consts.length - (intOf i).toNat)
  case atStart => exact ⟨0, Nat.zero_le _, rfl, Below.refl _ _, fun j h => by omega⟩
  case round =>
    obtain ⟨k, hk, rfl, hbe, hall⟩ := hrel
    have HALL := Lib.hid hall
    clear hall g0 g1 k0 k1
    obtain ⟨⟨g0, g1⟩, k0, k1⟩ := HQ.out wr hbe
    by_cases hlt : k < a.consts.length
    · -- part strs
      obtain ⟨bb, off, rfl, hc1⟩ := HR1.out k hlt
      obtain ⟨b2, off2, rfl, hc2⟩ := HR2.out k (HLC.out ▸ hlt)
      have hc1 := cell_ext (cell_ext hc1 HB1.out) hbe
      have hc2 := cell_ext (cell_ext hc2 HB1.out) hbe
      have hk0 : (0 : Int) ≤ k := by omega
      have hk1 : (k : Int) < (a.consts.length : Int) := by omega
      have hk2 : (k : Int) < (b.consts.length : Int) := by omega
      by_cases hy : a.consts.getD k default = b.consts.getD k default
      · have HX := Lib.hid (show ∀ j, j < k + 1 → a.consts.getD j default = b.consts.getD j default from fun j hj => by
          by_cases e : j = k
          · subst e; exact hy
          · exact HALL.out j (by omega))
        rw [← hy] at hc2
        generalize a.consts.getD k default = y at *
        go_wp2_with (fail)
        go_quiet (fail)
        go_wp2
        go_roundw
        case rel => exact ⟨k + 1, by omega, by go_num, below_drewN hbe _, HX.out⟩
        case measure => simp [intOf]; omega
      · have HX := Lib.hid (HN1.out (ne_of_at _ k hy))
        have hyb := (Lib.bytes_beq_false_iff _ _).2 hy
        generalize a.consts.getD k default = y at *
        generalize b.consts.getD k default = z at *
        go_wp2_with (fail)
        go_quiet (fail)
        go_wp2
        go_ret
        rw [← HX.out]
        exact ⟨rfl, HB1.out.trans ((below_drewN hbe _).mono HB1.out.size)⟩
      -- end strs
    · have e : k = a.consts.length := by omega
      subst e
      have HCE := Lib.hid (list_eq_of default HLC.out HALL.out)
      have HBE := Lib.hid hbe
      clear hlt hk hc HALL HR1 HR2 hbe HN1
      skip
      skip
      go_wp2
      go_loopw [6] (fun i wr => ∃ k : Nat, k ≤ a.funcs.length ∧ i = .int .i64 k ∧ Below W1.heap.size W1 wr ∧ ∀ j, j < k → a.funcs.getD j default = b.funcs.getD j default) (fun i _ => a.funcs.length - (intOf i).toNat)
      case atStart => exact ⟨0, Nat.zero_le _, rfl, HBE.out, fun j h => by omega⟩
      case round =>
        obtain ⟨k, hk, rfl, hbe, hall⟩ := hrel
        have hsz9 := hbe.size
        have HALL := Lib.hid hall
        clear hall g0 g1 k0 k1 HBE
        obtain ⟨⟨g0, g1⟩, k0, k1⟩ := HQ.out wr hbe
        by_cases hlt : k < a.funcs.length
        · -- part fn
          obtain ⟨bb, off, rfl, hc1⟩ := HR3.out k hlt
          obtain ⟨b2, off2, rfl, hc2⟩ := HR4.out k (HLF.out ▸ hlt)
          have hT : a.funcs.getD k default = b.funcs.getD k default → ∀ j, j < k + 1 → a.funcs.getD j default = b.funcs.getD j default := fun hy j hj => by
            by_cases e : j = k
            · subst e; exact hy
            · exact HALL.out j (by omega)
          have HT := Lib.hid hT
          have HF := Lib.hid (fun h => HN2.out (ne_of_at default k h))
          clear hT
          generalize a.funcs.getD k default = fa at *
          generalize b.funcs.getD k default = fb at *
          obtain ⟨p1, r1, l1, c1, hp0, hp1, hp2, hp3, hf1⟩ := (hc1.ext HB1.out).ext hbe
          obtain ⟨p2, r2, l2, c2, hq0, hq1, hq2, hq3, hf2⟩ := (hc2.ext HB1.out).ext hbe
          obtain ⟨ap, kp, rfl, _⟩ := hf1.p.at_
          obtain ⟨ar, kr, rfl, _⟩ := hf1.r.at_
          obtain ⟨al, kl, rfl, _⟩ := hf1.l.at_
          obtain ⟨ac, kc, rfl, _⟩ := hf1.c.at_
          obtain ⟨bp, jp, rfl, _⟩ := hf2.p.at_
          obtain ⟨br, jr, rfl, _⟩ := hf2.r.at_
          obtain ⟨bl, jl, rfl, _⟩ := hf2.l.at_
          obtain ⟨bc, jc, rfl, _⟩ := hf2.c.at_
          have hbx := below_new wr (.cells #[(.slice ap fa.params.length kp), (.slice ar fa.results.length kr), (.slice al fa.locals.length kl), (.slice ac fa.code.length kc)] 53)
          have hq0 := cell_ext hq0 hbx
          have hq1 := cell_ext hq1 hbx
          have hq2 := cell_ext hq2 hbx
          have hq3 := cell_ext hq3 hbx
          have hk1x := cell_ext k1 hbx
          have hk0 : (0 : Int) ≤ k := by omega
          have hk1 : (k : Int) < (a.funcs.length : Int) := by omega
          have hk2 : (k : Int) < (b.funcs.length : Int) := by omega
          have HF1 := Lib.hid hf1
          have HF2 := Lib.hid hf2
          have HBE := Lib.hid hbe
          clear hc1 hc2 hf1 hf2 hbe hbx
          go_upto_region 13 with (fail)
          generalize hW : (wr.alloc (.cells #[(.slice ap fa.params.length kp), (.slice ar fa.results.length kr), (.slice al fa.locals.length kl), (.slice ac fa.code.length kc)] 53)).alloc (.cells #[(.slice bp fb.params.length jp), (.slice br fb.results.length jr), (.slice bl fb.locals.length jl), (.slice bc fb.code.length jc)] 53) = W3
          obtain ⟨hb1, hs1, hz1, hz2⟩ := two_boxes hW
          clear hW
          have HB3 := Lib.hid hb1
          have HQ3 := Lib.hid (fun w' (hb : Below W3.heap.size W3 w') => And.intro (four_at hb hz1) (four_at hb hz2))
          clear hb1 hs1 hz1 hz2 hp0 hp1 hp2 hp3 hq0 hq1 hq2 hq3 hk1x
          have HB03 := Lib.hid (HBE.out.trans (HB3.out.mono HBE.out.size))
          clear g0 g1 k0 k1
          have HA := Lib.hid (Below.refl W3.heap.size W3)
          obtain ⟨⟨g0, g1, g2, g3⟩, k0, k1, k2, k3⟩ := HQ3.out W3 HA.out
          obtain ⟨R0, e0⟩ : ∃ R, decide (fa.params = fb.params) = R := ⟨_, rfl⟩
          obtain ⟨R1, e1⟩ : ∃ R, decide (fa.results = fb.results) = R := ⟨_, rfl⟩
          obtain ⟨R2, e2⟩ : ∃ R, decide (fa.locals = fb.locals) = R := ⟨_, rfl⟩
          have E0 := Lib.hid e0
          have E1 := Lib.hid e1
          have E2 := Lib.hid e2
          clear e0 e1 e2
          have hl5 := HF1.out.c.len
          have hl6 := HF2.out.c.len
          obtain ⟨R3, e3⟩ : ∃ R, decide ((fa.code.length : Int) = fb.code.length) = R := ⟨_, rfl⟩
          cases hd0 : (R0 && R1 && R2 && R3)
          case false =>
            -- part calls
            have hX : false = R := HF.out (fn_ne (by
              rw [Bool.eq_false_iff] at hd0
              have h0 := E0.out
              have h1 := E1.out
              have h2 := E2.out
              cases R0
              · exact .inl (by simpa using h0)
              cases R1
              · exact .inr (.inl (by simpa using h1))
              cases R2
              · exact .inr (.inr (.inl (by simpa using h2)))
              cases R3
              · exact .inr (.inr (.inr (ne_of_len (by simpa using e3))))
              simp at hd0))
            have HX := Lib.hid hX
            clear hX
            have e3 : ((fa.code.length : Int) = fb.code.length) ↔ R3 = true := by rw [← e3]; simp
            cases R0 <;> cases R1 <;> cases R2 <;> cases R3 <;> first
              | (exact absurd hd0 (by decide))
              | (clear hd0
                 simp only [Bool.false_eq_true, eq_self, iff_false, iff_true] at e3
                 go_wp2_with (first
                  | (go_at_call_of 95 (Value.slice ap fa.params.length kp); (with_reducible refine (ints2_any _ _ fa.params fb.params _ (HF1.out.p.ext (HB3.out.trans (HA.out.mono HB3.out.size))) (HF2.out.p.ext (HB3.out.trans (HA.out.mono HB3.out.size)))).mono ?_); go_must (rintro e w5 ⟨rfl, hb⟩; rw [E0.out]; have HA := Lib.hid (HA.out.trans (hb.mono HA.out.size)); clear hb; obtain ⟨⟨g0, g1, g2, g3⟩, k0, k1, k2, k3⟩ := HQ3.out _ HA.out))
                  | (go_at_call_of 95 (Value.slice ar fa.results.length kr); (with_reducible refine (ints2_any _ _ fa.results fb.results _ (HF1.out.r.ext (HB3.out.trans (HA.out.mono HB3.out.size))) (HF2.out.r.ext (HB3.out.trans (HA.out.mono HB3.out.size)))).mono ?_); go_must (rintro e w5 ⟨rfl, hb⟩; rw [E1.out]; have HA := Lib.hid (HA.out.trans (hb.mono HA.out.size)); clear hb; obtain ⟨⟨g0, g1, g2, g3⟩, k0, k1, k2, k3⟩ := HQ3.out _ HA.out))
                  | (go_at_call_of 95 (Value.slice al fa.locals.length kl); (with_reducible refine (ints2_any _ _ fa.locals fb.locals _ (HF1.out.l.ext (HB3.out.trans (HA.out.mono HB3.out.size))) (HF2.out.l.ext (HB3.out.trans (HA.out.mono HB3.out.size)))).mono ?_); go_must (rintro e w5 ⟨rfl, hb⟩; rw [E2.out]; have HA := Lib.hid (HA.out.trans (hb.mono HA.out.size)); clear hb; obtain ⟨⟨g0, g1, g2, g3⟩, k0, k1, k2, k3⟩ := HQ3.out _ HA.out)))
                 go_ret
                 rw [← HX.out]
                 exact ⟨rfl, HB1.out.trans ((HB03.out.trans (HA.out.mono HB03.out.size)).mono HB1.out.size)⟩)
            -- end calls
          case true =>
            simp only [Bool.and_eq_true] at hd0
            obtain ⟨⟨⟨rfl, rfl⟩, rfl⟩, rfl⟩ := hd0
            have hcl : (fa.code.length : Int) = fb.code.length := by simpa using e3
            have HCL := Lib.hid (show fa.code.length = fb.code.length by omega)
            clear e3
            go_upto_region 15 with (first
                  | (go_at_call_of 95 (Value.slice ap fa.params.length kp); (with_reducible refine (ints2_any _ _ fa.params fb.params _ (HF1.out.p.ext (HB3.out.trans (HA.out.mono HB3.out.size))) (HF2.out.p.ext (HB3.out.trans (HA.out.mono HB3.out.size)))).mono ?_); go_must (rintro e w5 ⟨rfl, hb⟩; rw [E0.out]; have HA := Lib.hid (HA.out.trans (hb.mono HA.out.size)); clear hb; obtain ⟨⟨g0, g1, g2, g3⟩, k0, k1, k2, k3⟩ := HQ3.out _ HA.out))
                  | (go_at_call_of 95 (Value.slice ar fa.results.length kr); (with_reducible refine (ints2_any _ _ fa.results fb.results _ (HF1.out.r.ext (HB3.out.trans (HA.out.mono HB3.out.size))) (HF2.out.r.ext (HB3.out.trans (HA.out.mono HB3.out.size)))).mono ?_); go_must (rintro e w5 ⟨rfl, hb⟩; rw [E1.out]; have HA := Lib.hid (HA.out.trans (hb.mono HA.out.size)); clear hb; obtain ⟨⟨g0, g1, g2, g3⟩, k0, k1, k2, k3⟩ := HQ3.out _ HA.out))
                  | (go_at_call_of 95 (Value.slice al fa.locals.length kl); (with_reducible refine (ints2_any _ _ fa.locals fb.locals _ (HF1.out.l.ext (HB3.out.trans (HA.out.mono HB3.out.size))) (HF2.out.l.ext (HB3.out.trans (HA.out.mono HB3.out.size)))).mono ?_); go_must (rintro e w5 ⟨rfl, hb⟩; rw [E2.out]; have HA := Lib.hid (HA.out.trans (hb.mono HA.out.size)); clear hb; obtain ⟨⟨g0, g1, g2, g3⟩, k0, k1, k2, k3⟩ := HQ3.out _ HA.out)))
            have HC1 := Lib.hid (fun w' hb => (HF1.out.c.ext (HB3.out.trans (Below.mono (w' := w') hb HB3.out.size))).open_)
            have HC2 := Lib.hid (fun w' hb => (HF2.out.c.ext (HB3.out.trans (Below.mono (w' := w') hb HB3.out.size))).open_)
            have HH := Lib.hid (show fa.code = fb.code → fa = fb from fun h => by
              have h0 := E0.out
              have h1 := E1.out
              have h2 := E2.out
              simp only [decide_eq_true_eq] at h0 h1 h2
              cases fa; cases fb
              simp only [Fn.mk.injEq]
              exact ⟨h0, h1, h2, h⟩)
            clear g0 g1 g2 g3 k0 k1 k2 k3
            have HA0 := Lib.hid HA.out
            clear HF1 HF2 E0 E1 E2
            obtain ⟨⟨g0, g1, g2, g3⟩, k0, k1, k2, k3⟩ := HQ3.out _ HA.out
            go_wp2
            go_loopw [9] (fun i wr => ∃ q : Nat, q ≤ fa.code.length ∧ i = .int .i64 q ∧ Below W3.heap.size W3 wr ∧ ∀ j, j < q → fa.code.getD j (0, 0) = fb.code.getD j (0, 0)) (fun i _ => fa.code.length - (intOf i).toNat)
            case atStart => exact ⟨0, Nat.zero_le _, rfl, HA.out, fun j h => by omega⟩
            case round =>
              clear g0 g1 g2 g3 k0 k1 k2 k3
              obtain ⟨q, hq, rfl, hbq, hall⟩ := hrel
              have HALQ := Lib.hid hall
              clear hall
              obtain ⟨⟨g0, g1, g2, g3⟩, k0, k1, k2, k3⟩ := HQ3.out _ hbq
              by_cases hlt2 : q < fa.code.length
              · obtain ⟨_, _, e, hcell⟩ := HC1.out _ hbq
                injection e with e1 _ e2
                subst e1
                subst e2
                obtain ⟨ib, io, rfl, i1, i2⟩ := hcell q hlt2
                clear hcell
                obtain ⟨_, _, e, hcell⟩ := HC2.out _ hbq
                injection e with e1 _ e2
                subst e1
                subst e2
                obtain ⟨jb, jo, rfl, j1, j2⟩ := hcell q (HCL.out ▸ hlt2)
                clear hcell
                have hq0 : (0 : Int) ≤ q := by omega
                have hq1 : (q : Int) < (fa.code.length : Int) := by omega
                have hq2 : (q : Int) < (fb.code.length : Int) := by omega
                by_cases hy : fa.code.getD q (0, 0) = fb.code.getD q (0, 0)
                · have HX := Lib.hid (show ∀ j, j < q + 1 → fa.code.getD j (0, 0) = fb.code.getD j (0, 0) from fun j hj => by
                    by_cases e : j = q
                    · subst e; exact hy
                    · exact HALQ.out j (by omega))
                  rw [← hy] at j1 j2
                  generalize fa.code.getD q (0, 0) = y at *
                  go_wp2_with (fail)
                  go_quiet (fail)
                  go_wp2
                  go_roundw
                  case rel => exact ⟨q + 1, by omega, by go_num, below_drewN hbq _, HX.out⟩
                  case measure => simp [intOf]; omega
                · have HX := Lib.hid (HF.out (fn_ne (.inr (.inr (.inr (ne_of_at _ q hy))))))
                  generalize fa.code.getD q (0, 0) = y at *
                  generalize fb.code.getD q (0, 0) = z at *
                  obtain ⟨y0, y1⟩ := y
                  obtain ⟨z0, z1⟩ := z
                  simp only at i1 i2 j1 j2
                  by_cases hf : y0 = z0
                  · have hs : (y1 == z1) = false := by simp; rintro rfl; exact hy (by rw [hf])
                    subst hf
                    clear hy
                    go_wp2_with (fail)
                    go_quiet (fail)
                    go_wp2
                    go_ret
                    rw [← HX.out]
                    exact ⟨rfl, HB1.out.trans ((HB03.out.trans ((below_drewN hbq _).mono HB03.out.size)).mono HB1.out.size)⟩
                  · have hs : (y0 == z0) = false := by simpa using hf
                    have hs2 : (y0 != z0) = true := by simpa using hf
                    clear hy hf
                    go_wp2_with (fail)
                    go_quiet (fail)
                    go_wp2
                    go_ret
                    rw [← HX.out]
                    exact ⟨rfl, HB1.out.trans ((HB03.out.trans ((below_drewN hbq _).mono HB03.out.size)).mono HB1.out.size)⟩
              · have e : q = fa.code.length := by omega
                subst e
                have HX := Lib.hid (HT.out (HH.out (list_eq_of _ HCL.out HALQ.out)))
                go_wp2
                go_roundw
                case rel => exact ⟨k + 1, by omega, by go_num, HB03.out.trans (hbq.mono HB03.out.size), HX.out⟩
                case measure => simp [intOf]; omega
          -- end fn
        · -- part end
          have e : k = a.funcs.length := by omega
          subst e
          have HX := Lib.hid (HY.out HCE.out (list_eq_of default HLF.out HALL.out))
          go_wp2
          go_ret
          rw [← HX.out]
          exact ⟨rfl, HB1.out.trans (hbe.mono HB1.out.size)⟩
          -- end end
end Go.Proofs.Ytchmgilckiadaaa
