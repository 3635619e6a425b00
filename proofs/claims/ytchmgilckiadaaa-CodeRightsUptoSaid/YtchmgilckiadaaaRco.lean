/- code.Right: may a script be? -/
import Derived.Test.YtchmgilckiadaaaRcl
import Derived.Test.YtchmgilckiadaaaRgr
namespace Go.Proofs.Ytchmgilckiadaaa
open Go.RowKit
theorem fnB_len {nc nf : Int} {f : Fn} (h : ¬ ((f.params.length : Int) ≤ 8 ∧ (f.results.length : Int) ≤ 8 ∧ (f.params.length : Int) + f.locals.length ≤ 16 ∧ (f.code.length : Int) ≤ 256)) : fnB nc nf f = false := by
  rw [Bool.eq_false_iff]
  intro h2
  unfold fnB typesB at h2
  simp only [Bool.and_eq_true, decide_eq_true_eq] at h2
  exact h ⟨h2.1.1.1.1.1.2, h2.1.1.1.1.2.2, h2.1.1.2, h2.1.2⟩
theorem any_not {l : List Int} : l.any (fun x => !typeB x) = !l.all typeB := by
  rw [← List.not_all_eq_any_not]
theorem fnB_bad {nc nf : Int} {f : Fn} (h : (f.params ++ (f.results ++ f.locals)).any (fun x => !typeB x) = true) : fnB nc nf f = false := by
  rw [any_not, List.all_append, List.all_append] at h
  rw [Bool.eq_false_iff]
  intro h2
  unfold fnB typesB at h2
  simp only [Bool.and_eq_true] at h2
  rw [h2.1.1.1.1.1.1, h2.1.1.1.1.2.1, h2.1.1.1.2.1] at h
  cases h
theorem fnB_ok {nc nf : Int} {f : Fn} (h : (f.params.length : Int) ≤ 8 ∧ (f.results.length : Int) ≤ 8 ∧ (f.params.length : Int) + f.locals.length ≤ 16 ∧ (f.code.length : Int) ≤ 256) (h2 : (f.params ++ (f.results ++ f.locals)).any (fun x => !typeB x) = false) :
    fnB nc nf f = f.code.all (instrB nc nf ((f.params.length : Int) + f.locals.length)) := by
  rw [any_not, List.all_append, List.all_append] at h2
  simp only [Bool.not_eq_false', Bool.and_eq_true] at h2
  unfold fnB typesB
  rw [h2.1, h2.2.1, h2.2.2, decide_eq_true h.1, decide_eq_true h.2.1, decide_eq_true h.2.2.1, decide_eq_true h.2.2.2, decide_eq_true (show (f.locals.length : Int) ≤ 16 by omega)]
  simp
theorem any_long {l : List ByteArray} : l.any (fun c => decide (256 < (c.size : Int))) = !l.all (fun c => decide ((c.size : Int) ≤ 256)) := by
  have e : (fun c : ByteArray => decide (256 < (c.size : Int))) = fun c => !decide ((c.size : Int) ≤ 256) := by
    funext c
    by_cases h : (c.size : Int) ≤ 256
    · rw [decide_eq_true h, decide_eq_false (by omega)]; rfl
    · rw [decide_eq_false h, decide_eq_true (by omega)]; rfl
  rw [e, ← List.not_all_eq_any_not]
set_option maxRecDepth 100000 in
set_option maxHeartbeats 4000000 in
theorem codeRight_any (vs : Value) (s : Scr) (w : World) (hs : ScrVal w vs s) :
    Calls Try.prog 40 #[vs] w fun e w' => e = .returned (.bool (rightB s)) ∧ Below w.heap.size w w' := by
  obtain ⟨v1, v2, rfl, h1, h2⟩ := hs
  have HS := Lib.hid (show ScrVal w (.agg #[v1, v2]) s from ⟨_, _, rfl, h1, h2⟩)
  obtain ⟨A1, k1, rfl, _⟩ := h1.open_
  obtain ⟨A2, k2, rfl, hc2⟩ := h2.open_
  have hl1 := h1.len
  have hl2 := h2.len
  have HC2 := Lib.hid hc2
  have HST := Lib.hid h1
  clear h1 h2 hc2
  obtain ⟨R, hR⟩ : ∃ R, rightB s = R := ⟨_, rfl⟩
  rw [hR]
  obtain ⟨W1, hW⟩ : ∃ W1, w.alloc (.cells #[.slice A1 s.consts.length k1, .slice A2 s.funcs.length k2] 45) = W1 := ⟨_, rfl⟩
  obtain ⟨hb1, hq1⟩ := one_box hW
  have HQ := Lib.hid (fun w' (hb : Below W1.heap.size W1 w') => two_at hb hq1)
  have HLONG := Lib.hid (containsFunc_strs _ _ _ _ s.consts W1 (HST.out.ext hb1) (asksLong W1))
  have HW := Lib.hid hW
  have HB1 := Lib.hid hb1
  clear hW hb1 hq1
  obtain ⟨g0, g1⟩ := HQ.out _ (Below.refl _ _)
  have HRR := Lib.hid hR
  clear hR
  have heg1 : ∀ args w, (callFunc 98 args).run Try.prog w = .ok (.enter 98 args) w := fun _ _ => by kernel_rfl
  clear heg1
  by_cases c1 : 32 < (s.consts.length : Int)
  · have HX := Lib.hid (show false = R by
      rw [← HRR.out]; unfold rightB; rw [decide_eq_false (show ¬ (s.consts.length : Int) ≤ 32 by omega)]; simp)
    go_enter Try.func40, Try.ntmps40
    go_upto_region 1 with (fail)
    rw [HW.out]
    go_wp2
    go_ret
    rw [← HX.out]
    exact ⟨rfl, HB1.out⟩
  obtain ⟨L, hL⟩ : ∃ L, s.consts.any (fun c => decide (256 < (c.size : Int))) = L := ⟨_, rfl⟩
  have HL := Lib.hid hL
  rw [any_long] at hL
  cases L
  case true =>
    have HX := Lib.hid (show false = R by
      rw [← HRR.out]; unfold rightB; rw [show s.consts.all (fun c => decide ((c.size : Int) ≤ 256)) = false by simpa using hL]; simp)
    clear hL
    go_enter Try.func40, Try.ntmps40
    go_upto_region 1 with (fail)
    rw [HW.out]
    go_wp2_with (go_at_call 98; (with_reducible refine HLONG.out.mono ?_); go_must (rintro e w2 ⟨rfl, hb⟩; rw [HL.out]; have HA := Lib.hid hb; clear hb; obtain ⟨g0, g1⟩ := HQ.out _ HA.out))
    go_ret
    rw [← HX.out]
    exact ⟨rfl, HB1.out.trans (HA.out.mono HB1.out.size)⟩
  have hL2 : s.consts.all (fun c => decide ((c.size : Int) ≤ 256)) = true := by simpa using hL
  clear hL
  by_cases c3 : (s.funcs.length : Int) < 1
  · have HX := Lib.hid (show false = R by
      rw [← HRR.out]; unfold rightB; rw [decide_eq_false (show ¬ (1 ≤ (s.funcs.length : Int) ∧ (s.funcs.length : Int) ≤ 16) by omega)]; simp)
    clear hL2
    go_enter Try.func40, Try.ntmps40
    go_upto_region 1 with (fail)
    rw [HW.out]
    go_wp2_with (go_at_call 98; (with_reducible refine HLONG.out.mono ?_); go_must (rintro e w2 ⟨rfl, hb⟩; rw [HL.out]; have HA := Lib.hid hb; clear hb; obtain ⟨g0, g1⟩ := HQ.out _ HA.out))
    go_ret
    rw [← HX.out]
    exact ⟨rfl, HB1.out.trans (HA.out.mono HB1.out.size)⟩
  by_cases c4 : 16 < (s.funcs.length : Int)
  · have HX := Lib.hid (show false = R by
      rw [← HRR.out]; unfold rightB; rw [decide_eq_false (show ¬ (1 ≤ (s.funcs.length : Int) ∧ (s.funcs.length : Int) ≤ 16) by omega)]; simp)
    clear hL2
    go_enter Try.func40, Try.ntmps40
    go_upto_region 1 with (fail)
    rw [HW.out]
    go_wp2_with (go_at_call 98; (with_reducible refine HLONG.out.mono ?_); go_must (rintro e w2 ⟨rfl, hb⟩; rw [HL.out]; have HA := Lib.hid hb; clear hb; obtain ⟨g0, g1⟩ := HQ.out _ HA.out))
    go_ret
    rw [← HX.out]
    exact ⟨rfl, HB1.out.trans (HA.out.mono HB1.out.size)⟩
  have hR : s.funcs.all (fnB s.consts.length s.funcs.length) = R := by
    rw [← HRR.out]
    unfold rightB
    rw [hL2, decide_eq_true (show (s.consts.length : Int) ≤ 32 by omega), decide_eq_true (show 1 ≤ (s.funcs.length : Int) ∧ (s.funcs.length : Int) ≤ 16 by omega)]
    simp
  have hN : ∀ k, k < s.funcs.length → fnB s.consts.length s.funcs.length (s.funcs.getD k default) = false → false = R := fun k hk h => by rw [← hR, all_no hk h]
  have hY : (∀ j, j < s.funcs.length → fnB s.consts.length s.funcs.length (s.funcs.getD j default) = true) → true = R := fun h2 => by rw [← hR, all_yes default h2]
  have HN := Lib.hid hN
  have HY := Lib.hid hY
  clear hN hY hR HRR hL2
  go_enter Try.func40, Try.ntmps40
  go_upto_region 1 with (fail)
  rw [HW.out]
  go_upto_region 4 with (go_at_call 98; (with_reducible refine HLONG.out.mono ?_); go_must (rintro e w2 ⟨rfl, hb⟩; rw [HL.out]; have HA := Lib.hid hb; clear hb; obtain ⟨g0, g1⟩ := HQ.out _ HA.out))
  go_wp2
  go_loopw [34] (fun i wr => ∃ k : Nat, k ≤ s.funcs.length ∧ i = .int .i64 k ∧ Below W1.heap.size W1 wr ∧ ∀ j, j < k → fnB s.consts.length s.funcs.length (s.funcs.getD j default) = true) (fun i _ => s.funcs.length - (intOf i).toNat)
  case atStart => exact ⟨0, Nat.zero_le _, rfl, HA.out, fun j h => by omega⟩
  case round =>
    obtain ⟨k, hk, rfl, hbe, hall⟩ := hrel
    have HALL := Lib.hid hall
    clear hall g0 g1 HA
    by_cases hlt : k < s.funcs.length
    · obtain ⟨fb, fo, rfl, hcell⟩ := HC2.out k hlt
      have hn := HN.out k hlt
      have hx : fnB s.consts.length s.funcs.length (s.funcs.getD k default) = true → ∀ j, j < k + 1 → fnB s.consts.length s.funcs.length (s.funcs.getD j default) = true := fun h j hj => by
        by_cases e : j = k
        · subst e; exact h
        · exact HALL.out j (by omega)
      have HNF := Lib.hid hn
      have HXF := Lib.hid hx
      clear hn hx
      generalize s.funcs.getD k default = f at *
      obtain ⟨p1, r1, l1, c1, hp0, hp1, hp2, hp3, hf1⟩ := (hcell.ext HB1.out).ext hbe
      obtain ⟨Ap, kp, rfl, _⟩ := hf1.p.at_
      obtain ⟨Ar, kr, rfl, _⟩ := hf1.r.at_
      obtain ⟨Al, kl, rfl, _⟩ := hf1.l.at_
      obtain ⟨Ac, kc, rfl, hcode⟩ := hf1.c.open_
      have q1 := hf1.p.len
      have q2 := hf1.r.len
      have q3 := hf1.l.len
      have q4 := hf1.c.len
      have HF := Lib.hid hf1
      have HCO := Lib.hid hcode
      have hk0 : (0 : Int) ≤ k := by omega
      have hk1 : (k : Int) < (s.funcs.length : Int) := by omega
      clear hf1 hcell hcode
      go_upto_region 7 with (fail)
      generalize hW3 : wr.alloc (.cells #[.slice Ap f.params.length kp, .slice Ar f.results.length kr, .slice Al f.locals.length kl, .slice Ac f.code.length kc] 53) = W3
      obtain ⟨hb3, hq3⟩ := one_box hW3
      clear hW3
      have HQ3 := Lib.hid (fun w' (hb : Below W3.heap.size W3 w') => four_at hb hq3)
      have HBW := Lib.hid hb3
      have HB3 := Lib.hid (hbe.trans (hb3.mono hbe.size))
      clear hb3 hq3 hp0 hp1 hp2 hp3 hbe
      obtain ⟨g0, g1, g2, g3⟩ := HQ3.out _ (Below.refl _ _)
      by_cases d1 : 8 < (f.params.length : Int)
      · have HX := Lib.hid (HNF.out (fnB_len (by omega)))
        clear HNF HXF
        go_wp2
        go_ret
        rw [← HX.out]
        exact ⟨rfl, HB1.out.trans (HB3.out.mono HB1.out.size)⟩
      by_cases d2 : 8 < (f.results.length : Int)
      · have HX := Lib.hid (HNF.out (fnB_len (by omega)))
        clear HNF HXF
        go_wp2
        go_ret
        rw [← HX.out]
        exact ⟨rfl, HB1.out.trans (HB3.out.mono HB1.out.size)⟩
      by_cases d3 : 16 < (f.params.length : Int) + f.locals.length
      · have HX := Lib.hid (HNF.out (fnB_len (by omega)))
        clear HNF HXF
        go_wp2
        go_ret
        rw [← HX.out]
        exact ⟨rfl, HB1.out.trans (HB3.out.mono HB1.out.size)⟩
      have d3' : decide (16 < (f.params.length : Int) + f.locals.length) = false := decide_eq_false d3
      by_cases d4 : 256 < (f.code.length : Int)
      · have HX := Lib.hid (HNF.out (fnB_len (by omega)))
        clear HNF HXF
        go_wp2
        go_ret
        rw [← HX.out]
        exact ⟨rfl, HB1.out.trans (HB3.out.mono HB1.out.size)⟩
      have d4' : decide (256 < (f.code.length : Int)) = false := decide_eq_false d4
      obtain ⟨W4, hW4⟩ : ∃ W4, W3.alloc (.cells #[.slice Ap f.params.length kp, .slice Ar f.results.length kr, .slice Al f.locals.length kl] 23) = W4 := ⟨_, rfl⟩
      obtain ⟨hb4, hq4⟩ := one_box hW4
      have hbw4 := HBW.out.trans (hb4.mono HBW.out.size)
      have hparts : Parts W4 (.slice (some ⟨W3.heap.size, 0, none⟩) 3 3) ([f.params, f.results, f.locals].map intVals) := parts_lit (vs := [.slice Ap f.params.length kp, .slice Ar f.results.length kr, .slice Al f.locals.length kl]) hq4 rfl (fun j hj => by
        match j, hj with
        | 0, _ => exact HF.out.p.ext hbw4
        | 1, _ => exact HF.out.r.ext hbw4
        | 2, _ => exact HF.out.l.ext hbw4)
      have HCAT := Lib.hid (concat_ints _ _ W4 hparts (by rw [flat_intVals, intVals_len]; simp; omega) (by simp))
      have HI := Lib.hid (show ∀ l ∈ [f.params, f.results, f.locals], ∀ x ∈ l, I64 x from fun l hl => by
        simp at hl
        rcases hl with rfl | rfl | rfl
        · exact HF.out.p.i64
        · exact HF.out.r.i64
        · exact HF.out.l.i64)
      have HB4 := Lib.hid hb4
      have HW4 := Lib.hid hW4
      clear hparts hb4 hq4 hbw4 hW4
      obtain ⟨T, hT⟩ : ∃ T, (f.params ++ (f.results ++ f.locals)).any (fun x => !typeB x) = T := ⟨_, rfl⟩
      have HT := Lib.hid hT
      have HBADC := Lib.hid (fun (u : World) (v : Value) (h : Ints u v (f.params ++ (f.results ++ f.locals))) => containsFunc_ints _ _ _ v _ u h (asksBad u))
      cases T
      case true =>
        have HX := Lib.hid (HNF.out (fnB_bad hT))
        clear HNF HXF hT
        go_wp2_with (first
          | (go_at_call 96; rw [HW4.out]; (with_reducible refine HCAT.out.mono ?_); go_must (rintro e w5 ⟨⟨v5, rfl, ho⟩, hb⟩; have HO := Lib.hid (show Ints w5 v5 (f.params ++ (f.results ++ f.locals)) from by simpa using concat_out ho (by simp; omega) HI.out); have HB5 := Lib.hid (HB4.out.trans (hb.mono HB4.out.size)); clear ho hb))
          | (go_at_call 77; (with_reducible refine (HBADC.out _ _ HO.out).mono ?_); go_must (rintro e w6 ⟨rfl, hb⟩; rw [HT.out]; have HB6 := Lib.hid (HB5.out.trans (hb.mono HB5.out.size)); clear hb)))
        go_ret
        rw [← HX.out]
        exact ⟨rfl, HB1.out.trans ((HB3.out.trans (HB6.out.mono HB3.out.size)).mono HB1.out.size)⟩
      case false =>
        have hok := fnB_ok (nc := s.consts.length) (nf := s.funcs.length) (f := f) (by omega) hT
        rw [hok] at HNF HXF
        clear hok hT
        have hN : ∀ q, q < f.code.length → instrB s.consts.length s.funcs.length ((f.params.length : Int) + f.locals.length) (f.code.getD q (0, 0)) = false → false = R := fun q hq h => HNF.out (all_no hq h)
        have HNI := Lib.hid hN
        have HYI := Lib.hid (fun h => HXF.out (all_yes ((0, 0) : Ins) h))
        clear hN HNF HXF
        go_upto_region 12 with (first
          | (go_at_call 96; rw [HW4.out]; (with_reducible refine HCAT.out.mono ?_); go_must (rintro e w5 ⟨⟨v5, rfl, ho⟩, hb⟩; have HO := Lib.hid (show Ints w5 v5 (f.params ++ (f.results ++ f.locals)) from by simpa using concat_out ho (by simp; omega) HI.out); have HB5 := Lib.hid (HB4.out.trans (hb.mono HB4.out.size)); clear ho hb))
          | (go_at_call 77; (with_reducible refine (HBADC.out _ _ HO.out).mono ?_); go_must (rintro e w6 ⟨rfl, hb⟩; rw [HT.out]; have HB6 := Lib.hid (HB5.out.trans (hb.mono HB5.out.size)); clear hb)))
        clear g0 g1 g2 g3
        obtain ⟨g0, g1, g2, g3⟩ := HQ3.out _ HB6.out
        clear HCAT HI HBADC HT HW4 HB4
        go_wp2
        go_loopw [77] (fun i wr => ∃ q : Nat, q ≤ f.code.length ∧ i = .int .i64 q ∧ Below W3.heap.size W3 wr ∧ ∀ j, j < q → instrB s.consts.length s.funcs.length ((f.params.length : Int) + f.locals.length) (f.code.getD j (0, 0)) = true) (fun i _ => f.code.length - (intOf i).toNat)
        case atStart => exact ⟨0, Nat.zero_le _, rfl, HB6.out, fun j h => by omega⟩
        case round =>
          obtain ⟨q, hq, rfl, hbq, hall⟩ := hrel
          have HALQ := Lib.hid hall
          clear hall g0 g1 g2 g3
          by_cases hlt2 : q < f.code.length
          · obtain ⟨ib, io, rfl, i1, i2⟩ := HCO.out q hlt2
            have hbw := HBW.out.trans (hbq.mono HBW.out.size)
            have i1 := cell_ext i1 hbw
            have i2 := cell_ext i2 hbw
            have hn := HNI.out q hlt2
            have hx : instrB s.consts.length s.funcs.length ((f.params.length : Int) + f.locals.length) (f.code.getD q (0, 0)) = true → ∀ j, j < q + 1 → instrB s.consts.length s.funcs.length ((f.params.length : Int) + f.locals.length) (f.code.getD j (0, 0)) = true := fun h j hj => by
              by_cases e : j = q
              · subst e; exact h
              · exact HALQ.out j (by omega)
            have hok : okI (f.code.getD q (0, 0)) := code_i64 HF.out.c.i64 q
            have hq0 : (0 : Int) ≤ q := by omega
            have hq1 : (q : Int) < (f.code.length : Int) := by omega
            generalize f.code.getD q (0, 0) = x at *
            obtain ⟨o, a⟩ := x
            simp only at i1 i2
            go_upto_region 15 with (fail)
            generalize hW7 : wr.alloc (.cells #[.int .i64 o, .int .i64 a] 35) = W7
            obtain ⟨hb7, hq7⟩ := one_box hW7
            clear hW7
            have h17 := (HB3.out.trans (hbq.mono HB3.out.size)).trans (hb7.mono (Nat.le_trans HB3.out.size hbq.size))
            obtain ⟨g0, g1⟩ := HQ.out _ h17
            obtain ⟨j0, j1⟩ := two_at (Below.refl _ _) hq7
            obtain ⟨V, hV⟩ : ∃ V, instrB s.consts.length s.funcs.length ((f.params.length : Int) + f.locals.length) (o, a) = V := ⟨_, rfl⟩
            have hcall := codeInstr_any (.agg #[.slice A1 s.consts.length k1, .slice (some ⟨fb, fo, none⟩) s.funcs.length k2]) s ((f.params.length : Int) + f.locals.length) (o, a) W7 (HS.out.ext (HB1.out.trans (h17.mono HB1.out.size))) hok (by omega) (by omega)
            rw [hV] at hcall hn hx
            simp only [encI] at hcall
            have HCALL := Lib.hid hcall
            have HB7 := Lib.hid (hbq.trans (hb7.mono hbq.size))
            clear hcall hb7 hq7 h17 hbq hbw hV
            cases V
            case true =>
              have HX := Lib.hid (hx rfl)
              clear hx hn
              go_wp2_with (go_at_call 100; (with_reducible refine HCALL.out.mono ?_); go_must (rintro e w8 ⟨rfl, hb⟩; have HB8 := Lib.hid (HB7.out.trans (hb.mono HB7.out.size)); clear hb))
              go_roundw
              case rel => exact ⟨q + 1, by omega, by go_num, HB8.out, HX.out⟩
              case measure => simp [intOf]; omega
            case false =>
              have HX := Lib.hid (hn rfl)
              clear hx hn
              go_wp2_with (go_at_call 100; (with_reducible refine HCALL.out.mono ?_); go_must (rintro e w8 ⟨rfl, hb⟩; have HB8 := Lib.hid (HB7.out.trans (hb.mono HB7.out.size)); clear hb))
              go_ret
              rw [← HX.out]
              exact ⟨rfl, HB1.out.trans ((HB3.out.trans (HB8.out.mono HB3.out.size)).mono HB1.out.size)⟩
          · have e : q = f.code.length := by omega
            subst e
            have HX := Lib.hid (HYI.out HALQ.out)
            have HU := Lib.hid (HB3.out.trans (hbq.mono HB3.out.size))
            clear hbq
            go_wp2
            go_roundw
            case rel => exact ⟨k + 1, by omega, by go_num, HU.out, HX.out⟩
            case measure => simp [intOf]; omega
    · have e : k = s.funcs.length := by omega
      subst e
      have HX := Lib.hid (HY.out HALL.out)
      go_wp2
      go_ret
      rw [← HX.out]
      exact ⟨rfl, HB1.out.trans (hbe.mono HB1.out.size)⟩
end Go.Proofs.Ytchmgilckiadaaa
