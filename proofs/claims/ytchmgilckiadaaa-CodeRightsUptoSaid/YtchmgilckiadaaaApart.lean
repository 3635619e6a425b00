/- law04.CodeApart, walked: it returns true. -/
import Derived.Test.YtchmgilckiadaaaKnow
import Derived.Test.YtchmgilckiadaaaSmr
import Derived.Test.YtchmgilckiadaaaClone
import Derived.Test.YtchmgilckiadaaaOsc
import Derived.Test.YtchmgilckiadaaaGro
namespace Go.Proofs.Ytchmgilckiadaaa
open Go.RowKit
theorem put_yes (v : Value) (s : Scr) (w : World) (hs : ScrVal w v s) (h : rightB s = true) : Calls Try.prog 33 #[v] w fun e w' => (∃ vb, e = .returned (.tuple #[vb, .int .i64 0]) ∧ Byts w' vb (putF s)) ∧ Below w.heap.size w w' := by
  refine (put_any v s w hs).mono fun e w' hp => ⟨?_, hp.2⟩
  rcases hp.1 with ⟨_, h1⟩ | ⟨h1, _⟩
  · exact h1
  · rw [h] at h1; cases h1
theorem put_no (v : Value) (s : Scr) (w : World) (hs : ScrVal w v s) (h : rightB s = false) : Calls Try.prog 33 #[v] w fun e w' => e = .returned (.tuple #[.slice none 0 0, .int .i64 30]) ∧ Below w.heap.size w w' := by
  refine (put_any v s w hs).mono fun e w' hp => ⟨?_, hp.2⟩
  rcases hp.1 with ⟨h1, _⟩ | ⟨_, h1⟩
  · rw [h] at h1; cases h1
  · exact h1
theorem clone_sized (v : Value) (s : Scr) (w : World) (h : ScrVal w v s) (z : ScrSized s) : Calls Try.prog 34 #[v] w fun e w' => (∃ v', e = .returned v' ∧ ScrVal w' v' s) ∧ Below w.heap.size w w' :=
  clone_any v s w h (by have := z.c; omega) (by have := z.n; omega) (fun f hf => by
    obtain ⟨a, b, c, d⟩ := z.f f hf
    exact ⟨by omega, by omega, by omega, by omega⟩)
theorem put_pos (s : Scr) : 0 < (putF s).length := by simp [putF]
theorem arr_dec (a b : List UInt8) : decide ((⟨a.toArray⟩ : ByteArray) = ⟨b.toArray⟩) = decide (a = b) := by
  by_cases h : a = b
  · subst h; simp
  · rw [decide_eq_false h, decide_eq_false]
    intro h2
    simp at h2
    exact h h2
set_option maxRecDepth 100000 in
set_option maxHeartbeats 1000000 in
theorem apart_any (va vb : Value) (s t : Scr) (w : World) (hs : ScrVal w va s) (ht : ScrVal w vb t) (zs : ScrSized s) (zt : ScrSized t) :
    Calls Try.prog 8 #[va, vb] w fun e w' => e = .returned (.bool true) ∧ Below w.heap.size w w' := by
  have hi := scr_i64 hs
  have hj := scr_i64 ht
  obtain ⟨v1, v2, rfl, h1, h2⟩ := hs
  obtain ⟨v3, v4, rfl, h3, h4⟩ := ht
  have HS := Lib.hid (show ScrVal w (.agg #[v1, v2]) s from ⟨_, _, rfl, h1, h2⟩)
  have HT := Lib.hid (show ScrVal w (.agg #[v3, v4]) t from ⟨_, _, rfl, h3, h4⟩)
  obtain ⟨A1, k1, rfl, _⟩ := h1.open_
  obtain ⟨A2, k2, rfl, _⟩ := h2.open_
  obtain ⟨A3, k3, rfl, _⟩ := h3.open_
  obtain ⟨A4, k4, rfl, _⟩ := h4.open_
  clear h1 h2 h3 h4
  obtain ⟨W1, hW⟩ : ∃ W1, (w.alloc (.cells #[.slice A1 s.consts.length k1, .slice A2 s.funcs.length k2] 45)).alloc (.cells #[.slice A3 t.consts.length k3, .slice A4 t.funcs.length k4] 45) = W1 := ⟨_, rfl⟩
  obtain ⟨hb1, hs1, hq1, hq2⟩ := two_boxes hW
  have HQ := Lib.hid (fun w' (hb : Below W1.heap.size W1 w') => And.intro (two_at hb hq1) (two_at hb hq2))
  have HSA := Lib.hid (fun w' (hb : Below W1.heap.size W1 w') => HS.out.ext (hb1.trans (hb.mono hb1.size)))
  have HSB := Lib.hid (fun w' (hb : Below W1.heap.size W1 w') => HT.out.ext (hb1.trans (hb.mono hb1.size)))
  have HB1 := Lib.hid hb1
  have HW := Lib.hid hW
  have HZS := Lib.hid zs
  have HZT := Lib.hid zt
  have HCS := Lib.hid (clone_sized _ s W1 (HSA.out W1 (Below.refl _ _)) zs)
  have HPD := Lib.hid (fun (h1 : rightB s = true) (h2 : rightB t = true) => put_dec h1 h2 hi hj)
  clear hW hb1 hs1 hq1 hq2 zs zt hi hj HS HT
  cases hX : rightB s
  case false =>
    have HX := Lib.hid hX
    clear hX
    go_enter Try.func8, Try.ntmps8
    go_upto_region 1 with (fail)
    rw [HW.out]
    obtain ⟨⟨g0, g1⟩, g2, g3⟩ := HQ.out W1 (Below.refl _ _)
    go_upto_region 2 with (first
      | (go_at_call 34; (with_reducible refine HCS.out.mono ?_); go_must (rintro e w2 ⟨⟨v2, rfl, hv2⟩, hb⟩; have HP := Lib.hid (put_no v2 s w2 hv2 HX.out); have HB2 := Lib.hid hb; clear hv2 hb))
      | (go_at_call 33; (with_reducible refine HP.out.mono ?_); go_must (rintro e w3 ⟨rfl, hb⟩; have HB3 := Lib.hid (HB2.out.trans (hb.mono HB2.out.size)); clear hb)))
    clear g0 g1 g2 g3
    obtain ⟨⟨g0, g1⟩, g2, g3⟩ := HQ.out w3 HB3.out
    have HCT := Lib.hid (clone_sized _ t w3 (HSB.out w3 HB3.out) HZT.out)
    cases hY : rightB t
    case false =>
      have HY := Lib.hid hY
      clear hY
      go_wp2_with (first
        | (go_at_call 34; (with_reducible refine HCT.out.mono ?_); go_must (rintro e w4 ⟨⟨v4, rfl, hv4⟩, hb⟩; have HP4 := Lib.hid (put_no v4 t w4 hv4 HY.out); have HB4 := Lib.hid (HB3.out.trans (hb.mono HB3.out.size)); clear hv4 hb))
        | (go_at_call 33; (with_reducible refine HP4.out.mono ?_); go_must (rintro e w5 ⟨rfl, hb⟩; have HB5 := Lib.hid (HB4.out.trans (hb.mono HB4.out.size)); clear hb))
        | (go_at_call 35; (with_reducible refine (num4_any _ _).mono ?_); go_must (rintro e w6 ⟨rfl, rfl⟩))
        | (go_at_call 36; (with_reducible refine (knows4_any _).mono ?_); go_must (rintro e w7 ⟨rfl, hb⟩)))
      go_ret
      exact ⟨rfl, HB1.out.trans ((HB5.out.trans (hb.mono HB5.out.size)).mono HB1.out.size)⟩
    case true =>
      have HY := Lib.hid hY
      clear hY
      go_wp2_with (first
        | (go_at_call 34; (with_reducible refine HCT.out.mono ?_); go_must (rintro e w4 ⟨⟨v4, rfl, hv4⟩, hb⟩; have HP4 := Lib.hid (put_yes v4 t w4 hv4 HY.out); have HB4 := Lib.hid (HB3.out.trans (hb.mono HB3.out.size)); clear hv4 hb))
        | (go_at_call 33; (with_reducible refine HP4.out.mono ?_); go_must (rintro e w5 ⟨⟨vy, rfl, hby⟩, hb⟩; have HB5 := Lib.hid (HB4.out.trans (hb.mono HB4.out.size)); clear hby hb))
        | (go_at_call 35; (with_reducible refine (num4_any _ _).mono ?_); go_must (rintro e w6 ⟨rfl, rfl⟩))
        | (go_at_call 36; (with_reducible refine (knows4_any _).mono ?_); go_must (rintro e w7 ⟨rfl, hb⟩)))
      go_ret
      exact ⟨rfl, HB1.out.trans ((HB5.out.trans (hb.mono HB5.out.size)).mono HB1.out.size)⟩
  case true =>
    have HX := Lib.hid hX
    clear hX
    go_enter Try.func8, Try.ntmps8
    go_upto_region 1 with (fail)
    rw [HW.out]
    obtain ⟨⟨g0, g1⟩, g2, g3⟩ := HQ.out W1 (Below.refl _ _)
    go_upto_region 2 with (first
      | (go_at_call 34; (with_reducible refine HCS.out.mono ?_); go_must (rintro e w2 ⟨⟨v2, rfl, hv2⟩, hb⟩; have HP := Lib.hid (put_yes v2 s w2 hv2 HX.out); have HB2 := Lib.hid hb; clear hv2 hb))
      | (go_at_call 33; (with_reducible refine HP.out.mono ?_); go_must (rintro e w3 ⟨⟨vx, rfl, hbx⟩, hb⟩; have HBX3 := Lib.hid hbx; have HB3 := Lib.hid (HB2.out.trans (hb.mono HB2.out.size)); clear hb hbx)))
    clear g0 g1 g2 g3
    obtain ⟨⟨g0, g1⟩, g2, g3⟩ := HQ.out w3 HB3.out
    have HCT := Lib.hid (clone_sized _ t w3 (HSB.out w3 HB3.out) HZT.out)
    cases hY : rightB t
    case false =>
      have HY := Lib.hid hY
      clear hY
      go_wp2_with (first
        | (go_at_call 34; (with_reducible refine HCT.out.mono ?_); go_must (rintro e w4 ⟨⟨v4, rfl, hv4⟩, hb⟩; have HP4 := Lib.hid (put_no v4 t w4 hv4 HY.out); have HB4 := Lib.hid (HB3.out.trans (hb.mono HB3.out.size)); clear hv4 hb))
        | (go_at_call 33; (with_reducible refine HP4.out.mono ?_); go_must (rintro e w5 ⟨rfl, hb⟩; have HB5 := Lib.hid (HB4.out.trans (hb.mono HB4.out.size)); clear hb))
        | (go_at_call 35; (with_reducible refine (num4_any _ _).mono ?_); go_must (rintro e w6 ⟨rfl, rfl⟩))
        | (go_at_call 36; (with_reducible refine (knows4_any _).mono ?_); go_must (rintro e w7 ⟨rfl, hb⟩)))
      go_ret
      exact ⟨rfl, HB1.out.trans ((HB5.out.trans (hb.mono HB5.out.size)).mono HB1.out.size)⟩
    case true =>
      have HPD := Lib.hid (HPD.out HX.out hY)
      have HY := Lib.hid hY
      clear hY
      go_upto_region 5 with (first
        | (go_at_call 34; (with_reducible refine HCT.out.mono ?_); go_must (rintro e w4 ⟨⟨v4, rfl, hv4⟩, hb⟩; have HP4 := Lib.hid (put_yes v4 t w4 hv4 HY.out); have HB34 := Lib.hid hb; have HB4 := Lib.hid (HB3.out.trans (hb.mono HB3.out.size)); clear hv4 hb))
        | (go_at_call 33; (with_reducible refine HP4.out.mono ?_); go_must (rintro e w5 ⟨⟨vy, rfl, hby⟩, hb⟩; have HBY := Lib.hid hby; have HB35 := Lib.hid (HB34.out.trans (hb.mono HB34.out.size)); have HB5 := Lib.hid (HB4.out.trans (hb.mono HB4.out.size)); clear hby hb))
        | (go_at_call 35; (with_reducible refine (num4_any _ _).mono ?_); go_must (rintro e w6 ⟨rfl, rfl⟩)))
      clear g0 g1 g2 g3
      have HBX := Lib.hid (HBX3.out.ext HB35.out)
      have HLX := Lib.hid (put_pos s)
      have HLY := Lib.hid (put_pos t)
      refine region_mono (by kernel_rfl) w5 (fun j v u => match j with
        | 0 => v = vx
        | 1 => v = .string ⟨(putF s).toArray⟩
        | 2 => v = vy
        | 3 => v = .string ⟨(putF t).toArray⟩
        | 4 => v = .bool (decide (s = t))
        | 5 => v = .agg #[.slice A1 s.consts.length k1, .slice A2 s.funcs.length k2]
        | 6 => v = .agg #[.slice A3 t.consts.length k3, .slice A4 t.funcs.length k4]
        | 7 => v = .bool (decide (s = t))
        | 8 => v = .bool true
        | 9 => v = .bool true
        | 10 => v = .bool true
        | 11 => v = .bool true
        | 12 => v = .bool true
        | _ => True) (by kernel_rfl) ?_ (Below.refl _ _) ?_ ?_
      · intro j v u u' hF hb
        match j, hF with
        | 0, hF => exact hF
        | 1, hF => exact hF
        | 2, hF => exact hF
        | 3, hF => exact hF
        | 4, hF => exact hF
        | 5, hF => exact hF
        | 6, hF => exact hF
        | 7, hF => exact hF
        | 8, hF => exact hF
        | 9, hF => exact hF
        | 10, hF => exact hF
        | 11, hF => exact hF
        | 12, hF => exact hF
        | _ + 13, _ => exact trivial
      · intro a u hts hdf hold hG i o ho hpre K hK
        have hi : i < 13 := (Array.getElem?_eq_some_iff.1 ho).1
        match i, hi with
        | 0, _ =>
          simp at ho
          subst ho
          have e5 := hold 5 rfl
          refine step_on (v := vx) (w' := u) (wanted_none rfl) ?_ (hK _ _ (Below.refl _ _) rfl)
          simp only [execOp, Act.eval, e5]
          go_simp
        | 1, _ =>
          simp at ho
          subst ho
          have e30 := hpre ⟨0, .data⟩ (by simp) rfl _ rfl _ rfl
          have e30 : a.tmps.getD 30 undef = vx := e30
          have hc := conv_back (HBX.out.ext hG) HLX.out
          refine step_on (v := .string ⟨(putF s).toArray⟩) (w' := u) (wanted_none rfl) ?_ (hK _ _ (Below.refl _ _) rfl)
          simp only [execOp, Act.eval, e30]
          go_simp
        | 2, _ =>
          simp at ho
          subst ho
          have e7 := hold 7 rfl
          refine step_on (v := vy) (w' := u) (wanted_none rfl) ?_ (hK _ _ (Below.refl _ _) rfl)
          simp only [execOp, Act.eval, e7]
          go_simp
        | 3, _ =>
          simp at ho
          subst ho
          have e32 := hpre ⟨2, .data⟩ (by simp) rfl _ rfl _ rfl
          have e32 : a.tmps.getD 32 undef = vy := e32
          have hc := conv_back (HBY.out.ext hG) HLY.out
          refine step_on (v := .string ⟨(putF t).toArray⟩) (w' := u) (wanted_none rfl) ?_ (hK _ _ (Below.refl _ _) rfl)
          simp only [execOp, Act.eval, e32]
          go_simp
        | 4, _ =>
          simp at ho
          subst ho
          have e31 := hpre ⟨1, .data⟩ (by simp) rfl _ rfl _ rfl
          have e31 : a.tmps.getD 31 undef = .string ⟨(putF s).toArray⟩ := e31
          have e33 := hpre ⟨3, .data⟩ (by simp) rfl _ rfl _ rfl
          have e33 : a.tmps.getD 33 undef = .string ⟨(putF t).toArray⟩ := e33
          refine step_on (v := .bool (decide (s = t))) (w' := u) (wanted_none rfl) ?_ (hK _ _ (Below.refl _ _) rfl)
          simp only [execOp, Act.eval, e31, e33]
          go_simp
          rw [← HPD.out]
          by_cases hpp : putF s = putF t <;> simp [hpp]
        | 5, _ =>
          simp at ho
          subst ho
          have e2 := hold 2 rfl
          obtain ⟨⟨g0, g1⟩, g2, g3⟩ := HQ.out u (HB5.out.trans (hG.mono HB5.out.size))
          refine step_on (v := .agg #[.slice A1 s.consts.length k1, .slice A2 s.funcs.length k2]) (w' := u) (wanted_none rfl) ?_ (hK _ _ (Below.refl _ _) rfl)
          simp only [execOp, Act.eval, e2]
          go_simp
        | 6, _ =>
          simp at ho
          subst ho
          have e3 := hold 3 rfl
          obtain ⟨⟨g0, g1⟩, g2, g3⟩ := HQ.out u (HB5.out.trans (hG.mono HB5.out.size))
          refine step_on (v := .agg #[.slice A3 t.consts.length k3, .slice A4 t.funcs.length k4]) (w' := u) (wanted_none rfl) ?_ (hK _ _ (Below.refl _ _) rfl)
          simp only [execOp, Act.eval, e3]
          go_simp
        | 7, _ =>
          simp at ho
          subst ho
          have e35 := hpre ⟨5, .data⟩ (by simp) rfl _ rfl _ rfl
          have e35 : a.tmps.getD 35 undef = .agg #[.slice A1 s.consts.length k1, .slice A2 s.funcs.length k2] := e35
          have e36 := hpre ⟨6, .data⟩ (by simp) rfl _ rfl _ rfl
          have e36 : a.tmps.getD 36 undef = .agg #[.slice A3 t.consts.length k3, .slice A4 t.funcs.length k4] := e36
          have hi := refSame_any _ _ s t u (HSA.out u (HB5.out.trans (hG.mono HB5.out.size))) (HSB.out u (HB5.out.trans (hG.mono HB5.out.size)))
          refine step_call (R := fun v u' => v = .bool (decide (s = t)) ∧ Below u.heap.size u u') (f := 37) (args := #[.agg #[.slice A1 s.consts.length k1, .slice A2 s.funcs.length k2], .agg #[.slice A3 t.consts.length k3, .slice A4 t.funcs.length k4]]) (wanted_none rfl) ?_ (hi.mono (fun e w' h => ⟨_, h.1, rfl, h.2⟩)) ?_
          · simp only [execOp, Act.eval, e35, e36]
            go_simp
          · intro v u' h
            exact hK _ _ h.2 h.1
        | 8, _ =>
          simp at ho
          subst ho
          have e34 := hpre ⟨4, .data⟩ (by simp) rfl _ rfl _ rfl
          have e34 : a.tmps.getD 34 undef = .bool (decide (s = t)) := e34
          have e37 := hpre ⟨7, .data⟩ (by simp) rfl _ rfl _ rfl
          have e37 : a.tmps.getD 37 undef = .bool (decide (s = t)) := e37
          refine step_on (v := .bool true) (w' := u) (wanted_none rfl) ?_ (hK _ _ (Below.refl _ _) rfl)
          simp only [execOp, Act.eval, e34, e37]
          go_simp
        | 9, _ =>
          simp at ho
          subst ho
          have e38 := hpre ⟨8, .data⟩ (by simp) rfl _ rfl _ rfl
          have e38 : a.tmps.getD 38 undef = .bool true := e38
          refine step_on (v := .bool true) (w' := u) (wanted_none rfl) ?_ (hK _ _ (Below.refl _ _) rfl)
          simp only [execOp, Act.eval, e38]
          go_simp
        | 10, _ =>
          simp at ho
          subst ho
          have eg := hpre ⟨9, .guard⟩ (by simp) rfl _ rfl _ rfl
          have eg : a.tmps.getD 39 undef = .bool true := eg
          refine step_call (R := fun v u' => v = .bool true ∧ Below u.heap.size u u') (f := 36) (args := #[]) (wanted_at (j := 9) rfl rfl rfl (by rw [hts]; simp) eg) ?_ ((knows4_any u).mono (fun e w' h => ⟨_, h.1, rfl, h.2⟩)) ?_
          · simp only [execOp, Act.eval]
            go_simp
          · intro v u' h
            exact hK _ _ h.2 h.1
        | 11, _ =>
          simp at ho
          subst ho
          have e39 := hpre ⟨9, .data⟩ (by simp) rfl _ rfl _ rfl
          have e39 : a.tmps.getD 39 undef = .bool true := e39
          have e40 := hpre ⟨10, .data⟩ (by simp) rfl _ rfl _ rfl
          have e40 : a.tmps.getD 40 undef = .bool true := e40
          refine step_on (v := .bool true) (w' := u) (wanted_none rfl) ?_ (hK _ _ (Below.refl _ _) rfl)
          simp only [execOp, Act.eval, e39, e40]
          go_simp
        | 12, _ =>
          simp at ho
          subst ho
          have e41 := hpre ⟨11, .data⟩ (by simp) rfl _ rfl _ rfl
          have e41 : a.tmps.getD 41 undef = .bool true := e41
          refine step_on (v := .bool true) (w' := u) (wanted_none rfl) ?_ (hK _ _ (Below.refl _ _) rfl)
          simp only [execOp, Act.eval, e41]
          go_simp
      · intro a u hts hdf hold hG hdone
        have e0 := hold 0 rfl
        have e1 := hold 1 rfl
        have e2 := hold 2 rfl
        have e3 := hold 3 rfl
        have e4 := hdone 12 _ rfl _ rfl
        have e5 := hold 5 rfl
        have e6 := hold 6 rfl
        have e7 := hold 7 rfl
        have e8 := hold 8 rfl
        have e9 := hold 9 rfl
        have e10 := hold 10 rfl
        have e11 := hold 11 rfl
        have e12 := hold 12 rfl
        have e13 := hold 13 rfl
        have e14 := hold 14 rfl
        have e15 := hold 15 rfl
        have e16 := hold 16 rfl
        have e17 := hold 17 rfl
        have e18 := hold 18 rfl
        have e19 := hold 19 rfl
        have e20 := hold 20 rfl
        have e21 := hold 21 rfl
        have e22 := hold 22 rfl
        have e23 := hold 23 rfl
        have e24 := hold 24 rfl
        have e25 := hold 25 rfl
        have e26 := hold 26 rfl
        have e27 := hold 27 rfl
        have e28 := hold 28 rfl
        have e29 := hold 29 rfl
        have e30 := hdone 0 _ rfl _ rfl
        have e31 := hdone 1 _ rfl _ rfl
        have e32 := hdone 2 _ rfl _ rfl
        have e33 := hdone 3 _ rfl _ rfl
        have e34 := hdone 4 _ rfl _ rfl
        have e35 := hdone 5 _ rfl _ rfl
        have e36 := hdone 6 _ rfl _ rfl
        have e37 := hdone 7 _ rfl _ rfl
        have e38 := hdone 8 _ rfl _ rfl
        have e39 := hdone 9 _ rfl _ rfl
        have e40 := hdone 10 _ rfl _ rfl
        have e41 := hdone 11 _ rfl _ rfl
        clear hdone hold
        obtain ⟨tm, df⟩ := a
        simp only at hts hdf e0 e1 e2 e3 e4 e5 e6 e7 e8 e9 e10 e11 e12 e13 e14 e15 e16 e17 e18 e19 e20 e21 e22 e23 e24 e25 e26 e27 e28 e29 e30 e31 e32 e33 e34 e35 e36 e37 e38 e39 e40 e41
        subst hdf
        have ht := arr_list tm 42 hts
        simp only [List.range, List.range.loop, List.map] at ht
        rw [ht]
        clear ht hts
        generalize tm.getD 0 undef = y0 at e0 ⊢
        generalize tm.getD 1 undef = y1 at e1 ⊢
        generalize tm.getD 2 undef = y2 at e2 ⊢
        generalize tm.getD 3 undef = y3 at e3 ⊢
        generalize tm.getD 4 undef = y4 at e4 ⊢
        generalize tm.getD 5 undef = y5 at e5 ⊢
        generalize tm.getD 6 undef = y6 at e6 ⊢
        generalize tm.getD 7 undef = y7 at e7 ⊢
        generalize tm.getD 8 undef = y8 at e8 ⊢
        generalize tm.getD 9 undef = y9 at e9 ⊢
        generalize tm.getD 10 undef = y10 at e10 ⊢
        generalize tm.getD 11 undef = y11 at e11 ⊢
        generalize tm.getD 12 undef = y12 at e12 ⊢
        generalize tm.getD 13 undef = y13 at e13 ⊢
        generalize tm.getD 14 undef = y14 at e14 ⊢
        generalize tm.getD 15 undef = y15 at e15 ⊢
        generalize tm.getD 16 undef = y16 at e16 ⊢
        generalize tm.getD 17 undef = y17 at e17 ⊢
        generalize tm.getD 18 undef = y18 at e18 ⊢
        generalize tm.getD 19 undef = y19 at e19 ⊢
        generalize tm.getD 20 undef = y20 at e20 ⊢
        generalize tm.getD 21 undef = y21 at e21 ⊢
        generalize tm.getD 22 undef = y22 at e22 ⊢
        generalize tm.getD 23 undef = y23 at e23 ⊢
        generalize tm.getD 24 undef = y24 at e24 ⊢
        generalize tm.getD 25 undef = y25 at e25 ⊢
        generalize tm.getD 26 undef = y26 at e26 ⊢
        generalize tm.getD 27 undef = y27 at e27 ⊢
        generalize tm.getD 28 undef = y28 at e28 ⊢
        generalize tm.getD 29 undef = y29 at e29 ⊢
        generalize tm.getD 30 undef = y30 at e30 ⊢
        generalize tm.getD 31 undef = y31 at e31 ⊢
        generalize tm.getD 32 undef = y32 at e32 ⊢
        generalize tm.getD 33 undef = y33 at e33 ⊢
        generalize tm.getD 34 undef = y34 at e34 ⊢
        generalize tm.getD 35 undef = y35 at e35 ⊢
        generalize tm.getD 36 undef = y36 at e36 ⊢
        generalize tm.getD 37 undef = y37 at e37 ⊢
        generalize tm.getD 38 undef = y38 at e38 ⊢
        generalize tm.getD 39 undef = y39 at e39 ⊢
        generalize tm.getD 40 undef = y40 at e40 ⊢
        generalize tm.getD 41 undef = y41 at e41 ⊢
        simp only [Array.getD_eq_getD_getElem?, List.getElem?_toArray, List.getElem?_cons_zero, List.getElem?_cons_succ, Option.getD_some] at e0 e1 e2 e3 e5 e6 e7 e8 e9 e10 e11 e12 e13 e14 e15 e16 e17 e18 e19 e20 e21 e22 e23 e24 e25 e26 e27 e28 e29
        subst e0
        subst e1
        subst e2
        subst e3
        subst e4
        subst e5
        subst e6
        subst e7
        subst e8
        subst e9
        subst e10
        subst e11
        subst e12
        subst e13
        subst e14
        subst e15
        subst e16
        subst e17
        subst e18
        subst e19
        subst e20
        subst e21
        subst e22
        subst e23
        subst e24
        subst e25
        subst e26
        subst e27
        subst e28
        subst e29
        subst e30
        subst e31
        subst e32
        subst e33
        subst e34
        subst e35
        subst e36
        subst e37
        subst e38
        subst e39
        subst e40
        subst e41
        have HU := Lib.hid (HB5.out.trans (hG.mono HB5.out.size))
        clear hG
        go_wp2
        go_ret
        exact ⟨rfl, HB1.out.trans (HU.out.mono HB1.out.size)⟩
end Go.Proofs.Ytchmgilckiadaaa
