/- law04.CodeRights, walked: it returns true (of scripts of no more than so many numbers). -/
import Derived.Test.YtchmgilckiadaaaApart
import Derived.Test.YtchmgilckiadaaaRcl
import Derived.Test.YtchmgilckiadaaaRgr
namespace Go.Proofs.Ytchmgilckiadaaa
open Go.RowKit
theorem FnBulk.mono {n m : Nat} {f : Fn} (h : FnBulk n f) (hm : n ≤ m) : FnBulk m f := by
  obtain ⟨a, b, c, d⟩ := h
  exact ⟨by omega, by omega, by omega, by omega⟩
theorem ScrBulk.mono {n m : Nat} {s : Scr} (h : ScrBulk n s) (hm : n ≤ m) : ScrBulk m s := by
  obtain ⟨a, b, c⟩ := h
  exact ⟨by omega, by omega, fun f hf => (c f hf).mono hm⟩
set_option maxRecDepth 100000 in
set_option maxHeartbeats 1000000 in
theorem rights_any (v : Value) (s : Scr) (w : World) (hs : ScrVal w v s) (hz : ScrSized s) (hbk : ScrBulk 1048576 s) :
    Calls Try.prog 9 #[v] w fun e w' => e = .returned (.bool true) ∧ Below w.heap.size w w' := by
  obtain ⟨v1, v2, rfl, h1, h2⟩ := hs
  have HS := Lib.hid (show ScrVal w (.agg #[v1, v2]) s from ⟨_, _, rfl, h1, h2⟩)
  obtain ⟨A1, k1, rfl, _⟩ := h1.open_
  obtain ⟨A2, k2, rfl, hc2⟩ := h2.open_
  have hl2 := h2.len
  have HC2 := Lib.hid hc2
  have HBK := Lib.hid hbk.2.2
  clear h1 h2 hc2 hbk
  obtain ⟨W1, hW⟩ : ∃ W1, w.alloc (.cells #[.slice A1 s.consts.length k1, .slice A2 s.funcs.length k2] 45) = W1 := ⟨_, rfl⟩
  obtain ⟨hb1, hq1⟩ := one_box hW
  have HCL := Lib.hid (clone_sized _ s W1 (HS.out.ext hb1) hz)
  have HQ1 := Lib.hid hq1
  obtain ⟨g0, g1⟩ := two_at (Below.refl _ _) hq1
  have HW := Lib.hid hW
  have HB1 := Lib.hid hb1
  clear hW hb1 hq1 hz
  go_enter Try.func9, Try.ntmps9
  go_upto_region 1 with (fail)
  rw [HW.out]
  go_upto_region 2 with (go_at_call 34; (with_reducible refine HCL.out.mono ?_); go_must (rintro e w2 ⟨⟨v2, rfl, hv2⟩, hb⟩; have HV2 := Lib.hid hv2; obtain ⟨x1, x2, rfl, hx1, hx2⟩ := hv2; obtain ⟨A3, k3, rfl, _⟩ := hx1.open_; obtain ⟨A4, k4, rfl, hc4⟩ := hx2.open_; have HC4 := Lib.hid hc4; have HB2 := Lib.hid hb; clear hx1 hx2 hc4 hb))
  clear g0 g1
  generalize hW3 : w2.alloc (.cells #[.slice A3 s.consts.length k3, .slice A4 s.funcs.length k4] 45) = W3
  obtain ⟨hb3, hq3⟩ := one_box hW3
  have hb13 := HB2.out.trans (hb3.mono HB2.out.size)
  have HQ := Lib.hid (fun w' (hb : Below W3.heap.size W3 w') => And.intro (two_at (hb13.trans (hb.mono hb13.size)) HQ1.out) (two_at hb hq3))
  have HB03 := Lib.hid (HB1.out.trans (hb13.mono HB1.out.size))
  have HB23 := Lib.hid hb3
  have HSA := Lib.hid (fun w' (hb : Below W3.heap.size W3 w') => HS.out.ext (HB03.out.trans (hb.mono HB03.out.size)))
  have HSX := Lib.hid (fun w' (hb : Below W3.heap.size W3 w') => HV2.out.ext (HB23.out.trans (hb.mono HB23.out.size)))
  clear hW3 hb3 hq3 hb13 HS HV2
  obtain ⟨⟨g0, g1⟩, g2, g3⟩ := HQ.out W3 (Below.refl _ _)
  go_wp2
  go_loopw [4] (fun i wr => ∃ k : Nat, k ≤ s.funcs.length ∧ i = .int .i64 k ∧ Below W3.heap.size W3 wr) (fun i _ => s.funcs.length - (intOf i).toNat)
  case atStart => exact ⟨0, Nat.zero_le _, rfl, Below.refl _ _⟩
  case round =>
    clear g0 g1 g2 g3
    obtain ⟨k, hk, rfl, hbe⟩ := hrel
    obtain ⟨⟨g0, g1⟩, g2, g3⟩ := HQ.out wr hbe
    by_cases hlt : k < s.funcs.length
    · obtain ⟨b2, o2, rfl, hcell2⟩ := HC2.out k hlt
      obtain ⟨b4, o4, rfl, hcell4⟩ := HC4.out k hlt
      obtain ⟨q1, q2, q3, q4⟩ := HBK.out _ (getD_in (d := default) hlt)
      generalize s.funcs.getD k default = f at *
      obtain ⟨vp, vr, vl, vc, hs0, hs1, hs2, hs3, hf1⟩ := (hcell2.ext HB03.out).ext hbe
      obtain ⟨P1, p1, rfl, _⟩ := hf1.p.at_
      obtain ⟨R1, r1, rfl, _⟩ := hf1.r.at_
      obtain ⟨L1, l1, rfl, _⟩ := hf1.l.at_
      obtain ⟨C1, c1, rfl, _⟩ := hf1.c.at_
      obtain ⟨wp, wr1, wl, wc, hx0, hx1, hx2, hx3, hf2⟩ := (hcell4.ext HB23.out).ext hbe
      obtain ⟨P2, p2, rfl, _⟩ := hf2.p.at_
      obtain ⟨R2, r2, rfl, _⟩ := hf2.r.at_
      obtain ⟨L2, l2, rfl, _⟩ := hf2.l.at_
      obtain ⟨C2, c2, rfl, _⟩ := hf2.c.at_
      have HF1 := Lib.hid hf1
      have HF2 := Lib.hid hf2
      have hk0 : (0 : Int) ≤ k := by omega
      have hk1 : (k : Int) < (s.funcs.length : Int) := by omega
      clear hf1 hf2 hcell2 hcell4
      go_upto_region 5 with (fail)
      clear g0 g1 g2 g3
      refine region_mono (by kernel_rfl) wr (fun j v u => match j with
        | 0 => v = .pointer (some ⟨w2.heap.size, 1, none⟩)
        | 1 => v = .slice (some ⟨b4, o4, none⟩) s.funcs.length k4
        | 2 => v = .int .i64 k
        | 3 => v = .pointer (some ⟨b4, o4 + k * 4, none⟩)
        | 4 => v = .agg #[.slice P2 f.params.length p2, .slice R2 f.results.length r2, .slice L2 f.locals.length l2, .slice C2 f.code.length c2]
        | 5 => Ints u v (f.params ++ f.locals)
        | 6 => v = .pointer (some ⟨w.heap.size, 1, none⟩)
        | 7 => v = .slice (some ⟨b2, o2, none⟩) s.funcs.length k2
        | 8 => v = .int .i64 k
        | 9 => v = .pointer (some ⟨b2, o2 + k * 4, none⟩)
        | 10 => v = .agg #[.slice P1 f.params.length p1, .slice R1 f.results.length r1, .slice L1 f.locals.length l1, .slice C1 f.code.length c1]
        | 11 => Ints u v (f.params ++ f.locals)
        | 12 => v = .bool true
        | 13 => v = .bool false
        | _ => True) (by kernel_rfl) ?_ (Below.refl _ _) ?_ ?_
      · intro j v u u' hF hb
        match j, hF with
        | 0, hF => exact hF
        | 1, hF => exact hF
        | 2, hF => exact hF
        | 3, hF => exact hF
        | 4, hF => exact hF
        | 5, hF => exact hF.ext hb
        | 6, hF => exact hF
        | 7, hF => exact hF
        | 8, hF => exact hF
        | 9, hF => exact hF
        | 10, hF => exact hF
        | 11, hF => exact hF.ext hb
        | 12, hF => exact hF
        | 13, hF => exact hF
        | _ + 14, _ => exact trivial
      · intro a u hts hdf hold hG i o ho hpre K hK
        have hi : i < 14 := (Array.getElem?_eq_some_iff.1 ho).1
        match i, hi with
        | 0, _ =>
          simp at ho
          subst ho
          have e3 := hold 3 rfl
          refine step_on (v := .pointer (some ⟨w2.heap.size, 1, none⟩)) (w' := u) (wanted_none rfl) ?_ (hK _ _ (Below.refl _ _) rfl)
          simp only [execOp, Act.eval, e3]
          go_simp
        | 1, _ =>
          simp at ho
          subst ho
          have e14 := hpre ⟨0, .data⟩ (by simp) rfl _ rfl _ rfl
          have e14 : a.tmps.getD 14 undef = .pointer (some ⟨w2.heap.size, 1, none⟩) := e14
          obtain ⟨⟨g0, g1⟩, g2, g3⟩ := HQ.out u (hbe.trans (hG.mono hbe.size))
          refine step_on (v := .slice (some ⟨b4, o4, none⟩) s.funcs.length k4) (w' := u) (wanted_none rfl) ?_ (hK _ _ (Below.refl _ _) rfl)
          simp only [execOp, Act.eval, e14]
          go_simp
        | 2, _ =>
          simp at ho
          subst ho
          have e4 := hold 4 rfl
          refine step_on (v := .int .i64 k) (w' := u) (wanted_none rfl) ?_ (hK _ _ (Below.refl _ _) rfl)
          simp only [execOp, Act.eval, e4]
          go_simp
        | 3, _ =>
          simp at ho
          subst ho
          have e15 := hpre ⟨1, .data⟩ (by simp) rfl _ rfl _ rfl
          have e15 : a.tmps.getD 15 undef = .slice (some ⟨b4, o4, none⟩) s.funcs.length k4 := e15
          have e16 := hpre ⟨2, .data⟩ (by simp) rfl _ rfl _ rfl
          have e16 : a.tmps.getD 16 undef = .int .i64 k := e16
          refine step_on (v := .pointer (some ⟨b4, o4 + k * 4, none⟩)) (w' := u) (wanted_none rfl) ?_ (hK _ _ (Below.refl _ _) rfl)
          simp only [execOp, Act.eval, e15, e16]
          go_simp
        | 4, _ =>
          simp at ho
          subst ho
          have e17 := hpre ⟨3, .data⟩ (by simp) rfl _ rfl _ rfl
          have e17 : a.tmps.getD 17 undef = .pointer (some ⟨b4, o4 + k * 4, none⟩) := e17
          have i0 := cell_ext hx0 hG
          have i1 := cell_ext hx1 hG
          have i2 := cell_ext hx2 hG
          have i3 := cell_ext hx3 hG
          refine step_on (v := .agg #[.slice P2 f.params.length p2, .slice R2 f.results.length r2, .slice L2 f.locals.length l2, .slice C2 f.code.length c2]) (w' := u) (wanted_none rfl) ?_ (hK _ _ (Below.refl _ _) rfl)
          simp only [execOp, Act.eval, e17]
          go_simp
        | 5, _ =>
          simp at ho
          subst ho
          have e18 := hpre ⟨4, .data⟩ (by simp) rfl _ rfl _ rfl
          have e18 : a.tmps.getD 18 undef = .agg #[.slice P2 f.params.length p2, .slice R2 f.results.length r2, .slice L2 f.locals.length l2, .slice C2 f.code.length c2] := e18
          have hi := slotsc_any _ f u ⟨_, _, _, _, rfl, HF2.out.ext hG⟩ (by omega)
          refine step_call (R := fun v u' => Ints u' v (f.params ++ f.locals) ∧ Below u.heap.size u u') (f := 38) (args := #[.agg #[.slice P2 f.params.length p2, .slice R2 f.results.length r2, .slice L2 f.locals.length l2, .slice C2 f.code.length c2]]) (wanted_none rfl) ?_ (hi.mono (fun e w' h => by obtain ⟨⟨v, h1, h2⟩, h3⟩ := h; exact ⟨v, h1, h2, h3⟩)) ?_
          · simp only [execOp, Act.eval, e18]
            go_simp
          · intro v u' h
            exact hK _ _ h.2 h.1
        | 6, _ =>
          simp at ho
          subst ho
          have e1 := hold 1 rfl
          refine step_on (v := .pointer (some ⟨w.heap.size, 1, none⟩)) (w' := u) (wanted_none rfl) ?_ (hK _ _ (Below.refl _ _) rfl)
          simp only [execOp, Act.eval, e1]
          go_simp
        | 7, _ =>
          simp at ho
          subst ho
          have e20 := hpre ⟨6, .data⟩ (by simp) rfl _ rfl _ rfl
          have e20 : a.tmps.getD 20 undef = .pointer (some ⟨w.heap.size, 1, none⟩) := e20
          obtain ⟨⟨g0, g1⟩, g2, g3⟩ := HQ.out u (hbe.trans (hG.mono hbe.size))
          refine step_on (v := .slice (some ⟨b2, o2, none⟩) s.funcs.length k2) (w' := u) (wanted_none rfl) ?_ (hK _ _ (Below.refl _ _) rfl)
          simp only [execOp, Act.eval, e20]
          go_simp
        | 8, _ =>
          simp at ho
          subst ho
          have e4 := hold 4 rfl
          refine step_on (v := .int .i64 k) (w' := u) (wanted_none rfl) ?_ (hK _ _ (Below.refl _ _) rfl)
          simp only [execOp, Act.eval, e4]
          go_simp
        | 9, _ =>
          simp at ho
          subst ho
          have e21 := hpre ⟨7, .data⟩ (by simp) rfl _ rfl _ rfl
          have e21 : a.tmps.getD 21 undef = .slice (some ⟨b2, o2, none⟩) s.funcs.length k2 := e21
          have e22 := hpre ⟨8, .data⟩ (by simp) rfl _ rfl _ rfl
          have e22 : a.tmps.getD 22 undef = .int .i64 k := e22
          refine step_on (v := .pointer (some ⟨b2, o2 + k * 4, none⟩)) (w' := u) (wanted_none rfl) ?_ (hK _ _ (Below.refl _ _) rfl)
          simp only [execOp, Act.eval, e21, e22]
          go_simp
        | 10, _ =>
          simp at ho
          subst ho
          have e23 := hpre ⟨9, .data⟩ (by simp) rfl _ rfl _ rfl
          have e23 : a.tmps.getD 23 undef = .pointer (some ⟨b2, o2 + k * 4, none⟩) := e23
          have i0 := cell_ext hs0 hG
          have i1 := cell_ext hs1 hG
          have i2 := cell_ext hs2 hG
          have i3 := cell_ext hs3 hG
          refine step_on (v := .agg #[.slice P1 f.params.length p1, .slice R1 f.results.length r1, .slice L1 f.locals.length l1, .slice C1 f.code.length c1]) (w' := u) (wanted_none rfl) ?_ (hK _ _ (Below.refl _ _) rfl)
          simp only [execOp, Act.eval, e23]
          go_simp
        | 11, _ =>
          simp at ho
          subst ho
          have e24 := hpre ⟨10, .data⟩ (by simp) rfl _ rfl _ rfl
          have e24 : a.tmps.getD 24 undef = .agg #[.slice P1 f.params.length p1, .slice R1 f.results.length r1, .slice L1 f.locals.length l1, .slice C1 f.code.length c1] := e24
          have hi := slotr_any _ f u ⟨_, _, _, _, rfl, HF1.out.ext hG⟩ (by omega) (by omega)
          refine step_call (R := fun v u' => Ints u' v (f.params ++ f.locals) ∧ Below u.heap.size u u') (f := 39) (args := #[.agg #[.slice P1 f.params.length p1, .slice R1 f.results.length r1, .slice L1 f.locals.length l1, .slice C1 f.code.length c1]]) (wanted_none rfl) ?_ (hi.mono (fun e w' h => by obtain ⟨⟨v, h1, h2⟩, h3⟩ := h; exact ⟨v, h1, h2, h3⟩)) ?_
          · simp only [execOp, Act.eval, e24]
            go_simp
          · intro v u' h
            exact hK _ _ h.2 h.1
        | 12, _ =>
          simp at ho
          subst ho
          have e19 := hpre ⟨5, .data⟩ (by simp) rfl _ rfl _ rfl
          have e25 := hpre ⟨11, .data⟩ (by simp) rfl _ rfl _ rfl
          have e19 : Ints u (a.tmps.getD 19 undef) (f.params ++ f.locals) := e19
          have e25 : Ints u (a.tmps.getD 25 undef) (f.params ++ f.locals) := e25
          have hi := ints3_any _ _ _ _ u e19 e25
          refine step_call (R := fun v u' => v = .bool true ∧ Below u.heap.size u u') (f := 30) (args := #[a.tmps.getD 19 undef, a.tmps.getD 25 undef]) (wanted_none rfl) ?_ (hi.mono (fun e w' h => ⟨.bool true, by rw [h.1, decide_eq_true rfl], rfl, h.2⟩)) ?_
          · simp only [execOp, Act.eval]
            go_simp
          · intro v u' h
            exact hK _ _ h.2 h.1
        | 13, _ =>
          simp at ho
          subst ho
          have e26 := hpre ⟨12, .data⟩ (by simp) rfl _ rfl _ rfl
          have e26 : a.tmps.getD 26 undef = .bool true := e26
          refine step_on (v := .bool false) (w' := u) (wanted_none rfl) ?_ (hK _ _ (Below.refl _ _) rfl)
          simp only [execOp, Act.eval, e26]
          go_simp
      · intro a u hts hdf hold hG hdone
        have e0 := hold 0 rfl
        have e1 := hold 1 rfl
        have e2 := hold 2 rfl
        have e3 := hold 3 rfl
        have e4 := hold 4 rfl
        have e5 := hold 5 rfl
        have e6 := hold 6 rfl
        have e7 := hold 7 rfl
        have e8 := hold 8 rfl
        have e9 := hold 9 rfl
        have e10 := hold 10 rfl
        have e11 := hold 11 rfl
        have e12 := hold 12 rfl
        have e13 := hold 13 rfl
        have e14 := hdone 0 _ rfl _ rfl
        have e15 := hdone 1 _ rfl _ rfl
        have e16 := hdone 2 _ rfl _ rfl
        have e17 := hdone 3 _ rfl _ rfl
        have e18 := hdone 4 _ rfl _ rfl
        have e19 := hdone 5 _ rfl _ rfl
        have e20 := hdone 6 _ rfl _ rfl
        have e21 := hdone 7 _ rfl _ rfl
        have e22 := hdone 8 _ rfl _ rfl
        have e23 := hdone 9 _ rfl _ rfl
        have e24 := hdone 10 _ rfl _ rfl
        have e25 := hdone 11 _ rfl _ rfl
        have e26 := hdone 12 _ rfl _ rfl
        have e27 := hdone 13 _ rfl _ rfl
        have e28 := hold 28 rfl
        have e29 := hold 29 rfl
        have e30 := hold 30 rfl
        have e31 := hold 31 rfl
        have e32 := hold 32 rfl
        have e33 := hold 33 rfl
        have e34 := hold 34 rfl
        have e35 := hold 35 rfl
        have e36 := hold 36 rfl
        have e37 := hold 37 rfl
        have e38 := hold 38 rfl
        have e39 := hold 39 rfl
        have e40 := hold 40 rfl
        clear hdone hold
        obtain ⟨tm, df⟩ := a
        simp only at hts hdf e0 e1 e2 e3 e4 e5 e6 e7 e8 e9 e10 e11 e12 e13 e14 e15 e16 e17 e18 e19 e20 e21 e22 e23 e24 e25 e26 e27 e28 e29 e30 e31 e32 e33 e34 e35 e36 e37 e38 e39 e40
        subst hdf
        have ht := arr_list tm 41 hts
        simp only [List.range, List.range.loop, List.map] at ht
        rw [ht]
        clear ht hts
        generalize tm.getD 0 undef = y0 at e0 ⊢
        generalize tm.getD 1 undef = y1 at e1 ⊢
        generalize tm.getD 2 undef = y2 at e2 ⊢
        generalize tm.getD 3 undef = y3 at e3 ⊢
        generalize tm.getD 4 undef = y4 at e4 ⊢
        generalize tm.getD 5 undef = y5 at e5 ⊢
        generalize tm.getD 6 undef = y6 at e6 ⊢
        generalize tm.getD 7 undef = y7 at e7 ⊢
        generalize tm.getD 8 undef = y8 at e8 ⊢
        generalize tm.getD 9 undef = y9 at e9 ⊢
        generalize tm.getD 10 undef = y10 at e10 ⊢
        generalize tm.getD 11 undef = y11 at e11 ⊢
        generalize tm.getD 12 undef = y12 at e12 ⊢
        generalize tm.getD 13 undef = y13 at e13 ⊢
        generalize tm.getD 14 undef = y14 at e14 ⊢
        generalize tm.getD 15 undef = y15 at e15 ⊢
        generalize tm.getD 16 undef = y16 at e16 ⊢
        generalize tm.getD 17 undef = y17 at e17 ⊢
        generalize tm.getD 18 undef = y18 at e18 ⊢
        generalize tm.getD 19 undef = y19 at e19 ⊢
        generalize tm.getD 20 undef = y20 at e20 ⊢
        generalize tm.getD 21 undef = y21 at e21 ⊢
        generalize tm.getD 22 undef = y22 at e22 ⊢
        generalize tm.getD 23 undef = y23 at e23 ⊢
        generalize tm.getD 24 undef = y24 at e24 ⊢
        generalize tm.getD 25 undef = y25 at e25 ⊢
        generalize tm.getD 26 undef = y26 at e26 ⊢
        generalize tm.getD 27 undef = y27 at e27 ⊢
        generalize tm.getD 28 undef = y28 at e28 ⊢
        generalize tm.getD 29 undef = y29 at e29 ⊢
        generalize tm.getD 30 undef = y30 at e30 ⊢
        generalize tm.getD 31 undef = y31 at e31 ⊢
        generalize tm.getD 32 undef = y32 at e32 ⊢
        generalize tm.getD 33 undef = y33 at e33 ⊢
        generalize tm.getD 34 undef = y34 at e34 ⊢
        generalize tm.getD 35 undef = y35 at e35 ⊢
        generalize tm.getD 36 undef = y36 at e36 ⊢
        generalize tm.getD 37 undef = y37 at e37 ⊢
        generalize tm.getD 38 undef = y38 at e38 ⊢
        generalize tm.getD 39 undef = y39 at e39 ⊢
        generalize tm.getD 40 undef = y40 at e40 ⊢
        simp only [Array.getD_eq_getD_getElem?, List.getElem?_toArray, List.getElem?_cons_zero, List.getElem?_cons_succ, Option.getD_some] at e0 e1 e2 e3 e4 e5 e6 e7 e8 e9 e10 e11 e12 e13 e28 e29 e30 e31 e32 e33 e34 e35 e36 e37 e38 e39 e40
        subst e0
        subst e1
        subst e2
        subst e3
        subst e4
        subst e5
        subst e6
        subst e7
        subst e8
        subst e9
        subst e10
        subst e11
        subst e12
        subst e13
        subst e14
        subst e15
        subst e16
        subst e17
        subst e18
        subst e20
        subst e21
        subst e22
        subst e23
        subst e24
        subst e26
        subst e27
        subst e28
        subst e29
        subst e30
        subst e31
        subst e32
        subst e33
        subst e34
        subst e35
        subst e36
        subst e37
        subst e38
        subst e39
        subst e40
        have HU := Lib.hid (hbe.trans (hG.mono hbe.size))
        clear hG hbe e19 e25 hs0 hs1 hs2 hs3 hx0 hx1 hx2 hx3
        go_wp2
        go_roundw
        case rel => exact ⟨k + 1, by omega, by go_num, HU.out⟩
        case measure => simp [intOf]; omega
    · have e : k = s.funcs.length := by omega
      subst e
      go_upto_region 7 with (fail)
      clear g0 g1 g2 g3
      refine region_mono (by kernel_rfl) wr (fun j v u => match j with
        | 0 => v = .agg #[.slice A3 s.consts.length k3, .slice A4 s.funcs.length k4]
        | 1 => v = .bool (rightB s)
        | 2 => v = .agg #[.slice A1 s.consts.length k1, .slice A2 s.funcs.length k2]
        | 3 => v = .bool (rightB s)
        | 4 => v = .bool true
        | 5 => v = .bool true
        | 6 => v = .agg #[.slice A3 s.consts.length k3, .slice A4 s.funcs.length k4]
        | 7 => v = .agg #[.slice A1 s.consts.length k1, .slice A2 s.funcs.length k2]
        | 8 => v = .bool true
        | 9 => v = .bool true
        | 10 => v = .bool true
        | 11 => v = .bool true
        | 12 => v = .bool true
        | 13 => v = .bool true
        | _ => True) (by kernel_rfl) ?_ (Below.refl _ _) ?_ ?_
      · intro j v u u' hF hb
        match j, hF with
        | 0, hF => exact hF
        | 1, hF => exact hF
        | 2, hF => exact hF
        | 3, hF => exact hF
        | 4, hF => exact hF
        | 5, hF => exact hF
        | 6, hF => exact hF
        | 7, hF => exact hF
        | 8, hF => exact hF
        | 9, hF => exact hF
        | 10, hF => exact hF
        | 11, hF => exact hF
        | 12, hF => exact hF
        | 13, hF => exact hF
        | _ + 14, _ => exact trivial
      · intro a u hts hdf hold hG i o ho hpre K hK
        have hi : i < 14 := (Array.getElem?_eq_some_iff.1 ho).1
        match i, hi with
        | 0, _ =>
          simp at ho
          subst ho
          have e3 := hold 3 rfl
          obtain ⟨⟨g0, g1⟩, g2, g3⟩ := HQ.out u (hbe.trans (hG.mono hbe.size))
          refine step_on (v := .agg #[.slice A3 s.consts.length k3, .slice A4 s.funcs.length k4]) (w' := u) (wanted_none rfl) ?_ (hK _ _ (Below.refl _ _) rfl)
          simp only [execOp, Act.eval, e3]
          go_simp
        | 1, _ =>
          simp at ho
          subst ho
          have e28 := hpre ⟨0, .data⟩ (by simp) rfl _ rfl _ rfl
          have e28 : a.tmps.getD 28 undef = .agg #[.slice A3 s.consts.length k3, .slice A4 s.funcs.length k4] := e28
          have hi := codeRight_any _ s u (HSX.out u (hbe.trans (hG.mono hbe.size)))
          refine step_call (R := fun v u' => v = .bool (rightB s) ∧ Below u.heap.size u u') (f := 40) (args := #[.agg #[.slice A3 s.consts.length k3, .slice A4 s.funcs.length k4]]) (wanted_none rfl) ?_ (hi.mono (fun e w' h => ⟨_, h.1, rfl, h.2⟩)) ?_
          · simp only [execOp, Act.eval, e28]
            go_simp
          · intro v u' h
            exact hK _ _ h.2 h.1
        | 2, _ =>
          simp at ho
          subst ho
          have e1 := hold 1 rfl
          obtain ⟨⟨g0, g1⟩, g2, g3⟩ := HQ.out u (hbe.trans (hG.mono hbe.size))
          refine step_on (v := .agg #[.slice A1 s.consts.length k1, .slice A2 s.funcs.length k2]) (w' := u) (wanted_none rfl) ?_ (hK _ _ (Below.refl _ _) rfl)
          simp only [execOp, Act.eval, e1]
          go_simp
        | 3, _ =>
          simp at ho
          subst ho
          have e30 := hpre ⟨2, .data⟩ (by simp) rfl _ rfl _ rfl
          have e30 : a.tmps.getD 30 undef = .agg #[.slice A1 s.consts.length k1, .slice A2 s.funcs.length k2] := e30
          have hi := right3_any _ s u (HSA.out u (hbe.trans (hG.mono hbe.size)))
          refine step_call (R := fun v u' => v = .bool (rightB s) ∧ Below u.heap.size u u') (f := 41) (args := #[.agg #[.slice A1 s.consts.length k1, .slice A2 s.funcs.length k2]]) (wanted_none rfl) ?_ (hi.mono (fun e w' h => ⟨_, h.1, rfl, h.2⟩)) ?_
          · simp only [execOp, Act.eval, e30]
            go_simp
          · intro v u' h
            exact hK _ _ h.2 h.1
        | 4, _ =>
          simp at ho
          subst ho
          have e29 := hpre ⟨1, .data⟩ (by simp) rfl _ rfl _ rfl
          have e29 : a.tmps.getD 29 undef = .bool (rightB s) := e29
          have e31 := hpre ⟨3, .data⟩ (by simp) rfl _ rfl _ rfl
          have e31 : a.tmps.getD 31 undef = .bool (rightB s) := e31
          refine step_on (v := .bool true) (w' := u) (wanted_none rfl) ?_ (hK _ _ (Below.refl _ _) rfl)
          simp only [execOp, Act.eval, e29, e31]
          go_simp
        | 5, _ =>
          simp at ho
          subst ho
          have e32 := hpre ⟨4, .data⟩ (by simp) rfl _ rfl _ rfl
          have e32 : a.tmps.getD 32 undef = .bool true := e32
          refine step_on (v := .bool true) (w' := u) (wanted_none rfl) ?_ (hK _ _ (Below.refl _ _) rfl)
          simp only [execOp, Act.eval, e32]
          go_simp
        | 6, _ =>
          simp at ho
          subst ho
          have e3 := hold 3 rfl
          have eg := hpre ⟨5, .guard⟩ (by simp) rfl _ rfl _ rfl
          have eg : a.tmps.getD 33 undef = .bool true := eg
          obtain ⟨⟨g0, g1⟩, g2, g3⟩ := HQ.out u (hbe.trans (hG.mono hbe.size))
          refine step_on (v := .agg #[.slice A3 s.consts.length k3, .slice A4 s.funcs.length k4]) (w' := u) (wanted_at (j := 5) rfl rfl rfl (by rw [hts]; simp) eg) ?_ (hK _ _ (Below.refl _ _) rfl)
          simp only [execOp, Act.eval, e3]
          go_simp
        | 7, _ =>
          simp at ho
          subst ho
          have e1 := hold 1 rfl
          have eg := hpre ⟨5, .guard⟩ (by simp) rfl _ rfl _ rfl
          have eg : a.tmps.getD 33 undef = .bool true := eg
          obtain ⟨⟨g0, g1⟩, g2, g3⟩ := HQ.out u (hbe.trans (hG.mono hbe.size))
          refine step_on (v := .agg #[.slice A1 s.consts.length k1, .slice A2 s.funcs.length k2]) (w' := u) (wanted_at (j := 5) rfl rfl rfl (by rw [hts]; simp) eg) ?_ (hK _ _ (Below.refl _ _) rfl)
          simp only [execOp, Act.eval, e1]
          go_simp
        | 8, _ =>
          simp at ho
          subst ho
          have e34 := hpre ⟨6, .data⟩ (by simp) rfl _ rfl _ rfl
          have e34 : a.tmps.getD 34 undef = .agg #[.slice A3 s.consts.length k3, .slice A4 s.funcs.length k4] := e34
          have e35 := hpre ⟨7, .data⟩ (by simp) rfl _ rfl _ rfl
          have e35 : a.tmps.getD 35 undef = .agg #[.slice A1 s.consts.length k1, .slice A2 s.funcs.length k2] := e35
          have eg := hpre ⟨5, .guard⟩ (by simp) rfl _ rfl _ rfl
          have eg : a.tmps.getD 33 undef = .bool true := eg
          have hi := refSame_any _ _ s s u (HSX.out u (hbe.trans (hG.mono hbe.size))) (HSA.out u (hbe.trans (hG.mono hbe.size)))
          refine step_call (R := fun v u' => v = .bool true ∧ Below u.heap.size u u') (f := 37) (args := #[.agg #[.slice A3 s.consts.length k3, .slice A4 s.funcs.length k4], .agg #[.slice A1 s.consts.length k1, .slice A2 s.funcs.length k2]]) (wanted_at (j := 5) rfl rfl rfl (by rw [hts]; simp) eg) ?_ (hi.mono (fun e w' h => ⟨.bool true, by rw [h.1, decide_eq_true rfl], rfl, h.2⟩)) ?_
          · simp only [execOp, Act.eval, e34, e35]
            go_simp
          · intro v u' h
            exact hK _ _ h.2 h.1
        | 9, _ =>
          simp at ho
          subst ho
          have e33 := hpre ⟨5, .data⟩ (by simp) rfl _ rfl _ rfl
          have e33 : a.tmps.getD 33 undef = .bool true := e33
          have e36 := hpre ⟨8, .data⟩ (by simp) rfl _ rfl _ rfl
          have e36 : a.tmps.getD 36 undef = .bool true := e36
          refine step_on (v := .bool true) (w' := u) (wanted_none rfl) ?_ (hK _ _ (Below.refl _ _) rfl)
          simp only [execOp, Act.eval, e33, e36]
          go_simp
        | 10, _ =>
          simp at ho
          subst ho
          have e37 := hpre ⟨9, .data⟩ (by simp) rfl _ rfl _ rfl
          have e37 : a.tmps.getD 37 undef = .bool true := e37
          refine step_on (v := .bool true) (w' := u) (wanted_none rfl) ?_ (hK _ _ (Below.refl _ _) rfl)
          simp only [execOp, Act.eval, e37]
          go_simp
        | 11, _ =>
          simp at ho
          subst ho
          have eg := hpre ⟨10, .guard⟩ (by simp) rfl _ rfl _ rfl
          have eg : a.tmps.getD 38 undef = .bool true := eg
          refine step_call (R := fun v u' => v = .bool true ∧ Below u.heap.size u u') (f := 36) (args := #[]) (wanted_at (j := 10) rfl rfl rfl (by rw [hts]; simp) eg) ?_ ((knows4_any u).mono (fun e w' h => ⟨_, h.1, rfl, h.2⟩)) ?_
          · simp only [execOp, Act.eval]
            go_simp
          · intro v u' h
            exact hK _ _ h.2 h.1
        | 12, _ =>
          simp at ho
          subst ho
          have e38 := hpre ⟨10, .data⟩ (by simp) rfl _ rfl _ rfl
          have e38 : a.tmps.getD 38 undef = .bool true := e38
          have e39 := hpre ⟨11, .data⟩ (by simp) rfl _ rfl _ rfl
          have e39 : a.tmps.getD 39 undef = .bool true := e39
          refine step_on (v := .bool true) (w' := u) (wanted_none rfl) ?_ (hK _ _ (Below.refl _ _) rfl)
          simp only [execOp, Act.eval, e38, e39]
          go_simp
        | 13, _ =>
          simp at ho
          subst ho
          have e40 := hpre ⟨12, .data⟩ (by simp) rfl _ rfl _ rfl
          have e40 : a.tmps.getD 40 undef = .bool true := e40
          refine step_on (v := .bool true) (w' := u) (wanted_none rfl) ?_ (hK _ _ (Below.refl _ _) rfl)
          simp only [execOp, Act.eval, e40]
          go_simp
      · intro a u hts hdf hold hG hdone
        have e0 := hold 0 rfl
        have e1 := hold 1 rfl
        have e2 := hdone 13 _ rfl _ rfl
        have e3 := hold 3 rfl
        have e4 := hold 4 rfl
        have e5 := hold 5 rfl
        have e6 := hold 6 rfl
        have e7 := hold 7 rfl
        have e8 := hold 8 rfl
        have e9 := hold 9 rfl
        have e10 := hold 10 rfl
        have e11 := hold 11 rfl
        have e12 := hold 12 rfl
        have e13 := hold 13 rfl
        have e14 := hold 14 rfl
        have e15 := hold 15 rfl
        have e16 := hold 16 rfl
        have e17 := hold 17 rfl
        have e18 := hold 18 rfl
        have e19 := hold 19 rfl
        have e20 := hold 20 rfl
        have e21 := hold 21 rfl
        have e22 := hold 22 rfl
        have e23 := hold 23 rfl
        have e24 := hold 24 rfl
        have e25 := hold 25 rfl
        have e26 := hold 26 rfl
        have e27 := hold 27 rfl
        have e28 := hdone 0 _ rfl _ rfl
        have e29 := hdone 1 _ rfl _ rfl
        have e30 := hdone 2 _ rfl _ rfl
        have e31 := hdone 3 _ rfl _ rfl
        have e32 := hdone 4 _ rfl _ rfl
        have e33 := hdone 5 _ rfl _ rfl
        have e34 := hdone 6 _ rfl _ rfl
        have e35 := hdone 7 _ rfl _ rfl
        have e36 := hdone 8 _ rfl _ rfl
        have e37 := hdone 9 _ rfl _ rfl
        have e38 := hdone 10 _ rfl _ rfl
        have e39 := hdone 11 _ rfl _ rfl
        have e40 := hdone 12 _ rfl _ rfl
        clear hdone hold
        obtain ⟨tm, df⟩ := a
        simp only at hts hdf e0 e1 e2 e3 e4 e5 e6 e7 e8 e9 e10 e11 e12 e13 e14 e15 e16 e17 e18 e19 e20 e21 e22 e23 e24 e25 e26 e27 e28 e29 e30 e31 e32 e33 e34 e35 e36 e37 e38 e39 e40
        subst hdf
        have ht := arr_list tm 41 hts
        simp only [List.range, List.range.loop, List.map] at ht
        rw [ht]
        clear ht hts
        generalize tm.getD 0 undef = y0 at e0 ⊢
        generalize tm.getD 1 undef = y1 at e1 ⊢
        generalize tm.getD 2 undef = y2 at e2 ⊢
        generalize tm.getD 3 undef = y3 at e3 ⊢
        generalize tm.getD 4 undef = y4 at e4 ⊢
        generalize tm.getD 5 undef = y5 at e5 ⊢
        generalize tm.getD 6 undef = y6 at e6 ⊢
        generalize tm.getD 7 undef = y7 at e7 ⊢
        generalize tm.getD 8 undef = y8 at e8 ⊢
        generalize tm.getD 9 undef = y9 at e9 ⊢
        generalize tm.getD 10 undef = y10 at e10 ⊢
        generalize tm.getD 11 undef = y11 at e11 ⊢
        generalize tm.getD 12 undef = y12 at e12 ⊢
        generalize tm.getD 13 undef = y13 at e13 ⊢
        generalize tm.getD 14 undef = y14 at e14 ⊢
        generalize tm.getD 15 undef = y15 at e15 ⊢
        generalize tm.getD 16 undef = y16 at e16 ⊢
        generalize tm.getD 17 undef = y17 at e17 ⊢
        generalize tm.getD 18 undef = y18 at e18 ⊢
        generalize tm.getD 19 undef = y19 at e19 ⊢
        generalize tm.getD 20 undef = y20 at e20 ⊢
        generalize tm.getD 21 undef = y21 at e21 ⊢
        generalize tm.getD 22 undef = y22 at e22 ⊢
        generalize tm.getD 23 undef = y23 at e23 ⊢
        generalize tm.getD 24 undef = y24 at e24 ⊢
        generalize tm.getD 25 undef = y25 at e25 ⊢
        generalize tm.getD 26 undef = y26 at e26 ⊢
        generalize tm.getD 27 undef = y27 at e27 ⊢
        generalize tm.getD 28 undef = y28 at e28 ⊢
        generalize tm.getD 29 undef = y29 at e29 ⊢
        generalize tm.getD 30 undef = y30 at e30 ⊢
        generalize tm.getD 31 undef = y31 at e31 ⊢
        generalize tm.getD 32 undef = y32 at e32 ⊢
        generalize tm.getD 33 undef = y33 at e33 ⊢
        generalize tm.getD 34 undef = y34 at e34 ⊢
        generalize tm.getD 35 undef = y35 at e35 ⊢
        generalize tm.getD 36 undef = y36 at e36 ⊢
        generalize tm.getD 37 undef = y37 at e37 ⊢
        generalize tm.getD 38 undef = y38 at e38 ⊢
        generalize tm.getD 39 undef = y39 at e39 ⊢
        generalize tm.getD 40 undef = y40 at e40 ⊢
        simp only [Array.getD_eq_getD_getElem?, List.getElem?_toArray, List.getElem?_cons_zero, List.getElem?_cons_succ, Option.getD_some] at e0 e1 e3 e4 e5 e6 e7 e8 e9 e10 e11 e12 e13 e14 e15 e16 e17 e18 e19 e20 e21 e22 e23 e24 e25 e26 e27
        subst e0
        subst e1
        subst e2
        subst e3
        subst e4
        subst e5
        subst e6
        subst e7
        subst e8
        subst e9
        subst e10
        subst e11
        subst e12
        subst e13
        subst e14
        subst e15
        subst e16
        subst e17
        subst e18
        subst e19
        subst e20
        subst e21
        subst e22
        subst e23
        subst e24
        subst e25
        subst e26
        subst e27
        subst e28
        subst e29
        subst e30
        subst e31
        subst e32
        subst e33
        subst e34
        subst e35
        subst e36
        subst e37
        subst e38
        subst e39
        subst e40
        have HU := Lib.hid (hbe.trans (hG.mono hbe.size))
        clear hG hbe
        go_wp2
        go_ret
        exact ⟨rfl, HB03.out.trans (HU.out.mono HB03.out.size)⟩
end Go.Proofs.Ytchmgilckiadaaa
