/- ref04.Right: may a script be? -/
import Derived.Test.YtchmgilckiadaaaRgf
namespace Go.Proofs.Ytchmgilckiadaaa
open Go.RowKit
theorem one_box {w W1 : World} {t : TypeId} {c1 : Array Value} (h : w.alloc (.cells c1 t) = W1) : Below w.heap.size w W1 ∧ W1.heap[w.heap.size]? = some (.cells c1 t (0, 0)) := by
  rw [← h]
  exact ⟨below_new w _, World.alloc_heap_new w _⟩
set_option maxRecDepth 100000 in
set_option maxHeartbeats 4000000 in
theorem right3_any (vs : Value) (s : Scr) (w : World) (hs : ScrVal w vs s) :
    Calls Try.prog 41 #[vs] w fun e w' => e = .returned (.bool (rightB s)) ∧ Below w.heap.size w w' := by
  obtain ⟨v1, v2, rfl, h1, h2⟩ := hs
  have HS := Lib.hid (show ScrVal w (.agg #[v1, v2]) s from ⟨_, _, rfl, h1, h2⟩)
  obtain ⟨A1, k1, rfl, hc1⟩ := h1.open_
  obtain ⟨A2, k2, rfl, hc2⟩ := h2.open_
  have hl1 := h1.len
  have hl2 := h2.len
  have HC1 := Lib.hid hc1
  have HC2 := Lib.hid hc2
  clear h1 h2 hc1 hc2
  obtain ⟨R, hR⟩ : ∃ R, rightB s = R := ⟨_, rfl⟩
  rw [hR]
  obtain ⟨W1, hW⟩ : ∃ W1, w.alloc (.cells #[.slice A1 s.consts.length k1, .slice A2 s.funcs.length k2] 45) = W1 := ⟨_, rfl⟩
  obtain ⟨hb1, hq1⟩ := one_box hW
  have HQ := Lib.hid (fun w' (hb : Below W1.heap.size W1 w') => two_at hb hq1)
  have HW := Lib.hid hW
  have HB1 := Lib.hid hb1
  clear hW hb1 hq1
  obtain ⟨g0, g1⟩ := HQ.out _ (Below.refl _ _)
  have HRR := Lib.hid hR
  clear hR
  by_cases hgood : (s.consts.length : Int) ≤ 32 ∧ 1 ≤ (s.funcs.length : Int) ∧ (s.funcs.length : Int) ≤ 16
  case neg =>
    -- part bad
    have HX := Lib.hid (show false = R by
      rw [← HRR.out]
      unfold rightB
      by_cases h1 : (s.consts.length : Int) ≤ 32
      · have h2 : ¬ (1 ≤ (s.funcs.length : Int) ∧ (s.funcs.length : Int) ≤ 16) := fun h => hgood ⟨h1, h⟩
        rw [decide_eq_false h2]
        simp
      · rw [decide_eq_false h1]
        simp)
    clear HRR
    by_cases h1 : 32 < (s.consts.length : Int)
    · clear hgood
      go_enter Try.func41, Try.ntmps41
      go_upto_region 1 with (fail)
      rw [HW.out]
      go_wp2
      go_ret
      rw [← HX.out]
      exact ⟨rfl, HB1.out⟩
    · by_cases h2 : (s.funcs.length : Int) < 1
      · clear hgood
        go_enter Try.func41, Try.ntmps41
        go_upto_region 1 with (fail)
        rw [HW.out]
        go_wp2
        go_ret
        rw [← HX.out]
        exact ⟨rfl, HB1.out⟩
      · have h3 : 16 < (s.funcs.length : Int) := by omega
        clear hgood
        go_enter Try.func41, Try.ntmps41
        go_upto_region 1 with (fail)
        rw [HW.out]
        go_wp2
        go_ret
        rw [← HX.out]
        exact ⟨rfl, HB1.out⟩
    -- end bad
  obtain ⟨h3, h4, h5⟩ := hgood
  have hR : (s.consts.all (fun c => decide ((c.size : Int) ≤ 256)) && s.funcs.all (fnB s.consts.length s.funcs.length)) = R := by
    rw [← HRR.out]
    unfold rightB
    rw [decide_eq_true h3, decide_eq_true (show 1 ≤ (s.funcs.length : Int) ∧ (s.funcs.length : Int) ≤ 16 from ⟨h4, h5⟩)]
    simp
  have hN1 : ∀ k, k < s.consts.length → 256 < ((s.consts.getD k default).size : Int) → false = R := fun k hk h => by
    rw [← hR, all_no hk (show decide (((s.consts.getD k default).size : Int) ≤ 256) = false from decide_eq_false (by omega))]
    rfl
  have hN2 : ∀ k, k < s.funcs.length → fnB s.consts.length s.funcs.length (s.funcs.getD k default) = false → false = R := fun k hk h => by
    rw [← hR, all_no hk h]
    simp
  have hY : (∀ j, j < s.consts.length → ((s.consts.getD j default).size : Int) ≤ 256) → (∀ j, j < s.funcs.length → fnB s.consts.length s.funcs.length (s.funcs.getD j default) = true) → true = R := fun h1 h2 => by
    rw [← hR, all_yes default h2, all_yes (p := fun c : ByteArray => decide ((c.size : Int) ≤ 256)) default (fun j hj => decide_eq_true (h1 j hj))]
    rfl
  have HN1 := Lib.hid hN1
  have HN2 := Lib.hid hN2
  have HY := Lib.hid hY
  clear hN1 hN2 hY hR HRR
  have h6 : ¬ 32 < (s.consts.length : Int) := by omega
  have h7 : ¬ (s.funcs.length : Int) < 1 := by omega
  have h8 : ¬ 16 < (s.funcs.length : Int) := by omega
  go_enter Try.func41, Try.ntmps41
  go_upto_region 1 with (fail)
  rw [HW.out]
  go_wp2
  go_loop [3] (fun i => ∃ k : Nat, k ≤ s.consts.length ∧ i = .int .i64 k ∧ ∀ j, j < k → ((s.consts.getD j default).size : Int) ≤ 256) (fun i => s.consts.length - (intOf i).toNat)
  case atStart => exact ⟨0, Nat.zero_le _, rfl, fun j h => by omega⟩
  case round =>
    obtain ⟨k, hk, rfl, hall⟩ := hrel
    have HALL := Lib.hid hall
    clear hall
    by_cases hlt : k < s.consts.length
    · -- part strs
      obtain ⟨b, off, rfl, hc⟩ := HC1.out k hlt
      have hc := cell_ext hc HB1.out
      have hk0 : (0 : Int) ≤ k := by omega
      have hk1 : (k : Int) < (s.consts.length : Int) := by omega
      have hn := HN1.out k hlt
      have hx : ((s.consts.getD k default).size : Int) ≤ 256 → ∀ j, j < k + 1 → ((s.consts.getD j default).size : Int) ≤ 256 := fun h j hj => by
        by_cases e : j = k
        · subst e; exact h
        · exact HALL.out j (by omega)
      generalize s.consts.getD k default = y at *
      by_cases hy : 256 < (y.size : Int)
      · have HX := Lib.hid (hn hy)
        clear hn hx
        go_wp2
        go_ret
        rw [← HX.out]
        exact ⟨rfl, HB1.out⟩
      · have HX := Lib.hid (hx (by omega))
        clear hn hx
        go_wp2
        go_round
        case rel => exact ⟨k + 1, by omega, by go_num, HX.out⟩
        case measure => simp [intOf]; omega
      -- end strs
    · have e : k = s.consts.length := by omega
      subst e
      have HC := Lib.hid HALL.out
      clear HALL hlt hk HN1 HC1
      go_wp2
      go_loopw [4] (fun i wr => ∃ k : Nat, k ≤ s.funcs.length ∧ i = .int .i64 k ∧ Below W1.heap.size W1 wr ∧ ∀ j, j < k → fnB s.consts.length s.funcs.length (s.funcs.getD j default) = true) (fun i _ => s.funcs.length - (intOf i).toNat)
      case atStart => exact ⟨0, Nat.zero_le _, rfl, Below.refl _ _, fun j h => by omega⟩
      case round =>
        obtain ⟨k, hk, rfl, hbe, hall⟩ := hrel
        have HALL := Lib.hid hall
        clear hall g0 g1
        obtain ⟨g0, g1⟩ := HQ.out _ hbe
        by_cases hlt : k < s.funcs.length
        · obtain ⟨fb, fo, rfl, hcell⟩ := HC2.out k hlt
          have hn := HN2.out k hlt
          have hx : fnB s.consts.length s.funcs.length (s.funcs.getD k default) = true → ∀ j, j < k + 1 → fnB s.consts.length s.funcs.length (s.funcs.getD j default) = true := fun h j hj => by
            by_cases e : j = k
            · subst e; exact h
            · exact HALL.out j (by omega)
          generalize s.funcs.getD k default = f at *
          obtain ⟨p1, r1, l1, c1, hp0, hp1, hp2, hp3, hf1⟩ := (hcell.ext HB1.out).ext hbe
          obtain ⟨Ap, kp, rfl, _⟩ := hf1.p.at_
          obtain ⟨Ar, kr, rfl, _⟩ := hf1.r.at_
          obtain ⟨Al, kl, rfl, _⟩ := hf1.l.at_
          obtain ⟨Ac, kc, rfl, _⟩ := hf1.c.at_
          have HF := Lib.hid hf1
          have hk0 : (0 : Int) ≤ k := by omega
          have hk1 : (k : Int) < (s.funcs.length : Int) := by omega
          clear hf1 hcell
          go_upto_region 11 with (fail)
          clear g0 g1
          refine region_mono (by kernel_rfl) wr (fun j v u => match j with
            | 0 => v = .agg #[.slice A1 s.consts.length k1, .slice (some ⟨fb, fo, none⟩) s.funcs.length k2]
            | 1 => v = .pointer (some ⟨w.heap.size, 1, none⟩)
            | 2 => v = .slice (some ⟨fb, fo, none⟩) s.funcs.length k2
            | 3 => v = .int .i64 k
            | 4 => v = .pointer (some ⟨fb, fo + k * 4, none⟩)
            | 5 => v = .agg #[.slice Ap f.params.length kp, .slice Ar f.results.length kr, .slice Al f.locals.length kl, .slice Ac f.code.length kc]
            | 6 => v = .bool (fnB s.consts.length s.funcs.length f)
            | 7 => v = .bool (!fnB s.consts.length s.funcs.length f)
            | _ => True) (by kernel_rfl) ?_ (Below.refl _ _) ?_ ?_
          · intro j v u u' hF hb
            match j, hF with
            | 0, hF => exact hF
            | 1, hF => exact hF
            | 2, hF => exact hF
            | 3, hF => exact hF
            | 4, hF => exact hF
            | 5, hF => exact hF
            | 6, hF => exact hF
            | 7, hF => exact hF
            | _ + 8, _ => exact trivial
          · intro a u hts hdf hold hG i o ho hpre K hK
            have hi : i < 8 := (Array.getElem?_eq_some_iff.1 ho).1
            match i, hi with
            | 0, _ =>
              simp at ho
              subst ho
              have e1 := hold 1 rfl
              obtain ⟨g0, g1⟩ := HQ.out u (hbe.trans (hG.mono hbe.size))
              refine step_on (v := .agg #[.slice A1 s.consts.length k1, .slice (some ⟨fb, fo, none⟩) s.funcs.length k2]) (w' := u) (wanted_none rfl) ?_ (hK _ _ (Below.refl _ _) rfl)
              simp only [execOp, Act.eval, e1]
              go_simp
            | 1, _ =>
              simp at ho
              subst ho
              have e1 := hold 1 rfl
              refine step_on (v := .pointer (some ⟨w.heap.size, 1, none⟩)) (w' := u) (wanted_none rfl) ?_ (hK _ _ (Below.refl _ _) rfl)
              simp only [execOp, Act.eval, e1]
              go_simp
            | 2, _ =>
              simp at ho
              subst ho
              have e43 := hpre ⟨1, .data⟩ (by simp) rfl _ rfl _ rfl
              have e43 : a.tmps.getD 43 undef = .pointer (some ⟨w.heap.size, 1, none⟩) := e43
              obtain ⟨g0, g1⟩ := HQ.out u (hbe.trans (hG.mono hbe.size))
              refine step_on (v := .slice (some ⟨fb, fo, none⟩) s.funcs.length k2) (w' := u) (wanted_none rfl) ?_ (hK _ _ (Below.refl _ _) rfl)
              simp only [execOp, Act.eval, e43]
              go_simp
            | 3, _ =>
              simp at ho
              subst ho
              have e4 := hold 4 rfl
              refine step_on (v := .int .i64 k) (w' := u) (wanted_none rfl) ?_ (hK _ _ (Below.refl _ _) rfl)
              simp only [execOp, Act.eval, e4]
              go_simp
            | 4, _ =>
              simp at ho
              subst ho
              have e44 := hpre ⟨2, .data⟩ (by simp) rfl _ rfl _ rfl
              have e44 : a.tmps.getD 44 undef = .slice (some ⟨fb, fo, none⟩) s.funcs.length k2 := e44
              have e45 := hpre ⟨3, .data⟩ (by simp) rfl _ rfl _ rfl
              have e45 : a.tmps.getD 45 undef = .int .i64 k := e45
              refine step_on (v := .pointer (some ⟨fb, fo + k * 4, none⟩)) (w' := u) (wanted_none rfl) ?_ (hK _ _ (Below.refl _ _) rfl)
              simp only [execOp, Act.eval, e44, e45]
              go_simp
            | 5, _ =>
              simp at ho
              subst ho
              have e46 := hpre ⟨4, .data⟩ (by simp) rfl _ rfl _ rfl
              have e46 : a.tmps.getD 46 undef = .pointer (some ⟨fb, fo + k * 4, none⟩) := e46
              have i1 := cell_ext hp0 hG
              have i2 := cell_ext hp1 hG
              have i3 := cell_ext hp2 hG
              have i4 := cell_ext hp3 hG
              refine step_on (v := .agg #[.slice Ap f.params.length kp, .slice Ar f.results.length kr, .slice Al f.locals.length kl, .slice Ac f.code.length kc]) (w' := u) (wanted_none rfl) ?_ (hK _ _ (Below.refl _ _) rfl)
              simp only [execOp, Act.eval, e46]
              go_simp
            | 6, _ =>
              simp at ho
              subst ho
              have e42 := hpre ⟨0, .data⟩ (by simp) rfl _ rfl _ rfl
              have e42 : a.tmps.getD 42 undef = .agg #[.slice A1 s.consts.length k1, .slice (some ⟨fb, fo, none⟩) s.funcs.length k2] := e42
              have e47 := hpre ⟨5, .data⟩ (by simp) rfl _ rfl _ rfl
              have e47 : a.tmps.getD 47 undef = .agg #[.slice Ap f.params.length kp, .slice Ar f.results.length kr, .slice Al f.locals.length kl, .slice Ac f.code.length kc] := e47
              have hi := rightFunc_any _ _ s f u (HS.out.ext (HB1.out.trans ((hbe.trans (hG.mono hbe.size)).mono HB1.out.size))) ⟨_, _, _, _, rfl, HF.out.ext hG⟩
              refine step_call (R := fun v u' => v = .bool (fnB s.consts.length s.funcs.length f) ∧ Below u.heap.size u u') (f := 101) (args := #[.agg #[.slice A1 s.consts.length k1, .slice (some ⟨fb, fo, none⟩) s.funcs.length k2], .agg #[.slice Ap f.params.length kp, .slice Ar f.results.length kr, .slice Al f.locals.length kl, .slice Ac f.code.length kc]]) (wanted_none rfl) ?_ (hi.mono (fun e w' h => ⟨_, h.1, rfl, h.2⟩)) ?_
              · simp only [execOp, Act.eval, e42, e47]
                go_simp
              · intro v u' h
                exact hK _ _ h.2 h.1
            | 7, _ =>
              simp at ho
              subst ho
              have e48 := hpre ⟨6, .data⟩ (by simp) rfl _ rfl _ rfl
              have e48 : a.tmps.getD 48 undef = .bool (fnB s.consts.length s.funcs.length f) := e48
              refine step_on (v := .bool (!fnB s.consts.length s.funcs.length f)) (w' := u) (wanted_none rfl) ?_ (hK _ _ (Below.refl _ _) rfl)
              simp only [execOp, Act.eval, e48]
              go_simp
          · intro a u hts hdf hold hG hdone
            have e0 := hold 0 rfl
            have e1 := hold 1 rfl
            have e2 := hold 2 rfl
            have e3 := hold 3 rfl
            have e4 := hold 4 rfl
            have e5 := hold 5 rfl
            have e6 := hold 6 rfl
            have e7 := hold 7 rfl
            have e8 := hold 8 rfl
            have e9 := hold 9 rfl
            have e10 := hold 10 rfl
            have e11 := hold 11 rfl
            have e12 := hold 12 rfl
            have e13 := hold 13 rfl
            have e14 := hold 14 rfl
            have e15 := hold 15 rfl
            have e16 := hold 16 rfl
            have e17 := hold 17 rfl
            have e18 := hold 18 rfl
            have e19 := hold 19 rfl
            have e20 := hold 20 rfl
            have e21 := hold 21 rfl
            have e22 := hold 22 rfl
            have e23 := hold 23 rfl
            have e24 := hold 24 rfl
            have e25 := hold 25 rfl
            have e26 := hold 26 rfl
            have e27 := hold 27 rfl
            have e28 := hold 28 rfl
            have e29 := hold 29 rfl
            have e30 := hold 30 rfl
            have e31 := hold 31 rfl
            have e32 := hold 32 rfl
            have e33 := hold 33 rfl
            have e34 := hold 34 rfl
            have e35 := hold 35 rfl
            have e36 := hold 36 rfl
            have e37 := hold 37 rfl
            have e38 := hold 38 rfl
            have e39 := hold 39 rfl
            have e40 := hold 40 rfl
            have e41 := hold 41 rfl
            have e42 := hdone 0 _ rfl _ rfl
            have e43 := hdone 1 _ rfl _ rfl
            have e44 := hdone 2 _ rfl _ rfl
            have e45 := hdone 3 _ rfl _ rfl
            have e46 := hdone 4 _ rfl _ rfl
            have e47 := hdone 5 _ rfl _ rfl
            have e48 := hdone 6 _ rfl _ rfl
            have e49 := hdone 7 _ rfl _ rfl
            clear hdone hold
            obtain ⟨tm, df⟩ := a
            simp only at hts hdf e0 e1 e2 e3 e4 e5 e6 e7 e8 e9 e10 e11 e12 e13 e14 e15 e16 e17 e18 e19 e20 e21 e22 e23 e24 e25 e26 e27 e28 e29 e30 e31 e32 e33 e34 e35 e36 e37 e38 e39 e40 e41 e42 e43 e44 e45 e46 e47 e48 e49
            subst hdf
            have ht := arr_list tm 50 hts
            simp only [List.range, List.range.loop, List.map] at ht
            rw [ht]
            clear ht hts
            generalize tm.getD 0 undef = y0 at e0 ⊢
            generalize tm.getD 1 undef = y1 at e1 ⊢
            generalize tm.getD 2 undef = y2 at e2 ⊢
            generalize tm.getD 3 undef = y3 at e3 ⊢
            generalize tm.getD 4 undef = y4 at e4 ⊢
            generalize tm.getD 5 undef = y5 at e5 ⊢
            generalize tm.getD 6 undef = y6 at e6 ⊢
            generalize tm.getD 7 undef = y7 at e7 ⊢
            generalize tm.getD 8 undef = y8 at e8 ⊢
            generalize tm.getD 9 undef = y9 at e9 ⊢
            generalize tm.getD 10 undef = y10 at e10 ⊢
            generalize tm.getD 11 undef = y11 at e11 ⊢
            generalize tm.getD 12 undef = y12 at e12 ⊢
            generalize tm.getD 13 undef = y13 at e13 ⊢
            generalize tm.getD 14 undef = y14 at e14 ⊢
            generalize tm.getD 15 undef = y15 at e15 ⊢
            generalize tm.getD 16 undef = y16 at e16 ⊢
            generalize tm.getD 17 undef = y17 at e17 ⊢
            generalize tm.getD 18 undef = y18 at e18 ⊢
            generalize tm.getD 19 undef = y19 at e19 ⊢
            generalize tm.getD 20 undef = y20 at e20 ⊢
            generalize tm.getD 21 undef = y21 at e21 ⊢
            generalize tm.getD 22 undef = y22 at e22 ⊢
            generalize tm.getD 23 undef = y23 at e23 ⊢
            generalize tm.getD 24 undef = y24 at e24 ⊢
            generalize tm.getD 25 undef = y25 at e25 ⊢
            generalize tm.getD 26 undef = y26 at e26 ⊢
            generalize tm.getD 27 undef = y27 at e27 ⊢
            generalize tm.getD 28 undef = y28 at e28 ⊢
            generalize tm.getD 29 undef = y29 at e29 ⊢
            generalize tm.getD 30 undef = y30 at e30 ⊢
            generalize tm.getD 31 undef = y31 at e31 ⊢
            generalize tm.getD 32 undef = y32 at e32 ⊢
            generalize tm.getD 33 undef = y33 at e33 ⊢
            generalize tm.getD 34 undef = y34 at e34 ⊢
            generalize tm.getD 35 undef = y35 at e35 ⊢
            generalize tm.getD 36 undef = y36 at e36 ⊢
            generalize tm.getD 37 undef = y37 at e37 ⊢
            generalize tm.getD 38 undef = y38 at e38 ⊢
            generalize tm.getD 39 undef = y39 at e39 ⊢
            generalize tm.getD 40 undef = y40 at e40 ⊢
            generalize tm.getD 41 undef = y41 at e41 ⊢
            generalize tm.getD 42 undef = y42 at e42 ⊢
            generalize tm.getD 43 undef = y43 at e43 ⊢
            generalize tm.getD 44 undef = y44 at e44 ⊢
            generalize tm.getD 45 undef = y45 at e45 ⊢
            generalize tm.getD 46 undef = y46 at e46 ⊢
            generalize tm.getD 47 undef = y47 at e47 ⊢
            generalize tm.getD 48 undef = y48 at e48 ⊢
            generalize tm.getD 49 undef = y49 at e49 ⊢
            simp only [Array.getD_eq_getD_getElem?, List.getElem?_toArray, List.getElem?_cons_zero, List.getElem?_cons_succ, Option.getD_some] at e0 e1 e2 e3 e4 e5 e6 e7 e8 e9 e10 e11 e12 e13 e14 e15 e16 e17 e18 e19 e20 e21 e22 e23 e24 e25 e26 e27 e28 e29 e30 e31 e32 e33 e34 e35 e36 e37 e38 e39 e40 e41
            subst e0
            subst e1
            subst e2
            subst e3
            subst e4
            subst e5
            subst e6
            subst e7
            subst e8
            subst e9
            subst e10
            subst e11
            subst e12
            subst e13
            subst e14
            subst e15
            subst e16
            subst e17
            subst e18
            subst e19
            subst e20
            subst e21
            subst e22
            subst e23
            subst e24
            subst e25
            subst e26
            subst e27
            subst e28
            subst e29
            subst e30
            subst e31
            subst e32
            subst e33
            subst e34
            subst e35
            subst e36
            subst e37
            subst e38
            subst e39
            subst e40
            subst e41
            subst e42
            subst e43
            subst e44
            subst e45
            subst e46
            subst e47
            subst e48
            subst e49
            have HU := Lib.hid (hbe.trans (hG.mono hbe.size))
            clear hG hbe hp0 hp1 hp2 hp3
            cases hI : fnB s.consts.length s.funcs.length f
            case true =>
              have HX := Lib.hid (hx hI)
              clear hx hn hI
              go_wp2
              go_roundw
              case rel => exact ⟨k + 1, by omega, by go_num, HU.out, HX.out⟩
              case measure => simp [intOf]; omega
            case false =>
              have HX := Lib.hid (hn hI)
              clear hx hn hI
              go_wp2
              go_ret
              rw [← HX.out]
              exact ⟨rfl, HB1.out.trans (HU.out.mono HB1.out.size)⟩
        · have e : k = s.funcs.length := by omega
          subst e
          have HX := Lib.hid (HY.out HC.out HALL.out)
          go_wp2
          go_ret
          rw [← HX.out]
          exact ⟨rfl, HB1.out.trans (hbe.mono HB1.out.size)⟩
end Go.Proofs.Ytchmgilckiadaaa
