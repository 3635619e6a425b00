/- ref04.rightFunc: may a function be, in a script? -/
import Derived.Test.YtchmgilckiadaaaRgl
import Derived.Test.YtchmgilckiadaaaGro
namespace Go.Proofs.Ytchmgilckiadaaa
open Go.RowKit
set_option maxRecDepth 100000 in
set_option maxHeartbeats 4000000 in
theorem rightFunc_any (vs vf : Value) (s : Scr) (f : Fn) (w : World) (hs : ScrVal w vs s) (hf : FnVal w vf f) :
    Calls Try.prog 101 #[vs, vf] w fun e w' => e = .returned (.bool (fnB s.consts.length s.funcs.length f)) ∧ Below w.heap.size w w' := by
  obtain ⟨v1, v2, rfl, h1, h2⟩ := hs
  obtain ⟨vp, vr, vl, vc, rfl, hfn⟩ := hf
  have HS := Lib.hid (show ScrVal w (.agg #[v1, v2]) s from ⟨_, _, rfl, h1, h2⟩)
  obtain ⟨A1, k1, rfl, _⟩ := h1.open_
  obtain ⟨A2, k2, rfl, _⟩ := h2.open_
  obtain ⟨Ap, kp, rfl, _⟩ := hfn.p.at_
  obtain ⟨Ar, kr, rfl, _⟩ := hfn.r.at_
  obtain ⟨Al, kl, rfl, _⟩ := hfn.l.at_
  obtain ⟨Ac, kc, rfl, hcc⟩ := hfn.c.open_
  have hl1 := h1.len
  have hl2 := h2.len
  have hp1 := hfn.p.len
  have hp2 := hfn.l.len
  have hp3 := hfn.c.len
  have HF := Lib.hid hfn
  have HC := Lib.hid hcc
  clear h1 h2 hfn hcc
  obtain ⟨R, hR⟩ : ∃ R, fnB s.consts.length s.funcs.length f = R := ⟨_, rfl⟩
  rw [hR]
  generalize hnc : s.consts.length = nc at *
  generalize hnf : s.funcs.length = nf at *
  obtain ⟨W1, hW⟩ : ∃ W1, (w.alloc (.cells #[.slice A1 nc k1, .slice A2 nf k2] 45)).alloc (.cells #[.slice Ap f.params.length kp, .slice Ar f.results.length kr, .slice Al f.locals.length kl, .slice Ac f.code.length kc] 53) = W1 := ⟨_, rfl⟩
  have hb1 : Below w.heap.size w W1 := by rw [← hW]; exact (below_new w _).alloc (by simp) _
  have hq1 : W1.heap[w.heap.size]? = some (.cells #[.slice A1 nc k1, .slice A2 nf k2] 45 (0, 0)) := by rw [← hW]; exact alloc2_fst w _ _ _
  have hq2 : W1.heap[w.heap.size + 1]? = some (.cells #[.slice Ap f.params.length kp, .slice Ar f.results.length kr, .slice Al f.locals.length kl, .slice Ac f.code.length kc] 53 (0, 0)) := by rw [← hW]; exact alloc2_snd w _ _ _
  have HQ := Lib.hid (fun w' (hb : Below W1.heap.size W1 w') => And.intro (two_at hb hq1) (four_at hb hq2))
  have HW := Lib.hid hW
  have HB1 := Lib.hid hb1
  have HA := Lib.hid (Below.refl W1.heap.size W1)
  clear hW hb1 hq1 hq2
  obtain ⟨⟨g0, g1⟩, q0, q1, q2, q3⟩ := HQ.out _ HA.out
  obtain ⟨T0, e0⟩ : ∃ R, typesB f.params 8 = R := ⟨_, rfl⟩
  obtain ⟨T1, e1⟩ : ∃ R, typesB f.results 8 = R := ⟨_, rfl⟩
  obtain ⟨T2, e2⟩ : ∃ R, typesB f.locals 16 = R := ⟨_, rfl⟩
  have E0 := Lib.hid e0
  have E1 := Lib.hid e1
  have E2 := Lib.hid e2
  have hdef : fnB nc nf f = (T0 && T1 && T2 && decide ((f.params.length : Int) + f.locals.length ≤ 16) && decide ((f.code.length : Int) ≤ 256) && f.code.all (instrB nc nf ((f.params.length : Int) + f.locals.length))) := by
    unfold fnB; rw [e0, e1, e2]
  clear e0 e1 e2
  rw [hdef] at hR
  clear hdef
  have HRR := Lib.hid hR
  clear hR
  by_cases hgood : (T0 && T1 && T2) = true ∧ (f.params.length : Int) + f.locals.length ≤ 16 ∧ (f.code.length : Int) ≤ 256
  case neg =>
    -- part bad
    have HX := Lib.hid (show false = R by
      rw [← HRR.out]
      cases hT : (T0 && T1 && T2)
      · simp
      · by_cases h3 : (f.params.length : Int) + f.locals.length ≤ 16
        · have h4 : ¬ (f.code.length : Int) ≤ 256 := fun h => hgood ⟨hT, h3, h⟩
          rw [decide_eq_false h4]
          simp
        · rw [decide_eq_false h3]
          simp)
    clear HRR
    cases T0
    · clear hgood
      go_enter Try.func101, Try.ntmps101
      go_upto_region 1 with (fail)
      rw [HW.out]
      go_wp2_with (first
        | (go_at_call_of 151 (Value.slice Ap f.params.length kp); (with_reducible refine (types_any _ f.params 8 _ (HF.out.p.ext (HB1.out.trans (HA.out.mono HB1.out.size)))).mono ?_); go_must (rintro e w5 ⟨rfl, hb⟩; rw [E0.out]; have HA := Lib.hid (HA.out.trans (hb.mono HA.out.size)); clear hb; obtain ⟨⟨g0, g1⟩, q0, q1, q2, q3⟩ := HQ.out _ HA.out))
        | (go_at_call_of 151 (Value.slice Ar f.results.length kr); (with_reducible refine (types_any _ f.results 8 _ (HF.out.r.ext (HB1.out.trans (HA.out.mono HB1.out.size)))).mono ?_); go_must (rintro e w5 ⟨rfl, hb⟩; rw [E1.out]; have HA := Lib.hid (HA.out.trans (hb.mono HA.out.size)); clear hb; obtain ⟨⟨g0, g1⟩, q0, q1, q2, q3⟩ := HQ.out _ HA.out))
        | (go_at_call_of 151 (Value.slice Al f.locals.length kl); (with_reducible refine (types_any _ f.locals 16 _ (HF.out.l.ext (HB1.out.trans (HA.out.mono HB1.out.size)))).mono ?_); go_must (rintro e w5 ⟨rfl, hb⟩; rw [E2.out]; have HA := Lib.hid (HA.out.trans (hb.mono HA.out.size)); clear hb; obtain ⟨⟨g0, g1⟩, q0, q1, q2, q3⟩ := HQ.out _ HA.out)))
      go_ret
      rw [← HX.out]
      exact ⟨rfl, HB1.out.trans (HA.out.mono HB1.out.size)⟩
    cases T1
    · clear hgood
      go_enter Try.func101, Try.ntmps101
      go_upto_region 1 with (fail)
      rw [HW.out]
      go_wp2_with (first
        | (go_at_call_of 151 (Value.slice Ap f.params.length kp); (with_reducible refine (types_any _ f.params 8 _ (HF.out.p.ext (HB1.out.trans (HA.out.mono HB1.out.size)))).mono ?_); go_must (rintro e w5 ⟨rfl, hb⟩; rw [E0.out]; have HA := Lib.hid (HA.out.trans (hb.mono HA.out.size)); clear hb; obtain ⟨⟨g0, g1⟩, q0, q1, q2, q3⟩ := HQ.out _ HA.out))
        | (go_at_call_of 151 (Value.slice Ar f.results.length kr); (with_reducible refine (types_any _ f.results 8 _ (HF.out.r.ext (HB1.out.trans (HA.out.mono HB1.out.size)))).mono ?_); go_must (rintro e w5 ⟨rfl, hb⟩; rw [E1.out]; have HA := Lib.hid (HA.out.trans (hb.mono HA.out.size)); clear hb; obtain ⟨⟨g0, g1⟩, q0, q1, q2, q3⟩ := HQ.out _ HA.out))
        | (go_at_call_of 151 (Value.slice Al f.locals.length kl); (with_reducible refine (types_any _ f.locals 16 _ (HF.out.l.ext (HB1.out.trans (HA.out.mono HB1.out.size)))).mono ?_); go_must (rintro e w5 ⟨rfl, hb⟩; rw [E2.out]; have HA := Lib.hid (HA.out.trans (hb.mono HA.out.size)); clear hb; obtain ⟨⟨g0, g1⟩, q0, q1, q2, q3⟩ := HQ.out _ HA.out)))
      go_ret
      rw [← HX.out]
      exact ⟨rfl, HB1.out.trans (HA.out.mono HB1.out.size)⟩
    cases T2
    · clear hgood
      go_enter Try.func101, Try.ntmps101
      go_upto_region 1 with (fail)
      rw [HW.out]
      go_wp2_with (first
        | (go_at_call_of 151 (Value.slice Ap f.params.length kp); (with_reducible refine (types_any _ f.params 8 _ (HF.out.p.ext (HB1.out.trans (HA.out.mono HB1.out.size)))).mono ?_); go_must (rintro e w5 ⟨rfl, hb⟩; rw [E0.out]; have HA := Lib.hid (HA.out.trans (hb.mono HA.out.size)); clear hb; obtain ⟨⟨g0, g1⟩, q0, q1, q2, q3⟩ := HQ.out _ HA.out))
        | (go_at_call_of 151 (Value.slice Ar f.results.length kr); (with_reducible refine (types_any _ f.results 8 _ (HF.out.r.ext (HB1.out.trans (HA.out.mono HB1.out.size)))).mono ?_); go_must (rintro e w5 ⟨rfl, hb⟩; rw [E1.out]; have HA := Lib.hid (HA.out.trans (hb.mono HA.out.size)); clear hb; obtain ⟨⟨g0, g1⟩, q0, q1, q2, q3⟩ := HQ.out _ HA.out))
        | (go_at_call_of 151 (Value.slice Al f.locals.length kl); (with_reducible refine (types_any _ f.locals 16 _ (HF.out.l.ext (HB1.out.trans (HA.out.mono HB1.out.size)))).mono ?_); go_must (rintro e w5 ⟨rfl, hb⟩; rw [E2.out]; have HA := Lib.hid (HA.out.trans (hb.mono HA.out.size)); clear hb; obtain ⟨⟨g0, g1⟩, q0, q1, q2, q3⟩ := HQ.out _ HA.out)))
      go_ret
      rw [← HX.out]
      exact ⟨rfl, HB1.out.trans (HA.out.mono HB1.out.size)⟩
    by_cases h3 : (f.params.length : Int) + f.locals.length ≤ 16
    · have h4 : 256 < (f.code.length : Int) := by
        have : ¬ (f.code.length : Int) ≤ 256 := fun h => hgood ⟨rfl, h3, h⟩
        omega
      have h5 : ¬ 16 - (f.locals.length : Int) < f.params.length := by omega
      have h6 : decide (16 - (f.locals.length : Int) < f.params.length) = false := by simp; omega
      clear hgood
      go_enter Try.func101, Try.ntmps101
      go_upto_region 1 with (fail)
      rw [HW.out]
      go_wp2_with (first
        | (go_at_call_of 151 (Value.slice Ap f.params.length kp); (with_reducible refine (types_any _ f.params 8 _ (HF.out.p.ext (HB1.out.trans (HA.out.mono HB1.out.size)))).mono ?_); go_must (rintro e w5 ⟨rfl, hb⟩; rw [E0.out]; have HA := Lib.hid (HA.out.trans (hb.mono HA.out.size)); clear hb; obtain ⟨⟨g0, g1⟩, q0, q1, q2, q3⟩ := HQ.out _ HA.out))
        | (go_at_call_of 151 (Value.slice Ar f.results.length kr); (with_reducible refine (types_any _ f.results 8 _ (HF.out.r.ext (HB1.out.trans (HA.out.mono HB1.out.size)))).mono ?_); go_must (rintro e w5 ⟨rfl, hb⟩; rw [E1.out]; have HA := Lib.hid (HA.out.trans (hb.mono HA.out.size)); clear hb; obtain ⟨⟨g0, g1⟩, q0, q1, q2, q3⟩ := HQ.out _ HA.out))
        | (go_at_call_of 151 (Value.slice Al f.locals.length kl); (with_reducible refine (types_any _ f.locals 16 _ (HF.out.l.ext (HB1.out.trans (HA.out.mono HB1.out.size)))).mono ?_); go_must (rintro e w5 ⟨rfl, hb⟩; rw [E2.out]; have HA := Lib.hid (HA.out.trans (hb.mono HA.out.size)); clear hb; obtain ⟨⟨g0, g1⟩, q0, q1, q2, q3⟩ := HQ.out _ HA.out)))
      go_ret
      rw [← HX.out]
      exact ⟨rfl, HB1.out.trans (HA.out.mono HB1.out.size)⟩
    · have h5 : 16 - (f.locals.length : Int) < f.params.length := by omega
      clear hgood
      go_enter Try.func101, Try.ntmps101
      go_upto_region 1 with (fail)
      rw [HW.out]
      go_wp2_with (first
        | (go_at_call_of 151 (Value.slice Ap f.params.length kp); (with_reducible refine (types_any _ f.params 8 _ (HF.out.p.ext (HB1.out.trans (HA.out.mono HB1.out.size)))).mono ?_); go_must (rintro e w5 ⟨rfl, hb⟩; rw [E0.out]; have HA := Lib.hid (HA.out.trans (hb.mono HA.out.size)); clear hb; obtain ⟨⟨g0, g1⟩, q0, q1, q2, q3⟩ := HQ.out _ HA.out))
        | (go_at_call_of 151 (Value.slice Ar f.results.length kr); (with_reducible refine (types_any _ f.results 8 _ (HF.out.r.ext (HB1.out.trans (HA.out.mono HB1.out.size)))).mono ?_); go_must (rintro e w5 ⟨rfl, hb⟩; rw [E1.out]; have HA := Lib.hid (HA.out.trans (hb.mono HA.out.size)); clear hb; obtain ⟨⟨g0, g1⟩, q0, q1, q2, q3⟩ := HQ.out _ HA.out))
        | (go_at_call_of 151 (Value.slice Al f.locals.length kl); (with_reducible refine (types_any _ f.locals 16 _ (HF.out.l.ext (HB1.out.trans (HA.out.mono HB1.out.size)))).mono ?_); go_must (rintro e w5 ⟨rfl, hb⟩; rw [E2.out]; have HA := Lib.hid (HA.out.trans (hb.mono HA.out.size)); clear hb; obtain ⟨⟨g0, g1⟩, q0, q1, q2, q3⟩ := HQ.out _ HA.out)))
      go_ret
      rw [← HX.out]
      exact ⟨rfl, HB1.out.trans (HA.out.mono HB1.out.size)⟩
    -- end bad
  obtain ⟨hT, h3, h4⟩ := hgood
  have hR : f.code.all (instrB nc nf ((f.params.length : Int) + f.locals.length)) = R := by
    rw [← HRR.out, hT, decide_eq_true h3, decide_eq_true h4]
    simp
  simp only [Bool.and_eq_true] at hT
  obtain ⟨⟨rfl, rfl⟩, rfl⟩ := hT
  have hN : ∀ k, k < f.code.length → instrB nc nf ((f.params.length : Int) + f.locals.length) (f.code.getD k (0, 0)) = false → false = R := fun k hk h => by rw [← hR, all_no hk h]
  have hY : (∀ j, j < f.code.length → instrB nc nf ((f.params.length : Int) + f.locals.length) (f.code.getD j (0, 0)) = true) → true = R := fun h => by rw [← hR, all_yes (0, 0) h]
  have HN := Lib.hid hN
  have HY := Lib.hid hY
  clear hN hY hR HRR
  have h5 : ¬ 16 - (f.locals.length : Int) < f.params.length := by omega
  have h6 : decide (16 - (f.locals.length : Int) < f.params.length) = false := by simp; omega
  have h7 : ¬ 256 < (f.code.length : Int) := by omega
  go_enter Try.func101, Try.ntmps101
  go_upto_region 1 with (fail)
  rw [HW.out]
  go_upto_region 3 with (first
        | (go_at_call_of 151 (Value.slice Ap f.params.length kp); (with_reducible refine (types_any _ f.params 8 _ (HF.out.p.ext (HB1.out.trans (HA.out.mono HB1.out.size)))).mono ?_); go_must (rintro e w5 ⟨rfl, hb⟩; rw [E0.out]; have HA := Lib.hid (HA.out.trans (hb.mono HA.out.size)); clear hb; obtain ⟨⟨g0, g1⟩, q0, q1, q2, q3⟩ := HQ.out _ HA.out))
        | (go_at_call_of 151 (Value.slice Ar f.results.length kr); (with_reducible refine (types_any _ f.results 8 _ (HF.out.r.ext (HB1.out.trans (HA.out.mono HB1.out.size)))).mono ?_); go_must (rintro e w5 ⟨rfl, hb⟩; rw [E1.out]; have HA := Lib.hid (HA.out.trans (hb.mono HA.out.size)); clear hb; obtain ⟨⟨g0, g1⟩, q0, q1, q2, q3⟩ := HQ.out _ HA.out))
        | (go_at_call_of 151 (Value.slice Al f.locals.length kl); (with_reducible refine (types_any _ f.locals 16 _ (HF.out.l.ext (HB1.out.trans (HA.out.mono HB1.out.size)))).mono ?_); go_must (rintro e w5 ⟨rfl, hb⟩; rw [E2.out]; have HA := Lib.hid (HA.out.trans (hb.mono HA.out.size)); clear hb; obtain ⟨⟨g0, g1⟩, q0, q1, q2, q3⟩ := HQ.out _ HA.out)))
  clear g0 g1 q0 q1 q2 q3
  go_wp2
  go_loopw [5] (fun i wr => ∃ k : Nat, k ≤ f.code.length ∧ i = .int .i64 k ∧ Below W1.heap.size W1 wr ∧ ∀ j, j < k → instrB nc nf ((f.params.length : Int) + f.locals.length) (f.code.getD j (0, 0)) = true) (fun i _ => f.code.length - (intOf i).toNat)
  case atStart => exact ⟨0, Nat.zero_le _, rfl, HA.out, fun j h => by omega⟩
  case round =>
    obtain ⟨k, hk, rfl, hbe, hall⟩ := hrel
    have HALL := Lib.hid hall
    clear hall HA
    obtain ⟨⟨g0, g1⟩, q0, q1, q2, q3⟩ := HQ.out _ hbe
    by_cases hlt : k < f.code.length
    · obtain ⟨cb, co, rfl, hc1, hc2⟩ := HC.out k hlt
      have hc1 := cell_ext (cell_ext hc1 HB1.out) hbe
      have hc2 := cell_ext (cell_ext hc2 HB1.out) hbe
      have hn := HN.out k hlt
      have hx : instrB nc nf ((f.params.length : Int) + f.locals.length) (f.code.getD k (0, 0)) = true → ∀ j, j < k + 1 → instrB nc nf ((f.params.length : Int) + f.locals.length) (f.code.getD j (0, 0)) = true := fun h j hj => by
        by_cases e : j = k
        · subst e; exact h
        · exact HALL.out j (by omega)
      have hk0 : (0 : Int) ≤ k := by omega
      have hk1 : (k : Int) < (f.code.length : Int) := by omega
      generalize f.code.getD k (0, 0) = x at *
      go_upto_region 6 with (fail)
      clear g0 g1 q0 q1 q2 q3
      refine region_mono (by kernel_rfl) wr (fun j v u => match j with
        | 0 => v = .agg #[.slice A1 nc k1, .slice A2 nf k2]
        | 1 => v = .pointer (some ⟨w.heap.size + 1, 0, none⟩)
        | 2 => v = .slice Ap f.params.length kp
        | 3 => v = .int .i64 f.params.length
        | 4 => v = .pointer (some ⟨w.heap.size + 1, 2, none⟩)
        | 5 => v = .slice Al f.locals.length kl
        | 6 => v = .int .i64 f.locals.length
        | 7 => v = .int .i64 ((f.params.length : Int) + f.locals.length)
        | 8 => v = .pointer (some ⟨w.heap.size + 1, 3, none⟩)
        | 9 => v = .slice (some ⟨cb, co, none⟩) f.code.length kc
        | 10 => v = .int .i64 k
        | 11 => v = .pointer (some ⟨cb, co + k * 2, none⟩)
        | 12 => v = .agg #[.int .i64 x.1, .int .i64 x.2]
        | 13 => v = .bool (instrB nc nf ((f.params.length : Int) + f.locals.length) x)
        | 14 => v = .bool (!instrB nc nf ((f.params.length : Int) + f.locals.length) x)
        | _ => True) (by kernel_rfl) ?_ (Below.refl _ _) ?_ ?_
      · intro j v u u' hF hb
        match j, hF with
        | 0, hF => exact hF
        | 1, hF => exact hF
        | 2, hF => exact hF
        | 3, hF => exact hF
        | 4, hF => exact hF
        | 5, hF => exact hF
        | 6, hF => exact hF
        | 7, hF => exact hF
        | 8, hF => exact hF
        | 9, hF => exact hF
        | 10, hF => exact hF
        | 11, hF => exact hF
        | 12, hF => exact hF
        | 13, hF => exact hF
        | 14, hF => exact hF
        | _ + 15, _ => exact trivial
      · intro a u hts hdf hold hG i o ho hpre K hK
        have hi : i < 15 := (Array.getElem?_eq_some_iff.1 ho).1
        match i, hi with
        | 0, _ =>
          simp at ho
          subst ho
          have e2 := hold 2 rfl
          obtain ⟨⟨g0, g1⟩, q0, q1, q2, q3⟩ := HQ.out u (hbe.trans (hG.mono hbe.size))
          refine step_on (v := .agg #[.slice A1 nc k1, .slice A2 nf k2]) (w' := u) (wanted_none rfl) ?_ (hK _ _ (Below.refl _ _) rfl)
          simp only [execOp, Act.eval, e2]
          go_simp
        | 1, _ =>
          simp at ho
          subst ho
          have e3 := hold 3 rfl
          refine step_on (v := .pointer (some ⟨w.heap.size + 1, 0, none⟩)) (w' := u) (wanted_none rfl) ?_ (hK _ _ (Below.refl _ _) rfl)
          simp only [execOp, Act.eval, e3]
          go_simp
        | 2, _ =>
          simp at ho
          subst ho
          have e46 := hpre ⟨1, .data⟩ (by simp) rfl _ rfl _ rfl
          have e46 : a.tmps.getD 46 undef = .pointer (some ⟨w.heap.size + 1, 0, none⟩) := e46
          obtain ⟨⟨g0, g1⟩, q0, q1, q2, q3⟩ := HQ.out u (hbe.trans (hG.mono hbe.size))
          refine step_on (v := .slice Ap f.params.length kp) (w' := u) (wanted_none rfl) ?_ (hK _ _ (Below.refl _ _) rfl)
          simp only [execOp, Act.eval, e46]
          go_simp
        | 3, _ =>
          simp at ho
          subst ho
          have e47 := hpre ⟨2, .data⟩ (by simp) rfl _ rfl _ rfl
          have e47 : a.tmps.getD 47 undef = .slice Ap f.params.length kp := e47
          refine step_on (v := .int .i64 f.params.length) (w' := u) (wanted_none rfl) ?_ (hK _ _ (Below.refl _ _) rfl)
          simp only [execOp, Act.eval, e47]
          go_simp
        | 4, _ =>
          simp at ho
          subst ho
          have e3 := hold 3 rfl
          refine step_on (v := .pointer (some ⟨w.heap.size + 1, 2, none⟩)) (w' := u) (wanted_none rfl) ?_ (hK _ _ (Below.refl _ _) rfl)
          simp only [execOp, Act.eval, e3]
          go_simp
        | 5, _ =>
          simp at ho
          subst ho
          have e49 := hpre ⟨4, .data⟩ (by simp) rfl _ rfl _ rfl
          have e49 : a.tmps.getD 49 undef = .pointer (some ⟨w.heap.size + 1, 2, none⟩) := e49
          obtain ⟨⟨g0, g1⟩, q0, q1, q2, q3⟩ := HQ.out u (hbe.trans (hG.mono hbe.size))
          refine step_on (v := .slice Al f.locals.length kl) (w' := u) (wanted_none rfl) ?_ (hK _ _ (Below.refl _ _) rfl)
          simp only [execOp, Act.eval, e49]
          go_simp
        | 6, _ =>
          simp at ho
          subst ho
          have e50 := hpre ⟨5, .data⟩ (by simp) rfl _ rfl _ rfl
          have e50 : a.tmps.getD 50 undef = .slice Al f.locals.length kl := e50
          refine step_on (v := .int .i64 f.locals.length) (w' := u) (wanted_none rfl) ?_ (hK _ _ (Below.refl _ _) rfl)
          simp only [execOp, Act.eval, e50]
          go_simp
        | 7, _ =>
          simp at ho
          subst ho
          have e48 := hpre ⟨3, .data⟩ (by simp) rfl _ rfl _ rfl
          have e48 : a.tmps.getD 48 undef = .int .i64 f.params.length := e48
          have e51 := hpre ⟨6, .data⟩ (by simp) rfl _ rfl _ rfl
          have e51 : a.tmps.getD 51 undef = .int .i64 f.locals.length := e51
          refine step_on (v := .int .i64 ((f.params.length : Int) + f.locals.length)) (w' := u) (wanted_none rfl) ?_ (hK _ _ (Below.refl _ _) rfl)
          simp only [execOp, Act.eval, e48, e51]
          go_simp
          exact wrap_in (by omega) (by omega)
        | 8, _ =>
          simp at ho
          subst ho
          have e3 := hold 3 rfl
          refine step_on (v := .pointer (some ⟨w.heap.size + 1, 3, none⟩)) (w' := u) (wanted_none rfl) ?_ (hK _ _ (Below.refl _ _) rfl)
          simp only [execOp, Act.eval, e3]
          go_simp
        | 9, _ =>
          simp at ho
          subst ho
          have e53 := hpre ⟨8, .data⟩ (by simp) rfl _ rfl _ rfl
          have e53 : a.tmps.getD 53 undef = .pointer (some ⟨w.heap.size + 1, 3, none⟩) := e53
          obtain ⟨⟨g0, g1⟩, q0, q1, q2, q3⟩ := HQ.out u (hbe.trans (hG.mono hbe.size))
          refine step_on (v := .slice (some ⟨cb, co, none⟩) f.code.length kc) (w' := u) (wanted_none rfl) ?_ (hK _ _ (Below.refl _ _) rfl)
          simp only [execOp, Act.eval, e53]
          go_simp
        | 10, _ =>
          simp at ho
          subst ho
          have e5 := hold 5 rfl
          refine step_on (v := .int .i64 k) (w' := u) (wanted_none rfl) ?_ (hK _ _ (Below.refl _ _) rfl)
          simp only [execOp, Act.eval, e5]
          go_simp
        | 11, _ =>
          simp at ho
          subst ho
          have e54 := hpre ⟨9, .data⟩ (by simp) rfl _ rfl _ rfl
          have e54 : a.tmps.getD 54 undef = .slice (some ⟨cb, co, none⟩) f.code.length kc := e54
          have e55 := hpre ⟨10, .data⟩ (by simp) rfl _ rfl _ rfl
          have e55 : a.tmps.getD 55 undef = .int .i64 k := e55
          refine step_on (v := .pointer (some ⟨cb, co + k * 2, none⟩)) (w' := u) (wanted_none rfl) ?_ (hK _ _ (Below.refl _ _) rfl)
          simp only [execOp, Act.eval, e54, e55]
          go_simp
        | 12, _ =>
          simp at ho
          subst ho
          have e56 := hpre ⟨11, .data⟩ (by simp) rfl _ rfl _ rfl
          have e56 : a.tmps.getD 56 undef = .pointer (some ⟨cb, co + k * 2, none⟩) := e56
          have i1 := cell_ext hc1 hG
          have i2 := cell_ext hc2 hG
          refine step_on (v := .agg #[.int .i64 x.1, .int .i64 x.2]) (w' := u) (wanted_none rfl) ?_ (hK _ _ (Below.refl _ _) rfl)
          simp only [execOp, Act.eval, e56]
          go_simp
        | 13, _ =>
          simp at ho
          subst ho
          have e45 := hpre ⟨0, .data⟩ (by simp) rfl _ rfl _ rfl
          have e45 : a.tmps.getD 45 undef = .agg #[.slice A1 nc k1, .slice A2 nf k2] := e45
          have e52 := hpre ⟨7, .data⟩ (by simp) rfl _ rfl _ rfl
          have e52 : a.tmps.getD 52 undef = .int .i64 ((f.params.length : Int) + f.locals.length) := e52
          have e57 := hpre ⟨12, .data⟩ (by simp) rfl _ rfl _ rfl
          have e57 : a.tmps.getD 57 undef = .agg #[.int .i64 x.1, .int .i64 x.2] := e57
          have hi := instr3_any (.agg #[.slice A1 nc k1, .slice A2 nf k2]) s ((f.params.length : Int) + f.locals.length) x u (HS.out.ext (HB1.out.trans ((hbe.trans (hG.mono hbe.size)).mono HB1.out.size)))
          rw [hnc, hnf] at hi
          refine step_call (R := fun v u' => v = .bool (instrB nc nf ((f.params.length : Int) + f.locals.length) x) ∧ Below u.heap.size u u') (f := 152) (args := #[.agg #[.slice A1 nc k1, .slice A2 nf k2], .int .i64 ((f.params.length : Int) + f.locals.length), .agg #[.int .i64 x.1, .int .i64 x.2]]) (wanted_none rfl) ?_ (hi.mono (fun e w' h => ⟨_, h.1, rfl, h.2⟩)) ?_
          · simp only [execOp, Act.eval, e45, e52, e57]
            go_simp
          · intro v u' h
            exact hK _ _ h.2 h.1
        | 14, _ =>
          simp at ho
          subst ho
          have e58 := hpre ⟨13, .data⟩ (by simp) rfl _ rfl _ rfl
          have e58 : a.tmps.getD 58 undef = .bool (instrB nc nf ((f.params.length : Int) + f.locals.length) x) := e58
          refine step_on (v := .bool (!instrB nc nf ((f.params.length : Int) + f.locals.length) x)) (w' := u) (wanted_none rfl) ?_ (hK _ _ (Below.refl _ _) rfl)
          simp only [execOp, Act.eval, e58]
          go_simp
      · intro a u hts hdf hold hG hdone
        have e0 := hold 0 rfl
        have e1 := hold 1 rfl
        have e2 := hold 2 rfl
        have e3 := hold 3 rfl
        have e4 := hold 4 rfl
        have e5 := hold 5 rfl
        have e6 := hold 6 rfl
        have e7 := hold 7 rfl
        have e8 := hold 8 rfl
        have e9 := hold 9 rfl
        have e10 := hold 10 rfl
        have e11 := hold 11 rfl
        have e12 := hold 12 rfl
        have e13 := hold 13 rfl
        have e14 := hold 14 rfl
        have e15 := hold 15 rfl
        have e16 := hold 16 rfl
        have e17 := hold 17 rfl
        have e18 := hold 18 rfl
        have e19 := hold 19 rfl
        have e20 := hold 20 rfl
        have e21 := hold 21 rfl
        have e22 := hold 22 rfl
        have e23 := hold 23 rfl
        have e24 := hold 24 rfl
        have e25 := hold 25 rfl
        have e26 := hold 26 rfl
        have e27 := hold 27 rfl
        have e28 := hold 28 rfl
        have e29 := hold 29 rfl
        have e30 := hold 30 rfl
        have e31 := hold 31 rfl
        have e32 := hold 32 rfl
        have e33 := hold 33 rfl
        have e34 := hold 34 rfl
        have e35 := hold 35 rfl
        have e36 := hold 36 rfl
        have e37 := hold 37 rfl
        have e38 := hold 38 rfl
        have e39 := hold 39 rfl
        have e40 := hold 40 rfl
        have e41 := hold 41 rfl
        have e42 := hold 42 rfl
        have e43 := hold 43 rfl
        have e44 := hold 44 rfl
        have e45 := hdone 0 _ rfl _ rfl
        have e46 := hdone 1 _ rfl _ rfl
        have e47 := hdone 2 _ rfl _ rfl
        have e48 := hdone 3 _ rfl _ rfl
        have e49 := hdone 4 _ rfl _ rfl
        have e50 := hdone 5 _ rfl _ rfl
        have e51 := hdone 6 _ rfl _ rfl
        have e52 := hdone 7 _ rfl _ rfl
        have e53 := hdone 8 _ rfl _ rfl
        have e54 := hdone 9 _ rfl _ rfl
        have e55 := hdone 10 _ rfl _ rfl
        have e56 := hdone 11 _ rfl _ rfl
        have e57 := hdone 12 _ rfl _ rfl
        have e58 := hdone 13 _ rfl _ rfl
        have e59 := hdone 14 _ rfl _ rfl
        clear hdone hold
        obtain ⟨tm, df⟩ := a
        simp only at hts hdf e0 e1 e2 e3 e4 e5 e6 e7 e8 e9 e10 e11 e12 e13 e14 e15 e16 e17 e18 e19 e20 e21 e22 e23 e24 e25 e26 e27 e28 e29 e30 e31 e32 e33 e34 e35 e36 e37 e38 e39 e40 e41 e42 e43 e44 e45 e46 e47 e48 e49 e50 e51 e52 e53 e54 e55 e56 e57 e58 e59
        subst hdf
        have ht := arr_list tm 60 hts
        simp only [List.range, List.range.loop, List.map] at ht
        rw [ht]
        clear ht hts
        generalize tm.getD 0 undef = y0 at e0 ⊢
        generalize tm.getD 1 undef = y1 at e1 ⊢
        generalize tm.getD 2 undef = y2 at e2 ⊢
        generalize tm.getD 3 undef = y3 at e3 ⊢
        generalize tm.getD 4 undef = y4 at e4 ⊢
        generalize tm.getD 5 undef = y5 at e5 ⊢
        generalize tm.getD 6 undef = y6 at e6 ⊢
        generalize tm.getD 7 undef = y7 at e7 ⊢
        generalize tm.getD 8 undef = y8 at e8 ⊢
        generalize tm.getD 9 undef = y9 at e9 ⊢
        generalize tm.getD 10 undef = y10 at e10 ⊢
        generalize tm.getD 11 undef = y11 at e11 ⊢
        generalize tm.getD 12 undef = y12 at e12 ⊢
        generalize tm.getD 13 undef = y13 at e13 ⊢
        generalize tm.getD 14 undef = y14 at e14 ⊢
        generalize tm.getD 15 undef = y15 at e15 ⊢
        generalize tm.getD 16 undef = y16 at e16 ⊢
        generalize tm.getD 17 undef = y17 at e17 ⊢
        generalize tm.getD 18 undef = y18 at e18 ⊢
        generalize tm.getD 19 undef = y19 at e19 ⊢
        generalize tm.getD 20 undef = y20 at e20 ⊢
        generalize tm.getD 21 undef = y21 at e21 ⊢
        generalize tm.getD 22 undef = y22 at e22 ⊢
        generalize tm.getD 23 undef = y23 at e23 ⊢
        generalize tm.getD 24 undef = y24 at e24 ⊢
        generalize tm.getD 25 undef = y25 at e25 ⊢
        generalize tm.getD 26 undef = y26 at e26 ⊢
        generalize tm.getD 27 undef = y27 at e27 ⊢
        generalize tm.getD 28 undef = y28 at e28 ⊢
        generalize tm.getD 29 undef = y29 at e29 ⊢
        generalize tm.getD 30 undef = y30 at e30 ⊢
        generalize tm.getD 31 undef = y31 at e31 ⊢
        generalize tm.getD 32 undef = y32 at e32 ⊢
        generalize tm.getD 33 undef = y33 at e33 ⊢
        generalize tm.getD 34 undef = y34 at e34 ⊢
        generalize tm.getD 35 undef = y35 at e35 ⊢
        generalize tm.getD 36 undef = y36 at e36 ⊢
        generalize tm.getD 37 undef = y37 at e37 ⊢
        generalize tm.getD 38 undef = y38 at e38 ⊢
        generalize tm.getD 39 undef = y39 at e39 ⊢
        generalize tm.getD 40 undef = y40 at e40 ⊢
        generalize tm.getD 41 undef = y41 at e41 ⊢
        generalize tm.getD 42 undef = y42 at e42 ⊢
        generalize tm.getD 43 undef = y43 at e43 ⊢
        generalize tm.getD 44 undef = y44 at e44 ⊢
        generalize tm.getD 45 undef = y45 at e45 ⊢
        generalize tm.getD 46 undef = y46 at e46 ⊢
        generalize tm.getD 47 undef = y47 at e47 ⊢
        generalize tm.getD 48 undef = y48 at e48 ⊢
        generalize tm.getD 49 undef = y49 at e49 ⊢
        generalize tm.getD 50 undef = y50 at e50 ⊢
        generalize tm.getD 51 undef = y51 at e51 ⊢
        generalize tm.getD 52 undef = y52 at e52 ⊢
        generalize tm.getD 53 undef = y53 at e53 ⊢
        generalize tm.getD 54 undef = y54 at e54 ⊢
        generalize tm.getD 55 undef = y55 at e55 ⊢
        generalize tm.getD 56 undef = y56 at e56 ⊢
        generalize tm.getD 57 undef = y57 at e57 ⊢
        generalize tm.getD 58 undef = y58 at e58 ⊢
        generalize tm.getD 59 undef = y59 at e59 ⊢
        simp only [Array.getD_eq_getD_getElem?, List.getElem?_toArray, List.getElem?_cons_zero, List.getElem?_cons_succ, Option.getD_some] at e0 e1 e2 e3 e4 e5 e6 e7 e8 e9 e10 e11 e12 e13 e14 e15 e16 e17 e18 e19 e20 e21 e22 e23 e24 e25 e26 e27 e28 e29 e30 e31 e32 e33 e34 e35 e36 e37 e38 e39 e40 e41 e42 e43 e44
        subst e0
        subst e1
        subst e2
        subst e3
        subst e4
        subst e5
        subst e6
        subst e7
        subst e8
        subst e9
        subst e10
        subst e11
        subst e12
        subst e13
        subst e14
        subst e15
        subst e16
        subst e17
        subst e18
        subst e19
        subst e20
        subst e21
        subst e22
        subst e23
        subst e24
        subst e25
        subst e26
        subst e27
        subst e28
        subst e29
        subst e30
        subst e31
        subst e32
        subst e33
        subst e34
        subst e35
        subst e36
        subst e37
        subst e38
        subst e39
        subst e40
        subst e41
        subst e42
        subst e43
        subst e44
        subst e45
        subst e46
        subst e47
        subst e48
        subst e49
        subst e50
        subst e51
        subst e52
        subst e53
        subst e54
        subst e55
        subst e56
        subst e57
        subst e58
        subst e59
        have HU := Lib.hid (hbe.trans (hG.mono hbe.size))
        clear hG hbe hc1 hc2
        cases hI : instrB nc nf ((f.params.length : Int) + f.locals.length) x
        case true =>
          have HX := Lib.hid (hx hI)
          clear hx hn hI
          go_wp2
          go_roundw
          case rel => exact ⟨k + 1, by omega, by go_num, HU.out, HX.out⟩
          case measure => simp [intOf]; omega
        case false =>
          have HX := Lib.hid (hn hI)
          clear hx hn hI
          go_wp2
          go_ret
          rw [← HX.out]
          exact ⟨rfl, HB1.out.trans (HU.out.mono HB1.out.size)⟩
    · have e : k = f.code.length := by omega
      subst e
      have HX := Lib.hid (HY.out HALL.out)
      go_wp2
      go_ret
      rw [← HX.out]
      exact ⟨rfl, HB1.out.trans (hbe.mono HB1.out.size)⟩
end Go.Proofs.Ytchmgilckiadaaa
