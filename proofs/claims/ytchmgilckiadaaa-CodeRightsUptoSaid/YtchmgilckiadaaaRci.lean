/- code.right: may an instruction be, in a function of a script? -/
import Derived.Test.YtchmgilckiadaaaRgl
import Derived.Test.YtchmgilckiadaaaCat
import Derived.Test.YtchmgilckiadaaaPart1
namespace Go.Proofs.Ytchmgilckiadaaa
open Go.RowKit
theorem name_zero (op : Int) : ((bs (rowAt op).1).toList == []) = !decide (1 ≤ op ∧ op ≤ 53) := by
  have h : ∀ k : Nat, k < 54 → ((bs (rows.getD k ("", 0, "", "", 0)).1).toList == []) = decide (k = 0) := by decide +kernel
  unfold rowAt
  by_cases h2 : op < 1 ∨ 53 < op
  · rw [if_pos h2, h 0 (by omega), decide_eq_false (show ¬ (1 ≤ op ∧ op ≤ 53) by omega)]
    rfl
  · rw [if_neg h2, h op.toNat (by omega), decide_eq_true (show 1 ≤ op ∧ op ≤ 53 by omega)]
    simp; omega
theorem takes_zero {op : Int} (h : ¬ (1 ≤ op ∧ op ≤ 53)) : takesF op = 0 := by
  unfold takesF rowAt
  rw [if_pos (by omega)]
  rfl
set_option maxRecDepth 100000 in
set_option maxHeartbeats 2000000 in
theorem codeInstr_any (vs : Value) (s : Scr) (slots : Int) (x : Ins) (w : World) (hs : ScrVal w vs s) (hx : okI x) (hs0 : 0 ≤ slots) (hs1 : slots ≤ 1000000) :
    Calls Try.prog 100 #[vs, .int .i64 slots, encI x] w fun e w' => e = .returned (.bool (instrB s.consts.length s.funcs.length slots x)) ∧ Below w.heap.size w w' := by
  obtain ⟨v1, v2, rfl, h1, h2⟩ := hs
  obtain ⟨A1, k1, rfl, _⟩ := h1.open_
  obtain ⟨A2, k2, rfl, _⟩ := h2.open_
  have hl1 := h1.len
  have hl2 := h2.len
  clear h1 h2
  obtain ⟨o, a⟩ := x
  obtain ⟨⟨o0, o1⟩, ⟨a0, a1⟩⟩ := hx
  simp only [encI]
  obtain ⟨R, hR⟩ : ∃ R, instrB s.consts.length s.funcs.length slots (o, a) = R := ⟨_, rfl⟩
  rw [hR]
  generalize s.consts.length = nc at *
  generalize s.funcs.length = nf at *
  obtain ⟨W1, hW⟩ : ∃ W1, (w.alloc (.cells #[.slice A1 nc k1, .slice A2 nf k2] 45)).alloc (.cells #[.int .i64 o, .int .i64 a] 35) = W1 := ⟨_, rfl⟩
  have hb1 : Below w.heap.size w W1 := by rw [← hW]; exact (below_new w _).alloc (by simp) _
  have hq1 : W1.heap[w.heap.size]? = some (.cells #[.slice A1 nc k1, .slice A2 nf k2] 45 (0, 0)) := by rw [← hW]; exact alloc2_fst w _ _ _
  have hq2 : W1.heap[w.heap.size + 1]? = some (.cells #[.int .i64 o, .int .i64 a] 35 (0, 0)) := by rw [← hW]; exact alloc2_snd w _ _ _
  have HQ := Lib.hid (fun w' (hb : Below W1.heap.size W1 w') => And.intro (two_at hb hq1) (two_at hb hq2))
  have HW := Lib.hid hW
  have HB1 := Lib.hid hb1
  have HA := Lib.hid (Below.refl W1.heap.size W1)
  clear hW hb1 hq1 hq2
  obtain ⟨⟨g0, g1⟩, q0, q1⟩ := HQ.out _ HA.out
  have HT := Lib.hid (fun u => show Calls Try.prog 92 #[.int .i64 o] u fun e w' => e = .returned (.int .i64 (takesF o)) ∧ Below u.heap.size u w' from takes_any o u o0 o1)
  have HN := Lib.hid (fun u => name_any o u o0 o1)
  have hnm := name_zero o
  have hz := fun h => takes_zero (op := o) h
  have hd : instrB nc nf slots (o, a) = (decide (1 ≤ o ∧ o ≤ 53) && (if takesF o = 1 then true else if takesF o = 2 then decide (0 ≤ a ∧ a < (nc : Int)) else if takesF o = 3 then decide (0 ≤ a ∧ a < slots) else if takesF o = 4 then decide (1 ≤ a ∧ a ≤ 64) else if takesF o = 5 then decide (0 ≤ a ∧ a < (nf : Int)) else decide (a = 0))) := rfl
  rw [hd] at hR
  clear hd
  have hval := takesF_val o
  generalize takesF o = t at *
  generalize bs (rowAt o).1 = nm at *
  obtain ⟨D, hD⟩ : ∃ D, decide (1 ≤ o ∧ o ≤ 53) = D := ⟨_, rfl⟩
  rw [hD] at hR hnm
  have HRR := Lib.hid hR
  have hz : D = false → t = 0 := fun h => hz (by rw [h] at hD; simpa using hD)
  clear hR hD hval
  have HZ := Lib.hid hz
  clear hz
  go_enter Try.func100, Try.ntmps100
  go_upto_region 2 with (fail)
  rw [HW.out]
  have HNM := Lib.hid hnm
  clear hnm
  cases D
  case false =>
    have HX := Lib.hid (show false = R from by rw [← HRR.out]; rfl)
    have ht := HZ.out rfl
    subst ht
    have hnm : (nm.toList == []) = true := HNM.out
    clear HRR
    go_wp2_with (first
      | (go_at_call 92; (with_reducible refine (HT.out _).mono ?_); go_must (rintro e w2 ⟨rfl, hb⟩; have HA := Lib.hid (HA.out.trans (hb.mono HA.out.size)); clear hb; obtain ⟨⟨g0, g1⟩, q0, q1⟩ := HQ.out _ HA.out))
      | (go_at_call 150; (with_reducible refine (HN.out _).mono ?_); go_must (rintro e w3 ⟨rfl, hb⟩; have HA := Lib.hid (HA.out.trans (hb.mono HA.out.size)); clear hb; obtain ⟨⟨g0, g1⟩, q0, q1⟩ := HQ.out _ HA.out)))
    go_ret
    rw [← HX.out]
    exact ⟨rfl, HB1.out.trans (HA.out.mono HB1.out.size)⟩
  have hnm : (nm.toList == []) = false := HNM.out
  have hdd : (true && (if t = 1 then true else if t = 2 then decide (0 ≤ a ∧ a < (nc : Int)) else if t = 3 then decide (0 ≤ a ∧ a < slots) else if t = 4 then decide (1 ≤ a ∧ a ≤ 64) else if t = 5 then decide (0 ≤ a ∧ a < (nf : Int)) else decide (a = 0))) = R := HRR.out
  rw [Bool.true_and] at hdd
  have HRR := Lib.hid hdd
  clear hdd HZ
  by_cases t1 : t = 1
  · have HX := Lib.hid (show true = R from by rw [← HRR.out, if_pos t1])
    subst t1
    clear HRR
    go_wp2_with (first
      | (go_at_call 92; (with_reducible refine (HT.out _).mono ?_); go_must (rintro e w2 ⟨rfl, hb⟩; have HA := Lib.hid (HA.out.trans (hb.mono HA.out.size)); clear hb; obtain ⟨⟨g0, g1⟩, q0, q1⟩ := HQ.out _ HA.out))
      | (go_at_call 150; (with_reducible refine (HN.out _).mono ?_); go_must (rintro e w3 ⟨rfl, hb⟩; have HA := Lib.hid (HA.out.trans (hb.mono HA.out.size)); clear hb; obtain ⟨⟨g0, g1⟩, q0, q1⟩ := HQ.out _ HA.out)))
    go_ret
    rw [← HX.out]
    exact ⟨rfl, HB1.out.trans (HA.out.mono HB1.out.size)⟩
  by_cases t2 : t = 2
  · have hD : decide (0 ≤ a ∧ a < (nc : Int)) = R := by rw [← HRR.out, if_neg t1, if_pos t2]
    subst t2
    clear HRR t1
    by_cases c1 : a < 0
    · have HX := Lib.hid (show false = R from by rw [← hD]; simp; omega)
      clear hD
      have c2 : ¬ 0 ≤ a := by omega
      go_wp2_with (first
        | (go_at_call 92; (with_reducible refine (HT.out _).mono ?_); go_must (rintro e w2 ⟨rfl, hb⟩; have HA := Lib.hid (HA.out.trans (hb.mono HA.out.size)); clear hb; obtain ⟨⟨g0, g1⟩, q0, q1⟩ := HQ.out _ HA.out))
        | (go_at_call 150; (with_reducible refine (HN.out _).mono ?_); go_must (rintro e w3 ⟨rfl, hb⟩; have HA := Lib.hid (HA.out.trans (hb.mono HA.out.size)); clear hb; obtain ⟨⟨g0, g1⟩, q0, q1⟩ := HQ.out _ HA.out)))
      go_ret
      rw [← HX.out]
      exact ⟨rfl, HB1.out.trans (HA.out.mono HB1.out.size)⟩
    · have c3 : 0 ≤ a := by omega
      by_cases c2 : a ≤ (nc : Int) - 1
      · have HX := Lib.hid (show true = R from by rw [← hD]; simp; omega)
        clear hD
        have c5 : decide (a ≤ (nc : Int) - 1) = true := decide_eq_true c2
        go_wp2_with (first
          | (go_at_call 92; (with_reducible refine (HT.out _).mono ?_); go_must (rintro e w2 ⟨rfl, hb⟩; have HA := Lib.hid (HA.out.trans (hb.mono HA.out.size)); clear hb; obtain ⟨⟨g0, g1⟩, q0, q1⟩ := HQ.out _ HA.out))
          | (go_at_call 150; (with_reducible refine (HN.out _).mono ?_); go_must (rintro e w3 ⟨rfl, hb⟩; have HA := Lib.hid (HA.out.trans (hb.mono HA.out.size)); clear hb; obtain ⟨⟨g0, g1⟩, q0, q1⟩ := HQ.out _ HA.out)))
        go_ret
        rw [← HX.out]
        exact ⟨rfl, HB1.out.trans (HA.out.mono HB1.out.size)⟩
      · have HX := Lib.hid (show false = R from by rw [← hD]; simp; omega)
        clear hD
        have c5 : decide (a ≤ (nc : Int) - 1) = false := decide_eq_false c2
        go_wp2_with (first
          | (go_at_call 92; (with_reducible refine (HT.out _).mono ?_); go_must (rintro e w2 ⟨rfl, hb⟩; have HA := Lib.hid (HA.out.trans (hb.mono HA.out.size)); clear hb; obtain ⟨⟨g0, g1⟩, q0, q1⟩ := HQ.out _ HA.out))
          | (go_at_call 150; (with_reducible refine (HN.out _).mono ?_); go_must (rintro e w3 ⟨rfl, hb⟩; have HA := Lib.hid (HA.out.trans (hb.mono HA.out.size)); clear hb; obtain ⟨⟨g0, g1⟩, q0, q1⟩ := HQ.out _ HA.out)))
        go_ret
        rw [← HX.out]
        exact ⟨rfl, HB1.out.trans (HA.out.mono HB1.out.size)⟩
  by_cases t3 : t = 3
  · have hD : decide (0 ≤ a ∧ a < slots) = R := by rw [← HRR.out, if_neg t1, if_neg t2, if_pos t3]
    subst t3
    clear HRR t1 t2
    by_cases c1 : a < 0
    · have HX := Lib.hid (show false = R from by rw [← hD]; simp; omega)
      clear hD
      have c2 : ¬ 0 ≤ a := by omega
      go_wp2_with (first
        | (go_at_call 92; (with_reducible refine (HT.out _).mono ?_); go_must (rintro e w2 ⟨rfl, hb⟩; have HA := Lib.hid (HA.out.trans (hb.mono HA.out.size)); clear hb; obtain ⟨⟨g0, g1⟩, q0, q1⟩ := HQ.out _ HA.out))
        | (go_at_call 150; (with_reducible refine (HN.out _).mono ?_); go_must (rintro e w3 ⟨rfl, hb⟩; have HA := Lib.hid (HA.out.trans (hb.mono HA.out.size)); clear hb; obtain ⟨⟨g0, g1⟩, q0, q1⟩ := HQ.out _ HA.out)))
      go_ret
      rw [← HX.out]
      exact ⟨rfl, HB1.out.trans (HA.out.mono HB1.out.size)⟩
    · have c3 : 0 ≤ a := by omega
      by_cases c2 : a ≤ slots - 1
      · have HX := Lib.hid (show true = R from by rw [← hD]; simp; omega)
        clear hD
        have c5 : decide (a ≤ slots - 1) = true := decide_eq_true c2
        go_wp2_with (first
          | (go_at_call 92; (with_reducible refine (HT.out _).mono ?_); go_must (rintro e w2 ⟨rfl, hb⟩; have HA := Lib.hid (HA.out.trans (hb.mono HA.out.size)); clear hb; obtain ⟨⟨g0, g1⟩, q0, q1⟩ := HQ.out _ HA.out))
          | (go_at_call 150; (with_reducible refine (HN.out _).mono ?_); go_must (rintro e w3 ⟨rfl, hb⟩; have HA := Lib.hid (HA.out.trans (hb.mono HA.out.size)); clear hb; obtain ⟨⟨g0, g1⟩, q0, q1⟩ := HQ.out _ HA.out)))
        go_ret
        rw [← HX.out]
        exact ⟨rfl, HB1.out.trans (HA.out.mono HB1.out.size)⟩
      · have HX := Lib.hid (show false = R from by rw [← hD]; simp; omega)
        clear hD
        have c5 : decide (a ≤ slots - 1) = false := decide_eq_false c2
        go_wp2_with (first
          | (go_at_call 92; (with_reducible refine (HT.out _).mono ?_); go_must (rintro e w2 ⟨rfl, hb⟩; have HA := Lib.hid (HA.out.trans (hb.mono HA.out.size)); clear hb; obtain ⟨⟨g0, g1⟩, q0, q1⟩ := HQ.out _ HA.out))
          | (go_at_call 150; (with_reducible refine (HN.out _).mono ?_); go_must (rintro e w3 ⟨rfl, hb⟩; have HA := Lib.hid (HA.out.trans (hb.mono HA.out.size)); clear hb; obtain ⟨⟨g0, g1⟩, q0, q1⟩ := HQ.out _ HA.out)))
        go_ret
        rw [← HX.out]
        exact ⟨rfl, HB1.out.trans (HA.out.mono HB1.out.size)⟩
  by_cases t4 : t = 4
  · have hD : decide (1 ≤ a ∧ a ≤ 64) = R := by rw [← HRR.out, if_neg t1, if_neg t2, if_neg t3, if_pos t4]
    subst t4
    clear HRR t1 t2 t3
    by_cases c1 : a < 1
    · have HX := Lib.hid (show false = R from by rw [← hD]; simp; omega)
      clear hD
      have c2 : ¬ 1 ≤ a := by omega
      go_wp2_with (first
        | (go_at_call 92; (with_reducible refine (HT.out _).mono ?_); go_must (rintro e w2 ⟨rfl, hb⟩; have HA := Lib.hid (HA.out.trans (hb.mono HA.out.size)); clear hb; obtain ⟨⟨g0, g1⟩, q0, q1⟩ := HQ.out _ HA.out))
        | (go_at_call 150; (with_reducible refine (HN.out _).mono ?_); go_must (rintro e w3 ⟨rfl, hb⟩; have HA := Lib.hid (HA.out.trans (hb.mono HA.out.size)); clear hb; obtain ⟨⟨g0, g1⟩, q0, q1⟩ := HQ.out _ HA.out)))
      go_ret
      rw [← HX.out]
      exact ⟨rfl, HB1.out.trans (HA.out.mono HB1.out.size)⟩
    · have c3 : 1 ≤ a := by omega
      by_cases c2 : a ≤ 64
      · have HX := Lib.hid (show true = R from by rw [← hD]; simp; omega)
        clear hD
        have c5 : decide (a ≤ 64) = true := decide_eq_true c2
        go_wp2_with (first
          | (go_at_call 92; (with_reducible refine (HT.out _).mono ?_); go_must (rintro e w2 ⟨rfl, hb⟩; have HA := Lib.hid (HA.out.trans (hb.mono HA.out.size)); clear hb; obtain ⟨⟨g0, g1⟩, q0, q1⟩ := HQ.out _ HA.out))
          | (go_at_call 150; (with_reducible refine (HN.out _).mono ?_); go_must (rintro e w3 ⟨rfl, hb⟩; have HA := Lib.hid (HA.out.trans (hb.mono HA.out.size)); clear hb; obtain ⟨⟨g0, g1⟩, q0, q1⟩ := HQ.out _ HA.out)))
        go_ret
        rw [← HX.out]
        exact ⟨rfl, HB1.out.trans (HA.out.mono HB1.out.size)⟩
      · have HX := Lib.hid (show false = R from by rw [← hD]; simp; omega)
        clear hD
        have c5 : decide (a ≤ 64) = false := decide_eq_false c2
        go_wp2_with (first
          | (go_at_call 92; (with_reducible refine (HT.out _).mono ?_); go_must (rintro e w2 ⟨rfl, hb⟩; have HA := Lib.hid (HA.out.trans (hb.mono HA.out.size)); clear hb; obtain ⟨⟨g0, g1⟩, q0, q1⟩ := HQ.out _ HA.out))
          | (go_at_call 150; (with_reducible refine (HN.out _).mono ?_); go_must (rintro e w3 ⟨rfl, hb⟩; have HA := Lib.hid (HA.out.trans (hb.mono HA.out.size)); clear hb; obtain ⟨⟨g0, g1⟩, q0, q1⟩ := HQ.out _ HA.out)))
        go_ret
        rw [← HX.out]
        exact ⟨rfl, HB1.out.trans (HA.out.mono HB1.out.size)⟩
  by_cases t5 : t = 5
  · have hD : decide (0 ≤ a ∧ a < (nf : Int)) = R := by rw [← HRR.out, if_neg t1, if_neg t2, if_neg t3, if_neg t4, if_pos t5]
    subst t5
    clear HRR t1 t2 t3 t4
    by_cases c1 : a < 0
    · have HX := Lib.hid (show false = R from by rw [← hD]; simp; omega)
      clear hD
      have c2 : ¬ 0 ≤ a := by omega
      go_wp2_with (first
        | (go_at_call 92; (with_reducible refine (HT.out _).mono ?_); go_must (rintro e w2 ⟨rfl, hb⟩; have HA := Lib.hid (HA.out.trans (hb.mono HA.out.size)); clear hb; obtain ⟨⟨g0, g1⟩, q0, q1⟩ := HQ.out _ HA.out))
        | (go_at_call 150; (with_reducible refine (HN.out _).mono ?_); go_must (rintro e w3 ⟨rfl, hb⟩; have HA := Lib.hid (HA.out.trans (hb.mono HA.out.size)); clear hb; obtain ⟨⟨g0, g1⟩, q0, q1⟩ := HQ.out _ HA.out)))
      go_ret
      rw [← HX.out]
      exact ⟨rfl, HB1.out.trans (HA.out.mono HB1.out.size)⟩
    · have c3 : 0 ≤ a := by omega
      by_cases c2 : a ≤ (nf : Int) - 1
      · have HX := Lib.hid (show true = R from by rw [← hD]; simp; omega)
        clear hD
        have c5 : decide (a ≤ (nf : Int) - 1) = true := decide_eq_true c2
        go_wp2_with (first
          | (go_at_call 92; (with_reducible refine (HT.out _).mono ?_); go_must (rintro e w2 ⟨rfl, hb⟩; have HA := Lib.hid (HA.out.trans (hb.mono HA.out.size)); clear hb; obtain ⟨⟨g0, g1⟩, q0, q1⟩ := HQ.out _ HA.out))
          | (go_at_call 150; (with_reducible refine (HN.out _).mono ?_); go_must (rintro e w3 ⟨rfl, hb⟩; have HA := Lib.hid (HA.out.trans (hb.mono HA.out.size)); clear hb; obtain ⟨⟨g0, g1⟩, q0, q1⟩ := HQ.out _ HA.out)))
        go_ret
        rw [← HX.out]
        exact ⟨rfl, HB1.out.trans (HA.out.mono HB1.out.size)⟩
      · have HX := Lib.hid (show false = R from by rw [← hD]; simp; omega)
        clear hD
        have c5 : decide (a ≤ (nf : Int) - 1) = false := decide_eq_false c2
        go_wp2_with (first
          | (go_at_call 92; (with_reducible refine (HT.out _).mono ?_); go_must (rintro e w2 ⟨rfl, hb⟩; have HA := Lib.hid (HA.out.trans (hb.mono HA.out.size)); clear hb; obtain ⟨⟨g0, g1⟩, q0, q1⟩ := HQ.out _ HA.out))
          | (go_at_call 150; (with_reducible refine (HN.out _).mono ?_); go_must (rintro e w3 ⟨rfl, hb⟩; have HA := Lib.hid (HA.out.trans (hb.mono HA.out.size)); clear hb; obtain ⟨⟨g0, g1⟩, q0, q1⟩ := HQ.out _ HA.out)))
        go_ret
        rw [← HX.out]
        exact ⟨rfl, HB1.out.trans (HA.out.mono HB1.out.size)⟩
  have hD : decide (a = 0) = R := by rw [← HRR.out, if_neg t1, if_neg t2, if_neg t3, if_neg t4, if_neg t5]
  have n1 : (t == 1) = false := by simpa using t1
  have n2 : (t == 2) = false := by simpa using t2
  have n3 : (t == 3) = false := by simpa using t3
  have n4 : (t == 4) = false := by simpa using t4
  have n5 : (t == 5) = false := by simpa using t5
  clear HRR
  by_cases c : a = 0
  · have HX := Lib.hid (show true = R from by rw [← hD]; simp [c])
    clear hD
    subst c
    go_wp2_with (first
      | (go_at_call 92; (with_reducible refine (HT.out _).mono ?_); go_must (rintro e w2 ⟨rfl, hb⟩; have HA := Lib.hid (HA.out.trans (hb.mono HA.out.size)); clear hb; obtain ⟨⟨g0, g1⟩, q0, q1⟩ := HQ.out _ HA.out))
      | (go_at_call 150; (with_reducible refine (HN.out _).mono ?_); go_must (rintro e w3 ⟨rfl, hb⟩; have HA := Lib.hid (HA.out.trans (hb.mono HA.out.size)); clear hb; obtain ⟨⟨g0, g1⟩, q0, q1⟩ := HQ.out _ HA.out)))
    go_ret
    rw [← HX.out]
    exact ⟨rfl, HB1.out.trans (HA.out.mono HB1.out.size)⟩
  · have HX := Lib.hid (show false = R from by rw [← hD]; simp [c])
    clear hD
    by_cases c1 : a < 0
    · have c2 : ¬ 0 ≤ a := by omega
      go_wp2_with (first
        | (go_at_call 92; (with_reducible refine (HT.out _).mono ?_); go_must (rintro e w2 ⟨rfl, hb⟩; have HA := Lib.hid (HA.out.trans (hb.mono HA.out.size)); clear hb; obtain ⟨⟨g0, g1⟩, q0, q1⟩ := HQ.out _ HA.out))
        | (go_at_call 150; (with_reducible refine (HN.out _).mono ?_); go_must (rintro e w3 ⟨rfl, hb⟩; have HA := Lib.hid (HA.out.trans (hb.mono HA.out.size)); clear hb; obtain ⟨⟨g0, g1⟩, q0, q1⟩ := HQ.out _ HA.out)))
      go_ret
      rw [← HX.out]
      exact ⟨rfl, HB1.out.trans (HA.out.mono HB1.out.size)⟩
    · have c3 : 0 ≤ a := by omega
      have c2 : ¬ a ≤ 0 := by omega
      have c5 : decide (a ≤ 0) = false := decide_eq_false c2
      go_wp2_with (first
        | (go_at_call 92; (with_reducible refine (HT.out _).mono ?_); go_must (rintro e w2 ⟨rfl, hb⟩; have HA := Lib.hid (HA.out.trans (hb.mono HA.out.size)); clear hb; obtain ⟨⟨g0, g1⟩, q0, q1⟩ := HQ.out _ HA.out))
        | (go_at_call 150; (with_reducible refine (HN.out _).mono ?_); go_must (rintro e w3 ⟨rfl, hb⟩; have HA := Lib.hid (HA.out.trans (hb.mono HA.out.size)); clear hb; obtain ⟨⟨g0, g1⟩, q0, q1⟩ := HQ.out _ HA.out)))
      go_ret
      rw [← HX.out]
      exact ⟨rfl, HB1.out.trans (HA.out.mono HB1.out.size)⟩
end Go.Proofs.Ytchmgilckiadaaa
