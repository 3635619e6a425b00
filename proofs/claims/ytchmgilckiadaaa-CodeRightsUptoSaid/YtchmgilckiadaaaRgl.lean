/- Which scripts may be: in plain words; ref04's types and instr. -/
import Derived.Test.YtchmgilckiadaaaNamr
import Derived.Test.YtchmgilckiadaaaSmd
import Derived.Test.YtchmgilckiadaaaIdx
namespace Go.Proofs.Ytchmgilckiadaaa
open Go.RowKit
def typeB (x : Int) : Bool := decide (1 ≤ x ∧ x ≤ 3)
def typesB (l : List Int) (most : Int) : Bool := l.all typeB && decide ((l.length : Int) ≤ most)
def instrB (nc nf slots : Int) (x : Ins) : Bool :=
  decide (1 ≤ x.1 ∧ x.1 ≤ 53) && (if takesF x.1 = 1 then true else if takesF x.1 = 2 then decide (0 ≤ x.2 ∧ x.2 < nc) else if takesF x.1 = 3 then decide (0 ≤ x.2 ∧ x.2 < slots) else if takesF x.1 = 4 then decide (1 ≤ x.2 ∧ x.2 ≤ 64) else if takesF x.1 = 5 then decide (0 ≤ x.2 ∧ x.2 < nf) else decide (x.2 = 0))
def fnB (nc nf : Int) (f : Fn) : Bool :=
  typesB f.params 8 && typesB f.results 8 && typesB f.locals 16 && decide ((f.params.length : Int) + f.locals.length ≤ 16) && decide ((f.code.length : Int) ≤ 256) && f.code.all (instrB nc nf ((f.params.length : Int) + f.locals.length))
/-- May a script be? -/
def rightB (s : Scr) : Bool :=
  decide ((s.consts.length : Int) ≤ 32) && decide (1 ≤ (s.funcs.length : Int) ∧ (s.funcs.length : Int) ≤ 16) && s.consts.all (fun c => decide ((c.size : Int) ≤ 256)) && s.funcs.all (fnB s.consts.length s.funcs.length)
theorem all_no {α : Type} {p : α → Bool} {l : List α} {d : α} {k : Nat} (hk : k < l.length) (h : p (l.getD k d) = false) : l.all p = false := by
  rw [Bool.eq_false_iff]
  intro h2
  have := List.all_eq_true.1 h2 _ (getD_in (d := d) hk)
  rw [h] at this
  cases this
theorem all_yes {α : Type} {p : α → Bool} {l : List α} (d : α) (h : ∀ j, j < l.length → p (l.getD j d) = true) : l.all p = true := by
  refine List.all_eq_true.2 fun x hx => ?_
  obtain ⟨i, hi, rfl⟩ := List.mem_iff_getElem.1 hx
  have := h i hi
  simpa [hi] using this
theorem takesF_val (op : Int) : 0 ≤ takesF op ∧ takesF op ≤ 5 := by
  have h : ∀ k : Nat, k < 54 → 0 ≤ (rows.getD k ("", 0, "", "", 0)).2.1 ∧ (rows.getD k ("", 0, "", "", 0)).2.1 ≤ 5 := by decide +kernel
  unfold takesF rowAt
  split
  · exact h 0 (by omega)
  · by_cases h2 : op.toNat < 54
    · exact h _ h2
    · omega
set_option maxRecDepth 100000 in
theorem types_any (v : Value) (xs : List Int) (most : Int) (w : World) (hv : Ints w v xs) :
    Calls Try.prog 151 #[v, .int .i64 most] w fun e w' => e = .returned (.bool (typesB xs most)) ∧ Below w.heap.size w w' := by
  have hl := hv.len
  obtain ⟨A, k1, rfl, hr⟩ := hv.open_
  have HR := Lib.hid hr
  obtain ⟨R, hR⟩ : ∃ R, typesB xs most = R := ⟨_, rfl⟩
  rw [hR]
  have hN : ∀ k, k < xs.length → typeB (xs.getD k 0) = false → false = R := fun k hk h => by rw [← hR]; unfold typesB; rw [all_no hk h]; rfl
  have hY : (∀ j, j < xs.length → typeB (xs.getD j 0) = true) → decide ((xs.length : Int) ≤ most) = R := fun h => by rw [← hR]; unfold typesB; rw [all_yes 0 h]; rfl
  have HN := Lib.hid hN
  have HY := Lib.hid hY
  clear hv hr hN hY hR
  go_enter Try.func151, Try.ntmps151
  go_wp2
  go_loop [5] (fun i => ∃ k : Nat, k ≤ xs.length ∧ i = .int .i64 k ∧ ∀ j, j < k → typeB (xs.getD j 0) = true) (fun i => xs.length - (intOf i).toNat)
  case atStart => exact ⟨0, Nat.zero_le _, rfl, fun j h => by omega⟩
  case round =>
    obtain ⟨k, hk, rfl, hall⟩ := hrel
    have HALL := Lib.hid hall
    clear hall
    by_cases hlt : k < xs.length
    · obtain ⟨b, off, rfl, hc⟩ := HR.out k hlt
      have hk0 : (0 : Int) ≤ k := by omega
      have hk1 : (k : Int) < (xs.length : Int) := by omega
      have hn := HN.out k hlt
      have hx : typeB (xs.getD k 0) = true → ∀ j, j < k + 1 → typeB (xs.getD j 0) = true := fun h j hj => by
        by_cases e : j = k
        · subst e; exact h
        · exact HALL.out j (by omega)
      generalize xs.getD k 0 = y at *
      by_cases h1 : y < 1
      · have HX := Lib.hid (hn (by unfold typeB; simp; omega))
        clear hn hx
        go_wp2
        go_ret
        rw [← HX.out]
        exact ⟨rfl, Below.refl _ _⟩
      · by_cases h3 : 3 < y
        · have HX := Lib.hid (hn (by unfold typeB; simp; omega))
          clear hn hx
          go_wp2
          go_ret
          rw [← HX.out]
          exact ⟨rfl, Below.refl _ _⟩
        · have HX := Lib.hid (hx (by unfold typeB; simp; omega))
          clear hn hx
          go_wp2
          go_round
          case rel => exact ⟨k + 1, by omega, by go_num, HX.out⟩
          case measure => simp [intOf]; omega
    · have e : k = xs.length := by omega
      subst e
      have HX := Lib.hid (HY.out HALL.out)
      go_wp2
      go_ret
      rw [← HX.out]
      exact ⟨rfl, Below.refl _ _⟩
set_option maxRecDepth 100000 in
set_option maxHeartbeats 2000000 in
theorem instr3_any (vs : Value) (s : Scr) (slots : Int) (x : Ins) (w : World) (hs : ScrVal w vs s) :
    Calls Try.prog 152 #[vs, .int .i64 slots, encI x] w fun e w' => e = .returned (.bool (instrB s.consts.length s.funcs.length slots x)) ∧ Below w.heap.size w w' := by
  obtain ⟨v1, v2, rfl, h1, h2⟩ := hs
  obtain ⟨A1, k1, rfl, _⟩ := h1.open_
  obtain ⟨A2, k2, rfl, _⟩ := h2.open_
  have hl1 := h1.len
  have hl2 := h2.len
  clear h1 h2
  obtain ⟨o, a⟩ := x
  simp only [encI]
  obtain ⟨R, hR⟩ : ∃ R, instrB s.consts.length s.funcs.length slots (o, a) = R := ⟨_, rfl⟩
  rw [hR]
  generalize s.consts.length = nc at *
  generalize s.funcs.length = nf at *
  obtain ⟨W1, hW⟩ : ∃ W1, (w.alloc (.cells #[.slice A1 nc k1, .slice A2 nf k2] 45)).alloc (.cells #[.int .i64 o, .int .i64 a] 35) = W1 := ⟨_, rfl⟩
  have hb1 : Below w.heap.size w W1 := by rw [← hW]; exact (below_new w _).alloc (by simp) _
  have hq1 : W1.heap[w.heap.size]? = some (.cells #[.slice A1 nc k1, .slice A2 nf k2] 45 (0, 0)) := by rw [← hW]; exact alloc2_fst w _ _ _
  have hq2 : W1.heap[w.heap.size + 1]? = some (.cells #[.int .i64 o, .int .i64 a] 35 (0, 0)) := by rw [← hW]; exact alloc2_snd w _ _ _
  have HQ := Lib.hid (fun w' (hb : Below W1.heap.size W1 w') => And.intro (two_at hb hq1) (two_at hb hq2))
  have HW := Lib.hid hW
  have HB1 := Lib.hid hb1
  have HA := Lib.hid (Below.refl W1.heap.size W1)
  clear hW hb1 hq1 hq2
  obtain ⟨⟨g0, g1⟩, q0, q1⟩ := HQ.out _ HA.out
  by_cases hr : 1 ≤ o ∧ o ≤ 53
  case neg =>
    have HX := Lib.hid (show false = R by rw [← hR]; unfold instrB; rw [decide_eq_false hr]; rfl)
    clear hR
    by_cases h1 : o < 1
    · clear hr
      go_enter Try.func152, Try.ntmps152
      go_upto_region 1 with (fail)
      rw [HW.out]
      go_wp2
      go_ret
      rw [← HX.out]
      exact ⟨rfl, HB1.out⟩
    · have h2 : 53 < o := by omega
      clear hr
      go_enter Try.func152, Try.ntmps152
      go_upto_region 1 with (fail)
      rw [HW.out]
      go_wp2
      go_ret
      rw [← HX.out]
      exact ⟨rfl, HB1.out⟩
  have hR : (if takesF o = 1 then true else if takesF o = 2 then decide (0 ≤ a ∧ a < (nc : Int)) else if takesF o = 3 then decide (0 ≤ a ∧ a < slots) else if takesF o = 4 then decide (1 ≤ a ∧ a ≤ 64) else if takesF o = 5 then decide (0 ≤ a ∧ a < (nf : Int)) else decide (a = 0)) = R := by
    rw [← hR]; unfold instrB; rw [decide_eq_true hr]; rfl
  have hr1 : ¬ o < 1 := by omega
  have hr2 : ¬ 53 < o := by omega
  have HT := Lib.hid (takes3_any o)
  have hval := takesF_val o
  generalize takesF o = t at *
  have key : ∀ (b1 b2 : Bool), True := fun _ _ => trivial
  go_enter Try.func152, Try.ntmps152
  go_upto_region 1 with (fail)
  rw [HW.out]
  clear hr key
  have HRR := Lib.hid hR
  clear hR
  obtain ⟨hv0, hv1⟩ := hval
  clear hv0 hv1
  by_cases t1 : t = 1
  · have HX := Lib.hid (show true = R from by rw [← HRR.out, if_pos t1])
    subst t1
    clear HRR
    go_wp2_with (go_at_call 155; (with_reducible refine (HT.out _).mono ?_); go_must (rintro e w2 ⟨rfl, hb⟩; have HA := Lib.hid (HA.out.trans (hb.mono HA.out.size)); clear hb; obtain ⟨⟨g0, g1⟩, q0, q1⟩ := HQ.out _ HA.out))
    go_ret
    rw [← HX.out]
    exact ⟨rfl, HB1.out.trans (HA.out.mono HB1.out.size)⟩
  by_cases t2 : t = 2
  · have hD : decide (0 ≤ a ∧ a < (nc : Int)) = R := by rw [← HRR.out, if_neg t1, if_pos t2]
    subst t2
    clear HRR t1
    by_cases c1 : a < 0
    · have HX := Lib.hid (show false = R from by rw [← hD]; simp; omega)
      clear hD
      have c2 : ¬ 0 ≤ a := by omega
      go_wp2_with (go_at_call 155; (with_reducible refine (HT.out _).mono ?_); go_must (rintro e w2 ⟨rfl, hb⟩; have HA := Lib.hid (HA.out.trans (hb.mono HA.out.size)); clear hb; obtain ⟨⟨g0, g1⟩, q0, q1⟩ := HQ.out _ HA.out))
      go_ret
      rw [← HX.out]
      exact ⟨rfl, HB1.out.trans (HA.out.mono HB1.out.size)⟩
    · by_cases c2 : (nc : Int) ≤ a
      · have HX := Lib.hid (show false = R from by rw [← hD]; simp; omega)
        clear hD
        have c3 : 0 ≤ a := by omega
        have c4 : ¬ a < (nc : Int) := by omega
        have c5 : decide (a < (nc : Int)) = false := decide_eq_false c4
        go_wp2_with (go_at_call 155; (with_reducible refine (HT.out _).mono ?_); go_must (rintro e w2 ⟨rfl, hb⟩; have HA := Lib.hid (HA.out.trans (hb.mono HA.out.size)); clear hb; obtain ⟨⟨g0, g1⟩, q0, q1⟩ := HQ.out _ HA.out))
        go_ret
        rw [← HX.out]
        exact ⟨rfl, HB1.out.trans (HA.out.mono HB1.out.size)⟩
      · have HX := Lib.hid (show true = R from by rw [← hD]; simp; omega)
        clear hD
        have c3 : 0 ≤ a := by omega
        have c4 : a < (nc : Int) := by omega
        go_wp2_with (go_at_call 155; (with_reducible refine (HT.out _).mono ?_); go_must (rintro e w2 ⟨rfl, hb⟩; have HA := Lib.hid (HA.out.trans (hb.mono HA.out.size)); clear hb; obtain ⟨⟨g0, g1⟩, q0, q1⟩ := HQ.out _ HA.out))
        go_ret
        rw [← HX.out]
        exact ⟨rfl, HB1.out.trans (HA.out.mono HB1.out.size)⟩
  by_cases t3 : t = 3
  · have hD : decide (0 ≤ a ∧ a < slots) = R := by rw [← HRR.out, if_neg t1, if_neg t2, if_pos t3]
    subst t3
    clear HRR t1 t2
    by_cases c1 : a < 0
    · have HX := Lib.hid (show false = R from by rw [← hD]; simp; omega)
      clear hD
      have c2 : ¬ 0 ≤ a := by omega
      go_wp2_with (go_at_call 155; (with_reducible refine (HT.out _).mono ?_); go_must (rintro e w2 ⟨rfl, hb⟩; have HA := Lib.hid (HA.out.trans (hb.mono HA.out.size)); clear hb; obtain ⟨⟨g0, g1⟩, q0, q1⟩ := HQ.out _ HA.out))
      go_ret
      rw [← HX.out]
      exact ⟨rfl, HB1.out.trans (HA.out.mono HB1.out.size)⟩
    · by_cases c2 : slots ≤ a
      · have HX := Lib.hid (show false = R from by rw [← hD]; simp; omega)
        clear hD
        have c3 : 0 ≤ a := by omega
        have c4 : ¬ a < slots := by omega
        have c5 : decide (a < slots) = false := decide_eq_false c4
        go_wp2_with (go_at_call 155; (with_reducible refine (HT.out _).mono ?_); go_must (rintro e w2 ⟨rfl, hb⟩; have HA := Lib.hid (HA.out.trans (hb.mono HA.out.size)); clear hb; obtain ⟨⟨g0, g1⟩, q0, q1⟩ := HQ.out _ HA.out))
        go_ret
        rw [← HX.out]
        exact ⟨rfl, HB1.out.trans (HA.out.mono HB1.out.size)⟩
      · have HX := Lib.hid (show true = R from by rw [← hD]; simp; omega)
        clear hD
        have c3 : 0 ≤ a := by omega
        have c4 : a < slots := by omega
        go_wp2_with (go_at_call 155; (with_reducible refine (HT.out _).mono ?_); go_must (rintro e w2 ⟨rfl, hb⟩; have HA := Lib.hid (HA.out.trans (hb.mono HA.out.size)); clear hb; obtain ⟨⟨g0, g1⟩, q0, q1⟩ := HQ.out _ HA.out))
        go_ret
        rw [← HX.out]
        exact ⟨rfl, HB1.out.trans (HA.out.mono HB1.out.size)⟩
  by_cases t4 : t = 4
  · have hD : decide (1 ≤ a ∧ a ≤ 64) = R := by rw [← HRR.out, if_neg t1, if_neg t2, if_neg t3, if_pos t4]
    subst t4
    clear HRR t1 t2 t3
    by_cases c1 : a < 1
    · have HX := Lib.hid (show false = R from by rw [← hD]; simp; omega)
      clear hD
      have c2 : ¬ 1 ≤ a := by omega
      go_wp2_with (go_at_call 155; (with_reducible refine (HT.out _).mono ?_); go_must (rintro e w2 ⟨rfl, hb⟩; have HA := Lib.hid (HA.out.trans (hb.mono HA.out.size)); clear hb; obtain ⟨⟨g0, g1⟩, q0, q1⟩ := HQ.out _ HA.out))
      go_ret
      rw [← HX.out]
      exact ⟨rfl, HB1.out.trans (HA.out.mono HB1.out.size)⟩
    · by_cases c2 : 64 < a
      · have HX := Lib.hid (show false = R from by rw [← hD]; simp; omega)
        clear hD
        have c3 : 1 ≤ a := by omega
        have c4 : ¬ a ≤ 64 := by omega
        have c5 : decide (a ≤ 64) = false := decide_eq_false c4
        go_wp2_with (go_at_call 155; (with_reducible refine (HT.out _).mono ?_); go_must (rintro e w2 ⟨rfl, hb⟩; have HA := Lib.hid (HA.out.trans (hb.mono HA.out.size)); clear hb; obtain ⟨⟨g0, g1⟩, q0, q1⟩ := HQ.out _ HA.out))
        go_ret
        rw [← HX.out]
        exact ⟨rfl, HB1.out.trans (HA.out.mono HB1.out.size)⟩
      · have HX := Lib.hid (show true = R from by rw [← hD]; simp; omega)
        clear hD
        have c3 : 1 ≤ a := by omega
        have c4 : a ≤ 64 := by omega
        go_wp2_with (go_at_call 155; (with_reducible refine (HT.out _).mono ?_); go_must (rintro e w2 ⟨rfl, hb⟩; have HA := Lib.hid (HA.out.trans (hb.mono HA.out.size)); clear hb; obtain ⟨⟨g0, g1⟩, q0, q1⟩ := HQ.out _ HA.out))
        go_ret
        rw [← HX.out]
        exact ⟨rfl, HB1.out.trans (HA.out.mono HB1.out.size)⟩
  by_cases t5 : t = 5
  · have hD : decide (0 ≤ a ∧ a < (nf : Int)) = R := by rw [← HRR.out, if_neg t1, if_neg t2, if_neg t3, if_neg t4, if_pos t5]
    subst t5
    clear HRR t1 t2 t3 t4
    by_cases c1 : a < 0
    · have HX := Lib.hid (show false = R from by rw [← hD]; simp; omega)
      clear hD
      have c2 : ¬ 0 ≤ a := by omega
      go_wp2_with (go_at_call 155; (with_reducible refine (HT.out _).mono ?_); go_must (rintro e w2 ⟨rfl, hb⟩; have HA := Lib.hid (HA.out.trans (hb.mono HA.out.size)); clear hb; obtain ⟨⟨g0, g1⟩, q0, q1⟩ := HQ.out _ HA.out))
      go_ret
      rw [← HX.out]
      exact ⟨rfl, HB1.out.trans (HA.out.mono HB1.out.size)⟩
    · by_cases c2 : (nf : Int) ≤ a
      · have HX := Lib.hid (show false = R from by rw [← hD]; simp; omega)
        clear hD
        have c3 : 0 ≤ a := by omega
        have c4 : ¬ a < (nf : Int) := by omega
        have c5 : decide (a < (nf : Int)) = false := decide_eq_false c4
        go_wp2_with (go_at_call 155; (with_reducible refine (HT.out _).mono ?_); go_must (rintro e w2 ⟨rfl, hb⟩; have HA := Lib.hid (HA.out.trans (hb.mono HA.out.size)); clear hb; obtain ⟨⟨g0, g1⟩, q0, q1⟩ := HQ.out _ HA.out))
        go_ret
        rw [← HX.out]
        exact ⟨rfl, HB1.out.trans (HA.out.mono HB1.out.size)⟩
      · have HX := Lib.hid (show true = R from by rw [← hD]; simp; omega)
        clear hD
        have c3 : 0 ≤ a := by omega
        have c4 : a < (nf : Int) := by omega
        go_wp2_with (go_at_call 155; (with_reducible refine (HT.out _).mono ?_); go_must (rintro e w2 ⟨rfl, hb⟩; have HA := Lib.hid (HA.out.trans (hb.mono HA.out.size)); clear hb; obtain ⟨⟨g0, g1⟩, q0, q1⟩ := HQ.out _ HA.out))
        go_ret
        rw [← HX.out]
        exact ⟨rfl, HB1.out.trans (HA.out.mono HB1.out.size)⟩
  have hD : decide (a = 0) = R := by rw [← HRR.out, if_neg t1, if_neg t2, if_neg t3, if_neg t4, if_neg t5]
  have n1 : (t == 1) = false := by simpa using t1
  have n2 : (t == 2) = false := by simpa using t2
  have n3 : (t == 3) = false := by simpa using t3
  have n4 : (t == 4) = false := by simpa using t4
  have n5 : (t == 5) = false := by simpa using t5
  clear HRR
  by_cases c : a = 0
  · have HX := Lib.hid (show true = R from by rw [← hD]; simp [c])
    clear hD
    subst c
    go_wp2_with (go_at_call 155; (with_reducible refine (HT.out _).mono ?_); go_must (rintro e w2 ⟨rfl, hb⟩; have HA := Lib.hid (HA.out.trans (hb.mono HA.out.size)); clear hb; obtain ⟨⟨g0, g1⟩, q0, q1⟩ := HQ.out _ HA.out))
    go_ret
    rw [← HX.out]
    exact ⟨rfl, HB1.out.trans (HA.out.mono HB1.out.size)⟩
  · have HX := Lib.hid (show false = R from by rw [← hD]; simp [c])
    clear hD
    have c2 : (a == 0) = false := by simpa using c
    go_wp2_with (go_at_call 155; (with_reducible refine (HT.out _).mono ?_); go_must (rintro e w2 ⟨rfl, hb⟩; have HA := Lib.hid (HA.out.trans (hb.mono HA.out.size)); clear hb; obtain ⟨⟨g0, g1⟩, q0, q1⟩ := HQ.out _ HA.out))
    go_ret
    rw [← HX.out]
    exact ⟨rfl, HB1.out.trans (HA.out.mono HB1.out.size)⟩
end Go.Proofs.Ytchmgilckiadaaa
