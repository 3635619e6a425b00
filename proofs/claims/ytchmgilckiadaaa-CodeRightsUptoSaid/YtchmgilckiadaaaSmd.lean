/- code.Same: are two scripts the same? slices.EqualFunc. -/
import Derived.Test.YtchmgilckiadaaaSmc
namespace Go.Proofs.Ytchmgilckiadaaa
open Go.RowKit
set_option maxRecDepth 100000 in
set_option maxHeartbeats 1000000 in
theorem eqFns_any (va vb : Value) (a b : List Fn) (w : World) (ha : Fns w va a) (hb : Fns w vb b) :
    Calls Try.prog 106 #[va, vb, .func (.func 107) #[] #[]] w fun e w' => e = .returned (.bool (decide (a = b))) ∧ Below w.heap.size w w' := by
  have hla := ha.len
  have hlb := hb.len
  obtain ⟨A, k1, rfl, hr⟩ := ha.open_
  obtain ⟨A2, k2, rfl, hr2⟩ := hb.open_
  have HR := Lib.hid hr
  have HR2 := Lib.hid hr2
  obtain ⟨R, hR⟩ : ∃ R, decide (a = b) = R := ⟨_, rfl⟩
  rw [hR]
  have HL := Lib.hid (fun h => (list_ne_len (a := a) (b := b) h).symm.trans hR)
  have HN := Lib.hid (fun j h => (list_ne_at (default : Fn) (a := a) (b := b) j h).symm.trans hR)
  have HY := Lib.hid (fun hl h => (list_eq_yes (default : Fn) (a := a) (b := b) hl h).symm.trans hR)
  clear ha hb hr hr2 hR
  by_cases hll : (a.length : Int) = b.length
  case neg =>
    have HF := Lib.hid (HL.out hll)
    go_enter Try.func106, Try.ntmps106
    go_wp2
    go_ret
    rw [← HF.out]
    exact ⟨rfl, Below.refl _ _⟩
  have HLL := Lib.hid (show a.length = b.length by omega)
  go_enter Try.func106, Try.ntmps106
  go_wp2
  go_loopw [7, 17] (fun i7 i wr => ∃ k : Nat, k ≤ a.length ∧ i = .int .i64 k ∧ Below w.heap.size w wr ∧ ∀ j, j < k → a.getD j default = b.getD j default) (fun _ i _ => a.length - (intOf i).toNat)
  case atStart => exact ⟨0, Nat.zero_le _, rfl, Below.refl _ _, fun j h => by omega⟩
  case round =>
    obtain ⟨k, hk, rfl, hbe, hall⟩ := hrel
    have HALL := Lib.hid hall
    clear hall
    by_cases hlt : k < a.length
    · obtain ⟨bb, off, rfl, hc1⟩ := HR.out k hlt
      obtain ⟨b2, off2, rfl, hc2⟩ := HR2.out k (HLL.out ▸ hlt)
      have hT : a.getD k default = b.getD k default → ∀ j, j < k + 1 → a.getD j default = b.getD j default := fun hy j hj => by
        by_cases e : j = k
        · subst e; exact hy
        · exact HALL.out j (by omega)
      have HT := Lib.hid hT
      have HF := Lib.hid (HN.out k)
      clear hT
      generalize a.getD k default = fa at *
      generalize b.getD k default = fb at *
      obtain ⟨p1, r1, l1, c1, hp0, hp1, hp2, hp3, hf1⟩ := hc1.ext hbe
      obtain ⟨p2, r2, l2, c2, hq0, hq1, hq2, hq3, hf2⟩ := hc2.ext hbe
      obtain ⟨ap, kp, rfl, _⟩ := hf1.p.at_
      obtain ⟨ar, kr, rfl, _⟩ := hf1.r.at_
      obtain ⟨al, kl, rfl, _⟩ := hf1.l.at_
      obtain ⟨ac, kc, rfl, _⟩ := hf1.c.at_
      obtain ⟨bp, jp, rfl, _⟩ := hf2.p.at_
      obtain ⟨br, jr, rfl, _⟩ := hf2.r.at_
      obtain ⟨bl, jl, rfl, _⟩ := hf2.l.at_
      obtain ⟨bc, jc, rfl, _⟩ := hf2.c.at_
      have hbx := below_new wr (.cells #[(.slice ap fa.params.length kp), (.slice ar fa.results.length kr), (.slice al fa.locals.length kl), (.slice ac fa.code.length kc)] 53)
      have hq0 := cell_ext hq0 hbx
      have hq1 := cell_ext hq1 hbx
      have hq2 := cell_ext hq2 hbx
      have hq3 := cell_ext hq3 hbx
      have hk0 : (0 : Int) ≤ k := by omega
      have hk1 : (k : Int) < (a.length : Int) := by omega
      have hk2 : (k : Int) < (b.length : Int) := by omega
      have HF1 := Lib.hid hf1
      have HF2 := Lib.hid hf2
      have HBE := Lib.hid hbe
      clear hc1 hc2 hf1 hf2 hbe hbx
      go_upto_region 7 with (fail)
      generalize hW : (wr.alloc (.cells #[(.slice ap fa.params.length kp), (.slice ar fa.results.length kr), (.slice al fa.locals.length kl), (.slice ac fa.code.length kc)] 53)).alloc (.cells #[(.slice bp fb.params.length jp), (.slice br fb.results.length jr), (.slice bl fb.locals.length jl), (.slice bc fb.code.length jc)] 53) = W1
      obtain ⟨hb1, hs1, hz1, hz2⟩ := two_boxes hW
      clear hW
      obtain ⟨g0, g1, g2, g3⟩ := four_at (Below.refl W1.heap.size W1) hz1
      obtain ⟨h0, h1, h2, h3⟩ := four_at (Below.refl W1.heap.size W1) hz2
      have HB1 := Lib.hid hb1
      have hsame := sameFn_any _ _ fa fb W1 ⟨_, _, _, _, rfl, HF1.out.ext hb1⟩ ⟨_, _, _, _, rfl, HF2.out.ext hb1⟩
      obtain ⟨D, hD⟩ : ∃ D, decide (fa = fb) = D := ⟨_, rfl⟩
      rw [hD] at hsame
      have HS := Lib.hid hsame
      have HD := Lib.hid hD
      clear hb1 hs1 hz1 hz2 hsame hD hp0 hp1 hp2 hp3 hq0 hq1 hq2 hq3
      cases D
      case true =>
        have hy : fa = fb := by simpa using HD.out
        have HX := Lib.hid (HT.out hy)
        clear hy
        go_wp2_with (go_at_call 107; (with_reducible refine HS.out.mono ?_); go_must (rintro e w2 ⟨rfl, hb⟩))
        go_roundw
        case rel => exact ⟨k + 1, by omega, by go_num, HBE.out.trans ((HB1.out.trans (hb.mono HB1.out.size)).mono HBE.out.size), HX.out⟩
        case measure => simp [intOf]; omega
      case false =>
        have hy : fa ≠ fb := by simpa using HD.out
        have HX := Lib.hid (HF.out hy)
        clear hy
        go_wp2_with (go_at_call 107; (with_reducible refine HS.out.mono ?_); go_must (rintro e w2 ⟨rfl, hb⟩))
        go_ret
        rw [← HX.out]
        exact ⟨rfl, HBE.out.trans ((HB1.out.trans (hb.mono HB1.out.size)).mono HBE.out.size)⟩
    · have e : k = a.length := by omega
      subst e
      have HX := Lib.hid (HY.out HLL.out HALL.out)
      go_wp2
      go_ret
      rw [← HX.out]
      exact ⟨rfl, hbe⟩
set_option maxRecDepth 100000 in
set_option maxHeartbeats 1000000 in
theorem codeSame_any (va vb : Value) (a b : Scr) (w : World) (ha : ScrVal w va a) (hb : ScrVal w vb b) :
    Calls Try.prog 43 #[va, vb] w fun e w' => e = .returned (.bool (decide (a = b))) ∧ Below w.heap.size w w' := by
  obtain ⟨s1, f1, rfl, hs1, hf1⟩ := ha
  obtain ⟨s2, f2, rfl, hs2, hf2⟩ := hb
  have HS1 := Lib.hid hs1
  have HF1 := Lib.hid hf1
  have HS2 := Lib.hid hs2
  have HF2 := Lib.hid hf2
  clear hs1 hf1 hs2 hf2
  rw [dec_scr]
  obtain ⟨R0, e0⟩ : ∃ R, decide (a.consts = b.consts) = R := ⟨_, rfl⟩
  obtain ⟨R1, e1⟩ : ∃ R, decide (a.funcs = b.funcs) = R := ⟨_, rfl⟩
  rw [e0, e1]
  have E0 := Lib.hid e0
  have E1 := Lib.hid e1
  clear e0 e1
  go_enter Try.func43, Try.ntmps43
  go_upto_region 1 with (fail)
  generalize hW : (w.alloc (.cells #[s1, f1] 45)).alloc (.cells #[s2, f2] 45) = W1
  obtain ⟨hb1, _, hq1, hq2⟩ := two_boxes hW
  clear hW
  have HB1 := Lib.hid hb1
  have HQ := Lib.hid (fun w' (hb : Below W1.heap.size W1 w') => And.intro (two_at hb hq1) (two_at hb hq2))
  clear hb1 hq1 hq2
  have HA := Lib.hid (Below.refl W1.heap.size W1)
  obtain ⟨⟨g0, g1⟩, k0, k1⟩ := HQ.out W1 HA.out
  cases R0 <;> cases R1 <;>
  (go_wp2_with (first
    | (go_at_call 105; (with_reducible refine (eqStrs_any _ _ a.consts b.consts _ (HS1.out.ext (HB1.out.trans (HA.out.mono HB1.out.size))) (HS2.out.ext (HB1.out.trans (HA.out.mono HB1.out.size)))).mono ?_); go_must (rintro e w2 ⟨rfl, hb⟩; rw [E0.out]; have HA := Lib.hid (HA.out.trans (hb.mono HA.out.size)); clear hb; obtain ⟨⟨g0, g1⟩, k0, k1⟩ := HQ.out _ HA.out))
    | (go_at_call 106; (with_reducible refine (eqFns_any _ _ a.funcs b.funcs _ (HF1.out.ext (HB1.out.trans (HA.out.mono HB1.out.size))) (HF2.out.ext (HB1.out.trans (HA.out.mono HB1.out.size)))).mono ?_); go_must (rintro e w2 ⟨rfl, hb⟩; rw [E1.out]; have HA := Lib.hid (HA.out.trans (hb.mono HA.out.size)); clear hb; obtain ⟨⟨g0, g1⟩, k0, k1⟩ := HQ.out _ HA.out)))
   go_ret
   exact ⟨rfl, HB1.out.trans (HA.out.mono HB1.out.size)⟩)
end Go.Proofs.Ytchmgilckiadaaa
