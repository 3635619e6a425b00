/- BoundCallees: the walk itself. -/
import Derived.Test.YtchmgilckiadaaaTogw
import Derived.Test.YtchmgilckiadaaaLaws
namespace Go.Proofs.Ytchmgilckiadaaa
open Go.RowKit
theorem ints_any {w : World} {B : Nat} {v : Value} {l : List Int} (h : w.ownsRow B 3 1 v l.length (intVals l)) (hlen : l.length * 8 ≤ 281474976710656) (hi : ∀ x ∈ l, I64 x) : Ints w v l := by
  rcases h.2 with ⟨hv, h0⟩ | ⟨q, cap, cur, hv, _, hh, _, _, _, htake⟩
  · subst hv
    rw [List.length_eq_zero_iff.1 h0]
    exact ⟨⟨none, 0, rfl, fun h => by simp at h⟩, by simp, by simp⟩
  · subst hv
    refine ⟨⟨_, _, rfl, fun _ => ⟨_, _, rfl, fun j hj => ?_⟩⟩, by omega, hi⟩
    have hj' : j < l.length := by omega
    rw [Nat.zero_add, h.cellAt j (by omega)]
    simp [intVals, hj']
theorem insCells_set : ∀ (c : List Ins) (k : Nat) (x : Int), (insCells c).set (k * 2 + 1) (.int .i64 x) = insCells (c.set k ((c.getD k (0, 0)).1, x))
  | [], _, _ => rfl
  | y :: c, 0, x => by simp [insCells]
  | y :: c, k + 1, x => by
    have h := insCells_set c k x
    simp only [insCells] at h
    rw [show (k + 1) * 2 + 1 = (k * 2 + 1) + 1 + 1 by omega]
    simp only [insCells, List.flatMap_cons, List.cons_append, List.nil_append, List.set_cons_succ, List.getD_cons_succ]
    rw [h]
/-- A row of instructions, where one's number is set. -/
theorem row_bump {w : World} {q cap k : Nat} {c : List Ins} {cs : Array Value} (h : w.heap[q]? = some (.cells cs 35 (0, 0))) (hcs : cs.toList.take (c.length * 2) = insCells c) (hl : c.length * 16 ≤ 281474976710656) (hi : ∀ x ∈ c, I64 x.1 ∧ I64 x.2) (x : Int) (hx : I64 x) :
    Code_ (w.setCell ⟨q, k * 2 + 1, none⟩ (.int .i64 x)) (.slice (some ⟨q, 0, none⟩) c.length cap) (c.set k ((c.getD k (0, 0)).1, x)) := by
  have h1 : (w.setCell ⟨q, k * 2 + 1, none⟩ (.int .i64 x)).heap[q]? = some (.cells (cs.setIfInBounds (k * 2 + 1) (.int .i64 x)) 35 (0, 0)) := by
    rw [heap_setCell_same w q (k * 2 + 1) _ _ _ h]
  have h2 := code_block (cap := cap) (c := c.set k ((c.getD k (0, 0)).1, x)) h1 (by
    rw [List.length_set, Array.toList_setIfInBounds, List.take_set, hcs, insCells_set]) (by simpa using hl) (fun y hy => by
    rcases List.mem_or_eq_of_mem_set hy with h | h
    · exact hi y h
    · subst h
      exact ⟨(code_i64 hi k).1, hx⟩)
  rw [List.length_set] at h2
  exact h2
theorem bump_no {x : Ins} (h : ¬(x.1 = 51 ∧ x.2 ≤ 64)) : bump x = x := by unfold bump; rw [if_neg h]
theorem set_same (c : List Ins) (k : Nat) : c.set k (c.getD k (0, 0)) = c := by
  apply List.ext_getElem
  · simp
  · intro n h1 h2
    simp only [List.getElem_set]
    split
    · rename_i e
      subst e
      simp [h2]
    · rfl
set_option maxRecDepth 100000 in
set_option maxHeartbeats 4000000 in
theorem callees_any (vc vk : Value) (c : List Ins) (ks : List Int) (n m : Int) (w : World) (hc : Code_ w vc c) (hk : Ints w vk ks) (hn : I64 n) (hm : I64 m) (hlen : c.length ≤ 8796093022208) :
    Calls Try.prog 7 #[vc, vk, .int .i64 n, .int .i64 m] w fun e w' => e = .returned (.bool true) ∧ Below w.heap.size w w' := by
  obtain ⟨Ac, cc, rfl, _⟩ := hc.open_
  obtain ⟨Ak, ck, rfl, _⟩ := hk.open_
  have hcl := hc.len
  have HC := Lib.hid hc
  have HK := Lib.hid hk
  obtain ⟨hn0, hn1⟩ := hn
  obtain ⟨hm0, hm1⟩ := hm
  clear hc hk
  go_enter Try.func7, Try.ntmps7
  go_upto_region 2 with (first
    | (go_at_call 31; (with_reducible refine (calm_any _ ks _ HK.out).mono ?_); go_must (rintro e w1 ⟨⟨vl, rfl, hl⟩, hb1⟩; have HL := Lib.hid (calm_ints hl); have HB := Lib.hid hb1; clear hl hb1)))
  go_upto_region 3 with (first
    | (go_at_call 26; (with_reducible refine (own_any _ c _ (HC.out.ext HB.out) hlen).mono ?_); go_must (rintro e w2 ⟨⟨vo, rfl, ho⟩, hb2⟩; have HO := Lib.hid (own_code ho hcl HC.out.i64); have HB2 := Lib.hid hb2; clear ho hb2))
    | (go_at_call 27; (with_reducible refine (part_any _ vl c (calmF ks) _ HO.out (HL.out.ext HB2.out) hlen).mono ?_); go_must (rintro e w3 ⟨rfl, hb3⟩; have HB3 := Lib.hid (HB2.out.trans (hb3.mono HB2.out.size)); clear hb3)))
  have hn1' := part_num (calmF ks) c
  have hto := fun (N : Int) (k : Nat) h0 h1 => callees_out (ks := calmF ks) (c := c) (a := (partOut (calmF ks) c).1) (m := N) k (calm_nn ks) h0 h1
  generalize hp1 : partOut (calmF ks) c = p1 at *
  obtain ⟨a, e⟩ := p1
  simp only at hn1' hto
  obtain ⟨e0, e1, a0, a1⟩ := hn1'
  have HTO := Lib.hid hto
  clear hto hp1
  have HB13 := Lib.hid (HB.out.trans (HB3.out.mono HB.out.size))
  have HL3 := Lib.hid (HL.out.ext HB3.out)
  by_cases hz : e = 0
  · subst hz
    by_cases hle : (c.length : Int) ≤ 200
    · by_cases hpos : c.length = 0
      · have hpos' : (c.length : Int) = 0 := by omega
        go_wp2_with (first
          | (go_at_call 29; (with_reducible refine (num_any _ _).mono ?_); rintro e w6 ⟨rfl, rfl⟩)
          | (go_at_call 25; (with_reducible refine (knows_any _).mono ?_); go_must (rintro e w7 ⟨rfl, hb7⟩)))
        go_ret
        exact ⟨rfl, HB13.out.trans (hb7.mono HB13.out.size)⟩
      · -- part main
        have hpos' : ¬ (c.length : Int) = 0 := by omega
        have hd0 : ((c.length : Int) == 0) = false := by simpa using hpos
        have hd2 : decide (200 < (c.length : Int)) = false := by simpa using hle
        have ht0 : -1000 < n.tmod 1000 := Int.lt_tmod_of_pos n (show (0 : Int) < 1000 by omega)
        have ht1 : n.tmod 1000 < 1000 := Int.tmod_lt_of_pos n (show (0 : Int) < 1000 by omega)
        generalize htm : n.tmod 1000 = z at *
        go_upto_region 6 with (first
          | (go_at_call 29; (with_reducible refine (num_any _ _).mono ?_); rintro e w6 ⟨rfl, rfl⟩))
        obtain ⟨N, hN⟩ : ∃ N, (z + 1000) % 1000 = N := ⟨_, rfl⟩
        rw [hN]
        have hN0 : 0 ≤ N := by omega
        have hN1 : N < 1000 := by omega
        clear hN ht0 ht1 htm hn0 hn1
        obtain ⟨L, hL⟩ : ∃ L, calmF ks = L := ⟨_, rfl⟩
        have hLb : ∀ x ∈ L, 0 ≤ x ∧ x < 5000 := fun x hx => by
          rw [← hL] at hx
          obtain ⟨y, _, rfl⟩ := List.mem_map.1 hx
          exact calm1_bd y
        have hLl : L.length ≤ 20 := by rw [← hL]; simp [calmF]; omega
        rw [hL] at HL3 HTO
        clear HL hL
        obtain ⟨A3, c3, rfl, hr3⟩ := HL3.out.open_
        have HR3 := Lib.hid hr3
        have HLB := Lib.hid hLb
        clear hr3 hLb
        obtain ⟨B, hBs⟩ : ∃ B, w3.heap.size = B := ⟨_, rfl⟩
        go_wp2
        go_loopw [12, 13] (fun o i wr => ∃ j : Nat, j ≤ L.length ∧ i = .int .i64 j ∧ wr.ownsRow B 3 1 o j (intVals ((L.take j).map (· + N))) ∧ Below B w3 wr) (fun _ i _ => L.length - (intOf i).toNat)
        case atStart => exact ⟨0, Nat.zero_le _, rfl, World.ownsRow_nil _ _ _ _, Below.refl _ _⟩
        case round =>
          obtain ⟨j, hj, rfl, hown, hb⟩ := hrel
          by_cases hlt : j < L.length
          · -- part rnd
            obtain ⟨b, off, rfl, hc1⟩ := HR3.out j hlt
            have hd1 := ((hBs ▸ hb : Below w3.heap.size w3 wr).cell (World.block_lt_of_cell? w3 _ hc1)).trans hc1
            have hx := HLB.out _ (getD_in (d := (0 : Int)) hlt)
            have hts := take_snoc L j 0 hlt
            generalize hy : L.getD j 0 = y at *
            obtain ⟨hx0, hx1⟩ := hx
            have HTS := Lib.hid hts
            have HOJ := Lib.hid hown
            have HBJ := Lib.hid hb
            have hsz : B ≤ wr.heap.size := by have := hb.size; omega
            have hj0 : (0 : Int) ≤ j := by omega
            have hj1 : (j : Int) < (L.length : Int) := by omega
            clear hts hown hb hy
            go_wp2_with (at_builtin; refine wp_append_lit B rfl (.tmp 52) (.tmp 59) 23 3 (.int .i64 0) 1 8 rfl Try.underlying23 info_int rfl (by decide) _ j 1 (intVals ((L.take j).map (· + N))) #[.int .i64 (y + N)] wr.heap.size rfl rfl rfl rfl (by simp [Value.oneCell']) HOJ.out hsz (by unfold maxLen; omega) (by omega) ?_; intro v1 w1 hown hg hat hnil; clear hat hnil; have HG := Lib.hid hg; have HOW := Lib.hid hown; clear hg hown)
            go_roundw
            case rel =>
              refine ⟨j + 1, by omega, by go_num, ?_, ?_⟩
              · have h := HOW.out
                rw [HTS.out, List.map_append]
                have e : intVals (List.map (· + N) (List.take j L) ++ List.map (· + N) [y]) = intVals (List.map (· + N) (List.take j L)) ++ [.int .i64 (y + N)] := by simp [intVals]
                rw [e]
                exact h
              · have hg := HG.out
                exact HBJ.out.trans ⟨hg.os, hg.tape, hg.output, hg.size, fun q hq => hg.block q (by omega) (fun hh => by have := (HOJ.out.lt q hh.symm).1; omega)⟩
            case measure => simp [intOf]; omega
            -- end rnd
          · have e : j = L.length := by omega
            subst e
            rw [List.take_of_length_le (Nat.le_refl _)] at hown
            obtain ⟨AG, cg, rfl⟩ := row_slice hown
            have hgi := ints_any (v := .slice AG L.length cg) (l := L.map (· + N)) (by rw [List.length_map]; exact hown) (by simp; omega) (fun x hx => by
              obtain ⟨y, hy, rfl⟩ := List.mem_map.1 hx
              have := HLB.out y hy
              exact ⟨by omega, by omega⟩)
            have hb3 : Below w3.heap.size w3 wr := hBs ▸ hb
            have HBW := Lib.hid (HB13.out.trans (hb3.mono HB13.out.size))
            have HGI := Lib.hid hgi
            clear hown hgi hb hb3 HR3 hle hpos' hd0 hd2 HL3
            obtain ⟨y, hy⟩ : ∃ y, m.tmod (c.length : Int) = y := ⟨_, rfl⟩
            have hy0 : -(c.length : Int) < y := by rw [← hy]; exact Int.lt_tmod_of_pos m (show (0 : Int) < c.length by omega)
            have hy1 : y < c.length := by rw [← hy]; exact Int.tmod_lt_of_pos m (show (0 : Int) < c.length by omega)
            have hyt : (y + c.length).tmod c.length = (y + c.length) % c.length := Int.tmod_eq_emod_of_nonneg (by omega)
            obtain ⟨K, hKl, hK⟩ : ∃ K : Nat, K < c.length ∧ (y + (c.length : Int)) % c.length = (K : Int) := by
              have h3 := Int.emod_nonneg (y + (c.length : Int)) (show (c.length : Int) ≠ 0 by omega)
              have h4 := Int.emod_lt_of_pos (y + (c.length : Int)) (show (0 : Int) < c.length by omega)
              exact ⟨((y + (c.length : Int)) % c.length).toNat, by omega, by omega⟩
            have hto := HTO.out N K hN0 trivial
            obtain ⟨b, g, hpb, hpg, hab, hbg⟩ := hto
            have hgn := part_num (L.map (· + N)) (c.set K (bump (c.getD K (0, 0))))
            rw [hpg] at hgn
            simp only at hgn
            have HPG := Lib.hid hpg
            clear hpg HTO
            go_upto_region 12 with (first
              | (go_at_call 26; (with_reducible refine (own_any _ c _ (HC.out.ext HBW.out) hlen).mono ?_); go_must (rintro e w5 ⟨⟨vp, rfl, ho⟩, hb5⟩; have HP := Lib.hid (own_code ho hcl HC.out.i64); have HB5 := Lib.hid hb5; clear ho hb5))
              | (go_at_call 27; (with_reducible refine (part_any _ _ c (L.map (· + N)) _ HP.out (HGI.out.ext HB5.out) hlen).mono ?_); go_must (rintro e w6 ⟨rfl, hb6⟩; rw [hpb]; have HB6 := Lib.hid (HB5.out.trans (hb6.mono HB5.out.size)); clear hb6)))
            have HBX := Lib.hid (HBW.out.trans (HB6.out.mono HBW.out.size))
            have HGI6 := Lib.hid (HGI.out.ext HB6.out)
            go_upto_region 13 with (first
              | (go_at_call 26; (with_reducible refine (own_any _ c _ (HC.out.ext HBX.out) hlen).mono ?_); go_must (rintro e w7 ⟨⟨vd, rfl, ho⟩, hb7⟩; have HD := Lib.hid ho; have HB7 := Lib.hid hb7; clear ho hb7)))
            go_upto_region 14 with (fail)
            rcases HD.out.2 with ⟨_, h0⟩ | ⟨q, cap, cur, rfl, hqB, hh, _, _, _, htake⟩
            · exact absurd h0 hpos
            have hin1 := insCells_at c (K * 2) (by omega)
            have hin2 := insCells_at c (K * 2 + 1) (by omega)
            rw [if_pos (by omega), show K * 2 / 2 = K by omega] at hin1
            rw [if_neg (by omega), show (K * 2 + 1) / 2 = K by omega] at hin2
            have hd1 : w7.cell? ⟨q, K * 2, none⟩ = some (.int .i64 (c.getD K (0, 0)).1) := by rw [HD.out.cellAt (K * 2) (by omega), hin1]
            have hd2 : w7.cell? ⟨q, K * 2 + 1, none⟩ = some (.int .i64 (c.getD K (0, 0)).2) := by rw [HD.out.cellAt (K * 2 + 1) (by omega), hin2]
            have hdf : w7.frozen? ⟨q, K * 2 + 1, none⟩ = false := frozen_of_row w7 _ _ _ _ hh
            obtain ⟨hA0, hA1⟩ := (code_i64 HC.out.i64 K).2
            have hbump := row_bump (cap := cap) (k := K) hh htake hcl HC.out.i64 ((c.getD K (0, 0)).2 + 1)
            have hB7 : Below w6.heap.size w6 w7 := HB7.out
            have hs7 := hB7.size
            have hsame : Code_ w7 (.slice (some ⟨q, 0, none⟩) c.length cap) c := own_code HD.out hcl HC.out.i64
            have hKi : (K : Int) < (c.length : Int) := by omega
            have hK0 : (0 : Int) ≤ K := by omega
            have HHS := Lib.hid hsame
            have hset := set_same c K
            have hbno := fun h => bump_no (x := c.getD K (0, 0)) h
            have hbyes : (c.getD K (0, 0)).1 = 51 ∧ (c.getD K (0, 0)).2 ≤ 64 → bump (c.getD K (0, 0)) = ((c.getD K (0, 0)).1, (c.getD K (0, 0)).2 + 1) := fun h => by unfold bump; rw [if_pos h]
            have HPB := Lib.hid hpb
            clear hh htake hin1 hin2 hsame HD hK hyt hy0 hy1 hy hpb
            have hfin : ∀ (w8 w9 : World) (hb8 : Below w6.heap.size w6 w8) (hb9 : Below w8.heap.size w8 w9), Below w.heap.size w w9 := fun w8 w9 hb8 hb9 => HBX.out.trans ((hb8.trans (hb9.mono hb8.size)).mono HBX.out.size)
            have HFIN := Lib.hid hfin
            clear hfin
            by_cases hcond : (c.getD K (0, 0)).1 = 51 ∧ (c.getD K (0, 0)).2 ≤ 64
            · rw [hbyes hcond] at HPG
              have hcode := hbump ⟨by omega, by omega⟩
              have hb8 : Below w6.heap.size w6 (w7.setCell ⟨q, K * 2 + 1, none⟩ (.int .i64 ((c.getD K (0, 0)).2 + 1))) := hB7.setCell hqB _
              obtain ⟨ho, hA⟩ := hcond
              rw [ho] at hd1 hcode HPG
              generalize (c.getD K (0, 0)).2 = x at *
              have hdl : (c.set K (51, x + 1)).length = c.length := List.length_set
              generalize c.set K (51, x + 1) = d at *
              obtain ⟨w8, hw8⟩ : ∃ w8, w8 = w7.setCell ⟨q, K * 2 + 1, none⟩ (.int .i64 (x + 1)) := ⟨_, rfl⟩
              have HC8 := Lib.hid hcode
              have HB8 := Lib.hid hb8
              have HW8 := Lib.hid hw8
              clear hcode hb8 hbump hbno hbyes hset hw8
              go_upto_region 16 with (fail)
              rw [← HW8.out]
              rw [← HW8.out] at HC8 HB8
              go_wp2_with (first
                | (go_at_call 27; (with_reducible refine (part_any _ _ d (L.map (· + N)) _ HC8.out (HGI6.out.ext HB8.out) (by omega)).mono ?_); go_must (rintro e w9 ⟨rfl, hb9⟩; rw [HPG.out]))
                | (go_at_call 29; (with_reducible refine (num_any _ _).mono ?_); rintro e w10 ⟨rfl, rfl⟩)
                | (go_at_call 25; (with_reducible refine (knows_any _).mono ?_); go_must (rintro e w13 ⟨rfl, hb13⟩)))
              go_ret
              exact ⟨rfl, HFIN.out w8 _ HB8.out (hb9.trans (hb13.mono hb9.size))⟩
            · rw [hbno hcond, hset] at HPG
              clear hbump hbno hbyes hset
              generalize (c.getD K (0, 0)).2 = x at *
              generalize (c.getD K (0, 0)).1 = o at *
              by_cases ho : o = 51
              · have hA : ¬ x ≤ 64 := fun h => hcond ⟨ho, h⟩
                subst ho
                clear hcond
                go_wp2_with (first
                  | (go_at_call 27; (with_reducible refine (part_any _ _ c (L.map (· + N)) _ HHS.out (HGI6.out.ext hB7) hlen).mono ?_); go_must (rintro e w9 ⟨rfl, hb9⟩; rw [HPG.out]))
                  | (go_at_call 29; (with_reducible refine (num_any _ _).mono ?_); rintro e w10 ⟨rfl, rfl⟩)
                  | (go_at_call 25; (with_reducible refine (knows_any _).mono ?_); go_must (rintro e w13 ⟨rfl, hb13⟩)))
                go_ret
                exact ⟨rfl, HFIN.out w7 _ hB7 (hb9.trans (hb13.mono hb9.size))⟩
              · clear hcond
                go_wp2_with (first
                  | (go_at_call 27; (with_reducible refine (part_any _ _ c (L.map (· + N)) _ HHS.out (HGI6.out.ext hB7) hlen).mono ?_); go_must (rintro e w9 ⟨rfl, hb9⟩; rw [HPG.out]))
                  | (go_at_call 29; (with_reducible refine (num_any _ _).mono ?_); rintro e w10 ⟨rfl, rfl⟩)
                  | (go_at_call 25; (with_reducible refine (knows_any _).mono ?_); go_must (rintro e w13 ⟨rfl, hb13⟩)))
                go_ret
                exact ⟨rfl, HFIN.out w7 _ hB7 (hb9.trans (hb13.mono hb9.size))⟩
        -- end main
    · go_wp2_with (first
        | (go_at_call 29; (with_reducible refine (num_any _ _).mono ?_); rintro e w6 ⟨rfl, rfl⟩)
        | (go_at_call 25; (with_reducible refine (knows_any _).mono ?_); go_must (rintro e w7 ⟨rfl, hb7⟩)))
      go_ret
      exact ⟨rfl, HB13.out.trans (hb7.mono HB13.out.size)⟩
  · go_wp2_with (first
      | (go_at_call 29; (with_reducible refine (num_any _ _).mono ?_); rintro e w6 ⟨rfl, rfl⟩)
      | (go_at_call 25; (with_reducible refine (knows_any _).mono ?_); go_must (rintro e w7 ⟨rfl, hb7⟩)))
    go_ret
    exact ⟨rfl, HB13.out.trans (hb7.mono HB13.out.size)⟩
end Go.Proofs.Ytchmgilckiadaaa
