/- BoundMore: the walk itself. -/
import Derived.Test.YtchmgilckiadaaaMorel
import Derived.Deep.RegionLaw
import Derived.Deep.CutRange
namespace Go.Proofs.Ytchmgilckiadaaa
open Go.RowKit
theorem deepF_bd (c : List Ins) : ∀ k, k ≤ c.length → -(k : Int) ≤ deepF (c.take k) ∧ deepF (c.take k) ≤ k
  | 0, _ => by simp [deepF]
  | k + 1, h => by
    have ih := deepF_bd c k (by omega)
    rw [take_snoc c k (0, 0) (by omega), deepF_snoc]
    split
    · omega
    · split <;> omega
theorem ins_none {w : World} (A : Option Addr) : CellsAt w (.slice A 0 0) 0 2 (insAt []) := ⟨A, 0, rfl, fun h => absurd h (by omega)⟩
set_option maxRecDepth 100000 in
set_option maxHeartbeats 4000000 in
theorem more_any (Ac : Option Addr) (cc : Nat) (vk : Value) (c : List Ins) (ks : List Int) (x : Ins) (n : Int) (w : World) (hc : Code_ w (.slice Ac c.length cc) c) (hcc : c.length ≤ cc) (hA : cc = 0 ∨ ∃ b off, Ac = some ⟨b, off, none⟩) (hk : Ints w vk ks) (hx : I64 x.1 ∧ I64 x.2) (hn : I64 n) (hlen : c.length ≤ 8796093022208) :
    Calls Try.prog 4 #[.slice Ac c.length cc, vk, .agg #[.int .i64 x.1, .int .i64 x.2], .int .i64 n] w fun e w' => e = .returned (.bool true) ∧ Below w.heap.size w w' := by
  obtain ⟨Ak, ck, rfl, _⟩ := hk.open_
  have hcl := hc.len
  obtain ⟨xo, xa⟩ := x
  simp only at hx ⊢
  obtain ⟨⟨hx0, hx1⟩, hx2, hx3⟩ := hx
  obtain ⟨hn0, hn1⟩ := hn
  obtain ⟨W0, hW0⟩ : ∃ W0, W0 = w.alloc (.cells #[.int .i64 xo, .int .i64 xa] 35) := ⟨_, rfl⟩
  have hb0 : Below w.heap.size w W0 := by rw [hW0]; exact below_new w _
  have hxx : XAt W0 w.heap.size xo xa := by rw [hW0]; exact XAt.new w xo xa
  have hs0 : w.heap.size < W0.heap.size := by rw [hW0]; simp
  have HW0 := Lib.hid hW0
  have HB0 := Lib.hid hb0
  have HXX := Lib.hid hxx
  have HC := Lib.hid (hc.ext hb0)
  have HK := Lib.hid (hk.ext hb0)
  have HI := Lib.hid hc.i64
  clear hc hk hW0 hb0 hxx
  go_enter Try.func4, Try.ntmps4
  go_upto_region 1 with (fail)
  rw [← HW0.out]
  go_upto_region 2 with (first
    | (go_at_call 31; (with_reducible refine (calm_any _ ks _ HK.out).mono ?_); go_must (rintro e w1 ⟨⟨vl, rfl, hl⟩, hb1⟩; have HL := Lib.hid (calm_ints hl); have HB := Lib.hid hb1; clear hl hb1)))
  go_upto_region 3 with (first
    | (go_at_call 26; (with_reducible refine (own_any _ c _ (HC.out.ext HB.out) hlen).mono ?_); go_must (rintro e w2 ⟨⟨vo, rfl, ho⟩, hb2⟩; have HO := Lib.hid (own_code ho hcl HI.out); have HB2 := Lib.hid hb2; clear ho hb2))
    | (go_at_call 27; (with_reducible refine (part_any _ vl c (calmF ks) _ HO.out (HL.out.ext HB2.out) hlen).mono ?_); go_must (rintro e w3 ⟨rfl, hb3⟩; have HB3 := Lib.hid (HB.out.trans ((HB2.out.trans (hb3.mono HB2.out.size)).mono HB.out.size)); have HL3 := Lib.hid ((HL.out.ext HB2.out).ext hb3); clear hb3)))
  have hn1' := part_num (calmF ks) c
  have hto := fun (k : Nat) hs h1 => more_out (ks := calmF ks) (c := c) (n := (partOut (calmF ks) c).1) (x := (xo, xa)) k (calm_nn ks) hs h1
  generalize hp1 : partOut (calmF ks) c = p1 at *
  obtain ⟨a, e⟩ := p1
  simp only at hn1' hto
  obtain ⟨e0, e1, a0, a1⟩ := hn1'
  have HTO := Lib.hid hto
  clear hto hp1
  have hX3 := HXX.out.ext HB3.out
  obtain ⟨hxc0, hxc1⟩ := hX3
  have HBW := Lib.hid (HB0.out.trans (HB3.out.mono HB0.out.size))
  have hfin : ∀ w9, Below w3.heap.size w3 w9 → Below w.heap.size w w9 := fun w9 h => HBW.out.trans (h.mono HBW.out.size)
  have HFIN := Lib.hid hfin
  clear hfin
  by_cases hz : e = 0
  · subst hz
    by_cases hle : (c.length : Int) ≤ 200
    · have hd2 : decide (200 < (c.length : Int)) = false := by simpa using hle
      by_cases hin : 48 ≤ xo ∧ xo ≤ 52
      · obtain ⟨hi1, hi2⟩ := hin
        go_wp2_with (first
          | (go_at_call 29; (with_reducible refine (num_any _ _).mono ?_); rintro e w6 ⟨rfl, rfl⟩)
          | (go_at_call 25; (with_reducible refine (knows_any _).mono ?_); go_must (rintro e w7 ⟨rfl, hb7⟩)))
        go_ret
        exact ⟨rfl, HFIN.out _ hb7⟩
      · by_cases h53 : xo = 53
        · subst h53
          go_wp2_with (first
            | (go_at_call 29; (with_reducible refine (num_any _ _).mono ?_); rintro e w6 ⟨rfl, rfl⟩)
            | (go_at_call 25; (with_reducible refine (knows_any _).mono ?_); go_must (rintro e w7 ⟨rfl, hb7⟩)))
          go_ret
          exact ⟨rfl, HFIN.out _ hb7⟩
        · -- part main
          have e53 : (xo == 53) = false := by simpa using h53
          go_cut [49] from 27 to 50 (fun g wx => g = .bool false ∧ wx = w3)
          case first =>
            by_cases h48 : 48 ≤ xo
            · have h52 : ¬ xo ≤ 52 := fun h => hin ⟨h48, h⟩
              go_wp2_with (first
                | (go_at_call 29; (with_reducible refine (num_any _ _).mono ?_); rintro e w6 ⟨rfl, rfl⟩))
              go_meet
              case rel => exact ⟨by have e52 : decide (xo ≤ 52) = false := by { simpa using h52 }; rw [e52], rfl⟩
            · go_wp2_with (first
                | (go_at_call 29; (with_reducible refine (num_any _ _).mono ?_); rintro e w6 ⟨rfl, rfl⟩))
              go_meet
              case rel => exact ⟨rfl, rfl⟩
          case rest =>
            obtain ⟨rfl, rfl⟩ := hcut
            obtain ⟨y, hy⟩ : ∃ y, n.tmod ((c.length : Int) + 1) = y := ⟨_, rfl⟩
            have hy0 : -((c.length : Int) + 1) < y := by rw [← hy]; exact Int.lt_tmod_of_pos n (show (0 : Int) < c.length + 1 by omega)
            have hy1 : y < (c.length : Int) + 1 := by rw [← hy]; exact Int.tmod_lt_of_pos n (show (0 : Int) < c.length + 1 by omega)
            have hyt : (y + c.length + 1).tmod ((c.length : Int) + 1) = (y + c.length + 1) % ((c.length : Int) + 1) := Int.tmod_eq_emod_of_nonneg (by omega)
            obtain ⟨K, hKl, hK⟩ : ∃ K : Nat, K ≤ c.length ∧ (y + (c.length : Int) + 1) % ((c.length : Int) + 1) = (K : Int) := by
              have h3 := Int.emod_nonneg (y + (c.length : Int) + 1) (show (c.length : Int) + 1 ≠ 0 by omega)
              have h4 := Int.emod_lt_of_pos (y + (c.length : Int) + 1) (show (0 : Int) < c.length + 1 by omega)
              exact ⟨((y + (c.length : Int) + 1) % ((c.length : Int) + 1)).toNat, by omega, by omega⟩
            go_upto_region 6 with (fail)
            obtain ⟨m, hm, hnm, hdeep⟩ := HTO.out K (fun h => hin ⟨h.1, by have := h.2; omega⟩) rfl
            have hKi : (K : Int) ≤ (c.length : Int) := by omega
            have hKc : (K : Int) ≤ (cc : Int) := by omega
            have hK0 : (0 : Int) ≤ K := by omega
            go_cut [12] from 51 to 76 (fun v wx => Code_ wx v (c.take K ++ [(xo, xa)] ++ c.drop K) ∧ Below wc.heap.size wc wx)
            case first =>
              -- part app
              have hcode : Code_ wc (.slice Ac c.length cc) c := HC.out.ext HB3.out
              have hbE : Below wc.heap.size wc (wc.alloc (.cells #[] 35)) := below_new wc _
              by_cases hcz : cc = 0
              · have hc0 : c = [] := List.length_eq_zero_iff.1 (by omega)
                subst hc0
                subst hcz
                have hK00 : K = 0 := by simpa using hKl
                subst hK00
                have hxa0 := cell_alloc' (.cells #[] 35) hxc0
                have hxa1 := cell_alloc' (.cells #[] 35) hxc1
                have hnil0 : ((([] : List Ins).length : Nat) : Int) = 0 := rfl
                cases Ac with
                | none =>
                  go_region_law (first
                    | (refine step_append_any rfl (.tmp 64) (.tmp 67) 22 rfl (.slice (some ⟨wc.heap.size, 0, none⟩) 0 0) (.slice none 0 0) (by simp [Act.eval]) (by simp [Act.eval]) (append_made (d := ([] : List Ins)) (n := 0) (xs := []) (by first | exact (below_new wc _).drew | exact ((below_new wc _).alloc (by simp) _).drew) (empty_own (by first | exact World.alloc_heap_new wc _ | exact alloc2_fst wc _ _ _) (by omega)) (ins_none none) (by simp <;> omega) (by omega)) ?_; intro v4 w4 h4; have hq0 := (h4.below.cell (World.block_lt_of_cell? wc _ hxc0)).trans hxc0; have hq1 := (h4.below.cell (World.block_lt_of_cell? wc _ hxc1)).trans hxc1)
                    | (refine step_append_any rfl (.tmp 64) (.tmp 67) 22 rfl (.slice (some ⟨wc.heap.size + 1, 0, none⟩) 0 0) (.slice none 0 0) (by simp [Act.eval]) (by simp [Act.eval]) (append_made (d := ([] : List Ins)) (n := 0) (xs := []) (by exact ((below_new wc _).alloc (by simp) _).drew) (empty_own (by exact alloc2_snd wc _ _ _) (by omega)) (ins_none none) (by simp <;> omega) (by omega)) ?_; intro v4 w4 h4; have hq0 := (h4.below.cell (World.block_lt_of_cell? wc _ hxc0)).trans hxc0; have hq1 := (h4.below.cell (World.block_lt_of_cell? wc _ hxc1)).trans hxc1)
                    | (refine step_append_any rfl (.tmp 68) (.tmp 70) 22 rfl v4 (.slice (some ⟨w4.heap.size, 0, none⟩) 1 1) (by simp [Act.eval]) (by simp [Act.eval]) (append_made (d := [(xo, xa)]) (n := 0 + 0) (xs := [] ++ insCells (([] : List Ins))) (h4.below.trans ((below_new w4 _).mono h4.below.size)) (own_exts h4.own (below_new w4 _)) (ins_lit (x := (xo, xa)) (World.alloc_heap_new w4 _)) rfl (by omega)) ?_; intro v7 w7 h7)
                    | (refine step_append_any rfl (.tmp 68) (.tmp 70) 22 rfl v4 (.slice (some ⟨wc.heap.size + 1, 0, none⟩) 1 1) (by simp [Act.eval]) (by simp [Act.eval]) (append_made (d := [(xo, xa)]) (n := 0 + 0) (xs := [] ++ insCells (([] : List Ins))) h4.below h4.own (ins_lit (x := (xo, xa)) (h4.keep _ _ (alloc2_snd wc _ _ _) (by simp [Value.ownBlock]))) rfl (by omega)) ?_; intro v7 w7 h7)
                    | (refine step_append_any rfl (.tmp 68) (.tmp 70) 22 rfl v4 (.slice (some ⟨wc.heap.size, 0, none⟩) 1 1) (by simp [Act.eval]) (by simp [Act.eval]) (append_made (d := [(xo, xa)]) (n := 0 + 0) (xs := [] ++ insCells (([] : List Ins))) h4.below h4.own (ins_lit (x := (xo, xa)) (h4.keep _ _ (alloc2_fst wc _ _ _) (by simp [Value.ownBlock]))) rfl (by omega)) ?_; intro v7 w7 h7)
                    | (refine step_append_any rfl (.tmp 71) (.tmp 74) 22 rfl v7 (.slice none 0 0) (by simp [Act.eval]) (by simp [Act.eval]) (append_made (d := ([] : List Ins)) (n := 0 + 0 + 1) (xs := [] ++ insCells (([] : List Ins)) ++ insCells [(xo, xa)]) h7.below h7.own (ins_none none) (by simp) (by omega)) ?_; intro v11 w11 h11))
                  all_goals
                    have hm : ∀ w12, Below w11.heap.size w11 w12 → Code_ w12 v11 (([] : List Ins) ++ [(xo, xa)] ++ ([] : List Ins)) ∧ Below wc.heap.size wc w12 := fun w12 h12 => by
                      have h := own_exts h11.own h12
                      rw [List.nil_append, ← insCells_append, ← insCells_append] at h
                      refine ⟨code_own h (by simp) (fun z hz => ?_) (by simp), h11.below.trans (h12.mono h11.below.size)⟩
                      simp only [List.nil_append, List.append_nil, List.mem_singleton] at hz
                      subst hz
                      exact ⟨⟨hx0, hx1⟩, hx2, hx3⟩
                    have HM := Lib.hid hm
                    clear hm h4 h7 h11
                    go_wp2_with (fail)
                    go_meet
                    case rel => first | exact HM.out _ (Below.refl _ _) | exact HM.out _ (Below.refl _ _).drew
                | some aa =>
                  go_region_law (first
                    | (refine step_append_any rfl (.tmp 64) (.tmp 67) 22 rfl (.slice (some ⟨wc.heap.size, 0, none⟩) 0 0) (.slice (some aa) 0 0) (by simp [Act.eval]) (by simp [Act.eval]) (append_made (d := ([] : List Ins)) (n := 0) (xs := []) (by first | exact (below_new wc _).drew | exact ((below_new wc _).alloc (by simp) _).drew) (empty_own (by first | exact World.alloc_heap_new wc _ | exact alloc2_fst wc _ _ _) (by omega)) (ins_none (some aa)) (by simp <;> omega) (by omega)) ?_; intro v4 w4 h4; have hq0 := (h4.below.cell (World.block_lt_of_cell? wc _ hxc0)).trans hxc0; have hq1 := (h4.below.cell (World.block_lt_of_cell? wc _ hxc1)).trans hxc1)
                    | (refine step_append_any rfl (.tmp 64) (.tmp 67) 22 rfl (.slice (some ⟨wc.heap.size + 1, 0, none⟩) 0 0) (.slice (some aa) 0 0) (by simp [Act.eval]) (by simp [Act.eval]) (append_made (d := ([] : List Ins)) (n := 0) (xs := []) (by exact ((below_new wc _).alloc (by simp) _).drew) (empty_own (by exact alloc2_snd wc _ _ _) (by omega)) (ins_none (some aa)) (by simp <;> omega) (by omega)) ?_; intro v4 w4 h4; have hq0 := (h4.below.cell (World.block_lt_of_cell? wc _ hxc0)).trans hxc0; have hq1 := (h4.below.cell (World.block_lt_of_cell? wc _ hxc1)).trans hxc1)
                    | (refine step_append_any rfl (.tmp 68) (.tmp 70) 22 rfl v4 (.slice (some ⟨w4.heap.size, 0, none⟩) 1 1) (by simp [Act.eval]) (by simp [Act.eval]) (append_made (d := [(xo, xa)]) (n := 0 + 0) (xs := [] ++ insCells (([] : List Ins))) (h4.below.trans ((below_new w4 _).mono h4.below.size)) (own_exts h4.own (below_new w4 _)) (ins_lit (x := (xo, xa)) (World.alloc_heap_new w4 _)) rfl (by omega)) ?_; intro v7 w7 h7)
                    | (refine step_append_any rfl (.tmp 68) (.tmp 70) 22 rfl v4 (.slice (some ⟨wc.heap.size + 1, 0, none⟩) 1 1) (by simp [Act.eval]) (by simp [Act.eval]) (append_made (d := [(xo, xa)]) (n := 0 + 0) (xs := [] ++ insCells (([] : List Ins))) h4.below h4.own (ins_lit (x := (xo, xa)) (h4.keep _ _ (alloc2_snd wc _ _ _) (by simp [Value.ownBlock]))) rfl (by omega)) ?_; intro v7 w7 h7)
                    | (refine step_append_any rfl (.tmp 68) (.tmp 70) 22 rfl v4 (.slice (some ⟨wc.heap.size, 0, none⟩) 1 1) (by simp [Act.eval]) (by simp [Act.eval]) (append_made (d := [(xo, xa)]) (n := 0 + 0) (xs := [] ++ insCells (([] : List Ins))) h4.below h4.own (ins_lit (x := (xo, xa)) (h4.keep _ _ (alloc2_fst wc _ _ _) (by simp [Value.ownBlock]))) rfl (by omega)) ?_; intro v7 w7 h7)
                    | (refine step_append_any rfl (.tmp 71) (.tmp 74) 22 rfl v7 (.slice (some aa) 0 0) (by simp [Act.eval]) (by simp [Act.eval]) (append_made (d := ([] : List Ins)) (n := 0 + 0 + 1) (xs := [] ++ insCells (([] : List Ins)) ++ insCells [(xo, xa)]) h7.below h7.own (ins_none (some aa)) (by simp) (by omega)) ?_; intro v11 w11 h11))
                  all_goals
                    have hm : ∀ w12, Below w11.heap.size w11 w12 → Code_ w12 v11 (([] : List Ins) ++ [(xo, xa)] ++ ([] : List Ins)) ∧ Below wc.heap.size wc w12 := fun w12 h12 => by
                      have h := own_exts h11.own h12
                      rw [List.nil_append, ← insCells_append, ← insCells_append] at h
                      refine ⟨code_own h (by simp) (fun z hz => ?_) (by simp), h11.below.trans (h12.mono h11.below.size)⟩
                      simp only [List.nil_append, List.append_nil, List.mem_singleton] at hz
                      subst hz
                      exact ⟨⟨hx0, hx1⟩, hx2, hx3⟩
                    have HM := Lib.hid hm
                    clear hm h4 h7 h11
                    go_wp2_with (fail)
                    go_meet
                    case rel => first | exact HM.out _ (Below.refl _ _) | exact HM.out _ (Below.refl _ _).drew
              · obtain ⟨b, off, rfl⟩ : ∃ b off, Ac = some ⟨b, off, none⟩ := by
                  rcases hA with h | h
                  · exact absurd h hcz
                  · exact h
                obtain ⟨A11, hA11, hA12⟩ : ∃ B : Addr, (if cc = K then some (⟨b, off, none⟩ : Addr) else some ⟨b, off + K * 2, none⟩) = some B ∧ (K < c.length → B = ⟨b, off + K * 2, none⟩) := by
                  by_cases h : cc = K
                  · exact ⟨_, if_pos h, fun h2 => by omega⟩
                  · exact ⟨_, if_neg h, fun _ => rfl⟩
                have hKn : K ≤ cc := by omega
                have hxa0 := cell_alloc' (.cells #[] 35) hxc0
                have hxa1 := cell_alloc' (.cells #[] 35) hxc1
                go_region_law (first
                  | (refine step_append_any rfl (.tmp 64) (.tmp 67) 22 rfl (.slice (some ⟨wc.heap.size, 0, none⟩) 0 0) (.slice (some ⟨b, off, none⟩) K cc) (by simp [Act.eval]) (by simp [Act.eval]) (append_made (d := c.take K) (n := 0) (xs := []) (by first | exact (below_new wc _).drew | exact ((below_new wc _).alloc (by simp) _).drew) (empty_own (by first | exact World.alloc_heap_new wc _ | exact alloc2_fst wc _ _ _) (by omega)) (ins_take (hcode.ext (by first | exact (below_new wc _).drew | exact ((below_new wc _).alloc (by simp) _).drew)) hKl) (by simp <;> omega) (by omega)) ?_; intro v4 w4 h4; have hq0 := (h4.below.cell (World.block_lt_of_cell? wc _ hxc0)).trans hxc0; have hq1 := (h4.below.cell (World.block_lt_of_cell? wc _ hxc1)).trans hxc1)
                  | (refine step_append_any rfl (.tmp 64) (.tmp 67) 22 rfl (.slice (some ⟨wc.heap.size + 1, 0, none⟩) 0 0) (.slice (some ⟨b, off, none⟩) K cc) (by simp [Act.eval]) (by simp [Act.eval]) (append_made (d := c.take K) (n := 0) (xs := []) (by exact ((below_new wc _).alloc (by simp) _).drew) (empty_own (by exact alloc2_snd wc _ _ _) (by omega)) (ins_take (hcode.ext (by exact ((below_new wc _).alloc (by simp) _).drew)) hKl) (by simp <;> omega) (by omega)) ?_; intro v4 w4 h4; have hq0 := (h4.below.cell (World.block_lt_of_cell? wc _ hxc0)).trans hxc0; have hq1 := (h4.below.cell (World.block_lt_of_cell? wc _ hxc1)).trans hxc1)
                  | (refine step_append_any rfl (.tmp 68) (.tmp 70) 22 rfl v4 (.slice (some ⟨w4.heap.size, 0, none⟩) 1 1) (by simp [Act.eval]) (by simp [Act.eval]) (append_made (d := [(xo, xa)]) (n := 0 + K) (xs := [] ++ insCells (c.take K)) (h4.below.trans ((below_new w4 _).mono h4.below.size)) (own_exts h4.own (below_new w4 _)) (ins_lit (x := (xo, xa)) (World.alloc_heap_new w4 _)) rfl (by omega)) ?_; intro v7 w7 h7)
                  | (refine step_append_any rfl (.tmp 68) (.tmp 70) 22 rfl v4 (.slice (some ⟨wc.heap.size + 1, 0, none⟩) 1 1) (by simp [Act.eval]) (by simp [Act.eval]) (append_made (d := [(xo, xa)]) (n := 0 + K) (xs := [] ++ insCells (c.take K)) h4.below h4.own (ins_lit (x := (xo, xa)) (h4.keep _ _ (alloc2_snd wc _ _ _) (by simp [Value.ownBlock]))) rfl (by omega)) ?_; intro v7 w7 h7)
                  | (refine step_append_any rfl (.tmp 68) (.tmp 70) 22 rfl v4 (.slice (some ⟨wc.heap.size, 0, none⟩) 1 1) (by simp [Act.eval]) (by simp [Act.eval]) (append_made (d := [(xo, xa)]) (n := 0 + K) (xs := [] ++ insCells (c.take K)) h4.below h4.own (ins_lit (x := (xo, xa)) (h4.keep _ _ (alloc2_fst wc _ _ _) (by simp [Value.ownBlock]))) rfl (by omega)) ?_; intro v7 w7 h7)
                  | (refine step_append_any rfl (.tmp 71) (.tmp 74) 22 rfl v7 (.slice (some A11) (c.length - K) (cc - K)) (by simp [Act.eval]) (by simp [Act.eval]) (append_made (d := c.drop K) (n := 0 + K + 1) (xs := [] ++ insCells (c.take K) ++ insCells [(xo, xa)]) h7.below h7.own (ins_drop (hcode.ext h7.below) hA12) (by simp) (by omega)) ?_; intro v11 w11 h11))
                all_goals
                  have hm : ∀ w12, Below w11.heap.size w11 w12 → Code_ w12 v11 (c.take K ++ [(xo, xa)] ++ c.drop K) ∧ Below wc.heap.size wc w12 := fun w12 h12 => by
                    have h := own_exts h11.own h12
                    rw [List.nil_append, ← insCells_append, ← insCells_append] at h
                    refine ⟨code_own h (by simp; omega) (fun z hz => ?_) (by simp; omega), h11.below.trans (h12.mono h11.below.size)⟩
                    rcases List.mem_append.1 hz with hz | hz
                    · rcases List.mem_append.1 hz with hz | hz
                      · exact HI.out z (List.mem_of_mem_take hz)
                      · simp only [List.mem_singleton] at hz
                        subst hz
                        exact ⟨⟨hx0, hx1⟩, hx2, hx3⟩
                    · exact HI.out z (List.mem_of_mem_drop hz)
                  have HM := Lib.hid hm
                  clear hm h4 h7 h11
                  go_wp2_with (fail)
                  go_meet
                  case rel => first | exact HM.out _ (Below.refl _ _) | exact HM.out _ (Below.refl _ _).drew
              -- end app
            case rest =>
              -- part rest
              obtain ⟨hcode, hbd⟩ := hcut
              have hxd0 := (hbd.cell (World.block_lt_of_cell? _ _ hxc0)).trans hxc0
              have HLc := Lib.hid (HL3.out.ext hbd)
              have HCc := Lib.hid ((HC.out.ext HB3.out).ext hbd)
              have hfc : ∀ w9, Below wc.heap.size wc w9 → Below w.heap.size w w9 := fun w9 h => HFIN.out w9 (hbd.trans (h.mono hbd.size))
              have HFC := Lib.hid hfc
              have HCD := Lib.hid hcode
              clear hfc hcode hbd hxc0 hxc1 HFIN HBW HL3 HTO hy hyt hK hy0 hy1
              go_upto_region 8 with (first
                | (go_at_call 27; (with_reducible refine (part_any _ vl (c.take K ++ [(xo, xa)] ++ c.drop K) (calmF ks) _ HCD.out HLc.out (by simp; omega)).mono ?_); go_must (rintro e w9 ⟨rfl, hb9⟩; rw [hm]; have hx9 := (hb9.cell (World.block_lt_of_cell? _ _ hxd0)).trans hxd0; have HC9 := Lib.hid (HCc.out.ext hb9); have HB9 := Lib.hid hb9; clear hb9)))
              have hma : ¬ m < a := by omega
              have hma2 : decide (m < a) = false := by simpa using hma
              go_wp2_with (first
                | (go_at_call 29; (with_reducible refine (num_any _ _).mono ?_); rintro e w6 ⟨rfl, rfl⟩))
              go_loop [16, 17] (fun dd i => ∃ k : Nat, k ≤ K ∧ i = .int .i64 k ∧ dd = .int .i64 (deepF (c.take k))) (fun _ i => K - (intOf i).toNat)
              case atStart => exact ⟨0, Nat.zero_le _, rfl, rfl⟩
              case round =>
                obtain ⟨k, hk, rfl, rfl⟩ := hrel
                by_cases hlt : k < K
                · -- part rnd
                  obtain ⟨A9, k9, e9, hr9⟩ := HC9.out.open_
                  injection e9 with e9 _ e9b
                  subst e9
                  obtain ⟨b, off, rfl, hd1, _⟩ := hr9 k (by omega)
                  have hop : (c.getD k (0, 0)).1 = opAt c k := rfl
                  have hnx : deepF (c.take (k + 1)) = if opAt c k = 48 ∨ opAt c k = 51 then deepF (c.take k) + 1 else if opAt c k = 50 then deepF (c.take k) - 1 else deepF (c.take k) := by
                    rw [take_snoc c k (0, 0) (by omega), deepF_snoc]; rfl
                  obtain ⟨hdb0, hdb1⟩ := deepF_bd c k (by omega)
                  rw [hop] at hd1
                  have hk0 : (0 : Int) ≤ k := by omega
                  have hk1 : (k : Int) < (K : Int) := by omega
                  have hk2 : (k : Int) < (c.length : Int) := by omega
                  clear hr9 hop
                  generalize deepF (c.take k) = D at *
                  obtain ⟨D2, hD2⟩ : ∃ D2, deepF (c.take (k + 1)) = D2 := ⟨_, rfl⟩
                  rw [hD2] at hnx
                  have HD2 := Lib.hid hD2
                  clear hD2
                  generalize opAt c k = o at *
                  by_cases c1 : o = 48 ∨ o = 51
                  · rw [if_pos c1] at hnx
                    subst hnx
                    have hw : IntKind.i64.wrap (D + 1) = D + 1 := by rw [IntKind.wrap_i64]; omega
                    rcases c1 with rfl | rfl
                    all_goals
                      go_wp2
                      go_round
                      case rel => exact ⟨k + 1, by omega, by go_num, by rw [HD2.out]⟩
                      case measure => simp [intOf]; omega
                  · rw [if_neg c1] at hnx
                    have e48 : (o == 48) = false := by simpa using fun e => c1 (.inl e)
                    have e51 : (o == 51) = false := by simpa using fun e => c1 (.inr e)
                    by_cases c2 : o = 50
                    · rw [if_pos c2] at hnx
                      subst hnx
                      subst c2
                      have hw : IntKind.i64.wrap (D - 1) = D - 1 := by rw [IntKind.wrap_i64]; omega
                      go_wp2
                      go_round
                      case rel => exact ⟨k + 1, by omega, by go_num, by rw [HD2.out]⟩
                      case measure => simp [intOf]; omega
                    · rw [if_neg c2] at hnx
                      subst hnx
                      have e50 : (o == 50) = false := by simpa using c2
                      go_wp2
                      go_round
                      case rel => exact ⟨k + 1, by omega, by go_num, by rw [HD2.out]⟩
                      case measure => simp [intOf]; omega
                  -- end rnd
                · have e : k = K := by omega
                  subst e
                  have hmin := run_min_r (P := Try.prog)
                  have hcx := costF_bd xo
                  generalize deepF (c.take k) = D at *
                  by_cases hD : 0 < D
                  · go_wp2_with (first
                      | (go_at_call 25; (with_reducible refine (knows_any _).mono ?_); go_must (rintro e w7 ⟨rfl, hb7⟩)))
                    go_ret
                    exact ⟨rfl, HFC.out _ (HB9.out.trans (hb7.mono HB9.out.size))⟩
                  · have hmm := hdeep (by omega)
                    subst hmm
                    have hw : IntKind.i64.wrap (a + costF xo) = a + costF xo := by rw [IntKind.wrap_i64]; omega
                    go_wp2_with (first
                      | (go_at_call 32; (with_reducible refine (cost_any' xo _ hx0 hx1).mono ?_); go_must (rintro e w8 ⟨rfl, hb8⟩))
                      | (go_at_call 25; (with_reducible refine (knows_any _).mono ?_); go_must (rintro e w7 ⟨rfl, hb7⟩)))
                    go_ret
                    have h1 := HB9.out.trans (hb8.mono HB9.out.size)
                    exact ⟨rfl, HFC.out _ (h1.trans (hb7.mono h1.size))⟩
              -- end rest
          -- end main
    · go_wp2_with (first
        | (go_at_call 29; (with_reducible refine (num_any _ _).mono ?_); rintro e w6 ⟨rfl, rfl⟩)
        | (go_at_call 25; (with_reducible refine (knows_any _).mono ?_); go_must (rintro e w7 ⟨rfl, hb7⟩)))
      go_ret
      exact ⟨rfl, HFIN.out _ hb7⟩
  · go_wp2_with (first
      | (go_at_call 29; (with_reducible refine (num_any _ _).mono ?_); rintro e w6 ⟨rfl, rfl⟩)
      | (go_at_call 25; (with_reducible refine (knows_any _).mono ?_); go_must (rintro e w7 ⟨rfl, hb7⟩)))
    go_ret
    exact ⟨rfl, HFIN.out _ hb7⟩
end Go.Proofs.Ytchmgilckiadaaa
