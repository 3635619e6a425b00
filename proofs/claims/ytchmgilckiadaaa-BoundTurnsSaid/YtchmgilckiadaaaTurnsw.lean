/- BoundTurns: the walk itself. -/
import Derived.Test.YtchmgilckiadaaaTogw
import Derived.Test.YtchmgilckiadaaaLaws
namespace Go.Proofs.Ytchmgilckiadaaa
open Go.RowKit
theorem cost51 : (rowAt 51).2.2.2.2 = 2 := by decide +kernel
theorem cost50 : (rowAt 50).2.2.2.2 = 1 := by decide +kernel
theorem costF51 : costF 51 = 2 := by decide +kernel
theorem costF50 : costF 50 = 1 := by decide +kernel
/-- append([]Instr{x}, c...). -/
theorem lit_append (u : World) (x : Ins) (c : List Ins) (A : Option Addr) (k : Nat) (hc : Code_ u (.slice A c.length k) c) (hl : (1 + c.length) * 16 ≤ 140737488355328) :
    ∃ v8 w8, (Builtin.append_ #[22, 22] 22 #[.slice (some ⟨u.heap.size, 0, none⟩) 1 1, .slice A c.length k]).run Try.prog (u.alloc (.cells #[.int .i64 x.1, .int .i64 x.2] 35)) = .ok v8 w8 ∧
      w8.ownsRow u.heap.size 35 2 v8 (1 + c.length) (insCells (x :: c)) ∧ Below u.heap.size u w8 := by
  have hb1 : Below u.heap.size u (u.alloc (.cells #[.int .i64 x.1, .int .i64 x.2] 35)) := below_new u _
  have hown : (u.alloc (.cells #[.int .i64 x.1, .int .i64 x.2] 35)).ownsRow u.heap.size 35 2 (.slice (some ⟨u.heap.size, 0, none⟩) 1 1) 1 (insCells [x]) :=
    ⟨rfl, .inr ⟨_, 1, #[.int .i64 x.1, .int .i64 x.2], rfl, Nat.le_refl _, World.alloc_heap_new u _, Nat.le_refl _, by decide, rfl, rfl⟩⟩
  obtain ⟨v8, w8, hr8, ho8, hg8, _⟩ := run_append_any (P := Try.prog) _ u.heap.size 22 22 35 _ 2 16 Try.underlying22 info_ins rfl (by decide) _ (.slice A c.length k) 1 c.length (insCells [x]) (insCells c) hown (insAt c) (hc.ext hb1).at_ (insCells_range c) (fun j => rfl) (by unfold maxLen; omega) hl hb1.size
  refine ⟨v8, w8, hr8, by rw [← insCells_append] at ho8; exact ho8, hb1.trans ⟨hg8.os, hg8.tape, hg8.output, hg8.size, fun q hq => hg8.block q (Nat.lt_of_lt_of_le hq hb1.size) (fun hh => by simp only [Value.ownBlock, Option.some.injEq] at hh; omega)⟩⟩
set_option maxRecDepth 100000 in
set_option maxHeartbeats 2000000 in
theorem turns_any (vc vk : Value) (c : List Ins) (ks : List Int) (n : Int) (w : World) (hc : Code_ w vc c) (hk : Ints w vk ks) (hn : I64 n) (hlen : c.length ≤ 8796093022208) :
    Calls Try.prog 6 #[vc, vk, .int .i64 n] w fun e w' => e = .returned (.bool true) ∧ Below w.heap.size w w' := by
  obtain ⟨Ac, cc, rfl, _⟩ := hc.open_
  obtain ⟨Ak, ck, rfl, _⟩ := hk.open_
  have hcl := hc.len
  have HC := Lib.hid hc
  have HK := Lib.hid hk
  obtain ⟨hn0, hn1⟩ := hn
  have ht0 : -65 < n.tmod 65 := Int.lt_tmod_of_pos n (show (0 : Int) < 65 by omega)
  have ht1 : n.tmod 65 < 65 := Int.tmod_lt_of_pos n (show (0 : Int) < 65 by omega)
  generalize htm : n.tmod 65 = z at *
  clear hc hk
  go_enter Try.func6, Try.ntmps6
  go_upto_region 3 with (first
    | (go_at_call 31; (with_reducible refine (calm_any _ ks _ HK.out).mono ?_); go_must (rintro e w1 ⟨⟨vl, rfl, hl⟩, hb1⟩; have HL := Lib.hid (calm_ints hl); have HB := Lib.hid hb1; clear hl hb1)))
  obtain ⟨N, hN⟩ : ∃ N, (z + 65) % 65 = N := ⟨_, rfl⟩
  rw [hN]
  have hN0 : 0 ≤ N := by omega
  have hN1 : N ≤ 64 := by omega
  clear hN ht0 ht1 htm hn0 hn1
  go_upto_region 4 with (first
    | (go_at_call 26; (with_reducible refine (own_any _ c _ (HC.out.ext HB.out) hlen).mono ?_); go_must (rintro e w2 ⟨⟨vo, rfl, ho⟩, hb2⟩; have HO := Lib.hid (own_code ho hcl HC.out.i64); have HB2 := Lib.hid hb2; clear ho hb2))
    | (go_at_call 27; (with_reducible refine (part_any _ vl c (calmF ks) _ HO.out (HL.out.ext HB2.out) hlen).mono ?_); go_must (rintro e w3 ⟨rfl, hb3⟩; have HB3 := Lib.hid (HB2.out.trans (hb3.mono HB2.out.size)); clear hb3)))
  have hn1 := part_num (calmF ks) c
  have hto := fun h1 => turns_out (ks := calmF ks) (c := c) (a := (partOut (calmF ks) c).1) (n := N) (calm_nn ks) hN0 hN1 h1
  generalize hp1 : partOut (calmF ks) c = p1 at *
  obtain ⟨a, e⟩ := p1
  simp only at hn1 hto
  obtain ⟨e0, e1, a0, a1⟩ := hn1
  have HTO := Lib.hid hto
  clear hto hp1
  have hsz3 : w1.heap.size ≤ w3.heap.size := HB3.out.size
  have HB13 := Lib.hid (HB.out.trans (HB3.out.mono HB.out.size))
  have HL3 := Lib.hid (HL.out.ext HB3.out)
  by_cases hz : e = 0
  · subst hz
    by_cases hle : (c.length : Int) ≤ 200
    · obtain ⟨v8, w8, hr8, ho8, hb8⟩ := lit_append w3 (51, N) c Ac cc (HC.out.ext HB13.out) (by omega)
      have HR8 := Lib.hid hr8
      have HO8 := Lib.hid ho8
      have HB8 := Lib.hid hb8
      have hs8 := hb8.size
      clear hr8 ho8 hb8
      go_upto_region 6 with (first
        | (go_at_call 29; (with_reducible refine (num_any _ _).mono ?_); rintro e w6 ⟨rfl, rfl⟩))
      go_upto_region 7 with (first
        | (at_builtin; refine wpList_append_run _ rfl (.tmp 37) (.tmp 38) 22 22 rfl _ _ rfl rfl HR8.out ?_))
      go_upto_region 8 with (first
        | (at_builtin; refine wp_append_lit w3.heap.size rfl (.tmp 40) (.tmp 42) 22 35 (.agg #[.int .i64 0, .int .i64 0]) 2 16 rfl Try.underlying22 info_ins rfl (by decide) v8 (1 + c.length) 1 (insCells ((51, N) :: c)) #[.int .i64 50, .int .i64 0] w8.heap.size rfl rfl rfl rfl (by simp [Value.oneCell']) HO8.out hs8 (by unfold maxLen; omega) (by omega) ?_; intro v9 w9 hown hg hat hnil; clear hat hnil; have HG := Lib.hid hg; have HOW := Lib.hid hown; clear hg hown))
      have hcode : Code_ w9 v9 ((51, N) :: (c ++ [(50, 0)])) := by
        have h := HOW.out
        have e : insCells ((51, N) :: c) ++ (#[.int .i64 50, .int .i64 0] : Array Value).toList = insCells ((51, N) :: (c ++ [(50, 0)])) := by simp [insCells]
        rw [e] at h
        refine code_own h (by simp; omega) (fun x hx => ?_) (by simp; omega)
        rcases List.mem_cons.1 hx with rfl | hx
        · exact ⟨⟨by simp, by simp⟩, ⟨by simp only; omega, by simp only; omega⟩⟩
        · rcases List.mem_append.1 hx with hx | hx
          · exact HC.out.i64 x hx
          · simp only [List.mem_singleton] at hx
            subst hx
            exact ⟨⟨by simp, by simp⟩, ⟨by simp, by simp⟩⟩
      have hb9 : Below w3.heap.size w3 w9 := HB8.out.trans ⟨HG.out.os, HG.out.tape, HG.out.output, HG.out.size, fun q hq => HG.out.block q (Nat.lt_of_lt_of_le hq hs8) (fun hh => by have := (HO8.out.lt q hh.symm).1; omega)⟩
      have HC9 := Lib.hid hcode
      have HB9 := Lib.hid hb9
      clear hcode hb9
      go_upto_region 9 with (first
        | (go_at_call 27; (with_reducible refine (part_any _ vl ((51, N) :: (c ++ [(50, 0)])) (calmF ks) _ HC9.out (HL3.out.ext HB9.out) (by simp; omega)).mono ?_); go_must (rintro e w10 ⟨rfl, hb10⟩; have HB10 := Lib.hid (HB9.out.trans (hb10.mono HB9.out.size)); clear hb10)))
      have hmul : 0 ≤ N * (a + 1) ∧ N * (a + 1) ≤ 64 * 1048578 := ⟨Int.mul_nonneg hN0 (by omega), Int.mul_le_mul hN1 (by omega) (by omega) (by omega)⟩
      have hw : IntKind.i64.wrap (N * (a + 1)) = N * (a + 1) := by rw [IntKind.wrap_i64]; omega
      have hmin := run_min_r (P := Try.prog)
      rcases HTO.out trivial with hto | hto
      · rw [hto, costF51, costF50]
        generalize hP : N * (a + 1) = P at *
        have hw2 : IntKind.i64.wrap (2 + P) = 2 + P := by rw [IntKind.wrap_i64]; omega
        clear hto HTO
        go_wp2_with (first
          | (go_at_call 29; (with_reducible refine (num_any _ _).mono ?_); rintro e w6 ⟨rfl, rfl⟩)
          | (go_at_call 32; first | (with_reducible refine (cost_any 51 _ (by omega) (by omega)).mono ?_; rw [cost51]; go_must (rintro e w11 ⟨rfl, hb11⟩)) | (with_reducible refine (cost_any 50 _ (by omega) (by omega)).mono ?_; rw [cost50]; go_must (rintro e w12 ⟨rfl, hb12⟩)))
          | (go_at_call 25; (with_reducible refine (knows_any _).mono ?_); go_must (rintro e w13 ⟨rfl, hb13⟩)))
        go_ret
        have h1 := HB10.out.trans (hb11.mono HB10.out.size)
        have h2 := h1.trans (hb12.mono h1.size)
        exact ⟨rfl, HB13.out.trans ((h2.trans (hb13.mono h2.size)).mono HB13.out.size)⟩
      · rw [hto]
        clear hto HTO hw hmul
        go_wp2_with (first
          | (go_at_call 29; (with_reducible refine (num_any _ _).mono ?_); rintro e w6 ⟨rfl, rfl⟩)
          | (go_at_call 25; (with_reducible refine (knows_any _).mono ?_); go_must (rintro e w13 ⟨rfl, hb13⟩)))
        go_ret
        exact ⟨rfl, HB13.out.trans ((HB10.out.trans (hb13.mono HB10.out.size)).mono HB13.out.size)⟩
    · go_wp2_with (first
        | (go_at_call 29; (with_reducible refine (num_any _ _).mono ?_); rintro e w6 ⟨rfl, rfl⟩)
        | (go_at_call 25; (with_reducible refine (knows_any _).mono ?_); go_must (rintro e w7 ⟨rfl, hb7⟩)))
      go_ret
      exact ⟨rfl, HB13.out.trans (hb7.mono HB13.out.size)⟩
  · go_wp2_with (first
      | (go_at_call 29; (with_reducible refine (num_any _ _).mono ?_); rintro e w6 ⟨rfl, rfl⟩)
      | (go_at_call 25; (with_reducible refine (knows_any _).mono ?_); go_must (rintro e w7 ⟨rfl, hb7⟩)))
    go_ret
    exact ⟨rfl, HB13.out.trans (hb7.mono HB13.out.size)⟩
end Go.Proofs.Ytchmgilckiadaaa
