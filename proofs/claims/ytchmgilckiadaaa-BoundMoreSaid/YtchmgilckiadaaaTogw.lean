/- BoundTogether: the walk itself. -/
import Derived.Test.YtchmgilckiadaaaTog
namespace Go.Proofs.Ytchmgilckiadaaa
open Go.RowKit
/-- Own, as callers see it. -/
theorem own_code {c : List Ins} {w w' : World} {v : Value} (h : w'.ownsRow w.heap.size 35 2 v c.length (insCells c)) (hl : c.length * 16 ≤ 281474976710656) (hi : ∀ x ∈ c, I64 x.1 ∧ I64 x.2) : Code_ w' v c := code_own h hl hi rfl
set_option maxRecDepth 100000 in
set_option maxHeartbeats 2000000 in
theorem together_any (vc vd vk : Value) (c d : List Ins) (ks : List Int) (w : World) (hc : Code_ w vc c) (hd : Code_ w vd d) (hk : Ints w vk ks) :
    Calls Try.prog 5 #[vc, vd, vk] w fun e w' => e = .returned (.bool true) ∧ Below w.heap.size w w' := by
  obtain ⟨Ac, cc, rfl, _⟩ := hc.open_
  obtain ⟨Ad, cd, rfl, _⟩ := hd.open_
  obtain ⟨Ak, ck, rfl, _⟩ := hk.open_
  have hcl := hc.len
  have hdl := hd.len
  have HC := Lib.hid hc
  have HD := Lib.hid hd
  have HK := Lib.hid hk
  clear hc hd hk
  by_cases hlong : 200 < c.length ∨ 200 < d.length
  · rcases hlong with h1 | h1
    all_goals
      have h1 : (200 : Int) < (_ : Nat) := Int.ofNat_lt.2 h1
      go_enter Try.func5, Try.ntmps5
      go_wp2_with (first
        | (go_at_call 31; (with_reducible refine (calm_any _ ks _ HK.out).mono ?_); go_must (rintro e w1 ⟨⟨vl, rfl, hl⟩, hb1⟩; have HB := Lib.hid hb1; clear hl hb1))
        | (go_at_call 25; (with_reducible refine (knows_any _).mono ?_); go_must (rintro e w7 ⟨rfl, hb7⟩)))
      all_goals go_ret
      all_goals exact ⟨rfl, HB.out.trans (hb7.mono HB.out.size)⟩
  · have h1 : (c.length : Int) ≤ 200 := by omega
    have h2 : (d.length : Int) ≤ 200 := by omega
    go_enter Try.func5, Try.ntmps5
    go_upto_region 4 with (first
      | (go_at_call 31; (with_reducible refine (calm_any _ ks _ HK.out).mono ?_); go_must (rintro e w1 ⟨⟨vl, rfl, hl⟩, hb1⟩; have HL := Lib.hid (calm_ints hl); have HB := Lib.hid hb1; clear hl hb1)))
    go_upto_region 5 with (first
      | (go_at_call 26; (with_reducible refine (own_any _ c _ (HC.out.ext HB.out) (by omega)).mono ?_); go_must (rintro e w2 ⟨⟨vo, rfl, ho⟩, hb2⟩; have HO := Lib.hid (own_code ho hcl HC.out.i64); have HB2 := Lib.hid hb2; clear ho hb2))
      | (go_at_call 27; (with_reducible refine (part_any _ vl c (calmF ks) _ HO.out (HL.out.ext HB2.out) (by omega)).mono ?_); go_must (rintro e w3 ⟨rfl, hb3⟩; have HB3 := Lib.hid (HB2.out.trans (hb3.mono HB2.out.size)); clear hb3)))
    go_upto_region 6 with (first
      | (go_at_call 26; (with_reducible refine (own_any _ d _ (HD.out.ext (HB.out.trans (HB3.out.mono HB.out.size))) (by omega)).mono ?_); go_must (rintro e w4 ⟨⟨vp, rfl, ho⟩, hb4⟩; have HP := Lib.hid (own_code ho hdl HD.out.i64); have HB4 := Lib.hid (HB3.out.trans (hb4.mono HB3.out.size)); clear ho hb4))
      | (go_at_call 27; (with_reducible refine (part_any _ vl d (calmF ks) _ HP.out (HL.out.ext HB4.out) (by omega)).mono ?_); go_must (rintro e w5 ⟨rfl, hb5⟩; have HB5 := Lib.hid (HB4.out.trans (hb5.mono HB4.out.size)); clear hb5)))
    have hn1 := part_num (calmF ks) c
    have hn2 := part_num (calmF ks) d
    have hto := fun h1 h2 => together_out (ks := calmF ks) (c := c) (d := d) (a := (partOut (calmF ks) c).1) (b := (partOut (calmF ks) d).1) (calm_nn ks) h1 h2
    generalize hp1 : partOut (calmF ks) c = p1 at *
    generalize hp2 : partOut (calmF ks) d = p2 at *
    obtain ⟨a, e⟩ := p1
    obtain ⟨b, g⟩ := p2
    simp only at hn1 hn2 hto
    obtain ⟨e0, e1, a0, a1⟩ := hn1
    obtain ⟨g0, g1, b0, b1⟩ := hn2
    have HTO := Lib.hid hto
    clear hto hp1 hp2
    by_cases hz : e = 0 ∧ g = 0
    · obtain ⟨rfl, rfl⟩ := hz
      have hmin := run_min_r (P := Try.prog)
      have hsz5 : w.heap.size ≤ w5.heap.size := Nat.le_trans HB.out.size HB5.out.size
      have HD5 := Lib.hid (HD.out.ext (HB.out.trans (HB5.out.mono HB.out.size)))
      have happ : ∀ (w6 : World) (vq : Value), w6.ownsRow w5.heap.size 35 2 vq c.length (insCells c) → Below w5.heap.size w5 w6 →
          ∃ v8 w8, (Builtin.append_ #[22, 22] 22 #[vq, .slice Ad d.length cd]).run Try.prog w6 = .ok v8 w8 ∧ Code_ w8 v8 (c ++ d) ∧ Below w5.heap.size w5 w8 := fun w6 vq ho6 hb6 => by
        obtain ⟨v8, w8, hr8, ho8, hg8, _⟩ := run_append_any (P := Try.prog) w6 w5.heap.size 22 22 35 _ 2 16 Try.underlying22 info_ins rfl (by decide) vq (.slice Ad d.length cd) c.length d.length (insCells c) (insCells d) ho6 (insAt d) (HD5.out.ext hb6).at_ (insCells_range d) (fun j => rfl) (by unfold maxLen; omega) (by omega) hb6.size
        rw [← insCells_append] at ho8
        refine ⟨v8, w8, hr8, code_own ho8 (by simp; omega) (fun x hx => ?_) (by simp), hb6.trans ⟨hg8.os, hg8.tape, hg8.output, hg8.size, fun q hq => hg8.block q (Nat.lt_of_lt_of_le hq hb6.size) (fun hh => by have := (ho6.lt q hh.symm).1; omega)⟩⟩
        rcases List.mem_append.1 hx with h | h
        · exact HC.out.i64 x h
        · exact HD.out.i64 x h
      have HAPP := Lib.hid happ
      clear happ
      go_upto_region 8 with (first
        | (go_at_call 29; (with_reducible refine (num_any _ _).mono ?_); rintro e w6 ⟨rfl, rfl⟩))
      go_wp2_with (first
        | (go_at_call 26; (with_reducible refine (own_any _ c _ (HC.out.ext (HB.out.trans (HB5.out.mono HB.out.size))) (by omega)).mono ?_); go_must (rintro e w6 ⟨⟨vq, rfl, ho⟩, hb6⟩; have HQ := Lib.hid ho; have HB6 := Lib.hid hb6; clear ho hb6))
        | (at_builtin; obtain ⟨v8, w8, hr8, hc8, hb8⟩ := HAPP.out w6 vq HQ.out HB6.out; refine wpList_append_run _ rfl (.tmp 48) (.tmp 49) 22 22 rfl _ _ rfl rfl hr8 ?_; have HC8 := Lib.hid hc8; have HB8 := Lib.hid hb8; clear hr8 hc8 hb8)
        | (go_at_call 29; (with_reducible refine (num_any _ _).mono ?_); rintro e w6 ⟨rfl, rfl⟩)
        | (go_at_call 25; (with_reducible refine (knows_any _).mono ?_); go_must (rintro e w7 ⟨rfl, hb7⟩))
        | (go_at_call 27; (with_reducible refine (part_any _ vl (c ++ d) (calmF ks) _ HC8.out (HL.out.ext (HB5.out.trans (HB8.out.mono HB5.out.size))) (by simp; omega)).mono ?_); go_must (rintro e w9 ⟨rfl, hb9⟩; rw [HTO.out trivial trivial]; have HB9 := Lib.hid (HB8.out.trans (hb9.mono HB8.out.size)); clear hb9)))
      go_ret
      exact ⟨rfl, HB.out.trans ((HB5.out.trans ((HB9.out.trans (hb7.mono HB9.out.size)).mono HB5.out.size)).mono HB.out.size)⟩
    · have hne : ¬ e + g = 0 := by omega
      go_wp2_with (first
        | (go_at_call 29; (with_reducible refine (num_any _ _).mono ?_); rintro e w6 ⟨rfl, rfl⟩)
        | (go_at_call 25; (with_reducible refine (knows_any _).mono ?_); go_must (rintro e w7 ⟨rfl, hb7⟩)))
      go_ret
      exact ⟨rfl, HB.out.trans ((HB5.out.trans (hb7.mono HB5.out.size)).mono HB.out.size)⟩
end Go.Proofs.Ytchmgilckiadaaa
