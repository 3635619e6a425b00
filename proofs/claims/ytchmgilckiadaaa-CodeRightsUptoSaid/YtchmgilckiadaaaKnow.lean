/- law04: num, knows. -/
import Derived.Test.YtchmgilckiadaaaPut
import Derived.Test.YtchmgilckiadaaaSmd
namespace Go.Proofs.Ytchmgilckiadaaa
open Go.RowKit
theorem num4_any (n : Int) (w : World) : Calls Try.prog 35 #[.int .i64 n] w fun e w' => e = .returned (.int .i64 n) ∧ w = w' := by
  go_enter Try.func35, Try.ntmps35
  go_wp2
  go_ret
  exact ⟨rfl, rfl⟩
/-- A script that does nothing. -/
def scr0 : Scr := ⟨[], [⟨[], [], [], []⟩]⟩
theorem right_scr0 : rightB scr0 = true := by decide +kernel
theorem put_scr0 : putF scr0 = [0, 1, 0, 0, 0, 0, 0] := by decide +kernel
theorem ints_none (w : World) : Ints w (.slice none 0 0) [] := ⟨⟨none, 0, rfl, fun h => by simp at h⟩, by simp, by simp⟩
theorem code_none (w : World) : Code_ w (.slice none 0 0) [] := ⟨⟨none, 0, rfl, fun h => by simp at h⟩, by simp, by simp⟩
theorem strs_none (w : World) : Strs w (.slice none 0 0) [] := ⟨⟨none, 0, rfl, fun h => by simp at h⟩, by simp⟩
theorem val_scr0 {w : World} {q : Nat} (h : w.heap[q]? = some (.cells #[.slice none 0 0, .slice none 0 0, .slice none 0 0, .slice none 0 0] 53 (0, 0))) : ScrVal w (.agg #[.slice none 0 0, .slice (some ⟨q, 0, none⟩) 1 1]) scr0 := by
  obtain ⟨c0, c1, c2, c3⟩ := four_at (Below.refl _ _) h
  refine ⟨_, _, rfl, strs_none w, ⟨⟨_, 1, rfl, fun j hj => ⟨q, 0, rfl, ?_⟩⟩, by simp [scr0]⟩⟩
  simp [scr0] at hj
  subst hj
  exact ⟨_, _, _, _, c0, c1, c2, c3, ints_none w, ints_none w, ints_none w, code_none w⟩
/-- string(b). -/
theorem conv_back {w : World} {v : Value} {l : List UInt8} (h : Byts w v l) (h0 : 0 < l.length) : (convert 46 9 v).run Try.prog w = .ok (.string ⟨l.toArray⟩) w := by
  obtain ⟨A, c, rfl, hc⟩ := h
  obtain ⟨b, off, rfl, hd⟩ := hc h0
  refine run_convert_bytes_back (P := Try.prog) w 46 9 5 ⟨b, off, none⟩ c l Try.underlying46 Try.underlying5 Try.underlying9 fun j hj => ?_
  rw [Addr.add_lit, hd j (by omega)]
  simp [hj]
set_option maxRecDepth 100000 in
theorem knows4_any (w : World) : Calls Try.prog 36 #[] w fun e w' => e = .returned (.bool true) ∧ Below w.heap.size w w' := by
  obtain ⟨W0, hW0⟩ : ∃ W0, w.alloc (.cells #[.slice none 0 0, .slice none 0 0, .slice none 0 0, .slice none 0 0] 53) = W0 := ⟨_, rfl⟩
  obtain ⟨hb0, hq0⟩ := one_box hW0
  have hs0 : W0.heap.size = w.heap.size + 1 := by rw [← hW0]; simp
  obtain ⟨W1, hW⟩ : ∃ W1, W0.alloc (.cells #[.slice none 0 0, .slice (some ⟨w.heap.size, 0, none⟩) 1 1] 45) = W1 := ⟨_, rfl⟩
  obtain ⟨hb1, hq1⟩ := one_box hW
  rw [hs0] at hq1
  have hval := val_scr0 hq0
  have HV := Lib.hid (fun w' (hb : Below W1.heap.size W1 w') => (hval.ext hb1).ext hb)
  have HQ := Lib.hid (fun w' (hb : Below W1.heap.size W1 w') => two_at hb hq1)
  have HB1 := Lib.hid (hb0.trans (hb1.mono hb0.size))
  rw [← hW0] at hW
  have HW := Lib.hid hW
  have HPC := Lib.hid (put_any _ scr0 W1 (HV.out W1 (Below.refl _ _)))
  clear hW hW0 hb0 hb1 hq0 hq1 hs0 hval
  go_enter Try.func36, Try.ntmps36
  go_upto_region 2 with (fail)
  rw [HW.out]
  obtain ⟨g0, g1⟩ := HQ.out W1 (Below.refl _ _)
  go_upto_region 3 with (go_at_call 33; (with_reducible refine HPC.out.mono ?_); go_must (rintro e w2 ⟨hres, hb⟩; rcases hres with ⟨_, vb, rfl, hby⟩ | ⟨hr, _⟩; rotate_left; (rw [right_scr0] at hr; cases hr); have HB2 := Lib.hid hb; rw [put_scr0] at hby; have hcv := conv_back hby (by decide); clear hby hb))
  clear g0 g1
  obtain ⟨g0, g1⟩ := HQ.out w2 HB2.out
  go_wp2_with (first
    | (go_at_call 35; (with_reducible refine (num4_any _ _).mono ?_); go_must (rintro e w3 ⟨rfl, rfl⟩))
    | (go_at_call 40; (with_reducible refine (codeRight_any _ scr0 _ (HV.out _ HB2.out)).mono ?_); go_must (rintro e w4 ⟨rfl, hb⟩; rw [right_scr0]; have HB4 := Lib.hid (HB2.out.trans (hb.mono HB2.out.size)); clear hb g0 g1; obtain ⟨g0, g1⟩ := HQ.out w4 HB4.out))
    | (go_at_call 43; (with_reducible refine (codeSame_any _ _ scr0 scr0 _ (HV.out _ HB4.out) (HV.out _ HB4.out)).mono ?_); go_must (rintro e w5 ⟨rfl, hb⟩; rw [decide_eq_true (rfl : scr0 = scr0)]; have HB5 := Lib.hid (HB4.out.trans (hb.mono HB4.out.size)); clear hb)))
  go_ret
  exact ⟨rfl, HB1.out.trans (HB5.out.mono HB1.out.size)⟩
end Go.Proofs.Ytchmgilckiadaaa
