/- BoundParts: the walk itself. -/
import Derived.Test.YtchmgilckiadaaaPrw
import Derived.Test.YtchmgilckiadaaaTogw
namespace Go.Proofs.Ytchmgilckiadaaa
open Go.RowKit
def intAt (xs : List Int) (j : Nat) : Value := .int .i64 (xs.getD j 0)
theorem intVals_range (xs : List Int) : intVals xs = (List.range (xs.length * 1)).map (intAt xs) := by
  apply List.ext_getElem?
  intro j
  by_cases h : j < xs.length
  · simp [intVals, intAt, h]
  · rw [List.getElem?_eq_none (by simp [intVals]; omega), List.getElem?_eq_none (by simp; omega)]
/-- append([]int{}, l...). -/
theorem nil_append (u : World) (xs : List Int) (A : Option Addr) (k : Nat) (hc : Ints u (.slice A xs.length k) xs) (hl : xs.length * 8 ≤ 140737488355328) :
    ∃ v8 w8, (Builtin.append_ #[23, 23] 23 #[.slice (some ⟨u.heap.size, 0, none⟩) 0 0, .slice A xs.length k]).run Try.prog (u.alloc (.cells #[] 3)) = .ok v8 w8 ∧
      Ints w8 v8 xs ∧ Below u.heap.size u w8 := by
  have hb1 : Below u.heap.size u (u.alloc (.cells #[] 3)) := below_new u _
  have hown : (u.alloc (.cells #[] 3)).ownsRow u.heap.size 3 1 (.slice (some ⟨u.heap.size, 0, none⟩) 0 0) 0 [] :=
    ⟨rfl, .inr ⟨_, 0, #[], rfl, Nat.le_refl _, World.alloc_heap_new u _, Nat.le_refl _, Nat.zero_le _, rfl, rfl⟩⟩
  obtain ⟨v8, w8, hr8, ho8, hg8, _⟩ := run_append_any (P := Try.prog) _ u.heap.size 23 23 3 _ 1 8 Try.underlying23 info_int rfl (by decide) _ (.slice A xs.length k) 0 xs.length [] (intVals xs) hown (intAt xs) (hc.ext hb1).at_ (intVals_range xs) (fun j => rfl) (by unfold maxLen; omega) (by omega) hb1.size
  have hi : Ints w8 v8 xs := by
    have h2 : w8.ownsRow u.heap.size 3 1 v8 xs.length (intVals xs) := by simpa using ho8
    rcases h2.2 with ⟨hv, h0⟩ | ⟨q, cap, cur, hv, _, hh, _, _, _, htake⟩
    · subst hv
      rw [List.length_eq_zero_iff.1 h0]
      exact ⟨⟨none, 0, rfl, fun h => by simp at h⟩, by simp, by simp⟩
    · subst hv
      refine ⟨⟨_, _, rfl, fun _ => ⟨_, _, rfl, fun j hj => ?_⟩⟩, hc.len, hc.i64⟩
      have hj' : j < xs.length := by omega
      rw [Nat.zero_add, h2.cellAt j (by omega)]
      simp [intVals, hj']
  exact ⟨v8, w8, hr8, hi, hb1.trans ⟨hg8.os, hg8.tape, hg8.output, hg8.size, fun q hq => hg8.block q (Nat.lt_of_lt_of_le hq hb1.size) (fun hh => by simp only [Value.ownBlock, Option.some.injEq] at hh; omega)⟩⟩
set_option maxRecDepth 100000 in
set_option maxHeartbeats 4000000 in
theorem parts_any (vc vk : Value) (c : List Ins) (ks : List Int) (w : World) (hc : Code_ w vc c) (hk : Ints w vk ks) (hkl : ks.length * 8 ≤ 140737488351232) :
    Calls Try.prog 3 #[vc, vk] w fun e w' => e = .returned (.bool true) ∧ Below w.heap.size w w' := by
  obtain ⟨Ac, cc, rfl, _⟩ := hc.open_
  obtain ⟨Ak, ck, rfl, _⟩ := hk.open_
  have hcl := hc.len
  have HC := Lib.hid hc
  have HK := Lib.hid hk
  clear hc hk
  by_cases hle : (c.length : Int) ≤ 600
  · go_enter Try.func3, Try.ntmps3
    go_upto_region 4 with (first
      | (go_at_call 26; (with_reducible refine (own_any _ c _ HC.out (by omega)).mono ?_); go_must (rintro e w1 ⟨⟨vo, rfl, ho⟩, hb1⟩; have HO := Lib.hid (own_code ho hcl HC.out.i64); have HB := Lib.hid hb1; clear ho hb1)))
    obtain ⟨v8, w8, hr8, hi8, hb8⟩ := nil_append w1 ks Ak ck (HK.out.ext HB.out) (by omega)
    have HR8 := Lib.hid hr8
    have HI8 := Lib.hid hi8
    have HB8 := Lib.hid hb8
    clear hr8 hi8 hb8
    go_upto_region 5 with (first
      | (at_builtin; refine wpList_append_run _ rfl (.tmp 17) (.tmp 18) 23 23 rfl _ _ rfl rfl HR8.out ?_))
    have HBX := Lib.hid (HB.out.trans (HB8.out.mono HB.out.size))
    go_upto_region 6 with (first
      | (go_at_call 27; (with_reducible refine (part_any _ v8 c ks _ (HO.out.ext HB8.out) HI8.out (by omega)).mono ?_); go_must (rintro e w3 ⟨rfl, hb3⟩; have HB3 := Lib.hid (HBX.out.trans (hb3.mono HBX.out.size)); have HI3 := Lib.hid (HI8.out.ext hb3); clear hb3)))
    go_upto_region 7 with (first
      | (go_at_call 28; (with_reducible refine (partR_any _ _ c ks _ (HC.out.ext HB3.out) (HK.out.ext HB3.out) (by omega)).mono ?_); go_must (rintro e w4 ⟨rfl, hb4⟩; have HB4 := Lib.hid (HB3.out.trans (hb4.mono HB3.out.size)); have HI4 := Lib.hid (HI3.out.ext hb4); clear hb4)))
    generalize partOut ks c = p at *
    obtain ⟨a, e⟩ := p
    simp only
    go_wp2_with (first
      | (go_at_call 29; (with_reducible refine (num_any _ _).mono ?_); rintro e w10 ⟨rfl, rfl⟩)
      | (go_at_call 30; (with_reducible refine (same_ints _ _ ks _ HI4.out (HK.out.ext HB4.out)).mono ?_); go_must (rintro e w11 ⟨rfl, hb11⟩))
      | (go_at_call 25; (with_reducible refine (knows_any _).mono ?_); go_must (rintro e w13 ⟨rfl, hb13⟩)))
    go_ret
    exact ⟨rfl, HB4.out.trans ((hb11.trans (hb13.mono hb11.size)).mono HB4.out.size)⟩
  · go_enter Try.func3, Try.ntmps3
    go_wp2_with (first
      | (go_at_call 25; (with_reducible refine (knows_any _).mono ?_); go_must (rintro e w7 ⟨rfl, hb7⟩)))
    go_ret
    exact ⟨rfl, hb7⟩
end Go.Proofs.Ytchmgilckiadaaa
