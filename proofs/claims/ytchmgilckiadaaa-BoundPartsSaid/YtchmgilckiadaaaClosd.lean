/- ref09.closed: what a block costs that is closed. -/
import Derived.Test.YtchmgilckiadaaaCostr
namespace Go.Proofs.Ytchmgilckiadaaa
open Go.RowKit
/-- A level's cells lie in a block. -/
def LvlAt (w : World) (q o : Nat) (b : Lvl) : Prop :=
  w.cell? ⟨q, o, none⟩ = some (.int .i64 b.op) ∧ w.cell? ⟨q, o + 1, none⟩ = some (.int .i64 b.arg) ∧ w.cell? ⟨q, o + 2, none⟩ = some (.int .i64 b.sum) ∧ w.cell? ⟨q, o + 3, none⟩ = some (.int .i64 b.thn) ∧ w.cell? ⟨q, o + 4, none⟩ = some (.bool b.els)
def lvlVal (b : Lvl) : Value := .agg #[.int .i64 b.op, .int .i64 b.arg, .int .i64 b.sum, .int .i64 b.thn, .bool b.els]
theorem LvlAt.ext {w w1 : World} {q o : Nat} {b : Lvl} (h : LvlAt w q o b) (hb : Below w.heap.size w w1) : LvlAt w1 q o b := ⟨cell_ext h.1 hb, cell_ext h.2.1 hb, cell_ext h.2.2.1 hb, cell_ext h.2.2.2.1 hb, cell_ext h.2.2.2.2 hb⟩
theorem keep2 {W0 W W1 : World} {a1 a2 : Addr} {v1 v2 : Value} (h : W.cell? a1 = some v1 ∧ W.cell? a2 = some v2 ∧ Below W0.heap.size W0 W) (hB : Below W.heap.size W W1) :
    W1.cell? a1 = some v1 ∧ W1.cell? a2 = some v2 ∧ Below W0.heap.size W0 W1 :=
  ⟨cell_ext h.1 hB, cell_ext h.2.1 hB, h.2.2.trans (hB.mono h.2.2.size)⟩
set_option maxRecDepth 100000 in
set_option maxHeartbeats 4000000 in
theorem closed_any (b : Lvl) (w : World) (hb : b.Ok) (ht : b.thn ≤ 1048577) :
    Calls Try.prog 86 #[lvlVal b] w fun e w' => e = .returned (.int .i64 (endF b)) ∧ Below w.heap.size w w' := by
  obtain ⟨o, ar, s, t, el⟩ := b
  obtain ⟨s0, s1, t0, a0⟩ := hb
  simp only at s0 s1 t0 a0 ht
  unfold lvlVal
  simp only
  have hmin := run_min_r (P := Try.prog)
  have hmax := run_max (P := Try.prog)
  have hc50 := costF_bd 50
  have hco := costF_bd o
  obtain ⟨W0, hW0⟩ : ∃ W0, W0 = w.alloc (.cells #[.int .i64 o, .int .i64 ar, .int .i64 s, .int .i64 t, .bool el] 97) := ⟨_, rfl⟩
  have hb0 : Below w.heap.size w W0 := by rw [hW0]; exact below_new w _
  have hrow : W0.heap[w.heap.size]? = some (.cells #[.int .i64 o, .int .i64 ar, .int .i64 s, .int .i64 t, .bool el] 97 (0, 0)) := by rw [hW0]; exact World.alloc_heap_new w _
  have h0 : W0.cell? ⟨w.heap.size, 0, none⟩ = some (.int .i64 o) := by rw [cell_of_row _ _ _ _ _ _ hrow]; rfl
  have h1 : W0.cell? ⟨w.heap.size, 1, none⟩ = some (.int .i64 ar) := by rw [cell_of_row _ _ _ _ _ _ hrow]; rfl
  have h2 : W0.cell? ⟨w.heap.size, 2, none⟩ = some (.int .i64 s) := by rw [cell_of_row _ _ _ _ _ _ hrow]; rfl
  have h3 : W0.cell? ⟨w.heap.size, 3, none⟩ = some (.int .i64 t) := by rw [cell_of_row _ _ _ _ _ _ hrow]; rfl
  have h4 : W0.cell? ⟨w.heap.size, 4, none⟩ = some (.bool el) := by rw [cell_of_row _ _ _ _ _ _ hrow]; rfl
  have hsb := cut_nn (show 0 ≤ s + costF 50 by omega)
  have hsl := cut_le (s + costF 50)
  have HW0 := Lib.hid hW0
  have HB0 := Lib.hid hb0
  clear hW0 hb0 hrow
  have hE : endF ⟨o, ar, s, t, el⟩ = if o = 51 then cut (costF o + cut (cut ar * cut (s + costF 50))) else if el = true then cut (costF o + max t (cut (s + costF 50))) else cut (costF o + cut (s + costF 50)) := by
    unfold endF timesF
    simp only
    split
    · rename_i h
      rw [h, cut_cut]
    · rfl
  rw [hE]
  clear hE
  obtain ⟨S, hS⟩ : ∃ S, cut (s + costF 50) = S := ⟨_, rfl⟩
  rw [hS] at hsb hsl ⊢
  by_cases h51 : o = 51
  · -- part loop
    rw [if_pos h51]
    subst h51
    have ha := a0 rfl
    have hca := cut_nn ha
    have hcl := cut_le ar
    have hm := mul_bd hca hcl hsb hsl
    have hwm : IntKind.i64.wrap (cut ar * S) = cut ar * S := by rw [IntKind.wrap_i64]; omega
    have hcm := cut_nn hm.1
    have hcm2 := cut_le (cut ar * S)
    go_enter Try.func86, Try.ntmps86
    go_upto_region 1 with (fail)
    rw [← HW0.out]
    go_upto_region 2 with (first
      | (go_at_call 84; (with_reducible refine (costr_any 50 _).mono ?_); go_must (rintro e w1 ⟨rfl, hb1⟩; have h0 := cell_ext h0 hb1; have h1 := cell_ext h1 hb1; have h2 := cell_ext h2 hb1; have h3 := cell_ext h3 hb1; have h4 := cell_ext h4 hb1; have HB1 := Lib.hid (HB0.out.trans (hb1.mono HB0.out.size)); clear hb1)))
    go_upto_region 3 with (first
      | (go_at_call 85; (with_reducible refine (cutr_any _ _).mono ?_); rintro e w2 ⟨rfl, rfl⟩))
    go_upto_region 4 with (fail)
    have hw2 : IntKind.i64.wrap (costF 51 + cut (cut ar * S)) = costF 51 + cut (cut ar * S) := by rw [IntKind.wrap_i64]; omega
    go_region_held3 (fun W => W.cell? ⟨w.heap.size, 0, none⟩ = some (.int .i64 51) ∧ W.cell? ⟨w.heap.size, 1, none⟩ = some (.int .i64 ar) ∧ Below w1.heap.size w1 W)
      (first | assumption | exact ⟨h0, h1, (Below.refl _ _).drew⟩ | (with_reducible exact keep2 (by assumption) (by assumption)) | (with_reducible exact keep2 (by assumption) (below_new _ _)))
      (first
        | (go_at_call 84; (with_reducible refine (costr_any 51 _).mono ?_); rintro e w2 ⟨rfl, hb2⟩)
        | (go_at_call 85; (with_reducible refine (cutr_any _ _).mono ?_); rintro e w3 ⟨rfl, rfl⟩))
    all_goals
      obtain ⟨_, _, hx⟩ := ‹_ ∧ _ ∧ Below w1.heap.size w1 _›
      try simp only [hwm, hw2]
      go_wp2_with (fail)
      go_ret
      exact ⟨rfl, HB1.out.trans (hx.mono HB1.out.size)⟩
    -- end loop
  · rw [if_neg h51]
    have e51 : (o == 51) = false := by simpa using h51
    cases el with
    | true =>
      -- part els
      rw [if_pos rfl]
      have hmx : 0 ≤ max t S ∧ max t S ≤ 1048577 := by omega
      go_enter Try.func86, Try.ntmps86
      go_upto_region 1 with (fail)
      rw [← HW0.out]
      go_upto_region 2 with (first
        | (go_at_call 84; (with_reducible refine (costr_any 50 _).mono ?_); go_must (rintro e w1 ⟨rfl, hb1⟩; have h0 := cell_ext h0 hb1; have h1 := cell_ext h1 hb1; have h2 := cell_ext h2 hb1; have h3 := cell_ext h3 hb1; have h4 := cell_ext h4 hb1; have HB1 := Lib.hid (HB0.out.trans (hb1.mono HB0.out.size)); clear hb1)))
      go_upto_region 3 with (first
        | (go_at_call 85; (with_reducible refine (cutr_any _ _).mono ?_); rintro e w2 ⟨rfl, rfl⟩))
      have hw2 : IntKind.i64.wrap (costF o + max t S) = costF o + max t S := by rw [IntKind.wrap_i64]; omega
      go_upto_region 6 with (fail)
      go_region_held3 (fun W => W.cell? ⟨w.heap.size, 0, none⟩ = some (.int .i64 o) ∧ W.cell? ⟨w.heap.size, 3, none⟩ = some (.int .i64 t) ∧ Below w1.heap.size w1 W)
        (first | assumption | exact ⟨h0, h3, (Below.refl _ _).drew⟩ | (with_reducible exact keep2 (by assumption) (by assumption)) | (with_reducible exact keep2 (by assumption) (below_new _ _)))
        (first
          | (go_at_call 84; (with_reducible refine (costr_any o _).mono ?_); rintro e w2 ⟨rfl, hb2⟩)
          | (go_at_call 85; (with_reducible refine (cutr_any _ _).mono ?_); rintro e w3 ⟨rfl, rfl⟩))
      all_goals
        obtain ⟨_, _, hx⟩ := ‹_ ∧ _ ∧ Below w1.heap.size w1 _›
        try simp only [hw2]
        go_wp2_with (fail)
        go_ret
        exact ⟨rfl, HB1.out.trans (hx.mono HB1.out.size)⟩
      -- end els
    | false =>
      rw [if_neg (by simp)]
      go_enter Try.func86, Try.ntmps86
      go_upto_region 1 with (fail)
      rw [← HW0.out]
      go_upto_region 2 with (first
        | (go_at_call 84; (with_reducible refine (costr_any 50 _).mono ?_); go_must (rintro e w1 ⟨rfl, hb1⟩; have h0 := cell_ext h0 hb1; have h1 := cell_ext h1 hb1; have h2 := cell_ext h2 hb1; have h3 := cell_ext h3 hb1; have h4 := cell_ext h4 hb1; have HB1 := Lib.hid (HB0.out.trans (hb1.mono HB0.out.size)); clear hb1)))
      go_upto_region 3 with (first
        | (go_at_call 85; (with_reducible refine (cutr_any _ _).mono ?_); rintro e w2 ⟨rfl, rfl⟩))
      go_wp2_with (first
        | (go_at_call 84; (with_reducible refine (costr_any o _).mono ?_); rintro e w2 ⟨rfl, hb2⟩)
        | (go_at_call 85; (with_reducible refine (cutr_any _ _).mono ?_); rintro e w3 ⟨rfl, rfl⟩))
      go_ret
      exact ⟨rfl, HB1.out.trans (hb2.mono HB1.out.size)⟩
end Go.Proofs.Ytchmgilckiadaaa
