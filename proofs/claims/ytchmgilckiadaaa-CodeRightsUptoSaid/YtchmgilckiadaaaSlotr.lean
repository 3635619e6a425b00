/- ref04.Slots: a function's slots. -/
import Derived.Test.YtchmgilckiadaaaScr
import Derived.Test.YtchmgilckiadaaaApp
namespace Go.Proofs.Ytchmgilckiadaaa
open Go.RowKit
theorem ints_range (xs : List Int) : intVals xs = (List.range (xs.length * 1)).map (fun j => .int .i64 (xs.getD j 0)) := by
  apply List.ext_getElem?
  intro j
  by_cases h : j < xs.length
  · simp [intVals, h]
  · rw [List.getElem?_eq_none (by simp [intVals]; omega), List.getElem?_eq_none (by simp; omega)]
def anc1 (j : Nat) : List Nat := ([[], [], [1], [0, 1, 2], [], [4], [0, 1, 2, 3, 4, 5], [0, 1, 2, 3, 4, 5, 6]] : List (List Nat)).getD j []
def kl1 (j : Nat) : List Nat := ([[3, 6], [], [], [6]] : List (List Nat)).getD j []
theorem arr_list (t : Array Value) (n : Nat) (h : t.size = n) : t = ((List.range n).map fun i => t.getD i undef).toArray := by
  apply Array.ext
  · simp [h]
  · intro i h1 h2
    simp [Array.getD_eq_getD_getElem?, h1]
/-- append(own, ints...), in whatever world. -/
theorem ints_append {W0 u : World} {v src : Value} {n : Nat} {xs ys : List Int} (hb : Below W0.heap.size W0 u) (hown : u.ownsRow W0.heap.size 3 1 v n (intVals xs)) (hn : n = xs.length) (hsrc : Ints u src ys) (hl : (n + ys.length) * 8 ≤ 140737488355328) :
    ∃ v' w', (Builtin.append_ #[23, 23] 23 #[v, src]).run Try.prog u = .ok v' w' ∧ (w'.ownsRow W0.heap.size 3 1 v' (n + ys.length) (intVals (xs ++ ys)) ∧ Below W0.heap.size W0 w' ∧ u.heap.size ≤ w'.heap.size ∧ ∀ q, q < u.heap.size → some q ≠ v.ownBlock → w'.heap[q]? = u.heap[q]?) := by
  obtain ⟨v', w', h1, h2, h3, _⟩ := run_append_any (P := Try.prog) u W0.heap.size 23 23 3 _ 1 8 Try.underlying23 info_int rfl (by decide) v src n ys.length (intVals xs) (intVals ys) hown (fun j => .int .i64 (ys.getD j 0)) hsrc.at_ (ints_range ys) (fun j => rfl) (by unfold maxLen; omega) hl hb.size
  refine ⟨v', w', h1, by rw [show intVals (xs ++ ys) = intVals xs ++ intVals ys by simp [intVals]]; exact h2, hb.trans ⟨h3.os, h3.tape, h3.output, h3.size, fun q hq => h3.block q (Nat.lt_of_lt_of_le hq hb.size) (fun hh => by have := (hown.lt q hh.symm).1; omega)⟩, h3.size, fun q hq hne => h3.block q hq hne⟩
set_option maxRecDepth 100000 in
theorem slotr_any (v : Value) (f : Fn) (w : World) (h : FnVal w v f) (hl1 : f.params.length * 8 ≤ 70368744177664) (hl2 : f.locals.length * 8 ≤ 70368744177664) :
    Calls Try.prog 39 #[v] w fun e w' => (∃ v', e = .returned v' ∧ Ints w' v' (f.params ++ f.locals)) ∧ Below w.heap.size w w' := by
  obtain ⟨vp, vr, vl, vc, rfl, h⟩ := h
  obtain ⟨W0, hW0⟩ : ∃ W0, W0 = w.alloc (.cells #[vp, vr, vl, vc] 53) := ⟨_, rfl⟩
  have hb0 : Below w.heap.size w W0 := by rw [hW0]; exact below_new w _
  have hrow : W0.heap[w.heap.size]? = some (.cells #[vp, vr, vl, vc] 53 (0, 0)) := by rw [hW0]; exact World.alloc_heap_new w _
  have h0 : W0.cell? ⟨w.heap.size, 0, none⟩ = some vp := by rw [cell_of_row _ _ _ _ _ _ hrow]; rfl
  have h2 : W0.cell? ⟨w.heap.size, 2, none⟩ = some vl := by rw [cell_of_row _ _ _ _ _ _ hrow]; rfl
  have hsz : w.heap.size < W0.heap.size := heap_lt hrow
  have H := Lib.hid (h.ext hb0)
  have HW0 := Lib.hid hW0
  have HB0 := Lib.hid hb0
  clear h hW0 hb0 hrow
  go_enter Try.func39, Try.ntmps39
  go_upto_region 1 with (fail)
  rw [← HW0.out]
  refine region_slots (by kernel_rfl) (fun u => Below W0.heap.size W0 u) (fun _ _ => True)
    (fun j v u => match j with
      | 0 => ∃ q, v = .slice (some ⟨q, 0, none⟩) 0 0 ∧ W0.heap.size ≤ q ∧ u.heap[q]? = some (.cells #[] 3 (0, 0))
      | 1 => v = .pointer (some ⟨w.heap.size, 0, none⟩)
      | 2 => v = vp
      | 3 => u.ownsRow W0.heap.size 3 1 v f.params.length (intVals f.params)
      | 4 => v = .pointer (some ⟨w.heap.size, 2, none⟩)
      | 5 => v = vl
      | 6 => u.ownsRow W0.heap.size 3 1 v (f.params.length + f.locals.length) (intVals (f.params ++ f.locals))
      | 7 => u.ownsRow W0.heap.size 3 1 v (f.params.length + f.locals.length) (intVals (f.params ++ f.locals))
      | _ => True)
    (fun i u u' => u.heap.size ≤ u'.heap.size ∧ (i ≠ 3 → i ≠ 6 → ∀ b, b < u.heap.size → u'.heap[b]? = u.heap[b]?)) anc1 kl1 (fun _ => []) (by kernel_rfl) ?_ (fun _ _ _ _ _ _ _ => trivial) ?_ (fun _ => trivial) ?_ ?_
  · intro i j v u u' ha hk hne hF hkp
    obtain ⟨hsz1, hbl⟩ := hkp
    have hown : ∀ {n xs}, i ≠ 3 → i ≠ 6 → u.ownsRow W0.heap.size 3 1 v n xs → u'.ownsRow W0.heap.size 3 1 v n xs := fun h3 h6 h => by
      refine ⟨h.1, ?_⟩
      rcases h.2 with h1 | ⟨g, cap, cur, h1, h2, h4, h5⟩
      · exact .inl h1
      · exact .inr ⟨g, cap, cur, h1, h2, (hbl h3 h6 g (heap_lt h4)).trans h4, h5⟩
    match j, ha, hk, hne, hF with
    | 0, ha, hk, hne, hF =>
      obtain ⟨q, e, h1, h2⟩ := hF
      exact ⟨q, e, h1, (hbl (fun e => hk (by rw [e]; simp [kl1])) (fun e => hk (by rw [e]; simp [kl1])) q (heap_lt h2)).trans h2⟩
    | 1, _, _, _, hF => exact hF
    | 2, _, _, _, hF => exact hF
    | 3, ha, hk, hne, hF => exact hown hne (fun e => hk (by rw [e]; simp [kl1])) hF
    | 4, _, _, _, hF => exact hF
    | 5, _, _, _, hF => exact hF
    | 6, ha, hk, hne, hF => exact hown (fun e => ha (by rw [e]; simp [anc1])) hne hF
    | 7, ha, hk, hne, hF => exact hown (fun e => ha (by rw [e]; simp [anc1])) (fun e => ha (by rw [e]; simp [anc1])) hF
    | _ + 8, _, _, _, _ => trivial
  · exact (Below.refl _ _).drew
  · intro a u hts hdf hold hG i o ho _ hpre K hK
    have hi : i < 8 := (Array.getElem?_eq_some_iff.1 ho).1
    match i, hi with
    | 0, _ =>
      simp at ho
      subst ho
      refine step_val (v := .slice (some ⟨u.heap.size, 0, none⟩) 0 0) (w' := u.alloc (.cells #[] 3)) rfl ?_ (hK _ _ (hG.alloc hG.size _) ⟨by simp, fun _ _ b hb => ?_⟩ ⟨_, rfl, hG.size, World.alloc_heap_new u _⟩)
      · simp only [execOp, Act.eval]
        go_simp
      · exact (below_new u _).block b hb
    | 1, _ =>
      simp at ho
      subst ho
      have e1 := hold 1 rfl
      refine step_val (v := .pointer (some ⟨w.heap.size, 0, none⟩)) (w' := u) rfl ?_ (hK _ _ hG ⟨Nat.le_refl _, fun _ _ _ _ => rfl⟩ rfl)
      simp only [execOp, Act.eval, e1]
      go_simp
    | 2, _ =>
      simp at ho
      subst ho
      have e1 := (hpre ⟨1, .data⟩ (by simp) rfl (by kernel_rfl) _ rfl).1 _ rfl
      have hc := (hG.cell (p := ⟨w.heap.size, 0, none⟩) hsz).trans h0
      simp only at e1
      refine step_val (v := vp) (w' := u) rfl ?_ (hK _ _ hG ⟨Nat.le_refl _, fun _ _ _ _ => rfl⟩ rfl)
      simp only [execOp, Act.eval, e1]
      go_simp
    | 3, _ =>
      simp at ho
      subst ho
      obtain ⟨q, e0, hq, hqb⟩ := (hpre ⟨0, .data⟩ (by simp) rfl (by kernel_rfl) _ rfl).1 _ rfl
      have e2 := (hpre ⟨2, .data⟩ (by simp) rfl (by kernel_rfl) _ rfl).1 _ rfl
      simp only at e2
      have hown : u.ownsRow W0.heap.size 3 1 (.slice (some ⟨q, 0, none⟩) 0 0) 0 (intVals []) := ⟨rfl, .inr ⟨q, 0, #[], rfl, hq, hqb, Nat.le_refl _, Nat.zero_le _, rfl, rfl⟩⟩
      have hrun := ints_append hG hown rfl (H.out.p.ext hG) (by omega)
      rw [Nat.zero_add, List.nil_append] at hrun
      refine step_app rfl (.tmp 3) (.tmp 5) 23 rfl _ _ e0 e2 hrun fun v' w' h => ?_
      exact hK _ _ h.2.1 ⟨h.2.2.1, fun h => absurd rfl h⟩ h.1
    | 4, _ =>
      simp at ho
      subst ho
      have e1 := hold 1 rfl
      refine step_val (v := .pointer (some ⟨w.heap.size, 2, none⟩)) (w' := u) rfl ?_ (hK _ _ hG ⟨Nat.le_refl _, fun _ _ _ _ => rfl⟩ rfl)
      simp only [execOp, Act.eval, e1]
      go_simp
    | 5, _ =>
      simp at ho
      subst ho
      have e1 := (hpre ⟨4, .data⟩ (by simp) rfl (by kernel_rfl) _ rfl).1 _ rfl
      have hc := (hG.cell (p := ⟨w.heap.size, 2, none⟩) hsz).trans h2
      simp only at e1
      refine step_val (v := vl) (w' := u) rfl ?_ (hK _ _ hG ⟨Nat.le_refl _, fun _ _ _ _ => rfl⟩ rfl)
      simp only [execOp, Act.eval, e1]
      go_simp
    | 6, _ =>
      simp at ho
      subst ho
      have hown := (hpre ⟨3, .data⟩ (by simp) rfl (by kernel_rfl) _ rfl).1 _ rfl
      have e2 := (hpre ⟨5, .data⟩ (by simp) rfl (by kernel_rfl) _ rfl).1 _ rfl
      simp only at e2 hown
      have hrun := ints_append hG hown rfl (H.out.l.ext hG) (by omega)
      refine step_app rfl (.tmp 6) (.tmp 8) 23 rfl _ _ rfl e2 hrun fun v' w' h => ?_
      exact hK _ _ h.2.1 ⟨h.2.2.1, fun _ h => absurd rfl h⟩ h.1
    | 7, _ =>
      simp at ho
      subst ho
      have hown := (hpre ⟨6, .data⟩ (by simp) rfl (by kernel_rfl) _ rfl).1 _ rfl
      simp only at hown
      refine step_val (v := a.tmps.getD 9 undef) (w' := u) rfl ?_ (hK _ _ hG ⟨Nat.le_refl _, fun _ _ _ _ => rfl⟩ hown)
      simp only [execOp, Act.eval]
      go_simp
  · intro a u hts hdf hold hG hdone
    have h7 := (hdone 7 _ rfl rfl).1 _ rfl
    have e0 := hold 0 rfl
    have e1 := hold 1 rfl
    clear hdone hold
    obtain ⟨tm, df⟩ := a
    simp only at hts hdf h7 e0 e1
    subst hdf
    have ht := arr_list tm 10 hts
    simp only [List.range, List.range.loop, List.map] at ht
    generalize tm.getD 2 undef = v2 at *
    rw [ht]
    clear ht hts
    generalize tm.getD 3 undef = v3
    generalize tm.getD 4 undef = v4
    generalize tm.getD 5 undef = v5
    generalize tm.getD 6 undef = v6
    generalize tm.getD 7 undef = v7
    generalize tm.getD 8 undef = v8
    generalize tm.getD 9 undef = v9
    have e0 : tm.getD 0 undef = .agg #[vp, vr, vl, vc] := e0
    have e1 : tm.getD 1 undef = .pointer (some ⟨w.heap.size, 0, none⟩) := e1
    rw [e0, e1]
    have hints : Ints u v2 (f.params ++ f.locals) := by
      have hl : f.params.length + f.locals.length = (f.params ++ f.locals).length := by simp
      rw [hl] at h7
      rcases h7.2 with ⟨hv, h0⟩ | ⟨q, cap, cur, hv, _, hh, _, _, _, htake⟩
      · rw [hv, List.length_eq_zero_iff.1 h0]
        exact ⟨⟨none, 0, rfl, fun h => by simp at h⟩, by simp, by simp⟩
      · rw [hv] at h7 ⊢
        refine ⟨⟨_, _, rfl, fun _ => ⟨_, _, rfl, fun j hj => ?_⟩⟩, by rw [← hl]; omega, fun x hx => ?_⟩
        · have hj' : j < (f.params ++ f.locals).length := by omega
          rw [Nat.zero_add, h7.cellAt j (by omega)]
          simp only [intVals, List.getElem?_map, List.getElem?_eq_getElem hj', List.getD_eq_getElem?_getD, Option.map_some, Option.getD_some]
        · rcases List.mem_append.1 hx with h | h
          · exact H.out.p.i64 x h
          · exact H.out.l.i64 x h
    have HI := Lib.hid hints
    have HG := Lib.hid hG
    clear hints hG h7
    go_wp2_with (fail)
    go_ret
    exact ⟨⟨_, rfl, HI.out⟩, HB0.out.trans (HG.out.mono HB0.out.size)⟩
end Go.Proofs.Ytchmgilckiadaaa
