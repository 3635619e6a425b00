/- shape: the stack's find, at scan's question: the topmost block that is a loop. -/
import Derived.Test.YtchmgilckiadaaaBack
import Derived.RangeFuncFrom
import Derived.Deep.RegionHeld
namespace Go.Proofs.Ytchmgilckiadaaa
open Go.RowKit Go.Shelf
attribute [local go_sem] Oper.semAt_some
theorem downTo_all (n : Nat) : downTo n n = (List.range n).reverse := by
  apply List.ext_getElem
  · simp [downTo]
  · intro i h1 h2
    simp [downTo]
theorem downTo_prefix (n k : Nat) (hk : k ≤ n) : downTo n k <+: downTo n n := by
  obtain ⟨d, rfl⟩ := Nat.exists_eq_add_of_le hk
  refine ⟨(List.range d).map fun j => k + d - 1 - (k + j), ?_⟩
  simp only [downTo]
  rw [List.range_add, List.map_append, List.map_map]
  rfl
theorem box_cell {W : World} {B : Nat} {v : Value} {t : TypeId} (h : W.heap[B]? = some (.cells #[v] t (0, 0))) : W.cell? ⟨B, 0, none⟩ = some v ∧ W.frozen? ⟨B, 0, none⟩ = false := by
  constructor <;> simp [World.cell?, World.frozen?, h]
theorem box_new (W : World) (v : Value) (t : TypeId) : (W.alloc (.cells #[v] t)).cell? ⟨W.heap.size, 0, none⟩ = some v ∧ (W.alloc (.cells #[v] t)).frozen? ⟨W.heap.size, 0, none⟩ = false :=
  box_cell (World.alloc_heap_new W _)
theorem cellSetNe {W : World} {a b : Addr} {v x : Value} (hne : b.block ≠ a.block) (h : W.cell? a = some v) : (W.setCell b x).cell? a = some v := (World.cell?_setCell_far W b a x hne).trans h
theorem cellB {W W1 : World} {a : Addr} {v : Value} (hb : Below W.heap.size W W1) (h : W.cell? a = some v) : W1.cell? a = some v := cell_kept h (grownBy_below hb) (fun r e => by cases e)
theorem frozenB {W W1 : World} {a : Addr} {v : Value} (hb : Below W.heap.size W W1) (h : W.cell? a = some v) (hf : W.frozen? a = false) : W1.frozen? a = false := (frozen_kept h (grownBy_below hb) (fun r e => by cases e)).trans hf
theorem cell_alloc' {W : World} {a : Addr} {v : Value} (o : Obj) (h : W.cell? a = some v) : (W.alloc o).cell? a = some v := cell_kept h (World.grownBy_alloc W o none) (fun r e => by cases e)
theorem frozen_alloc' {W : World} {a : Addr} {v : Value} (o : Obj) (h : W.cell? a = some v) (hf : W.frozen? a = false) : (W.alloc o).frozen? a = false := (frozen_kept h (World.grownBy_alloc W o none) (fun r e => by cases e)).trans hf
theorem RowAt.le {w : World} {n₀ n₁ : Nat} {v : Value} {n : Nat} {vals : Nat → Value} (h : RowAt w n₀ v n vals) (hb : n₀ ≤ n₁) : RowAt w n₁ v n vals := by
  obtain ⟨A, c, rfl, hc⟩ := h
  refine ⟨A, c, rfl, fun h0 => ?_⟩
  obtain ⟨b, off, rfl, hlt, hd⟩ := hc h0
  exact ⟨b, off, rfl, by omega, hd⟩
theorem keeps_below {W W1 : World} (h : Below W.heap.size W W1) : KeepsOthers W W1 := ⟨h.size, fun k _ hk _ => (h.block k (heap_lt hk)).trans hk⟩
theorem downTo_lt {n k x : Nat} (hk : k ≤ n) (h : x ∈ downTo n k) : x < n := by
  simp only [downTo, List.mem_map, List.mem_range] at h
  obtain ⟨j, hj, rfl⟩ := h
  omega
theorem topLoop_none {c : List Ins} {l : List Blk} (h : ∀ k ∈ downTo l.length l.length, (opAt c (l.getD (min k (l.length - 1)) default).at_ == 51) = false) : topLoop c l = none := by
  unfold topLoop
  rw [← downTo_all, List.find?_eq_none]
  intro x hx
  have := h x hx
  rw [Nat.min_eq_left (by have := downTo_lt (Nat.le_refl _) hx; omega)] at this
  rw [this]; simp
theorem topLoop_some {c : List Ins} {l : List Blk} {pre : List Nat} {x k : Nat} (hk : k ≤ l.length) (hp : pre ++ [x] = downTo l.length k) (h : ∀ j ∈ pre, (opAt c (l.getD (min j (l.length - 1)) default).at_ == 51) = false) (hx : (opAt c (l.getD (min x (l.length - 1)) default).at_ == 51) = true) :
    topLoop c l = some (min x (l.length - 1)) := by
  have hlt : ∀ y ∈ pre ++ [x], y < l.length := fun y hy => downTo_lt hk (by rw [← hp]; exact hy)
  have hxl := hlt x (by simp)
  rw [Nat.min_eq_left (by omega)] at hx ⊢
  obtain ⟨rest, hr⟩ := downTo_prefix l.length k hk
  unfold topLoop
  rw [← downTo_all, ← hr, ← hp, List.append_assoc, List.find?_append]
  have : pre.find? (fun k => opAt c (l.getD k default).at_ == 51) = none := by
    rw [List.find?_eq_none]
    intro y hy
    have h1 := h y hy
    rw [Nat.min_eq_left (by have := hlt y (by simp [hy]); omega)] at h1
    rw [h1]; simp
  rw [this]
  simp only [Option.none_or, List.cons_append, List.nil_append, List.find?_cons, hx]
/-- What find answers. -/
def foundV (g : Nat → Nat) : Option Nat → Value
  | some k => .tuple #[.pointer (some ⟨g k, 0, none⟩), .bool true]
  | none => .tuple #[.pointer none, .bool false]
set_option maxRecDepth 100000 in
set_option maxHeartbeats 2000000 in
theorem find_any (gs bc : Nat) (vo vc : Value) (g : Nat → Nat) (vl : Nat → Value) (c : List Ins) (l : List Blk) (w : World) (hs : w.cell? ⟨gs, 0, none⟩ = some vo) (hrow : RowAt w w.heap.size vo l.length (fun i => .pointer (some ⟨g i, 0, none⟩))) (hn : l.length ≤ 1000)
    (hblk : ∀ i, i < l.length → w.heap[g i]? = some (.cells (blkCells (l.getD i default) (vl i)) 194 (0, 0))) (hat : ∀ i, i < l.length → (l.getD i default).at_ < c.length)
    (hbc : w.cell? ⟨bc, 0, none⟩ = some vc) (hcode : Code_ w vc c) :
    Calls Try.prog 177 #[.pointer (some ⟨gs, 0, none⟩), .func (.func 178) #[] #[.pointer (some ⟨bc, 0, none⟩)]] w
      fun e w' => e = .returned (foundV g (topLoop c l)) ∧ Below w.heap.size w w' := by
  refine (callsIn_wide (n := 5)).1 ?_
  have h1 : 1 ≤ 5 := by omega
  have hgs : gs < w.heap.size := World.block_lt_of_cell? w ⟨gs, 0, none⟩ hs
  have hgs1 : gs < w.heap.size + 1 := by omega
  have hgs2 : gs < w.heap.size + 1 + 1 := by omega
  have HROW := Lib.hid hrow
  have HBLK := Lib.hid hblk
  have HAT := Lib.hid hat
  have HBC := Lib.hid hbc
  have HCODE := Lib.hid hcode
  clear hblk hat hbc hcode
  obtain ⟨A, cp, rfl, _⟩ := hrow
  refine callsIn_of_wp_marks Try.func177 rfl trivial ?_ rfl
  simp only [Try.ntmps177, List.size_toArray, List.length_cons, List.length_nil, Nat.reduceAdd, Nat.reduceSub, Array.replicate_succ, Array.replicate_zero, List.push_toArray, List.append_toArray, List.nil_append, List.cons_append]
  gi_wp2_with (refine ⟨trivial, ?_⟩; gi_at_call 191; refine (callsIn_wide.2 (back_ptr _ _ _ _)).mono ?_; rintro e w' ⟨rfl, rfl⟩)
  obtain ⟨fv, hfv⟩ : ∃ fv, fv = Value.func (.func 178) #[] #[.pointer (some ⟨bc, 0, none⟩)] := ⟨_, rfl⟩
  have c0 := box_new w fv 197
  have c1 := box_new (w.alloc (.cells #[fv] 197)) (.pointer none) 192
  have c2 := box_new ((w.alloc (.cells #[fv] 197)).alloc (.cells #[.pointer none] 192)) (.bool false) 4
  have c3 := box_new (((w.alloc (.cells #[fv] 197)).alloc (.cells #[.pointer none] 192)).alloc (.cells #[.bool false] 4)) (.slice A l.length cp) 150
  simp only [World.size_alloc] at c1 c2 c3
  have hB0 : Below w.heap.size w ((((w.alloc (.cells #[fv] 197)).alloc (.cells #[.pointer none] 192)).alloc (.cells #[.bool false] 4)).alloc (.cells #[.slice A l.length cp] 150)) :=
    ((((Below.refl _ w).alloc (Nat.le_refl _) _).alloc (by simp) _).alloc (by simp; omega) _).alloc (by simp; omega) _
  have d0 := cell_alloc' (.cells #[.slice A l.length cp] 150) (cell_alloc' (.cells #[.bool false] 4) (cell_alloc' (.cells #[.pointer none] 192) c0.1))
  have d1 := cell_alloc' (.cells #[.slice A l.length cp] 150) (cell_alloc' (.cells #[.bool false] 4) c1.1)
  have f1 := frozen_alloc' (.cells #[.slice A l.length cp] 150) (cell_alloc' (.cells #[.bool false] 4) c1.1) (frozen_alloc' (.cells #[.bool false] 4) c1.1 c1.2)
  have d2 := cell_alloc' (.cells #[.slice A l.length cp] 150) c2.1
  have f2 := frozen_alloc' (.cells #[.slice A l.length cp] 150) c2.1 c2.2
  rw [← hfv]
  generalize hW : (((w.alloc (.cells #[fv] 197)).alloc (.cells #[.pointer none] 192)).alloc (.cells #[.bool false] 4)).alloc (.cells #[.slice A l.length cp] 150) = W3 at *
  have hsz : W3.heap.size = w.heap.size + 4 := by rw [← hW]; simp
  clear hW
  refine wpIn_rangeFunc_ownF rfl h1 (gf := 199) (lb := #[.pointer (some ⟨w.heap.size + 1 + 1 + 1, 0, none⟩)]) rfl trivial (enters_of Try.func199 (by kernel_rfl) rfl)
    (back_stops_ptr Fence.wide (5 - 1) trivial rfl (by omega) (w.heap.size + 1 + 1 + 1) W3.heap.size l.length (.slice A l.length cp) (fun i => .pointer (some ⟨g i, 0, none⟩)) (by omega) W3 (by omega) (Nat.le_refl _) c3.1 ((HROW.out.below hB0).le (by omega))) belowK_t (belowK_b (by omega)) (Below.refl _ _) (fun _ => rfl)
    (fun pre W => ((∀ k ∈ pre, (opAt c (l.getD (min k (l.length - 1)) default).at_ == 51) = false) ∧ W.cell? ⟨w.heap.size, 0, none⟩ = some fv ∧ W.cell? ⟨w.heap.size + 1, 0, none⟩ = some (.pointer none) ∧ W.frozen? ⟨w.heap.size + 1, 0, none⟩ = false ∧ W.cell? ⟨w.heap.size + 1 + 1, 0, none⟩ = some (.bool false) ∧ W.frozen? ⟨w.heap.size + 1 + 1, 0, none⟩ = false ∧ W3.heap.size ≤ W.heap.size) ∧ Below w.heap.size w W)
    (fun r pre W => (r = .ret ∧ (∃ pre' x, pre = pre' ++ [x] ∧ (∀ j ∈ pre', (opAt c (l.getD (min j (l.length - 1)) default).at_ == 51) = false) ∧ (opAt c (l.getD (min x (l.length - 1)) default).at_ == 51) = true ∧ W.cell? ⟨w.heap.size + 1, 0, none⟩ = some (.pointer (some ⟨g (min x (l.length - 1)), 0, none⟩))) ∧ W.cell? ⟨w.heap.size + 1 + 1, 0, none⟩ = some (.bool true)) ∧ Below w.heap.size w W)
    (OwnFrom.and (Own.from (fun s A B row hs hg hr => ⟨hs.1, cell_kept hs.2.1 hg hr, cell_kept hs.2.2.1 hg hr, (frozen_kept hs.2.2.1 hg hr).trans hs.2.2.2.1, cell_kept hs.2.2.2.2.1 hg hr, (frozen_kept hs.2.2.2.2.1 hg hr).trans hs.2.2.2.2.2.1, Nat.le_trans hs.2.2.2.2.2.2 hg.size⟩) _) (ownFrom_below (Nat.le_refl _) (by omega)))
    (fun r => OwnFrom.and (Own.from (fun s A B row hs hg hr => by obtain ⟨h1, ⟨pre', k, h2, h3, h4, h5⟩, h6⟩ := hs; exact ⟨h1, ⟨pre', k, h2, h3, h4, cell_kept h5 hg hr⟩, cell_kept h6 hg hr⟩) _) (ownFrom_below (Nat.le_refl _) (by omega)))
    ⟨⟨by simp, d0, d1, f1, d2, f2, Nat.le_refl _⟩, hB0⟩
    (fun x => { tmps := #[.pointer (some ⟨gs, 0, none⟩), fv, undef, .pointer (some ⟨w.heap.size, 0, none⟩), .pointer (some ⟨w.heap.size + 1, 0, none⟩), .pointer (some ⟨w.heap.size + 1 + 1, 0, none⟩), undef, .pointer (some ⟨g (min x (l.length - 1)), 0, none⟩), .pointer (some ⟨gs, 0, none⟩), .pointer (some ⟨gs, 0, none⟩), .pointer (some ⟨gs, 0, none⟩), .slice A l.length cp,
      .func (.func 199) #[] #[.pointer (some ⟨w.heap.size + 1 + 1 + 1, 0, none⟩)], .int .i64 ((min x (l.length - 1) : Nat) : Int), .pointer (some ⟨g (min x (l.length - 1)), 0, none⟩), undef, undef, undef, undef, undef], defers := [] }) ?assign ?body ?done ?stop
  case assign =>
    intro l x W K hK
    subst hfv
    gi_wp2
    exact hK
  case body =>
    rintro lp pre x W ⟨⟨hp, hc0, hc1, hf1, hc2, hf2, hsW⟩, hB⟩ hpl
    obtain ⟨k, hk⟩ : ∃ k, k = min x (l.length - 1) := ⟨_, rfl⟩
    have hkl : k < l.length := by omega
    rw [← hk]
    have HP := Lib.hid hp
    have HK := Lib.hid hk
    clear hp hk
    have hscan := scan1_any bc (g k) vc c (l.getD k default) (vl k) W ((hB.cell (p := ⟨bc, 0, none⟩) (World.block_lt_of_cell? w ⟨bc, 0, none⟩ HBC.out)).trans HBC.out) ((HCODE.out.ext hB)) ((hB.block _ (heap_lt (HBLK.out k hkl))).trans (HBLK.out k hkl)) (HAT.out k hkl)
    subst hfv
    gi_wp2_with (refine ⟨trivial, ?_⟩; gi_at_call 178; refine (CallsIn.inRound lp (callsIn_wide.2 hscan)).mono ?_; rintro e W1 ⟨rfl, hB1⟩; have k1 := cellB hB1 hc1; have k2 := frozenB hB1 hc1 hf1; have k3 := cellB hB1 hc2; have k4 := frozenB hB1 hc2 hf2; have k5 := cellB hB1 hc0)
    · rename_i hq
      have hq' : (opAt c (l.getD k default).at_ == 51) = true := by simpa [hkl] using hq
      exact ⟨((keeps_below hB1).trans (KeepsOthers.setCell _ _ _)).trans (KeepsOthers.setCell _ _ _),
        ⟨rfl, ⟨pre, x, rfl, HP.out, by rw [← HK.out]; exact hq', by rw [← HK.out]; exact cellSetNe (by simp) (World.cell?_setCell_same' _ _ _ (by rw [k1]; rfl))⟩, World.cell?_setCell_same' _ _ _ (by rw [cellSetNe (by simp) k3]; rfl)⟩,
        ((hB.trans (hB1.mono hB.size)).setCell (p := ⟨w.heap.size + 1, 0, none⟩) (by simp) _).setCell (p := ⟨w.heap.size + 1 + 1, 0, none⟩) (by simp; omega) _⟩
    · rename_i hq
      have hq' : (opAt c (l.getD k default).at_ == 51) = false := by simpa [hkl] using hq
      refine ⟨keeps_below hB1, hB1.mono hsW, ⟨fun y hy => ?_, k5, k1, k2, k3, k4, Nat.le_trans hsW hB1.size⟩, hB.trans (hB1.mono hB.size)⟩
      rcases List.mem_append.1 hy with h | h
      · exact HP.out y h
      · have : y = x := by simpa using h
        rw [this, ← HK.out]; exact hq'
  case done =>
    rintro D ys W hD rfl ⟨⟨hne, _, hc1, hf1, hc2, hf2, _⟩, hB⟩ hK
    have HNE := Lib.hid hne
    clear hne
    gi_wp2
    have hK1 := (KeepsOthers.setCell W ⟨w.heap.size + 1, 0, none⟩ (.pointer none)).same D _ hK rfl
    have hK' := (KeepsOthers.setCell (W.setCell ⟨w.heap.size + 1, 0, none⟩ (.pointer none)) ⟨w.heap.size + 1 + 1, 0, none⟩ (.bool false)).same D _ hK1 rfl
    refine ⟨by simp, .inl ⟨_, _, rfl, run_takeDeferred hK', ?_⟩⟩
    have e4 := cell_kept (cellSetNe (b := ⟨w.heap.size + 1 + 1, 0, none⟩) (x := .bool false) (by simp) (World.cell?_setCell_same' W ⟨w.heap.size + 1, 0, none⟩ (.pointer none) (by rw [hc1]; rfl))) (grownBy_putObj' _ D (.deferred none)) (fun r e => by cases e; exact ⟨_, hK', rfl⟩)
    have e5 := cell_kept (World.cell?_setCell_same' (W.setCell ⟨w.heap.size + 1, 0, none⟩ (.pointer none)) ⟨w.heap.size + 1 + 1, 0, none⟩ (.bool false) (by rw [cellSetNe (by simp) hc2]; rfl)) (grownBy_putObj' _ D (.deferred none)) (fun r e => by cases e; exact ⟨_, hK', rfl⟩)
    refine ⟨foundV g (topLoop c l), ?_, rfl, ((hB.setCell (p := ⟨w.heap.size + 1, 0, none⟩) (by simp) _).setCell (p := ⟨w.heap.size + 1 + 1, 0, none⟩) (by simp; omega) _).trans (belowK_b (w := w) (Nat.le_refl _) _ D _ _ (by omega) hK' rfl rfl)⟩
    rw [topLoop_none HNE.out]
    simp [results, Try.f177, go_sem, e4, e5, foundV]
  case stop =>
    rintro D r pre W hD hpre ⟨⟨rfl, ⟨pre', k, rfl, hne, hk, hc1⟩, hc2⟩, hB⟩ hK
    have HNE := Lib.hid hne
    have HPR := Lib.hid hpre
    have HKK := Lib.hid hk
    clear hne hpre hk
    gi_wp2
    refine ⟨by simp, .inl ⟨_, _, rfl, run_takeDeferred hK, ?_⟩⟩
    have e4 := cell_kept hc1 (grownBy_putObj' _ D (.deferred none)) (fun r e => by cases e; exact ⟨_, hK, rfl⟩)
    have e5 := cell_kept hc2 (grownBy_putObj' _ D (.deferred none)) (fun r e => by cases e; exact ⟨_, hK, rfl⟩)
    refine ⟨foundV g (topLoop c l), ?_, rfl, hB.trans (belowK_b (w := w) (Nat.le_refl _) W D _ _ (by omega) hK rfl rfl)⟩
    obtain ⟨k1, hk1, hpp⟩ := HPR.out
    rw [topLoop_some hk1 hpp HNE.out HKK.out]
    simp [results, Try.f177, go_sem, e4, e5, foundV]
end Go.Proofs.Ytchmgilckiadaaa
