/- shape.scan: the walk. -/
import Derived.Test.YtchmgilckiadaaaShq
import Derived.Test.YtchmgilckiadaaaFind
import Derived.Test.YtchmgilckiadaaaRep
import Derived.Test.YtchmgilckiadaaaSum
import Derived.Deep.CutBlock
import Derived.Deep.DeepMust
import Derived.Deep.RegionHeld3
import Derived.WalkSpells
namespace Go.Proofs.Ytchmgilckiadaaa
open Go.RowKit
theorem row_slice {w : World} {B e s n : Nat} {v : Value} {xs : List Value} (h : w.ownsRow B e s v n xs) : ∃ A cap, v = .slice A n cap := by
  rcases h.2 with ⟨rfl, rfl, _⟩ | ⟨q, cap, cur, rfl, _⟩
  · exact ⟨none, 0, rfl⟩
  · exact ⟨_, _, rfl⟩
theorem SAt.top {B : Nat} {w : World} {gs gm d cap : Nat} {R : Option Addr} {g : Nat → Nat} {vl : Nat → Value} {l0 : List Blk} {b : Blk} {m : List Int} (h : SAt B w gs gm (.slice R (d + 1) cap) g vl (l0 ++ [b]) m) (hd : l0.length = d) :
    ∃ ra, R = some ⟨ra, 0, none⟩ ∧ d + 1 ≤ cap ∧ w.cell? ⟨ra, d, none⟩ = some (.pointer (some ⟨g d, 0, none⟩)) ∧
      w.cell? ⟨g d, 0, none⟩ = some (.int .i64 (b.at_ : Int)) ∧ w.cell? ⟨g d, 1, none⟩ = some (.int .i64 b.other) ∧ w.cell? ⟨g d, 2, none⟩ = some (vl d) ∧
      (∀ j, w.frozen? ⟨g d, j, none⟩ = false) ∧ (¬ ra = g d ∧ ¬ gs = g d ∧ ¬ gm = g d ∧ ¬ ra = gs ∧ ¬ ra = gm ∧ ¬ gs = gm) ∧ (ra < w.heap.size ∧ g d < w.heap.size ∧ gs < w.heap.size ∧ gm < w.heap.size) ∧ d + 1 ≤ cap ∧ cap ≤ maxLen := by
  have hlen : (l0 ++ [b]).length = d + 1 := by simp [hd]
  have hb := h.blk d (by omega)
  have hbd : (l0 ++ [b]).getD d default = b := by subst hd; simp
  rw [hbd] at hb
  have hr := h.row
  rw [hlen] at hr
  rcases hr.2 with ⟨_, h0⟩ | ⟨ra, cap', cur, hv, hB, hh, hnc, hcm, _, _⟩
  · omega
  · injection hv with h1 _ h3
    subst h1
    subst h3
    have h2 := hr.cellAt d (by omega)
    have h3 : (ptrs g (d + 1))[d]? = some (.pointer (some ⟨g d, 0, none⟩)) := by simp [ptrs, ptrB]
    rw [h3] at h2
    have c0 := cell_of_row w (g d) 0 _ _ _ hb
    have c1 := cell_of_row w (g d) 1 _ _ _ hb
    have c2 := cell_of_row w (g d) 2 _ _ _ hb
    obtain ⟨n1, n2, n3⟩ := h.rowBlock (k := ra) rfl
    refine ⟨ra, rfl, hnc, h2, c0, c1, c2, fun j => frozen_of_row w (g d) j _ _ hb, ⟨(n3 d (by omega)).1, type_ne h.sblk hb (by decide), type_ne h.mrow hb (by decide), n1, n2, type_ne h.sblk h.mrow (by decide)⟩, ⟨heap_lt hh, heap_lt hb, heap_lt h.sblk, heap_lt h.mrow⟩, hnc, hcm⟩
theorem snoc_cases {α : Type} (l : List α) : l = [] ∨ ∃ l0 b, l = l0 ++ [b] := by
  rcases List.eq_nil_or_concat l with h | ⟨l0, b, h⟩
  · exact .inl h
  · exact .inr ⟨l0, b, by rw [h, List.concat_eq_append]⟩
theorem rowAt_of_own {w : World} {B e n : Nat} {v : Value} {xs : List Value} {vals : Nat → Value} (h : w.ownsRow B e 1 v n xs) (hx : ∀ j, j < n → xs[j]? = some (vals j)) : RowAt w w.heap.size v n vals := by
  rcases h.2 with ⟨rfl, rfl⟩ | ⟨q, cap, cur, rfl, hb, hh, h1, h2, h3, h4⟩
  · exact ⟨none, 0, rfl, fun h0 => by omega⟩
  · refine ⟨_, cap, rfl, fun _ => ⟨q, 0, rfl, heap_lt hh, fun j hj => ?_⟩⟩
    have := World.ownsRow.cellAt (g := q) (cap := cap) h j (by omega)
    rw [Nat.zero_add, this, hx j hj]
theorem ptrs_at {g : Nat → Nat} {n j : Nat} (h : j < n) : (ptrs g n)[j]? = some (.pointer (some ⟨g j, 0, none⟩)) := by simp [ptrs, ptrB, h]
/-- A block's leaves, as they are read: not in the block of the places. -/
def LeafAt (w : World) (gm : Nat) (v : Value) (ls : List Nat) : Prop :=
  ∃ A cap, v = .slice A ls.length cap ∧ ∀ j, j < ls.length → ∃ lb, A = some ⟨lb, 0, none⟩ ∧ lb ≠ gm ∧ w.cell? ⟨lb, j, none⟩ = some (.int .i64 ((ls.getD j 0 : Nat) : Int))
theorem leafAt_own {B : Nat} {w : World} {gm : Nat} {v : Value} {ls : List Nat} (hr : w.ownsRow B 3 1 v ls.length (natInts ls)) (hd : v.ownBlock ≠ some gm) : LeafAt w gm v ls := by
  rcases hr.2 with ⟨hv, h0⟩ | ⟨q, cap, cur, hv, _⟩
  · exact ⟨none, 0, by rw [hv, h0], fun j hj => by omega⟩
  · refine ⟨_, cap, hv, fun j hj => ⟨q, rfl, fun e => hd (by rw [hv, e]; rfl), ?_⟩⟩
    rw [hv] at hr
    have := hr.cellAt j (by omega)
    rw [this]
    simp only [natInts, List.getElem?_map, List.getElem?_eq_getElem hj, Option.map_some, List.getD_eq_getElem?_getD, Option.getD_some]
theorem leafAt_pop {B : Nat} {w : World} {gs gm : Nat} {vo : Value} {g : Nat → Nat} {vl : Nat → Value} {l : List Blk} {m : List Int} (h : SAt B w gs gm vo g vl l m) {i : Nat} (hi : i < l.length) (x : Value) :
    LeafAt (w.setCell ⟨gs, 0, none⟩ x) gm (vl i) (l.getD i default).leaves := by
  have hr := h.lv i hi
  refine leafAt_own (hr.kept (grownBy_set w ⟨gs, 0, none⟩ x) ?_) (h.dm i hi)
  cases ho : (vl i).ownBlock with
  | none => exact .inl rfl
  | some q =>
    obtain ⟨_, cs, hh⟩ := own_heap hr ho
    exact .inr (by simpa using type_ne hh h.sblk (by decide))
theorem LeafAt.setM {w : World} {gm : Nat} {v : Value} {ls : List Nat} (h : LeafAt w gm v ls) (k : Nat) (x : Value) : LeafAt (w.setCell ⟨gm, k, none⟩ x) gm v ls := by
  obtain ⟨A, cap, hv, hc⟩ := h
  refine ⟨A, cap, hv, fun j hj => ?_⟩
  obtain ⟨lb, hA, hne, hcell⟩ := hc j hj
  exact ⟨lb, hA, hne, cellSetNe (fun e => hne e.symm) hcell⟩
theorem LeafAt.ext {w w1 : World} {gm : Nat} {v : Value} {ls : List Nat} (h : LeafAt w gm v ls) (hb : Below w.heap.size w w1) : LeafAt w1 gm v ls := by
  obtain ⟨A, cap, hv, hc⟩ := h
  refine ⟨A, cap, hv, fun j hj => ?_⟩
  obtain ⟨lb, hA, hne, hcell⟩ := hc j hj
  exact ⟨lb, hA, hne, cellB hb hcell⟩
theorem SAt.mcell {B : Nat} {w : World} {gs gm : Nat} {vo : Value} {g : Nat → Nat} {vl : Nat → Value} {l : List Blk} {m : List Int} (h : SAt B w gs gm vo g vl l m) (k : Nat) (hk : k < m.length) :
    w.cell? ⟨gm, k, none⟩ = some (.int .i64 (m.getD k 0)) ∧ w.frozen? ⟨gm, k, none⟩ = false := by
  refine ⟨?_, frozen_of_row w gm k _ _ h.mrow⟩
  rw [cell_of_row w gm k _ _ _ h.mrow]
  simp [intVals, hk]
/-- What scan answers. -/
def ScanPost (c : List Ins) (w : World) (e : Ending) (w' : World) : Prop :=
  (match scanF c with
  | some m => ∃ q, e = .returned (.tuple #[.slice (some ⟨q, 0, none⟩) c.length c.length, .int .i64 0]) ∧ w.heap.size ≤ q ∧ w'.heap[q]? = some (.cells (intVals m).toArray 3 (0, 0)) ∧ m.length = c.length
  | none => e = .returned (.tuple #[.slice none 0 0, .int .i64 31])) ∧ Below w.heap.size w w'
set_option maxRecDepth 100000 in
set_option maxHeartbeats 2000000 in
theorem scan_any (vc : Value) (c : List Ins) (w : World) (hc : Code_ w vc c) (hlen : c.length ≤ 8796093022208) :
    Calls Try.prog 126 #[vc, .func (.func 127) #[] #[]] w (ScanPost c w) := by
  obtain ⟨A, kc, hv, hr⟩ := hc.open_
  obtain ⟨W0, hW0⟩ : ∃ W0, W0 = w.alloc (.cells #[vc] 22) := ⟨_, rfl⟩
  obtain ⟨B, hs0⟩ : ∃ B, W0.heap.size = B := ⟨_, rfl⟩
  have hb0 : Below w.heap.size w W0 := by rw [hW0]; exact (Below.refl _ w).alloc (Nat.le_refl _) _
  have hB : B = w.heap.size + 1 := by rw [← hs0, hW0]; simp
  have hbc0 : W0.cell? ⟨w.heap.size, 0, none⟩ = some vc := by rw [hW0]; exact (box_new w vc _).1
  have HC := Lib.hid (hc.ext hb0)
  have hrep := rep_any W0.heap.size 1 c.length hlen (W0.alloc (.cells #[.int .i64 (-1)] 3)) (box_new W0 (.int .i64 (-1)) 3).1
  rw [World.size_alloc, hs0] at hrep
  have HREP := Lib.hid hrep
  have HB0 := Lib.hid hb0
  have HBC0 := Lib.hid hbc0
  have HW0 := Lib.hid hW0
  have HR := Lib.hid hr
  have HI64 := Lib.hid hc.i64
  clear hc hb0 hbc0 hr hW0 hrep
  subst hv
  go_enter Try.func126, Try.ntmps126
  go_upto_region 1 with (fail)
  rw [← HW0.out]
  have hbc1 := HBC0.out
  have hbB : w.heap.size < B := by omega
  have HBE := Lib.hid hB
  clear hB
  go_wp2_with (first
    | (go_at_call 175; (with_reducible refine HREP.out.mono ?_); rintro e w1 ⟨rfl, hrow, hb1⟩; have hbc2 := (hb1.cell (p := ⟨w.heap.size, 0, none⟩) (by simp; omega)).trans ((cell_alloc' _ hbc1)); have hsw1 : w.heap.size < w1.heap.size := World.block_lt_of_cell? w1 _ hbc2))
  have HB1 := Lib.hid hb1
  have HROW := Lib.hid hrow
  have hs1 : B + 1 < w1.heap.size := heap_lt hrow
  clear hb1 hrow hbc1
  obtain ⟨gs, hgs⟩ : ∃ gs, w1.heap.size = gs := ⟨_, rfl⟩
  rw [hgs]
  go_loopw [24] (fun i wr => ∃ (k : Nat) (l : List Blk) (m : List Int) (vo : Value) (g : Nat → Nat) (vl : Nat → Value), i = .int .i64 k ∧ k ≤ c.length ∧ scanTo c k = some (l, m) ∧ SAt B wr gs (B + 1) vo g vl l m ∧ Below B W0 wr)
    (fun i _ => c.length - (intOf i).toNat)
  case atStart =>
    refine ⟨0, [], List.replicate c.length (-1), .slice none 0 0, fun _ => 0, fun _ => .slice none 0 0, rfl, Nat.zero_le _, rfl, ?_, ?_⟩
    · refine ⟨?_, World.ownsRow_nil _ _ _ _, by simp, by simp, by simp, by omega, by omega, by simp, by simp, by simp, ?_⟩
      · rw [← hgs]; exact World.alloc_heap_new _ _
      · exact (grownBy_below ((Below.refl _ w1).alloc (Nat.le_refl _) _)).block _ hs1 (by simp) |>.trans HROW.out
    · have h1 := HB1.out
      have h2 : Below B W0 (W0.alloc (.cells #[.int .i64 (-1)] 3)) := (Below.refl _ W0).alloc (by omega) _
      exact (h2.trans (h1.mono (by omega))).alloc (by omega) _
  case round =>
    obtain ⟨k, l, m, vo, g, vl, rfl, hk, hst, hS, hb⟩ := hrel
    have hwr : Below w.heap.size w wr := HB0.out.trans (hb.mono (by omega))
    have hsz : B < wr.heap.size := by have := heap_lt hS.mrow; omega
    have hszw : w.heap.size < wr.heap.size := by omega
    have hbc := (hb.cell (p := ⟨w.heap.size, 0, none⟩) hbB).trans HBC0.out
    have hvo := cell_of_row wr gs 0 _ _ _ hS.sblk
    simp only [List.getElem?_toArray, List.getElem?_cons_zero] at hvo
    have hgsz := heap_lt hS.sblk
    obtain ⟨R, cap, rfl⟩ := row_slice hS.row
    have hok := scanTo_ok hst
    have HS := Lib.hid hS
    have HST := Lib.hid hst
    have HOK := Lib.hid hok
    have HB := Lib.hid hb
    have HWR := Lib.hid hwr
    have hl8 := hok.deep
    simp only at hl8
    clear hS hst hok hb hwr
    by_cases hlt : k < c.length
    · obtain ⟨b0, off, rfl, hd1, hd2⟩ := HR.out k hlt
      have hd1 := (HWR.out.cell (World.block_lt_of_cell? w _ hd1)).trans hd1
      have hd2 := (HWR.out.cell (World.block_lt_of_cell? w _ hd2)).trans hd2
      have hop : opAt c k = (c.getD k (0, 0)).1 := rfl
      generalize (c.getD k (0, 0)).1 = o at *
      generalize (c.getD k (0, 0)).2 = a at *
      have HOP := Lib.hid hop
      clear hop
      have hk0 : (0 : Int) ≤ (k : Int) := Int.natCast_nonneg _
      have hk1 : (k : Int) < (c.length : Int) := by omega
      have hk2 : (c.length : Int) ≤ 8796093022208 := by omega
      by_cases h48 : o = 48 ∨ o = 51
      · -- part push
        have hB2 : ∀ o b, Below wr.heap.size wr ((wr.alloc (.cells #[.int .i64 o, .int .i64 a] 35)).alloc b) := fun o b => ((Below.refl _ wr).alloc (Nat.le_refl _) _).alloc (by simp) _
        have hB3 : ∀ o b, Below B W0 ((wr.alloc (.cells #[.int .i64 o, .int .i64 a] 35)).alloc b) := fun o b => HB.out.trans ((hB2 o b).mono (by omega))
        have hS2 := fun o b => HS.out.below (hB2 o b)
        have hnew : ∀ o, ((wr.alloc (.cells #[.int .i64 o, .int .i64 a] 35)).alloc (.cells #[.int .i64 k, .int .i64 (-1), .slice none 0 0] 194)).heap[wr.heap.size + 1]? = some (.cells #[.int .i64 k, .int .i64 (-1), .slice none 0 0] 194 (0, 0)) := fun o => by
          have h := World.alloc_heap_new (wr.alloc (.cells #[.int .i64 o, .int .i64 a] 35)) (.cells #[.int .i64 k, .int .i64 (-1), .slice none 0 0] 194)
          rwa [World.size_alloc] at h
        have hp : ∀ o, Calls Try.prog 176 #[.pointer (some ⟨gs, 0, none⟩), .pointer (some ⟨wr.heap.size + 1, 0, none⟩)] ((wr.alloc (.cells #[.int .i64 o, .int .i64 a] 35)).alloc (.cells #[.int .i64 k, .int .i64 (-1), .slice none 0 0] 194))
            (fun e w' => e = .returned (.tuple #[]) ∧ ∃ R1 cap1 g1 vl1, SAt B w' gs (B + 1) (.slice R1 (l.length + 1) cap1) g1 vl1 (l ++ [⟨k, -1, []⟩]) m ∧ Below B W0 w') := fun o => by
          refine (push_any B gs (wr.heap.size + 1) l.length (.slice R l.length cap) (ptrs g l.length) _ (hS2 o _).sblk (hS2 o _).row (by simp; omega) (by omega)).mono ?_
          rintro e w' ⟨rfl, vo1, w2, hg, hrow1, rfl⟩
          obtain ⟨R1, cap1, rfl⟩ := row_slice hrow1
          refine ⟨rfl, R1, cap1, _, _, SAt.push (hS2 o _) (hnew o) (by omega) (fun i hi => ?_) rfl hg hrow1, ?_⟩
          · have := heap_lt (HS.out.blk i hi); omega
          · have hg2 : Below B ((wr.alloc (.cells #[.int .i64 o, .int .i64 a] 35)).alloc (.cells #[.int .i64 k, .int .i64 (-1), .slice none 0 0] 194)) w2 :=
              ⟨hg.os, hg.tape, hg.output, hg.size, fun q hq => hg.block q (by simp; omega) (fun hh => by obtain ⟨hle, _⟩ := own_heap (hS2 o (.cells #[.int .i64 k, .int .i64 (-1), .slice none 0 0] 194)).row hh.symm; omega)⟩
            exact ((hB3 o _).trans hg2).setCell HS.out.sge _
        have HP := Lib.hid hp
        clear hp hnew hS2 hB2 hB3
        have hl9 : (l.length : Int) ≤ 8 := by omega
        rcases h48 with rfl | rfl
        all_goals
          go_wp2_with (first
            | (go_at_call 127; (with_reducible refine (match1_any _ _ _).mono ?_); rintro e w2 ⟨rfl, rfl⟩)
            | (go_at_call 176; (with_reducible refine (HP.out _).mono ?_); go_must (rintro e w2 ⟨rfl, R1, cap1, g1, vl1, hS3, hb3⟩; have hvo3 := cell_of_row w2 gs 0 _ _ _ hS3.sblk; simp only [List.getElem?_toArray, List.getElem?_cons_zero] at hvo3; have HS3 := Lib.hid hS3; have HB3 := Lib.hid hb3; clear hS3 hb3)))
          · rename_i hdeep
            go_ret2
            refine ⟨?_, HB0.out.trans (HB3.out.mono (by omega))⟩
            have hsf : scanF c = none := scanF_none hlt HST.out (by simp [scanStep, HOP.out]; omega)
            rw [hsf]
            rfl
          · rename_i hdeep
            go_roundw
            case rel =>
              exact ⟨k + 1, l ++ [⟨k, -1, []⟩], m, _, g1, vl1, by go_num, hlt, scanTo_succ HST.out (by simp [scanStep, HOP.out]; omega), HS3.out, HB3.out⟩
            case measure => simp [intOf]; omega
        -- end push
      · by_cases h49 : o = 49
        · -- part els
          subst h49
          rcases snoc_cases l with rfl | ⟨l0, b, rfl⟩
          · go_wp2_with (go_at_call 127; (with_reducible refine (match1_any _ _ _).mono ?_); rintro e w2 ⟨rfl, rfl⟩)
            go_quiet (fail)
            go_wp2
            go_ret2
            refine ⟨?_, below_drewN (HWR.out.alloc (Nat.le_of_lt hszw) _) _⟩
            have hsf : scanF c = none := scanF_none hlt HST.out (by simp [scanStep, HOP.out])
            rw [hsf]
            rfl
          · have hdl : (l0 ++ [b]).length = l0.length + 1 := by simp
            obtain ⟨d, hd⟩ : ∃ d, l0.length = d := ⟨_, rfl⟩
            rw [hdl, hd] at HS hvo
            obtain ⟨ra, rfl, hdc, hrc, hbat, hbot, hblv, hbfz, ⟨n1, n2, n3, n4, n5, n6⟩, ⟨z1, z2, z3, z4⟩, _, hcm⟩ := HS.out.top hd
            have hbk := HOK.out.blk b (by simp)
            have hbl := hbk.at_
            obtain ⟨_, _, he, hq1, _⟩ := HR.out b.at_ (by omega)
            simp only [Option.some.injEq, Addr.mk.injEq, and_true] at he
            obtain ⟨rfl, rfl⟩ := he
            have hq1 := (HWR.out.cell (World.block_lt_of_cell? w _ hq1)).trans hq1
            have hopb : opAt c b.at_ = (c.getD b.at_ (0, 0)).1 := rfl
            generalize (c.getD b.at_ (0, 0)).1 = ob at hq1 hopb
            have HOPB := Lib.hid hopb
            have HBK := Lib.hid hbk
            clear hopb hbk
            have hb0 : (0 : Int) ≤ (b.at_ : Int) := Int.natCast_nonneg _
            have hb1 : (b.at_ : Int) < (c.length : Int) := by omega
            have hd0 : (0 : Int) ≤ (d : Int) := Int.natCast_nonneg _
            have hd8 : (d : Int) ≤ 8 := by simp at hl8; omega
            have hd9 : (d : Int) < (d : Int) + 1 := by omega
            clear hdl hl8
            generalize hob : b.other = bo at *
            generalize hba : b.at_ = ba at *
            generalize hgd : g d = gd at *
            have hdd : decide ((d : Int) < 0) = false := by simp
            have hz5 : b0 < wr.heap.size := World.block_lt_of_cell? wr _ hq1
            by_cases ho : 0 ≤ bo
            · obtain ⟨q, rfl⟩ := Int.eq_ofNat_of_zero_le ho
              have hqq : decide ((0 : Int) ≤ (q : Int)) = true := by simp
              clear ho
              go_wp2_with (go_at_call 127; (with_reducible refine (match1_any _ _ _).mono ?_); rintro e w2 ⟨rfl, rfl⟩)
              go_quiet (fail)
              go_wp2
              go_ret2
              refine ⟨?_, below_drewN (HWR.out.alloc (Nat.le_of_lt hszw) _) _⟩
              have hsf : scanF c = none := scanF_none hlt HST.out (by simp [scanStep, HOP.out, hob])
              rw [hsf]
              rfl
            · have hbo : bo = -1 := by have := HBK.out.lo; omega
              subst hbo
              clear ho
              by_cases hob8 : ob = 48
              · subst hob8
                go_wp2_with (go_at_call 127; (with_reducible refine (match1_any _ _ _).mono ?_); rintro e w2 ⟨rfl, rfl⟩)
                go_quiet (fail)
                have hBW : Below wr.heap.size wr ((wr.alloc (.cells #[.int .i64 49, .int .i64 a] 35)).drewN nq) := below_drewN ((Below.refl _ wr).alloc (Nat.le_refl _) _) _
                generalize (wr.alloc (.cells #[.int .i64 49, .int .i64 a] 35)).drewN nq = W1 at hBW ⊢
                have hvo1 := cellB hBW hvo
                have hrc1 := cellB hBW hrc
                have hbat1 := cellB hBW hbat
                have hbot1 := cellB hBW hbot
                have hbfz1 := frozenB hBW hbot (hbfz 1)
                have HBW := Lib.hid hBW
                have hmr := (HS.out.below hBW).mrow
                have hml := HOK.out.len
                simp only at hml
                have hmc := cell_of_row W1 (B + 1) ba _ _ _ hmr
                have hmf := frozen_of_row W1 (B + 1) ba _ _ hmr
                have hmx : (intVals m).toArray[ba]? = some (.int .i64 (m.getD ba 0)) := by
                  have hbm : ba < m.length := by omega
                  simp [intVals, hbm]
                rw [hmx] at hmc
                have hml1 : (ba : Int) < (c.length : Int) := hb1
                clear hvo hrc hbat hbot hbfz hBW hmr hmx hbc hd1 hd2
                have A1 := cellSetNe (b := ⟨gd, 1, none⟩) (x := .int .i64 (k : Int)) (fun e => n2 e.symm) hvo1
                have A2 := cellSetNe (b := ⟨gd, 1, none⟩) (x := .int .i64 (k : Int)) (fun e => n1 e.symm) hrc1
                have A3 : (W1.setCell ⟨gd, 1, none⟩ (.int .i64 (k : Int))).cell? ⟨gd, 0, none⟩ = some (.int .i64 (ba : Int)) := (World.cell?_setCell_other W1 ⟨gd, 1, none⟩ ⟨gd, 0, none⟩ _ (by simp)).trans hbat1
                have B1 := cellSetNe (b := ⟨B + 1, ba, none⟩) (x := .int .i64 (k : Int)) (fun e => n6 e.symm) A1
                have B2 := cellSetNe (b := ⟨B + 1, ba, none⟩) (x := .int .i64 (k : Int)) (fun e => n5 e.symm) A2
                have B3 := cellSetNe (b := ⟨B + 1, ba, none⟩) (x := .int .i64 (k : Int)) n3 A3
                have HA := Lib.hid (And.intro (And.intro A1 (And.intro A2 A3)) (And.intro B1 (And.intro B2 B3)))
                clear A1 A2 A3 B1 B2 B3
                go_wp2
                go_region_held3 (fun W => W.cell? ⟨gs, 0, none⟩ = some (.slice (some ⟨ra, 0, none⟩) (d + 1) cap) ∧ W.cell? ⟨ra, d, none⟩ = some (.pointer (some ⟨gd, 0, none⟩)) ∧ W.cell? ⟨gd, 0, none⟩ = some (.int .i64 (ba : Int))) (first | assumption | exact ⟨hvo1, hrc1, hbat1⟩ | exact HA.out.1 | exact HA.out.2) (fail)
                go_wp2
                go_roundw
                case rel =>
                  have hdl : d < (l0 ++ [b]).length := by simp [hd]
                  have s1 := HS.out.below HBW.out
                  have s2 := s1.setOther d hdl (k : Int)
                  have hset : (l0 ++ [b]).set d (((l0 ++ [b]).getD d default).withOther (k : Int)) = l0 ++ [b.withOther (k : Int)] := by subst hd; simp
                  rw [hset, hgd] at s2
                  have s3 := s2.setM ba (k : Int)
                  have hge : B ≤ gd := by rw [← hgd]; exact HS.out.gge d hdl
                  have hbl : Below B W0 (((W1.setCell ⟨gd, 1, none⟩ (.int .i64 (k : Int))).setCell ⟨B + 1, ba, none⟩ (.int .i64 (k : Int)))) := ((HB.out.trans (HBW.out.mono (by omega))).setCell (p := ⟨gd, 1, none⟩) hge _).setCell (p := ⟨B + 1, ba, none⟩) (by simp) _
                  refine ⟨k + 1, l0 ++ [b.withOther (k : Int)], m.set ba (k : Int), _, g, vl, by go_num, hlt, scanTo_succ HST.out ?_, s3.below (Below.refl _ _).drew, hbl.drew⟩
                  simp [scanStep, HOP.out, hob, hba, HOPB.out]
                case measure => simp [intOf]; omega
              · have hob9 : (ob != 48) = true := by simpa using hob8
                go_wp2_with (go_at_call 127; (with_reducible refine (match1_any _ _ _).mono ?_); rintro e w2 ⟨rfl, rfl⟩)
                go_quiet (fail)
                go_wp2
                go_ret2
                refine ⟨?_, below_drewN (HWR.out.alloc (Nat.le_of_lt hszw) _) _⟩
                have hsf : scanF c = none := scanF_none hlt HST.out (by simp [scanStep, HOP.out, hba, HOPB.out, hob8])
                rw [hsf]
                rfl
          -- end els
        · by_cases h50 : o = 50
          · -- part fin
            subst h50
            rcases snoc_cases l with rfl | ⟨l0, b, rfl⟩
            · go_wp2_with (go_at_call 127; (with_reducible refine (match1_any _ _ _).mono ?_); rintro e w2 ⟨rfl, rfl⟩)
              go_ret2
              refine ⟨?_, HWR.out.alloc (Nat.le_of_lt hszw) _⟩
              have hsf : scanF c = none := scanF_none hlt HST.out (by simp [scanStep, HOP.out])
              rw [hsf]
              rfl
            · have hdl : (l0 ++ [b]).length = l0.length + 1 := by simp
              obtain ⟨d, hd⟩ : ∃ d, l0.length = d := ⟨_, rfl⟩
              rw [hdl, hd] at HS hvo
              obtain ⟨ra, rfl, hdc, hrc, hbat, hbot, hblv, hbfz, ⟨n1, n2, n3, n4, n5, n6⟩, ⟨z1, z2, z3, z4⟩, _, hcm⟩ := HS.out.top hd
              have hbk := HOK.out.blk b (by simp)
              have hbl := hbk.at_
              have hbo0 := hbk.lo
              have hbo1 := hbk.hi
              have hml : m.length = c.length := HOK.out.len
              have hleaf1 := leafAt_pop HS.out (i := d) (by simp [hd]) (.slice (some ⟨ra, 0, none⟩) d cap)
              have hbd : (l0 ++ [b]).getD d default = b := by subst hd; simp
              rw [hbd] at hleaf1
              have hLL : ∀ x ∈ b.leaves, x < c.length := fun x hx => by have := hbk.lv x hx; omega
              have HLL := Lib.hid hLL
              have hll : (b.leaves.length : Int) ≤ 8796093022208 := by have := hbk.ln; omega
              obtain ⟨idx, hidx, hix, hcase⟩ : ∃ idx : Nat, idx < c.length ∧ (if 0 ≤ b.other then b.other.toNat else b.at_) = idx ∧ (b.other = (idx : Int) ∨ (b.other = -1 ∧ b.at_ = idx)) := by
                by_cases h0 : 0 ≤ b.other
                · exact ⟨b.other.toNat, by omega, by rw [if_pos h0], .inl (by omega)⟩
                · exact ⟨b.at_, by omega, by rw [if_neg h0], .inr ⟨by omega, rfl⟩⟩
              have hstep : scanStep c k (l0 ++ [b], m) = some (l0, b.leaves.foldl (fun m k' => m.set k' (k : Int)) ((m.set k (b.at_ : Int)).set idx (k : Int))) := by
                simp [scanStep, HOP.out, hix]
              have HSTEP := Lib.hid hstep
              have hd0 : (0 : Int) ≤ (d : Int) := Int.natCast_nonneg _
              have hd8 : (d : Int) ≤ 8 := by simp at hl8; omega
              have hd9 : (d : Int) < (d : Int) + 1 := by omega
              have hcap : (d : Int) ≤ (cap : Int) := by omega
              have hcap2 : ¬ cap = 0 := by omega
              have hcap3 : (d : Int) + 1 ≤ (cap : Int) := by omega
              have hcap4 : (cap : Int) ≤ 9223372036854775807 := by unfold maxLen at hcm; omega
              have hfzs := frozen_of_row wr gs 0 _ _ HS.out.sblk
              have spop := SAt.pop (a := ra) (cap := cap) (b := b) (l0 := l0) HS.out (by rw [hd])
              rw [hd] at spop
              have hbal := cellSetNe (b := ⟨gs, 0, none⟩) (x := .slice (some ⟨ra, 0, none⟩) d cap) n2 hbat
              have hbol := cellSetNe (b := ⟨gs, 0, none⟩) (x := .slice (some ⟨ra, 0, none⟩) d cap) n2 hbot
              have hbvl := cellSetNe (b := ⟨gs, 0, none⟩) (x := .slice (some ⟨ra, 0, none⟩) d cap) n2 hblv
              have hbb : Below B W0 (wr.setCell ⟨gs, 0, none⟩ (.slice (some ⟨ra, 0, none⟩) d cap)) := HB.out.setCell HS.out.sge _
              have HBB := Lib.hid hbb
              have HBV := Lib.hid (And.intro hbal (And.intro hbol hbvl))
              have HSP := Lib.hid spop
              have HL1 := Lib.hid hleaf1
              clear spop hleaf1 hbk hbd hbal hbol hbvl hbb hix hstep hLL hdl hl8 h48 h49
              rcases hcase with hc1 | ⟨hc1, hc2⟩
              · rw [hc1] at hbot
                go_upto_region 23 with (go_at_call 127; (with_reducible refine (match1_any _ _ _).mono ?_); rintro e w2 ⟨rfl, rfl⟩)
                have s2 := HSP.out
                have l2 := HL1.out
                obtain ⟨v1, v2, v3⟩ := HBV.out
                rw [hc1] at v2
                have b2 := HBB.out
                clear hvo hrc hbat hbot hblv
                generalize World.setCell wr _ _ = W1 at s2 l2 v1 v2 v3 b2 ⊢
                have hB2 : Below W1.heap.size W1 (W1.alloc (.cells #[.int .i64 50, .int .i64 a] 35)) := (Below.refl _ W1).alloc (Nat.le_refl _) _
                replace s2 := s2.below hB2
                replace l2 := l2.ext hB2
                replace v1 := cellB hB2 v1
                replace v2 := cellB hB2 v2
                replace v3 := cellB hB2 v3
                replace b2 := b2.trans (hB2.mono (Nat.le_trans (Nat.le_of_eq hs0.symm) b2.size))
                clear hB2
                generalize World.alloc W1 _ = W2 at s2 l2 v1 v2 v3 b2 ⊢
                obtain ⟨hmc, hmf⟩ := s2.mcell k (by omega)
                have hat0 : (0 : Int) ≤ (b.at_ : Int) := Int.natCast_nonneg _
                have hat1 : (b.at_ : Int) < (c.length : Int) := by omega
                have hix0 : (0 : Int) ≤ (idx : Int) := Int.natCast_nonneg _
                have hix1 : (idx : Int) < (c.length : Int) := by omega
                have S2 := Lib.hid s2
                have L2 := Lib.hid l2
                have B2 := Lib.hid b2
                clear s2 l2 b2
                go_upto_region 24 with (fail)
                have s3 := S2.out.setM k (b.at_ : Int)
                have l3 := L2.out.setM k (.int .i64 (b.at_ : Int))
                replace v1 := cellSetNe (b := ⟨B + 1, k, none⟩) (x := .int .i64 (b.at_ : Int)) n3 v1
                replace v2 := cellSetNe (b := ⟨B + 1, k, none⟩) (x := .int .i64 (b.at_ : Int)) n3 v2
                replace v3 := cellSetNe (b := ⟨B + 1, k, none⟩) (x := .int .i64 (b.at_ : Int)) n3 v3
                have b3 := B2.out.setCell (p := ⟨B + 1, k, none⟩) (by simp) (.int .i64 (b.at_ : Int))
                clear hmc hmf S2 L2 B2
                generalize World.setCell W2 _ _ = W3 at s3 l3 v1 v2 v3 b3 ⊢
                obtain ⟨hmc, hmf⟩ := s3.mcell idx (by simp; omega)
                have S3 := Lib.hid s3
                have L3 := Lib.hid l3
                have B3 := Lib.hid b3
                clear s3 l3 b3
                go_upto_region 27 with (fail)
                have s4 := S3.out.setM idx (k : Int)
                have l4 := L3.out.setM idx (.int .i64 (k : Int))
                replace v3 := cellSetNe (b := ⟨B + 1, idx, none⟩) (x := .int .i64 (k : Int)) n3 v3
                have b4 := B3.out.setCell (p := ⟨B + 1, idx, none⟩) (by simp) (.int .i64 (k : Int))
                clear hmc hmf v1 v2 S3 L3 B3
                generalize World.setCell W3 _ _ = W4 at s4 l4 v3 b4 ⊢
                obtain ⟨LA, lcap, hlv, hlc⟩ := l4
                rw [hlv] at v3
                have S4 := Lib.hid s4
                have L4 := Lib.hid hlc
                have B4 := Lib.hid b4
                clear s4 hlc b4 hlv hd1 hd2 hbc
                go_wp2
                go_loopw [166] (fun i wr2 => ∃ i' : Nat, i = .int .i64 i' ∧ i' ≤ b.leaves.length ∧ SAt B wr2 gs (B + 1) (.slice (some ⟨ra, 0, none⟩) d cap) g vl l0 ((b.leaves.take i').foldl (fun m k' => m.set k' (k : Int)) ((m.set k (b.at_ : Int)).set idx (k : Int))) ∧
                    (∀ j, j < b.leaves.length → ∃ lb, LA = some ⟨lb, 0, none⟩ ∧ lb ≠ B + 1 ∧ wr2.cell? ⟨lb, j, none⟩ = some (.int .i64 ((b.leaves.getD j 0 : Nat) : Int))) ∧ Below B W0 wr2)
                  (fun i _ => b.leaves.length - (intOf i).toNat)
                case atStart => exact ⟨0, rfl, Nat.zero_le _, S4.out, L4.out, B4.out⟩
                case round =>
                  obtain ⟨i', rfl, hi', s5, l5, b5⟩ := hrel
                  have hi0 : (0 : Int) ≤ (i' : Int) := Int.natCast_nonneg _
                  by_cases hil : i' < b.leaves.length
                  · obtain ⟨lb, rfl, hne, hlc⟩ := l5 i' hil
                    have hi1 : (i' : Int) < (b.leaves.length : Int) := by omega
                    have hxl : b.leaves.getD i' 0 < c.length := HLL.out _ (by simp [hil])
                    have hts := take_snoc b.leaves i' 0 hil
                    generalize b.leaves.getD i' 0 = x at hlc hxl hts
                    obtain ⟨hmc, hmf⟩ := s5.mcell x (by rw [foldl_set_len]; simp; omega)
                    have hx0 : (0 : Int) ≤ (x : Int) := Int.natCast_nonneg _
                    have hx1 : (x : Int) < (c.length : Int) := by omega
                    have S5 := Lib.hid s5
                    have L5 := Lib.hid l5
                    have B5 := Lib.hid b5
                    have HTS := Lib.hid hts
                    clear s5 l5 b5 hts
                    go_wp2
                    go_roundw
                    case rel =>
                      refine ⟨i' + 1, by go_num, hil, ?_, fun j hj => ?_, B5.out.setCell (p := ⟨B + 1, x, none⟩) (by simp) _⟩
                      · rw [HTS.out, List.foldl_append]
                        exact S5.out.setM x (k : Int)
                      · obtain ⟨lb', h1, h2, h3⟩ := L5.out j hj
                        exact ⟨lb', h1, h2, cellSetNe (fun e => h2 e.symm) h3⟩
                    case measure => simp [intOf]; omega
                  · obtain rfl : i' = b.leaves.length := by omega
                    rw [List.take_length] at s5
                    have S5 := Lib.hid s5
                    have B5 := Lib.hid b5
                    clear s5 l5 b5
                    go_wp2
                    go_roundw
                    case rel =>
                      exact ⟨k + 1, l0, _, _, g, vl, by go_num, hlt, scanTo_succ HST.out HSTEP.out, S5.out, B5.out⟩
                    case measure => simp [intOf]; omega
              · subst hc2
                rw [hc1] at hbot
                go_upto_region 23 with (go_at_call 127; (with_reducible refine (match1_any _ _ _).mono ?_); rintro e w2 ⟨rfl, rfl⟩)
                have s2 := HSP.out
                have l2 := HL1.out
                obtain ⟨v1, v2, v3⟩ := HBV.out
                rw [hc1] at v2
                have b2 := HBB.out
                clear hvo hrc hbat hbot hblv
                generalize World.setCell wr _ _ = W1 at s2 l2 v1 v2 v3 b2 ⊢
                have hB2 : Below W1.heap.size W1 (W1.alloc (.cells #[.int .i64 50, .int .i64 a] 35)) := (Below.refl _ W1).alloc (Nat.le_refl _) _
                replace s2 := s2.below hB2
                replace l2 := l2.ext hB2
                replace v1 := cellB hB2 v1
                replace v2 := cellB hB2 v2
                replace v3 := cellB hB2 v3
                replace b2 := b2.trans (hB2.mono (Nat.le_trans (Nat.le_of_eq hs0.symm) b2.size))
                clear hB2
                generalize World.alloc W1 _ = W2 at s2 l2 v1 v2 v3 b2 ⊢
                obtain ⟨hmc, hmf⟩ := s2.mcell k (by omega)
                have hat0 : (0 : Int) ≤ (b.at_ : Int) := Int.natCast_nonneg _
                have hat1 : (b.at_ : Int) < (c.length : Int) := by omega
                have hix0 : (0 : Int) ≤ (b.at_ : Int) := Int.natCast_nonneg _
                have hix1 : (b.at_ : Int) < (c.length : Int) := by omega
                have S2 := Lib.hid s2
                have L2 := Lib.hid l2
                have B2 := Lib.hid b2
                clear s2 l2 b2
                go_upto_region 24 with (fail)
                have s3 := S2.out.setM k (b.at_ : Int)
                have l3 := L2.out.setM k (.int .i64 (b.at_ : Int))
                replace v1 := cellSetNe (b := ⟨B + 1, k, none⟩) (x := .int .i64 (b.at_ : Int)) n3 v1
                replace v2 := cellSetNe (b := ⟨B + 1, k, none⟩) (x := .int .i64 (b.at_ : Int)) n3 v2
                replace v3 := cellSetNe (b := ⟨B + 1, k, none⟩) (x := .int .i64 (b.at_ : Int)) n3 v3
                have b3 := B2.out.setCell (p := ⟨B + 1, k, none⟩) (by simp) (.int .i64 (b.at_ : Int))
                clear hmc hmf S2 L2 B2
                generalize World.setCell W2 _ _ = W3 at s3 l3 v1 v2 v3 b3 ⊢
                obtain ⟨hmc, hmf⟩ := s3.mcell b.at_ (by simp; omega)
                have S3 := Lib.hid s3
                have L3 := Lib.hid l3
                have B3 := Lib.hid b3
                clear s3 l3 b3
                go_upto_region 27 with (fail)
                have s4 := S3.out.setM b.at_ (k : Int)
                have l4 := L3.out.setM b.at_ (.int .i64 (k : Int))
                replace v3 := cellSetNe (b := ⟨B + 1, b.at_, none⟩) (x := .int .i64 (k : Int)) n3 v3
                have b4 := B3.out.setCell (p := ⟨B + 1, b.at_, none⟩) (by simp) (.int .i64 (k : Int))
                clear hmc hmf v1 v2 S3 L3 B3
                generalize World.setCell W3 _ _ = W4 at s4 l4 v3 b4 ⊢
                obtain ⟨LA, lcap, hlv, hlc⟩ := l4
                rw [hlv] at v3
                have S4 := Lib.hid s4
                have L4 := Lib.hid hlc
                have B4 := Lib.hid b4
                clear s4 hlc b4 hlv hd1 hd2 hbc
                go_wp2
                go_loopw [166] (fun i wr2 => ∃ i' : Nat, i = .int .i64 i' ∧ i' ≤ b.leaves.length ∧ SAt B wr2 gs (B + 1) (.slice (some ⟨ra, 0, none⟩) d cap) g vl l0 ((b.leaves.take i').foldl (fun m k' => m.set k' (k : Int)) ((m.set k (b.at_ : Int)).set b.at_ (k : Int))) ∧
                    (∀ j, j < b.leaves.length → ∃ lb, LA = some ⟨lb, 0, none⟩ ∧ lb ≠ B + 1 ∧ wr2.cell? ⟨lb, j, none⟩ = some (.int .i64 ((b.leaves.getD j 0 : Nat) : Int))) ∧ Below B W0 wr2)
                  (fun i _ => b.leaves.length - (intOf i).toNat)
                case atStart => exact ⟨0, rfl, Nat.zero_le _, S4.out, L4.out, B4.out⟩
                case round =>
                  obtain ⟨i', rfl, hi', s5, l5, b5⟩ := hrel
                  have hi0 : (0 : Int) ≤ (i' : Int) := Int.natCast_nonneg _
                  by_cases hil : i' < b.leaves.length
                  · obtain ⟨lb, rfl, hne, hlc⟩ := l5 i' hil
                    have hi1 : (i' : Int) < (b.leaves.length : Int) := by omega
                    have hxl : b.leaves.getD i' 0 < c.length := HLL.out _ (by simp [hil])
                    have hts := take_snoc b.leaves i' 0 hil
                    generalize b.leaves.getD i' 0 = x at hlc hxl hts
                    obtain ⟨hmc, hmf⟩ := s5.mcell x (by rw [foldl_set_len]; simp; omega)
                    have hx0 : (0 : Int) ≤ (x : Int) := Int.natCast_nonneg _
                    have hx1 : (x : Int) < (c.length : Int) := by omega
                    have S5 := Lib.hid s5
                    have L5 := Lib.hid l5
                    have B5 := Lib.hid b5
                    have HTS := Lib.hid hts
                    clear s5 l5 b5 hts
                    go_wp2
                    go_roundw
                    case rel =>
                      refine ⟨i' + 1, by go_num, hil, ?_, fun j hj => ?_, B5.out.setCell (p := ⟨B + 1, x, none⟩) (by simp) _⟩
                      · rw [HTS.out, List.foldl_append]
                        exact S5.out.setM x (k : Int)
                      · obtain ⟨lb', h1, h2, h3⟩ := L5.out j hj
                        exact ⟨lb', h1, h2, cellSetNe (fun e => h2 e.symm) h3⟩
                    case measure => simp [intOf]; omega
                  · obtain rfl : i' = b.leaves.length := by omega
                    rw [List.take_length] at s5
                    have S5 := Lib.hid s5
                    have B5 := Lib.hid b5
                    clear s5 l5 b5
                    go_wp2
                    go_roundw
                    case rel =>
                      exact ⟨k + 1, l0, _, _, g, vl, by go_num, hlt, scanTo_succ HST.out HSTEP.out, S5.out, B5.out⟩
                    case measure => simp [intOf]; omega
            -- end fin
          · by_cases h52 : o = 52
            · -- part brk
              subst h52
              obtain ⟨W1, hW1⟩ : ∃ W1, W1 = wr.alloc (.cells #[.int .i64 52, .int .i64 a] 35) := ⟨_, rfl⟩
              have hBW : Below wr.heap.size wr W1 := by rw [hW1]; exact (Below.refl _ wr).alloc (Nat.le_refl _) _
              have S1 := HS.out.below hBW
              have hcw1 : Code_ W1 (.slice (some ⟨b0, off, none⟩) c.length kc) c := (HC.out.ext (by rw [hs0]; exact HB.out)).ext hBW
              have hat : ∀ i, i < l.length → (l.getD i default).at_ < c.length := fun i hi => by
                have := (HOK.out.blk (l.getD i default) (by simp [hi])).at_
                omega
              have hfind := find_any gs w.heap.size _ (.slice (some ⟨b0, off, none⟩) c.length kc) g vl c l W1 (cellB hBW hvo) (rowAt_of_own S1.row (fun j hj => ptrs_at hj)) (by omega) (fun i hi => S1.blk i hi) hat (cellB hBW hbc) hcw1
              have HW1 := Lib.hid hW1
              have HBW := Lib.hid hBW
              have HS1 := Lib.hid S1
              clear hBW S1 hcw1 hat h48 h49 h50
              cases htl : topLoop c l with
              | none =>
                rw [htl, hW1] at hfind
                have HF := Lib.hid hfind
                have HTL := Lib.hid htl
                clear hfind htl hW1
                go_wp2_with (first
                  | (go_at_call 127; (with_reducible refine (match1_any _ _ _).mono ?_); rintro e w2 ⟨rfl, rfl⟩)
                  | (go_at_call 177; (with_reducible refine HF.out.mono ?_); rintro e w2 ⟨rfl, hb2⟩; simp only [foundV]))
                go_ret2
                refine ⟨?_, HWR.out.trans ((HBW.out.trans (by have h := hb2; rw [← HW1.out] at h; exact h.mono HBW.out.size)).mono (by omega))⟩
                have hsf : scanF c = none := scanF_none hlt HST.out (by simp [scanStep, HOP.out, HTL.out])
                rw [hsf]
                rfl
              | some j =>
                have hjl := topLoop_lt htl
                have hln1 : (l.getD j default).leaves.length + 1 ≤ maxLen := by
                  have := (HOK.out.blk (l.getD j default) (by simp [hjl])).ln
                  unfold maxLen; omega
                have hln2 : ((l.getD j default).leaves.length + 1) * 8 ≤ 140737488355328 := by
                  have := (HOK.out.blk (l.getD j default) (by simp [hjl])).ln
                  omega
                rw [htl, hW1] at hfind
                have HF := Lib.hid hfind
                have HTL := Lib.hid htl
                clear hfind htl hW1
                go_wp2_with (first
                  | (go_at_call 127; (with_reducible refine (match1_any _ _ _).mono ?_); rintro e w2 ⟨rfl, rfl⟩)
                  | (go_at_call 177; (with_reducible refine HF.out.mono ?_); go_must (rintro e w2 ⟨rfl, hb2⟩; simp only [foundV]; have S2 := HS1.out.below (by have h := hb2; rw [← HW1.out] at h; exact h); have hlv := cell_of_row w2 (g j) 2 _ _ _ (S2.blk j hjl); simp only [blkCells, List.getElem?_toArray, List.getElem?_cons_succ, List.getElem?_cons_zero] at hlv; have HS2 := Lib.hid S2; have hz2 := heap_lt (S2.blk j hjl); have hB2 : B ≤ w2.heap.size := Nat.le_trans S2.mge (Nat.le_of_lt (heap_lt S2.mrow)); clear S2))
                  | (at_builtin; refine wp_append_lit B rfl (.tmp 189) (.tmp 191) 23 3 (.int .i64 0) 1 8 rfl Try.underlying23 info_int rfl (by decide) (vl j) (l.getD j default).leaves.length 1 (natInts (l.getD j default).leaves) #[.int .i64 (k : Int)] w2.heap.size rfl rfl rfl rfl (by simp [Value.oneCell']) (HS2.out.lv j hjl) hB2 hln1 hln2 ?_; go_must (intro v1 w3 hown hg hat hnil; clear hnil; obtain ⟨q1, cap1, rfl, _, _⟩ := hown.form (by omega); have hb3 := grown_block (HS2.out.lv j hjl) hg (HS2.out.blk j hjl) (by decide); have hl3 := cell_of_row w3 (g j) 2 _ _ _ hb3; have hf3 := frozen_of_row w3 (g j) 2 _ _ hb3; simp only [blkCells, List.getElem?_toArray, List.getElem?_cons_succ, List.getElem?_cons_zero] at hl3; have HG := Lib.hid hg; have HOWN := Lib.hid hown; have HAT := Lib.hid hat; clear hg hown hat hb3)))
                go_roundw
                case rel =>
                  have s1 := HS2.out.leaf hjl k HG.out HAT.out HOWN.out
                  have hb2' : Below W1.heap.size W1 w2 := by have h := hb2; rw [← HW1.out] at h; exact h
                  have hle := HBW.out.size
                  have hgd : l.getD j default = l[j] := by simp [hjl]
                  simp only [hgd] at s1
                  have hg3 : Below B w2 w3 := ⟨HG.out.os, HG.out.tape, HG.out.output, HG.out.size, fun q hq => HG.out.block q (by omega) (fun hh => by obtain ⟨hle, _⟩ := own_heap (HS2.out.lv j hjl) hh.symm; omega)⟩
                  have hbl : Below B W0 w3 := ((HB.out.trans (HBW.out.mono (by omega))).trans (hb2'.mono (by omega))).trans hg3
                  refine ⟨k + 1, l.set j (l[j].withLeaf k), m, _, g, _, by go_num, hlt, scanTo_succ HST.out ?_, s1, hbl.setCell (HS2.out.gge j hjl) _⟩
                  simp [scanStep, HOP.out, HTL.out, hjl]
                case measure => simp [intOf]; omega
              -- end brk
            · -- part else
              have e48 : (o == 48) = false := by simp; omega
              have e51 : (o == 51) = false := by simp; omega
              have e49 : (o == 49) = false := by simpa using h49
              have e50 : (o == 50) = false := by simpa using h50
              have e52 : (o == 52) = false := by simpa using h52
              clear h48 h49 h50 h52
              go_wp2_with (go_at_call 127; (with_reducible refine (match1_any _ _ _).mono ?_); rintro e w2 ⟨rfl, rfl⟩)
              go_roundw
              case rel =>
                have hB2 : Below wr.heap.size wr (wr.alloc (.cells #[.int .i64 o, .int .i64 a] 35)) := (Below.refl _ wr).alloc (Nat.le_refl _) _
                refine ⟨k + 1, l, m, _, g, vl, by go_num, hlt, scanTo_succ HST.out ?_, HS.out.below hB2, HB.out.trans (hB2.mono (by omega))⟩
                simp at e48 e51 e49 e50 e52
                simp [scanStep, HOP.out, e48, e51, e49, e50, e52]
              case measure => simp [intOf]; omega
              -- end else
    · -- part stop
      obtain rfl : k = c.length := by omega
      cases l with
      | nil =>
        go_wp2
        go_ret2
        refine ⟨?_, HWR.out⟩
        have hsf : scanF c = some m := by rw [scanF, HST.out]; rfl
        rw [hsf]
        exact ⟨B + 1, rfl, by omega, HS.out.mrow, HOK.out.len⟩
      | cons b r =>
        have hpos : (0 : Int) < ((b :: r).length : Int) := by simp only [List.length_cons]; omega
        generalize hn : (b :: r).length = n at *
        go_wp2
        go_ret2
        refine ⟨?_, HWR.out⟩
        have hsf : scanF c = none := by rw [scanF, HST.out]; rfl
        rw [hsf]
        rfl
      -- end stop
end Go.Proofs.Ytchmgilckiadaaa
