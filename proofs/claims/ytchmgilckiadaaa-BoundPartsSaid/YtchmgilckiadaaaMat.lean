/- ref06.Match: it answers an error just where shape.scan does. -/
import Derived.Test.YtchmgilckiadaaaMatl
namespace Go.Proofs.Ytchmgilckiadaaa
open Go.RowKit
theorem m1_len {c : List Ins} : ∀ (k : Nat) {m : List Int}, m1To c k = some m → m.length = c.length
  | 0, m, h => by
    simp only [m1To, Option.some.injEq] at h
    subst h; simp
  | k + 1, m, h => by
    rw [m1To] at h
    cases h1 : m1To c k with
    | none => rw [h1] at h; simp at h
    | some m1 =>
      rw [h1, Option.bind_some] at h
      have ih := m1_len k h1
      unfold m1Step at h
      split at h
      · split at h
        · simp at h
        · injection h with h
          subst h
          split <;> simp [ih]
      · injection h with h
        subst h; exact ih
theorem ints_own {w : World} {B : Nat} {v : Value} {l : List Nat} (h : w.ownsRow B 3 1 v l.length (natVals l)) : ∃ A cap, v = .slice A l.length cap ∧ ∀ j, j < l.length → ∃ b off, A = some ⟨b, off, none⟩ ∧ B ≤ b ∧ w.cell? ⟨b, off + j, none⟩ = some (.int .i64 (l.getD j 0 : Nat)) := by
  rcases h.2 with ⟨rfl, h0⟩ | ⟨q, cap, cur, rfl, hB, hh, _, _, _, htake⟩
  · exact ⟨none, 0, by rw [h0], fun j hj => by omega⟩
  · refine ⟨_, cap, rfl, fun j hj => ⟨q, 0, rfl, hB, ?_⟩⟩
    rw [Nat.zero_add, h.cellAt j (by omega)]
    simp [natVals, hj]
/-- The row of places, in memory. -/
structure MRow (w wr : World) (m : List Int) : Prop where
  row : wr.heap[w.heap.size]? = some (.cells (intVals m).toArray 3 (0, 0))
  below : Below w.heap.size w wr
theorem MRow.set {w wr : World} {m : List Int} (h : MRow w wr m) (k : Nat) (v : Int) : MRow w (wr.setCell ⟨w.heap.size, k, none⟩ (.int .i64 v)) (m.set k v) := ⟨row_set v h.row, h.below.setCell (Nat.le_refl _) _⟩
theorem MRow.get {w wr : World} {m : List Int} (h : MRow w wr m) {k : Nat} (hk : k < m.length) : wr.cell? ⟨w.heap.size, k, none⟩ = some (.int .i64 (m.getD k 0)) := row_get h.row hk
theorem MRow.thaw {w wr : World} {m : List Int} (h : MRow w wr m) (k : Nat) : wr.frozen? ⟨w.heap.size, k, none⟩ = false := frozen_of_row wr _ _ _ _ h.row
theorem MRow.lt {w wr : World} {m : List Int} (h : MRow w wr m) : w.heap.size < wr.heap.size := heap_lt h.row
theorem MRow.ints {w wr : World} {m : List Int} (h : MRow w wr m) (hl : m.length * 8 ≤ 281474976710656) (hi : ∀ x ∈ m, I64 x) : Ints wr (.slice (some ⟨w.heap.size, 0, none⟩) m.length m.length) m := ints_row h.row hl hi
theorem MRow.ext {w wr w1 : World} {m : List Int} (h : MRow w wr m) (hb : Below wr.heap.size wr w1) : MRow w w1 m := ⟨(hb.block _ h.lt).trans h.row, h.below.trans (hb.mono h.below.size)⟩
set_option maxRecDepth 100000 in
set_option maxHeartbeats 4000000 in
theorem matchR_any (vc : Value) (c : List Ins) (w : World) (hc : Code_ w vc c) (hl : c.length ≤ 600) :
    Calls Try.prog 82 #[vc] w fun e w' => (∃ v, e = .returned (.tuple #[v, .int .i64 (if (scanF c).isSome = true then 0 else 31)])) ∧ Below w.heap.size w w' := by
  have HC := Lib.hid hc
  have hi64 := Lib.hid hc.i64
  obtain ⟨A, kc, rfl, hr⟩ := hc.open_
  have HR := Lib.hid hr
  clear hc hr
  obtain ⟨n, hn⟩ : ∃ n, n = c.length := ⟨_, rfl⟩
  have hmk : ∀ u : World, (Instr.makeSlice 23 (.int .i64 c.length) (.int .i64 c.length)).run Try.prog u = .ok (.slice (some ⟨u.heap.size, 0, none⟩) c.length c.length) (u.alloc (.cells (intVals (repRow c.length 0)).toArray 3)) := fun u => by
    obtain ⟨i, hi, h0, h1, h2⟩ := info_parts info_int
    have h := run_make (P := Try.prog) u 23 3 i (.int .i64 0) Try.underlying23 hi h0 .i64 .i64 (c.length : Int) c.length (by omega) (Int.le_refl _) (by rw [h2]; omega) (by omega)
    rw [h, h1, Int.toNat_natCast, Nat.mul_one, made_zero]
  have hR0 : MRow w (w.alloc (.cells (intVals (repRow c.length 0)).toArray 3)) (repRow c.length 0) := ⟨World.alloc_heap_new w _, below_new w _⟩
  have HR0 := Lib.hid hR0
  clear hR0
  obtain ⟨R, hR⟩ : ∃ R : Int, R = (if (scanF c).isSome = true then 0 else 31) := ⟨_, rfl⟩
  rw [← hR]
  have HRES := Lib.hid hR
  clear hR
  go_enter Try.func82, Try.ntmps82
  go_wp2
  clear hmk
  go_loopw [5] (fun i wr => ∃ k : Nat, k ≤ c.length ∧ i = .int .i64 k ∧ MRow w wr (repRow c.length k)) (fun i _ => c.length - (intOf i).toNat)
  case atStart => exact ⟨0, Nat.zero_le _, rfl, HR0.out⟩
  case round =>
    obtain ⟨k, hk, rfl, hm⟩ := hrel
    by_cases hlt : k < c.length
    · have hcell := hm.get (k := k) (by rw [repRow_len hk]; exact hlt)
      have hth := hm.thaw k
      have hk1 : (k : Int) < (c.length : Int) := by omega
      have hk0 : (0 : Int) ≤ k := by omega
      have HM := Lib.hid hm
      clear hm
      go_wp2
      go_roundw
      case rel => exact ⟨k + 1, by omega, by go_num, by rw [← rep_set _ _ hlt]; exact HM.out.set k (-1)⟩
      case measure => simp [intOf]; omega
    · have e : k = c.length := by omega
      subst e
      have hrep : repRow c.length c.length = List.replicate c.length (-1) := by simp [repRow]
      rw [hrep] at hm
      have HM := Lib.hid hm
      clear hm hrep hlt hk
      go_wp2
      -- the blocks' places
      go_loopw [6] (fun i wr => ∃ (k : Nat) (m : List Int), k ≤ c.length ∧ i = .int .i64 k ∧ m1To c k = some m ∧ MRow w wr m) (fun i _ => c.length - (intOf i).toNat)
      case atStart => exact ⟨0, _, Nat.zero_le _, rfl, rfl, HM.out⟩
      case round =>
        clear HM
        obtain ⟨k, m, hk, rfl, hto, hm⟩ := hrel
        have hml := m1_len k hto
        by_cases hlt : k < c.length
        · -- part l2
          obtain ⟨b0, off, rfl, hd1, _⟩ := HR.out k hlt
          have hd1 := (hm.below.cell (World.block_lt_of_cell? w _ hd1)).trans hd1
          have hop : (c.getD k (0, 0)).1 = opAt c k := rfl
          rw [hop] at hd1
          have hk1 : (k : Int) < (c.length : Int) := by omega
          have hk0 : (0 : Int) ≤ k := by omega
          clear hop
          by_cases c1 : opAt c k = 48 ∨ opAt c k = 51
          · have hcall := clo_any _ c k wr (HC.out.ext hm.below) hlt hl
            have hin := clo_in (c := c) (i := k) c1
            have hnext : m1To c (k + 1) = (if (cloAt c k).2 < 0 then none else some (if 0 ≤ (cloAt c k).1 then ((((m.set k (cloAt c k).2).set (cloAt c k).2.toNat (k : Int)).set k (cloAt c k).1).set (cloAt c k).1.toNat (cloAt c k).2) else ((m.set k (cloAt c k).2).set (cloAt c k).2.toNat (k : Int)))) := by
              rw [m1To, hto, Option.bind_some]
              unfold m1Step
              rw [if_pos c1]
            have hstop : (cloAt c k).2 < 0 → (scanF c).isSome = false := fun h => refM_err (m1_none hlt hto (by unfold m1Step; rw [if_pos c1, if_pos h]))
            have HCALL := Lib.hid hcall
            clear hcall
            generalize cloAt c k = t at *
            obtain ⟨o, e⟩ := t
            simp only at hin hnext hstop
            generalize opAt c k = x at *
            rcases hin with he | ⟨he0, he1, ho0, ho1⟩
            · have HSTOP := Lib.hid (hstop he)
              have HB := Lib.hid hm.below
              clear hnext hstop hm hto
              rcases c1 with rfl | rfl
              all_goals
                go_wp2_with (first
                  | (go_at_call 141; (with_reducible refine HCALL.out.mono ?_); rintro e w6 ⟨rfl, rfl⟩))
                go_ret2
                refine ⟨⟨.slice none 0 0, ?_⟩, HB.out⟩
                have hR : R = 31 := by rw [HRES.out, HSTOP.out]; rfl
                rw [hR]
                rfl
            · rw [if_neg (by omega)] at hnext
              obtain ⟨E, rfl⟩ : ∃ E : Nat, e = E := ⟨e.toNat, by omega⟩
              rw [Int.toNat_natCast] at hnext
              have h1c := hm.get (k := k) (by omega)
              have h1f := hm.thaw k
              have hm1 := hm.set k E
              have h2c := hm1.get (k := E) (by simp; omega)
              have h2f := hm1.thaw E
              have hm2 := hm1.set E k
              clear hstop
              by_cases hoo : 0 ≤ o
              · rw [if_pos hoo] at hnext
                obtain ⟨O, rfl⟩ : ∃ O : Nat, o = O := ⟨o.toNat, by omega⟩
                rw [Int.toNat_natCast] at hnext
                have h3c := hm2.get (k := k) (by simp; omega)
                have h3f := hm2.thaw k
                have hm3 := hm2.set k O
                have h4c := hm3.get (k := O) (by simp; omega)
                have h4f := hm3.thaw O
                have hm4 := hm3.set O E
                have HNX := Lib.hid hnext
                have HM4 := Lib.hid hm4
                clear hnext hm hm1 hm2 hm3 hm4 hto
                rcases c1 with rfl | rfl
                all_goals
                  go_wp2_with (first
                    | (go_at_call 141; (with_reducible refine HCALL.out.mono ?_); rintro e w6 ⟨rfl, rfl⟩))
                  go_roundw
                  case rel => exact ⟨k + 1, _, by omega, by go_num, HNX.out, HM4.out⟩
                  case measure => simp [intOf]; omega
              · rw [if_neg hoo] at hnext
                have HNX := Lib.hid hnext
                have HM2 := Lib.hid hm2
                clear hnext hm hm1 hm2 hto
                rcases c1 with rfl | rfl
                all_goals
                  go_wp2_with (first
                    | (go_at_call 141; (with_reducible refine HCALL.out.mono ?_); rintro e w6 ⟨rfl, rfl⟩))
                  go_roundw
                  case rel => exact ⟨k + 1, _, by omega, by go_num, HNX.out, HM2.out⟩
                  case measure => simp [intOf]; omega
          · have hnext : m1To c (k + 1) = some m := by
              rw [m1To, hto, Option.bind_some]
              unfold m1Step
              rw [if_neg c1]
            have HNX := Lib.hid hnext
            have HM := Lib.hid hm
            have c11 : ¬ opAt c k = 48 := fun e => c1 (.inl e)
            have c12 : ¬ opAt c k = 51 := fun e => c1 (.inr e)
            clear hnext hm hto
            generalize opAt c k = x at *
            have c13 : (x != 48) = true := by simpa using c11
            have c14 : (x != 51) = true := by simpa using c12
            go_wp2
            go_roundw
            case rel => exact ⟨k + 1, _, by omega, by go_num, HNX.out, HM.out⟩
            case measure => simp [intOf]; omega
          -- end l2
        · have e : k = c.length := by omega
          subst e
          obtain ⟨hA, hM1⟩ := m1_all hto
          have HTO := Lib.hid hto
          have HA := Lib.hid hA
          have HM1 := Lib.hid hM1
          have HM := Lib.hid hm
          clear hto hA hM1 hm hlt hk
          go_wp2
          -- what lacks a place
          go_loopw [9] (fun i wr => ∃ k : Nat, k ≤ c.length ∧ i = .int .i64 k ∧ (∀ q, q < k → lack c m q = false) ∧ MRow w wr m) (fun i _ => c.length - (intOf i).toNat)
          case atStart => exact ⟨0, Nat.zero_le _, rfl, fun q h => by omega, HM.out⟩
          case round =>
            clear HM
            obtain ⟨k, hk, rfl, hlk, hm⟩ := hrel
            by_cases hlt : k < c.length
            · -- part l3
              obtain ⟨b0, off, rfl, hd1, _⟩ := HR.out k hlt
              have hd1 := (hm.below.cell (World.block_lt_of_cell? w _ hd1)).trans hd1
              have hop : (c.getD k (0, 0)).1 = opAt c k := rfl
              rw [hop] at hd1
              have hk1 : (k : Int) < (c.length : Int) := by omega
              have hk0 : (0 : Int) ≤ k := by omega
              clear hop
              have hcell := hm.get (k := k) (by omega)
              have hlack : lack c m k = ((opAt c k == 49 || opAt c k == 50) && decide (m.getD k 0 < 0)) := rfl
              have hstop : lack c m k = true → (scanF c).isSome = false := fun h => refM_err (lack_none hlt HTO.out h)
              have hnx : lack c m k = false → ∀ q, q < k + 1 → lack c m q = false := fun h q hq => by
                by_cases e : q = k
                · subst e; exact h
                · exact hlk q (by omega)
              have HM := Lib.hid hm
              rw [hlack] at hstop hnx
              clear hm hlk hlack
              generalize opAt c k = x at *
              generalize m.getD k 0 = y at *
              by_cases c1 : x = 49 ∨ x = 50
              · by_cases c2 : y < 0
                · have HSTOP := Lib.hid (hstop (by rcases c1 with rfl | rfl <;> simp [c2]))
                  clear hstop hnx
                  rcases c1 with rfl | rfl
                  all_goals
                    go_wp2
                    go_ret2
                    refine ⟨⟨.slice none 0 0, ?_⟩, HM.out.below⟩
                    have hR : R = 31 := by rw [HRES.out, HSTOP.out]; rfl
                    rw [hR]
                    rfl
                · have HNX := Lib.hid (hnx (by simp [c2]))
                  clear hstop hnx
                  rcases c1 with rfl | rfl
                  all_goals
                    go_wp2
                    go_roundw
                    case rel => exact ⟨k + 1, by omega, by go_num, HNX.out, HM.out⟩
                    case measure => simp [intOf]; omega
              · have c11 : ¬ x = 49 := fun e => c1 (.inl e)
                have c12 : ¬ x = 50 := fun e => c1 (.inr e)
                have HNX := Lib.hid (hnx (by simp [c11, c12]))
                clear hstop hnx c1
                go_wp2
                go_roundw
                case rel => exact ⟨k + 1, by omega, by go_num, HNX.out, HM.out⟩
                case measure => simp [intOf]; omega
              -- end l3
            · have e : k = c.length := by omega
              subst e
              have HLK := Lib.hid hlk
              have HM := Lib.hid hm
              clear hlk hm hlt hk
              go_wp2
              go_loopw [10] (fun i wr => ∃ (k : Nat) (m' : List Int), k ≤ c.length ∧ i = .int .i64 k ∧ m3To c m k = some m' ∧ MRow w wr m') (fun i _ => c.length - (intOf i).toNat)
              case atStart => exact ⟨0, m, Nat.zero_le _, rfl, rfl, HM.out⟩
              case round =>
                clear HM
                obtain ⟨k, m', hk, rfl, hto3, hm⟩ := hrel
                by_cases hlt : k < c.length
                · -- part l4
                  have hM3 := m3_to HA.out (m1_start HA.out HM1.out) k hk m' hto3
                  have hml := hM3.own.len
                  have hopen := opened_any _ (.slice (some ⟨w.heap.size, 0, none⟩) c.length c.length) c m' k wr (HC.out.ext hm.below) (by
                    have h := hm.ints (by omega) (fun x hx => by have := hM3.own.bd x hx; exact ⟨by omega, by omega⟩)
                    rw [hml] at h
                    exact h) hml hl hk (fun i hi ho => by
                      have h := last_own HA.out hM3.own (show i < c.length by omega) ho
                      have h2 := (HA.out.shut (show i < c.length by omega) ho).lt
                      exact ⟨h.2.1, h.2.2, by rw [h.1]; exact ⟨by omega, by omega⟩⟩)
                  have hlv := fun j => leave_at HA.out hM3 hlt j
                  have hin : ∀ i ∈ openM c m' k, i < k := fun i hi => by
                    rw [openM_own HA.out hM3.own (by omega)] at hi
                    exact (mem_openD.1 hi).1
                  have hstep : m3To c m (k + 1) = m3Step c m' k := by rw [m3To, hto3, Option.bind_some]
                  have hstop : m3Step c m' k = none → (scanF c).isSome = false := fun h => refM_err (m3_none hlt HTO.out hto3 h)
                  unfold m3Step at hstep hstop
                  generalize ha : openM c m' k = a at *
                  have HOPEN := Lib.hid hopen
                  have HLV := Lib.hid hlv
                  have HIN := Lib.hid hin
                  have HM := Lib.hid hm
                  have hlen8 : a.length ≤ k := by rw [← ha]; exact openQ_len c m' k k
                  clear hopen hlv hin hm hM3 ha hto3
                  obtain ⟨b0, off, rfl, hd1, _⟩ := HR.out k hlt
                  have hop : (c.getD k (0, 0)).1 = opAt c k := rfl
                  have hob := @isOB_iff c k
                  unfold isO at hob
                  rw [hop] at hd1
                  have hk1 : (k : Int) < (c.length : Int) := by omega
                  have hk0 : (0 : Int) ≤ k := by omega
                  clear hop
                  go_upto_region 27 with (first
                    | (go_at_call 142; (with_reducible refine HOPEN.out.mono ?_); go_must (rintro e w1 ⟨⟨va, rfl, hown⟩, hb1⟩; obtain ⟨A1, cap1, rfl, hac⟩ := ints_own hown; have HM1' := Lib.hid (HM.out.ext hb1); have HAC := Lib.hid hac; have hd1 := ((HM.out.ext hb1).below.cell (World.block_lt_of_cell? w _ hd1)).trans hd1; have hwr := HM.out.lt; clear hown hb1 hac)))
                  generalize hx : opAt c k = x at *
                  by_cases c1 : x = 48 ∨ x = 51
                  · rw [if_pos (hob.2 c1)] at hstep hstop
                    by_cases c8 : 8 < a.length + 1
                    · rw [if_pos c8] at hstop
                      have HSTOP := Lib.hid (hstop rfl)
                      clear hstop hstep hob
                      have c8' : (8 : Int) < (a.length : Int) + 1 := by omega
                      rcases c1 with rfl | rfl
                      all_goals
                        go_wp2
                        go_ret2
                        refine ⟨⟨.slice none 0 0, ?_⟩, HM1'.out.below⟩
                        have hR : R = 31 := by rw [HRES.out, HSTOP.out]; rfl
                        rw [hR]
                        rfl
                    · rw [if_neg c8, if_neg (by omega)] at hstep
                      have HNX := Lib.hid hstep
                      clear hstop hstep hob
                      have c8' : ¬ (8 : Int) < (a.length : Int) + 1 := by omega
                      rcases c1 with rfl | rfl
                      all_goals
                        go_wp2
                        go_roundw
                        case rel => exact ⟨k + 1, m', by omega, by go_num, HNX.out, HM1'.out⟩
                        case measure => simp [intOf]; omega
                  · rw [if_neg (fun h => c1 (hob.1 h))] at hstep hstop
                    rw [show a.length + 0 = a.length from rfl] at hstep hstop
                    have c11 : ¬ x = 48 := fun e => c1 (.inl e)
                    have c12 : ¬ x = 51 := fun e => c1 (.inr e)
                    have c13 : (x == 48) = false := by simpa using c11
                    have c14 : (x == 51) = false := by simpa using c12
                    by_cases c8 : 8 < a.length
                    · rw [if_pos c8] at hstop
                      have HSTOP := Lib.hid (hstop rfl)
                      clear hstop hstep hob
                      have c8' : (8 : Int) < (a.length : Int) := by omega
                      go_wp2
                      go_ret2
                      refine ⟨⟨.slice none 0 0, ?_⟩, HM1'.out.below⟩
                      have hR : R = 31 := by rw [HRES.out, HSTOP.out]; rfl
                      rw [hR]
                      rfl
                    · rw [if_neg c8] at hstep hstop
                      have c8' : ¬ (8 : Int) < (a.length : Int) := by omega
                      by_cases c52 : x = 52
                      · subst c52
                        rw [if_pos rfl] at hstep hstop
                        have HSTEP := Lib.hid hstep
                        have HSTOP := Lib.hid hstop
                        clear hstop hstep hob
                        go_wp2
                        go_loopw [13] (fun i wr2 => ∃ j : Nat, j ≤ a.length ∧ i = .int .i64 j ∧ MRow w wr2 (leaveF c k (a.take j) m') ∧ (∀ j', j' < a.length → ∃ b o, A1 = some ⟨b, o, none⟩ ∧ w.heap.size < b ∧ wr2.cell? ⟨b, o + j', none⟩ = some (.int .i64 (a.getD j' 0 : Nat)))) (fun i _ => a.length - (intOf i).toNat)
                        case atStart =>
                          refine ⟨0, Nat.zero_le _, rfl, HM1'.out, fun j' hj' => ?_⟩
                          obtain ⟨b, o, e1, e2, e3⟩ := HAC.out j' hj'
                          exact ⟨b, o, e1, by omega, e3⟩
                        case round =>
                          clear HAC HM1' hd1
                          obtain ⟨j, hj, rfl, hm2, hac⟩ := hrel
                          by_cases hjl : j < a.length
                          · obtain ⟨b1, o1, rfl, hb1, hy⟩ := hac j hjl
                            have hyk : a.getD j 0 < k := HIN.out _ (getD_in hjl)
                            have hsn : leaveF c k (a.take (j + 1)) m' = leaveF c k (a.take j ++ [a.getD j 0]) m' := by rw [take_snoc a j 0 hjl]
                            rw [leaveF_snoc] at hsn
                            generalize a.getD j 0 = y at *
                            obtain ⟨b2, o2, e2, hd2, _⟩ := HR.out y (by omega)
                            injection e2 with e2
                            injection e2 with e2 e3 _
                            subst e2
                            subst e3
                            have hd2 := (hm2.below.cell (World.block_lt_of_cell? w _ hd2)).trans hd2
                            have hop2 : (c.getD y (0, 0)).1 = opAt c y := rfl
                            rw [hop2] at hd2
                            have hlen2 := (HLV.out j).1
                            have hym := hm2.get (k := y) (by omega)
                            have hkm := hm2.get (k := k) (by omega)
                            have hkf := hm2.thaw k
                            have HAC := Lib.hid hac
                            have HM2 := Lib.hid hm2
                            have HSN := Lib.hid hsn
                            have hy1 : (y : Int) < (c.length : Int) := by omega
                            have hy0 : (0 : Int) ≤ y := by omega
                            have hj0 : (0 : Int) ≤ j := by omega
                            have hj1 : (j : Int) < (a.length : Int) := by omega
                            clear hac hm2 hsn hop2
                            generalize hL : leaveF c k (a.take j) m' = L at *
                            have hHL := Lib.hid hL
                            clear hL
                            generalize hox : opAt c y = ox at *
                            by_cases c51 : ox = 51
                            · subst c51
                              go_wp2
                              go_roundw
                              case rel =>
                                refine ⟨j + 1, by omega, by go_num, ?_, fun j' hj' => ?_⟩
                                · have h := HSN.out
                                  rw [if_pos rfl] at h
                                  rw [h]
                                  exact HM2.out.set k _
                                · obtain ⟨b, o, e1, e2, e3⟩ := HAC.out j' hj'
                                  exact ⟨b, o, e1, e2, cellSetNe (by simp; omega) e3⟩
                              case measure => simp [intOf]; omega
                            · go_wp2
                              go_roundw
                              case rel =>
                                refine ⟨j + 1, by omega, by go_num, ?_, HAC.out⟩
                                have h := HSN.out
                                rw [if_neg c51] at h
                                rw [h]
                                exact HM2.out
                              case measure => simp [intOf]; omega
                          · have e : j = a.length := by omega
                            subst e
                            rw [List.take_of_length_le (Nat.le_refl _)] at hm2
                            have hlen2 := (HLV.out a.length).1
                            rw [List.take_of_length_le (Nat.le_refl _)] at hlen2
                            have hkm := hm2.get (k := k) (by omega)
                            have HM2 := Lib.hid hm2
                            have h1 := HSTEP.out
                            have h2 := HSTOP.out
                            clear hac hm2 HSTEP HSTOP
                            generalize hL : leaveF c k a m' = L at *
                            by_cases hneg : L.getD k 0 < 0
                            · rw [if_pos hneg] at h2
                              have HSTOP := Lib.hid (h2 rfl)
                              clear h1 h2 hL
                              generalize L.getD k 0 = lk at *
                              go_wp2
                              go_ret2
                              refine ⟨⟨.slice none 0 0, ?_⟩, HM2.out.below⟩
                              have hR : R = 31 := by rw [HRES.out, HSTOP.out]; rfl
                              rw [hR]
                              rfl
                            · rw [if_neg hneg] at h1
                              have HNX := Lib.hid h1
                              clear h1 h2 hL
                              generalize L.getD k 0 = lk at *
                              go_wp2
                              go_roundw
                              case rel => exact ⟨k + 1, _, by omega, by go_num, HNX.out, HM2.out⟩
                              case measure => simp [intOf]; omega
                      · rw [if_neg c52] at hstep
                        have HNX := Lib.hid hstep
                        have c53 : (x != 52) = true := by simpa using c52
                        clear hstop hstep hob
                        go_wp2
                        go_roundw
                        case rel => exact ⟨k + 1, m', by omega, by go_num, HNX.out, HM1'.out⟩
                        case measure => simp [intOf]; omega
                  -- end l4
                · have e : k = c.length := by omega
                  subst e
                  have HTO3 := Lib.hid hto3
                  clear hto3
                  go_wp2
                  go_ret2
                  have h := refM_some HTO.out HLK.out HTO3.out
                  have hR : R = 0 := by rw [HRES.out, ← refM_good, h]; rfl
                  rw [hR]
                  exact ⟨⟨_, rfl⟩, hm.below⟩
end Go.Proofs.Ytchmgilckiadaaa
