/- ref06.last, opened: what they answer. -/
import Derived.Test.YtchmgilckiadaaaClo
import Derived.Test.YtchmgilckiadaaaPartA
namespace Go.Proofs.Ytchmgilckiadaaa
open Go.RowKit
set_option maxRecDepth 100000 in
theorem last_any (vc vm : Value) (c : List Ins) (m : List Int) (i : Nat) (w : World) (hc : Code_ w vc c) (hm : Ints w vm m) (hlen : m.length = c.length) (hi : i < c.length) (h0 : 0 ≤ m.getD i 0) (h1 : m.getD i 0 < c.length) :
    Calls Try.prog 184 #[vc, vm, .int .i64 i] w fun e w' => e = .returned (.int .i64 (lastF c m i)) ∧ w = w' := by
  obtain ⟨A, k, rfl, hr⟩ := hc.open_
  obtain ⟨A2, k2, rfl, hr2⟩ := hm.open_
  have hi64 := (code_i64 hc.i64)
  have hm64 := i64_getD hm.i64
  clear hc hm
  obtain ⟨x, hx⟩ : ∃ x : Nat, m.getD i 0 = x := ⟨(m.getD i 0).toNat, by omega⟩
  obtain ⟨b2, off2, rfl, hi1⟩ := hr2 i (by omega)
  rw [hx] at hi1
  obtain ⟨b0, off, rfl, hx1, _⟩ := hr x (by omega)
  obtain ⟨b3, off3, e3, hx2⟩ := hr2 x (by omega)
  injection e3 with e3
  injection e3 with e3 e4 _
  subst e3
  subst e4
  have hop : (c.getD x (0, 0)).1 = opAt c x := rfl
  have hop2 := (hi64 x).1
  rw [hop] at hx1 hop2
  have hlast : lastF c m i = if opAt c x = 49 then m.getD x 0 else x := by
    unfold lastF
    rw [hx, Int.toNat_natCast]
  rw [hlast]
  clear hr hr2 hi64 hm64 hlast hop
  obtain ⟨hop3, hop4⟩ := hop2
  generalize opAt c x = o at *
  generalize m.getD x 0 = y at *
  have hxl : (x : Int) < (c.length : Int) := by omega
  have hil : (i : Int) < (c.length : Int) := by omega
  have hx0 : (0 : Int) ≤ x := by omega
  have hi0 : (0 : Int) ≤ i := by omega
  rw [hlen] at *
  clear hx h0 h1 hlen
  by_cases ho : o = 49
  · rw [if_pos ho]
    subst ho
    go_enter Try.func184, Try.ntmps184
    go_wp2
    go_ret
    exact ⟨rfl, rfl⟩
  · rw [if_neg ho]
    go_enter Try.func184, Try.ntmps184
    go_wp2
    go_ret
    exact ⟨rfl, rfl⟩
def openQ (c : List Ins) (m : List Int) (k j : Nat) : List Nat := (List.range j).filter fun i => isOB c i && decide ((k : Int) ≤ lastF c m i)
theorem openQ_next (c : List Ins) (m : List Int) (k j : Nat) : openQ c m k (j + 1) = openQ c m k j ++ (if isOB c j = true ∧ (k : Int) ≤ lastF c m j then [j] else []) := by
  unfold openQ
  rw [List.range_succ, List.filter_append]
  congr 1
  by_cases h1 : isOB c j = true
  · by_cases h2 : (k : Int) ≤ lastF c m j
    · simp [h1, h2]
    · simp [h1, h2]
  · simp [h1]
theorem openQ_len (c : List Ins) (m : List Int) (k j : Nat) : (openQ c m k j).length ≤ j := by
  have := List.length_filter_le (fun i => isOB c i && decide ((k : Int) ≤ lastF c m i)) (List.range j)
  simpa [openQ] using this
def natVals (l : List Nat) : List Value := l.map fun (i : Nat) => .int .i64 (i : Int)
set_option maxRecDepth 100000 in
set_option maxHeartbeats 1000000 in
theorem opened_any (vc vm : Value) (c : List Ins) (m : List Int) (k : Nat) (w : World) (hc : Code_ w vc c) (hm : Ints w vm m) (hlen : m.length = c.length) (hl : c.length ≤ 600) (hk : k ≤ c.length)
    (hlast : ∀ i, i < k → isO c i → 0 ≤ m.getD i 0 ∧ m.getD i 0 < c.length ∧ I64 (lastF c m i)) :
    Calls Try.prog 142 #[vc, vm, .int .i64 k] w fun e w' => (∃ v, e = .returned v ∧ w'.ownsRow w.heap.size 3 1 v (openM c m k).length (natVals (openM c m k))) ∧ Below w.heap.size w w' := by
  have HC := Lib.hid hc
  have HLast := Lib.hid hlast
  have hi64 := Lib.hid hc.i64
  obtain ⟨A, kc, rfl, hr⟩ := hc.open_
  obtain ⟨A2, k2, rfl, _⟩ := hm.open_
  rw [hlen] at hm ⊢
  have HM := Lib.hid hm
  have HLen := Lib.hid hlen
  clear hlen
  have HR := Lib.hid hr
  clear hc hm hlast hr
  rw [show openM c m k = openQ c m k k from rfl]
  go_enter Try.func142, Try.ntmps142
  go_wp2
  go_loopw [7, 8] (fun o i wr => ∃ j : Nat, j ≤ k ∧ i = .int .i64 j ∧ wr.ownsRow w.heap.size 3 1 o (openQ c m k j).length (natVals (openQ c m k j)) ∧ Below w.heap.size w wr) (fun _ i _ => k - (intOf i).toNat)
  case atStart => exact ⟨0, Nat.zero_le _, rfl, World.ownsRow_nil _ _ _ _, Below.refl _ _⟩
  case round =>
    obtain ⟨j, hj, rfl, hown, hb⟩ := hrel
    have hsz := hb.size
    by_cases hlt : j < k
    · obtain ⟨b0, off, rfl, hd1, _⟩ := HR.out j (by omega)
      have hd1 := (hb.cell (World.block_lt_of_cell? w _ hd1)).trans hd1
      have hop : (c.getD j (0, 0)).1 = opAt c j := rfl
      obtain ⟨ho1, ho2⟩ := (code_i64 hi64.out j).1
      rw [hop] at hd1 ho1 ho2
      have hnx := openQ_next c m k j
      have hqn := openQ_len c m k j
      have hob := @isOB_iff c j
      unfold isO at hob
      have HOWN := Lib.hid hown
      have HNX := Lib.hid hnx
      have HB := Lib.hid hb
      clear hown hnx hop
      have hjk : (j : Int) < (k : Int) := by omega
      have hjl : (j : Int) < (c.length : Int) := by omega
      have hj0 : (0 : Int) ≤ j := by omega
      by_cases c1 : opAt c j = 48 ∨ opAt c j = 51
      · have hla := HLast.out j hlt c1
        have hcall := last_any _ _ c m j wr (HC.out.ext HB.out) (HM.out.ext HB.out) HLen.out (by omega) hla.1 hla.2.1
        have hlf := hla.2.2
        obtain ⟨hl1, hl2⟩ := hlf
        have HCALL := Lib.hid hcall
        clear hcall hla
        generalize hL : lastF c m j = L at *
        have HOB := Lib.hid (hob.2 c1)
        generalize opAt c j = o at *
        by_cases hkl : (k : Int) ≤ L
        · have hnx := HNX.out
          rw [if_pos ⟨HOB.out, hkl⟩] at hnx
          have HNX := Lib.hid hnx
          clear hnx hob hL
          rcases c1 with rfl | rfl
          all_goals
            go_wp2_with (first
              | (go_at_call 184; (with_reducible refine HCALL.out.mono ?_); rintro e w6 ⟨rfl, rfl⟩)
              | (at_builtin; refine wp_append_lit w.heap.size rfl (.tmp 36) (.tmp 38) 23 3 (.int .i64 0) 1 8 rfl Try.underlying23 info_int rfl (by decide) _ (openQ c m k j).length 1 (natVals (openQ c m k j)) #[.int .i64 j] wr.heap.size rfl rfl rfl rfl (by simp [Value.oneCell']) HOWN.out hsz (by unfold maxLen; omega) (by omega) ?_; intro v1 w1 hown hg hat hnil; clear hat hnil; have HG := Lib.hid hg; have HOW := Lib.hid hown; clear hg hown))
            go_roundw
            case rel =>
              refine ⟨j + 1, by omega, by go_num, ?_, ?_⟩
              · have h := HOW.out
                rw [HNX.out]
                have e : natVals (openQ c m k j ++ [j]) = natVals (openQ c m k j) ++ [.int .i64 j] := by simp [natVals]
                rw [e, List.length_append]
                exact h
              · have hg := HG.out
                have hb := HB.out
                exact hb.trans ⟨hg.os, hg.tape, hg.output, hg.size, fun q hq => hg.block q (Nat.lt_of_lt_of_le hq hsz) (fun hh => by have := (HOWN.out.lt q hh.symm).1; omega)⟩
            case measure => simp [intOf]; omega
        · have hnx := HNX.out
          rw [if_neg (fun h => hkl h.2), List.append_nil] at hnx
          have HNX := Lib.hid hnx
          clear hnx hob hL
          rcases c1 with rfl | rfl
          all_goals
            go_wp2_with (first
              | (go_at_call 184; (with_reducible refine HCALL.out.mono ?_); rintro e w6 ⟨rfl, rfl⟩))
            go_roundw
            case rel =>
              refine ⟨j + 1, by omega, by go_num, ?_, HB.out⟩
              rw [HNX.out]
              exact HOWN.out
            case measure => simp [intOf]; omega
      · have hnx := HNX.out
        rw [if_neg (fun h => c1 (hob.1 h.1)), List.append_nil] at hnx
        have HNX := Lib.hid hnx
        clear hnx hob
        generalize opAt c j = o at *
        have c11 : ¬ o = 48 := fun e => c1 (.inl e)
        have c12 : ¬ o = 51 := fun e => c1 (.inr e)
        go_wp2
        go_roundw
        case rel =>
          refine ⟨j + 1, by omega, by go_num, ?_, HB.out⟩
          rw [HNX.out]
          exact HOWN.out
        case measure => simp [intOf]; omega
    · have e : j = k := by omega
      subst e
      have HOWN := Lib.hid hown
      clear hown
      go_wp2
      go_ret
      exact ⟨⟨_, rfl, HOWN.out⟩, hb⟩
end Go.Proofs.Ytchmgilckiadaaa
