/- law09.calm: at most twenty numbers, each cut to 0 .. 4999. -/
import Derived.Test.YtchmgilckiadaaaOwn
namespace Go.Proofs.Ytchmgilckiadaaa
open Go.RowKit
def calm1 (x : Int) : Int := (x.tmod 5000 + 5000).tmod 5000
def calmF (l : List Int) : List Int := (l.take 20).map calm1
theorem calm1_bd (x : Int) : 0 ≤ calm1 x ∧ calm1 x < 5000 := by
  unfold calm1
  have h1 := Int.tmod_lt_of_pos x (show (0 : Int) < 5000 by omega)
  have h2 : -5000 < x.tmod 5000 := by
    have h3 := Int.lt_tmod_of_pos x (show (0 : Int) < 5000 by omega)
    omega
  exact ⟨Int.tmod_nonneg _ (by omega), Int.tmod_lt_of_pos _ (by omega)⟩
/-- What calm answers: a row of its own. -/
def CalmPost (l : List Int) (w : World) (e : Ending) (w' : World) : Prop :=
  (∃ v, e = .returned v ∧ w'.ownsRow w.heap.size 3 1 v (calmF l).length (intVals (calmF l))) ∧ Below w.heap.size w w'
set_option maxRecDepth 100000 in
set_option maxHeartbeats 400000 in
theorem calm_any (v : Value) (xs : List Int) (w : World) (h : Ints w v xs) : Calls Try.prog 31 #[v] w (CalmPost xs w) := by
  have hlen := h.len
  have hi := h.i64
  obtain ⟨A, c, rfl, hr⟩ := h.open_
  clear h
  have HR := Lib.hid hr
  have HI := Lib.hid hi
  clear hr hi
  go_enter Try.func31, Try.ntmps31
  go_wp2
  go_loopw [3, 4] (fun o i wr => ∃ k : Nat, k ≤ xs.length ∧ k ≤ 20 ∧ i = .int .i64 k ∧ wr.ownsRow w.heap.size 3 1 o k (intVals ((xs.take k).map calm1)) ∧ Below w.heap.size w wr) (fun _ i _ => xs.length - (intOf i).toNat)
  case atStart => exact ⟨0, Nat.zero_le _, by omega, rfl, World.ownsRow_nil _ _ _ _, Below.refl _ _⟩
  case round =>
    obtain ⟨k, hk, hk20, rfl, hown, hb⟩ := hrel
    by_cases hlt : k < xs.length
    · by_cases h20 : k < 20
      · obtain ⟨b, off, rfl, hc1⟩ := HR.out k hlt
        have hx := i64_getD HI.out k
        have hd1 := (hb.cell (World.block_lt_of_cell? w _ hc1)).trans hc1
        have hts := take_snoc xs k 0 hlt
        generalize hy : xs.getD k 0 = y at *
        obtain ⟨hy0, hy1⟩ := hx
        have hc := calm1_bd y
        have HTS := Lib.hid hts
        have HO := Lib.hid hown
        have hsz := hb.size
        clear hts hown
        have ht0 : -5000 < y.tmod 5000 := Int.lt_tmod_of_pos y (show (0 : Int) < 5000 by omega)
        have ht1 : y.tmod 5000 < 5000 := Int.tmod_lt_of_pos y (show (0 : Int) < 5000 by omega)
        generalize htm : y.tmod 5000 = z at *
        have hcz : calm1 y = z % 5000 := by unfold calm1; rw [htm, Int.tmod_eq_emod_of_nonneg (by omega)]; omega
        have HCZ := Lib.hid hcz
        clear hcz hc
        go_wp2_with (at_builtin; refine wp_append_lit w.heap.size rfl (.tmp 15) (.tmp 23) 23 3 (.int .i64 0) 1 8 rfl Try.underlying23 info_int rfl (by decide) _ k 1 (intVals ((xs.take k).map calm1)) #[.int .i64 (z % 5000)] wr.heap.size rfl rfl rfl rfl (by simp [Value.oneCell']) HO.out hsz (by unfold maxLen; omega) (by omega) ?_; intro v1 w1 hown hg hat hnil; clear hat hnil; have HG := Lib.hid hg; have HOW := Lib.hid hown; clear hg hown)
        go_roundw
        case rel =>
          refine ⟨k + 1, by omega, by omega, by go_num, ?_, ?_⟩
          · have h := HOW.out
            rw [HTS.out, List.map_append]
            simp only [List.map_cons, List.map_nil, HCZ.out]
            have e : intVals (List.map calm1 (List.take k xs) ++ [z % 5000]) = intVals (List.map calm1 (List.take k xs)) ++ [.int .i64 (z % 5000)] := by simp [intVals]
            rw [e]
            exact h
          · have hg := HG.out
            exact hb.trans ⟨hg.os, hg.tape, hg.output, hg.size, fun q hq => hg.block q (Nat.lt_of_lt_of_le hq hsz) (fun hh => by have := (HO.out.lt q hh.symm).1; omega)⟩
        case measure => simp [intOf]; omega
      · have h20' : k = 20 := by omega
        subst h20'
        have HO := Lib.hid hown
        clear hown
        go_wp2
        go_ret
        refine ⟨⟨_, rfl, ?_⟩, hb⟩
        have hl : (calmF xs).length = 20 := by simp [calmF]; omega
        rw [hl]
        exact HO.out
    · have hke : k = xs.length := by omega
      subst hke
      have HO := Lib.hid hown
      clear hown
      go_wp2
      go_ret
      refine ⟨⟨_, rfl, ?_⟩, hb⟩
      have hl : calmF xs = (xs.take xs.length).map calm1 := by rw [List.take_length, calmF, List.take_of_length_le (by omega)]
      have hl2 : (calmF xs).length = xs.length := by rw [hl]; simp
      rw [hl2, hl]
      exact HO.out
end Go.Proofs.Ytchmgilckiadaaa
