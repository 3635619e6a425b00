/- bound.Part by contract. -/
import Derived.Test.YtchmgilckiadaaaPart
import Derived.Test.YtchmgilckiadaaaVal2
import Derived.Laws.EntriesVeiled
namespace Go.Proofs.Ytchmgilckiadaaa
open Go.RowKit
theorem asks1 (b n cap : Nat) (A : Option Addr) (w : World) (hk : w.cell? ⟨b, 0, none⟩ = some (.slice A n cap)) : Asks 75 #[.pointer (some ⟨b, 0, none⟩)] w encI okI (badI n) :=
  ⟨enters_of Try.func75 (by kernel_rfl) rfl, fun x w1 hx hb => part1_any ⟨b, 0, none⟩ A n cap x w1 hx (cellB hb hk)⟩
theorem asks2 (w : World) : Asks 78 #[] w (.int .i64) I64 (fun x => decide (x < 0)) :=
  ⟨enters_of Try.func78 (by kernel_rfl) rfl, fun x w1 _ _ => part2_any x w1⟩
theorem ints_row {w : World} {q : Nat} {m : List Int} (h : w.heap[q]? = some (.cells (intVals m).toArray 3 (0, 0))) (hl : m.length * 8 ≤ 281474976710656) (hi : ∀ x ∈ m, I64 x) : Ints w (.slice (some ⟨q, 0, none⟩) m.length m.length) m := by
  refine ⟨⟨_, _, rfl, fun _ => ⟨_, _, rfl, fun j hj => ?_⟩⟩, hl, hi⟩
  rw [Nat.zero_add, cell_of_row w q j _ _ _ h]
  simp only [intVals, List.getElem?_toArray, List.getElem?_map]
  have hj' : j < m.length := by omega
  simp [hj']
theorem out_eq {ks : List Int} {c : List Ins} {a b : Int} (h : partOut ks c = (a, b)) : Ending.returned (.tuple #[.int .i64 a, .int .i64 b]) = .returned (.tuple #[.int .i64 (partOut ks c).1, .int .i64 (partOut ks c).2]) := by rw [h]
set_option maxRecDepth 100000 in
set_option maxHeartbeats 1000000 in
theorem part_any (vc vk : Value) (c : List Ins) (ks : List Int) (w : World) (hc : Code_ w vc c) (hk : Ints w vk ks) (hlen : c.length ≤ 8796093022208) :
    Calls Try.prog 27 #[vc, vk] w fun e w' => e = .returned (.tuple #[.int .i64 (partOut ks c).1, .int .i64 (partOut ks c).2]) ∧ Below w.heap.size w w' := by
  obtain ⟨Ak, kcap, rfl, _⟩ := hk.open_
  obtain ⟨Ac, ccap, rfl, _⟩ := hc.open_
  have hclen := hc.len
  have HC := Lib.hid hc
  have HK := Lib.hid hk
  clear hc hk
  obtain ⟨W1, hW1⟩ : ∃ W1, W1 = (w.alloc (.cells #[.slice Ac c.length ccap] 22)).alloc (.cells #[.slice Ak ks.length kcap] 23) := ⟨_, rfl⟩
  have hb1 : Below w.heap.size w W1 := by rw [hW1]; exact ((Below.refl _ w).alloc (Nat.le_refl _) _).alloc (by simp) _
  have hpc : W1.cell? ⟨w.heap.size, 0, none⟩ = some (.slice Ac c.length ccap) := by rw [hW1]; exact cell_alloc' _ (box_new w _ _).1
  have hpk : W1.cell? ⟨w.heap.size + 1, 0, none⟩ = some (.slice Ak ks.length kcap) := by
    rw [hW1]
    have h := (box_new (w.alloc (.cells #[.slice Ac c.length ccap] 22)) (.slice Ak ks.length kcap) 23).1
    rwa [World.size_alloc] at h
  have H := Lib.hid (match_any _ c W1 (HC.out.ext hb1) hlen)
  have HB1 := Lib.hid hb1
  have HW1 := Lib.hid hW1
  clear hb1 hW1
  go_enter Try.func27, Try.ntmps27
  go_upto_region 1 with (fail)
  rw [← HW1.out]
  cases hs : scanF c with
  | none =>
    have hout : partOut ks c = (0, 31) := by
      have h := scan_bound (ks := ks) (c := c)
      rw [hs] at h
      unfold partOut
      cases hb : boundV ks c with
      | none => rfl
      | some r => rw [hb] at h; simp at h
    have HOUT := Lib.hid hout
    have HS := Lib.hid hs
    clear hs hout
    go_wp2_with (go_at_call 58; (with_reducible refine H.out.mono ?_); go_must (rintro e w1 ⟨he, hb⟩; rw [HS.out] at he; subst he))
    go_ret2
    exact ⟨out_eq HOUT.out, (HB1.out.trans (hb.mono HB1.out.size)).alloc (Nat.le_trans HB1.out.size hb.size) _⟩
  | some m =>
    obtain ⟨r, hr⟩ : ∃ r, boundV ks c = some r := by
      have h := scan_bound (ks := ks) (c := c)
      rw [hs] at h
      cases hb : boundV ks c with
      | none => rw [hb] at h; simp at h
      | some r => exact ⟨r, rfl⟩
    have hml := (scanTo_ok (stAt_some (c := c) (by rw [hs]; rfl) (Nat.le_refl c.length))).len
    have HS := Lib.hid hs
    have HR := Lib.hid hr
    clear hs hr hml
    go_upto_region 2 with (go_at_call 58; (with_reducible refine H.out.mono ?_); go_must (rintro e w1 ⟨he, hb⟩; rw [HS.out] at he; obtain ⟨q, rfl, hq, hrow, hml⟩ := he; have HROW := Lib.hid hrow; have HQ := Lib.hid hq; have HB := Lib.hid hb; clear hrow hq hb))
    have hB2 : Below W1.heap.size W1 (w1.alloc (.cells #[.slice (some ⟨q, 0, none⟩) c.length c.length] 23)) := HB.out.alloc HB.out.size _
    obtain ⟨W2, hW2⟩ : ∃ W2, W2 = w1.alloc (.cells #[.slice (some ⟨q, 0, none⟩) c.length c.length] 23) := ⟨_, rfl⟩
    have hpm : W2.cell? ⟨w1.heap.size, 0, none⟩ = some (.slice (some ⟨q, 0, none⟩) c.length c.length) := by rw [hW2]; exact (box_new w1 _ _).1
    have hrow2 : W2.heap[q]? = some (.cells (intVals m).toArray 3 (0, 0)) := by
      rw [hW2]
      exact ((below_new w1 _).block q (heap_lt HROW.out)).trans HROW.out
    rw [← hW2] at hB2 ⊢
    have HROW2 := Lib.hid hrow2
    have hpc2 := cellB hB2 hpc
    have hpk2 := cellB hB2 hpk
    have hcode2 : Code_ W2 (.slice Ac c.length ccap) c := (HC.out.ext HB1.out).ext hB2
    have hints2 : Ints W2 (.slice Ak ks.length kcap) ks := (HK.out.ext HB1.out).ext hB2
    have HA := Lib.hid (containsFunc_ins _ _ (badI ks.length) _ c W2 hcode2 (asks1 (w.heap.size + 1) ks.length kcap Ak W2 hpk2))
    have HB2 := Lib.hid hB2
    have HI := Lib.hid hints2
    have HCO := Lib.hid hcode2
    have hzq : w1.heap.size < W2.heap.size := World.block_lt_of_cell? W2 _ hpm
    clear hW2 hrow2 hB2 hcode2 hints2 hpc hpk HROW
    cases hbad : c.any (badI ks.length) with
    | true =>
      have hout : partOut ks c = (0, 1) := by unfold partOut; rw [HR.out]; simp [hbad]
      have HOUT := Lib.hid hout
      have HBAD := Lib.hid hbad
      clear hout hbad
      go_wp2_with (go_at_call 76; (with_reducible refine HA.out.mono ?_); go_must (rintro e w2 ⟨rfl, hb2⟩; rw [HBAD.out]))
      go_ret2
      exact ⟨out_eq HOUT.out, HB1.out.trans ((HB2.out.trans (hb2.mono HB2.out.size)).mono HB1.out.size)⟩
    | false =>
      have HBAD := Lib.hid hbad
      clear hbad
      have hi64 : ∀ x ∈ m, I64 x := fun x hx => by
        have := scanF_vals HS.out x hx
        exact ⟨by omega, by omega⟩
      have hcall : ∀ w2, Below W2.heap.size W2 w2 → Calls Try.prog 77 #[.slice Ak ks.length kcap, .func (.func 78) #[] #[]] w2 (fun e w' => e = .returned (.bool (ks.any fun x => decide (x < 0))) ∧ Below w2.heap.size w2 w') :=
        fun w2 hb2 => containsFunc_ints _ _ (fun x => decide (x < 0)) _ ks w2 (HI.out.ext hb2) (asks2 w2)
      have HCALL := Lib.hid hcall
      clear hcall
      cases hneg : (ks.any fun x => decide (x < 0)) with
      | true =>
        have hout : partOut ks c = (0, 1) := by unfold partOut; rw [HR.out]; simp only [hneg, Bool.or_true, if_true]
        have HOUT := Lib.hid hout
        have HNEG := Lib.hid hneg
        clear hout hneg
        go_wp2_with (first
          | (go_at_call 76; (with_reducible refine HA.out.mono ?_); go_must (rintro e w2 ⟨rfl, hb2⟩; rw [HBAD.out]; have hpk3 := cellB hb2 hpk2))
          | (go_at_call 77; (with_reducible refine (HCALL.out _ hb2).mono ?_); go_must (rintro e w3 ⟨rfl, hb3⟩; rw [HNEG.out])))
        go_ret2
        exact ⟨out_eq HOUT.out, HB1.out.trans ((HB2.out.trans ((hb2.trans (hb3.mono hb2.size)).mono HB2.out.size)).mono HB1.out.size)⟩
      | false =>
        have hkn := ks_ok hneg
        obtain ⟨f, hf⟩ := part_whole HS.out hkn (bad_ok HBAD.out) HR.out
        have hout : partOut ks c = (r, 0) := by unfold partOut; rw [HR.out]; simp only [hneg, HBAD.out, Bool.or_false, Bool.false_eq_true, if_false]
        have HOUT := Lib.hid hout
        have HNEG := Lib.hid hneg
        have HF := Lib.hid hf
        have HKN := Lib.hid hkn
        clear hout hneg hf hkn
        go_upto_region 9 with (first
          | (go_at_call 76; (with_reducible refine HA.out.mono ?_); go_must (rintro e w2 ⟨rfl, hb2⟩; rw [HBAD.out]; have hpk3 := cellB hb2 hpk2))
          | (go_at_call 77; (with_reducible refine (HCALL.out _ hb2).mono ?_); go_must (rintro e w3 ⟨rfl, hb3⟩; rw [HNEG.out])))
        have hbw : Below W2.heap.size W2 (w3.alloc (.cells #[.func (.func 79) #[] #[.pointer (some ⟨w.heap.size, 0, none⟩), .pointer (some ⟨w.heap.size + 1, 0, none⟩), .pointer (some ⟨w3.heap.size, 0, none⟩), .pointer (some ⟨w1.heap.size, 0, none⟩)]] 93)) :=
          (hb2.trans (hb3.mono hb2.size)).alloc (Nat.le_trans hb2.size hb3.size) _
        have hpp := (box_new w3 (.func (.func 79) #[] #[.pointer (some ⟨w.heap.size, 0, none⟩), .pointer (some ⟨w.heap.size + 1, 0, none⟩), .pointer (some ⟨w3.heap.size, 0, none⟩), .pointer (some ⟨w1.heap.size, 0, none⟩)]) 93).1
        generalize World.alloc w3 _ = W4 at hbw hpp ⊢
        have hpc4 := cellB hbw hpc2
        have hpk4 := cellB hbw hpk2
        have hpm4 := cellB hbw hpm
        have hrow4 : W4.heap[q]? = some (.cells (intVals m).toArray 3 (0, 0)) := (hbw.block q (heap_lt HROW2.out)).trans HROW2.out
        have hm4 := ints_row hrow4 (by omega) hi64
        rw [hml] at hm4
        have hcall3 := part3_any w.heap.size (w.heap.size + 1) w3.heap.size w1.heap.size _ _ _ c ks m HKN.out f 0 c.length 0 c.length r W4 rfl rfl ⟨hpc4, hpk4, hpp, hpm4, HCO.out.ext hbw, HI.out.ext hbw, hm4⟩ (Nat.zero_le _) (Nat.le_refl _) (by omega) HF.out
        have HC3 := Lib.hid hcall3
        have HBW := Lib.hid hbw
        clear hcall3 hbw hrow4 hm4 hpm4 hpk4 hb2 hb3 hpk3 hpc2 hpk2 hpm hi64
        go_wp2_with (go_at_call 79; (with_reducible refine HC3.out.mono ?_); go_must (rintro e w5 ⟨rfl, hb5⟩))
        go_ret2
        exact ⟨out_eq HOUT.out, HB1.out.trans ((HB2.out.trans ((HBW.out.trans (hb5.mono HBW.out.size)).mono HB2.out.size)).mono HB1.out.size)⟩
end Go.Proofs.Ytchmgilckiadaaa
