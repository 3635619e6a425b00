/- wire.Writer: Byte, Int. -/
import Derived.Test.YtchmgilckiadaaaWrm
namespace Go.Proofs.Ytchmgilckiadaaa
open Go.RowKit
theorem own_ext {w w' : World} {B n s : Nat} {e : TypeId} {v : Value} {xs : List Value} (h : w.ownsRow B e s v n xs) (hb : Below w.heap.size w w') : w'.ownsRow B e s v n xs := by
  refine h.kept (grown_of_below hb none) ?_
  cases v.ownBlock with
  | none => exact .inl rfl
  | some x => exact .inr (by simp)
theorem WPost.from {B q : Nat} {bs new : List UInt8} {w W1 w' : World} {e : Ending} (hb : Below w.heap.size w W1) (h : WPost B q bs new W1 e w') : WPost B q bs new w e w' := ⟨h.1, h.2.1, (WStep.of_below hb).trans h.2.2⟩
theorem below_of_grown {B : Nat} {w w1 w2 : World} {v : Value} {n : Nat} {e : TypeId} {s : Nat} {xs : List Value} (hb : Below B w w1) (hB : B ≤ w1.heap.size) (hown : w1.ownsRow B e s v n xs) (hg : w1.grownBy w2 v.ownBlock) : Below B w w2 :=
  hb.trans ⟨hg.os, hg.tape, hg.output, hg.size, fun q hq => hg.block q (Nat.lt_of_lt_of_le hq hB) (fun hh => by have := (hown.lt q hh.symm).1; omega)⟩
/-- The last call of a writer's function: what was gathered is written. -/
theorem wlast_any (B q : Nat) (bs l : List UInt8) (A : Option Addr) (k : Nat) (w wr W1 : World) (h : WAt w B q bs) (hb : Below w.heap.size w wr) (hv : Byts wr (.slice A l.length k) l) (hW : wr.alloc (.cells #[.slice A l.length k] 46) = W1) (hl : bs.length + l.length ≤ 1048576) :
    Calls Try.prog 145 #[.pointer (some ⟨q, 0, none⟩), .slice (some ⟨wr.heap.size, 0, none⟩) 1 1] W1 (WPost B q bs l w) := by
  have hb1 : Below wr.heap.size wr W1 := by rw [← hW]; exact below_new wr _
  have hq1 : W1.heap[wr.heap.size]? = some (.cells #[.slice A l.length k] 46 (0, 0)) := by rw [← hW]; exact World.alloc_heap_new wr _
  have hbe := hb.trans (hb1.mono hb.size)
  have := more_any B q bs _ [l] W1 (h.ext hbe) (parts_one hq1 (hv.ext hb1)) (by simpa using hl) (by simp)
  refine this.mono ?_
  intro e w' h1
  have h2 := WPost.from hbe h1
  simpa using h2
set_option maxRecDepth 100000 in
theorem byte_any (B q : Nat) (bs : List UInt8) (v : Value) (xs : List Int) (w : World) (h : WAt w B q bs) (hv : Ints w v xs) (hx : ∀ x ∈ xs, 0 ≤ x ∧ x < 256) (hl : bs.length + xs.length ≤ 1048576) :
    Calls Try.prog 89 #[.pointer (some ⟨q, 0, none⟩), v] w (WPost B q bs (xs.map lowB) w) := by
  obtain ⟨A, c, rfl, hr⟩ := hv.open_
  have HR := Lib.hid hr
  have HX := Lib.hid hx
  have H := Lib.hid h
  clear hr hx h hv
  go_enter Try.func89, Try.ntmps89
  go_wp2
  go_loopw [5, 7, 10] (fun o n7 i wr => ∃ k : Nat, k ≤ xs.length ∧ i = .int .i64 k ∧ wr.ownsRow w.heap.size 5 1 o k (bytVals ((xs.take k).map lowB)) ∧ Below w.heap.size w wr) (fun _ _ i _ => xs.length - (intOf i).toNat)
  case atStart => exact ⟨0, Nat.zero_le _, rfl, World.ownsRow_nil _ _ _ _, Below.refl _ _⟩
  case round =>
    obtain ⟨k, hk, rfl, hown, hb⟩ := hrel
    by_cases hlt : k < xs.length
    · obtain ⟨b, off, rfl, hc1⟩ := HR.out k hlt
      have hd1 := cell_ext hc1 hb
      have hx := HX.out _ (getD_in (d := 0) hlt)
      have hts := take_snoc xs k 0 hlt
      generalize hy : xs.getD k 0 = y at *
      obtain ⟨hy0, hy1⟩ := hx
      have HTS := Lib.hid hts
      have HO := Lib.hid hown
      have hsz := hb.size
      have HB := Lib.hid hb
      clear hts hown hb hy hc1
      have n1 : decide (255 < y) = false := by simp; omega
      have n2 : y % 256 = y := by omega
      go_wp2_with (at_builtin; refine wp_append_lit w.heap.size rfl (.tmp 22) (.tmp 25) 46 5 (.int .u8 0) 1 1 rfl Try.underlying46 info_byt rfl (by decide) _ k 1 _ #[.int .u8 y] wr.heap.size rfl rfl rfl rfl (by simp [Value.oneCell']) HO.out hsz (by unfold maxLen; omega) (by omega) ?_; intro v1 w1 hown hg hat hnil; clear hat hnil; have HG := Lib.hid hg; have HOW := Lib.hid hown; clear hg hown)
      go_roundw
      case rel =>
        refine ⟨k + 1, by omega, by go_num, ?_, below_of_grown HB.out hsz HO.out HG.out⟩
        have h := HOW.out
        rw [HTS.out, List.map_append, bytVals_append]
        have e : bytVals ([y].map lowB) = [.int .u8 y] := by simp [bytVals, u8_toNat hy0 hy1]
        rw [e]
        exact h
      case measure => simp [intOf]; omega
    · have hke : k = xs.length := by omega
      subst hke
      rw [List.take_length] at hown
      obtain ⟨Ao, ko, rfl⟩ := own_slice hown
      have hbyts := own_byts hown (by simp)
      have hlm : (xs.map lowB).length = xs.length := by simp
      have hbyts' : Byts wr (.slice Ao (xs.map lowB).length ko) (xs.map lowB) := by rw [hlm]; exact hbyts
      obtain ⟨W1, hW⟩ : ∃ W1, wr.alloc (.cells #[.slice Ao (xs.map lowB).length ko] 46) = W1 := ⟨_, rfl⟩
      have HL := Lib.hid (wlast_any B q bs (xs.map lowB) Ao ko w wr W1 H.out hb hbyts' hW (by rw [hlm]; exact hl))
      rw [hlm] at hW
      have HW := Lib.hid hW
      clear hown hbyts hbyts' hW hb hlm
      go_wp2_with (go_at_call 145; rw [HW.out]; (with_reducible refine HL.out.mono ?_); go_must (rintro e w3 ⟨rfl, h2, h3⟩))
      go_ret
      exact ⟨rfl, h2, h3⟩
theorem wrap_u64' (n : Int) : IntKind.u64.wrap n = n % 18446744073709551616 := by simp [IntKind.wrap, IntKind.bits, IntKind.signed]
theorem bytes_of_num (y : Int) : ∃ n : Nat, y % 18446744073709551616 = (n : Int) ∧ n = (y % 18446744073709551616).toNat ∧ n < 18446744073709551616 := ⟨(y % 18446744073709551616).toNat, by omega, rfl, by omega⟩
theorem flatMap_take {α β : Type} (f : α → List β) (l : List α) (k : Nat) (d : α) (h : k < l.length) : (l.take (k + 1)).flatMap f = (l.take k).flatMap f ++ f (l.getD k d) := by
  rw [take_snoc l k d h]; simp
theorem flatMap_len {α β : Type} (f : α → List β) (m : Nat) (l : List α) (h : ∀ x ∈ l, (f x).length ≤ m) : (l.flatMap f).length ≤ l.length * m := by
  induction l with
  | nil => simp
  | cons x l ih =>
    have h1 := ih (fun y hy => h y (by simp [hy]))
    have h2 := h x (by simp)
    rw [List.flatMap_cons, List.length_append, List.length_cons, Nat.add_mul]
    omega
theorem numF_len (x : Int) : (numF x).length = 8 := bigF_len _ _
theorem big_cells {w : World} {B n size : Nat} {v : Value} (h : w.ownsRow B 5 1 v size (bytVals (bigF n size))) : CellsAt w v size 1 (fun j => .int .u8 (((bigF n size).getD j 0).toNat : Int)) := by
  have := own_byts h (bigF_len n size).symm
  unfold Byts at this
  rwa [bigF_len] at this
theorem big_range (n size : Nat) : bytVals (bigF n size) = (List.range (size * 1)).map (fun j => .int .u8 (((bigF n size).getD j 0).toNat : Int)) := by
  have := bytVals_range (bigF n size)
  rwa [bigF_len] at this
set_option maxRecDepth 100000 in
theorem int_any (B q : Nat) (bs : List UInt8) (v : Value) (xs : List Int) (w : World) (h : WAt w B q bs) (hv : Ints w v xs) (hl : bs.length + xs.length * 8 ≤ 1048576) :
    Calls Try.prog 93 #[.pointer (some ⟨q, 0, none⟩), v] w (WPost B q bs (xs.flatMap numF) w) := by
  obtain ⟨A, c, rfl, hr⟩ := hv.open_
  have HR := Lib.hid hr
  have H := Lib.hid h
  have HLN := Lib.hid (fun k => flatMap_len numF 8 (xs.take k) (fun x _ => by rw [numF_len]; omega))
  clear hr h hv
  go_enter Try.func93, Try.ntmps93
  go_wp2
  go_loopw [5, 7, 10] (fun o n7 i wr => ∃ k : Nat, k ≤ xs.length ∧ i = .int .i64 k ∧ wr.ownsRow w.heap.size 5 1 o ((xs.take k).flatMap numF).length (bytVals ((xs.take k).flatMap numF)) ∧ Below w.heap.size w wr) (fun _ _ i _ => xs.length - (intOf i).toNat)
  case atStart => exact ⟨0, Nat.zero_le _, rfl, World.ownsRow_nil _ _ _ _, Below.refl _ _⟩
  case round =>
    obtain ⟨k, hk, rfl, hown, hb⟩ := hrel
    by_cases hlt : k < xs.length
    · obtain ⟨b, off, rfl, hc1⟩ := HR.out k hlt
      have hd1 := cell_ext hc1 hb
      have hts := flatMap_take numF xs k 0 hlt
      have hln := HLN.out k
      rw [List.length_take, Nat.min_eq_left hk] at hln
      generalize (xs.take k).flatMap numF = P at *
      generalize hy : xs.getD k 0 = y at *
      obtain ⟨n, hn1, hn2, hn3⟩ := bytes_of_num y
      have HTS := Lib.hid hts
      have HBIG := Lib.hid (show Calls Try.prog 146 #[.int .u64 n, .int .i64 8] wr _ from big_any n 8 wr hn3 (by omega) (by omega))
      have HO := Lib.hid hown
      have hsz := hb.size
      have HB := Lib.hid hb
      have HN := Lib.hid (show IntKind.u64.wrap y = (n : Int) from by rw [wrap_u64', hn1])
      have HN2 := Lib.hid hn2
      obtain ⟨Ao, ko, rfl⟩ := own_slice hown
      clear hts hown hb hy hc1 hn1 hn2
      go_wp2_with (first
        | (go_at_call 146; (try rw [HN.out]); (with_reducible refine HBIG.out.mono ?_); go_must (rintro e w1 ⟨⟨v1, rfl, ho⟩, hb⟩; have HO1 := Lib.hid ho; have HB1 := Lib.hid hb; clear ho hb; obtain ⟨A1, k1, rfl⟩ := own_slice HO1.out; obtain ⟨v2, w2, hrun, hown2, hg, _⟩ := run_append_any (P := Try.prog) w1 w.heap.size 46 46 5 (.int .u8 0) 1 1 Try.underlying46 info_byt rfl (by decide) _ _ P.length 8 (bytVals P) (bytVals (bigF n 8)) (own_ext HO.out HB1.out) _ (big_cells HO1.out) (big_range n 8) (fun j => rfl) (by unfold maxLen; omega) (by omega) (Nat.le_trans hsz HB1.out.size); have HR2 := Lib.hid hrun; have HO2 := Lib.hid hown2; have HG2 := Lib.hid hg; clear hrun hown2 hg))
        | (at_builtin; refine wpList_append_run _ rfl (.tmp 14) (.tmp 17) 46 46 rfl _ _ rfl rfl HR2.out ?_))
      go_roundw
      case rel =>
        refine ⟨k + 1, by omega, by go_num, ?_, below_of_grown (HB.out.trans (HB1.out.mono hsz)) (Nat.le_trans hsz HB1.out.size) (own_ext HO.out HB1.out) HG2.out⟩
        have h := HO2.out
        rw [HTS.out, List.length_append, numF_len, bytVals_append]
        have e : numF y = bigF n 8 := by unfold numF; rw [HN2.out]
        rw [e]
        exact h
      case measure => simp [intOf]; omega
    · have hke : k = xs.length := by omega
      subst hke
      have hln := HLN.out xs.length
      rw [List.take_length] at hown hln
      obtain ⟨Ao, ko, rfl⟩ := own_slice hown
      have hbyts := own_byts hown rfl
      generalize xs.flatMap numF = P at *
      obtain ⟨W1, hW⟩ : ∃ W1, wr.alloc (.cells #[.slice Ao P.length ko] 46) = W1 := ⟨_, rfl⟩
      have HL := Lib.hid (wlast_any B q bs P Ao ko w wr W1 H.out hb hbyts hW (by omega))
      have HW := Lib.hid hW
      clear hown hbyts hW hb hln
      go_wp2_with (go_at_call 145; rw [HW.out]; (with_reducible refine HL.out.mono ?_); go_must (rintro e w3 ⟨rfl, h2, h3⟩))
      go_ret
      exact ⟨rfl, h2, h3⟩
end Go.Proofs.Ytchmgilckiadaaa
