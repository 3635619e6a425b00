/- wire.Writer: Text. -/
import Derived.Test.YtchmgilckiadaaaWrb
namespace Go.Proofs.Ytchmgilckiadaaa
open Go.RowKit
/-- Bytes in a block of bytes. -/
def BytT (w : World) (v : Value) (l : List UInt8) : Prop := Byts w v l ∧ ∀ q, v.ownBlock = some q → ∃ cs fr, w.heap[q]? = some (.cells cs 5 fr)
theorem BytT.kept {w w' : World} {v : Value} {l : List UInt8} (h : BytT w v l) (hk : ∀ (q : Nat) (cs : Array Value) (fr : Nat × Nat), w.heap[q]? = some (.cells cs 5 fr) → w'.heap[q]? = w.heap[q]?) : BytT w' v l := by
  obtain ⟨⟨A, c, rfl, h1⟩, h2⟩ := h
  refine ⟨⟨A, c, rfl, fun h0 => ?_⟩, fun q hq => ?_⟩
  · obtain ⟨b, off, rfl, hd⟩ := h1 h0
    obtain ⟨cs, fr, hcs⟩ := h2 b rfl
    refine ⟨b, off, rfl, fun j hj => ?_⟩
    rw [World.cell?_of_block (hk b cs fr hcs)]
    exact hd j hj
  · obtain ⟨cs, fr, hcs⟩ := h2 q hq
    exact ⟨cs, fr, (hk q cs fr hcs).trans hcs⟩
theorem BytT.ext {w w' : World} {v : Value} {l : List UInt8} (h : BytT w v l) (hb : Below w.heap.size w w') : BytT w' v l := h.kept fun q _ _ hq => hb.block q (heap_lt hq)
theorem BytT.own {w : World} {B n : Nat} {v : Value} {l : List UInt8} (h : w.ownsRow B 5 1 v n (bytVals l)) (hn : n = l.length) : BytT w v l := by
  refine ⟨own_byts h hn, fun q hq => ?_⟩
  obtain ⟨cur, hc⟩ := row_tag h hq
  exact ⟨cur, _, hc⟩
theorem below_bytes (w : World) (e : TypeId) (s : ByteArray) : Below w.heap.size w (Lib.bytesWorld w e s) := by
  refine ⟨?_, ?_, ?_, ?_, fun k hk => Lib.bytesWorld_at_old w e s k hk⟩
  · rfl
  · rfl
  · rfl
  · rw [Lib.bytesWorld_size]; omega
theorem bytT_conv (w : World) (s : ByteArray) (c : Nat) : BytT (Lib.bytesWorld w 5 s) (.slice (some ⟨w.heap.size, 0, none⟩) s.size c) s.data.toList := by
  refine ⟨⟨_, c, by rw [Array.length_toList]; rfl, fun _ => ⟨_, _, rfl, fun j hj => ?_⟩⟩, fun q hq => ?_⟩
  · rw [Nat.zero_add]
    exact Lib.bytesWorld_cell w _ s j (by rw [Array.length_toList, Nat.mul_one] at hj; exact hj)
  · simp only [Value.ownBlock, Option.some.injEq] at hq
    subst hq
    exact ⟨_, _, Lib.bytesWorld_at_new w _ s⟩
/-- A list of texts, each as two parts. -/
def partsF (l : List ByteArray) : List (List UInt8) := l.flatMap fun s => [bigF s.size 2, s.data.toList]
theorem partsF_flat (l : List ByteArray) : (partsF l).flatten = l.flatMap textF := by
  induction l with
  | nil => rfl
  | cons s l ih =>
    have e : partsF (s :: l) = bigF s.size 2 :: s.data.toList :: partsF l := by simp [partsF]
    rw [e]
    simp [ih, textF]
theorem partsF_len (l : List ByteArray) : (partsF l).length = l.length * 2 := by
  induction l with
  | nil => rfl
  | cons s l ih =>
    have e : partsF (s :: l) = bigF s.size 2 :: s.data.toList :: partsF l := by simp [partsF]
    rw [e]
    simp only [List.length_cons, ih]
    omega
theorem partsF_snoc (l : List ByteArray) (k : Nat) (h : k < l.length) : partsF (l.take (k + 1)) = partsF (l.take k) ++ [bigF (l.getD k default).size 2, (l.getD k default).data.toList] := flatMap_take _ l k default h
/-- The parts gathered so far. -/
def PartsAt (w : World) (B : Nat) (v : Value) (L : List (List UInt8)) : Prop := ∃ vs : List Value, vs.length = L.length ∧ w.ownsRow B 46 1 v L.length vs ∧ ∀ j, j < L.length → BytT w (vs.getD j undef) (L.getD j [])
theorem PartsAt.ext {w w' : World} {B : Nat} {v : Value} {L : List (List UInt8)} (h : PartsAt w B v L) (hb : Below w.heap.size w w') : PartsAt w' B v L := by
  obtain ⟨vs, h1, h2, h3⟩ := h
  exact ⟨vs, h1, own_ext h2 hb, fun j hj => (h3 j hj).ext hb⟩
theorem PartsAt.parts {w : World} {B : Nat} {v : Value} {L : List (List UInt8)} (h : PartsAt w B v L) : Parts w v (L.map bytVals) := by
  obtain ⟨vs, h1, h2, h3⟩ := h
  exact parts_own (t := 46) (B := B) (vs := vs) (by rw [h1]; exact h2) h1 (fun j hj => (h3 j hj).1)
theorem PartsAt.more {w w' : World} {B : Nat} {v v' a b : Value} {L : List (List UInt8)} {x y : List UInt8} {vs : List Value} (h1 : vs.length = L.length) (h2 : w.ownsRow B 46 1 v L.length vs) (h3 : ∀ j, j < L.length → BytT w (vs.getD j undef) (L.getD j []))
    (ha : BytT w a x) (hb : BytT w b y) (hown : w'.ownsRow B 46 1 v' (L.length + 2) (vs ++ [a, b])) (hg : w.grownBy w' v.ownBlock) : PartsAt w' B v' (L ++ [x, y]) := by
  have hk : ∀ (q : Nat) (cs : Array Value) (fr : Nat × Nat), w.heap[q]? = some (.cells cs 5 fr) → w'.heap[q]? = w.heap[q]? := fun q cs fr hq => hg.block q (heap_lt hq) (fun e => by
    obtain ⟨cur, hc⟩ := row_tag h2 e.symm
    exact tag_ne hc hq (by decide) rfl)
  refine ⟨vs ++ [a, b], by simp [h1], by simpa using hown, fun j hj => ?_⟩
  by_cases hj1 : j < L.length
  · have e1 : (vs ++ [a, b]).getD j undef = vs.getD j undef := by simp [List.getD_eq_getElem?_getD, List.getElem?_append_left (show j < vs.length by omega)]
    have e2 : (L ++ [x, y]).getD j [] = L.getD j [] := by simp [List.getD_eq_getElem?_getD, List.getElem?_append_left hj1]
    rw [e1, e2]
    exact (h3 j hj1).kept hk
  · simp at hj
    have e1 : ∀ i, (vs ++ [a, b]).getD (L.length + i) undef = [a, b].getD i undef := fun i => by simp [List.getD_eq_getElem?_getD, List.getElem?_append_right (show vs.length ≤ L.length + i by omega), h1]
    have e2 : ∀ i, (L ++ [x, y]).getD (L.length + i) [] = [x, y].getD i [] := fun i => by simp [List.getD_eq_getElem?_getD, List.getElem?_append_right (show L.length ≤ L.length + i by omega)]
    rcases (show j = L.length + 0 ∨ j = L.length + 1 by omega) with e | e
    · rw [e, e1, e2]
      exact ha.kept hk
    · rw [e, e1, e2]
      exact hb.kept hk
theorem info_bytsT : (Try.prog.info? 46).map (fun i => (i.zero, i.size, i.bytes)) = some (some (.slice none 0 0), 1, 24) := by kernel_rfl
set_option maxRecDepth 100000 in
theorem text_any (B q : Nat) (bs : List UInt8) (v : Value) (l : List ByteArray) (w : World) (h : WAt w B q bs) (hv : Strs w v l) (hx : ∀ s ∈ l, s.size < 65536) (hk : l.length ≤ 1000) (hl : bs.length + (l.flatMap textF).length ≤ 1048576) :
    Calls Try.prog 90 #[.pointer (some ⟨q, 0, none⟩), v] w (WPost B q bs (l.flatMap textF) w) := by
  obtain ⟨A, c, rfl, hr⟩ := hv.open_
  have HR := Lib.hid hr
  have HX := Lib.hid hx
  have H := Lib.hid h
  clear hr hx h hv
  go_enter Try.func90, Try.ntmps90
  go_wp2
  go_loopw [5, 7, 10] (fun o n7 i wr => ∃ k : Nat, k ≤ l.length ∧ i = .int .i64 k ∧ PartsAt wr w.heap.size o (partsF (l.take k)) ∧ Below w.heap.size w wr) (fun _ _ i _ => l.length - (intOf i).toNat)
  case atStart => exact ⟨0, Nat.zero_le _, rfl, ⟨[], rfl, World.ownsRow_nil _ _ _ _, fun j hj => by simp [partsF] at hj⟩, Below.refl _ _⟩
  case round =>
    obtain ⟨k, hk1, rfl, hpa, hb⟩ := hrel
    by_cases hlt : k < l.length
    · obtain ⟨b, off, rfl, hc1⟩ := HR.out k hlt
      have hd1 := cell_ext hc1 hb
      have hx := HX.out _ (getD_in (d := default) hlt)
      have hts := partsF_snoc l k hlt
      have hln := partsF_len (l.take k)
      rw [List.length_take, Nat.min_eq_left hk1] at hln
      generalize hy : l.getD k default = y at *
      generalize partsF (l.take k) = P at *
      have HTS := Lib.hid hts
      have HBIG := Lib.hid (show Calls Try.prog 146 #[.int .u64 y.size, .int .i64 2] wr _ from big_any y.size 2 wr (by omega) (by omega) (by omega))
      have HCV := Lib.hid (fun u => Lib.run_convert_string_bytes (P := Try.prog) u 9 46 5 y Try.underlying9 Try.underlying46 Try.underlying5)
      obtain ⟨vs, hv1, hv2, hv3⟩ := hpa
      have HV2 := Lib.hid hv2
      have HV3 := Lib.hid hv3
      have HV1 := Lib.hid hv1
      have hsz := hb.size
      have HB := Lib.hid hb
      clear hts hb hy hc1 hv2 hv3 hv1
      have n1 : decide (65535 < (y.size : Int)) = false := by simp; omega
      have n2 : (y.size : Int) % 18446744073709551616 = y.size := by omega
      go_wp2_with (first
        | (go_at_call 146; (try rw [n2]); (with_reducible refine HBIG.out.mono ?_); go_must (rintro e w1 ⟨⟨v1, rfl, ho⟩, hb⟩; have hcv := HCV.out w1; have hbw := below_bytes w1 5 y; have hbt := bytT_conv w1 y (grownCap w1 y.size 0 5); generalize Lib.bytesWorld w1 5 y = w2 at hcv hbw hbt; have HB1 := Lib.hid hb; have HBW := Lib.hid hbw; have HBT := Lib.hid hbt; have HO1 := Lib.hid (BytT.own ho (bigF_len _ _).symm); have hs2 : w.heap.size ≤ w2.heap.size := Nat.le_trans hsz (Nat.le_trans hb.size hbw.size); obtain ⟨A1, k1, rfl⟩ := own_slice ho; clear ho hb hbw hbt))
        | (at_builtin; refine wp_append_lit w.heap.size rfl (.tmp 19) (.tmp 26) 174 46 (.slice none 0 0) 1 24 rfl Try.underlying174 info_bytsT rfl (by decide) _ P.length 2 vs #[.slice A1 2 k1, .slice (some ⟨w1.heap.size, 0, none⟩) y.size (grownCap w1 y.size 0 5)] w2.heap.size rfl rfl rfl rfl (by simp [Value.oneCell']) (own_ext (own_ext HV2.out HB1.out) HBW.out) hs2 (by unfold maxLen; omega) (by omega) ?_; intro v1 w3 hown hg hat hnil; clear hat hnil; have HG := Lib.hid hg; have HOW := Lib.hid hown; clear hg hown))
      go_roundw
      case rel =>
        have hb2 := HB1.out.trans (HBW.out.mono HB1.out.size)
        refine ⟨k + 1, by omega, by go_num, ?_, below_of_grown (HB.out.trans (hb2.mono hsz)) hs2 (own_ext (own_ext HV2.out HB1.out) HBW.out) HG.out⟩
        rw [HTS.out]
        exact PartsAt.more HV1.out (own_ext (own_ext HV2.out HB1.out) HBW.out) (fun j hj => (HV3.out j hj).ext hb2) (HO1.out.ext HBW.out) HBT.out HOW.out HG.out
      case measure => simp [intOf]; omega
    · have hke : k = l.length := by omega
      subst hke
      rw [List.take_length] at hpa
      have HM := Lib.hid (more_any B q bs _ (partsF l) wr (H.out.ext hb) hpa.parts (by rw [partsF_flat]; exact hl) (by rw [partsF_len]; omega))
      rw [partsF_flat] at HM
      have HB := Lib.hid hb
      clear hpa hb
      go_wp2_with (go_at_call 145; (with_reducible refine HM.out.mono ?_); go_must (rintro e w3 ⟨rfl, h2, h3⟩))
      go_ret
      exact ⟨rfl, h2, (WStep.of_below HB.out).trans h3⟩
end Go.Proofs.Ytchmgilckiadaaa
