/- shape: the stack's push; the closures that scan is handed. -/
import Derived.Test.YtchmgilckiadaaaScw
import Derived.Deep.QuietTactic
import Derived.BigQuiet
namespace Go.Proofs.Ytchmgilckiadaaa
open Go.RowKit
theorem info_ptrB : (Try.prog.info? 192).map (fun i => (i.zero, i.size, i.bytes)) = some (some (.pointer none), 1, 8) := by kernel_rfl
theorem info_int : (Try.prog.info? 3).map (fun i => (i.zero, i.size, i.bytes)) = some (some (.int .i64 0), 1, 8) := by kernel_rfl
/-- What push leaves. -/
def PushPost (B gs gb n : Nat) (vo : Value) (ps : List Value) (w : World) (e : Ending) (w' : World) : Prop :=
  e = .returned (.tuple #[]) ∧ ∃ vo1 w1, w.grownBy w1 vo.ownBlock ∧ w1.ownsRow B 192 1 vo1 (n + 1) (ps ++ [ptrB gb]) ∧ w' = w1.setCell ⟨gs, 0, none⟩ vo1
theorem grown_block {w w1 : World} {B e s n : Nat} {v : Value} {xs : List Value} (hr : w.ownsRow B e s v n xs) (hg : w.grownBy w1 v.ownBlock) {k : Nat} {cs : Array Value} {e' : TypeId} (hk : w.heap[k]? = some (.cells cs e' (0, 0))) (hne : e' ≠ e) :
    w1.heap[k]? = some (.cells cs e' (0, 0)) := by
  refine (hg.block _ (heap_lt hk) fun hh => ?_).trans hk
  obtain ⟨_, cs', hh'⟩ := own_heap hr hh.symm
  exact type_ne hk hh' hne rfl
set_option maxHeartbeats 400000 in
theorem push_any (B gs gb n : Nat) (vo : Value) (ps : List Value) (w : World) (hs : w.heap[gs]? = some (.cells #[vo] 190 (0, 0))) (hrow : w.ownsRow B 192 1 vo n ps) (hB : B ≤ w.heap.size) (hn : n ≤ 1000) :
    Calls Try.prog 176 #[.pointer (some ⟨gs, 0, none⟩), .pointer (some ⟨gb, 0, none⟩)] w (PushPost B gs gb n vo ps w) := by
  have hc := cell_of_row w gs 0 _ _ _ hs
  simp only [List.getElem?_toArray, List.getElem?_cons_zero] at hc
  have hlt := heap_lt hs
  have HS := Lib.hid hs
  have HR := Lib.hid hrow
  clear hs hrow
  go_enter Try.func176, Try.ntmps176
  go_wp2_with (first
    | (at_builtin; refine wp_append_lit B rfl (.tmp 8) (.tmp 10) 150 192 (.pointer none) 1 8 rfl Try.underlying150 info_ptrB rfl (by decide) vo n 1 ps #[ptrB gb] w.heap.size rfl rfl rfl rfl (by simp [ptrB, Value.oneCell']) HR.out hB (by unfold maxLen; omega) (by omega) ?_; intro v1 w1 hown hg hat hnil; clear hat hnil; obtain ⟨q1, cap1, rfl, _, _⟩ := hown.form (by omega); have hs1 := grown_block HR.out hg HS.out (by decide); have hc1 := cell_of_row w1 gs 0 _ _ _ hs1; have hf1 := frozen_of_row w1 gs 0 _ _ hs1; simp only [List.getElem?_toArray, List.getElem?_cons_zero] at hc1; have HG := Lib.hid hg; clear hg hs1))
  go_end0
  exact ⟨rfl, _, w1, HG.out, hown, rfl⟩
/-- What seen does in Match: nothing. -/
theorem match1_any (a b : Value) (w : World) : Calls Try.prog 127 #[a, b] w fun e w' => e = .returned (.tuple #[]) ∧ w = w' := by
  go_enter Try.func127, Try.ntmps127
  go_wp2
  go_end0
  exact ⟨rfl, rfl⟩
/-- Is a block a loop? -/
theorem scan1_any (bc gb : Nat) (vc : Value) (c : List Ins) (b : Blk) (v : Value) (w : World) (hbc : w.cell? ⟨bc, 0, none⟩ = some vc) (hc : Code_ w vc c) (hb : w.heap[gb]? = some (.cells (blkCells b v) 194 (0, 0))) (hat : b.at_ < c.length) :
    Calls Try.prog 178 #[.pointer (some ⟨gb, 0, none⟩), .pointer (some ⟨bc, 0, none⟩)] w fun e w' => e = .returned (.bool (opAt c b.at_ == 51)) ∧ Below w.heap.size w w' := by
  obtain ⟨A, k, rfl, hr⟩ := hc.open_
  obtain ⟨cb, off, rfl, hd1, _⟩ := hr b.at_ hat
  have hlen := hc.len
  have hb0 := cell_of_row w gb 0 _ _ _ hb
  simp only [blkCells, List.getElem?_toArray, List.getElem?_cons_zero] at hb0
  have h0 : (0 : Int) ≤ (b.at_ : Int) := Int.natCast_nonneg _
  have h1 : (b.at_ : Int) < (c.length : Int) := by omega
  have ho : (opAt c b.at_ == 51) = ((c.getD b.at_ (0, 0)).1 == 51) := rfl
  have HO := Lib.hid ho
  generalize (c.getD b.at_ (0, 0)).1 = o at hd1 HO
  clear hr hc ho hb
  go_enter Try.func178, Try.ntmps178
  go_wp2_with fail
  go_quiet (fail)
  go_wp2
  go_ret
  exact ⟨ret_bool HO.out.symm, below_drewN (Below.refl _ _) _⟩
end Go.Proofs.Ytchmgilckiadaaa
