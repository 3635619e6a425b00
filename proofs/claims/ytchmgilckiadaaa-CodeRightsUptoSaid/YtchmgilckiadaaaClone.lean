/- ref04.Clone: a script in memory of its own. -/
import Derived.Test.YtchmgilckiadaaaClonl
import Derived.Deep.Heap
namespace Go.Proofs.Ytchmgilckiadaaa
open Go.RowKit
theorem info_fn : (Try.prog.info? 53).map (fun i => (i.zero, i.size, i.bytes)) = some (some (.agg #[.slice none 0 0, .slice none 0 0, .slice none 0 0, .slice none 0 0]), 4, 96) := by kernel_rfl
structure Four where
  p : Value
  r : Value
  l : Value
  c : Value
  deriving Inhabited
def fourVals (L : List Four) : List Value := L.flatMap fun t => [t.p, t.r, t.l, t.c]
/-- A slice's block is one's own, and neither of two. -/
def Far (n0 B3 : Nat) (ob : Option Nat) (u : World) (v : Value) (n : Nat) : Prop := 0 < n → ∀ b, v.ownBlock = some b → n0 ≤ b ∧ b < u.heap.size ∧ b ≠ B3 ∧ some b ≠ ob
structure FnOut (n0 B3 : Nat) (ob : Option Nat) (u : World) (t : Four) (f : Fn) : Prop where
  are : FnAre u t.p t.r t.l t.c f
  fp : Far n0 B3 ob u t.p f.params.length
  fr : Far n0 B3 ob u t.r f.results.length
  fl : Far n0 B3 ob u t.l f.locals.length
  fc : Far n0 B3 ob u t.c f.code.length
/-- So far: k functions are copied. -/
structure CloneAt (W wr : World) (B3 : Nat) (vcs vfs : Value) (s : Scr) (k : Nat) (L : List Four) : Prop where
  below : Below W.heap.size W wr
  b3 : wr.heap[B3]? = some (.cells #[vcs, vfs] 45 (0, 0))
  ge3 : W.heap.size ≤ B3
  strs : Strs wr vcs s.consts
  far : Far W.heap.size B3 vfs.ownBlock wr vcs s.consts.length
  own : wr.ownsRow W.heap.size 53 4 vfs k (fourVals L)
  ne : vfs.ownBlock ≠ some B3
  len : L.length = k
  fns : ∀ j, j < k → FnOut W.heap.size B3 vfs.ownBlock wr (L.getD j default) (s.funcs.getD j default)
def ancC (j : Nat) : List Nat := ([[], [0], [], [], [3], [2, 3, 4], [], [], [7], [2, 3, 4, 5, 6, 7, 8], [], [], [11], [2, 3, 4, 5, 6, 7, 8, 9, 10, 11, 12], [], [], [15], [2, 3, 4, 5, 6, 7, 8, 9, 10, 11, 12, 13, 14, 15, 16], [2, 3, 4, 5, 6, 7, 8, 9, 10, 11, 12, 13, 14, 15, 16, 17], [2, 3, 4, 5, 6, 7, 8, 9, 10, 11, 12, 13, 14, 15, 16, 17, 18], [0, 1, 2, 3, 4, 5, 6, 7, 8, 9, 10, 11, 12, 13, 14, 15, 16, 17, 18, 19], [0, 1, 2, 3, 4, 5, 6, 7, 8, 9, 10, 11, 12, 13, 14, 15, 16, 17, 18, 19, 20], [0, 1, 2, 3, 4, 5, 6, 7, 8, 9, 10, 11, 12, 13, 14, 15, 16, 17, 18, 19, 20, 21]] : List (List Nat)).getD j []
/-- What ends with an operation: the variable's block (22), the row's (20). -/
def kiC (m : Nat) : List Nat := if m = 0 then [22] else if m = 1 then [20] else []
/-- A copy that the region has made. -/
def NewI (n1 : Nat) (u : World) (v : Value) (xs : List Int) : Prop := Ints u v xs ∧ Behind n1 u v xs.length
def NewC (n1 : Nat) (u : World) (v : Value) (c : List Ins) : Prop := Code_ u v c ∧ Behind n1 u v c.length
structure NewF (n1 : Nat) (u : World) (t : Four) (f : Fn) : Prop where
  p : NewI n1 u t.p f.params
  r : NewI n1 u t.r f.results
  l : NewI n1 u t.l f.locals
  c : NewC n1 u t.c f.code
/-- The row with one function more. -/
structure Rowed (W W1 : World) (B3 : Nat) (ob : Option Nat) (k : Nat) (L : List Four) (f : Fn) (u : World) (v : Value) : Prop where
  ex : ∃ t, NewF W1.heap.size u t f ∧ u.ownsRow W.heap.size 53 4 v (k + 1) (fourVals (L ++ [t])) ∧ (∀ b, v.ownBlock = some b → (some b = ob ∨ W1.heap.size ≤ b) ∧ b < u.heap.size) ∧
    (0 < f.params.length → v.ownBlock ≠ t.p.ownBlock) ∧ (0 < f.results.length → v.ownBlock ≠ t.r.ownBlock) ∧ (0 < f.locals.length → v.ownBlock ≠ t.l.ownBlock) ∧ (0 < f.code.length → v.ownBlock ≠ t.c.ownBlock)
def FC (W W1 : World) (B3 B5 : Nat) (vcs vfs vp vr vl vc : Value) (k : Nat) (L : List Four) (f : Fn) (j : Nat) (v : Value) (u : World) : Prop := match j with
  | 0 => v = .pointer (some ⟨B3, 1, none⟩)
  | 1 => v = vfs
  | 2 => ∃ a, v = .slice (some a) 0 0
  | 3 => v = .pointer (some ⟨B5, 0, none⟩)
  | 4 => v = vp
  | 5 => NewI W1.heap.size u v f.params
  | 6 => ∃ a, v = .slice (some a) 0 0
  | 7 => v = .pointer (some ⟨B5, 1, none⟩)
  | 8 => v = vr
  | 9 => NewI W1.heap.size u v f.results
  | 10 => ∃ a, v = .slice (some a) 0 0
  | 11 => v = .pointer (some ⟨B5, 2, none⟩)
  | 12 => v = vl
  | 13 => NewI W1.heap.size u v f.locals
  | 14 => ∃ a, v = .slice (some a) 0 0
  | 15 => v = .pointer (some ⟨B5, 3, none⟩)
  | 16 => v = vc
  | 17 => NewC W1.heap.size u v f.code
  | 18 => ∃ t, v = .agg #[t.p, t.r, t.l, t.c] ∧ NewF W1.heap.size u t f
  | 19 => ∃ t e, v = .slice (some ⟨e, 0, none⟩) 1 1 ∧ W1.heap.size ≤ e ∧ u.heap[e]? = some (.cells #[t.p, t.r, t.l, t.c] 53 (0, 0)) ∧ NewF W1.heap.size u t f
  | 20 => Rowed W W1 B3 vfs.ownBlock k L f u v
  | 21 => v = .pointer (some ⟨B3, 1, none⟩)
  | 22 => ∃ v', Rowed W W1 B3 vfs.ownBlock k L f u v' ∧ u.heap[B3]? = some (.cells #[vcs, v'] 45 (0, 0))
  | _ => True
/-- What an operation leaves as it was. -/
def KeepC (B3 : Nat) (ob : Option Nat) (i : Nat) (u u' : World) : Prop := u.heap.size ≤ u'.heap.size ∧ ∀ b, b < u.heap.size → (i = 20 → some b ≠ ob) → (i = 22 → b ≠ B3) → u'.heap[b]? = u.heap[b]?
theorem NewI.keep {n1 B3 i : Nat} {ob : Option Nat} {u u' : World} {v : Value} {xs : List Int} (h : NewI n1 u v xs) (hk : KeepC B3 ob i u u') (h3 : B3 < n1) (ho : ∀ q, ob = some q → q < n1) : NewI n1 u' v xs :=
  ⟨ints_keep h.1 fun h0 b hb => hk.2 b (h.2 h0 b hb).2 (fun _ e => by have := ho b e.symm; have := (h.2 h0 b hb).1; omega) (fun _ => by have := (h.2 h0 b hb).1; omega), fun h0 b hb => ⟨(h.2 h0 b hb).1, Nat.lt_of_lt_of_le (h.2 h0 b hb).2 hk.1⟩⟩
theorem NewC.keep {n1 B3 i : Nat} {ob : Option Nat} {u u' : World} {v : Value} {c : List Ins} (h : NewC n1 u v c) (hk : KeepC B3 ob i u u') (h3 : B3 < n1) (ho : ∀ q, ob = some q → q < n1) : NewC n1 u' v c :=
  ⟨code_keep h.1 fun h0 b hb => hk.2 b (h.2 h0 b hb).2 (fun _ e => by have := ho b e.symm; have := (h.2 h0 b hb).1; omega) (fun _ => by have := (h.2 h0 b hb).1; omega), fun h0 b hb => ⟨(h.2 h0 b hb).1, Nat.lt_of_lt_of_le (h.2 h0 b hb).2 hk.1⟩⟩
theorem NewF.keep {n1 B3 i : Nat} {ob : Option Nat} {u u' : World} {t : Four} {f : Fn} (h : NewF n1 u t f) (hk : KeepC B3 ob i u u') (h3 : B3 < n1) (ho : ∀ q, ob = some q → q < n1) : NewF n1 u' t f := ⟨h.p.keep hk h3 ho, h.r.keep hk h3 ho, h.l.keep hk h3 ho, h.c.keep hk h3 ho⟩
theorem Rowed.keep {W W1 : World} {B3 k i : Nat} {ob : Option Nat} {L : List Four} {f : Fn} {u u' : World} {v : Value} (h : Rowed W W1 B3 ob k L f u v) (hk : KeepC B3 ob i u u') (hi : i ≠ 20) (h3 : B3 < W1.heap.size) (h33 : ob ≠ some B3) (ho : ∀ q, ob = some q → q < W1.heap.size) : Rowed W W1 B3 ob k L f u' v := by
  obtain ⟨t, h1, h2, h4, h5⟩ := h.ex
  refine ⟨⟨t, h1.keep hk h3 ho, ⟨h2.1, ?_⟩, fun b hb => ⟨(h4 b hb).1, Nat.lt_of_lt_of_le (h4 b hb).2 hk.1⟩, h5⟩⟩
  rcases h2.2 with e | ⟨g, cap, cur, e1, e2, e3, e4⟩
  · exact .inl e
  · refine .inr ⟨g, cap, cur, e1, e2, ?_, e4⟩
    have hg := h4 g (by rw [e1]; rfl)
    rw [hk.2 g hg.2 (fun e => absurd e hi) (fun _ e => ?_)]
    · exact e3
    · subst e
      rcases hg.1 with e | e
      · exact h33 e.symm
      · omega
theorem fourVals_snoc (L : List Four) (t : Four) : fourVals (L ++ [t]) = fourVals L ++ [t.p, t.r, t.l, t.c] := by simp [fourVals]
theorem own_some {w : World} {B n s : Nat} {e : TypeId} {v : Value} {xs : List Value} (h : w.ownsRow B e s v n xs) (hn : 0 < n) : ∃ g, v.ownBlock = some g ∧ B ≤ g ∧ g < w.heap.size := by
  rcases h.2 with ⟨_, h0⟩ | ⟨g, cap, cur, rfl, hB, hh, _⟩
  · omega
  · exact ⟨g, rfl, hB, heap_lt hh⟩
/-- append(row, f), where the row may stand in its own block. -/
theorem fn_append {W W1 u : World} {B3 k : Nat} {vfs : Value} {L : List Four} {t : Four} {f : Fn} {e : Nat} (hbW : Below W.heap.size W u) (hle : W1.heap.size ≤ u.heap.size) (hown : u.ownsRow W.heap.size 53 4 vfs k (fourVals L)) (h3 : B3 < W1.heap.size)
    (hob : ∀ q, vfs.ownBlock = some q → q < W1.heap.size) (hlit : u.heap[e]? = some (.cells #[t.p, t.r, t.l, t.c] 53 (0, 0))) (hne : ∀ x ∈ [t.p, t.r, t.l, t.c], x.oneCell' = true) (ht : NewF W1.heap.size u t f) (hl : (k + 1) * 96 ≤ 140737488355328) :
    ∃ v' w', (Builtin.append_ #[43, 43] 43 #[vfs, .slice (some ⟨e, 0, none⟩) 1 1]).run Try.prog u = .ok v' w' ∧ (Below W.heap.size W w' ∧ KeepC B3 vfs.ownBlock 20 u w' ∧ Rowed W W1 B3 vfs.ownBlock k L f w' v') := by
  have hcs : CellsAt u (.slice (some ⟨e, 0, none⟩) 1 1) 1 4 (fun j => ([t.p, t.r, t.l, t.c] : List Value).getD (j % 4) default) := by
    refine ⟨_, _, rfl, fun _ => ⟨e, 0, rfl, fun j hj => ?_⟩⟩
    rw [Nat.zero_add, cell_of_row u e j _ _ _ hlit]
    match j, hj with
    | 0, _ => rfl
    | 1, _ => rfl
    | 2, _ => rfl
    | 3, _ => rfl
  have hone : ∀ j, (([t.p, t.r, t.l, t.c] : List Value).getD (j % 4) default).oneCell' = true := fun j => by
    have h4 : j % 4 < 4 := Nat.mod_lt _ (by omega)
    generalize j % 4 = i at h4
    match i, h4 with
    | 0, _ => exact hne _ (by simp)
    | 1, _ => exact hne _ (by simp)
    | 2, _ => exact hne _ (by simp)
    | 3, _ => exact hne _ (by simp)
  obtain ⟨v', w', h1, h2, h3', h4⟩ := run_append_any (P := Try.prog) u W.heap.size 43 43 53 _ 4 96 Try.underlying43 info_fn rfl (by decide) vfs _ k 1 (fourVals L) [t.p, t.r, t.l, t.c] hown _ hcs rfl hone (by unfold maxLen; omega) hl hbW.size
  have hkeep : KeepC B3 vfs.ownBlock 20 u w' := ⟨h3'.size, fun b hb h20 _ => h3'.block b hb (h20 rfl)⟩
  refine ⟨v', w', h1, hbW.trans ⟨h3'.os, h3'.tape, h3'.output, h3'.size, fun q hq => h3'.block q (Nat.lt_of_lt_of_le hq hbW.size) (fun hh => by have := (hown.lt q hh.symm).1; omega)⟩, hkeep, ?_⟩
  have hfar : ∀ (x : Value) (n : Nat), Behind W1.heap.size u x n → 0 < n → v'.ownBlock ≠ x.ownBlock := fun x n hx h0 e => by
    obtain ⟨g, hg, _, _⟩ := own_some h2 (by omega)
    have h5 := hx h0 g (by rw [← e]; exact hg)
    rcases h4 with h6 | h6
    · have := hob g (by rw [← h6]; exact hg)
      omega
    · rw [h6] at hg
      injection hg with hg
      omega
  refine ⟨⟨t, ht.keep hkeep h3 hob, by rw [fourVals_snoc]; exact h2, fun b hb => ⟨?_, ?_⟩, hfar _ _ ht.p.2, hfar _ _ ht.r.2, hfar _ _ ht.l.2, hfar _ _ ht.c.2⟩⟩
  · rcases h4 with h6 | h6
    · left; rw [← h6]; exact hb.symm
    · right
      rw [h6] at hb
      injection hb with hb
      omega
  · obtain ⟨g, hg, _, h7⟩ := own_some h2 (by omega)
    rw [hg] at hb
    injection hb with hb
    omega
theorem own_at {w u : World} {B n s : Nat} {e : TypeId} {v : Value} {xs : List Value} (h : w.ownsRow B e s v n xs) (hb : ∀ q, v.ownBlock = some q → u.heap[q]? = w.heap[q]?) : u.ownsRow B e s v n xs := by
  refine ⟨h.1, ?_⟩
  rcases h.2 with h1 | ⟨g, cap, cur, h1, h2, h3, h4⟩
  · exact .inl h1
  · exact .inr ⟨g, cap, cur, h1, h2, (hb g (by rw [h1]; rfl)).trans h3, h4⟩
theorem FnAre.one {u : World} {n1 : Nat} {t : Four} {f : Fn} (h : NewF n1 u t f) : ∀ x ∈ [t.p, t.r, t.l, t.c], x.oneCell' = true := fun x hx => by
  obtain ⟨a5, k5, e5, _⟩ := h.p.1.at_
  obtain ⟨a9, k9, e9, _⟩ := h.r.1.at_
  obtain ⟨a13, k13, e13, _⟩ := h.l.1.at_
  obtain ⟨a17, k17, e17, _⟩ := h.c.1.at_
  rw [e5, e9, e13, e17] at hx
  simp only [List.mem_cons, List.not_mem_nil, or_false] at hx
  rcases hx with rfl | rfl | rfl | rfl <;> rfl
theorem FnOut.next {n0 n1 B3 : Nat} {ob ob' : Option Nat} {wr u : World} {t : Four} {f : Fn} (h : FnOut n0 B3 ob wr t f) (hsz : wr.heap.size ≤ u.heap.size) (hb : ∀ b, b < wr.heap.size → some b ≠ ob → b ≠ B3 → u.heap[b]? = wr.heap[b]?) (hn : wr.heap.size ≤ n1) (hob : ∀ b, ob' = some b → some b = ob ∨ n1 ≤ b) : FnOut n0 B3 ob' u t f := by
  have hf : ∀ {v n}, Far n0 B3 ob wr v n → Far n0 B3 ob' u v n := fun h h0 b e => by
    obtain ⟨h1, h2, h3, h4⟩ := h h0 b e
    refine ⟨h1, by omega, h3, fun e2 => ?_⟩
    rcases hob b e2.symm with e3 | e3
    · exact h4 e3
    · omega
  have hk : ∀ {v n}, Far n0 B3 ob wr v n → 0 < n → ∀ b, v.ownBlock = some b → u.heap[b]? = wr.heap[b]? := fun h h0 b e => by
    obtain ⟨_, h2, h3, h4⟩ := h h0 b e
    exact hb b h2 h4 h3
  exact ⟨⟨ints_keep h.are.p (hk h.fp), ints_keep h.are.r (hk h.fr), ints_keep h.are.l (hk h.fl), code_keep h.are.c (hk h.fc)⟩, hf h.fp, hf h.fr, hf h.fl, hf h.fc⟩
theorem clone_next {W wr W1 u : World} {B3 k : Nat} {vcs vfs vN : Value} {s : Scr} {L : List Four} (hC : CloneAt W wr B3 vcs vfs s k L) (hbw : Below wr.heap.size wr W1) (hbW : Below W.heap.size W u) (hle : W1.heap.size ≤ u.heap.size)
    (hsame : ∀ b, b < W1.heap.size → some b ≠ vfs.ownBlock → b ≠ B3 → u.heap[b]? = W1.heap[b]?) (hR : Rowed W W1 B3 vfs.ownBlock k L (s.funcs.getD k default) u vN) (hu3 : u.heap[B3]? = some (.cells #[vcs, vN] 45 (0, 0))) : ∃ L', CloneAt W u B3 vcs vN s (k + 1) L' := by
  obtain ⟨t, ht, hown, hvb, hnp, hnr, hnl, hnc⟩ := hR.ex
  have hb : ∀ b, b < wr.heap.size → some b ≠ vfs.ownBlock → b ≠ B3 → u.heap[b]? = wr.heap[b]? := fun b h1 h2 h3 => (hsame b (Nat.lt_of_lt_of_le h1 hbw.size) h2 h3).trans (hbw.block b h1)
  have h3w : B3 < W1.heap.size := Nat.lt_of_lt_of_le (heap_lt hC.b3) hbw.size
  have hWw : W.heap.size ≤ W1.heap.size := Nat.le_trans hC.below.size hbw.size
  have hnew : ∀ {v n}, Behind W1.heap.size u v n → (0 < n → vN.ownBlock ≠ v.ownBlock) → Far W.heap.size B3 vN.ownBlock u v n := fun h hne h0 b e => by
    obtain ⟨h1, h2⟩ := h h0 b e
    exact ⟨by omega, h2, by omega, fun e2 => hne h0 (by rw [← e2, e])⟩
  refine ⟨L ++ [t], ⟨hbW, hu3, hC.ge3, strs_keep hC.strs fun h0 b e => ?_, fun h0 b e => ?_, hown, fun e => ?_, by simp [hC.len], fun j hj => ?_⟩⟩
  · obtain ⟨_, h2, h3, h4⟩ := hC.far h0 b e
    exact hb b h2 h4 h3
  · obtain ⟨h1, h2, h3, h4⟩ := hC.far h0 b e
    refine ⟨h1, by have := hbw.size; omega, h3, fun e2 => ?_⟩
    rcases (hvb b e2.symm).1 with e3 | e3
    · exact h4 e3
    · have := hbw.size; omega
  · rcases (hvb B3 e).1 with e3 | e3
    · exact hC.ne e3.symm
    · omega
  · by_cases hjk : j < k
    · have h1 := (hC.fns j hjk).next (n1 := W1.heap.size) (ob' := vN.ownBlock) (Nat.le_trans hbw.size hle) hb hbw.size (fun b e => (hvb b e).1)
      have e2 : (L ++ [t]).getD j default = L.getD j default := by
        rw [List.getD_eq_getElem?_getD, List.getElem?_append_left (by rw [hC.len]; exact hjk), List.getD_eq_getElem?_getD]
      rw [e2]
      exact h1
    · have e1 : j = k := by omega
      subst e1
      have e2 : (L ++ [t]).getD j default = t := by
        rw [List.getD_eq_getElem?_getD, List.getElem?_append_right (by rw [hC.len]; exact Nat.le_refl _), hC.len]
        simp
      rw [e2]
      exact ⟨⟨ht.p.1, ht.r.1, ht.l.1, ht.c.1⟩, hnew ht.p.2 hnp, hnew ht.r.2 hnr, hnew ht.l.2 hnl, hnew ht.c.2 hnc⟩
theorem fourVals_len : ∀ L : List Four, (fourVals L).length = L.length * 4
  | [] => rfl
  | t :: L => by
    have := fourVals_len L
    simp only [fourVals, List.flatMap_cons, List.length_append, List.length_cons, List.length_nil] at this ⊢
    omega
theorem fourVals_at : ∀ (L : List Four) (j : Nat), j < L.length → (fourVals L)[j * 4]? = some (L.getD j default).p ∧ (fourVals L)[j * 4 + 1]? = some (L.getD j default).r ∧ (fourVals L)[j * 4 + 2]? = some (L.getD j default).l ∧ (fourVals L)[j * 4 + 3]? = some (L.getD j default).c
  | [], j, h => by simp at h
  | t :: L, 0, _ => by simp [fourVals]
  | t :: L, j + 1, h => by
    have ih := fourVals_at L j (by simpa using h)
    have e : fourVals (t :: L) = [t.p, t.r, t.l, t.c] ++ fourVals L := by simp [fourVals]
    have hx : ∀ i, (fourVals (t :: L))[(j + 1) * 4 + i]? = (fourVals L)[j * 4 + i]? := fun i => by
      rw [e, List.getElem?_append_right (by simp; omega)]
      simp only [List.length_cons, List.length_nil]
      congr 1
      omega
    have h0 := hx 0
    simp only [Nat.add_zero] at h0
    rw [h0, hx 1, hx 2, hx 3]
    simpa using ih
theorem clone_done {W wr u : World} {B3 : Nat} {vcs vfs : Value} {s : Scr} {L : List Four} (hC : CloneAt W wr B3 vcs vfs s s.funcs.length L) (hl : s.funcs.length * 96 ≤ 281474976710656) (hu : ∀ b, W.heap.size ≤ b → u.heap[b]? = wr.heap[b]?) : ScrVal u (.agg #[vcs, vfs]) s := by
  refine ⟨vcs, vfs, rfl, strs_keep hC.strs fun h0 b e => hu b (hC.far h0 b e).1, ?_⟩
  rcases hC.own.2 with ⟨e1, h0⟩ | ⟨g, cap, cur, e1, hB, hh, _⟩
  · exact ⟨⟨none, 0, by rw [e1, h0], fun j hj => by omega⟩, hl⟩
  · refine ⟨⟨_, cap, e1, fun j hj => ⟨g, 0, rfl, ?_⟩⟩, hl⟩
    have hf := hC.fns j hj
    have hk : ∀ {v n}, Far W.heap.size B3 vfs.ownBlock wr v n → 0 < n → ∀ b, v.ownBlock = some b → u.heap[b]? = wr.heap[b]? := fun h h0 b e => hu b (h h0 b e).1
    have hown := hC.own
    rw [e1] at hown
    have hcell : ∀ i, i < 4 → u.cell? ⟨g, j * 4 + i, none⟩ = (fourVals L)[j * 4 + i]? := fun i hi => by
      rw [World.cell?_of_block (show u.heap[(⟨g, j * 4 + i, none⟩ : Addr).block]? = wr.heap[g]? from hu g hB)]
      exact hown.cellAt (j * 4 + i) (by omega)
    obtain ⟨f0, f1, f2, f3⟩ := fourVals_at L j (by rw [hC.len]; exact hj)
    have g0 := hcell 0 (by omega)
    simp only [Nat.add_zero] at g0
    refine ⟨(L.getD j default).p, (L.getD j default).r, (L.getD j default).l, (L.getD j default).c, ?_, ?_, ?_, ?_, ⟨ints_keep hf.are.p (hk hf.fp), ints_keep hf.are.r (hk hf.fr), ints_keep hf.are.l (hk hf.fl), code_keep hf.are.c (hk hf.fc)⟩⟩
    · rw [Nat.zero_add, g0, f0]
    · rw [Nat.zero_add, hcell 1 (by omega), f1]
    · rw [Nat.zero_add, hcell 2 (by omega), f2]
    · rw [Nat.zero_add, hcell 3 (by omega), f3]
set_option maxRecDepth 100000 in
set_option maxHeartbeats 2000000 in
theorem clone_any (v : Value) (s : Scr) (w : World) (h : ScrVal w v s) (hl1 : s.consts.length * 16 ≤ 140737488355328) (hl2 : (s.funcs.length + 1) * 96 ≤ 140737488355328)
    (hl3 : ∀ f ∈ s.funcs, f.params.length * 8 ≤ 140737488355328 ∧ f.results.length * 8 ≤ 140737488355328 ∧ f.locals.length * 8 ≤ 140737488355328 ∧ f.code.length * 16 ≤ 140737488355328) :
    Calls Try.prog 34 #[v] w fun e w' => (∃ v', e = .returned v' ∧ ScrVal w' v' s) ∧ Below w.heap.size w w' := by
  obtain ⟨vs, vf, rfl, hs, hf⟩ := h
  obtain ⟨Af, cf, rfl, _⟩ := hf.at_
  obtain ⟨W, hW⟩ : ∃ W, W = (w.alloc (.cells #[vs, .slice Af s.funcs.length cf] 45)).alloc (.cells #[.slice none 0 0, .slice none 0 0] 45) := ⟨_, rfl⟩
  have hb0 : Below w.heap.size w W := by rw [hW]; exact (below_new w _).alloc (by simp) _
  have hr1 : W.heap[w.heap.size]? = some (.cells #[vs, .slice Af s.funcs.length cf] 45 (0, 0)) := by rw [hW]; exact alloc2_fst w _ _ _
  have hr2 : W.heap[w.heap.size + 1]? = some (.cells #[.slice none 0 0, .slice none 0 0] 45 (0, 0)) := by rw [hW]; exact alloc2_snd w _ _ _
  have hsz : w.heap.size + 1 < W.heap.size := by rw [hW]; simp
  have hsz2 : w.heap.size < W.heap.size := by omega
  have hc0 : W.cell? ⟨w.heap.size, 0, none⟩ = some vs := by rw [cell_of_row _ _ _ _ _ _ hr1]; rfl
  have hc1 : W.cell? ⟨w.heap.size, 1, none⟩ = some (.slice Af s.funcs.length cf) := by rw [cell_of_row _ _ _ _ _ _ hr1]; rfl
  obtain ⟨v1, w1, hrun, hb1, hst1, hbe1⟩ := strs_copy (u := W.alloc (.cells #[] 9)) (a := ⟨W.heap.size, 0, none⟩) ((hs.ext hb0).ext (below_new W _)) hl1
  obtain ⟨A1, c1, rfl, _⟩ := hst1.at_
  have hb1' : Below W.heap.size W w1 := (below_new W _).trans (hb1.mono (by simp))
  have HS := Lib.hid (hs.ext hb0)
  have HF := Lib.hid (hf.ext hb0)
  have HW := Lib.hid hW
  have HB0 := Lib.hid hb0
  have HRUN := Lib.hid hrun
  have HST := Lib.hid hst1
  have HBE := Lib.hid hbe1
  have HB1 := Lib.hid hb1'
  have HR2 := Lib.hid hr2
  clear hs hf hW hb0 hrun hst1 hbe1 hb1 hb1' hr1 hr2
  go_enter Try.func34, Try.ntmps34
  go_upto_region 1 with (fail)
  rw [← HW.out]
  go_wp2_with (at_builtin; refine wpList_append_run _ rfl (.tmp 6) (.tmp 8) 42 42 rfl _ _ rfl rfl HRUN.out ?_)
  have h3 : (w1.alloc (.cells #[.slice A1 s.consts.length c1, .slice none 0 0] 45)).heap[w1.heap.size]? = some (.cells #[.slice A1 s.consts.length c1, .slice none 0 0] 45 (0, 0)) := World.alloc_heap_new w1 _
  have hsw : W.heap.size ≤ w1.heap.size := HB1.out.size
  have hC0 : CloneAt W (w1.alloc (.cells #[.slice A1 s.consts.length c1, .slice none 0 0] 45)) w1.heap.size (.slice A1 s.consts.length c1) (.slice none 0 0) s 0 [] := by
    refine ⟨HB1.out.alloc hsw _, h3, hsw, HST.out.ext (below_new w1 _), fun h0 b hb => ?_, World.ownsRow_nil _ _ _ _, by simp [Value.ownBlock], rfl, fun j hj => by omega⟩
    have h5 := HBE.out h0 b hb
    rw [World.size_alloc] at h5
    exact ⟨by omega, by simp; omega, by omega, by simp [Value.ownBlock]⟩
  have HC0 := Lib.hid hC0
  clear hC0 h3
  obtain ⟨B3, hB3⟩ : ∃ B3, w1.heap.size = B3 := ⟨_, rfl⟩
  rw [hB3] at HC0 ⊢
  go_loopw [4] (fun i wr => ∃ (k : Nat) (vfs : Value) (L : List Four), k ≤ s.funcs.length ∧ i = .int .i64 k ∧ CloneAt W wr B3 (.slice A1 s.consts.length c1) vfs s k L) (fun i _ => s.funcs.length - (intOf i).toNat)
  case atStart => exact ⟨0, _, _, Nat.zero_le _, rfl, HC0.out⟩
  case round =>
    clear HC0
    obtain ⟨k, vfs, L, hk, rfl, hC⟩ := hrel
    have hc1 := (hC.below.cell (p := ⟨w.heap.size, 1, none⟩) hsz2).trans hc1
    by_cases hlt : k < s.funcs.length
    · obtain ⟨A', c', e0, hfc⟩ := HF.out.at_
      injection e0 with e0 _ ec
      subst e0
      subst ec
      obtain ⟨b, off, rfl, hcell⟩ := hfc k hlt
      obtain ⟨vp, vr, vl, vc, hp0, hp1, hp2, hp3, hfn⟩ := hcell
      have hp0 := cell_ext hp0 hC.below
      have hp1 := cell_ext hp1 hC.below
      have hp2 := cell_ext hp2 hC.below
      have hp3 := cell_ext hp3 hC.below
      obtain ⟨ap, kp, rfl, _⟩ := hfn.p.at_
      obtain ⟨ar, kr, rfl, _⟩ := hfn.r.at_
      obtain ⟨al, kl, rfl, _⟩ := hfn.l.at_
      obtain ⟨ac, kc, rfl, _⟩ := hfn.c.at_
      have hfl := hl3 _ (getD_in (d := default) hlt)
      generalize hfg : s.funcs.getD k default = f at *
      have hk0 : (0 : Int) ≤ k := by omega
      have hk1 : (k : Int) < (s.funcs.length : Int) := by omega
      obtain ⟨W1, hW1⟩ : ∃ W1, W1 = wr.alloc (.cells #[(.slice ap f.params.length kp), (.slice ar f.results.length kr), (.slice al f.locals.length kl), (.slice ac f.code.length kc)] 53) := ⟨_, rfl⟩
      have HW1 := Lib.hid hW1
      have HC := Lib.hid hC
      have hbw : Below wr.heap.size wr W1 := by rw [hW1]; exact below_new wr _
      have h51 : W1.heap[wr.heap.size]? = some (.cells #[(.slice ap f.params.length kp), (.slice ar f.results.length kr), (.slice al f.locals.length kl), (.slice ac f.code.length kc)] 53 (0, 0)) := by rw [hW1]; exact World.alloc_heap_new wr _
      have h31 : W1.heap[B3]? = some (.cells #[.slice A1 s.consts.length c1, vfs] 45 (0, 0)) := (hbw.block B3 (heap_lt hC.b3)).trans hC.b3
      have hB5 : wr.heap.size < W1.heap.size := heap_lt h51
      have HFN := Lib.hid hfn
      have h3lt : B3 < W1.heap.size := heap_lt h31
      have hob3 := hC.ne
      have hobw : ∀ q, vfs.ownBlock = some q → q < wr.heap.size := fun q hq => (hC.own.lt q hq).2
      have hob : ∀ q, vfs.ownBlock = some q → q < W1.heap.size := fun q hq => by have := hobw q hq; omega
      have h3w : B3 < wr.heap.size := heap_lt hC.b3
      have H51 := Lib.hid h51
      have H31 := Lib.hid h31
      have HBW := Lib.hid hbw
      clear hW1 hC hbw hfn h51 h31 hfc
      go_upto_region 6 with (fail)
      rw [← HW1.out]
      obtain ⟨B5, hB5e⟩ : ∃ B5, wr.heap.size = B5 := ⟨_, rfl⟩
      rw [hB5e] at H51 hB5 hobw h3w ⊢
      have h51 := H51.out
      have h31 := H31.out
      have hB5lt := hB5
      have hB5o : some B5 ≠ vfs.ownBlock := fun e => by have := hobw B5 e.symm; omega
      have hB53 : B5 ≠ B3 := by omega
      have GEXT : ∀ {u u' : World}, (Below W.heap.size W u ∧ W1.heap.size ≤ u.heap.size ∧ ∀ b, b < W1.heap.size → some b ≠ vfs.ownBlock → b ≠ B3 → u.heap[b]? = W1.heap[b]?) → Below u.heap.size u u' → (Below W.heap.size W u' ∧ W1.heap.size ≤ u'.heap.size ∧ ∀ b, b < W1.heap.size → some b ≠ vfs.ownBlock → b ≠ B3 → u'.heap[b]? = W1.heap[b]?) := fun hG hb => ⟨hG.1.trans (hb.mono hG.1.size), Nat.le_trans hG.2.1 hb.size, fun b h1 h2 h3 => (hb.block b (Nat.lt_of_lt_of_le h1 hG.2.1)).trans (hG.2.2 b h1 h2 h3)⟩
      have KEXT : ∀ {i : Nat} {u u' : World}, Below u.heap.size u u' → KeepC B3 vfs.ownBlock i u u' := fun hb => ⟨hb.size, fun b hb' _ _ => hb.block b hb'⟩
      refine region_slots (by kernel_rfl) (fun u => Below W.heap.size W u ∧ W1.heap.size ≤ u.heap.size ∧ ∀ b, b < W1.heap.size → some b ≠ vfs.ownBlock → b ≠ B3 → u.heap[b]? = W1.heap[b]?)
        (fun m u => match m with | 0 => u.heap[B3]? = W1.heap[B3]? | 1 => ∀ q, vfs.ownBlock = some q → u.heap[q]? = W1.heap[q]? | _ => True)
        (FC W W1 B3 B5 (.slice A1 s.consts.length c1) vfs (.slice ap f.params.length kp) (.slice ar f.results.length kr) (.slice al f.locals.length kl) (.slice ac f.code.length kc) k L f) (KeepC B3 vfs.ownBlock) ancC (fun _ => []) kiC (by kernel_rfl) ?_ ?_ ?_ ?_ ?_ ?_
      · intro i j v u u' ha hkl hne hF hkp
        match j, ha, hkl, hne, hF with
        | 0, _, _, _, hF => exact hF
        | 1, _, _, _, hF => exact hF
        | 2, _, _, _, hF => exact hF
        | 3, _, _, _, hF => exact hF
        | 4, _, _, _, hF => exact hF
        | 5, _, _, _, hF => exact NewI.keep hF hkp h3lt hob
        | 6, _, _, _, hF => exact hF
        | 7, _, _, _, hF => exact hF
        | 8, _, _, _, hF => exact hF
        | 9, _, _, _, hF => exact NewI.keep hF hkp h3lt hob
        | 10, _, _, _, hF => exact hF
        | 11, _, _, _, hF => exact hF
        | 12, _, _, _, hF => exact hF
        | 13, _, _, _, hF => exact NewI.keep hF hkp h3lt hob
        | 14, _, _, _, hF => exact hF
        | 15, _, _, _, hF => exact hF
        | 16, _, _, _, hF => exact hF
        | 17, _, _, _, hF => exact NewC.keep hF hkp h3lt hob
        | 18, _, _, _, hF => obtain ⟨t, e1, ht⟩ := hF; exact ⟨t, e1, ht.keep hkp h3lt hob⟩
        | 19, _, _, _, hF => obtain ⟨t, e, e1, e2, e3, ht⟩ := hF; exact ⟨t, e, e1, e2, (hkp.2 e (heap_lt e3) (fun _ h => by have := hob e h.symm; omega) (fun _ => by omega)).trans e3, ht.keep hkp h3lt hob⟩
        | 20, _, _, hne, hF => exact Rowed.keep hF hkp (fun e => hne e) h3lt hob3 hob
        | 21, _, _, _, hF => exact hF
        | 22, ha, _, hne, hF => obtain ⟨v', e1, e2⟩ := hF; exact ⟨v', e1.keep hkp (fun e => ha (by rw [e]; simp [ancC])) h3lt hob3 hob, (hkp.2 B3 (heap_lt e2) (fun _ h => hob3 h.symm) (fun h => absurd h hne)).trans e2⟩
        | _ + 23, _, _, _, _ => trivial
      · intro i m u u' hm hI hkp
        match m, hm, hI with
        | 0, hm, hI => exact (hkp.2 B3 (by rw [← hI] at h31; exact heap_lt h31) (fun _ h => hob3 h.symm) (fun e => absurd (by rw [e]; simp [kiC]) hm)).trans hI
        | 1, hm, hI =>
          intro q hq
          have hq1 := hI q hq
          have hqq : q < u.heap.size := by
            have h1 := hob q hq
            have h2 : W1.heap[q]? = some W1.heap[q] := by simp [h1]
            rw [h2] at hq1
            exact heap_lt hq1
          exact (hkp.2 q hqq (fun e => absurd (by rw [e]; simp [kiC]) hm) (fun _ e => hob3 (by rw [hq, e]))).trans hq1
        | _ + 2, _, _ => trivial
      · exact ⟨((HC.out.below.trans (HBW.out.mono HC.out.below.size))).drew, Nat.le_refl _, fun _ _ _ _ => rfl⟩
      · intro m
        match m with
        | 0 => exact rfl
        | 1 => exact fun _ _ => rfl
        | _ + 2 => trivial
      · intro a u hts hdf hold hG i o ho hini hpre K hK
        have hi : i < 23 := (Array.getElem?_eq_some_iff.1 ho).1
        match i, hi with
        | 0, _ =>
          simp at ho
          subst ho
          have e1 := hold 3 rfl
          refine step_val (v := .pointer (some ⟨B3, 1, none⟩)) (w' := u) rfl ?_ (hK _ _ hG ⟨Nat.le_refl _, fun _ _ _ _ => rfl⟩ rfl)
          simp only [execOp, Act.eval, e1]
          go_simp
        | 1, _ =>
          simp at ho
          subst ho
          have e1 := (hpre ⟨0, .data⟩ (by simp) rfl (by kernel_rfl) _ rfl).1 _ rfl
          have hi0 := hini 0 (by kernel_rfl)
          have hcc : u.cell? ⟨B3, 1, none⟩ = some vfs := by rw [World.cell?_of_block (show u.heap[(⟨B3, 1, none⟩ : Addr).block]? = W1.heap[B3]? from hi0), cell_of_row _ _ _ _ _ _ h31]; rfl
          simp only [FC] at e1
          refine step_val (v := vfs) (w' := u) rfl ?_ (hK _ _ hG ⟨Nat.le_refl _, fun _ _ _ _ => rfl⟩ rfl)
          simp only [execOp, Act.eval, e1]
          go_simp
        | 2, _ =>
          simp at ho
          subst ho
          refine step_val (v := .slice (some ⟨u.heap.size, 0, none⟩) 0 0) (w' := u.alloc (.cells #[] 3)) rfl ?_ (hK _ _ (GEXT hG (below_new u _)) (KEXT (below_new u _)) ⟨_, rfl⟩)
          simp only [execOp, Act.eval]
          go_simp
        | 3, _ =>
          simp at ho
          subst ho
          have e1 := hold 5 rfl
          refine step_val (v := .pointer (some ⟨B5, 0, none⟩)) (w' := u) rfl ?_ (hK _ _ hG ⟨Nat.le_refl _, fun _ _ _ _ => rfl⟩ rfl)
          simp only [execOp, Act.eval, e1]
          go_simp
        | 4, _ =>
          simp at ho
          subst ho
          have e1 := (hpre ⟨3, .data⟩ (by simp) rfl (by kernel_rfl) _ rfl).1 _ rfl
          have hcc := (hG.2.2 B5 hB5lt hB5o hB53 : u.heap[B5]? = W1.heap[B5]?)
          have hc2 : u.cell? ⟨B5, 0, none⟩ = some (.slice ap f.params.length kp) := by rw [World.cell?_of_block (show u.heap[(⟨B5, 0, none⟩ : Addr).block]? = W1.heap[B5]? from hcc), cell_of_row _ _ _ _ _ _ h51]; rfl
          simp only [FC] at e1
          refine step_val (v := (.slice ap f.params.length kp)) (w' := u) rfl ?_ (hK _ _ hG ⟨Nat.le_refl _, fun _ _ _ _ => rfl⟩ rfl)
          simp only [execOp, Act.eval, e1]
          go_simp
        | 5, _ =>
          simp at ho
          subst ho
          obtain ⟨ad, e0⟩ := (hpre ⟨2, .data⟩ (by simp) rfl (by kernel_rfl) _ rfl).1 _ rfl
          have e2 := (hpre ⟨4, .data⟩ (by simp) rfl (by kernel_rfl) _ rfl).1 _ rfl
          simp only [FC] at e2
          have hrun := ints_copy (a := ad) (HFN.out.p.ext hG.1) hfl.1
          refine step_app rfl (.tmp 25) (.tmp 27) 23 rfl _ _ e0 e2 hrun fun v' w' h => ?_
          exact hK _ _ (GEXT hG h.1) (KEXT h.1) ⟨h.2.1, fun h0 b hb => ⟨Nat.le_trans hG.2.1 (h.2.2 h0 b hb).1, (h.2.2 h0 b hb).2⟩⟩
        | 6, _ =>
          simp at ho
          subst ho
          refine step_val (v := .slice (some ⟨u.heap.size, 0, none⟩) 0 0) (w' := u.alloc (.cells #[] 3)) rfl ?_ (hK _ _ (GEXT hG (below_new u _)) (KEXT (below_new u _)) ⟨_, rfl⟩)
          simp only [execOp, Act.eval]
          go_simp
        | 7, _ =>
          simp at ho
          subst ho
          have e1 := hold 5 rfl
          refine step_val (v := .pointer (some ⟨B5, 1, none⟩)) (w' := u) rfl ?_ (hK _ _ hG ⟨Nat.le_refl _, fun _ _ _ _ => rfl⟩ rfl)
          simp only [execOp, Act.eval, e1]
          go_simp
        | 8, _ =>
          simp at ho
          subst ho
          have e1 := (hpre ⟨7, .data⟩ (by simp) rfl (by kernel_rfl) _ rfl).1 _ rfl
          have hcc := (hG.2.2 B5 hB5lt hB5o hB53 : u.heap[B5]? = W1.heap[B5]?)
          have hc2 : u.cell? ⟨B5, 1, none⟩ = some (.slice ar f.results.length kr) := by rw [World.cell?_of_block (show u.heap[(⟨B5, 1, none⟩ : Addr).block]? = W1.heap[B5]? from hcc), cell_of_row _ _ _ _ _ _ h51]; rfl
          simp only [FC] at e1
          refine step_val (v := (.slice ar f.results.length kr)) (w' := u) rfl ?_ (hK _ _ hG ⟨Nat.le_refl _, fun _ _ _ _ => rfl⟩ rfl)
          simp only [execOp, Act.eval, e1]
          go_simp
        | 9, _ =>
          simp at ho
          subst ho
          obtain ⟨ad, e0⟩ := (hpre ⟨6, .data⟩ (by simp) rfl (by kernel_rfl) _ rfl).1 _ rfl
          have e2 := (hpre ⟨8, .data⟩ (by simp) rfl (by kernel_rfl) _ rfl).1 _ rfl
          simp only [FC] at e2
          have hrun := ints_copy (a := ad) (HFN.out.r.ext hG.1) hfl.2.1
          refine step_app rfl (.tmp 29) (.tmp 31) 23 rfl _ _ e0 e2 hrun fun v' w' h => ?_
          exact hK _ _ (GEXT hG h.1) (KEXT h.1) ⟨h.2.1, fun h0 b hb => ⟨Nat.le_trans hG.2.1 (h.2.2 h0 b hb).1, (h.2.2 h0 b hb).2⟩⟩
        | 10, _ =>
          simp at ho
          subst ho
          refine step_val (v := .slice (some ⟨u.heap.size, 0, none⟩) 0 0) (w' := u.alloc (.cells #[] 3)) rfl ?_ (hK _ _ (GEXT hG (below_new u _)) (KEXT (below_new u _)) ⟨_, rfl⟩)
          simp only [execOp, Act.eval]
          go_simp
        | 11, _ =>
          simp at ho
          subst ho
          have e1 := hold 5 rfl
          refine step_val (v := .pointer (some ⟨B5, 2, none⟩)) (w' := u) rfl ?_ (hK _ _ hG ⟨Nat.le_refl _, fun _ _ _ _ => rfl⟩ rfl)
          simp only [execOp, Act.eval, e1]
          go_simp
        | 12, _ =>
          simp at ho
          subst ho
          have e1 := (hpre ⟨11, .data⟩ (by simp) rfl (by kernel_rfl) _ rfl).1 _ rfl
          have hcc := (hG.2.2 B5 hB5lt hB5o hB53 : u.heap[B5]? = W1.heap[B5]?)
          have hc2 : u.cell? ⟨B5, 2, none⟩ = some (.slice al f.locals.length kl) := by rw [World.cell?_of_block (show u.heap[(⟨B5, 2, none⟩ : Addr).block]? = W1.heap[B5]? from hcc), cell_of_row _ _ _ _ _ _ h51]; rfl
          simp only [FC] at e1
          refine step_val (v := (.slice al f.locals.length kl)) (w' := u) rfl ?_ (hK _ _ hG ⟨Nat.le_refl _, fun _ _ _ _ => rfl⟩ rfl)
          simp only [execOp, Act.eval, e1]
          go_simp
        | 13, _ =>
          simp at ho
          subst ho
          obtain ⟨ad, e0⟩ := (hpre ⟨10, .data⟩ (by simp) rfl (by kernel_rfl) _ rfl).1 _ rfl
          have e2 := (hpre ⟨12, .data⟩ (by simp) rfl (by kernel_rfl) _ rfl).1 _ rfl
          simp only [FC] at e2
          have hrun := ints_copy (a := ad) (HFN.out.l.ext hG.1) hfl.2.2.1
          refine step_app rfl (.tmp 33) (.tmp 35) 23 rfl _ _ e0 e2 hrun fun v' w' h => ?_
          exact hK _ _ (GEXT hG h.1) (KEXT h.1) ⟨h.2.1, fun h0 b hb => ⟨Nat.le_trans hG.2.1 (h.2.2 h0 b hb).1, (h.2.2 h0 b hb).2⟩⟩
        | 14, _ =>
          simp at ho
          subst ho
          refine step_val (v := .slice (some ⟨u.heap.size, 0, none⟩) 0 0) (w' := u.alloc (.cells #[] 35)) rfl ?_ (hK _ _ (GEXT hG (below_new u _)) (KEXT (below_new u _)) ⟨_, rfl⟩)
          simp only [execOp, Act.eval]
          go_simp
        | 15, _ =>
          simp at ho
          subst ho
          have e1 := hold 5 rfl
          refine step_val (v := .pointer (some ⟨B5, 3, none⟩)) (w' := u) rfl ?_ (hK _ _ hG ⟨Nat.le_refl _, fun _ _ _ _ => rfl⟩ rfl)
          simp only [execOp, Act.eval, e1]
          go_simp
        | 16, _ =>
          simp at ho
          subst ho
          have e1 := (hpre ⟨15, .data⟩ (by simp) rfl (by kernel_rfl) _ rfl).1 _ rfl
          have hcc := (hG.2.2 B5 hB5lt hB5o hB53 : u.heap[B5]? = W1.heap[B5]?)
          have hc2 : u.cell? ⟨B5, 3, none⟩ = some (.slice ac f.code.length kc) := by rw [World.cell?_of_block (show u.heap[(⟨B5, 3, none⟩ : Addr).block]? = W1.heap[B5]? from hcc), cell_of_row _ _ _ _ _ _ h51]; rfl
          simp only [FC] at e1
          refine step_val (v := (.slice ac f.code.length kc)) (w' := u) rfl ?_ (hK _ _ hG ⟨Nat.le_refl _, fun _ _ _ _ => rfl⟩ rfl)
          simp only [execOp, Act.eval, e1]
          go_simp
        | 17, _ =>
          simp at ho
          subst ho
          obtain ⟨ad, e0⟩ := (hpre ⟨14, .data⟩ (by simp) rfl (by kernel_rfl) _ rfl).1 _ rfl
          have e2 := (hpre ⟨16, .data⟩ (by simp) rfl (by kernel_rfl) _ rfl).1 _ rfl
          simp only [FC] at e2
          have hrun := code_copy (a := ad) (HFN.out.c.ext hG.1) hfl.2.2.2
          refine step_app rfl (.tmp 37) (.tmp 39) 22 rfl _ _ e0 e2 hrun fun v' w' h => ?_
          exact hK _ _ (GEXT hG h.1) (KEXT h.1) ⟨h.2.1, fun h0 b hb => ⟨Nat.le_trans hG.2.1 (h.2.2 h0 b hb).1, (h.2.2 h0 b hb).2⟩⟩
        | 18, _ =>
          simp at ho
          subst ho
          have g5 := (hpre ⟨5, .data⟩ (by simp) rfl (by kernel_rfl) _ rfl).1 _ rfl
          have g9 := (hpre ⟨9, .data⟩ (by simp) rfl (by kernel_rfl) _ rfl).1 _ rfl
          have g13 := (hpre ⟨13, .data⟩ (by simp) rfl (by kernel_rfl) _ rfl).1 _ rfl
          have g17 := (hpre ⟨17, .data⟩ (by simp) rfl (by kernel_rfl) _ rfl).1 _ rfl
          simp only [FC] at g5 g9 g13 g17
          obtain ⟨a5, k5, e5, _⟩ := g5.1.at_
          obtain ⟨a9, k9, e9, _⟩ := g9.1.at_
          obtain ⟨a13, k13, e13, _⟩ := g13.1.at_
          obtain ⟨a17, k17, e17, _⟩ := g17.1.at_
          refine step_val (v := .agg #[a.tmps.getD 28 undef, a.tmps.getD 32 undef, a.tmps.getD 36 undef, a.tmps.getD 40 undef]) (w' := u) rfl ?_ (hK _ _ hG ⟨Nat.le_refl _, fun _ _ _ _ => rfl⟩ ⟨⟨_, _, _, _⟩, rfl, ⟨g5, g9, g13, g17⟩⟩)
          rw [e5, e9, e13, e17]
          simp [hts] at e5 e9 e13 e17
          simp only [execOp, Act.eval]
          go_simp
        | 19, _ =>
          simp at ho
          subst ho
          obtain ⟨t, e1, ht⟩ := (hpre ⟨18, .data⟩ (by simp) rfl (by kernel_rfl) _ rfl).1 _ rfl
          obtain ⟨a5, k5, e5, _⟩ := ht.p.1.at_
          obtain ⟨a9, k9, e9, _⟩ := ht.r.1.at_
          obtain ⟨a13, k13, e13, _⟩ := ht.l.1.at_
          obtain ⟨a17, k17, e17, _⟩ := ht.c.1.at_
          refine step_val (v := .slice (some ⟨u.heap.size, 0, none⟩) 1 1) (w' := u.alloc (.cells #[t.p, t.r, t.l, t.c] 53)) rfl ?_ (hK _ _ (GEXT hG (below_new u _)) (KEXT (below_new u _)) ⟨t, _, rfl, hG.2.1, World.alloc_heap_new u _, ht.keep (i := 19) (KEXT (below_new u _)) h3lt hob⟩)
          rw [e5, e9, e13, e17] at e1 ⊢
          simp [hts] at e1
          simp only [execOp, Act.eval]
          go_simp
        | 20, _ =>
          simp at ho
          subst ho
          have e1 := (hpre ⟨1, .data⟩ (by simp) rfl (by kernel_rfl) _ rfl).1 _ rfl
          obtain ⟨t, e, e2, he, hlit, ht⟩ := (hpre ⟨19, .data⟩ (by simp) rfl (by kernel_rfl) _ rfl).1 _ rfl
          have hq := hini 1 (by kernel_rfl)
          simp only [FC] at e1
          have hown : u.ownsRow W.heap.size 53 4 vfs k (fourVals L) := own_at (own_exts HC.out.own HBW.out) hq
          have hrun := fn_append (W1 := W1) (B3 := B3) hG.1 hG.2.1 hown h3lt hob hlit (FnAre.one ht) ht (by omega)
          refine step_app rfl (.tmp 24) (.tmp 42) 43 rfl _ _ e1 e2 hrun fun v' w' h => ?_
          refine hK _ _ ⟨h.1, Nat.le_trans hG.2.1 h.2.1.1, fun b h1 h2 h3 => ?_⟩ h.2.1 h.2.2
          exact (h.2.1.2 b (Nat.lt_of_lt_of_le h1 hG.2.1) (fun _ => h2) (fun _ => h3)).trans (hG.2.2 b h1 h2 h3)
        | 21, _ =>
          simp at ho
          subst ho
          have e1 := hold 3 rfl
          refine step_val (v := .pointer (some ⟨B3, 1, none⟩)) (w' := u) rfl ?_ (hK _ _ hG ⟨Nat.le_refl _, fun _ _ _ _ => rfl⟩ rfl)
          simp only [execOp, Act.eval, e1]
          go_simp
        | 22, _ =>
          simp at ho
          subst ho
          have e1 := (hpre ⟨21, .data⟩ (by simp) rfl (by kernel_rfl) _ rfl).1 _ rfl
          have hR := (hpre ⟨20, .data⟩ (by simp) rfl (by kernel_rfl) _ rfl).1 _ rfl
          have hi0 := hini 0 (by kernel_rfl)
          simp only [FC] at e1 hR
          have hu3 : u.heap[B3]? = some (.cells #[.slice A1 s.consts.length c1, vfs] 45 (0, 0)) := (show u.heap[B3]? = W1.heap[B3]? from hi0).trans h31
          have hcc : u.cell? ⟨B3, 1, none⟩ = some vfs := by rw [cell_of_row _ _ _ _ _ _ hu3]; rfl
          have hfz : u.frozen? ⟨B3, 1, none⟩ = false := frozen_of_row u _ _ _ _ hu3
          have hRow := hR
          obtain ⟨t, _, hown, _⟩ := hR.ex
          obtain ⟨a43, k43, e43⟩ := row_slice hown
          have hkp : KeepC B3 vfs.ownBlock 22 u (u.setCell ⟨B3, 1, none⟩ (a.tmps.getD 43 undef)) := ⟨by simp, fun b _ _ h22 => Go.Deep.blk_setCell_other u _ _ b (h22 rfl)⟩
          refine step_skip (w' := u.setCell ⟨B3, 1, none⟩ (a.tmps.getD 43 undef)) rfl ?_ (hK undef _ ⟨hG.1.setCell HC.out.ge3 _, by simpa using hG.2.1, fun b h1 h2 h3 => (Go.Deep.blk_setCell_other u _ _ b h3).trans (hG.2.2 b h1 h2 h3)⟩ hkp ⟨_, hRow.keep hkp (by omega) h3lt hob3 hob, ?_⟩)
          · rw [e43]
            simp [hts] at e43
            simp only [execOp, Act.eval, e1]
            go_simp
          · rw [heap_setCell_same u B3 1 _ _ _ hu3]
            rfl
      · intro a u hts hdf hold hG hdone
        obtain ⟨_, vN, hR, hu3⟩ := (hdone 22 _ rfl rfl).2 rfl
        have e0 := hold 0 rfl
        have e1 := hold 1 rfl
        have e2 := hold 2 rfl
        have e3 := hold 3 rfl
        have e4 := hold 4 rfl
        have e6 := hold 6 rfl
        have e7 := hold 7 rfl
        have e8 := hold 8 rfl
        have e9 := hold 9 rfl
        have e10 := hold 10 rfl
        have e45 := hold 45 rfl
        clear hdone hold
        obtain ⟨tm, df⟩ := a
        simp only at hts hdf e0 e1 e2 e3 e4 e6 e7 e8 e9 e10 e45
        subst hdf
        have ht := arr_list tm 46 hts
        simp only [List.range, List.range.loop, List.map] at ht
        rw [ht]
        clear ht hts
        rw [← hfg] at hR
        have hnx := clone_next HC.out HBW.out hG.1 hG.2.1 hG.2.2 hR hu3
        have HNX := Lib.hid hnx
        have e0 : tm.getD 0 undef = .agg #[vs, .slice (some ⟨b, off, none⟩) s.funcs.length cf] := e0
        have e1 : tm.getD 1 undef = .pointer (some ⟨w.heap.size, 0, none⟩) := e1
        have e2 : tm.getD 2 undef = .pointer (some ⟨w.heap.size + 1, 0, none⟩) := e2
        have e3 : tm.getD 3 undef = .pointer (some ⟨B3, 0, none⟩) := e3
        have e4 : tm.getD 4 undef = .int .i64 k := e4
        have e6 : tm.getD 6 undef = .slice (some ⟨W.heap.size, 0, none⟩) 0 0 := e6
        have e7 : tm.getD 7 undef = .pointer (some ⟨w.heap.size, 0, none⟩) := e7
        have e8 : tm.getD 8 undef = vs := e8
        have e9 : tm.getD 9 undef = .slice A1 s.consts.length c1 := e9
        have e10 : tm.getD 10 undef = .agg #[.slice A1 s.consts.length c1, .slice none 0 0] := e10
        have e45 : tm.getD 45 undef = undef := e45
        rw [e0, e1, e2, e3, e4, e6, e7, e8, e9, e10, e45]
        generalize tm.getD 5 undef = x5
        generalize tm.getD 11 undef = x11
        generalize tm.getD 12 undef = x12
        generalize tm.getD 13 undef = x13
        generalize tm.getD 14 undef = x14
        generalize tm.getD 15 undef = x15
        generalize tm.getD 16 undef = x16
        generalize tm.getD 17 undef = x17
        generalize tm.getD 18 undef = x18
        generalize tm.getD 19 undef = x19
        generalize tm.getD 20 undef = x20
        generalize tm.getD 21 undef = x21
        generalize tm.getD 22 undef = x22
        generalize tm.getD 23 undef = x23
        generalize tm.getD 24 undef = x24
        generalize tm.getD 25 undef = x25
        generalize tm.getD 26 undef = x26
        generalize tm.getD 27 undef = x27
        generalize tm.getD 28 undef = x28
        generalize tm.getD 29 undef = x29
        generalize tm.getD 30 undef = x30
        generalize tm.getD 31 undef = x31
        generalize tm.getD 32 undef = x32
        generalize tm.getD 33 undef = x33
        generalize tm.getD 34 undef = x34
        generalize tm.getD 35 undef = x35
        generalize tm.getD 36 undef = x36
        generalize tm.getD 37 undef = x37
        generalize tm.getD 38 undef = x38
        generalize tm.getD 39 undef = x39
        generalize tm.getD 40 undef = x40
        generalize tm.getD 41 undef = x41
        generalize tm.getD 42 undef = x42
        generalize tm.getD 43 undef = x43
        generalize tm.getD 44 undef = x44
        clear hG hR hu3 hnx e0 e1 e2 e3 e4 e6 e7 e8 e9 e10 e45
        go_wp2_with (fail)
        go_roundw
        case rel =>
          obtain ⟨L', hL'⟩ := HNX.out
          exact ⟨k + 1, vN, L', by omega, by go_num, hL'⟩
        case measure => simp [intOf]; omega
    · have e : k = s.funcs.length := by omega
      subst e
      obtain ⟨av, kv, rfl⟩ := row_slice hC.own
      have h31 := hC.b3
      have hq0 : wr.cell? ⟨B3, 0, none⟩ = some (.slice A1 s.consts.length c1) := by rw [cell_of_row _ _ _ _ _ _ h31]; rfl
      have hq1 : wr.cell? ⟨B3, 1, none⟩ = some (.slice av s.funcs.length kv) := by rw [cell_of_row _ _ _ _ _ _ h31]; rfl
      have h2 := (hC.below.block (w.heap.size + 1) hsz).trans HR2.out
      have hp0 : wr.cell? ⟨w.heap.size + 1, 0, none⟩ = some (.slice none 0 0) := by rw [cell_of_row _ _ _ _ _ _ h2]; rfl
      have hp1 : wr.cell? ⟨w.heap.size + 1, 1, none⟩ = some (.slice none 0 0) := by rw [cell_of_row _ _ _ _ _ _ h2]; rfl
      have hf0 : wr.frozen? ⟨w.heap.size + 1, 0, none⟩ = false := frozen_of_row wr _ _ _ _ h2
      have hf1 : wr.frozen? ⟨w.heap.size + 1, 1, none⟩ = false := frozen_of_row wr _ _ _ _ h2
      have hdone := clone_done (u := (wr.setCell ⟨w.heap.size + 1, 0, none⟩ (.slice A1 s.consts.length c1)).setCell ⟨w.heap.size + 1, 1, none⟩ (.slice av s.funcs.length kv)) hC (by omega) (fun b hb => (Go.Deep.blk_setCell_other _ _ _ b (by simp; omega)).trans (Go.Deep.blk_setCell_other _ _ _ b (by simp; omega)))
      have hbe : Below w.heap.size w ((wr.setCell ⟨w.heap.size + 1, 0, none⟩ (.slice A1 s.consts.length c1)).setCell ⟨w.heap.size + 1, 1, none⟩ (.slice av s.funcs.length kv)) := ((HB0.out.trans (hC.below.mono HB0.out.size)).setCell (by simp) _).setCell (by simp) _
      have hg2 : ((wr.setCell ⟨w.heap.size + 1, 0, none⟩ (.slice A1 s.consts.length c1)).setCell ⟨w.heap.size + 1, 1, none⟩ (.slice av s.funcs.length kv)).heap[w.heap.size + 1]? = some (.cells #[.slice A1 s.consts.length c1, .slice av s.funcs.length kv] 45 (0, 0)) := by
        rw [heap_setCell_same _ (w.heap.size + 1) 1 _ _ _ (heap_setCell_same wr (w.heap.size + 1) 0 _ _ _ h2)]
        rfl
      have HD := Lib.hid hdone
      have HBE2 := Lib.hid hbe
      have HG2 := Lib.hid hg2
      clear hdone hbe hg2 hC h31 h2
      have hr0 := cell_of_row _ _ 0 _ _ _ HG2.out
      have hr1 := cell_of_row _ _ 1 _ _ _ HG2.out
      simp only [List.getElem?_toArray, List.getElem?_cons_zero, List.getElem?_cons_succ] at hr0 hr1
      go_wp2
      refine bodyPost_ret (v := .agg #[.slice A1 s.consts.length c1, .slice av s.funcs.length kv]) (by simp [results, Try.results34, go_sem, hr0, hr1]) rfl ⟨⟨_, rfl, HD.out⟩, HBE2.out⟩
end Go.Proofs.Ytchmgilckiadaaa
