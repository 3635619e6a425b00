/- BoundMore's line of three appends: each append, in whatever world it stands. -/
import Derived.Test.YtchmgilckiadaaaTogw
import Derived.Test.YtchmgilckiadaaaLaws
namespace Go.Proofs.Ytchmgilckiadaaa
open Go.RowKit
/-- An append at a step of a region that draws its order, where its run is known. -/
theorem step_append_any {P : Program} {ops : Array Oper} {o : Oper} {a : Act} {w : World} {K : Act → World → Prop} {Q : Exit → Act → World → Prop} {E : Prop} {R : Value → World → Prop} (hgd : o.guard = none) (s x : Operand) (t : TypeId)
    (ho : o.op = .call { callee := .builtin .append, args := #[s, x], argTypes := #[t, t] }) (v u : Value) (hs : a.eval s = v) (hx : a.eval x = u)
    (hr : ∃ v' w', (Builtin.append_ #[t, t] o.type #[v, u]).run P w = .ok v' w' ∧ R v' w') (h : ∀ v' w', R v' w' → K (a.put o.dst v') w') :
    if Region.wanted o (yielded ops a.tmps) = true then Oper.wp P o a w K Q else E := by
  have hw : Region.wanted o (yielded ops a.tmps) = true := by simp [Region.wanted, hgd]
  rw [if_pos hw]
  obtain ⟨v', w', h1, h2⟩ := hr
  have h3 := h v' w' h2
  unfold Oper.wp
  simp [execOp, ho, resolve, invoke, builtin, hs, hx, h1, Result.andThen]
  exact h3
/-- What an append has made: a row of one's own; all else as it was. -/
structure Made (wc W : World) (ob : Option Nat) (n : Nat) (xs : List Value) (v : Value) (w : World) : Prop where
  own : w.ownsRow wc.heap.size 35 2 v n xs
  below : Below wc.heap.size wc w
  size : W.heap.size ≤ w.heap.size
  keep : ∀ q o, W.heap[q]? = some o → some q ≠ ob → w.heap[q]? = some o
  blk : v.ownBlock = ob ∨ v.ownBlock = some W.heap.size
theorem append_made {wc W : World} {v src : Value} {n m : Nat} {xs : List Value} {d : List Ins} (hb : Below wc.heap.size wc W) (hown : W.ownsRow wc.heap.size 35 2 v n xs) (hsrc : CellsAt W src m 2 (insAt d)) (hm : m = d.length) (hl : (n + m) * 16 ≤ 140737488355328) :
    ∃ v' w', (Builtin.append_ #[22, 22] 22 #[v, src]).run Try.prog W = .ok v' w' ∧ Made wc W v.ownBlock (n + m) (xs ++ insCells d) v' w' := by
  subst hm
  obtain ⟨v', w', h1, h2, h3, h4⟩ := run_append_any (P := Try.prog) W wc.heap.size 22 22 35 _ 2 16 Try.underlying22 info_ins rfl (by decide) v src n d.length xs (insCells d) hown (insAt d) hsrc (insCells_range d) (fun j => rfl) (by unfold maxLen; omega) hl hb.size
  refine ⟨v', w', h1, h2, hb.trans ⟨h3.os, h3.tape, h3.output, h3.size, fun q hq => h3.block q (Nat.lt_of_lt_of_le hq hb.size) (fun hh => by have := (hown.lt q hh.symm).1; omega)⟩, h3.size, fun q o hq hne => ?_, h4⟩
  rw [← hq]
  exact h3.block q (Array.getElem?_eq_some_iff.1 hq).1 hne
theorem ins_take {w : World} {A : Option Addr} {c : List Ins} {cc : Nat} (h : Code_ w (.slice A c.length cc) c) {K : Nat} (hK : K ≤ c.length) : CellsAt w (.slice A K cc) K 2 (insAt (c.take K)) := by
  obtain ⟨A', c', e, hc⟩ := h.at_
  injection e with e1 e2 e3
  subst e1
  refine ⟨A, cc, rfl, fun h0 => ?_⟩
  obtain ⟨b, off, rfl, hd⟩ := hc (by omega)
  refine ⟨b, off, rfl, fun j hj => ?_⟩
  rw [hd j (by omega)]
  have hj2 : j / 2 < K := by omega
  simp only [insAt, List.getD_eq_getElem?_getD, List.getElem?_take, if_pos hj2]
theorem ins_drop {w : World} {b off cc : Nat} {c : List Ins} {B : Addr} (h : Code_ w (.slice (some ⟨b, off, none⟩) c.length cc) c) {K : Nat} (hB : K < c.length → B = ⟨b, off + K * 2, none⟩) : CellsAt w (.slice (some B) (c.length - K) (cc - K)) (c.length - K) 2 (insAt (c.drop K)) := by
  obtain ⟨A', c', e, hc⟩ := h.at_
  injection e with e1 e2 e3
  subst e1
  refine ⟨some B, cc - K, rfl, fun h0 => ?_⟩
  obtain ⟨b', off', e4, hd⟩ := hc (by omega)
  simp only [Option.some.injEq, Addr.mk.injEq, and_true] at e4
  obtain ⟨rfl, rfl⟩ := e4
  refine ⟨b, off + K * 2, by rw [hB (by omega)], fun j hj => ?_⟩
  rw [show off + K * 2 + j = off + (K * 2 + j) by omega, hd (K * 2 + j) (by omega)]
  have e1 : (K * 2 + j) % 2 = j % 2 := by omega
  have e2 : (K * 2 + j) / 2 = K + j / 2 := by omega
  simp only [insAt, e1, e2, List.getD_eq_getElem?_getD, List.getElem?_drop]
theorem ins_lit {w : World} {q : Nat} {x : Ins} (h : w.heap[q]? = some (.cells #[.int .i64 x.1, .int .i64 x.2] 35 (0, 0))) : CellsAt w (.slice (some ⟨q, 0, none⟩) 1 1) 1 2 (insAt [x]) := by
  refine ⟨_, _, rfl, fun _ => ⟨q, 0, rfl, fun j hj => ?_⟩⟩
  rw [Nat.zero_add, cell_of_row w q j _ _ _ h]
  match j, hj with
  | 0, _ => rfl
  | 1, _ => rfl
theorem empty_own {wc W : World} {q : Nat} (h : W.heap[q]? = some (.cells #[] 35 (0, 0))) (hq : wc.heap.size ≤ q) : W.ownsRow wc.heap.size 35 2 (.slice (some ⟨q, 0, none⟩) 0 0) 0 [] :=
  ⟨rfl, .inr ⟨_, 0, #[], rfl, hq, h, Nat.le_refl _, Nat.zero_le _, rfl, rfl⟩⟩
theorem alloc2_fst (W : World) (a : Array Value) (t : TypeId) (o : Obj) : ((W.alloc (.cells a t)).alloc o).heap[W.heap.size]? = some (.cells a t (0, 0)) :=
  ((below_new (W.alloc (.cells a t)) o).block _ (by simp)).trans (World.alloc_heap_new W _)
theorem alloc2_snd (W : World) (a : Array Value) (t : TypeId) (o : Obj) : ((W.alloc o).alloc (.cells a t)).heap[W.heap.size + 1]? = some (.cells a t (0, 0)) := by
  have h := World.alloc_heap_new (W.alloc o) (.cells a t)
  rwa [World.size_alloc] at h
theorem own_exts {w w1 : World} {B n s : Nat} {e : TypeId} {v : Value} {xs : List Value} (h : w.ownsRow B e s v n xs) (hb : Below w.heap.size w w1) : w1.ownsRow B e s v n xs := by
  refine ⟨h.1, ?_⟩
  rcases h.2 with h1 | ⟨g, cap, cur, h1, h2, h3, h4⟩
  · exact .inl h1
  · exact .inr ⟨g, cap, cur, h1, h2, (hb.block g (heap_lt h3)).trans h3, h4⟩
end Go.Proofs.Ytchmgilckiadaaa
