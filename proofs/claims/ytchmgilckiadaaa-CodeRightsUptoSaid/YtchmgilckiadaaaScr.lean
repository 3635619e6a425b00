/- Words for scripts in memory: functions, constants. -/
import Derived.Test.YtchmgilckiadaaaLbs
import Derived.Test.YtchmgilckiadaaaRule
namespace Go.Proofs.Ytchmgilckiadaaa
open Go.RowKit
/-- A function: its parameters, results, locals, instructions. -/
structure Fn where
  params : List Int
  results : List Int
  locals : List Int
  code : List Ins
  deriving Inhabited
/-- A script: constants, functions. -/
structure Scr where
  consts : List ByteArray
  funcs : List Fn
/-- A function's four slices. -/
structure FnAre (w : World) (vp vr vl vc : Value) (f : Fn) : Prop where
  p : Ints w vp f.params
  r : Ints w vr f.results
  l : Ints w vl f.locals
  c : Code_ w vc f.code
theorem FnAre.ext {w w1 : World} {vp vr vl vc : Value} {f : Fn} (h : FnAre w vp vr vl vc f) (hb : Below w.heap.size w w1) : FnAre w1 vp vr vl vc f := ⟨h.p.ext hb, h.r.ext hb, h.l.ext hb, h.c.ext hb⟩
/-- A function by value. -/
def FnVal (w : World) (v : Value) (f : Fn) : Prop := ∃ vp vr vl vc, v = .agg #[vp, vr, vl, vc] ∧ FnAre w vp vr vl vc f
theorem FnVal.ext {w w1 : World} {v : Value} {f : Fn} (h : FnVal w v f) (hb : Below w.heap.size w w1) : FnVal w1 v f := by
  obtain ⟨vp, vr, vl, vc, e, h⟩ := h
  exact ⟨vp, vr, vl, vc, e, h.ext hb⟩
/-- A function in four cells. -/
def FnCells (w : World) (q o : Nat) (f : Fn) : Prop := ∃ vp vr vl vc, w.cell? ⟨q, o, none⟩ = some vp ∧ w.cell? ⟨q, o + 1, none⟩ = some vr ∧ w.cell? ⟨q, o + 2, none⟩ = some vl ∧ w.cell? ⟨q, o + 3, none⟩ = some vc ∧ FnAre w vp vr vl vc f
theorem FnCells.ext {w w1 : World} {q o : Nat} {f : Fn} (h : FnCells w q o f) (hb : Below w.heap.size w w1) : FnCells w1 q o f := by
  obtain ⟨vp, vr, vl, vc, h0, h1, h2, h3, h⟩ := h
  exact ⟨vp, vr, vl, vc, cell_ext h0 hb, cell_ext h1 hb, cell_ext h2 hb, cell_ext h3 hb, h.ext hb⟩
/-- A []string that reads as these. -/
structure Strs (w : World) (v : Value) (l : List ByteArray) : Prop where
  at_ : CellsAt w v l.length 1 (fun j => .string (l.getD j default))
  len : l.length * 16 ≤ 281474976710656
theorem Strs.ext {w w1 : World} {v : Value} {l : List ByteArray} (h : Strs w v l) (hb : Below w.heap.size w w1) : Strs w1 v l := ⟨h.at_.ext hb, h.len⟩
/-- A []api.Func that reads as these. -/
structure Fns (w : World) (v : Value) (l : List Fn) : Prop where
  at_ : ∃ A c, v = .slice A l.length c ∧ ∀ j, j < l.length → ∃ b off, A = some ⟨b, off, none⟩ ∧ FnCells w b (off + j * 4) (l.getD j default)
  len : l.length * 96 ≤ 281474976710656
theorem Fns.ext {w w1 : World} {v : Value} {l : List Fn} (h : Fns w v l) (hb : Below w.heap.size w w1) : Fns w1 v l := by
  obtain ⟨A, c, e, h1⟩ := h.at_
  refine ⟨⟨A, c, e, fun j hj => ?_⟩, h.len⟩
  obtain ⟨b, off, e2, h2⟩ := h1 j hj
  exact ⟨b, off, e2, h2.ext hb⟩
/-- A script by value. -/
def ScrVal (w : World) (v : Value) (s : Scr) : Prop := ∃ vs vf, v = .agg #[vs, vf] ∧ Strs w vs s.consts ∧ Fns w vf s.funcs
theorem ScrVal.ext {w w1 : World} {v : Value} {s : Scr} (h : ScrVal w v s) (hb : Below w.heap.size w w1) : ScrVal w1 v s := by
  obtain ⟨vs, vf, e, h1, h2⟩ := h
  exact ⟨vs, vf, e, h1.ext hb, h2.ext hb⟩
/-- An operation whose run is known. -/
theorem wp_val {P : Program} {o : Oper} {a : Act} {w w' : World} {K : Act → World → Prop} {Q : Exit → Act → World → Prop} {v : Value} (h : (execOp a.eval o).run P w = .ok (.value v) w') (hK : K (a.put o.dst v) w') : Oper.wp P o a w K Q := by
  unfold Oper.wp
  rw [h]
  exact hK
theorem step_val {P : Program} {o : Oper} {a : Act} {w w' : World} {K : Act → World → Prop} {Q : Exit → Act → World → Prop} {E : Prop} {y : Nat → Option Bool} {v : Value} (hg : o.guard = none) (h : (execOp a.eval o).run P w = .ok (.value v) w') (hK : K (a.put o.dst v) w') :
    if Region.wanted o y = true then Oper.wp P o a w K Q else E := by
  have hw : Region.wanted o y = true := by simp [Region.wanted, hg]
  rw [if_pos hw]
  exact wp_val h hK
theorem step_skip {P : Program} {o : Oper} {a : Act} {w w' : World} {K : Act → World → Prop} {Q : Exit → Act → World → Prop} {E : Prop} {y : Nat → Option Bool} (hg : o.guard = none) (h : (execOp a.eval o).run P w = .ok .skip w') (hK : K (a.put o.dst undef) w') :
    if Region.wanted o y = true then Oper.wp P o a w K Q else E := by
  have hw : Region.wanted o y = true := by simp [Region.wanted, hg]
  rw [if_pos hw]
  unfold Oper.wp
  rw [h]
  exact hK
/-- An append, out of what its operands hold. -/
theorem step_app {P : Program} {o : Oper} {a : Act} {w : World} {K : Act → World → Prop} {Q : Exit → Act → World → Prop} {E : Prop} {y : Nat → Option Bool} {R : Value → World → Prop} (hg : o.guard = none) (s x : Operand) (t : TypeId)
    (ho : o.op = .call { callee := .builtin .append, args := #[s, x], argTypes := #[t, t] }) (v u : Value) (hs : a.eval s = v) (hx : a.eval x = u)
    (hr : ∃ v' w', (Builtin.append_ #[t, t] o.type #[v, u]).run P w = .ok v' w' ∧ R v' w') (h : ∀ v' w', R v' w' → K (a.put o.dst v') w') :
    if Region.wanted o y = true then Oper.wp P o a w K Q else E := by
  obtain ⟨v', w', h1, h2⟩ := hr
  refine step_val (v := v') (w' := w') hg ?_ (h _ _ h2)
  simp [execOp, ho, resolve, invoke, builtin, hs, hx, h1, Result.andThen]
end Go.Proofs.Ytchmgilckiadaaa
