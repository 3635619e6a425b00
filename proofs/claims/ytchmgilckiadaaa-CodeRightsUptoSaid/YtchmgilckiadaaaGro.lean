/- A region that draws its order, whose operations read, and call what makes memory alone: each operation is looked at once. -/
import Derived.Test.YtchmgilckiadaaaClonl
import Derived.Laws.BitsLemmas
namespace Go.Proofs.Ytchmgilckiadaaa
open Go.RowKit
theorem wrap_in {n : Int} (h0 : -9223372036854775808 ≤ n) (h1 : n ≤ 9223372036854775807) : IntKind.i64.wrap n = n := by rw [IntKind.wrap_i64]; omega
theorem wp_enter {P : Program} {o : Oper} {a : Act} {w : World} {K : Act → World → Prop} {Q : Exit → Act → World → Prop} {f : FuncId} {args : Array Value} {R : Value → World → Prop} (h : (execOp a.eval o).run P w = .ok (.enter f args) w)
    (hc : Calls P f args w fun e w' => ∃ v, e = .returned v ∧ R v w') (hK : ∀ v w', R v w' → K (a.put o.dst v) w') : Oper.wp P o a w K Q := by
  unfold Oper.wp
  rw [h]
  refine hc.mono ?_
  rintro e w' ⟨v, rfl, hR⟩
  exact hK v w' hR
theorem step_call {P : Program} {o : Oper} {a : Act} {w : World} {K : Act → World → Prop} {Q : Exit → Act → World → Prop} {E : Prop} {y : Nat → Option Bool} {f : FuncId} {args : Array Value} {R : Value → World → Prop} (hg : Region.wanted o y = true) (h : (execOp a.eval o).run P w = .ok (.enter f args) w)
    (hc : Calls P f args w fun e w' => ∃ v, e = .returned v ∧ R v w') (hK : ∀ v w', R v w' → K (a.put o.dst v) w') : if Region.wanted o y = true then Oper.wp P o a w K Q else E := by
  rw [if_pos hg]
  exact wp_enter h hc hK
theorem step_on {P : Program} {o : Oper} {a : Act} {w w' : World} {K : Act → World → Prop} {Q : Exit → Act → World → Prop} {E : Prop} {y : Nat → Option Bool} {v : Value} (hg : Region.wanted o y = true) (h : (execOp a.eval o).run P w = .ok (.value v) w') (hK : K (a.put o.dst v) w') :
    if Region.wanted o y = true then Oper.wp P o a w K Q else E := by
  rw [if_pos hg]
  exact wp_val h hK
theorem wanted_none {o : Oper} {y : Nat → Option Bool} (h : o.guard = none) : Region.wanted o y = true := by simp [Region.wanted, h]
theorem wanted_at {ops : Array Oper} {o o' : Oper} {a : Act} {j d : Nat} {b : Bool} (h : o.guard = some (j, b)) (hj : ops[j]? = some o') (hd : o'.dst = some d) (hlt : d < a.tmps.size) (hv : a.tmps.getD d undef = .bool b) : Region.wanted o (yielded ops a.tmps) = true := by
  have e : a.tmps[d]? = some (.bool b) := by
    have h1 : a.tmps[d]? = some a.tmps[d] := by simp [hlt]
    rw [h1]
    congr 1
    simpa [Array.getD_eq_getD_getElem?, hlt] using hv
  have : yielded ops a.tmps j = some b := by unfold yielded; rw [hj]; simp [hd, e]
  simp [Region.wanted, h, this]
theorem region_mono {P : Program} {ops : Array Oper} {Q : Exit → Act → World → Prop} {id : Nat} {a0 : Act} {w0 : World} (hm : P.follows .mixedOrders = true) (W : World) (F : Nat → Value → World → Prop) (hok : opsOk ops a0.tmps.size (fun _ => []) = true)
    (hmono : ∀ j v u u', F j v u → Below u.heap.size u u' → F j v u') (h0 : Below W.heap.size W w0)
    (hs : ∀ (a : Act) (u : World), a.tmps.size = a0.tmps.size → a.defers = a0.defers → (∀ k, (ops.toList.all fun o => o.dst != some k) = true → a.tmps.getD k undef = a0.tmps.getD k undef) → Below W.heap.size W u →
      ∀ i o, ops[i]? = some o → (∀ e ∈ o.after, Region.binds .any e = true → ∀ o', ops[e.on]? = some o' → ∀ d, o'.dst = some d → F e.on (a.tmps.getD d undef) u) →
      ∀ K : Act → World → Prop, (∀ v u', Below u.heap.size u u' → F i v u' → K (a.put o.dst v) u') → if Region.wanted o (yielded ops a.tmps) = true then Oper.wp P o a u K Q else K (a.put o.dst undef) u)
    (hd : ∀ (a : Act) (u : World), a.tmps.size = a0.tmps.size → a.defers = a0.defers → (∀ k, (ops.toList.all fun o => o.dst != some k) = true → a.tmps.getD k undef = a0.tmps.getD k undef) → Below W.heap.size W u →
      (∀ (j : Nat) o, ops[j]? = some o → ∀ d, o.dst = some d → F j (a.tmps.getD d undef) u) → Q .normal a u) :
    (Code.region id ops true).wp P Q a0 w0 := by
  refine region_slots hm (fun u => Below W.heap.size W u) (fun _ _ => True) F (fun _ u u' => Below u.heap.size u u') (fun _ => []) (fun _ => []) (fun _ => []) hok (fun i j v u u' _ _ _ h hk => hmono j v u u' h hk) (fun _ _ _ _ _ _ _ => trivial) h0.drew (fun _ => trivial) ?_ ?_
  · intro a u h1 h2 h3 hG i o ho _ hpre K hK
    exact hs a u h1 h2 h3 hG i o ho (fun e he hb o' ho' d hd => (hpre e he hb (by simp) o' ho').1 d hd) K (fun v u' hb hF => hK v u' (hG.trans (hb.mono hG.size)) hb hF)
  · intro a u h1 h2 h3 hG hdone
    exact hd a u h1 h2 h3 hG (fun j o hj d hd => (hdone j o hj rfl).1 d hd)
end Go.Proofs.Ytchmgilckiadaaa
