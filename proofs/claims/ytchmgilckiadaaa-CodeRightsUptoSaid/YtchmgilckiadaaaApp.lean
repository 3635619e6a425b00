/- append(own, any...): whatever slice is appended. -/
import Derived.Test.YtchmgilckiadaaaLbs
import Derived.Deep.Upon
namespace Go.Proofs.Ytchmgilckiadaaa
open Go.RowKit
theorem grownBy_refl (w : World) (r : Option Nat) : w.grownBy w r := ⟨rfl, rfl, rfl, Nat.le_refl _, fun _ _ _ => rfl⟩
theorem run_append_any {P : Program} (u : World) (base : Nat) (t ty e : TypeId) (z : Value) (size bytes : Nat) (ht : P.underlying t = some (.slice e)) (hinfo : (P.info? e).map (fun i => (i.zero, i.size, i.bytes)) = some (some z, size, bytes)) (hzs : z.cells.size = size) (hsz : 0 < size)
    (v src : Value) (n m : Nat) (xs news : List Value) (hown : u.ownsRow base e size v n xs) (f : Nat → Value) (hsrc : CellsAt u src m size f) (hn : news = (List.range (m * size)).map f) (h1 : ∀ j, (f j).oneCell' = true)
    (h63 : n + m ≤ maxLen) (hbytes : (n + m) * bytes ≤ 140737488355328) (hbase : base ≤ u.heap.size) :
    ∃ v' w', (Builtin.append_ #[t, t] ty #[v, src]).run P u = .ok v' w' ∧ w'.ownsRow base e size v' (n + m) (xs ++ news) ∧ u.grownBy w' v.ownBlock ∧ (v'.ownBlock = v.ownBlock ∨ v'.ownBlock = some u.heap.size) := by
  obtain ⟨i, hi, hz, hs, hb⟩ := info_parts hinfo
  obtain ⟨A, c, rfl, hc⟩ := hsrc
  by_cases h0 : m = 0
  · subst h0
    obtain rfl : news = [] := by simpa using hn
    have hrun : ∀ a l k, l ≤ k → (Builtin.append_ #[t, t] ty #[.slice a l k, .slice A 0 c]).run P u = .ok (.slice a l k) u := fun a l k hle => by
      refine run_append_nothing (P := P) u t t ty e i ht hi a l k hle _ ?_
      cases A with
      | none => exact Src.ofNil u ht c
      | some ad => exact Src.ofSlice u ht ad 0 c [] (by simp) (by simp) (by simp)
    have hown' : u.ownsRow base e size v (n + 0) (xs ++ []) := by simpa using hown
    rcases hown.2 with ⟨rfl, rfl⟩ | ⟨q, cap, cur, rfl, _, _, hle, _⟩
    · exact ⟨_, u, hrun _ _ _ (Nat.le_refl _), hown', grownBy_refl _ _, .inl rfl⟩
    · exact ⟨_, u, hrun _ _ _ hle, hown', grownBy_refl _ _, .inl rfl⟩
  · obtain ⟨b, off, rfl, hd⟩ := hc (by omega)
    obtain ⟨v', w', hr, h2, h3, h4, h5⟩ := run_append_own_at (P := P) u base t ty e i z size bytes ht hi hz hs hb hzs hsz v n xs hown ⟨b, off, none⟩ m c news (by rw [hn]; simp) (fun j x hj => by
      rw [hn] at hj
      obtain ⟨hj1, hj2⟩ := List.getElem?_eq_some_iff.1 hj
      simp at hj1 hj2
      rw [Addr.add_lit, hd j hj1, hj2]) (fun x hx => by
      rw [hn] at hx
      obtain ⟨j, _, rfl⟩ := List.mem_map.1 hx
      exact h1 j) h63 hbytes hbase
    exact ⟨v', w', hr, h2, h3, h5⟩
/-- 'append' where its run is known. -/
theorem wpList_append_run {P : Program} (w : World) {ops : Array Oper} {rest : List Oper} {o : Oper} {a : Act} {Q : Exit → Act → World → Prop} (hgd : o.guard = none) (s x : Operand) (t t' : TypeId)
    (ho : o.op = .call { callee := .builtin .append, args := #[s, x], argTypes := #[t, t'] }) (v u : Value) (hs : a.eval s = v) (hx : a.eval x = u) {v' : Value} {w' : World}
    (hr : (Builtin.append_ #[t, t'] o.type #[v, u]).run P w = .ok v' w') (h : wpList P ops Q rest (a.put o.dst v') w') : wpList P ops Q (o :: rest) a w := by
  refine wpList_plain hgd fun K hK => ?_
  unfold Oper.wp execOp
  simp only [ho, resolve, invoke, builtin, Sem.run_bind, Sem.run_pure, Result.andThen_ok, List.map_toArray, List.map_cons, List.map_nil, hs, hx, hr]
  exact hK _ _ h
end Go.Proofs.Ytchmgilckiadaaa
