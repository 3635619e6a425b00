/- code.Same: are two scripts the same? -/
import Derived.Test.YtchmgilckiadaaaEql
namespace Go.Proofs.Ytchmgilckiadaaa
open Go.RowKit
theorem Fns.open_ {w : World} {v : Value} {l : List Fn} (h : Fns w v l) : ∃ A c, v = .slice A l.length c ∧ (∀ j, j < l.length → ∃ b off, A = some ⟨b, off, none⟩ ∧ FnCells w b (off + j * 4) (l.getD j default)) := h.at_
theorem dec_fn (f g : Fn) : decide (f = g) = (decide (f.params = g.params) && (decide (f.results = g.results) && (decide (f.locals = g.locals) && decide (f.code = g.code)))) := by
  cases f; cases g
  simp only [Fn.mk.injEq]
  simp only [Bool.decide_and]
theorem dec_scr (f g : Scr) : decide (f = g) = (decide (f.consts = g.consts) && decide (f.funcs = g.funcs)) := by
  cases f; cases g
  simp only [Scr.mk.injEq]
  simp only [Bool.decide_and]
/-- Two functions' boxes. -/
theorem two_boxes {w W1 : World} {t : TypeId} {c1 c2 : Array Value} (h : (w.alloc (.cells c1 t)).alloc (.cells c2 t) = W1) : Below w.heap.size w W1 ∧ W1.heap.size = w.heap.size + 2 ∧ W1.heap[w.heap.size]? = some (.cells c1 t (0, 0)) ∧ W1.heap[w.heap.size + 1]? = some (.cells c2 t (0, 0)) := by
  have e1 : (w.alloc (.cells c1 t)).heap.size = w.heap.size + 1 := by simp
  have h1 : (w.alloc (.cells c1 t)).heap[w.heap.size]? = some (.cells c1 t (0, 0)) := World.alloc_heap_new w _
  have hb := below_new (w.alloc (.cells c1 t)) (.cells c2 t)
  have h2 := World.alloc_heap_new (w.alloc (.cells c1 t)) (.cells c2 t)
  rw [e1] at h2
  refine ⟨?_, ?_, ?_, ?_⟩
  · rw [← h]; exact (below_new w _).trans (hb.mono (by omega))
  · rw [← h]; simp
  · rw [← h, hb.block _ (by omega)]; exact h1
  · rw [← h]; exact h2
theorem four_at {W1 w' : World} {q : Nat} {t : TypeId} {a b c d : Value} (hb : Below W1.heap.size W1 w') (h : W1.heap[q]? = some (.cells #[a, b, c, d] t (0, 0))) :
    w'.cell? ⟨q, 0, none⟩ = some a ∧ w'.cell? ⟨q, 1, none⟩ = some b ∧ w'.cell? ⟨q, 2, none⟩ = some c ∧ w'.cell? ⟨q, 3, none⟩ = some d := by
  have hq := (hb.block q (heap_lt h)).trans h
  refine ⟨?_, ?_, ?_, ?_⟩ <;> rw [cell_of_row _ _ _ _ _ _ hq] <;> rfl
theorem two_at {W1 w' : World} {q : Nat} {t : TypeId} {a b : Value} (hb : Below W1.heap.size W1 w') (h : W1.heap[q]? = some (.cells #[a, b] t (0, 0))) :
    w'.cell? ⟨q, 0, none⟩ = some a ∧ w'.cell? ⟨q, 1, none⟩ = some b := by
  have hq := (hb.block q (heap_lt h)).trans h
  refine ⟨?_, ?_⟩ <;> rw [cell_of_row _ _ _ _ _ _ hq] <;> rfl
set_option maxRecDepth 100000 in
set_option maxHeartbeats 1000000 in
theorem sameFn_any (va vb : Value) (f g : Fn) (w : World) (ha : FnVal w va f) (hb : FnVal w vb g) :
    Calls Try.prog 107 #[va, vb] w fun e w' => e = .returned (.bool (decide (f = g))) ∧ Below w.heap.size w w' := by
  obtain ⟨p1, r1, l1, c1, rfl, h1⟩ := ha
  obtain ⟨p2, r2, l2, c2, rfl, h2⟩ := hb
  have H1 := Lib.hid h1
  have H2 := Lib.hid h2
  have HD := Lib.hid (dec_fn f g)
  clear h1 h2
  rw [HD.out]
  obtain ⟨R0, e0⟩ : ∃ R, decide (f.params = g.params) = R := ⟨_, rfl⟩
  obtain ⟨R1, e1⟩ : ∃ R, decide (f.results = g.results) = R := ⟨_, rfl⟩
  obtain ⟨R2, e2⟩ : ∃ R, decide (f.locals = g.locals) = R := ⟨_, rfl⟩
  obtain ⟨R3, e3⟩ : ∃ R, decide (f.code = g.code) = R := ⟨_, rfl⟩
  rw [e0, e1, e2, e3]
  have E0 := Lib.hid e0
  have E1 := Lib.hid e1
  have E2 := Lib.hid e2
  have E3 := Lib.hid e3
  clear e0 e1 e2 e3
  go_enter Try.func107, Try.ntmps107
  go_upto_region 1 with (fail)
  generalize hW : (w.alloc (.cells #[p1, r1, l1, c1] 53)).alloc (.cells #[p2, r2, l2, c2] 53) = W1
  obtain ⟨hb1, hs1, hq1, hq2⟩ := two_boxes hW
  clear hW
  have HB1 := Lib.hid hb1
  have HS1 := Lib.hid hs1
  have HQ := Lib.hid (fun w' (hb : Below W1.heap.size W1 w') => And.intro (four_at hb hq1) (four_at hb hq2))
  clear hb1 hs1 hq1 hq2
  have HA := Lib.hid (Below.refl W1.heap.size W1)
  obtain ⟨⟨g0, g1, g2, g3⟩, k0, k1, k2, k3⟩ := HQ.out W1 HA.out
  cases R0 <;> cases R1 <;> cases R2 <;> cases R3 <;>
  (go_wp2_with (first
    | (go_at_call_of 108 p1; (with_reducible refine (eqInts_any _ _ f.params g.params _ (H1.out.p.ext (HB1.out.trans (HA.out.mono HB1.out.size))) (H2.out.p.ext (HB1.out.trans (HA.out.mono HB1.out.size)))).mono ?_); go_must (rintro e w2 ⟨rfl, hb⟩; rw [E0.out]; have HA := Lib.hid (HA.out.trans (hb.mono HA.out.size)); clear hb; obtain ⟨⟨g0, g1, g2, g3⟩, k0, k1, k2, k3⟩ := HQ.out _ HA.out))
    | (go_at_call_of 108 r1; (with_reducible refine (eqInts_any _ _ f.results g.results _ (H1.out.r.ext (HB1.out.trans (HA.out.mono HB1.out.size))) (H2.out.r.ext (HB1.out.trans (HA.out.mono HB1.out.size)))).mono ?_); go_must (rintro e w2 ⟨rfl, hb⟩; rw [E1.out]; have HA := Lib.hid (HA.out.trans (hb.mono HA.out.size)); clear hb; obtain ⟨⟨g0, g1, g2, g3⟩, k0, k1, k2, k3⟩ := HQ.out _ HA.out))
    | (go_at_call_of 108 l1; (with_reducible refine (eqInts_any _ _ f.locals g.locals _ (H1.out.l.ext (HB1.out.trans (HA.out.mono HB1.out.size))) (H2.out.l.ext (HB1.out.trans (HA.out.mono HB1.out.size)))).mono ?_); go_must (rintro e w2 ⟨rfl, hb⟩; rw [E2.out]; have HA := Lib.hid (HA.out.trans (hb.mono HA.out.size)); clear hb; obtain ⟨⟨g0, g1, g2, g3⟩, k0, k1, k2, k3⟩ := HQ.out _ HA.out))
    | (go_at_call 109; (with_reducible refine (eqCode_any _ _ f.code g.code _ (H1.out.c.ext (HB1.out.trans (HA.out.mono HB1.out.size))) (H2.out.c.ext (HB1.out.trans (HA.out.mono HB1.out.size)))).mono ?_); go_must (rintro e w2 ⟨rfl, hb⟩; rw [E3.out]; have HA := Lib.hid (HA.out.trans (hb.mono HA.out.size)); clear hb; obtain ⟨⟨g0, g1, g2, g3⟩, k0, k1, k2, k3⟩ := HQ.out _ HA.out)))
   go_ret
   exact ⟨rfl, HB1.out.trans (HA.out.mono HB1.out.size)⟩)
end Go.Proofs.Ytchmgilckiadaaa
