/- BoundMore holds of every input: with one instruction more, that is not of blocks, a bound is not less; outside of blocks it is more by what that one costs, or was cut. Condition: none. -/
import Derived.Test.YtchmgilckiadaaaFacts
import Derived.Test.YtchmgilckiadaaaOpen
import Derived.Test.YtchmgilckiadaaaMorew
import Derived.Lib.SmallJoins
namespace Go.Proofs.Ytchmgilckiadaaa
open Go.ChangeShapes Go.WideShapes Go.ChangeAt Go.RowKit Go.Joins
theorem more_closed : joinedFacts Try.prog 4 Try.f4 Rows.boundMoreSpec Rows.boundMoreRow = true :=
  joined_of prog_may prog_final prog_make rfl rfl (by as_aux_lemma => kernel_rfl) laidK rowedK (by as_aux_lemma => kernel_rfl) (by as_aux_lemma => kernel_rfl) (by as_aux_lemma => kernel_rfl) (by as_aux_lemma => kernel_rfl) (by as_aux_lemma => kernel_rfl) (by as_aux_lemma => kernel_rfl) (by as_aux_lemma => kernel_rfl)
    (by as_aux_lemma => kernel_rfl) (by as_aux_lemma => kernel_rfl) (by as_aux_lemma => kernel_rfl) (by rw [keysK]; rfl) rfl heardK rfl rfl (by as_aux_lemma => kernel_rfl) (by as_aux_lemma => kernel_rfl)
set_option maxRecDepth 100000 in
theorem more_lifted (os : Os) (started : os.Started) (H : Type) (enc : TypeId × Value → H) :
    ReturnsInHanded {} Try.checked os 4 .any (Rows.boundMoreSpec.pre6 enc Try.prog Try.f4 Rows.boundMoreRow.domain false) (Rows.boundMoreSpec.post enc Try.prog Try.f4 false true false false) := by
  refine returnsInHanded_of_change_sized (C := Try.checked) ownK started (by kernel_rfl) Try.func4
    (ChangeSpec.witness6 (enc := enc) (C := Try.checked) false ⟨#[], #[.slice none 0 0, .slice none 0 0, .agg #[.int .i64 0, .int .i64 0], .int .i64 0], []⟩ 8 (by kernel_rfl) (by kernel_rfl) (by kernel_rfl) (by kernel_rfl)) ?_
  intro W base args ds gs before hval0 hW _ hsz0 _
  have hsz : (DataW.weightsEach Try.prog (Try.f4.params.toList ++ Rows.boundMoreSpec.plain.varTypes Try.prog) (ds ++ gs)).all (· ≤ reachBytes) = true := hsz0
  clear hsz0
  have hval : ∀ (j : Nat) t v, Try.f4.params[j]? = some t → args[j]? = some v → Value.okWide Try.prog W .any base t v := hval0
  have hW' := hW
  obtain ⟨p, q, hA0, hV, rfl, _, _⟩ := hW
  have hA : DataW.TrodAll enc Try.prog W 0 (fun _ => true) true Try.f4.params.toList args.toList ds p := hA0
  rw [Try.params4] at hA hval hsz
  obtain ⟨v0, v1, v2, v3, d0, d1, d2, d3, p0, p1, p2, p3, rfl, rfl, rfl, h0, h1, h2, h3⟩ := trodAll_four hA
  obtain ⟨rfl, rfl⟩ := trodVars_none hV
  clear hA0 hval0
  simp only [List.append_nil] at hW'
  obtain ⟨c, Ac, cc, rfl, hc, hcc, hAA, hcl⟩ := code_of2 (hval 0 _ v0 rfl rfl) h0 (fun a b e => by subst e; exact sized_slice hsz (j := 0) (t := 22) (e := 35) rfl rfl Try.underlying22)
  obtain ⟨ks, hk⟩ := ints_of (hval 1 _ v1 rfl rfl) h1 (fun a b e => by subst e; exact sized_slice hsz (j := 1) (t := 23) (e := 3) rfl rfl Try.underlying23)
  have h2k := h2
  obtain ⟨c0, c1, y0, y1, f, rfl, rfl, rfl, hy0, hy1⟩ := open_agg2 Try.underlying35 (by kernel_rfl) cells_ins (hval 2 _ v2 rfl rfl) h2
  obtain ⟨xo, e0, _, w0⟩ := DataW.trod_int Try.underlying3 hy0
  obtain ⟨xa, e1, _, w1⟩ := DataW.trod_int Try.underlying3 hy1
  simp only [List.cons.injEq, and_true] at e0 e1
  subst e0
  subst e1
  obtain ⟨n, rfl, rfl, rfl, wn⟩ := open_int Try.underlying3 (hval 3 _ v3 rfl rfl) h3
  have hlt := hW'.lt
  refine (more_any Ac cc v1 c ks (xo, xa) n W hc hcc hAA hk ⟨wf_i64 w0, wf_i64 w1⟩ (wf_i64 wn) (by omega)).mono fun e W' ⟨he, hb⟩ => ?_
  subst he
  refine ⟨_, rfl, _, _, _, [] ++ [], _, [], hW', trodAll_mk1 (shut_bool Try.underlying4 true), trodAll_mk4
    (Below.trod laidK (by kernel_rfl) (of_decide_eq_true (by kernel_rfl)) h0 hb (fun x hx => ?_))
    (Below.trod laidK (by kernel_rfl) (of_decide_eq_true (by kernel_rfl)) h1 hb (fun x hx => ?_))
    (Below.trod laidK (by kernel_rfl) (of_decide_eq_true (by kernel_rfl)) h2k hb (fun x hx => ?_))
    (shut_int Try.underlying3 wn), rfl, hb.frame _, fun h => by cases h⟩
  all_goals exact hlt x (by simp only [List.mem_append] at hx ⊢; simp [hx])
theorem more_holds : Rows.BoundMoreSaid :=
  OpenClaim.holds_of_wide 4 Try.f4 rfl rfl rfl rfl rfl rfl rfl ⟨rfl, rfl, rfl, rfl, rfl⟩ rfl rfl rfl rfl rfl (by kernel_rfl) Try.func4 more_closed
    (of_decide_eq_true (by kernel_rfl)) (by unfold Func.isWrapper; first | (rw [if_pos (by decide +kernel)]; kernel_rfl) | (rw [if_neg (by decide +kernel)]; exact ⟨rfl, rfl⟩))
    (fun os started H enc _ => more_lifted os started H enc)
end Go.Proofs.Ytchmgilckiadaaa
