/- CodeApart holds of every input: two scripts have the same bytes just if they are the same. Condition: none. -/
import Derived.Test.YtchmgilckiadaaaFacts
import Derived.Test.YtchmgilckiadaaaOsc
import Derived.Test.YtchmgilckiadaaaApart
namespace Go.Proofs.Ytchmgilckiadaaa
open Go.ChangeShapes Go.WideShapes Go.ChangeAt Go.RowKit
theorem apart_closed : joinedFacts Try.prog 8 Try.f8 Rows.codeApartSpec Rows.codeApartRow = true :=
  joined_of prog_may prog_final prog_make rfl rfl (by as_aux_lemma => kernel_rfl) laidK rowedK (by as_aux_lemma => kernel_rfl) (by as_aux_lemma => kernel_rfl) (by as_aux_lemma => kernel_rfl) (by as_aux_lemma => kernel_rfl) (by as_aux_lemma => kernel_rfl) (by as_aux_lemma => kernel_rfl) (by as_aux_lemma => kernel_rfl)
    (by as_aux_lemma => kernel_rfl) (by as_aux_lemma => kernel_rfl) (by as_aux_lemma => kernel_rfl) (by rw [keysK]; rfl) rfl heardK rfl rfl (by as_aux_lemma => kernel_rfl) (by as_aux_lemma => kernel_rfl)
set_option maxRecDepth 100000 in
theorem apart_lifted (os : Os) (started : os.Started) (H : Type) (enc : TypeId × Value → H) :
    ReturnsInHanded {} Try.checked os 8 .any (Rows.codeApartSpec.pre6 enc Try.prog Try.f8 Rows.codeApartRow.domain false) (Rows.codeApartSpec.post enc Try.prog Try.f8 false true false false) := by
  refine returnsInHanded_of_change_sized (C := Try.checked) ownK started (by kernel_rfl) Try.func8
    (ChangeSpec.witness6 (enc := enc) (C := Try.checked) false ⟨#[], #[.agg #[.slice none 0 0, .slice none 0 0], .agg #[.slice none 0 0, .slice none 0 0]], []⟩ 8 (by kernel_rfl) (by kernel_rfl) (by kernel_rfl) (by kernel_rfl)) ?_
  intro W base args ds gs before hval0 hW _ hsz0 _
  have hsz : (DataW.weightsEach Try.prog (Try.f8.params.toList ++ Rows.codeApartSpec.plain.varTypes Try.prog) (ds ++ gs)).all (· ≤ reachBytes) = true := hsz0
  clear hsz0
  have hval : ∀ (j : Nat) t v, Try.f8.params[j]? = some t → args[j]? = some v → Value.okWide Try.prog W .any base t v := hval0
  have hW' := hW
  obtain ⟨p, q, hA0, hV, rfl, _, _⟩ := hW
  have hA : DataW.TrodAll enc Try.prog W 0 (fun _ => true) true Try.f8.params.toList args.toList ds p := hA0
  rw [Try.params8] at hA hval hsz
  obtain ⟨v0, v1, d0, d1, p0, p1, rfl, rfl, rfl, h0, h1⟩ := trodAll_two hA
  obtain ⟨rfl, rfl⟩ := trodVars_none hV
  clear hA0 hval0
  simp only [List.append_nil] at hW'
  obtain ⟨s, hs, hz, _⟩ := scr_of (hval 0 _ v0 rfl rfl) h0 (within_each hsz (j := 0) rfl rfl)
  obtain ⟨t, ht, hzt, _⟩ := scr_of (hval 1 _ v1 rfl rfl) h1 (within_each hsz (j := 1) rfl rfl)
  have hlt := hW'.lt
  refine (apart_any v0 v1 s t W hs ht hz hzt).mono fun e W' ⟨he, hb⟩ => ?_
  subst he
  refine ⟨_, rfl, _, _, _, [] ++ [], _, [], hW', trodAll_mk1 (shut_bool Try.underlying4 true), trodAll_mk2
    (Below.trod laidK (by kernel_rfl) (of_decide_eq_true (by kernel_rfl)) h0 hb (fun x hx => ?_))
    (Below.trod laidK (by kernel_rfl) (of_decide_eq_true (by kernel_rfl)) h1 hb (fun x hx => ?_)), rfl, hb.frame _, fun h => by cases h⟩
  all_goals exact hlt x (by simp [hx])
theorem apart_holds : Rows.CodeApartSaid :=
  OpenClaim.holds_of_wide 8 Try.f8 rfl rfl rfl rfl rfl rfl rfl ⟨rfl, rfl, rfl, rfl, rfl⟩ rfl rfl rfl rfl rfl (by kernel_rfl) Try.func8 apart_closed
    (of_decide_eq_true (by kernel_rfl)) (by unfold Func.isWrapper; first | (rw [if_pos (by decide +kernel)]; kernel_rfl) | (rw [if_neg (by decide +kernel)]; exact ⟨rfl, rfl⟩))
    (fun os started H enc _ => apart_lifted os started H enc)
end Go.Proofs.Ytchmgilckiadaaa
