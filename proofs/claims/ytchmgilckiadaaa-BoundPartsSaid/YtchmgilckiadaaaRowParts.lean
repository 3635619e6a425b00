/- BoundParts holds of every input: the bound of any instructions is the document's. Condition: none. -/
import Derived.Test.YtchmgilckiadaaaFacts
import Derived.Test.YtchmgilckiadaaaOpen
import Derived.Test.YtchmgilckiadaaaPartsw
namespace Go.Proofs.Ytchmgilckiadaaa
open Go.ChangeShapes Go.WideShapes Go.ChangeAt Go.RowKit
theorem parts_closed : joinedFacts Try.prog 3 Try.f3 Rows.boundPartsSpec Rows.boundPartsRow = true :=
  joined_of prog_may prog_final prog_make rfl rfl (by as_aux_lemma => kernel_rfl) laidK rowedK (by as_aux_lemma => kernel_rfl) (by as_aux_lemma => kernel_rfl) (by as_aux_lemma => kernel_rfl) (by as_aux_lemma => kernel_rfl) (by as_aux_lemma => kernel_rfl) (by as_aux_lemma => kernel_rfl) (by as_aux_lemma => kernel_rfl)
    (by as_aux_lemma => kernel_rfl) (by as_aux_lemma => kernel_rfl) (by as_aux_lemma => kernel_rfl) (by rw [keysK]; rfl) rfl heardK rfl rfl (by as_aux_lemma => kernel_rfl) (by as_aux_lemma => kernel_rfl)
set_option maxRecDepth 100000 in
theorem parts_lifted (os : Os) (started : os.Started) (H : Type) (enc : TypeId × Value → H) :
    ReturnsInHanded {} Try.checked os 3 .any (Rows.boundPartsSpec.pre6 enc Try.prog Try.f3 Rows.boundPartsRow.domain false) (Rows.boundPartsSpec.post enc Try.prog Try.f3 false true false false) := by
  refine returnsInHanded_of_change_sized (C := Try.checked) ownK started (by kernel_rfl) Try.func3
    (ChangeSpec.witness6 (enc := enc) (C := Try.checked) false ⟨#[], #[.slice none 0 0, .slice none 0 0], []⟩ 8 (by kernel_rfl) (by kernel_rfl) (by kernel_rfl) (by kernel_rfl)) ?_
  intro W base args ds gs before hval0 hW _ hsz0 _
  have hsz : (DataW.weightsEach Try.prog (Try.f3.params.toList ++ Rows.boundPartsSpec.plain.varTypes Try.prog) (ds ++ gs)).all (· ≤ reachBytes) = true := hsz0
  clear hsz0
  have hval : ∀ (j : Nat) t v, Try.f3.params[j]? = some t → args[j]? = some v → Value.okWide Try.prog W .any base t v := hval0
  have hW' := hW
  obtain ⟨p, q, hA0, hV, rfl, _, _⟩ := hW
  have hA : DataW.TrodAll enc Try.prog W 0 (fun _ => true) true Try.f3.params.toList args.toList ds p := hA0
  rw [Try.params3] at hA hval hsz
  obtain ⟨v0, v1, d0, d1, p0, p1, rfl, rfl, rfl, h0, h1⟩ := trodAll_two hA
  obtain ⟨rfl, rfl⟩ := trodVars_none hV
  clear hA0 hval0
  simp only [List.append_nil] at hW'
  obtain ⟨c, hc, hcl⟩ := code_of (hval 0 _ v0 rfl rfl) h0 (fun a b e => by subst e; exact sized_slice hsz (j := 0) (t := 22) (e := 35) rfl rfl Try.underlying22)
  obtain ⟨ks, hk, hkl⟩ := ints_of2 (hval 1 _ v1 rfl rfl) h1 (fun a b e => by subst e; exact sized_slice hsz (j := 1) (t := 23) (e := 3) rfl rfl Try.underlying23)
  have hlt := hW'.lt
  refine (parts_any v0 v1 c ks W hc hk hkl).mono fun e W' ⟨he, hb⟩ => ?_
  subst he
  refine ⟨_, rfl, _, _, _, [] ++ [], _, [], hW', trodAll_mk1 (shut_bool Try.underlying4 true), trodAll_mk2
    (Below.trod laidK (by kernel_rfl) (of_decide_eq_true (by kernel_rfl)) h0 hb (fun x hx => ?_))
    (Below.trod laidK (by kernel_rfl) (of_decide_eq_true (by kernel_rfl)) h1 hb (fun x hx => ?_)), rfl, hb.frame _, fun h => by cases h⟩
  all_goals exact hlt x (by simp [hx])
theorem parts_holds : Rows.BoundPartsSaid :=
  OpenClaim.holds_of_wide 3 Try.f3 rfl rfl rfl rfl rfl rfl rfl ⟨rfl, rfl, rfl, rfl, rfl⟩ rfl rfl rfl rfl rfl (by kernel_rfl) Try.func3 parts_closed
    (of_decide_eq_true (by kernel_rfl)) (by unfold Func.isWrapper; first | (rw [if_pos (by decide +kernel)]; kernel_rfl) | (rw [if_neg (by decide +kernel)]; exact ⟨rfl, rfl⟩))
    (fun os started H enc _ => parts_lifted os started H enc)
end Go.Proofs.Ytchmgilckiadaaa
