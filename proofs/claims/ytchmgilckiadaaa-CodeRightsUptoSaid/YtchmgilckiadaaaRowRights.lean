/- CodeRights holds, in its Upto form, of every input of bulk at most 1048576: which scripts may be, and a function's slots, are the document's. Condition: that of the given statement CodeRightsUptoSaid, and no other. -/
import Derived.Test.YtchmgilckiadaaaFacts
import Derived.Test.YtchmgilckiadaaaOsc
import Derived.Test.YtchmgilckiadaaaRights
import Derived.Deep.CondSized
namespace Go.Proofs.Ytchmgilckiadaaa
open Go.ChangeShapes Go.WideShapes Go.ChangeAt Go.RowKit
theorem rights_closed : joinedFacts Try.prog 9 Try.f9 Rows.codeRightsSpec Rows.codeRightsUptoRow = true :=
  joined_of prog_may prog_final prog_make rfl rfl (by as_aux_lemma => kernel_rfl) laidK rowedK (by as_aux_lemma => kernel_rfl) (by as_aux_lemma => kernel_rfl) (by as_aux_lemma => kernel_rfl) (by as_aux_lemma => kernel_rfl) (by as_aux_lemma => kernel_rfl) (by as_aux_lemma => kernel_rfl) (by as_aux_lemma => kernel_rfl)
    (by as_aux_lemma => kernel_rfl) (by as_aux_lemma => kernel_rfl) (by as_aux_lemma => kernel_rfl) (by rw [keysK]; rfl) rfl heardK rfl rfl (by as_aux_lemma => kernel_rfl) (by as_aux_lemma => kernel_rfl)
set_option maxRecDepth 100000 in
theorem rights_lifted (os : Os) (started : os.Started) (H : Type) (enc : TypeId × Value → H) (F0 : Stop.Interp) :
    ReturnsInHanded {} Try.checked os 9 .any ((Rows.OpenSpec.upto Rows.codeRightsSpec).pre6 enc Try.prog Try.f9 Rows.codeRightsUptoRow.domain false) (((Rows.OpenSpec.upto Rows.codeRightsSpec).at F0).post enc Try.prog Try.f9 false true false false) := by
  refine returnsInHanded_of_cond_sized (C := Try.checked) (s := Rows.OpenSpec.upto Rows.codeRightsSpec) (k := Rows.uptoSmall) rfl ownK started (by kernel_rfl) Try.func9
    (OpenSpec.witness (enc := enc) (C := Try.checked) (s := Rows.OpenSpec.upto Rows.codeRightsSpec) (k := Rows.uptoSmall) rfl false ⟨#[], #[.agg #[.slice none 0 0, .slice none 0 0]], []⟩ 8 (by kernel_rfl) (by kernel_rfl) (by kernel_rfl)
      (x := ([.agg [.nil, .nil]], [], [])) (by kernel_rfl) (by kernel_rfl) (by kernel_rfl)) ?_
  intro W base args ds gs before hval0 hW _ hkk hsz0 _
  have hsz : (DataW.weightsEach Try.prog (Try.f9.params.toList ++ Rows.codeRightsSpec.plain.varTypes Try.prog) (ds ++ gs)).all (· ≤ reachBytes) = true := hsz0
  clear hsz0
  have hval : ∀ (j : Nat) t v, Try.f9.params[j]? = some t → args[j]? = some v → Value.okWide Try.prog W .any base t v := hval0
  have hW' := hW
  obtain ⟨p, q, hA0, hV, rfl, _, _⟩ := hW
  have hA : DataW.TrodAll enc Try.prog W 0 (fun _ => true) true Try.f9.params.toList args.toList ds p := hA0
  rw [Try.params9] at hA hval hsz
  obtain ⟨v0, d0, rfl, rfl, h0⟩ := trodAll_one hA
  obtain ⟨rfl, rfl⟩ := trodVars_none hV
  clear hA0 hval0
  simp only [List.append_nil] at hW'
  obtain ⟨s, hs, hz, hbk⟩ := scr_of (hval 0 _ v0 rfl rfl) h0 (within_each hsz (j := 0) rfl rfl)
  have hlt := hW'.lt
  have hkb : Rows.uptoBulk d0 ≤ 1048576 := by
    have h : Rows.uptoBulkAll ([d0] ++ ([] : List (DataW H))) ≤ 1048576 := of_decide_eq_true hkk
    simp only [List.append_nil, Rows.uptoBulkAll] at h
    omega
  refine (rights_any v0 s W hs hz (hbk.mono hkb)).mono fun e W' ⟨he, hb⟩ => ?_
  subst he
  refine ⟨_, rfl, _, _, _, [] ++ [], _, [], hW', trodAll_mk1 (shut_bool Try.underlying4 true), trodAll_mk1
    (Below.trod laidK (by kernel_rfl) (of_decide_eq_true (by kernel_rfl)) h0 hb (fun x hx => ?_)), rfl, hb.frame _, fun h => by cases h⟩
  all_goals exact hlt x (by simp [hx])
set_option maxRecDepth 100000 in
theorem rights_holds : Rows.CodeRightsUptoSaid :=
  OpenClaim.holds_of_cond 9 Try.f9 rfl rfl rfl rfl rfl rfl rfl ⟨rfl, rfl, rfl, rfl, rfl⟩ rfl rfl rfl rfl rfl (by kernel_rfl) Try.func9 rights_closed
    (of_decide_eq_true (by kernel_rfl)) (by unfold Func.isWrapper; first | (rw [if_pos (by decide +kernel)]; kernel_rfl) | (rw [if_neg (by decide +kernel)]; exact ⟨rfl, rfl⟩))
    (fun os started H enc _ F0 => rights_lifted os started H enc F0)
end Go.Proofs.Ytchmgilckiadaaa
