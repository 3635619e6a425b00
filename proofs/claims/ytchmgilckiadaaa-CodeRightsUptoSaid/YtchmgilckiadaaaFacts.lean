/- What a row asks of the program as a whole, told part by part: the word on its make is long, so it is read as a list of signs. -/
import Derived.Test.YtchmgilckiadaaaRows
import Derived.Test.YtchmgilckiadaaaChecked
import Derived.ProofKit
namespace Go.Proofs.Ytchmgilckiadaaa
set_option maxRecDepth 1000000
/-- The signs of the program's word on its make. -/
def signs : List Nat := [104, 97, 114, 110, 101, 115, 115, 32, 48, 101, 97, 48, 51, 48, 54, 100, 99, 50, 99, 99, 100, 55, 97, 57, 49, 52, 55, 99, 50, 48, 55, 49, 50, 57, 98, 53, 48, 56, 54, 100, 100, 52, 101, 57, 56, 99, 52, 49, 48, 50, 53, 51, 56, 56, 52, 48, 53, 57, 56, 48, 49, 97, 101, 100, 98, 97, 101, 98, 49, 48, 99, 97, 32, 99, 117, 116, 32, 97, 116, 32, 119, 101, 105, 103, 104, 104, 111, 117, 115, 101, 47, 119, 101, 105, 103, 104, 104, 111, 117, 115, 101, 108, 97, 119, 48, 57, 46, 66, 111, 117, 110, 100, 80, 97, 114, 116, 115, 32, 119, 101, 105, 103, 104, 104, 111, 117, 115, 101, 47, 119, 101, 105, 103, 104, 104, 111, 117, 115, 101, 108, 97, 119, 48, 57, 46, 66, 111, 117, 110, 100, 77, 111, 114, 101, 32, 119, 101, 105, 103, 104, 104, 111, 117, 115, 101, 47, 119, 101, 105, 103, 104, 104, 111, 117, 115, 101, 108, 97, 119, 48, 57, 46, 66, 111, 117, 110, 100, 84, 111, 103, 101, 116, 104, 101, 114, 32, 119, 101, 105, 103, 104, 104, 111, 117, 115, 101, 47, 119, 101, 105, 103, 104, 104, 111, 117, 115, 101, 108, 97, 119, 48, 57, 46, 66, 111, 117, 110, 100, 84, 117, 114, 110, 115, 32, 119, 101, 105, 103, 104, 104, 111, 117, 115, 101, 47, 119, 101, 105, 103, 104, 104, 111, 117, 115, 101, 108, 97, 119, 48, 57, 46, 66, 111, 117, 110, 100, 67, 97, 108, 108, 101, 101, 115, 32, 119, 101, 105, 103, 104, 104, 111, 117, 115, 101, 47, 119, 101, 105, 103, 104, 104, 111, 117, 115, 101, 108, 97, 119, 48, 52, 46, 67, 111, 100, 101, 65, 112, 97, 114, 116, 32, 119, 101, 105, 103, 104, 104, 111, 117, 115, 101, 47, 119, 101, 105, 103, 104, 104, 111, 117, 115, 101, 108, 97, 119, 48, 52, 46, 67, 111, 100, 101, 82, 105, 103, 104, 116, 115, 32, 119, 101, 105, 103, 104, 104, 111, 117, 115, 101, 47, 119, 101, 105, 103, 104, 104, 111, 117, 115, 101, 108, 97, 119, 48, 52, 46, 67, 111, 100, 101, 83, 97, 109, 101, 115, 32, 119, 101, 105, 103, 104, 104, 111, 117, 115, 101, 47, 119, 101, 105, 103, 104, 104, 111, 117, 115, 101, 108, 97, 119, 48, 52, 46, 67, 111, 100, 101, 66, 121, 116, 101, 115, 32, 119, 101, 105, 103, 104, 104, 111, 117, 115, 101, 47, 119, 101, 105, 103, 104, 104, 111, 117, 115, 101, 108, 97, 119, 48, 52, 46, 67, 111, 100, 101, 66, 97, 99, 107, 32, 119, 101, 105, 103, 104, 104, 111, 117, 115, 101, 47, 119, 101, 105, 103, 104, 104, 111, 117, 115, 101, 108, 97, 119, 48, 52, 46, 67, 111, 100, 101, 67, 117, 116, 32, 119, 101, 105, 103, 104, 104, 111, 117, 115, 101, 47, 119, 101, 105, 103, 104, 104, 111, 117, 115, 101, 108, 97, 119, 48, 55, 46, 84, 121, 112, 101, 115, 67, 104, 101, 99, 107, 115, 32, 119, 101, 105, 103, 104, 104, 111, 117, 115, 101, 47, 119, 101, 105, 103, 104, 104, 111, 117, 115, 101, 108, 97, 119, 48, 55, 46, 84, 121, 112, 101, 115, 65, 108, 108, 32, 119, 101, 105, 103, 104, 104, 111, 117, 115, 101, 47, 119, 101, 105, 103, 104, 104, 111, 117, 115, 101, 108, 97, 119, 48, 55, 46, 84, 121, 112, 101, 115, 83, 97, 109, 101, 32, 119, 101, 105, 103, 104, 104, 111, 117, 115, 101, 47, 119, 101, 105, 103, 104, 104, 111, 117, 115, 101, 108, 97, 119, 48, 55, 46, 84, 121, 112, 101, 115, 77, 111, 114, 101, 32, 119, 101, 105, 103, 104, 104, 111, 117, 115, 101, 47, 119, 101, 105, 103, 104, 104, 111, 117, 115, 101, 108, 97, 119, 48, 55, 46, 84, 121, 112, 101, 115, 87, 97, 121, 115, 32, 119, 101, 105, 103, 104, 104, 111, 117, 115, 101, 47, 119, 101, 105, 103, 104, 104, 111, 117, 115, 101, 108, 97, 119, 48, 56, 46, 67, 97, 108, 108, 115, 79, 114, 100, 101, 114, 115, 32, 119, 101, 105, 103, 104, 104, 111, 117, 115, 101, 47, 119, 101, 105, 103, 104, 104, 111, 117, 115, 101, 108, 97, 119, 48, 56, 46, 67, 97, 108, 108, 115, 66, 101, 104, 105, 110, 100, 32, 119, 101, 105, 103, 104, 104, 111, 117, 115, 101, 47, 119, 101, 105, 103, 104, 104, 111, 117, 115, 101, 108, 97, 119, 48, 56, 46, 67, 97, 108, 108, 115, 71, 114, 97, 112, 104, 115, 32, 119, 101, 105, 103, 104, 104, 111, 117, 115, 101, 47, 119, 101, 105, 103, 104, 104, 111, 117, 115, 101, 108, 97, 119, 48, 56, 46, 67, 97, 108, 108, 115, 82, 111, 117, 110, 100, 32, 119, 101, 105, 103, 104, 104, 111, 117, 115, 101, 47, 119, 101, 105, 103, 104, 104, 111, 117, 115, 101, 108, 97, 119, 48, 56, 46, 67, 97, 108, 108, 115, 82, 101, 97, 99, 104, 32, 119, 101, 105, 103, 104, 104, 111, 117, 115, 101, 47, 119, 101, 105, 103, 104, 104, 111, 117, 115, 101, 108, 97, 119, 48, 57, 46, 66, 111, 117, 110, 100, 70, 117, 110, 99, 115]
theorem order_is : Try.prog.initOrder = String.ofList (signs.map Char.ofNat) := by kernel_rfl
theorem order_list : Try.prog.initOrder.toList = signs.map Char.ofNat := by rw [order_is]; exact String.toList_ofList
theorem words_are : ∃ R, behindMainWord (wordsSigns (signs.map Char.ofNat)) = "cut".toList :: R := ⟨(behindMainWord (wordsSigns (signs.map Char.ofNat))).tail, by kernel_rfl⟩
theorem may_of (P : Program) (R : List (List Char)) (h : behindMainWord (wordsSigns P.initOrder.toList) = "cut".toList :: R) (h1 : P.laysLater = false) (h2 : P.bearsReflect = false) (h3 : P.doorFits [] = true) : P.mayEnter = true := by
  have e1 : (stripLifts liftWords ("cut".toList :: R)) = ([], "cut".toList :: R) := by kernel_rfl
  unfold Program.mayEnter
  rw [h]
  dsimp only
  rw [e1, h1, h2]
  dsimp only
  rw [h3]
  rfl
theorem final_of (P : Program) (R : List (List Char)) (h : behindMainWord (wordsSigns P.initOrder.toList) = "cut".toList :: R) : P.liftsFinal = false := by
  have e1 : (stripLifts liftWords ("cut".toList :: R)) = ([], "cut".toList :: R) := by kernel_rfl
  unfold Program.liftsFinal Program.headLifts
  rw [h, e1]
  rfl
theorem make_of (P : Program) (R : List (List Char)) (h : behindMainWord (wordsSigns P.initOrder.toList) = "cut".toList :: R) : P.make = some .cut := by
  unfold Program.make
  rw [h]
  kernel_rfl
theorem prog_words : ∃ R, behindMainWord (wordsSigns Try.prog.initOrder.toList) = "cut".toList :: R := by
  obtain ⟨R, h⟩ := words_are
  exact ⟨R, by rw [order_list]; exact h⟩
theorem prog_lays : Try.prog.laysLater = false := by kernel_rfl
theorem prog_reflect : Try.prog.bearsReflect = false := by kernel_rfl
theorem prog_door : Try.prog.doorFits [] = true := by kernel_rfl
theorem prog_may : Try.prog.mayEnter = true := by
  obtain ⟨R, h⟩ := prog_words
  exact may_of _ R h prog_lays prog_reflect prog_door
theorem prog_final : Try.prog.liftsFinal = false := by
  obtain ⟨R, h⟩ := prog_words
  exact final_of _ R h
theorem prog_make : Try.prog.make = some .cut := by
  obtain ⟨R, h⟩ := prog_words
  exact make_of _ R h
/-- The closed facts, out of their parts. -/
theorem joined_of {P : Program} {f : FuncId} {fn : Func} {s : ChangeSpec} {c : OpenClaim} (h25 : P.mayEnter = true) (h26 : P.liftsFinal = false) (h27 : P.make = some .cut) (hl : c.lifted = false) (hm : c.make = .cut)
    (h1 : c.wf (OpenSpec.ofChange s) = true) (h2 : laidOutB P = true) (h3 : mapsRowed P = true) (h4 : fn.params.all (P.readableRec ·) = true) (h5 : namedTie P c.named s.vars = true)
    (h6 : ((c.stops == []) && (P.stops == []) && (c.knobs == []) && (P.stopKnobs == [])) = true)
    (h10 : (c.inPlace == P.inPlace f) = true) (h11 : (c.unfollowed == P.unfollowed f) = true) (h12 : (c.recurses == P.recurses f) = true) (h13 : (c.named == P.varsNamed f) = true)
    (h14 : ((c.maps == (fn.params.toList ++ s.plain.varTypes P).any (P.mapsRec ·)) && (c.ifaces == (fn.params.toList ++ s.plain.varTypes P).any (P.ifacesRec ·)) && (c.mapsOut == P.mapsAmong fn.resultTypes.toList)) = true)
    (h17 : ((c.loops == (fn.params.toList ++ s.plain.varTypes P).any (P.loopsFrom ·)) && (c.wideKeys == (fn.params.toList ++ s.plain.varTypes P ++ fn.resultTypes.toList).any (P.wideKeysFrom ·))) = true)
    (h19 : (s.vars.all (P.varReadable ·) && fn.resultTypes.all (fun t => P.readableRec t && decide (t < P.types.size)) && (c.ifacesOut == fn.resultTypes.toList.any (P.ifacesRec ·)) && (c.loopsOut == fn.resultTypes.toList.any (P.loopsFrom ·))) = true)
    (h23 : (c.plainKeys == P.plainKeys) = true) (h24 : c.shortTexts.isNone = true) (h24b : P.stopsHeard = true)
    (hd : c.domain.isEmpty = true) (hk : c.kinds = []) (h29 : (c.pinned == c.pinnedBy) = true)
    (h30 : ((c.veiled == (fn.params.toList ++ s.plain.varTypes P ++ fn.resultTypes.toList).any (P.veiledRec ·)) && c.veiledFits P fn.params.toList (fn.params.toList ++ s.plain.varTypes P ++ fn.resultTypes.toList)) = true) : joinedFacts P f fn s c = true := by
  have k26 : (c.lifted == P.liftsFinal) = true := by rw [hl, h26]; rfl
  have k27 : (P.make == some c.make) = true := by rw [hm, h27]; rfl
  unfold joinedFacts
  simp only [Bool.and_eq_true] at h6 h14 h17 h19 h30
  rw [h1, h2, h3, h4, h5, h6.1.1.1, h6.1.1.2, h6.1.2, h6.2, h10, h11, h12, h13, h14.1.1, h14.1.2, h14.2, h17.1, h17.2, h19.1.1.1, h19.1.1.2, h19.1.2, h19.2, h23, h24, h24b, h25, k26, k27, hd, hk, if_pos rfl, h29, h30.1, h30.2]
  rfl
theorem ownK : ownKnob Try.prog.godebug = none := by kernel_rfl
theorem laidK : laidOutB Try.prog = true := by kernel_rfl
theorem rowedK : mapsRowed Try.prog = true := by kernel_rfl
theorem keysK : Try.prog.plainKeys = true := by kernel_rfl
theorem heardK : Try.prog.stopsHeard = true := by kernel_rfl
end Go.Proofs.Ytchmgilckiadaaa
