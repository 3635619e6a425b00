/- code.Put: a script's bytes. -/
import Derived.Test.YtchmgilckiadaaaWrl
import Derived.Test.YtchmgilckiadaaaWrt
import Derived.Test.YtchmgilckiadaaaRco
namespace Go.Proofs.Ytchmgilckiadaaa
open Go.RowKit
theorem scr_i64 {w : World} {v : Value} {s : Scr} (h : ScrVal w v s) : ScrI64 s := by
  obtain ⟨vs, vf, _, _, hf⟩ := h
  intro f hfm x hx
  obtain ⟨j, hj, rfl⟩ := List.mem_iff_getElem.1 hfm
  obtain ⟨A, c, _, hc⟩ := hf.at_
  obtain ⟨b, off, _, vp, vr, vl, vc, _, _, _, _, hfn⟩ := hc j hj
  have e : s.funcs.getD j default = s.funcs[j] := by simp [hj]
  rw [e] at hfn
  exact (hfn.c.i64 x hx).2
theorem insF_len (x : Ins) : (insF x).length ≤ 9 := by
  unfold insF argF
  split
  · simp
  · split
    · simp [numF_len]
    · simp
theorem textF_len (s : ByteArray) : (textF s).length = 2 + s.size := by
  unfold textF
  rw [List.length_append, bigF_len, Array.length_toList]
  rfl
theorem listF_len (xs : List Int) : (listF xs).length = 1 + xs.length := by simp [listF]; omega
structure FnSmall (f : Fn) : Prop where
  p : f.params.length ≤ 8
  r : f.results.length ≤ 8
  l : f.locals.length ≤ 16
  c : f.code.length ≤ 256
theorem fnF_len {f : Fn} (h : FnSmall f) : (fnF f).length ≤ 2341 := by
  have h1 := flatMap_len insF 9 f.code (fun x _ => insF_len x)
  have := h.p; have := h.r; have := h.l; have := h.c
  unfold fnF
  simp only [List.length_append, listF_len, bigF_len]
  omega
theorem right_small {s : Scr} (h : rightB s = true) : s.consts.length ≤ 32 ∧ s.funcs.length ≤ 16 ∧ (∀ c ∈ s.consts, c.size ≤ 256) ∧ ∀ f ∈ s.funcs, FnSmall f := by
  unfold rightB at h
  simp only [Bool.and_eq_true, decide_eq_true_eq, List.all_eq_true] at h
  obtain ⟨⟨⟨h1, h2⟩, h3⟩, h4⟩ := h
  refine ⟨by omega, by omega, fun c hc => by have := h3 c hc; omega, fun f hf => ?_⟩
  have h5 := h4 f hf
  unfold fnB typesB at h5
  simp only [Bool.and_eq_true, decide_eq_true_eq] at h5
  exact ⟨by omega, by omega, by omega, by omega⟩
theorem big2 (n : Nat) (h : n < 65536) : bigF n 2 = [lowB ((n : Int) / 256), lowB ((n : Int) % 256)] := by
  have e1 : ((n : Int) / 256).toNat = n / 256 := by omega
  have e2 : ((n : Int) % 256).toNat = n % 256 := by omega
  simp only [bigF, lowB, e1, e2, List.range, List.range.loop, List.map_cons, List.map_nil]
  congr 2
  · congr 1
    omega
  · congr 1
    congr 1
    omega
theorem and255 (n : Nat) (h : n < 65536) (h0 : (0 : Int) ≤ n) : bits .and .i64 (n : Int) 255 = (n : Int) % 256 := bits_mask .i64 16 (by decide) (fun n h0 h1 => by rw [IntKind.wrap_i64]; omega) 8 (by decide) (n : Int) h0 (by omega)
def PutPost (s : Scr) (w : World) (e : Ending) (w' : World) : Prop :=
  ((rightB s = true ∧ ∃ vb, e = .returned (.tuple #[vb, .int .i64 0]) ∧ Byts w' vb (putF s)) ∨ (rightB s = false ∧ e = .returned (.tuple #[.slice none 0 0, .int .i64 30]))) ∧ Below w.heap.size w w'
set_option maxRecDepth 100000 in
set_option maxHeartbeats 1000000 in
theorem put_any (v : Value) (s : Scr) (w : World) (hs : ScrVal w v s) : Calls Try.prog 33 #[v] w (PutPost s w) := by
  have hi := scr_i64 hs
  obtain ⟨v1, v2, rfl, h1, h2⟩ := hs
  have HS := Lib.hid (show ScrVal w (.agg #[v1, v2]) s from ⟨_, _, rfl, h1, h2⟩)
  obtain ⟨A1, k1, rfl, _⟩ := h1.open_
  obtain ⟨A2, k2, rfl, hc2⟩ := h2.open_
  have hl2 := h2.len
  have HC2 := Lib.hid hc2
  have HST := Lib.hid h1
  clear h1 h2 hc2
  obtain ⟨W1, hW⟩ : ∃ W1, w.alloc (.cells #[.slice A1 s.consts.length k1, .slice A2 s.funcs.length k2] 45) = W1 := ⟨_, rfl⟩
  obtain ⟨hb1, hq1⟩ := one_box hW
  have HRI := Lib.hid (codeRight_any _ s W1 (HS.out.ext hb1))
  have HQ1 := Lib.hid hq1
  obtain ⟨g0, g1⟩ := two_at (Below.refl _ _) hq1
  have HW := Lib.hid hW
  have HB1 := Lib.hid hb1
  clear hW hb1 hq1
  cases hR : rightB s
  case false =>
    have HR := Lib.hid hR
    rw [hR] at HRI
    clear hR hi hl2
    go_enter Try.func33, Try.ntmps33
    go_upto_region 1 with (fail)
    rw [HW.out]
    go_wp2_with (go_at_call 40; (with_reducible refine HRI.out.mono ?_); go_must (rintro e w2 ⟨rfl, hb⟩; have HB2 := Lib.hid hb; clear hb))
    go_ret2
    exact ⟨.inr ⟨HR.out, rfl⟩, HB1.out.trans (HB2.out.mono HB1.out.size)⟩
  case true =>
    have hfit := scr_fit hR hi
    obtain ⟨n1, n2, n3, n4⟩ := right_small hR
    have HR := Lib.hid hR
    have HFIT := Lib.hid hfit
    have HN3 := Lib.hid n3
    have HN4 := Lib.hid n4
    have hct := flatMap_len textF 258 s.consts (fun c hc => by rw [textF_len]; have := n3 c hc; omega)
    have HCT := Lib.hid hct
    have HPUT := Lib.hid (show putF s = lowB s.consts.length :: (s.consts.flatMap textF ++ (lowB s.funcs.length :: s.funcs.flatMap fnF)) from rfl)
    rw [hR] at HRI
    clear hR hi hfit n3 n4
    go_enter Try.func33, Try.ntmps33
    go_upto_region 1 with (fail)
    rw [HW.out]
    go_upto_region 4 with (first
      | (go_at_call 40; (with_reducible refine HRI.out.mono ?_); go_must (rintro e w2 ⟨rfl, hb⟩; have HB2 := Lib.hid hb; clear hb))
      | (go_at_call 88; (with_reducible refine (newWriter_any _).mono ?_); go_must (rintro e w3 ⟨rfl, rfl⟩)))
    clear g0 g1
    obtain ⟨B, hB⟩ : ∃ B, w2.heap.size = B := ⟨_, rfl⟩
    generalize hW4 : (w2.alloc (.cells #[.slice none 0 0, .bool true] 172)).alloc (.cells #[.pointer (some ⟨w2.heap.size, 0, none⟩)] 107) = W4
    have hb3 := below_new w2 (.cells #[.slice none 0 0, .bool true] 172)
    have hsz3 : (w2.alloc (.cells #[.slice none 0 0, .bool true] 172)).heap.size = w2.heap.size + 1 := by simp
    have hwat := WAt.new w2
    obtain ⟨hb4, hq4⟩ := one_box hW4
    have hwat4 := hwat.ext hb4
    have hb24 := hb3.trans (hb4.mono (by omega))
    have hs4 : W4.heap.size = w2.heap.size + 2 := by rw [← hW4]; simp
    rw [hsz3] at hq4
    rw [hB] at hwat4 hq4 hb24 hs4 ⊢
    have hsW1 : W1.heap.size ≤ B := by rw [← hB]; exact HB2.out.size
    have hw1 : w.heap.size < W1.heap.size := heap_lt HQ1.out
    have HQ := Lib.hid (show ∀ w', WStep B W4 w' → (w'.cell? ⟨w.heap.size, 0, none⟩ = some (.slice A1 s.consts.length k1) ∧ w'.cell? ⟨w.heap.size, 1, none⟩ = some (.slice A2 s.funcs.length k2)) ∧ w'.cell? ⟨B + 1, 0, none⟩ = some (.pointer (some ⟨B, 0, none⟩)) from fun w' h => by
      have hx := (hb24.trans (h.below (by omega)))
      have hy := (HB2.out.trans (hB ▸ hx |>.mono (by rw [hB]; exact hsW1)))
      refine ⟨two_at hy HQ1.out, ?_⟩
      rw [cell_of_row _ _ _ _ _ _ (h.row hq4 (by decide) (by decide))]
      rfl)
    have HBE := Lib.hid (show ∀ w', WStep B W4 w' → Below w.heap.size w w' from fun w' h => by
      have hx := (hb24.trans (h.below (by omega)))
      have hy := (HB2.out.trans (hB ▸ hx |>.mono (by rw [hB]; exact hsW1)))
      exact HB1.out.trans (hy.mono HB1.out.size))
    have HA := Lib.hid hwat4
    have HT := Lib.hid (WStep.refl B W4)
    clear hwat hwat4 hb3 hb4 hb24 hq4 hsz3 hW4 HRI hs4 hsW1 hw1
    obtain ⟨⟨g0, g1⟩, g2⟩ := HQ.out _ HT.out
    have HC := Lib.hid (byte1_any B B [] s.consts.length W4 _ HA.out rfl (by omega) (by omega) (by simp))
    go_upto_region 5 with (go_at_call 89; (with_reducible refine HC.out.mono ?_); go_must (rintro e w5 ⟨rfl, h2, h3⟩; have HA' := Lib.hid h2; have HT' := Lib.hid (HT.out.trans h3); clear h2 h3))
    clear HC HA HT g0 g1 g2
    have HA := Lib.hid HA'.out
    have HT := Lib.hid HT'.out
    clear HA' HT'
    obtain ⟨⟨g0, g1⟩, g2⟩ := HQ.out _ HT.out
    have HC := Lib.hid (text_any B B _ _ s.consts w5 HA.out (HST.out.ext (HBE.out _ HT.out)) (fun c hc => by have := HN3.out c hc; omega) (by omega) (by simp only [List.length_append, List.length_cons, List.length_nil]; omega))
    go_upto_region 6 with (go_at_call 90; (with_reducible refine HC.out.mono ?_); go_must (rintro e w5 ⟨rfl, h2, h3⟩; have HA' := Lib.hid h2; have HT' := Lib.hid (HT.out.trans h3); clear h2 h3))
    clear HC HA HT g0 g1 g2
    have HA := Lib.hid HA'.out
    have HT := Lib.hid HT'.out
    clear HA' HT'
    obtain ⟨⟨g0, g1⟩, g2⟩ := HQ.out _ HT.out
    have HC := Lib.hid (byte1_any B B _ s.funcs.length w5 _ HA.out rfl (by omega) (by omega) (by simp only [List.length_append, List.length_cons, List.length_nil]; omega))
    go_upto_region 7 with (go_at_call 89; (with_reducible refine HC.out.mono ?_); go_must (rintro e w5 ⟨rfl, h2, h3⟩; have HA' := Lib.hid h2; have HT' := Lib.hid (HT.out.trans h3); clear h2 h3))
    clear HC HA HT g0 g1 g2
    have HA := Lib.hid HA'.out
    have HT := Lib.hid HT'.out
    clear HA' HT'
    obtain ⟨⟨g0, g1⟩, g2⟩ := HQ.out _ HT.out
    have hP : ∃ P, ([] : List UInt8) ++ [lowB ↑s.consts.length] ++ s.consts.flatMap textF ++ [lowB ↑s.funcs.length] = P ∧ P.length ≤ 8300 := ⟨_, rfl, by simp only [List.length_append, List.length_cons, List.length_nil]; omega⟩
    obtain ⟨P, hP, hPl⟩ := hP
    rw [hP] at HA
    have HP := Lib.hid hP
    clear hP
    go_wp2
    go_loopw [36] (fun i wr => ∃ k : Nat, k ≤ s.funcs.length ∧ i = .int .i64 k ∧ WAt wr B B (P ++ (s.funcs.take k).flatMap fnF) ∧ WStep B W4 wr) (fun i _ => s.funcs.length - (intOf i).toNat)
    case atStart => exact ⟨0, Nat.zero_le _, rfl, by simpa using HA.out, HT.out⟩
    case round =>
      clear HA HT g0 g1 g2
      obtain ⟨k, hk, rfl, hwa, hst⟩ := hrel
      obtain ⟨⟨g0, g1⟩, g2⟩ := HQ.out _ hst
      have hlen := flatMap_len fnF 2341 (s.funcs.take k) (fun f hf => fnF_len (HN4.out f (List.mem_of_mem_take hf)))
      rw [List.length_take, Nat.min_eq_left hk] at hlen
      by_cases hlt : k < s.funcs.length
      · obtain ⟨fb, fo, rfl, hcell⟩ := HC2.out k hlt
        have hfs := HN4.out _ (getD_in (d := default) hlt)
        have hff := HFIT.out.f _ (getD_in (d := default) hlt)
        have hsn := flatMap_take fnF s.funcs k default hlt
        obtain ⟨Q, hQ⟩ : ∃ Q, P ++ (s.funcs.take k).flatMap fnF = Q := ⟨_, rfl⟩
        have hQl : Q.length ≤ 8300 + k * 2341 := by rw [← hQ, List.length_append]; omega
        have hsn2 : P ++ (s.funcs.take (k + 1)).flatMap fnF = Q ++ fnF (s.funcs.getD k default) := by rw [hsn, ← List.append_assoc, hQ]
        rw [hQ] at hwa
        generalize s.funcs.getD k default = f at *
        have HSN := Lib.hid hsn2
        clear hlen hsn hsn2 hQ
        obtain ⟨vp, vr, vl, vc, hp0, hp1, hp2, hp3, hfn⟩ := hcell
        have hbw := HBE.out _ hst
        have hp0 := cell_ext hp0 hbw
        have hp1 := cell_ext hp1 hbw
        have hp2 := cell_ext hp2 hbw
        have hp3 := cell_ext hp3 hbw
        obtain ⟨Ap, kp, rfl, _⟩ := hfn.p.at_
        obtain ⟨Ar, kr, rfl, _⟩ := hfn.r.at_
        obtain ⟨Al, kl, rfl, _⟩ := hfn.l.at_
        obtain ⟨Ac, kc, rfl, hcode⟩ := hfn.c.open_
        have HFN := Lib.hid (show ∀ w', WStep B W4 w' → FnAre w' (.slice Ap f.params.length kp) (.slice Ar f.results.length kr) (.slice Al f.locals.length kl) (.slice Ac f.code.length kc) f from fun w' h => hfn.ext (HBE.out w' h))
        have HCO := Lib.hid hcode
        have q1 := hfs.p
        have q2 := hfs.r
        have q3 := hfs.l
        have q4 := hfs.c
        have HFF := Lib.hid hff
        have HST := Lib.hid hst
        have HWA := Lib.hid hwa
        have hk0 : (0 : Int) ≤ k := by omega
        have hk1 : (k : Int) < (s.funcs.length : Int) := by omega
        clear hfn hcode hfs hff hst hwa hbw
        go_upto_region 10 with (fail)
        generalize hW5 : wr.alloc (.cells #[.slice Ap f.params.length kp, .slice Ar f.results.length kr, .slice Al f.locals.length kl, .slice Ac f.code.length kc] 53) = W5
        obtain ⟨hb5, hq5⟩ := one_box hW5
        have HF5 := Lib.hid (fun w' (h : WStep B W5 w') => four_at (Below.refl _ _) (h.row hq5 (by decide) (by decide)))
        have HT := Lib.hid (HST.out.trans (WStep.of_below hb5))
        have HA := Lib.hid (HWA.out.ext hb5)
        have HT5 := Lib.hid (WStep.refl B W5)
        clear hW5 hb5 hq5 hp0 hp1 hp2 hp3 g0 g1 g2
        obtain ⟨⟨g0, g1⟩, g2⟩ := HQ.out _ HT.out
        obtain ⟨f0, f1, f2, f3⟩ := HF5.out _ HT5.out
        have HC := Lib.hid (list_any B B Q _ f.params W5 HA.out (fun w' h => (HFN.out w' (HT.out.trans (HT5.out.trans h))).p) HFF.out.p HFF.out.pl (by (try simp only [List.length_append, listF_len]); omega))
        go_upto_region 11 with (go_at_call 91; (with_reducible refine HC.out.mono ?_); go_must (rintro e w5 ⟨rfl, h2, h3⟩; have HA' := Lib.hid h2; have HT' := Lib.hid (HT5.out.trans h3); clear h2 h3))
        clear HC HA HT5 g0 g1 g2 f0 f1 f2 f3
        have HA := Lib.hid HA'.out
        have HT5 := Lib.hid HT'.out
        clear HA' HT'
        obtain ⟨⟨g0, g1⟩, g2⟩ := HQ.out _ (HT.out.trans HT5.out)
        obtain ⟨f0, f1, f2, f3⟩ := HF5.out _ HT5.out
        have HC := Lib.hid (list_any B B _ _ f.results w5 HA.out (fun w' h => (HFN.out w' (HT.out.trans (HT5.out.trans h))).r) HFF.out.r HFF.out.rl (by (try simp only [List.length_append, listF_len]); omega))
        go_upto_region 12 with (go_at_call 91; (with_reducible refine HC.out.mono ?_); go_must (rintro e w5 ⟨rfl, h2, h3⟩; have HA' := Lib.hid h2; have HT' := Lib.hid (HT5.out.trans h3); clear h2 h3))
        clear HC HA HT5 g0 g1 g2 f0 f1 f2 f3
        have HA := Lib.hid HA'.out
        have HT5 := Lib.hid HT'.out
        clear HA' HT'
        obtain ⟨⟨g0, g1⟩, g2⟩ := HQ.out _ (HT.out.trans HT5.out)
        obtain ⟨f0, f1, f2, f3⟩ := HF5.out _ HT5.out
        have HC := Lib.hid (list_any B B _ _ f.locals w5 HA.out (fun w' h => (HFN.out w' (HT.out.trans (HT5.out.trans h))).l) HFF.out.l HFF.out.ll (by (try simp only [List.length_append, listF_len]); omega))
        go_upto_region 13 with (go_at_call 91; (with_reducible refine HC.out.mono ?_); go_must (rintro e w5 ⟨rfl, h2, h3⟩; have HA' := Lib.hid h2; have HT' := Lib.hid (HT5.out.trans h3); clear h2 h3))
        clear HC HA HT5 g0 g1 g2 f0 f1 f2 f3
        have HA := Lib.hid HA'.out
        have HT5 := Lib.hid HT'.out
        clear HA' HT'
        obtain ⟨⟨g0, g1⟩, g2⟩ := HQ.out _ (HT.out.trans HT5.out)
        obtain ⟨f0, f1, f2, f3⟩ := HF5.out _ HT5.out
        have h255 := and255 f.code.length (by omega) (by omega)
        have HC := Lib.hid (byte2_any B B _ ((f.code.length : Int) / 256) ((f.code.length : Int) % 256) w5 _ HA.out rfl (by omega) (by omega) (by omega) (by omega) (by (try simp only [List.length_append, listF_len]); omega))
        go_upto_region 14 with (go_at_call 89; (with_reducible refine HC.out.mono ?_); go_must (rintro e w5 ⟨rfl, h2, h3⟩; have HA' := Lib.hid h2; have HT' := Lib.hid (HT5.out.trans h3); clear h2 h3))
        clear HC HA HT5 g0 g1 g2 f0 f1 f2 f3
        have HA := Lib.hid HA'.out
        have HT5 := Lib.hid HT'.out
        clear HA' HT'
        obtain ⟨⟨g0, g1⟩, g2⟩ := HQ.out _ (HT.out.trans HT5.out)
        obtain ⟨f0, f1, f2, f3⟩ := HF5.out _ HT5.out
        clear h255
        have hQ2 : ∃ Q2, Q ++ listF f.params ++ listF f.results ++ listF f.locals ++ [lowB ((f.code.length : Int) / 256), lowB ((f.code.length : Int) % 256)] = Q2 ∧ Q2.length ≤ Q.length + 40 := ⟨_, rfl, by simp only [List.length_append, List.length_cons, List.length_nil, listF_len]; omega⟩
        obtain ⟨Q2, hQ2, hQ2l⟩ := hQ2
        rw [hQ2] at HA
        have HQ2 := Lib.hid hQ2
        clear hQ2
        go_wp2
        go_loopw [67] (fun i wq => ∃ j : Nat, j ≤ f.code.length ∧ i = .int .i64 j ∧ WAt wq B B (Q2 ++ (f.code.take j).flatMap insF) ∧ WStep B W5 wq) (fun i _ => f.code.length - (intOf i).toNat)
        case atStart => exact ⟨0, Nat.zero_le _, rfl, by simpa using HA.out, HT5.out⟩
        case round =>
          clear HA HT5 g0 g1 g2 f0 f1 f2 f3
          obtain ⟨j, hj, rfl, hwa, hst⟩ := hrel
          obtain ⟨⟨g0, g1⟩, g2⟩ := HQ.out _ (HT.out.trans hst)
          obtain ⟨f0, f1, f2, f3⟩ := HF5.out _ hst
          have hlen2 := flatMap_len insF 9 (f.code.take j) (fun x _ => insF_len x)
          rw [List.length_take, Nat.min_eq_left hj] at hlen2
          by_cases hlt2 : j < f.code.length
          · obtain ⟨ib, io, rfl, i1, i2⟩ := HCO.out j hlt2
            have hbw := HBE.out _ (HT.out.trans hst)
            have i1 := cell_ext i1 hbw
            have i2 := cell_ext i2 hbw
            have hxf := HFF.out.c _ (getD_in (d := ((0, 0) : Ins)) hlt2)
            have hsn := flatMap_take insF f.code j (0, 0) hlt2
            obtain ⟨R, hR⟩ : ∃ R, Q2 ++ (f.code.take j).flatMap insF = R := ⟨_, rfl⟩
            have hRl : R.length ≤ Q2.length + j * 9 := by rw [← hR, List.length_append]; omega
            have hsn2 : Q2 ++ (f.code.take (j + 1)).flatMap insF = R ++ insF (f.code.getD j (0, 0)) := by rw [hsn, ← List.append_assoc, hR]
            rw [hR] at hwa
            generalize f.code.getD j (0, 0) = x at *
            obtain ⟨o, a⟩ := x
            simp only at i1 i2
            obtain ⟨x1, x2, x3, x4⟩ := hxf
            simp only at x1 x2 x3 x4
            have HSN2 := Lib.hid hsn2
            have HX2 := Lib.hid x2
            have HX4 := Lib.hid x4
            have HWA := Lib.hid hwa
            have HST5 := Lib.hid hst
            have hj0 : (0 : Int) ≤ j := by omega
            have hj1 : (j : Int) < (f.code.length : Int) := by omega
            clear hlen2 hsn hsn2 hR hwa hst hbw x2 x3 x4
            go_upto_region 17 with (fail)
            generalize hW7 : wr.alloc (.cells #[.int .i64 o, .int .i64 a] 35) = W7
            obtain ⟨hb7, hq7⟩ := one_box hW7
            have HF7 := Lib.hid (fun w' (h : WStep B W7 w') => two_at (Below.refl _ _) (h.row hq7 (by decide) (by decide)))
            have HT57 := Lib.hid (HST5.out.trans (WStep.of_below hb7))
            have HA := Lib.hid (HWA.out.ext hb7)
            have HT7 := Lib.hid (WStep.refl B W7)
            clear hW7 hb7 hq7 i1 i2 g0 g1 g2 f0 f1 f2 f3
            obtain ⟨⟨g0, g1⟩, g2⟩ := HQ.out _ (HT.out.trans HT57.out)
            obtain ⟨f0, f1, f2, f3⟩ := HF5.out _ HT57.out
            obtain ⟨e0, e1⟩ := HF7.out _ HT7.out
            have HC := Lib.hid (byte1_any B B R o W7 _ HA.out rfl x1.1 x1.2 (by omega))
            go_upto_region 18 with (go_at_call 89; (with_reducible refine HC.out.mono ?_); go_must (rintro e w5 ⟨rfl, h2, h3⟩; have HA' := Lib.hid h2; have HT' := Lib.hid (HT7.out.trans h3); clear h2 h3))
            clear HC HA HT7 g0 g1 g2 f0 f1 f2 f3 e0 e1
            have HA := Lib.hid HA'.out
            have HT7 := Lib.hid HT'.out
            clear HA' HT'
            obtain ⟨⟨g0, g1⟩, g2⟩ := HQ.out _ (HT.out.trans (HT57.out.trans HT7.out))
            obtain ⟨f0, f1, f2, f3⟩ := HF5.out _ (HT57.out.trans HT7.out)
            obtain ⟨e0, e1⟩ := HF7.out _ HT7.out
            have HTK := Lib.hid (takes_any o w5 (by omega) (by omega))
            go_upto_region 20 with (go_at_call 92; (with_reducible refine HTK.out.mono ?_); go_must (rintro e w6 ⟨rfl, hb⟩; have HA' := Lib.hid (HA.out.ext hb); have HT' := Lib.hid (HT7.out.trans (WStep.of_below hb)); clear hb))
            clear HTK HA HT7 g0 g1 g2 f0 f1 f2 f3 e0 e1
            have HA := Lib.hid HA'.out
            have HT7 := Lib.hid HT'.out
            clear HA' HT'
            obtain ⟨⟨g0, g1⟩, g2⟩ := HQ.out _ (HT.out.trans (HT57.out.trans HT7.out))
            obtain ⟨f0, f1, f2, f3⟩ := HF5.out _ (HT57.out.trans HT7.out)
            obtain ⟨e0, e1⟩ := HF7.out _ HT7.out
            obtain ⟨T, hT⟩ : ∃ T, takesF o = T := ⟨_, rfl⟩
            have HTE := Lib.hid hT
            have hT' : (rowAt o).2.1 = T := hT
            rw [hT']
            clear hT hT'
            by_cases t0 : T = 0
            · subst t0
              have HE := Lib.hid (show R ++ insF (o, a) = R ++ [lowB o] from by unfold insF argF; rw [if_pos HTE.out])
              go_wp2
              go_roundw
              case rel =>
                refine ⟨j + 1, by omega, by go_num, ?_, HT57.out.trans HT7.out⟩
                rw [HSN2.out, HE.out]
                exact HA.out
              case measure => simp [intOf]; omega
            · by_cases t1 : T = 1
              · subst t1
                have HE := Lib.hid (show R ++ insF (o, a) = R ++ [lowB o] ++ numF a from by unfold insF argF; rw [if_neg (by rw [HTE.out]; decide), if_pos HTE.out]; simp)
                have HC := Lib.hid (int1_any B B (R ++ [lowB o]) a w6 _ HA.out rfl HX2.out (by simp only [List.length_append, List.length_cons, List.length_nil]; omega))
                go_wp2_with (go_at_call 93; (with_reducible refine HC.out.mono ?_); go_must (rintro e w7 ⟨rfl, h2, h3⟩; have HA' := Lib.hid h2; have HT' := Lib.hid (HT7.out.trans h3); clear h2 h3))
                go_roundw
                case rel =>
                  refine ⟨j + 1, by omega, by go_num, ?_, HT57.out.trans HT'.out⟩
                  rw [HSN2.out, HE.out]
                  exact HA'.out
                case measure => simp [intOf]; omega
              · have hx4 := HX4.out (by rw [HTE.out]; exact t1)
                have HE := Lib.hid (show R ++ insF (o, a) = R ++ [lowB o] ++ [lowB a] from by unfold insF argF; rw [if_neg (by rw [HTE.out]; exact t0), if_neg (by rw [HTE.out]; exact t1)]; simp)
                have HC := Lib.hid (byte1_any B B (R ++ [lowB o]) a w6 _ HA.out rfl hx4.1 hx4.2 (by simp only [List.length_append, List.length_cons, List.length_nil]; omega))
                go_wp2_with (go_at_call 89; (with_reducible refine HC.out.mono ?_); go_must (rintro e w7 ⟨rfl, h2, h3⟩; have HA' := Lib.hid h2; have HT' := Lib.hid (HT7.out.trans h3); clear h2 h3))
                go_roundw
                case rel =>
                  refine ⟨j + 1, by omega, by go_num, ?_, HT57.out.trans HT'.out⟩
                  rw [HSN2.out, HE.out]
                  exact HA'.out
                case measure => simp [intOf]; omega
          · have e : j = f.code.length := by omega
            subst e
            rw [List.take_length] at hwa
            have HWA := Lib.hid hwa
            have HST5 := Lib.hid hst
            clear hwa hst hlen2
            go_wp2
            go_roundw
            case rel =>
              refine ⟨k + 1, by omega, by go_num, ?_, HT.out.trans HST5.out⟩
              rw [HSN.out]
              have h := HWA.out
              rw [← HQ2.out] at h
              unfold fnF
              rw [big2 _ (by omega)]
              simpa using h
            case measure => simp [intOf]; omega
      · have e : k = s.funcs.length := by omega
        subst e
        rw [List.take_length] at hwa hlen
        have HBY := Lib.hid (bytes_any B B _ wr hwa (by rw [List.length_append]; omega))
        have HST := Lib.hid hst
        clear hwa hst hlen
        go_wp2_with (go_at_call 94; (with_reducible refine HBY.out.mono ?_); go_must (rintro e w9 ⟨⟨vb, rfl, hby⟩, hb⟩))
        go_ret2
        refine ⟨.inl ⟨HR.out, _, rfl, ?_⟩, (HBE.out _ HST.out).trans (hb.mono (HBE.out _ HST.out).size)⟩
        rw [HPUT.out]
        rw [← HP.out] at hby
        simpa using hby
end Go.Proofs.Ytchmgilckiadaaa
