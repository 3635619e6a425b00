/- ref06.closes, last, opened: what they answer. -/
import Derived.Test.YtchmgilckiadaaaRefm
namespace Go.Proofs.Ytchmgilckiadaaa
open Go.RowKit
theorem clo_cons {f : Bool} {c : List Ins} {p : Nat} (h : p < c.length) (d o : Int) : cloF f (c.drop p) p d o =
    if opAt c p = 48 ∨ opAt c p = 51 then cloF f (c.drop (p + 1)) (p + 1) (d + 1) o
    else if opAt c p = 49 then (if d = 0 ∧ (0 ≤ o ∨ f = false) then (-1, -1) else if d = 0 then cloF f (c.drop (p + 1)) (p + 1) d (p : Int) else cloF f (c.drop (p + 1)) (p + 1) d o)
    else if opAt c p = 50 then (if d = 0 then (o, (p : Int)) else cloF f (c.drop (p + 1)) (p + 1) (d - 1) o)
    else cloF f (c.drop (p + 1)) (p + 1) d o := by
  have e : c.drop p = c[p] :: c.drop (p + 1) := List.drop_eq_getElem_cons h
  have e2 : (c[p]).1 = opAt c p := by simp [opAt, h]
  rw [e, cloF, e2]
set_option maxRecDepth 100000 in
set_option maxHeartbeats 1000000 in
theorem clo_any (vc : Value) (c : List Ins) (i : Nat) (w : World) (hc : Code_ w vc c) (hi : i < c.length) (hl : c.length ≤ 600) :
    Calls Try.prog 141 #[vc, .int .i64 i] w fun e w' => e = .returned (.tuple #[.int .i64 (cloAt c i).1, .int .i64 (cloAt c i).2]) ∧ w = w' := by
  have hi64 := hc.i64
  obtain ⟨A, k, rfl, hr⟩ := hc.open_
  clear hc
  have HR := Lib.hid hr
  have HI := Lib.hid hi64
  obtain ⟨b0, off, rfl, hi1, _⟩ := hr i hi
  clear hr hi64
  obtain ⟨R, hR⟩ : ∃ R, cloAt c i = R := ⟨_, rfl⟩
  have hop0 : (c.getD i (0, 0)).1 = opAt c i := rfl
  rw [hop0] at hi1
  have hR2 := hR
  unfold cloAt at hR2
  rw [hR]
  clear hop0 hR
  have HR2 := Lib.hid hR2
  clear hR2
  obtain ⟨F, hF⟩ : ∃ F, decide (opAt c i = 48) = F := ⟨_, rfl⟩
  have HF := Lib.hid hF
  clear hF
  go_enter Try.func141, Try.ntmps141
  go_wp2
  go_loop [6, 7, 8] (fun d o j => ∃ (p : Nat) (dd oo : Int), p ≤ c.length ∧ i < p ∧ j = .int .i64 p ∧ d = .int .i64 dd ∧ o = .int .i64 oo ∧ 0 ≤ dd ∧ dd ≤ p ∧ -1 ≤ oo ∧ oo ≤ p ∧ cloF (decide (opAt c i = 48)) (c.drop p) p dd oo = R) (fun _ _ j => c.length - (intOf j).toNat)
  case atStart => exact ⟨i + 1, 0, -1, by omega, by omega, by go_num, rfl, rfl, by omega, by omega, by omega, by omega, HR2.out⟩
  case round =>
    obtain ⟨p, dd, oo, hp, hip, rfl, rfl, rfl, hd0, hd1, ho0, ho1, hRR⟩ := hrel
    by_cases hlt : p < c.length
    · obtain ⟨b1, off1, e1, hp1, _⟩ := HR.out p hlt
      injection e1 with e1
      injection e1 with e1 e2 _
      subst e1
      subst e2
      rw [clo_cons hlt] at hRR
      have hop1 : (c.getD p (0, 0)).1 = opAt c p := rfl
      rw [hop1] at hp1
      obtain ⟨hb1, hb2⟩ := (code_i64 HI.out p).1
      rw [hop1] at hb1 hb2
      generalize opAt c p = o at *
      generalize opAt c i = oi at *
      clear hop1
      by_cases c1 : o = 48 ∨ o = 51
      · rw [if_pos c1] at hRR
        have HRR := Lib.hid hRR
        clear hRR
        rcases c1 with rfl | rfl
        all_goals
          go_wp2
          go_round
          case rel => exact ⟨p + 1, dd + 1, oo, by omega, by omega, by go_num, by go_num, rfl, by omega, by omega, by omega, by omega, HRR.out⟩
          case measure => simp [intOf]; omega
      · rw [if_neg c1] at hRR
        have c11 : ¬ o = 48 := fun e => c1 (.inl e)
        have c12 : ¬ o = 51 := fun e => c1 (.inr e)
        by_cases c2 : o = 49
        · rw [if_pos c2] at hRR
          subst c2
          by_cases c3 : dd = 0
          · subst c3
            by_cases c4 : 0 ≤ oo
            · rw [if_pos ⟨rfl, .inl c4⟩] at hRR
              have HRR := Lib.hid hRR
              clear hRR
              go_wp2
              go_ret2
              rw [← HRR.out]
              exact ⟨rfl, rfl⟩
            · by_cases c5 : oi = 48
              · subst c5
                rw [if_neg (fun h => by rcases h.2 with h | h; exact c4 h; simp at h), if_pos rfl] at hRR
                have HRR := Lib.hid hRR
                clear hRR
                go_wp2
                go_round
                case rel => exact ⟨p + 1, 0, p, by omega, by omega, by go_num, rfl, rfl, by omega, by omega, by omega, by omega, HRR.out⟩
                case measure => simp [intOf]; omega
              · rw [if_pos ⟨rfl, .inr (by simpa using c5)⟩] at hRR
                have HRR := Lib.hid hRR
                clear hRR
                go_wp2
                go_ret2
                rw [← HRR.out]
                exact ⟨rfl, rfl⟩
          · rw [if_neg (fun h => c3 h.1), if_neg c3] at hRR
            have HRR := Lib.hid hRR
            clear hRR
            go_wp2
            go_round
            case rel => exact ⟨p + 1, dd, oo, by omega, by omega, by go_num, rfl, rfl, by omega, by omega, by omega, by omega, HRR.out⟩
            case measure => simp [intOf]; omega
        · rw [if_neg c2] at hRR
          by_cases c3 : o = 50
          · rw [if_pos c3] at hRR
            subst c3
            by_cases c4 : dd = 0
            · subst c4
              rw [if_pos rfl] at hRR
              have HRR := Lib.hid hRR
              clear hRR
              go_wp2
              go_ret2
              rw [← HRR.out]
              exact ⟨rfl, rfl⟩
            · rw [if_neg c4] at hRR
              have HRR := Lib.hid hRR
              clear hRR
              go_wp2
              go_round
              case rel => exact ⟨p + 1, dd - 1, oo, by omega, by omega, by go_num, by go_num, rfl, by omega, by omega, by omega, by omega, HRR.out⟩
              case measure => simp [intOf]; omega
          · rw [if_neg c3] at hRR
            have HRR := Lib.hid hRR
            clear hRR
            go_wp2
            go_round
            case rel => exact ⟨p + 1, dd, oo, by omega, by omega, by go_num, rfl, rfl, by omega, by omega, by omega, by omega, HRR.out⟩
            case measure => simp [intOf]; omega
    · have hpl : c.drop p = [] := List.drop_eq_nil_of_le (by omega)
      rw [hpl, cloF] at hRR
      have HRR := Lib.hid hRR
      clear hRR
      go_wp2
      go_ret2
      rw [← HRR.out]
      exact ⟨rfl, rfl⟩
end Go.Proofs.Ytchmgilckiadaaa
