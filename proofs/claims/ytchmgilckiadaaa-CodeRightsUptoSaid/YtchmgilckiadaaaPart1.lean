/- bound.Part's small closures; slices.ContainsFunc over instructions and numbers. -/
import Derived.Test.YtchmgilckiadaaaIdx
import Derived.Test.YtchmgilckiadaaaSum
namespace Go.Proofs.Ytchmgilckiadaaa
open Go.RowKit
theorem containsFunc_ins (f : Nat) (cap : Array Value) (p : Ins → Bool) (v : Value) (c : List Ins) (w : World) (h : Code_ w v c) (hf : Asks f cap w encI okI p) :
    Calls Try.prog 76 #[v, .func (.func f) #[] cap] w fun e w' => e = .returned (.bool (c.any p)) ∧ Below w.heap.size w w' := by
  have H := Lib.hid (indexFunc_ins f cap p v c w h hf)
  have hn := firstAt_nn p c
  generalize hq : firstAt p c = q at hn H
  go_enter Try.func76, Try.ntmps76
  have HN := Lib.hid hn
  clear hn h hf hq
  go_wp2_with (go_at_call 139; refine H.out.mono ?_; rintro e w' ⟨rfl, hb⟩)
  go_ret
  exact ⟨ret_bool HN.out, hb⟩
theorem containsFunc_ints (f : Nat) (cap : Array Value) (p : Int → Bool) (v : Value) (c : List Int) (w : World) (h : Ints w v c) (hf : Asks f cap w (.int .i64) I64 p) :
    Calls Try.prog 77 #[v, .func (.func f) #[] cap] w fun e w' => e = .returned (.bool (c.any p)) ∧ Below w.heap.size w w' := by
  have H := Lib.hid (indexFunc_ints f cap p v c w h hf)
  have hn := firstAt_nn p c
  generalize hq : firstAt p c = q at hn H
  go_enter Try.func77, Try.ntmps77
  have HN := Lib.hid hn
  clear hn h hf hq
  go_wp2_with (go_at_call 140; refine H.out.mono ?_; rintro e w' ⟨rfl, hb⟩)
  go_ret
  exact ⟨ret_bool HN.out, hb⟩

/-- A call, or a loop, that may not be. -/
def badI (n : Nat) (x : Ins) : Bool := (x.1 == 53) && (decide (x.2 < 0) || decide ((n : Int) ≤ x.2)) || (x.1 == 51) && decide (x.2 < 0)
set_option maxHeartbeats 1000000 in
theorem part1_any (pk : Addr) (A : Option Addr) (n cap : Nat) (x : Ins) (w : World) (hx : okI x) (hk : w.cell? pk = some (.slice A n cap)) :
    Calls Try.prog 75 (#[encI x] ++ #[.pointer (some pk)]) w fun e w' => e = .returned (.bool (badI n x)) ∧ Below w.heap.size w w' := by
  obtain ⟨o, a⟩ := x
  obtain ⟨⟨o0, o1⟩, ⟨a0, a1⟩⟩ := hx
  have hpk := World.block_lt_of_cell? w pk hk
  obtain ⟨bk, ok, sk⟩ := pk
  have hsp : sk = none := by
    cases sk with
    | none => rfl
    | some s => exfalso; unfold World.cell? at hk; split at hk <;> simp at hk
  subst hsp
  simp only [encI]
  show Calls Try.prog 75 #[.agg #[.int .i64 o, .int .i64 a], .pointer (some ⟨bk, ok, none⟩)] w _
  have hal := (Below.refl w.heap.size w).alloc (Nat.le_refl _) (.cells #[.int .i64 o, .int .i64 a] 35)
  by_cases h1 : o = 53
  · subst h1
    by_cases h2 : a < 0
    · have hr : badI n (53, a) = true := by simp [badI, h2]
      have HR := Lib.hid hr
      clear hr
      go_enter Try.func75, Try.ntmps75
      go_wp2
      go_ret
      exact ⟨ret_bool HR.out.symm, hal⟩
    · by_cases h3 : (n : Int) ≤ a
      · have hr : badI n (53, a) = true := by simp [badI, h3]
        have HR := Lib.hid hr
        clear hr
        go_enter Try.func75, Try.ntmps75
        go_wp2
        go_ret
        exact ⟨ret_bool HR.out.symm, hal⟩
      · have hr : badI n (53, a) = false := by simp [badI, h2, h3]
        have HR := Lib.hid hr
        clear hr
        go_enter Try.func75, Try.ntmps75
        go_wp2
        go_ret
        exact ⟨ret_bool HR.out.symm, hal⟩
  · have hb1 : (o == 53) = false := by simpa using h1
    by_cases h4 : o = 51
    · subst h4
      by_cases h2 : a < 0
      · have hr : badI n (51, a) = true := by simp [badI, h2]
        have HR := Lib.hid hr
        clear hr
        go_enter Try.func75, Try.ntmps75
        go_wp2
        go_ret
        exact ⟨ret_bool HR.out.symm, hal⟩
      · have hr : badI n (51, a) = false := by simp [badI, h2]
        have HR := Lib.hid hr
        clear hr
        go_enter Try.func75, Try.ntmps75
        go_wp2
        go_ret
        exact ⟨ret_bool HR.out.symm, hal⟩
    · have hr : badI n (o, a) = false := by simp [badI, h1, h4]
      have HR := Lib.hid hr
      have hb4 : (o == 51) = false := by simpa using h4
      clear hr
      go_enter Try.func75, Try.ntmps75
      go_wp2
      go_ret
      exact ⟨ret_bool HR.out.symm, hal⟩
theorem part2_any (x : Int) (w : World) : Calls Try.prog 78 (#[.int .i64 x] ++ #[]) w fun e w' => e = .returned (.bool (decide (x < 0))) ∧ Below w.heap.size w w' := by
  show Calls Try.prog 78 #[.int .i64 x] w _
  go_enter Try.func78, Try.ntmps78
  go_wp2
  go_ret
  exact ⟨rfl, Below.refl _ _⟩
end Go.Proofs.Ytchmgilckiadaaa
