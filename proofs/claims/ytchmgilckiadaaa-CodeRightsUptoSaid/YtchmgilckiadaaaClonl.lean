/- Copies into memory of their own: append([]T{}, l...). -/
import Derived.Test.YtchmgilckiadaaaSlotr
import Derived.Test.YtchmgilckiadaaaOwn
import Derived.ArgAppend
namespace Go.Proofs.Ytchmgilckiadaaa
open Go.RowKit
theorem ints_keep {w w' : World} {v : Value} {xs : List Int} (h : Ints w v xs) (hb : 0 < xs.length → ∀ b, v.ownBlock = some b → w'.heap[b]? = w.heap[b]?) : Ints w' v xs := by
  obtain ⟨A, c, rfl, hc⟩ := h.at_
  refine ⟨⟨A, c, rfl, fun h0 => ?_⟩, h.len, h.i64⟩
  obtain ⟨b, off, rfl, hd⟩ := hc h0
  refine ⟨b, off, rfl, fun j hj => ?_⟩
  rw [World.cell?_of_block (hb h0 b rfl)]
  exact hd j hj
theorem code_keep {w w' : World} {v : Value} {c : List Ins} (h : Code_ w v c) (hb : 0 < c.length → ∀ b, v.ownBlock = some b → w'.heap[b]? = w.heap[b]?) : Code_ w' v c := by
  obtain ⟨A, k, rfl, hc⟩ := h.at_
  refine ⟨⟨A, k, rfl, fun h0 => ?_⟩, h.len, h.i64⟩
  obtain ⟨b, off, rfl, hd⟩ := hc h0
  refine ⟨b, off, rfl, fun j hj => ?_⟩
  rw [World.cell?_of_block (hb h0 b rfl)]
  exact hd j hj
/-- append([]T{}, l...), in whatever world: nothing that was there is turned. -/
theorem run_append_empty {P : Program} (u : World) (t ty e : TypeId) (z : Value) (size bytes : Nat) (ht : P.underlying t = some (.slice e)) (hinfo : (P.info? e).map (fun i => (i.zero, i.size, i.bytes)) = some (some z, size, bytes)) (hzs : z.cells.size = size) (hsz : 0 < size)
    (a : Addr) (src : Value) (m : Nat) (f : Nat → Value) (hsrc : CellsAt u src m size f) (h1 : ∀ j, (f j).oneCell' = true) (h63 : m ≤ maxLen) (hbytes : m * bytes ≤ 140737488355328) :
    ∃ v' w', (Builtin.append_ #[t, t] ty #[.slice (some a) 0 0, src]).run P u = .ok v' w' ∧ Below u.heap.size u w' ∧ ((m = 0 ∧ v' = .slice (some a) 0 0) ∨ (0 < m ∧ w'.ownsRow u.heap.size e size v' m ((List.range (m * size)).map f))) := by
  obtain ⟨i, hi, hz, hs, hb⟩ := info_parts hinfo
  obtain ⟨A, c, rfl, hc⟩ := hsrc
  by_cases h0 : m = 0
  · subst h0
    refine ⟨_, u, run_append_nothing (P := P) u t t ty e i ht hi (some a) 0 0 (Nat.le_refl _) _ ?_, Below.refl _ _, .inl ⟨rfl, rfl⟩⟩
    cases A with
    | none => exact Src.ofNil u ht c
    | some ad => exact Src.ofSlice u ht ad 0 c [] (by simp) (by simp) (by simp)
  · obtain ⟨b, off, rfl, hd⟩ := hc (by omega)
    obtain ⟨v', w', hr, h2, h3⟩ := run_append_arg_grows (P := P) u t ty e i z size bytes ht hi hz hs hb hzs hsz a 0 0 [] (by simp) (by simp) ⟨b, off, none⟩ m c ((List.range (m * size)).map f) (by simp) (fun j x hj => by
      obtain ⟨hj1, hj2⟩ := List.getElem?_eq_some_iff.1 hj
      simp at hj1 hj2
      rw [Addr.add_lit, hd j hj1, hj2]) (by omega) (by omega) (by rw [Nat.zero_add]; exact hbytes)
    rw [Nat.zero_add, List.nil_append] at h2
    exact ⟨v', w', hr, ⟨h3.os, h3.tape, h3.output, h3.size, fun q hq => h3.block q hq (fun h => by cases h)⟩, .inr ⟨by omega, h2⟩⟩
/-- A slice of one's own, made behind a world. -/
def Behind (n0 : Nat) (u : World) (v : Value) (n : Nat) : Prop := 0 < n → ∀ b, v.ownBlock = some b → n0 ≤ b ∧ b < u.heap.size
theorem ints_copy {u : World} {a : Addr} {src : Value} {xs : List Int} (h : Ints u src xs) (hl : xs.length * 8 ≤ 140737488355328) :
    ∃ v' w', (Builtin.append_ #[23, 23] 23 #[.slice (some a) 0 0, src]).run Try.prog u = .ok v' w' ∧ (Below u.heap.size u w' ∧ Ints w' v' xs ∧ Behind u.heap.size w' v' xs.length) := by
  obtain ⟨v', w', h1, h2, h3⟩ := run_append_empty (P := Try.prog) u 23 23 3 _ 1 8 Try.underlying23 info_int rfl (by decide) a src xs.length _ h.at_ (fun j => rfl) (by unfold maxLen; omega) hl
  refine ⟨v', w', h1, h2, ?_⟩
  rcases h3 with ⟨h0, rfl⟩ | ⟨h0, h3⟩
  · rw [List.length_eq_zero_iff.1 h0]
    exact ⟨⟨⟨_, _, rfl, fun h => by simp at h⟩, by simp, by simp⟩, fun h => by simp at h⟩
  · rcases h3.2 with ⟨_, h4⟩ | ⟨q, cap, cur, rfl, hq, hh, _, _, _, htake⟩
    · omega
    · refine ⟨⟨⟨_, _, rfl, fun _ => ⟨_, _, rfl, fun j hj => ?_⟩⟩, h.len, h.i64⟩, fun _ b hb => ?_⟩
      · rw [Nat.zero_add, h3.cellAt j (by omega)]
        have hj' : j < xs.length := by omega
        simp [hj']
      · simp only [Value.ownBlock, Option.some.injEq] at hb
        subst hb
        exact ⟨hq, heap_lt hh⟩
theorem code_copy {u : World} {a : Addr} {src : Value} {c : List Ins} (h : Code_ u src c) (hl : c.length * 16 ≤ 140737488355328) :
    ∃ v' w', (Builtin.append_ #[22, 22] 22 #[.slice (some a) 0 0, src]).run Try.prog u = .ok v' w' ∧ (Below u.heap.size u w' ∧ Code_ w' v' c ∧ Behind u.heap.size w' v' c.length) := by
  obtain ⟨v', w', h1, h2, h3⟩ := run_append_empty (P := Try.prog) u 22 22 35 _ 2 16 Try.underlying22 info_ins rfl (by decide) a src c.length (insAt c) h.at_ (fun j => rfl) (by unfold maxLen; omega) hl
  refine ⟨v', w', h1, h2, ?_⟩
  rcases h3 with ⟨h0, rfl⟩ | ⟨h0, h3⟩
  · rw [List.length_eq_zero_iff.1 h0]
    exact ⟨⟨⟨_, _, rfl, fun h => by simp at h⟩, by simp, by simp⟩, fun h => by simp at h⟩
  · rw [← insCells_range] at h3
    refine ⟨code_own h3 h.len h.i64 rfl, fun _ b hb => ?_⟩
    rcases h3.2 with ⟨_, h4⟩ | ⟨q, cap, cur, rfl, hq, hh, _, _, _, htake⟩
    · omega
    · simp only [Value.ownBlock, Option.some.injEq] at hb
      subst hb
      exact ⟨hq, heap_lt hh⟩
theorem info_str : (Try.prog.info? 9).map (fun i => (i.zero, i.size, i.bytes)) = some (some (.string default), 1, 16) := by kernel_rfl
theorem strs_keep {w w' : World} {v : Value} {l : List ByteArray} (h : Strs w v l) (hb : 0 < l.length → ∀ b, v.ownBlock = some b → w'.heap[b]? = w.heap[b]?) : Strs w' v l := by
  obtain ⟨A, c, rfl, hc⟩ := h.at_
  refine ⟨⟨A, c, rfl, fun h0 => ?_⟩, h.len⟩
  obtain ⟨b, off, rfl, hd⟩ := hc h0
  refine ⟨b, off, rfl, fun j hj => ?_⟩
  rw [World.cell?_of_block (hb h0 b rfl)]
  exact hd j hj
theorem strs_copy {u : World} {a : Addr} {src : Value} {l : List ByteArray} (h : Strs u src l) (hl : l.length * 16 ≤ 140737488355328) :
    ∃ v' w', (Builtin.append_ #[42, 42] 42 #[.slice (some a) 0 0, src]).run Try.prog u = .ok v' w' ∧ (Below u.heap.size u w' ∧ Strs w' v' l ∧ Behind u.heap.size w' v' l.length) := by
  obtain ⟨v', w', h1, h2, h3⟩ := run_append_empty (P := Try.prog) u 42 42 9 _ 1 16 Try.underlying42 info_str rfl (by decide) a src l.length _ h.at_ (fun j => rfl) (by unfold maxLen; omega) hl
  refine ⟨v', w', h1, h2, ?_⟩
  rcases h3 with ⟨h0, rfl⟩ | ⟨h0, h3⟩
  · rw [List.length_eq_zero_iff.1 h0]
    exact ⟨⟨⟨_, _, rfl, fun h => by simp at h⟩, by simp⟩, fun h => by simp at h⟩
  · rcases h3.2 with ⟨_, h4⟩ | ⟨q, cap, cur, rfl, hq, hh, _, _, _, htake⟩
    · omega
    · refine ⟨⟨⟨_, _, rfl, fun _ => ⟨_, _, rfl, fun j hj => ?_⟩⟩, h.len⟩, fun _ b hb => ?_⟩
      · rw [Nat.zero_add, h3.cellAt j (by omega)]
        have hj' : j < l.length := by omega
        simp [hj']
      · simp only [Value.ownBlock, Option.some.injEq] at hb
        subst hb
        exact ⟨hq, heap_lt hh⟩
end Go.Proofs.Ytchmgilckiadaaa
