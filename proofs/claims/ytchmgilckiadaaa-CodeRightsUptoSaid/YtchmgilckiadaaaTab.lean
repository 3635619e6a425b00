/- What the operations' table holds: op.table, op.at, and what is read off it. -/
import Derived.Test.YtchmgilckiadaaaProg
import Derived.WalkKit
import Derived.LoopTactic
import Derived.Below
import Derived.Outline
import Derived.Deep.WholeRow
import Derived.Laws.Tables
import Derived.Lib.Hide
namespace Go.Proofs.Ytchmgilckiadaaa
open Go.RowKit
set_option maxRecDepth 100000

/-- The value of an operation that looks at the program alone. -/
def val? {α : Type} (P : Program) : Sem α → Option α
  | .pure a => some a
  | .program k => val? P (k P)
  | _ => none
theorem run_of_val {α : Type} {P : Program} : ∀ {s : Sem α} {a : α}, val? P s = some a → ∀ w, s.run P w = .ok a w
  | .pure a, b, h, w => by simp only [val?, Option.some.injEq] at h; subst h; rfl
  | .program k, b, h, w => by
    simp only [val?] at h
    have := run_of_val h w
    rw [← this]; rfl
  | .load .., _, h, _ | .store .., _, h, _ | .new .., _, h, _ | .shape .., _, h, _ | .freeze .., _, h, _ | .frozen .., _, h, _ | .getObj .., _, h, _
  | .setObj .., _, h, _ | .choose .., _, h, _ | .sys .., _, h, _ | .mark .., _, h, _ | .halt .., _, h, _ => by simp [val?] at h

/-- Operations that look at the program alone, one behind the other. -/
def valsList (P : Program) : List Oper → Act → Option Act
  | [], a => some a
  | o :: rest, a =>
    match o.guard, val? P (execOp a.eval o) with
    | none, some (.value v) => valsList P rest (a.put o.dst v)
    | _, _ => none
theorem wpList_vals {P : Program} {ops : Array Oper} {Q : Exit → Act → World → Prop} {w : World} (l2 : List Oper) : ∀ (l1 : List Oper) (a a' : Act), valsList P l1 a = some a' →
    wpList P ops Q l2 a' w → wpList P ops Q (l1 ++ l2) a w
  | [], a, a', h, hq => by simp only [valsList, Option.some.injEq] at h; subst h; exact hq
  | o :: rest, a, a', h, hq => by
    simp only [valsList] at h
    split at h
    · rename_i v hg hv
      have hr := run_of_val hv
      have ih := wpList_vals l2 rest (a.put o.dst v) a' h hq
      refine wpList_plain hg fun K hK => ?_
      unfold Oper.wp
      rw [hr w]
      exact hK _ _ ih
    · cases h

/-- One row of the table: name, what A is, types taken, types put, cost. -/
def rows : List (String × Int × String × String × Int) := [("", 0, "", "", 0),
  ("int", 1, "", "1", 1), ("const", 2, "", "2", 1), ("true", 0, "", "3", 1), ("false", 0, "", "3", 1), ("drop", 0, "0", "", 1), ("dup", 0, "0", "00", 1), ("swap", 0, "00", "00", 1),
  ("over", 0, "00", "000", 1), ("get", 3, "", "0", 1), ("set", 3, "0", "", 1), ("add", 0, "11", "1", 1), ("sub", 0, "11", "1", 1), ("mul", 0, "11", "1", 2), ("div", 0, "11", "1", 4),
  ("rem", 0, "11", "1", 4), ("neg", 0, "1", "1", 1), ("and", 0, "11", "1", 1), ("or", 0, "11", "1", 1), ("xor", 0, "11", "1", 1), ("inv", 0, "1", "1", 1), ("shl", 0, "11", "1", 1),
  ("shr", 0, "11", "1", 1), ("eq", 0, "11", "3", 1), ("ne", 0, "11", "3", 1), ("lt", 0, "11", "3", 1), ("le", 0, "11", "3", 1), ("gt", 0, "11", "3", 1), ("ge", 0, "11", "3", 1),
  ("both", 0, "33", "3", 1), ("either", 0, "33", "3", 1), ("not", 0, "3", "3", 1), ("len", 0, "2", "1", 1), ("join", 0, "22", "2", 6), ("cut", 0, "211", "2", 6), ("at", 0, "21", "1", 2),
  ("same", 0, "22", "3", 4), ("less", 0, "22", "3", 4), ("pack", 0, "1", "2", 3), ("unpack", 0, "2", "1", 3), ("one", 0, "1", "2", 2), ("load", 0, "2", "23", 20), ("has", 0, "2", "3", 15),
  ("save", 0, "22", "", 30), ("wipe", 0, "2", "", 25), ("next", 0, "2", "23", 20), ("emit", 0, "2", "", 10), ("abort", 0, "", "", 1), ("if", 0, "3", "", 1), ("else", 0, "", "", 1),
  ("end", 0, "", "", 1), ("loop", 4, "", "", 2), ("leave", 0, "3", "", 1), ("call", 5, "", "", 5)]
/-- A text's bytes. -/
def bs (s : String) : ByteArray := s.toUTF8
def rowCells (r : String × Int × String × String × Int) : List Value := [.string (bs r.1), .int .i64 r.2.1, .string (bs r.2.2.1), .string (bs r.2.2.2.1), .int .i64 r.2.2.2.2]
def tabCells : Array Value := ⟨rows.flatMap rowCells⟩
/-- The row of an operation. -/
def rowAt (op : Int) : String × Int × String × String × Int := rows.getD (if op < 1 ∨ 53 < op then 0 else op.toNat) ("", 0, "", "", 0)


theorem wpList_vals_at {P : Program} {ops : Array Oper} {Q : Exit → Act → World → Prop} {w : World} {l : List Oper} {a a' : Act} (n : Nat) (h : valsList P (l.take n) a = some a')
    (hq : wpList P ops Q (l.drop n) a' w) : wpList P ops Q l a w := by
  have := wpList_vals (P := P) (ops := ops) (Q := Q) (w := w) (l.drop n) (l.take n) a a' h hq
  rwa [List.take_append_drop] at this
/-- The operations of a body's second region. -/
def second : Code → Array Oper
  | .seq _ (.seq (.region _ ops _) _) => ops
  | _ => #[]
noncomputable def tabOps : Array Oper := (Try.f143.body.map second).getD #[]
def tabPre (v0 : Value) : Act := { tmps := ⟨v0 :: List.replicate 55 undef⟩, defers := [] }
theorem tab_key (v0 : Value) : (valsList Try.prog (tabOps.toList.take 55) (tabPre v0)).map (fun a => (a.tmps.getD 0 undef, a.tmps.getD 55 undef, a.defers)) = some (v0, .agg tabCells, []) := by kernel_rfl
theorem tab_drop : tabOps.toList.drop 55 = [{ dst := none, op := .store 167 (.tmp 0) (.tmp 55), type := 0, pos := (tabOps.toList.getLast?.map (·.pos)).getD "", after := (tabOps.toList.getLast?.map (·.after)).getD #[], guard := none }] := by kernel_rfl
theorem size_tab : tabCells.size = 270 := by decide +kernel
theorem info_tab : (Try.prog.info? 167).map (·.size) = some 270 := by kernel_rfl
theorem zero_tab : ∃ zs : Array Value, zs.size = 270 ∧ ∀ w, (zeroValue 167).run Try.prog w = .ok (.agg zs) w := by
  have h : (val? Try.prog (zeroValue 167)).map (fun v => match v with | .agg zs => zs.size | _ => 0) = some 270 := by kernel_rfl
  cases hv : val? Try.prog (zeroValue 167) with
  | none => simp [hv] at h
  | some v =>
    simp only [hv, Option.map_some, Option.some.injEq] at h
    cases v <;> simp at h
    rename_i zs
    exact ⟨zs, h, run_of_val hv⟩
theorem one_tab : tabCells.all (·.oneCell') = true := by decide +kernel
set_option maxHeartbeats 1000000 in
theorem table_any (w : World) :
    Calls Try.prog 143 #[] w fun e w' => e = .returned (.agg tabCells) ∧ Below w.heap.size w w' := by
  obtain ⟨zs, hzs, hz⟩ := zero_tab
  go_enter Try.func143, Try.ntmps143
  apply wp_seq_k
  intro Q hQ
  refine wp_region_lit ?_
  refine wpList_plain rfl fun K hK => ?_
  have ha : (Instr.alloc 167 true (.tuple #[])).run Try.prog w = .ok (.pointer (some ⟨w.heap.size, 0, none⟩)) (w.alloc (.cells zs 167)) := by
    simp only [Instr.alloc, Sem.run_bind, hz, Result.andThen_ok, newVar, newRow, newObj]
    rfl
  unfold Oper.wp
  simp only [execOp, Sem.run_bind, ha, Result.andThen_ok]
  refine hK _ _ (wpList_nil (hQ _ _ ?_))
  clear ha hK hQ K Q
  apply wp_seq_k
  intro Q hQ
  obtain ⟨a', h1, h2⟩ := Option.map_eq_some_iff.1 (tab_key (.pointer (some ⟨w.heap.size, 0, none⟩)))
  simp only [Prod.mk.injEq] at h2
  obtain ⟨h2, h3, h4⟩ := h2
  refine wp_region_list ?_
  refine wpList_vals_at 55 (a' := a') h1 ?_
  refine (congrArg (fun l => wpList _ _ _ l a' _) tab_drop).mpr ?_
  refine wpList_store_row rfl 167 (.tmp 0) (.tmp 55) rfl w.heap.size tabCells ?_ ?_ 167 zs (heap_alloc_last w _) (by rw [info_tab, size_tab]) (by rw [hzs, size_tab]) one_tab ?_
  · simpa [Act.eval] using h2
  · simpa [Act.eval] using h3
  refine wpList_nil (hQ _ _ ?_)
  clear hQ Q
  rw [World.setRow_alloc_new]
  refine wp_ret ?_
  refine bodyPost_ret (v := .agg tabCells) (results_cell_row rfl _ _ w.heap.size 167 tabCells (0, 0) (.array 54 102) ?_ (heap_alloc_last w _) Try.underlying167 rfl (by rw [info_tab, size_tab])) h4 ⟨rfl, (Below.refl _ _).alloc (Nat.le_refl _) _⟩
  simpa [Act.put] using h2

theorem flat_at {α β : Type} (f : α → List β) (hf : ∀ x, (f x).length = 5) : ∀ (l : List α) (i : Nat) (d : α), i < l.length → ((l.flatMap f).drop (i * 5)).take 5 = f (l.getD i d)
  | [], i, d, h => by simp at h
  | x :: l, 0, d, h => by
    simp only [Nat.zero_mul, List.drop_zero, List.flatMap_cons, List.getD_cons_zero]
    rw [List.take_append_of_le_length (by rw [hf]; exact Nat.le_refl _), List.take_of_length_le (by rw [hf]; exact Nat.le_refl _)]
  | x :: l, i + 1, d, h => by
    have := flat_at f hf l i d (by simpa using h)
    rw [List.flatMap_cons, show (i + 1) * 5 = (f x).length + i * 5 by rw [hf]; omega, List.drop_append, List.drop_of_length_le (by omega), List.nil_append, Nat.add_sub_cancel_left, List.getD_cons_succ]
    exact this
/-- A row as a value. -/
def rowVal (r : String × Int × String × String × Int) : Value := .agg #[.string (bs r.1), .int .i64 r.2.1, .string (bs r.2.2.1), .string (bs r.2.2.2.1), .int .i64 r.2.2.2.2]
theorem index_tab (w : World) (i : Int) (h0 : 0 ≤ i) (h : i < 54) : (Instr.index 167 (.agg tabCells) (.int .i64 i)).run Try.prog w = .ok (rowVal (rows.getD i.toNat ("", 0, "", "", 0))) w := by
  have hp : ∀ w, (isAgg 102).run Try.prog w = .ok true w := run_of_val (by kernel_rfl)
  have hz : ∀ w, (sizeOf 102).run Try.prog w = .ok 5 w := run_of_val (by kernel_rfl)
  have hl : tabCells.extract (i.toNat * 5) (i.toNat * 5 + 5) = ⟨rowCells (rows.getD i.toNat ("", 0, "", "", 0))⟩ := by
    apply Array.toList_inj.1
    rw [Array.toList_extract, List.extract_eq_take_drop]
    have := flat_at rowCells (fun _ => rfl) rows i.toNat ("", 0, "", "", 0) (by have : rows.length = 54 := rfl; omega)
    rw [← this, show i.toNat * 5 + 5 - i.toNat * 5 = 5 by omega]
    rfl
  simp only [Instr.index, asIntOf, Sem.run_bind, Sem.run_pure, Result.andThen_ok, run_underlying Try.underlying167]
  rw [if_pos ⟨h0, by simpa using h⟩]
  simp only [Sem.run_bind, hz, hp, part, Result.andThen_ok, if_true, Sem.run_pure, hl]
  rfl
/-- After a call that only makes memory: all cells that there were. -/
theorem bcell {W w1 : World} (hb : Below W.heap.size W w1) : (∀ b o, b < W.heap.size → w1.cell? ⟨b, o, none⟩ = W.cell? ⟨b, o, none⟩) ∧ (∀ b o, b < W.heap.size → w1.frozen? ⟨b, o, none⟩ = W.frozen? ⟨b, o, none⟩) :=
  ⟨fun b o h => hb.cell (p := ⟨b, o, none⟩) h, fun b o h => hb.frozen (p := ⟨b, o, none⟩) h⟩
theorem below_cells {w w1 : World} {k : Nat} {c : Array Value} {t : TypeId} (hb : Below (w.alloc (.cells c t)).heap.size (w.alloc (.cells c t)) w1) (h : k = w.heap.size) : w1.heap[k]? = some (.cells c t (0, 0)) := by
  subst h
  rw [hb.block _ (by simp)]
  exact heap_alloc_last w _
theorem below_setRow {B : Nat} {a w : World} (h : Below B a w) {g : Nat} (hg : B ≤ g) (cs : Array Value) : Below B a (w.setRow g cs) :=
  h.trans ⟨rfl, rfl, rfl, by simp, fun k hk => by simp only [World.setRow, Array.getElem?_modify]; rw [if_neg (by omega)]⟩


set_option maxHeartbeats 400000 in
theorem at_out (op : Int) (w : World) (h0 : -9223372036854775808 ≤ op) (h1 : op ≤ 9223372036854775807) (ha : op < 1 ∨ 53 < op) :
    Calls Try.prog 87 #[.int .i64 op] w fun e w' => e = .returned (rowVal (rowAt op)) ∧ Below w.heap.size w w' := by
  have hr : rowAt op = rows.getD (0 : Int).toNat ("", 0, "", "", 0) := by unfold rowAt; rw [if_pos ha]; rfl
  have hi := fun w => index_tab w 0 (by omega) (by omega)
  rw [← hr] at hi
  generalize rowAt op = r at hi hr ⊢
  rcases ha with ha | ha
  · obtain ⟨n, t, i, o, c⟩ := r
    simp only [rowVal] at hi ⊢
    generalize bs n = n at hi ⊢
    generalize bs i = i at hi ⊢
    generalize bs o = o at hi ⊢
    clear hr
    go_enter Try.func87, Try.ntmps87
    go_wp2_with (go_at_call 143; refine (table_any _).mono ?_; rintro e w' ⟨rfl, hb⟩; obtain ⟨hc, hf⟩ := bcell hb; have hz : w.heap.size < w'.heap.size := by have := hb.size; simp at this; omega)
    refine bodyPost_ret (v := .agg #[.string n, .int .i64 t, .string i, .string o, .int .i64 c]) (by simp [results, Try.results87, go_sem, hc]) rfl ⟨rfl, ?_⟩
    have hb0 := ((Below.refl _ _).alloc (Nat.le_refl _) _).trans (hb.mono (B' := w.heap.size) (by simp))
    exact ((((hb0.setCell (Nat.le_refl _) _).setCell (Nat.le_refl _) _).setCell (Nat.le_refl _) _).setCell (Nat.le_refl _) _).setCell (Nat.le_refl _) _
  · have ha' : ¬ op < 1 := by omega
    obtain ⟨n, t, i, o, c⟩ := r
    simp only [rowVal] at hi ⊢
    generalize bs n = n at hi ⊢
    generalize bs i = i at hi ⊢
    generalize bs o = o at hi ⊢
    clear hr
    go_enter Try.func87, Try.ntmps87
    go_wp2_with (go_at_call 143; refine (table_any _).mono ?_; rintro e w' ⟨rfl, hb⟩; obtain ⟨hc, hf⟩ := bcell hb; have hz : w.heap.size < w'.heap.size := by have := hb.size; simp at this; omega)
    refine bodyPost_ret (v := .agg #[.string n, .int .i64 t, .string i, .string o, .int .i64 c]) (by simp [results, Try.results87, go_sem, hc]) rfl ⟨rfl, ?_⟩
    have hb0 := ((Below.refl _ _).alloc (Nat.le_refl _) _).trans (hb.mono (B' := w.heap.size) (by simp))
    exact ((((hb0.setCell (Nat.le_refl _) _).setCell (Nat.le_refl _) _).setCell (Nat.le_refl _) _).setCell (Nat.le_refl _) _).setCell (Nat.le_refl _) _
set_option maxHeartbeats 400000 in
theorem at_in (op : Int) (w : World) (h0 : 1 ≤ op) (h1 : op ≤ 53) :
    Calls Try.prog 87 #[.int .i64 op] w fun e w' => e = .returned (rowVal (rowAt op)) ∧ Below w.heap.size w w' := by
  have hr : rowAt op = rows.getD op.toNat ("", 0, "", "", 0) := by unfold rowAt; rw [if_neg (by omega)]
  have hi := fun w => index_tab w op (by omega) (by omega)
  rw [← hr] at hi
  generalize rowAt op = r at hi hr ⊢
  have ha : ¬ op < 1 := by omega
  have ha' : ¬ 53 < op := by omega
  · obtain ⟨n, t, i, o, c⟩ := r
    simp only [rowVal] at hi ⊢
    generalize bs n = n at hi ⊢
    generalize bs i = i at hi ⊢
    generalize bs o = o at hi ⊢
    clear hr
    go_enter Try.func87, Try.ntmps87
    go_wp2_with (go_at_call 143; refine (table_any _).mono ?_; rintro e w' ⟨rfl, hb⟩; obtain ⟨hc, hf⟩ := bcell hb; have hz : w.heap.size < w'.heap.size := by have := hb.size; simp at this; omega)
    refine bodyPost_ret (v := .agg #[.string n, .int .i64 t, .string i, .string o, .int .i64 c]) (by simp [results, Try.results87, go_sem, hc]) rfl ⟨rfl, ?_⟩
    have hb0 := ((Below.refl _ _).alloc (Nat.le_refl _) _).trans (hb.mono (B' := w.heap.size) (by simp))
    exact ((((hb0.setCell (Nat.le_refl _) _).setCell (Nat.le_refl _) _).setCell (Nat.le_refl _) _).setCell (Nat.le_refl _) _).setCell (Nat.le_refl _) _
theorem at_any (op : Int) (w : World) (h0 : -9223372036854775808 ≤ op) (h1 : op ≤ 9223372036854775807) :
    Calls Try.prog 87 #[.int .i64 op] w fun e w' => e = .returned (rowVal (rowAt op)) ∧ Below w.heap.size w w' := by
  by_cases h : op < 1 ∨ 53 < op
  · exact at_out op w h0 h1 h
  · exact at_in op w (by omega) (by omega)

theorem field0 (w : World) (a b c d e : Value) : (Instr.field 102 (.agg #[a, b, c, d, e]) 0).run Try.prog w = .ok a w := by kernel_rfl
theorem field1 (w : World) (a b c d e : Value) : (Instr.field 102 (.agg #[a, b, c, d, e]) 1).run Try.prog w = .ok b w := by kernel_rfl
theorem field2 (w : World) (a b c d e : Value) : (Instr.field 102 (.agg #[a, b, c, d, e]) 2).run Try.prog w = .ok c w := by kernel_rfl
theorem field3 (w : World) (a b c d e : Value) : (Instr.field 102 (.agg #[a, b, c, d, e]) 3).run Try.prog w = .ok d w := by kernel_rfl
theorem field4 (w : World) (a b c d e : Value) : (Instr.field 102 (.agg #[a, b, c, d, e]) 4).run Try.prog w = .ok e w := by kernel_rfl
theorem cost_any (op : Int) (w : World) (h0 : -9223372036854775808 ≤ op) (h1 : op ≤ 9223372036854775807) :
    Calls Try.prog 32 #[.int .i64 op] w fun e w' => e = .returned (.int .i64 (rowAt op).2.2.2.2) ∧ Below w.heap.size w w' := by
  have h := at_any op w h0 h1
  generalize rowAt op = r at h ⊢
  obtain ⟨n, t, i, o, c⟩ := r
  simp only [rowVal] at h
  have H := Lib.hid h
  clear h
  have hfd := field4
  go_enter Try.func32, Try.ntmps32
  go_wp2_with (go_at_call 87; refine H.out.mono ?_; rintro e w' ⟨rfl, hb⟩)
  go_ret
  exact ⟨rfl, hb⟩
theorem takes_any (op : Int) (w : World) (h0 : -9223372036854775808 ≤ op) (h1 : op ≤ 9223372036854775807) :
    Calls Try.prog 92 #[.int .i64 op] w fun e w' => e = .returned (.int .i64 (rowAt op).2.1) ∧ Below w.heap.size w w' := by
  have h := at_any op w h0 h1
  generalize rowAt op = r at h ⊢
  obtain ⟨n, t, i, o, c⟩ := r
  simp only [rowVal] at h
  have H := Lib.hid h
  clear h
  have hfd := field1
  go_enter Try.func92, Try.ntmps92
  go_wp2_with (go_at_call 87; refine H.out.mono ?_; rintro e w' ⟨rfl, hb⟩)
  go_ret
  exact ⟨rfl, hb⟩
theorem name_any (op : Int) (w : World) (h0 : -9223372036854775808 ≤ op) (h1 : op ≤ 9223372036854775807) :
    Calls Try.prog 150 #[.int .i64 op] w fun e w' => e = .returned (.string (bs (rowAt op).1)) ∧ Below w.heap.size w w' := by
  have h := at_any op w h0 h1
  generalize rowAt op = r at h ⊢
  obtain ⟨n, t, i, o, c⟩ := r
  simp only [rowVal] at h ⊢
  generalize bs n = n at h ⊢
  have H := Lib.hid h
  clear h
  have hfd := field0
  go_enter Try.func150, Try.ntmps150
  go_wp2_with (go_at_call 87; refine H.out.mono ?_; rintro e w' ⟨rfl, hb⟩)
  go_ret
  exact ⟨rfl, hb⟩
end Go.Proofs.Ytchmgilckiadaaa
