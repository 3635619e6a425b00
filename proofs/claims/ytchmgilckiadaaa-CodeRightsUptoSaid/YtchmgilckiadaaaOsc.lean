/- A row's script, opened. -/
import Derived.Test.YtchmgilckiadaaaOpen
import Derived.Test.YtchmgilckiadaaaScr
import Derived.Test.YtchmgilckiadaaaRows
import Derived.SliceStrings
import Derived.Lib.SmallJoins
namespace Go.Proofs.Ytchmgilckiadaaa
open Go.ChangeShapes Go.WideShapes Go.ChangeAt Go.RowKit Go.Deep Go.Joins
theorem cells_str : Try.prog.cellsOf 9 = 1 := by kernel_rfl
theorem bytes_str : Try.prog.bytesOf 9 = 16 := by kernel_rfl
theorem cells_fn : Try.prog.cellsOf 53 = 4 := by kernel_rfl
theorem bytes_fn : Try.prog.bytesOf 53 = 96 := by kernel_rfl
theorem cells_scr : Try.prog.cellsOf 45 = 2 := by kernel_rfl
theorem cells_intsT : Try.prog.cellsOf 23 = 1 := by kernel_rfl
theorem cells_codeT : Try.prog.cellsOf 22 = 1 := by kernel_rfl
section
variable {H : Type} {enc : TypeId × Value → H}
theorem weightsAll_mem {P : Program} {e : TypeId} : ∀ {l : List (DataW H)} {d : DataW H}, d ∈ l → ∀ n ∈ d.weights P e, n ∈ DataW.weightsAll P e l
  | d' :: r, d, hd, n, hn => by
    simp only [DataW.weightsAll, List.mem_append]
    rcases List.mem_cons.1 hd with rfl | h
    · exact Or.inl hn
    · exact Or.inr (weightsAll_mem h n hn)
/-- How long a list of data is, by its bulk. -/
theorem bulk_pos (d : DataW H) : 1 ≤ Rows.uptoBulk d := by
  cases d with
  | lit l => cases l <;> simp [Rows.uptoBulk]
  | _ => simp [Rows.uptoBulk]
theorem bulk_len : ∀ l : List (DataW H), l.length ≤ Rows.uptoBulkAll l
  | [] => by simp
  | d :: l => by
    have h := bulk_len l
    have h1 := bulk_pos d
    simp only [List.length_cons, Rows.uptoBulkAll]
    omega
theorem bulk_mem : ∀ {l : List (DataW H)} {d : DataW H}, d ∈ l → Rows.uptoBulk d ≤ Rows.uptoBulkAll l
  | x :: l, d, h => by
    simp only [Rows.uptoBulkAll]
    rcases List.mem_cons.1 h with rfl | h
    · omega
    · have := bulk_mem h
      omega
theorem bulk_slice (xs ys : List (DataW H)) : xs.length ≤ Rows.uptoBulk (.slice xs ys) ∧ ∀ d ∈ xs, Rows.uptoBulk d ≤ Rows.uptoBulk (.slice xs ys) := by
  have h := bulk_len xs
  simp only [Rows.uptoBulk]
  refine ⟨by omega, fun d hd => ?_⟩
  have := bulk_mem hd
  omega
/-- A datum within the reach. -/
def Within (t : TypeId) (d : DataW H) : Prop := ∀ n ∈ d.weights Try.prog t, n ≤ reachBytes
theorem within_slice {t e : TypeId} {xs ys : List (DataW H)} (hu : Try.prog.underlying t = some (.slice e)) (h : Within t (.slice xs ys)) : (xs.length + ys.length) * Try.prog.bytesOf e ≤ reachBytes ∧ ∀ d ∈ xs, Within e d := by
  refine ⟨h _ (by simp [DataW.weights, hu]), fun d hd n hn => h n ?_⟩
  simp only [DataW.weights, hu, List.mem_cons, List.mem_append]
  exact .inr (.inl (weightsAll_mem hd n hn))
set_option maxRecDepth 100000 in
theorem ints_in {W : World} {fuel : Nat} {v : Value} {y : DataW H × List MemPlace} (hf : DataW.trod enc Try.prog W 0 (fun _ => true) true fuel 23 [v] = some y) (hs : Within 23 y.1) : ∃ xs, Ints W v xs ∧ xs.length * 8 ≤ 140737488351232 ∧ xs.length ≤ Rows.uptoBulk y.1 := by
  rcases open_ints Try.underlying23 Try.underlying3 cells_int hf with ⟨hcs, _⟩ | ⟨a, len, cap, zs, hcs, _, hl, hm, hz, hx, hcell, hwz⟩
  · simp only [List.cons.injEq, and_true] at hcs
    subst hcs
    exact ⟨[], ⟨⟨none, 0, rfl, fun h => by simp at h⟩, by simp, by simp⟩, by simp, by simp⟩
  · simp only [List.cons.injEq, and_true] at hcs
    subst hcs
    subst hx
    simp only [if_true] at hz
    have hsz := (within_slice Try.underlying23 hs).1
    rw [bytes_int] at hsz
    simp only [lits, List.length_map, List.length_take, List.length_drop, reachBytes] at hsz
    have hlen : (zs.take len).length = len := by simp; omega
    refine ⟨zs.take len, ⟨⟨some a, cap, by rw [hlen], fun h0 => ?_⟩, by omega, fun x hx => wf_i64 (hwz x (List.mem_of_mem_take hx))⟩, by rw [hlen]; omega, by
      refine Nat.le_trans (Nat.le_of_eq ?_) (bulk_slice _ _).1
      simp [lits]⟩
    obtain ⟨b, off, spot⟩ := a
    have hspot : spot = none := by simpa [Addr.add] using World.cell?_spot (hcell 0 (by omega))
    subst hspot
    refine ⟨b, off, rfl, fun j hj => ?_⟩
    rw [← add_lit2, hcell j (by omega)]
    simp [show j < len by omega]
set_option maxRecDepth 100000 in
theorem code_in {W : World} {fuel : Nat} {v : Value} {y : DataW H × List MemPlace} (hf : DataW.trod enc Try.prog W 0 (fun _ => true) true fuel 22 [v] = some y) (hs : Within 22 y.1) : ∃ c, Code_ W v c ∧ c.length * 16 ≤ 140737488351232 ∧ c.length ≤ Rows.uptoBulk y.1 := by
  rcases open_slice_pairs Try.underlying22 Try.underlying35 cells_ins rfl rfl cells_int cells_int hf with ⟨hcs, _⟩ | ⟨a, len, cap, m, n, V0, V1, D0, D1, P0, P1, hcs, _, hl, hm, hz, hx, hcell⟩
  · simp only [List.cons.injEq, and_true] at hcs
    subst hcs
    exact ⟨[], ⟨⟨none, 0, rfl, fun h => by simp at h⟩, by simp, by simp⟩, by simp, by simp⟩
  · simp only [List.cons.injEq, and_true] at hcs
    subst hcs
    subst hx
    simp only [if_true] at hz
    have hsz := (within_slice Try.underlying22 hs).1
    rw [bytes_ins] at hsz
    simp only [List.length_map, List.length_range, reachBytes] at hsz
    have hv : ∀ i, ∃ x : Ins, i < m → V0 i = .int .i64 x.1 ∧ V1 i = .int .i64 x.2 ∧ I64 x.1 ∧ I64 x.2 := fun i => by
      by_cases hi : i < m
      · obtain ⟨_, _, h1, h2⟩ := hcell i hi
        obtain ⟨z0, e0, _, w0⟩ := DataW.trod_int Try.underlying3 h1
        obtain ⟨z1, e1, _, w1⟩ := DataW.trod_int Try.underlying3 h2
        simp only [List.cons.injEq, and_true] at e0 e1
        exact ⟨(z0, z1), fun _ => ⟨e0, e1, wf_i64 w0, wf_i64 w1⟩⟩
      · exact ⟨(0, 0), fun h => absurd h hi⟩
    obtain ⟨X, hX⟩ : ∃ X : Nat → Ins, ∀ i, i < m → V0 i = .int .i64 (X i).1 ∧ V1 i = .int .i64 (X i).2 ∧ I64 (X i).1 ∧ I64 (X i).2 := ⟨fun i => Classical.choose (hv i), fun i hi => Classical.choose_spec (hv i) hi⟩
    have hlen : ((List.range len).map X).length = len := by simp
    refine ⟨(List.range len).map X, ⟨⟨some a, cap, by rw [hlen], fun h0 => ?_⟩, by rw [hlen]; omega, fun x hx => ?_⟩, by rw [hlen]; omega, by
      refine Nat.le_trans (Nat.le_of_eq ?_) (bulk_slice _ _).1
      simp⟩
    · obtain ⟨b, off, spot⟩ := a
      have hspot : spot = none := by simpa [Addr.add] using World.cell?_spot (hcell 0 (by omega)).1
      subst hspot
      refine ⟨b, off, rfl, fun j hj => ?_⟩
      rw [hlen] at hj
      have hj2 : j / 2 < m := by omega
      have hg : ((List.range len).map X).getD (j / 2) (0, 0) = X (j / 2) := by simp [show j / 2 < len by omega]
      obtain ⟨h1, h2, _, _⟩ := hX (j / 2) hj2
      obtain ⟨g1, g2, _, _⟩ := hcell (j / 2) hj2
      rw [add_lit2] at g1 g2
      dsimp only
      rw [hg]
      by_cases e : j % 2 = 0
      · rw [if_pos e, ← h1, ← g1]
        congr 2
        omega
      · rw [if_neg e, ← h2, ← g2]
        congr 2
        omega
    · obtain ⟨i, hi, rfl⟩ := List.mem_map.1 hx
      have hi := List.mem_range.1 hi
      exact ⟨(hX i (by omega)).2.2.1, (hX i (by omega)).2.2.2⟩
set_option maxRecDepth 100000 in
theorem strs_in {W : World} {fuel : Nat} {v : Value} {y : DataW H × List MemPlace} (hf : DataW.trod enc Try.prog W 0 (fun _ => true) true fuel 42 [v] = some y) (hs : Within 42 y.1) : ∃ l, Strs W v l ∧ l.length * 16 ≤ 140737488351232 ∧ l.length ≤ Rows.uptoBulk y.1 := by
  rcases open_strings Try.underlying42 Try.underlying9 cells_str hf with ⟨hcs, _⟩ | ⟨a, len, cap, zs, hcs, _, hl, hm, hz, hx, hcell, _⟩
  · simp only [List.cons.injEq, and_true] at hcs
    subst hcs
    exact ⟨[], ⟨⟨none, 0, rfl, fun h => by simp at h⟩, by simp⟩, by simp, by simp⟩
  · simp only [List.cons.injEq, and_true] at hcs
    subst hcs
    subst hx
    simp only [if_true] at hz
    have hsz := (within_slice Try.underlying42 hs).1
    rw [bytes_str] at hsz
    simp only [strs, List.length_map, List.length_take, List.length_drop, reachBytes] at hsz
    have hlen : (zs.take len).length = len := by simp; omega
    refine ⟨zs.take len, ⟨⟨some a, cap, by rw [hlen], fun h0 => ?_⟩, by omega⟩, by rw [hlen]; omega, by
      refine Nat.le_trans (Nat.le_of_eq ?_) (bulk_slice _ _).1
      simp [strs]⟩
    obtain ⟨b, off, spot⟩ := a
    have hspot : spot = none := by simpa [Addr.add] using World.cell?_spot (hcell 0 (by omega))
    subst hspot
    refine ⟨b, off, rfl, fun j hj => ?_⟩
    rw [← add_lit2, hcell j (by omega)]
    have hj2 : j < zs.length := by omega
    simp [show j < len by omega, hj2]
/-- The sizes of a function, of a script, that a row lets in. -/
def FnSized (f : Fn) : Prop := f.params.length * 8 ≤ 140737488351232 ∧ f.results.length * 8 ≤ 140737488351232 ∧ f.locals.length * 8 ≤ 140737488351232 ∧ f.code.length * 16 ≤ 140737488351232
/-- .. by a row's bulk. -/
def FnBulk (n : Nat) (f : Fn) : Prop := f.params.length ≤ n ∧ f.results.length ≤ n ∧ f.locals.length ≤ n ∧ f.code.length ≤ n
def ScrBulk (n : Nat) (s : Scr) : Prop := s.consts.length ≤ n ∧ s.funcs.length ≤ n ∧ ∀ f ∈ s.funcs, FnBulk n f
structure ScrSized (s : Scr) : Prop where
  c : s.consts.length * 16 ≤ 140737488351232
  n : s.funcs.length * 96 ≤ 140737488351232
  f : ∀ f ∈ s.funcs, FnSized f
set_option maxRecDepth 100000 in
theorem fn_in {W : World} {fuel b o : Nat} {cs : List Value} {y : DataW H × List MemPlace} (hc : W.cells? 0 ⟨b, o, none⟩ 4 = some cs) (hf : DataW.trod enc Try.prog W 0 (fun _ => true) true fuel 53 cs = some y) (hs : Within 53 y.1) : ∃ f, FnCells W b o f ∧ FnSized f ∧ FnBulk (Rows.uptoBulk y.1) f := by
  obtain ⟨_, hlen, hcell⟩ := World.cells?_some hc
  obtain ⟨y0, y1, y2, y3, k, hxy, _, u0, u1, u2, u3⟩ := trod_struct4 Try.underlying53 hf
  match cs, hlen with
  | [v0, v1, v2, v3], _ =>
    simp only [cells_intsT, cells_codeT, List.drop, List.take] at u0 u1 u2 u3
    subst hxy
    have hw : ∀ n, n ∈ y0.1.weights Try.prog 23 ∨ n ∈ y1.1.weights Try.prog 23 ∨ n ∈ y2.1.weights Try.prog 23 ∨ n ∈ y3.1.weights Try.prog 22 → n ≤ reachBytes := fun n hn => hs n (by
      simp only [DataW.weights, Try.underlying53, List.map_cons, List.map_nil, DataW.weightsEach, List.mem_append]
      rcases hn with h | h | h | h
      · exact .inl h
      · exact .inr (.inl h)
      · exact .inr (.inr (.inl h))
      · exact .inr (.inr (.inr (.inl h))))
    obtain ⟨p, hp, lp, bp⟩ := ints_in u0 (fun n h => hw n (.inl h))
    obtain ⟨r, hr, lr, br⟩ := ints_in u1 (fun n h => hw n (.inr (.inl h)))
    obtain ⟨l, hl, ll, bl⟩ := ints_in u2 (fun n h => hw n (.inr (.inr (.inl h))))
    obtain ⟨c, hcode, lc, bc⟩ := code_in u3 (fun n h => hw n (.inr (.inr (.inr h))))
    have g0 := hcell 0 (by omega)
    have g1 := hcell 1 (by omega)
    have g2 := hcell 2 (by omega)
    have g3 := hcell 3 (by omega)
    rw [add_lit2] at g0 g1 g2 g3
    refine ⟨⟨p, r, l, c⟩, ⟨v0, v1, v2, v3, g0, g1, g2, g3, hp, hr, hl, hcode⟩, ⟨lp, lr, ll, lc⟩, ?_⟩
    simp only [FnBulk, Rows.uptoBulk, Rows.uptoBulkAll]
    exact ⟨by omega, by omega, by omega, by omega⟩
set_option maxRecDepth 100000 in
theorem fns_in {W : World} {fuel : Nat} {v : Value} {y : DataW H × List MemPlace} (hf : DataW.trod enc Try.prog W 0 (fun _ => true) true fuel 43 [v] = some y) (hs : Within 43 y.1) :
    ∃ l, Fns W v l ∧ l.length * 96 ≤ 140737488351232 ∧ l.length ≤ Rows.uptoBulk y.1 ∧ ∀ f ∈ l, FnSized f ∧ FnBulk (Rows.uptoBulk y.1) f := by
  rcases open_slice Try.underlying43 hf with ⟨hcs, _⟩ | ⟨a, len, cap, m, n, D, Pl, hcs, _, hl, hm, hz, hx, hcell⟩
  · simp only [List.cons.injEq, and_true] at hcs
    subst hcs
    exact ⟨[], ⟨⟨none, 0, rfl, fun j h => by simp at h⟩, by simp⟩, by simp, by simp, by simp⟩
  · simp only [List.cons.injEq, and_true] at hcs
    subst hcs
    subst hx
    simp only [if_true] at hz
    obtain ⟨hsz, hel⟩ := within_slice Try.underlying43 hs
    rw [bytes_fn] at hsz
    simp only [List.length_map, List.length_range, reachBytes] at hsz
    rw [cells_fn] at hcell
    have hsp : len = 0 ∨ ∃ b off, a = ⟨b, off, none⟩ := by
      by_cases h0 : len = 0
      · exact .inl h0
      · obtain ⟨b, off, spot⟩ := a
        obtain ⟨cs', h1, _⟩ := hcell 0 (by omega)
        obtain ⟨_, hlen, hc⟩ := World.cells?_some h1
        have hspot : spot = none := by
          have hc0 := hc 0 (by omega)
          match cs', hlen with
          | [v0, v1, v2, v3], _ => simpa [Addr.add] using World.cell?_spot hc0
        subst hspot
        exact .inr ⟨b, off, rfl⟩
    have hv : ∀ i, ∃ f : Fn, i < len → (∃ b off, a = ⟨b, off, none⟩ ∧ FnCells W b (off + i * 4) f) ∧ FnSized f ∧ FnBulk (Rows.uptoBulk (D i)) f := fun i => by
      by_cases hi : i < len
      · obtain ⟨cs', h1, h2⟩ := hcell i (by omega)
        rcases hsp with h0 | ⟨b, off, rfl⟩
        · omega
        · rw [add_lit2] at h1
          obtain ⟨f, hf1, hf2⟩ := fn_in h1 h2 (hel _ (List.mem_map.2 ⟨i, List.mem_range.2 hi, rfl⟩))
          exact ⟨f, fun _ => ⟨⟨b, off, rfl, hf1⟩, hf2⟩⟩
      · exact ⟨default, fun h => absurd h hi⟩
    obtain ⟨X, hX⟩ : ∃ X : Nat → Fn, ∀ i, i < len → (∃ b off, a = ⟨b, off, none⟩ ∧ FnCells W b (off + i * 4) (X i)) ∧ FnSized (X i) ∧ FnBulk (Rows.uptoBulk (D i)) (X i) := ⟨fun i => Classical.choose (hv i), fun i hi => Classical.choose_spec (hv i) hi⟩
    have hlen : ((List.range len).map X).length = len := by simp
    refine ⟨(List.range len).map X, ⟨⟨some a, cap, by rw [hlen], fun j hj => ?_⟩, by rw [hlen]; omega⟩, by rw [hlen]; omega, by
      refine Nat.le_trans (Nat.le_of_eq ?_) (bulk_slice _ _).1
      simp, fun f hf => ?_⟩
    · rw [hlen] at hj
      obtain ⟨⟨b, off, rfl, h1⟩, _⟩ := hX j hj
      refine ⟨b, off, rfl, ?_⟩
      have hg : ((List.range len).map X).getD j default = X j := by simp [hj]
      rw [hg]
      exact h1
    · obtain ⟨i, hi, rfl⟩ := List.mem_map.1 hf
      obtain ⟨_, h1, h2, h3, h4, h5⟩ := hX i (List.mem_range.1 hi)
      have h6 := (bulk_slice ((List.range len).map D) ((List.range (m - len)).map fun j => D (len + j))).2 (D i) (List.mem_map.2 ⟨i, hi, rfl⟩)
      dsimp only
      exact ⟨h1, by omega, by omega, by omega, by omega⟩
set_option maxRecDepth 100000 in
theorem scr_of {W : World} {base : Nat} {v : Value} {d : DataW H} {p : List MemPlace} (hv : Value.okWide Try.prog W .any base 45 v) (h : DataW.Trod enc Try.prog W 0 (fun _ => true) true 45 v d p)
    (hs : Within 45 d) : ∃ s, ScrVal W v s ∧ ScrSized s ∧ ScrBulk (Rows.uptoBulk d) s := by
  obtain ⟨c0, c1, y0, y1, n, rfl, rfl, rfl, h0, h1⟩ := open_agg2 Try.underlying45 (by kernel_rfl) cells_scr hv h
  have hw : ∀ n, n ∈ y0.1.weights Try.prog 42 ∨ n ∈ y1.1.weights Try.prog 43 → n ≤ reachBytes := fun n hn => hs n (by
    simp only [DataW.weights, Try.underlying45, List.map_cons, List.map_nil, DataW.weightsEach, List.mem_append]
    rcases hn with h | h
    · exact .inl h
    · exact .inr (.inl h))
  obtain ⟨cs, hcs, lc, bc⟩ := strs_in h0 (fun n h => hw n (.inl h))
  obtain ⟨fs, hfs, lf, bf, hf⟩ := fns_in h1 (fun n h => hw n (.inr h))
  refine ⟨⟨cs, fs⟩, ⟨c0, c1, rfl, hcs, hfs⟩, ⟨lc, lf, fun f h => (hf f h).1⟩, ?_⟩
  simp only [ScrBulk, Rows.uptoBulk, Rows.uptoBulkAll]
  refine ⟨by omega, by omega, fun f h => ?_⟩
  obtain ⟨_, h1, h2, h3, h4⟩ := hf f h
  exact ⟨by omega, by omega, by omega, by omega⟩
theorem within_each {ts : List TypeId} {ds : List (DataW H)} (h : (DataW.weightsEach Try.prog ts ds).all (· ≤ reachBytes) = true) {j : Nat} {t : TypeId} {d : DataW H} (ht : ts[j]? = some t) (hd : ds[j]? = some d) : Within t d := fun n hn => by
  have := List.all_eq_true.1 h _ (DataW.weights_mem_each ht hd n hn)
  simpa using this
end
end Go.Proofs.Ytchmgilckiadaaa
