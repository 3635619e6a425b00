/- What lies in memory while shape.scan runs: the stack's object, its row, its blocks, their leaves, the places. -/
import Derived.Test.YtchmgilckiadaaaShp
import Derived.Test.YtchmgilckiadaaaIdx
import Derived.WalkSmall
import Derived.Maps.AppendAt
namespace Go.Proofs.Ytchmgilckiadaaa
open Go.RowKit
def ptrB (g : Nat) : Value := .pointer (some ⟨g, 0, none⟩)
def ptrs (g : Nat → Nat) (n : Nat) : List Value := (List.range n).map fun i => ptrB (g i)
theorem ptrs_succ (g : Nat → Nat) (n : Nat) : ptrs g (n + 1) = ptrs g n ++ [ptrB (g n)] := by simp [ptrs, List.range_succ]
theorem ptrs_congr {g g' : Nat → Nat} {n : Nat} (h : ∀ i, i < n → g i = g' i) : ptrs g n = ptrs g' n := by
  unfold ptrs
  exact List.map_congr_left fun i hi => by rw [h i (by simpa using hi)]
theorem ptrs_length (g : Nat → Nat) (n : Nat) : (ptrs g n).length = n := by simp [ptrs]
def natInts (l : List Nat) : List Value := l.map fun (k : Nat) => .int .i64 (k : Int)
def intVals (l : List Int) : List Value := l.map fun (k : Int) => .int .i64 k
def blkCells (b : Blk) (vl : Value) : Array Value := #[.int .i64 (b.at_ : Int), .int .i64 b.other, vl]

structure SAt (B : Nat) (w : World) (gs gm : Nat) (vo : Value) (g : Nat → Nat) (vl : Nat → Value) (l : List Blk) (m : List Int) : Prop where
  sblk : w.heap[gs]? = some (.cells #[vo] 190 (0, 0))
  row : w.ownsRow B 192 1 vo l.length (ptrs g l.length)
  blk : ∀ i, i < l.length → w.heap[g i]? = some (.cells (blkCells (l.getD i default) (vl i)) 194 (0, 0))
  lv : ∀ i, i < l.length → w.ownsRow B 3 1 (vl i) (l.getD i default).leaves.length (natInts (l.getD i default).leaves)
  gge : ∀ i, i < l.length → B ≤ g i
  sge : B ≤ gs
  mge : B ≤ gm
  inj : ∀ i j, i < l.length → j < l.length → g i = g j → i = j
  dis : ∀ i j, i < l.length → j < l.length → i ≠ j → (vl i).ownBlock = none ∨ (vl i).ownBlock ≠ (vl j).ownBlock
  dm : ∀ i, i < l.length → (vl i).ownBlock ≠ some gm
  mrow : w.heap[gm]? = some (.cells (intVals m).toArray 3 (0, 0))

theorem heap_lt {w : World} {k : Nat} {o : Obj} (h : w.heap[k]? = some o) : k < w.heap.size := (Array.getElem?_eq_some_iff.1 h).1
/-- The block of an owned row. -/
theorem own_heap {w : World} {B e s n : Nat} {v : Value} {xs : List Value} (h : w.ownsRow B e s v n xs) {k : Nat} (hk : v.ownBlock = some k) : B ≤ k ∧ ∃ cs, w.heap[k]? = some (.cells cs e (0, 0)) := by
  rcases h.2 with ⟨rfl, _⟩ | ⟨q, cap, cur, rfl, hb, hh, _⟩
  · simp [Value.ownBlock] at hk
  · have : q = k := by simpa [Value.ownBlock] using hk
    subst this
    exact ⟨hb, _, hh⟩
/-- Blocks of unlike element types are not one. -/
theorem type_ne {w : World} {a b : Nat} {cs cs' : Array Value} {e e' : TypeId} {f f' : Nat × Nat} (h : w.heap[a]? = some (.cells cs e f)) (h' : w.heap[b]? = some (.cells cs' e' f')) (hne : e ≠ e') : a ≠ b := by
  rintro rfl
  rw [h] at h'
  injection h' with h'
  injection h' with _ h'
  exact hne h'
section
variable {B : Nat} {w : World} {gs gm : Nat} {vo : Value} {g : Nat → Nat} {vl : Nat → Value} {l : List Blk} {m : List Int}
/-- A change that leaves all these blocks alone. -/
theorem SAt.kept {w1 : World} {row : Option Nat} (h : SAt B w gs gm vo g vl l m) (hg : w.grownBy w1 row) (h1 : some gs ≠ row) (h2 : some gm ≠ row) (h3 : vo.ownBlock = none ∨ vo.ownBlock ≠ row)
    (h4 : ∀ i, i < l.length → some (g i) ≠ row) (h5 : ∀ i, i < l.length → (vl i).ownBlock = none ∨ (vl i).ownBlock ≠ row) : SAt B w1 gs gm vo g vl l m where
  sblk := (hg.block _ (heap_lt h.sblk) h1).trans h.sblk
  row := h.row.kept hg h3
  blk := fun i hi => (hg.block _ (heap_lt (h.blk i hi)) (h4 i hi)).trans (h.blk i hi)
  lv := fun i hi => (h.lv i hi).kept hg (h5 i hi)
  gge := h.gge
  sge := h.sge
  mge := h.mge
  inj := h.inj
  dis := h.dis
  dm := h.dm
  mrow := (hg.block _ (heap_lt h.mrow) h2).trans h.mrow
theorem grownBy_below {w1 : World} (h : Below w.heap.size w w1) : w.grownBy w1 none := ⟨h.os, h.tape, h.output, h.size, fun k hk _ => h.block k hk⟩
theorem grownBy_set (w : World) (a : Addr) (v : Value) : w.grownBy (w.setCell a v) (some a.block) :=
  ⟨rfl, rfl, rfl, by simp [World.setCell], fun k hk hn => Below.heap_setCell _ _ _ _ (fun e => hn (by rw [e]))⟩
theorem SAt.below {w1 : World} (h : SAt B w gs gm vo g vl l m) (hb : Below w.heap.size w w1) : SAt B w1 gs gm vo g vl l m :=
  h.kept (grownBy_below hb) (by simp) (by simp) (by cases vo.ownBlock <;> simp) (by simp) (fun i _ => by cases (vl i).ownBlock <;> simp)
theorem SAt.rowBlock (h : SAt B w gs gm vo g vl l m) {k : Nat} (hk : vo.ownBlock = some k) : k ≠ gs ∧ k ≠ gm ∧ (∀ i, i < l.length → k ≠ g i ∧ (vl i).ownBlock ≠ some k) := by
  obtain ⟨_, cs, hh⟩ := own_heap h.row hk
  refine ⟨type_ne hh h.sblk (by decide), type_ne hh h.mrow (by decide), fun i hi => ⟨type_ne hh (h.blk i hi) (by decide), fun e => ?_⟩⟩
  obtain ⟨_, cs', hh'⟩ := own_heap (h.lv i hi) e
  exact type_ne hh hh' (by decide) rfl
/-- A place is written. -/
theorem SAt.setM (h : SAt B w gs gm vo g vl l m) (k : Nat) (x : Int) : SAt B (w.setCell ⟨gm, k, none⟩ (.int .i64 x)) gs gm vo g vl l (m.set k x) := by
  have hg := grownBy_set w ⟨gm, k, none⟩ (.int .i64 x)
  refine ⟨(hg.block _ (heap_lt h.sblk) ?_).trans h.sblk, h.row.kept hg ?_, fun i hi => (hg.block _ (heap_lt (h.blk i hi)) ?_).trans (h.blk i hi), fun i hi => (h.lv i hi).kept hg (.inr (h.dm i hi)), h.gge, h.sge, h.mge, h.inj, h.dis, h.dm, ?_⟩
  · simpa using type_ne h.sblk h.mrow (by decide)
  · cases ho : vo.ownBlock with
    | none => exact .inl rfl
    | some q => exact .inr (by simpa using (h.rowBlock ho).2.1)
  · simpa using type_ne (h.blk i hi) h.mrow (by decide)
  · rw [heap_setCell_same w gm k _ _ _ h.mrow]
    congr 2
    apply Array.toList_inj.1
    simp [intVals, List.map_set]
/-- The topmost block's else is written. -/
theorem SAt.setOther (h : SAt B w gs gm vo g vl l m) (i : Nat) (hi : i < l.length) (x : Int) :
    SAt B (w.setCell ⟨g i, 1, none⟩ (.int .i64 x)) gs gm vo g vl (l.set i ((l.getD i default).withOther x)) m := by
  have hg := grownBy_set w ⟨g i, 1, none⟩ (.int .i64 x)
  have hl : (l.set i ((l.getD i default).withOther x)).length = l.length := by simp
  have hgt : ∀ j, j < l.length → (l.set i ((l.getD i default).withOther x)).getD j default = if j = i then ((l.getD i default).withOther x) else l.getD j default := by
    intro j hj
    by_cases e : j = i
    · subst e; simp [hj]
    · rw [if_neg e]; simp [Ne.symm e]
  have hrow : (w.setCell ⟨g i, 1, none⟩ (.int .i64 x)).ownsRow B 192 1 vo l.length (ptrs g l.length) := h.row.kept hg (by
    cases ho : vo.ownBlock with
    | none => exact .inl rfl
    | some q => exact .inr (by simpa using ((h.rowBlock ho).2.2 i hi).1))
  refine ⟨(hg.block _ (heap_lt h.sblk) ?_).trans h.sblk, by rw [hl]; exact hrow, fun j hj => ?_, fun j hj => ?_, fun j hj => h.gge j (by rwa [hl] at hj), h.sge, h.mge, fun a b ha hb => h.inj a b (by rwa [hl] at ha) (by rwa [hl] at hb),
    fun a b ha hb => h.dis a b (by rwa [hl] at ha) (by rwa [hl] at hb), fun a ha => h.dm a (by rwa [hl] at ha), (hg.block _ (heap_lt h.mrow) ?_).trans h.mrow⟩
  · simpa using type_ne h.sblk (h.blk i hi) (by decide)
  · rw [hl] at hj
    rw [hgt j hj]
    by_cases e : j = i
    · subst e
      rw [if_pos rfl, heap_setCell_same w (g j) 1 _ _ _ (h.blk j hj)]
      simp [blkCells, Blk.withOther]
    · rw [if_neg e, hg.block _ (heap_lt (h.blk j hj)) (by simpa using fun hh => e (h.inj j i hj hi hh))]
      exact h.blk j hj
  · rw [hl] at hj
    rw [hgt j hj]
    have hk : w.ownsRow B 3 1 (vl j) (l.getD j default).leaves.length (natInts (l.getD j default).leaves) := h.lv j hj
    have hk' := hk.kept hg (by
      cases ho : (vl j).ownBlock with
      | none => exact .inl rfl
      | some q =>
        obtain ⟨_, cs, hh⟩ := own_heap hk ho
        exact .inr (by simpa using type_ne hh (h.blk i hi) (by decide)))
    by_cases e : j = i
    · subst e; rw [if_pos rfl]; exact hk'
    · rw [if_neg e]; exact hk'
  · simpa using type_ne h.mrow (h.blk i hi) (by decide)
theorem ne_of_lt_ge {a b n : Nat} (h : a < n) (h' : n ≤ b) : a ≠ b := by omega
/-- A block more on the stack. -/
theorem SAt.push (h : SAt B w gs gm vo g vl l m) {w1 : World} {vo1 : Value} {gb : Nat} {b : Blk} (hb : w.heap[gb]? = some (.cells (blkCells b (.slice none 0 0)) 194 (0, 0))) (hgb : B ≤ gb) (hne : ∀ i, i < l.length → gb ≠ g i) (hbl : b.leaves = [])
    (hg : w.grownBy w1 vo.ownBlock) (hrow : w1.ownsRow B 192 1 vo1 (l.length + 1) (ptrs g l.length ++ [ptrB gb])) :
    SAt B (w1.setCell ⟨gs, 0, none⟩ vo1) gs gm vo1 (fun i => if i = l.length then gb else g i) (fun i => if i = l.length then .slice none 0 0 else vl i) (l ++ [b]) m := by
  have hlen : (l ++ [b]).length = l.length + 1 := by simp
  have hnot : ∀ (k : Nat) (cs : Array Value) (e : TypeId), w.heap[k]? = some (.cells cs e (0, 0)) → e ≠ 192 → some k ≠ vo.ownBlock := by
    intro k cs e hk he hh
    obtain ⟨_, cs', hh'⟩ := own_heap h.row hh.symm
    exact type_ne hk hh' he rfl
  have s1 : w1.heap[gs]? = some (.cells #[vo] 190 (0, 0)) := (hg.block _ (heap_lt h.sblk) (hnot _ _ _ h.sblk (by decide))).trans h.sblk
  have b1 : w1.heap[gb]? = some (.cells (blkCells b (.slice none 0 0)) 194 (0, 0)) := (hg.block _ (heap_lt hb) (hnot _ _ _ hb (by decide))).trans hb
  have m1 : w1.heap[gm]? = some (.cells (intVals m).toArray 3 (0, 0)) := (hg.block _ (heap_lt h.mrow) (hnot _ _ _ h.mrow (by decide))).trans h.mrow
  have hlv : ∀ i, i < l.length → w1.ownsRow B 3 1 (vl i) (l.getD i default).leaves.length (natInts (l.getD i default).leaves) := fun i hi => (h.lv i hi).kept hg (by
    cases ho : (vl i).ownBlock with
    | none => exact .inl rfl
    | some q =>
      obtain ⟨_, cs, hh⟩ := own_heap (h.lv i hi) ho
      exact .inr (hnot _ _ _ hh (by decide)))
  have hg2 := grownBy_set w1 ⟨gs, 0, none⟩ vo1
  have hset : ∀ (k : Nat) (cs : Array Value) (e : TypeId), w1.heap[k]? = some (.cells cs e (0, 0)) → e ≠ 190 → (w1.setCell ⟨gs, 0, none⟩ vo1).heap[k]? = some (.cells cs e (0, 0)) := fun k cs e hk he =>
    (hg2.block _ (heap_lt hk) (by simpa using type_ne hk s1 he)).trans hk
  have hrk : ∀ {e s n : Nat} {v : Value} {xs : List Value}, e ≠ 190 → w1.ownsRow B e s v n xs → (w1.setCell ⟨gs, 0, none⟩ vo1).ownsRow B e s v n xs := fun he hr => hr.kept hg2 (by
    rename_i v xs
    cases ho : v.ownBlock with
    | none => exact .inl rfl
    | some q =>
      obtain ⟨_, cs, hh⟩ := own_heap hr ho
      exact .inr (by simpa using type_ne hh s1 he))
  have hgt : ∀ i, i < l.length → (l ++ [b]).getD i default = l.getD i default := fun i hi => by simp [List.getElem?_append_left hi]
  have hgn : (l ++ [b]).getD l.length default = b := by simp
  refine ⟨?_, ?_, fun i hi => ?_, fun i hi => ?_, fun i hi => ?_, h.sge, h.mge, fun i j hi hj hij => ?_, fun i j hi hj hij => ?_, fun i hi => ?_, hset _ _ _ m1 (by decide)⟩
  · rw [heap_setCell_same w1 gs 0 _ _ _ s1]; rfl
  · rw [hlen, ptrs_succ, if_pos rfl, ptrs_congr (g' := g) (fun i hi => if_neg (by omega))]
    exact hrk (by decide) hrow
  · rw [hlen] at hi
    by_cases e : i = l.length
    · subst e
      simp only [if_pos, hgn]
      exact hset _ _ _ b1 (by decide)
    · simp only [if_neg e, hgt i (by omega)]
      exact hset _ _ _ ((hg.block _ (heap_lt (h.blk i (by omega))) (hnot _ _ _ (h.blk i (by omega)) (by decide))).trans (h.blk i (by omega))) (by decide)
  · rw [hlen] at hi
    by_cases e : i = l.length
    · subst e
      simp only [if_pos, hgn, hbl]
      exact World.ownsRow_nil _ _ _ _
    · simp only [if_neg e, hgt i (by omega)]
      exact hrk (by decide) (hlv i (by omega))
  · rw [hlen] at hi
    by_cases e : i = l.length
    · simp only [if_pos e]; exact hgb
    · simp only [if_neg e]; exact h.gge i (by omega)
  · rw [hlen] at hi hj
    by_cases e : i = l.length
    · by_cases e' : j = l.length
      · omega
      · simp only [if_pos e, if_neg e'] at hij
        exact absurd hij (hne j (by omega))
    · by_cases e' : j = l.length
      · simp only [if_neg e, if_pos e'] at hij
        exact absurd hij.symm (hne i (by omega))
      · simp only [if_neg e, if_neg e'] at hij
        exact h.inj i j (by omega) (by omega) hij
  · rw [hlen] at hi hj
    by_cases e : i = l.length
    · simp only [if_pos e]; exact .inl rfl
    · by_cases e' : j = l.length
      · simp only [if_neg e, if_pos e']
        cases (vl i).ownBlock <;> simp [Value.ownBlock]
      · simp only [if_neg e, if_neg e']
        exact h.dis i j (by omega) (by omega) hij
  · rw [hlen] at hi
    by_cases e : i = l.length
    · simp only [if_pos e]; simp [Value.ownBlock]
    · simp only [if_neg e]; exact h.dm i (by omega)
/-- The topmost block goes. -/
theorem SAt.pop {l0 : List Blk} {b : Blk} (h : SAt B w gs gm vo g vl (l0 ++ [b]) m) {a : Nat} {cap : Nat} (hv : vo = .slice (some ⟨a, 0, none⟩) (l0.length + 1) cap) :
    SAt B (w.setCell ⟨gs, 0, none⟩ (.slice (some ⟨a, 0, none⟩) l0.length cap)) gs gm (.slice (some ⟨a, 0, none⟩) l0.length cap) g vl l0 m := by
  have hlen : (l0 ++ [b]).length = l0.length + 1 := by simp
  have hg2 := grownBy_set w ⟨gs, 0, none⟩ (.slice (some ⟨a, 0, none⟩) l0.length cap)
  have hset : ∀ (k : Nat) (cs : Array Value) (e : TypeId), w.heap[k]? = some (.cells cs e (0, 0)) → e ≠ 190 → (w.setCell ⟨gs, 0, none⟩ (.slice (some ⟨a, 0, none⟩) l0.length cap)).heap[k]? = some (.cells cs e (0, 0)) := fun k cs e hk he =>
    (hg2.block _ (heap_lt hk) (by simpa using type_ne hk h.sblk he)).trans hk
  have hrk : ∀ {e s n : Nat} {v : Value} {xs : List Value}, e ≠ 190 → w.ownsRow B e s v n xs → (w.setCell ⟨gs, 0, none⟩ (.slice (some ⟨a, 0, none⟩) l0.length cap)).ownsRow B e s v n xs := fun he hr => hr.kept hg2 (by
    rename_i v xs
    cases ho : v.ownBlock with
    | none => exact .inl rfl
    | some q =>
      obtain ⟨_, cs, hh⟩ := own_heap hr ho
      exact .inr (by simpa using type_ne hh h.sblk he))
  have hgt : ∀ i, i < l0.length → (l0 ++ [b]).getD i default = l0.getD i default := fun i hi => by simp [List.getElem?_append_left hi]
  have hrow := h.row
  rw [hlen, hv, ptrs_succ] at hrow
  refine ⟨?_, hrk (by decide) (ownsRow_pop (by simp [ptrs]) hrow), fun i hi => ?_, fun i hi => ?_, fun i hi => h.gge i (by omega), h.sge, h.mge, fun i j hi hj => h.inj i j (by omega) (by omega), fun i j hi hj => h.dis i j (by omega) (by omega), fun i hi => h.dm i (by omega), hset _ _ _ h.mrow (by decide)⟩
  · rw [heap_setCell_same w gs 0 _ _ _ h.sblk]; rfl
  · have := h.blk i (by omega)
    rw [hgt i hi] at this
    exact hset _ _ _ this (by decide)
  · have := h.lv i (by omega)
    rw [hgt i hi] at this
    exact hrk (by decide) this
/-- A leaf more in a block. -/
theorem SAt.leaf (h : SAt B w gs gm vo g vl l m) {i : Nat} (hi : i < l.length) {w1 : World} {v1 : Value} (k : Nat)
    (hg : w.grownBy w1 (vl i).ownBlock) (hat : v1.ownBlock = (vl i).ownBlock ∨ ∃ q, v1.ownBlock = some q ∧ w.heap.size ≤ q)
    (hrow : w1.ownsRow B 3 1 v1 ((l.getD i default).leaves.length + 1) (natInts (l.getD i default).leaves ++ [.int .i64 (k : Int)])) :
    SAt B (w1.setCell ⟨g i, 2, none⟩ v1) gs gm vo g (fun j => if j = i then v1 else vl j) (l.set i ((l.getD i default).withLeaf k)) m := by
  have hl : (l.set i ((l.getD i default).withLeaf k)).length = l.length := by simp
  have hgt : ∀ j, j < l.length → (l.set i ((l.getD i default).withLeaf k)).getD j default = if j = i then (l.getD i default).withLeaf k else l.getD j default := by
    intro j hj
    by_cases e : j = i
    · subst e; simp [hj]
    · rw [if_neg e]; simp [Ne.symm e]
  have hnot : ∀ (q : Nat) (cs : Array Value) (e : TypeId), w.heap[q]? = some (.cells cs e (0, 0)) → e ≠ 3 → some q ≠ (vl i).ownBlock := by
    intro q cs e hk he hh
    obtain ⟨_, cs', hh'⟩ := own_heap (h.lv i hi) hh.symm
    exact type_ne hk hh' he rfl
  have k1 : ∀ (q : Nat) (cs : Array Value) (e : TypeId), w.heap[q]? = some (.cells cs e (0, 0)) → e ≠ 3 → w1.heap[q]? = some (.cells cs e (0, 0)) := fun q cs e hk he => (hg.block _ (heap_lt hk) (hnot _ _ _ hk he)).trans hk
  have bi := k1 _ _ _ (h.blk i hi) (by decide)
  have hg2 := grownBy_set w1 ⟨g i, 2, none⟩ v1
  have hset : ∀ (q : Nat) (cs : Array Value) (e : TypeId), w1.heap[q]? = some (.cells cs e (0, 0)) → q ≠ g i → (w1.setCell ⟨g i, 2, none⟩ v1).heap[q]? = some (.cells cs e (0, 0)) := fun q cs e hk he =>
    (hg2.block _ (heap_lt hk) (by simpa using he)).trans hk
  have hrk : ∀ {e s n : Nat} {v : Value} {xs : List Value}, e ≠ 194 → w1.ownsRow B e s v n xs → (w1.setCell ⟨g i, 2, none⟩ v1).ownsRow B e s v n xs := fun he hr => hr.kept hg2 (by
    rename_i v xs
    cases ho : v.ownBlock with
    | none => exact .inl rfl
    | some q =>
      obtain ⟨_, cs, hh⟩ := own_heap hr ho
      exact .inr (by simpa using type_ne hh bi he))
  have hmne : (vl i).ownBlock ≠ some gm := h.dm i hi
  have hv1m : v1.ownBlock ≠ some gm := by
    rcases hat with e | ⟨q, e, hq⟩
    · rw [e]; exact hmne
    · rw [e]; have := heap_lt h.mrow; simp; omega
  have m1 : w1.heap[gm]? = some (.cells (intVals m).toArray 3 (0, 0)) := (hg.block _ (heap_lt h.mrow) (fun e => hmne e.symm)).trans h.mrow
  have hov : ∀ j, j < l.length → j ≠ i → (vl j).ownBlock = none ∨ (vl j).ownBlock ≠ v1.ownBlock := by
    intro j hj hji
    rcases hat with e | ⟨q, e, hq⟩
    · rw [e]; exact h.dis j i hj hi hji
    · cases ho : (vl j).ownBlock with
      | none => exact .inl rfl
      | some p =>
        obtain ⟨_, cs, hh⟩ := own_heap (h.lv j hj) ho
        have := heap_lt hh
        rw [e]
        exact .inr (by simp; omega)
  refine ⟨?_, ?_, fun j hj => ?_, fun j hj => ?_, fun j hj => h.gge j (by rwa [hl] at hj), h.sge, h.mge, fun a b ha hb => h.inj a b (by rwa [hl] at ha) (by rwa [hl] at hb), fun a b ha hb hab => ?_, fun a ha => ?_, ?_⟩
  · exact hset _ _ _ (k1 _ _ _ h.sblk (by decide)) (type_ne h.sblk (h.blk i hi) (by decide))
  · rw [hl]
    refine hrk (by decide) (h.row.kept hg ?_)
    cases ho : vo.ownBlock with
    | none => exact .inl rfl
    | some q => exact .inr (by have := ((h.rowBlock ho).2.2 i hi).2; intro e; exact this e.symm)
  · rw [hl] at hj
    rw [hgt j hj]
    by_cases e : j = i
    · subst e
      simp only [if_pos]
      rw [heap_setCell_same w1 (g j) 2 _ _ _ bi]
      simp [blkCells, Blk.withLeaf]
    · simp only [if_neg e]
      exact hset _ _ _ (k1 _ _ _ (h.blk j hj) (by decide)) (fun hh => e (h.inj j i hj hi hh))
  · rw [hl] at hj
    rw [hgt j hj]
    by_cases e : j = i
    · subst e
      simp only [if_pos]
      refine hrk (by decide) ?_
      simpa [Blk.withLeaf, natInts] using hrow
    · simp only [if_neg e]
      exact hrk (by decide) ((h.lv j hj).kept hg (h.dis j i hj hi e))
  · rw [hl] at ha hb
    by_cases e : a = i
    · by_cases e' : b = i
      · omega
      · simp only [if_pos e, if_neg e']
        rcases hov b hb e' with h1 | h1
        · rw [h1]; cases v1.ownBlock <;> simp
        · exact .inr (fun hh => h1 hh.symm)
    · by_cases e' : b = i
      · simp only [if_neg e, if_pos e']
        exact hov a ha e
      · simp only [if_neg e, if_neg e']
        exact h.dis a b ha hb hab
  · rw [hl] at ha
    by_cases e : a = i
    · simp only [if_pos e]; exact hv1m
    · simp only [if_neg e]; exact h.dm a ha
  · exact hset _ _ _ m1 (type_ne h.mrow (h.blk i hi) (by decide))
end
end Go.Proofs.Ytchmgilckiadaaa
