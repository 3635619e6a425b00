/- Scripts as bytes, in plain words: what is written, what is read, and that a right script is read as it was written. -/
import Derived.Test.YtchmgilckiadaaaRgl
namespace Go.Proofs.Ytchmgilckiadaaa
open Go.RowKit
/-- A number's lowest byte. -/
def lowB (n : Int) : UInt8 := UInt8.ofNat n.toNat
/-- Bytes as values. -/
def bytVals (l : List UInt8) : List Value := l.map fun b => .int .u8 (b.toNat : Int)
theorem bytVals_len (l : List UInt8) : (bytVals l).length = l.length := by simp [bytVals]
theorem bytVals_append (a b : List UInt8) : bytVals (a ++ b) = bytVals a ++ bytVals b := by simp [bytVals]
/-- So many bytes of a number, the highest first. -/
def bigF (n : Nat) (size : Nat) : List UInt8 := (List.range size).map fun j => UInt8.ofNat (n / 2 ^ (8 * (size - 1 - j)) % 256)
def numF (x : Int) : List UInt8 := bigF (x % 18446744073709551616).toNat 8
def textF (s : ByteArray) : List UInt8 := bigF s.size 2 ++ s.data.toList
def listF (xs : List Int) : List UInt8 := lowB xs.length :: xs.map lowB
def argF (x : Ins) : List UInt8 := if takesF x.1 = 0 then [] else if takesF x.1 = 1 then numF x.2 else [lowB x.2]
def insF (x : Ins) : List UInt8 := lowB x.1 :: argF x
def fnF (f : Fn) : List UInt8 := listF f.params ++ (listF f.results ++ (listF f.locals ++ (bigF f.code.length 2 ++ f.code.flatMap insF)))
/-- A script's bytes. -/
def putF (s : Scr) : List UInt8 := lowB s.consts.length :: (s.consts.flatMap textF ++ (lowB s.funcs.length :: s.funcs.flatMap fnF))
/-- What is read: of none: too short. -/
abbrev Rd (α : Type) := List UInt8 → Option (α × List UInt8)
def rdByte : Rd Int
  | [] => none
  | b :: l => some ((b.toNat : Int), l)
def rdTake (n : Nat) : Rd (List UInt8) := fun l => if l.length < n then none else some (l.take n, l.drop n)
def numOf (l : List UInt8) : Nat := l.foldl (fun n b => n * 256 + b.toNat) 0
def rdInt : Rd Int := fun l => (rdTake 8 l).bind fun p => some (IntKind.i64.wrap (numOf p.1), p.2)
def rdText : Rd ByteArray := fun l => (rdTake 2 l).bind fun p => (rdTake (numOf p.1) p.2).bind fun q => some (⟨q.1.toArray⟩, q.2)
def rdMany {α : Type} (rd : Rd α) : Nat → Rd (List α)
  | 0, l => some ([], l)
  | n + 1, l => (rd l).bind fun p => (rdMany rd n p.2).bind fun q => some (p.1 :: q.1, q.2)
def rdList : Rd (List Int) := fun l => (rdByte l).bind fun p => rdMany rdByte p.1.toNat p.2
def rdArg (o : Int) : Rd Int := fun l => if takesF o = 0 then some (0, l) else if takesF o = 1 then rdInt l else rdByte l
def rdIns : Rd Ins := fun l => (rdByte l).bind fun p => (rdArg p.1 p.2).bind fun q => some ((p.1, q.1), q.2)
def rdFn : Rd Fn := fun l => (rdList l).bind fun p => (rdList p.2).bind fun r => (rdList r.2).bind fun o => (rdTake 2 o.2).bind fun n => (rdMany rdIns (numOf n.1) n.2).bind fun c => some (⟨p.1, r.1, o.1, c.1⟩, c.2)
def rdScr : Rd Scr := fun l => (rdByte l).bind fun n => (rdMany rdText n.1.toNat n.2).bind fun c => (rdByte c.2).bind fun m => (rdMany rdFn m.1.toNat m.2).bind fun f => some (⟨c.1, f.1⟩, f.2)
/-- Bytes as a script. -/
def getF (l : List UInt8) : Option Scr := (rdScr l).bind fun p => if p.2 = [] ∧ rightB p.1 = true then some p.1 else none
theorem toNat_ofNat (n : Nat) : (UInt8.ofNat n).toNat = n % 256 := by simp
theorem u8_toNat {n : Int} (h0 : 0 ≤ n) (h1 : n < 256) : ((lowB n).toNat : Int) = n := by
  unfold lowB
  rw [toNat_ofNat]
  omega
theorem u8_toNat' {n : Int} (h0 : 0 ≤ n) (h1 : n < 256) : (lowB n).toNat = n.toNat := by
  have := u8_toNat h0 h1
  omega
theorem rdByte_u8 {n : Int} (h0 : 0 ≤ n) (h1 : n < 256) (X : List UInt8) : rdByte (lowB n :: X) = some (n, X) := by
  show some (((lowB n).toNat : Int), X) = _
  rw [u8_toNat h0 h1]
theorem rdTake_append {a : List UInt8} {n : Nat} (h : a.length = n) (X : List UInt8) : rdTake n (a ++ X) = some (a, X) := by
  subst h
  unfold rdTake
  rw [if_neg (by simp)]
  simp
theorem bigF_len (n size : Nat) : (bigF n size).length = size := by simp [bigF]
theorem numOf_big2 (n : Nat) (h : n < 65536) : numOf (bigF n 2) = n := by
  simp only [numOf, bigF, List.range, List.range.loop, List.map_cons, List.map_nil, List.foldl_cons, List.foldl_nil, toNat_ofNat]
  omega
theorem numOf_snoc (l : List UInt8) (b : UInt8) : numOf (l ++ [b]) = numOf l * 256 + b.toNat := by simp [numOf]
theorem bigF_succ (n k : Nat) : bigF n (k + 1) = bigF (n / 256) k ++ [UInt8.ofNat (n % 256)] := by
  unfold bigF
  rw [List.range_succ, List.map_append]
  congr 1
  · apply List.map_congr_left
    intro j hj
    have hj := List.mem_range.1 hj
    congr 2
    rw [Nat.div_div_eq_div_mul]
    congr 1
    have e : 8 * (k + 1 - 1 - j) = 8 + 8 * (k - 1 - j) := by omega
    rw [e, Nat.pow_add]
  · simp
theorem numOf_big (k : Nat) : ∀ n, n < 256 ^ k → numOf (bigF n k) = n := by
  induction k with
  | zero => intro n h; simp at h; subst h; rfl
  | succ k ih =>
    intro n h
    rw [bigF_succ, numOf_snoc, ih (n / 256) (by rw [Nat.pow_succ] at h; omega), toNat_ofNat]
    omega
theorem numOf_big8 (n : Nat) (h : n < 18446744073709551616) : numOf (bigF n 8) = n := numOf_big 8 n (by simpa using h)
theorem rdInt_num {x : Int} (h : I64 x) (X : List UInt8) : rdInt (numF x ++ X) = some (x, X) := by
  unfold rdInt numF
  rw [rdTake_append (bigF_len _ _)]
  simp only [Option.bind_some]
  rw [numOf_big8 _ (by omega)]
  congr 2
  obtain ⟨h0, h1⟩ := h
  rw [IntKind.wrap_i64]
  omega
theorem rdText_text {s : ByteArray} (h : s.size < 65536) (X : List UInt8) : rdText (textF s ++ X) = some (s, X) := by
  unfold rdText textF
  rw [List.append_assoc, rdTake_append (bigF_len _ _)]
  simp only [Option.bind_some]
  rw [numOf_big2 _ h, rdTake_append (show s.data.toList.length = s.size from by rw [Array.length_toList]; rfl)]
  simp
theorem rdMany_flat {α : Type} {rd : Rd α} {f : α → List UInt8} : ∀ {l : List α}, (∀ x ∈ l, ∀ X, rd (f x ++ X) = some (x, X)) → ∀ X, rdMany rd l.length (l.flatMap f ++ X) = some (l, X)
  | [], _, X => rfl
  | x :: l, h, X => by
    have h1 := rdMany_flat (l := l) (fun y hy => h y (by simp [hy])) X
    rw [List.flatMap_cons, List.append_assoc, List.length_cons]
    unfold rdMany
    rw [h x (by simp)]
    simp only [Option.bind_some]
    rw [h1]
    rfl
theorem flatMap_one {α β : Type} (g : α → β) (l : List α) : l.map g = l.flatMap fun x => [g x] := by
  induction l with
  | nil => rfl
  | cons x l ih => simp [ih]
theorem rdList_list {xs : List Int} (hl : xs.length < 256) (h : ∀ x ∈ xs, 0 ≤ x ∧ x < 256) (X : List UInt8) : rdList (listF xs ++ X) = some (xs, X) := by
  unfold rdList listF
  rw [List.cons_append, rdByte_u8 (by omega) (by omega)]
  simp only [Option.bind_some]
  rw [show ((xs.length : Int)).toNat = xs.length from by omega, flatMap_one]
  exact rdMany_flat (fun x hx X => by
    have := h x hx
    exact rdByte_u8 this.1 this.2 X) X
/-- What an instruction's number must be to be written. -/
def InsFits (x : Ins) : Prop := (0 ≤ x.1 ∧ x.1 < 256) ∧ I64 x.2 ∧ (takesF x.1 = 0 → x.2 = 0) ∧ (takesF x.1 ≠ 1 → 0 ≤ x.2 ∧ x.2 < 256)
theorem rdIns_ins {x : Ins} (h : InsFits x) (X : List UInt8) : rdIns (insF x ++ X) = some (x, X) := by
  obtain ⟨h1, h2, h3, h4⟩ := h
  obtain ⟨o, a⟩ := x
  unfold rdIns insF
  rw [List.cons_append, rdByte_u8 h1.1 h1.2]
  simp only [Option.bind_some]
  unfold rdArg argF
  simp only at h1 h2 h3 h4 ⊢
  by_cases c0 : takesF o = 0
  · rw [if_pos c0, if_pos c0, h3 c0]
    rfl
  · rw [if_neg c0, if_neg c0]
    by_cases c1 : takesF o = 1
    · rw [if_pos c1, if_pos c1, rdInt_num h2]
      rfl
    · have := h4 c1
      rw [if_neg c1, if_neg c1, List.singleton_append, rdByte_u8 this.1 this.2]
      rfl
structure FnFits (f : Fn) : Prop where
  pl : f.params.length < 256
  p : ∀ x ∈ f.params, 0 ≤ x ∧ x < 256
  rl : f.results.length < 256
  r : ∀ x ∈ f.results, 0 ≤ x ∧ x < 256
  ll : f.locals.length < 256
  l : ∀ x ∈ f.locals, 0 ≤ x ∧ x < 256
  cl : f.code.length < 65536
  c : ∀ x ∈ f.code, InsFits x
theorem rdFn_fn {f : Fn} (h : FnFits f) (X : List UInt8) : rdFn (fnF f ++ X) = some (f, X) := by
  unfold rdFn fnF
  rw [List.append_assoc, rdList_list h.pl h.p]
  simp only [Option.bind_some]
  rw [List.append_assoc, rdList_list h.rl h.r]
  simp only [Option.bind_some]
  rw [List.append_assoc, rdList_list h.ll h.l]
  simp only [Option.bind_some]
  rw [List.append_assoc, rdTake_append (bigF_len _ _)]
  simp only [Option.bind_some]
  rw [numOf_big2 _ h.cl, rdMany_flat (fun x hx X => rdIns_ins (h.c x hx) X)]
  rfl
structure ScrFits (s : Scr) : Prop where
  cl : s.consts.length < 256
  c : ∀ x ∈ s.consts, x.size < 65536
  fl : s.funcs.length < 256
  f : ∀ x ∈ s.funcs, FnFits x
theorem rdScr_put {s : Scr} (h : ScrFits s) (X : List UInt8) : rdScr (putF s ++ X) = some (s, X) := by
  unfold rdScr putF
  rw [List.cons_append, rdByte_u8 (by omega) (by have := h.cl; omega)]
  simp only [Option.bind_some]
  rw [List.append_assoc, show ((s.consts.length : Int)).toNat = s.consts.length from by omega, rdMany_flat (fun x hx X => rdText_text (h.c x hx) X)]
  simp only [Option.bind_some]
  rw [List.cons_append, rdByte_u8 (by omega) (by have := h.fl; omega)]
  simp only [Option.bind_some]
  rw [show ((s.funcs.length : Int)).toNat = s.funcs.length from by omega, rdMany_flat (fun x hx X => rdFn_fn (h.f x hx) X)]
  rfl
/-- The numbers that an int holds, all over a script. -/
def ScrI64 (s : Scr) : Prop := ∀ f ∈ s.funcs, ∀ x ∈ f.code, I64 x.2
theorem types_fit {l : List Int} {m : Int} (h : typesB l m = true) : (l.length : Int) ≤ m ∧ ∀ x ∈ l, 0 ≤ x ∧ x < 256 := by
  unfold typesB at h
  simp only [Bool.and_eq_true, List.all_eq_true, decide_eq_true_eq] at h
  refine ⟨h.2, fun x hx => ?_⟩
  have := h.1 x hx
  unfold typeB at this
  simp only [decide_eq_true_eq] at this
  omega
theorem ins_fit {nc nf slots : Int} {x : Ins} (h : instrB nc nf slots x = true) (hn : nc ≤ 32) (hf : nf ≤ 16) (hs : slots ≤ 16) (hi : I64 x.2) : InsFits x := by
  unfold instrB at h
  simp only [Bool.and_eq_true, decide_eq_true_eq] at h
  obtain ⟨h1, h2⟩ := h
  refine ⟨by omega, hi, fun e => ?_, fun e => ?_⟩
  · rw [if_neg (by omega), if_neg (by omega), if_neg (by omega), if_neg (by omega), if_neg (by omega)] at h2
    simpa using h2
  · rw [if_neg e] at h2
    split at h2
    · simp at h2; omega
    · split at h2
      · simp at h2; omega
      · split at h2
        · simp at h2; omega
        · split at h2
          · simp at h2; omega
          · simp at h2; omega
theorem fn_fit {nc nf : Int} {f : Fn} (h : fnB nc nf f = true) (hn : nc ≤ 32) (hf : nf ≤ 16) (hi : ∀ x ∈ f.code, I64 x.2) : FnFits f := by
  unfold fnB at h
  simp only [Bool.and_eq_true, decide_eq_true_eq, List.all_eq_true] at h
  obtain ⟨⟨⟨⟨⟨h1, h2⟩, h3⟩, h4⟩, h5⟩, h6⟩ := h
  obtain ⟨p1, p2⟩ := types_fit h1
  obtain ⟨r1, r2⟩ := types_fit h2
  obtain ⟨l1, l2⟩ := types_fit h3
  exact ⟨by omega, p2, by omega, r2, by omega, l2, by omega, fun x hx => ins_fit (h6 x hx) hn hf h4 (hi x hx)⟩
theorem scr_fit {s : Scr} (h : rightB s = true) (hi : ScrI64 s) : ScrFits s := by
  unfold rightB at h
  simp only [Bool.and_eq_true, decide_eq_true_eq, List.all_eq_true] at h
  obtain ⟨⟨⟨h1, h2⟩, h3⟩, h4⟩ := h
  exact ⟨by omega, fun x hx => by have := h3 x hx; omega, by omega, fun x hx => fn_fit (h4 x hx) h1 h2.2 (hi x hx)⟩
/-- Two right scripts have the same bytes just if they are the same. -/
theorem put_inj {s t : Scr} (hs : rightB s = true) (ht : rightB t = true) (is : ScrI64 s) (it : ScrI64 t) (h : putF s = putF t) : s = t := by
  have h1 := rdScr_put (scr_fit hs is) []
  have h2 := rdScr_put (scr_fit ht it) []
  rw [h, h2] at h1
  simp only [Option.some.injEq, Prod.mk.injEq, and_true] at h1
  exact h1.symm
theorem put_dec {s t : Scr} (hs : rightB s = true) (ht : rightB t = true) (is : ScrI64 s) (it : ScrI64 t) : decide (putF s = putF t) = decide (s = t) := by
  by_cases e : s = t
  · subst e; simp
  · rw [decide_eq_false e, decide_eq_false (fun h => e (put_inj hs ht is it h))]
end Go.Proofs.Ytchmgilckiadaaa
