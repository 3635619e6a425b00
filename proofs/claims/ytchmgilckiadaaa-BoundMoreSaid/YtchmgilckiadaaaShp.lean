/- Blocks that open and close: what shape.scan does, in plain words. -/
import Derived.Test.YtchmgilckiadaaaVoc
namespace Go.Proofs.Ytchmgilckiadaaa
/-- A block that is open: where, its else (-1: none), its leaves. -/
structure Blk where
  at_ : Nat
  other : Int
  leaves : List Nat
  deriving Inhabited
def Blk.withOther (b : Blk) (x : Int) : Blk := ⟨b.at_, x, b.leaves⟩
def Blk.withLeaf (b : Blk) (i : Nat) : Blk := ⟨b.at_, b.other, b.leaves ++ [i]⟩
/-- The operation at a place. -/
def opAt (c : List Ins) (i : Nat) : Int := (c.getD i (0, 0)).1
/-- The topmost block that is a loop: its place in the stack. -/
def topLoop (c : List Ins) (l : List Blk) : Option Nat :=
  (List.range l.length).reverse.find? fun k => opAt c (l.getD k default).at_ == 51
/-- One instruction: the stack (the topmost block last), and the places that are known. -/
def scanStep (c : List Ins) (i : Nat) (st : List Blk × List Int) : Option (List Blk × List Int) :=
  let l := st.1
  let m := st.2
  if opAt c i = 48 ∨ opAt c i = 51 then (if 8 < l.length + 1 then none else some (l ++ [⟨i, -1, []⟩], m))
  else if opAt c i = 49 then
    (match l.getLast? with
    | none => none
    | some b => if 0 ≤ b.other ∨ opAt c b.at_ ≠ 48 then none else some (l.dropLast ++ [b.withOther i], m.set b.at_ i))
  else if opAt c i = 50 then
    (match l.getLast? with
    | none => none
    | some b => some (l.dropLast, b.leaves.foldl (fun m k => m.set k (i : Int)) ((m.set i (b.at_ : Int)).set (if 0 ≤ b.other then b.other.toNat else b.at_) (i : Int))))
  else if opAt c i = 52 then
    (match topLoop c l with
    | none => none
    | some k => some (l.set k ((l.getD k default).withLeaf i), m))
  else some (l, m)
/-- So many instructions, from the first one on. -/
def scanTo (c : List Ins) : Nat → Option (List Blk × List Int)
  | 0 => some ([], List.replicate c.length (-1))
  | i + 1 => (scanTo c i).bind (scanStep c i)
/-- All of them: where they lead; none: they are not of good shape. -/
def scanF (c : List Ins) : Option (List Int) :=
  (scanTo c c.length).bind fun st => if st.1 = [] then some st.2 else none
end Go.Proofs.Ytchmgilckiadaaa
