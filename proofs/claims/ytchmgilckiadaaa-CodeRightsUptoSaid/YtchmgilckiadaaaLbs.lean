/- The kit's texts that the later walks lean on. -/
import Derived.Test.YtchmgilckiadaaaBas
import Derived.Deep.Upon
import Derived.RangeFuncNested
import Derived.RangeFuncBound
import Derived.RangeFuncCalls
import Derived.RangeFuncLeaves
import Derived.Shelf.Abstract
import Derived.Shelf.RegionOpen
import Derived.OwnWalkIn
import Derived.TacticsInMore
import Derived.LoopNIn
import Derived.LoopIn
import Derived.RangeFuncFrom
import Derived.Deep.RegionHeld
import Derived.Deep.RegionHeld3
import Derived.WalkSpells
import Derived.Laws.EntriesVeiled
import Derived.Deep.QuietTactic
import Derived.BigQuiet
import Derived.Shelf.Spec.SlicesInsert
import Derived.Laws.MathBits
import Derived.RangeFuncRecord
import Derived.Deep.CutBlock
import Derived.Deep.DeepMust
import Derived.WalkSmall
import Derived.Maps.AppendAt
import Derived.WalkKit
import Derived.LoopTactic
import Derived.Below
import Derived.Outline
import Derived.Deep.WholeRow
import Derived.Laws.Tables
import Derived.Lib.Hide
import Derived.RowKit3
import Derived.Deep.AppendLies
import Derived.OwnWalk
namespace Go.Proofs.Ytchmgilckiadaaa
open Go.RowKit
theorem alloc2_fst (W : World) (a : Array Value) (t : TypeId) (o : Obj) : ((W.alloc (.cells a t)).alloc o).heap[W.heap.size]? = some (.cells a t (0, 0)) :=
  ((below_new (W.alloc (.cells a t)) o).block _ (by simp)).trans (World.alloc_heap_new W _)
theorem alloc2_snd (W : World) (a : Array Value) (t : TypeId) (o : Obj) : ((W.alloc o).alloc (.cells a t)).heap[W.heap.size + 1]? = some (.cells a t (0, 0)) := by
  have h := World.alloc_heap_new (W.alloc o) (.cells a t)
  rwa [World.size_alloc] at h
end Go.Proofs.Ytchmgilckiadaaa
