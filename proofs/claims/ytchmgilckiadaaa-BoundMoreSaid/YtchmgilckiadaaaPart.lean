/- shape.Match and bound.Part by contract. -/
import Derived.Test.YtchmgilckiadaaaScan
import Derived.Test.YtchmgilckiadaaaPart3a
namespace Go.Proofs.Ytchmgilckiadaaa
open Go.RowKit
theorem match_any (vc : Value) (c : List Ins) (w : World) (hc : Code_ w vc c) (hlen : c.length ≤ 8796093022208) : Calls Try.prog 58 #[vc] w (ScanPost c w) := by
  have H := Lib.hid (scan_any vc c w hc hlen)
  clear hc
  go_enter Try.func58, Try.ntmps58
  cases hs : scanF c with
  | none =>
    have HS := Lib.hid hs
    clear hs
    go_wp2_with (go_at_call 126; (with_reducible refine H.out.mono ?_); go_must (rintro e w1 ⟨he, hb⟩; rw [HS.out] at he; subst he))
    go_ret2
    refine ⟨?_, hb⟩
    rw [HS.out]
    rfl
  | some m =>
    have HS := Lib.hid hs
    clear hs
    go_wp2_with (go_at_call 126; (with_reducible refine H.out.mono ?_); go_must (rintro e w1 ⟨he, hb⟩; rw [HS.out] at he; obtain ⟨q, rfl, hq, hrow, hml⟩ := he; have HROW := Lib.hid hrow; have HQ := Lib.hid hq; clear hrow hq))
    go_ret2
    refine ⟨?_, hb⟩
    rw [HS.out]
    exact ⟨q, rfl, HQ.out, HROW.out, hml⟩
end Go.Proofs.Ytchmgilckiadaaa
