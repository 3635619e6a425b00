/- The walk of bound.Part's closure. -/
import Derived.Test.YtchmgilckiadaaaPart3
import Derived.WalkSpells
namespace Go.Proofs.Ytchmgilckiadaaa
open Go.RowKit
/-- The round's variable x: two cells in the block that was made there. -/
def XAt (w : World) (b : Nat) (o a : Int) : Prop := w.cell? ⟨b, 0, none⟩ = some (.int .i64 o) ∧ w.cell? ⟨b, 1, none⟩ = some (.int .i64 a)
theorem XAt.ext {w w1 : World} {b : Nat} {o a : Int} (h : XAt w b o a) (hb : Below w.heap.size w w1) : XAt w1 b o a := ⟨cell_ext h.1 hb, cell_ext h.2 hb⟩
theorem XAt.new (w : World) (o a : Int) : XAt (w.alloc (.cells #[.int .i64 o, .int .i64 a] 35)) w.heap.size o a := by
  constructor
  · rw [cell_of_row _ w.heap.size 0 _ _ _ (heap_alloc_last w _)]; rfl
  · rw [cell_of_row _ w.heap.size 1 _ _ _ (heap_alloc_last w _)]; rfl
theorem cost_any' (op : Int) (w : World) (h0 : -9223372036854775808 ≤ op) (h1 : op ≤ 9223372036854775807) :
    Calls Try.prog 32 #[.int .i64 op] w fun e w' => e = .returned (.int .i64 (costF op)) ∧ Below w.heap.size w w' := cost_any op w h0 h1
theorem sum2_any (w : World) (n : Nat) (a b : Int) (hn : n = w.heap.size) (ha : 0 ≤ a ∧ a ≤ 1048577) (hb : 0 ≤ b ∧ b ≤ 9223372036854775807) :
    Calls Try.prog 80 #[.slice (some ⟨n, 0, none⟩) 2 2] (w.alloc (.cells #[.int .i64 a, .int .i64 b] 3)) fun e w' => e = .returned (.int .i64 (sumF [a, b])) ∧ w.alloc (.cells #[.int .i64 a, .int .i64 b] 3) = w' := by
  subst hn
  exact sum_any _ _ _ (ints_two w a b ⟨by omega, by omega⟩ ⟨by omega, by omega⟩) (by simp; omega)
theorem sum2_bd {a b : Int} (ha : 0 ≤ a) (hb : 0 ≤ b) : 0 ≤ sumF [a, b] ∧ sumF [a, b] ≤ 1048577 := sumF_bd _ (by simp; omega)
theorem keep4 {W0 W W1 : World} {a1 a2 a3 a4 : Addr} {v1 v2 v3 v4 : Value} (h : W.cell? a1 = some v1 ∧ W.cell? a2 = some v2 ∧ W.cell? a3 = some v3 ∧ W.cell? a4 = some v4 ∧ Below W0.heap.size W0 W) (hB : Below W.heap.size W W1) :
    W1.cell? a1 = some v1 ∧ W1.cell? a2 = some v2 ∧ W1.cell? a3 = some v3 ∧ W1.cell? a4 = some v4 ∧ Below W0.heap.size W0 W1 :=
  ⟨cell_ext h.1 hB, cell_ext h.2.1 hB, cell_ext h.2.2.1 hB, cell_ext h.2.2.2.1 hB, h.2.2.2.2.trans (hB.mono h.2.2.2.2.size)⟩
theorem keep5 {W0 W W1 : World} {a1 a2 a3 a4 a5 : Addr} {v1 v2 v3 v4 v5 : Value} (h : W.cell? a1 = some v1 ∧ W.cell? a2 = some v2 ∧ W.cell? a3 = some v3 ∧ W.cell? a4 = some v4 ∧ W.cell? a5 = some v5 ∧ Below W0.heap.size W0 W) (hB : Below W.heap.size W W1) :
    W1.cell? a1 = some v1 ∧ W1.cell? a2 = some v2 ∧ W1.cell? a3 = some v3 ∧ W1.cell? a4 = some v4 ∧ W1.cell? a5 = some v5 ∧ Below W0.heap.size W0 W1 :=
  ⟨cell_ext h.1 hB, cell_ext h.2.1 hB, cell_ext h.2.2.1 hB, cell_ext h.2.2.2.1 hB, cell_ext h.2.2.2.2.1 hB, h.2.2.2.2.2.trans (hB.mono h.2.2.2.2.2.size)⟩
theorem run_max {P : Program} (x y : Int) (w : World) : (Builtin.max_ #[3, 3] 3 #[.int .i64 x, .int .i64 y]).run P w = .ok (.int .i64 (max x y)) w := by
  by_cases h : x < y
  · rw [show max x y = y by omega]
    simp [Builtin.max_, Builtin.max2, h]
  · rw [show max x y = x by omega]
    simp [Builtin.max_, Builtin.max2, h]
theorem keep3 {W0 W W1 : World} {a1 a2 a3 : Addr} {v1 v2 v3 : Value} (h : W.cell? a1 = some v1 ∧ W.cell? a2 = some v2 ∧ W.cell? a3 = some v3 ∧ Below W0.heap.size W0 W) (hB : Below W.heap.size W W1) :
    W1.cell? a1 = some v1 ∧ W1.cell? a2 = some v2 ∧ W1.cell? a3 = some v3 ∧ Below W0.heap.size W0 W1 :=
  ⟨cell_ext h.1 hB, cell_ext h.2.1 hB, cell_ext h.2.2.1 hB, h.2.2.2.trans (hB.mono h.2.2.2.size)⟩
theorem below_new (W : World) (o : Obj) : Below W.heap.size W (W.alloc o) := (Below.refl _ _).alloc (Nat.le_refl _) _
theorem partF_bd {c : List Ins} {m ks : List Int} : ∀ {f : Nat} {i to : Nat} {n r : Int}, 0 ≤ n ∧ n ≤ 1048577 → (∀ x ∈ ks, 0 ≤ x) → partF c m ks f i to n = some r → 0 ≤ r ∧ r ≤ 1048577 := by
  intro f
  induction f with
  | zero => intro i to n r _ _ h; simp [partF] at h
  | succ f ih =>
    intro i to n r hn hks h
    unfold partF at h
    have hc := costF_bd (c.getD i (0, 0)).1
    have hs := sum2_bd hn.1 hc.1
    split at h
    · split at h
      · split at h
        · rename_i _ hcnd
          exact ih (sum2_bd hs.1 (hks _ (getD_in (by omega)))) hks h
        · simp at h
      · split at h
        · split at h
          · rename_i _ hcnd
            obtain ⟨r1, hr1, h⟩ := Option.bind_eq_some_iff.1 h
            have h1 := ih ⟨Int.le_refl 0, by omega⟩ hks hr1
            exact ih (sum2_bd hs.1 (timesF_bd hcnd.1 (sum2_bd h1.1 (costF_bd 50).1).1).1) hks h
          · simp at h
        · split at h
          · split at h
            · obtain ⟨r1, hr1, h⟩ := Option.bind_eq_some_iff.1 h
              have h1 := ih ⟨Int.le_refl 0, by omega⟩ hks hr1
              have h2 := sum2_bd h1.1 (costF_bd (c.getD (m.getD i 0).toNat (0, 0)).1).1
              split at h
              · split at h
                · obtain ⟨r2, hr2, h⟩ := Option.bind_eq_some_iff.1 h
                  have h3 := ih ⟨Int.le_refl 0, by omega⟩ hks hr2
                  have h4 := sum2_bd h3.1 (costF_bd 50).1
                  exact ih (sum2_bd hs.1 (by omega)) hks h
                · simp at h
              · exact ih (sum2_bd hs.1 h2.1) hks h
            · simp at h
          · exact ih hs hks h
    · obtain rfl : n = r := by simpa using h
      exact hn
set_option maxRecDepth 100000 in
set_option maxHeartbeats 2000000 in
theorem part3_any (bc bk bp bm : Nat) (vc vk vm : Value) (c : List Ins) (ks m : List Int) (hks : ∀ x ∈ ks, 0 ≤ x) (fuel : Nat) : ∀ (from_ to : Nat) (fi ti r : Int) (w : World), fi = from_ → ti = to →
    PEnv w bc bk bp bm vc vk vm c ks m → from_ ≤ c.length → to ≤ c.length → c.length ≤ m.length → partF c m ks fuel from_ to 0 = some r →
    Calls Try.prog 79 #[.int .i64 fi, .int .i64 ti, .pointer (some ⟨bc, 0, none⟩), .pointer (some ⟨bk, 0, none⟩), .pointer (some ⟨bp, 0, none⟩), .pointer (some ⟨bm, 0, none⟩)] w
      fun e w' => e = .returned (.int .i64 r) ∧ Below w.heap.size w w' := by
  induction fuel using Nat.strongRecOn with
  | _ fuel ih =>
  intro from_ to fi ti r w hfi hti env hf ht hm hp
  subst hfi hti
  have hlen := env.c.len
  have IH := Lib.hid ih
  have ENV := Lib.hid env
  have HP := Lib.hid hp
  clear ih env hp
  go_enter Try.func79, Try.ntmps79
  go_wp2
  go_loopw [9, 10, 11, 12] (fun n i x y wr => ∃ (k f : Nat) (q : Int), k ≤ c.length ∧ f ≤ fuel ∧ i = .int .i64 k ∧ n = .int .i64 q ∧ 0 ≤ q ∧ q ≤ 1048577 ∧ partF c m ks f k to q = some r ∧ Below w.heap.size w wr) (fun _ i _ _ _ => to - (intOf i).toNat)
  case atStart => exact ⟨from_, fuel, 0, hf, Nat.le_refl _, rfl, rfl, by omega, by omega, HP.out, Below.refl _ _⟩
  case round =>
    obtain ⟨k, f, q, hk, hfu, rfl, rfl, hq0, hq1, hpf, hb⟩ := hrel
    cases f with
    | zero => simp [partF] at hpf
    | succ f =>
    by_cases hlt : k < to
    · unfold partF at hpf
      rw [if_pos hlt] at hpf
      have hE := ENV.out.ext hb
      obtain ⟨b, off, kc, rfl, hr⟩ := hE.c.open1 (by omega)
      obtain ⟨hd1, hd2⟩ := hr k (by omega)
      have hi := code_i64 hE.c.i64 k
      generalize hx : c.getD k (0, 0) = x at *
      obtain ⟨o, a⟩ := x
      obtain ⟨⟨ho0, ho1⟩, ⟨ha0, ha1⟩⟩ := hi
      dsimp only at hd1 hd2 ho0 ho1 ha0 ha1 hpf
      have hc := hE.pc
      have HDC := Lib.hid hr
      clear hr
      have HE := Lib.hid hE
      have HPF := Lib.hid hpf
      have HX := Lib.hid hx
      clear hE hpf hx
      by_cases h53 : o = 53
      · subst h53
        have hpf := HPF.out
        rw [if_pos rfl] at hpf
        split at hpf
        case isFalse => simp at hpf
        rename_i hcnd
        obtain ⟨hca, hcl⟩ := hcnd
        obtain ⟨a, rfl⟩ := Int.eq_ofNat_of_zero_le hca
        rw [Int.toNat_natCast] at hpf
        have hE := HE.out
        obtain ⟨Ak, ck, rfl, hrk⟩ := hE.k.open_
        obtain ⟨kb, ko, rfl, hdk⟩ := hrk a (by omega)
        have hy1 := (i64_getD hE.k.i64 a).2
        have hy0 : 0 ≤ ks.getD a 0 := by
          have : ks.getD a 0 = ks[a] := by simp [show a < ks.length by omega]
          rw [this]; exact hks _ (List.getElem_mem _)
        generalize hy : ks.getD a 0 = y at *
        have HY := Lib.hid hy
        have HPF1 := Lib.hid hpf
        have hpk := hE.pk
        clear hrk hE hy hpf HPF
        have hcb := costF_bd 53
        have hsb := sum2_bd hq0 hcb.1
        have hsb7 := sum2_bd hsb.1 hy0
        have hcl' : a < ks.length := by omega
        go_wp2_with (first
              | (go_at_call 32; (with_reducible refine (cost_any' _ _ ho0 ho1).mono ?_); go_must (rintro e w1 ⟨rfl, hb1⟩; obtain ⟨hx1, hx2⟩ := (XAt.new wr 53 a).ext hb1; have hz1 : wr.heap.size < w1.heap.size := (by have := hb1.size; simp at this; omega); have hbW : Below wr.heap.size wr w1 := (below_new wr _).trans (hb1.mono (by simp)); have hpk1 := cell_ext hpk hbW; have hdk1 := cell_ext hdk hbW; have hl1 := World.block_lt_of_cell? w1 _ hpk1; have hl2 := World.block_lt_of_cell? w1 _ hdk1; have HB1 := Lib.hid hbW; clear hbW hb1 hpk hdk hd1 hd2 hc))
              | (go_at_call 80; (with_reducible refine (sum2_any _ _ q (costF 53) (by simp) ⟨hq0, hq1⟩ (by omega)).mono ?_); rintro e w2 ⟨rfl, rfl⟩)
              | (go_at_call 80; (with_reducible refine (sum2_any _ _ (sumF [q, costF 53]) y (by simp) hsb ⟨hy0, hy1⟩).mono ?_); rintro e w2 ⟨rfl, rfl⟩))
        go_roundw
        case rel =>
          refine ⟨k + 1, f, sumF [sumF [q, costF 53], y], by omega, by omega, by go_num, rfl, hsb7.1, hsb7.2, HPF1.out, ?_⟩
          have h1 := hb.trans (HB1.out.mono hb.size)
          exact (h1.alloc h1.size _).alloc (by simp; have := h1.size; omega) _
        case measure => simp [intOf]; omega
      · by_cases h51 : o = 51
        · subst h51
          have hpf := HPF.out
          rw [if_neg h53, if_pos rfl] at hpf
          split at hpf
          case isFalse => simp at hpf
          rename_i hcnd
          obtain ⟨hca, hcj, hct⟩ := hcnd
          cases hr1 : partF c m ks f (k + 1) (m.getD k 0).toNat 0 with
          | none => rw [hr1] at hpf; simp at hpf
          | some r1 =>
          rw [hr1, Option.bind_some] at hpf
          have hr1b := partF_bd ⟨Int.le_refl 0, by omega⟩ hks hr1
          have hE := HE.out
          obtain ⟨Am, cm, rfl, hrm⟩ := hE.m.open_
          obtain ⟨mb, mo, rfl, hdm⟩ := hrm k (by omega)
          generalize hj : m.getD k 0 = j at *
          obtain ⟨j, rfl⟩ := Int.eq_ofNat_of_zero_le (show 0 ≤ j by omega)
          rw [Int.toNat_natCast] at hpf hr1
          have HJ := Lib.hid hj
          have HPF1 := Lib.hid hpf
          have HR1 := Lib.hid hr1
          have hpm := hE.pm
          have hpp := hE.pp
          clear hrm hE hj hpf hr1 HPF h53
          have hcb := costF_bd 51
          have hsb := sum2_bd hq0 hcb.1
          have hk0 : (0 : Int) ≤ (k : Int) := Int.natCast_nonneg _
          have hk1 : (k : Int) < (m.length : Int) := by omega
          have hww : IntKind.i64.wrap ((k : Int) + 1) = (k : Int) + 1 := IntWalk.i64_in _ (by omega)
          go_wp2_with (first
              | (go_at_call 32; refine (cost_any' _ _ ho0 ho1).mono ?_; rintro e w1 ⟨rfl, hb1⟩; obtain ⟨hx1, hx2⟩ := (XAt.new wr 51 a).ext hb1; have hz1 : wr.heap.size < w1.heap.size := by have := hb1.size; simp at this; omega)
              | (go_at_call 80; refine (sum2_any _ _ q (costF 51) (by simp) ⟨hq0, hq1⟩ (by omega)).mono ?_; rintro e w2 ⟨rfl, rfl⟩))
          have hbW : Below wr.heap.size wr (w1.alloc (.cells #[.int .i64 q, .int .i64 (costF 51)] 3)) :=
            ((below_new wr _).trans (hb1.mono (by simp))).alloc (by omega) _
          have hx3 := cell_ext hx2 (below_new w1 (.cells #[.int .i64 q, .int .i64 (costF 51)] 3))
          generalize w1.alloc (.cells #[.int .i64 q, .int .i64 (costF 51)] 3) = W1 at hbW hx3 ⊢
          have hpm1 := cell_ext hpm hbW
          have hpp1 := cell_ext hpp hbW
          have hdm1 := cell_ext hdm hbW
          have HBW := Lib.hid hbW
          clear hx1 hx2 hz1 hb1 hbW hpm hpp hdm hd1 hd2 hc
          have hcb5 := costF_bd 50
          have hsb5 := sum2_bd hr1b.1 hcb5.1
          have htb := timesF_bd hca hsb5.1
          have hcb6 : 0 ≤ costF 50 ∧ costF 50 ≤ 9223372036854775807 := by omega
          have htb6 : 0 ≤ timesF a (sumF [r1, costF 50]) ∧ timesF a (sumF [r1, costF 50]) ≤ 9223372036854775807 := by omega
          go_region_held3 (fun W => W.cell? ⟨wr.heap.size, 1, none⟩ = some (.int .i64 a) ∧ W.cell? ⟨bp, 0, none⟩ = some (.func (.func 79) #[] #[.pointer (some ⟨bc, 0, none⟩), .pointer (some ⟨bk, 0, none⟩), .pointer (some ⟨bp, 0, none⟩), .pointer (some ⟨bm, 0, none⟩)]) ∧ W.cell? ⟨bm, 0, none⟩ = some (.slice (some ⟨mb, mo, none⟩) m.length cm) ∧ W.cell? ⟨mb, mo + k, none⟩ = some (.int .i64 j) ∧ Below W1.heap.size W1 W)
            (first | assumption | exact ⟨hx3, hpp1, hpm1, hdm1, (Below.refl _ _).drew⟩ | (with_reducible exact keep4 (by assumption) (by assumption)) | (with_reducible exact keep4 (by assumption) (below_new _ _)))
            (first
              | (go_at_call 79; (with_reducible refine (IH.out f (by omega) (k + 1) j _ _ r1 _ (by omega) (by omega) ((HE.out.ext HBW.out).ext (‹_ ∧ _ ∧ _ ∧ _ ∧ Below _ _ _›).2.2.2.2) (by omega) (by omega) hm HR1.out).mono ?_); rintro e w2 ⟨rfl, hb2⟩)
              | (go_at_call 32; (with_reducible refine (cost_any' 50 _ (by omega) (by omega)).mono ?_); rintro e w2 ⟨rfl, hb2⟩)
              | (go_at_call 81; (with_reducible refine (times_any a _ _ hca hsb5.1).mono ?_); rintro e w2 ⟨rfl, rfl⟩)
              | (go_at_call 80; (with_reducible refine (sum2_any _ _ r1 (costF 50) (by simp) hr1b hcb6).mono ?_); rintro e w2 ⟨rfl, rfl⟩)
              | (go_at_call 80; (with_reducible refine (sum2_any _ _ (sumF [q, costF 51]) (timesF a (sumF [r1, costF 50])) (by simp) hsb htb6).mono ?_); rintro e w2 ⟨rfl, rfl⟩))
          obtain ⟨hy1, hy2, hy3, hy4, hy5⟩ := ‹_ ∧ _ ∧ _ ∧ _ ∧ Below _ _ _›
          clear hb2
          generalize World.alloc (World.alloc _ _) _ = W2 at hy1 hy2 hy3 hy4 hy5 ⊢
          have HY5 := Lib.hid hy5
          have hj1 : (j : Int) ≤ 9223372036854775806 := by omega
          clear hx3 hpm1 hpp1 hdm1 hy5
          go_wp2
          go_roundw
          case rel =>
            have hsb7 := sum2_bd hsb.1 htb.1
            refine ⟨j + 1, f, sumF [sumF [q, costF 51], timesF a (sumF [r1, costF 50])], by omega, by omega, by go_num, rfl, hsb7.1, hsb7.2, HPF1.out, ?_⟩
            exact (hb.trans (HBW.out.mono hb.size)).trans (HY5.out.mono (Nat.le_trans hb.size HBW.out.size))
          case measure => simp [intOf]; omega
        · by_cases h48 : o = 48
          · subst h48
            have hpf := HPF.out
            rw [if_neg h53, if_neg h51, if_pos rfl] at hpf
            split at hpf
            case isFalse => simp at hpf
            rename_i hcnd
            obtain ⟨hcj, hct⟩ := hcnd
            cases hr1 : partF c m ks f (k + 1) (m.getD k 0).toNat 0 with
            | none => rw [hr1] at hpf; simp at hpf
            | some r1 =>
            rw [hr1, Option.bind_some] at hpf
            have hr1b := partF_bd ⟨Int.le_refl 0, by omega⟩ hks hr1
            have hE := HE.out
            obtain ⟨mb, mo, cm, rfl, hrm⟩ := hE.m.open1 (by omega)
            have hdm := hrm k (by omega)
            generalize hj : m.getD k 0 = j at *
            obtain ⟨j, rfl⟩ := Int.eq_ofNat_of_zero_le (show 0 ≤ j by omega)
            rw [Int.toNat_natCast] at hpf hr1
            have hdm2 := hrm j (by omega)
            have hdj := (HDC.out j (by omega)).1
            have hjj := (code_i64 hE.c.i64 j).1
            generalize hoj : (c.getD j (0, 0)).1 = oj at *
            obtain ⟨hoj0, hoj1⟩ := hjj
            have HJ := Lib.hid hj
            have HR1 := Lib.hid hr1
            have HPF1 := Lib.hid hpf
            have HOJ := Lib.hid hoj
            have hpm := hE.pm
            have hpp := hE.pp
            clear hrm hE hj hr1 h53 h51 hpf hoj HPF
            have hcb := costF_bd 48
            have hsb := sum2_bd hq0 hcb.1
            have hcbj := costF_bd oj
            have hsbj := sum2_bd hr1b.1 hcbj.1
            have hcbj6 : 0 ≤ costF oj ∧ costF oj ≤ 9223372036854775807 := by omega
            have hk0 : (0 : Int) ≤ (k : Int) := Int.natCast_nonneg _
            have hk1 : (k : Int) < (m.length : Int) := by omega
            have hj0 : (0 : Int) ≤ (j : Int) := Int.natCast_nonneg _
            have hj1 : (j : Int) < (c.length : Int) := by omega
            have hj2 : (j : Int) < (m.length : Int) := by omega
            have hww : IntKind.i64.wrap ((k : Int) + 1) = (k : Int) + 1 := IntWalk.i64_in _ (by omega)
            go_wp2_with (first
              | (go_at_call 32; (with_reducible refine (cost_any' _ _ ho0 ho1).mono ?_); go_must (rintro e w1 ⟨rfl, hb1⟩; obtain ⟨hx1, hx2⟩ := (XAt.new wr 48 a).ext hb1; have hz1 : wr.heap.size < w1.heap.size := (by have := hb1.size; simp at this; omega)))
              | (go_at_call 80; (with_reducible refine (sum2_any _ _ q (costF 48) (by simp) ⟨hq0, hq1⟩ (by omega)).mono ?_); rintro e w2 ⟨rfl, rfl⟩))
            have hbW : Below wr.heap.size wr (w1.alloc (.cells #[.int .i64 q, .int .i64 (costF 48)] 3)) :=
              ((below_new wr _).trans (hb1.mono (by simp))).alloc (by omega) _
            generalize w1.alloc (.cells #[.int .i64 q, .int .i64 (costF 48)] 3) = W1 at hbW ⊢
            have hpm1 := cell_ext hpm hbW
            have hpp1 := cell_ext hpp hbW
            have hdm1 := cell_ext hdm hbW
            have hc1 := cell_ext hc hbW
            have hdj1 := cell_ext hdj hbW
            have hdm21 := cell_ext hdm2 hbW
            have HDM2 := Lib.hid hdm21
            have HBW := Lib.hid hbW
            clear hx1 hx2 hz1 hb1 hbW hpm hpp hdm hd1 hd2 hc hdj hdm2 hdm21
            go_region_held3 (fun W => W.cell? ⟨bp, 0, none⟩ = some (.func (.func 79) #[] #[.pointer (some ⟨bc, 0, none⟩), .pointer (some ⟨bk, 0, none⟩), .pointer (some ⟨bp, 0, none⟩), .pointer (some ⟨bm, 0, none⟩)]) ∧ W.cell? ⟨bm, 0, none⟩ = some (.slice (some ⟨mb, mo, none⟩) m.length cm) ∧ W.cell? ⟨mb, mo + k, none⟩ = some (.int .i64 j) ∧
                W.cell? ⟨bc, 0, none⟩ = some (.slice (some ⟨b, off, none⟩) c.length kc) ∧ W.cell? ⟨b, off + j * 2, none⟩ = some (.int .i64 oj) ∧ Below W1.heap.size W1 W)
              (first | assumption | exact ⟨hpp1, hpm1, hdm1, hc1, hdj1, (Below.refl _ _).drew⟩ | (with_reducible exact keep5 (by assumption) (by assumption)) | (with_reducible exact keep5 (by assumption) (below_new _ _)))
              (first
                | (go_at_call 79; (with_reducible refine (IH.out f (by omega) (k + 1) j _ _ r1 _ (by omega) (by omega) ((HE.out.ext HBW.out).ext (‹_ ∧ _ ∧ _ ∧ _ ∧ _ ∧ Below _ _ _›).2.2.2.2.2) (by omega) (by omega) hm HR1.out).mono ?_); rintro e w2 ⟨rfl, hb2⟩)
                | (go_at_call 32; (with_reducible refine (cost_any' oj _ hoj0 hoj1).mono ?_); rintro e w2 ⟨rfl, hb2⟩)
                | (go_at_call 80; (with_reducible refine (sum2_any _ _ r1 (costF oj) (by simp) hr1b hcbj6).mono ?_); rintro e w2 ⟨rfl, rfl⟩))
            obtain ⟨hy1, hy2, hy3, hy4, hy5, hy6⟩ := ‹_ ∧ _ ∧ _ ∧ _ ∧ _ ∧ Below _ _ _›
            clear hb2
            generalize World.alloc _ _ = W2 at hy1 hy2 hy3 hy4 hy5 hy6 ⊢
            have HBX := Lib.hid (HBW.out.trans (hy6.mono HBW.out.size))
            have HDM3 := Lib.hid (cell_ext HDM2.out hy6)
            clear hpm1 hpp1 hdm1 hc1 hdj1 hy6 HDM2
            by_cases h49 : oj = 49
            · subst h49
              have hpf := HPF1.out
              rw [if_pos rfl] at hpf
              split at hpf
              case isFalse => simp at hpf
              rename_i hcnd
              obtain ⟨hcj2, hct2⟩ := hcnd
              cases hr2 : partF c m ks f (j + 1) (m.getD j 0).toNat 0 with
              | none => rw [hr2] at hpf; simp at hpf
              | some r2 =>
              rw [hr2, Option.bind_some] at hpf
              have hr2b := partF_bd ⟨Int.le_refl 0, by omega⟩ hks hr2
              have hdm3 := HDM3.out
              generalize hi2 : m.getD j 0 = i2 at *
              obtain ⟨i2, rfl⟩ := Int.eq_ofNat_of_zero_le (show 0 ≤ i2 by omega)
              rw [Int.toNat_natCast] at hpf hr2
              have HR2 := Lib.hid hr2
              have HPF2 := Lib.hid hpf
              have HI2 := Lib.hid hi2
              clear hr2 hpf hi2 HPF1 HDM3
              have hcb5 := costF_bd 50
              have hsb5 := sum2_bd hr2b.1 hcb5.1
              have hcb56 : 0 ≤ costF 50 ∧ costF 50 ≤ 9223372036854775807 := by omega
              have hww2 : IntKind.i64.wrap ((j : Int) + 1) = (j : Int) + 1 := IntWalk.i64_in _ (by omega)
              have hmax := run_max (P := Try.prog)
              have hmx : 0 ≤ max (sumF [r1, costF 49]) (sumF [r2, costF 50]) ∧ max (sumF [r1, costF 49]) (sumF [r2, costF 50]) ≤ 9223372036854775807 := by omega
              go_wp2_with (fail)
              go_region_held3 (fun W => W.cell? ⟨bp, 0, none⟩ = some (.func (.func 79) #[] #[.pointer (some ⟨bc, 0, none⟩), .pointer (some ⟨bk, 0, none⟩), .pointer (some ⟨bp, 0, none⟩), .pointer (some ⟨bm, 0, none⟩)]) ∧ W.cell? ⟨bm, 0, none⟩ = some (.slice (some ⟨mb, mo, none⟩) m.length cm) ∧ W.cell? ⟨mb, mo + j, none⟩ = some (.int .i64 i2) ∧ Below W2.heap.size W2 W)
                (first | assumption | exact ⟨hy1, hy2, hdm3, (Below.refl _ _).drew⟩ | (with_reducible exact keep3 (by assumption) (by assumption)) | (with_reducible exact keep3 (by assumption) (below_new _ _)))
                (first
                  | (go_at_call 79; (with_reducible refine (IH.out f (by omega) (j + 1) i2 _ _ r2 _ (by omega) (by omega) ((HE.out.ext HBX.out).ext (‹_ ∧ _ ∧ _ ∧ Below W2.heap.size _ _›).2.2.2) (by omega) (by omega) hm HR2.out).mono ?_); rintro e w2 ⟨rfl, hb2⟩)
                  | (go_at_call 32; (with_reducible refine (cost_any' 50 _ (by omega) (by omega)).mono ?_); rintro e w2 ⟨rfl, hb2⟩)
                  | (go_at_call 80; (with_reducible refine (sum2_any _ _ r2 (costF 50) (by simp) hr2b hcb56).mono ?_); rintro e w2 ⟨rfl, rfl⟩))
              obtain ⟨hz1, hz2, hz3, hz4⟩ := ‹_ ∧ _ ∧ _ ∧ Below W2.heap.size _ _›
              clear hb2
              generalize World.alloc _ _ = W3 at hz1 hz2 hz3 hz4 ⊢
              have HBZ := Lib.hid (HBX.out.trans (hz4.mono HBX.out.size))
              clear hy1 hy2 hy3 hy4 hy5 hdm3 hz4
              go_wp2_with (go_at_call 80; (with_reducible refine (sum2_any _ _ (sumF [q, costF 48]) (max (sumF [r1, costF 49]) (sumF [r2, costF 50])) (by simp) hsb hmx).mono ?_); rintro e w2 ⟨rfl, rfl⟩)
              go_roundw
              case rel =>
                have hsb7 := sum2_bd hsb.1 hmx.1
                refine ⟨i2 + 1, f, sumF [sumF [q, costF 48], max (sumF [r1, costF 49]) (sumF [r2, costF 50])], by omega, by omega, by go_num, rfl, hsb7.1, hsb7.2, HPF2.out, ?_⟩
                have h1 := hb.trans (HBZ.out.mono hb.size)
                exact h1.alloc h1.size _
              case measure => simp [intOf]; omega
            · have e49 : (oj == 49) = false := by simpa using h49
              go_wp2_with (go_at_call 80; (with_reducible refine (sum2_any _ _ (sumF [q, costF 48]) (sumF [r1, costF oj]) (by simp) hsb ⟨hsbj.1, by omega⟩).mono ?_); rintro e w2 ⟨rfl, rfl⟩)
              go_roundw
              case rel =>
                have hpf := HPF1.out
                rw [if_neg h49] at hpf
                have hsb7 := sum2_bd hsb.1 hsbj.1
                refine ⟨j + 1, f, sumF [sumF [q, costF 48], sumF [r1, costF oj]], by omega, by omega, by go_num, rfl, hsb7.1, hsb7.2, hpf, ?_⟩
                have h1 := hb.trans (HBX.out.mono hb.size)
                exact h1.alloc h1.size _
              case measure => simp [intOf]; omega
          · have e53 : (o == 53) = false := by simpa using h53
            have e51 : (o == 51) = false := by simpa using h51
            have e48 : (o == 48) = false := by simpa using h48
            have hcb := costF_bd o
            have hsb := sum2_bd hq0 hcb.1
            go_wp2_with (first
              | (go_at_call 32; (with_reducible refine (cost_any' _ _ ho0 ho1).mono ?_); rintro e w1 ⟨rfl, hb1⟩; obtain ⟨hx1, hx2⟩ := (XAt.new wr o a).ext hb1; have hz1 : wr.heap.size < w1.heap.size := by have := hb1.size; simp at this; omega)
              | (go_at_call 80; (with_reducible refine (sum2_any _ _ q (costF o) (by simp) ⟨hq0, hq1⟩ (by omega)).mono ?_); rintro e w2 ⟨rfl, rfl⟩))
            go_roundw
            case rel =>
              have hpf := HPF.out
              rw [if_neg h53, if_neg h51, if_neg h48] at hpf
              refine ⟨k + 1, f, sumF [q, costF o], by omega, by omega, by go_num, rfl, hsb.1, hsb.2, hpf, ?_⟩
              have h1 := (hb.alloc hb.size (.cells #[.int .i64 o, .int .i64 a] 35)).trans (hb1.mono (by have := hb.size; simp; omega))
              exact h1.alloc h1.size _
            case measure => simp [intOf]; omega
    · unfold partF at hpf
      rw [if_neg hlt] at hpf
      obtain rfl : q = r := by simpa using hpf
      go_wp2
      go_ret
      exact ⟨rfl, hb⟩
end Go.Proofs.Ytchmgilckiadaaa
