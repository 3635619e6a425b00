/- A region that draws its order, by what each operation leaves in its slot: each operation is looked at once, whatever the order. -/
import Derived.Test.YtchmgilckiadaaaProg
import Derived.RegionTactic
namespace Go.Proofs.Ytchmgilckiadaaa
section
variable {P : Program} {ops : Array Oper} {Q : Exit → Act → World → Prop}
/-- How many operations are still to come. -/
def yet (l : Array Bool) : Nat → Nat
  | 0 => 0
  | n + 1 => yet l n + (if l.getD n true = true then 0 else 1)
theorem getD_mark (l : Array Bool) (i j : Nat) (d : Bool) : (l.setIfInBounds i true).getD j d = if i = j ∧ j < l.size then true else l.getD j d := by
  simp only [Array.getD_eq_getD_getElem?, Array.getElem?_setIfInBounds]
  by_cases h : i = j
  · subst h
    by_cases h2 : i < l.size
    · simp [h2]
    · simp [h2]
  · simp [h]
theorem yet_mark (l : Array Bool) (i : Nat) : ∀ n, yet (l.setIfInBounds i true) n ≤ yet l n
  | 0 => Nat.le_refl _
  | n + 1 => by
    have ih := yet_mark l i n
    simp only [yet, getD_mark]
    by_cases h : i = n ∧ n < l.size
    · rw [if_pos h, if_pos rfl]; omega
    · rw [if_neg h]; omega
theorem yet_less (l : Array Bool) (i : Nat) (hi : l.getD i true = false) : ∀ n, i < n → n ≤ l.size → yet (l.setIfInBounds i true) n + 1 ≤ yet l n
  | 0, h, _ => by omega
  | n + 1, h, hs => by
    have ih := fun h => yet_less l i hi n h (by omega)
    have h0 := yet_mark l i n
    simp only [yet, getD_mark]
    by_cases e : i = n
    · subst e
      have e1 : (if i = i ∧ i < l.size then true else l.getD i true) = true := if_pos ⟨rfl, by omega⟩
      rw [if_pos e1, if_neg (by rw [hi]; simp)]
      omega
    · have e2 : (if i = n ∧ n < l.size then true else l.getD n true) = l.getD n true := if_neg (fun h => e h.1)
      rw [e2]
      have := ih (by omega)
      omega
theorem yet_le (l : Array Bool) : ∀ n, yet l n ≤ n
  | 0 => Nat.le_refl _
  | n + 1 => by
    have := yet_le l n
    simp only [yet]
    split <;> omega
theorem yet_zero (l : Array Bool) : ∀ n, yet l n = 0 → ∀ i, i < n → l.getD i true = true
  | 0, _, i, h => by omega
  | n + 1, h, i, hi => by
    simp only [yet] at h
    have h1 : yet l n = 0 := by omega
    by_cases e : i = n
    · subst e
      by_cases h2 : l.getD i true = true
      · exact h2
      · rw [if_neg h2] at h; omega
    · exact yet_zero l n h1 i (by omega)
theorem ready_mem {l : Array Bool} {i : Nat} (h : i ∈ Region.ready .any ops l) : i < ops.size ∧ l.getD i true = false ∧ ∃ o, ops[i]? = some o ∧ ∀ e ∈ o.after, Region.binds .any e = true → l.getD e.on false = true := by
  unfold Region.ready at h
  obtain ⟨h1, h2⟩ := List.mem_filter.1 h
  have hi := List.mem_range.1 h1
  simp only [Bool.and_eq_true, Bool.not_eq_true'] at h2
  refine ⟨hi, h2.1, ops[i], by simp [hi], fun e he hb => ?_⟩
  have h3 := h2.2
  simp only [Array.getElem?_eq_getElem hi, Option.map_some, Option.getD_some, Array.all_eq_true_iff_forall_mem] at h3
  have := h3 e he
  simpa [hb] using this
theorem any_inv (R : Array Bool → Act → World → Prop) (hsz : ∀ l a w, R l a w → l.size = ops.size)
    (hs : ∀ l a w i o, ops[i]? = some o → i < ops.size → l.getD i true = false → (∀ e ∈ o.after, Region.binds .any e = true → l.getD e.on false = true) → R l a w → ∀ K : Act → World → Prop, (∀ a' w', R (l.setIfInBounds i true) a' w' → K a' w') → if Region.wanted o (yielded ops a.tmps) = true then Oper.wp P o a w K Q else K (a.put o.dst undef) w)
    (hd : ∀ l a w, (∀ i, i < ops.size → l.getD i true = true) → R l a w → Q .normal a w)
    (hne : ∀ l : Array Bool, l.size = ops.size → Region.ready .any ops l = [] → ∀ i, i < ops.size → l.getD i true = true) : ∀ fuel l a w, R l a w → yet l ops.size ≤ fuel → wpAny P .any ops Q fuel l a w
  | 0, l, a, w, hR, hf => by
    have h0 := yet_zero l ops.size (by omega)
    refine ⟨?_, hd l a w h0 hR⟩
    apply List.eq_nil_iff_forall_not_mem.2
    intro i hi
    obtain ⟨h1, h2, _⟩ := ready_mem hi
    rw [h0 i h1] at h2
    simp at h2
  | fuel + 1, l, a, w, hR, hf => by
    refine ⟨fun h => hd l a w (hne l (hsz l a w hR) h) hR, fun i hi => ?_⟩
    obtain ⟨h1, h2, o, ho, h3⟩ := ready_mem hi
    refine wpOp_step ho fun K' hK => hs l a w i o ho h1 h2 h3 hR K' fun a' w' hR' => hK a' w' ?_
    refine any_inv R hsz hs hd hne fuel _ a' w' hR' ?_
    have := yet_less l i h2 ops.size h1 (by rw [hsz l a w hR]; exact Nat.le_refl _)
    omega
/-- What holds while the region runs: of each operation that is done, what it left. -/
structure Inv (ops : Array Oper) (anc kl ki : Nat → List Nat) (a0 : Act) (G : World → Prop) (I : Nat → World → Prop) (F : Nat → Value → World → Prop) (l : Array Bool) (a : Act) (w : World) : Prop where
  sz : l.size = ops.size
  tsz : a.tmps.size = a0.tmps.size
  df : a.defers = a0.defers
  old : ∀ k, (∀ (j : Nat) o, ops[j]? = some o → o.dst ≠ some k) → a.tmps.getD k undef = a0.tmps.getD k undef
  g : G w
  done : ∀ (j : Nat) o d, ops[j]? = some o → o.dst = some d → l.getD j false = true → (∀ k ∈ kl j, l.getD k false = false) → F j (a.tmps.getD d undef) w
  did : ∀ (j : Nat) o, ops[j]? = some o → o.dst = none → l.getD j false = true → (∀ k ∈ kl j, l.getD k false = false) → ∃ v, F j v w
  ini : ∀ m, (∀ k ∈ ki m, l.getD k false = false) → I m w
  cl : ∀ j, l.getD j false = true → ∀ i ∈ anc j, l.getD i false = true
theorem put_same {a : Act} {d : Nat} {v : Value} (h : d < a.tmps.size) : (a.put (some d) v).tmps.getD d undef = v := by
  simp [Act.put, Array.getD_eq_getD_getElem?, h]
theorem put_far {a : Act} {o : Option Nat} {k : Nat} {v : Value} (h : o ≠ some k) : (a.put o v).tmps.getD k undef = a.tmps.getD k undef := by
  cases o with
  | none => rfl
  | some d =>
    have : d ≠ k := fun e => h (by rw [e])
    simp [Act.put, Array.getD_eq_getD_getElem?, this]
theorem put_size {a : Act} {o : Option Nat} {v : Value} : (a.put o v).tmps.size = a.tmps.size := by
  cases o <;> simp [Act.put]
theorem put_defers {a : Act} {o : Option Nat} {v : Value} : (a.put o v).defers = a.defers := by
  cases o <;> rfl
theorem old_of {k : Nat} (h : (ops.toList.all fun o => o.dst != some k) = true) : ∀ (j : Nat) o, ops[j]? = some o → o.dst ≠ some k := fun j o hj hd => by
  have hm : o ∈ ops.toList := by
    have := Array.mem_of_getElem? hj
    simpa using this
  have := List.all_eq_true.1 h o hm
  simp [hd] at this
/-- What the rule asks of the operations' form. -/
def opsOk (ops : Array Oper) (n : Nat) (anc : Nat → List Nat) : Bool :=
  (List.range ops.size).all fun j => match ops[j]? with
    | none => true
    | some o => (match o.dst with | none => true | some d => decide (d < n) && (List.range j).all fun i => (ops[i]?).bind (·.dst) != some d) &&
      o.after.toList.all (fun e => !Region.binds .any e || decide (e.on < j)) &&
      (anc j).all (fun i => o.after.toList.any fun e => Region.binds .any e && (i == e.on || (anc e.on).contains i))
theorem opsOk_at {n : Nat} {anc : Nat → List Nat} (h : opsOk ops n anc = true) {j : Nat} {o : Oper} (hj : ops[j]? = some o) :
    (∀ d, o.dst = some d → d < n ∧ ∀ i, i < j → (ops[i]?).bind (·.dst) ≠ some d) ∧ (∀ e ∈ o.after, Region.binds .any e = true → e.on < j) ∧ (∀ i ∈ anc j, ∃ e ∈ o.after, Region.binds .any e = true ∧ (i = e.on ∨ i ∈ anc e.on)) := by
  have hlt : j < ops.size := (Array.getElem?_eq_some_iff.1 hj).1
  have h1 := List.all_eq_true.1 h j (List.mem_range.2 hlt)
  rw [hj] at h1
  simp only [Bool.and_eq_true] at h1
  obtain ⟨⟨h2, h3⟩, h4⟩ := h1
  refine ⟨fun d hd => ?_, fun e he hb => ?_, fun i hi => ?_⟩
  · rw [hd] at h2
    simp only [Bool.and_eq_true, decide_eq_true_eq] at h2
    refine ⟨h2.1, fun i hi => ?_⟩
    have := List.all_eq_true.1 h2.2 i (List.mem_range.2 hi)
    simpa using this
  · have := List.all_eq_true.1 h3 e (by simpa using he)
    simpa [hb] using this
  · have := List.all_eq_true.1 h4 i hi
    obtain ⟨e, he, h5⟩ := List.any_eq_true.1 this
    simp only [Bool.and_eq_true, Bool.or_eq_true, beq_iff_eq, List.contains_iff_mem] at h5
    exact ⟨e, by simpa using he, h5.1, h5.2⟩
theorem ok_inj {n : Nat} {anc : Nat → List Nat} (h : opsOk ops n anc = true) : ∀ (i j : Nat) o o' d, ops[i]? = some o → ops[j]? = some o' → o.dst = some d → o'.dst = some d → i = j := fun i j o o' d hi hj hd hd' => by
  rcases Nat.lt_trichotomy i j with h1 | h1 | h1
  · have := ((opsOk_at h hj).1 d hd').2 i h1
    rw [hi] at this
    exact absurd hd this
  · exact h1
  · have := ((opsOk_at h hi).1 d hd).2 j h1
    rw [hj] at this
    exact absurd hd' this
theorem ok_done {n : Nat} {anc : Nat → List Nat} (h : opsOk ops n anc = true) (l : Array Bool) (hl : l.size = ops.size) (hr : Region.ready .any ops l = []) : ∀ i, i < ops.size → l.getD i true = true := by
  intro i
  induction i using Nat.strongRecOn with
  | _ i ih =>
    intro hi
    cases hx : l.getD i true with
    | true => rfl
    | false =>
      exfalso
      have hm : i ∈ Region.ready .any ops l := by
        unfold Region.ready
        refine List.mem_filter.2 ⟨List.mem_range.2 hi, ?_⟩
        have ho : ops[i]? = some ops[i] := by simp [hi]
        rw [hx, ho]
        simp only [Bool.not_false, Option.map_some, Option.getD_some, Bool.true_and, Array.all_eq_true_iff_forall_mem]
        intro e he
        cases hb : Region.binds .any e with
        | false => rfl
        | true =>
          have h1 := (opsOk_at h ho).2.1 e he hb
          have h2 := ih e.on h1 (by omega)
          have h3 : e.on < l.size := by omega
          simpa [Array.getD_eq_getD_getElem?, h3] using h2
      rw [hr] at hm
      simp at hm
/-- THE RULE: each operation once, out of what those ahead of it have left. -/
theorem region_slots {id : Nat} {a0 : Act} {w0 : World} (hm : P.follows .mixedOrders = true) (G : World → Prop) (I : Nat → World → Prop) (F : Nat → Value → World → Prop) (Keep : Nat → World → World → Prop) (anc kl ki : Nat → List Nat)
    (hok : opsOk ops a0.tmps.size anc = true)
    (hkeep : ∀ i j v w w', i ∉ anc j → i ∉ kl j → i ≠ j → F j v w → Keep i w w' → F j v w')
    (hkeepI : ∀ i m w w', i ∉ ki m → I m w → Keep i w w' → I m w')
    (h0 : G { w0 with drawn := w0.drawn + 1 }) (h0I : ∀ m, I m { w0 with drawn := w0.drawn + 1 })
    (hs : ∀ (a : Act) (w : World), a.tmps.size = a0.tmps.size → a.defers = a0.defers → (∀ k, (ops.toList.all fun o => o.dst != some k) = true → a.tmps.getD k undef = a0.tmps.getD k undef) → G w →
      ∀ i o, ops[i]? = some o → (∀ m, ((ki m).all fun k => k == i || (anc k).contains i) = true → I m w) → (∀ e ∈ o.after, Region.binds .any e = true → ((kl e.on).all fun k => k == i || (anc k).contains i) = true → ∀ o', ops[e.on]? = some o' → (∀ d, o'.dst = some d → F e.on (a.tmps.getD d undef) w) ∧ (o'.dst = none → ∃ v, F e.on v w)) →
      ∀ K : Act → World → Prop, (∀ v w', G w' → Keep i w w' → F i v w' → K (a.put o.dst v) w') → if Region.wanted o (yielded ops a.tmps) = true then Oper.wp P o a w K Q else K (a.put o.dst undef) w)
    (hd : ∀ (a : Act) (w : World), a.tmps.size = a0.tmps.size → a.defers = a0.defers → (∀ k, (ops.toList.all fun o => o.dst != some k) = true → a.tmps.getD k undef = a0.tmps.getD k undef) → G w →
      (∀ (j : Nat) o, ops[j]? = some o → kl j = [] → (∀ d, o.dst = some d → F j (a.tmps.getD d undef) w) ∧ (o.dst = none → ∃ v, F j v w)) → Q .normal a w) :
    (Code.region id ops true).wp P Q a0 w0 := by
  have hinj := ok_inj hok
  have hlt : ∀ (i : Nat) o d, ops[i]? = some o → o.dst = some d → d < a0.tmps.size := fun i o d hi hd => ((opsOk_at hok hi).1 d hd).1
  have hanc : ∀ (j : Nat) o, ops[j]? = some o → ∀ i ∈ anc j, ∃ e ∈ o.after, Region.binds .any e = true ∧ (i = e.on ∨ i ∈ anc e.on) := fun j o hj => (opsOk_at hok hj).2.2
  have hne := ok_done hok
  refine wp_region_any hm ?_
  refine any_inv (Inv ops anc kl ki a0 G I F) (fun l a w h => h.sz) ?_ ?_ hne ops.size _ a0 _ ?_ (yet_le _ _)
  · intro l a w i o ho hi hun haft hI K hK
    have hun2 : l.getD i false = false := by
      have h3 : i < l.size := by rw [hI.sz]; exact hi
      simpa [Array.getD_eq_getD_getElem?, h3] using hun
    have hfree : ∀ j, l.getD j false = true → i ∉ anc j := fun j hj hm => by
      have := hI.cl j hj i hm
      rw [hun2] at this
      simp at this
    have hkill2 : ∀ ks : List Nat, (∀ k ∈ ks, (l.setIfInBounds i true).getD k false = false) → i ∉ ks ∧ ∀ k ∈ ks, l.getD k false = false := fun ks h => by
      refine ⟨fun hm => ?_, fun k hk => ?_⟩
      · have := h i hm
        rw [getD_mark, if_pos ⟨rfl, by rw [hI.sz]; exact hi⟩] at this
        simp at this
      · have := h k hk
        rw [getD_mark] at this
        split at this
        · simp at this
        · exact this
    have hkill := fun j => hkill2 (kl j)
    have hnew : ∀ v w', G w' → Keep i w w' → F i v w' → ∀ a', a'.tmps = (a.put o.dst v).tmps → a'.defers = a.defers → Inv ops anc kl ki a0 G I F (l.setIfInBounds i true) a' w' := fun v w' hG hKp hF a' e1 e2 => by
      refine ⟨by simpa using hI.sz, by rw [e1, put_size]; exact hI.tsz, by rw [e2]; exact hI.df, fun k hk => ?_, hG, fun j o' d hj hd hl hkl => ?_, fun j o' hj hd hl hkl => ?_, fun m hm => ?_, fun j hl k hk => ?_⟩
      · rw [e1, put_far (hk i o ho)]
        exact hI.old k hk
      · rw [e1]
        by_cases e : j = i
        · subst e
          rw [ho] at hj
          injection hj with hj
          subst hj
          rw [hd, put_same (by rw [hI.tsz]; exact hlt j o d ho hd)]
          exact hF
        · rw [put_far (fun h => e (hinj j i o' o d hj ho hd h))]
          rw [getD_mark, if_neg (fun h => e h.1.symm)] at hl
          have hk2 := hkill j hkl
          exact hkeep _ _ _ _ _ (hfree j hl) hk2.1 (Ne.symm e) (hI.done j o' d hj hd hl hk2.2) hKp
      · by_cases e : j = i
        · subst e
          rw [ho] at hj
          injection hj with hj
          exact ⟨v, hF⟩
        · rw [getD_mark, if_neg (fun h => e h.1.symm)] at hl
          have hk2 := hkill j hkl
          obtain ⟨u, hu⟩ := hI.did j o' hj hd hl hk2.2
          exact ⟨u, hkeep _ _ _ _ _ (hfree j hl) hk2.1 (Ne.symm e) hu hKp⟩
      · have hk2 := hkill2 (ki m) hm
        exact hkeepI _ _ _ _ hk2.1 (hI.ini m hk2.2) hKp
      · rw [getD_mark]
        by_cases ek : i = k ∧ k < l.size
        · rw [if_pos ek]
        · rw [if_neg ek]
          by_cases e : j = i
          · subst e
            obtain ⟨ed, h1, h2, h3⟩ := hanc j o ho k hk
            have h4 := haft ed h1 h2
            rcases h3 with h3 | h3
            · rw [h3]; exact h4
            · exact hI.cl _ h4 k h3
          · rw [getD_mark, if_neg (fun h => e h.1.symm)] at hl
            exact hI.cl j hl k hk
    have halive2 : ∀ ks : List Nat, (ks.all fun k => k == i || (anc k).contains i) = true → ∀ k ∈ ks, l.getD k false = false := fun ks h k hk => by
      have := List.all_eq_true.1 h k hk
      simp only [Bool.or_eq_true, beq_iff_eq, List.contains_iff_mem] at this
      rcases this with e | e
      · rw [e]; exact hun2
      · cases hk2 : l.getD k false with
        | false => rfl
        | true =>
          have := hI.cl k hk2 i e
          rw [hun2] at this
          simp at this
    refine hs a w hI.tsz hI.df (fun k hk => hI.old k (old_of hk)) hI.g i o ho (fun m hm => hI.ini m (halive2 _ hm)) (fun e he hb hal o' ho' => ⟨fun d hd => hI.done _ _ d ho' hd (haft e he hb) (halive2 _ hal), fun hd => hI.did _ _ ho' hd (haft e he hb) (halive2 _ hal)⟩) K ?_
    intro v w' hG hKp hF
    exact hK _ _ (hnew v w' hG hKp hF _ rfl (by rw [put_defers]))
  · intro l a w hl hI
    refine hd a w hI.tsz hI.df (fun k hk => hI.old k (old_of hk)) hI.g fun j o hj hkl => ?_
    have hlt2 : j < ops.size := (Array.getElem?_eq_some_iff.1 hj).1
    have h1 : l.getD j false = true := by
      have h2 := hl j hlt2
      have h3 : j < l.size := by rw [hI.sz]; exact hlt2
      simpa [Array.getD_eq_getD_getElem?, h3] using h2
    exact ⟨fun d hd => hI.done j o d hj hd h1 (by rw [hkl]; simp), fun hd => hI.did j o hj hd h1 (by rw [hkl]; simp)⟩
  · refine ⟨by simp, rfl, rfl, fun _ _ => rfl, h0, fun j o d hj hd hl _ => ?_, fun j o hj hd hl _ => ?_, fun m _ => h0I m, fun j hl => ?_⟩
    · have hlt2 : j < ops.size := (Array.getElem?_eq_some_iff.1 hj).1
      simp [Array.getD_eq_getD_getElem?, hlt2] at hl
    · have hlt2 : j < ops.size := (Array.getElem?_eq_some_iff.1 hj).1
      simp [Array.getD_eq_getD_getElem?, hlt2] at hl
    · by_cases hj : j < ops.size
      · simp [Array.getD_eq_getD_getElem?, hj] at hl
      · simp [Array.getD_eq_getD_getElem?, hj] at hl
end
end Go.Proofs.Ytchmgilckiadaaa
