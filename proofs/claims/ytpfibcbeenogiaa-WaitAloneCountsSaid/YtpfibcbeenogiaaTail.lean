/- A region that draws its order, whose first operations are quiet in a class of worlds, and whose last ones wait for all of them and follow each other: one walk in the order of the text, the last operations walked by themselves. No program is named. -/
import Derived.Test.YtpfibcbeenogiaaBase
import Derived.Deep.Quiet
import Derived.Deep.QuietTactic
import Derived.BigQuiet
import Derived.StillTail
namespace Go.Proofs.Ytpfibcbeenogiaa
open Go.RowKit
set_option linter.unusedSimpArgs false
set_option linter.unusedVariables false
/-- What stands in a last operation's place while the others are ordered. -/
def stubOf (o : Oper) : Oper := { o with dst := none, op := .move (.const undef), guard := none }
/-- Each operation waits for earlier ones alone; each ahead of number n is waited for by a later one up to n; each behind n waits for the one ahead of it; none is guarded. -/
def tailB (n : Nat) (l : List Oper) : Bool :=
  (List.range l.length).all fun i => match l[i]? with
    | none => true
    | some o => o.guard.isNone && (o.after.all fun e => decide (e.on < i)) && (decide (i ≤ n) || (o.after.any fun e => Region.binds .any e && e.on + 1 == i)) &&
      (decide (n ≤ i) || ((List.range (n + 1)).any fun t => decide (i < t) && (match l[t]? with
        | none => false
        | some q => q.after.any fun e => Region.binds .any e && e.on == i)))
section
variable {P : Program} {C : World → Prop} {l : List Oper} {n : Nat}
theorem tailB_at (h : tailB n l = true) {i : Nat} {o : Oper} (hi : l[i]? = some o) :
    o.guard = none ∧ (∀ e ∈ o.after, e.on < i) ∧ (i ≤ n ∨ ∃ e ∈ o.after, Region.binds .any e = true ∧ e.on + 1 = i) ∧ (n ≤ i ∨ ∃ t q, i < t ∧ t ≤ n ∧ l[t]? = some q ∧ ∃ e ∈ q.after, Region.binds .any e = true ∧ e.on = i) := by
  have hlt : i < l.length := (List.getElem?_eq_some_iff.1 hi).1
  have h1 := List.all_eq_true.1 h i (List.mem_range.2 hlt)
  simp only [hi, Bool.and_eq_true, Bool.or_eq_true, decide_eq_true_eq, Option.isNone_iff_eq_none] at h1
  obtain ⟨⟨⟨h2, h3⟩, h5⟩, h4⟩ := h1
  refine ⟨h2, fun e he => by simpa using (Array.all_eq_true_iff_forall_mem.1 h3) e he, ?_, ?_⟩
  · rcases h5 with h5 | h5
    · exact .inl h5
    · obtain ⟨e, he, hb⟩ := Array.any_eq_true'.1 h5
      simp only [Bool.and_eq_true, beq_iff_eq] at hb
      exact .inr ⟨e, he, hb.1, hb.2⟩
  · rcases h4 with h4 | h4
    · exact .inl h4
    · right
      obtain ⟨t, ht, h5⟩ := List.any_eq_true.1 h4
      simp only [Bool.and_eq_true, decide_eq_true_eq] at h5
      obtain ⟨h6, h7⟩ := h5
      cases hq : l[t]? with
      | none => simp [hq] at h7
      | some q =>
        simp only [hq] at h7
        obtain ⟨e, he, hb⟩ := Array.any_eq_true'.1 h7
        simp only [Bool.and_eq_true, beq_iff_eq] at hb
        exact ⟨t, q, h6, by have := List.mem_range.1 ht; omega, hq, e, he, hb.1, hb.2⟩
/-- The listed operations are closed under what they wait for. -/
def Closed (l : List Oper) (listed : Array Bool) : Prop := ∀ j o, l[j]? = some o → listed.getD j false = true → ∀ e ∈ o.after, Region.binds .any e = true → listed.getD e.on false = true
theorem un_of {listed : Array Bool} {i : Nat} (h : i < listed.size) (hf : ¬ listed.getD i false = true) : listed.getD i true = false := by
  simp [h] at hf ⊢
  exact hf
theorem un_false {listed : Array Bool} {i : Nat} (h : listed.getD i true = false) : listed.getD i false = false := by
  rcases Nat.lt_or_ge i listed.size with h' | h'
  · simp [h'] at h ⊢; exact h
  · simp [Array.getElem?_eq_none h'] at h
theorem some_ready (h : tailB n l = true) {listed : Array Bool} (hs : listed.size = l.length) : ∀ (j : Nat), j < l.length → listed.getD j true = false → ∃ i, i ∈ Region.ready .any l.toArray listed := by
  intro j
  induction j using Nat.strongRecOn with
  | ind j ih =>
    intro hj hu
    have ho : l[j]? = some l[j] := List.getElem?_eq_getElem hj
    obtain ⟨_, hb, _⟩ := tailB_at h ho
    by_cases hall : ∀ e ∈ l[j].after, Region.binds .any e = true → listed.getD e.on false = true
    · exact ⟨j, mem_ready.2 ⟨hu, l[j], by simp, hall⟩⟩
    · simp only [Classical.not_forall] at hall
      obtain ⟨e, he, hbd, hn⟩ := hall
      have hlt := hb e he
      exact ih e.on hlt (by omega) (un_of (by omega) hn)
theorem all_listed (h : tailB n l = true) {listed : Array Bool} (hs : listed.size = l.length) (hc : Closed l listed) (hn : n < l.length) (hr : n ∈ Region.ready .any l.toArray listed) : ∀ (d j : Nat), n - j = d → j < n → listed.getD j false = true := by
  intro d
  induction d using Nat.strongRecOn with
  | ind d ih =>
    intro j hd hj
    have ho : l[j]? = some l[j] := List.getElem?_eq_getElem (by omega)
    obtain ⟨_, _, _, h1 | ⟨t, q, ht, htn, hq, e, he, hb, hon⟩⟩ := tailB_at h ho
    · omega
    · rw [← hon]
      by_cases htn' : t = n
      · subst htn'
        obtain ⟨_, o', ho', hall⟩ := mem_ready.1 hr
        have e1 : o' = q := by
          have e2 : l[t]? = some o' := by simpa using ho'
          rw [hq] at e2
          exact (Option.some.inj e2).symm
        subst e1
        exact hall e he hb
      · exact hc t q hq (ih (n - t) (by omega) t rfl (by omega)) e he hb
/-- The region with stubs in the last operations' places. -/
def stubs (n : Nat) (l : List Oper) : List Oper := l.take n ++ (l.drop n).map stubOf
theorem stubs_head (hn : n < l.length) {j : Nat} (h : j < n) : (stubs n l)[j]? = l[j]? := by
  have hk : (l.take n).length = n := by simp; omega
  rw [stubs, List.getElem?_append_left (by omega), List.getElem?_take]
  simp [h]
theorem stubs_tail (hn : n < l.length) {j : Nat} (h : n ≤ j) : (stubs n l)[j]? = (l[j]?).map stubOf := by
  have hk : (l.take n).length = n := by simp; omega
  rw [stubs, List.getElem?_append_right (by omega), hk, List.getElem?_map, List.getElem?_drop]
  congr 2
  omega
theorem ready_stub (hn : n < l.length) (listed : Array Bool) (j : Nat) : j ∈ Region.ready .any l.toArray listed ↔ j ∈ Region.ready .any (stubs n l).toArray listed := by
  rw [mem_ready, mem_ready]
  rcases Nat.lt_or_ge j n with h | h
  · simp only [List.getElem?_toArray, stubs_head hn h]
  · simp only [List.getElem?_toArray, stubs_tail hn h]
    cases l[j]? with
    | none => simp
    | some o => simp [stubOf]
theorem wanted_free {o : Oper} (h : o.guard = none) (f : Nat → Option Bool) : Region.wanted o f = true := by simp [Region.wanted, h]
theorem stub_chain {Q' : Act → Prop} (hn : n < l.length) : ∀ (g k : Nat) (listed : Array Bool) (a : Act), n ≤ k → k + g = l.length → Region.seqB .any l.toArray g k listed = true →
    wpAnyQ P .any (stubs n l).toArray C Q' g listed a → Q' a
  | 0, k, listed, a, _, _, _, h => h.2
  | g + 1, k, listed, a, hk, hg, hB, h => by
    simp only [Region.seqB, Bool.and_eq_true, decide_eq_true_eq] at hB
    have hr : k ∈ Region.ready .any (stubs n l).toArray listed := (ready_stub hn listed k).1 (by rw [hB.1]; simp)
    have hq := h.2 k hr
    have ho : l[k]? = some (l[k]'(by omega)) := List.getElem?_eq_getElem (by omega)
    have e2 : (stubs n l)[k]? = some (stubOf (l[k]'(by omega))) := by rw [stubs_tail hn hk, ho]; rfl
    unfold qOp at hq
    simp only [List.getElem?_toArray, e2, wanted_free (show (stubOf (l[k]'(by omega))).guard = none from rfl), if_true] at hq
    obtain ⟨v, _, hq2⟩ := hq
    exact stub_chain hn g (k + 1) _ a (by omega) (by omega) hB.2 hq2
theorem count_step {p p' : Nat → Bool} {i : Nat} (hp : p i = true) (hp' : p' i = false) (hne : ∀ j, j ≠ i → p j = p' j) : ∀ m, i < m → (List.range m).countP p = (List.range m).countP p' + 1
  | 0, h => by omega
  | m + 1, h => by
    rw [List.range_succ, List.countP_append, List.countP_append, List.countP_singleton, List.countP_singleton]
    by_cases e : i = m
    · subst e
      have hsame : (List.range i).countP p = (List.range i).countP p' := List.countP_congr fun j hj => by rw [hne j (by have := List.mem_range.1 hj; omega)]
      rw [hsame, hp, hp']
      simp
    · rw [count_step hp hp' hne m (by omega), hne m (fun e' => e e'.symm)]
      omega
def unl (n : Nat) (listed : Array Bool) : Nat := (List.range n).countP fun i => !listed.getD i false
theorem wpAny_of_tail {Q : Exit → Act → World → Prop} (ht : tailB n l = true) (hn : n < l.length) (hseq : Region.seqB .any l.toArray (l.length - n) n (Array.replicate n true ++ Array.replicate (l.length - n) false) = true) :
    ∀ (f : Nat) (listed : Array Bool) (a : Act) (w : World), C w → listed.size = l.length → Closed l listed → (∀ t, n ≤ t → t < l.length → listed.getD t true = false) → f = (l.length - n) + unl n listed →
      wpAnyQ P .any (stubs n l).toArray C (fun a' => ∀ w', C w' → wpList P l.toArray Q (l.drop n) a' w') f listed a → wpAny P .any l.toArray Q f listed a w := by
  intro f
  induction f with
  | zero =>
    intro listed a w hw hs hc hu hf h
    omega
  | succ f ih =>
    intro listed a w hw hs hc hu hf h
    by_cases hnr : n ∈ Region.ready .any l.toArray listed
    · have hall := all_listed ht hs hc hn hnr
      have h0 : unl n listed = 0 := by
        unfold unl
        rw [List.countP_eq_zero]
        intro j hj
        have := hall _ j rfl (List.mem_range.1 hj)
        simp [this]
      have hL : listed = Array.replicate n true ++ Array.replicate (l.length - n) false := by
        apply Array.ext
        · simp [hs]; omega
        · intro i h1 h2
          rcases Nat.lt_or_ge i n with h3 | h3
          · have := hall _ i rfl h3
            rw [Array.getElem_append_left (by simpa using h3)]
            simp [h1] at this
            simp [this]
          · have := hu i h3 (by omega)
            rw [Array.getElem_append_right (by simpa using h3)]
            simp [h1] at this
            simp [this]
      have hg : f + 1 = l.length - n := by omega
      rw [hg] at h ⊢
      have hQ := stub_chain (Q' := fun a' => ∀ w', C w' → wpList P l.toArray Q (l.drop n) a' w') hn (l.length - n) n listed a (Nat.le_refl _) (by omega) (by rw [hL]; exact hseq) h w hw
      have := wpAny_of_seq (P := P) (md := .any) (ops := l.toArray) (Q' := Q) (l.drop n) n listed a w (fun j => by simp [List.getElem?_drop]) (by rw [List.length_drop, hL]; exact hseq) hQ
      rwa [List.length_drop] at this
    · obtain ⟨i0, hi0⟩ := some_ready ht hs n hn (hu n (Nat.le_refl _) hn)
      refine ⟨fun h0 => (by rw [h0] at hi0; cases hi0), fun i hi => ?_⟩
      have hq := h.2 i ((ready_stub hn listed i).1 hi)
      obtain ⟨hiu, oi, hoi, hall⟩ := mem_ready.1 hi
      have hoi' : l[i]? = some oi := by simpa using hoi
      have hil : i < l.length := (List.getElem?_eq_some_iff.1 hoi').1
      obtain ⟨hg, _, hch, _⟩ := tailB_at ht hoi'
      have hin : i ≠ n := fun e => hnr (e ▸ hi)
      have hin' : i < n := by
        rcases hch with hch | ⟨e, he, hb, hon⟩
        · omega
        · rcases Nat.lt_or_ge i n with h1 | h1
          · exact h1
          · have h2 := hall e he hb
            rw [un_false (hu e.on (by omega) (by omega))] at h2
            cases h2
      have e2 : (stubs n l)[i]? = some oi := by rw [stubs_head hn hin', hoi']
      unfold qOp at hq
      simp only [List.getElem?_toArray, e2, wanted_free hg, if_true] at hq
      unfold wpOp
      simp only [hoi, wanted_free hg, if_true]
      refine .inl (Oper.wp_of_quiet hw (fun a' w' hw' hK => ?_) hq)
      refine ih _ a' w' hw' (by simp [hs]) ?_ (fun t h1 h2 => by rw [getD_set_ne true (by omega)]; exact hu t h1 h2) ?_ hK
      · intro j o hj hlj e he hb
        by_cases hji : i = j
        · subst hji
          have e1 : o = oi := by rw [hoi'] at hj; exact (Option.some.inj hj).symm
          subst e1
          exact getD_set_true (hall e he hb)
        · rw [getD_set_ne false hji] at hlj
          exact getD_set_true (hc j o hj hlj e he hb)
      · have := count_step (p := fun i => !listed.getD i false) (p' := fun j => !(listed.setIfInBounds i true).getD j false) (i := i) (by simp only [un_false hiu]; rfl)
          (by simp [hs, hil]) (fun j hj => by rw [getD_set_ne false (Ne.symm hj)]) n hin'
        unfold unl at hf ⊢
        omega
theorem wpQuiet_app {ops : Array Oper} {Q : Act → Prop} : ∀ (hd tl : List Oper) (a : Act), wpQuiet P ops C (fun a => wpQuiet P ops C Q tl a) hd a → wpQuiet P ops C Q (hd ++ tl) a
  | [], tl, a, h => h
  | x :: hd, tl, a, h => by
    show wpQuiet P ops C Q (x :: (hd ++ tl)) a
    unfold wpQuiet at h ⊢
    split
    · rename_i hw
      simp only [hw, if_true] at h
      exact Oper.quiet_mono (fun a' h' => wpQuiet_app hd tl a' h') h
    · rename_i hw
      simp only [hw, Bool.false_eq_true, if_false] at h
      exact wpQuiet_app hd tl _ h
theorem wpQuiet_mono {ops : Array Oper} {Q Q' : Act → Prop} (hQ : ∀ a, Q a → Q' a) : ∀ (l : List Oper) (a : Act), wpQuiet P ops C Q l a → wpQuiet P ops C Q' l a
  | [], a, h => hQ a h
  | x :: l, a, h => by
    unfold wpQuiet at h ⊢
    split
    · rename_i hw
      simp only [hw, if_true] at h
      exact Oper.quiet_mono (fun a' h' => wpQuiet_mono hQ l a' h') h
    · rename_i hw
      simp only [hw, Bool.false_eq_true, if_false] at h
      exact wpQuiet_mono hQ l _ h
theorem wpQuiet_stubs {ops : Array Oper} {Q : Act → Prop} : ∀ (tl : List Oper) (a : Act), Q a → wpQuiet P ops C Q (tl.map stubOf) a
  | [], a, h => h
  | x :: tl, a, h => by
    show wpQuiet P ops C Q (stubOf x :: tl.map stubOf) a
    unfold wpQuiet
    rw [if_pos (wanted_free (show (stubOf x).guard = none from rfl) _)]
    exact ⟨undef, fun w hw => by simp [Oper.quietAt, Oper.quietUpon, stubOf, execOp, go_sem], wpQuiet_stubs tl a h⟩
/-- ONE WALK, THE LAST OPERATIONS BY THEMSELVES. -/
theorem region_tail {id : Nat} {Q : Exit → Act → World → Prop} {a : Act} {W : World} (n : Nat) (hm : P.follows .mixedOrders = true) (ht : tailB n l = true) (hn : n < l.length)
    (hB : Region.lexB .any (stubs n l).toArray = true) (hseq : Region.seqB .any l.toArray (l.length - n) n (Array.replicate n true ++ Array.replicate (l.length - n) false) = true) (hC : C W.drew)
    (h : wpQuiet P (stubs n l).toArray C (fun a' => ∀ w', C w' → wpList P l.toArray Q (l.drop n) a' w') (l.take n) a) : (Code.region id l.toArray true).wp P Q a W := by
  have hsz : (stubs n l).length = l.length := by simp [stubs]; omega
  simp only [Region.lexB, Bool.and_eq_true] at hB
  refine wp_region_any hm ?_
  have h1 : wpQuiet P (stubs n l).toArray C (fun a' => ∀ w', C w' → wpList P l.toArray Q (l.drop n) a' w') (stubs n l) a :=
    wpQuiet_app _ _ a (wpQuiet_mono (fun a' h' => wpQuiet_stubs _ a' h') _ a h)
  have h2 := wpAnyQ_lex (C := C) (md := .any) hB.1 (stubs n l) 0 (Array.replicate (stubs n l).toArray.size false) a (by simp) (by simpa using hB.2) h1
  rw [hsz] at h2
  have hu0 : unl n (Array.replicate l.toArray.size false) = n := by
    unfold unl
    have : (List.range n).countP (fun i => !(Array.replicate l.toArray.size false).getD i false) = (List.range n).length := by
      rw [List.countP_eq_length]
      intro j _
      rw [Array.getD_eq_getD_getElem?, Array.getElem?_replicate]
      split <;> rfl
    rw [this, List.length_range]
  have h3 := wpAny_of_tail (P := P) (C := C) (Q := Q) ht hn hseq l.length (Array.replicate l.toArray.size false) a _ hC (by simp) (fun j o _ hlj => by
    rw [Array.getD_eq_getD_getElem?, Array.getElem?_replicate] at hlj
    split at hlj <;> simp at hlj) (fun t _ h2 => by
    rw [Array.getD_eq_getD_getElem?, Array.getElem?_replicate, if_pos (by simp only [List.size_toArray]; omega)]
    rfl) (by rw [hu0]; omega) (by simpa [hsz] using h2)
  simpa using h3
end
end Go.Proofs.Ytpfibcbeenogiaa
