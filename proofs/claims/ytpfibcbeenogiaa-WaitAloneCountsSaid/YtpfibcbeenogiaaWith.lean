/- hallmootref02: with, Right, Do. -/
import Derived.Test.YtpfibcbeenogiaaAlone
namespace Go.Proofs.Ytpfibcbeenogiaa
open Go.RowKit
set_option linter.unusedSimpArgs false
set_option linter.unusedVariables false
theorem ints_of_row {w : World} {g cap : Nat} {cur : Array Value} {T : TypeId} {fr : Nat × Nat} {cs : List Int} (h : w.heap[g]? = some (.cells cur T fr)) (hle : cs.length ≤ cap) (hl : cs.length ≤ 1048576)
    (ht : cur.toList.take cs.length = cs.map (Value.int .i64)) : IntsR w (.slice (some ⟨g, 0, none⟩) cs.length cap) cs := by
  refine ⟨_, cap, rfl, hle, by omega, fun _ => ⟨g, 0, rfl, lt_of_heap h, fun i x hi j u hu => ?_⟩⟩
  have hil := (List.getElem?_eq_some_iff.1 hi).1
  cases j with
  | succ j => simp at hu
  | zero =>
    simp at hu
    subst hu
    have h1 : (cs.map (Value.int .i64))[i]? = some (.int .i64 x) := by rw [List.getElem?_map, hi]; rfl
    rw [← ht, List.getElem?_take, if_pos hil] at h1
    rw [Nat.zero_add, Nat.mul_one, Nat.add_zero, cell_of_heap h]
    simpa using h1
set_option maxRecDepth 100000 in
set_option maxHeartbeats 2000000 in
theorem ref_with (cs : List Int) (i : Nat) (n : Int) (vm : Value) (w : World) (hm : IntsR w vm cs) (hi : i < cs.length) (hlen : cs.length ≤ 1048576) :
    Calls Try.prog 72 #[.agg #[vm], .int .i64 (i : Int), .int .i64 n] w fun e w' =>
      ∃ vm', e = .returned (.agg #[vm']) ∧ IntsR w' vm' (cs.set i n) ∧ Typed w' vm' ∧ (∀ b, vm'.ownBlock = some b → w.heap.size ≤ b) ∧ Below w.heap.size w w' := by
  obtain ⟨A, c, rfl, hc, -, hA⟩ := hm.one
  have hne : cs ≠ [] := by intro e; simp [e] at hi
  obtain ⟨b, o, rfl, hbl, hcell⟩ := hA hne
  have HCELL := Lib.hid hcell
  clear hA hcell hm
  obtain ⟨i0, hi0, hz0, hz1, hz2⟩ := info_parts info_int
  go_enter Try.func72, Try.ntmps72
  go_wp2_with (at_builtin; refine wpList_append_own _ rfl (.tmp 8) (.tmp 10) 51 rfl (w.heap.size + 1 + 1) 3 i0 (.int .i64 0) 1 8 und_ints hi0 hz0 hz1 hz2 rfl (by decide) _ 0 [] rfl ?own ⟨b, o, none⟩ cs.length c (cs.map (Value.int .i64)) rfl (by simp) ?c1 ?c2 ?c3 ?c4 ?c5 ?_)
  case own => exact ⟨rfl, .inr ⟨w.heap.size + 1 + 1, 0, #[], rfl, Nat.le_refl _, ha_new _ _ _ (by simp only [World.size_alloc]), Nat.le_refl _, Nat.zero_le _, rfl, rfl⟩⟩
  case c1 =>
    intro j u hj
    rw [List.getElem?_map] at hj
    cases hx : cs[j]? with
    | none => simp [hx] at hj
    | some x =>
      simp [hx] at hj
      subst hj
      have e : (Addr.add ⟨b, o, none⟩ j) = ⟨b, o + j, none⟩ := by simp [Addr.add]
      rw [e]
      have hbe : Below w.heap.size w (((w.alloc (Obj.cells #[Value.slice (some { block := b, off := o }) cs.length c] 53)).alloc (Obj.cells #[Value.slice none 0 0] 53)).alloc (Obj.cells #[] 3)) := blw_alloc (blw_alloc (blw_alloc (Below.refl _ _) _) _) _
      exact (hbe.cell (p := ⟨b, o + j, none⟩) hbl).trans (HCELL.out j x hx)
  case c2 => intro u hu; obtain ⟨x, -, rfl⟩ := List.mem_map.1 hu; rfl
  case c3 => simp only [maxLen]; omega
  case c4 => omega
  case c5 => simp
  intro v1 w1 hown hgrow hnil
  obtain ⟨h1, ⟨rfl, h2⟩ | ⟨g, cap, cur, rfl, h3, h4, h5, h6, h7, h8⟩⟩ := hown
  · omega
  have hz := hgrow.size
  simp only [World.size_alloc] at hz
  have b1 : Hid (w1.heap[w.heap.size + 1]? = some (.cells #[.slice none 0 0] 53 (0, 0))) := by
    refine Lib.hid ((hgrow.block _ (by simp only [World.size_alloc]; omega) (by simp [Value.ownBlock])).trans ?_)
    rw [ha_lt _ _ _ (by simp only [World.size_alloc]; omega), ha_new _ _ _ (by simp only [World.size_alloc])]
  have c1 : ∀ i, w1.cell? ⟨w.heap.size + 1, i, none⟩ = _ := cell_of_heap b1.out
  have f1 : ∀ i, w1.frozen? ⟨w.heap.size + 1, i, none⟩ = false := fun i => by simp [World.frozen?, b1.out]
  have cg := cell_of_heap h4 i
  have fg : w1.frozen? ⟨g, i, none⟩ = false := by simp [World.frozen?, h4]
  simp only [Nat.zero_add, Nat.mul_one] at h7 h8 h5
  have hic : i < cur.size := by omega
  rw [Array.getElem?_eq_getElem hic] at cg
  have HK : Hid (Keep (fun j => w.heap.size ≤ j) w w1) := by
    refine Lib.hid (Keep.grown (a := w) ?_ hgrow (fun k hk => ?_))
    · exact Keep.of_below (blw_alloc (blw_alloc (blw_alloc (Below.refl _ _) _) _) _)
    · simp [Act.eval, Value.ownBlock] at hk; right; omega
  have H4 := Lib.hid h4
  have H7 := Lib.hid h7
  have H8 := Lib.hid h8
  have H3 := Lib.hid h3
  have H5 := Lib.hid h5
  have hgs := lt_of_heap h4
  have hne1 : ¬ g = w.heap.size + 1 := by omega
  have y1 : w.heap.size + 1 < w1.heap.size := by omega
  have hil : (i : Int) < (cs.length : Int) := by omega
  have h0i : ¬ (i : Int) < 0 := by omega
  clear h1 h3 h4 h5 h6 h7 h8 hgrow hnil
  go_wp2_with fail
  refine bodyPost_ret (v := .agg #[.slice (some ⟨g, 0, none⟩) cs.length cap]) (by simp [results, go_sem, c1, f1, y1, hne1]) rfl ?_
  have hB : Hid (((w1.setCell ⟨g, i, none⟩ (.int .i64 n)).setCell ⟨w.heap.size + 1, 0, none⟩ (.slice (some ⟨g, 0, none⟩) cs.length cap)).heap[g]? = some (.cells (cur.setIfInBounds i (.int .i64 n)) 3 (0, 0))) := by
    refine Lib.hid ?_
    rw [hs_ne _ _ _ _ _ (by omega), hs_same, H4.out]
    rfl
  refine ⟨_, rfl, ?_, ?_, ?_, ?_⟩
  · have := ints_of_row (cs := cs.set i n) (cap := cap) hB.out (by rw [List.length_set]; exact H5.out) (by rw [List.length_set]; exact hlen) (by rw [List.length_set, Array.toList_setIfInBounds, List.take_set, H8.out, List.map_set])
    rw [List.length_set] at this
    exact this
  · intro b' hb'
    simp only [Value.ownBlock, Option.some.injEq] at hb'
    subst hb'
    exact ⟨_, _, hB.out⟩
  · intro b' hb'
    simp only [Value.ownBlock, Option.some.injEq] at hb'
    have := H3.out
    omega
  · refine Keep.toBelow (X := fun i => w.heap.size ≤ i) ?_ (fun i hi => by omega)
    have := H3.out
    with_reducible repeat (refine Keep.setCell ?_ _ (.inr (by simp only []; omega)))
    exact HK.out
set_option maxHeartbeats 2000000 in
theorem ref02_Right (a : Acc) (w : World) : Calls Try.prog 71 #[a.v] w fun e w' => e = .returned (.bool (memRight a)) ∧ Below w.heap.size w w' := by
  generalize hR : memRight a = R
  have HR := Lib.hid hR
  clear hR
  obtain ⟨kind, cell, old, new, bytes⟩ := a
  by_cases h1 : kind = 1
  · subst h1
    go_enter Try.func71, Try.ntmps71
    go_wp2
    all_goals (go_ret; exact ⟨ret_bool (by rw [← HR.out]; go_tidy; clear HR; rw [Bool.eq_iff_iff]; simp_all [memRight] <;> (first | omega | (rename_i ha hb; have hq := hb.resolve_left (by omega); simp [hq]))), by with_reducible repeat (first | exact Below.refl _ _ | refine blw_alloc ?_ _)⟩)
  by_cases h2 : kind = 2
  · subst h2
    go_enter Try.func71, Try.ntmps71
    go_wp2
    all_goals (go_ret; exact ⟨ret_bool (by rw [← HR.out]; go_tidy; clear HR; rw [Bool.eq_iff_iff]; simp_all [memRight] <;> (first | omega | (rename_i ha hb; have hq := hb.resolve_left (by omega); simp [hq]))), by with_reducible repeat (first | exact Below.refl _ _ | refine blw_alloc ?_ _)⟩)
  by_cases h4 : kind = 4
  · subst h4
    go_enter Try.func71, Try.ntmps71
    go_wp2
    all_goals (go_ret; exact ⟨ret_bool (by rw [← HR.out]; go_tidy; clear HR; rw [Bool.eq_iff_iff]; simp_all [memRight] <;> (first | omega | (rename_i ha hb; have hq := hb.resolve_left (by omega); simp [hq]))), by with_reducible repeat (first | exact Below.refl _ _ | refine blw_alloc ?_ _)⟩)
  by_cases h3 : kind = 3
  · subst h3
    go_enter Try.func71, Try.ntmps71
    go_wp2
    all_goals (go_ret; exact ⟨ret_bool (by rw [← HR.out]; go_tidy; clear HR; rw [Bool.eq_iff_iff]; simp_all [memRight] <;> (first | omega | (rename_i ha hb; have hq := hb.resolve_left (by omega); simp [hq]))), by with_reducible repeat (first | exact Below.refl _ _ | refine blw_alloc ?_ _)⟩)
  by_cases hlt : kind < 1
  · have d1 : decide (kind < 1) = true := by simpa using hlt
    have HK := Lib.hid (And.intro h1 (And.intro h2 (And.intro h4 h3)))
    clear h1 h2 h4 h3 hlt
    go_enter Try.func71, Try.ntmps71
    go_wp2
    all_goals (go_ret; exact ⟨ret_bool (by rw [← HR.out]; obtain ⟨h1, h2, h4, h3⟩ := HK.out; simp [memRight, h1, h2, h4, h3]), by with_reducible repeat (first | exact Below.refl _ _ | refine blw_alloc ?_ _)⟩)
  · have d1 : decide (kind < 1) = false := by simpa using hlt
    have d2 : decide (kind > 4) = true := by simp; omega
    have HK := Lib.hid (And.intro h1 (And.intro h2 (And.intro h4 h3)))
    clear h1 h2 h4 h3 hlt
    go_enter Try.func71, Try.ntmps71
    go_wp2
    all_goals (go_ret; exact ⟨ret_bool (by rw [← HR.out]; obtain ⟨h1, h2, h4, h3⟩ := HK.out; simp [memRight, h1, h2, h4, h3]), by with_reducible repeat (first | exact Below.refl _ _ | refine blw_alloc ?_ _)⟩)
end Go.Proofs.Ytpfibcbeenogiaa
