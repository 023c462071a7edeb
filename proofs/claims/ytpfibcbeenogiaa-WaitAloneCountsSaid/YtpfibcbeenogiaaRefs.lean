/- The references of mem, layout and lock, walked: New, Same, may, Of, Right, Cell. -/
import Derived.Test.YtpfibcbeenogiaaMem
import Derived.Test.YtpfibcbeenogiaaEq
namespace Go.Proofs.Ytpfibcbeenogiaa
open Go.RowKit
set_option linter.unusedSimpArgs false
set_option linter.unusedVariables false
def Fresh (w w' : World) (vm : Value) (cs : List Int) : Prop :=
  ∃ b, vm = .slice (some ⟨b, 0, none⟩) cs.length cs.length ∧ w.heap.size ≤ b ∧ w'.heap[b]? = some (.cells (cs.map (Value.int .i64)).toArray 3 (0, 0)) ∧ Below w.heap.size w w'
theorem ref_New (n : Nat) (hn : n ≤ 1048576) (w : World) : Calls Try.prog 19 #[.int .i64 (n : Int)] w fun e w' =>
    ∃ vm, e = .returned (.agg #[vm]) ∧ Fresh w w' vm (List.replicate n 0) := by
  have hmk : ∀ W : World, (Instr.makeSlice 51 (.int .i64 (n : Int)) (.int .i64 (n : Int))).run Try.prog W = .ok (.slice (some ⟨W.heap.size, 0, none⟩) n n) (W.alloc (.cells (Array.replicate n (Value.int .i64 0)) 3)) := by
    intro W
    have := make_ints n hn W
    simpa using this
  go_enter Try.func19, Try.ntmps19
  go_wp2_with fail
  refine bodyPost_ret (v := .agg #[.slice (some ⟨w.heap.size + 1, 0, none⟩) n n]) (by simp [results, go_sem]) rfl ?_
  refine ⟨_, rfl, w.heap.size + 1, by simp, by omega, ?_, ?_⟩
  · rw [ha_new _ _ _ (by simp only [World.size_alloc])]
    simp
  · with_reducible repeat (first | exact Below.refl _ _ | refine blw_alloc ?_ _)
def rMay (thr locs lks sec man : Int) : Bool := decide (1 ≤ thr) && decide (thr ≤ 4) && decide (0 ≤ locs) && decide (locs ≤ 32) && decide (0 ≤ lks) && decide (lks ≤ 8) && decide (0 ≤ sec) && decide (sec ≤ 512) && decide (0 ≤ man) && decide (man ≤ 3)
theorem ref_may (thr locs lks sec man : Int) (w : World) : Calls Try.prog 54 #[.agg #[.int .i64 thr, .int .i64 locs, .int .i64 lks, .int .i64 sec, .int .i64 man]] w fun e w' => e = .returned (.bool (rMay thr locs lks sec man)) ∧ Below w.heap.size w w' := by
  generalize hR : rMay thr locs lks sec man = R
  have HR := Lib.hid hR
  clear hR
  go_enter Try.func54, Try.ntmps54
  go_wp2
  all_goals (go_ret; refine ⟨ret_bool ?_, by with_reducible repeat (first | exact Below.refl _ _ | refine blw_alloc ?_ _)⟩; rw [← HR.out]; clear HR; go_tidy; rw [Bool.eq_iff_iff]; simp only [rMay, Bool.and_eq_true, decide_eq_true_eq, Bool.false_eq_true, false_iff, true_iff] ; (try omega))
def layOf (thr locs lks sec man : Int) : Lay := ⟨thr, locs, lks, sec, man, 0, 1, 2, 3, 4, 4 + 4 * thr, 4 + 4 * thr + lks, 4 + 4 * thr + lks + 4 * locs⟩
def layZero : Lay := ⟨0, 0, 0, 0, 0, 0, 0, 0, 0, 0, 0, 0, 0⟩
def rOf (thr locs lks sec man : Int) : Lay × Int := if rMay thr locs lks sec man then (layOf thr locs lks sec man, 0) else (layZero, 1)
theorem ref_Of (thr locs lks sec man : Int) (w : World) : Calls Try.prog 18 #[.agg #[.int .i64 thr, .int .i64 locs, .int .i64 lks, .int .i64 sec, .int .i64 man]] w fun e w' =>
    e = .returned (.tuple #[(rOf thr locs lks sec man).1.v, .int .i64 (rOf thr locs lks sec man).2]) ∧ Below w.heap.size w w' := by
  cases hr : rMay thr locs lks sec man
  · have HR := Lib.hid hr
    go_enter Try.func18, Try.ntmps18
    go_wp2_with fail
    refine (ref_may _ _ _ _ _ _).mono ?_
    rintro e w1 ⟨rfl, hb⟩
    rw [HR.out]
    have bx0 := hb.block (w.heap.size) (by simp only [World.size_alloc, World.size_setCell]; omega)
    repeat (first | rw [hs_ne _ _ _ _ _ (by omega)] at bx0 | rw [ha_lt _ _ _ (by simp only [World.size_alloc, World.size_setCell]; omega)] at bx0 | rw [hs_same] at bx0 | rw [hd_drew] at bx0)
    rw [ha_new _ _ _ (by simp only [World.size_alloc, World.size_setCell])] at bx0
    try simp only [Option.map_some, putO, List.setIfInBounds_toArray, List.set_cons_zero, List.set_cons_succ] at bx0
    have Bx0 := Lib.hid bx0
    clear bx0
    have bx1 := hb.block (w.heap.size + 1) (by simp only [World.size_alloc, World.size_setCell]; omega)
    repeat (first | rw [hs_ne _ _ _ _ _ (by omega)] at bx1 | rw [ha_lt _ _ _ (by simp only [World.size_alloc, World.size_setCell]; omega)] at bx1 | rw [hs_same] at bx1 | rw [hd_drew] at bx1)
    rw [ha_new _ _ _ (by simp only [World.size_alloc, World.size_setCell])] at bx1
    try simp only [Option.map_some, putO, List.setIfInBounds_toArray, List.set_cons_zero, List.set_cons_succ] at bx1
    have Bx1 := Lib.hid bx1
    clear bx1
    have cx0 : ∀ i, w1.cell? ⟨w.heap.size, i, none⟩ = _ := cell_of_heap Bx0.out
    have fx0 : ∀ i, w1.frozen? ⟨w.heap.size, i, none⟩ = false := fun i => by simp [World.frozen?, Bx0.out]
    have cx1 : ∀ i, w1.cell? ⟨w.heap.size + 1, i, none⟩ = _ := cell_of_heap Bx1.out
    have fx1 : ∀ i, w1.frozen? ⟨w.heap.size + 1, i, none⟩ = false := fun i => by simp [World.frozen?, Bx1.out]
    have Q1 := Lib.hid (blw_then (w := w) (by with_reducible repeat (first | exact Below.refl _ _ | refine blw_alloc ?_ _ | refine blw_drew ?_)) hb)
    have zQ1 := hb.size
    simp only [World.size_alloc, World.size_setCell] at zQ1
    clear hb hr
    go_wp2
    refine bodyPost_ret (v := .tuple #[layZero.v, .int .i64 1]) (by simp [results, go_sem, cx1, fx1, layZero]) rfl ?_
    refine ⟨by rw [rOf, if_neg (by rw [HR.out]; simp)], ?_⟩
    refine Keep.toBelow (X := fun i => w.heap.size ≤ i) ?_ (fun i hi => by omega)
    with_reducible repeat (first | refine Keep.setCell ?_ _ (.inr (by simp only []; omega)) | refine Keep.drew ?_ | refine Keep.alloc ?_ _)
    exact Keep.of_below Q1.out
  · have HR := Lib.hid hr
    go_enter Try.func18, Try.ntmps18
    go_wp2_with fail
    refine (ref_may _ _ _ _ _ _).mono ?_
    rintro e w1 ⟨rfl, hb⟩
    rw [HR.out]
    have bx0 := hb.block (w.heap.size) (by simp only [World.size_alloc, World.size_setCell]; omega)
    repeat (first | rw [hs_ne _ _ _ _ _ (by omega)] at bx0 | rw [ha_lt _ _ _ (by simp only [World.size_alloc, World.size_setCell]; omega)] at bx0 | rw [hs_same] at bx0 | rw [hd_drew] at bx0)
    rw [ha_new _ _ _ (by simp only [World.size_alloc, World.size_setCell])] at bx0
    try simp only [Option.map_some, putO, List.setIfInBounds_toArray, List.set_cons_zero, List.set_cons_succ] at bx0
    have Bx0 := Lib.hid bx0
    clear bx0
    have bx1 := hb.block (w.heap.size + 1) (by simp only [World.size_alloc, World.size_setCell]; omega)
    repeat (first | rw [hs_ne _ _ _ _ _ (by omega)] at bx1 | rw [ha_lt _ _ _ (by simp only [World.size_alloc, World.size_setCell]; omega)] at bx1 | rw [hs_same] at bx1 | rw [hd_drew] at bx1)
    rw [ha_new _ _ _ (by simp only [World.size_alloc, World.size_setCell])] at bx1
    try simp only [Option.map_some, putO, List.setIfInBounds_toArray, List.set_cons_zero, List.set_cons_succ] at bx1
    have Bx1 := Lib.hid bx1
    clear bx1
    have cx0 : ∀ i, w1.cell? ⟨w.heap.size, i, none⟩ = _ := cell_of_heap Bx0.out
    have fx0 : ∀ i, w1.frozen? ⟨w.heap.size, i, none⟩ = false := fun i => by simp [World.frozen?, Bx0.out]
    have cx1 : ∀ i, w1.cell? ⟨w.heap.size + 1, i, none⟩ = _ := cell_of_heap Bx1.out
    have fx1 : ∀ i, w1.frozen? ⟨w.heap.size + 1, i, none⟩ = false := fun i => by simp [World.frozen?, Bx1.out]
    have Q1 := Lib.hid (blw_then (w := w) (by with_reducible repeat (first | exact Below.refl _ _ | refine blw_alloc ?_ _ | refine blw_drew ?_)) hb)
    have zQ1 := hb.size
    simp only [World.size_alloc, World.size_setCell] at zQ1
    clear hb
    simp only [rMay, Bool.and_eq_true, decide_eq_true_eq] at hr
    have e0 : w.heap.size < w1.heap.size := by omega
    have e1 : w.heap.size + 1 < w1.heap.size := by omega
    go_wp2
    refine bodyPost_ret (v := .tuple #[(layOf thr locs lks sec man).v, .int .i64 0]) (by simp [results, go_sem, cx1, fx1, layOf, e1]) rfl ?_
    refine ⟨by rw [rOf, if_pos HR.out], ?_⟩
    refine Keep.toBelow (X := fun i => w.heap.size ≤ i) ?_ (fun i hi => by omega)
    with_reducible repeat (first | refine Keep.setCell ?_ _ (.inr (by simp only []; omega)) | refine Keep.drew ?_ | refine Keep.alloc ?_ _)
    exact Keep.of_below Q1.out
def rRight (l : Lay) : Bool := rMay l.thr l.locs l.lks l.sec l.man && (l == layOf l.thr l.locs l.lks l.sec l.man)
theorem ref_Right (l : Lay) (w : World) : Calls Try.prog 13 #[l.v] w fun e w' => e = .returned (.bool (rRight l)) ∧ Below w.heap.size w w' := by
  have heq := eql_lay
  cases hr : rMay l.thr l.locs l.lks l.sec l.man
  · have HR := Lib.hid hr
    go_enter Try.func13, Try.ntmps13
    go_wp2_with fail
    refine (ref_Of _ _ _ _ _ _).mono ?_
    rintro e w1 ⟨rfl, hb⟩
    rw [show rOf l.thr l.locs l.lks l.sec l.man = (layZero, 1) by rw [rOf, if_neg (by rw [HR.out]; simp)]]
    have bx0 := hb.block (w.heap.size) (by simp only [World.size_alloc, World.size_setCell]; omega)
    repeat (first | rw [hs_ne _ _ _ _ _ (by omega)] at bx0 | rw [ha_lt _ _ _ (by simp only [World.size_alloc, World.size_setCell]; omega)] at bx0 | rw [hs_same] at bx0 | rw [hd_drew] at bx0)
    rw [ha_new _ _ _ (by simp only [World.size_alloc, World.size_setCell])] at bx0
    try simp only [Option.map_some, putO, List.setIfInBounds_toArray, List.set_cons_zero, List.set_cons_succ] at bx0
    have Bx0 := Lib.hid bx0
    clear bx0
    have cx0 : ∀ i, w1.cell? ⟨w.heap.size, i, none⟩ = _ := cell_of_heap Bx0.out
    have fx0 : ∀ i, w1.frozen? ⟨w.heap.size, i, none⟩ = false := fun i => by simp [World.frozen?, Bx0.out]
    have Q1 := Lib.hid (blw_then (w := w) (by with_reducible repeat (first | exact Below.refl _ _ | refine blw_alloc ?_ _ | refine blw_drew ?_)) hb)
    have zQ1 := hb.size
    simp only [World.size_alloc, World.size_setCell] at zQ1
    clear hb
    go_wp2
    go_ret
    refine ⟨ret_bool (by rw [rRight, HR.out]; rfl), ?_⟩
    refine Keep.toBelow (X := fun i => w.heap.size ≤ i) ?_ (fun i hi => by omega)
    with_reducible repeat (first | refine Keep.setCell ?_ _ (.inr (by simp only []; omega)) | refine Keep.drew ?_ | refine Keep.alloc ?_ _)
    exact Keep.of_below Q1.out
  · have HR := Lib.hid hr
    go_enter Try.func13, Try.ntmps13
    go_wp2_with fail
    refine (ref_Of _ _ _ _ _ _).mono ?_
    rintro e w1 ⟨rfl, hb⟩
    rw [show rOf l.thr l.locs l.lks l.sec l.man = (layOf l.thr l.locs l.lks l.sec l.man, 0) by rw [rOf, if_pos HR.out]]
    have bx0 := hb.block (w.heap.size) (by simp only [World.size_alloc, World.size_setCell]; omega)
    repeat (first | rw [hs_ne _ _ _ _ _ (by omega)] at bx0 | rw [ha_lt _ _ _ (by simp only [World.size_alloc, World.size_setCell]; omega)] at bx0 | rw [hs_same] at bx0 | rw [hd_drew] at bx0)
    rw [ha_new _ _ _ (by simp only [World.size_alloc, World.size_setCell])] at bx0
    try simp only [Option.map_some, putO, List.setIfInBounds_toArray, List.set_cons_zero, List.set_cons_succ] at bx0
    have Bx0 := Lib.hid bx0
    clear bx0
    have cx0 : ∀ i, w1.cell? ⟨w.heap.size, i, none⟩ = _ := cell_of_heap Bx0.out
    have fx0 : ∀ i, w1.frozen? ⟨w.heap.size, i, none⟩ = false := fun i => by simp [World.frozen?, Bx0.out]
    have Q1 := Lib.hid (blw_then (w := w) (by with_reducible repeat (first | exact Below.refl _ _ | refine blw_alloc ?_ _ | refine blw_drew ?_)) hb)
    have zQ1 := hb.size
    simp only [World.size_alloc, World.size_setCell] at zQ1
    clear hb
    have e0 : w.heap.size < w1.heap.size := by omega
    have HL : Hid (rRight l = decide (layOf l.thr l.locs l.lks l.sec l.man = l)) := by
      show rRight l = _
      rw [rRight, HR.out, Bool.true_and, Bool.eq_iff_iff]
      simp only [beq_iff_eq, decide_eq_true_eq]
      exact eq_comm
    generalize layOf l.thr l.locs l.lks l.sec l.man = m at *
    clear hr HR
    have heq' := heq m l
    obtain ⟨m1, m2, m3, m4, m5, m6, m7, m8, m9, m10, m11, m12, m13⟩ := m
    obtain ⟨l1, l2, l3, l4, l5, l6, l7, l8, l9, l10, l11, l12, l13⟩ := l
    simp only at cx0 heq'
    clear heq
    go_wp2
    go_ret
    refine ⟨ret_bool (by rw [HL.out, Bool.eq_iff_iff]; simp [and_assoc]), ?_⟩
    refine Keep.toBelow (X := fun i => w.heap.size ≤ i) ?_ (fun i hi => by omega)
    with_reducible repeat (first | refine Keep.setCell ?_ _ (.inr (by simp only []; omega)) | refine Keep.drew ?_ | refine Keep.alloc ?_ _)
    exact Keep.of_below Q1.out
def memCell (cs : List Int) (k : Int) : Int := if k < 0 then 0 else cs[k.toNat]?.getD 0
theorem ref_Cell (cs : List Int) (k : Int) (vm : Value) (w : World) (hm : IntsR w vm cs) : Calls Try.prog 27 #[.agg #[vm], .int .i64 k] w fun e w' => e = .returned (.int .i64 (memCell cs k)) ∧ Below w.heap.size w w' := by
  obtain ⟨A, c, rfl, hc, hml, hA⟩ := hm.one
  by_cases h0 : k < 0
  · clear hA
    go_enter Try.func27, Try.ntmps27
    go_wp2
    go_ret
    exact ⟨by rw [memCell, if_pos (by omega)]; rfl, by with_reducible repeat (first | exact Below.refl _ _ | refine blw_alloc ?_ _)⟩
  by_cases hk : k ≥ (cs.length : Int)
  · clear hA
    go_enter Try.func27, Try.ntmps27
    go_wp2
    go_ret
    exact ⟨by rw [memCell, if_neg (by omega), List.getElem?_eq_none (by omega)]; rfl, by with_reducible repeat (first | exact Below.refl _ _ | refine blw_alloc ?_ _)⟩
  · obtain ⟨i, rfl⟩ := Int.eq_ofNat_of_zero_le (show 0 ≤ k by omega)
    have hil : i < cs.length := by omega
    have hne : cs ≠ [] := by intro e; simp [e] at hil
    obtain ⟨b, o, rfl, hbl, hcell⟩ := hA hne
    have hx : cs[i]? = some cs[i] := List.getElem?_eq_getElem hil
    have cw := hcell i _ hx
    have HX := Lib.hid hx
    clear hcell hA hx
    generalize cs[i] = x at *
    go_enter Try.func27, Try.ntmps27
    go_wp2
    go_ret
    exact ⟨by rw [memCell, if_neg (by omega), Int.toNat_natCast, HX.out]; rfl, by with_reducible repeat (first | exact Below.refl _ _ | refine blw_alloc ?_ _)⟩
end Go.Proofs.Ytpfibcbeenogiaa
