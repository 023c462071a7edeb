/- law18.VisibleMatchesSpec, walked. -/
import Derived.Test.YtpfibcbeenogiaaSane
import Derived.Test.YtpfibcbeenogiaaBitsB
import Derived.Test.YtpfibcbeenogiaaEq
namespace Go.Proofs.Ytpfibcbeenogiaa
open Go.RowKit
set_option linter.unusedSimpArgs false
set_option linter.unusedVariables false
def IsSl (v : Value) : Prop := ∃ A n c, v = .slice A n c
set_option maxRecDepth 100000 in
set_option maxHeartbeats 4000000 in
theorem law_VM (l : Lay) (me : Int) (o : OpV) (vlog : Value) (log : List Rs) (w : World) (hs : SlR 2 Rs.cells w vlog log) (hI : ∀ r, r ∈ log → I64 r.val) (hse : IsSl o.seen) (hwr : IsSl o.writes) (hdu : IsSl o.durable) :
    Calls Try.prog 3 #[.agg #[.int .i64 l.thr, .int .i64 l.locs, .int .i64 l.lks, .int .i64 l.sec, .int .i64 l.man, .int .i64 l.clk, .int .i64 l.stp, .int .i64 l.log, .int .i64 l.fin, .int .i64 l.thd, .int .i64 l.lck, .int .i64 l.loc, .int .i64 l.size, .int .i64 me,
      .int .i64 o.kind, .int .i64 o.a, .int .i64 o.b, .int .i64 o.try_, .int .i64 o.stamp, .int .i64 o.karma, .int .i64 o.aborts, o.seen, o.writes, o.durable, vlog]] w fun e w' => e = .returned (.bool true) ∧ Below w.heap.size w w' := by
  have HS := Lib.hid hs
  have HI := Lib.hid hI
  obtain ⟨A, c, rfl, -⟩ := hs.out
  clear hs hI
  obtain ⟨kind, a, b, try_, stamp, karma, aborts, seen, writes, durable⟩ := o
  obtain ⟨A1, n1, c1, rfl⟩ : IsSl seen := hse
  obtain ⟨A2, n2, c2, rfl⟩ : IsSl writes := hwr
  obtain ⟨A3, n3, c3, rfl⟩ : IsSl durable := hdu
  go_enter Try.func3, Try.ntmps3
  go_wp2_with fail
  refine (law_sanity _).mono ?_
  rintro e w1 ⟨rfl, hb1⟩
  have ba1 := hb1.block (w.heap.size + 1) (by simp only [World.size_alloc, World.size_setCell]; omega)
  repeat (first | rw [hs_ne _ _ _ _ _ (by omega)] at ba1 | rw [ha_lt _ _ _ (by simp only [World.size_alloc, World.size_setCell]; omega)] at ba1 | rw [hs_same] at ba1 | rw [hd_drew] at ba1)
  rw [ha_new _ _ _ (by simp only [World.size_alloc, World.size_setCell])] at ba1
  try simp only [Option.map_some, putO, List.setIfInBounds_toArray, List.set_cons_zero, List.set_cons_succ] at ba1
  have Ba1 := Lib.hid ba1
  clear ba1
  have ba2 := hb1.block (w.heap.size + 1 + 1) (by simp only [World.size_alloc, World.size_setCell]; omega)
  repeat (first | rw [hs_ne _ _ _ _ _ (by omega)] at ba2 | rw [ha_lt _ _ _ (by simp only [World.size_alloc, World.size_setCell]; omega)] at ba2 | rw [hs_same] at ba2 | rw [hd_drew] at ba2)
  rw [ha_new _ _ _ (by simp only [World.size_alloc, World.size_setCell])] at ba2
  try simp only [Option.map_some, putO, List.setIfInBounds_toArray, List.set_cons_zero, List.set_cons_succ] at ba2
  have Ba2 := Lib.hid ba2
  clear ba2
  have ca1 : ∀ i, w1.cell? ⟨w.heap.size + 1, i, none⟩ = _ := cell_of_heap Ba1.out
  have fa1 : ∀ i, w1.frozen? ⟨w.heap.size + 1, i, none⟩ = false := fun i => by simp [World.frozen?, Ba1.out]
  have ca2 : ∀ i, w1.cell? ⟨w.heap.size + 1 + 1, i, none⟩ = _ := cell_of_heap Ba2.out
  have fa2 : ∀ i, w1.frozen? ⟨w.heap.size + 1 + 1, i, none⟩ = false := fun i => by simp [World.frozen?, Ba2.out]
  have Q1 := Lib.hid (blw_then (w := w) (by with_reducible repeat (first | exact Below.refl _ _ | refine blw_alloc ?_ _ | refine blw_drew ?_)) hb1)
  have zQ1 := hb1.size
  simp only [World.size_alloc, World.size_setCell] at zQ1
  clear hb1
  cases hr : rRight l
  · have HR := Lib.hid hr
    clear hr
    go_wp2_with fail
    refine (ref_Right l _).mono ?_
    rintro e w2 ⟨rfl, hb2⟩
    rw [HR.out]
    have Q2 := Lib.hid (blw_then Q1.out hb2)
    clear hb2
    go_wp2
    go_ret
    exact ⟨rfl, Q2.out⟩
  have HR := Lib.hid hr
  clear hr
  go_wp2_with fail
  refine (ref_Right l _).mono ?_
  rintro e w2 ⟨rfl, hb2⟩
  rw [HR.out]
  have Bb1 := Lib.hid ((hb2.block (w.heap.size + 1) (lt_of_heap Ba1.out)).trans Ba1.out)
  have Bb2 := Lib.hid ((hb2.block (w.heap.size + 1 + 1) (lt_of_heap Ba2.out)).trans Ba2.out)
  clear ca1 fa1
  have cb1 : ∀ i, w2.cell? ⟨w.heap.size + 1, i, none⟩ = _ := cell_of_heap Bb1.out
  have fb1 : ∀ i, w2.frozen? ⟨w.heap.size + 1, i, none⟩ = false := fun i => by simp [World.frozen?, Bb1.out]
  clear ca2 fa2
  have cb2 : ∀ i, w2.cell? ⟨w.heap.size + 1 + 1, i, none⟩ = _ := cell_of_heap Bb2.out
  have fb2 : ∀ i, w2.frozen? ⟨w.heap.size + 1 + 1, i, none⟩ = false := fun i => by simp [World.frozen?, Bb2.out]
  have Q2 := Lib.hid (blw_then Q1.out hb2)
  have z2 := hb2.size
  clear hb2
  by_cases hlen : 60 < log.length
  · have hd : decide ((log.length : Int) > 60) = true := by simp; omega
    go_wp2
    go_ret
    exact ⟨rfl, Q2.out⟩
  have hd : decide ((log.length : Int) > 60) = false := by simp; omega
  have HE : Hid (stepOf (visP l me kind a) log = stepOf (rvisP l me kind a) log) := by
    refine visP_eq l me kind a log ?_ HI.out
    have := HR.out
    simp only [rRight, rMay, Bool.and_eq_true, decide_eq_true_eq] at this
    omega
  clear hlen
  go_wp2_with fail
  refine (vis_Next l me ⟨kind, a, b, try_, stamp, karma, aborts, .slice A1 n1 c1, .slice A2 n2 c2, .slice A3 n3 c3⟩ _ log w2 (HS.out.below Q2.out)).mono ?_
  rintro e w3 ⟨rfl, hb3⟩
  rw [HE.out]
  obtain ⟨S, hS⟩ : ∃ S, stepOf (rvisP l me kind a) log = S := ⟨_, rfl⟩
  rw [hS]
  have HSS := Lib.hid hS
  clear hS
  obtain ⟨⟨a1, a2, a3, a4, a5⟩, ⟨o1, o2, o3, o4, o5, o6, o7⟩, bd⟩ := S
  have Bd1 := Lib.hid ((hb3.block (w.heap.size + 1) (lt_of_heap Bb1.out)).trans Bb1.out)
  have Bd2 := Lib.hid ((hb3.block (w.heap.size + 1 + 1) (lt_of_heap Bb2.out)).trans Bb2.out)
  clear cb1 fb1
  have cd1 : ∀ i, w3.cell? ⟨w.heap.size + 1, i, none⟩ = _ := cell_of_heap Bd1.out
  have fd1 : ∀ i, w3.frozen? ⟨w.heap.size + 1, i, none⟩ = false := fun i => by simp [World.frozen?, Bd1.out]
  clear cb2 fb2
  have cd2 : ∀ i, w3.cell? ⟨w.heap.size + 1 + 1, i, none⟩ = _ := cell_of_heap Bd2.out
  have fd2 : ∀ i, w3.frozen? ⟨w.heap.size + 1 + 1, i, none⟩ = false := fun i => by simp [World.frozen?, Bd2.out]
  have Q3 := Lib.hid (blw_then Q2.out hb3)
  have z3 := hb3.size
  have sv0 : w.heap.size < w3.heap.size := by omega
  have sv1 : w.heap.size + 1 < w3.heap.size := by omega
  have sv2 : w.heap.size + 1 + 1 < w3.heap.size := by omega
  clear hb3
  go_wp2_with fail
  generalize hW4 : (w3.alloc _).alloc _ = W4
  have ba4 := ha_new w3 (.cells #[.int .i64 a1, .int .i64 a2, .int .i64 a3, .int .i64 a4, .string a5] 39) _ rfl
  have bo4 := ha_new (w3.alloc (.cells #[.int .i64 a1, .int .i64 a2, .int .i64 a3, .int .i64 a4, .string a5] 39)) (.cells #[.int .i64 o1, .int .i64 o2, .int .i64 o3, .int .i64 o4, .bool o5, .bool o6, .int .i64 o7] 42) _ rfl
  rw [World.size_alloc] at bo4
  have ba4' := (ha_lt _ (.cells #[.int .i64 o1, .int .i64 o2, .int .i64 o3, .int .i64 o4, .bool o5, .bool o6, .int .i64 o7] 42) _ (lt_of_heap ba4)).trans ba4
  have hb4 : Below w3.heap.size w3 ((w3.alloc (.cells #[.int .i64 a1, .int .i64 a2, .int .i64 a3, .int .i64 a4, .string a5] 39)).alloc (.cells #[.int .i64 o1, .int .i64 o2, .int .i64 o3, .int .i64 o4, .bool o5, .bool o6, .int .i64 o7] 42)) := blw_alloc (blw_alloc (Below.refl _ _) _) _
  clear ba4
  rw [hW4] at bo4 ba4' hb4
  clear hW4
  have Ba := Lib.hid ba4'
  have Bo := Lib.hid bo4
  have Bf1 := Lib.hid ((hb4.block (w.heap.size + 1) (lt_of_heap Bd1.out)).trans Bd1.out)
  have Bf2 := Lib.hid ((hb4.block (w.heap.size + 1 + 1) (lt_of_heap Bd2.out)).trans Bd2.out)
  clear cd1 fd1
  have cf1 : ∀ i, W4.cell? ⟨w.heap.size + 1, i, none⟩ = _ := cell_of_heap Bf1.out
  have ff1 : ∀ i, W4.frozen? ⟨w.heap.size + 1, i, none⟩ = false := fun i => by simp [World.frozen?, Bf1.out]
  clear cd2 fd2
  have cf2 : ∀ i, W4.cell? ⟨w.heap.size + 1 + 1, i, none⟩ = _ := cell_of_heap Bf2.out
  have ff2 : ∀ i, W4.frozen? ⟨w.heap.size + 1 + 1, i, none⟩ = false := fun i => by simp [World.frozen?, Bf2.out]
  have Q4 := Lib.hid (blw_then Q3.out hb4)
  clear hb4 ba4' bo4
  generalize w3.heap.size = s3 at *
  refine (ref_VNext l me ⟨kind, a, b, try_, stamp, karma, aborts, .slice A1 n1 c1, .slice A2 n2 c2, .slice A3 n3 c3⟩ _ log W4 (HS.out.below Q4.out)).mono ?_
  rintro e w5 ⟨rfl, hb5⟩
  rw [HSS.out]
  have Ba5 := Lib.hid ((hb5.block _ (lt_of_heap Ba.out)).trans Ba.out)
  have Bo5 := Lib.hid ((hb5.block _ (lt_of_heap Bo.out)).trans Bo.out)
  have Bg1 := Lib.hid ((hb5.block (w.heap.size + 1) (lt_of_heap Bf1.out)).trans Bf1.out)
  have Bg2 := Lib.hid ((hb5.block (w.heap.size + 1 + 1) (lt_of_heap Bf2.out)).trans Bf2.out)
  clear cf1 ff1
  have cg1 : ∀ i, w5.cell? ⟨w.heap.size + 1, i, none⟩ = _ := cell_of_heap Bg1.out
  have fg1 : ∀ i, w5.frozen? ⟨w.heap.size + 1, i, none⟩ = false := fun i => by simp [World.frozen?, Bg1.out]
  clear cf2 ff2
  have cg2 : ∀ i, w5.cell? ⟨w.heap.size + 1 + 1, i, none⟩ = _ := cell_of_heap Bg2.out
  have fg2 : ∀ i, w5.frozen? ⟨w.heap.size + 1 + 1, i, none⟩ = false := fun i => by simp [World.frozen?, Bg2.out]
  have Q5 := Lib.hid (blw_then Q4.out hb5)
  have z5 := hb5.size
  clear hb5 Ba Bo cg1 fg1 cg2 fg2
  go_wp2_with fail
  generalize hW6 : (w5.alloc _).alloc _ = W6
  have ba6 := ha_new w5 (.cells #[.int .i64 a1, .int .i64 a2, .int .i64 a3, .int .i64 a4, .string a5] 39) _ rfl
  have bo6 := ha_new (w5.alloc (.cells #[.int .i64 a1, .int .i64 a2, .int .i64 a3, .int .i64 a4, .string a5] 39)) (.cells #[.int .i64 o1, .int .i64 o2, .int .i64 o3, .int .i64 o4, .bool o5, .bool o6, .int .i64 o7] 42) _ rfl
  rw [World.size_alloc] at bo6
  have ba6' := (ha_lt _ (.cells #[.int .i64 o1, .int .i64 o2, .int .i64 o3, .int .i64 o4, .bool o5, .bool o6, .int .i64 o7] 42) _ (lt_of_heap ba6)).trans ba6
  have hb6 : Below w5.heap.size w5 ((w5.alloc (.cells #[.int .i64 a1, .int .i64 a2, .int .i64 a3, .int .i64 a4, .string a5] 39)).alloc (.cells #[.int .i64 o1, .int .i64 o2, .int .i64 o3, .int .i64 o4, .bool o5, .bool o6, .int .i64 o7] 42)) := blw_alloc (blw_alloc (Below.refl _ _) _) _
  clear ba6
  rw [hW6] at bo6 ba6' hb6
  clear hW6
  have e1 := after_cell ((hb6.block _ (lt_of_heap Ba5.out)).trans Ba5.out)
  have e2 := after_cell ((hb6.block _ (lt_of_heap Bo5.out)).trans Bo5.out)
  have e3 := after_cell ba6'
  have e4 := after_cell bo6
  have e5 := after_cell ((hb6.block _ (lt_of_heap Bg1.out)).trans Bg1.out)
  have e6 := after_cell ((hb6.block _ (lt_of_heap Bg2.out)).trans Bg2.out)
  have Q6 := Lib.hid (blw_then Q5.out hb6)
  clear hb6 ba6' bo6 Ba5 Bo5
  generalize w5.heap.size = s5 at *
  have g1 : ∀ w' : World, (binOp .eql 39 (.agg #[.int .i64 a1, .int .i64 a2, .int .i64 a3, .int .i64 a4, .string a5]) (.agg #[.int .i64 a1, .int .i64 a2, .int .i64 a3, .int .i64 a4, .string a5])).run Try.prog w' = .ok (.bool true) w' := fun w' => by
    have := eql_acc ⟨a1, a2, a3, a4, a5⟩ ⟨a1, a2, a3, a4, a5⟩ w'
    rwa [Acc.eqb_self] at this
  have g2 : ∀ w' : World, (binOp .eql 42 (.agg #[.int .i64 o1, .int .i64 o2, .int .i64 o3, .int .i64 o4, .bool o5, .bool o6, .int .i64 o7]) (.agg #[.int .i64 o1, .int .i64 o2, .int .i64 o3, .int .i64 o4, .bool o5, .bool o6, .int .i64 o7])).run Try.prog w' = .ok (.bool true) w' := fun w' => by
    have := eql_ou ⟨o1, o2, o3, o4, o5, o6, o7⟩ ⟨o1, o2, o3, o4, o5, o6, o7⟩ w'
    simpa using this
  have K1 : Hid (∀ u : After W6, Calls Try.prog 16 #[l.v, .agg #[.int .i64 stamp, .int .i64 karma, .int .i64 aborts]] u.w (fun e w' => e = .returned (.bool (visNeeds l.man aborts)) ∧ ∃ u' : After W6, w' = u'.w)) := fun u => after_call (vis_Needs l stamp karma aborts u.w)
  have K2 : Hid (∀ u : After W6, Calls Try.prog 17 #[l.v, .agg #[.int .i64 stamp, .int .i64 karma, .int .i64 aborts]] u.w (fun e w' => e = .returned (.bool (visNeeds l.man aborts)) ∧ ∃ u' : After W6, w' = u'.w)) := fun u => after_call (ref_Needs l stamp karma aborts u.w)
  refine region_after (by kernel_rfl) (by kernel_rfl) ?_
  repeat (go_big_quiet_step ((first | exact K1.out _ | exact K2.out _)))
  refine wpQuiet_nil ?_
  rintro _ ⟨⟨w9, hb9⟩, rfl⟩
  have Q9 := Lib.hid (blw_then Q6.out hb9)
  clear hb9 e1 e2 e3 e4 e5 e6 g1 g2
  go_wp2
  go_ret
  exact ⟨rfl, Q9.out⟩
end Go.Proofs.Ytpfibcbeenogiaa
