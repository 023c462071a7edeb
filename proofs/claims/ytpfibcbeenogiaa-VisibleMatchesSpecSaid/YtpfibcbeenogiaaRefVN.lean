/- The reference of package visible, walked: Next. -/
import Derived.Test.YtpfibcbeenogiaaRefV
import Derived.Test.YtpfibcbeenogiaaRefs
import Derived.Test.YtpfibcbeenogiaaVisEnd
namespace Go.Proofs.Ytpfibcbeenogiaa
open Go.RowKit
set_option linter.unusedSimpArgs false
set_option linter.unusedVariables false
def rvisP (l : Lay) (me kind a : Int) : M Ou :=
  if visCell l kind a < 0 ∨ cellP l.thd l.thr me 4 0 < 0 then M.ret (outErr 1)
  else (if kind = 1 ∨ kind = 3 then rPutM (visCell l kind a) me else rOutM (visCell l kind a) me).map outIs
theorem told_step {p : M Bool} {log : List Rs} {a : Acc} {is : Bool} {s : Cu} (h : curM p false log ⟨0, a, false⟩ = (is, s)) : curTold s (outIs is) = stepOf (p.map outIs) log := by
  cases hp : p log 0 with
  | error x =>
    rw [curM_err hp] at h
    simp only [Prod.mk.injEq] at h
    obtain ⟨rfl, rfl⟩ := h
    simp [curTold, stepOf, M.map, M.bind, hp]
  | ok r =>
    obtain ⟨b, k⟩ := r
    rw [curM_ok hp] at h
    simp only [Prod.mk.injEq] at h
    obtain ⟨rfl, rfl⟩ := h
    simp [curTold, stepOf, M.map, M.bind, M.ret, hp]
set_option maxHeartbeats 1000000 in
theorem ref_VNext1 (l : Lay) (me : Int) (o : OpV) (hk : o.kind = 1) (vlog : Value) (log : List Rs) (w : World) (hs : SlR 2 Rs.cells w vlog log) :
    Calls Try.prog 15 #[l.v, .int .i64 me, .agg o.cells, vlog] w fun e w' => e = .returned (tripV (stepOf (rvisP l me o.kind o.a) log)) ∧ Below w.heap.size w w' := by
  have HS := Lib.hid hs
  have HP : Hid (rvisP l me o.kind o.a = if cellP l.loc l.locs o.a 4 2 < 0 ∨ cellP l.thd l.thr me 4 0 < 0 then M.ret (outErr 1) else (rPutM (cellP l.loc l.locs o.a 4 2) me).map outIs) := by
    show rvisP l me o.kind o.a = _
    rw [hk]; rfl
  obtain ⟨A0, c0, rfl, -⟩ := hs.out
  clear hs
  obtain ⟨T, hT⟩ : ∃ T, stepOf (rvisP l me o.kind o.a) log = T := ⟨_, rfl⟩
  rw [hT]
  have HT := Lib.hid hT
  clear hT
  obtain ⟨⟨a1, a2, a3, a4, a5⟩, ⟨o1, o2, o3, o4, o5, o6, o7⟩, bd⟩ := T
  obtain ⟨kind, a, b, try_, stamp, karma, aborts, seen, writes, durable⟩ := o
  simp only at hk HP HT
  subst hk
  go_enter Try.func15, Try.ntmps15
  go_wp2_with fail
  refine (ref_Readers l a _).mono ?_
  rintro e w1 ⟨rfl, hb1⟩
  have ba0 := hb1.block (w.heap.size) (by simp only [World.size_alloc, World.size_setCell]; omega)
  repeat (first | rw [hs_ne _ _ _ _ _ (by omega)] at ba0 | rw [ha_lt _ _ _ (by simp only [World.size_alloc, World.size_setCell]; omega)] at ba0 | rw [hs_same] at ba0 | rw [hd_drew] at ba0)
  rw [ha_new _ _ _ (by simp only [World.size_alloc, World.size_setCell])] at ba0
  try simp only [Option.map_some, putO, List.setIfInBounds_toArray, List.set_cons_zero, List.set_cons_succ] at ba0
  have Ba0 := Lib.hid ba0
  clear ba0
  have ba1 := hb1.block (w.heap.size + 1) (by simp only [World.size_alloc, World.size_setCell]; omega)
  repeat (first | rw [hs_ne _ _ _ _ _ (by omega)] at ba1 | rw [ha_lt _ _ _ (by simp only [World.size_alloc, World.size_setCell]; omega)] at ba1 | rw [hs_same] at ba1 | rw [hd_drew] at ba1)
  rw [ha_new _ _ _ (by simp only [World.size_alloc, World.size_setCell])] at ba1
  try simp only [Option.map_some, putO, List.setIfInBounds_toArray, List.set_cons_zero, List.set_cons_succ] at ba1
  have Ba1 := Lib.hid ba1
  clear ba1
  have ba2 := hb1.block (w.heap.size + 1 + 1) (by simp only [World.size_alloc, World.size_setCell]; omega)
  repeat (first | rw [hs_ne _ _ _ _ _ (by omega)] at ba2 | rw [ha_lt _ _ _ (by simp only [World.size_alloc, World.size_setCell]; omega)] at ba2 | rw [hs_same] at ba2 | rw [hd_drew] at ba2)
  rw [ha_new _ _ _ (by simp only [World.size_alloc, World.size_setCell])] at ba2
  try simp only [Option.map_some, putO, List.setIfInBounds_toArray, List.set_cons_zero, List.set_cons_succ] at ba2
  have Ba2 := Lib.hid ba2
  clear ba2
  have ba3 := hb1.block (w.heap.size + 1 + 1 + 1) (by simp only [World.size_alloc, World.size_setCell]; omega)
  repeat (first | rw [hs_ne _ _ _ _ _ (by omega)] at ba3 | rw [ha_lt _ _ _ (by simp only [World.size_alloc, World.size_setCell]; omega)] at ba3 | rw [hs_same] at ba3 | rw [hd_drew] at ba3)
  rw [ha_new _ _ _ (by simp only [World.size_alloc, World.size_setCell])] at ba3
  try simp only [Option.map_some, putO, List.setIfInBounds_toArray, List.set_cons_zero, List.set_cons_succ] at ba3
  have Ba3 := Lib.hid ba3
  clear ba3
  have ba4 := hb1.block (w.heap.size + 1 + 1 + 1 + 1) (by simp only [World.size_alloc, World.size_setCell]; omega)
  repeat (first | rw [hs_ne _ _ _ _ _ (by omega)] at ba4 | rw [ha_lt _ _ _ (by simp only [World.size_alloc, World.size_setCell]; omega)] at ba4 | rw [hs_same] at ba4 | rw [hd_drew] at ba4)
  rw [ha_new _ _ _ (by simp only [World.size_alloc, World.size_setCell])] at ba4
  try simp only [Option.map_some, putO, List.setIfInBounds_toArray, List.set_cons_zero, List.set_cons_succ] at ba4
  have Ba4 := Lib.hid ba4
  clear ba4
  have ca0 : ∀ i, w1.cell? ⟨w.heap.size, i, none⟩ = _ := cell_of_heap Ba0.out
  have fa0 : ∀ i, w1.frozen? ⟨w.heap.size, i, none⟩ = false := fun i => by simp [World.frozen?, Ba0.out]
  have ca1 : ∀ i, w1.cell? ⟨w.heap.size + 1, i, none⟩ = _ := cell_of_heap Ba1.out
  have fa1 : ∀ i, w1.frozen? ⟨w.heap.size + 1, i, none⟩ = false := fun i => by simp [World.frozen?, Ba1.out]
  have ca2 : ∀ i, w1.cell? ⟨w.heap.size + 1 + 1, i, none⟩ = _ := cell_of_heap Ba2.out
  have fa2 : ∀ i, w1.frozen? ⟨w.heap.size + 1 + 1, i, none⟩ = false := fun i => by simp [World.frozen?, Ba2.out]
  have ca3 : ∀ i, w1.cell? ⟨w.heap.size + 1 + 1 + 1, i, none⟩ = _ := cell_of_heap Ba3.out
  have fa3 : ∀ i, w1.frozen? ⟨w.heap.size + 1 + 1 + 1, i, none⟩ = false := fun i => by simp [World.frozen?, Ba3.out]
  have ca4 : ∀ i, w1.cell? ⟨w.heap.size + 1 + 1 + 1 + 1, i, none⟩ = _ := cell_of_heap Ba4.out
  have fa4 : ∀ i, w1.frozen? ⟨w.heap.size + 1 + 1 + 1 + 1, i, none⟩ = false := fun i => by simp [World.frozen?, Ba4.out]
  have Q1 := Lib.hid (blw_then (w := w) (by with_reducible repeat (first | exact Below.refl _ _ | refine blw_alloc ?_ _ | refine blw_drew ?_)) hb1)
  have zQ1 := hb1.size
  simp only [World.size_alloc, World.size_setCell] at zQ1
  clear hb1
  cases hc : decide (cellP l.loc l.locs a 4 2 < 0)
  · have HC := Lib.hid (of_decide_eq_false hc)
    go_wp2_with fail
    refine (ref_Status l me _).mono ?_
    rintro e w3 ⟨rfl, hb3⟩
    have Bd0 := Lib.hid ((hb3.block (w.heap.size) (lt_of_heap Ba0.out)).trans Ba0.out)
    have Bd1 := Lib.hid ((hb3.block (w.heap.size + 1) (lt_of_heap Ba1.out)).trans Ba1.out)
    have Bd2 := Lib.hid ((hb3.block (w.heap.size + 1 + 1) (lt_of_heap Ba2.out)).trans Ba2.out)
    have Bd3 := Lib.hid ((hb3.block (w.heap.size + 1 + 1 + 1) (lt_of_heap Ba3.out)).trans Ba3.out)
    have Bd4 := Lib.hid ((hb3.block (w.heap.size + 1 + 1 + 1 + 1) (lt_of_heap Ba4.out)).trans Ba4.out)
    clear ca0 fa0
    have cd0 : ∀ i, w3.cell? ⟨w.heap.size, i, none⟩ = _ := cell_of_heap Bd0.out
    have fd0 : ∀ i, w3.frozen? ⟨w.heap.size, i, none⟩ = false := fun i => by simp [World.frozen?, Bd0.out]
    clear ca1 fa1
    have cd1 : ∀ i, w3.cell? ⟨w.heap.size + 1, i, none⟩ = _ := cell_of_heap Bd1.out
    have fd1 : ∀ i, w3.frozen? ⟨w.heap.size + 1, i, none⟩ = false := fun i => by simp [World.frozen?, Bd1.out]
    clear ca2 fa2
    have cd2 : ∀ i, w3.cell? ⟨w.heap.size + 1 + 1, i, none⟩ = _ := cell_of_heap Bd2.out
    have fd2 : ∀ i, w3.frozen? ⟨w.heap.size + 1 + 1, i, none⟩ = false := fun i => by simp [World.frozen?, Bd2.out]
    clear ca3 fa3
    have cd3 : ∀ i, w3.cell? ⟨w.heap.size + 1 + 1 + 1, i, none⟩ = _ := cell_of_heap Bd3.out
    have fd3 : ∀ i, w3.frozen? ⟨w.heap.size + 1 + 1 + 1, i, none⟩ = false := fun i => by simp [World.frozen?, Bd3.out]
    clear ca4 fa4
    have cd4 : ∀ i, w3.cell? ⟨w.heap.size + 1 + 1 + 1 + 1, i, none⟩ = _ := cell_of_heap Bd4.out
    have fd4 : ∀ i, w3.frozen? ⟨w.heap.size + 1 + 1 + 1 + 1, i, none⟩ = false := fun i => by simp [World.frozen?, Bd4.out]
    have Q3 := Lib.hid (blw_then Q1.out hb3)
    have z3 := hb3.size
    clear hb3
    cases hst : decide (cellP l.thd l.thr me 4 0 < 0)
    · have HST := Lib.hid (of_decide_eq_false hst)
      have HPP : Hid (rvisP l me 1 a = (rPutM (cellP l.loc l.locs a 4 2) me).map outIs) := by
        show _ = _
        rw [HP.out, if_neg (by have h1 := HC.out; have h2 := HST.out; omega)]
      have hlc := lt_of_heap Bd4.out
      have HCA : Hid (CurAt w3 (w.heap.size + 1 + 1 + 1 + 1) (.slice A0 log.length c0) log ⟨0, Acc.zero, false⟩) := by
        refine ⟨Bd4.out, HS.out.below Q3.out, ?_, Nat.zero_le _⟩
        rintro b' o' n' c' h1 h2
        obtain ⟨A', c2', h3, _, _, h4⟩ := HS.out.out
        obtain ⟨b2', o2', h5, h6, _⟩ := h4 h2
        rw [h3, h5] at h1
        simp only [Value.slice.injEq, Option.some.injEq, Addr.mk.injEq] at h1
        omega
      go_wp2_with fail
      refine (ref_Put (cellP l.loc l.locs a 4 2) me (w.heap.size + 1 + 1 + 1 + 1) (.slice A0 log.length c0) log ⟨0, Acc.zero, false⟩ w3 HCA.out).mono ?_
      rintro e w4 ⟨rfl, hk4, ha4, hl4⟩
      have Be2 := Lib.hid ((hk4.block (w.heap.size + 1 + 1) (lt_of_heap Bd2.out) (by omega)).trans Bd2.out)
      have Be3 := Lib.hid ((hk4.block (w.heap.size + 1 + 1 + 1) (lt_of_heap Bd3.out) (by omega)).trans Bd3.out)
      have ce2 : ∀ i, w4.cell? ⟨w.heap.size + 1 + 1, i, none⟩ = _ := cell_of_heap Be2.out
      have fe2 : ∀ i, w4.frozen? ⟨w.heap.size + 1 + 1, i, none⟩ = false := fun i => by simp [World.frozen?, Be2.out]
      have ce3 : ∀ i, w4.cell? ⟨w.heap.size + 1 + 1 + 1, i, none⟩ = _ := cell_of_heap Be3.out
      have fe3 : ∀ i, w4.frozen? ⟨w.heap.size + 1 + 1 + 1, i, none⟩ = false := fun i => by simp [World.frozen?, Be3.out]
      have z4 := hk4.size
      have HK4 := Lib.hid hk4
      have HA4 := Lib.hid ha4
      obtain ⟨R, hR⟩ : ∃ R, curM (rPutM (cellP l.loc l.locs a 4 2) me) false log ⟨0, Acc.zero, false⟩ = R := ⟨_, rfl⟩
      rw [hR] at HA4 ⊢
      have HR := Lib.hid hR
      clear hk4 ha4 hl4 hR
      obtain ⟨is, s4⟩ := R
      go_wp2_with fail
      refine (cur_Told (outIs is) (w.heap.size + 1 + 1 + 1 + 1) (.slice A0 log.length c0) s4 w4 HA4.out).mono ?_
      rintro e w5 ⟨rfl, hb5⟩
      have Bg2 := Lib.hid ((hb5.block (w.heap.size + 1 + 1) (lt_of_heap Be2.out)).trans Be2.out)
      have Bg3 := Lib.hid ((hb5.block (w.heap.size + 1 + 1 + 1) (lt_of_heap Be3.out)).trans Be3.out)
      clear ce2 fe2
      have cg2 : ∀ i, w5.cell? ⟨w.heap.size + 1 + 1, i, none⟩ = _ := cell_of_heap Bg2.out
      have fg2 : ∀ i, w5.frozen? ⟨w.heap.size + 1 + 1, i, none⟩ = false := fun i => by simp [World.frozen?, Bg2.out]
      clear ce3 fe3
      have cg3 : ∀ i, w5.cell? ⟨w.heap.size + 1 + 1 + 1, i, none⟩ = _ := cell_of_heap Bg3.out
      have fg3 : ∀ i, w5.frozen? ⟨w.heap.size + 1 + 1 + 1, i, none⟩ = false := fun i => by simp [World.frozen?, Bg3.out]
      have z5 := hb5.size
      have HB5 := Lib.hid hb5
      clear hb5
      rw [show curTold s4 (outIs is) = (⟨a1, a2, a3, a4, a5⟩, ⟨o1, o2, o3, o4, o5, o6, o7⟩, bd) by rw [told_step HR.out, ← HT.out, HPP.out]]
      clear HT HPP HP
      go_wp2
      refine bodyPost_ret (v := tripV (⟨a1, a2, a3, a4, a5⟩, ⟨o1, o2, o3, o4, o5, o6, o7⟩, bd)) (by simp [results, go_sem, cg2, fg2, cg3, fg3]) rfl ⟨rfl, ?_⟩
      refine Keep.toBelow (X := fun i => w.heap.size ≤ i) ?_ (fun i hi => by omega)
      with_reducible repeat (refine Keep.setCell ?_ _ (.inr (by simp only []; omega)))
      exact (Keep.of_below Q3.out).trans ((HK4.out.mono fun i _ hi => by omega).trans (Keep.of_below HB5.out))
    · have HST := Lib.hid (of_decide_eq_true hst)
      have HE : ((⟨a1, a2, a3, a4, a5⟩, ⟨o1, o2, o3, o4, o5, o6, o7⟩, bd) : Acc × Ou × Bool) = (Acc.zero, outErr 1, true) := by
        rw [← HT.out, HP.out, if_pos (by have h1 := HST.out; omega)]
        rfl
      simp only [Acc.zero, outErr, Prod.mk.injEq, Acc.mk.injEq, Ou.mk.injEq] at HE
      obtain ⟨⟨rfl, rfl, rfl, rfl, rfl⟩, ⟨rfl, rfl, rfl, rfl, rfl, rfl, rfl⟩, rfl⟩ := HE
      clear HP HT
      go_wp2
      refine bodyPost_ret (v := tripV (Acc.zero, outErr 1, true)) (by simp [results, go_sem, cd2, fd2, cd3, fd3, Acc.zero, outErr]) rfl ⟨rfl, ?_⟩
      refine Keep.toBelow (X := fun i => w.heap.size ≤ i) ?_ (fun i hi => by omega)
      with_reducible repeat (refine Keep.setCell ?_ _ (.inr (by simp only []; omega)))
      exact Keep.of_below Q3.out
  · have HC := Lib.hid (of_decide_eq_true hc)
    have HE : ((⟨a1, a2, a3, a4, a5⟩, ⟨o1, o2, o3, o4, o5, o6, o7⟩, bd) : Acc × Ou × Bool) = (Acc.zero, outErr 1, true) := by
      rw [← HT.out, HP.out, if_pos (by have h1 := HC.out; omega)]
      rfl
    simp only [Acc.zero, outErr, Prod.mk.injEq, Acc.mk.injEq, Ou.mk.injEq] at HE
    obtain ⟨⟨rfl, rfl, rfl, rfl, rfl⟩, ⟨rfl, rfl, rfl, rfl, rfl, rfl, rfl⟩, rfl⟩ := HE
    clear HP HT
    go_wp2
    refine bodyPost_ret (v := tripV (Acc.zero, outErr 1, true)) (by simp [results, go_sem, ca2, fa2, ca3, fa3, Acc.zero, outErr]) rfl ⟨rfl, ?_⟩
    refine Keep.toBelow (X := fun i => w.heap.size ≤ i) ?_ (fun i hi => by omega)
    with_reducible repeat (refine Keep.setCell ?_ _ (.inr (by simp only []; omega)))
    exact Keep.of_below Q1.out
set_option maxHeartbeats 1000000 in
theorem ref_VNext2 (l : Lay) (me : Int) (o : OpV) (hk : o.kind = 2) (vlog : Value) (log : List Rs) (w : World) (hs : SlR 2 Rs.cells w vlog log) :
    Calls Try.prog 15 #[l.v, .int .i64 me, .agg o.cells, vlog] w fun e w' => e = .returned (tripV (stepOf (rvisP l me o.kind o.a) log)) ∧ Below w.heap.size w w' := by
  have HS := Lib.hid hs
  have HP : Hid (rvisP l me o.kind o.a = if cellP l.loc l.locs o.a 4 2 < 0 ∨ cellP l.thd l.thr me 4 0 < 0 then M.ret (outErr 1) else (rOutM (cellP l.loc l.locs o.a 4 2) me).map outIs) := by
    show rvisP l me o.kind o.a = _
    rw [hk]; rfl
  obtain ⟨A0, c0, rfl, -⟩ := hs.out
  clear hs
  obtain ⟨T, hT⟩ : ∃ T, stepOf (rvisP l me o.kind o.a) log = T := ⟨_, rfl⟩
  rw [hT]
  have HT := Lib.hid hT
  clear hT
  obtain ⟨⟨a1, a2, a3, a4, a5⟩, ⟨o1, o2, o3, o4, o5, o6, o7⟩, bd⟩ := T
  obtain ⟨kind, a, b, try_, stamp, karma, aborts, seen, writes, durable⟩ := o
  simp only at hk HP HT
  subst hk
  go_enter Try.func15, Try.ntmps15
  go_wp2_with fail
  refine (ref_Readers l a _).mono ?_
  rintro e w1 ⟨rfl, hb1⟩
  have ba0 := hb1.block (w.heap.size) (by simp only [World.size_alloc, World.size_setCell]; omega)
  repeat (first | rw [hs_ne _ _ _ _ _ (by omega)] at ba0 | rw [ha_lt _ _ _ (by simp only [World.size_alloc, World.size_setCell]; omega)] at ba0 | rw [hs_same] at ba0 | rw [hd_drew] at ba0)
  rw [ha_new _ _ _ (by simp only [World.size_alloc, World.size_setCell])] at ba0
  try simp only [Option.map_some, putO, List.setIfInBounds_toArray, List.set_cons_zero, List.set_cons_succ] at ba0
  have Ba0 := Lib.hid ba0
  clear ba0
  have ba1 := hb1.block (w.heap.size + 1) (by simp only [World.size_alloc, World.size_setCell]; omega)
  repeat (first | rw [hs_ne _ _ _ _ _ (by omega)] at ba1 | rw [ha_lt _ _ _ (by simp only [World.size_alloc, World.size_setCell]; omega)] at ba1 | rw [hs_same] at ba1 | rw [hd_drew] at ba1)
  rw [ha_new _ _ _ (by simp only [World.size_alloc, World.size_setCell])] at ba1
  try simp only [Option.map_some, putO, List.setIfInBounds_toArray, List.set_cons_zero, List.set_cons_succ] at ba1
  have Ba1 := Lib.hid ba1
  clear ba1
  have ba2 := hb1.block (w.heap.size + 1 + 1) (by simp only [World.size_alloc, World.size_setCell]; omega)
  repeat (first | rw [hs_ne _ _ _ _ _ (by omega)] at ba2 | rw [ha_lt _ _ _ (by simp only [World.size_alloc, World.size_setCell]; omega)] at ba2 | rw [hs_same] at ba2 | rw [hd_drew] at ba2)
  rw [ha_new _ _ _ (by simp only [World.size_alloc, World.size_setCell])] at ba2
  try simp only [Option.map_some, putO, List.setIfInBounds_toArray, List.set_cons_zero, List.set_cons_succ] at ba2
  have Ba2 := Lib.hid ba2
  clear ba2
  have ba3 := hb1.block (w.heap.size + 1 + 1 + 1) (by simp only [World.size_alloc, World.size_setCell]; omega)
  repeat (first | rw [hs_ne _ _ _ _ _ (by omega)] at ba3 | rw [ha_lt _ _ _ (by simp only [World.size_alloc, World.size_setCell]; omega)] at ba3 | rw [hs_same] at ba3 | rw [hd_drew] at ba3)
  rw [ha_new _ _ _ (by simp only [World.size_alloc, World.size_setCell])] at ba3
  try simp only [Option.map_some, putO, List.setIfInBounds_toArray, List.set_cons_zero, List.set_cons_succ] at ba3
  have Ba3 := Lib.hid ba3
  clear ba3
  have ba4 := hb1.block (w.heap.size + 1 + 1 + 1 + 1) (by simp only [World.size_alloc, World.size_setCell]; omega)
  repeat (first | rw [hs_ne _ _ _ _ _ (by omega)] at ba4 | rw [ha_lt _ _ _ (by simp only [World.size_alloc, World.size_setCell]; omega)] at ba4 | rw [hs_same] at ba4 | rw [hd_drew] at ba4)
  rw [ha_new _ _ _ (by simp only [World.size_alloc, World.size_setCell])] at ba4
  try simp only [Option.map_some, putO, List.setIfInBounds_toArray, List.set_cons_zero, List.set_cons_succ] at ba4
  have Ba4 := Lib.hid ba4
  clear ba4
  have ca0 : ∀ i, w1.cell? ⟨w.heap.size, i, none⟩ = _ := cell_of_heap Ba0.out
  have fa0 : ∀ i, w1.frozen? ⟨w.heap.size, i, none⟩ = false := fun i => by simp [World.frozen?, Ba0.out]
  have ca1 : ∀ i, w1.cell? ⟨w.heap.size + 1, i, none⟩ = _ := cell_of_heap Ba1.out
  have fa1 : ∀ i, w1.frozen? ⟨w.heap.size + 1, i, none⟩ = false := fun i => by simp [World.frozen?, Ba1.out]
  have ca2 : ∀ i, w1.cell? ⟨w.heap.size + 1 + 1, i, none⟩ = _ := cell_of_heap Ba2.out
  have fa2 : ∀ i, w1.frozen? ⟨w.heap.size + 1 + 1, i, none⟩ = false := fun i => by simp [World.frozen?, Ba2.out]
  have ca3 : ∀ i, w1.cell? ⟨w.heap.size + 1 + 1 + 1, i, none⟩ = _ := cell_of_heap Ba3.out
  have fa3 : ∀ i, w1.frozen? ⟨w.heap.size + 1 + 1 + 1, i, none⟩ = false := fun i => by simp [World.frozen?, Ba3.out]
  have ca4 : ∀ i, w1.cell? ⟨w.heap.size + 1 + 1 + 1 + 1, i, none⟩ = _ := cell_of_heap Ba4.out
  have fa4 : ∀ i, w1.frozen? ⟨w.heap.size + 1 + 1 + 1 + 1, i, none⟩ = false := fun i => by simp [World.frozen?, Ba4.out]
  have Q1 := Lib.hid (blw_then (w := w) (by with_reducible repeat (first | exact Below.refl _ _ | refine blw_alloc ?_ _ | refine blw_drew ?_)) hb1)
  have zQ1 := hb1.size
  simp only [World.size_alloc, World.size_setCell] at zQ1
  clear hb1
  cases hc : decide (cellP l.loc l.locs a 4 2 < 0)
  · have HC := Lib.hid (of_decide_eq_false hc)
    go_wp2_with fail
    refine (ref_Status l me _).mono ?_
    rintro e w3 ⟨rfl, hb3⟩
    have Bd0 := Lib.hid ((hb3.block (w.heap.size) (lt_of_heap Ba0.out)).trans Ba0.out)
    have Bd1 := Lib.hid ((hb3.block (w.heap.size + 1) (lt_of_heap Ba1.out)).trans Ba1.out)
    have Bd2 := Lib.hid ((hb3.block (w.heap.size + 1 + 1) (lt_of_heap Ba2.out)).trans Ba2.out)
    have Bd3 := Lib.hid ((hb3.block (w.heap.size + 1 + 1 + 1) (lt_of_heap Ba3.out)).trans Ba3.out)
    have Bd4 := Lib.hid ((hb3.block (w.heap.size + 1 + 1 + 1 + 1) (lt_of_heap Ba4.out)).trans Ba4.out)
    clear ca0 fa0
    have cd0 : ∀ i, w3.cell? ⟨w.heap.size, i, none⟩ = _ := cell_of_heap Bd0.out
    have fd0 : ∀ i, w3.frozen? ⟨w.heap.size, i, none⟩ = false := fun i => by simp [World.frozen?, Bd0.out]
    clear ca1 fa1
    have cd1 : ∀ i, w3.cell? ⟨w.heap.size + 1, i, none⟩ = _ := cell_of_heap Bd1.out
    have fd1 : ∀ i, w3.frozen? ⟨w.heap.size + 1, i, none⟩ = false := fun i => by simp [World.frozen?, Bd1.out]
    clear ca2 fa2
    have cd2 : ∀ i, w3.cell? ⟨w.heap.size + 1 + 1, i, none⟩ = _ := cell_of_heap Bd2.out
    have fd2 : ∀ i, w3.frozen? ⟨w.heap.size + 1 + 1, i, none⟩ = false := fun i => by simp [World.frozen?, Bd2.out]
    clear ca3 fa3
    have cd3 : ∀ i, w3.cell? ⟨w.heap.size + 1 + 1 + 1, i, none⟩ = _ := cell_of_heap Bd3.out
    have fd3 : ∀ i, w3.frozen? ⟨w.heap.size + 1 + 1 + 1, i, none⟩ = false := fun i => by simp [World.frozen?, Bd3.out]
    clear ca4 fa4
    have cd4 : ∀ i, w3.cell? ⟨w.heap.size + 1 + 1 + 1 + 1, i, none⟩ = _ := cell_of_heap Bd4.out
    have fd4 : ∀ i, w3.frozen? ⟨w.heap.size + 1 + 1 + 1 + 1, i, none⟩ = false := fun i => by simp [World.frozen?, Bd4.out]
    have Q3 := Lib.hid (blw_then Q1.out hb3)
    have z3 := hb3.size
    clear hb3
    cases hst : decide (cellP l.thd l.thr me 4 0 < 0)
    · have HST := Lib.hid (of_decide_eq_false hst)
      have HPP : Hid (rvisP l me 2 a = (rOutM (cellP l.loc l.locs a 4 2) me).map outIs) := by
        show _ = _
        rw [HP.out, if_neg (by have h1 := HC.out; have h2 := HST.out; omega)]
      have hlc := lt_of_heap Bd4.out
      have HCA : Hid (CurAt w3 (w.heap.size + 1 + 1 + 1 + 1) (.slice A0 log.length c0) log ⟨0, Acc.zero, false⟩) := by
        refine ⟨Bd4.out, HS.out.below Q3.out, ?_, Nat.zero_le _⟩
        rintro b' o' n' c' h1 h2
        obtain ⟨A', c2', h3, _, _, h4⟩ := HS.out.out
        obtain ⟨b2', o2', h5, h6, _⟩ := h4 h2
        rw [h3, h5] at h1
        simp only [Value.slice.injEq, Option.some.injEq, Addr.mk.injEq] at h1
        omega
      go_wp2_with fail
      refine (ref_Out (cellP l.loc l.locs a 4 2) me (w.heap.size + 1 + 1 + 1 + 1) (.slice A0 log.length c0) log ⟨0, Acc.zero, false⟩ w3 HCA.out).mono ?_
      rintro e w4 ⟨rfl, hk4, ha4, hl4⟩
      have Be2 := Lib.hid ((hk4.block (w.heap.size + 1 + 1) (lt_of_heap Bd2.out) (by omega)).trans Bd2.out)
      have Be3 := Lib.hid ((hk4.block (w.heap.size + 1 + 1 + 1) (lt_of_heap Bd3.out) (by omega)).trans Bd3.out)
      have ce2 : ∀ i, w4.cell? ⟨w.heap.size + 1 + 1, i, none⟩ = _ := cell_of_heap Be2.out
      have fe2 : ∀ i, w4.frozen? ⟨w.heap.size + 1 + 1, i, none⟩ = false := fun i => by simp [World.frozen?, Be2.out]
      have ce3 : ∀ i, w4.cell? ⟨w.heap.size + 1 + 1 + 1, i, none⟩ = _ := cell_of_heap Be3.out
      have fe3 : ∀ i, w4.frozen? ⟨w.heap.size + 1 + 1 + 1, i, none⟩ = false := fun i => by simp [World.frozen?, Be3.out]
      have z4 := hk4.size
      have HK4 := Lib.hid hk4
      have HA4 := Lib.hid ha4
      obtain ⟨R, hR⟩ : ∃ R, curM (rOutM (cellP l.loc l.locs a 4 2) me) false log ⟨0, Acc.zero, false⟩ = R := ⟨_, rfl⟩
      rw [hR] at HA4 ⊢
      have HR := Lib.hid hR
      clear hk4 ha4 hl4 hR
      obtain ⟨is, s4⟩ := R
      go_wp2_with fail
      refine (cur_Told (outIs is) (w.heap.size + 1 + 1 + 1 + 1) (.slice A0 log.length c0) s4 w4 HA4.out).mono ?_
      rintro e w5 ⟨rfl, hb5⟩
      have Bg2 := Lib.hid ((hb5.block (w.heap.size + 1 + 1) (lt_of_heap Be2.out)).trans Be2.out)
      have Bg3 := Lib.hid ((hb5.block (w.heap.size + 1 + 1 + 1) (lt_of_heap Be3.out)).trans Be3.out)
      clear ce2 fe2
      have cg2 : ∀ i, w5.cell? ⟨w.heap.size + 1 + 1, i, none⟩ = _ := cell_of_heap Bg2.out
      have fg2 : ∀ i, w5.frozen? ⟨w.heap.size + 1 + 1, i, none⟩ = false := fun i => by simp [World.frozen?, Bg2.out]
      clear ce3 fe3
      have cg3 : ∀ i, w5.cell? ⟨w.heap.size + 1 + 1 + 1, i, none⟩ = _ := cell_of_heap Bg3.out
      have fg3 : ∀ i, w5.frozen? ⟨w.heap.size + 1 + 1 + 1, i, none⟩ = false := fun i => by simp [World.frozen?, Bg3.out]
      have z5 := hb5.size
      have HB5 := Lib.hid hb5
      clear hb5
      rw [show curTold s4 (outIs is) = (⟨a1, a2, a3, a4, a5⟩, ⟨o1, o2, o3, o4, o5, o6, o7⟩, bd) by rw [told_step HR.out, ← HT.out, HPP.out]]
      clear HT HPP HP
      go_wp2
      refine bodyPost_ret (v := tripV (⟨a1, a2, a3, a4, a5⟩, ⟨o1, o2, o3, o4, o5, o6, o7⟩, bd)) (by simp [results, go_sem, cg2, fg2, cg3, fg3]) rfl ⟨rfl, ?_⟩
      refine Keep.toBelow (X := fun i => w.heap.size ≤ i) ?_ (fun i hi => by omega)
      with_reducible repeat (refine Keep.setCell ?_ _ (.inr (by simp only []; omega)))
      exact (Keep.of_below Q3.out).trans ((HK4.out.mono fun i _ hi => by omega).trans (Keep.of_below HB5.out))
    · have HST := Lib.hid (of_decide_eq_true hst)
      have HE : ((⟨a1, a2, a3, a4, a5⟩, ⟨o1, o2, o3, o4, o5, o6, o7⟩, bd) : Acc × Ou × Bool) = (Acc.zero, outErr 1, true) := by
        rw [← HT.out, HP.out, if_pos (by have h1 := HST.out; omega)]
        rfl
      simp only [Acc.zero, outErr, Prod.mk.injEq, Acc.mk.injEq, Ou.mk.injEq] at HE
      obtain ⟨⟨rfl, rfl, rfl, rfl, rfl⟩, ⟨rfl, rfl, rfl, rfl, rfl, rfl, rfl⟩, rfl⟩ := HE
      clear HP HT
      go_wp2
      refine bodyPost_ret (v := tripV (Acc.zero, outErr 1, true)) (by simp [results, go_sem, cd2, fd2, cd3, fd3, Acc.zero, outErr]) rfl ⟨rfl, ?_⟩
      refine Keep.toBelow (X := fun i => w.heap.size ≤ i) ?_ (fun i hi => by omega)
      with_reducible repeat (refine Keep.setCell ?_ _ (.inr (by simp only []; omega)))
      exact Keep.of_below Q3.out
  · have HC := Lib.hid (of_decide_eq_true hc)
    have HE : ((⟨a1, a2, a3, a4, a5⟩, ⟨o1, o2, o3, o4, o5, o6, o7⟩, bd) : Acc × Ou × Bool) = (Acc.zero, outErr 1, true) := by
      rw [← HT.out, HP.out, if_pos (by have h1 := HC.out; omega)]
      rfl
    simp only [Acc.zero, outErr, Prod.mk.injEq, Acc.mk.injEq, Ou.mk.injEq] at HE
    obtain ⟨⟨rfl, rfl, rfl, rfl, rfl⟩, ⟨rfl, rfl, rfl, rfl, rfl, rfl, rfl⟩, rfl⟩ := HE
    clear HP HT
    go_wp2
    refine bodyPost_ret (v := tripV (Acc.zero, outErr 1, true)) (by simp [results, go_sem, ca2, fa2, ca3, fa3, Acc.zero, outErr]) rfl ⟨rfl, ?_⟩
    refine Keep.toBelow (X := fun i => w.heap.size ≤ i) ?_ (fun i hi => by omega)
    with_reducible repeat (refine Keep.setCell ?_ _ (.inr (by simp only []; omega)))
    exact Keep.of_below Q1.out
set_option maxHeartbeats 1000000 in
theorem ref_VNext3 (l : Lay) (me : Int) (o : OpV) (hk : o.kind = 3) (vlog : Value) (log : List Rs) (w : World) (hs : SlR 2 Rs.cells w vlog log) :
    Calls Try.prog 15 #[l.v, .int .i64 me, .agg o.cells, vlog] w fun e w' => e = .returned (tripV (stepOf (rvisP l me o.kind o.a) log)) ∧ Below w.heap.size w w' := by
  have HS := Lib.hid hs
  have HP : Hid (rvisP l me o.kind o.a = if cellP l.loc l.locs o.a 4 3 < 0 ∨ cellP l.thd l.thr me 4 0 < 0 then M.ret (outErr 1) else (rPutM (cellP l.loc l.locs o.a 4 3) me).map outIs) := by
    show rvisP l me o.kind o.a = _
    rw [hk]; rfl
  obtain ⟨A0, c0, rfl, -⟩ := hs.out
  clear hs
  obtain ⟨T, hT⟩ : ∃ T, stepOf (rvisP l me o.kind o.a) log = T := ⟨_, rfl⟩
  rw [hT]
  have HT := Lib.hid hT
  clear hT
  obtain ⟨⟨a1, a2, a3, a4, a5⟩, ⟨o1, o2, o3, o4, o5, o6, o7⟩, bd⟩ := T
  obtain ⟨kind, a, b, try_, stamp, karma, aborts, seen, writes, durable⟩ := o
  simp only at hk HP HT
  subst hk
  go_enter Try.func15, Try.ntmps15
  go_wp2_with fail
  refine (ref_Readers l a _).mono ?_
  rintro e w1 ⟨rfl, hb1⟩
  have ba0 := hb1.block (w.heap.size) (by simp only [World.size_alloc, World.size_setCell]; omega)
  repeat (first | rw [hs_ne _ _ _ _ _ (by omega)] at ba0 | rw [ha_lt _ _ _ (by simp only [World.size_alloc, World.size_setCell]; omega)] at ba0 | rw [hs_same] at ba0 | rw [hd_drew] at ba0)
  rw [ha_new _ _ _ (by simp only [World.size_alloc, World.size_setCell])] at ba0
  try simp only [Option.map_some, putO, List.setIfInBounds_toArray, List.set_cons_zero, List.set_cons_succ] at ba0
  have Ba0 := Lib.hid ba0
  clear ba0
  have ba1 := hb1.block (w.heap.size + 1) (by simp only [World.size_alloc, World.size_setCell]; omega)
  repeat (first | rw [hs_ne _ _ _ _ _ (by omega)] at ba1 | rw [ha_lt _ _ _ (by simp only [World.size_alloc, World.size_setCell]; omega)] at ba1 | rw [hs_same] at ba1 | rw [hd_drew] at ba1)
  rw [ha_new _ _ _ (by simp only [World.size_alloc, World.size_setCell])] at ba1
  try simp only [Option.map_some, putO, List.setIfInBounds_toArray, List.set_cons_zero, List.set_cons_succ] at ba1
  have Ba1 := Lib.hid ba1
  clear ba1
  have ba2 := hb1.block (w.heap.size + 1 + 1) (by simp only [World.size_alloc, World.size_setCell]; omega)
  repeat (first | rw [hs_ne _ _ _ _ _ (by omega)] at ba2 | rw [ha_lt _ _ _ (by simp only [World.size_alloc, World.size_setCell]; omega)] at ba2 | rw [hs_same] at ba2 | rw [hd_drew] at ba2)
  rw [ha_new _ _ _ (by simp only [World.size_alloc, World.size_setCell])] at ba2
  try simp only [Option.map_some, putO, List.setIfInBounds_toArray, List.set_cons_zero, List.set_cons_succ] at ba2
  have Ba2 := Lib.hid ba2
  clear ba2
  have ba3 := hb1.block (w.heap.size + 1 + 1 + 1) (by simp only [World.size_alloc, World.size_setCell]; omega)
  repeat (first | rw [hs_ne _ _ _ _ _ (by omega)] at ba3 | rw [ha_lt _ _ _ (by simp only [World.size_alloc, World.size_setCell]; omega)] at ba3 | rw [hs_same] at ba3 | rw [hd_drew] at ba3)
  rw [ha_new _ _ _ (by simp only [World.size_alloc, World.size_setCell])] at ba3
  try simp only [Option.map_some, putO, List.setIfInBounds_toArray, List.set_cons_zero, List.set_cons_succ] at ba3
  have Ba3 := Lib.hid ba3
  clear ba3
  have ba4 := hb1.block (w.heap.size + 1 + 1 + 1 + 1) (by simp only [World.size_alloc, World.size_setCell]; omega)
  repeat (first | rw [hs_ne _ _ _ _ _ (by omega)] at ba4 | rw [ha_lt _ _ _ (by simp only [World.size_alloc, World.size_setCell]; omega)] at ba4 | rw [hs_same] at ba4 | rw [hd_drew] at ba4)
  rw [ha_new _ _ _ (by simp only [World.size_alloc, World.size_setCell])] at ba4
  try simp only [Option.map_some, putO, List.setIfInBounds_toArray, List.set_cons_zero, List.set_cons_succ] at ba4
  have Ba4 := Lib.hid ba4
  clear ba4
  have ca0 : ∀ i, w1.cell? ⟨w.heap.size, i, none⟩ = _ := cell_of_heap Ba0.out
  have fa0 : ∀ i, w1.frozen? ⟨w.heap.size, i, none⟩ = false := fun i => by simp [World.frozen?, Ba0.out]
  have ca1 : ∀ i, w1.cell? ⟨w.heap.size + 1, i, none⟩ = _ := cell_of_heap Ba1.out
  have fa1 : ∀ i, w1.frozen? ⟨w.heap.size + 1, i, none⟩ = false := fun i => by simp [World.frozen?, Ba1.out]
  have ca2 : ∀ i, w1.cell? ⟨w.heap.size + 1 + 1, i, none⟩ = _ := cell_of_heap Ba2.out
  have fa2 : ∀ i, w1.frozen? ⟨w.heap.size + 1 + 1, i, none⟩ = false := fun i => by simp [World.frozen?, Ba2.out]
  have ca3 : ∀ i, w1.cell? ⟨w.heap.size + 1 + 1 + 1, i, none⟩ = _ := cell_of_heap Ba3.out
  have fa3 : ∀ i, w1.frozen? ⟨w.heap.size + 1 + 1 + 1, i, none⟩ = false := fun i => by simp [World.frozen?, Ba3.out]
  have ca4 : ∀ i, w1.cell? ⟨w.heap.size + 1 + 1 + 1 + 1, i, none⟩ = _ := cell_of_heap Ba4.out
  have fa4 : ∀ i, w1.frozen? ⟨w.heap.size + 1 + 1 + 1 + 1, i, none⟩ = false := fun i => by simp [World.frozen?, Ba4.out]
  have Q1 := Lib.hid (blw_then (w := w) (by with_reducible repeat (first | exact Below.refl _ _ | refine blw_alloc ?_ _ | refine blw_drew ?_)) hb1)
  have zQ1 := hb1.size
  simp only [World.size_alloc, World.size_setCell] at zQ1
  clear hb1
  go_wp2_with fail
  refine (ref_Waiters l a _).mono ?_
  rintro e w2 ⟨rfl, hb2⟩
  have Bb0 := Lib.hid ((hb2.block (w.heap.size) (lt_of_heap Ba0.out)).trans Ba0.out)
  have Bb1 := Lib.hid ((hb2.block (w.heap.size + 1) (lt_of_heap Ba1.out)).trans Ba1.out)
  have Bb2 := Lib.hid ((hb2.block (w.heap.size + 1 + 1) (lt_of_heap Ba2.out)).trans Ba2.out)
  have Bb3 := Lib.hid ((hb2.block (w.heap.size + 1 + 1 + 1) (lt_of_heap Ba3.out)).trans Ba3.out)
  have Bb4 := Lib.hid ((hb2.block (w.heap.size + 1 + 1 + 1 + 1) (lt_of_heap Ba4.out)).trans Ba4.out)
  clear ca0 fa0
  have cb0 : ∀ i, w2.cell? ⟨w.heap.size, i, none⟩ = _ := cell_of_heap Bb0.out
  have fb0 : ∀ i, w2.frozen? ⟨w.heap.size, i, none⟩ = false := fun i => by simp [World.frozen?, Bb0.out]
  clear ca1 fa1
  have cb1 : ∀ i, w2.cell? ⟨w.heap.size + 1, i, none⟩ = _ := cell_of_heap Bb1.out
  have fb1 : ∀ i, w2.frozen? ⟨w.heap.size + 1, i, none⟩ = false := fun i => by simp [World.frozen?, Bb1.out]
  clear ca2 fa2
  have cb2 : ∀ i, w2.cell? ⟨w.heap.size + 1 + 1, i, none⟩ = _ := cell_of_heap Bb2.out
  have fb2 : ∀ i, w2.frozen? ⟨w.heap.size + 1 + 1, i, none⟩ = false := fun i => by simp [World.frozen?, Bb2.out]
  clear ca3 fa3
  have cb3 : ∀ i, w2.cell? ⟨w.heap.size + 1 + 1 + 1, i, none⟩ = _ := cell_of_heap Bb3.out
  have fb3 : ∀ i, w2.frozen? ⟨w.heap.size + 1 + 1 + 1, i, none⟩ = false := fun i => by simp [World.frozen?, Bb3.out]
  clear ca4 fa4
  have cb4 : ∀ i, w2.cell? ⟨w.heap.size + 1 + 1 + 1 + 1, i, none⟩ = _ := cell_of_heap Bb4.out
  have fb4 : ∀ i, w2.frozen? ⟨w.heap.size + 1 + 1 + 1 + 1, i, none⟩ = false := fun i => by simp [World.frozen?, Bb4.out]
  have Q2 := Lib.hid (blw_then Q1.out hb2)
  have z2 := hb2.size
  clear hb2
  cases hc : decide (cellP l.loc l.locs a 4 3 < 0)
  · have HC := Lib.hid (of_decide_eq_false hc)
    go_wp2_with fail
    refine (ref_Status l me _).mono ?_
    rintro e w3 ⟨rfl, hb3⟩
    have Bd0 := Lib.hid ((hb3.block (w.heap.size) (lt_of_heap Bb0.out)).trans Bb0.out)
    have Bd1 := Lib.hid ((hb3.block (w.heap.size + 1) (lt_of_heap Bb1.out)).trans Bb1.out)
    have Bd2 := Lib.hid ((hb3.block (w.heap.size + 1 + 1) (lt_of_heap Bb2.out)).trans Bb2.out)
    have Bd3 := Lib.hid ((hb3.block (w.heap.size + 1 + 1 + 1) (lt_of_heap Bb3.out)).trans Bb3.out)
    have Bd4 := Lib.hid ((hb3.block (w.heap.size + 1 + 1 + 1 + 1) (lt_of_heap Bb4.out)).trans Bb4.out)
    clear cb0 fb0
    have cd0 : ∀ i, w3.cell? ⟨w.heap.size, i, none⟩ = _ := cell_of_heap Bd0.out
    have fd0 : ∀ i, w3.frozen? ⟨w.heap.size, i, none⟩ = false := fun i => by simp [World.frozen?, Bd0.out]
    clear cb1 fb1
    have cd1 : ∀ i, w3.cell? ⟨w.heap.size + 1, i, none⟩ = _ := cell_of_heap Bd1.out
    have fd1 : ∀ i, w3.frozen? ⟨w.heap.size + 1, i, none⟩ = false := fun i => by simp [World.frozen?, Bd1.out]
    clear cb2 fb2
    have cd2 : ∀ i, w3.cell? ⟨w.heap.size + 1 + 1, i, none⟩ = _ := cell_of_heap Bd2.out
    have fd2 : ∀ i, w3.frozen? ⟨w.heap.size + 1 + 1, i, none⟩ = false := fun i => by simp [World.frozen?, Bd2.out]
    clear cb3 fb3
    have cd3 : ∀ i, w3.cell? ⟨w.heap.size + 1 + 1 + 1, i, none⟩ = _ := cell_of_heap Bd3.out
    have fd3 : ∀ i, w3.frozen? ⟨w.heap.size + 1 + 1 + 1, i, none⟩ = false := fun i => by simp [World.frozen?, Bd3.out]
    clear cb4 fb4
    have cd4 : ∀ i, w3.cell? ⟨w.heap.size + 1 + 1 + 1 + 1, i, none⟩ = _ := cell_of_heap Bd4.out
    have fd4 : ∀ i, w3.frozen? ⟨w.heap.size + 1 + 1 + 1 + 1, i, none⟩ = false := fun i => by simp [World.frozen?, Bd4.out]
    have Q3 := Lib.hid (blw_then Q2.out hb3)
    have z3 := hb3.size
    clear hb3
    cases hst : decide (cellP l.thd l.thr me 4 0 < 0)
    · have HST := Lib.hid (of_decide_eq_false hst)
      have HPP : Hid (rvisP l me 3 a = (rPutM (cellP l.loc l.locs a 4 3) me).map outIs) := by
        show _ = _
        rw [HP.out, if_neg (by have h1 := HC.out; have h2 := HST.out; omega)]
      have hlc := lt_of_heap Bd4.out
      have HCA : Hid (CurAt w3 (w.heap.size + 1 + 1 + 1 + 1) (.slice A0 log.length c0) log ⟨0, Acc.zero, false⟩) := by
        refine ⟨Bd4.out, HS.out.below Q3.out, ?_, Nat.zero_le _⟩
        rintro b' o' n' c' h1 h2
        obtain ⟨A', c2', h3, _, _, h4⟩ := HS.out.out
        obtain ⟨b2', o2', h5, h6, _⟩ := h4 h2
        rw [h3, h5] at h1
        simp only [Value.slice.injEq, Option.some.injEq, Addr.mk.injEq] at h1
        omega
      go_wp2_with fail
      refine (ref_Put (cellP l.loc l.locs a 4 3) me (w.heap.size + 1 + 1 + 1 + 1) (.slice A0 log.length c0) log ⟨0, Acc.zero, false⟩ w3 HCA.out).mono ?_
      rintro e w4 ⟨rfl, hk4, ha4, hl4⟩
      have Be2 := Lib.hid ((hk4.block (w.heap.size + 1 + 1) (lt_of_heap Bd2.out) (by omega)).trans Bd2.out)
      have Be3 := Lib.hid ((hk4.block (w.heap.size + 1 + 1 + 1) (lt_of_heap Bd3.out) (by omega)).trans Bd3.out)
      have ce2 : ∀ i, w4.cell? ⟨w.heap.size + 1 + 1, i, none⟩ = _ := cell_of_heap Be2.out
      have fe2 : ∀ i, w4.frozen? ⟨w.heap.size + 1 + 1, i, none⟩ = false := fun i => by simp [World.frozen?, Be2.out]
      have ce3 : ∀ i, w4.cell? ⟨w.heap.size + 1 + 1 + 1, i, none⟩ = _ := cell_of_heap Be3.out
      have fe3 : ∀ i, w4.frozen? ⟨w.heap.size + 1 + 1 + 1, i, none⟩ = false := fun i => by simp [World.frozen?, Be3.out]
      have z4 := hk4.size
      have HK4 := Lib.hid hk4
      have HA4 := Lib.hid ha4
      obtain ⟨R, hR⟩ : ∃ R, curM (rPutM (cellP l.loc l.locs a 4 3) me) false log ⟨0, Acc.zero, false⟩ = R := ⟨_, rfl⟩
      rw [hR] at HA4 ⊢
      have HR := Lib.hid hR
      clear hk4 ha4 hl4 hR
      obtain ⟨is, s4⟩ := R
      go_wp2_with fail
      refine (cur_Told (outIs is) (w.heap.size + 1 + 1 + 1 + 1) (.slice A0 log.length c0) s4 w4 HA4.out).mono ?_
      rintro e w5 ⟨rfl, hb5⟩
      have Bg2 := Lib.hid ((hb5.block (w.heap.size + 1 + 1) (lt_of_heap Be2.out)).trans Be2.out)
      have Bg3 := Lib.hid ((hb5.block (w.heap.size + 1 + 1 + 1) (lt_of_heap Be3.out)).trans Be3.out)
      clear ce2 fe2
      have cg2 : ∀ i, w5.cell? ⟨w.heap.size + 1 + 1, i, none⟩ = _ := cell_of_heap Bg2.out
      have fg2 : ∀ i, w5.frozen? ⟨w.heap.size + 1 + 1, i, none⟩ = false := fun i => by simp [World.frozen?, Bg2.out]
      clear ce3 fe3
      have cg3 : ∀ i, w5.cell? ⟨w.heap.size + 1 + 1 + 1, i, none⟩ = _ := cell_of_heap Bg3.out
      have fg3 : ∀ i, w5.frozen? ⟨w.heap.size + 1 + 1 + 1, i, none⟩ = false := fun i => by simp [World.frozen?, Bg3.out]
      have z5 := hb5.size
      have HB5 := Lib.hid hb5
      clear hb5
      rw [show curTold s4 (outIs is) = (⟨a1, a2, a3, a4, a5⟩, ⟨o1, o2, o3, o4, o5, o6, o7⟩, bd) by rw [told_step HR.out, ← HT.out, HPP.out]]
      clear HT HPP HP
      go_wp2
      refine bodyPost_ret (v := tripV (⟨a1, a2, a3, a4, a5⟩, ⟨o1, o2, o3, o4, o5, o6, o7⟩, bd)) (by simp [results, go_sem, cg2, fg2, cg3, fg3]) rfl ⟨rfl, ?_⟩
      refine Keep.toBelow (X := fun i => w.heap.size ≤ i) ?_ (fun i hi => by omega)
      with_reducible repeat (refine Keep.setCell ?_ _ (.inr (by simp only []; omega)))
      exact (Keep.of_below Q3.out).trans ((HK4.out.mono fun i _ hi => by omega).trans (Keep.of_below HB5.out))
    · have HST := Lib.hid (of_decide_eq_true hst)
      have HE : ((⟨a1, a2, a3, a4, a5⟩, ⟨o1, o2, o3, o4, o5, o6, o7⟩, bd) : Acc × Ou × Bool) = (Acc.zero, outErr 1, true) := by
        rw [← HT.out, HP.out, if_pos (by have h1 := HST.out; omega)]
        rfl
      simp only [Acc.zero, outErr, Prod.mk.injEq, Acc.mk.injEq, Ou.mk.injEq] at HE
      obtain ⟨⟨rfl, rfl, rfl, rfl, rfl⟩, ⟨rfl, rfl, rfl, rfl, rfl, rfl, rfl⟩, rfl⟩ := HE
      clear HP HT
      go_wp2
      refine bodyPost_ret (v := tripV (Acc.zero, outErr 1, true)) (by simp [results, go_sem, cd2, fd2, cd3, fd3, Acc.zero, outErr]) rfl ⟨rfl, ?_⟩
      refine Keep.toBelow (X := fun i => w.heap.size ≤ i) ?_ (fun i hi => by omega)
      with_reducible repeat (refine Keep.setCell ?_ _ (.inr (by simp only []; omega)))
      exact Keep.of_below Q3.out
  · have HC := Lib.hid (of_decide_eq_true hc)
    have HE : ((⟨a1, a2, a3, a4, a5⟩, ⟨o1, o2, o3, o4, o5, o6, o7⟩, bd) : Acc × Ou × Bool) = (Acc.zero, outErr 1, true) := by
      rw [← HT.out, HP.out, if_pos (by have h1 := HC.out; omega)]
      rfl
    simp only [Acc.zero, outErr, Prod.mk.injEq, Acc.mk.injEq, Ou.mk.injEq] at HE
    obtain ⟨⟨rfl, rfl, rfl, rfl, rfl⟩, ⟨rfl, rfl, rfl, rfl, rfl, rfl, rfl⟩, rfl⟩ := HE
    clear HP HT
    go_wp2
    refine bodyPost_ret (v := tripV (Acc.zero, outErr 1, true)) (by simp [results, go_sem, cb2, fb2, cb3, fb3, Acc.zero, outErr]) rfl ⟨rfl, ?_⟩
    refine Keep.toBelow (X := fun i => w.heap.size ≤ i) ?_ (fun i hi => by omega)
    with_reducible repeat (refine Keep.setCell ?_ _ (.inr (by simp only []; omega)))
    exact Keep.of_below Q2.out
set_option maxHeartbeats 1000000 in
theorem ref_VNext4 (l : Lay) (me : Int) (o : OpV) (hk : o.kind = 4) (vlog : Value) (log : List Rs) (w : World) (hs : SlR 2 Rs.cells w vlog log) :
    Calls Try.prog 15 #[l.v, .int .i64 me, .agg o.cells, vlog] w fun e w' => e = .returned (tripV (stepOf (rvisP l me o.kind o.a) log)) ∧ Below w.heap.size w w' := by
  have HS := Lib.hid hs
  have HP : Hid (rvisP l me o.kind o.a = if cellP l.loc l.locs o.a 4 3 < 0 ∨ cellP l.thd l.thr me 4 0 < 0 then M.ret (outErr 1) else (rOutM (cellP l.loc l.locs o.a 4 3) me).map outIs) := by
    show rvisP l me o.kind o.a = _
    rw [hk]; rfl
  obtain ⟨A0, c0, rfl, -⟩ := hs.out
  clear hs
  obtain ⟨T, hT⟩ : ∃ T, stepOf (rvisP l me o.kind o.a) log = T := ⟨_, rfl⟩
  rw [hT]
  have HT := Lib.hid hT
  clear hT
  obtain ⟨⟨a1, a2, a3, a4, a5⟩, ⟨o1, o2, o3, o4, o5, o6, o7⟩, bd⟩ := T
  obtain ⟨kind, a, b, try_, stamp, karma, aborts, seen, writes, durable⟩ := o
  simp only at hk HP HT
  subst hk
  go_enter Try.func15, Try.ntmps15
  go_wp2_with fail
  refine (ref_Readers l a _).mono ?_
  rintro e w1 ⟨rfl, hb1⟩
  have ba0 := hb1.block (w.heap.size) (by simp only [World.size_alloc, World.size_setCell]; omega)
  repeat (first | rw [hs_ne _ _ _ _ _ (by omega)] at ba0 | rw [ha_lt _ _ _ (by simp only [World.size_alloc, World.size_setCell]; omega)] at ba0 | rw [hs_same] at ba0 | rw [hd_drew] at ba0)
  rw [ha_new _ _ _ (by simp only [World.size_alloc, World.size_setCell])] at ba0
  try simp only [Option.map_some, putO, List.setIfInBounds_toArray, List.set_cons_zero, List.set_cons_succ] at ba0
  have Ba0 := Lib.hid ba0
  clear ba0
  have ba1 := hb1.block (w.heap.size + 1) (by simp only [World.size_alloc, World.size_setCell]; omega)
  repeat (first | rw [hs_ne _ _ _ _ _ (by omega)] at ba1 | rw [ha_lt _ _ _ (by simp only [World.size_alloc, World.size_setCell]; omega)] at ba1 | rw [hs_same] at ba1 | rw [hd_drew] at ba1)
  rw [ha_new _ _ _ (by simp only [World.size_alloc, World.size_setCell])] at ba1
  try simp only [Option.map_some, putO, List.setIfInBounds_toArray, List.set_cons_zero, List.set_cons_succ] at ba1
  have Ba1 := Lib.hid ba1
  clear ba1
  have ba2 := hb1.block (w.heap.size + 1 + 1) (by simp only [World.size_alloc, World.size_setCell]; omega)
  repeat (first | rw [hs_ne _ _ _ _ _ (by omega)] at ba2 | rw [ha_lt _ _ _ (by simp only [World.size_alloc, World.size_setCell]; omega)] at ba2 | rw [hs_same] at ba2 | rw [hd_drew] at ba2)
  rw [ha_new _ _ _ (by simp only [World.size_alloc, World.size_setCell])] at ba2
  try simp only [Option.map_some, putO, List.setIfInBounds_toArray, List.set_cons_zero, List.set_cons_succ] at ba2
  have Ba2 := Lib.hid ba2
  clear ba2
  have ba3 := hb1.block (w.heap.size + 1 + 1 + 1) (by simp only [World.size_alloc, World.size_setCell]; omega)
  repeat (first | rw [hs_ne _ _ _ _ _ (by omega)] at ba3 | rw [ha_lt _ _ _ (by simp only [World.size_alloc, World.size_setCell]; omega)] at ba3 | rw [hs_same] at ba3 | rw [hd_drew] at ba3)
  rw [ha_new _ _ _ (by simp only [World.size_alloc, World.size_setCell])] at ba3
  try simp only [Option.map_some, putO, List.setIfInBounds_toArray, List.set_cons_zero, List.set_cons_succ] at ba3
  have Ba3 := Lib.hid ba3
  clear ba3
  have ba4 := hb1.block (w.heap.size + 1 + 1 + 1 + 1) (by simp only [World.size_alloc, World.size_setCell]; omega)
  repeat (first | rw [hs_ne _ _ _ _ _ (by omega)] at ba4 | rw [ha_lt _ _ _ (by simp only [World.size_alloc, World.size_setCell]; omega)] at ba4 | rw [hs_same] at ba4 | rw [hd_drew] at ba4)
  rw [ha_new _ _ _ (by simp only [World.size_alloc, World.size_setCell])] at ba4
  try simp only [Option.map_some, putO, List.setIfInBounds_toArray, List.set_cons_zero, List.set_cons_succ] at ba4
  have Ba4 := Lib.hid ba4
  clear ba4
  have ca0 : ∀ i, w1.cell? ⟨w.heap.size, i, none⟩ = _ := cell_of_heap Ba0.out
  have fa0 : ∀ i, w1.frozen? ⟨w.heap.size, i, none⟩ = false := fun i => by simp [World.frozen?, Ba0.out]
  have ca1 : ∀ i, w1.cell? ⟨w.heap.size + 1, i, none⟩ = _ := cell_of_heap Ba1.out
  have fa1 : ∀ i, w1.frozen? ⟨w.heap.size + 1, i, none⟩ = false := fun i => by simp [World.frozen?, Ba1.out]
  have ca2 : ∀ i, w1.cell? ⟨w.heap.size + 1 + 1, i, none⟩ = _ := cell_of_heap Ba2.out
  have fa2 : ∀ i, w1.frozen? ⟨w.heap.size + 1 + 1, i, none⟩ = false := fun i => by simp [World.frozen?, Ba2.out]
  have ca3 : ∀ i, w1.cell? ⟨w.heap.size + 1 + 1 + 1, i, none⟩ = _ := cell_of_heap Ba3.out
  have fa3 : ∀ i, w1.frozen? ⟨w.heap.size + 1 + 1 + 1, i, none⟩ = false := fun i => by simp [World.frozen?, Ba3.out]
  have ca4 : ∀ i, w1.cell? ⟨w.heap.size + 1 + 1 + 1 + 1, i, none⟩ = _ := cell_of_heap Ba4.out
  have fa4 : ∀ i, w1.frozen? ⟨w.heap.size + 1 + 1 + 1 + 1, i, none⟩ = false := fun i => by simp [World.frozen?, Ba4.out]
  have Q1 := Lib.hid (blw_then (w := w) (by with_reducible repeat (first | exact Below.refl _ _ | refine blw_alloc ?_ _ | refine blw_drew ?_)) hb1)
  have zQ1 := hb1.size
  simp only [World.size_alloc, World.size_setCell] at zQ1
  clear hb1
  go_wp2_with fail
  refine (ref_Waiters l a _).mono ?_
  rintro e w2 ⟨rfl, hb2⟩
  have Bb0 := Lib.hid ((hb2.block (w.heap.size) (lt_of_heap Ba0.out)).trans Ba0.out)
  have Bb1 := Lib.hid ((hb2.block (w.heap.size + 1) (lt_of_heap Ba1.out)).trans Ba1.out)
  have Bb2 := Lib.hid ((hb2.block (w.heap.size + 1 + 1) (lt_of_heap Ba2.out)).trans Ba2.out)
  have Bb3 := Lib.hid ((hb2.block (w.heap.size + 1 + 1 + 1) (lt_of_heap Ba3.out)).trans Ba3.out)
  have Bb4 := Lib.hid ((hb2.block (w.heap.size + 1 + 1 + 1 + 1) (lt_of_heap Ba4.out)).trans Ba4.out)
  clear ca0 fa0
  have cb0 : ∀ i, w2.cell? ⟨w.heap.size, i, none⟩ = _ := cell_of_heap Bb0.out
  have fb0 : ∀ i, w2.frozen? ⟨w.heap.size, i, none⟩ = false := fun i => by simp [World.frozen?, Bb0.out]
  clear ca1 fa1
  have cb1 : ∀ i, w2.cell? ⟨w.heap.size + 1, i, none⟩ = _ := cell_of_heap Bb1.out
  have fb1 : ∀ i, w2.frozen? ⟨w.heap.size + 1, i, none⟩ = false := fun i => by simp [World.frozen?, Bb1.out]
  clear ca2 fa2
  have cb2 : ∀ i, w2.cell? ⟨w.heap.size + 1 + 1, i, none⟩ = _ := cell_of_heap Bb2.out
  have fb2 : ∀ i, w2.frozen? ⟨w.heap.size + 1 + 1, i, none⟩ = false := fun i => by simp [World.frozen?, Bb2.out]
  clear ca3 fa3
  have cb3 : ∀ i, w2.cell? ⟨w.heap.size + 1 + 1 + 1, i, none⟩ = _ := cell_of_heap Bb3.out
  have fb3 : ∀ i, w2.frozen? ⟨w.heap.size + 1 + 1 + 1, i, none⟩ = false := fun i => by simp [World.frozen?, Bb3.out]
  clear ca4 fa4
  have cb4 : ∀ i, w2.cell? ⟨w.heap.size + 1 + 1 + 1 + 1, i, none⟩ = _ := cell_of_heap Bb4.out
  have fb4 : ∀ i, w2.frozen? ⟨w.heap.size + 1 + 1 + 1 + 1, i, none⟩ = false := fun i => by simp [World.frozen?, Bb4.out]
  have Q2 := Lib.hid (blw_then Q1.out hb2)
  have z2 := hb2.size
  clear hb2
  cases hc : decide (cellP l.loc l.locs a 4 3 < 0)
  · have HC := Lib.hid (of_decide_eq_false hc)
    go_wp2_with fail
    refine (ref_Status l me _).mono ?_
    rintro e w3 ⟨rfl, hb3⟩
    have Bd0 := Lib.hid ((hb3.block (w.heap.size) (lt_of_heap Bb0.out)).trans Bb0.out)
    have Bd1 := Lib.hid ((hb3.block (w.heap.size + 1) (lt_of_heap Bb1.out)).trans Bb1.out)
    have Bd2 := Lib.hid ((hb3.block (w.heap.size + 1 + 1) (lt_of_heap Bb2.out)).trans Bb2.out)
    have Bd3 := Lib.hid ((hb3.block (w.heap.size + 1 + 1 + 1) (lt_of_heap Bb3.out)).trans Bb3.out)
    have Bd4 := Lib.hid ((hb3.block (w.heap.size + 1 + 1 + 1 + 1) (lt_of_heap Bb4.out)).trans Bb4.out)
    clear cb0 fb0
    have cd0 : ∀ i, w3.cell? ⟨w.heap.size, i, none⟩ = _ := cell_of_heap Bd0.out
    have fd0 : ∀ i, w3.frozen? ⟨w.heap.size, i, none⟩ = false := fun i => by simp [World.frozen?, Bd0.out]
    clear cb1 fb1
    have cd1 : ∀ i, w3.cell? ⟨w.heap.size + 1, i, none⟩ = _ := cell_of_heap Bd1.out
    have fd1 : ∀ i, w3.frozen? ⟨w.heap.size + 1, i, none⟩ = false := fun i => by simp [World.frozen?, Bd1.out]
    clear cb2 fb2
    have cd2 : ∀ i, w3.cell? ⟨w.heap.size + 1 + 1, i, none⟩ = _ := cell_of_heap Bd2.out
    have fd2 : ∀ i, w3.frozen? ⟨w.heap.size + 1 + 1, i, none⟩ = false := fun i => by simp [World.frozen?, Bd2.out]
    clear cb3 fb3
    have cd3 : ∀ i, w3.cell? ⟨w.heap.size + 1 + 1 + 1, i, none⟩ = _ := cell_of_heap Bd3.out
    have fd3 : ∀ i, w3.frozen? ⟨w.heap.size + 1 + 1 + 1, i, none⟩ = false := fun i => by simp [World.frozen?, Bd3.out]
    clear cb4 fb4
    have cd4 : ∀ i, w3.cell? ⟨w.heap.size + 1 + 1 + 1 + 1, i, none⟩ = _ := cell_of_heap Bd4.out
    have fd4 : ∀ i, w3.frozen? ⟨w.heap.size + 1 + 1 + 1 + 1, i, none⟩ = false := fun i => by simp [World.frozen?, Bd4.out]
    have Q3 := Lib.hid (blw_then Q2.out hb3)
    have z3 := hb3.size
    clear hb3
    cases hst : decide (cellP l.thd l.thr me 4 0 < 0)
    · have HST := Lib.hid (of_decide_eq_false hst)
      have HPP : Hid (rvisP l me 4 a = (rOutM (cellP l.loc l.locs a 4 3) me).map outIs) := by
        show _ = _
        rw [HP.out, if_neg (by have h1 := HC.out; have h2 := HST.out; omega)]
      have hlc := lt_of_heap Bd4.out
      have HCA : Hid (CurAt w3 (w.heap.size + 1 + 1 + 1 + 1) (.slice A0 log.length c0) log ⟨0, Acc.zero, false⟩) := by
        refine ⟨Bd4.out, HS.out.below Q3.out, ?_, Nat.zero_le _⟩
        rintro b' o' n' c' h1 h2
        obtain ⟨A', c2', h3, _, _, h4⟩ := HS.out.out
        obtain ⟨b2', o2', h5, h6, _⟩ := h4 h2
        rw [h3, h5] at h1
        simp only [Value.slice.injEq, Option.some.injEq, Addr.mk.injEq] at h1
        omega
      go_wp2_with fail
      refine (ref_Out (cellP l.loc l.locs a 4 3) me (w.heap.size + 1 + 1 + 1 + 1) (.slice A0 log.length c0) log ⟨0, Acc.zero, false⟩ w3 HCA.out).mono ?_
      rintro e w4 ⟨rfl, hk4, ha4, hl4⟩
      have Be2 := Lib.hid ((hk4.block (w.heap.size + 1 + 1) (lt_of_heap Bd2.out) (by omega)).trans Bd2.out)
      have Be3 := Lib.hid ((hk4.block (w.heap.size + 1 + 1 + 1) (lt_of_heap Bd3.out) (by omega)).trans Bd3.out)
      have ce2 : ∀ i, w4.cell? ⟨w.heap.size + 1 + 1, i, none⟩ = _ := cell_of_heap Be2.out
      have fe2 : ∀ i, w4.frozen? ⟨w.heap.size + 1 + 1, i, none⟩ = false := fun i => by simp [World.frozen?, Be2.out]
      have ce3 : ∀ i, w4.cell? ⟨w.heap.size + 1 + 1 + 1, i, none⟩ = _ := cell_of_heap Be3.out
      have fe3 : ∀ i, w4.frozen? ⟨w.heap.size + 1 + 1 + 1, i, none⟩ = false := fun i => by simp [World.frozen?, Be3.out]
      have z4 := hk4.size
      have HK4 := Lib.hid hk4
      have HA4 := Lib.hid ha4
      obtain ⟨R, hR⟩ : ∃ R, curM (rOutM (cellP l.loc l.locs a 4 3) me) false log ⟨0, Acc.zero, false⟩ = R := ⟨_, rfl⟩
      rw [hR] at HA4 ⊢
      have HR := Lib.hid hR
      clear hk4 ha4 hl4 hR
      obtain ⟨is, s4⟩ := R
      go_wp2_with fail
      refine (cur_Told (outIs is) (w.heap.size + 1 + 1 + 1 + 1) (.slice A0 log.length c0) s4 w4 HA4.out).mono ?_
      rintro e w5 ⟨rfl, hb5⟩
      have Bg2 := Lib.hid ((hb5.block (w.heap.size + 1 + 1) (lt_of_heap Be2.out)).trans Be2.out)
      have Bg3 := Lib.hid ((hb5.block (w.heap.size + 1 + 1 + 1) (lt_of_heap Be3.out)).trans Be3.out)
      clear ce2 fe2
      have cg2 : ∀ i, w5.cell? ⟨w.heap.size + 1 + 1, i, none⟩ = _ := cell_of_heap Bg2.out
      have fg2 : ∀ i, w5.frozen? ⟨w.heap.size + 1 + 1, i, none⟩ = false := fun i => by simp [World.frozen?, Bg2.out]
      clear ce3 fe3
      have cg3 : ∀ i, w5.cell? ⟨w.heap.size + 1 + 1 + 1, i, none⟩ = _ := cell_of_heap Bg3.out
      have fg3 : ∀ i, w5.frozen? ⟨w.heap.size + 1 + 1 + 1, i, none⟩ = false := fun i => by simp [World.frozen?, Bg3.out]
      have z5 := hb5.size
      have HB5 := Lib.hid hb5
      clear hb5
      rw [show curTold s4 (outIs is) = (⟨a1, a2, a3, a4, a5⟩, ⟨o1, o2, o3, o4, o5, o6, o7⟩, bd) by rw [told_step HR.out, ← HT.out, HPP.out]]
      clear HT HPP HP
      go_wp2
      refine bodyPost_ret (v := tripV (⟨a1, a2, a3, a4, a5⟩, ⟨o1, o2, o3, o4, o5, o6, o7⟩, bd)) (by simp [results, go_sem, cg2, fg2, cg3, fg3]) rfl ⟨rfl, ?_⟩
      refine Keep.toBelow (X := fun i => w.heap.size ≤ i) ?_ (fun i hi => by omega)
      with_reducible repeat (refine Keep.setCell ?_ _ (.inr (by simp only []; omega)))
      exact (Keep.of_below Q3.out).trans ((HK4.out.mono fun i _ hi => by omega).trans (Keep.of_below HB5.out))
    · have HST := Lib.hid (of_decide_eq_true hst)
      have HE : ((⟨a1, a2, a3, a4, a5⟩, ⟨o1, o2, o3, o4, o5, o6, o7⟩, bd) : Acc × Ou × Bool) = (Acc.zero, outErr 1, true) := by
        rw [← HT.out, HP.out, if_pos (by have h1 := HST.out; omega)]
        rfl
      simp only [Acc.zero, outErr, Prod.mk.injEq, Acc.mk.injEq, Ou.mk.injEq] at HE
      obtain ⟨⟨rfl, rfl, rfl, rfl, rfl⟩, ⟨rfl, rfl, rfl, rfl, rfl, rfl, rfl⟩, rfl⟩ := HE
      clear HP HT
      go_wp2
      refine bodyPost_ret (v := tripV (Acc.zero, outErr 1, true)) (by simp [results, go_sem, cd2, fd2, cd3, fd3, Acc.zero, outErr]) rfl ⟨rfl, ?_⟩
      refine Keep.toBelow (X := fun i => w.heap.size ≤ i) ?_ (fun i hi => by omega)
      with_reducible repeat (refine Keep.setCell ?_ _ (.inr (by simp only []; omega)))
      exact Keep.of_below Q3.out
  · have HC := Lib.hid (of_decide_eq_true hc)
    have HE : ((⟨a1, a2, a3, a4, a5⟩, ⟨o1, o2, o3, o4, o5, o6, o7⟩, bd) : Acc × Ou × Bool) = (Acc.zero, outErr 1, true) := by
      rw [← HT.out, HP.out, if_pos (by have h1 := HC.out; omega)]
      rfl
    simp only [Acc.zero, outErr, Prod.mk.injEq, Acc.mk.injEq, Ou.mk.injEq] at HE
    obtain ⟨⟨rfl, rfl, rfl, rfl, rfl⟩, ⟨rfl, rfl, rfl, rfl, rfl, rfl, rfl⟩, rfl⟩ := HE
    clear HP HT
    go_wp2
    refine bodyPost_ret (v := tripV (Acc.zero, outErr 1, true)) (by simp [results, go_sem, cb2, fb2, cb3, fb3, Acc.zero, outErr]) rfl ⟨rfl, ?_⟩
    refine Keep.toBelow (X := fun i => w.heap.size ≤ i) ?_ (fun i hi => by omega)
    with_reducible repeat (refine Keep.setCell ?_ _ (.inr (by simp only []; omega)))
    exact Keep.of_below Q2.out
theorem ref_VNextLo (l : Lay) (me : Int) (o : OpV) (hk : o.kind < 1) (vlog : Value) (log : List Rs) (w : World) (hs : SlR 2 Rs.cells w vlog log) :
    Calls Try.prog 15 #[l.v, .int .i64 me, .agg o.cells, vlog] w fun e w' => e = .returned (tripV (stepOf (rvisP l me o.kind o.a) log)) ∧ Below w.heap.size w w' := by
  have HE : Hid (stepOf (rvisP l me o.kind o.a) log = (Acc.zero, outErr 1, true)) := by
    show _ = _
    have hv : visCell l o.kind o.a = -1 := by unfold visCell; rw [if_neg (by omega), if_neg (by omega)]
    rw [rvisP, hv, if_pos (by omega)]
    rfl
  rw [HE.out]
  clear HE
  obtain ⟨A0, c0, rfl, -⟩ := hs.out
  clear hs
  obtain ⟨kind, a, b, try_, stamp, karma, aborts, seen, writes, durable⟩ := o
  simp only at hk
  have k1 : decide (kind > 2) = false := by simp; omega
  have k2 : decide (kind < 1) = true := by simp; omega
  clear hk
  go_enter Try.func15, Try.ntmps15
  go_wp2_with fail
  refine (ref_Readers l a _).mono ?_
  rintro e w1 ⟨rfl, hb1⟩
  have ba0 := hb1.block (w.heap.size) (by simp only [World.size_alloc, World.size_setCell]; omega)
  repeat (first | rw [hs_ne _ _ _ _ _ (by omega)] at ba0 | rw [ha_lt _ _ _ (by simp only [World.size_alloc, World.size_setCell]; omega)] at ba0 | rw [hs_same] at ba0 | rw [hd_drew] at ba0)
  rw [ha_new _ _ _ (by simp only [World.size_alloc, World.size_setCell])] at ba0
  try simp only [Option.map_some, putO, List.setIfInBounds_toArray, List.set_cons_zero, List.set_cons_succ] at ba0
  have Ba0 := Lib.hid ba0
  clear ba0
  have ba1 := hb1.block (w.heap.size + 1) (by simp only [World.size_alloc, World.size_setCell]; omega)
  repeat (first | rw [hs_ne _ _ _ _ _ (by omega)] at ba1 | rw [ha_lt _ _ _ (by simp only [World.size_alloc, World.size_setCell]; omega)] at ba1 | rw [hs_same] at ba1 | rw [hd_drew] at ba1)
  rw [ha_new _ _ _ (by simp only [World.size_alloc, World.size_setCell])] at ba1
  try simp only [Option.map_some, putO, List.setIfInBounds_toArray, List.set_cons_zero, List.set_cons_succ] at ba1
  have Ba1 := Lib.hid ba1
  clear ba1
  have ba2 := hb1.block (w.heap.size + 1 + 1) (by simp only [World.size_alloc, World.size_setCell]; omega)
  repeat (first | rw [hs_ne _ _ _ _ _ (by omega)] at ba2 | rw [ha_lt _ _ _ (by simp only [World.size_alloc, World.size_setCell]; omega)] at ba2 | rw [hs_same] at ba2 | rw [hd_drew] at ba2)
  rw [ha_new _ _ _ (by simp only [World.size_alloc, World.size_setCell])] at ba2
  try simp only [Option.map_some, putO, List.setIfInBounds_toArray, List.set_cons_zero, List.set_cons_succ] at ba2
  have Ba2 := Lib.hid ba2
  clear ba2
  have ba3 := hb1.block (w.heap.size + 1 + 1 + 1) (by simp only [World.size_alloc, World.size_setCell]; omega)
  repeat (first | rw [hs_ne _ _ _ _ _ (by omega)] at ba3 | rw [ha_lt _ _ _ (by simp only [World.size_alloc, World.size_setCell]; omega)] at ba3 | rw [hs_same] at ba3 | rw [hd_drew] at ba3)
  rw [ha_new _ _ _ (by simp only [World.size_alloc, World.size_setCell])] at ba3
  try simp only [Option.map_some, putO, List.setIfInBounds_toArray, List.set_cons_zero, List.set_cons_succ] at ba3
  have Ba3 := Lib.hid ba3
  clear ba3
  have ba4 := hb1.block (w.heap.size + 1 + 1 + 1 + 1) (by simp only [World.size_alloc, World.size_setCell]; omega)
  repeat (first | rw [hs_ne _ _ _ _ _ (by omega)] at ba4 | rw [ha_lt _ _ _ (by simp only [World.size_alloc, World.size_setCell]; omega)] at ba4 | rw [hs_same] at ba4 | rw [hd_drew] at ba4)
  rw [ha_new _ _ _ (by simp only [World.size_alloc, World.size_setCell])] at ba4
  try simp only [Option.map_some, putO, List.setIfInBounds_toArray, List.set_cons_zero, List.set_cons_succ] at ba4
  have Ba4 := Lib.hid ba4
  clear ba4
  have ca0 : ∀ i, w1.cell? ⟨w.heap.size, i, none⟩ = _ := cell_of_heap Ba0.out
  have fa0 : ∀ i, w1.frozen? ⟨w.heap.size, i, none⟩ = false := fun i => by simp [World.frozen?, Ba0.out]
  have ca1 : ∀ i, w1.cell? ⟨w.heap.size + 1, i, none⟩ = _ := cell_of_heap Ba1.out
  have fa1 : ∀ i, w1.frozen? ⟨w.heap.size + 1, i, none⟩ = false := fun i => by simp [World.frozen?, Ba1.out]
  have ca2 : ∀ i, w1.cell? ⟨w.heap.size + 1 + 1, i, none⟩ = _ := cell_of_heap Ba2.out
  have fa2 : ∀ i, w1.frozen? ⟨w.heap.size + 1 + 1, i, none⟩ = false := fun i => by simp [World.frozen?, Ba2.out]
  have ca3 : ∀ i, w1.cell? ⟨w.heap.size + 1 + 1 + 1, i, none⟩ = _ := cell_of_heap Ba3.out
  have fa3 : ∀ i, w1.frozen? ⟨w.heap.size + 1 + 1 + 1, i, none⟩ = false := fun i => by simp [World.frozen?, Ba3.out]
  have ca4 : ∀ i, w1.cell? ⟨w.heap.size + 1 + 1 + 1 + 1, i, none⟩ = _ := cell_of_heap Ba4.out
  have fa4 : ∀ i, w1.frozen? ⟨w.heap.size + 1 + 1 + 1 + 1, i, none⟩ = false := fun i => by simp [World.frozen?, Ba4.out]
  have Q1 := Lib.hid (blw_then (w := w) (by with_reducible repeat (first | exact Below.refl _ _ | refine blw_alloc ?_ _ | refine blw_drew ?_)) hb1)
  have zQ1 := hb1.size
  simp only [World.size_alloc, World.size_setCell] at zQ1
  clear hb1
  go_wp2
  refine bodyPost_ret (v := tripV (Acc.zero, outErr 1, true)) (by simp [results, go_sem, ca2, fa2, ca3, fa3, Acc.zero, outErr]) rfl ⟨rfl, ?_⟩
  refine Keep.toBelow (X := fun i => w.heap.size ≤ i) ?_ (fun i hi => by omega)
  with_reducible repeat (refine Keep.setCell ?_ _ (.inr (by simp only []; omega)))
  exact Keep.of_below Q1.out
theorem ref_VNextHi (l : Lay) (me : Int) (o : OpV) (hk : 4 < o.kind) (vlog : Value) (log : List Rs) (w : World) (hs : SlR 2 Rs.cells w vlog log) :
    Calls Try.prog 15 #[l.v, .int .i64 me, .agg o.cells, vlog] w fun e w' => e = .returned (tripV (stepOf (rvisP l me o.kind o.a) log)) ∧ Below w.heap.size w w' := by
  have HE : Hid (stepOf (rvisP l me o.kind o.a) log = (Acc.zero, outErr 1, true)) := by
    show _ = _
    have hv : visCell l o.kind o.a = -1 := by unfold visCell; rw [if_neg (by omega), if_neg (by omega)]
    rw [rvisP, hv, if_pos (by omega)]
    rfl
  rw [HE.out]
  clear HE
  obtain ⟨A0, c0, rfl, -⟩ := hs.out
  clear hs
  obtain ⟨kind, a, b, try_, stamp, karma, aborts, seen, writes, durable⟩ := o
  simp only at hk
  have k1 : decide (kind > 2) = true := by simp; omega
  have k2 : decide (kind < 1) = false := by simp; omega
  have k3 : decide (kind > 4) = true := by simp; omega
  clear hk
  go_enter Try.func15, Try.ntmps15
  go_wp2_with fail
  refine (ref_Readers l a _).mono ?_
  rintro e w1 ⟨rfl, hb1⟩
  have ba0 := hb1.block (w.heap.size) (by simp only [World.size_alloc, World.size_setCell]; omega)
  repeat (first | rw [hs_ne _ _ _ _ _ (by omega)] at ba0 | rw [ha_lt _ _ _ (by simp only [World.size_alloc, World.size_setCell]; omega)] at ba0 | rw [hs_same] at ba0 | rw [hd_drew] at ba0)
  rw [ha_new _ _ _ (by simp only [World.size_alloc, World.size_setCell])] at ba0
  try simp only [Option.map_some, putO, List.setIfInBounds_toArray, List.set_cons_zero, List.set_cons_succ] at ba0
  have Ba0 := Lib.hid ba0
  clear ba0
  have ba1 := hb1.block (w.heap.size + 1) (by simp only [World.size_alloc, World.size_setCell]; omega)
  repeat (first | rw [hs_ne _ _ _ _ _ (by omega)] at ba1 | rw [ha_lt _ _ _ (by simp only [World.size_alloc, World.size_setCell]; omega)] at ba1 | rw [hs_same] at ba1 | rw [hd_drew] at ba1)
  rw [ha_new _ _ _ (by simp only [World.size_alloc, World.size_setCell])] at ba1
  try simp only [Option.map_some, putO, List.setIfInBounds_toArray, List.set_cons_zero, List.set_cons_succ] at ba1
  have Ba1 := Lib.hid ba1
  clear ba1
  have ba2 := hb1.block (w.heap.size + 1 + 1) (by simp only [World.size_alloc, World.size_setCell]; omega)
  repeat (first | rw [hs_ne _ _ _ _ _ (by omega)] at ba2 | rw [ha_lt _ _ _ (by simp only [World.size_alloc, World.size_setCell]; omega)] at ba2 | rw [hs_same] at ba2 | rw [hd_drew] at ba2)
  rw [ha_new _ _ _ (by simp only [World.size_alloc, World.size_setCell])] at ba2
  try simp only [Option.map_some, putO, List.setIfInBounds_toArray, List.set_cons_zero, List.set_cons_succ] at ba2
  have Ba2 := Lib.hid ba2
  clear ba2
  have ba3 := hb1.block (w.heap.size + 1 + 1 + 1) (by simp only [World.size_alloc, World.size_setCell]; omega)
  repeat (first | rw [hs_ne _ _ _ _ _ (by omega)] at ba3 | rw [ha_lt _ _ _ (by simp only [World.size_alloc, World.size_setCell]; omega)] at ba3 | rw [hs_same] at ba3 | rw [hd_drew] at ba3)
  rw [ha_new _ _ _ (by simp only [World.size_alloc, World.size_setCell])] at ba3
  try simp only [Option.map_some, putO, List.setIfInBounds_toArray, List.set_cons_zero, List.set_cons_succ] at ba3
  have Ba3 := Lib.hid ba3
  clear ba3
  have ba4 := hb1.block (w.heap.size + 1 + 1 + 1 + 1) (by simp only [World.size_alloc, World.size_setCell]; omega)
  repeat (first | rw [hs_ne _ _ _ _ _ (by omega)] at ba4 | rw [ha_lt _ _ _ (by simp only [World.size_alloc, World.size_setCell]; omega)] at ba4 | rw [hs_same] at ba4 | rw [hd_drew] at ba4)
  rw [ha_new _ _ _ (by simp only [World.size_alloc, World.size_setCell])] at ba4
  try simp only [Option.map_some, putO, List.setIfInBounds_toArray, List.set_cons_zero, List.set_cons_succ] at ba4
  have Ba4 := Lib.hid ba4
  clear ba4
  have ca0 : ∀ i, w1.cell? ⟨w.heap.size, i, none⟩ = _ := cell_of_heap Ba0.out
  have fa0 : ∀ i, w1.frozen? ⟨w.heap.size, i, none⟩ = false := fun i => by simp [World.frozen?, Ba0.out]
  have ca1 : ∀ i, w1.cell? ⟨w.heap.size + 1, i, none⟩ = _ := cell_of_heap Ba1.out
  have fa1 : ∀ i, w1.frozen? ⟨w.heap.size + 1, i, none⟩ = false := fun i => by simp [World.frozen?, Ba1.out]
  have ca2 : ∀ i, w1.cell? ⟨w.heap.size + 1 + 1, i, none⟩ = _ := cell_of_heap Ba2.out
  have fa2 : ∀ i, w1.frozen? ⟨w.heap.size + 1 + 1, i, none⟩ = false := fun i => by simp [World.frozen?, Ba2.out]
  have ca3 : ∀ i, w1.cell? ⟨w.heap.size + 1 + 1 + 1, i, none⟩ = _ := cell_of_heap Ba3.out
  have fa3 : ∀ i, w1.frozen? ⟨w.heap.size + 1 + 1 + 1, i, none⟩ = false := fun i => by simp [World.frozen?, Ba3.out]
  have ca4 : ∀ i, w1.cell? ⟨w.heap.size + 1 + 1 + 1 + 1, i, none⟩ = _ := cell_of_heap Ba4.out
  have fa4 : ∀ i, w1.frozen? ⟨w.heap.size + 1 + 1 + 1 + 1, i, none⟩ = false := fun i => by simp [World.frozen?, Ba4.out]
  have Q1 := Lib.hid (blw_then (w := w) (by with_reducible repeat (first | exact Below.refl _ _ | refine blw_alloc ?_ _ | refine blw_drew ?_)) hb1)
  have zQ1 := hb1.size
  simp only [World.size_alloc, World.size_setCell] at zQ1
  clear hb1
  go_wp2_with fail
  refine (ref_Waiters l a _).mono ?_
  rintro e w2 ⟨rfl, hb2⟩
  have Bb0 := Lib.hid ((hb2.block (w.heap.size) (lt_of_heap Ba0.out)).trans Ba0.out)
  have Bb1 := Lib.hid ((hb2.block (w.heap.size + 1) (lt_of_heap Ba1.out)).trans Ba1.out)
  have Bb2 := Lib.hid ((hb2.block (w.heap.size + 1 + 1) (lt_of_heap Ba2.out)).trans Ba2.out)
  have Bb3 := Lib.hid ((hb2.block (w.heap.size + 1 + 1 + 1) (lt_of_heap Ba3.out)).trans Ba3.out)
  have Bb4 := Lib.hid ((hb2.block (w.heap.size + 1 + 1 + 1 + 1) (lt_of_heap Ba4.out)).trans Ba4.out)
  clear ca0 fa0
  have cb0 : ∀ i, w2.cell? ⟨w.heap.size, i, none⟩ = _ := cell_of_heap Bb0.out
  have fb0 : ∀ i, w2.frozen? ⟨w.heap.size, i, none⟩ = false := fun i => by simp [World.frozen?, Bb0.out]
  clear ca1 fa1
  have cb1 : ∀ i, w2.cell? ⟨w.heap.size + 1, i, none⟩ = _ := cell_of_heap Bb1.out
  have fb1 : ∀ i, w2.frozen? ⟨w.heap.size + 1, i, none⟩ = false := fun i => by simp [World.frozen?, Bb1.out]
  clear ca2 fa2
  have cb2 : ∀ i, w2.cell? ⟨w.heap.size + 1 + 1, i, none⟩ = _ := cell_of_heap Bb2.out
  have fb2 : ∀ i, w2.frozen? ⟨w.heap.size + 1 + 1, i, none⟩ = false := fun i => by simp [World.frozen?, Bb2.out]
  clear ca3 fa3
  have cb3 : ∀ i, w2.cell? ⟨w.heap.size + 1 + 1 + 1, i, none⟩ = _ := cell_of_heap Bb3.out
  have fb3 : ∀ i, w2.frozen? ⟨w.heap.size + 1 + 1 + 1, i, none⟩ = false := fun i => by simp [World.frozen?, Bb3.out]
  clear ca4 fa4
  have cb4 : ∀ i, w2.cell? ⟨w.heap.size + 1 + 1 + 1 + 1, i, none⟩ = _ := cell_of_heap Bb4.out
  have fb4 : ∀ i, w2.frozen? ⟨w.heap.size + 1 + 1 + 1 + 1, i, none⟩ = false := fun i => by simp [World.frozen?, Bb4.out]
  have Q2 := Lib.hid (blw_then Q1.out hb2)
  clear hb2
  go_wp2
  refine bodyPost_ret (v := tripV (Acc.zero, outErr 1, true)) (by simp [results, go_sem, cb2, fb2, cb3, fb3, Acc.zero, outErr]) rfl ⟨rfl, ?_⟩
  refine Keep.toBelow (X := fun i => w.heap.size ≤ i) ?_ (fun i hi => by omega)
  with_reducible repeat (refine Keep.setCell ?_ _ (.inr (by simp only []; omega)))
  exact Keep.of_below Q2.out
theorem ref_VNext (l : Lay) (me : Int) (o : OpV) (vlog : Value) (log : List Rs) (w : World) (hs : SlR 2 Rs.cells w vlog log) :
    Calls Try.prog 15 #[l.v, .int .i64 me, .agg o.cells, vlog] w fun e w' => e = .returned (tripV (stepOf (rvisP l me o.kind o.a) log)) ∧ Below w.heap.size w w' := by
  by_cases h0 : o.kind < 1
  · exact ref_VNextLo l me o h0 vlog log w hs
  by_cases h5 : 4 < o.kind
  · exact ref_VNextHi l me o h5 vlog log w hs
  by_cases h1 : o.kind = 1
  · exact ref_VNext1 l me o h1 vlog log w hs
  by_cases h2 : o.kind = 2
  · exact ref_VNext2 l me o h2 vlog log w hs
  by_cases h3 : o.kind = 3
  · exact ref_VNext3 l me o h3 vlog log w hs
  · exact ref_VNext4 l me o (by omega) vlog log w hs
end Go.Proofs.Ytpfibcbeenogiaa
