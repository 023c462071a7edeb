/- hallmootlaw21: the table of an execution: access. -/
import Derived.Test.YtpfibcbeenogiaaDo
import Derived.Test.YtpfibcbeenogiaaRouse
import Derived.Deep.RegionHeld3
import Derived.Deep.CutRange
namespace Go.Proofs.Ytpfibcbeenogiaa
open Go.RowKit
set_option linter.unusedSimpArgs false
set_option linter.unusedVariables false
structure Tb where
  vm : Value
  vw : Value
  kind : Int
  a : Int
  b : Int
  try_ : Int
  stamp : Int
  karma : Int
  aborts : Int
  seen : Value
  writes : Value
  durable : Value
  vlog : Value
  told : Int
  bad : Bool
abbrev Tb.cells (t : Tb) : Array Value := #[t.vm, t.vw, .int .i64 t.kind, .int .i64 t.a, .int .i64 t.b, .int .i64 t.try_, .int .i64 t.stamp, .int .i64 t.karma, .int .i64 t.aborts, t.seen, t.writes, t.durable, t.vlog, .int .i64 t.told, .bool t.bad]
abbrev Acc.arr (a : Acc) : Array Value := #[.int .i64 a.kind, .int .i64 a.cell, .int .i64 a.old, .int .i64 a.new, .string a.bytes]
theorem blk_keep {B b : Nat} {w w' : World} {o : Obj} (h : Below B w w') (hl : b < B) (hb : w.heap[b]? = some o) : w'.heap[b]? = some o := (h.block b hl).trans hb
theorem memDo_err {cs : List Int} {a : Acc} (h : ¬ (memDo cs a).2.2 = 0) : (memDo cs a).1 = cs := by
  unfold memDo at h ⊢
  split
  · rename_i hr
    rw [if_pos hr] at h
    split
    · rfl
    · rename_i hx
      simp [hx] at h
  · rfl
theorem lt_newT (w : World) (o : Obj) : w.heap.size < (w.alloc o).heap.size := by rw [World.size_alloc]; omega
theorem tab_keep {X w3 : World} (hb : Below X.heap.size X w3) {b : Nat} {cells : Array Value} {T : TypeId} (h : X.heap[b]? = some (.cells cells T (0, 0))) :
    (∀ i, w3.cell? ⟨b, i, none⟩ = cells[i]?) ∧ (∀ i, w3.frozen? ⟨b, i, none⟩ = false) ∧ b < w3.heap.size ∧ Hid (w3.heap[b]? = some (.cells cells T (0, 0))) := by
  have e := (hb.block b (lt_of_heap h)).trans h
  exact ⟨cell_of_heap e, fun i => by simp [World.frozen?, e], lt_of_heap e, e⟩
set_option maxRecDepth 100000 in
set_option maxHeartbeats 4000000 in
theorem tab_access (t : Tb) (tb : Nat) (a : Acc) (cs : List Int) (w : World) (hT : w.heap[tb]? = some (.cells t.cells 87 (0, 0))) (hm : IntsR w t.vm cs) (hty : Typed w t.vm) (hlen : cs.length ≤ 1048576) :
    Calls Try.prog 99 #[.pointer (some ⟨tb, 0, none⟩), a.v] w fun e w' =>
      ∃ vm', e = .returned (.agg #[.int .i64 (if (memDo cs a).2.2 = 0 then (memDo cs a).2.1.val else 0), .bool (if (memDo cs a).2.2 = 0 then (memDo cs a).2.1.ok else false)]) ∧ Keep (· = tb) w w' ∧
        w'.heap[tb]? = some (.cells { t with vm := vm', bad := if (memDo cs a).2.2 = 0 then t.bad else true }.cells 87 (0, 0)) ∧ IntsR w' vm' (memDo cs a).1 ∧ Typed w' vm' := by
  have HM := Lib.hid hm
  have HTY := Lib.hid hty
  have HLEN := Lib.hid hlen
  obtain ⟨vm, vw, kind, a', b', try_, stamp, karma, aborts, sv, wv, dv, vlog, told, bad⟩ := t
  simp only at HM HTY
  obtain ⟨A, c, rfl, -⟩ := hm.out
  have Lt := Lib.hid hT
  have htl := lt_of_heap hT
  clear hT hm hty hlen
  go_enter Try.func99, Try.ntmps99
  go_upto_region 1 with fail
  generalize hW : (w.alloc _).alloc _ = W
  have b_q0 := congrArg (fun u : World => u.heap[w.heap.size]?) hW
  try simp only [] at b_q0
  repeat (first | rw [hd_drew] at b_q0 | rw [hd_drewN] at b_q0 | rw [hs_ne _ _ _ _ _ (by omega)] at b_q0 | rw [ha_lt _ _ _ (by first | omega | (simp only [World.size_alloc, World.size_setCell, World.size_drew]; omega))] at b_q0 | rw [hs_same] at b_q0)
  rw [ha_new _ _ _ (by first | rfl | simp only [World.size_alloc, World.size_setCell, World.size_drew])] at b_q0
  try simp only [Option.map_some, putO, List.setIfInBounds_toArray, List.set_cons_zero, List.set_cons_succ] at b_q0
  have Lq0 := Lib.hid b_q0.symm
  clear b_q0
  have b_q1 := congrArg (fun u : World => u.heap[w.heap.size + 1]?) hW
  try simp only [] at b_q1
  repeat (first | rw [hd_drew] at b_q1 | rw [hd_drewN] at b_q1 | rw [hs_ne _ _ _ _ _ (by omega)] at b_q1 | rw [ha_lt _ _ _ (by first | omega | (simp only [World.size_alloc, World.size_setCell, World.size_drew]; omega))] at b_q1 | rw [hs_same] at b_q1)
  rw [ha_new _ _ _ (by first | rfl | simp only [World.size_alloc, World.size_setCell, World.size_drew])] at b_q1
  try simp only [Option.map_some, putO, List.setIfInBounds_toArray, List.set_cons_zero, List.set_cons_succ] at b_q1
  have Lq1 := Lib.hid b_q1.symm
  clear b_q1
  have cq0 := cell_of_heap Lq0.out
  have fq0 := frz_of_heap Lq0.out
  have sq0 := lt_of_heap Lq0.out
  have cq1 := cell_of_heap Lq1.out
  have fq1 := frz_of_heap Lq1.out
  have sq1 := lt_of_heap Lq1.out
  have hbw : Below w.heap.size w W := by subst hW; exact blw_alloc (blw_alloc (Below.refl _ _) _) _
  have hws : W.heap.size = w.heap.size + 1 + 1 := by subst hW; simp
  clear hW
  have LtW := Lib.hid (blk_keep hbw htl Lt.out)
  have HBW := Lib.hid hbw
  obtain ⟨ak, ac, ao, an, ab⟩ := a
  have hSof : ∀ wa, Below W.heap.size W wa → ((∀ i, wa.cell? ⟨tb, i, none⟩ = (#[.slice A cs.length c, vw, .int .i64 kind, .int .i64 a', .int .i64 b', .int .i64 try_, .int .i64 stamp, .int .i64 karma, .int .i64 aborts, sv, wv, dv, vlog, .int .i64 told, .bool bad] : Array Value)[i]?) ∧ (∀ i, wa.cell? ⟨w.heap.size, i, none⟩ = (#[.int .i64 ak, .int .i64 ac, .int .i64 ao, .int .i64 an, .string ab] : Array Value)[i]?) ∧ Below W.heap.size W wa) := fun wa h => ⟨cell_of_heap (blk_keep h (by omega) LtW.out), cell_of_heap (blk_keep h (by omega) Lq0.out), h⟩
  have HSof := Lib.hid hSof
  have HWS := Lib.hid hws
  clear hSof hbw cq0 fq0 cq1 fq1 hws
  go_cut [5, 6, 7] from 8 to 17 (fun p5 p6 s7 wx => ∃ (b5 b6 : Nat) (vm' : Value), p5 = .pointer (some ⟨b5, 0, none⟩) ∧ p6 = .pointer (some ⟨b6, 0, none⟩) ∧ s7 = .int .i64 (memDo cs ⟨ak, ac, ao, an, ab⟩).2.2 ∧ Below W.heap.size W wx ∧
    wx.heap[b5]? = some (.cells #[vm'] 53 (0, 0)) ∧ wx.heap[b6]? = some (.cells #[.int .i64 (memDo cs ⟨ak, ac, ao, an, ab⟩).2.1.val, .bool (memDo cs ⟨ak, ac, ao, an, ab⟩).2.1.ok] 58 (0, 0)) ∧
    IntsR wx vm' (memDo cs ⟨ak, ac, ao, an, ab⟩).1 ∧ Typed wx vm' ∧ W.heap.size ≤ b5 ∧ W.heap.size ≤ b6)
  case first =>
    go_region_held3 (fun w' => (∀ i, w'.cell? ⟨tb, i, none⟩ = (#[.slice A cs.length c, vw, .int .i64 kind, .int .i64 a', .int .i64 b', .int .i64 try_, .int .i64 stamp, .int .i64 karma, .int .i64 aborts, sv, wv, dv, vlog, .int .i64 told, .bool bad] : Array Value)[i]?) ∧ (∀ i, w'.cell? ⟨w.heap.size, i, none⟩ = (#[.int .i64 ak, .int .i64 ac, .int .i64 ao, .int .i64 an, .string ab] : Array Value)[i]?) ∧ Below W.heap.size W w')
      (((try dsimp only); refine HSof.out _ ?_; with_reducible repeat (first | exact Below.refl _ _ | refine blw_alloc ?_ _ | refine blw_drew ?_ | refine blw_set ?_ (by simp only [World.size_alloc]; omega) _ | assumption)))
      ((first
        | (go_at_call 40; refine (ref02_Do cs ⟨ak, ac, ao, an, ab⟩ (.slice A cs.length c) _ (HM.out.below (blw_then HBW.out (by with_reducible repeat (first | exact Below.refl _ _ | refine blw_alloc ?_ _ | refine blw_drew ?_)))) HLEN.out).mono ?_; rintro e w3 ⟨vm3, rfl, hI3, hb3, hT3, hown3⟩; obtain ⟨A3, c3, rfl, -⟩ := hI3.out
           have hB3 := blw_then (show Below W.heap.size W _ by with_reducible repeat (first | exact Below.refl _ _ | refine blw_alloc ?_ _ | refine blw_drew ?_)) hb3
           have zz3 := hB3.size
           have HT3 := Lib.hid (hT3 (HTY.out.below (blw_then HBW.out (by with_reducible repeat (first | exact Below.refl _ _ | refine blw_alloc ?_ _ | refine blw_drew ?_)))))
           have HOWN3 := Lib.hid hown3
           have HI3 := Lib.hid hI3
           have HB3 := Lib.hid hb3
           clear hT3 hown3 hI3
           (try (have q := tab_keep (b := W.heap.size) hb3 (ha_new _ _ _ rfl); obtain ⟨c30, f30, z30, h30⟩ := q))
           (try (have q := tab_keep (b := W.heap.size) hb3 ((hd_drew _ _).trans (ha_new _ _ _ rfl)); obtain ⟨c30, f30, z30, h30⟩ := q))
           (try (have q := tab_keep (b := W.heap.size) hb3 ((ha_lt _ _ _ (lt_newT _ _)).trans (ha_new _ _ _ rfl)); obtain ⟨c30, f30, z30, h30⟩ := q))
           (try (have q := tab_keep (b := W.heap.size) hb3 ((hd_drew _ _).trans ((ha_lt _ _ _ (lt_newT _ _)).trans (ha_new _ _ _ rfl))); obtain ⟨c30, f30, z30, h30⟩ := q))
           (try (have q := tab_keep (b := W.heap.size + 1) hb3 (ha_new _ _ _ (World.size_alloc _ _).symm); obtain ⟨c31, f31, z31, h31⟩ := q))
           (try (have q := tab_keep (b := W.heap.size + 1) hb3 ((hd_drew _ _).trans (ha_new _ _ _ (World.size_alloc _ _).symm)); obtain ⟨c31, f31, z31, h31⟩ := q)))))
    all_goals (
      have zsz := HB3.out.size
      try simp only [World.size_alloc, World.size_drew] at zsz
      have hne3 : ∀ b', (Value.slice A3 (memDo cs ⟨ak, ac, ao, an, ab⟩).1.length c3).ownBlock = some b' → b' < W.heap.size ∨ _ ≤ b' := fun b' hb' => HOWN3.out.elim (fun e => .inl (by rw [e] at hb'; obtain ⟨_, _, h⟩ := HTY.out b' hb'; have := lt_of_heap h; have := HWS.out; omega)) (fun h => .inr (h b' hb'))
      try simp only [World.size_alloc, World.size_drew] at hne3
      have HNE := Lib.hid hne3
      clear hne3
      go_wp2_with fail
      go_meet
      case rel =>
        have hne3 := HNE.out
        refine ⟨_, _, .slice A3 (memDo cs ⟨ak, ac, ao, an, ab⟩).1.length c3, rfl, rfl, rfl, ?_, ?_, ?_, ?_, ?_, ?_, ?_⟩
        · with_reducible repeat (first | exact hB3 | refine blw_alloc ?_ _ | refine blw_drew ?_ | refine blw_set ?_ (by simp only []; omega) _)
        · skip
          repeat (first | rw [hd_drew] | rw [hs_ne _ _ _ _ _ (by omega)] | rw [hs_same] | rw [ha_lt _ _ _ (by first | omega | (simp only [World.size_alloc, World.size_setCell]; omega))])
          first | rw [ha_new _ _ _ (by simp only [World.size_alloc, World.size_setCell])] | rw [h30.out] | rw [h31.out]
          try rfl
        · skip
          repeat (first | rw [hd_drew] | rw [hs_ne _ _ _ _ _ (by omega)] | rw [hs_same] | rw [ha_lt _ _ _ (by first | omega | (simp only [World.size_alloc, World.size_setCell]; omega))])
          first | rw [ha_new _ _ _ (by simp only [World.size_alloc, World.size_setCell])] | rw [h30.out] | rw [h31.out]
          try rfl
        · refine HI3.out.stay (by simp only [World.size_alloc, World.size_setCell, World.size_drew]; omega) (fun b' hb' hl' => ?_)
          have := hne3 b' hb'
          repeat (first | rw [hd_drew] | rw [hs_ne _ _ _ _ _ (by omega)] | rw [ha_lt _ _ _ (by first | omega | (simp only [World.size_alloc, World.size_setCell]; omega))])
        · intro b' hb'
          obtain ⟨c', fr', hty'⟩ := HT3.out b' hb'
          have hl' := lt_of_heap hty'
          have := hne3 b' hb'
          refine ⟨c', fr', Eq.trans ?_ hty'⟩
          repeat (first | rw [hd_drew] | rw [hs_ne _ _ _ _ _ (by omega)] | rw [ha_lt _ _ _ (by first | omega | (simp only [World.size_alloc, World.size_setCell]; omega))])
        · omega
        · omega)
  case rest =>
    obtain ⟨b5, b6, vm', rfl, rfl, rfl, hbx, hb5, hb6, hI, hT, h5, h6⟩ := hcut
    obtain ⟨A3, c3, rfl, -⟩ := hI.out
    have L5 := Lib.hid hb5
    have L6 := Lib.hid hb6
    have c5 := cell_of_heap hb5
    have c6 := cell_of_heap hb6
    have f5 := frz_of_heap hb5
    have f6 := frz_of_heap hb6
    have LtX := Lib.hid (blk_keep hbx (by have := HWS.out; omega) LtW.out)
    have LqX := Lib.hid (blk_keep hbx (by have := HWS.out; omega) Lq1.out)
    have ct := cell_of_heap LtX.out
    have ft := frz_of_heap LtX.out
    have cq := cell_of_heap LqX.out
    have fq := frz_of_heap LqX.out
    have st := lt_of_heap LtX.out
    have sq := lt_of_heap LqX.out
    have s5 := lt_of_heap hb5
    have s6 := lt_of_heap hb6
    have HI := Lib.hid hI
    have HT := Lib.hid hT
    have HBX := Lib.hid (blw_then HBW.out hbx)
    have hws := HWS.out
    have n1 : ¬ tb = w.heap.size + 1 := by omega
    have n2 : ¬ tb = b6 := by omega
    have n3 : ¬ tb = b5 := by omega
    have n4 : ¬ w.heap.size + 1 = b6 := by omega
    have n5 : ¬ w.heap.size + 1 = b5 := by omega
    clear hws hbx hb5 hb6 hI hT
    have H56 := Lib.hid (And.intro h5 h6)
    clear h5 h6
    by_cases her : (memDo cs ⟨ak, ac, ao, an, ab⟩).2.2 = 0
    · have bne : ((memDo cs ⟨ak, ac, ao, an, ab⟩).2.2 != 0) = false := by simp [her]
      have HER := Lib.hid her
      clear her
      go_wp2_with fail
      refine bodyPost_ret (v := .agg #[.int .i64 (memDo cs ⟨ak, ac, ao, an, ab⟩).2.1.val, .bool (memDo cs ⟨ak, ac, ao, an, ab⟩).2.1.ok]) (by simp [results, go_sem, cq, fq, sq, st, n1]) rfl ?_
      have FIN : ∀ wf, Keep (fun i => i = tb ∨ i = w.heap.size + 1) wc wf → IntsR wf (.slice A3 (memDo cs ⟨ak, ac, ao, an, ab⟩).1.length c3) (memDo cs ⟨ak, ac, ao, an, ab⟩).1 ∧ Typed wf (.slice A3 (memDo cs ⟨ak, ac, ao, an, ab⟩).1.length c3) := by
        intro wf hk
        refine ints_keep HI.out HT.out hk ?_
        rintro b' (rfl | rfl) _ c' fr' e'
        · rw [LtX.out] at e'; simp at e'
        · rw [LqX.out] at e'; simp at e'
      refine ⟨rfl, ?_, (.slice A3 (memDo cs ⟨ak, ac, ao, an, ab⟩).1.length c3), ?_, FIN _ ?_⟩
      · with_reducible repeat (refine Keep.setCell ?_ _ (by first | exact .inr rfl | exact .inl (by simp only []; omega)))
        exact Keep.of_below HBX.out
      · rw [hs_ne _ _ _ _ _ (by omega), hs_ne _ _ _ _ _ (by omega), hs_same, LtX.out]
        rfl
      · with_reducible repeat (refine Keep.setCell ?_ _ (.inr (by first | exact .inl rfl | exact .inr rfl)))
        exact Keep.refl _ _
    · have bne : ((memDo cs ⟨ak, ac, ao, an, ab⟩).2.2 != 0) = true := by simp [her]
      have HER := Lib.hid her
      clear her
      go_wp2_with fail
      refine bodyPost_ret (v := .agg #[.int .i64 0, .bool false]) (by simp [results, go_sem, cq, fq, sq, st, n1]) rfl ?_
      have FIN : ∀ wf, Keep (fun i => i = tb ∨ i = w.heap.size + 1) wc wf → IntsR wf (.slice A cs.length c) (memDo cs ⟨ak, ac, ao, an, ab⟩).1 ∧ Typed wf (.slice A cs.length c) := by
        intro wf hk
        refine ints_keep (by rw [memDo_err HER.out]; exact HM.out.below HBX.out) (HTY.out.below HBX.out) hk ?_
        rintro b' (rfl | rfl) _ c' fr' e'
        · rw [LtX.out] at e'; simp at e'
        · rw [LqX.out] at e'; simp at e'
      refine ⟨rfl, ?_, (.slice A cs.length c), ?_, FIN _ ?_⟩
      · with_reducible repeat (refine Keep.setCell ?_ _ (by first | exact .inr rfl | exact .inl (by simp only []; omega)))
        exact Keep.of_below HBX.out
      · rw [hs_ne _ _ _ _ _ (by omega), hs_ne _ _ _ _ _ (by omega), hs_same, LtX.out]
        rfl
      · with_reducible repeat (refine Keep.setCell ?_ _ (.inr (by first | exact .inl rfl | exact .inr rfl)))
        exact Keep.refl _ _
end Go.Proofs.Ytpfibcbeenogiaa
