/- hallmootlaw21: a step of the sleeper, walked. -/
import Derived.Test.YtpfibcbeenogiaaSleepA
namespace Go.Proofs.Ytpfibcbeenogiaa
open Go.RowKit
set_option linter.unusedSimpArgs false
set_option linter.unusedVariables false
set_option maxRecDepth 100000 in
set_option maxHeartbeats 4000000 in
theorem tab_sleep (l : Lay) (t : Tb) (tb : Nat) (s : Sl) (seen : List Sn) (w : World) (hT : w.heap[tb]? = some (.cells (t.with t.vm t.vlog s).cells 87 (0, 0))) (hm : IntsR w t.vm s.cs) (hty : Typed w t.vm) (hlen : s.cs.length ≤ 1048576)
    (hlog : SlR 2 Rs.cells w t.vlog s.log) (htl : TyR 58 w t.vlog) (hln : s.log.length ≤ 1000000) (hseen : SlR 3 Sn.cells w t.seen seen) (hwr : IsSl t.writes) (hdu : IsSl t.durable) :
    Calls Try.prog 69 #[.pointer (some ⟨tb, 0, none⟩), l.v] w (SleepPost t tb w (sleepS l seen s)) := by
  have HM := Lib.hid hm
  have HTY := Lib.hid hty
  have HLEN := Lib.hid hlen
  have HLOG := Lib.hid hlog
  have HTL := Lib.hid htl
  have HLN := Lib.hid hln
  have HSE := Lib.hid hseen
  have HWR := Lib.hid hwr
  have HDU := Lib.hid hdu
  generalize hF : sleepS l seen s = F
  have HF := Lib.hid hF
  clear hF hty hlen hlog htl hln hseen
  have SP : ∀ vm' vlog' wf, Keep (· = tb) w wf → wf.heap[tb]? = some (.cells (t.with vm' vlog' F).cells 87 (0, 0)) → IntsR wf vm' F.cs → Typed wf vm' → SlR 2 Rs.cells wf vlog' F.log → TyR 58 wf vlog' → SleepPost t tb w F (.returned (.tuple #[])) wf :=
    fun vm' vlog' wf h1 h2 h3 h4 h5 h6 => ⟨vm', vlog', rfl, h1, h2, h3, h4, h5, h6⟩
  have SPP := Lib.hid SP
  clear SP
  obtain ⟨vm, vw, tk, a, b, try_, stamp, karma, aborts, sv, wv, dv, vlog, ttold, tbad⟩ := t
  obtain ⟨cs, kind, log, told, bad⟩ := s
  simp only [Tb.with] at HM HTY HLOG HTL HLN HSE HWR HDU hT
  obtain ⟨A, c, rfl, -⟩ := HM.out.out
  obtain ⟨A1, c1, rfl, -⟩ := HLOG.out.out
  obtain ⟨A2, c2, rfl, -⟩ := HSE.out.out
  obtain ⟨A3, n3, c3, rfl⟩ := HWR.out
  obtain ⟨A4, n4, c4, rfl⟩ := HDU.out
  have Lt := Lib.hid hT
  clear hT hm hwr hdu
  have ct := cell_of_heap Lt.out
  have ft := frz_of_heap Lt.out
  have st := lt_of_heap Lt.out
  by_cases h1 : told > 1
  · have hd : decide (told > 1) = true := by simpa using h1
    have HE : Hid (F = ⟨cs, kind, log, told, bad⟩) := Lib.hid (by rw [← HF.out, sleepS, if_pos h1])
    clear h1
    go_enter Try.func69, Try.ntmps69
    go_wp2
    refine bodyPost_ret (v := .tuple #[]) (by simp [results, go_sem]) rfl ?_
    have hB : ∀ ob, Below w.heap.size w (w.alloc ob) := fun _ => blw_alloc (Below.refl _ _) _
    rw [HE.out] at SPP ⊢
    exact SPP.out _ _ _ (Keep.of_below (hB _)) (blk_keep (hB _) (lt_of_heap Lt.out) Lt.out) (HM.out.below (hB _)) (HTY.out.below (hB _)) (HLOG.out.below (hB _)) (HTL.out.below (hB _))
  · have hd : decide (told > 1) = false := by simpa using h1
    generalize hP : stepOf (waitP l 0 kind seen) log = P
    have HE : Hid (F = if P.2.2 then endS ⟨cs, kind, log, told, bad⟩ P.2.1 else accessS ⟨cs, kind, log, told, bad⟩ P.1) := Lib.hid (by rw [← HF.out, sleepS, if_neg h1]; simp only [hP])
    have HP := Lib.hid hP
    obtain ⟨⟨p1, p2, p3, p4, p5⟩, ⟨o1, o2, o3, o4, o5, o6, o7⟩, d⟩ := P
    clear h1 hP HF
    have htlt := lt_of_heap Lt.out
    clear ct ft st
    go_enter Try.func69, Try.ntmps69
    have ct := cell_of_heap Lt.out
    have ft := frz_of_heap Lt.out
    have st := lt_of_heap Lt.out
    go_upto_region 2 with fail
    generalize hW : w.alloc _ = W
    have b_q0 := congrArg (fun u : World => u.heap[w.heap.size]?) hW
    try simp only [] at b_q0
    repeat (first | rw [hd_drew] at b_q0 | rw [hd_drewN] at b_q0 | rw [hs_ne _ _ _ _ _ (by omega)] at b_q0 | rw [ha_lt _ _ _ (by first | omega | (simp only [World.size_alloc, World.size_setCell, World.size_drew]; omega))] at b_q0 | rw [hs_same] at b_q0)
    rw [ha_new _ _ _ (by first | rfl | simp only [World.size_alloc, World.size_setCell, World.size_drew])] at b_q0
    try simp only [Option.map_some, putO, List.setIfInBounds_toArray, List.set_cons_zero, List.set_cons_succ] at b_q0
    have Lq0 := Lib.hid b_q0.symm
    clear b_q0
    have cq0 := cell_of_heap Lq0.out
    have fq0 := frz_of_heap Lq0.out
    have sq0 := lt_of_heap Lq0.out
    have hbw : Below w.heap.size w W := by subst hW; exact blw_alloc (Below.refl _ _) _
    have hws : W.heap.size = w.heap.size + 1 := by subst hW; simp
    clear hW
    have LtW := Lib.hid (blk_keep hbw htlt Lt.out)
    have HBW := Lib.hid hbw
    have hSof : ∀ wa, Below W.heap.size W wa → ((∀ i, wa.cell? ⟨tb, i, none⟩ = (#[.slice A cs.length c, vw, .int .i64 kind, .int .i64 a, .int .i64 b, .int .i64 try_, .int .i64 stamp, .int .i64 karma, .int .i64 aborts, .slice A2 seen.length c2, .slice A3 n3 c3, .slice A4 n4 c4, .slice A1 log.length c1, .int .i64 told, .bool bad] : Array Value)[i]?) ∧ (∀ i, wa.cell? ⟨w.heap.size, i, none⟩ = (#[.int .i64 l.thr, .int .i64 l.locs, .int .i64 l.lks, .int .i64 l.sec, .int .i64 l.man, .int .i64 l.clk, .int .i64 l.stp, .int .i64 l.log, .int .i64 l.fin, .int .i64 l.thd, .int .i64 l.lck, .int .i64 l.loc, .int .i64 l.size] : Array Value)[i]?) ∧ Below W.heap.size W wa) := fun wa h => ⟨cell_of_heap (blk_keep h (by omega) LtW.out), cell_of_heap (blk_keep h (by omega) Lq0.out), h⟩
    have HSof := Lib.hid hSof
    have HWS := Lib.hid hws
    clear hSof hbw cq0 fq0 hws ct ft st
    go_cut [4, 5, 6] from 13 to 26 (fun q4 q5 s6 wx => ∃ (b4 b5 : Nat), q4 = .pointer (some ⟨b4, 0, none⟩) ∧ q5 = .pointer (some ⟨b5, 0, none⟩) ∧ s6 = .bool d ∧ Below W.heap.size W wx ∧
      wx.heap[b4]? = some (.cells #[.int .i64 p1, .int .i64 p2, .int .i64 p3, .int .i64 p4, .string p5] 39 (0, 0)) ∧ wx.heap[b5]? = some (.cells #[.int .i64 o1, .int .i64 o2, .int .i64 o3, .int .i64 o4, .bool o5, .bool o6, .int .i64 o7] 42 (0, 0)) ∧
      W.heap.size ≤ b4 ∧ W.heap.size ≤ b5 ∧ b4 ≠ b5)
    case first =>
      go_region_held3 (fun w' => (∀ i, w'.cell? ⟨tb, i, none⟩ = (#[.slice A cs.length c, vw, .int .i64 kind, .int .i64 a, .int .i64 b, .int .i64 try_, .int .i64 stamp, .int .i64 karma, .int .i64 aborts, .slice A2 seen.length c2, .slice A3 n3 c3, .slice A4 n4 c4, .slice A1 log.length c1, .int .i64 told, .bool bad] : Array Value)[i]?) ∧ (∀ i, w'.cell? ⟨w.heap.size, i, none⟩ = (#[.int .i64 l.thr, .int .i64 l.locs, .int .i64 l.lks, .int .i64 l.sec, .int .i64 l.man, .int .i64 l.clk, .int .i64 l.stp, .int .i64 l.log, .int .i64 l.fin, .int .i64 l.thd, .int .i64 l.lck, .int .i64 l.loc, .int .i64 l.size] : Array Value)[i]?) ∧ Below W.heap.size W w')
        (((try dsimp only); refine HSof.out _ ?_; with_reducible repeat (first | exact Below.refl _ _ | refine blw_alloc ?_ _ | refine blw_drew ?_ | refine blw_set ?_ (by simp only [World.size_alloc]; omega) _ | assumption)))
        ((first
          | (go_at_call 30; refine (wait_Next l 0 ⟨kind, a, b, try_, stamp, karma, aborts, .slice A2 seen.length c2, .slice A3 n3 c3, .slice A4 n4 c4⟩ (.slice A1 log.length c1) log _ (HLOG.out.below (blw_then HBW.out (by with_reducible repeat (first | exact Below.refl _ _ | refine blw_alloc ?_ _ | refine blw_drew ?_)))) seen (HSE.out.below (blw_then HBW.out (by with_reducible repeat (first | exact Below.refl _ _ | refine blw_alloc ?_ _ | refine blw_drew ?_)))) HWR.out HDU.out).mono ?_; rintro e w3 ⟨rfl, hb3⟩; rw [HP.out]
             have hB3 := blw_then (show Below W.heap.size W _ by with_reducible repeat (first | exact Below.refl _ _ | refine blw_alloc ?_ _ | refine blw_drew ?_)) hb3
             have zz3 := hB3.size
             have HB3 := Lib.hid hb3
             (try (have q := tab_keep (b := W.heap.size) hb3 (ha_new _ _ _ rfl); obtain ⟨c30, f30, z30, h30⟩ := q))
             (try (have q := tab_keep (b := W.heap.size) hb3 ((hd_drew _ _).trans (ha_new _ _ _ rfl)); obtain ⟨c30, f30, z30, h30⟩ := q))
             (try (have q := tab_keep (b := W.heap.size) hb3 ((ha_lt _ _ _ (lt_newT _ _)).trans (ha_new _ _ _ rfl)); obtain ⟨c30, f30, z30, h30⟩ := q))
             (try (have q := tab_keep (b := W.heap.size) hb3 ((hd_drew _ _).trans ((ha_lt _ _ _ (lt_newT _ _)).trans (ha_new _ _ _ rfl))); obtain ⟨c30, f30, z30, h30⟩ := q))
             (try (have q := tab_keep (b := W.heap.size + 1) hb3 (ha_new _ _ _ (World.size_alloc _ _).symm); obtain ⟨c31, f31, z31, h31⟩ := q))
             (try (have q := tab_keep (b := W.heap.size + 1) hb3 ((hd_drew _ _).trans (ha_new _ _ _ (World.size_alloc _ _).symm)); obtain ⟨c31, f31, z31, h31⟩ := q)))))
      all_goals (
        have zsz := HB3.out.size
        try simp only [World.size_alloc, World.size_drew] at zsz
        go_wp2_with fail
        go_meet
        case rel =>
          refine ⟨_, _, rfl, rfl, rfl, ?_, ?_, ?_, ?_, ?_, ?_⟩
          · with_reducible repeat (first | exact hB3 | refine blw_alloc ?_ _ | refine blw_drew ?_ | refine blw_set ?_ (by simp only []; omega) _)
          · skip
            repeat (first | rw [hd_drew] | rw [hs_ne _ _ _ _ _ (by omega)] | rw [hs_same] | rw [ha_lt _ _ _ (by first | omega | (simp only [World.size_alloc, World.size_setCell]; omega))])
            first | rw [ha_new _ _ _ (by simp only [World.size_alloc, World.size_setCell])] | rw [h30.out] | rw [h31.out]
            try rfl
          · skip
            repeat (first | rw [hd_drew] | rw [hs_ne _ _ _ _ _ (by omega)] | rw [hs_same] | rw [ha_lt _ _ _ (by first | omega | (simp only [World.size_alloc, World.size_setCell]; omega))])
            first | rw [ha_new _ _ _ (by simp only [World.size_alloc, World.size_setCell])] | rw [h30.out] | rw [h31.out]
            try rfl
          · omega
          · omega
          · omega)
    case rest =>
      obtain ⟨b4, b5, rfl, rfl, rfl, hbx, hb4, hb5, h4, h5, h45⟩ := hcut
      have L4 := Lib.hid hb4
      have L5 := Lib.hid hb5
      have c4' := cell_of_heap hb4
      have c5 := cell_of_heap hb5
      have f4 := frz_of_heap hb4
      have f5 := frz_of_heap hb5
      have s4 := lt_of_heap hb4
      have s5 := lt_of_heap hb5
      have LtX := Lib.hid (blk_keep hbx (by have := HWS.out; omega) LtW.out)
      have ct := cell_of_heap LtX.out
      have ft := frz_of_heap LtX.out
      have st := lt_of_heap LtX.out
      have HBX := Lib.hid (blw_then HBW.out hbx)
      have ntb4 : ¬ tb = b4 := by have := HWS.out; omega
      have ntb5 : ¬ tb = b5 := by have := HWS.out; omega
      have HMX := Lib.hid (HM.out.below HBX.out)
      have HTYX := Lib.hid (HTY.out.below HBX.out)
      have H45 := Lib.hid (And.intro h4 (And.intro h5 h45))
      clear hbx hb4 hb5 h4 h5 h45
      cases d
      · have HLOGX := Lib.hid (HLOG.out.keepT HTL.out (Keep.of_below HBX.out) (X := fun _ => False) (fun _ h => h.elim))
        clear c5 f5 s5
        go_wp2_with fail
        refine (tab_access ⟨.slice A cs.length c, vw, kind, a, b, try_, stamp, karma, aborts, .slice A2 seen.length c2, .slice A3 n3 c3, .slice A4 n4 c4, .slice A1 log.length c1, told, bad⟩ tb ⟨p1, p2, p3, p4, p5⟩ cs wc LtX.out HMX.out HTYX.out HLEN.out).mono ?_
        rintro e w6 ⟨vm6, rfl, hk6, hT6, hI6, hty6⟩
        obtain ⟨R, hR⟩ : ∃ R, R = memDo cs ⟨p1, p2, p3, p4, p5⟩ := ⟨_, rfl⟩
        rw [← hR] at hT6 hI6 ⊢
        generalize hrv : (if R.2.2 = 0 then R.2.1.val else 0) = rv
        generalize hrk : (if R.2.2 = 0 then R.2.1.ok else false) = rk
        generalize hrb : (if R.2.2 = 0 then bad else true) = rb at hT6
        have HRV := Lib.hid (And.intro hR (And.intro hrv (And.intro hrk hrb)))
        have HFE : Hid (F = ⟨R.1, kind, log ++ [⟨rv, rk⟩], told, rb⟩) := by
          refine Lib.hid ?_
          have h := HE.out
          simp only [Bool.false_eq_true, if_false] at h
          exact h.trans (access_fin hR hrv hrk hrb)
        clear hR hrv hrk hrb
        obtain ⟨A6, c6, rfl, -⟩ := hI6.out
        have K6 := Lib.hid hk6
        have T6 := Lib.hid hT6
        have I6 := Lib.hid hI6
        have Y6 := Lib.hid hty6
        clear hk6 hT6 hI6 hty6 ct ft st c4' f4 s4
        go_upto_region 5 with fail
        generalize hW5 : w6.alloc _ = W5
        have b_q7 := congrArg (fun u : World => u.heap[w6.heap.size]?) hW5
        try simp only [] at b_q7
        repeat (first | rw [hd_drew] at b_q7 | rw [hd_drewN] at b_q7 | rw [hs_ne _ _ _ _ _ (by omega)] at b_q7 | rw [ha_lt _ _ _ (by first | omega | (simp only [World.size_alloc, World.size_setCell, World.size_drew]; omega))] at b_q7 | rw [hs_same] at b_q7)
        rw [ha_new _ _ _ (by first | rfl | simp only [World.size_alloc, World.size_setCell, World.size_drew])] at b_q7
        try simp only [Option.map_some, putO, List.setIfInBounds_toArray, List.set_cons_zero, List.set_cons_succ] at b_q7
        have Lq7 := Lib.hid b_q7.symm
        clear b_q7
        have cq7 := cell_of_heap Lq7.out
        have fq7 := frz_of_heap Lq7.out
        have sq7 := lt_of_heap Lq7.out
        have hb5 : Below w6.heap.size w6 W5 := by subst hW5; exact blw_alloc (Below.refl _ _) _
        have hz5 : W5.heap.size = w6.heap.size + 1 := by subst hW5; simp
        clear hW5
        have LtW5 := Lib.hid (blk_keep hb5 (lt_of_heap T6.out) T6.out)
        have HB5 := Lib.hid hb5
        have HZ5 := Lib.hid hz5
        have hlg6 := HLOGX.out.1.keepT HLOGX.out.2 K6.out (by
          rintro b' rfl _ c' fr' e'
          rw [LtX.out] at e'; simp at e')
        have hSof : ∀ wa, Below W5.heap.size W5 wa → ((∀ i, wa.cell? ⟨tb, i, none⟩ = (#[.slice A6 R.1.length c6, vw, .int .i64 kind, .int .i64 a, .int .i64 b, .int .i64 try_, .int .i64 stamp, .int .i64 karma, .int .i64 aborts, .slice A2 seen.length c2, .slice A3 n3 c3, .slice A4 n4 c4, .slice A1 log.length c1, .int .i64 told, .bool rb] : Array Value)[i]?) ∧ (∀ i, wa.cell? ⟨w6.heap.size, i, none⟩ = (#[.int .i64 rv, .bool rk] : Array Value)[i]?) ∧ Below W5.heap.size W5 wa) := fun wa h => ⟨cell_of_heap (blk_keep h (lt_of_heap LtW5.out) LtW5.out), cell_of_heap (blk_keep h (by omega) Lq7.out), h⟩
        have HSof5 := Lib.hid hSof
        have SRC := Lib.hid (fun (wa : World) (h : Below W5.heap.size W5 wa) => SlR.src (enc := Rs.cells) (m := 2) (fun _ => rfl) ((hlg6.1.below hb5).below h))
        obtain ⟨i0, hi0, hz0, hz1, hz2⟩ := info_parts info_rs
        clear hSof hb5 hz5 cq7 fq7 hlg6
        have hfl := flat_len (enc := Rs.cells) (m := 2) (fun _ => rfl) log
        have HFL := Lib.hid hfl
        have hone : ∀ u ∈ log.flatMap Rs.cells, u.oneCell' = true := by
          intro u hu
          obtain ⟨r, -, hr⟩ := List.mem_flatMap.1 hu
          simp [Rs.cells] at hr
          rcases hr with rfl | rfl <;> rfl
        have HONE := Lib.hid hone
        have hlm : log.length ≤ 1000000 := HLN.out
        have HLM1 : Hid (0 + log.length ≤ maxLen) := Lib.hid (by simp only [maxLen]; omega)
        have HLM2 : Hid ((0 + log.length) * 16 ≤ 140737488355328) := Lib.hid (by omega)
        have HLM3 : Hid (log.length + 1 ≤ maxLen) := Lib.hid (by simp only [maxLen]; omega)
        have HLM4 : Hid ((log.length + 1) * 16 ≤ 140737488355328) := Lib.hid (by omega)
        clear hfl hone hlm
        have hs7 := HSof5.out W5 (Below.refl _ _)
        have ct7 := hs7.1
        have cq7 := hs7.2.1
        have ft7 := frz_of_heap LtW5.out
        have st7 := lt_of_heap LtW5.out
        have sq7' := lt_of_heap Lq7.out
        clear hs7
        go_region_law
          ((first
            | (refine step_append_any rfl (.tmp 33) (.tmp 37) 33 rfl W5.heap.size 58 i0 (.agg #[.int .i64 0, .bool false]) 2 16 Try.underlying33 hi0 hz0 hz1 hz2 rfl (by decide) _ 0 [] rfl ?own A1 log.length c1 (log.flatMap Rs.cells) rfl HFL.out ?src HONE.out HLM1.out HLM2.out ?bas log.length (Nat.zero_add _) (log.flatMap Rs.cells) rfl ?_
               case own =>
                 refine ⟨rfl, .inr ⟨_, 0, #[], rfl, ?_, ?_, Nat.le_refl _, Nat.zero_le _, rfl, rfl⟩⟩
                 · first | exact Nat.le_refl _ | omega | (simp only [World.size_alloc]; omega)
                 · first | exact ha_new _ _ _ rfl | exact (ha_lt _ _ _ (lt_newT _ _)).trans (ha_new _ _ _ rfl) | exact ha_new _ _ _ (World.size_alloc _ _).symm
               case src => exact SRC.out _ (by with_reducible repeat (first | exact Below.refl _ _ | refine blw_alloc ?_ _ | refine blw_drew ?_))
               case bas => first | exact Nat.le_refl _ | omega | (simp only [World.size_alloc, World.size_drew]; omega)
               intro A8 c8 w8 hown8 hgrow8 hlow8
               have hB8 := below_grown (show Below W5.heap.size W5 _ by with_reducible repeat (first | exact Below.refl _ _ | refine blw_alloc ?_ _ | refine blw_drew ?_)) hgrow8 hlow8
               have HOWN8 := Lib.hid hown8
               have HGROW8 := Lib.hid hgrow8
               have Z8 := Lib.hid hB8.size
               have ct8 := (HSof5.out _ hB8).1
               have cq8 := (HSof5.out _ hB8).2.1
               clear hown8 hgrow8 hlow8)
            | (refine step_append_any rfl (.tmp 38) (.tmp 40) 33 rfl W5.heap.size 58 i0 (.agg #[.int .i64 0, .bool false]) 2 16 Try.underlying33 hi0 hz0 hz1 hz2 rfl (by decide) _ log.length (log.flatMap Rs.cells) rfl ?own _ 1 1 [.int .i64 rv, .bool rk] rfl rfl ?src ?one HLM3.out HLM4.out ?bas (log.length + 1) rfl (log.flatMap Rs.cells ++ [.int .i64 rv, .bool rk]) rfl ?_
               case own => first | exact HOWN8.out | exact HOWN8.out.alloc _
               case src =>
                 refine .inr ⟨_, rfl, World.news_of_block (cs := #[.int .i64 rv, .bool rk]) (t := 58) (fr := (0, 0)) ?_⟩
                 first
                   | exact ha_new _ _ _ rfl
                   | exact (HGROW8.out.block _ (by first | exact lt_newT _ _ | (simp only [World.size_drew, World.size_alloc]; omega)) (by simp [Act.eval, Value.ownBlock])).trans (ha_new _ _ _ rfl)
                   | exact (HGROW8.out.block _ (by first | exact lt_newT _ _ | (simp only [World.size_drew, World.size_alloc]; omega)) (by simp [Act.eval, Value.ownBlock])).trans (ha_new _ _ _ (World.size_alloc _ _).symm)
                   | exact (HGROW8.out.block _ (by first | exact lt_newT _ _ | (simp only [World.size_drew, World.size_alloc]; omega)) (by simp [Act.eval, Value.ownBlock])).trans ((ha_lt _ _ _ (lt_newT _ _)).trans (ha_new _ _ _ rfl))
               case one => intro u hu; simp at hu; rcases hu with rfl | rfl <;> rfl
               case bas => have := Z8.out; first | exact this | omega | (simp only [World.size_alloc, World.size_drew]; omega)
               intro A9 c9 w9 hown9 hgrow9 hlow9
               have hB9 := below_grown (show Below W5.heap.size W5 _ by with_reducible repeat (first | exact hB8 | refine blw_alloc ?_ _ | refine blw_drew ?_)) hgrow9 hlow9
               have HOWN9 := Lib.hid hown9
               have ct9 := cell_of_heap (blk_keep hB9 (lt_of_heap LtW5.out) LtW5.out)
               have ft9 := frz_of_heap (blk_keep hB9 (lt_of_heap LtW5.out) LtW5.out)
               clear hown9 hgrow9 hlow9)))
        all_goals (
          go_wp2_with fail
          refine bodyPost_ret (v := .tuple #[]) (by simp [results, go_sem]) rfl ?_
          rw [HFE.out]
          have hB69 := blw_then HB5.out hB9
          refine sleep_fin (vl := .slice A1 log.length c1) (vm := .slice A6 R.1.length c6) (cc := cs) (ls := log) (B := W5.heap.size) ?_ ?_ ?_ ?_ HOWN9.out ?_ HLN.out
          · exact ((Keep.of_below HBX.out).trans K6.out).trans (Keep.of_below hB69)
          · exact blk_keep hB9 (lt_of_heap LtW5.out) LtW5.out
          · exact I6.out.below hB69
          · exact Y6.out.below hB69
          · exact lt_of_heap LtW5.out)
      · have FIN : ∀ wf, Keep (· = tb) wc wf → IntsR wf (.slice A cs.length c) cs ∧ Typed wf (.slice A cs.length c) := by
          intro wf hk
          refine ints_keep HMX.out HTYX.out hk ?_
          rintro b' rfl _ c' fr' e'
          rw [LtX.out] at e'; simp at e'
        have FIN := Lib.hid FIN
        have key : ∀ bo bk : Bool, (o7 != 0) = bo → (kind == 5) = bk → True := by intros; trivial
        clear key
        by_cases ho : o7 = 0
        · have bo : (o7 != 0) = false := by simp [ho]
          have HO := Lib.hid ho
          clear ho
          by_cases hk : kind = 5
          · have bk : (kind == 5) = true := by simp [hk]
            have HK := Lib.hid hk
            clear hk
            cases o5
            all_goals (
            go_wp2
            have hFe := HE.out
            have ho := HO.out
            have hk := HK.out
            simp [endS, ho, hk] at hFe
            subst hFe
            refine bodyPost_ret (v := .tuple #[]) (by simp [results, go_sem]) rfl ?_
            refine SPP.out (.slice A cs.length c) (.slice none 0 0) _ ?_ ?_ (FIN.out _ ?_).1 (FIN.out _ ?_).2 (SlR.nil _ _ _) (fun b' hb' => by simp [Value.ownBlock] at hb')
            · with_reducible repeat (refine Keep.setCell ?_ _ (.inr rfl))
              exact Keep.of_below HBX.out
            · repeat rw [hs_same]
              rw [LtX.out]
              first | rfl | (rw [hk]; rfl)
            · with_reducible repeat (refine Keep.setCell ?_ _ (.inr rfl))
              exact Keep.refl _ _
            · with_reducible repeat (refine Keep.setCell ?_ _ (.inr rfl))
              exact Keep.refl _ _
            )
          · have bk : (kind == 5) = false := by simp [hk]
            have HK := Lib.hid hk
            clear hk
            cases o5
            all_goals (
            go_wp2
            have hFe := HE.out
            have ho := HO.out
            have hk := HK.out
            simp [endS, ho, hk] at hFe
            subst hFe
            refine bodyPost_ret (v := .tuple #[]) (by simp [results, go_sem]) rfl ?_
            refine SPP.out (.slice A cs.length c) (.slice none 0 0) _ ?_ ?_ (FIN.out _ ?_).1 (FIN.out _ ?_).2 (SlR.nil _ _ _) (fun b' hb' => by simp [Value.ownBlock] at hb')
            · with_reducible repeat (refine Keep.setCell ?_ _ (.inr rfl))
              exact Keep.of_below HBX.out
            · repeat rw [hs_same]
              rw [LtX.out]
              first | rfl | (rw [hk]; rfl)
            · with_reducible repeat (refine Keep.setCell ?_ _ (.inr rfl))
              exact Keep.refl _ _
            · with_reducible repeat (refine Keep.setCell ?_ _ (.inr rfl))
              exact Keep.refl _ _
            )
        · have bo : (o7 != 0) = true := by simp [ho]
          have HO := Lib.hid ho
          clear ho
          by_cases hk : kind = 5
          · have bk : (kind == 5) = true := by simp [hk]
            have HK := Lib.hid hk
            clear hk
            cases o5
            all_goals (
            go_wp2
            have hFe := HE.out
            have ho := HO.out
            have hk := HK.out
            simp [endS, ho, hk] at hFe
            subst hFe
            refine bodyPost_ret (v := .tuple #[]) (by simp [results, go_sem]) rfl ?_
            refine SPP.out (.slice A cs.length c) (.slice none 0 0) _ ?_ ?_ (FIN.out _ ?_).1 (FIN.out _ ?_).2 (SlR.nil _ _ _) (fun b' hb' => by simp [Value.ownBlock] at hb')
            · with_reducible repeat (refine Keep.setCell ?_ _ (.inr rfl))
              exact Keep.of_below HBX.out
            · repeat rw [hs_same]
              rw [LtX.out]
              first | rfl | (rw [hk]; rfl)
            · with_reducible repeat (refine Keep.setCell ?_ _ (.inr rfl))
              exact Keep.refl _ _
            · with_reducible repeat (refine Keep.setCell ?_ _ (.inr rfl))
              exact Keep.refl _ _
            )
          · have bk : (kind == 5) = false := by simp [hk]
            have HK := Lib.hid hk
            clear hk
            cases o5
            all_goals (
            go_wp2
            have hFe := HE.out
            have ho := HO.out
            have hk := HK.out
            simp [endS, ho, hk] at hFe
            subst hFe
            refine bodyPost_ret (v := .tuple #[]) (by simp [results, go_sem]) rfl ?_
            refine SPP.out (.slice A cs.length c) (.slice none 0 0) _ ?_ ?_ (FIN.out _ ?_).1 (FIN.out _ ?_).2 (SlR.nil _ _ _) (fun b' hb' => by simp [Value.ownBlock] at hb')
            · with_reducible repeat (refine Keep.setCell ?_ _ (.inr rfl))
              exact Keep.of_below HBX.out
            · repeat rw [hs_same]
              rw [LtX.out]
              first | rfl | (rw [hk]; rfl)
            · with_reducible repeat (refine Keep.setCell ?_ _ (.inr rfl))
              exact Keep.refl _ _
            · with_reducible repeat (refine Keep.setCell ?_ _ (.inr rfl))
              exact Keep.refl _ _
            )
end Go.Proofs.Ytpfibcbeenogiaa
