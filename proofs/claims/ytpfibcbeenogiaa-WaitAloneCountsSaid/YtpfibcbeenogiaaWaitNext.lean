/- Package wait, walked: may, Next. -/
import Derived.Test.YtpfibcbeenogiaaWatch
import Derived.Great.BuildSlice
import Derived.Great.Walk
import Derived.Deep.CutRange
namespace Go.Proofs.Ytpfibcbeenogiaa
open Go.RowKit
set_option linter.unusedSimpArgs false
set_option linter.unusedVariables false
def noWord (l : Lay) (x : Sn) : Bool := decide (cellP l.loc l.locs x.loc 4 0 < 0)
def mayB (l : Lay) (me kind : Int) (seen : List Sn) : Bool := decide (kind = 5 ∨ kind = 6) && (decide (0 ≤ cellP l.thd l.thr me 4 0) && !seen.any (noWord l))
theorem contains_ret (f : Sn → Bool) (log : List Rs) (k : Nat) : ∀ xs : List Sn, containsM (fun x => M.ret (f x)) xs log k = .ok (xs.any f, k)
  | [] => rfl
  | x :: xs => by
    cases h : f x
    · simp [containsM, M.bind, M.ret, h, contains_ret f log k xs]
    · simp [containsM, M.bind, M.ret, h]
theorem wait_may1 (l : Lay) (x : Sn) (lb : Nat) (k : Nat) (W : World) (hl : W.heap[lb]? = some (.cells l.cells 25 (0, 0))) :
    Calls Try.prog 87 #[.agg #[.int .i64 x.loc, .int .i64 x.ver, .int .i64 x.val], .pointer (some ⟨lb, 0, none⟩)] W
      (Went (fun _ => False) W [] k (M.ret (noWord l x)) (fun b => .bool b) (fun _ W => W.heap[lb]? = some (.cells l.cells 25 (0, 0))) (fun _ => False)) := by
  have Ll := Lib.hid hl
  have cl := cell_of_heap hl
  have sl := lt_of_heap hl
  clear hl
  go_enter Try.func87, Try.ntmps87
  go_wp2_with fail
  refine (lay_Word l x.loc _).mono ?_
  rintro e w1 ⟨rfl, hb⟩
  have HB := Lib.hid (blw_then (blw_alloc (Below.refl _ _) _) hb)
  have Ll1 := Lib.hid ((HB.out.block _ sl).trans Ll.out)
  clear hb cl sl
  go_wp2
  go_ret
  exact ⟨Keep.of_below HB.out, .inl ⟨_, k, rfl, rfl, Ll1.out⟩⟩
theorem enters_may1 (args : Array Value) (w : World) : (callFunc 87 args).run Try.prog w = .ok (.enter 87 args) w := by simp [go_sem]
set_option maxHeartbeats 1000000 in
theorem wait_may (l : Lay) (me : Int) (o : OpV) (seen : List Sn) (w : World) (hseen : SlR 3 Sn.cells w o.seen seen) (hwr : IsSl o.writes) (hdu : IsSl o.durable) :
    Calls Try.prog 61 #[l.v, .int .i64 me, .agg o.cells] w fun e w' => e = .returned (.bool (mayB l me o.kind seen)) ∧ Below w.heap.size w w' := by
  have HSN := Lib.hid hseen
  obtain ⟨A0, c0, hs0, -⟩ := hseen.out
  obtain ⟨A1, n1, c1, hw1⟩ := hwr
  obtain ⟨A2, n2, c2, hd2⟩ := hdu
  clear hseen
  obtain ⟨kind, a, b, try_, stamp, karma, aborts, sv, wv, dv⟩ := o
  simp only at hs0 hw1 hd2 HSN
  subst hs0 hw1 hd2
  have hmf : ∀ (fn : Fn) (first cap : Array Value) (w : World), (Instr.makeFunc fn first cap).run Try.prog w = .ok (.func fn first cap) w := fun _ _ _ _ => rfl
  have hnot : ∀ (x : Bool) (w : World), (Op.unary .not (.bool x)).run Try.prog w = .ok (.bool (!x)) w := fun _ _ => rfl
  by_cases hk : kind = 5 ∨ kind = 6
  · have hm : mayB l me kind seen = (decide (0 ≤ cellP l.thd l.thr me 4 0) && !seen.any (noWord l)) := by simp [mayB, hk]
    simp only [hm]
    have key : ∀ b5 b6 : Bool, (kind == 5) = b5 → (kind == 6) = b6 → (b5 || b6) = true → Calls Try.prog 61 #[l.v, .int .i64 me, .agg (OpV.cells ⟨kind, a, b, try_, stamp, karma, aborts, .slice A0 seen.length c0, .slice A1 n1 c1, .slice A2 n2 c2⟩)] w fun e w' => e = .returned (.bool (decide (0 ≤ cellP l.thd l.thr me 4 0) && !seen.any (noWord l))) ∧ Below w.heap.size w w' := by
      intro b5 b6 h5 h6 h56
      clear hm hk
      have h56' := Lib.hid h56
      clear h56
      cases b5 <;> cases b6
      · have := h56'.out
        cases this
      all_goals
        clear h56'
        go_enter Try.func61, Try.ntmps61
        go_wp2_with fail
        refine (lay_Status l me _).mono ?_
        rintro e w1 ⟨rfl, hb⟩
        have ba0 := hb.block (w.heap.size) (by simp only [World.size_alloc, World.size_setCell]; omega)
        repeat (first | rw [hs_ne _ _ _ _ _ (by omega)] at ba0 | rw [ha_lt _ _ _ (by simp only [World.size_alloc, World.size_setCell]; omega)] at ba0 | rw [hs_same] at ba0 | rw [hd_drew] at ba0)
        rw [ha_new _ _ _ (by simp only [World.size_alloc, World.size_setCell])] at ba0
        try simp only [Option.map_some, putO, List.setIfInBounds_toArray, List.set_cons_zero, List.set_cons_succ] at ba0
        have Ba0 := Lib.hid ba0
        clear ba0
        have ba1 := hb.block (w.heap.size + 1) (by simp only [World.size_alloc, World.size_setCell]; omega)
        repeat (first | rw [hs_ne _ _ _ _ _ (by omega)] at ba1 | rw [ha_lt _ _ _ (by simp only [World.size_alloc, World.size_setCell]; omega)] at ba1 | rw [hs_same] at ba1 | rw [hd_drew] at ba1)
        rw [ha_new _ _ _ (by simp only [World.size_alloc, World.size_setCell])] at ba1
        try simp only [Option.map_some, putO, List.setIfInBounds_toArray, List.set_cons_zero, List.set_cons_succ] at ba1
        have Ba1 := Lib.hid ba1
        clear ba1
        have ca0 : ∀ i, w1.cell? ⟨w.heap.size, i, none⟩ = _ := cell_of_heap Ba0.out
        have fa0 : ∀ i, w1.frozen? ⟨w.heap.size, i, none⟩ = false := fun i => by simp [World.frozen?, Ba0.out]
        have ca1 : ∀ i, w1.cell? ⟨w.heap.size + 1, i, none⟩ = _ := cell_of_heap Ba1.out
        have fa1 : ∀ i, w1.frozen? ⟨w.heap.size + 1, i, none⟩ = false := fun i => by simp [World.frozen?, Ba1.out]
        have Q1 := Lib.hid (blw_then (w := w) (by with_reducible repeat (first | exact Below.refl _ _ | refine blw_alloc ?_ _ | refine blw_drew ?_)) hb)
        have zQ1 := hb.size
        simp only [World.size_alloc, World.size_setCell] at zQ1
        clear hb
        cases hst : decide (0 ≤ cellP l.thd l.thr me 4 0)
        · have HST := Lib.hid hst
          go_wp2
          go_ret
          exact ⟨congrArg (fun b => Ending.returned (.bool b)) (by rw [HST.out]; rfl), Q1.out⟩
        · go_wp2_with fail
          refine (sl_Contains 87 (.pointer (some ⟨w.heap.size, 0, none⟩)) (fun x => M.ret (noWord l x)) (fun _ => False) (fun _ W => W.heap[w.heap.size]? = some (.cells l.cells 25 (0, 0))) (fun _ => False) [] _ seen 0 w1
            (HSN.out.below Q1.out) (fun _ _ _ h => h) enters_may1 (fun x _ k W hSt => wait_may1 l x w.heap.size k W hSt) Ba0.out).mono ?_
          rintro e w2 ⟨hK, ⟨bb, k', hj, rfl, hSt⟩ | ⟨x, hx, _⟩⟩
          · have HB2 := Lib.hid (blw_then Q1.out hK.below)
            have hbb : bb = seen.any (noWord l) := by
              rw [contains_ret] at hj
              simp only [Except.ok.injEq, Prod.mk.injEq] at hj
              exact hj.1.symm
            subst hbb
            have HST := Lib.hid hst
            clear hK hj hSt hst
            go_wp2
            go_ret
            exact ⟨congrArg (fun b => Ending.returned (.bool b)) (by rw [HST.out]; rfl), HB2.out⟩
          · rw [contains_ret] at hx
            cases hx
    refine key _ _ rfl rfl ?_
    rcases hk with rfl | rfl <;> rfl
  · have hm : mayB l me kind seen = false := by simp [mayB, hk]
    simp only [hm]
    have h5 : (kind == 5) = false := by simp; omega
    have h6 : (kind == 6) = false := by simp; omega
    clear hm hk
    go_enter Try.func61, Try.ntmps61
    go_wp2
    go_ret
    exact ⟨rfl, by with_reducible repeat (first | exact Below.refl _ _ | refine blw_alloc ?_ _)⟩
def waitP (l : Lay) (me kind : Int) (seen : List Sn) : M Ou := if mayB l me kind seen then (if kind = 5 then watchM l me seen else sleepM l me seen).map outIs else M.ret (outErr 1)
set_option maxRecDepth 100000 in
set_option maxHeartbeats 2000000 in
theorem wnext1 (l : Lay) (me : Int) (o : OpV) (seen : List Sn) (ba bl pl po pm : Nat) (atv vlog : Value) (log : List Rs) (w : World) (hD : DoAt w ba bl vlog log 0)
    (hseen : SlR 3 Sn.cells w o.seen seen) (hwr : IsSl o.writes) (hdu : IsSl o.durable) (hsep : seen ≠ [] → ∀ b, o.seen.ownBlock = some b → ¬ b = ba)
    (hl : w.heap[pl]? = some (.cells l.cells 25 (0, 0))) (ho : w.heap[po]? = some (.cells o.cells 32 (0, 0))) (hm : w.heap[pm]? = some (.cells #[.int .i64 me] 3 (0, 0))) :
    Calls Try.prog 60 #[doV ba bl, atv, .pointer (some ⟨pl, 0, none⟩), .pointer (some ⟨pm, 0, none⟩), .pointer (some ⟨po, 0, none⟩)] w (Runs w ba log 0 (waitP l me o.kind seen) Ou.v) := by
  have HSN := Lib.hid hseen
  have HWR := Lib.hid hwr
  have HDU := Lib.hid hdu
  have HSEP := Lib.hid hsep
  have HD := Lib.hid hD
  obtain ⟨A0, c0, hs0, -⟩ := hseen.out
  obtain ⟨A1, n1, c1, hw1⟩ := hwr
  obtain ⟨A2, n2, c2, hd2⟩ := hdu
  clear hD hseen hsep
  obtain ⟨kind, a, b, try_, stamp, karma, aborts, sv, wv, dv⟩ := o
  simp only at hs0 hw1 hd2 HSN HWR HDU HSEP
  subst hs0 hw1 hd2
  have Ll := Lib.hid hl
  have Lo := Lib.hid ho
  have Lm := Lib.hid hm
  clear hl ho hm
  have cl := cell_of_heap Ll.out
  have fl := frz_of_heap Ll.out
  have sl := lt_of_heap Ll.out
  have co := cell_of_heap Lo.out
  have fo := frz_of_heap Lo.out
  have so := lt_of_heap Lo.out
  have cm := cell_of_heap Lm.out
  have fm := frz_of_heap Lm.out
  have sm := lt_of_heap Lm.out
  have hba := HD.out.lt
  go_enter Try.func60, Try.ntmps60
  go_wp2_with fail
  generalize hW : w.alloc _ = W1
  have b_r := congrArg (fun u : World => u.heap[w.heap.size]?) hW
  try simp only [] at b_r
  repeat (first | rw [hd_drew] at b_r | rw [hs_ne _ _ _ _ _ (by omega)] at b_r | rw [ha_lt _ _ _ (by first | omega | (simp only [World.size_alloc, World.size_setCell, World.size_drew]; omega))] at b_r | rw [hs_same] at b_r)
  rw [ha_new _ _ _ (by first | rfl | simp only [World.size_alloc, World.size_setCell, World.size_drew])] at b_r
  try simp only [Option.map_some, putO, List.setIfInBounds_toArray, List.set_cons_zero, List.set_cons_succ] at b_r
  have Lr := Lib.hid b_r.symm
  clear b_r
  have cr := cell_of_heap Lr.out
  have fr := frz_of_heap Lr.out
  have sr := lt_of_heap Lr.out
  have hb1 : Below w.heap.size w W1 := by rw [← hW]; exact blw_alloc (Below.refl _ _) _
  clear hW
  generalize hsb : w.heap.size = rb at *
  have HSB := Lib.hid hsb
  clear hsb
  refine (wait_may l me ⟨kind, a, b, try_, stamp, karma, aborts, .slice A0 seen.length c0, .slice A1 n1 c1, .slice A2 n2 c2⟩ seen W1 (HSN.out.below (by rw [HSB.out]; exact hb1)) HWR.out HDU.out).mono ?_
  rintro e w2 ⟨rfl, hb2⟩
  have HB2 := Lib.hid (show Below w.heap.size w w2 from blw_then (by rw [HSB.out]; exact hb1) hb2)
  replace Lr := Lib.hid ((hb2.block _ sr).trans Lr.out)
  replace Ll := Lib.hid ((HB2.out.block _ (lt_of_heap Ll.out)).trans Ll.out)
  replace Lo := Lib.hid ((HB2.out.block _ (lt_of_heap Lo.out)).trans Lo.out)
  replace Lm := Lib.hid ((HB2.out.block _ (lt_of_heap Lm.out)).trans Lm.out)
  clear hb1 hb2 cl fl sl co fo so cm fm sm cr fr sr
  have hrb : ¬ rb = ba := by omega
  have hnot : ∀ (x : Bool) (w : World), (Op.unary .not (.bool x)).run Try.prog w = .ok (.bool (!x)) w := fun _ _ => rfl
  have HD2 := Lib.hid (HD.out.stay HB2.out)
  have HSN2 := Lib.hid (HSN.out.below HB2.out)
  cases hmb : mayB l me kind seen
  · have HMB := Lib.hid hmb
    clear hmb
    have cr := cell_of_heap Lr.out
    have fr := frz_of_heap Lr.out
    have sr := lt_of_heap Lr.out
    go_wp2
    refine bodyPost_ret (v := (outErr 1).v) (by simp [results, go_sem, cr, fr, outErr]) rfl ?_
    refine Runs.close (k1 := 0) (by simp [waitP, HMB.out, M.ret]) ?_ (Nat.zero_le _) ?_
    · with_reducible repeat (refine Keep.setCell ?_ _ (.inl (by simp only []; rw [HSB.out]; exact Nat.le_refl _)))
      exact Keep.of_below HB2.out
    · simp only [hs_ne _ rb ba _ _ hrb]; exact HD2.out.at_
  · have HMB := Lib.hid hmb
    clear hmb
    have cl := cell_of_heap Ll.out
    have fl := frz_of_heap Ll.out
    have sl := lt_of_heap Ll.out
    have cm := cell_of_heap Lm.out
    have fm := frz_of_heap Lm.out
    have sm := lt_of_heap Lm.out
    have co := cell_of_heap Lo.out
    have fo := frz_of_heap Lo.out
    have so := lt_of_heap Lo.out
    have cr := cell_of_heap Lr.out
    have fr := frz_of_heap Lr.out
    have sr := lt_of_heap Lr.out
    go_upto_region 3 with fail
    rename_i K0 hK0
    apply wp_region_lit
    refine Great.wpList_readTo rfl (some 15) rfl (doV ba bl) (by rfl) ?_
    refine wpList_load_row rfl 25 _ rfl pl rfl _ l.cells _ _ Ll.out Try.underlying25 rfl (by kernel_rfl) ?_
    refine Great.wpList_readTo rfl (some 17) rfl (.int .i64 me) (by simp [go_sem, cm, fm]) ?_
    refine wpList_load_row rfl 32 _ rfl po rfl _ _ _ _ Lo.out Try.underlying32 rfl (by kernel_rfl) ?_
    refine wpList_buildTo rfl 114 _ rfl (some 19) rfl (slpC ba bl l me ⟨kind, a, b, try_, stamp, karma, aborts, .slice A0 seen.length c0, .slice A1 n1 c1, .slice A2 n2 c2⟩) (by kernel_rfl) ?_
    refine Great.wpList_allocTo rfl (some 8) rfl (.pointer (some ⟨w2.heap.size, 0, none⟩)) _ (by rfl) ?_
    refine wpList_store_rowTo rfl _ _ _ rfl rfl w2.heap.size (slpC ba bl l me ⟨kind, a, b, try_, stamp, karma, aborts, .slice A0 seen.length c0, .slice A1 n1 c1, .slice A2 n2 c2⟩) rfl (by kernel_rfl) _ _ (ha_new _ _ _ rfl) (by kernel_rfl) rfl (by kernel_rfl) ?_
    apply wpList_nil
    refine hK0 _ _ ?_
    clear hK0 K0
    generalize hW3 : World.setRow _ _ _ = W3
    have hb3 : Below w2.heap.size w2 W3 := by rw [← hW3]; exact below_setRow (blw_alloc (Below.refl _ _) _) (Nat.le_refl _) _
    have Ls : Hid (W3.heap[w2.heap.size]? = some (.cells (slpC ba bl l me ⟨kind, a, b, try_, stamp, karma, aborts, .slice A0 seen.length c0, .slice A1 n1 c1, .slice A2 n2 c2⟩) 114 (0, 0))) := by rw [← hW3]; exact Lib.hid (setRow_heap _ _ _ _ _ _ (ha_new _ _ _ rfl))
    clear hW3
    replace Lr := Lib.hid ((hb3.block _ sr).trans Lr.out)
    replace Lo := Lib.hid ((hb3.block _ so).trans Lo.out)
    have HB3 := Lib.hid (blw_then HB2.out hb3)
    have HD3 := Lib.hid (HD.out.stay HB3.out)
    have HSN3 := Lib.hid (HSN.out.below HB3.out)
    have hsep3 := Lib.hid HSEP.out
    generalize hsz2 : w2.heap.size = sb at *
    clear hsz2 cl fl sl co fo so cm fm sm cr fr sr hb3 HD2 HSN2 HB2 Ll Lm
    have co := cell_of_heap Lo.out
    have fo := frz_of_heap Lo.out
    have so := lt_of_heap Lo.out
    by_cases h5 : kind = 5
    · have b5 : (kind == 5) = true := by simp [h5]
      have H5 := Lib.hid h5
      clear h5
      go_upto_region 5 with fail
      rename_i K0 hK0
      apply wp_region_lit
      refine wpList_load_row rfl 114 _ rfl sb rfl _ _ _ _ Ls.out Try.underlying114 rfl (by kernel_rfl) ?_
      go_wp2_with fail
      refine (wait_watch l me ⟨kind, a, b, try_, stamp, karma, aborts, .slice A0 seen.length c0, .slice A1 n1 c1, .slice A2 n2 c2⟩ ba bl _ log seen 0 W3 HD3.out HSN3.out HWR.out HDU.out hsep3.out).mono ?_
      intro e w4 hR
      obtain ⟨hK4, ⟨u, k1, h1, rfl, h3, h4⟩ | ⟨y, k1, h1, rfl, h3, h4⟩⟩ := hR
      · have H1 := Lib.hid h1
        have H3 := Lib.hid h3
        have H4 := Lib.hid h4
        have HK := Lib.hid ((Keep.of_below HB3.out).trans hK4)
        replace Lr := Lib.hid ((hK4.block _ (lt_of_heap Lr.out) hrb).trans Lr.out)
        clear h1 h3 h4 hK4
        have cr := cell_of_heap Lr.out
        have fr := frz_of_heap Lr.out
        have sr := lt_of_heap Lr.out
        go_wp2
        refine bodyPost_ret (v := (outIs u).v) (by simp [results, go_sem, cr, fr, outIs]) rfl ?_
        refine Runs.close (k1 := k1) ?_ ?_ H3.out ?_
        · rw [waitP, HMB.out, if_pos rfl, if_pos H5.out, M.map, M.bind, H1.out]; rfl
        · with_reducible repeat (refine Keep.setCell ?_ _ (.inl (by simp only []; rw [HSB.out]; exact Nat.le_refl _)))
          exact HK.out
        · simp only [hs_ne _ rb ba _ _ hrb]; exact H4.out
      · have H1 := Lib.hid h1
        have H3 := Lib.hid h3
        have H4 := Lib.hid h4
        have HK := Lib.hid ((Keep.of_below HB3.out).trans hK4)
        clear h1 h3 h4 hK4
        go_wp2_with fail
        refine ⟨rfl, Runs.halt (k1 := k1) ?_ HK.out H3.out H4.out⟩
        rw [waitP, HMB.out, if_pos rfl, if_pos H5.out, M.map, M.bind, H1.out]
    · have b5 : (kind == 5) = false := by simp [h5]
      have H5 := Lib.hid h5
      clear h5
      go_upto_region 6 with fail
      rename_i K0 hK0
      apply wp_region_lit
      refine wpList_load_row rfl 114 _ rfl sb rfl _ _ _ _ Ls.out Try.underlying114 rfl (by kernel_rfl) ?_
      go_wp2_with fail
      refine (wait_sleep l me ⟨kind, a, b, try_, stamp, karma, aborts, .slice A0 seen.length c0, .slice A1 n1 c1, .slice A2 n2 c2⟩ ba bl _ log seen 0 W3 HD3.out HSN3.out HWR.out HDU.out hsep3.out).mono ?_
      intro e w4 hR
      obtain ⟨hK4, ⟨u, k1, h1, rfl, h3, h4⟩ | ⟨y, k1, h1, rfl, h3, h4⟩⟩ := hR
      · have H1 := Lib.hid h1
        have H3 := Lib.hid h3
        have H4 := Lib.hid h4
        have HK := Lib.hid ((Keep.of_below HB3.out).trans hK4)
        replace Lr := Lib.hid ((hK4.block _ (lt_of_heap Lr.out) hrb).trans Lr.out)
        clear h1 h3 h4 hK4
        have cr := cell_of_heap Lr.out
        have fr := frz_of_heap Lr.out
        have sr := lt_of_heap Lr.out
        go_wp2
        refine bodyPost_ret (v := (outIs u).v) (by simp [results, go_sem, cr, fr, outIs]) rfl ?_
        refine Runs.close (k1 := k1) ?_ ?_ H3.out ?_
        · rw [waitP, HMB.out, if_pos rfl, if_neg H5.out, M.map, M.bind, H1.out]; rfl
        · with_reducible repeat (refine Keep.setCell ?_ _ (.inl (by simp only []; rw [HSB.out]; exact Nat.le_refl _)))
          exact HK.out
        · simp only [hs_ne _ rb ba _ _ hrb]; exact H4.out
      · have H1 := Lib.hid h1
        have H3 := Lib.hid h3
        have H4 := Lib.hid h4
        have HK := Lib.hid ((Keep.of_below HB3.out).trans hK4)
        clear h1 h3 h4 hK4
        go_wp2_with fail
        refine ⟨rfl, Runs.halt (k1 := k1) ?_ HK.out H3.out H4.out⟩
        rw [waitP, HMB.out, if_pos rfl, if_neg H5.out, M.map, M.bind, H1.out]
end Go.Proofs.Ytpfibcbeenogiaa
