/- hallmootlaw21: a step of a writer, walked. -/
import Derived.Test.YtpfibcbeenogiaaWriteA
import Derived.BigQuiet
namespace Go.Proofs.Ytpfibcbeenogiaa
open Go.RowKit
set_option linter.unusedSimpArgs false
set_option linter.unusedVariables false
set_option maxRecDepth 100000 in
set_option maxHeartbeats 4000000 in
theorem tab_write2 (l : Lay) (t : Tb) (tb wb n i : Nat) (xs : List Int) (s : Ws) (vr : Value) (C : Array Value) (vseen vwant vturns : Value) (w : World) (hne : tb ≠ wb)
    (hT : w.heap[tb]? = some (.cells { t with vw := .slice (some ⟨wb, 0, none⟩) n n, bad := s.bad }.cells 87 (0, 0)))
    (hW : w.heap[wb]? = some (.cells C 138 (0, 0))) (hCs : i * 4 + 4 ≤ C.size)
    (hc0 : C[i * 4]? = some (.int .i64 s.wr.nxt)) (hc1 : C[i * 4 + 1]? = some (.int .i64 s.wr.at_)) (hc2 : C[i * 4 + 2]? = some (.int .i64 s.wr.ver)) (hc3 : C[i * 4 + 3]? = some vr)
    (hr : SlR 5 Acc.cells w vr s.wr.rouse) (hrt : TyR 39 w vr)
    (hm : IntsR w t.vm s.cs) (hty : Typed w t.vm) (hlen : s.cs.length ≤ 1048576)
    (hp : WantI w vwant n i xs) (hnx : (xs.length : Int) ≤ 1000000) (hnat : n ≤ 1000000) (hat : s.wr.at_ = 2) (h1 : 1 ≤ s.wr.nxt) (h2 : s.wr.nxt ≤ (xs.length : Int)) :
    Calls Try.prog 70 #[.pointer (some ⟨tb, 0, none⟩), l.v, .agg #[vseen, vwant, vturns], .int .i64 (i : Int)] w (WritePost { t with vw := .slice (some ⟨wb, 0, none⟩) n n, bad := s.bad } tb wb (i * 4) C w (writeS l xs (i : Int) s)) := by
  obtain ⟨vm, vw, tk, a, b', try_, stamp, karma, aborts, sv, wv, dv, vlog, told, tbad⟩ := t
  obtain ⟨cs, bad, nxt, at_, ver, rouse⟩ := s
  obtain ⟨b, o, c, v', rfl, hi, hv', hbl, hxs, hu8⟩ := hp
  obtain ⟨A2, c2, rfl, -, -, hx2⟩ := hxs.one
  simp only at *
  obtain ⟨k, hk⟩ : ∃ k : Nat, nxt = (k : Int) + 1 := ⟨(nxt - 1).toNat, by omega⟩
  have hkl : k < xs.length := by omega
  obtain ⟨b2, o2, rfl, hb2, hx3⟩ := hx2 (by intro e; subst e; simp at hkl)
  have hxk := hx3 k _ (List.getElem?_eq_getElem hkl)
  have hu := hu8 _ (List.getElem_mem hkl)
  have hwl : wantLoc xs (k : Int) = xs[k] % 3 := by
    rw [wantLoc, Int.toNat_natCast, List.getD_eq_getElem?_getD, List.getElem?_eq_getElem hkl, Option.getD_some, Int.tmod_eq_emod_of_nonneg hu.1]
  generalize xs[k] = x at hxk hu hwl
  obtain ⟨A, c1, rfl, -⟩ := hm.out
  obtain ⟨A4, c4, rfl, -⟩ := hr.out
  subst hk
  have HM := Lib.hid hm
  have HTY := Lib.hid hty
  have HLEN := Lib.hid hlen
  have HR := Lib.hid hr
  have HRT := Lib.hid hrt
  have Lt := Lib.hid hT
  have Lw := Lib.hid hW
  have C0 := Lib.hid hc0
  have C1 := Lib.hid hc1
  have C2 := Lib.hid hc2
  have C3 := Lib.hid hc3
  have HCS := Lib.hid hCs
  have ct := cell_of_heap hT
  have ft := frz_of_heap hT
  have st := lt_of_heap hT
  have cw0 := (cell_of_heap hW (i * 4)).trans hc0
  have cw1 := (cell_of_heap hW (i * 4 + 1)).trans hc1
  have cw2 := (cell_of_heap hW (i * 4 + 2)).trans hc2
  have cw3 := (cell_of_heap hW (i * 4 + 3)).trans hc3
  have fw := frz_of_heap hW
  have sw := lt_of_heap hW
  have hxl : (xs.length : Int) ≤ 1000000 := hnx
  have hcv : wrap64 x = x := by unfold wrap64; omega
  have hin : (i : Int) < (n : Int) := by omega
  have hkn : (k : Int) < (xs.length : Int) := by omega
  have hk1 : wrap64 ((k : Int) + 1 - 1) = (k : Int) := by unfold wrap64; omega
  have HXK := Lib.hid hwl
  have HN := Lib.hid hnat
  have HKN := Lib.hid (And.intro hkn hxl)
  clear hnat hT hW hc0 hc1 hc2 hc3 hm hty hlen hr hrt hxs hx2 hx3 hu8 hnx hwl hCs
  subst hat
  go_enter Try.func70, Try.ntmps70
  go_wp2_with fail
  go_quiet (fail)
  go_wp2_with fail
  go_quiet (fail)
  go_wp2_with fail
  generalize hWd : World.drewN _ _ = W
  have b_q0 := congrArg (fun u : World => u.heap[w.heap.size]?) hWd
  try simp only [] at b_q0
  repeat (first | rw [hd_drew] at b_q0 | rw [hd_drewN] at b_q0 | rw [hs_ne _ _ _ _ _ (by omega)] at b_q0 | rw [ha_lt _ _ _ (by first | omega | (simp only [World.size_alloc, World.size_setCell, World.size_drew]; omega))] at b_q0 | rw [hs_same] at b_q0)
  rw [ha_new _ _ _ (by first | rfl | simp only [World.size_alloc, World.size_setCell, World.size_drew])] at b_q0
  try simp only [Option.map_some, putO, List.setIfInBounds_toArray, List.set_cons_zero, List.set_cons_succ] at b_q0
  have Lq0 := Lib.hid b_q0.symm
  clear b_q0
  have cq0 := cell_of_heap Lq0.out
  have fq0 := frz_of_heap Lq0.out
  have sq0 := lt_of_heap Lq0.out
  have hbw : Below w.heap.size w W := by subst hWd; exact blw_drewN (blw_alloc (blw_alloc (Below.refl _ _) _) _) _
  clear hWd
  refine (ref_Word l (x % 3) W).mono ?_
  rintro e w1 ⟨rfl, hb1⟩
  have HB1 := Lib.hid (blw_then hbw hb1)
  replace Lq0 := Lib.hid ((hb1.block _ (lt_of_heap Lq0.out)).trans Lq0.out)
  replace cq0 := cell_of_heap Lq0.out
  replace fq0 := frz_of_heap Lq0.out
  replace sq0 := lt_of_heap Lq0.out
  replace Lt := Lib.hid (blk_keep HB1.out st Lt.out)
  replace Lw := Lib.hid (blk_keep HB1.out sw Lw.out)
  replace HM := Lib.hid (HM.out.below HB1.out)
  replace HTY := Lib.hid (HTY.out.below HB1.out)
  replace HR := Lib.hid (HR.out.below HB1.out)
  replace HRT := Lib.hid (HRT.out.below HB1.out)
  replace ct := cell_of_heap Lt.out
  replace ft := frz_of_heap Lt.out
  replace cw0 := (cell_of_heap Lw.out (i * 4)).trans C0.out
  replace cw1 := (cell_of_heap Lw.out (i * 4 + 1)).trans C1.out
  replace cw2 := (cell_of_heap Lw.out (i * 4 + 2)).trans C2.out
  replace cw3 := (cell_of_heap Lw.out (i * 4 + 3)).trans C3.out
  replace fw := frz_of_heap Lw.out
  have st1 := lt_of_heap Lt.out
  have sw1 := lt_of_heap Lw.out
  clear hb1 hbw
  go_wp2_with fail
  refine (tab_access ⟨.slice A cs.length c1, .slice (some ⟨wb, 0, none⟩) n n, tk, a, b', try_, stamp, karma, aborts, sv, wv, dv, vlog, told, bad⟩ tb ⟨4, l.clk, 0, 1, ⟨#[]⟩⟩ cs _ Lt.out HM.out HTY.out HLEN.out).mono ?_
  rintro e w2 ⟨vm2, rfl, hk2, hT2, hI2, hty2⟩
  obtain ⟨R, hR⟩ : ∃ R, R = memDo cs ⟨4, l.clk, 0, 1, ⟨#[]⟩⟩ := ⟨_, rfl⟩
  rw [← hR] at hT2 hI2 ⊢
  generalize hrv : (if R.2.2 = 0 then R.2.1.val else 0) = rv
  generalize hrk : (if R.2.2 = 0 then R.2.1.ok else false) = rk
  generalize hrb : (if R.2.2 = 0 then bad else true) = rb at hT2
  have HAC := Lib.hid (acc_parts hR hrv hrk hrb)
  clear hR hrv hrk hrb
  have K2 := Lib.hid ((Keep.of_below (X := (· = tb)) HB1.out).trans hk2)
  have T2 := Lib.hid hT2
  have I2 := Lib.hid hI2
  have Y2 := Lib.hid hty2
  have W2 := Lib.hid ((hk2.block wb sw1 (fun e => hne e.symm)).trans Lw.out)
  have R2 := Lib.hid (HR.out.keepT HRT.out hk2 (by
    rintro b' rfl _ c' fr' e'
    rw [Lt.out] at e'; simp at e'))
  have Lq2 := Lib.hid ((hk2.block w.heap.size sq0 (by omega)).trans Lq0.out)
  have cq2 := cell_of_heap Lq2.out
  have fq2 := frz_of_heap Lq2.out
  have sq2 := lt_of_heap Lq2.out
  clear cq0 fq0 sq0
  replace cw0 := (cell_of_heap W2.out (i * 4)).trans C0.out
  replace cw1 := (cell_of_heap W2.out (i * 4 + 1)).trans C1.out
  replace cw2 := (cell_of_heap W2.out (i * 4 + 2)).trans C2.out
  replace cw3 := (cell_of_heap W2.out (i * 4 + 3)).trans C3.out
  replace fw := frz_of_heap W2.out
  replace sw := lt_of_heap W2.out
  clear hk2 hT2 hI2 hty2 ct ft
  go_wp2_with fail
  refine bodyPost_ret (v := .tuple #[]) (by simp [results, go_sem]) rfl ?_
  obtain ⟨hA1, hA2, hA3⟩ := HAC.out
  rw [writeS_2]
  rw [hA1, hA2, hA3]
  obtain ⟨hs0, hs1, hs2, hs3⟩ := four_sizes HCS.out
  have c0' := C0.out
  have c1' := C1.out
  have c2' := C2.out
  have c3' := C3.out
  have WA := W2
  refine write_fin (vmA := vm2) (wA := w2) (C := C) hne K2.out T2.out W2.out I2.out Y2.out R2.out.1 R2.out.2 (C' := ?CC) ?hk ?hc ?hs ?ho ?h0 ?h1 ?h2 ?h3
  case hc =>
    repeat (first | rw [hs_same] | rw [hs_ne _ _ _ _ _ (by omega)] | rw [ha_lt _ _ _ (by first | omega | (simp only [World.size_alloc, World.size_setCell]; omega))] | rw [hd_drew])
    rw [WA.out]
    try rfl
  case hk =>
    with_reducible repeat (first | refine Keep.setCell ?_ _ (by first | exact .inr rfl | exact .inl (by simp only []; omega)) | refine Keep.alloc ?_ _ | refine Keep.drew ?_)
    exact Keep.refl _ _
  case hs => first | rfl | simp only [Array.size_setIfInBounds]
  case ho =>
    intro k' hk'
    with_reducible repeat (first | refine out_set 1 (by decide) hk' ?_ | refine out_set 2 (by decide) hk' ?_ | refine out_set 3 (by decide) hk' ?_ | refine out_set0 hk' ?_)
    rfl
  all_goals (
    with_reducible repeat (first | exact c0' | exact c1' | exact c2' | exact c3' | refine get_same ?_ | refine get_ne (by decide) ?_ | refine get_ne0 (by decide) ?_ | refine get_0ne (by decide) ?_)
    try (with_reducible repeat (refine size_le ?_))
    try (first | exact hs0 | exact hs1 | exact hs2 | exact hs3))
set_option maxRecDepth 100000 in
set_option maxHeartbeats 4000000 in
theorem tab_write3 (l : Lay) (t : Tb) (tb wb n i : Nat) (xs : List Int) (s : Ws) (vr : Value) (C : Array Value) (vseen vwant vturns : Value) (w : World) (hne : tb ≠ wb)
    (hT : w.heap[tb]? = some (.cells { t with vw := .slice (some ⟨wb, 0, none⟩) n n, bad := s.bad }.cells 87 (0, 0)))
    (hW : w.heap[wb]? = some (.cells C 138 (0, 0))) (hCs : i * 4 + 4 ≤ C.size)
    (hc0 : C[i * 4]? = some (.int .i64 s.wr.nxt)) (hc1 : C[i * 4 + 1]? = some (.int .i64 s.wr.at_)) (hc2 : C[i * 4 + 2]? = some (.int .i64 s.wr.ver)) (hc3 : C[i * 4 + 3]? = some vr)
    (hr : SlR 5 Acc.cells w vr s.wr.rouse) (hrt : TyR 39 w vr)
    (hm : IntsR w t.vm s.cs) (hty : Typed w t.vm) (hlen : s.cs.length ≤ 1048576)
    (hp : WantI w vwant n i xs) (hnx : (xs.length : Int) ≤ 1000000) (hnat : n ≤ 1000000) (hat : s.wr.at_ = 3) (h1 : 1 ≤ s.wr.nxt) (h2 : s.wr.nxt ≤ (xs.length : Int)) :
    Calls Try.prog 70 #[.pointer (some ⟨tb, 0, none⟩), l.v, .agg #[vseen, vwant, vturns], .int .i64 (i : Int)] w (WritePost { t with vw := .slice (some ⟨wb, 0, none⟩) n n, bad := s.bad } tb wb (i * 4) C w (writeS l xs (i : Int) s)) := by
  obtain ⟨vm, vw, tk, a, b', try_, stamp, karma, aborts, sv, wv, dv, vlog, told, tbad⟩ := t
  obtain ⟨cs, bad, nxt, at_, ver, rouse⟩ := s
  obtain ⟨b, o, c, v', rfl, hi, hv', hbl, hxs, hu8⟩ := hp
  obtain ⟨A2, c2, rfl, -, -, hx2⟩ := hxs.one
  simp only at *
  obtain ⟨k, hk⟩ : ∃ k : Nat, nxt = (k : Int) + 1 := ⟨(nxt - 1).toNat, by omega⟩
  have hkl : k < xs.length := by omega
  obtain ⟨b2, o2, rfl, hb2, hx3⟩ := hx2 (by intro e; subst e; simp at hkl)
  have hxk := hx3 k _ (List.getElem?_eq_getElem hkl)
  have hu := hu8 _ (List.getElem_mem hkl)
  have hwl : wantLoc xs (k : Int) = xs[k] % 3 := by
    rw [wantLoc, Int.toNat_natCast, List.getD_eq_getElem?_getD, List.getElem?_eq_getElem hkl, Option.getD_some, Int.tmod_eq_emod_of_nonneg hu.1]
  generalize xs[k] = x at hxk hu hwl
  obtain ⟨A, c1, rfl, -⟩ := hm.out
  obtain ⟨A4, c4, rfl, -⟩ := hr.out
  subst hk
  have HM := Lib.hid hm
  have HTY := Lib.hid hty
  have HLEN := Lib.hid hlen
  have HR := Lib.hid hr
  have HRT := Lib.hid hrt
  have Lt := Lib.hid hT
  have Lw := Lib.hid hW
  have C0 := Lib.hid hc0
  have C1 := Lib.hid hc1
  have C2 := Lib.hid hc2
  have C3 := Lib.hid hc3
  have HCS := Lib.hid hCs
  have ct := cell_of_heap hT
  have ft := frz_of_heap hT
  have st := lt_of_heap hT
  have cw0 := (cell_of_heap hW (i * 4)).trans hc0
  have cw1 := (cell_of_heap hW (i * 4 + 1)).trans hc1
  have cw2 := (cell_of_heap hW (i * 4 + 2)).trans hc2
  have cw3 := (cell_of_heap hW (i * 4 + 3)).trans hc3
  have fw := frz_of_heap hW
  have sw := lt_of_heap hW
  have hxl : (xs.length : Int) ≤ 1000000 := hnx
  have hcv : wrap64 x = x := by unfold wrap64; omega
  have hin : (i : Int) < (n : Int) := by omega
  have hkn : (k : Int) < (xs.length : Int) := by omega
  have hk1 : wrap64 ((k : Int) + 1 - 1) = (k : Int) := by unfold wrap64; omega
  have HXK := Lib.hid hwl
  have HN := Lib.hid hnat
  have HKN := Lib.hid (And.intro hkn hxl)
  clear hnat hT hW hc0 hc1 hc2 hc3 hm hty hlen hr hrt hxs hx2 hx3 hu8 hnx hwl hCs
  subst hat
  go_enter Try.func70, Try.ntmps70
  go_wp2_with fail
  go_quiet (fail)
  go_wp2_with fail
  go_quiet (fail)
  go_wp2_with fail
  generalize hWd : World.drewN _ _ = W
  have b_q0 := congrArg (fun u : World => u.heap[w.heap.size]?) hWd
  try simp only [] at b_q0
  repeat (first | rw [hd_drew] at b_q0 | rw [hd_drewN] at b_q0 | rw [hs_ne _ _ _ _ _ (by omega)] at b_q0 | rw [ha_lt _ _ _ (by first | omega | (simp only [World.size_alloc, World.size_setCell, World.size_drew]; omega))] at b_q0 | rw [hs_same] at b_q0)
  rw [ha_new _ _ _ (by first | rfl | simp only [World.size_alloc, World.size_setCell, World.size_drew])] at b_q0
  try simp only [Option.map_some, putO, List.setIfInBounds_toArray, List.set_cons_zero, List.set_cons_succ] at b_q0
  have Lq0 := Lib.hid b_q0.symm
  clear b_q0
  have cq0 := cell_of_heap Lq0.out
  have fq0 := frz_of_heap Lq0.out
  have sq0 := lt_of_heap Lq0.out
  have hbw : Below w.heap.size w W := by subst hWd; exact blw_drewN (blw_alloc (blw_alloc (Below.refl _ _) _) _) _
  clear hWd
  refine (ref_Word l (x % 3) W).mono ?_
  rintro e w1 ⟨rfl, hb1⟩
  have HB1 := Lib.hid (blw_then hbw hb1)
  replace Lq0 := Lib.hid ((hb1.block _ (lt_of_heap Lq0.out)).trans Lq0.out)
  replace cq0 := cell_of_heap Lq0.out
  replace fq0 := frz_of_heap Lq0.out
  replace sq0 := lt_of_heap Lq0.out
  replace Lt := Lib.hid (blk_keep HB1.out st Lt.out)
  replace Lw := Lib.hid (blk_keep HB1.out sw Lw.out)
  replace HM := Lib.hid (HM.out.below HB1.out)
  replace HTY := Lib.hid (HTY.out.below HB1.out)
  replace HR := Lib.hid (HR.out.below HB1.out)
  replace HRT := Lib.hid (HRT.out.below HB1.out)
  replace ct := cell_of_heap Lt.out
  replace ft := frz_of_heap Lt.out
  replace cw0 := (cell_of_heap Lw.out (i * 4)).trans C0.out
  replace cw1 := (cell_of_heap Lw.out (i * 4 + 1)).trans C1.out
  replace cw2 := (cell_of_heap Lw.out (i * 4 + 2)).trans C2.out
  replace cw3 := (cell_of_heap Lw.out (i * 4 + 3)).trans C3.out
  replace fw := frz_of_heap Lw.out
  have st1 := lt_of_heap Lt.out
  have sw1 := lt_of_heap Lw.out
  clear hb1 hbw
  go_wp2_with fail
  refine (ref_Free ver _).mono ?_
  rintro e w1' ⟨rfl, hw1'⟩
  subst hw1'
  go_wp2_with fail
  refine (tab_access ⟨.slice A cs.length c1, .slice (some ⟨wb, 0, none⟩) n n, tk, a, b', try_, stamp, karma, aborts, sv, wv, dv, vlog, told, bad⟩ tb ⟨2, cellP l.loc l.locs (x % 3) 4 0, 0, wrap64 (2 * ver), ⟨#[]⟩⟩ cs _ Lt.out HM.out HTY.out HLEN.out).mono ?_
  rintro e w2 ⟨vm2, rfl, hk2, hT2, hI2, hty2⟩
  obtain ⟨R, hR⟩ : ∃ R, R = memDo cs ⟨2, cellP l.loc l.locs (x % 3) 4 0, 0, wrap64 (2 * ver), ⟨#[]⟩⟩ := ⟨_, rfl⟩
  rw [← hR] at hT2 hI2 ⊢
  generalize hrv : (if R.2.2 = 0 then R.2.1.val else 0) = rv
  generalize hrk : (if R.2.2 = 0 then R.2.1.ok else false) = rk
  generalize hrb : (if R.2.2 = 0 then bad else true) = rb at hT2
  have HAC := Lib.hid (acc_parts hR hrv hrk hrb)
  clear hR hrv hrk hrb
  have K2 := Lib.hid ((Keep.of_below (X := (· = tb)) HB1.out).trans hk2)
  have T2 := Lib.hid hT2
  have I2 := Lib.hid hI2
  have Y2 := Lib.hid hty2
  have W2 := Lib.hid ((hk2.block wb sw1 (fun e => hne e.symm)).trans Lw.out)
  have R2 := Lib.hid (HR.out.keepT HRT.out hk2 (by
    rintro b' rfl _ c' fr' e'
    rw [Lt.out] at e'; simp at e'))
  have Lq2 := Lib.hid ((hk2.block w.heap.size sq0 (by omega)).trans Lq0.out)
  have cq2 := cell_of_heap Lq2.out
  have fq2 := frz_of_heap Lq2.out
  have sq2 := lt_of_heap Lq2.out
  clear cq0 fq0 sq0
  replace cw0 := (cell_of_heap W2.out (i * 4)).trans C0.out
  replace cw1 := (cell_of_heap W2.out (i * 4 + 1)).trans C1.out
  replace cw2 := (cell_of_heap W2.out (i * 4 + 2)).trans C2.out
  replace cw3 := (cell_of_heap W2.out (i * 4 + 3)).trans C3.out
  replace fw := frz_of_heap W2.out
  replace sw := lt_of_heap W2.out
  clear hk2 hT2 hI2 hty2 ct ft
  go_wp2_with fail
  refine bodyPost_ret (v := .tuple #[]) (by simp [results, go_sem]) rfl ?_
  obtain ⟨hA1, hA2, hA3⟩ := HAC.out
  rw [writeS_3]
  rw [show ((k : Int) + 1 - 1) = (k : Int) by omega, HXK.out, hA1, hA3]
  obtain ⟨hs0, hs1, hs2, hs3⟩ := four_sizes HCS.out
  have c0' := C0.out
  have c1' := C1.out
  have c2' := C2.out
  have c3' := C3.out
  have WA := W2
  refine write_fin (vmA := vm2) (wA := w2) (C := C) hne K2.out T2.out W2.out I2.out Y2.out R2.out.1 R2.out.2 (C' := ?CC) ?hk ?hc ?hs ?ho ?h0 ?h1 ?h2 ?h3
  case hc =>
    repeat (first | rw [hs_same] | rw [hs_ne _ _ _ _ _ (by omega)] | rw [ha_lt _ _ _ (by first | omega | (simp only [World.size_alloc, World.size_setCell]; omega))] | rw [hd_drew])
    rw [WA.out]
    try rfl
  case hk =>
    with_reducible repeat (first | refine Keep.setCell ?_ _ (by first | exact .inr rfl | exact .inl (by simp only []; omega)) | refine Keep.alloc ?_ _ | refine Keep.drew ?_)
    exact Keep.refl _ _
  case hs => first | rfl | simp only [Array.size_setIfInBounds]
  case ho =>
    intro k' hk'
    with_reducible repeat (first | refine out_set 1 (by decide) hk' ?_ | refine out_set 2 (by decide) hk' ?_ | refine out_set 3 (by decide) hk' ?_ | refine out_set0 hk' ?_)
    rfl
  all_goals (
    with_reducible repeat (first | exact c0' | exact c1' | exact c2' | exact c3' | refine get_same ?_ | refine get_ne (by decide) ?_ | refine get_ne0 (by decide) ?_ | refine get_0ne (by decide) ?_)
    try (with_reducible repeat (refine size_le ?_))
    try (first | exact hs0 | exact hs1 | exact hs2 | exact hs3))
set_option maxRecDepth 100000 in
set_option maxHeartbeats 4000000 in
theorem tab_write1 (l : Lay) (t : Tb) (tb wb n i : Nat) (xs : List Int) (s : Ws) (vr : Value) (C : Array Value) (vseen vwant vturns : Value) (w : World) (hne : tb ≠ wb)
    (hT : w.heap[tb]? = some (.cells { t with vw := .slice (some ⟨wb, 0, none⟩) n n, bad := s.bad }.cells 87 (0, 0)))
    (hW : w.heap[wb]? = some (.cells C 138 (0, 0))) (hCs : i * 4 + 4 ≤ C.size)
    (hc0 : C[i * 4]? = some (.int .i64 s.wr.nxt)) (hc1 : C[i * 4 + 1]? = some (.int .i64 s.wr.at_)) (hc2 : C[i * 4 + 2]? = some (.int .i64 s.wr.ver)) (hc3 : C[i * 4 + 3]? = some vr)
    (hr : SlR 5 Acc.cells w vr s.wr.rouse) (hrt : TyR 39 w vr)
    (hm : IntsR w t.vm s.cs) (hty : Typed w t.vm) (hlen : s.cs.length ≤ 1048576)
    (hp : WantI w vwant n i xs) (hnx : (xs.length : Int) ≤ 1000000) (hnat : n ≤ 1000000) (hat : s.wr.at_ = 1) (h1 : 1 ≤ s.wr.nxt) (h2 : s.wr.nxt ≤ (xs.length : Int)) :
    Calls Try.prog 70 #[.pointer (some ⟨tb, 0, none⟩), l.v, .agg #[vseen, vwant, vturns], .int .i64 (i : Int)] w (WritePost { t with vw := .slice (some ⟨wb, 0, none⟩) n n, bad := s.bad } tb wb (i * 4) C w (writeS l xs (i : Int) s)) := by
  obtain ⟨vm, vw, tk, a, b', try_, stamp, karma, aborts, sv, wv, dv, vlog, told, tbad⟩ := t
  obtain ⟨cs, bad, nxt, at_, ver, rouse⟩ := s
  obtain ⟨b, o, c, v', rfl, hi, hv', hbl, hxs, hu8⟩ := hp
  obtain ⟨A2, c2, rfl, -, -, hx2⟩ := hxs.one
  simp only at *
  obtain ⟨k, hk⟩ : ∃ k : Nat, nxt = (k : Int) + 1 := ⟨(nxt - 1).toNat, by omega⟩
  have hkl : k < xs.length := by omega
  obtain ⟨b2, o2, rfl, hb2, hx3⟩ := hx2 (by intro e; subst e; simp at hkl)
  have hxk := hx3 k _ (List.getElem?_eq_getElem hkl)
  have hu := hu8 _ (List.getElem_mem hkl)
  have hwl : wantLoc xs (k : Int) = xs[k] % 3 := by
    rw [wantLoc, Int.toNat_natCast, List.getD_eq_getElem?_getD, List.getElem?_eq_getElem hkl, Option.getD_some, Int.tmod_eq_emod_of_nonneg hu.1]
  generalize xs[k] = x at hxk hu hwl
  obtain ⟨A, c1, rfl, -⟩ := hm.out
  obtain ⟨A4, c4, rfl, -⟩ := hr.out
  subst hk
  have HM := Lib.hid hm
  have HTY := Lib.hid hty
  have HLEN := Lib.hid hlen
  have HR := Lib.hid hr
  have HRT := Lib.hid hrt
  have Lt := Lib.hid hT
  have Lw := Lib.hid hW
  have C0 := Lib.hid hc0
  have C1 := Lib.hid hc1
  have C2 := Lib.hid hc2
  have C3 := Lib.hid hc3
  have HCS := Lib.hid hCs
  have ct := cell_of_heap hT
  have ft := frz_of_heap hT
  have st := lt_of_heap hT
  have cw0 := (cell_of_heap hW (i * 4)).trans hc0
  have cw1 := (cell_of_heap hW (i * 4 + 1)).trans hc1
  have cw2 := (cell_of_heap hW (i * 4 + 2)).trans hc2
  have cw3 := (cell_of_heap hW (i * 4 + 3)).trans hc3
  have fw := frz_of_heap hW
  have sw := lt_of_heap hW
  have hxl : (xs.length : Int) ≤ 1000000 := hnx
  have hcv : wrap64 x = x := by unfold wrap64; omega
  have hin : (i : Int) < (n : Int) := by omega
  have hkn : (k : Int) < (xs.length : Int) := by omega
  have hk1 : wrap64 ((k : Int) + 1 - 1) = (k : Int) := by unfold wrap64; omega
  have HXK := Lib.hid hwl
  have HN := Lib.hid hnat
  have HKN := Lib.hid (And.intro hkn hxl)
  clear hnat hT hW hc0 hc1 hc2 hc3 hm hty hlen hr hrt hxs hx2 hx3 hu8 hnx hwl hCs
  subst hat
  go_enter Try.func70, Try.ntmps70
  go_wp2_with fail
  go_quiet (fail)
  go_wp2_with fail
  go_quiet (fail)
  go_wp2_with fail
  generalize hWd : World.drewN _ _ = W
  have b_q0 := congrArg (fun u : World => u.heap[w.heap.size]?) hWd
  try simp only [] at b_q0
  repeat (first | rw [hd_drew] at b_q0 | rw [hd_drewN] at b_q0 | rw [hs_ne _ _ _ _ _ (by omega)] at b_q0 | rw [ha_lt _ _ _ (by first | omega | (simp only [World.size_alloc, World.size_setCell, World.size_drew]; omega))] at b_q0 | rw [hs_same] at b_q0)
  rw [ha_new _ _ _ (by first | rfl | simp only [World.size_alloc, World.size_setCell, World.size_drew])] at b_q0
  try simp only [Option.map_some, putO, List.setIfInBounds_toArray, List.set_cons_zero, List.set_cons_succ] at b_q0
  have Lq0 := Lib.hid b_q0.symm
  clear b_q0
  have cq0 := cell_of_heap Lq0.out
  have fq0 := frz_of_heap Lq0.out
  have sq0 := lt_of_heap Lq0.out
  have hbw : Below w.heap.size w W := by subst hWd; exact blw_drewN (blw_alloc (blw_alloc (Below.refl _ _) _) _) _
  clear hWd
  refine (ref_Word l (x % 3) W).mono ?_
  rintro e w1 ⟨rfl, hb1⟩
  have HB1 := Lib.hid (blw_then hbw hb1)
  replace Lq0 := Lib.hid ((hb1.block _ (lt_of_heap Lq0.out)).trans Lq0.out)
  replace cq0 := cell_of_heap Lq0.out
  replace fq0 := frz_of_heap Lq0.out
  replace sq0 := lt_of_heap Lq0.out
  replace Lt := Lib.hid (blk_keep HB1.out st Lt.out)
  replace Lw := Lib.hid (blk_keep HB1.out sw Lw.out)
  replace HM := Lib.hid (HM.out.below HB1.out)
  replace HTY := Lib.hid (HTY.out.below HB1.out)
  replace HR := Lib.hid (HR.out.below HB1.out)
  replace HRT := Lib.hid (HRT.out.below HB1.out)
  replace ct := cell_of_heap Lt.out
  replace ft := frz_of_heap Lt.out
  replace cw0 := (cell_of_heap Lw.out (i * 4)).trans C0.out
  replace cw1 := (cell_of_heap Lw.out (i * 4 + 1)).trans C1.out
  replace cw2 := (cell_of_heap Lw.out (i * 4 + 2)).trans C2.out
  replace cw3 := (cell_of_heap Lw.out (i * 4 + 3)).trans C3.out
  replace fw := frz_of_heap Lw.out
  have st1 := lt_of_heap Lt.out
  have sw1 := lt_of_heap Lw.out
  clear hb1 hbw
  have hi1 : wrap64 ((i : Int) + 1) = (i : Int) + 1 := by have := HN.out; unfold wrap64; omega
  have hi2 : IntKind.i64.wrap ((i : Int) + 1) = (i : Int) + 1 := (IntWalk.i64_left _).trans hi1
  go_wp2_with fail
  obtain ⟨R, hR⟩ : ∃ R, R = (memDo cs ⟨3, cellP l.loc l.locs (x % 3) 4 0, ver, wrap64 (wrap64 (2 * ((i : Int) + 1)) + 1), ⟨#[]⟩⟩).1 := ⟨_, rfl⟩
  obtain ⟨⟨rv, rk⟩, hrv⟩ : ∃ r, resOf cs ⟨3, cellP l.loc l.locs (x % 3) 4 0, ver, wrap64 (wrap64 (2 * ((i : Int) + 1)) + 1), ⟨#[]⟩⟩ = r := ⟨_, rfl⟩
  obtain ⟨rb, hrb⟩ : ∃ r, badOf cs ⟨3, cellP l.loc l.locs (x % 3) 4 0, ver, wrap64 (wrap64 (2 * ((i : Int) + 1)) + 1), ⟨#[]⟩⟩ bad = r := ⟨_, rfl⟩
  have HAC := Lib.hid (And.intro hR.symm (And.intro hrv hrb))
  clear hR hrv hrb
  have HSof := Lib.hid (fun (wa : World) (h : Keep (· = tb) w1 wa) => (⟨fun j => (cell_of_heap ((h.block wb (lt_of_heap Lw.out) (fun e => hne e.symm)).trans Lw.out) j), h⟩ : (∀ j, wa.cell? ⟨wb, j, none⟩ = C[j]?) ∧ Keep (· = tb) w1 wa))
  go_cut [12] from 137 to 147 (fun p12 wx => ∃ (b12 : Nat) (vm2 : Value), p12 = .pointer (some ⟨b12, 0, none⟩) ∧ Keep (· = tb) w1 wx ∧ wx.heap[tb]? = some (.cells (Tb.cells ⟨vm2, .slice (some ⟨wb, 0, none⟩) n n, tk, a, b', try_, stamp, karma, aborts, sv, wv, dv, vlog, told, rb⟩) 87 (0, 0)) ∧
    wx.heap[b12]? = some (.cells #[.int .i64 rv, .bool rk] 58 (0, 0)) ∧ IntsR wx vm2 R ∧ Typed wx vm2 ∧ w1.heap.size ≤ b12)
  case first =>
    have hc2' := C2.out
    go_region_held3 (fun w' => (∀ j, w'.cell? ⟨wb, j, none⟩ = C[j]?) ∧ Keep (· = tb) w1 w')
      (((try dsimp only); refine HSof.out _ ?_; with_reducible repeat (first | exact Keep.refl _ _ | refine Keep.alloc ?_ _ | refine Keep.drew ?_ | refine Keep.setCell ?_ _ (.inl (by simp only [World.size_alloc]; omega)) | assumption)))
      ((first
        | (go_at_call 100; refine (ref_Held _ _).mono ?_; rintro e w3' ⟨rfl, hw3⟩; subst hw3)
        | (go_at_call 99; refine (tab_accessR ⟨.slice A cs.length c1, .slice (some ⟨wb, 0, none⟩) n n, tk, a, b', try_, stamp, karma, aborts, sv, wv, dv, vlog, told, bad⟩ tb ⟨3, cellP l.loc l.locs (x % 3) 4 0, ver, wrap64 (wrap64 (2 * ((i : Int) + 1)) + 1), ⟨#[]⟩⟩ cs _ HAC.out (blk_keep (show Below w1.heap.size w1 _ by with_reducible repeat (first | exact Below.refl _ _ | refine blw_alloc ?_ _ | refine blw_drew ?_)) st1 Lt.out) (HM.out.below (by with_reducible repeat (first | exact Below.refl _ _ | refine blw_alloc ?_ _ | refine blw_drew ?_))) (HTY.out.below (by with_reducible repeat (first | exact Below.refl _ _ | refine blw_alloc ?_ _ | refine blw_drew ?_))) HLEN.out).mono ?_; rintro e w3 ⟨vm3, rfl, hk3, hT3, hI3, hty3⟩
           have hK3 := (Keep.of_below (X := (· = tb)) (show Below w1.heap.size w1 _ by with_reducible repeat (first | exact Below.refl _ _ | refine blw_alloc ?_ _ | refine blw_drew ?_))).trans hk3
           have zz3 := hK3.size
           have HT3 := Lib.hid hT3
           have HI3 := Lib.hid hI3
           have HY3 := Lib.hid hty3
           have HK3 := Lib.hid hk3
           clear hT3 hI3 hty3
           (try (have q := tabk_keep (b := w1.heap.size) hk3 (ha_new _ _ _ rfl) (by omega); obtain ⟨c30, f30, z30, h30⟩ := q))
           (try (have q := tabk_keep (b := w1.heap.size) hk3 ((hd_drew _ _).trans (ha_new _ _ _ rfl)) (by omega); obtain ⟨c30, f30, z30, h30⟩ := q)))))
    all_goals (
      have zsz := HK3.out.size
      try simp only [World.size_alloc, World.size_drew] at zsz
      go_wp2_with fail
      go_meet
      case rel =>
        refine ⟨_, vm3, rfl, ?_, ?_, ?_, ?_, ?_, ?_⟩
        · with_reducible repeat (first | exact hK3 | refine Keep.alloc ?_ _ | refine Keep.drew ?_ | refine Keep.setCell ?_ _ (.inl (by simp only []; omega)))
        · repeat (first | rw [hd_drew] | rw [hs_ne _ _ _ _ _ (by omega)] | rw [ha_lt _ _ _ (by first | omega | (simp only [World.size_alloc, World.size_setCell]; omega))])
          exact HT3.out
        · repeat (first | rw [hd_drew] | rw [hs_ne _ _ _ _ _ (by omega)] | rw [hs_same] | rw [ha_lt _ _ _ (by first | omega | (simp only [World.size_alloc, World.size_setCell]; omega))])
          first | rw [ha_new _ _ _ (by simp only [World.size_alloc, World.size_setCell])] | rw [h30.out]
          try rfl
        · refine HI3.out.stay (by simp only [World.size_alloc, World.size_setCell, World.size_drew]; omega) (fun b' hb' hl' => ?_)
          obtain ⟨c', fr', hty'⟩ := HY3.out b' hb'
          repeat (first | rw [hd_drew] | rw [hs_ne _ _ _ _ _ (fun e => by subst e; first | (rw [h30.out] at hty'; simp at hty') | exact Nat.lt_irrefl _ hl')] | rw [ha_lt _ _ _ (by first | exact hl' | omega | (simp only [World.size_alloc, World.size_setCell]; omega))])
        · intro b' hb'
          obtain ⟨c', fr', hty'⟩ := HY3.out b' hb'
          have hl' := lt_of_heap hty'
          refine ⟨c', fr', Eq.trans ?_ hty'⟩
          repeat (first | rw [hd_drew] | rw [hs_ne _ _ _ _ _ (fun e => by subst e; first | (rw [h30.out] at hty'; simp at hty') | exact Nat.lt_irrefl _ hl')] | rw [ha_lt _ _ _ (by first | exact hl' | omega | (simp only [World.size_alloc, World.size_setCell]; omega))])
        · omega)
  case rest =>
    obtain ⟨b12, vm2, rfl, hk2, hT2, hb12, hI2, hty2, h12⟩ := hcut
    have K2 := Lib.hid ((Keep.of_below (X := (· = tb)) HB1.out).trans hk2)
    have T2 := Lib.hid hT2
    have I2 := Lib.hid hI2
    have Y2 := Lib.hid hty2
    have W2 := Lib.hid ((hk2.block wb sw1 (fun e => hne e.symm)).trans Lw.out)
    have R2 := Lib.hid (HR.out.keepT HRT.out hk2 (by
      rintro b' rfl _ c' fr' e'
      rw [Lt.out] at e'; simp at e'))
    have L12 := Lib.hid hb12
    have c12 := cell_of_heap hb12
    have f12 := frz_of_heap hb12
    have s12 := lt_of_heap hb12
    replace cw0 := (cell_of_heap W2.out (i * 4)).trans C0.out
    replace cw1 := (cell_of_heap W2.out (i * 4 + 1)).trans C1.out
    replace cw2 := (cell_of_heap W2.out (i * 4 + 2)).trans C2.out
    replace cw3 := (cell_of_heap W2.out (i * 4 + 3)).trans C3.out
    replace fw := frz_of_heap W2.out
    replace sw := lt_of_heap W2.out
    have nwb : ¬ wb = b12 := by omega
    have nbw : ¬ b12 = wb := by omega
    clear hk2 hT2 hI2 hty2 ct ft hb12 cq0 fq0 sq0
    have hk0 : wrap64 ((k : Int) + 1 - 1) = (k : Int) := by unfold wrap64; have := HKN.out; omega
    cases rk
    · go_wp2_with fail
      refine bodyPost_ret (v := .tuple #[]) (by simp [results, go_sem]) rfl ?_
      obtain ⟨hA1, hA2, hA3⟩ := HAC.out
      rw [writeS_1]
      rw [show ((k : Int) + 1 - 1) = (k : Int) by omega, HXK.out, hA1, hA2, hA3]
      simp only [Bool.false_eq_true, if_false, if_true]
      obtain ⟨hs0, hs1, hs2, hs3⟩ := four_sizes HCS.out
      have c0' := C0.out
      have c1' := C1.out
      have c2' := C2.out
      have c3' := C3.out
      have WA := W2
      refine write_fin (vmA := vm2) (wA := wc) (C := C) hne K2.out T2.out W2.out I2.out Y2.out R2.out.1 R2.out.2 (C' := ?CCA) ?hkA ?hcA ?hsA ?hoA ?h0A ?h1A ?h2A ?h3A
      case hcA =>
        repeat (first | rw [hs_same] | rw [hs_ne _ _ _ _ _ (by omega)] | rw [ha_lt _ _ _ (by first | omega | (simp only [World.size_alloc, World.size_setCell]; omega))] | rw [hd_drew])
        rw [WA.out]
        try rfl
      case hkA =>
        with_reducible repeat (first | refine Keep.setCell ?_ _ (by first | exact .inr rfl | exact .inl (by simp only []; omega)) | refine Keep.alloc ?_ _ | refine Keep.drew ?_)
        exact Keep.refl _ _
      case hsA => first | rfl | simp only [Array.size_setIfInBounds]
      case hoA =>
        intro k' hk'
        with_reducible repeat (first | refine out_set 1 (by decide) hk' ?_ | refine out_set 2 (by decide) hk' ?_ | refine out_set 3 (by decide) hk' ?_ | refine out_set0 hk' ?_)
        rfl
      all_goals (
        with_reducible repeat (first | exact c0' | exact c1' | exact c2' | exact c3' | refine get_same ?_ | refine get_ne (by decide) ?_ | refine get_ne0 (by decide) ?_ | refine get_0ne (by decide) ?_)
        try (with_reducible repeat (refine size_le ?_))
        try (first | exact hs0 | exact hs1 | exact hs2 | exact hs3))
    · go_wp2_with fail
      refine bodyPost_ret (v := .tuple #[]) (by simp [results, go_sem]) rfl ?_
      obtain ⟨hA1, hA2, hA3⟩ := HAC.out
      rw [writeS_1]
      rw [show ((k : Int) + 1 - 1) = (k : Int) by omega, HXK.out, hA1, hA2, hA3]
      simp only [Bool.false_eq_true, if_false, if_true]
      obtain ⟨hs0, hs1, hs2, hs3⟩ := four_sizes HCS.out
      have c0' := C0.out
      have c1' := C1.out
      have c2' := C2.out
      have c3' := C3.out
      have WA := W2
      refine write_fin (vmA := vm2) (wA := wc) (C := C) hne K2.out T2.out W2.out I2.out Y2.out R2.out.1 R2.out.2 (C' := ?CCB) ?hkB ?hcB ?hsB ?hoB ?h0B ?h1B ?h2B ?h3B
      case hcB =>
        repeat (first | rw [hs_same] | rw [hs_ne _ _ _ _ _ (by omega)] | rw [ha_lt _ _ _ (by first | omega | (simp only [World.size_alloc, World.size_setCell]; omega))] | rw [hd_drew])
        rw [WA.out]
        try rfl
      case hkB =>
        with_reducible repeat (first | refine Keep.setCell ?_ _ (by first | exact .inr rfl | exact .inl (by simp only []; omega)) | refine Keep.alloc ?_ _ | refine Keep.drew ?_)
        exact Keep.refl _ _
      case hsB => first | rfl | simp only [Array.size_setIfInBounds]
      case hoB =>
        intro k' hk'
        with_reducible repeat (first | refine out_set 1 (by decide) hk' ?_ | refine out_set 2 (by decide) hk' ?_ | refine out_set 3 (by decide) hk' ?_ | refine out_set0 hk' ?_)
        rfl
      all_goals (
        with_reducible repeat (first | exact c0' | exact c1' | exact c2' | exact c3' | refine get_same ?_ | refine get_ne (by decide) ?_ | refine get_ne0 (by decide) ?_ | refine get_0ne (by decide) ?_)
        try (with_reducible repeat (refine size_le ?_))
        try (first | exact hs0 | exact hs1 | exact hs2 | exact hs3))
set_option maxRecDepth 100000 in
set_option maxHeartbeats 4000000 in
theorem tab_write4 (l : Lay) (t : Tb) (tb wb n i : Nat) (xs : List Int) (s : Ws) (vr : Value) (C : Array Value) (vseen vwant vturns : Value) (w : World) (hne : tb ≠ wb)
    (hT : w.heap[tb]? = some (.cells { t with vw := .slice (some ⟨wb, 0, none⟩) n n, bad := s.bad }.cells 87 (0, 0)))
    (hW : w.heap[wb]? = some (.cells C 138 (0, 0))) (hCs : i * 4 + 4 ≤ C.size)
    (hc0 : C[i * 4]? = some (.int .i64 s.wr.nxt)) (hc1 : C[i * 4 + 1]? = some (.int .i64 s.wr.at_)) (hc2 : C[i * 4 + 2]? = some (.int .i64 s.wr.ver)) (hc3 : C[i * 4 + 3]? = some vr)
    (hr : SlR 5 Acc.cells w vr s.wr.rouse) (hrt : TyR 39 w vr)
    (hm : IntsR w t.vm s.cs) (hty : Typed w t.vm) (hlen : s.cs.length ≤ 1048576)
    (hp : WantI w vwant n i xs) (hnx : (xs.length : Int) ≤ 1000000) (hnat : n ≤ 1000000) (hat : s.wr.at_ = 4) (h1 : 1 ≤ s.wr.nxt) (h2 : s.wr.nxt ≤ (xs.length : Int)) (hthr : 0 ≤ l.thr ∧ l.thr ≤ 4) :
    Calls Try.prog 70 #[.pointer (some ⟨tb, 0, none⟩), l.v, .agg #[vseen, vwant, vturns], .int .i64 (i : Int)] w (WritePost { t with vw := .slice (some ⟨wb, 0, none⟩) n n, bad := s.bad } tb wb (i * 4) C w (writeS l xs (i : Int) s)) := by
  obtain ⟨vm, vw, tk, a, b', try_, stamp, karma, aborts, sv, wv, dv, vlog, told, tbad⟩ := t
  obtain ⟨cs, bad, nxt, at_, ver, rouse⟩ := s
  obtain ⟨b, o, c, v', rfl, hi, hv', hbl, hxs, hu8⟩ := hp
  obtain ⟨A2, c2, rfl, -, -, hx2⟩ := hxs.one
  simp only at *
  obtain ⟨k, hk⟩ : ∃ k : Nat, nxt = (k : Int) + 1 := ⟨(nxt - 1).toNat, by omega⟩
  have hkl : k < xs.length := by omega
  obtain ⟨b2, o2, rfl, hb2, hx3⟩ := hx2 (by intro e; subst e; simp at hkl)
  have hxk := hx3 k _ (List.getElem?_eq_getElem hkl)
  have hu := hu8 _ (List.getElem_mem hkl)
  have hwl : wantLoc xs (k : Int) = xs[k] % 3 := by
    rw [wantLoc, Int.toNat_natCast, List.getD_eq_getElem?_getD, List.getElem?_eq_getElem hkl, Option.getD_some, Int.tmod_eq_emod_of_nonneg hu.1]
  generalize xs[k] = x at hxk hu hwl
  obtain ⟨A, c1, rfl, -⟩ := hm.out
  obtain ⟨A4, c4, rfl, -⟩ := hr.out
  subst hk
  have HM := Lib.hid hm
  have HTY := Lib.hid hty
  have HLEN := Lib.hid hlen
  have HR := Lib.hid hr
  have HRT := Lib.hid hrt
  have Lt := Lib.hid hT
  have Lw := Lib.hid hW
  have C0 := Lib.hid hc0
  have C1 := Lib.hid hc1
  have C2 := Lib.hid hc2
  have C3 := Lib.hid hc3
  have HCS := Lib.hid hCs
  have ct := cell_of_heap hT
  have ft := frz_of_heap hT
  have st := lt_of_heap hT
  have cw0 := (cell_of_heap hW (i * 4)).trans hc0
  have cw1 := (cell_of_heap hW (i * 4 + 1)).trans hc1
  have cw2 := (cell_of_heap hW (i * 4 + 2)).trans hc2
  have cw3 := (cell_of_heap hW (i * 4 + 3)).trans hc3
  have fw := frz_of_heap hW
  have sw := lt_of_heap hW
  have hxl : (xs.length : Int) ≤ 1000000 := hnx
  have hcv : wrap64 x = x := by unfold wrap64; omega
  have hin : (i : Int) < (n : Int) := by omega
  have hkn : (k : Int) < (xs.length : Int) := by omega
  have hk1 : wrap64 ((k : Int) + 1 - 1) = (k : Int) := by unfold wrap64; omega
  have HXK := Lib.hid hwl
  have HN := Lib.hid hnat
  have HKN := Lib.hid (And.intro hkn hxl)
  clear hnat hT hW hc0 hc1 hc2 hc3 hm hty hlen hr hrt hxs hx2 hx3 hu8 hnx hwl hCs
  subst hat
  go_enter Try.func70, Try.ntmps70
  go_wp2_with fail
  go_quiet (fail)
  go_wp2_with fail
  go_quiet (fail)
  go_wp2_with fail
  generalize hWd : World.drewN _ _ = W
  have b_q0 := congrArg (fun u : World => u.heap[w.heap.size]?) hWd
  try simp only [] at b_q0
  repeat (first | rw [hd_drew] at b_q0 | rw [hd_drewN] at b_q0 | rw [hs_ne _ _ _ _ _ (by omega)] at b_q0 | rw [ha_lt _ _ _ (by first | omega | (simp only [World.size_alloc, World.size_setCell, World.size_drew]; omega))] at b_q0 | rw [hs_same] at b_q0)
  rw [ha_new _ _ _ (by first | rfl | simp only [World.size_alloc, World.size_setCell, World.size_drew])] at b_q0
  try simp only [Option.map_some, putO, List.setIfInBounds_toArray, List.set_cons_zero, List.set_cons_succ] at b_q0
  have Lq0 := Lib.hid b_q0.symm
  clear b_q0
  have cq0 := cell_of_heap Lq0.out
  have fq0 := frz_of_heap Lq0.out
  have sq0 := lt_of_heap Lq0.out
  have hbw : Below w.heap.size w W := by subst hWd; exact blw_drewN (blw_alloc (blw_alloc (Below.refl _ _) _) _) _
  clear hWd
  refine (ref_Word l (x % 3) W).mono ?_
  rintro e w1 ⟨rfl, hb1⟩
  have HB1 := Lib.hid (blw_then hbw hb1)
  replace Lq0 := Lib.hid ((hb1.block _ (lt_of_heap Lq0.out)).trans Lq0.out)
  replace cq0 := cell_of_heap Lq0.out
  replace fq0 := frz_of_heap Lq0.out
  replace sq0 := lt_of_heap Lq0.out
  replace Lt := Lib.hid (blk_keep HB1.out st Lt.out)
  replace Lw := Lib.hid (blk_keep HB1.out sw Lw.out)
  replace HM := Lib.hid (HM.out.below HB1.out)
  replace HTY := Lib.hid (HTY.out.below HB1.out)
  replace HR := Lib.hid (HR.out.below HB1.out)
  replace HRT := Lib.hid (HRT.out.below HB1.out)
  replace ct := cell_of_heap Lt.out
  replace ft := frz_of_heap Lt.out
  replace cw0 := (cell_of_heap Lw.out (i * 4)).trans C0.out
  replace cw1 := (cell_of_heap Lw.out (i * 4 + 1)).trans C1.out
  replace cw2 := (cell_of_heap Lw.out (i * 4 + 2)).trans C2.out
  replace cw3 := (cell_of_heap Lw.out (i * 4 + 3)).trans C3.out
  replace fw := frz_of_heap Lw.out
  have st1 := lt_of_heap Lt.out
  have sw1 := lt_of_heap Lw.out
  clear hb1 hbw
  go_wp2_with fail
  refine (ref_Waiters l (x % 3) _).mono ?_
  rintro e w1' ⟨rfl, hb1'⟩
  replace HB1 := Lib.hid (blw_then HB1.out hb1')
  replace Lq0 := Lib.hid ((hb1'.block _ (lt_of_heap Lq0.out)).trans Lq0.out)
  replace cq0 := cell_of_heap Lq0.out
  replace fq0 := frz_of_heap Lq0.out
  replace sq0 := lt_of_heap Lq0.out
  replace Lt := Lib.hid (blk_keep hb1' st1 Lt.out)
  replace Lw := Lib.hid (blk_keep hb1' sw1 Lw.out)
  replace HM := Lib.hid (HM.out.below hb1')
  replace HTY := Lib.hid (HTY.out.below hb1')
  replace HR := Lib.hid (HR.out.below hb1')
  replace HRT := Lib.hid (HRT.out.below hb1')
  replace ct := cell_of_heap Lt.out
  replace ft := frz_of_heap Lt.out
  replace cw0 := (cell_of_heap Lw.out (i * 4)).trans C0.out
  replace cw1 := (cell_of_heap Lw.out (i * 4 + 1)).trans C1.out
  replace cw2 := (cell_of_heap Lw.out (i * 4 + 2)).trans C2.out
  replace cw3 := (cell_of_heap Lw.out (i * 4 + 3)).trans C3.out
  replace fw := frz_of_heap Lw.out
  replace st1 := lt_of_heap Lt.out
  replace sw1 := lt_of_heap Lw.out
  clear hb1'
  go_wp2_with fail
  refine (tab_access ⟨.slice A cs.length c1, .slice (some ⟨wb, 0, none⟩) n n, tk, a, b', try_, stamp, karma, aborts, sv, wv, dv, vlog, told, bad⟩ tb ⟨1, cellP l.loc l.locs (x % 3) 4 3, 0, 0, ⟨#[]⟩⟩ cs _ Lt.out HM.out HTY.out HLEN.out).mono ?_
  rintro e w2 ⟨vm2, rfl, hk2, hT2, hI2, hty2⟩
  obtain ⟨R, hR⟩ : ∃ R, R = memDo cs ⟨1, cellP l.loc l.locs (x % 3) 4 3, 0, 0, ⟨#[]⟩⟩ := ⟨_, rfl⟩
  rw [← hR] at hT2 hI2 ⊢
  generalize hrv : (if R.2.2 = 0 then R.2.1.val else 0) = rv
  generalize hrk : (if R.2.2 = 0 then R.2.1.ok else false) = rk
  generalize hrb : (if R.2.2 = 0 then bad else true) = rb at hT2
  have HAC := Lib.hid (acc_parts hR hrv hrk hrb)
  clear hR hrv hrk hrb
  have K2 := Lib.hid ((Keep.of_below (X := (· = tb)) HB1.out).trans hk2)
  have T2 := Lib.hid hT2
  have I2 := Lib.hid hI2
  have Y2 := Lib.hid hty2
  have W2 := Lib.hid ((hk2.block wb sw1 (fun e => hne e.symm)).trans Lw.out)
  have R2 := Lib.hid (HR.out.keepT HRT.out hk2 (by
    rintro b' rfl _ c' fr' e'
    rw [Lt.out] at e'; simp at e'))
  have Lq2 := Lib.hid ((hk2.block w.heap.size sq0 (by omega)).trans Lq0.out)
  have cq2 := cell_of_heap Lq2.out
  have fq2 := frz_of_heap Lq2.out
  have sq2 := lt_of_heap Lq2.out
  clear cq0 fq0 sq0
  replace cw0 := (cell_of_heap W2.out (i * 4)).trans C0.out
  replace cw1 := (cell_of_heap W2.out (i * 4 + 1)).trans C1.out
  replace cw2 := (cell_of_heap W2.out (i * 4 + 2)).trans C2.out
  replace cw3 := (cell_of_heap W2.out (i * 4 + 3)).trans C3.out
  replace fw := frz_of_heap W2.out
  replace sw := lt_of_heap W2.out
  clear hk2 hT2 hI2 hty2 ct ft
  go_wp2_with fail
  refine (wait_Rouse l rv _ hthr).mono ?_
  rintro e w3 ⟨v3, rfl, hR3, hT3, hb3⟩
  obtain ⟨A5, c5, rfl, -⟩ := hR3.out
  have hb23 := blw_then (w := w2) (by with_reducible repeat (first | exact Below.refl _ _ | refine blw_alloc ?_ _ | refine blw_set ?_ (by simp only [World.size_alloc]; omega) _)) hb3
  replace K2 := Lib.hid (K2.out.trans (Keep.of_below hb23))
  replace T2 := Lib.hid (blk_keep hb23 (lt_of_heap T2.out) T2.out)
  replace W2 := Lib.hid (blk_keep hb23 (lt_of_heap W2.out) W2.out)
  replace I2 := Lib.hid (I2.out.below hb23)
  replace Y2 := Lib.hid (Y2.out.below hb23)
  replace R2 := Lib.hid (And.intro hR3 (show TyR 39 w3 _ from fun b hb => by obtain ⟨-, c, hc⟩ := hT3 b hb; exact ⟨c, _, hc⟩))
  replace cw0 := (cell_of_heap W2.out (i * 4)).trans C0.out
  replace cw1 := (cell_of_heap W2.out (i * 4 + 1)).trans C1.out
  replace cw2 := (cell_of_heap W2.out (i * 4 + 2)).trans C2.out
  replace cw3 := (cell_of_heap W2.out (i * 4 + 3)).trans C3.out
  replace fw := frz_of_heap W2.out
  replace sw := lt_of_heap W2.out
  clear hb3 hb23 hR3 hT3 cq2 fq2 sq2
  go_wp2_with fail
  refine bodyPost_ret (v := .tuple #[]) (by simp [results, go_sem]) rfl ?_
  obtain ⟨hA1, hA2, hA3⟩ := HAC.out
  rw [writeS_4]
  rw [show ((k : Int) + 1 - 1) = (k : Int) by omega, HXK.out, hA1, hA2, hA3]
  obtain ⟨hs0, hs1, hs2, hs3⟩ := four_sizes HCS.out
  have c0' := C0.out
  have c1' := C1.out
  have c2' := C2.out
  have c3' := C3.out
  have WA := W2
  refine write_fin (vmA := vm2) (wA := w3) (C := C) hne K2.out T2.out W2.out I2.out Y2.out R2.out.1 R2.out.2 (C' := ?CC) ?hk ?hc ?hs ?ho ?h0 ?h1 ?h2 ?h3
  case hc =>
    repeat (first | rw [hs_same] | rw [hs_ne _ _ _ _ _ (by omega)] | rw [ha_lt _ _ _ (by first | omega | (simp only [World.size_alloc, World.size_setCell]; omega))] | rw [hd_drew])
    rw [WA.out]
    try rfl
  case hk =>
    with_reducible repeat (first | refine Keep.setCell ?_ _ (by first | exact .inr rfl | exact .inl (by simp only []; omega)) | refine Keep.alloc ?_ _ | refine Keep.drew ?_)
    exact Keep.refl _ _
  case hs => first | rfl | simp only [Array.size_setIfInBounds]
  case ho =>
    intro k' hk'
    with_reducible repeat (first | refine out_set 1 (by decide) hk' ?_ | refine out_set 2 (by decide) hk' ?_ | refine out_set 3 (by decide) hk' ?_ | refine out_set0 hk' ?_)
    rfl
  all_goals (
    with_reducible repeat (first | exact c0' | exact c1' | exact c2' | exact c3' | refine get_same ?_ | refine get_ne (by decide) ?_ | refine get_ne0 (by decide) ?_ | refine get_0ne (by decide) ?_)
    try (with_reducible repeat (refine size_le ?_))
    try (first | exact hs0 | exact hs1 | exact hs2 | exact hs3))
set_option maxRecDepth 100000 in
set_option maxHeartbeats 4000000 in
theorem tab_writeE (l : Lay) (t : Tb) (tb wb n i : Nat) (xs : List Int) (s : Ws) (vr : Value) (C : Array Value) (vseen vwant vturns : Value) (w : World) (hne : tb ≠ wb)
    (hT : w.heap[tb]? = some (.cells { t with vw := .slice (some ⟨wb, 0, none⟩) n n, bad := s.bad }.cells 87 (0, 0)))
    (hW : w.heap[wb]? = some (.cells C 138 (0, 0))) (hCs : i * 4 + 4 ≤ C.size)
    (hc0 : C[i * 4]? = some (.int .i64 s.wr.nxt)) (hc1 : C[i * 4 + 1]? = some (.int .i64 s.wr.at_)) (hc2 : C[i * 4 + 2]? = some (.int .i64 s.wr.ver)) (hc3 : C[i * 4 + 3]? = some vr)
    (hr : SlR 5 Acc.cells w vr s.wr.rouse) (hrt : TyR 39 w vr)
    (hm : IntsR w t.vm s.cs) (hty : Typed w t.vm) (hlen : s.cs.length ≤ 1048576)
    (hp : WantI w vwant n i xs) (hnx : (xs.length : Int) ≤ 1000000) (hnat : n ≤ 1000000) (hat : s.wr.at_ = 0) (he : s.wr.nxt = (xs.length : Int)) :
    Calls Try.prog 70 #[.pointer (some ⟨tb, 0, none⟩), l.v, .agg #[vseen, vwant, vturns], .int .i64 (i : Int)] w (WritePost { t with vw := .slice (some ⟨wb, 0, none⟩) n n, bad := s.bad } tb wb (i * 4) C w (writeS l xs (i : Int) s)) := by
  obtain ⟨vm, vw, tk, a, b', try_, stamp, karma, aborts, sv, wv, dv, vlog, told, tbad⟩ := t
  obtain ⟨cs, bad, nxt, at_, ver, rouse⟩ := s
  obtain ⟨b, o, c, v', rfl, hi, hv', hbl, hxs, hu8⟩ := hp
  obtain ⟨A2, c2, rfl, -, -, hx2⟩ := hxs.one
  simp only at *
  obtain ⟨A, c1, rfl, -⟩ := hm.out
  obtain ⟨A4, c4, rfl, -⟩ := hr.out
  obtain rfl : nxt = (xs.length : Int) := by omega
  have HM := Lib.hid hm
  have HTY := Lib.hid hty
  have HLEN := Lib.hid hlen
  have HR := Lib.hid hr
  have HRT := Lib.hid hrt
  have Lt := Lib.hid hT
  have Lw := Lib.hid hW
  have C0 := Lib.hid hc0
  have C1 := Lib.hid hc1
  have C2 := Lib.hid hc2
  have C3 := Lib.hid hc3
  have HCS := Lib.hid hCs
  have ct := cell_of_heap hT
  have ft := frz_of_heap hT
  have st := lt_of_heap hT
  have cw0 := (cell_of_heap hW (i * 4)).trans hc0
  have cw1 := (cell_of_heap hW (i * 4 + 1)).trans hc1
  have cw2 := (cell_of_heap hW (i * 4 + 2)).trans hc2
  have cw3 := (cell_of_heap hW (i * 4 + 3)).trans hc3
  have fw := frz_of_heap hW
  have sw := lt_of_heap hW
  have hxl : (xs.length : Int) ≤ 1000000 := hnx
  have hin : (i : Int) < (n : Int) := by omega
  have hge : decide ((xs.length : Int) ≥ (xs.length : Int)) = true := by simp
  have hxl : (xs.length : Int) ≤ 1000000 := hnx
  have hkn : (0 : Int) ≤ (xs.length : Int) := by omega
  skip
  have HN := Lib.hid hnat
  have HKN := Lib.hid (And.intro hkn hxl)
  clear hnat hT hW hc0 hc1 hc2 hc3 hm hty hlen hr hrt hxs hx2 hu8 hnx hCs
  subst hat
  go_enter Try.func70, Try.ntmps70
  go_wp2_with fail
  go_quiet (fail)
  go_wp2_with fail
  refine bodyPost_ret (v := .tuple #[]) (by simp [results, go_sem]) rfl ?_
  rw [writeS_end _ _ _ _ _ _ _ _ (by omega)]
  have hbw : ∀ ob1 ob2 q, Below w.heap.size w (((w.alloc ob1).alloc ob2).drewN q) := fun _ _ _ => blw_drewN (blw_alloc (blw_alloc (Below.refl _ _) _) _) _
  exact write_fin (vmA := .slice A cs.length c1) (wA := w) (C := C) hne (Keep.refl _ _) Lt.out Lw.out HM.out HTY.out HR.out HRT.out (Keep.of_below (hbw _ _ _)) (blk_keep (hbw _ _ _) sw Lw.out) rfl (fun _ _ => rfl) C0.out C1.out C2.out C3.out
set_option maxRecDepth 100000 in
set_option maxHeartbeats 4000000 in
theorem tab_write0 (l : Lay) (t : Tb) (tb wb n i : Nat) (xs : List Int) (s : Ws) (vr : Value) (C : Array Value) (vseen vwant vturns : Value) (w : World) (hne : tb ≠ wb)
    (hT : w.heap[tb]? = some (.cells { t with vw := .slice (some ⟨wb, 0, none⟩) n n, bad := s.bad }.cells 87 (0, 0)))
    (hW : w.heap[wb]? = some (.cells C 138 (0, 0))) (hCs : i * 4 + 4 ≤ C.size)
    (hc0 : C[i * 4]? = some (.int .i64 s.wr.nxt)) (hc1 : C[i * 4 + 1]? = some (.int .i64 s.wr.at_)) (hc2 : C[i * 4 + 2]? = some (.int .i64 s.wr.ver)) (hc3 : C[i * 4 + 3]? = some vr)
    (hr : SlR 5 Acc.cells w vr s.wr.rouse) (hrt : TyR 39 w vr)
    (hm : IntsR w t.vm s.cs) (hty : Typed w t.vm) (hlen : s.cs.length ≤ 1048576)
    (hp : WantI w vwant n i xs) (hnx : (xs.length : Int) ≤ 1000000) (hnat : n ≤ 1000000) (hat : s.wr.at_ = 0) (h2 : s.wr.nxt < (xs.length : Int)) (h0 : 0 ≤ s.wr.nxt) :
    Calls Try.prog 70 #[.pointer (some ⟨tb, 0, none⟩), l.v, .agg #[vseen, vwant, vturns], .int .i64 (i : Int)] w (WritePost { t with vw := .slice (some ⟨wb, 0, none⟩) n n, bad := s.bad } tb wb (i * 4) C w (writeS l xs (i : Int) s)) := by
  obtain ⟨vm, vw, tk, a, b', try_, stamp, karma, aborts, sv, wv, dv, vlog, told, tbad⟩ := t
  obtain ⟨cs, bad, nxt, at_, ver, rouse⟩ := s
  obtain ⟨b, o, c, v', rfl, hi, hv', hbl, hxs, hu8⟩ := hp
  obtain ⟨A2, c2, rfl, -, -, hx2⟩ := hxs.one
  simp only at *
  obtain ⟨k, hk⟩ : ∃ k : Nat, nxt = (k : Int) := ⟨nxt.toNat, by omega⟩
  have hkl : k < xs.length := by omega
  obtain ⟨b2, o2, rfl, hb2, hx3⟩ := hx2 (by intro e; subst e; simp at hkl)
  have hxk := hx3 k _ (List.getElem?_eq_getElem hkl)
  have hu := hu8 _ (List.getElem_mem hkl)
  have hwl : wantLoc xs (k : Int) = xs[k] % 3 := by
    rw [wantLoc, Int.toNat_natCast, List.getD_eq_getElem?_getD, List.getElem?_eq_getElem hkl, Option.getD_some, Int.tmod_eq_emod_of_nonneg hu.1]
  generalize xs[k] = x at hxk hu hwl
  obtain ⟨A, c1, rfl, -⟩ := hm.out
  obtain ⟨A4, c4, rfl, -⟩ := hr.out
  subst hk
  have HM := Lib.hid hm
  have HTY := Lib.hid hty
  have HLEN := Lib.hid hlen
  have HR := Lib.hid hr
  have HRT := Lib.hid hrt
  have Lt := Lib.hid hT
  have Lw := Lib.hid hW
  have C0 := Lib.hid hc0
  have C1 := Lib.hid hc1
  have C2 := Lib.hid hc2
  have C3 := Lib.hid hc3
  have HCS := Lib.hid hCs
  have ct := cell_of_heap hT
  have ft := frz_of_heap hT
  have st := lt_of_heap hT
  have cw0 := (cell_of_heap hW (i * 4)).trans hc0
  have cw1 := (cell_of_heap hW (i * 4 + 1)).trans hc1
  have cw2 := (cell_of_heap hW (i * 4 + 2)).trans hc2
  have cw3 := (cell_of_heap hW (i * 4 + 3)).trans hc3
  have fw := frz_of_heap hW
  have sw := lt_of_heap hW
  have hxl : (xs.length : Int) ≤ 1000000 := hnx
  have hcv : wrap64 x = x := by unfold wrap64; omega
  have hin : (i : Int) < (n : Int) := by omega
  have hkn : (k : Int) < (xs.length : Int) := by omega
  have hge : decide ((k : Int) ≥ (xs.length : Int)) = false := by simp; omega
  have hks : wrap64 ((k : Int) + 1) = (k : Int) + 1 := by unfold wrap64; omega
  obtain ⟨k0, hk0, hk0l⟩ := max_idx hkl (by omega)
  have hx0 := hx3 k0 _ (List.getElem?_eq_getElem hk0l)
  have hu0 := hu8 _ (List.getElem_mem hk0l)
  generalize xs[k0] = x0 at hx0 hu0
  have hcv0 : wrap64 x0 = x0 := by unfold wrap64; omega
  have hk0n : (k0 : Int) < (xs.length : Int) := by omega
  have HXK := Lib.hid hwl
  have HN := Lib.hid hnat
  have HKN := Lib.hid (And.intro hkn hxl)
  clear hnat hT hW hc0 hc1 hc2 hc3 hm hty hlen hr hrt hxs hx2 hx3 hu8 hnx hwl hCs
  subst hat
  have HK0 := Lib.hid hk0
  have HKS := Lib.hid hks
  clear hk0 hks
  go_enter Try.func70, Try.ntmps70
  go_wp2_with fail
  go_quiet (fail)
  go_wp2_with fail
  have hk0 := HK0.out
  go_quiet (fail)
  clear hk0
  go_wp2_with fail
  go_quiet (fail)
  go_wp2_with fail
  generalize hWd : World.drewN _ _ = W
  have b_q0 := congrArg (fun u : World => u.heap[w.heap.size]?) hWd
  try simp only [] at b_q0
  repeat (first | rw [hd_drew] at b_q0 | rw [hd_drewN] at b_q0 | rw [hs_ne _ _ _ _ _ (by omega)] at b_q0 | rw [ha_lt _ _ _ (by first | omega | (simp only [World.size_alloc, World.size_setCell, World.size_drew]; omega))] at b_q0 | rw [hs_same] at b_q0)
  rw [ha_new _ _ _ (by first | rfl | simp only [World.size_alloc, World.size_setCell, World.size_drew])] at b_q0
  try simp only [Option.map_some, putO, List.setIfInBounds_toArray, List.set_cons_zero, List.set_cons_succ] at b_q0
  have Lq0 := Lib.hid b_q0.symm
  clear b_q0
  have cq0 := cell_of_heap Lq0.out
  have fq0 := frz_of_heap Lq0.out
  have sq0 := lt_of_heap Lq0.out
  have hbw : Below w.heap.size w W := by subst hWd; exact blw_drewN (blw_alloc (blw_alloc (Below.refl _ _) _) _) _
  clear hWd
  refine (ref_Word l (x % 3) W).mono ?_
  rintro e w1 ⟨rfl, hb1⟩
  have HB1 := Lib.hid (blw_then hbw hb1)
  replace Lq0 := Lib.hid ((hb1.block _ (lt_of_heap Lq0.out)).trans Lq0.out)
  replace cq0 := cell_of_heap Lq0.out
  replace fq0 := frz_of_heap Lq0.out
  replace sq0 := lt_of_heap Lq0.out
  replace Lt := Lib.hid (blk_keep HB1.out st Lt.out)
  replace Lw := Lib.hid (blk_keep HB1.out sw Lw.out)
  replace HM := Lib.hid (HM.out.below HB1.out)
  replace HTY := Lib.hid (HTY.out.below HB1.out)
  replace HR := Lib.hid (HR.out.below HB1.out)
  replace HRT := Lib.hid (HRT.out.below HB1.out)
  replace ct := cell_of_heap Lt.out
  replace ft := frz_of_heap Lt.out
  replace cw0 := (cell_of_heap Lw.out (i * 4)).trans C0.out
  replace cw1 := (cell_of_heap Lw.out (i * 4 + 1)).trans C1.out
  replace cw2 := (cell_of_heap Lw.out (i * 4 + 2)).trans C2.out
  replace cw3 := (cell_of_heap Lw.out (i * 4 + 3)).trans C3.out
  replace fw := frz_of_heap Lw.out
  have st1 := lt_of_heap Lt.out
  have sw1 := lt_of_heap Lw.out
  clear hb1 hbw
  go_wp2_with fail
  refine (tab_access ⟨.slice A cs.length c1, .slice (some ⟨wb, 0, none⟩) n n, tk, a, b', try_, stamp, karma, aborts, sv, wv, dv, vlog, told, bad⟩ tb ⟨1, cellP l.loc l.locs (x % 3) 4 0, 0, 0, ⟨#[]⟩⟩ cs _ Lt.out HM.out HTY.out HLEN.out).mono ?_
  rintro e w2 ⟨vm2, rfl, hk2, hT2, hI2, hty2⟩
  obtain ⟨R, hR⟩ : ∃ R, R = memDo cs ⟨1, cellP l.loc l.locs (x % 3) 4 0, 0, 0, ⟨#[]⟩⟩ := ⟨_, rfl⟩
  rw [← hR] at hT2 hI2 ⊢
  generalize hrv : (if R.2.2 = 0 then R.2.1.val else 0) = rv
  generalize hrk : (if R.2.2 = 0 then R.2.1.ok else false) = rk
  generalize hrb : (if R.2.2 = 0 then bad else true) = rb at hT2
  have HAC := Lib.hid (acc_parts hR hrv hrk hrb)
  clear hR hrv hrk hrb
  have K2 := Lib.hid ((Keep.of_below (X := (· = tb)) HB1.out).trans hk2)
  have T2 := Lib.hid hT2
  have I2 := Lib.hid hI2
  have Y2 := Lib.hid hty2
  have W2 := Lib.hid ((hk2.block wb sw1 (fun e => hne e.symm)).trans Lw.out)
  have R2 := Lib.hid (HR.out.keepT HRT.out hk2 (by
    rintro b' rfl _ c' fr' e'
    rw [Lt.out] at e'; simp at e'))
  have Lq2 := Lib.hid ((hk2.block w.heap.size sq0 (by omega)).trans Lq0.out)
  have cq2 := cell_of_heap Lq2.out
  have fq2 := frz_of_heap Lq2.out
  have sq2 := lt_of_heap Lq2.out
  clear cq0 fq0 sq0
  replace cw0 := (cell_of_heap W2.out (i * 4)).trans C0.out
  replace cw1 := (cell_of_heap W2.out (i * 4 + 1)).trans C1.out
  replace cw2 := (cell_of_heap W2.out (i * 4 + 2)).trans C2.out
  replace cw3 := (cell_of_heap W2.out (i * 4 + 3)).trans C3.out
  replace fw := frz_of_heap W2.out
  replace sw := lt_of_heap W2.out
  clear hk2 hT2 hI2 hty2 ct ft
  clear hge
  by_cases hev : rv.tmod 2 = 0
  · have hb : (rv.tmod 2 == 0) = true := by simp [hev]
    have HEV := Lib.hid hev
    clear hev
    go_wp2_with fail
    refine bodyPost_ret (v := .tuple #[]) (by simp [results, go_sem]) rfl ?_
    obtain ⟨hA1, hA2, hA3⟩ := HAC.out
    rw [(writeS_0 _ _ _ _ _ _ _ _ (by omega))]
    rw [HXK.out, hA1, hA2, hA3, if_pos HEV.out]
    obtain ⟨hs0, hs1, hs2, hs3⟩ := four_sizes HCS.out
    have c0' := C0.out
    have c1' := C1.out
    have c2' := C2.out
    have c3' := C3.out
    have WA := W2
    refine write_fin (vmA := vm2) (wA := w2) (C := C) hne K2.out T2.out W2.out I2.out Y2.out R2.out.1 R2.out.2 (C' := ?CCP) ?hkP ?hcP ?hsP ?hoP ?h0P ?h1P ?h2P ?h3P
    case hcP =>
      repeat (first | rw [hs_same] | rw [hs_ne _ _ _ _ _ (by omega)] | rw [ha_lt _ _ _ (by first | omega | (simp only [World.size_alloc, World.size_setCell]; omega))] | rw [hd_drew])
      rw [WA.out]
      try rfl
    case hkP =>
      with_reducible repeat (first | refine Keep.setCell ?_ _ (by first | exact .inr rfl | exact .inl (by simp only []; omega)) | refine Keep.alloc ?_ _ | refine Keep.drew ?_)
      exact Keep.refl _ _
    case hsP => first | rfl | simp only [Array.size_setIfInBounds]
    case hoP =>
      intro k' hk'
      with_reducible repeat (first | refine out_set 1 (by decide) hk' ?_ | refine out_set 2 (by decide) hk' ?_ | refine out_set 3 (by decide) hk' ?_ | refine out_set0 hk' ?_)
      rfl
    all_goals (
      with_reducible repeat (first | exact c0' | exact c1' | exact c2' | exact c3' | refine get_same ?_ | refine get_ne (by decide) ?_ | refine get_ne0 (by decide) ?_ | refine get_0ne (by decide) ?_)
      try (with_reducible repeat (refine size_le ?_))
      try (first | exact hs0 | exact hs1 | exact hs2 | exact hs3))
  · have hb : (rv.tmod 2 == 0) = false := by simp [hev]
    have HEV := Lib.hid hev
    clear hev
    go_wp2_with fail
    refine bodyPost_ret (v := .tuple #[]) (by simp [results, go_sem]) rfl ?_
    obtain ⟨hA1, hA2, hA3⟩ := HAC.out
    rw [(writeS_0 _ _ _ _ _ _ _ _ (by omega))]
    rw [HXK.out, hA1, hA2, hA3, if_neg HEV.out]
    obtain ⟨hs0, hs1, hs2, hs3⟩ := four_sizes HCS.out
    have c0' := C0.out
    have c1' := C1.out
    have c2' := C2.out
    have c3' := C3.out
    have WA := W2
    refine write_fin (vmA := vm2) (wA := w2) (C := C) hne K2.out T2.out W2.out I2.out Y2.out R2.out.1 R2.out.2 (C' := ?CCN) ?hkN ?hcN ?hsN ?hoN ?h0N ?h1N ?h2N ?h3N
    case hcN =>
      repeat (first | rw [hs_same] | rw [hs_ne _ _ _ _ _ (by omega)] | rw [ha_lt _ _ _ (by first | omega | (simp only [World.size_alloc, World.size_setCell]; omega))] | rw [hd_drew])
      rw [WA.out]
      try rfl
    case hkN =>
      with_reducible repeat (first | refine Keep.setCell ?_ _ (by first | exact .inr rfl | exact .inl (by simp only []; omega)) | refine Keep.alloc ?_ _ | refine Keep.drew ?_)
      exact Keep.refl _ _
    case hsN => first | rfl | simp only [Array.size_setIfInBounds]
    case hoN =>
      intro k' hk'
      with_reducible repeat (first | refine out_set 1 (by decide) hk' ?_ | refine out_set 2 (by decide) hk' ?_ | refine out_set 3 (by decide) hk' ?_ | refine out_set0 hk' ?_)
      rfl
    all_goals (
      with_reducible repeat (first | exact c0' | exact c1' | exact c2' | exact c3' | refine get_same ?_ | refine get_ne (by decide) ?_ | refine get_ne0 (by decide) ?_ | refine get_0ne (by decide) ?_)
      try (with_reducible repeat (refine size_le ?_))
      try (first | exact hs0 | exact hs1 | exact hs2 | exact hs3))
set_option maxRecDepth 100000 in
set_option maxHeartbeats 4000000 in
theorem tab_write5 (l : Lay) (t : Tb) (tb wb n i : Nat) (xs : List Int) (s : Ws) (vr : Value) (C : Array Value) (vseen vwant vturns : Value) (w : World) (hne : tb ≠ wb)
    (hT : w.heap[tb]? = some (.cells { t with vw := .slice (some ⟨wb, 0, none⟩) n n, bad := s.bad }.cells 87 (0, 0)))
    (hW : w.heap[wb]? = some (.cells C 138 (0, 0))) (hCs : i * 4 + 4 ≤ C.size)
    (hc0 : C[i * 4]? = some (.int .i64 s.wr.nxt)) (hc1 : C[i * 4 + 1]? = some (.int .i64 s.wr.at_)) (hc2 : C[i * 4 + 2]? = some (.int .i64 s.wr.ver)) (hc3 : C[i * 4 + 3]? = some vr)
    (hr : SlR 5 Acc.cells w vr s.wr.rouse) (hrt : TyR 39 w vr)
    (hm : IntsR w t.vm s.cs) (hty : Typed w t.vm) (hlen : s.cs.length ≤ 1048576)
    (hp : WantI w vwant n i xs) (hnx : (xs.length : Int) ≤ 1000000) (hnat : n ≤ 1000000) (hat : s.wr.at_ < 0 ∨ 5 ≤ s.wr.at_) (h1 : 1 ≤ s.wr.nxt) (h2 : s.wr.nxt ≤ (xs.length : Int)) :
    Calls Try.prog 70 #[.pointer (some ⟨tb, 0, none⟩), l.v, .agg #[vseen, vwant, vturns], .int .i64 (i : Int)] w (WritePost { t with vw := .slice (some ⟨wb, 0, none⟩) n n, bad := s.bad } tb wb (i * 4) C w (writeS l xs (i : Int) s)) := by
  obtain ⟨vm, vw, tk, a, b', try_, stamp, karma, aborts, sv, wv, dv, vlog, told, tbad⟩ := t
  obtain ⟨cs, bad, nxt, at_, ver, rouse⟩ := s
  obtain ⟨b, o, c, v', rfl, hi, hv', hbl, hxs, hu8⟩ := hp
  obtain ⟨A2, c2, rfl, -, -, hx2⟩ := hxs.one
  simp only at *
  obtain ⟨k, hk⟩ : ∃ k : Nat, nxt = (k : Int) + 1 := ⟨(nxt - 1).toNat, by omega⟩
  have hkl : k < xs.length := by omega
  obtain ⟨b2, o2, rfl, hb2, hx3⟩ := hx2 (by intro e; subst e; simp at hkl)
  have hxk := hx3 k _ (List.getElem?_eq_getElem hkl)
  have hu := hu8 _ (List.getElem_mem hkl)
  have hwl : wantLoc xs (k : Int) = xs[k] % 3 := by
    rw [wantLoc, Int.toNat_natCast, List.getD_eq_getElem?_getD, List.getElem?_eq_getElem hkl, Option.getD_some, Int.tmod_eq_emod_of_nonneg hu.1]
  generalize xs[k] = x at hxk hu hwl
  obtain ⟨A, c1, rfl, -⟩ := hm.out
  obtain ⟨A4, c4, rfl, -⟩ := hr.out
  subst hk
  have HM := Lib.hid hm
  have HTY := Lib.hid hty
  have HLEN := Lib.hid hlen
  have HR := Lib.hid hr
  have HRT := Lib.hid hrt
  have Lt := Lib.hid hT
  have Lw := Lib.hid hW
  have C0 := Lib.hid hc0
  have C1 := Lib.hid hc1
  have C2 := Lib.hid hc2
  have C3 := Lib.hid hc3
  have HCS := Lib.hid hCs
  have ct := cell_of_heap hT
  have ft := frz_of_heap hT
  have st := lt_of_heap hT
  have cw0 := (cell_of_heap hW (i * 4)).trans hc0
  have cw1 := (cell_of_heap hW (i * 4 + 1)).trans hc1
  have cw2 := (cell_of_heap hW (i * 4 + 2)).trans hc2
  have cw3 := (cell_of_heap hW (i * 4 + 3)).trans hc3
  have fw := frz_of_heap hW
  have sw := lt_of_heap hW
  have hxl : (xs.length : Int) ≤ 1000000 := hnx
  have hcv : wrap64 x = x := by unfold wrap64; omega
  have hin : (i : Int) < (n : Int) := by omega
  have hkn : (k : Int) < (xs.length : Int) := by omega
  have hk1 : wrap64 ((k : Int) + 1 - 1) = (k : Int) := by unfold wrap64; omega
  have HXK := Lib.hid hwl
  have HN := Lib.hid hnat
  have HKN := Lib.hid (And.intro hkn hxl)
  clear hnat hT hW hc0 hc1 hc2 hc3 hm hty hlen hr hrt hxs hx2 hx3 hu8 hnx hwl hCs
  have b0 : (at_ == 0) = false := by simp; omega
  have b1 : (at_ == 1) = false := by simp; omega
  have b2' : (at_ == 2) = false := by simp; omega
  have b3 : (at_ == 3) = false := by simp; omega
  have b4 : (at_ == 4) = false := by simp; omega
  have HAT := Lib.hid hat
  clear hat
  cases rouse with
  | nil =>
    go_enter Try.func70, Try.ntmps70
    go_wp2_with fail
    go_quiet (fail)
    go_wp2_with fail
    go_quiet (fail)
    go_wp2_with fail
    generalize hWd : World.drewN _ _ = W
    have b_q0 := congrArg (fun u : World => u.heap[w.heap.size]?) hWd
    try simp only [] at b_q0
    repeat (first | rw [hd_drew] at b_q0 | rw [hd_drewN] at b_q0 | rw [hs_ne _ _ _ _ _ (by omega)] at b_q0 | rw [ha_lt _ _ _ (by first | omega | (simp only [World.size_alloc, World.size_setCell, World.size_drew]; omega))] at b_q0 | rw [hs_same] at b_q0)
    rw [ha_new _ _ _ (by first | rfl | simp only [World.size_alloc, World.size_setCell, World.size_drew])] at b_q0
    try simp only [Option.map_some, putO, List.setIfInBounds_toArray, List.set_cons_zero, List.set_cons_succ] at b_q0
    have Lq0 := Lib.hid b_q0.symm
    clear b_q0
    have cq0 := cell_of_heap Lq0.out
    have fq0 := frz_of_heap Lq0.out
    have sq0 := lt_of_heap Lq0.out
    have hbw : Below w.heap.size w W := by subst hWd; exact blw_drewN (blw_alloc (blw_alloc (Below.refl _ _) _) _) _
    clear hWd
    refine (ref_Word l (x % 3) W).mono ?_
    rintro e w1 ⟨rfl, hb1⟩
    have HB1 := Lib.hid (blw_then hbw hb1)
    replace Lq0 := Lib.hid ((hb1.block _ (lt_of_heap Lq0.out)).trans Lq0.out)
    replace cq0 := cell_of_heap Lq0.out
    replace fq0 := frz_of_heap Lq0.out
    replace sq0 := lt_of_heap Lq0.out
    replace Lt := Lib.hid (blk_keep HB1.out st Lt.out)
    replace Lw := Lib.hid (blk_keep HB1.out sw Lw.out)
    replace HM := Lib.hid (HM.out.below HB1.out)
    replace HTY := Lib.hid (HTY.out.below HB1.out)
    replace HR := Lib.hid (HR.out.below HB1.out)
    replace HRT := Lib.hid (HRT.out.below HB1.out)
    replace ct := cell_of_heap Lt.out
    replace ft := frz_of_heap Lt.out
    replace cw0 := (cell_of_heap Lw.out (i * 4)).trans C0.out
    replace cw1 := (cell_of_heap Lw.out (i * 4 + 1)).trans C1.out
    replace cw2 := (cell_of_heap Lw.out (i * 4 + 2)).trans C2.out
    replace cw3 := (cell_of_heap Lw.out (i * 4 + 3)).trans C3.out
    replace fw := frz_of_heap Lw.out
    have st1 := lt_of_heap Lt.out
    have sw1 := lt_of_heap Lw.out
    clear hb1 hbw
    go_wp2_with fail
    refine bodyPost_ret (v := .tuple #[]) (by simp [results, go_sem]) rfl ?_
    rw [writeS_5n _ _ _ _ _ _ _ _ HAT.out]
    obtain ⟨hs0, hs1, hs2, hs3⟩ := four_sizes HCS.out
    refine write_fin (vmA := .slice A cs.length c1) (wA := w1) (C := C) hne (Keep.of_below HB1.out) Lt.out Lw.out HM.out HTY.out HR.out HRT.out (C' := C.setIfInBounds (i * 4 + 1) (.int .i64 0)) (Keep.setCell (Keep.refl _ _) _ (.inr rfl)) (by rw [hs_same, Lw.out]; rfl) (by simp) (fun k' hk' => out_set 1 (by decide) hk' rfl) (get_0ne (by decide) C0.out) (get_same hs1) (get_ne (by decide) C2.out) (get_ne (by decide) C3.out)
  | cons ac rest =>
    obtain ⟨A4', c4', hA4, hc4, -, hA4'⟩ := HR.out.out
    obtain ⟨br, ob, hbr, hbrl, hcell⟩ := hA4' (by simp)
    subst hbr
    simp only [Value.slice.injEq] at hA4
    obtain ⟨rfl, -, rfl⟩ := hA4
    obtain ⟨ak, acl, ao, an, ab⟩ := ac
    have hr0 := hcell 0 _ rfl
    have cr0 : w.cell? ⟨br, ob, none⟩ = some (.int .i64 ak) := by simpa using hr0 0 _ rfl
    have cr1 : w.cell? ⟨br, ob + 1, none⟩ = some (.int .i64 acl) := by simpa using hr0 1 _ rfl
    have cr2 : w.cell? ⟨br, ob + 2, none⟩ = some (.int .i64 ao) := by simpa using hr0 2 _ rfl
    have cr3 : w.cell? ⟨br, ob + 3, none⟩ = some (.int .i64 an) := by simpa using hr0 3 _ rfl
    have cr4 : w.cell? ⟨br, ob + 4, none⟩ = some (.string ab) := by simpa using hr0 4 _ rfl
    have CR := Lib.hid (And.intro cr0 (And.intro cr1 (And.intro cr2 (And.intro cr3 cr4))))
    simp only [List.length_cons] at cw3 hc4
    have HC4 := Lib.hid hc4
    have HBR := Lib.hid hbrl
    clear hr0 hcell hA4' cr0 cr1 cr2 cr3 cr4 hc4 hbrl
    go_enter Try.func70, Try.ntmps70
    go_wp2_with fail
    go_quiet (fail)
    go_wp2_with fail
    go_quiet (fail)
    go_wp2_with fail
    generalize hWd : World.drewN _ _ = W
    have b_q0 := congrArg (fun u : World => u.heap[w.heap.size]?) hWd
    try simp only [] at b_q0
    repeat (first | rw [hd_drew] at b_q0 | rw [hd_drewN] at b_q0 | rw [hs_ne _ _ _ _ _ (by omega)] at b_q0 | rw [ha_lt _ _ _ (by first | omega | (simp only [World.size_alloc, World.size_setCell, World.size_drew]; omega))] at b_q0 | rw [hs_same] at b_q0)
    rw [ha_new _ _ _ (by first | rfl | simp only [World.size_alloc, World.size_setCell, World.size_drew])] at b_q0
    try simp only [Option.map_some, putO, List.setIfInBounds_toArray, List.set_cons_zero, List.set_cons_succ] at b_q0
    have Lq0 := Lib.hid b_q0.symm
    clear b_q0
    have cq0 := cell_of_heap Lq0.out
    have fq0 := frz_of_heap Lq0.out
    have sq0 := lt_of_heap Lq0.out
    have hbw : Below w.heap.size w W := by subst hWd; exact blw_drewN (blw_alloc (blw_alloc (Below.refl _ _) _) _) _
    clear hWd
    refine (ref_Word l (x % 3) W).mono ?_
    rintro e w1 ⟨rfl, hb1⟩
    have HB1 := Lib.hid (blw_then hbw hb1)
    replace Lq0 := Lib.hid ((hb1.block _ (lt_of_heap Lq0.out)).trans Lq0.out)
    replace cq0 := cell_of_heap Lq0.out
    replace fq0 := frz_of_heap Lq0.out
    replace sq0 := lt_of_heap Lq0.out
    replace Lt := Lib.hid (blk_keep HB1.out st Lt.out)
    replace Lw := Lib.hid (blk_keep HB1.out sw Lw.out)
    replace HM := Lib.hid (HM.out.below HB1.out)
    replace HTY := Lib.hid (HTY.out.below HB1.out)
    replace HR := Lib.hid (HR.out.below HB1.out)
    replace HRT := Lib.hid (HRT.out.below HB1.out)
    replace ct := cell_of_heap Lt.out
    replace ft := frz_of_heap Lt.out
    replace cw0 := (cell_of_heap Lw.out (i * 4)).trans C0.out
    replace cw1 := (cell_of_heap Lw.out (i * 4 + 1)).trans C1.out
    replace cw2 := (cell_of_heap Lw.out (i * 4 + 2)).trans C2.out
    replace cw3 := (cell_of_heap Lw.out (i * 4 + 3)).trans C3.out
    replace fw := frz_of_heap Lw.out
    have st1 := lt_of_heap Lt.out
    have sw1 := lt_of_heap Lw.out
    clear hb1 hbw
    have cr0 := (cell_keep HB1.out HBR.out).trans CR.out.1
    have cr1 := (cell_keep HB1.out HBR.out).trans CR.out.2.1
    have cr2 := (cell_keep HB1.out HBR.out).trans CR.out.2.2.1
    have cr3 := (cell_keep HB1.out HBR.out).trans CR.out.2.2.2.1
    have cr4 := (cell_keep HB1.out HBR.out).trans CR.out.2.2.2.2
    have hrl : decide ((0 : Int) < (rest.length : Int) + 1) = true := by first | (simp; done) | (simp; omega)
    go_wp2_with fail
    refine (tab_access ⟨.slice A cs.length c1, .slice (some ⟨wb, 0, none⟩) n n, tk, a, b', try_, stamp, karma, aborts, sv, wv, dv, vlog, told, bad⟩ tb ⟨ak, acl, ao, an, ab⟩ cs _ Lt.out HM.out HTY.out HLEN.out).mono ?_
    rintro e w2 ⟨vm2, rfl, hk2, hT2, hI2, hty2⟩
    obtain ⟨R, hR⟩ : ∃ R, R = memDo cs ⟨ak, acl, ao, an, ab⟩ := ⟨_, rfl⟩
    rw [← hR] at hT2 hI2 ⊢
    generalize hrv : (if R.2.2 = 0 then R.2.1.val else 0) = rv
    generalize hrk : (if R.2.2 = 0 then R.2.1.ok else false) = rk
    generalize hrb : (if R.2.2 = 0 then bad else true) = rb at hT2
    have HAC := Lib.hid (acc_parts hR hrv hrk hrb)
    clear hR hrv hrk hrb
    have K2 := Lib.hid ((Keep.of_below (X := (· = tb)) HB1.out).trans hk2)
    have T2 := Lib.hid hT2
    have I2 := Lib.hid hI2
    have Y2 := Lib.hid hty2
    have W2 := Lib.hid ((hk2.block wb sw1 (fun e => hne e.symm)).trans Lw.out)
    have R2 := Lib.hid (HR.out.keepT HRT.out hk2 (by
      rintro b' rfl _ c' fr' e'
      rw [Lt.out] at e'; simp at e'))
    replace cw0 := (cell_of_heap W2.out (i * 4)).trans C0.out
    replace cw1 := (cell_of_heap W2.out (i * 4 + 1)).trans C1.out
    replace cw2 := (cell_of_heap W2.out (i * 4 + 2)).trans C2.out
    replace cw3 := (cell_of_heap W2.out (i * 4 + 3)).trans C3.out
    replace fw := frz_of_heap W2.out
    replace sw := lt_of_heap W2.out
    clear hk2 hT2 hI2 hty2 ct ft
    simp only [List.length_cons] at cw3
    have hc4 := HC4.out
    cases rest with
    | nil =>
      have hcc : c4 = 1 ∨ 2 ≤ c4 := by simp only [List.length_nil] at hc4; omega
      rcases hcc with rfl | hc2
      · replace R2 := Lib.hid (And.intro (SlR.nilAt (enc := Acc.cells) (m := 5) (w := w2) (some ⟨br, ob, none⟩) 0) (show TyR 39 w2 (.slice (some ⟨br, ob, none⟩) 0 0) from fun b' hb' => R2.out.2 b' hb'))
        go_wp2_with fail
        refine bodyPost_ret (v := .tuple #[]) (by simp [results, go_sem]) rfl ?_
        obtain ⟨hA1, hA2, hA3⟩ := HAC.out
        rw [(writeS_5c _ _ _ _ _ _ _ _ _ HAT.out _)]
        rw [hA1, hA3, if_pos rfl]
        obtain ⟨hs0, hs1, hs2, hs3⟩ := four_sizes HCS.out
        have c0' := C0.out
        have c1' := C1.out
        have c2' := C2.out
        have c3' := C3.out
        have WA := W2
        refine write_fin (vmA := vm2) (wA := w2) (C := C) hne K2.out T2.out W2.out I2.out Y2.out R2.out.1 R2.out.2 (C' := ?CCP) ?hkP ?hcP ?hsP ?hoP ?h0P ?h1P ?h2P ?h3P
        case hcP =>
          repeat (first | rw [hs_same] | rw [hs_ne _ _ _ _ _ (by omega)] | rw [ha_lt _ _ _ (by first | omega | (simp only [World.size_alloc, World.size_setCell]; omega))] | rw [hd_drew])
          rw [WA.out]
          try rfl
        case hkP =>
          with_reducible repeat (first | refine Keep.setCell ?_ _ (by first | exact .inr rfl | exact .inl (by simp only []; omega)) | refine Keep.alloc ?_ _ | refine Keep.drew ?_)
          exact Keep.refl _ _
        case hsP => first | rfl | simp only [Array.size_setIfInBounds]
        case hoP =>
          intro k' hk'
          with_reducible repeat (first | refine out_set 1 (by decide) hk' ?_ | refine out_set 2 (by decide) hk' ?_ | refine out_set 3 (by decide) hk' ?_ | refine out_set0 hk' ?_)
          rfl
        all_goals (
          with_reducible repeat (first | exact c0' | exact c1' | exact c2' | exact c3' | refine get_same ?_ | refine get_ne (by decide) ?_ | refine get_ne0 (by decide) ?_ | refine get_0ne (by decide) ?_)
          try (with_reducible repeat (refine size_le ?_))
          try (first | exact hs0 | exact hs1 | exact hs2 | exact hs3))
      · replace R2 := Lib.hid (And.intro (show SlR 5 Acc.cells w2 (.slice (some ⟨br, ob + 5, none⟩) 0 (c4 - 1)) [] from SlR.tail R2.out.1) (show TyR 39 w2 (.slice (some ⟨br, ob + 5, none⟩) 0 (c4 - 1)) from fun b' hb' => R2.out.2 b' hb'))
        go_wp2_with fail
        all_goals try (exfalso; omega)
        refine bodyPost_ret (v := .tuple #[]) (by simp [results, go_sem]) rfl ?_
        obtain ⟨hA1, hA2, hA3⟩ := HAC.out
        rw [(writeS_5c _ _ _ _ _ _ _ _ _ HAT.out _)]
        rw [hA1, hA3, if_pos rfl]
        obtain ⟨hs0, hs1, hs2, hs3⟩ := four_sizes HCS.out
        have c0' := C0.out
        have c1' := C1.out
        have c2' := C2.out
        have c3' := C3.out
        have WA := W2
        refine write_fin (vmA := vm2) (wA := w2) (C := C) hne K2.out T2.out W2.out I2.out Y2.out R2.out.1 R2.out.2 (C' := ?CCQ) ?hkQ ?hcQ ?hsQ ?hoQ ?h0Q ?h1Q ?h2Q ?h3Q
        case hcQ =>
          repeat (first | rw [hs_same] | rw [hs_ne _ _ _ _ _ (by omega)] | rw [ha_lt _ _ _ (by first | omega | (simp only [World.size_alloc, World.size_setCell]; omega))] | rw [hd_drew])
          rw [WA.out]
          try rfl
        case hkQ =>
          with_reducible repeat (first | refine Keep.setCell ?_ _ (by first | exact .inr rfl | exact .inl (by simp only []; omega)) | refine Keep.alloc ?_ _ | refine Keep.drew ?_)
          exact Keep.refl _ _
        case hsQ => first | rfl | simp only [Array.size_setIfInBounds]
        case hoQ =>
          intro k' hk'
          with_reducible repeat (first | refine out_set 1 (by decide) hk' ?_ | refine out_set 2 (by decide) hk' ?_ | refine out_set 3 (by decide) hk' ?_ | refine out_set0 hk' ?_)
          rfl
        all_goals (
          with_reducible repeat (first | exact c0' | exact c1' | exact c2' | exact c3' | refine get_same ?_ | refine get_ne (by decide) ?_ | refine get_ne0 (by decide) ?_ | refine get_0ne (by decide) ?_)
          try (with_reducible repeat (refine size_le ?_))
          try (first | exact hs0 | exact hs1 | exact hs2 | exact hs3))
    | cons a2 rest =>
      have hc2 : 2 ≤ c4 := by simp only [List.length_cons] at hc4; omega
      replace R2 := Lib.hid (And.intro (show SlR 5 Acc.cells w2 (.slice (some ⟨br, ob + 5, none⟩) (rest.length + 1) (c4 - 1)) (a2 :: rest) from SlR.tail R2.out.1) (show TyR 39 w2 (.slice (some ⟨br, ob + 5, none⟩) (rest.length + 1) (c4 - 1)) from fun b' hb' => R2.out.2 b' hb'))
      go_wp2_with fail
      all_goals try (exfalso; omega)
      refine bodyPost_ret (v := .tuple #[]) (by simp [results, go_sem]) rfl ?_
      obtain ⟨hA1, hA2, hA3⟩ := HAC.out
      rw [(writeS_5c _ _ _ _ _ _ _ _ _ HAT.out _)]
      rw [hA1, hA3, if_neg (by simp)]
      obtain ⟨hs0, hs1, hs2, hs3⟩ := four_sizes HCS.out
      have c0' := C0.out
      have c1' := C1.out
      have c2' := C2.out
      have c3' := C3.out
      have WA := W2
      refine write_fin (vmA := vm2) (wA := w2) (C := C) hne K2.out T2.out W2.out I2.out Y2.out R2.out.1 R2.out.2 (C' := ?CCR) ?hkR ?hcR ?hsR ?hoR ?h0R ?h1R ?h2R ?h3R
      case hcR =>
        repeat (first | rw [hs_same] | rw [hs_ne _ _ _ _ _ (by omega)] | rw [ha_lt _ _ _ (by first | omega | (simp only [World.size_alloc, World.size_setCell]; omega))] | rw [hd_drew])
        rw [WA.out]
        try rfl
      case hkR =>
        with_reducible repeat (first | refine Keep.setCell ?_ _ (by first | exact .inr rfl | exact .inl (by simp only []; omega)) | refine Keep.alloc ?_ _ | refine Keep.drew ?_)
        exact Keep.refl _ _
      case hsR => first | rfl | simp only [Array.size_setIfInBounds]
      case hoR =>
        intro k' hk'
        with_reducible repeat (first | refine out_set 1 (by decide) hk' ?_ | refine out_set 2 (by decide) hk' ?_ | refine out_set 3 (by decide) hk' ?_ | refine out_set0 hk' ?_)
        rfl
      all_goals (
        with_reducible repeat (first | exact c0' | exact c1' | exact c2' | exact c3' | refine get_same ?_ | refine get_ne (by decide) ?_ | refine get_ne0 (by decide) ?_ | refine get_0ne (by decide) ?_)
        try (with_reducible repeat (refine size_le ?_))
        try (first | exact hs0 | exact hs1 | exact hs2 | exact hs3))
end Go.Proofs.Ytpfibcbeenogiaa
