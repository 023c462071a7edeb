/- Package wait, walked: watch and sleep. -/
import Derived.Test.YtpfibcbeenogiaaWaitSame
import Derived.Test.YtpfibcbeenogiaaTail
import Derived.Test.YtpfibcbeenogiaaAfter
namespace Go.Proofs.Ytpfibcbeenogiaa
open Go.RowKit
attribute [local go_sem] Oper.semAt_some
set_option linter.unusedSimpArgs false
set_option linter.unusedVariables false
def watchM (l : Lay) (me : Int) (seen : List Sn) : M Bool := (storeM (cellP l.thd l.thr me 4 2) 0).bind fun _ => (putAllM l me seen).bind fun _ => (sameM l seen).bind fun b => if b then M.ret true else (outAllM l me seen).bind fun _ => M.ret false
def sleepM (l : Lay) (me : Int) (seen : List Sn) : M Bool := (loadM (cellP l.thd l.thr me 4 2)).bind fun n => if n = 0 then M.ret false else (outAllM l me seen).bind fun _ => M.ret true
theorem storeM_some {cell n : Int} {log : List Rs} {k : Nat} {r : Rs} (h : log[k]? = some r) : storeM cell n log k = .ok ((), k + 1) := by simp [storeM, M.map, M.bind, M.ret, doM, h]
theorem storeM_none {cell n : Int} {log : List Rs} {k : Nat} (h : log[k]? = none) : storeM cell n log k = .error (accStore cell n) := by simp [storeM, M.map, M.bind, doM, h]
theorem loadM_some {cell : Int} {log : List Rs} {k : Nat} {r : Rs} (h : log[k]? = some r) : loadM cell log k = .ok (r.val, k + 1) := by simp [loadM, M.map, M.bind, M.ret, doM, h]
theorem loadM_none {cell : Int} {log : List Rs} {k : Nat} (h : log[k]? = none) : loadM cell log k = .error (accLoad cell) := by simp [loadM, M.map, M.bind, doM, h]
set_option maxHeartbeats 2000000 in
set_option maxRecDepth 100000 in
theorem wait_watch (l : Lay) (me : Int) (o : OpV) (ba bl : Nat) (vlog : Value) (log : List Rs) (seen : List Sn) (k : Nat) (w : World)
    (hD : DoAt w ba bl vlog log k) (hseen : SlR 3 Sn.cells w o.seen seen) (hwr : IsSl o.writes) (hdu : IsSl o.durable) (hsep : seen ≠ [] → ∀ b, o.seen.ownBlock = some b → ¬ b = ba) :
    Calls Try.prog 62 #[.agg (slpC ba bl l me o)] w (Runs w ba log k (watchM l me seen) (fun b => .bool b)) := by
  have HSN := Lib.hid hseen
  have HWR := Lib.hid hwr
  have HDU := Lib.hid hdu
  have HSEP := Lib.hid hsep
  have HD := Lib.hid hD
  obtain ⟨A0, c0, hs0, -⟩ := hseen.out
  obtain ⟨A1, n1, c1, hw1⟩ := hwr
  obtain ⟨A2, n2, c2, hd2⟩ := hdu
  clear hD hseen hsep
  obtain ⟨kind, a, b, try_, stamp, karma, aborts, sv, wv, dv⟩ := o
  simp only at hs0 hw1 hd2 HSN HWR HDU HSEP
  subst hs0 hw1 hd2
  refine calls_of_wpB Try.func62 rfl fun fr hfn hro => ?_
  simp only [Try.ntmps62, List.size_toArray, List.length_cons, List.length_nil, Nat.reduceAdd, Nat.reduceSub, Array.replicate_succ, Array.replicate_zero, List.push_toArray, List.append_toArray, List.nil_append, List.cons_append]
  obtain ⟨Q, hQ⟩ : ∃ Q, Q = bodyPostM Fence.wide 0 Try.prog Try.f62 (Runs w ba log k (watchM l me seen) (fun b => .bool b)) := ⟨_, rfl⟩
  rw [← hQ]
  have HQ := Lib.hid hQ
  clear hQ
  refine wpB_seq_k hro fun K hK => ?_
  go_wp2
  generalize hW : w.alloc _ = W1
  have b_s := congrArg (fun u : World => u.heap[w.heap.size]?) hW
  try simp only [] at b_s
  repeat (first | rw [hd_drew] at b_s | rw [hs_ne _ _ _ _ _ (by omega)] at b_s | rw [ha_lt _ _ _ (by first | omega | (simp only [World.size_alloc, World.size_setCell, World.size_drew]; omega))] at b_s | rw [hs_same] at b_s)
  rw [ha_new _ _ _ (by first | rfl | simp only [World.size_alloc, World.size_setCell, World.size_drew])] at b_s
  try simp only [Option.map_some, putO, List.setIfInBounds_toArray, List.set_cons_zero, List.set_cons_succ] at b_s
  have Ls := Lib.hid b_s.symm
  clear b_s
  have cs := cell_of_heap Ls.out
  have fs := frz_of_heap Ls.out
  have ss := lt_of_heap Ls.out
  have hb1 := Lib.hid (show Below w.heap.size w W1 by rw [← hW]; exact blw_alloc (Below.refl _ _) _)
  clear hW
  have hbaw := HD.out.lt
  generalize hsz : w.heap.size = sb at *
  have HSZ := Lib.hid hsz
  clear hsz
  have hne : ¬ sb = ba := by omega
  have HD1 := Lib.hid (HD.out.stay (by rw [HSZ.out]; exact hb1.out))
  refine wpB_seq_k hro fun K hK => ?_
  have HKK := Lib.hid hK
  clear hK
  have hs1 := after_cell Ls.out
  have K1 : Hid (∀ u : After W1, Calls Try.prog 68 #[l.v, .int .i64 me] u.w (fun e w' => e = .returned (.int .i64 (cellP l.thd l.thr me 4 2)) ∧ ∃ u' : After W1, w' = u'.w)) := fun u => after_call (lay_Wake l me u.w)
  clear cs fs
  refine region_tail (C := fun w' => ∃ u : After W1, w' = u.w) 7 (by kernel_rfl) (by kernel_rfl) (by decide) (by kernel_rfl) (by kernel_rfl) ⟨⟨W1.drew, blw_drew (Below.refl _ _)⟩, rfl⟩ ?_
  simp only [stubs, List.take_succ_cons, List.take_zero, List.drop_succ_cons, List.drop_zero, List.map_cons, List.map_nil, List.cons_append, List.nil_append, stubOf]
  repeat (go_big_quiet_step (exact K1.out _))
  refine wpQuiet_nil ?_
  rintro w3 ⟨⟨w3', hb3⟩, he⟩
  obtain rfl : w3 = w3' := he
  have hb1' : Below w.heap.size w W1 := by rw [HSZ.out]; exact hb1.out
  go_wp2_with fail
  refine (play_Store (cellP l.thd l.thr me 4 2) 0 ba bl _ log k _ (HD1.out.stay hb3)).mono ?_
  intro e w4 hR
  obtain ⟨hK4, ⟨u, k1, h1, rfl, h3, h4⟩ | ⟨y, k1, h1, rfl, h3, h4⟩⟩ := hR
  rotate_left
  · show Q (.panic _) _ _
    rw [HQ.out]
    exact Runs.halt (by simp [watchM, M.bind, h1]) ((Keep.of_below (blw_then hb1' hb3)).trans hK4) h3 h4
  have H1 := Lib.hid h1
  have HD4 := Lib.hid ((HD1.out.stay hb3).keep hK4 h4 h3)
  have HB13 := Lib.hid (blw_then hb1' hb3)
  have Ls4 := Lib.hid ((hK4.block _ (lt_of_heap ((hb3.block _ ss).trans Ls.out)) hne).trans ((hb3.block _ ss).trans Ls.out))
  have HKW := Lib.hid (show Keep (fun i => i = ba ∨ sb ≤ i) w w4 from (Keep.of_below HB13.out).trans (hK4.mono fun i _ hi => Or.inl hi))
  have hsn4 := HSN.out.stayN HKW.out.size (fun hx b' hb' hl' => HKW.out.block b' hl' (by have h1 := HSEP.out hx b' hb'; rw [HSZ.out] at hl'; omega))
  have HSN4 := Lib.hid hsn4
  clear hs1 K1 hb3 hK4 h1 h3 h4 hsn4 ss Ls HD1 hb1
  go_wp2_with fail
  refine HKK.out _ _ ?_
  clear HKK K
  have hmf : ∀ (fn : Fn) (first cap : Array Value) (w : World), (Instr.makeFunc fn first cap).run Try.prog w = .ok (.func fn first cap) w := fun _ _ _ _ => rfl
  refine wpB_seq_kk fun K hK => ?_
  have HKK := Lib.hid hK
  clear hK
  refine wpB_seq_k hro fun K2 hK2 => ?_
  go_wp2_with (refine wpList_load_row rfl _ _ rfl sb rfl _ _ _ _ Ls4.out Try.underlying114 rfl (by kernel_rfl) ?_)
  generalize hcl : slpC ba bl l me _ = cells at *
  have HCL := Lib.hid hcl
  clear hcl
  have q0 : cells[0]? = some (doV ba bl) := by rw [← HCL.out]; rfl
  have q14 : cells[14]? = some (.int .i64 me) := by rw [← HCL.out]; rfl
  refine wpB_block (wpB_range_outer hro rfl (fun args w => by simp [go_sem]) ?_)
  intro rec hrec
  have HREC := Lib.hid hrec
  clear hrec
  generalize hW5 : (w4.alloc (.deferred (some []))).alloc (.loop (rec .ready)) = w5
  have hD5 : w5.heap[w4.heap.size]? = some (.deferred (some [])) := by rw [← hW5]; exact (ha_lt _ _ _ (by simp)).trans (ha_new _ _ _ rfl)
  have hL5 : w5.heap[w4.heap.size + 1]? = some (.loop (rec .ready)) := by rw [← hW5]; exact ha_new _ _ _ (by simp)
  have hb5 : Below w4.heap.size w4 w5 := by rw [← hW5]; exact blw_alloc (blw_alloc (Below.refl _ _) _) _
  clear hW5
  have ss4 : sb < w4.heap.size := lt_of_heap Ls4.out
  have hM5 : Mid sb (w4.heap.size + 1) w4.heap.size ba bl cells vlog log (rec .ready) k1 w5 := ⟨HD4.out.stay hb5, (hb5.block _ ss4).trans Ls4.out, hL5, hD5⟩
  have hsn5 := HSN4.out.below hb5
  have hba5 : ba < w5.heap.size := hM5.da.lt
  have hlp5 : w4.heap.size + 1 < w5.heap.size := (Array.getElem?_eq_some_iff.1 hL5).1
  have hsep5 : seen ≠ [] → ∀ b, (Value.slice A0 seen.length c0).ownBlock = some b → ¬ (b = ba ∨ b = w4.heap.size + 1) := by
    rintro hx b' hb' (h | h)
    · exact HSEP.out hx b' hb' h
    · have := HSN.out.blk hx hb'
      rw [HSZ.out] at this
      omega
  have HKW5 := Lib.hid (HKW.out.trans (Keep.of_below hb5))
  clear hb5 hD5 hL5 Ls4 HKW HD4 HSN4
  generalize hlp : w4.heap.size + 1 = lp at *
  generalize hDD : w4.heap.size = D at *
  show Calls Try.prog _ #[.agg cells, .func (.yield lp) #[] #[]] w5 _
  rw [← HCL.out]
  refine (wait_waiters l me ⟨kind, a, b, try_, stamp, karma, aborts, .slice A0 seen.length c0, .slice A1 n1 c1, .slice A2 n2 c2⟩ ba bl lp seen (fun x => (putM (cellP l.loc l.locs x.loc 4 3) me).map fun _ => ()) log
    (Mid sb lp D ba bl cells vlog log (rec .ready)) (Fell D ba log) k1 w5 hsn5 HWR.out HDU.out hsep5 hba5 hlp5 (fun k W W' h hb => h.grow hb) ?_ hM5).mono ?_
  · intro x hx k' W hM
    refine yieldAt_P HREC.out hM.L rfl ⟨_, by rw [hfn]; exact Try.func62⟩ ?_
    have hbeg := begin_P (P := Try.prog) HREC.out hM.L
    generalize hWb : W.putObj lp (.loop (rec .busy)) = Wb at hbeg
    have hDb : DoAt Wb ba bl vlog log k' := by rw [← hWb]; exact hM.da.putLoop hM.L
    have hsb : Wb.heap[sb]? = some (.cells cells 114 (0, 0)) := by rw [← hWb]; exact heap_putLoop hM.L hM.s
    have hLb : Wb.heap[lp]? = some (.loop (rec .busy)) := by rw [← hWb]; exact World.putObj_heap_same (Array.getElem?_eq_some_iff.1 hM.L).1
    have hDDb : Wb.heap[D]? = some (.deferred (some [])) := by rw [← hWb]; exact (World.putObj_heap_other (by omega)).trans hM.D
    have hkb : Keep (fun i => i = ba ∨ i = lp) W Wb := by rw [← hWb]; exact keep_putObj (.inr rfl)
    clear hWb hM
    have c0' : Wb.cell? ⟨sb, 0, none⟩ = some (doV ba bl) := (cell_of_heap hsb 0).trans q0
    have c14 : Wb.cell? ⟨sb, 14, none⟩ = some (.int .i64 me) := (cell_of_heap hsb 14).trans q14
    have HDB := Lib.hid hDb
    have HSB := Lib.hid hsb
    have HLB := Lib.hid hLb
    have HDDB := Lib.hid hDDb
    have HKB := Lib.hid hkb
    clear hDb hsb hLb hDDb hkb q0 q14
    have hzz : (#[14] : Array Tmp).zip #[Value.int IntKind.i64 (cellP l.loc l.locs x.loc 4 3)] = #[(14, Value.int IntKind.i64 (cellP l.loc l.locs x.loc 4 3))] := by simp
    rw [hzz]
    simp only [List.foldl_toArray, List.foldl_cons, List.foldl_nil, List.setIfInBounds_toArray, List.set_cons_zero, List.set_cons_succ]
    gi_wp2_with fail
    refine ⟨trivial, rfl, CallsIn.inRound lp (CallsIn.mono (callsIn_wide.2 (vis_Put (cellP l.loc l.locs x.loc 4 3) me ba bl vlog log k' Wb HDB.out)) ?_)⟩
    clear c0' c14
    intro e W3 hR
    obtain ⟨hK, ⟨bb, k9, h1, rfl, h3, h4⟩ | ⟨x', k9, h1, rfl, h3, h4⟩⟩ := hR
    · have HD3 := Lib.hid (HDB.out.keep hK h4 h3)
      have HS3 := Lib.hid ((hK.block _ (lt_of_heap HSB.out) (by have := lt_of_heap HSB.out; omega)).trans HSB.out)
      have HL3 := Lib.hid ((hK.block _ (Array.getElem?_eq_some_iff.1 HLB.out).1 (by intro e; have := HDB.out.at_; rw [← e, HLB.out] at this; cases this)).trans HLB.out)
      have HDD3 := Lib.hid ((hK.block _ (Array.getElem?_eq_some_iff.1 HDDB.out).1 (by intro e; have := HDB.out.at_; rw [← e, HDDB.out] at this; cases this)).trans HDDB.out)
      have HK3 := Lib.hid (HKB.out.trans (hK.mono fun i _ hi => .inl hi))
      have HF : Hid ((putM (cellP l.loc l.locs x.loc 4 3) me).map (fun _ => ()) log k' = .ok ((), k9)) := by show _ = _; simp [M.map, M.bind, M.ret, h1]
      clear hK h1 h3 h4
      gi_wp2_with fail
      refine ⟨_, _, end_P HREC.out HL3.out, HK3.out.trans (keep_putObj (.inr rfl)), .inl ⟨k9, HF.out, rfl, ?_⟩⟩
      exact ⟨HD3.out.putLoop HL3.out, heap_putLoop HL3.out HS3.out, World.putObj_heap_same (Array.getElem?_eq_some_iff.1 HL3.out).1, (World.putObj_heap_other (by omega)).trans HDD3.out⟩
    · have HDD3 := Lib.hid ((hK.block _ (Array.getElem?_eq_some_iff.1 HDDB.out).1 (by intro e; have := HDB.out.at_; rw [← e, HDDB.out] at this; cases this)).trans HDDB.out)
      have HK3 := Lib.hid (HKB.out.trans (hK.mono fun i _ hi => .inl hi))
      have HF : Hid ((putM (cellP l.loc l.locs x.loc 4 3) me).map (fun _ => ()) log k' = .error x') := by show _ = _; simp [M.map, M.bind, h1]
      have H3 := Lib.hid h3
      have H4 := Lib.hid h4
      clear hK h1 h3 h4
      gi_wp2_with fail
      exact ⟨rfl, HK3.out, .inr ⟨x', HF.out, rfl, HDD3.out, k9, H3.out, H4.out⟩⟩
  · rintro e W6 ⟨hK, ⟨k2, hF, rfl, hM⟩ | ⟨x', hF, rfl, hD3, k2, h3, h4⟩⟩
    rotate_left
    · show Q (.panic _) _ _
      rw [HQ.out]
      refine ⟨by simp, .inl ⟨_, _, rfl, run_takeDeferred hD3, ?_⟩⟩
      have hbd : ¬ ba = D := by intro e; rw [e, hD3] at h4; cases h4
      refine ⟨?_, .inr ⟨x', k2, ?_, rfl, h3, (World.putObj_heap_other hbd).trans h4⟩⟩
      · have hk : Keep (fun i => i = ba ∨ sb ≤ i) w (W6.putObj D (.deferred none)) := HKW5.out.trans ((hK.mono fun i _ hi => by omega).trans (keep_putObj (.inr (by omega))))
        exact hk.mono fun i hi hx => by rw [HSZ.out] at hi; omega
      · have hF' : putAllM l me seen log k1 = .error x' := hF
        simp [watchM, M.bind, H1.out, hF']
    refine ⟨_, endLoop_P HREC.out hM.L, ?_⟩
    show K _ _
    refine HKK.out _ _ ?_
    clear HKK K
    have HF := Lib.hid (show putAllM l me seen log k1 = .ok ((), k2) from hF)
    have HD7 := Lib.hid (hM.da.putLoop (o := .loop (rec .exhausted)) hM.L)
    have Ls7 := Lib.hid (heap_putLoop (o := .loop (rec .exhausted)) hM.L hM.s)
    have HDD7 := Lib.hid ((World.putObj_heap_other (o := .loop (rec .exhausted)) (show D ≠ lp by omega)).trans hM.D)
    have HKW7 := Lib.hid (show Keep (fun i => i = ba ∨ sb ≤ i) w (W6.putObj lp (.loop (rec .exhausted))) from HKW5.out.trans ((hK.mono fun i _ hi => by omega).trans (keep_putObj (.inr (by omega)))))
    clear hM hF hK hM5 hsn5 hsep5 HKW5 q0 q14
    generalize W6.putObj lp (.loop (rec .exhausted)) = W7 at *
    have HSN7 := Lib.hid (HSN.out.stayN HKW7.out.size (fun hx b' hb' hl' => HKW7.out.block b' hl' (by have h1 := HSEP.out hx b' hb'; rw [HSZ.out] at hl'; omega)))
    have hbd : ¬ ba = D := by intro e; have := HD7.out.at_; rw [e, HDD7.out] at this; cases this
    have hnot : ∀ (x : Bool) (w : World), (Op.unary .not (.bool x)).run Try.prog w = .ok (.bool (!x)) w := fun _ _ => rfl
    have hkf : ∀ W : World, Keep (fun i => i = ba ∨ sb ≤ i) w W → Keep (· = ba) w (W.putObj D (.deferred none)) := fun W h =>
      (h.trans (keep_putObj (X := fun i => i = ba ∨ sb ≤ i) (r := D) (.inr (by omega)))).mono fun i hi hx => by rw [HSZ.out] at hi; omega
    have HKF := Lib.hid hkf
    clear hkf
    refine wpB_of_wp hro ?_
    simp only [List.cons_append, List.nil_append]
    go_wp2_with (refine wpList_load_row rfl _ _ rfl sb rfl _ _ _ _ Ls7.out Try.underlying114 rfl (by kernel_rfl) ?_)
    rw [← HCL.out]
    refine (wait_same l me ⟨kind, a, b, try_, stamp, karma, aborts, .slice A0 seen.length c0, .slice A1 n1 c1, .slice A2 n2 c2⟩ ba bl vlog log seen k2 W7 HD7.out HSN7.out HWR.out HDU.out HSEP.out).mono ?_
    rintro e W8 ⟨hK8, ⟨b8, k3, hS, rfl, h3, h4⟩ | ⟨x', k3, hS, rfl, h3, h4⟩⟩
    · have HS8 := Lib.hid hS
      have HD8 := Lib.hid (HD7.out.keep hK8 h4 h3)
      have Ls8 := Lib.hid ((hK8.block _ (lt_of_heap Ls7.out) hne).trans Ls7.out)
      have HDD8 := Lib.hid ((hK8.block _ (Array.getElem?_eq_some_iff.1 HDD7.out).1 (fun e => hbd e.symm)).trans HDD7.out)
      have HKW8 := Lib.hid (HKW7.out.trans (hK8.mono fun i _ hi => Or.inl hi))
      clear hK8 hS h3 h4
      cases b8
      · have HSN8 := Lib.hid (HSN.out.stayN HKW8.out.size (fun hx b' hb' hl' => HKW8.out.block b' hl' (by have h1 := HSEP.out hx b' hb'; rw [HSZ.out] at hl'; omega)))
        go_wp2_with (refine wpList_load_row rfl _ _ rfl sb rfl _ _ _ _ Ls8.out Try.underlying114 rfl (by kernel_rfl) ?_)
        rw [← HCL.out]
        refine (wait_out l me ⟨kind, a, b, try_, stamp, karma, aborts, .slice A0 seen.length c0, .slice A1 n1 c1, .slice A2 n2 c2⟩ ba bl vlog log seen k3 W8 HD8.out HSN8.out HWR.out HDU.out HSEP.out).mono ?_
        rintro e W9 ⟨hK9, ⟨u9, k4, hO, rfl, h3, h4⟩ | ⟨x', k4, hO, rfl, h3, h4⟩⟩
        · have HO9 := Lib.hid hO
          have H3 := Lib.hid h3
          have H4 := Lib.hid h4
          have HDD9 := Lib.hid ((hK9.block _ (Array.getElem?_eq_some_iff.1 HDD8.out).1 (fun e => hbd e.symm)).trans HDD8.out)
          have HKW9 := Lib.hid (HKW8.out.trans (hK9.mono fun i _ hi => Or.inl hi))
          clear hK9 hO h3 h4
          go_wp2
          rw [HQ.out]
          refine ⟨by simp, .inl ⟨_, _, rfl, run_takeDeferred HDD9.out, ?_⟩⟩
          refine ⟨_, results_tmp rfl _ _ _, ?_⟩
          refine Runs.close (a := false) (k1 := k4) ?_ (HKF.out _ HKW9.out) H3.out ((World.putObj_heap_other hbd).trans H4.out)
          simp [watchM, M.bind, M.ret, H1.out, HF.out, HS8.out, HO9.out]
        · have HO9 := Lib.hid hO
          have H3 := Lib.hid h3
          have H4 := Lib.hid h4
          have HDD9 := Lib.hid ((hK9.block _ (Array.getElem?_eq_some_iff.1 HDD8.out).1 (fun e => hbd e.symm)).trans HDD8.out)
          have HKW9 := Lib.hid (HKW8.out.trans (hK9.mono fun i _ hi => Or.inl hi))
          clear hK9 hO h3 h4
          show Q (.panic _) _ _
          rw [HQ.out]
          refine ⟨by simp, .inl ⟨_, _, rfl, run_takeDeferred HDD9.out, ?_⟩⟩
          refine Runs.halt (k1 := k4) ?_ (HKF.out _ HKW9.out) H3.out ((World.putObj_heap_other hbd).trans H4.out)
          simp [watchM, M.bind, H1.out, HF.out, HS8.out, HO9.out]
      · go_wp2
        rw [HQ.out]
        refine ⟨by simp, .inl ⟨_, _, rfl, run_takeDeferred HDD8.out, ?_⟩⟩
        refine ⟨_, results_tmp rfl _ _ _, ?_⟩
        refine Runs.close (a := true) (k1 := k3) ?_ (HKF.out _ HKW8.out) HD8.out.le ((World.putObj_heap_other hbd).trans HD8.out.at_)
        simp [watchM, M.bind, M.ret, H1.out, HF.out, HS8.out]
    · have HDD8 := (hK8.block _ (Array.getElem?_eq_some_iff.1 HDD7.out).1 (fun e => hbd e.symm)).trans HDD7.out
      have HKW8 := HKW7.out.trans (hK8.mono fun i _ hi => Or.inl hi)
      show Q (.panic _) _ _
      rw [HQ.out]
      refine ⟨by simp, .inl ⟨_, _, rfl, run_takeDeferred HDD8, ?_⟩⟩
      refine Runs.halt (k1 := k3) ?_ (HKF.out _ HKW8) h3 ((World.putObj_heap_other hbd).trans h4)
      simp [watchM, M.bind, H1.out, HF.out, hS]
set_option maxRecDepth 100000 in
set_option maxHeartbeats 1000000 in
theorem wait_sleep (l : Lay) (me : Int) (o : OpV) (ba bl : Nat) (vlog : Value) (log : List Rs) (seen : List Sn) (k : Nat) (w : World)
    (hD : DoAt w ba bl vlog log k) (hseen : SlR 3 Sn.cells w o.seen seen) (hwr : IsSl o.writes) (hdu : IsSl o.durable) (hsep : seen ≠ [] → ∀ b, o.seen.ownBlock = some b → ¬ b = ba) :
    Calls Try.prog 63 #[.agg (slpC ba bl l me o)] w (Runs w ba log k (sleepM l me seen) (fun b => .bool b)) := by
  have HSN := Lib.hid hseen
  have HWR := Lib.hid hwr
  have HDU := Lib.hid hdu
  have HSEP := Lib.hid hsep
  have HD := Lib.hid hD
  have hbaw := hD.lt
  obtain ⟨A0, c0, hs0, -⟩ := hseen.out
  obtain ⟨A1, n1, c1, hw1⟩ := hwr
  obtain ⟨A2, n2, c2, hd2⟩ := hdu
  clear hD hseen hsep
  obtain ⟨kind, a, b, try_, stamp, karma, aborts, sv, wv, dv⟩ := o
  simp only at hs0 hw1 hd2 HSN HWR HDU HSEP
  subst hs0 hw1 hd2
  go_enter Try.func63, Try.ntmps63
  go_wp2
  generalize hW : w.alloc _ = W1
  have b_s := congrArg (fun u : World => u.heap[w.heap.size]?) hW
  try simp only [] at b_s
  repeat (first | rw [hd_drew] at b_s | rw [hs_ne _ _ _ _ _ (by omega)] at b_s | rw [ha_lt _ _ _ (by first | omega | (simp only [World.size_alloc, World.size_setCell, World.size_drew]; omega))] at b_s | rw [hs_same] at b_s)
  rw [ha_new _ _ _ (by first | rfl | simp only [World.size_alloc, World.size_setCell, World.size_drew])] at b_s
  try simp only [Option.map_some, putO, List.setIfInBounds_toArray, List.set_cons_zero, List.set_cons_succ] at b_s
  have Ls := Lib.hid b_s.symm
  clear b_s
  have cs := cell_of_heap Ls.out
  have fs := frz_of_heap Ls.out
  have ss := lt_of_heap Ls.out
  have hb1 : Below w.heap.size w W1 := by rw [← hW]; exact blw_alloc (Below.refl _ _) _
  clear hW
  have HB1 := Lib.hid hb1
  have hne : ¬ w.heap.size = ba := by omega
  have HD1 := Lib.hid (HD.out.stay hb1)
  have hs1 := after_cell Ls.out
  have K1 : Hid (∀ u : After W1, Calls Try.prog 68 #[l.v, .int .i64 me] u.w (fun e w' => e = .returned (.int .i64 (cellP l.thd l.thr me 4 2)) ∧ ∃ u' : After W1, w' = u'.w)) := fun u => after_call (lay_Wake l me u.w)
  clear cs fs hb1
  generalize hsb : w.heap.size = sb at *
  have HSB := Lib.hid hsb
  clear hsb
  refine region_tail (C := fun w' => ∃ u : After W1, w' = u.w) 7 (by kernel_rfl) (by kernel_rfl) (by decide) (by kernel_rfl) (by kernel_rfl) ⟨⟨W1.drew, blw_drew (Below.refl _ _)⟩, rfl⟩ ?_
  simp only [stubs, List.take_succ_cons, List.take_zero, List.drop_succ_cons, List.drop_zero, List.map_cons, List.map_nil, List.cons_append, List.nil_append, stubOf]
  repeat (go_big_quiet_step (exact K1.out _))
  refine wpQuiet_nil ?_
  rintro w3 ⟨⟨w3', hb3⟩, he⟩
  obtain rfl : w3 = w3' := he
  have HB3 := Lib.hid (show Below w.heap.size w w3 from blw_then (by rw [HSB.out]; exact HB1.out) hb3)
  have HD3 := Lib.hid (HD1.out.stay hb3)
  have Ls3 := Lib.hid ((hb3.block _ ss).trans Ls.out)
  clear hs1 K1 hb3 ss
  go_wp2_with fail
  refine (play_Load (cellP l.thd l.thr me 4 2) ba bl _ log k _ HD3.out).mono ?_
  rintro e w4 ⟨hK4, ⟨n, k1, h1, rfl, h3, h4⟩ | ⟨y, k1, h1, rfl, h3, h4⟩⟩
  · have H1 := Lib.hid h1
    have HD4 := Lib.hid (HD3.out.keep hK4 h4 h3)
    have Ls4 := Lib.hid ((hK4.block _ (lt_of_heap Ls3.out) hne).trans Ls3.out)
    have HK4 := Lib.hid ((Keep.of_below HB3.out).trans hK4)
    clear hK4 h1 h3 h4
    by_cases hn : n = 0
    · have bn : (n == 0) = true := by simp [hn]
      have HN := Lib.hid hn
      clear hn
      go_wp2
      go_ret
      refine Runs.close (a := false) (k1 := k1) ?_ HK4.out HD4.out.le HD4.out.at_
      simp [sleepM, M.bind, M.ret, H1.out, HN.out]
    · have bn : (n == 0) = false := by simp [hn]
      have HN := Lib.hid hn
      clear hn
      have HSN4 := Lib.hid (HSN.out.stayN HK4.out.size (fun hx b' hb' hl' => HK4.out.block b' hl' (HSEP.out hx b' hb')))
      go_wp2_with (refine wpList_load_row rfl _ _ rfl sb rfl _ _ _ _ Ls4.out Try.underlying114 rfl (by kernel_rfl) ?_)
      refine (wait_out l me ⟨kind, a, b, try_, stamp, karma, aborts, .slice A0 seen.length c0, .slice A1 n1 c1, .slice A2 n2 c2⟩ ba bl vlog log seen k1 w4 HD4.out HSN4.out HWR.out HDU.out HSEP.out).mono ?_
      rintro e w5 ⟨hK5, ⟨u, k2, h2, rfl, h3, h4⟩ | ⟨y, k2, h2, rfl, h3, h4⟩⟩
      · have H2 := Lib.hid h2
        have HK5 := Lib.hid (HK4.out.trans hK5)
        have H3 := Lib.hid h3
        have H4 := Lib.hid h4
        clear hK5 h2 h3 h4
        go_wp2
        go_ret
        refine Runs.close (a := true) (k1 := k2) ?_ HK5.out H3.out H4.out
        simp [sleepM, M.bind, M.ret, H1.out, HN.out, H2.out]
      · have H2 := Lib.hid h2
        have HK5 := Lib.hid (HK4.out.trans hK5)
        have H3 := Lib.hid h3
        have H4 := Lib.hid h4
        clear hK5 h2 h3 h4
        go_wp2_with fail
        refine ⟨rfl, Runs.halt (k1 := k2) ?_ HK5.out H3.out H4.out⟩
        simp [sleepM, M.bind, H1.out, HN.out, H2.out]
  · have HK4 := Lib.hid ((Keep.of_below HB3.out).trans hK4)
    have H1 := Lib.hid h1
    have H3 := Lib.hid h3
    have H4 := Lib.hid h4
    clear hK4 h1 h3 h4
    go_wp2_with fail
    refine ⟨rfl, Runs.halt (k1 := k1) ?_ HK4.out H3.out H4.out⟩
    simp [sleepM, M.bind, H1.out]
end Go.Proofs.Ytpfibcbeenogiaa
