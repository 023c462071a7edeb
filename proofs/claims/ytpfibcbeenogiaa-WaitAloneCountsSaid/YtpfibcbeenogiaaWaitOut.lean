/- Package wait, walked: the own bits cleared in all waiter masks. -/
import Derived.Test.YtpfibcbeenogiaaWaiters
import Derived.Laws.Rows
namespace Go.Proofs.Ytpfibcbeenogiaa
open Go.RowKit
attribute [local go_sem] Oper.semAt_some
set_option linter.unusedSimpArgs false
set_option linter.unusedVariables false
def outAllM (l : Lay) (me : Int) : List Sn → M Unit := eachM fun x => (outM (cellP l.loc l.locs x.loc 4 3) me).map fun _ => ()
def putAllM (l : Lay) (me : Int) : List Sn → M Unit := eachM fun x => (putM (cellP l.loc l.locs x.loc 4 3) me).map fun _ => ()
theorem DoAt.putLoop {w : World} {ba bl : Nat} {vlog : Value} {log : List Rs} {k lp : Nat} {r : Loop} {o : Obj} (hl : w.heap[lp]? = some (.loop r)) (h : DoAt w ba bl vlog log k) : DoAt (w.putObj lp o) ba bl vlog log k :=
  ⟨heap_putLoop hl h.at_, cell_putLoop hl h.lg, h.sl.putLoop hl, h.apart, h.sep, h.le⟩
/-- Between two rounds of a loop over the masks. -/
structure Mid (sb lp D ba bl : Nat) (cells : Array Value) (vlog : Value) (log : List Rs) (rec : Loop) (k : Nat) (W : World) : Prop where
  da : DoAt W ba bl vlog log k
  s : W.heap[sb]? = some (.cells cells 114 (0, 0))
  L : W.heap[lp]? = some (.loop rec)
  D : W.heap[D]? = some (.deferred (some []))
theorem Mid.grow {sb lp D ba bl : Nat} {cells : Array Value} {vlog : Value} {log : List Rs} {rec : Loop} {W W' : World} {k : Nat} (h : Mid sb lp D ba bl cells vlog log rec k W) (hb : Below W.heap.size W W') :
    Mid sb lp D ba bl cells vlog log rec k W' :=
  ⟨h.da.stay hb, (hb.block _ (lt_of_heap h.s)).trans h.s, (hb.block _ (Array.getElem?_eq_some_iff.1 h.L).1).trans h.L, (hb.block _ (Array.getElem?_eq_some_iff.1 h.D).1).trans h.D⟩
/-- Where a round has panicked. -/
def Fell (D ba : Nat) (log : List Rs) (W : World) : Prop := W.heap[D]? = some (.deferred (some [])) ∧ ∃ k, k ≤ log.length ∧ W.heap[ba]? = some (.cells #[.int .i64 (k : Int)] 3 (0, 0))
set_option maxHeartbeats 2000000 in
theorem wait_out (l : Lay) (me : Int) (o : OpV) (ba bl : Nat) (vlog : Value) (log : List Rs) (seen : List Sn) (k : Nat) (w : World)
    (hD : DoAt w ba bl vlog log k) (hseen : SlR 3 Sn.cells w o.seen seen) (hwr : IsSl o.writes) (hdu : IsSl o.durable) (hsep : seen ≠ [] → ∀ b, o.seen.ownBlock = some b → ¬ b = ba) :
    Calls Try.prog 92 #[.agg (slpC ba bl l me o)] w (Runs w ba log k (outAllM l me seen) (fun _ => .tuple #[])) := by
  have HSN := Lib.hid hseen
  have HWR := Lib.hid hwr
  have HDU := Lib.hid hdu
  have HSEP := Lib.hid hsep
  have HD := Lib.hid hD
  obtain ⟨A0, c0, hs0, -⟩ := hseen.out
  obtain ⟨A1, n1, c1, hw1⟩ := hwr
  obtain ⟨A2, n2, c2, hd2⟩ := hdu
  clear hD hseen hsep
  obtain ⟨kind, a, b, try_, stamp, karma, aborts, sv, wv, dv⟩ := o
  simp only at hs0 hw1 hd2 HSN HWR HDU HSEP
  subst hs0 hw1 hd2
  refine calls_of_wpB Try.func92 rfl fun fr hfn hro => ?_
  simp only [Try.ntmps92, List.size_toArray, List.length_cons, List.length_nil, Nat.reduceAdd, Nat.reduceSub, Array.replicate_succ, Array.replicate_zero, List.push_toArray, List.append_toArray, List.nil_append, List.cons_append]
  obtain ⟨Q, hQ⟩ : ∃ Q, Q = bodyPostM Fence.wide 0 Try.prog Try.f92 (Runs w ba log k (outAllM l me seen) (fun _ => .tuple #[])) := ⟨_, rfl⟩
  rw [← hQ]
  have HQ := Lib.hid hQ
  clear hQ
  refine wpB_seq_k hro fun K hK => ?_
  go_wp2
  generalize hW : w.alloc _ = W1
  have b_s := congrArg (fun u : World => u.heap[w.heap.size]?) hW
  try simp only [] at b_s
  repeat (first | rw [hd_drew] at b_s | rw [hs_ne _ _ _ _ _ (by omega)] at b_s | rw [ha_lt _ _ _ (by first | omega | (simp only [World.size_alloc, World.size_setCell, World.size_drew]; omega))] at b_s | rw [hs_same] at b_s)
  rw [ha_new _ _ _ (by first | rfl | simp only [World.size_alloc, World.size_setCell, World.size_drew])] at b_s
  try simp only [Option.map_some, putO, List.setIfInBounds_toArray, List.set_cons_zero, List.set_cons_succ] at b_s
  have Ls := Lib.hid b_s.symm
  clear b_s
  have cs := cell_of_heap Ls.out
  have fs := frz_of_heap Ls.out
  have ss := lt_of_heap Ls.out
  have hb1 := Lib.hid (show Below w.heap.size w W1 by rw [← hW]; exact blw_alloc (Below.refl _ _) _)
  clear hW
  generalize hsz : w.heap.size = sb at *
  have HSZ := Lib.hid hsz
  clear hsz
  have hmf : ∀ (fn : Fn) (first cap : Array Value) (w : World), (Instr.makeFunc fn first cap).run Try.prog w = .ok (.func fn first cap) w := fun _ _ _ _ => rfl
  refine wpB_seq_k hro fun K hK => ?_
  clear cs
  go_wp2_with (refine wpList_load_row rfl _ _ rfl sb rfl _ _ _ _ Ls.out Try.underlying114 rfl (by kernel_rfl) ?_)
  generalize hcl : slpC ba bl l me _ = cells at *
  have HCL := Lib.hid hcl
  clear hcl
  have q0 : cells[0]? = some (doV ba bl) := by rw [← HCL.out]; rfl
  have q14 : cells[14]? = some (.int .i64 me) := by rw [← HCL.out]; rfl
  refine wpB_block (wpB_range_outer hro rfl (fun args w => by simp [go_sem]) ?_)
  intro rec hrec
  have HREC := Lib.hid hrec
  clear hrec
  generalize hW2 : (W1.alloc (.deferred (some []))).alloc (.loop (rec .ready)) = W2
  have hD2 : W2.heap[W1.heap.size]? = some (.deferred (some [])) := by rw [← hW2]; exact (ha_lt _ _ _ (by simp)).trans (ha_new _ _ _ rfl)
  have hL2 : W2.heap[W1.heap.size + 1]? = some (.loop (rec .ready)) := by rw [← hW2]; exact ha_new _ _ _ (by simp)
  have hb2 : Below W1.heap.size W1 W2 := by rw [← hW2]; exact blw_alloc (blw_alloc (Below.refl _ _) _) _
  clear hW2
  have hb01 : Below w.heap.size w W1 := by rw [HSZ.out]; exact hb1.out
  have hb02 : Below w.heap.size w W2 := blw_then hb01 hb2
  have hM2 : Mid sb (W1.heap.size + 1) W1.heap.size ba bl cells vlog log (rec .ready) k W2 := ⟨HD.out.stay hb02, (hb2.block _ ss).trans Ls.out, hL2, hD2⟩
  have hsn2 := HSN.out.below hb02
  have hba2 : ba < W2.heap.size := hM2.da.lt
  have hlp2 : W1.heap.size + 1 < W2.heap.size := (Array.getElem?_eq_some_iff.1 hL2).1
  have hbaw := HD.out.lt
  rw [HSZ.out] at hbaw
  have hsep2 : seen ≠ [] → ∀ b, (Value.slice A0 seen.length c0).ownBlock = some b → ¬ (b = ba ∨ b = W1.heap.size + 1) := by
    rintro hne b' hb' (h | h)
    · exact HSEP.out hne b' hb' h
    · have := HSN.out.blk hne hb'
      rw [HSZ.out] at this
      omega
  have HB02 := Lib.hid hb02
  clear hb2 hb01 hb02 hD2 hL2 fs Ls
  generalize hlp : W1.heap.size + 1 = lp at *
  generalize hDD : W1.heap.size = D at *
  show Calls Try.prog _ #[.agg cells, .func (.yield lp) #[] #[]] W2 _
  rw [← HCL.out]
  refine (wait_waiters l me ⟨kind, a, b, try_, stamp, karma, aborts, .slice A0 seen.length c0, .slice A1 n1 c1, .slice A2 n2 c2⟩ ba bl lp seen (fun x => (outM (cellP l.loc l.locs x.loc 4 3) me).map fun _ => ()) log
    (Mid sb lp D ba bl cells vlog log (rec .ready)) (Fell D ba log) k W2 hsn2 HWR.out HDU.out hsep2 hba2 hlp2 (fun k W W' h hb => h.grow hb) ?_ hM2).mono ?_
  · intro x hx k' W hM
    refine yieldAt_P HREC.out hM.L rfl ⟨_, by rw [hfn]; exact Try.func92⟩ ?_
    have hbeg := begin_P (P := Try.prog) HREC.out hM.L
    generalize hWb : W.putObj lp (.loop (rec .busy)) = Wb at hbeg
    have hDb : DoAt Wb ba bl vlog log k' := by rw [← hWb]; exact hM.da.putLoop hM.L
    have hsb : Wb.heap[sb]? = some (.cells cells 114 (0, 0)) := by rw [← hWb]; exact heap_putLoop hM.L hM.s
    have hLb : Wb.heap[lp]? = some (.loop (rec .busy)) := by rw [← hWb]; exact World.putObj_heap_same (Array.getElem?_eq_some_iff.1 hM.L).1
    have hDDb : Wb.heap[D]? = some (.deferred (some [])) := by rw [← hWb]; exact (World.putObj_heap_other (by omega)).trans hM.D
    have hkb : Keep (fun i => i = ba ∨ i = lp) W Wb := by rw [← hWb]; exact keep_putObj (.inr rfl)
    clear hWb hM
    have c0' : Wb.cell? ⟨sb, 0, none⟩ = some (doV ba bl) := (cell_of_heap hsb 0).trans q0
    have c14 : Wb.cell? ⟨sb, 14, none⟩ = some (.int .i64 me) := (cell_of_heap hsb 14).trans q14
    have HDB := Lib.hid hDb
    have HSB := Lib.hid hsb
    have HLB := Lib.hid hLb
    have HDDB := Lib.hid hDDb
    have HKB := Lib.hid hkb
    clear hDb hsb hLb hDDb hkb q0 q14
    have hzz : (#[5] : Array Tmp).zip #[Value.int IntKind.i64 (cellP l.loc l.locs x.loc 4 3)] = #[(5, Value.int IntKind.i64 (cellP l.loc l.locs x.loc 4 3))] := by simp
    rw [hzz]
    simp only [List.foldl_toArray, List.foldl_cons, List.foldl_nil, List.setIfInBounds_toArray, List.set_cons_zero, List.set_cons_succ]
    gi_wp2_with fail
    refine ⟨trivial, rfl, CallsIn.inRound lp (CallsIn.mono (callsIn_wide.2 (vis_Out (cellP l.loc l.locs x.loc 4 3) me ba bl vlog log k' Wb HDB.out)) ?_)⟩
    clear c0' c14
    intro e W3 hR
    obtain ⟨hK, ⟨bb, k1, h1, rfl, h3, h4⟩ | ⟨x', k1, h1, rfl, h3, h4⟩⟩ := hR
    · have HD3 := Lib.hid (HDB.out.keep hK h4 h3)
      have HS3 := Lib.hid ((hK.block _ (lt_of_heap HSB.out) (by have := lt_of_heap HSB.out; omega)).trans HSB.out)
      have HL3 := Lib.hid ((hK.block _ (Array.getElem?_eq_some_iff.1 HLB.out).1 (by intro e; have := HDB.out.at_; rw [← e, HLB.out] at this; cases this)).trans HLB.out)
      have HDD3 := Lib.hid ((hK.block _ (Array.getElem?_eq_some_iff.1 HDDB.out).1 (by intro e; have := HDB.out.at_; rw [← e, HDDB.out] at this; cases this)).trans HDDB.out)
      have HK3 := Lib.hid (HKB.out.trans (hK.mono fun i _ hi => .inl hi))
      have HF : Hid ((outM (cellP l.loc l.locs x.loc 4 3) me).map (fun _ => ()) log k' = .ok ((), k1)) := by show _ = _; simp [M.map, M.bind, M.ret, h1]
      clear hK h1 h3 h4
      gi_wp2_with fail
      refine ⟨_, _, end_P HREC.out HL3.out, HK3.out.trans (keep_putObj (.inr rfl)), .inl ⟨k1, HF.out, rfl, ?_⟩⟩
      exact ⟨HD3.out.putLoop HL3.out, heap_putLoop HL3.out HS3.out, World.putObj_heap_same (Array.getElem?_eq_some_iff.1 HL3.out).1, (World.putObj_heap_other (by omega)).trans HDD3.out⟩
    · have HDD3 := Lib.hid ((hK.block _ (Array.getElem?_eq_some_iff.1 HDDB.out).1 (by intro e; have := HDB.out.at_; rw [← e, HDDB.out] at this; cases this)).trans HDDB.out)
      have HK3 := Lib.hid (HKB.out.trans (hK.mono fun i _ hi => .inl hi))
      have HF : Hid ((outM (cellP l.loc l.locs x.loc 4 3) me).map (fun _ => ()) log k' = .error x') := by show _ = _; simp [M.map, M.bind, h1]
      have H3 := Lib.hid h3
      have H4 := Lib.hid h4
      clear hK h1 h3 h4
      gi_wp2_with fail
      exact ⟨rfl, HK3.out, .inr ⟨x', HF.out, rfl, HDD3.out, k1, H3.out, H4.out⟩⟩
  · rintro e W3 ⟨hK, ⟨k1, hF, rfl, hM⟩ | ⟨x', hF, rfl, hD3, k1, h3, h4⟩⟩
    · refine ⟨_, endLoop_P HREC.out hM.L, ?_⟩
      show Q .normal _ _
      rw [HQ.out]
      refine ⟨by simp, .inl ⟨_, _, rfl, run_takeDeferred ((World.putObj_heap_other (by omega)).trans hM.D), ?_⟩⟩
      have hbd : ¬ ba = D := by intro e; have := hM.da.at_; rw [e, hM.D] at this; cases this
      refine ⟨_, results_none rfl _ _ _, ?_, .inl ⟨(), k1, hF, rfl, hM.da.le, ?_⟩⟩
      · have hk : Keep (fun i => i = ba ∨ i = lp ∨ i = D) w ((W3.putObj lp (.loop (rec .exhausted))).putObj D (.deferred none)) :=
          (Keep.of_below HB02.out).trans ((hK.mono fun i _ hi => by omega).trans ((keep_putObj (.inr (.inl rfl))).trans (keep_putObj (.inr (.inr rfl)))))
        exact hk.mono fun i hi hx => by rw [HSZ.out] at hi; omega
      · exact (World.putObj_heap_other hbd).trans (heap_putLoop hM.L hM.da.at_)
    · show Q (.panic _) _ _
      rw [HQ.out]
      refine ⟨by simp, .inl ⟨_, _, rfl, run_takeDeferred hD3, ?_⟩⟩
      have hbd : ¬ ba = D := by intro e; rw [e, hD3] at h4; cases h4
      refine ⟨?_, .inr ⟨x', k1, hF, rfl, h3, (World.putObj_heap_other hbd).trans h4⟩⟩
      have hk : Keep (fun i => i = ba ∨ i = lp ∨ i = D) w (W3.putObj D (.deferred none)) :=
        (Keep.of_below HB02.out).trans ((hK.mono fun i _ hi => by omega).trans (keep_putObj (.inr (.inr rfl))))
      exact hk.mono fun i hi hx => by rw [HSZ.out] at hi; omega
end Go.Proofs.Ytpfibcbeenogiaa
