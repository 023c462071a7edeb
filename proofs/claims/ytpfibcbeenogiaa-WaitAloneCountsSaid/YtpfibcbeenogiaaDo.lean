/- hallmootref02.Do, walked. -/
import Derived.Test.YtpfibcbeenogiaaWith
import Derived.Test.YtpfibcbeenogiaaMore
namespace Go.Proofs.Ytpfibcbeenogiaa
open Go.RowKit
set_option linter.unusedSimpArgs false
set_option linter.unusedVariables false
/-- What Do of the reference's memory returns. -/
def DoPost (w : World) (vm0 : Value) (res : List Int × Rs × Int) (e : Ending) (w' : World) : Prop :=
  ∃ vm, e = .returned (.tuple #[.agg #[vm], .agg #[.int .i64 res.2.1.val, .bool res.2.1.ok], .int .i64 res.2.2]) ∧ IntsR w' vm res.1 ∧ Below w.heap.size w w' ∧ (Typed w vm0 → Typed w' vm) ∧ (vm = vm0 ∨ ∀ b, vm.ownBlock = some b → w.heap.size ≤ b)
theorem DoPost.old {w w' : World} {vm : Value} {cs : List Int} {r : Rs} {err : Int} {R : List Int × Rs × Int} (hm : IntsR w vm cs) (hR : R = (cs, r, err)) (hfin : Below w.heap.size w w') :
    DoPost w vm R (.returned (.tuple #[.agg #[vm], .agg #[.int .i64 r.val, .bool r.ok], .int .i64 err])) w' := by subst hR; exact ⟨vm, rfl, hm.below hfin, hfin, fun h => h.below hfin, .inl rfl⟩
theorem memDo_eq {cs : List Int} {i : Nat} {was : Int} {kind old new : Int} {bytes : ByteArray} (hr : memRight ⟨kind, (i : Int), old, new, bytes⟩ = true) (hx : cs[i]? = some was) :
    memDo cs ⟨kind, (i : Int), old, new, bytes⟩ = (cs.set i (memNext was ⟨kind, (i : Int), old, new, bytes⟩).1, ⟨was, (memNext was ⟨kind, (i : Int), old, new, bytes⟩).2⟩, 0) := by
  rw [memDo, if_pos hr]
  simp only [Int.toNat_natCast, hx]
set_option maxRecDepth 100000 in
set_option maxHeartbeats 4000000 in
theorem ref02_Do (cs : List Int) (a : Acc) (vm : Value) (w : World) (hm : IntsR w vm cs) (hlen : cs.length ≤ 1048576) : Calls Try.prog 40 #[.agg #[vm], a.v] w (DoPost w vm (memDo cs a)) := by
  have HM := Lib.hid hm
  obtain ⟨A, c, rfl, hc, -, hA⟩ := hm.one
  have HA := Lib.hid hA
  have HLEN := Lib.hid hlen
  clear hA hm hlen
  generalize hR : memDo cs a = R
  have HR := Lib.hid hR
  clear hR
  have hnot : ∀ (x : Bool) (w : World), (Op.unary .not (.bool x)).run Try.prog w = .ok (.bool (!x)) w := fun _ _ => rfl
  cases hr : memRight a
  · have Hr := Lib.hid hr
    go_enter Try.func40, Try.ntmps40
    go_wp2_with fail
    generalize hW : (((w.alloc _).alloc _).alloc _).alloc _ = W
    have b_q0 := congrArg (fun u : World => u.heap[w.heap.size]?) hW
    try simp only [] at b_q0
    repeat (first | rw [hd_drew] at b_q0 | rw [hs_ne _ _ _ _ _ (by omega)] at b_q0 | rw [ha_lt _ _ _ (by first | omega | (simp only [World.size_alloc, World.size_setCell, World.size_drew]; omega))] at b_q0 | rw [hs_same] at b_q0)
    rw [ha_new _ _ _ (by first | rfl | simp only [World.size_alloc, World.size_setCell, World.size_drew])] at b_q0
    try simp only [Option.map_some, putO, List.setIfInBounds_toArray, List.set_cons_zero, List.set_cons_succ] at b_q0
    have Lq0 := Lib.hid b_q0.symm
    clear b_q0
    have b_q1 := congrArg (fun u : World => u.heap[w.heap.size + 1]?) hW
    try simp only [] at b_q1
    repeat (first | rw [hd_drew] at b_q1 | rw [hs_ne _ _ _ _ _ (by omega)] at b_q1 | rw [ha_lt _ _ _ (by first | omega | (simp only [World.size_alloc, World.size_setCell, World.size_drew]; omega))] at b_q1 | rw [hs_same] at b_q1)
    rw [ha_new _ _ _ (by first | rfl | simp only [World.size_alloc, World.size_setCell, World.size_drew])] at b_q1
    try simp only [Option.map_some, putO, List.setIfInBounds_toArray, List.set_cons_zero, List.set_cons_succ] at b_q1
    have Lq1 := Lib.hid b_q1.symm
    clear b_q1
    have b_q2 := congrArg (fun u : World => u.heap[w.heap.size + 1 + 1]?) hW
    try simp only [] at b_q2
    repeat (first | rw [hd_drew] at b_q2 | rw [hs_ne _ _ _ _ _ (by omega)] at b_q2 | rw [ha_lt _ _ _ (by first | omega | (simp only [World.size_alloc, World.size_setCell, World.size_drew]; omega))] at b_q2 | rw [hs_same] at b_q2)
    rw [ha_new _ _ _ (by first | rfl | simp only [World.size_alloc, World.size_setCell, World.size_drew])] at b_q2
    try simp only [Option.map_some, putO, List.setIfInBounds_toArray, List.set_cons_zero, List.set_cons_succ] at b_q2
    have Lq2 := Lib.hid b_q2.symm
    clear b_q2
    have b_q3 := congrArg (fun u : World => u.heap[w.heap.size + 1 + 1 + 1]?) hW
    try simp only [] at b_q3
    repeat (first | rw [hd_drew] at b_q3 | rw [hs_ne _ _ _ _ _ (by omega)] at b_q3 | rw [ha_lt _ _ _ (by first | omega | (simp only [World.size_alloc, World.size_setCell, World.size_drew]; omega))] at b_q3 | rw [hs_same] at b_q3)
    rw [ha_new _ _ _ (by first | rfl | simp only [World.size_alloc, World.size_setCell, World.size_drew])] at b_q3
    try simp only [Option.map_some, putO, List.setIfInBounds_toArray, List.set_cons_zero, List.set_cons_succ] at b_q3
    have Lq3 := Lib.hid b_q3.symm
    clear b_q3
    have cq0 := cell_of_heap Lq0.out
    have fq0 := frz_of_heap Lq0.out
    have sq0 := lt_of_heap Lq0.out
    have cq1 := cell_of_heap Lq1.out
    have fq1 := frz_of_heap Lq1.out
    have sq1 := lt_of_heap Lq1.out
    have cq2 := cell_of_heap Lq2.out
    have fq2 := frz_of_heap Lq2.out
    have sq2 := lt_of_heap Lq2.out
    have cq3 := cell_of_heap Lq3.out
    have fq3 := frz_of_heap Lq3.out
    have sq3 := lt_of_heap Lq3.out
    have hbw : Below w.heap.size w W := by subst hW; exact blw_alloc (blw_alloc (blw_alloc (blw_alloc (Below.refl _ _) _) _) _) _
    clear hW
    refine (ref02_Right a _).mono ?_
    rintro e w1 ⟨rfl, hb⟩
    replace Lq0 := Lib.hid ((hb.block _ (lt_of_heap Lq0.out)).trans Lq0.out)
    replace Lq1 := Lib.hid ((hb.block _ (lt_of_heap Lq1.out)).trans Lq1.out)
    replace Lq2 := Lib.hid ((hb.block _ (lt_of_heap Lq2.out)).trans Lq2.out)
    replace Lq3 := Lib.hid ((hb.block _ (lt_of_heap Lq3.out)).trans Lq3.out)
    replace cq0 := cell_of_heap Lq0.out
    replace fq0 := frz_of_heap Lq0.out
    replace sq0 := lt_of_heap Lq0.out
    replace cq1 := cell_of_heap Lq1.out
    replace fq1 := frz_of_heap Lq1.out
    replace sq1 := lt_of_heap Lq1.out
    replace cq2 := cell_of_heap Lq2.out
    replace fq2 := frz_of_heap Lq2.out
    replace sq2 := lt_of_heap Lq2.out
    replace cq3 := cell_of_heap Lq3.out
    replace fq3 := frz_of_heap Lq3.out
    replace sq3 := lt_of_heap Lq3.out
    have Q1 := Lib.hid (blw_then hbw hb)
    clear hb hbw
    have HE : Hid (memDo cs a = (cs, ⟨0, false⟩, 1)) := by show memDo cs a = _; rw [memDo, if_neg (by rw [Hr.out]; simp)]
    go_wp2
    refine bodyPost_ret (v := .tuple #[.agg #[.slice A cs.length c], .agg #[.int .i64 0, .bool false], .int .i64 1]) (by simp [results, go_sem, cq2, fq2, cq3, fq3]) rfl ?_
    refine DoPost.old (r := ⟨0, false⟩) HM.out (HR.out.symm.trans HE.out) (Keep.toBelow (X := fun i => w.heap.size ≤ i) ?_ (fun i hi => by omega))
    with_reducible repeat (refine Keep.setCell ?_ _ (.inr (by simp only []; omega)))
    exact Keep.of_below Q1.out
  · have Hr := Lib.hid hr
    go_enter Try.func40, Try.ntmps40
    go_wp2_with fail
    generalize hW : (((w.alloc _).alloc _).alloc _).alloc _ = W
    have b_q0 := congrArg (fun u : World => u.heap[w.heap.size]?) hW
    try simp only [] at b_q0
    repeat (first | rw [hd_drew] at b_q0 | rw [hs_ne _ _ _ _ _ (by omega)] at b_q0 | rw [ha_lt _ _ _ (by first | omega | (simp only [World.size_alloc, World.size_setCell, World.size_drew]; omega))] at b_q0 | rw [hs_same] at b_q0)
    rw [ha_new _ _ _ (by first | rfl | simp only [World.size_alloc, World.size_setCell, World.size_drew])] at b_q0
    try simp only [Option.map_some, putO, List.setIfInBounds_toArray, List.set_cons_zero, List.set_cons_succ] at b_q0
    have Lq0 := Lib.hid b_q0.symm
    clear b_q0
    have b_q1 := congrArg (fun u : World => u.heap[w.heap.size + 1]?) hW
    try simp only [] at b_q1
    repeat (first | rw [hd_drew] at b_q1 | rw [hs_ne _ _ _ _ _ (by omega)] at b_q1 | rw [ha_lt _ _ _ (by first | omega | (simp only [World.size_alloc, World.size_setCell, World.size_drew]; omega))] at b_q1 | rw [hs_same] at b_q1)
    rw [ha_new _ _ _ (by first | rfl | simp only [World.size_alloc, World.size_setCell, World.size_drew])] at b_q1
    try simp only [Option.map_some, putO, List.setIfInBounds_toArray, List.set_cons_zero, List.set_cons_succ] at b_q1
    have Lq1 := Lib.hid b_q1.symm
    clear b_q1
    have b_q2 := congrArg (fun u : World => u.heap[w.heap.size + 1 + 1]?) hW
    try simp only [] at b_q2
    repeat (first | rw [hd_drew] at b_q2 | rw [hs_ne _ _ _ _ _ (by omega)] at b_q2 | rw [ha_lt _ _ _ (by first | omega | (simp only [World.size_alloc, World.size_setCell, World.size_drew]; omega))] at b_q2 | rw [hs_same] at b_q2)
    rw [ha_new _ _ _ (by first | rfl | simp only [World.size_alloc, World.size_setCell, World.size_drew])] at b_q2
    try simp only [Option.map_some, putO, List.setIfInBounds_toArray, List.set_cons_zero, List.set_cons_succ] at b_q2
    have Lq2 := Lib.hid b_q2.symm
    clear b_q2
    have b_q3 := congrArg (fun u : World => u.heap[w.heap.size + 1 + 1 + 1]?) hW
    try simp only [] at b_q3
    repeat (first | rw [hd_drew] at b_q3 | rw [hs_ne _ _ _ _ _ (by omega)] at b_q3 | rw [ha_lt _ _ _ (by first | omega | (simp only [World.size_alloc, World.size_setCell, World.size_drew]; omega))] at b_q3 | rw [hs_same] at b_q3)
    rw [ha_new _ _ _ (by first | rfl | simp only [World.size_alloc, World.size_setCell, World.size_drew])] at b_q3
    try simp only [Option.map_some, putO, List.setIfInBounds_toArray, List.set_cons_zero, List.set_cons_succ] at b_q3
    have Lq3 := Lib.hid b_q3.symm
    clear b_q3
    have cq0 := cell_of_heap Lq0.out
    have fq0 := frz_of_heap Lq0.out
    have sq0 := lt_of_heap Lq0.out
    have cq1 := cell_of_heap Lq1.out
    have fq1 := frz_of_heap Lq1.out
    have sq1 := lt_of_heap Lq1.out
    have cq2 := cell_of_heap Lq2.out
    have fq2 := frz_of_heap Lq2.out
    have sq2 := lt_of_heap Lq2.out
    have cq3 := cell_of_heap Lq3.out
    have fq3 := frz_of_heap Lq3.out
    have sq3 := lt_of_heap Lq3.out
    have hbw : Below w.heap.size w W := by subst hW; exact blw_alloc (blw_alloc (blw_alloc (blw_alloc (Below.refl _ _) _) _) _) _
    clear hW
    refine (ref02_Right a _).mono ?_
    rintro e w1 ⟨rfl, hb⟩
    replace Lq0 := Lib.hid ((hb.block _ (lt_of_heap Lq0.out)).trans Lq0.out)
    replace Lq1 := Lib.hid ((hb.block _ (lt_of_heap Lq1.out)).trans Lq1.out)
    replace Lq2 := Lib.hid ((hb.block _ (lt_of_heap Lq2.out)).trans Lq2.out)
    replace Lq3 := Lib.hid ((hb.block _ (lt_of_heap Lq3.out)).trans Lq3.out)
    replace cq0 := cell_of_heap Lq0.out
    replace fq0 := frz_of_heap Lq0.out
    replace sq0 := lt_of_heap Lq0.out
    replace cq1 := cell_of_heap Lq1.out
    replace fq1 := frz_of_heap Lq1.out
    replace sq1 := lt_of_heap Lq1.out
    replace cq2 := cell_of_heap Lq2.out
    replace fq2 := frz_of_heap Lq2.out
    replace sq2 := lt_of_heap Lq2.out
    replace cq3 := cell_of_heap Lq3.out
    replace fq3 := frz_of_heap Lq3.out
    replace sq3 := lt_of_heap Lq3.out
    have Q1 := Lib.hid (blw_then hbw hb)
    clear hb hbw
    by_cases hcl : a.cell ≥ (cs.length : Int)
    · have hd : decide (a.cell ≥ (cs.length : Int)) = true := by simpa using hcl
      have HE : Hid (memDo cs a = (cs, ⟨0, false⟩, 8)) := by
        show memDo cs a = _
        rw [memDo, if_pos Hr.out, List.getElem?_eq_none (by omega)]
      clear hcl
      go_wp2
      refine bodyPost_ret (v := .tuple #[.agg #[.slice A cs.length c], .agg #[.int .i64 0, .bool false], .int .i64 8]) (by simp [results, go_sem, cq2, fq2, cq3, fq3]) rfl ?_
      refine DoPost.old (r := ⟨0, false⟩) HM.out (HR.out.symm.trans HE.out) (Keep.toBelow (X := fun i => w.heap.size ≤ i) ?_ (fun i hi => by omega))
      with_reducible repeat (refine Keep.setCell ?_ _ (.inr (by simp only []; omega)))
      exact Keep.of_below Q1.out
    · have h0 : 0 ≤ a.cell := by
        have := Hr.out
        simp [memRight] at this
        omega
      obtain ⟨i, hi⟩ := Int.eq_ofNat_of_zero_le h0
      obtain ⟨kind, cell, old, new, bytes⟩ := a
      simp only at hi
      subst hi
      simp only at hcl h0
      have hil : i < cs.length := by omega
      have hne : cs ≠ [] := by intro e; simp [e] at hil
      obtain ⟨b, o, rfl, hbl, hcell⟩ := HA.out hne
      have hx : cs[i]? = some cs[i] := List.getElem?_eq_getElem hil
      have cw := hcell i _ hx
      have cw1 : w1.cell? ⟨b, o + i, none⟩ = _ := (bcell Q1.out).1 b (o + i) hbl |>.trans cw
      have HX := Lib.hid hx
      clear hcell
      generalize cs[i] = was at *
      have HE0 := Lib.hid (memDo_eq Hr.out hx)
      have hd : decide ((i : Int) ≥ (cs.length : Int)) = false := by simp; omega
      have HIL := Lib.hid hil
      clear hx hcl h0 cw
      by_cases k1 : kind = 1
      · subst k1
        have HE : Hid (memDo cs ⟨1, (i : Int), old, new, bytes⟩ = (cs, ⟨was, true⟩, 0)) := Lib.hid (HE0.out.trans (by simp [memNext, set_self HX.out]))
        go_wp2
        refine bodyPost_ret (v := .tuple #[.agg #[.slice (some ⟨b, o, none⟩) cs.length c], .agg #[.int .i64 was, .bool true], .int .i64 0]) (by simp [results, go_sem, cq2, fq2, cq3, fq3]) rfl ?_
        refine DoPost.old (r := ⟨was, true⟩) HM.out (HR.out.symm.trans HE.out) (Keep.toBelow (X := fun i => w.heap.size ≤ i) ?_ (fun i hi => by omega))
        with_reducible repeat (refine Keep.setCell ?_ _ (.inr (by simp only []; omega)))
        exact Keep.of_below Q1.out
      · have b1 : (kind == 1) = false := by simp [k1]
        have K1 := Lib.hid k1
        clear k1
        by_cases k3 : kind = 3 ∧ was ≠ old
        · obtain ⟨rfl, hwo⟩ := k3
          have bn : (was != old) = true := by simp [hwo]
          have bw : (was == old) = false := by simp [hwo]
          have HE : Hid (memDo cs ⟨3, (i : Int), old, new, bytes⟩ = (cs, ⟨was, false⟩, 0)) := Lib.hid (HE0.out.trans (by simp [memNext, hwo, set_self HX.out]))
          clear hwo
          go_wp2
          refine bodyPost_ret (v := .tuple #[.agg #[.slice (some ⟨b, o, none⟩) cs.length c], .agg #[.int .i64 was, .bool false], .int .i64 0]) (by simp [results, go_sem, cq2, fq2, cq3, fq3]) rfl ?_
          refine DoPost.old (r := ⟨was, false⟩) HM.out (HR.out.symm.trans HE.out) (Keep.toBelow (X := fun i => w.heap.size ≤ i) ?_ (fun i hi => by omega))
          with_reducible repeat (refine Keep.setCell ?_ _ (.inr (by simp only []; omega)))
          exact Keep.of_below Q1.out
        · have HN : Hid (memNext was ⟨kind, (i : Int), old, new, bytes⟩ = ((if kind = 4 then wrap64 (was + new) else new), true)) := by
            refine Lib.hid ?_
            have h := Hr.out
            have k1' := K1.out
            simp [memRight, k1'] at h
            unfold memNext
            by_cases e2 : kind = 2
            · simp [e2]
            · by_cases e4 : kind = 4
              · simp [e4]
              · have e3 : kind = 3 := by
                  have := h.2
                  rw [if_neg (by omega)] at this
                  simpa using this
                have : was = old := by
                  apply Classical.byContradiction
                  intro q
                  exact k3 ⟨e3, q⟩
                simp [e3, this]
          by_cases k4 : kind = 4
          · subst k4
            rw [if_pos rfl] at HN
            clear k3
            have HE : Hid (memDo cs ⟨4, (i : Int), old, new, bytes⟩ = (cs.set i (wrap64 (was + new)), ⟨was, true⟩, 0)) := Lib.hid (HE0.out.trans (by rw [HN.out]))
            clear HN
            go_wp2_with fail
            refine (ref_with cs i (wrap64 (was + new)) (.slice (some ⟨b, o, none⟩) cs.length c) w1 (HM.out.below Q1.out) HIL.out HLEN.out).mono ?_
            rintro e w2 ⟨vm2, rfl, hI2, hT2, hown, hb2⟩
            have HI2 := Lib.hid hI2
            have HT2 := Lib.hid hT2
            have HOWN := Lib.hid hown
            obtain ⟨A2, c2, rfl, -⟩ := hI2.out
            replace Lq2 := Lib.hid ((hb2.block _ (lt_of_heap Lq2.out)).trans Lq2.out)
            replace Lq3 := Lib.hid ((hb2.block _ (lt_of_heap Lq3.out)).trans Lq3.out)
            replace cq2 := cell_of_heap Lq2.out
            replace fq2 := frz_of_heap Lq2.out
            replace sq2 := lt_of_heap Lq2.out
            replace cq3 := cell_of_heap Lq3.out
            replace fq3 := frz_of_heap Lq3.out
            replace sq3 := lt_of_heap Lq3.out
            have Q2 := Lib.hid (blw_then Q1.out hb2)
            have z1 := Q1.out.size
            clear hb2 hI2 hT2 hown Lq0 Lq1 cq0 fq0 sq0 cq1 fq1 sq1
            go_wp2
            refine bodyPost_ret (v := .tuple #[.agg #[.slice A2 (cs.set i (wrap64 (was + new))).length c2], .agg #[.int .i64 was, .bool true], .int .i64 0]) (by simp [results, go_sem, cq2, fq2, cq3, fq3, sq2, sq3]) rfl ?_
            have hRe := HR.out.symm.trans HE.out
            clear HR HE HE0
            subst hRe
            have FIN : ∀ wf, Keep (fun i => i = w.heap.size + 1 + 1 ∨ i = w.heap.size + 1 + 1 + 1) w2 wf → DoPost w (.slice (some ⟨b, o, none⟩) cs.length c) (cs.set i (wrap64 (was + new)), ⟨was, true⟩, 0) (.returned (.tuple #[.agg #[.slice A2 (cs.set i (wrap64 (was + new))).length c2], .agg #[.int .i64 was, .bool true], .int .i64 0])) wf := by
              intro wf hk
              obtain ⟨g1, g2⟩ := ints_keep HI2.out HT2.out hk (by
                rintro b' (rfl | rfl) _ c' fr e
                · rw [Lq2.out] at e; simp at e
                · rw [Lq3.out] at e; simp at e)
              exact ⟨_, rfl, g1, Keep.toBelow (X := fun i => w.heap.size ≤ i) ((Keep.of_below Q2.out).trans (hk.mono fun i _ hi => by omega)) (fun i hi => by omega), fun _ => g2, .inr fun b' hb' => by have := HOWN.out b' hb'; omega⟩
            refine FIN _ ?_
            with_reducible repeat (refine Keep.setCell ?_ _ (.inr (by first | exact .inl rfl | exact .inr rfl)))
            exact Keep.refl _ _
          · rw [if_neg k4] at HN
            have b4 : (kind == 4) = false := by simp [k4]
            clear k4
            by_cases e3 : kind = 3
            · subst e3
              have hwo : was = old := Classical.byContradiction fun q => k3 ⟨rfl, q⟩
              have bw : (was != old) = false := by simp [hwo]
              clear k3 hwo
              have HE : Hid (memDo cs ⟨3, (i : Int), old, new, bytes⟩ = (cs.set i new, ⟨was, true⟩, 0)) := Lib.hid (HE0.out.trans (by rw [HN.out]))
              clear HN
              go_wp2_with fail
              refine (ref_with cs i new (.slice (some ⟨b, o, none⟩) cs.length c) w1 (HM.out.below Q1.out) HIL.out HLEN.out).mono ?_
              rintro e w2 ⟨vm2, rfl, hI2, hT2, hown, hb2⟩
              have HI2 := Lib.hid hI2
              have HT2 := Lib.hid hT2
              have HOWN := Lib.hid hown
              obtain ⟨A2, c2, rfl, -⟩ := hI2.out
              replace Lq2 := Lib.hid ((hb2.block _ (lt_of_heap Lq2.out)).trans Lq2.out)
              replace Lq3 := Lib.hid ((hb2.block _ (lt_of_heap Lq3.out)).trans Lq3.out)
              replace cq2 := cell_of_heap Lq2.out
              replace fq2 := frz_of_heap Lq2.out
              replace sq2 := lt_of_heap Lq2.out
              replace cq3 := cell_of_heap Lq3.out
              replace fq3 := frz_of_heap Lq3.out
              replace sq3 := lt_of_heap Lq3.out
              have Q2 := Lib.hid (blw_then Q1.out hb2)
              have z1 := Q1.out.size
              clear hb2 hI2 hT2 hown Lq0 Lq1 cq0 fq0 sq0 cq1 fq1 sq1
              go_wp2
              refine bodyPost_ret (v := .tuple #[.agg #[.slice A2 (cs.set i new).length c2], .agg #[.int .i64 was, .bool true], .int .i64 0]) (by simp [results, go_sem, cq2, fq2, cq3, fq3, sq2, sq3]) rfl ?_
              have hRe := HR.out.symm.trans HE.out
              clear HR HE HE0
              subst hRe
              have FIN : ∀ wf, Keep (fun i => i = w.heap.size + 1 + 1 ∨ i = w.heap.size + 1 + 1 + 1) w2 wf → DoPost w (.slice (some ⟨b, o, none⟩) cs.length c) (cs.set i new, ⟨was, true⟩, 0) (.returned (.tuple #[.agg #[.slice A2 (cs.set i new).length c2], .agg #[.int .i64 was, .bool true], .int .i64 0])) wf := by
                intro wf hk
                obtain ⟨g1, g2⟩ := ints_keep HI2.out HT2.out hk (by
                  rintro b' (rfl | rfl) _ c' fr e
                  · rw [Lq2.out] at e; simp at e
                  · rw [Lq3.out] at e; simp at e)
                exact ⟨_, rfl, g1, Keep.toBelow (X := fun i => w.heap.size ≤ i) ((Keep.of_below Q2.out).trans (hk.mono fun i _ hi => by omega)) (fun i hi => by omega), fun _ => g2, .inr fun b' hb' => by have := HOWN.out b' hb'; omega⟩
              refine FIN _ ?_
              with_reducible repeat (refine Keep.setCell ?_ _ (.inr (by first | exact .inl rfl | exact .inr rfl)))
              exact Keep.refl _ _
            · have b3 : (kind == 3) = false := by simp [e3]
              clear k3 e3
              have HE : Hid (memDo cs ⟨kind, (i : Int), old, new, bytes⟩ = (cs.set i new, ⟨was, true⟩, 0)) := Lib.hid (HE0.out.trans (by rw [HN.out]))
              clear HN
              go_wp2_with fail
              refine (ref_with cs i new (.slice (some ⟨b, o, none⟩) cs.length c) w1 (HM.out.below Q1.out) HIL.out HLEN.out).mono ?_
              rintro e w2 ⟨vm2, rfl, hI2, hT2, hown, hb2⟩
              have HI2 := Lib.hid hI2
              have HT2 := Lib.hid hT2
              have HOWN := Lib.hid hown
              obtain ⟨A2, c2, rfl, -⟩ := hI2.out
              replace Lq2 := Lib.hid ((hb2.block _ (lt_of_heap Lq2.out)).trans Lq2.out)
              replace Lq3 := Lib.hid ((hb2.block _ (lt_of_heap Lq3.out)).trans Lq3.out)
              replace cq2 := cell_of_heap Lq2.out
              replace fq2 := frz_of_heap Lq2.out
              replace sq2 := lt_of_heap Lq2.out
              replace cq3 := cell_of_heap Lq3.out
              replace fq3 := frz_of_heap Lq3.out
              replace sq3 := lt_of_heap Lq3.out
              have Q2 := Lib.hid (blw_then Q1.out hb2)
              have z1 := Q1.out.size
              clear hb2 hI2 hT2 hown Lq0 Lq1 cq0 fq0 sq0 cq1 fq1 sq1
              go_wp2
              refine bodyPost_ret (v := .tuple #[.agg #[.slice A2 (cs.set i new).length c2], .agg #[.int .i64 was, .bool true], .int .i64 0]) (by simp [results, go_sem, cq2, fq2, cq3, fq3, sq2, sq3]) rfl ?_
              have hRe := HR.out.symm.trans HE.out
              clear HR HE HE0
              subst hRe
              have FIN : ∀ wf, Keep (fun i => i = w.heap.size + 1 + 1 ∨ i = w.heap.size + 1 + 1 + 1) w2 wf → DoPost w (.slice (some ⟨b, o, none⟩) cs.length c) (cs.set i new, ⟨was, true⟩, 0) (.returned (.tuple #[.agg #[.slice A2 (cs.set i new).length c2], .agg #[.int .i64 was, .bool true], .int .i64 0])) wf := by
                intro wf hk
                obtain ⟨g1, g2⟩ := ints_keep HI2.out HT2.out hk (by
                  rintro b' (rfl | rfl) _ c' fr e
                  · rw [Lq2.out] at e; simp at e
                  · rw [Lq3.out] at e; simp at e)
                exact ⟨_, rfl, g1, Keep.toBelow (X := fun i => w.heap.size ≤ i) ((Keep.of_below Q2.out).trans (hk.mono fun i _ hi => by omega)) (fun i hi => by omega), fun _ => g2, .inr fun b' hb' => by have := HOWN.out b' hb'; omega⟩
              refine FIN _ ?_
              with_reducible repeat (refine Keep.setCell ?_ _ (.inr (by first | exact .inl rfl | exact .inr rfl)))
              exact Keep.refl _ _
end Go.Proofs.Ytpfibcbeenogiaa
