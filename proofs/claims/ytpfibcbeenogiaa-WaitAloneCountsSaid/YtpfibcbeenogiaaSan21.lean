/- hallmootlaw21: sanity, walked. -/
import Derived.Test.YtpfibcbeenogiaaPlayed
import Derived.Test.YtpfibcbeenogiaaEq
namespace Go.Proofs.Ytpfibcbeenogiaa
open Go.RowKit
set_option linter.unusedSimpArgs false
set_option linter.unusedVariables false
set_option maxRecDepth 100000
theorem sane_a : (playedSt [0] [0, 0, 0, 0, 0, 0, 0] [[0]]).told = 3 ∧ bitsN lay3 (playedSt [0] [0, 0, 0, 0, 0, 0, 0] [[0]]).cs 3 = 0 := by decide +kernel
theorem sane_b : (playedSt [0] [] []).told = 1 ∧ bitsN lay3 (playedSt [0] [] []).cs 3 = 1 := by decide +kernel
theorem sane_r : (rouseN lay3 (wIn 5) 3).length = 2 := by decide +kernel
theorem sane_n : (stepOf (waitP lay3 0 5 [⟨3, 0, 0⟩]) []).2 = (⟨0, 0, 0, 0, false, false, 1⟩, true) := by decide +kernel
def SanePost (w : World) (e : Ending) (w' : World) : Prop := e = .returned (.bool true) ∧ Below w.heap.size w w'
theorem want_one {w : World} {b b1 : Nat} {T : TypeId} (h : w.heap[b]? = some (.cells #[.slice (some ⟨b1, 0, none⟩) 1 1] T (0, 0))) {T1 : TypeId} (h1 : w.heap[b1]? = some (.cells #[.int .u8 0] T1 (0, 0))) : WantR w (.slice (some ⟨b, 0, none⟩) 1 1) [[0]] := by
  refine ⟨_, _, rfl, fun i xs hi => ?_⟩
  match i, hi with
  | 0, hi =>
    obtain rfl : xs = [0] := by simpa using hi.symm
    exact ⟨b, 0, 1, _, rfl, Nat.zero_lt_one, by rw [cell_of_heap h]; rfl, lt_of_heap h, SlR.of_heap (enc := fun x : Int => Value.int .u8 x) (xs := [0]) h1 1 (Nat.le_refl _) (by decide), by simp⟩
theorem want_none (w : World) : WantR w (.slice none 0 0) [] := ⟨_, _, rfl, fun i xs hi => by simp at hi⟩
theorem seen_one {w : World} {b : Nat} {x y z : Int} {T : TypeId} (h : w.heap[b]? = some (.cells #[.int .i64 x, .int .i64 y, .int .i64 z] T (0, 0))) : SlR 3 Sn.cells w (.slice (some ⟨b, 0, none⟩) 1 1) [⟨x, y, z⟩] := by
  refine ⟨_, 1, rfl, Nat.le_refl _, by simp, fun _ => ⟨b, 0, rfl, lt_of_heap h, fun i s hi j u hu => ?_⟩⟩
  match i, hi with
  | 0, hi =>
    obtain rfl : s = ⟨x, y, z⟩ := by simpa using hi.symm
    rw [cell_of_heap h]
    match j, hu with
    | 0, hu => simpa using hu
    | 1, hu => simpa using hu
    | 2, hu => simpa using hu
set_option maxHeartbeats 4000000 in
theorem law21_sanity (w : World) : Calls Try.prog 29 #[] w (SanePost w) := by
  go_enter Try.func29, Try.ntmps29
  go_wp2_with fail
  generalize hW : World.alloc _ _ = W
  have b_q0 := congrArg (fun u : World => u.heap[w.heap.size]?) hW
  try simp only [] at b_q0
  repeat (first | rw [hd_drew] at b_q0 | rw [hd_drewN] at b_q0 | rw [hs_ne _ _ _ _ _ (by omega)] at b_q0 | rw [ha_lt _ _ _ (by first | omega | (simp only [World.size_alloc, World.size_setCell, World.size_drew]; omega))] at b_q0 | rw [hs_same] at b_q0)
  rw [ha_new _ _ _ (by first | rfl | simp only [World.size_alloc, World.size_setCell, World.size_drew])] at b_q0
  try simp only [Option.map_some, putO, List.setIfInBounds_toArray, List.set_cons_zero, List.set_cons_succ] at b_q0
  have Lq0 := Lib.hid b_q0.symm
  clear b_q0
  have b_q1 := congrArg (fun u : World => u.heap[w.heap.size + 1]?) hW
  try simp only [] at b_q1
  repeat (first | rw [hd_drew] at b_q1 | rw [hd_drewN] at b_q1 | rw [hs_ne _ _ _ _ _ (by omega)] at b_q1 | rw [ha_lt _ _ _ (by first | omega | (simp only [World.size_alloc, World.size_setCell, World.size_drew]; omega))] at b_q1 | rw [hs_same] at b_q1)
  rw [ha_new _ _ _ (by first | rfl | simp only [World.size_alloc, World.size_setCell, World.size_drew])] at b_q1
  try simp only [Option.map_some, putO, List.setIfInBounds_toArray, List.set_cons_zero, List.set_cons_succ] at b_q1
  have Lq1 := Lib.hid b_q1.symm
  clear b_q1
  have b_q2 := congrArg (fun u : World => u.heap[w.heap.size + 1 + 1]?) hW
  try simp only [] at b_q2
  repeat (first | rw [hd_drew] at b_q2 | rw [hd_drewN] at b_q2 | rw [hs_ne _ _ _ _ _ (by omega)] at b_q2 | rw [ha_lt _ _ _ (by first | omega | (simp only [World.size_alloc, World.size_setCell, World.size_drew]; omega))] at b_q2 | rw [hs_same] at b_q2)
  rw [ha_new _ _ _ (by first | rfl | simp only [World.size_alloc, World.size_setCell, World.size_drew])] at b_q2
  try simp only [Option.map_some, putO, List.setIfInBounds_toArray, List.set_cons_zero, List.set_cons_succ] at b_q2
  have Lq2 := Lib.hid b_q2.symm
  clear b_q2
  have b_q3 := congrArg (fun u : World => u.heap[w.heap.size + 1 + 1 + 1]?) hW
  try simp only [] at b_q3
  repeat (first | rw [hd_drew] at b_q3 | rw [hd_drewN] at b_q3 | rw [hs_ne _ _ _ _ _ (by omega)] at b_q3 | rw [ha_lt _ _ _ (by first | omega | (simp only [World.size_alloc, World.size_setCell, World.size_drew]; omega))] at b_q3 | rw [hs_same] at b_q3)
  rw [ha_new _ _ _ (by first | rfl | simp only [World.size_alloc, World.size_setCell, World.size_drew])] at b_q3
  try simp only [Option.map_some, putO, List.setIfInBounds_toArray, List.set_cons_zero, List.set_cons_succ] at b_q3
  have Lq3 := Lib.hid b_q3.symm
  clear b_q3
  have cq0 := cell_of_heap Lq0.out
  have fq0 := frz_of_heap Lq0.out
  have sq0 := lt_of_heap Lq0.out
  have cq1 := cell_of_heap Lq1.out
  have fq1 := frz_of_heap Lq1.out
  have sq1 := lt_of_heap Lq1.out
  have cq2 := cell_of_heap Lq2.out
  have fq2 := frz_of_heap Lq2.out
  have sq2 := lt_of_heap Lq2.out
  have cq3 := cell_of_heap Lq3.out
  have fq3 := frz_of_heap Lq3.out
  have sq3 := lt_of_heap Lq3.out
  have hbw : Below w.heap.size w W := by subst hW; exact blw_alloc (blw_alloc (blw_alloc (blw_alloc (Below.refl _ _) _) _) _) _
  clear hW
  have HBW := Lib.hid hbw
  have wa := want_one Lq2.out Lq1.out
  have sa := SlR.of_heap (enc := fun x : Int => Value.int .u8 x) (xs := [0]) Lq0.out 1 (Nat.le_refl _) (by decide)
  have ta := SlR.of_heap (enc := fun x : Int => Value.int .u8 x) (xs := [0, 0, 0, 0, 0, 0, 0]) Lq3.out 7 (Nat.le_refl _) (by decide)
  refine (law_played _ _ _ [0] [0, 0, 0, 0, 0, 0, 0] [[0]] W sa (by simp) wa ta (by simp) (by simp) (by simp) (by simp) (by simp)).mono ?_
  rintro e w1 ⟨tb, wb, rfl, hst⟩
  generalize hsa : playedSt [0] [0, 0, 0, 0, 0, 0, 0] [[0]] = s1 at hst
  have Ha := Lib.hid (show s1.told = 3 ∧ bitsN lay3 s1.cs 3 = 0 from hsa ▸ sane_a)
  have HB1 := Lib.hid (blw_then HBW.out hst.below)
  have H1 := Lib.hid hst
  clear hst hsa wa sa ta hbw cq0 fq0 sq0 cq1 fq1 sq1 cq2 fq2 sq2 cq3 fq3 sq3
  go_wp2_with fail
  generalize hW : World.alloc _ _ = W2
  have b_q4 := congrArg (fun u : World => u.heap[w1.heap.size]?) hW
  try simp only [] at b_q4
  repeat (first | rw [hd_drew] at b_q4 | rw [hd_drewN] at b_q4 | rw [hs_ne _ _ _ _ _ (by omega)] at b_q4 | rw [ha_lt _ _ _ (by first | omega | (simp only [World.size_alloc, World.size_setCell, World.size_drew]; omega))] at b_q4 | rw [hs_same] at b_q4)
  rw [ha_new _ _ _ (by first | rfl | simp only [World.size_alloc, World.size_setCell, World.size_drew])] at b_q4
  try simp only [Option.map_some, putO, List.setIfInBounds_toArray, List.set_cons_zero, List.set_cons_succ] at b_q4
  have Lq4 := Lib.hid b_q4.symm
  clear b_q4
  have cq4 := cell_of_heap Lq4.out
  have fq4 := frz_of_heap Lq4.out
  have sq4 := lt_of_heap Lq4.out
  have hbw : Below w1.heap.size w1 W2 := by subst hW; exact blw_alloc (Below.refl _ _) _
  clear hW
  have HBW2 := Lib.hid hbw
  have sa := SlR.of_heap (enc := fun x : Int => Value.int .u8 x) (xs := [0]) Lq4.out 1 (Nat.le_refl _) (by decide)
  refine (law_played _ _ _ [0] [] [] W2 sa (by simp) (want_none _) (SlR.nil _ _ _) (by simp) (by simp) (by simp) (by simp) (by simp)).mono ?_
  rintro e w2 ⟨tb2, wb2, rfl, hst⟩
  generalize hsa : playedSt [0] [] [] = s2 at hst
  have Hb := Lib.hid (show s2.told = 1 ∧ bitsN lay3 s2.cs 3 = 1 from hsa ▸ sane_b)
  have HB2 := Lib.hid (blw_then HB1.out (blw_then HBW2.out hst.below))
  replace H1 := Lib.hid (H1.out.on (blw_then HBW2.out hst.below))
  have H2 := Lib.hid hst
  clear hst hsa sa hbw cq4 fq4 sq4
  go_wp2_with fail
  refine (law_where _).mono ?_
  rintro e w3 ⟨rfl, hb3⟩
  replace HB2 := Lib.hid (blw_then HB2.out hb3)
  replace H1 := Lib.hid (H1.out.on hb3)
  replace H2 := Lib.hid (H2.out.on hb3)
  clear hb3
  go_wp2_with fail
  generalize hW : World.alloc _ _ = W3
  have b_q5 := congrArg (fun u : World => u.heap[w3.heap.size]?) hW
  try simp only [] at b_q5
  repeat (first | rw [hd_drew] at b_q5 | rw [hd_drewN] at b_q5 | rw [hs_ne _ _ _ _ _ (by omega)] at b_q5 | rw [ha_lt _ _ _ (by first | omega | (simp only [World.size_alloc, World.size_setCell, World.size_drew]; omega))] at b_q5 | rw [hs_same] at b_q5)
  rw [ha_new _ _ _ (by first | rfl | simp only [World.size_alloc, World.size_setCell, World.size_drew])] at b_q5
  try simp only [Option.map_some, putO, List.setIfInBounds_toArray, List.set_cons_zero, List.set_cons_succ] at b_q5
  have Lq5 := Lib.hid b_q5.symm
  clear b_q5
  have cq5 := cell_of_heap Lq5.out
  have fq5 := frz_of_heap Lq5.out
  have sq5 := lt_of_heap Lq5.out
  have hbw : Below w3.heap.size w3 W3 := by subst hW; exact blw_alloc (Below.refl _ _) _
  clear hW
  refine (wait_Rouse lay3 5 W3 (by decide)).mono ?_
  rintro e w4 ⟨v4, rfl, hR4, -, hb4⟩
  obtain ⟨A4, c4, rfl, -⟩ := hR4.out
  have hl4 : (rouseN lay3 (wIn 5) lay3.thr.toNat).length = 2 := sane_r
  rw [hl4]
  replace Lq5 := Lib.hid ((hb4.block _ (lt_of_heap Lq5.out)).trans Lq5.out)
  replace cq5 := cell_of_heap Lq5.out
  replace fq5 := frz_of_heap Lq5.out
  replace sq5 := lt_of_heap Lq5.out
  replace HB2 := Lib.hid (blw_then HB2.out (blw_then hbw hb4))
  replace H1 := Lib.hid (H1.out.on (blw_then hbw hb4))
  replace H2 := Lib.hid (H2.out.on (blw_then hbw hb4))
  clear hb4 hbw hR4 hl4
  go_wp2_with fail
  generalize hW : World.alloc _ _ = W4
  have b_q6 := congrArg (fun u : World => u.heap[w4.heap.size]?) hW
  try simp only [] at b_q6
  repeat (first | rw [hd_drew] at b_q6 | rw [hd_drewN] at b_q6 | rw [hs_ne _ _ _ _ _ (by omega)] at b_q6 | rw [ha_lt _ _ _ (by first | omega | (simp only [World.size_alloc, World.size_setCell, World.size_drew]; omega))] at b_q6 | rw [hs_same] at b_q6)
  rw [ha_new _ _ _ (by first | rfl | simp only [World.size_alloc, World.size_setCell, World.size_drew])] at b_q6
  try simp only [Option.map_some, putO, List.setIfInBounds_toArray, List.set_cons_zero, List.set_cons_succ] at b_q6
  have Lq6 := Lib.hid b_q6.symm
  clear b_q6
  have cq6 := cell_of_heap Lq6.out
  have fq6 := frz_of_heap Lq6.out
  have sq6 := lt_of_heap Lq6.out
  have hbw : Below w4.heap.size w4 W4 := by subst hW; exact blw_alloc (Below.refl _ _) _
  clear hW
  refine (wait_Next lay3 0 ⟨5, 0, 0, 0, 0, 0, 0, .slice (some ⟨w4.heap.size, 0, none⟩) 1 1, .slice none 0 0, .slice none 0 0⟩ (.slice none 0 0) [] W4 (SlR.nil _ _ _) [⟨3, 0, 0⟩] (seen_one Lq6.out) ⟨_, _, _, rfl⟩ ⟨_, _, _, rfl⟩).mono ?_
  rintro e w5 ⟨rfl, hb5⟩
  have hn := sane_n
  generalize stepOf (waitP lay3 0 5 [⟨3, 0, 0⟩]) [] = P at hn ⊢
  obtain ⟨⟨p1, p2, p3, p4, p5⟩, o, d⟩ := P
  simp only [Prod.mk.injEq] at hn
  obtain ⟨rfl, rfl⟩ := hn
  replace Lq5 := Lib.hid ((hbw.block _ (lt_of_heap Lq5.out)).trans Lq5.out)
  replace Lq5 := Lib.hid ((hb5.block _ (lt_of_heap Lq5.out)).trans Lq5.out)
  replace cq5 := cell_of_heap Lq5.out
  replace fq5 := frz_of_heap Lq5.out
  replace sq5 := lt_of_heap Lq5.out
  replace HB2 := Lib.hid (blw_then HB2.out (blw_then hbw hb5))
  replace H1 := Lib.hid (H1.out.on (blw_then hbw hb5))
  replace H2 := Lib.hid (H2.out.on (blw_then hbw hb5))
  clear hb5 hbw cq6 fq6 sq6
  have ea := Ha.out.1
  have eb := Hb.out.1
  obtain ⟨-, -, -, -, -, -, vm1, vl1, vs1, C1, hT1, -, -, hI1, -⟩ := H1.out
  obtain ⟨-, -, -, -, -, -, vm2, vl2, vs2, C2, hT2, -, -, hI2, -⟩ := H2.out
  have T1 := Lib.hid hT1
  have T2 := Lib.hid hT2
  have I1 := Lib.hid hI1
  have I2 := Lib.hid hI2
  have ct1 := cell_of_heap hT1
  have ct2 := cell_of_heap hT2
  have st1 := lt_of_heap hT1
  have st2 := lt_of_heap hT2
  simp only [tabOf, ea] at ct1
  simp only [tabOf, eb] at ct2
  clear hT1 hT2 hI1 hI2
  go_wp2_with fail
  generalize hW : World.alloc _ _ = W5
  have b_q7 := congrArg (fun u : World => u.heap[w5.heap.size]?) hW
  try simp only [] at b_q7
  repeat (first | rw [hd_drew] at b_q7 | rw [hd_drewN] at b_q7 | rw [hs_ne _ _ _ _ _ (by omega)] at b_q7 | rw [ha_lt _ _ _ (by first | omega | (simp only [World.size_alloc, World.size_setCell, World.size_drew]; omega))] at b_q7 | rw [hs_same] at b_q7)
  rw [ha_new _ _ _ (by first | rfl | simp only [World.size_alloc, World.size_setCell, World.size_drew])] at b_q7
  try simp only [Option.map_some, putO, List.setIfInBounds_toArray, List.set_cons_zero, List.set_cons_succ] at b_q7
  have Lq7 := Lib.hid b_q7.symm
  clear b_q7
  have b_q8 := congrArg (fun u : World => u.heap[w5.heap.size + 1]?) hW
  try simp only [] at b_q8
  repeat (first | rw [hd_drew] at b_q8 | rw [hd_drewN] at b_q8 | rw [hs_ne _ _ _ _ _ (by omega)] at b_q8 | rw [ha_lt _ _ _ (by first | omega | (simp only [World.size_alloc, World.size_setCell, World.size_drew]; omega))] at b_q8 | rw [hs_same] at b_q8)
  rw [ha_new _ _ _ (by first | rfl | simp only [World.size_alloc, World.size_setCell, World.size_drew])] at b_q8
  try simp only [Option.map_some, putO, List.setIfInBounds_toArray, List.set_cons_zero, List.set_cons_succ] at b_q8
  have Lq8 := Lib.hid b_q8.symm
  clear b_q8
  have cq7 := cell_of_heap Lq7.out
  have fq7 := frz_of_heap Lq7.out
  have sq7 := lt_of_heap Lq7.out
  have cq8 := cell_of_heap Lq8.out
  have fq8 := frz_of_heap Lq8.out
  have sq8 := lt_of_heap Lq8.out
  have hbw : Below w5.heap.size w5 W5 := by subst hW; exact blw_alloc (blw_alloc (Below.refl _ _) _) _
  clear hW
  refine (law_bits lay3 _ tb s1.cs W5 (blk_keep hbw (lt_of_heap T1.out) T1.out) (I1.out.below hbw)).mono ?_
  rintro e w6 ⟨rfl, hb6⟩
  rw [Ha.out.2]
  replace T2 := Lib.hid (blk_keep (blw_then hbw hb6) (lt_of_heap T2.out) T2.out)
  replace I2 := Lib.hid (I2.out.below (blw_then hbw hb6))
  replace Lq5 := Lib.hid ((hbw.block _ (lt_of_heap Lq5.out)).trans Lq5.out)
  replace Lq5 := Lib.hid ((hb6.block _ (lt_of_heap Lq5.out)).trans Lq5.out)
  replace Lq7 := Lib.hid ((hb6.block _ (lt_of_heap Lq7.out)).trans Lq7.out)
  replace Lq8 := Lib.hid ((hb6.block _ (lt_of_heap Lq8.out)).trans Lq8.out)
  replace cq5 := cell_of_heap Lq5.out
  replace fq5 := frz_of_heap Lq5.out
  replace sq5 := lt_of_heap Lq5.out
  replace cq7 := cell_of_heap Lq7.out
  replace fq7 := frz_of_heap Lq7.out
  replace sq7 := lt_of_heap Lq7.out
  replace cq8 := cell_of_heap Lq8.out
  replace fq8 := frz_of_heap Lq8.out
  replace sq8 := lt_of_heap Lq8.out
  replace HB2 := Lib.hid (blw_then HB2.out (blw_then hbw hb6))
  clear hb6 hbw ct1 ct2
  go_wp2_with fail
  refine (law_bits lay3 _ tb2 s2.cs _ T2.out I2.out).mono ?_
  rintro e w7 ⟨rfl, hb7⟩
  rw [Hb.out.2]
  replace Lq5 := Lib.hid ((hb7.block _ (lt_of_heap Lq5.out)).trans Lq5.out)
  replace Lq7 := Lib.hid ((hb7.block _ (lt_of_heap Lq7.out)).trans Lq7.out)
  replace Lq8 := Lib.hid ((hb7.block _ (lt_of_heap Lq8.out)).trans Lq8.out)
  replace cq5 := cell_of_heap Lq5.out
  replace fq5 := frz_of_heap Lq5.out
  replace sq5 := lt_of_heap Lq5.out
  replace cq7 := cell_of_heap Lq7.out
  replace fq7 := frz_of_heap Lq7.out
  replace sq7 := lt_of_heap Lq7.out
  replace cq8 := cell_of_heap Lq8.out
  replace fq8 := frz_of_heap Lq8.out
  replace sq8 := lt_of_heap Lq8.out
  replace HB2 := Lib.hid (blw_then HB2.out hb7)
  clear hb7
  have heq := eql_ou ⟨0, 0, 0, 0, false, false, 1⟩ ⟨0, 0, 0, 0, false, false, 1⟩
  go_wp2_with fail
  exact bodyPost_ret (v := .bool true) (by simp [results, go_sem]) rfl ⟨rfl, HB2.out⟩
end Go.Proofs.Ytpfibcbeenogiaa
