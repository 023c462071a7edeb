/- law18.VisibleUndoes, walked. -/
import Derived.Test.YtpfibcbeenogiaaVA
namespace Go.Proofs.Ytpfibcbeenogiaa
open Go.RowKit
set_option linter.unusedSimpArgs false
set_option linter.unusedVariables false
theorem frz_of_heap {w : World} {b : Nat} {c : Array Value} {T : TypeId} (h : w.heap[b]? = some (.cells c T (0, 0))) : ∀ i, w.frozen? ⟨b, i, none⟩ = false := fun i => by simp [World.frozen?, h]
/-- Two bits set and taken away again, by operations without interference. -/
theorem undo_steps (k1 k2 : Int) (c : Nat) (hc : c < 24) (hv1 : visCell lay4 k1 0 = (c : Int)) (hv2 : visCell lay4 k2 0 = (c : Int)) (hk1 : k1 = 1 ∨ k1 = 3) (hk2 : ¬ (k2 = 1 ∨ k2 = 3)) {mask : Int} {t1 t2 : Nat} (hm : I64 mask) (h1 : t1 < 4) (h2 : t2 < 4) (hne : ¬ t1 = t2) (hb1 : bitOf mask t1 = false) (hb2 : bitOf mask t2 = false) :
    ∃ x1 x2 x3, aloneF (visP lay4 (t1 : Int) k1 0) (mem0.set c mask) = (outIs true, mem0.set c x1, 2) ∧ aloneF (visP lay4 (t2 : Int) k1 0) (mem0.set c x1) = (outIs true, mem0.set c x2, 2) ∧
      aloneF (visP lay4 (t1 : Int) k2 0) (mem0.set c x2) = (outIs true, mem0.set c x3, 2) ∧ aloneF (visP lay4 (t2 : Int) k2 0) (mem0.set c x3) = (outIs true, mem0.set c mask, 2) ∧ rIn x2 t1 = true ∧ rIn x2 t2 = true := by
  have hput : ∀ (t : Nat) (x : Int), t < 4 → bitOf x t = false → aloneF (visP lay4 (t : Int) k1 0) (mem0.set c x) = (outIs true, mem0.set c (wWith x t), 2) := fun t x ht hb => by
    rw [aloneF_vis lay4 (t : Int) k1 0 c x (mem0.set c x) hv1 (lay4_st ht) (by rw [List.getElem?_set_self (by simpa using hc)]), if_pos hk1, wIn_eq (by omega), hb]
    simp
  have hout : ∀ (t : Nat) (x : Int), t < 4 → bitOf x t = true → aloneF (visP lay4 (t : Int) k2 0) (mem0.set c x) = (outIs true, mem0.set c (wWithout x t), 2) := fun t x ht hb => by
    rw [aloneF_vis lay4 (t : Int) k2 0 c x (mem0.set c x) hv2 (lay4_st ht) (by rw [List.getElem?_set_self (by simpa using hc)]), if_neg hk2, wIn_eq (by omega), hb]
    simp
  have q1 : bitOf (wWith mask t1) t2 = false := by rw [bit_with _ (by omega) (by omega), hb2]; simp [hne]
  have q2 : bitOf (wWith (wWith mask t1) t2) t1 = true := by rw [bit_with _ (by omega) (by omega), bit_with _ (by omega) (by omega)]; simp
  have q3 : bitOf (wWith (wWith mask t1) t2) t2 = true := by rw [bit_with _ (by omega) (by omega)]; simp
  have q4 : bitOf (wWithout (wWith (wWith mask t1) t2) t1) t2 = true := by rw [bit_without _ (by omega) (by omega), q3]; simp [hne]
  refine ⟨_, _, _, hput t1 mask h1 hb1, hput t2 _ h2 q1, hout t1 _ h1 q2, ?_, ?_, ?_⟩
  · rw [hout t2 _ h2 q4, with_without hm (by omega) (by omega) hb1 hb2]
  · rw [rIn_eq (wWith_in _ _) (by omega), q2]
  · rw [rIn_eq (wWith_in _ _) (by omega), q3]
set_option maxRecDepth 100000 in
set_option maxHeartbeats 4000000 in
theorem law_VU0 (mask one two : Int) (hm : I64 mask) (t1 t2 : Nat) (h1 : t1 < 4) (h2 : t2 < 4) (hne : ¬ t1 = t2) (ho : one % 4 = t1) (ht : two % 4 = t2) (ho0 : 0 ≤ one ∧ one ≤ 255) (ht0 : 0 ≤ two ∧ two ≤ 255) (hb1 : bitOf mask t1 = false) (hb2 : bitOf mask t2 = false) (w : World) :
    Calls Try.prog 6 #[.agg #[.int .i64 mask, .int .u8 one, .int .u8 two, .bool false]] w fun e w' => e = .returned (.bool true) ∧ Below w.heap.size w w' := by
  have g1 : one.tmod 4 = (t1 : Int) := by rw [Int.tmod_eq_emod_of_nonneg ho0.1]; exact ho
  have g2 : two.tmod 4 = (t2 : Int) := by rw [Int.tmod_eq_emod_of_nonneg ht0.1]; exact ht
  have g3 : ((t1 : Int) == (t2 : Int)) = false := by simp; omega
  obtain ⟨x1, x2, x3, hA1, hA2, hA3, hA4, hB1, hB2⟩ := undo_steps 1 2 22 (by decide) (by decide +kernel) (by decide +kernel) (by decide) (by decide) hm h1 h2 hne hb1 hb2
  have HA1 := Lib.hid hA1
  have HA2 := Lib.hid hA2
  have HA3 := Lib.hid hA3
  have HA4 := Lib.hid hA4
  have HB1 := Lib.hid hB1
  have HB2 := Lib.hid hB2
  have e1 : rIn mask (t1 : Int) = false := by rw [rIn_eq hm (by omega), hb1]
  have e2 : rIn mask (t2 : Int) = false := by rw [rIn_eq hm (by omega), hb2]
  have HE1 := Lib.hid e1
  have HE2 := Lib.hid e2
  clear e1 e2 hb1 hb2 ho ht hA1 hA2 hA3 hA4 hB1 hB2
  go_enter Try.func6, Try.ntmps6
  go_wp2_with fail
  refine (law_sanity _).mono ?_
  rintro e w1 ⟨rfl, hb1⟩
  have QB := Lib.hid (blw_then (blw_alloc (Below.refl _ _) _) hb1)
  clear hb1
  go_wp2_with fail
  refine (ref_In mask (t1 : Int) _).mono ?_
  rintro e w' ⟨rfl, rfl⟩
  rw [HE1.out]
  go_wp2_with fail
  refine (ref_In mask (t2 : Int) _).mono ?_
  rintro e w' ⟨rfl, rfl⟩
  rw [HE2.out]
  go_wp2_with fail
  refine (ref_Of 4 1 0 0 0 _).mono ?_
  rintro e w2 ⟨rfl, hb2⟩
  rw [rOf4]
  replace QB := Lib.hid (blw_then QB.out hb2)
  clear hb2
  go_wp2_with fail
  generalize hg : w2.alloc _ = W2
  have b_l := congrArg (fun u : World => u.heap[w2.heap.size]?) hg
  try simp only [] at b_l
  repeat (first | rw [hd_drew] at b_l | rw [hs_ne _ _ _ _ _ (by omega)] at b_l | rw [ha_lt _ _ _ (by first | omega | (simp only [World.size_alloc, World.size_setCell, World.size_drew]; omega))] at b_l | rw [hs_same] at b_l)
  rw [ha_new _ _ _ (by first | rfl | simp only [World.size_alloc, World.size_setCell, World.size_drew])] at b_l
  try simp only [Option.map_some, putO, List.setIfInBounds_toArray, List.set_cons_zero, List.set_cons_succ] at b_l
  have Ll := Lib.hid b_l.symm
  clear b_l
  have cl := cell_of_heap Ll.out
  have fl := frz_of_heap Ll.out
  have sl := lt_of_heap Ll.out
  replace QB := Lib.hid (show Below w.heap.size w W2 by rw [← hg]; exact blw_alloc QB.out _)
  clear hg
  generalize w2.heap.size = p at *
  refine (lay4_R _).mono ?_
  rintro e w3 ⟨rfl, hb3⟩
  replace Ll := Lib.hid ((hb3.block _ (lt_of_heap Ll.out)).trans Ll.out)
  replace cl := cell_of_heap Ll.out
  replace fl := frz_of_heap Ll.out
  replace sl := lt_of_heap Ll.out
  replace QB := Lib.hid (blw_then QB.out hb3)
  clear hb3
  go_wp2_with fail
  refine (ref_New 24 (by decide) _).mono ?_
  rintro e w4 ⟨vm4, rfl, b, rfl, hF1, hF2, hF3⟩
  have nlb : ¬ p = b := by omega
  have nbl : ¬ b = p := by omega
  have wb : w.heap.size ≤ b := by have := QB.out.size; omega
  replace Ll := Lib.hid ((hF3.block _ (lt_of_heap Ll.out)).trans Ll.out)
  replace cl := cell_of_heap Ll.out
  replace fl := frz_of_heap Ll.out
  replace sl := lt_of_heap Ll.out
  replace QB := Lib.hid (blw_then QB.out hF3)
  have Lm := Lib.hid hF2
  have cm22 : w4.cell? ⟨b, 22, none⟩ = some (.int .i64 0) := by rw [cell_of_heap hF2]; rfl
  have fm := frz_of_heap hF2
  have sm := lt_of_heap hF2
  clear hF1 hF2 hF3
  go_wp2_with fail
  generalize hg : (w4.setCell ⟨b, 22, none⟩ (Value.int .i64 mask)).alloc _ = W5
  have hb5 : W5.heap[b]? = some (.cells ((mem0.set 22 mask).map (Value.int .i64)).toArray 3 (0, 0)) := by
    rw [← hg, ha_lt _ _ _ (by simpa using sm), hs_same, Lm.out]
    rfl
  have hl5 : W5.heap[p]? = some (.cells #[.int .i64 4, .int .i64 1, .int .i64 0, .int .i64 0, .int .i64 0, .int .i64 0, .int .i64 1, .int .i64 2, .int .i64 3, .int .i64 4, .int .i64 20, .int .i64 20, .int .i64 24] 25 (0, 0)) := by
    rw [← hg, ha_lt _ _ _ (by simpa using sl), hs_ne _ _ _ _ _ nbl]
    exact Ll.out
  replace QB := Lib.hid (show Below w.heap.size w W5 by
    rw [← hg]
    refine blw_alloc (blw_set QB.out (by simp only []; exact wb) _) _)
  have b_m0 := congrArg (fun u : World => u.heap[w4.heap.size]?) hg
  try simp only [] at b_m0
  repeat (first | rw [hd_drew] at b_m0 | rw [hs_ne _ _ _ _ _ (by omega)] at b_m0 | rw [ha_lt _ _ _ (by first | omega | (simp only [World.size_alloc, World.size_setCell, World.size_drew]; omega))] at b_m0 | rw [hs_same] at b_m0)
  rw [ha_new _ _ _ (by first | rfl | simp only [World.size_alloc, World.size_setCell, World.size_drew])] at b_m0
  try simp only [Option.map_some, putO, List.setIfInBounds_toArray, List.set_cons_zero, List.set_cons_succ] at b_m0
  have Lm0 := Lib.hid b_m0.symm
  clear b_m0
  have cm0 := cell_of_heap Lm0.out
  have fm0 := frz_of_heap Lm0.out
  have sm0 := lt_of_heap Lm0.out
  have J0 := Lib.hid (fresh_ints (cs := mem0.set 22 mask) (by simp) hb5)
  clear hg fm sm cm22 Lm
  replace Ll := Lib.hid hl5
  replace cl := cell_of_heap hl5
  replace fl := frz_of_heap hl5
  replace sl := lt_of_heap hl5
  clear hb5 hl5
  generalize w4.heap.size = p0 at *
  have J0' : IntsR W5 (.slice (some ⟨b, 0, none⟩) 24 24) (mem0.set 22 mask) ∧ Typed W5 (.slice (some ⟨b, 0, none⟩) 24 24) := by have := J0.out; simpa using this
  clear J0
  have J0 := Lib.hid J0'
  clear J0'
  refine (law_alone lay4 (mem0.set 22 mask) _ (t1 : Int) (opN 1 0) W5 J0.out.1 J0.out.2 (by simp)).mono ?_
  rintro e v1 ⟨vm1, rfl, hI, hT, hb⟩
  rw [show visP lay4 (t1 : Int) (opN 1 0).kind (opN 1 0).a = visP lay4 (t1 : Int) 1 0 from rfl, HA1.out] at hI ⊢
  obtain ⟨A1, c1, rfl, -⟩ := hI.out
  have JN0 : IntsR v1 (.slice A1 24 c1) (mem0.set 22 x1) ∧ Typed v1 (.slice A1 24 c1) := by have := And.intro hI hT; simpa using this
  have JN := Lib.hid JN0
  clear JN0
  replace Ll := Lib.hid ((hb.block _ (lt_of_heap Ll.out)).trans Ll.out)
  replace Lm0 := Lib.hid ((hb.block _ (lt_of_heap Lm0.out)).trans Lm0.out)
  replace cl := cell_of_heap Ll.out
  replace fl := frz_of_heap Ll.out
  replace sl := lt_of_heap Ll.out
  replace cm0 := cell_of_heap Lm0.out
  replace fm0 := frz_of_heap Lm0.out
  replace sm0 := lt_of_heap Lm0.out
  replace J0 := Lib.hid (And.intro (J0.out.1.below hb) (J0.out.2.below hb))
  replace QB := Lib.hid (blw_then QB.out hb)
  clear hI hT hb
  go_wp2_with fail
  generalize hg : (v1.alloc _).alloc _ = V1
  have hz : Below v1.heap.size v1 V1 := by rw [← hg]; exact blw_alloc (blw_alloc (Below.refl _ _) _) _
  have b_m1 := congrArg (fun u : World => u.heap[v1.heap.size + 1]?) hg
  try simp only [] at b_m1
  repeat (first | rw [hd_drew] at b_m1 | rw [hs_ne _ _ _ _ _ (by omega)] at b_m1 | rw [ha_lt _ _ _ (by first | omega | (simp only [World.size_alloc, World.size_setCell, World.size_drew]; omega))] at b_m1 | rw [hs_same] at b_m1)
  rw [ha_new _ _ _ (by first | rfl | simp only [World.size_alloc, World.size_setCell, World.size_drew])] at b_m1
  try simp only [Option.map_some, putO, List.setIfInBounds_toArray, List.set_cons_zero, List.set_cons_succ] at b_m1
  have Lm1 := Lib.hid b_m1.symm
  clear b_m1
  have cm1 := cell_of_heap Lm1.out
  have fm1 := frz_of_heap Lm1.out
  have sm1 := lt_of_heap Lm1.out
  clear hg
  replace Ll := Lib.hid ((hz.block _ (lt_of_heap Ll.out)).trans Ll.out)
  replace Lm0 := Lib.hid ((hz.block _ (lt_of_heap Lm0.out)).trans Lm0.out)
  replace cl := cell_of_heap Ll.out
  replace fl := frz_of_heap Ll.out
  replace sl := lt_of_heap Ll.out
  replace cm0 := cell_of_heap Lm0.out
  replace fm0 := frz_of_heap Lm0.out
  replace sm0 := lt_of_heap Lm0.out
  replace J0 := Lib.hid (And.intro (J0.out.1.below hz) (J0.out.2.below hz))
  have J1 := Lib.hid (And.intro (JN.out.1.below hz) (JN.out.2.below hz))
  replace QB := Lib.hid (blw_then QB.out hz)
  clear JN hz
  generalize v1.heap.size + 1 = q1 at *
  refine (law_alone lay4 (mem0.set 22 x1) _ (t2 : Int) (opN 1 0) V1 J1.out.1 J1.out.2 (by simp)).mono ?_
  rintro e v2 ⟨vm2, rfl, hI, hT, hb⟩
  rw [show visP lay4 (t2 : Int) (opN 1 0).kind (opN 1 0).a = visP lay4 (t2 : Int) 1 0 from rfl, HA2.out] at hI ⊢
  obtain ⟨A2, c2, rfl, -⟩ := hI.out
  have JN0 : IntsR v2 (.slice A2 24 c2) (mem0.set 22 x2) ∧ Typed v2 (.slice A2 24 c2) := by have := And.intro hI hT; simpa using this
  have JN := Lib.hid JN0
  clear JN0
  replace Ll := Lib.hid ((hb.block _ (lt_of_heap Ll.out)).trans Ll.out)
  replace Lm0 := Lib.hid ((hb.block _ (lt_of_heap Lm0.out)).trans Lm0.out)
  replace Lm1 := Lib.hid ((hb.block _ (lt_of_heap Lm1.out)).trans Lm1.out)
  replace cl := cell_of_heap Ll.out
  replace fl := frz_of_heap Ll.out
  replace sl := lt_of_heap Ll.out
  replace cm0 := cell_of_heap Lm0.out
  replace fm0 := frz_of_heap Lm0.out
  replace sm0 := lt_of_heap Lm0.out
  replace cm1 := cell_of_heap Lm1.out
  replace fm1 := frz_of_heap Lm1.out
  replace sm1 := lt_of_heap Lm1.out
  replace J0 := Lib.hid (And.intro (J0.out.1.below hb) (J0.out.2.below hb))
  replace J1 := Lib.hid (And.intro (J1.out.1.below hb) (J1.out.2.below hb))
  replace QB := Lib.hid (blw_then QB.out hb)
  clear hI hT hb
  go_wp2_with fail
  generalize hg : (v2.alloc _).alloc _ = V2
  have hz : Below v2.heap.size v2 V2 := by rw [← hg]; exact blw_alloc (blw_alloc (Below.refl _ _) _) _
  have b_m2 := congrArg (fun u : World => u.heap[v2.heap.size + 1]?) hg
  try simp only [] at b_m2
  repeat (first | rw [hd_drew] at b_m2 | rw [hs_ne _ _ _ _ _ (by omega)] at b_m2 | rw [ha_lt _ _ _ (by first | omega | (simp only [World.size_alloc, World.size_setCell, World.size_drew]; omega))] at b_m2 | rw [hs_same] at b_m2)
  rw [ha_new _ _ _ (by first | rfl | simp only [World.size_alloc, World.size_setCell, World.size_drew])] at b_m2
  try simp only [Option.map_some, putO, List.setIfInBounds_toArray, List.set_cons_zero, List.set_cons_succ] at b_m2
  have Lm2 := Lib.hid b_m2.symm
  clear b_m2
  have cm2 := cell_of_heap Lm2.out
  have fm2 := frz_of_heap Lm2.out
  have sm2 := lt_of_heap Lm2.out
  clear hg
  replace Ll := Lib.hid ((hz.block _ (lt_of_heap Ll.out)).trans Ll.out)
  replace Lm0 := Lib.hid ((hz.block _ (lt_of_heap Lm0.out)).trans Lm0.out)
  replace Lm1 := Lib.hid ((hz.block _ (lt_of_heap Lm1.out)).trans Lm1.out)
  replace cl := cell_of_heap Ll.out
  replace fl := frz_of_heap Ll.out
  replace sl := lt_of_heap Ll.out
  replace cm0 := cell_of_heap Lm0.out
  replace fm0 := frz_of_heap Lm0.out
  replace sm0 := lt_of_heap Lm0.out
  replace cm1 := cell_of_heap Lm1.out
  replace fm1 := frz_of_heap Lm1.out
  replace sm1 := lt_of_heap Lm1.out
  replace J0 := Lib.hid (And.intro (J0.out.1.below hz) (J0.out.2.below hz))
  replace J1 := Lib.hid (And.intro (J1.out.1.below hz) (J1.out.2.below hz))
  have J2 := Lib.hid (And.intro (JN.out.1.below hz) (JN.out.2.below hz))
  replace QB := Lib.hid (blw_then QB.out hz)
  clear JN hz
  generalize v2.heap.size + 1 = q2 at *
  clear cm1 fm1 sm1
  clear Lm1 J1
  refine (law_alone lay4 (mem0.set 22 x2) _ (t1 : Int) (opN 2 0) V2 J2.out.1 J2.out.2 (by simp)).mono ?_
  rintro e v3 ⟨vm3, rfl, hI, hT, hb⟩
  rw [show visP lay4 (t1 : Int) (opN 2 0).kind (opN 2 0).a = visP lay4 (t1 : Int) 2 0 from rfl, HA3.out] at hI ⊢
  obtain ⟨A3, c3, rfl, -⟩ := hI.out
  have JN0 : IntsR v3 (.slice A3 24 c3) (mem0.set 22 x3) ∧ Typed v3 (.slice A3 24 c3) := by have := And.intro hI hT; simpa using this
  have JN := Lib.hid JN0
  clear JN0
  replace Ll := Lib.hid ((hb.block _ (lt_of_heap Ll.out)).trans Ll.out)
  replace Lm0 := Lib.hid ((hb.block _ (lt_of_heap Lm0.out)).trans Lm0.out)
  replace Lm2 := Lib.hid ((hb.block _ (lt_of_heap Lm2.out)).trans Lm2.out)
  replace cl := cell_of_heap Ll.out
  replace fl := frz_of_heap Ll.out
  replace sl := lt_of_heap Ll.out
  replace cm0 := cell_of_heap Lm0.out
  replace fm0 := frz_of_heap Lm0.out
  replace sm0 := lt_of_heap Lm0.out
  replace cm2 := cell_of_heap Lm2.out
  replace fm2 := frz_of_heap Lm2.out
  replace sm2 := lt_of_heap Lm2.out
  replace J0 := Lib.hid (And.intro (J0.out.1.below hb) (J0.out.2.below hb))
  replace J2 := Lib.hid (And.intro (J2.out.1.below hb) (J2.out.2.below hb))
  replace QB := Lib.hid (blw_then QB.out hb)
  clear hI hT hb
  go_wp2_with fail
  generalize hg : (v3.alloc _).alloc _ = V3
  have hz : Below v3.heap.size v3 V3 := by rw [← hg]; exact blw_alloc (blw_alloc (Below.refl _ _) _) _
  have b_m3 := congrArg (fun u : World => u.heap[v3.heap.size + 1]?) hg
  try simp only [] at b_m3
  repeat (first | rw [hd_drew] at b_m3 | rw [hs_ne _ _ _ _ _ (by omega)] at b_m3 | rw [ha_lt _ _ _ (by first | omega | (simp only [World.size_alloc, World.size_setCell, World.size_drew]; omega))] at b_m3 | rw [hs_same] at b_m3)
  rw [ha_new _ _ _ (by first | rfl | simp only [World.size_alloc, World.size_setCell, World.size_drew])] at b_m3
  try simp only [Option.map_some, putO, List.setIfInBounds_toArray, List.set_cons_zero, List.set_cons_succ] at b_m3
  have Lm3 := Lib.hid b_m3.symm
  clear b_m3
  have cm3 := cell_of_heap Lm3.out
  have fm3 := frz_of_heap Lm3.out
  have sm3 := lt_of_heap Lm3.out
  clear hg
  replace Ll := Lib.hid ((hz.block _ (lt_of_heap Ll.out)).trans Ll.out)
  replace Lm0 := Lib.hid ((hz.block _ (lt_of_heap Lm0.out)).trans Lm0.out)
  replace Lm2 := Lib.hid ((hz.block _ (lt_of_heap Lm2.out)).trans Lm2.out)
  replace cl := cell_of_heap Ll.out
  replace fl := frz_of_heap Ll.out
  replace sl := lt_of_heap Ll.out
  replace cm0 := cell_of_heap Lm0.out
  replace fm0 := frz_of_heap Lm0.out
  replace sm0 := lt_of_heap Lm0.out
  replace cm2 := cell_of_heap Lm2.out
  replace fm2 := frz_of_heap Lm2.out
  replace sm2 := lt_of_heap Lm2.out
  replace J0 := Lib.hid (And.intro (J0.out.1.below hz) (J0.out.2.below hz))
  replace J2 := Lib.hid (And.intro (J2.out.1.below hz) (J2.out.2.below hz))
  have J3 := Lib.hid (And.intro (JN.out.1.below hz) (JN.out.2.below hz))
  replace QB := Lib.hid (blw_then QB.out hz)
  clear JN hz
  generalize v3.heap.size + 1 = q3 at *
  refine (law_alone lay4 (mem0.set 22 x3) _ (t2 : Int) (opN 2 0) V3 J3.out.1 J3.out.2 (by simp)).mono ?_
  rintro e v4 ⟨vm4, rfl, hI, hT, hb⟩
  rw [show visP lay4 (t2 : Int) (opN 2 0).kind (opN 2 0).a = visP lay4 (t2 : Int) 2 0 from rfl, HA4.out] at hI ⊢
  obtain ⟨A4, c4, rfl, -⟩ := hI.out
  have JN0 : IntsR v4 (.slice A4 24 c4) (mem0.set 22 mask) ∧ Typed v4 (.slice A4 24 c4) := by have := And.intro hI hT; simpa using this
  have JN := Lib.hid JN0
  clear JN0
  replace Ll := Lib.hid ((hb.block _ (lt_of_heap Ll.out)).trans Ll.out)
  replace Lm0 := Lib.hid ((hb.block _ (lt_of_heap Lm0.out)).trans Lm0.out)
  replace Lm2 := Lib.hid ((hb.block _ (lt_of_heap Lm2.out)).trans Lm2.out)
  replace Lm3 := Lib.hid ((hb.block _ (lt_of_heap Lm3.out)).trans Lm3.out)
  replace cl := cell_of_heap Ll.out
  replace fl := frz_of_heap Ll.out
  replace sl := lt_of_heap Ll.out
  replace cm0 := cell_of_heap Lm0.out
  replace fm0 := frz_of_heap Lm0.out
  replace sm0 := lt_of_heap Lm0.out
  replace cm2 := cell_of_heap Lm2.out
  replace fm2 := frz_of_heap Lm2.out
  replace sm2 := lt_of_heap Lm2.out
  replace cm3 := cell_of_heap Lm3.out
  replace fm3 := frz_of_heap Lm3.out
  replace sm3 := lt_of_heap Lm3.out
  replace J0 := Lib.hid (And.intro (J0.out.1.below hb) (J0.out.2.below hb))
  replace J2 := Lib.hid (And.intro (J2.out.1.below hb) (J2.out.2.below hb))
  replace J3 := Lib.hid (And.intro (J3.out.1.below hb) (J3.out.2.below hb))
  replace QB := Lib.hid (blw_then QB.out hb)
  clear hI hT hb
  go_wp2_with fail
  generalize hg : (v4.alloc _).alloc _ = V4
  have hz : Below v4.heap.size v4 V4 := by rw [← hg]; exact blw_alloc (blw_alloc (Below.refl _ _) _) _
  have b_m4 := congrArg (fun u : World => u.heap[v4.heap.size + 1]?) hg
  try simp only [] at b_m4
  repeat (first | rw [hd_drew] at b_m4 | rw [hs_ne _ _ _ _ _ (by omega)] at b_m4 | rw [ha_lt _ _ _ (by first | omega | (simp only [World.size_alloc, World.size_setCell, World.size_drew]; omega))] at b_m4 | rw [hs_same] at b_m4)
  rw [ha_new _ _ _ (by first | rfl | simp only [World.size_alloc, World.size_setCell, World.size_drew])] at b_m4
  try simp only [Option.map_some, putO, List.setIfInBounds_toArray, List.set_cons_zero, List.set_cons_succ] at b_m4
  have Lm4 := Lib.hid b_m4.symm
  clear b_m4
  have cm4 := cell_of_heap Lm4.out
  have fm4 := frz_of_heap Lm4.out
  have sm4 := lt_of_heap Lm4.out
  clear hg
  replace Ll := Lib.hid ((hz.block _ (lt_of_heap Ll.out)).trans Ll.out)
  replace Lm0 := Lib.hid ((hz.block _ (lt_of_heap Lm0.out)).trans Lm0.out)
  replace Lm2 := Lib.hid ((hz.block _ (lt_of_heap Lm2.out)).trans Lm2.out)
  replace Lm3 := Lib.hid ((hz.block _ (lt_of_heap Lm3.out)).trans Lm3.out)
  replace cl := cell_of_heap Ll.out
  replace fl := frz_of_heap Ll.out
  replace sl := lt_of_heap Ll.out
  replace cm0 := cell_of_heap Lm0.out
  replace fm0 := frz_of_heap Lm0.out
  replace sm0 := lt_of_heap Lm0.out
  replace cm2 := cell_of_heap Lm2.out
  replace fm2 := frz_of_heap Lm2.out
  replace sm2 := lt_of_heap Lm2.out
  replace cm3 := cell_of_heap Lm3.out
  replace fm3 := frz_of_heap Lm3.out
  replace sm3 := lt_of_heap Lm3.out
  replace J0 := Lib.hid (And.intro (J0.out.1.below hz) (J0.out.2.below hz))
  replace J2 := Lib.hid (And.intro (J2.out.1.below hz) (J2.out.2.below hz))
  replace J3 := Lib.hid (And.intro (J3.out.1.below hz) (J3.out.2.below hz))
  have J4 := Lib.hid (And.intro (JN.out.1.below hz) (JN.out.2.below hz))
  replace QB := Lib.hid (blw_then QB.out hz)
  clear JN hz
  generalize v4.heap.size + 1 = q4 at *
  clear cm3 fm3 sm3
  clear Lm3 J3
  have e24 : memCell (mem0.set 22 x2) 22 = x2 := by simp [memCell]
  have HE24 := Lib.hid e24
  clear e24
  refine (ref_Same (mem0.set 22 mask) (mem0.set 22 mask) _ _ V4 J4.out.1 J0.out.1).mono ?_
  rintro e u1 ⟨rfl, hb⟩
  rw [decide_eq_true rfl]
  replace Ll := Lib.hid ((hb.block _ (lt_of_heap Ll.out)).trans Ll.out)
  replace Lm2 := Lib.hid ((hb.block _ (lt_of_heap Lm2.out)).trans Lm2.out)
  replace cl := cell_of_heap Ll.out
  replace fl := frz_of_heap Ll.out
  replace sl := lt_of_heap Ll.out
  replace cm2 := cell_of_heap Lm2.out
  replace fm2 := frz_of_heap Lm2.out
  replace sm2 := lt_of_heap Lm2.out
  replace J2 := Lib.hid (And.intro (J2.out.1.below hb) (J2.out.2.below hb))
  replace QB := Lib.hid (blw_then QB.out hb)
  clear hb cm0 fm0 sm0 cm4 fm4 sm4
  go_wp2_with fail
  refine (ref_Cell (mem0.set 22 x2) 22 _ _ J2.out.1).mono ?_
  rintro e u2 ⟨rfl, hb⟩
  rw [HE24.out]
  replace Ll := Lib.hid ((hb.block _ (lt_of_heap Ll.out)).trans Ll.out)
  replace Lm2 := Lib.hid ((hb.block _ (lt_of_heap Lm2.out)).trans Lm2.out)
  replace cl := cell_of_heap Ll.out
  replace fl := frz_of_heap Ll.out
  replace sl := lt_of_heap Ll.out
  replace cm2 := cell_of_heap Lm2.out
  replace fm2 := frz_of_heap Lm2.out
  replace sm2 := lt_of_heap Lm2.out
  replace J2 := Lib.hid (And.intro (J2.out.1.below hb) (J2.out.2.below hb))
  replace QB := Lib.hid (blw_then QB.out hb)
  clear hb
  go_wp2_with fail
  refine (ref_In x2 (t1 : Int) _).mono ?_
  rintro e w' ⟨rfl, rfl⟩
  rw [HB1.out]
  go_wp2_with fail
  refine (ref_Cell (mem0.set 22 x2) 22 _ _ J2.out.1).mono ?_
  rintro e u3 ⟨rfl, hb⟩
  rw [HE24.out]
  replace Ll := Lib.hid ((hb.block _ (lt_of_heap Ll.out)).trans Ll.out)
  replace Lm2 := Lib.hid ((hb.block _ (lt_of_heap Lm2.out)).trans Lm2.out)
  replace cl := cell_of_heap Ll.out
  replace fl := frz_of_heap Ll.out
  replace sl := lt_of_heap Ll.out
  replace cm2 := cell_of_heap Lm2.out
  replace fm2 := frz_of_heap Lm2.out
  replace sm2 := lt_of_heap Lm2.out
  replace J2 := Lib.hid (And.intro (J2.out.1.below hb) (J2.out.2.below hb))
  replace QB := Lib.hid (blw_then QB.out hb)
  clear hb
  go_wp2_with fail
  refine (ref_In x2 (t2 : Int) _).mono ?_
  rintro e w' ⟨rfl, rfl⟩
  rw [HB2.out]
  go_wp2
  go_ret
  exact ⟨rfl, QB.out⟩
set_option maxRecDepth 100000 in
set_option maxHeartbeats 4000000 in
theorem law_VU1 (mask one two : Int) (hm : I64 mask) (t1 t2 : Nat) (h1 : t1 < 4) (h2 : t2 < 4) (hne : ¬ t1 = t2) (ho : one % 4 = t1) (ht : two % 4 = t2) (ho0 : 0 ≤ one ∧ one ≤ 255) (ht0 : 0 ≤ two ∧ two ≤ 255) (hb1 : bitOf mask t1 = false) (hb2 : bitOf mask t2 = false) (w : World) :
    Calls Try.prog 6 #[.agg #[.int .i64 mask, .int .u8 one, .int .u8 two, .bool true]] w fun e w' => e = .returned (.bool true) ∧ Below w.heap.size w w' := by
  have g1 : one.tmod 4 = (t1 : Int) := by rw [Int.tmod_eq_emod_of_nonneg ho0.1]; exact ho
  have g2 : two.tmod 4 = (t2 : Int) := by rw [Int.tmod_eq_emod_of_nonneg ht0.1]; exact ht
  have g3 : ((t1 : Int) == (t2 : Int)) = false := by simp; omega
  obtain ⟨x1, x2, x3, hA1, hA2, hA3, hA4, hB1, hB2⟩ := undo_steps 3 4 23 (by decide) (by decide +kernel) (by decide +kernel) (by decide) (by decide) hm h1 h2 hne hb1 hb2
  have HA1 := Lib.hid hA1
  have HA2 := Lib.hid hA2
  have HA3 := Lib.hid hA3
  have HA4 := Lib.hid hA4
  have HB1 := Lib.hid hB1
  have HB2 := Lib.hid hB2
  have e1 : rIn mask (t1 : Int) = false := by rw [rIn_eq hm (by omega), hb1]
  have e2 : rIn mask (t2 : Int) = false := by rw [rIn_eq hm (by omega), hb2]
  have HE1 := Lib.hid e1
  have HE2 := Lib.hid e2
  clear e1 e2 hb1 hb2 ho ht hA1 hA2 hA3 hA4 hB1 hB2
  go_enter Try.func6, Try.ntmps6
  go_wp2_with fail
  refine (law_sanity _).mono ?_
  rintro e w1 ⟨rfl, hb1⟩
  have QB := Lib.hid (blw_then (blw_alloc (Below.refl _ _) _) hb1)
  clear hb1
  go_wp2_with fail
  refine (ref_In mask (t1 : Int) _).mono ?_
  rintro e w' ⟨rfl, rfl⟩
  rw [HE1.out]
  go_wp2_with fail
  refine (ref_In mask (t2 : Int) _).mono ?_
  rintro e w' ⟨rfl, rfl⟩
  rw [HE2.out]
  go_wp2_with fail
  refine (ref_Of 4 1 0 0 0 _).mono ?_
  rintro e w2 ⟨rfl, hb2⟩
  rw [rOf4]
  replace QB := Lib.hid (blw_then QB.out hb2)
  clear hb2
  go_wp2_with fail
  generalize hg : w2.alloc _ = W2
  have b_l := congrArg (fun u : World => u.heap[w2.heap.size]?) hg
  try simp only [] at b_l
  repeat (first | rw [hd_drew] at b_l | rw [hs_ne _ _ _ _ _ (by omega)] at b_l | rw [ha_lt _ _ _ (by first | omega | (simp only [World.size_alloc, World.size_setCell, World.size_drew]; omega))] at b_l | rw [hs_same] at b_l)
  rw [ha_new _ _ _ (by first | rfl | simp only [World.size_alloc, World.size_setCell, World.size_drew])] at b_l
  try simp only [Option.map_some, putO, List.setIfInBounds_toArray, List.set_cons_zero, List.set_cons_succ] at b_l
  have Ll := Lib.hid b_l.symm
  clear b_l
  have cl := cell_of_heap Ll.out
  have fl := frz_of_heap Ll.out
  have sl := lt_of_heap Ll.out
  replace QB := Lib.hid (show Below w.heap.size w W2 by rw [← hg]; exact blw_alloc QB.out _)
  clear hg
  generalize w2.heap.size = p at *
  refine (lay4_R _).mono ?_
  rintro e w3 ⟨rfl, hb3⟩
  replace Ll := Lib.hid ((hb3.block _ (lt_of_heap Ll.out)).trans Ll.out)
  replace cl := cell_of_heap Ll.out
  replace fl := frz_of_heap Ll.out
  replace sl := lt_of_heap Ll.out
  replace QB := Lib.hid (blw_then QB.out hb3)
  clear hb3
  go_wp2_with fail
  refine (lay4_W _).mono ?_
  rintro e w3 ⟨rfl, hb3⟩
  replace Ll := Lib.hid ((hb3.block _ (lt_of_heap Ll.out)).trans Ll.out)
  replace cl := cell_of_heap Ll.out
  replace fl := frz_of_heap Ll.out
  replace sl := lt_of_heap Ll.out
  replace QB := Lib.hid (blw_then QB.out hb3)
  clear hb3
  go_wp2_with fail
  refine (ref_New 24 (by decide) _).mono ?_
  rintro e w4 ⟨vm4, rfl, b, rfl, hF1, hF2, hF3⟩
  have nlb : ¬ p = b := by omega
  have nbl : ¬ b = p := by omega
  have wb : w.heap.size ≤ b := by have := QB.out.size; omega
  replace Ll := Lib.hid ((hF3.block _ (lt_of_heap Ll.out)).trans Ll.out)
  replace cl := cell_of_heap Ll.out
  replace fl := frz_of_heap Ll.out
  replace sl := lt_of_heap Ll.out
  replace QB := Lib.hid (blw_then QB.out hF3)
  have Lm := Lib.hid hF2
  have cm23 : w4.cell? ⟨b, 23, none⟩ = some (.int .i64 0) := by rw [cell_of_heap hF2]; rfl
  have fm := frz_of_heap hF2
  have sm := lt_of_heap hF2
  clear hF1 hF2 hF3
  go_wp2_with fail
  generalize hg : (w4.setCell ⟨b, 23, none⟩ (Value.int .i64 mask)).alloc _ = W5
  have hb5 : W5.heap[b]? = some (.cells ((mem0.set 23 mask).map (Value.int .i64)).toArray 3 (0, 0)) := by
    rw [← hg, ha_lt _ _ _ (by simpa using sm), hs_same, Lm.out]
    rfl
  have hl5 : W5.heap[p]? = some (.cells #[.int .i64 4, .int .i64 1, .int .i64 0, .int .i64 0, .int .i64 0, .int .i64 0, .int .i64 1, .int .i64 2, .int .i64 3, .int .i64 4, .int .i64 20, .int .i64 20, .int .i64 24] 25 (0, 0)) := by
    rw [← hg, ha_lt _ _ _ (by simpa using sl), hs_ne _ _ _ _ _ nbl]
    exact Ll.out
  replace QB := Lib.hid (show Below w.heap.size w W5 by
    rw [← hg]
    refine blw_alloc (blw_set QB.out (by simp only []; exact wb) _) _)
  have b_m0 := congrArg (fun u : World => u.heap[w4.heap.size]?) hg
  try simp only [] at b_m0
  repeat (first | rw [hd_drew] at b_m0 | rw [hs_ne _ _ _ _ _ (by omega)] at b_m0 | rw [ha_lt _ _ _ (by first | omega | (simp only [World.size_alloc, World.size_setCell, World.size_drew]; omega))] at b_m0 | rw [hs_same] at b_m0)
  rw [ha_new _ _ _ (by first | rfl | simp only [World.size_alloc, World.size_setCell, World.size_drew])] at b_m0
  try simp only [Option.map_some, putO, List.setIfInBounds_toArray, List.set_cons_zero, List.set_cons_succ] at b_m0
  have Lm0 := Lib.hid b_m0.symm
  clear b_m0
  have cm0 := cell_of_heap Lm0.out
  have fm0 := frz_of_heap Lm0.out
  have sm0 := lt_of_heap Lm0.out
  have J0 := Lib.hid (fresh_ints (cs := mem0.set 23 mask) (by simp) hb5)
  clear hg fm sm cm23 Lm
  replace Ll := Lib.hid hl5
  replace cl := cell_of_heap hl5
  replace fl := frz_of_heap hl5
  replace sl := lt_of_heap hl5
  clear hb5 hl5
  generalize w4.heap.size = p0 at *
  have J0' : IntsR W5 (.slice (some ⟨b, 0, none⟩) 24 24) (mem0.set 23 mask) ∧ Typed W5 (.slice (some ⟨b, 0, none⟩) 24 24) := by have := J0.out; simpa using this
  clear J0
  have J0 := Lib.hid J0'
  clear J0'
  refine (law_alone lay4 (mem0.set 23 mask) _ (t1 : Int) (opN 3 0) W5 J0.out.1 J0.out.2 (by simp)).mono ?_
  rintro e v1 ⟨vm1, rfl, hI, hT, hb⟩
  rw [show visP lay4 (t1 : Int) (opN 3 0).kind (opN 3 0).a = visP lay4 (t1 : Int) 3 0 from rfl, HA1.out] at hI ⊢
  obtain ⟨A1, c1, rfl, -⟩ := hI.out
  have JN0 : IntsR v1 (.slice A1 24 c1) (mem0.set 23 x1) ∧ Typed v1 (.slice A1 24 c1) := by have := And.intro hI hT; simpa using this
  have JN := Lib.hid JN0
  clear JN0
  replace Ll := Lib.hid ((hb.block _ (lt_of_heap Ll.out)).trans Ll.out)
  replace Lm0 := Lib.hid ((hb.block _ (lt_of_heap Lm0.out)).trans Lm0.out)
  replace cl := cell_of_heap Ll.out
  replace fl := frz_of_heap Ll.out
  replace sl := lt_of_heap Ll.out
  replace cm0 := cell_of_heap Lm0.out
  replace fm0 := frz_of_heap Lm0.out
  replace sm0 := lt_of_heap Lm0.out
  replace J0 := Lib.hid (And.intro (J0.out.1.below hb) (J0.out.2.below hb))
  replace QB := Lib.hid (blw_then QB.out hb)
  clear hI hT hb
  go_wp2_with fail
  generalize hg : (v1.alloc _).alloc _ = V1
  have hz : Below v1.heap.size v1 V1 := by rw [← hg]; exact blw_alloc (blw_alloc (Below.refl _ _) _) _
  have b_m1 := congrArg (fun u : World => u.heap[v1.heap.size + 1]?) hg
  try simp only [] at b_m1
  repeat (first | rw [hd_drew] at b_m1 | rw [hs_ne _ _ _ _ _ (by omega)] at b_m1 | rw [ha_lt _ _ _ (by first | omega | (simp only [World.size_alloc, World.size_setCell, World.size_drew]; omega))] at b_m1 | rw [hs_same] at b_m1)
  rw [ha_new _ _ _ (by first | rfl | simp only [World.size_alloc, World.size_setCell, World.size_drew])] at b_m1
  try simp only [Option.map_some, putO, List.setIfInBounds_toArray, List.set_cons_zero, List.set_cons_succ] at b_m1
  have Lm1 := Lib.hid b_m1.symm
  clear b_m1
  have cm1 := cell_of_heap Lm1.out
  have fm1 := frz_of_heap Lm1.out
  have sm1 := lt_of_heap Lm1.out
  clear hg
  replace Ll := Lib.hid ((hz.block _ (lt_of_heap Ll.out)).trans Ll.out)
  replace Lm0 := Lib.hid ((hz.block _ (lt_of_heap Lm0.out)).trans Lm0.out)
  replace cl := cell_of_heap Ll.out
  replace fl := frz_of_heap Ll.out
  replace sl := lt_of_heap Ll.out
  replace cm0 := cell_of_heap Lm0.out
  replace fm0 := frz_of_heap Lm0.out
  replace sm0 := lt_of_heap Lm0.out
  replace J0 := Lib.hid (And.intro (J0.out.1.below hz) (J0.out.2.below hz))
  have J1 := Lib.hid (And.intro (JN.out.1.below hz) (JN.out.2.below hz))
  replace QB := Lib.hid (blw_then QB.out hz)
  clear JN hz
  generalize v1.heap.size + 1 = q1 at *
  refine (law_alone lay4 (mem0.set 23 x1) _ (t2 : Int) (opN 3 0) V1 J1.out.1 J1.out.2 (by simp)).mono ?_
  rintro e v2 ⟨vm2, rfl, hI, hT, hb⟩
  rw [show visP lay4 (t2 : Int) (opN 3 0).kind (opN 3 0).a = visP lay4 (t2 : Int) 3 0 from rfl, HA2.out] at hI ⊢
  obtain ⟨A2, c2, rfl, -⟩ := hI.out
  have JN0 : IntsR v2 (.slice A2 24 c2) (mem0.set 23 x2) ∧ Typed v2 (.slice A2 24 c2) := by have := And.intro hI hT; simpa using this
  have JN := Lib.hid JN0
  clear JN0
  replace Ll := Lib.hid ((hb.block _ (lt_of_heap Ll.out)).trans Ll.out)
  replace Lm0 := Lib.hid ((hb.block _ (lt_of_heap Lm0.out)).trans Lm0.out)
  replace Lm1 := Lib.hid ((hb.block _ (lt_of_heap Lm1.out)).trans Lm1.out)
  replace cl := cell_of_heap Ll.out
  replace fl := frz_of_heap Ll.out
  replace sl := lt_of_heap Ll.out
  replace cm0 := cell_of_heap Lm0.out
  replace fm0 := frz_of_heap Lm0.out
  replace sm0 := lt_of_heap Lm0.out
  replace cm1 := cell_of_heap Lm1.out
  replace fm1 := frz_of_heap Lm1.out
  replace sm1 := lt_of_heap Lm1.out
  replace J0 := Lib.hid (And.intro (J0.out.1.below hb) (J0.out.2.below hb))
  replace J1 := Lib.hid (And.intro (J1.out.1.below hb) (J1.out.2.below hb))
  replace QB := Lib.hid (blw_then QB.out hb)
  clear hI hT hb
  go_wp2_with fail
  generalize hg : (v2.alloc _).alloc _ = V2
  have hz : Below v2.heap.size v2 V2 := by rw [← hg]; exact blw_alloc (blw_alloc (Below.refl _ _) _) _
  have b_m2 := congrArg (fun u : World => u.heap[v2.heap.size + 1]?) hg
  try simp only [] at b_m2
  repeat (first | rw [hd_drew] at b_m2 | rw [hs_ne _ _ _ _ _ (by omega)] at b_m2 | rw [ha_lt _ _ _ (by first | omega | (simp only [World.size_alloc, World.size_setCell, World.size_drew]; omega))] at b_m2 | rw [hs_same] at b_m2)
  rw [ha_new _ _ _ (by first | rfl | simp only [World.size_alloc, World.size_setCell, World.size_drew])] at b_m2
  try simp only [Option.map_some, putO, List.setIfInBounds_toArray, List.set_cons_zero, List.set_cons_succ] at b_m2
  have Lm2 := Lib.hid b_m2.symm
  clear b_m2
  have cm2 := cell_of_heap Lm2.out
  have fm2 := frz_of_heap Lm2.out
  have sm2 := lt_of_heap Lm2.out
  clear hg
  replace Ll := Lib.hid ((hz.block _ (lt_of_heap Ll.out)).trans Ll.out)
  replace Lm0 := Lib.hid ((hz.block _ (lt_of_heap Lm0.out)).trans Lm0.out)
  replace Lm1 := Lib.hid ((hz.block _ (lt_of_heap Lm1.out)).trans Lm1.out)
  replace cl := cell_of_heap Ll.out
  replace fl := frz_of_heap Ll.out
  replace sl := lt_of_heap Ll.out
  replace cm0 := cell_of_heap Lm0.out
  replace fm0 := frz_of_heap Lm0.out
  replace sm0 := lt_of_heap Lm0.out
  replace cm1 := cell_of_heap Lm1.out
  replace fm1 := frz_of_heap Lm1.out
  replace sm1 := lt_of_heap Lm1.out
  replace J0 := Lib.hid (And.intro (J0.out.1.below hz) (J0.out.2.below hz))
  replace J1 := Lib.hid (And.intro (J1.out.1.below hz) (J1.out.2.below hz))
  have J2 := Lib.hid (And.intro (JN.out.1.below hz) (JN.out.2.below hz))
  replace QB := Lib.hid (blw_then QB.out hz)
  clear JN hz
  generalize v2.heap.size + 1 = q2 at *
  clear cm1 fm1 sm1
  clear Lm1 J1
  refine (law_alone lay4 (mem0.set 23 x2) _ (t1 : Int) (opN 4 0) V2 J2.out.1 J2.out.2 (by simp)).mono ?_
  rintro e v3 ⟨vm3, rfl, hI, hT, hb⟩
  rw [show visP lay4 (t1 : Int) (opN 4 0).kind (opN 4 0).a = visP lay4 (t1 : Int) 4 0 from rfl, HA3.out] at hI ⊢
  obtain ⟨A3, c3, rfl, -⟩ := hI.out
  have JN0 : IntsR v3 (.slice A3 24 c3) (mem0.set 23 x3) ∧ Typed v3 (.slice A3 24 c3) := by have := And.intro hI hT; simpa using this
  have JN := Lib.hid JN0
  clear JN0
  replace Ll := Lib.hid ((hb.block _ (lt_of_heap Ll.out)).trans Ll.out)
  replace Lm0 := Lib.hid ((hb.block _ (lt_of_heap Lm0.out)).trans Lm0.out)
  replace Lm2 := Lib.hid ((hb.block _ (lt_of_heap Lm2.out)).trans Lm2.out)
  replace cl := cell_of_heap Ll.out
  replace fl := frz_of_heap Ll.out
  replace sl := lt_of_heap Ll.out
  replace cm0 := cell_of_heap Lm0.out
  replace fm0 := frz_of_heap Lm0.out
  replace sm0 := lt_of_heap Lm0.out
  replace cm2 := cell_of_heap Lm2.out
  replace fm2 := frz_of_heap Lm2.out
  replace sm2 := lt_of_heap Lm2.out
  replace J0 := Lib.hid (And.intro (J0.out.1.below hb) (J0.out.2.below hb))
  replace J2 := Lib.hid (And.intro (J2.out.1.below hb) (J2.out.2.below hb))
  replace QB := Lib.hid (blw_then QB.out hb)
  clear hI hT hb
  go_wp2_with fail
  generalize hg : (v3.alloc _).alloc _ = V3
  have hz : Below v3.heap.size v3 V3 := by rw [← hg]; exact blw_alloc (blw_alloc (Below.refl _ _) _) _
  have b_m3 := congrArg (fun u : World => u.heap[v3.heap.size + 1]?) hg
  try simp only [] at b_m3
  repeat (first | rw [hd_drew] at b_m3 | rw [hs_ne _ _ _ _ _ (by omega)] at b_m3 | rw [ha_lt _ _ _ (by first | omega | (simp only [World.size_alloc, World.size_setCell, World.size_drew]; omega))] at b_m3 | rw [hs_same] at b_m3)
  rw [ha_new _ _ _ (by first | rfl | simp only [World.size_alloc, World.size_setCell, World.size_drew])] at b_m3
  try simp only [Option.map_some, putO, List.setIfInBounds_toArray, List.set_cons_zero, List.set_cons_succ] at b_m3
  have Lm3 := Lib.hid b_m3.symm
  clear b_m3
  have cm3 := cell_of_heap Lm3.out
  have fm3 := frz_of_heap Lm3.out
  have sm3 := lt_of_heap Lm3.out
  clear hg
  replace Ll := Lib.hid ((hz.block _ (lt_of_heap Ll.out)).trans Ll.out)
  replace Lm0 := Lib.hid ((hz.block _ (lt_of_heap Lm0.out)).trans Lm0.out)
  replace Lm2 := Lib.hid ((hz.block _ (lt_of_heap Lm2.out)).trans Lm2.out)
  replace cl := cell_of_heap Ll.out
  replace fl := frz_of_heap Ll.out
  replace sl := lt_of_heap Ll.out
  replace cm0 := cell_of_heap Lm0.out
  replace fm0 := frz_of_heap Lm0.out
  replace sm0 := lt_of_heap Lm0.out
  replace cm2 := cell_of_heap Lm2.out
  replace fm2 := frz_of_heap Lm2.out
  replace sm2 := lt_of_heap Lm2.out
  replace J0 := Lib.hid (And.intro (J0.out.1.below hz) (J0.out.2.below hz))
  replace J2 := Lib.hid (And.intro (J2.out.1.below hz) (J2.out.2.below hz))
  have J3 := Lib.hid (And.intro (JN.out.1.below hz) (JN.out.2.below hz))
  replace QB := Lib.hid (blw_then QB.out hz)
  clear JN hz
  generalize v3.heap.size + 1 = q3 at *
  refine (law_alone lay4 (mem0.set 23 x3) _ (t2 : Int) (opN 4 0) V3 J3.out.1 J3.out.2 (by simp)).mono ?_
  rintro e v4 ⟨vm4, rfl, hI, hT, hb⟩
  rw [show visP lay4 (t2 : Int) (opN 4 0).kind (opN 4 0).a = visP lay4 (t2 : Int) 4 0 from rfl, HA4.out] at hI ⊢
  obtain ⟨A4, c4, rfl, -⟩ := hI.out
  have JN0 : IntsR v4 (.slice A4 24 c4) (mem0.set 23 mask) ∧ Typed v4 (.slice A4 24 c4) := by have := And.intro hI hT; simpa using this
  have JN := Lib.hid JN0
  clear JN0
  replace Ll := Lib.hid ((hb.block _ (lt_of_heap Ll.out)).trans Ll.out)
  replace Lm0 := Lib.hid ((hb.block _ (lt_of_heap Lm0.out)).trans Lm0.out)
  replace Lm2 := Lib.hid ((hb.block _ (lt_of_heap Lm2.out)).trans Lm2.out)
  replace Lm3 := Lib.hid ((hb.block _ (lt_of_heap Lm3.out)).trans Lm3.out)
  replace cl := cell_of_heap Ll.out
  replace fl := frz_of_heap Ll.out
  replace sl := lt_of_heap Ll.out
  replace cm0 := cell_of_heap Lm0.out
  replace fm0 := frz_of_heap Lm0.out
  replace sm0 := lt_of_heap Lm0.out
  replace cm2 := cell_of_heap Lm2.out
  replace fm2 := frz_of_heap Lm2.out
  replace sm2 := lt_of_heap Lm2.out
  replace cm3 := cell_of_heap Lm3.out
  replace fm3 := frz_of_heap Lm3.out
  replace sm3 := lt_of_heap Lm3.out
  replace J0 := Lib.hid (And.intro (J0.out.1.below hb) (J0.out.2.below hb))
  replace J2 := Lib.hid (And.intro (J2.out.1.below hb) (J2.out.2.below hb))
  replace J3 := Lib.hid (And.intro (J3.out.1.below hb) (J3.out.2.below hb))
  replace QB := Lib.hid (blw_then QB.out hb)
  clear hI hT hb
  go_wp2_with fail
  generalize hg : (v4.alloc _).alloc _ = V4
  have hz : Below v4.heap.size v4 V4 := by rw [← hg]; exact blw_alloc (blw_alloc (Below.refl _ _) _) _
  have b_m4 := congrArg (fun u : World => u.heap[v4.heap.size + 1]?) hg
  try simp only [] at b_m4
  repeat (first | rw [hd_drew] at b_m4 | rw [hs_ne _ _ _ _ _ (by omega)] at b_m4 | rw [ha_lt _ _ _ (by first | omega | (simp only [World.size_alloc, World.size_setCell, World.size_drew]; omega))] at b_m4 | rw [hs_same] at b_m4)
  rw [ha_new _ _ _ (by first | rfl | simp only [World.size_alloc, World.size_setCell, World.size_drew])] at b_m4
  try simp only [Option.map_some, putO, List.setIfInBounds_toArray, List.set_cons_zero, List.set_cons_succ] at b_m4
  have Lm4 := Lib.hid b_m4.symm
  clear b_m4
  have cm4 := cell_of_heap Lm4.out
  have fm4 := frz_of_heap Lm4.out
  have sm4 := lt_of_heap Lm4.out
  clear hg
  replace Ll := Lib.hid ((hz.block _ (lt_of_heap Ll.out)).trans Ll.out)
  replace Lm0 := Lib.hid ((hz.block _ (lt_of_heap Lm0.out)).trans Lm0.out)
  replace Lm2 := Lib.hid ((hz.block _ (lt_of_heap Lm2.out)).trans Lm2.out)
  replace Lm3 := Lib.hid ((hz.block _ (lt_of_heap Lm3.out)).trans Lm3.out)
  replace cl := cell_of_heap Ll.out
  replace fl := frz_of_heap Ll.out
  replace sl := lt_of_heap Ll.out
  replace cm0 := cell_of_heap Lm0.out
  replace fm0 := frz_of_heap Lm0.out
  replace sm0 := lt_of_heap Lm0.out
  replace cm2 := cell_of_heap Lm2.out
  replace fm2 := frz_of_heap Lm2.out
  replace sm2 := lt_of_heap Lm2.out
  replace cm3 := cell_of_heap Lm3.out
  replace fm3 := frz_of_heap Lm3.out
  replace sm3 := lt_of_heap Lm3.out
  replace J0 := Lib.hid (And.intro (J0.out.1.below hz) (J0.out.2.below hz))
  replace J2 := Lib.hid (And.intro (J2.out.1.below hz) (J2.out.2.below hz))
  replace J3 := Lib.hid (And.intro (J3.out.1.below hz) (J3.out.2.below hz))
  have J4 := Lib.hid (And.intro (JN.out.1.below hz) (JN.out.2.below hz))
  replace QB := Lib.hid (blw_then QB.out hz)
  clear JN hz
  generalize v4.heap.size + 1 = q4 at *
  clear cm3 fm3 sm3
  clear Lm3 J3
  have e24 : memCell (mem0.set 23 x2) 23 = x2 := by simp [memCell]
  have HE24 := Lib.hid e24
  clear e24
  refine (ref_Same (mem0.set 23 mask) (mem0.set 23 mask) _ _ V4 J4.out.1 J0.out.1).mono ?_
  rintro e u1 ⟨rfl, hb⟩
  rw [decide_eq_true rfl]
  replace Ll := Lib.hid ((hb.block _ (lt_of_heap Ll.out)).trans Ll.out)
  replace Lm2 := Lib.hid ((hb.block _ (lt_of_heap Lm2.out)).trans Lm2.out)
  replace cl := cell_of_heap Ll.out
  replace fl := frz_of_heap Ll.out
  replace sl := lt_of_heap Ll.out
  replace cm2 := cell_of_heap Lm2.out
  replace fm2 := frz_of_heap Lm2.out
  replace sm2 := lt_of_heap Lm2.out
  replace J2 := Lib.hid (And.intro (J2.out.1.below hb) (J2.out.2.below hb))
  replace QB := Lib.hid (blw_then QB.out hb)
  clear hb cm0 fm0 sm0 cm4 fm4 sm4
  go_wp2_with fail
  refine (ref_Cell (mem0.set 23 x2) 23 _ _ J2.out.1).mono ?_
  rintro e u2 ⟨rfl, hb⟩
  rw [HE24.out]
  replace Ll := Lib.hid ((hb.block _ (lt_of_heap Ll.out)).trans Ll.out)
  replace Lm2 := Lib.hid ((hb.block _ (lt_of_heap Lm2.out)).trans Lm2.out)
  replace cl := cell_of_heap Ll.out
  replace fl := frz_of_heap Ll.out
  replace sl := lt_of_heap Ll.out
  replace cm2 := cell_of_heap Lm2.out
  replace fm2 := frz_of_heap Lm2.out
  replace sm2 := lt_of_heap Lm2.out
  replace J2 := Lib.hid (And.intro (J2.out.1.below hb) (J2.out.2.below hb))
  replace QB := Lib.hid (blw_then QB.out hb)
  clear hb
  go_wp2_with fail
  refine (ref_In x2 (t1 : Int) _).mono ?_
  rintro e w' ⟨rfl, rfl⟩
  rw [HB1.out]
  go_wp2_with fail
  refine (ref_Cell (mem0.set 23 x2) 23 _ _ J2.out.1).mono ?_
  rintro e u3 ⟨rfl, hb⟩
  rw [HE24.out]
  replace Ll := Lib.hid ((hb.block _ (lt_of_heap Ll.out)).trans Ll.out)
  replace Lm2 := Lib.hid ((hb.block _ (lt_of_heap Lm2.out)).trans Lm2.out)
  replace cl := cell_of_heap Ll.out
  replace fl := frz_of_heap Ll.out
  replace sl := lt_of_heap Ll.out
  replace cm2 := cell_of_heap Lm2.out
  replace fm2 := frz_of_heap Lm2.out
  replace sm2 := lt_of_heap Lm2.out
  replace J2 := Lib.hid (And.intro (J2.out.1.below hb) (J2.out.2.below hb))
  replace QB := Lib.hid (blw_then QB.out hb)
  clear hb
  go_wp2_with fail
  refine (ref_In x2 (t2 : Int) _).mono ?_
  rintro e w' ⟨rfl, rfl⟩
  rw [HB2.out]
  go_wp2
  go_ret
  exact ⟨rfl, QB.out⟩
theorem law_VUe (mask one two : Int) (wt : Bool) (t1 t2 : Nat) (ho : one % 4 = t1) (ht : two % 4 = t2) (ho0 : 0 ≤ one ∧ one ≤ 255) (ht0 : 0 ≤ two ∧ two ≤ 255) (h : t1 = t2 ∨ rIn mask (t1 : Int) = true ∨ rIn mask (t2 : Int) = true) (w : World) :
    Calls Try.prog 6 #[.agg #[.int .i64 mask, .int .u8 one, .int .u8 two, .bool wt]] w fun e w' => e = .returned (.bool true) ∧ Below w.heap.size w w' := by
  have g1 : one.tmod 4 = (t1 : Int) := by rw [Int.tmod_eq_emod_of_nonneg ho0.1]; exact ho
  have g2 : two.tmod 4 = (t2 : Int) := by rw [Int.tmod_eq_emod_of_nonneg ht0.1]; exact ht
  clear ho ht
  by_cases h12 : t1 = t2
  · have g3 : ((t1 : Int) == (t2 : Int)) = true := by simp; omega
    clear h h12
    go_enter Try.func6, Try.ntmps6
    go_wp2_with fail
    refine (law_sanity _).mono ?_
    rintro e w1 ⟨rfl, hb1⟩
    have QB := Lib.hid (blw_then (blw_alloc (Below.refl _ _) _) hb1)
    clear hb1
    go_wp2
    go_ret
    exact ⟨rfl, QB.out⟩
  · have g3 : ((t1 : Int) == (t2 : Int)) = false := by simp; omega
    cases e1 : rIn mask (t1 : Int)
    · have HE1 := Lib.hid e1
      have HE2 : Hid (rIn mask (t2 : Int) = true) := by
        show _ = _
        rw [e1] at h
        simpa [h12] using h
      clear h h12 e1
      go_enter Try.func6, Try.ntmps6
      go_wp2_with fail
      refine (law_sanity _).mono ?_
      rintro e w1 ⟨rfl, hb1⟩
      have QB := Lib.hid (blw_then (blw_alloc (Below.refl _ _) _) hb1)
      clear hb1
      go_wp2_with fail
      refine (ref_In mask (t1 : Int) _).mono ?_
      rintro e w' ⟨rfl, rfl⟩
      rw [HE1.out]
      go_wp2_with fail
      refine (ref_In mask (t2 : Int) _).mono ?_
      rintro e w' ⟨rfl, rfl⟩
      rw [HE2.out]
      go_wp2
      go_ret
      exact ⟨rfl, QB.out⟩
    · have HE1 := Lib.hid e1
      clear h h12 e1
      go_enter Try.func6, Try.ntmps6
      go_wp2_with fail
      refine (law_sanity _).mono ?_
      rintro e w1 ⟨rfl, hb1⟩
      have QB := Lib.hid (blw_then (blw_alloc (Below.refl _ _) _) hb1)
      clear hb1
      go_wp2_with fail
      refine (ref_In mask (t1 : Int) _).mono ?_
      rintro e w' ⟨rfl, rfl⟩
      rw [HE1.out]
      go_wp2
      go_ret
      exact ⟨rfl, QB.out⟩
theorem law_VisibleUndoes (mask one two : Int) (wt : Bool) (hm : I64 mask) (h1 : 0 ≤ one ∧ one ≤ 255) (h2 : 0 ≤ two ∧ two ≤ 255) (w : World) :
    Calls Try.prog 6 #[.agg #[.int .i64 mask, .int .u8 one, .int .u8 two, .bool wt]] w fun e w' => e = .returned (.bool true) ∧ Below w.heap.size w w' := by
  obtain ⟨t1, ht1⟩ := Int.eq_ofNat_of_zero_le (Int.emod_nonneg one (show (4 : Int) ≠ 0 by decide))
  obtain ⟨t2, ht2⟩ := Int.eq_ofNat_of_zero_le (Int.emod_nonneg two (show (4 : Int) ≠ 0 by decide))
  have l1 : t1 < 4 := by have := Int.emod_lt_of_pos one (show (0 : Int) < 4 by decide); omega
  have l2 : t2 < 4 := by have := Int.emod_lt_of_pos two (show (0 : Int) < 4 by decide); omega
  by_cases hc : t1 = t2 ∨ rIn mask (t1 : Int) = true ∨ rIn mask (t2 : Int) = true
  · exact law_VUe mask one two wt t1 t2 ht1 ht2 h1 h2 hc w
  · have n1 : ¬ t1 = t2 := fun e => hc (.inl e)
    have n2 : bitOf mask t1 = false := by
      rw [← rIn_eq hm (by omega)]
      cases h : rIn mask (t1 : Int)
      · rfl
      · exact absurd (.inr (.inl h)) hc
    have n3 : bitOf mask t2 = false := by
      rw [← rIn_eq hm (by omega)]
      cases h : rIn mask (t2 : Int)
      · rfl
      · exact absurd (.inr (.inr h)) hc
    cases wt
    · exact law_VU0 mask one two hm t1 t2 l1 l2 n1 ht1 ht2 h1 h2 n2 n3 w
    · exact law_VU1 mask one two hm t1 t2 l1 l2 n1 ht1 ht2 h1 h2 n2 n3 w
end Go.Proofs.Ytpfibcbeenogiaa
