/- law18.VisibleAlone, walked. -/
import Derived.Test.YtpfibcbeenogiaaSane
import Derived.Test.YtpfibcbeenogiaaBits
namespace Go.Proofs.Ytpfibcbeenogiaa
open Go.RowKit
set_option linter.unusedSimpArgs false
set_option linter.unusedVariables false
abbrev lay4 : Lay := ⟨4, 1, 0, 0, 0, 0, 1, 2, 3, 4, 20, 20, 24⟩
theorem rOf4 : rOf 4 1 0 0 0 = (lay4, 0) := by decide
theorem lay4_R (w : World) : Calls Try.prog 21 #[lay4.v, .int .i64 0] w fun e w' => e = .returned (.int .i64 22) ∧ Below w.heap.size w w' := by
  refine (ref_Readers lay4 0 w).mono ?_
  rintro e w' ⟨rfl, h⟩
  exact ⟨by rw [show cellP lay4.loc lay4.locs 0 4 2 = 22 by decide +kernel], h⟩
theorem lay4_W (w : World) : Calls Try.prog 22 #[lay4.v, .int .i64 0] w fun e w' => e = .returned (.int .i64 23) ∧ Below w.heap.size w w' := by
  refine (ref_Waiters lay4 0 w).mono ?_
  rintro e w' ⟨rfl, h⟩
  exact ⟨by rw [show cellP lay4.loc lay4.locs 0 4 3 = 23 by decide +kernel], h⟩
theorem lay4_st {t : Nat} (ht : t < 4) : ¬ cellP lay4.thd lay4.thr (t : Int) 4 0 < 0 := by
  obtain rfl | rfl | rfl | rfl : t = 0 ∨ t = 1 ∨ t = 2 ∨ t = 3 := by omega
  all_goals decide +kernel
/-- What an operation alone makes of a mask. -/
theorem alone_va {t : Nat} (ht : t < 4) (kind : Int) (c : Nat) (hc : c < 24) (hk : visCell lay4 kind 0 = (c : Int)) (put : Bool) (hput : put = decide (kind = 1 ∨ kind = 3)) (mask : Int) (hm : I64 mask) :
    ∃ is now n, aloneF (visP lay4 (t : Int) kind 0) (mem0.set c mask) = (outIs is, mem0.set c now, n) ∧ I64 now ∧ (∀ j : Nat, j ≤ 61 → rIn now j = if j = t then put else rIn mask j) ∧
      (rIn mask t = put → n = 1 ∧ is = false ∧ now = mask) ∧ (rIn mask t = !put → n = 2 ∧ is = true) := by
  have hA := aloneF_vis lay4 (t : Int) kind 0 c mask (mem0.set c mask) hk (lay4_st ht) (by rw [List.getElem?_set_self (by simpa using hc)])
  have e1 : wIn mask t = rIn mask t := by rw [wIn_eq (by omega), rIn_eq hm (by omega)]
  rw [hA, e1]
  simp only [List.set_set]
  by_cases hp : kind = 1 ∨ kind = 3
  · obtain rfl : put = true := by rw [hput]; simp [hp]
    rw [if_pos hp]
    cases h : rIn mask t
    · refine ⟨true, wWith mask t, 2, by simp, wWith_in _ _, fun j hj => ?_, by simp, by simp⟩
      rw [rIn_eq (wWith_in _ _) hj, bit_with _ (by omega) hj, rIn_eq hm hj]
      by_cases e : j = t
      · simp [e]
      · rw [if_neg e]; simp [Ne.symm e]
    · refine ⟨false, mask, 1, by simp, hm, fun j hj => ?_, by simp, by simp⟩
      by_cases e : j = t
      · rw [if_pos e, e, h]
      · rw [if_neg e]
  · obtain rfl : put = false := by rw [hput]; simp [hp]
    rw [if_neg hp]
    cases h : rIn mask t
    · refine ⟨false, mask, 1, by simp, hm, fun j hj => ?_, by simp, by simp⟩
      by_cases e : j = t
      · rw [if_pos e, e, h]
      · rw [if_neg e]
    · refine ⟨true, wWithout mask t, 2, by simp, wWithout_in _ _, fun j hj => ?_, by simp, by simp⟩
      rw [rIn_eq (wWithout_in _ _) hj, bit_without _ (by omega) hj, rIn_eq hm hj]
      by_cases e : j = t
      · simp [e]
      · rw [if_neg e]; simp [Ne.symm e]
set_option maxRecDepth 100000 in
set_option maxHeartbeats 2000000 in
theorem law_VA1 (mask me kind : Int) (hm : I64 mask) (t : Nat) (ht : t < 4) (hme : me % 4 = t) (hme0 : 0 ≤ me ∧ me ≤ 255) (hk0 : 0 ≤ kind ∧ kind ≤ 255) (hk : kind % 4 = 0) (w : World) :
    Calls Try.prog 5 #[.int .i64 mask, .int .u8 me, .int .u8 kind] w fun e w' => e = .returned (.bool true) ∧ Below w.heap.size w w' := by
  have g1 : me.tmod 4 = (t : Int) := by rw [Int.tmod_eq_emod_of_nonneg hme0.1]; exact hme
  have g2 : kind.tmod 4 = 0 := by rw [Int.tmod_eq_emod_of_nonneg hk0.1]; exact hk
  go_enter Try.func5, Try.ntmps5
  go_wp2_with fail
  refine (law_sanity _).mono ?_
  rintro e w1 ⟨rfl, hb1⟩
  have HB1 := Lib.hid hb1
  clear hb1
  go_wp2_with fail
  refine (ref_Of 4 1 0 0 0 _).mono ?_
  rintro e w2 ⟨rfl, hb2⟩
  rw [rOf4]
  have HB2 := Lib.hid (blw_then HB1.out hb2)
  clear hb2 HB1
  go_wp2_with fail
  generalize hg : w2.alloc _ = W2
  have hl : W2.heap[w2.heap.size]? = some (.cells #[.int .i64 4, .int .i64 1, .int .i64 0, .int .i64 0, .int .i64 0, .int .i64 0, .int .i64 1, .int .i64 2, .int .i64 3, .int .i64 4, .int .i64 20, .int .i64 20, .int .i64 24] 25 (0, 0)) := by
    rw [← hg]
    exact ha_new _ _ _ rfl
  have HB2' := Lib.hid (blw_alloc HB2.out (.cells #[.int .i64 4, .int .i64 1, .int .i64 0, .int .i64 0, .int .i64 0, .int .i64 0, .int .i64 1, .int .i64 2, .int .i64 3, .int .i64 4, .int .i64 20, .int .i64 20, .int .i64 24] 25))
  rw [hg] at HB2'
  clear hg HB2
  generalize w2.heap.size = s at *
  have HL := Lib.hid hl
  clear hl
  refine (lay4_R _).mono ?_
  rintro e w3 ⟨rfl, hb3⟩
  have HL3 := Lib.hid ((hb3.block _ (lt_of_heap HL.out)).trans HL.out)
  have HB3 := Lib.hid (blw_then HB2'.out hb3)
  have cl3 : ∀ i, w3.cell? ⟨s, i, none⟩ = _ := cell_of_heap HL3.out
  clear hb3 HL HB2'
  go_wp2_with fail
  refine (ref_New 24 (by decide) _).mono ?_
  rintro e w4 ⟨vm4, rfl, b, rfl, hF1, hF2, hF3⟩
  have HL4 := Lib.hid ((hF3.block _ (lt_of_heap HL3.out)).trans HL3.out)
  have HB4 := Lib.hid (blw_then HB3.out hF3)
  have cl4 : ∀ i, w4.cell? ⟨s, i, none⟩ = _ := cell_of_heap HL4.out
  have cb4 : w4.cell? ⟨b, 22, none⟩ = some (.int .i64 0) := by rw [cell_of_heap hF2]; rfl
  have fb4 : ∀ i, w4.frozen? ⟨b, i, none⟩ = false := fun i => by simp [World.frozen?, hF2]
  have sb4 : b < w4.heap.size := lt_of_heap hF2
  have ss4 : s < w4.heap.size := lt_of_heap HL4.out
  have nb4 : ¬ s = b := by have := lt_of_heap HL3.out; omega
  have HF2 := Lib.hid hF2
  have wb : w.heap.size ≤ b := by have := HB3.out.size; omega
  clear hF1 hF2 hF3 cl3 HL3 HB3
  go_wp2_with fail
  generalize hg : (w4.setCell ⟨b, 22, none⟩ (Value.int .i64 mask)).alloc _ = W5
  have hb5 : W5.heap[b]? = some (.cells ((mem0.set 22 mask).map (Value.int .i64)).toArray 3 (0, 0)) := by
    rw [← hg, ha_lt _ _ _ (by simpa using sb4), hs_same, HF2.out]
    rfl
  have hl5 : W5.heap[s]? = some (.cells #[.int .i64 4, .int .i64 1, .int .i64 0, .int .i64 0, .int .i64 0, .int .i64 0, .int .i64 1, .int .i64 2, .int .i64 3, .int .i64 4, .int .i64 20, .int .i64 20, .int .i64 24] 25 (0, 0)) := by
    rw [← hg, ha_lt _ _ _ (by simpa using ss4), hs_ne _ _ _ _ _ (fun e => nb4 e.symm)]
    exact HL4.out
  have hk5 : Below w.heap.size w W5 := by
    rw [← hg]
    refine blw_alloc (blw_set HB4.out (by simp only []; exact wb) _) _
  have hI5 := fresh_ints (cs := mem0.set 22 mask) (by simp) hb5
  clear hg HB4 HL4 HF2 cb4 fb4 cl4 sb4 ss4 nb4 hb5
  generalize w4.heap.size = s4 at *
  have HL5 := Lib.hid hl5
  have HB5 := Lib.hid hk5
  clear hl5 hk5
  obtain ⟨is, now, n, hA, hnow, hbit, hsame, hdiff⟩ := alone_va ht 1 22 (by decide) (by decide +kernel) true (by decide) mask hm
  have HBIT := Lib.hid hbit
  have HSAME := Lib.hid hsame
  have HDIFF := Lib.hid hdiff
  clear hbit hsame hdiff
  refine (law_alone lay4 (mem0.set 22 mask) _ (t : Int) (opN 1 0) W5 hI5.1 hI5.2 (by simp)).mono ?_
  rintro e w6 ⟨vm6, rfl, hI6, hT6, hb6⟩
  rw [show visP lay4 (t : Int) (opN 1 0).kind (opN 1 0).a = visP lay4 (t : Int) 1 0 from rfl, hA] at hI6 ⊢
  obtain ⟨A6, c6, rfl, -⟩ := hI6.out
  have HL6 := Lib.hid ((hb6.block _ (lt_of_heap HL5.out)).trans HL5.out)
  have HB6 := Lib.hid (blw_then HB5.out hb6)
  have HI6 := Lib.hid hI6
  clear hI6 hT6 hb6 hI5 HL5 HB5 hA
  have hnn : memCell (mem0.set 22 now) 22 = now := by simp [memCell]
  have hI6' : IntsR w6 (.slice A6 24 c6) (mem0.set 22 now) := by
    have := HI6.out
    simpa using this
  have HI6' := Lib.hid hI6'
  clear hI6' HI6
  go_wp2_with fail
  refine (ref_In mask (t : Int) _).mono ?_
  rintro e w7 ⟨rfl, rfl⟩
  go_wp2_with fail
  generalize hg : (w6.alloc _).alloc _ = W7
  have ho7 : W7.heap[w6.heap.size]? = some (.cells #[.int .i64 0, .int .i64 0, .int .i64 0, .int .i64 0, .bool is, .bool false, .int .i64 0] 42 (0, 0)) := by
    rw [← hg, ha_lt _ _ _ (by simp only [World.size_alloc]; omega), ha_new _ _ _ rfl]
    try rfl
  have hm7 : W7.heap[w6.heap.size + 1]? = some (.cells #[.slice A6 24 c6] 53 (0, 0)) := by
    rw [← hg, ha_new _ _ _ (by simp only [World.size_alloc])]
  have hw7 : Below w6.heap.size w6 W7 := by rw [← hg]; exact blw_alloc (blw_alloc (Below.refl _ _) _) _
  clear hg
  have HL7 := Lib.hid ((hw7.block _ (lt_of_heap HL6.out)).trans HL6.out)
  have HB7 := Lib.hid (blw_then HB6.out hw7)
  have HI7 := Lib.hid (HI6'.out.below hw7)
  generalize w6.heap.size = s6 at *
  have HO7 := Lib.hid ho7
  have HM7 := Lib.hid hm7
  clear ho7 hm7 hw7 HL6 HB6 HI6'
  refine (ref_Cell (mem0.set 22 now) 22 _ W7 HI7.out).mono ?_
  rintro e w8 ⟨rfl, hb8⟩
  rw [hnn]
  have HL8 := Lib.hid ((hb8.block _ (lt_of_heap HL7.out)).trans HL7.out)
  have HO8 := Lib.hid ((hb8.block _ (lt_of_heap HO7.out)).trans HO7.out)
  have HM8 := Lib.hid ((hb8.block _ (lt_of_heap HM7.out)).trans HM7.out)
  have HB8 := Lib.hid (blw_then HB7.out hb8)
  have HI8 := Lib.hid (HI7.out.below hb8)
  clear hb8 HL7 HB7 HI7 HO7 HM7 hnn
  go_wp2_with fail
  go_loop [20] (fun i => ∃ j : Nat, j ≤ 62 ∧ i = .int .i64 (j : Int)) (fun i => 62 - (intOf i).toNat)
  case atStart => exact ⟨0, by omega, rfl⟩
  case round =>
    obtain ⟨j, hj, rfl⟩ := hrel
    by_cases hlt : j < 62
    · have hbj := HBIT.out j (by omega)
      by_cases hjt : j = t
      · subst hjt
        rw [if_pos rfl] at hbj
        go_wp2_with fail
        refine (ref_In now (j : Int) _).mono ?_
        rintro e w9 ⟨rfl, rfl⟩
        rw [hbj]
        go_wp2_with fail
        go_round
        case rel => exact ⟨j + 1, by omega, by go_num⟩
        case measure => simp [intOf]; omega
      · rw [if_neg hjt] at hbj
        have bjt : ((j : Int) == (t : Int)) = false := by simp; omega
        have bjn : ((j : Int) != (t : Int)) = true := by simp; omega
        go_wp2_with fail
        refine (ref_In now (j : Int) _).mono ?_
        rintro e w9 ⟨rfl, rfl⟩
        rw [hbj]
        go_wp2_with fail
        refine (ref_In mask (j : Int) _).mono ?_
        rintro e w9 ⟨rfl, rfl⟩
        cases hmj : rIn mask (j : Int)
        · go_wp2_with fail
          go_round
          case rel => exact ⟨j + 1, by omega, by go_num⟩
          case measure => simp [intOf]; omega
        · go_wp2_with fail
          go_round
          case rel => exact ⟨j + 1, by omega, by go_num⟩
          case measure => simp [intOf]; omega
    · obtain rfl : j = 62 := by omega
      clear HBIT
      go_wp2_with fail
      have cs8 : ∀ i, w8.cell? ⟨s, i, none⟩ = _ := cell_of_heap HL8.out
      go_loopw [22] (fun i wr => ∃ j : Nat, j ≤ 24 ∧ i = .int .i64 (j : Int) ∧ Below w8.heap.size w8 wr) (fun i _ => 24 - (intOf i).toNat)
      case atStart => exact ⟨0, by omega, rfl, Below.refl _ _⟩
      case round =>
        obtain ⟨j, hj, rfl, hbr⟩ := hrel
        have cl9 : ∀ i, wr.cell? ⟨s, i, none⟩ = _ := cell_of_heap ((hbr.block _ (lt_of_heap HL8.out)).trans HL8.out)
        have cm9 : ∀ i, wr.cell? ⟨s6 + 1, i, none⟩ = _ := cell_of_heap ((hbr.block _ (lt_of_heap HM8.out)).trans HM8.out)
        have co9 : ∀ i, wr.cell? ⟨s6, i, none⟩ = _ := cell_of_heap ((hbr.block _ (lt_of_heap HO8.out)).trans HO8.out)
        have HBR := Lib.hid hbr
        clear hbr cs8
        by_cases hlt : j < 24
        · have hd : decide ((j : Int) < 24) = true := by simp; omega
          by_cases hjc : j = 22
          · subst hjc
            go_wp2_with fail
            go_roundw
            case rel => exact ⟨23, by omega, by go_num, HBR.out⟩
            case measure => simp [intOf]
          · have bjn : ((j : Int) != 22) = true := by simp; omega
            go_wp2_with fail
            refine (ref_Cell (mem0.set 22 now) (j : Int) _ wr (HI8.out.below HBR.out)).mono ?_
            rintro e w9 ⟨rfl, hb9⟩
            rw [show memCell (mem0.set 22 now) (j : Int) = 0 by
              rw [memCell, if_neg (by omega), Int.toNat_natCast, List.getElem?_set_ne (by omega)]
              simp [hlt]]
            have HB9 := Lib.hid (blw_then HBR.out hb9)
            clear hb9
            go_wp2_with fail
            go_roundw
            case rel => exact ⟨j + 1, by omega, by go_num, HB9.out⟩
            case measure => simp [intOf]; omega
        · obtain rfl : j = 24 := by omega
          have HFIN := Lib.hid (Below.trans HB8.out (HBR.out.mono HB8.out.size))
          cases hmt : rIn mask (t : Int)
          · obtain ⟨rfl, rfl⟩ := HDIFF.out (by rw [hmt]; rfl)
            clear HSAME HDIFF
            go_wp2
            go_ret
            exact ⟨rfl, HFIN.out⟩
          · obtain ⟨rfl, rfl, rfl⟩ := HSAME.out (by rw [hmt])
            clear HSAME HDIFF
            go_wp2
            go_ret
            exact ⟨rfl, HFIN.out⟩
end Go.Proofs.Ytpfibcbeenogiaa
