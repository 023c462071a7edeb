/- law21.WaitAloneCounts, walked. -/
import Derived.Test.YtpfibcbeenogiaaWAL
import Derived.Test.YtpfibcbeenogiaaTail
import Derived.Test.YtpfibcbeenogiaaRW
namespace Go.Proofs.Ytpfibcbeenogiaa
open Go.RowKit
set_option linter.unusedSimpArgs false
set_option linter.unusedVariables false
theorem rs_one {w : World} {b : Nat} {x : Int} {y : Bool} {T : TypeId} (h : w.heap[b]? = some (.cells #[.int .i64 x, .bool y] T (0, 0))) : SlR 2 Rs.cells w (.slice (some ⟨b, 0, none⟩) 1 1) [⟨x, y⟩] := by
  refine ⟨_, 1, rfl, Nat.le_refl _, by simp, fun _ => ⟨b, 0, rfl, lt_of_heap h, fun i s hi j u hu => ?_⟩⟩
  match i, hi with
  | 0, hi =>
    obtain rfl : s = ⟨x, y⟩ := by simpa using hi.symm
    rw [cell_of_heap h]
    match j, hu with
    | 0, hu => simpa using hu
    | 1, hu => simpa using hu
theorem adr0 (b j : Nat) : Addr.add ⟨b, 0, none⟩ j = ⟨b, j, none⟩ := by
  simp [Addr.add]
  intro h
  exact h.symm
set_option maxRecDepth 100000 in
set_option maxHeartbeats 4000000 in
theorem law_AloneCounts (m c : Int) (hm : 0 ≤ m ∧ m ≤ 255) (hc : 0 ≤ c ∧ c ≤ 255) (w : World) :
    Calls Try.prog 10 #[.int .u8 m, .int .u8 c] w (SanePost w) := by
  obtain ⟨b0, hb0⟩ : ∃ b, b = decide (m % 2 = 1) := ⟨_, rfl⟩
  obtain ⟨b1, hb1⟩ : ∃ b, b = decide (m / 2 % 2 = 1) := ⟨_, rfl⟩
  obtain ⟨b2, hb2⟩ : ∃ b, b = decide (m / 4 % 2 = 1) := ⟨_, rfl⟩
  obtain ⟨c0, hc0⟩ : ∃ b, b = decide (c % 2 = 1) := ⟨_, rfl⟩
  obtain ⟨c1, hc1⟩ : ∃ b, b = decide (c / 2 % 2 = 1) := ⟨_, rfl⟩
  obtain ⟨c2, hc2⟩ : ∃ b, b = decide (c / 4 % 2 = 1) := ⟨_, rfl⟩
  have HBS := Lib.hid (And.intro hb0 (And.intro hb1 (And.intro hb2 (And.intro hc0 (And.intro hc1 hc2)))))
  clear hb0 hb1 hb2 hc0 hc1 hc2
  go_enter Try.func10, Try.ntmps10
  go_wp2_with fail
  refine (law21_sanity _).mono ?_
  rintro e w1 ⟨rfl, hb1⟩
  have HB1 := Lib.hid hb1
  clear hb1
  go_wp2_with fail
  refine (law_where _).mono ?_
  rintro e w2 ⟨rfl, hb2⟩
  have HB2 := Lib.hid (blw_then HB1.out hb2)
  clear hb2
  go_wp2_with fail
  generalize hW : World.alloc _ _ = W2
  have b_q6 := congrArg (fun u : World => u.heap[w2.heap.size]?) hW
  try simp only [] at b_q6
  repeat (first | rw [hd_drew] at b_q6 | rw [hd_drewN] at b_q6 | rw [hs_ne _ _ _ _ _ (by omega)] at b_q6 | rw [ha_lt _ _ _ (by first | omega | (simp only [World.size_alloc, World.size_setCell, World.size_drew]; omega))] at b_q6 | rw [hs_same] at b_q6)
  rw [ha_new _ _ _ (by first | rfl | simp only [World.size_alloc, World.size_setCell, World.size_drew])] at b_q6
  try simp only [Option.map_some, putO, List.setIfInBounds_toArray, List.set_cons_zero, List.set_cons_succ] at b_q6
  have Lq6 := Lib.hid b_q6.symm
  clear b_q6
  have cq6 := cell_of_heap Lq6.out
  have fq6 := frz_of_heap Lq6.out
  have sq6 := lt_of_heap Lq6.out
  have hbw : Below w2.heap.size w2 W2 := by subst hW; exact blw_alloc (Below.refl _ _) _
  clear hW cq6 fq6 sq6
  refine (ref_New28 _).mono ?_
  rintro e w3 ⟨vb, rfl, hvb, hv3, hb3⟩
  have L6 := Lib.hid (blk_keep hb3 (lt_of_heap Lq6.out) Lq6.out)
  have LV := Lib.hid hv3
  have HB3 := Lib.hid (blw_then HB2.out (blw_then hbw hb3))
  clear hbw hb3 hv3
  go_wp2_with fail
  generalize hW : World.alloc _ _ = W
  have b_q7 := congrArg (fun u : World => u.heap[w3.heap.size]?) hW
  try simp only [] at b_q7
  repeat (first | rw [hd_drew] at b_q7 | rw [hd_drewN] at b_q7 | rw [hs_ne _ _ _ _ _ (by omega)] at b_q7 | rw [ha_lt _ _ _ (by first | omega | (simp only [World.size_alloc, World.size_setCell, World.size_drew]; omega))] at b_q7 | rw [hs_same] at b_q7)
  rw [ha_new _ _ _ (by first | rfl | simp only [World.size_alloc, World.size_setCell, World.size_drew])] at b_q7
  try simp only [Option.map_some, putO, List.setIfInBounds_toArray, List.set_cons_zero, List.set_cons_succ] at b_q7
  have Lq7 := Lib.hid b_q7.symm
  clear b_q7
  have cq7 := cell_of_heap Lq7.out
  have fq7 := frz_of_heap Lq7.out
  have sq7 := lt_of_heap Lq7.out
  have hbw : Below w3.heap.size w3 W := by subst hW; exact blw_alloc (Below.refl _ _) _
  clear hW cq7 fq7 sq7
  replace L6 := Lib.hid (blk_keep hbw (lt_of_heap L6.out) L6.out)
  replace LV := Lib.hid (blk_keep hbw (lt_of_heap LV.out) LV.out)
  have HBW := Lib.hid (blw_then HB3.out hbw)
  have zW := hbw.size
  have vlt := lt_of_heap LV.out
  have n67 : ¬ w2.heap.size = vb := fun e => by have h1 := L6.out; have h2 := LV.out; rw [e, h2] at h1; simp at h1
  have n77 : ¬ w3.heap.size = vb := fun e => by have h1 := Lq7.out; have h2 := LV.out; rw [e, h2] at h1; simp at h1
  have n76 : ¬ w3.heap.size = w2.heap.size := fun e => by have h1 := Lq7.out; have h2 := L6.out; rw [e, h2] at h1; simp at h1
  clear hbw
  obtain ⟨i0, hi0, hz0, hz1, hz2⟩ := info_parts info_sn
  obtain ⟨L, hL⟩ : ∃ L, L = waL [b0, b1, b2] [c0, c1, c2] := ⟨_, rfl⟩
  have HL := Lib.hid hL
  clear hL
  go_loopw [8, 9, 10] (fun vs f i wr => ∃ k : Nat, k ≤ 3 ∧ i = .int .i64 (k : Int) ∧ f = .int .i64 (L k).first ∧ wr.ownsRow W.heap.size 89 3 vs (L k).seen.length ((L k).seen.flatMap Sn.cells) ∧ Keep (· = vb) W wr ∧
    wr.heap[vb]? = some (.cells ((L k).cs.map (Value.int .i64)).toArray 3 (0, 0)) ∧ (L k).cs.length = 28 ∧ (L k).seen.length ≤ k ∧ (L k).first ≤ 3 ∧ -1 ≤ (L k).first) (fun _ _ i _ => 3 - (intOf i).toNat)
  case atStart =>
    rw [HL.out]
    exact ⟨0, Nat.zero_le _, rfl, rfl, World.ownsRow_nil _ _ _ _, Keep.refl _ _, LV.out, rfl, Nat.le_refl _, by show (-1 : Int) ≤ 3; decide, Int.le_refl _⟩
  case round =>
    obtain ⟨k, hk, rfl, rfl, how, hK, hV, hl28, hsk, hf3, hf0⟩ := hrel
    obtain ⟨Al, cl, rfl, -⟩ := owns_shape how
    obtain ⟨⟨cs, seen, first⟩, hLk⟩ : ∃ s, s = L k := ⟨_, rfl⟩
    rw [← hLk] at how hV hl28 hsk hf3 hf0 ⊢
    simp only at how hV hl28 hsk hf3 hf0 ⊢
    have HLK := Lib.hid hLk
    have HO := Lib.hid how
    have HK := Lib.hid hK
    have HV := Lib.hid hV
    clear hLk how hK hV
    have Lr6 := Lib.hid ((HK.out.block _ (lt_of_heap L6.out) n67).trans L6.out)
    have Lr7 := Lib.hid ((HK.out.block _ (lt_of_heap Lq7.out) n77).trans Lq7.out)
    have zr := HK.out.size
    by_cases hlt : k < 3
    · have hd : decide ((k : Int) < 3) = true := by simp; omega
      obtain rfl | rfl | rfl : k = 0 ∨ k = 1 ∨ k = 2 := by omega
      · have hbm : (m % 2 == 0) = !b0 := by
          rw [HBS.out.1]
          rcases Int.emod_two_eq (m ) with h | h <;> simp [h]
        have hcm : (c % 2 == 1) = c0 := by
          rw [HBS.out.2.2.2.1]
          rcases Int.emod_two_eq (c ) with h | h <;> simp [h]
        cases b0
        · have hs : Hid (L 1 = ⟨cs, seen, first⟩) := Lib.hid (by rw [HLK.out, HL.out]; rfl)
          go_wp2_with fail
          go_roundw
          case rel =>
            refine ⟨1, by omega, by go_num, by rw [hs.out], ?_, Keep.alloc HK.out _, ?_, by rw [hs.out]; exact hl28, by rw [hs.out]; show seen.length ≤ _; omega, by rw [hs.out]; exact hf3, by rw [hs.out]; exact hf0⟩
            · rw [hs.out]; exact HO.out.alloc _
            · rw [hs.out]; exact (ha_lt _ _ _ (lt_of_heap HV.out)).trans HV.out
          case measure => simp [intOf]
        · cases c0
          · have hs : Hid (L 1 = ⟨cs, seen ++ [⟨0, 0, 0⟩], first⟩) := Lib.hid (by rw [HL.out]; show waL _ _ (0 + 1) = _; rw [waL]; simp only [← HL.out, ← HLK.out]; simp)
            have HOX := HO
            have HKX := HK
            have HVX := HV
            have hl28' := hl28
            have hf3' := hf3
            have hf0' := hf0
            go_upto_region 14 with fail
            go_wp2_with (at_builtin; refine wpList_append_own _ rfl (.tmp 62) (.tmp 65) 28 rfl W.heap.size 89 i0 (.agg #[.int .i64 0, .int .i64 0, .int .i64 0]) 3 24 Try.underlying28 hi0 hz0 hz1 hz2 rfl (by decide) (.slice Al seen.length cl) seen.length (seen.flatMap Sn.cells) rfl ?ownA0 ⟨_, 0, none⟩ 1 1 [.int .i64 0, .int .i64 0, .int .i64 0] rfl rfl ?c1A0 ?c2A0 ?c3A0 ?c4A0 ?c5A0 ?ccA0)
            case ownA0 => with_reducible repeat (first | exact HOX.out | refine World.ownsRow.alloc ?_ _)
            try case c1A0 =>
              intro j u hj
              rw [adr0, cell_of_heap (ha_new _ _ _ (by first | rfl | (simp only [World.size_alloc]; done) | (simp only [World.size_setCell]; done) | simp only [World.size_alloc, World.size_setCell]))]
              simpa using hj
            case c2A0 => first | rfl | exact ⟨rfl, rfl⟩ | (intro u hu; simp at hu; rcases hu with rfl | rfl | rfl <;> rfl)
            case c3A0 => simp only [maxLen]; omega
            case c4A0 => omega
            case c5A0 => first | omega | (simp only [World.size_alloc, World.size_setCell]; omega)
            intro v9 w9 hown9 hgrow9 hnil9
            have H9 := Lib.hid hown9
            have G9 := Lib.hid hgrow9
            clear hown9 hgrow9 hnil9
            go_wp2
            go_roundw
            case rel =>
              have hnb : ∀ b', (Value.slice Al seen.length cl).ownBlock = some b' → W.heap.size ≤ b' := fun b' hb' => (HO.out.lt b' hb').1
              refine ⟨0 + 1, by omega, by go_num, by rw [hs.out], ?_, ?_, ?_, by rw [hs.out]; exact hl28', by rw [hs.out, List.length_append]; show seen.length + 1 ≤ _; omega, by rw [hs.out]; exact hf3', by rw [hs.out]; exact hf0'⟩
              · rw [hs.out, List.length_append, List.flatMap_append]
                exact H9.out
              · refine Keep.grown ?_ G9.out (fun b' hb' => .inl (hnb b' hb'))
                with_reducible repeat (first | exact HKX.out | refine Keep.alloc ?_ _)
              · rw [hs.out]
                exact grown_blkA G9.out (blk_keep (show Below wr.heap.size wr _ by with_reducible repeat (first | exact Below.refl _ _ | refine blw_alloc ?_ _ | refine blw_drew ?_)) (lt_of_heap HVX.out) HVX.out) (fun e => by have := hnb vb e; omega)
            case measure => simp [intOf]
          · have hwd : cellP lay3.loc lay3.locs 0 4 0 = 16 := by decide +kernel
            go_upto_region 11 with fail
            have hbx : ∀ o1 o2, Below wr.heap.size wr ((wr.alloc o1).alloc o2) := fun _ _ => blw_alloc (blw_alloc (Below.refl _ _) _) _
            have HBX := Lib.hid (hbx (.cells #[.int .u8 1, .int .u8 2, .int .u8 4] 5) (.cells #[.int .u8 1, .int .u8 2, .int .u8 4] 5))
            clear hbx
            generalize hWx : World.alloc _ _ = Wx at *
            have Lx6 := Lib.hid (blk_keep HBX.out (lt_of_heap Lr6.out) Lr6.out)
            have Lx7 := Lib.hid (blk_keep HBX.out (lt_of_heap Lr7.out) Lr7.out)
            have hs1 := after_cell Lx6.out
            have hs2 := after_cell Lx7.out
            have K1 : Hid (∀ u : After Wx, Calls Try.prog 38 #[lay3.v, .int .i64 0] u.w (fun e w' => e = .returned (.int .i64 16) ∧ ∃ u' : After Wx, w' = u'.w)) := fun u => by have h := after_call (ref_Word lay3 0 u.w); rw [hwd] at h; exact h
            refine region_tail (C := fun w' => ∃ u : After Wx, w' = u.w) 6 (by kernel_rfl) (by kernel_rfl) (by decide) (by kernel_rfl) (by kernel_rfl) ⟨⟨Wx.drew, blw_drew (Below.refl _ _)⟩, rfl⟩ ?_
            simp only [stubs, List.take_succ_cons, List.take_zero, List.drop_succ_cons, List.drop_zero, List.map_cons, List.map_nil, List.cons_append, List.nil_append, stubOf]
            repeat (go_big_quiet_step (exact K1.out _))
            refine wpQuiet_nil ?_
            rintro w5 ⟨⟨w5', hb5⟩, he⟩
            obtain rfl : w5 = w5' := he
            have HB5 := Lib.hid (blw_then HBX.out hb5)
            have LV5 := Lib.hid (blk_keep HB5.out (lt_of_heap HV.out) HV.out)
            have cv := cell_of_heap LV5.out
            have fv := frz_of_heap LV5.out
            have hxv : (cs.map (Value.int .i64)).toArray[16]? = some (.int .i64 (cs[16]'(by omega))) := by simp
            have cv' := (cv 16).trans hxv
            have sv := lt_of_heap LV5.out
            have z5 := HB5.out.size
            clear hs1 hs2 K1 hb5 hxv cv
            have HKX := Lib.hid (Keep.setCell (HK.out.trans (Keep.of_below HB5.out)) (p := ⟨vb, 16, none⟩) (.int .i64 8) (.inr rfl))
            have HOX := Lib.hid (owns_set (o := 16) (x := .int .i64 8) (owns_below HO.out HB5.out) vlt)
            have HVX : Hid ((w5.setCell ⟨vb, 16, none⟩ (.int .i64 8)).heap[vb]? = some (.cells ((cs.set 16 8).map (Value.int .i64)).toArray 3 (0, 0))) := Lib.hid (by rw [hs_same, LV5.out]; simp [putO, List.map_set])
            have hl28' : (cs.set 16 8).length = 28 := by simp [hl28]
            by_cases hf : first < 0
            · have hs : Hid (L 1 = ⟨cs.set 16 8, seen ++ [⟨0, 0, 0⟩], (seen.length : Int)⟩) := Lib.hid (by rw [HL.out]; show waL _ _ (0 + 1) = _; rw [waL]; simp only [← HL.out, ← HLK.out]; simp [hf])
              have hdf : decide (first < 0) = true := by simp [hf]
              have hf3' : (seen.length : Int) ≤ 3 := by omega
              have hf0' : -1 ≤ (seen.length : Int) := by omega
              go_upto_region 14 with fail
              go_wp2_with (at_builtin; refine wpList_append_own _ rfl (.tmp 62) (.tmp 65) 28 rfl W.heap.size 89 i0 (.agg #[.int .i64 0, .int .i64 0, .int .i64 0]) 3 24 Try.underlying28 hi0 hz0 hz1 hz2 rfl (by decide) (.slice Al seen.length cl) seen.length (seen.flatMap Sn.cells) rfl ?ownB0 ⟨_, 0, none⟩ 1 1 [.int .i64 0, .int .i64 0, .int .i64 0] rfl rfl ?c1B0 ?c2B0 ?c3B0 ?c4B0 ?c5B0 ?ccB0)
              case ownB0 => with_reducible repeat (first | exact HOX.out | refine World.ownsRow.alloc ?_ _)
              try case c1B0 =>
                intro j u hj
                rw [adr0, cell_of_heap (ha_new _ _ _ (by first | rfl | (simp only [World.size_alloc]; done) | (simp only [World.size_setCell]; done) | simp only [World.size_alloc, World.size_setCell]))]
                simpa using hj
              case c2B0 => first | rfl | exact ⟨rfl, rfl⟩ | (intro u hu; simp at hu; rcases hu with rfl | rfl | rfl <;> rfl)
              case c3B0 => simp only [maxLen]; omega
              case c4B0 => omega
              case c5B0 => first | omega | (simp only [World.size_alloc, World.size_setCell]; omega)
              intro v9 w9 hown9 hgrow9 hnil9
              have H9 := Lib.hid hown9
              have G9 := Lib.hid hgrow9
              clear hown9 hgrow9 hnil9
              go_wp2
              go_roundw
              case rel =>
                have hnb : ∀ b', (Value.slice Al seen.length cl).ownBlock = some b' → W.heap.size ≤ b' := fun b' hb' => (HO.out.lt b' hb').1
                refine ⟨0 + 1, by omega, by go_num, by rw [hs.out], ?_, ?_, ?_, by rw [hs.out]; exact hl28', by rw [hs.out, List.length_append]; show seen.length + 1 ≤ _; omega, by rw [hs.out]; exact hf3', by rw [hs.out]; exact hf0'⟩
                · rw [hs.out, List.length_append, List.flatMap_append]
                  exact H9.out
                · refine Keep.grown ?_ G9.out (fun b' hb' => .inl (hnb b' hb'))
                  with_reducible repeat (first | exact HKX.out | refine Keep.alloc ?_ _)
                · rw [hs.out]
                  exact grown_blkA G9.out (blk_keep (show Below (w5.setCell ⟨vb, 16, none⟩ (.int .i64 8)).heap.size (w5.setCell ⟨vb, 16, none⟩ (.int .i64 8)) _ by with_reducible repeat (first | exact Below.refl _ _ | refine blw_alloc ?_ _ | refine blw_drew ?_)) (lt_of_heap HVX.out) HVX.out) (fun e => by have := hnb vb e; omega)
              case measure => simp [intOf]
            · have hs : Hid (L 1 = ⟨cs.set 16 8, seen ++ [⟨0, 0, 0⟩], first⟩) := Lib.hid (by rw [HL.out]; show waL _ _ (0 + 1) = _; rw [waL]; simp only [← HL.out, ← HLK.out]; simp [hf])
              have hdf : decide (first < 0) = false := by simp [hf]
              have hf3' := hf3
              have hf0' := hf0
              go_upto_region 14 with fail
              go_wp2_with (at_builtin; refine wpList_append_own _ rfl (.tmp 62) (.tmp 65) 28 rfl W.heap.size 89 i0 (.agg #[.int .i64 0, .int .i64 0, .int .i64 0]) 3 24 Try.underlying28 hi0 hz0 hz1 hz2 rfl (by decide) (.slice Al seen.length cl) seen.length (seen.flatMap Sn.cells) rfl ?ownC0 ⟨_, 0, none⟩ 1 1 [.int .i64 0, .int .i64 0, .int .i64 0] rfl rfl ?c1C0 ?c2C0 ?c3C0 ?c4C0 ?c5C0 ?ccC0)
              case ownC0 => with_reducible repeat (first | exact HOX.out | refine World.ownsRow.alloc ?_ _)
              try case c1C0 =>
                intro j u hj
                rw [adr0, cell_of_heap (ha_new _ _ _ (by first | rfl | (simp only [World.size_alloc]; done) | (simp only [World.size_setCell]; done) | simp only [World.size_alloc, World.size_setCell]))]
                simpa using hj
              case c2C0 => first | rfl | exact ⟨rfl, rfl⟩ | (intro u hu; simp at hu; rcases hu with rfl | rfl | rfl <;> rfl)
              case c3C0 => simp only [maxLen]; omega
              case c4C0 => omega
              case c5C0 => first | omega | (simp only [World.size_alloc, World.size_setCell]; omega)
              intro v9 w9 hown9 hgrow9 hnil9
              have H9 := Lib.hid hown9
              have G9 := Lib.hid hgrow9
              clear hown9 hgrow9 hnil9
              go_wp2
              go_roundw
              case rel =>
                have hnb : ∀ b', (Value.slice Al seen.length cl).ownBlock = some b' → W.heap.size ≤ b' := fun b' hb' => (HO.out.lt b' hb').1
                refine ⟨0 + 1, by omega, by go_num, by rw [hs.out], ?_, ?_, ?_, by rw [hs.out]; exact hl28', by rw [hs.out, List.length_append]; show seen.length + 1 ≤ _; omega, by rw [hs.out]; exact hf3', by rw [hs.out]; exact hf0'⟩
                · rw [hs.out, List.length_append, List.flatMap_append]
                  exact H9.out
                · refine Keep.grown ?_ G9.out (fun b' hb' => .inl (hnb b' hb'))
                  with_reducible repeat (first | exact HKX.out | refine Keep.alloc ?_ _)
                · rw [hs.out]
                  exact grown_blkA G9.out (blk_keep (show Below (w5.setCell ⟨vb, 16, none⟩ (.int .i64 8)).heap.size (w5.setCell ⟨vb, 16, none⟩ (.int .i64 8)) _ by with_reducible repeat (first | exact Below.refl _ _ | refine blw_alloc ?_ _ | refine blw_drew ?_)) (lt_of_heap HVX.out) HVX.out) (fun e => by have := hnb vb e; omega)
              case measure => simp [intOf]
      · have hbm : (m / 2 % 2 == 0) = !b1 := by
          rw [HBS.out.2.1]
          rcases Int.emod_two_eq (m / 2) with h | h <;> simp [h]
        have hcm : (c / 2 % 2 == 1) = c1 := by
          rw [HBS.out.2.2.2.2.1]
          rcases Int.emod_two_eq (c / 2) with h | h <;> simp [h]
        cases b1
        · have hs : Hid (L 2 = ⟨cs, seen, first⟩) := Lib.hid (by rw [HLK.out, HL.out]; rfl)
          go_wp2_with fail
          go_roundw
          case rel =>
            refine ⟨2, by omega, by go_num, by rw [hs.out], ?_, Keep.alloc HK.out _, ?_, by rw [hs.out]; exact hl28, by rw [hs.out]; show seen.length ≤ _; omega, by rw [hs.out]; exact hf3, by rw [hs.out]; exact hf0⟩
            · rw [hs.out]; exact HO.out.alloc _
            · rw [hs.out]; exact (ha_lt _ _ _ (lt_of_heap HV.out)).trans HV.out
          case measure => simp [intOf]
        · cases c1
          · have hs : Hid (L 2 = ⟨cs, seen ++ [⟨1, 0, 0⟩], first⟩) := Lib.hid (by rw [HL.out]; show waL _ _ (1 + 1) = _; rw [waL]; simp only [← HL.out, ← HLK.out]; simp)
            have HOX := HO
            have HKX := HK
            have HVX := HV
            have hl28' := hl28
            have hf3' := hf3
            have hf0' := hf0
            go_upto_region 14 with fail
            go_wp2_with (at_builtin; refine wpList_append_own _ rfl (.tmp 62) (.tmp 65) 28 rfl W.heap.size 89 i0 (.agg #[.int .i64 0, .int .i64 0, .int .i64 0]) 3 24 Try.underlying28 hi0 hz0 hz1 hz2 rfl (by decide) (.slice Al seen.length cl) seen.length (seen.flatMap Sn.cells) rfl ?ownA1 ⟨_, 0, none⟩ 1 1 [.int .i64 1, .int .i64 0, .int .i64 0] rfl rfl ?c1A1 ?c2A1 ?c3A1 ?c4A1 ?c5A1 ?ccA1)
            case ownA1 => with_reducible repeat (first | exact HOX.out | refine World.ownsRow.alloc ?_ _)
            try case c1A1 =>
              intro j u hj
              rw [adr0, cell_of_heap (ha_new _ _ _ (by first | rfl | (simp only [World.size_alloc]; done) | (simp only [World.size_setCell]; done) | simp only [World.size_alloc, World.size_setCell]))]
              simpa using hj
            case c2A1 => first | rfl | exact ⟨rfl, rfl⟩ | (intro u hu; simp at hu; rcases hu with rfl | rfl | rfl <;> rfl)
            case c3A1 => simp only [maxLen]; omega
            case c4A1 => omega
            case c5A1 => first | omega | (simp only [World.size_alloc, World.size_setCell]; omega)
            intro v9 w9 hown9 hgrow9 hnil9
            have H9 := Lib.hid hown9
            have G9 := Lib.hid hgrow9
            clear hown9 hgrow9 hnil9
            go_wp2
            go_roundw
            case rel =>
              have hnb : ∀ b', (Value.slice Al seen.length cl).ownBlock = some b' → W.heap.size ≤ b' := fun b' hb' => (HO.out.lt b' hb').1
              refine ⟨1 + 1, by omega, by go_num, by rw [hs.out], ?_, ?_, ?_, by rw [hs.out]; exact hl28', by rw [hs.out, List.length_append]; show seen.length + 1 ≤ _; omega, by rw [hs.out]; exact hf3', by rw [hs.out]; exact hf0'⟩
              · rw [hs.out, List.length_append, List.flatMap_append]
                exact H9.out
              · refine Keep.grown ?_ G9.out (fun b' hb' => .inl (hnb b' hb'))
                with_reducible repeat (first | exact HKX.out | refine Keep.alloc ?_ _)
              · rw [hs.out]
                exact grown_blkA G9.out (blk_keep (show Below wr.heap.size wr _ by with_reducible repeat (first | exact Below.refl _ _ | refine blw_alloc ?_ _ | refine blw_drew ?_)) (lt_of_heap HVX.out) HVX.out) (fun e => by have := hnb vb e; omega)
            case measure => simp [intOf]
          · have hwd : cellP lay3.loc lay3.locs 1 4 0 = 20 := by decide +kernel
            go_upto_region 11 with fail
            have hbx : ∀ o1 o2, Below wr.heap.size wr ((wr.alloc o1).alloc o2) := fun _ _ => blw_alloc (blw_alloc (Below.refl _ _) _) _
            have HBX := Lib.hid (hbx (.cells #[.int .u8 1, .int .u8 2, .int .u8 4] 5) (.cells #[.int .u8 1, .int .u8 2, .int .u8 4] 5))
            clear hbx
            generalize hWx : World.alloc _ _ = Wx at *
            have Lx6 := Lib.hid (blk_keep HBX.out (lt_of_heap Lr6.out) Lr6.out)
            have Lx7 := Lib.hid (blk_keep HBX.out (lt_of_heap Lr7.out) Lr7.out)
            have hs1 := after_cell Lx6.out
            have hs2 := after_cell Lx7.out
            have K1 : Hid (∀ u : After Wx, Calls Try.prog 38 #[lay3.v, .int .i64 1] u.w (fun e w' => e = .returned (.int .i64 20) ∧ ∃ u' : After Wx, w' = u'.w)) := fun u => by have h := after_call (ref_Word lay3 1 u.w); rw [hwd] at h; exact h
            refine region_tail (C := fun w' => ∃ u : After Wx, w' = u.w) 6 (by kernel_rfl) (by kernel_rfl) (by decide) (by kernel_rfl) (by kernel_rfl) ⟨⟨Wx.drew, blw_drew (Below.refl _ _)⟩, rfl⟩ ?_
            simp only [stubs, List.take_succ_cons, List.take_zero, List.drop_succ_cons, List.drop_zero, List.map_cons, List.map_nil, List.cons_append, List.nil_append, stubOf]
            repeat (go_big_quiet_step (exact K1.out _))
            refine wpQuiet_nil ?_
            rintro w5 ⟨⟨w5', hb5⟩, he⟩
            obtain rfl : w5 = w5' := he
            have HB5 := Lib.hid (blw_then HBX.out hb5)
            have LV5 := Lib.hid (blk_keep HB5.out (lt_of_heap HV.out) HV.out)
            have cv := cell_of_heap LV5.out
            have fv := frz_of_heap LV5.out
            have hxv : (cs.map (Value.int .i64)).toArray[20]? = some (.int .i64 (cs[20]'(by omega))) := by simp
            have cv' := (cv 20).trans hxv
            have sv := lt_of_heap LV5.out
            have z5 := HB5.out.size
            clear hs1 hs2 K1 hb5 hxv cv
            have HKX := Lib.hid (Keep.setCell (HK.out.trans (Keep.of_below HB5.out)) (p := ⟨vb, 20, none⟩) (.int .i64 8) (.inr rfl))
            have HOX := Lib.hid (owns_set (o := 20) (x := .int .i64 8) (owns_below HO.out HB5.out) vlt)
            have HVX : Hid ((w5.setCell ⟨vb, 20, none⟩ (.int .i64 8)).heap[vb]? = some (.cells ((cs.set 20 8).map (Value.int .i64)).toArray 3 (0, 0))) := Lib.hid (by rw [hs_same, LV5.out]; simp [putO, List.map_set])
            have hl28' : (cs.set 20 8).length = 28 := by simp [hl28]
            by_cases hf : first < 0
            · have hs : Hid (L 2 = ⟨cs.set 20 8, seen ++ [⟨1, 0, 0⟩], (seen.length : Int)⟩) := Lib.hid (by rw [HL.out]; show waL _ _ (1 + 1) = _; rw [waL]; simp only [← HL.out, ← HLK.out]; simp [hf])
              have hdf : decide (first < 0) = true := by simp [hf]
              have hf3' : (seen.length : Int) ≤ 3 := by omega
              have hf0' : -1 ≤ (seen.length : Int) := by omega
              go_upto_region 14 with fail
              go_wp2_with (at_builtin; refine wpList_append_own _ rfl (.tmp 62) (.tmp 65) 28 rfl W.heap.size 89 i0 (.agg #[.int .i64 0, .int .i64 0, .int .i64 0]) 3 24 Try.underlying28 hi0 hz0 hz1 hz2 rfl (by decide) (.slice Al seen.length cl) seen.length (seen.flatMap Sn.cells) rfl ?ownB1 ⟨_, 0, none⟩ 1 1 [.int .i64 1, .int .i64 0, .int .i64 0] rfl rfl ?c1B1 ?c2B1 ?c3B1 ?c4B1 ?c5B1 ?ccB1)
              case ownB1 => with_reducible repeat (first | exact HOX.out | refine World.ownsRow.alloc ?_ _)
              try case c1B1 =>
                intro j u hj
                rw [adr0, cell_of_heap (ha_new _ _ _ (by first | rfl | (simp only [World.size_alloc]; done) | (simp only [World.size_setCell]; done) | simp only [World.size_alloc, World.size_setCell]))]
                simpa using hj
              case c2B1 => first | rfl | exact ⟨rfl, rfl⟩ | (intro u hu; simp at hu; rcases hu with rfl | rfl | rfl <;> rfl)
              case c3B1 => simp only [maxLen]; omega
              case c4B1 => omega
              case c5B1 => first | omega | (simp only [World.size_alloc, World.size_setCell]; omega)
              intro v9 w9 hown9 hgrow9 hnil9
              have H9 := Lib.hid hown9
              have G9 := Lib.hid hgrow9
              clear hown9 hgrow9 hnil9
              go_wp2
              go_roundw
              case rel =>
                have hnb : ∀ b', (Value.slice Al seen.length cl).ownBlock = some b' → W.heap.size ≤ b' := fun b' hb' => (HO.out.lt b' hb').1
                refine ⟨1 + 1, by omega, by go_num, by rw [hs.out], ?_, ?_, ?_, by rw [hs.out]; exact hl28', by rw [hs.out, List.length_append]; show seen.length + 1 ≤ _; omega, by rw [hs.out]; exact hf3', by rw [hs.out]; exact hf0'⟩
                · rw [hs.out, List.length_append, List.flatMap_append]
                  exact H9.out
                · refine Keep.grown ?_ G9.out (fun b' hb' => .inl (hnb b' hb'))
                  with_reducible repeat (first | exact HKX.out | refine Keep.alloc ?_ _)
                · rw [hs.out]
                  exact grown_blkA G9.out (blk_keep (show Below (w5.setCell ⟨vb, 20, none⟩ (.int .i64 8)).heap.size (w5.setCell ⟨vb, 20, none⟩ (.int .i64 8)) _ by with_reducible repeat (first | exact Below.refl _ _ | refine blw_alloc ?_ _ | refine blw_drew ?_)) (lt_of_heap HVX.out) HVX.out) (fun e => by have := hnb vb e; omega)
              case measure => simp [intOf]
            · have hs : Hid (L 2 = ⟨cs.set 20 8, seen ++ [⟨1, 0, 0⟩], first⟩) := Lib.hid (by rw [HL.out]; show waL _ _ (1 + 1) = _; rw [waL]; simp only [← HL.out, ← HLK.out]; simp [hf])
              have hdf : decide (first < 0) = false := by simp [hf]
              have hf3' := hf3
              have hf0' := hf0
              go_upto_region 14 with fail
              go_wp2_with (at_builtin; refine wpList_append_own _ rfl (.tmp 62) (.tmp 65) 28 rfl W.heap.size 89 i0 (.agg #[.int .i64 0, .int .i64 0, .int .i64 0]) 3 24 Try.underlying28 hi0 hz0 hz1 hz2 rfl (by decide) (.slice Al seen.length cl) seen.length (seen.flatMap Sn.cells) rfl ?ownC1 ⟨_, 0, none⟩ 1 1 [.int .i64 1, .int .i64 0, .int .i64 0] rfl rfl ?c1C1 ?c2C1 ?c3C1 ?c4C1 ?c5C1 ?ccC1)
              case ownC1 => with_reducible repeat (first | exact HOX.out | refine World.ownsRow.alloc ?_ _)
              try case c1C1 =>
                intro j u hj
                rw [adr0, cell_of_heap (ha_new _ _ _ (by first | rfl | (simp only [World.size_alloc]; done) | (simp only [World.size_setCell]; done) | simp only [World.size_alloc, World.size_setCell]))]
                simpa using hj
              case c2C1 => first | rfl | exact ⟨rfl, rfl⟩ | (intro u hu; simp at hu; rcases hu with rfl | rfl | rfl <;> rfl)
              case c3C1 => simp only [maxLen]; omega
              case c4C1 => omega
              case c5C1 => first | omega | (simp only [World.size_alloc, World.size_setCell]; omega)
              intro v9 w9 hown9 hgrow9 hnil9
              have H9 := Lib.hid hown9
              have G9 := Lib.hid hgrow9
              clear hown9 hgrow9 hnil9
              go_wp2
              go_roundw
              case rel =>
                have hnb : ∀ b', (Value.slice Al seen.length cl).ownBlock = some b' → W.heap.size ≤ b' := fun b' hb' => (HO.out.lt b' hb').1
                refine ⟨1 + 1, by omega, by go_num, by rw [hs.out], ?_, ?_, ?_, by rw [hs.out]; exact hl28', by rw [hs.out, List.length_append]; show seen.length + 1 ≤ _; omega, by rw [hs.out]; exact hf3', by rw [hs.out]; exact hf0'⟩
                · rw [hs.out, List.length_append, List.flatMap_append]
                  exact H9.out
                · refine Keep.grown ?_ G9.out (fun b' hb' => .inl (hnb b' hb'))
                  with_reducible repeat (first | exact HKX.out | refine Keep.alloc ?_ _)
                · rw [hs.out]
                  exact grown_blkA G9.out (blk_keep (show Below (w5.setCell ⟨vb, 20, none⟩ (.int .i64 8)).heap.size (w5.setCell ⟨vb, 20, none⟩ (.int .i64 8)) _ by with_reducible repeat (first | exact Below.refl _ _ | refine blw_alloc ?_ _ | refine blw_drew ?_)) (lt_of_heap HVX.out) HVX.out) (fun e => by have := hnb vb e; omega)
              case measure => simp [intOf]
      · have hbm : (m / 4 % 2 == 0) = !b2 := by
          rw [HBS.out.2.2.1]
          rcases Int.emod_two_eq (m / 4) with h | h <;> simp [h]
        have hcm : (c / 4 % 2 == 1) = c2 := by
          rw [HBS.out.2.2.2.2.2]
          rcases Int.emod_two_eq (c / 4) with h | h <;> simp [h]
        cases b2
        · have hs : Hid (L 3 = ⟨cs, seen, first⟩) := Lib.hid (by rw [HLK.out, HL.out]; rfl)
          go_wp2_with fail
          go_roundw
          case rel =>
            refine ⟨3, by omega, by go_num, by rw [hs.out], ?_, Keep.alloc HK.out _, ?_, by rw [hs.out]; exact hl28, by rw [hs.out]; show seen.length ≤ _; omega, by rw [hs.out]; exact hf3, by rw [hs.out]; exact hf0⟩
            · rw [hs.out]; exact HO.out.alloc _
            · rw [hs.out]; exact (ha_lt _ _ _ (lt_of_heap HV.out)).trans HV.out
          case measure => simp [intOf]
        · cases c2
          · have hs : Hid (L 3 = ⟨cs, seen ++ [⟨2, 0, 0⟩], first⟩) := Lib.hid (by rw [HL.out]; show waL _ _ (2 + 1) = _; rw [waL]; simp only [← HL.out, ← HLK.out]; simp)
            have HOX := HO
            have HKX := HK
            have HVX := HV
            have hl28' := hl28
            have hf3' := hf3
            have hf0' := hf0
            go_upto_region 14 with fail
            go_wp2_with (at_builtin; refine wpList_append_own _ rfl (.tmp 62) (.tmp 65) 28 rfl W.heap.size 89 i0 (.agg #[.int .i64 0, .int .i64 0, .int .i64 0]) 3 24 Try.underlying28 hi0 hz0 hz1 hz2 rfl (by decide) (.slice Al seen.length cl) seen.length (seen.flatMap Sn.cells) rfl ?ownA2 ⟨_, 0, none⟩ 1 1 [.int .i64 2, .int .i64 0, .int .i64 0] rfl rfl ?c1A2 ?c2A2 ?c3A2 ?c4A2 ?c5A2 ?ccA2)
            case ownA2 => with_reducible repeat (first | exact HOX.out | refine World.ownsRow.alloc ?_ _)
            try case c1A2 =>
              intro j u hj
              rw [adr0, cell_of_heap (ha_new _ _ _ (by first | rfl | (simp only [World.size_alloc]; done) | (simp only [World.size_setCell]; done) | simp only [World.size_alloc, World.size_setCell]))]
              simpa using hj
            case c2A2 => first | rfl | exact ⟨rfl, rfl⟩ | (intro u hu; simp at hu; rcases hu with rfl | rfl | rfl <;> rfl)
            case c3A2 => simp only [maxLen]; omega
            case c4A2 => omega
            case c5A2 => first | omega | (simp only [World.size_alloc, World.size_setCell]; omega)
            intro v9 w9 hown9 hgrow9 hnil9
            have H9 := Lib.hid hown9
            have G9 := Lib.hid hgrow9
            clear hown9 hgrow9 hnil9
            go_wp2
            go_roundw
            case rel =>
              have hnb : ∀ b', (Value.slice Al seen.length cl).ownBlock = some b' → W.heap.size ≤ b' := fun b' hb' => (HO.out.lt b' hb').1
              refine ⟨2 + 1, by omega, by go_num, by rw [hs.out], ?_, ?_, ?_, by rw [hs.out]; exact hl28', by rw [hs.out, List.length_append]; show seen.length + 1 ≤ _; omega, by rw [hs.out]; exact hf3', by rw [hs.out]; exact hf0'⟩
              · rw [hs.out, List.length_append, List.flatMap_append]
                exact H9.out
              · refine Keep.grown ?_ G9.out (fun b' hb' => .inl (hnb b' hb'))
                with_reducible repeat (first | exact HKX.out | refine Keep.alloc ?_ _)
              · rw [hs.out]
                exact grown_blkA G9.out (blk_keep (show Below wr.heap.size wr _ by with_reducible repeat (first | exact Below.refl _ _ | refine blw_alloc ?_ _ | refine blw_drew ?_)) (lt_of_heap HVX.out) HVX.out) (fun e => by have := hnb vb e; omega)
            case measure => simp [intOf]
          · have hwd : cellP lay3.loc lay3.locs 2 4 0 = 24 := by decide +kernel
            go_upto_region 11 with fail
            have hbx : ∀ o1 o2, Below wr.heap.size wr ((wr.alloc o1).alloc o2) := fun _ _ => blw_alloc (blw_alloc (Below.refl _ _) _) _
            have HBX := Lib.hid (hbx (.cells #[.int .u8 1, .int .u8 2, .int .u8 4] 5) (.cells #[.int .u8 1, .int .u8 2, .int .u8 4] 5))
            clear hbx
            generalize hWx : World.alloc _ _ = Wx at *
            have Lx6 := Lib.hid (blk_keep HBX.out (lt_of_heap Lr6.out) Lr6.out)
            have Lx7 := Lib.hid (blk_keep HBX.out (lt_of_heap Lr7.out) Lr7.out)
            have hs1 := after_cell Lx6.out
            have hs2 := after_cell Lx7.out
            have K1 : Hid (∀ u : After Wx, Calls Try.prog 38 #[lay3.v, .int .i64 2] u.w (fun e w' => e = .returned (.int .i64 24) ∧ ∃ u' : After Wx, w' = u'.w)) := fun u => by have h := after_call (ref_Word lay3 2 u.w); rw [hwd] at h; exact h
            refine region_tail (C := fun w' => ∃ u : After Wx, w' = u.w) 6 (by kernel_rfl) (by kernel_rfl) (by decide) (by kernel_rfl) (by kernel_rfl) ⟨⟨Wx.drew, blw_drew (Below.refl _ _)⟩, rfl⟩ ?_
            simp only [stubs, List.take_succ_cons, List.take_zero, List.drop_succ_cons, List.drop_zero, List.map_cons, List.map_nil, List.cons_append, List.nil_append, stubOf]
            repeat (go_big_quiet_step (exact K1.out _))
            refine wpQuiet_nil ?_
            rintro w5 ⟨⟨w5', hb5⟩, he⟩
            obtain rfl : w5 = w5' := he
            have HB5 := Lib.hid (blw_then HBX.out hb5)
            have LV5 := Lib.hid (blk_keep HB5.out (lt_of_heap HV.out) HV.out)
            have cv := cell_of_heap LV5.out
            have fv := frz_of_heap LV5.out
            have hxv : (cs.map (Value.int .i64)).toArray[24]? = some (.int .i64 (cs[24]'(by omega))) := by simp
            have cv' := (cv 24).trans hxv
            have sv := lt_of_heap LV5.out
            have z5 := HB5.out.size
            clear hs1 hs2 K1 hb5 hxv cv
            have HKX := Lib.hid (Keep.setCell (HK.out.trans (Keep.of_below HB5.out)) (p := ⟨vb, 24, none⟩) (.int .i64 8) (.inr rfl))
            have HOX := Lib.hid (owns_set (o := 24) (x := .int .i64 8) (owns_below HO.out HB5.out) vlt)
            have HVX : Hid ((w5.setCell ⟨vb, 24, none⟩ (.int .i64 8)).heap[vb]? = some (.cells ((cs.set 24 8).map (Value.int .i64)).toArray 3 (0, 0))) := Lib.hid (by rw [hs_same, LV5.out]; simp [putO, List.map_set])
            have hl28' : (cs.set 24 8).length = 28 := by simp [hl28]
            by_cases hf : first < 0
            · have hs : Hid (L 3 = ⟨cs.set 24 8, seen ++ [⟨2, 0, 0⟩], (seen.length : Int)⟩) := Lib.hid (by rw [HL.out]; show waL _ _ (2 + 1) = _; rw [waL]; simp only [← HL.out, ← HLK.out]; simp [hf])
              have hdf : decide (first < 0) = true := by simp [hf]
              have hf3' : (seen.length : Int) ≤ 3 := by omega
              have hf0' : -1 ≤ (seen.length : Int) := by omega
              go_upto_region 14 with fail
              go_wp2_with (at_builtin; refine wpList_append_own _ rfl (.tmp 62) (.tmp 65) 28 rfl W.heap.size 89 i0 (.agg #[.int .i64 0, .int .i64 0, .int .i64 0]) 3 24 Try.underlying28 hi0 hz0 hz1 hz2 rfl (by decide) (.slice Al seen.length cl) seen.length (seen.flatMap Sn.cells) rfl ?ownB2 ⟨_, 0, none⟩ 1 1 [.int .i64 2, .int .i64 0, .int .i64 0] rfl rfl ?c1B2 ?c2B2 ?c3B2 ?c4B2 ?c5B2 ?ccB2)
              case ownB2 => with_reducible repeat (first | exact HOX.out | refine World.ownsRow.alloc ?_ _)
              try case c1B2 =>
                intro j u hj
                rw [adr0, cell_of_heap (ha_new _ _ _ (by first | rfl | (simp only [World.size_alloc]; done) | (simp only [World.size_setCell]; done) | simp only [World.size_alloc, World.size_setCell]))]
                simpa using hj
              case c2B2 => first | rfl | exact ⟨rfl, rfl⟩ | (intro u hu; simp at hu; rcases hu with rfl | rfl | rfl <;> rfl)
              case c3B2 => simp only [maxLen]; omega
              case c4B2 => omega
              case c5B2 => first | omega | (simp only [World.size_alloc, World.size_setCell]; omega)
              intro v9 w9 hown9 hgrow9 hnil9
              have H9 := Lib.hid hown9
              have G9 := Lib.hid hgrow9
              clear hown9 hgrow9 hnil9
              go_wp2
              go_roundw
              case rel =>
                have hnb : ∀ b', (Value.slice Al seen.length cl).ownBlock = some b' → W.heap.size ≤ b' := fun b' hb' => (HO.out.lt b' hb').1
                refine ⟨2 + 1, by omega, by go_num, by rw [hs.out], ?_, ?_, ?_, by rw [hs.out]; exact hl28', by rw [hs.out, List.length_append]; show seen.length + 1 ≤ _; omega, by rw [hs.out]; exact hf3', by rw [hs.out]; exact hf0'⟩
                · rw [hs.out, List.length_append, List.flatMap_append]
                  exact H9.out
                · refine Keep.grown ?_ G9.out (fun b' hb' => .inl (hnb b' hb'))
                  with_reducible repeat (first | exact HKX.out | refine Keep.alloc ?_ _)
                · rw [hs.out]
                  exact grown_blkA G9.out (blk_keep (show Below (w5.setCell ⟨vb, 24, none⟩ (.int .i64 8)).heap.size (w5.setCell ⟨vb, 24, none⟩ (.int .i64 8)) _ by with_reducible repeat (first | exact Below.refl _ _ | refine blw_alloc ?_ _ | refine blw_drew ?_)) (lt_of_heap HVX.out) HVX.out) (fun e => by have := hnb vb e; omega)
              case measure => simp [intOf]
            · have hs : Hid (L 3 = ⟨cs.set 24 8, seen ++ [⟨2, 0, 0⟩], first⟩) := Lib.hid (by rw [HL.out]; show waL _ _ (2 + 1) = _; rw [waL]; simp only [← HL.out, ← HLK.out]; simp [hf])
              have hdf : decide (first < 0) = false := by simp [hf]
              have hf3' := hf3
              have hf0' := hf0
              go_upto_region 14 with fail
              go_wp2_with (at_builtin; refine wpList_append_own _ rfl (.tmp 62) (.tmp 65) 28 rfl W.heap.size 89 i0 (.agg #[.int .i64 0, .int .i64 0, .int .i64 0]) 3 24 Try.underlying28 hi0 hz0 hz1 hz2 rfl (by decide) (.slice Al seen.length cl) seen.length (seen.flatMap Sn.cells) rfl ?ownC2 ⟨_, 0, none⟩ 1 1 [.int .i64 2, .int .i64 0, .int .i64 0] rfl rfl ?c1C2 ?c2C2 ?c3C2 ?c4C2 ?c5C2 ?ccC2)
              case ownC2 => with_reducible repeat (first | exact HOX.out | refine World.ownsRow.alloc ?_ _)
              try case c1C2 =>
                intro j u hj
                rw [adr0, cell_of_heap (ha_new _ _ _ (by first | rfl | (simp only [World.size_alloc]; done) | (simp only [World.size_setCell]; done) | simp only [World.size_alloc, World.size_setCell]))]
                simpa using hj
              case c2C2 => first | rfl | exact ⟨rfl, rfl⟩ | (intro u hu; simp at hu; rcases hu with rfl | rfl | rfl <;> rfl)
              case c3C2 => simp only [maxLen]; omega
              case c4C2 => omega
              case c5C2 => first | omega | (simp only [World.size_alloc, World.size_setCell]; omega)
              intro v9 w9 hown9 hgrow9 hnil9
              have H9 := Lib.hid hown9
              have G9 := Lib.hid hgrow9
              clear hown9 hgrow9 hnil9
              go_wp2
              go_roundw
              case rel =>
                have hnb : ∀ b', (Value.slice Al seen.length cl).ownBlock = some b' → W.heap.size ≤ b' := fun b' hb' => (HO.out.lt b' hb').1
                refine ⟨2 + 1, by omega, by go_num, by rw [hs.out], ?_, ?_, ?_, by rw [hs.out]; exact hl28', by rw [hs.out, List.length_append]; show seen.length + 1 ≤ _; omega, by rw [hs.out]; exact hf3', by rw [hs.out]; exact hf0'⟩
                · rw [hs.out, List.length_append, List.flatMap_append]
                  exact H9.out
                · refine Keep.grown ?_ G9.out (fun b' hb' => .inl (hnb b' hb'))
                  with_reducible repeat (first | exact HKX.out | refine Keep.alloc ?_ _)
                · rw [hs.out]
                  exact grown_blkA G9.out (blk_keep (show Below (w5.setCell ⟨vb, 24, none⟩ (.int .i64 8)).heap.size (w5.setCell ⟨vb, 24, none⟩ (.int .i64 8)) _ by with_reducible repeat (first | exact Below.refl _ _ | refine blw_alloc ?_ _ | refine blw_drew ?_)) (lt_of_heap HVX.out) HVX.out) (fun e => by have := hnb vb e; omega)
              case measure => simp [intOf]
    · have HK3 : Hid (k = 3) := Lib.hid (by omega)
      have hd : decide ((k : Int) < 3) = false := by simp; omega
      obtain ⟨T, hT, hT30⟩ : ∃ T : Nat, waWant (L k) = (T : Int) ∧ T ≤ 30 := by
        have h := wa_bounds b0 b1 b2 c0 c1 c2
        rw [HK3.out, HL.out]
        exact ⟨(waWant (waL [b0, b1, b2] [c0, c1, c2] 3)).toNat, by omega, by omega⟩
      have hgo : waGo seen first T (T + 1) 0 cs [] = true := by
        have h := wa_true b0 b1 b2 c0 c1 c2
        have hT' := hT
        rw [HK3.out, HL.out] at hT'
        have hLK := HLK.out
        rw [HK3.out, HL.out] at hLK
        rw [waAll, hT', Int.toNat_natCast, ← hLK] at h
        exact h
      have hwt : waWant ⟨cs, seen, first⟩ = (T : Int) := by rw [HLK.out]; exact hT
      have HGO := Lib.hid hgo
      have HSS := Lib.hid (SlR.of_owns HO.out (fun _ => rfl) (by omega) : SlR 3 Sn.cells wr (.slice Al seen.length cl) seen)
      have HST : Hid (TyR 89 wr (.slice Al seen.length cl)) := Lib.hid (fun b' hb' => by obtain ⟨c', hc'⟩ := owns_type HO.out hb'; exact ⟨c', _, hc'⟩)
      have HIV := Lib.hid (hl28 ▸ SlR.of_heap (enc := fun x : Int => Value.int .i64 x) (xs := cs) HV.out 28 (by omega) (by omega) : IntsR wr (.slice (some ⟨vb, 0, none⟩) 28 28) cs)
      have HTV : Hid (Typed wr (.slice (some ⟨vb, 0, none⟩) 28 28)) := Lib.hid (fun b' hb' => by simp only [Value.ownBlock, Option.some.injEq] at hb'; subst hb'; exact ⟨_, _, HV.out⟩)
      clear hgo hT
      have hkt : Hid (∀ i : Int, i = (T : Int) → True) := Lib.hid (fun _ _ => trivial)
      clear hkt
      have HWT := Lib.hid hwt
      have hwv := hwt
      simp only [waWant] at hwv
      have hsl : (seen.length : Int) ≤ 3 := by omega
      by_cases hff : first ≥ 0
      · have hfd : decide (first ≥ 0) = true := by simp [hff]
        rw [if_pos hff] at hwv
        go_upto_block 2 with fail
        rename World => wq
        go_wp2_with fail
        go_loopw [13, 14] (fun vl i wy => ∃ (n : Nat) (cs' : List Int) (log : List Rs) (vm' : Value), n ≤ T + 1 ∧ i = .int .i64 (n : Int) ∧ log.length = n ∧ wy.ownsRow wq.heap.size 58 2 vl n (log.flatMap Rs.cells) ∧ Keep (· = w3.heap.size) wq wy ∧
          wy.heap[w3.heap.size]? = some (.cells #[vm'] 53 (0, 0)) ∧ IntsR wy vm' cs' ∧ Typed wy vm' ∧ cs'.length ≤ 1048576 ∧ waGo seen first T (T + 1 - n) n cs' log = true) (fun _ i _ => T + 1 - (intOf i).toNat)
        case atStart => exact ⟨0, cs, [], .slice (some ⟨vb, 0, none⟩) 28 28, Nat.zero_le _, rfl, rfl, World.ownsRow_nil _ _ _ _, Keep.refl _ _, Lr7.out, HIV.out, HTV.out, by omega, HGO.out⟩
        case round =>
          obtain ⟨n, cs', log, vm', hn, rfl, hln, how, hK, h7, hI, hT, hl, hg⟩ := hrel
          obtain ⟨Av, cv, rfl, -⟩ := hI.out
          obtain ⟨Ag, cg, rfl, -⟩ := owns_shape how
          have hnT : n ≤ T := by
            rcases Nat.lt_or_ge T n with h | h
            · rw [show T + 1 - n = 0 by omega, waGo] at hg; simp at hg
            · exact h
          have hfu : T + 1 - n = (T + 1 - (n + 1)) + 1 := by omega
          rw [hfu, waGo] at hg
          have HG2 := Lib.hid hg
          have HO2 := Lib.hid how
          have HK2 := Lib.hid hK
          have HI2 := Lib.hid hI
          have HT2 := Lib.hid hT
          have L7 := Lib.hid h7
          have L6y := Lib.hid ((hK.block _ (lt_of_heap Lr6.out) (fun e => n76 e.symm)).trans Lr6.out)
          have hds : decide ((n : Int) ≤ (T : Int)) = true := by simp; omega
          obtain ⟨hsl2, hst2⟩ := HSS.out.keepT HST.out hK (by
            rintro b' rfl _ c' fr e
            rw [Lr7.out] at e; simp at e)
          have HS2 := Lib.hid hsl2
          have HLG := Lib.hid (SlR.of_owns (enc := Rs.cells) (xs := log) (hln.symm ▸ how) (fun _ => rfl) (by omega))
          have HLN := Lib.hid hln
          have c6 := cell_of_heap L6y.out
          have s6 := lt_of_heap L6y.out
          have zy := hK.size
          clear hg how hK hI hT h7 hsl2 hst2 hfu hln
          go_wp2_with fail
          refine (wait_Next lay3 2 ⟨5, 0, 0, 0, 0, 0, 0, .slice Al seen.length cl, .slice none 0 0, .slice none 0 0⟩ (.slice Ag n cg) log _ (HLN.out ▸ HLG.out) seen HS2.out ⟨_, _, _, rfl⟩ ⟨_, _, _, rfl⟩).mono ?_
          rintro e w5 ⟨rfl, hb5⟩
          obtain ⟨P, hP⟩ : ∃ P, P = stepOf (waitP lay3 2 5 seen) log := ⟨_, rfl⟩
          have hg2 := HG2.out
          rw [← hP] at hg2 ⊢
          obtain ⟨⟨p1, p2, p3, p4, p5⟩, o, d⟩ := P
          have HB5 := Lib.hid hb5
          replace L7 := Lib.hid (blk_keep hb5 (lt_of_heap L7.out) L7.out)
          replace L6y := Lib.hid (blk_keep hb5 (lt_of_heap L6y.out) L6y.out)
          replace HI2 := Lib.hid (HI2.out.below hb5)
          replace HT2 := Lib.hid (HT2.out.below hb5)
          replace HO2 := Lib.hid (owns_below HO2.out hb5)
          replace HS2 := Lib.hid (HS2.out.below hb5)
          replace HK2 := Lib.hid (HK2.out.trans (Keep.of_below hb5))
          replace c6 := cell_of_heap L6y.out
          replace s6 := lt_of_heap L6y.out
          have c7 := cell_of_heap L7.out
          have f7 := frz_of_heap L7.out
          have s7 := lt_of_heap L7.out
          have z5 := HK2.out.size
          clear hb5 hP
          cases d
          · simp only [Bool.false_eq_true, if_false] at hg2
            have HG3 := Lib.hid hg2
            clear hg2
            go_wp2_with fail
            generalize hWz : World.alloc _ _ = W6
            have hb6 : Below w5.heap.size w5 W6 := by subst hWz; exact blw_alloc (blw_alloc (Below.refl _ _) _) _
            clear hWz
            refine (ref02_Do cs' ⟨p1, p2, p3, p4, p5⟩ _ _ (HI2.out.below hb6) hl).mono ?_
            rintro e w8 ⟨vm8, rfl, hI8, hb8, hT8, -⟩
            obtain ⟨A8, c8, rfl, -⟩ := hI8.out
            have hg3 := HG3.out
            have hl8 := memDo_length cs' ⟨p1, p2, p3, p4, p5⟩
            obtain ⟨R, hR⟩ : ∃ R, R = memDo cs' ⟨p1, p2, p3, p4, p5⟩ := ⟨_, rfl⟩
            rw [← hR] at hg3 hI8 hT8 hl8 ⊢
            obtain ⟨cs8, ⟨rv, rk⟩, er⟩ := R
            simp only at hg3 hI8 hT8 hl8
            have her : er = 0 := by
              by_cases h : er = 0
              · exact h
              · rw [if_neg h] at hg3; simp at hg3
            subst her
            rw [if_pos rfl] at hg3
            have HG4 := Lib.hid hg3
            have HB8 := Lib.hid (blw_then hb6 hb8)
            have HI8 := Lib.hid hI8
            have HT8 := Lib.hid (hT8 (HT2.out.below hb6))
            replace L7 := Lib.hid (blk_keep HB8.out (lt_of_heap L7.out) L7.out)
            replace L6y := Lib.hid (blk_keep HB8.out (lt_of_heap L6y.out) L6y.out)
            replace HO2 := Lib.hid (owns_below HO2.out HB8.out)
            replace c6 := cell_of_heap L6y.out
            replace s6 := lt_of_heap L6y.out
            replace c7 := cell_of_heap L7.out
            replace f7 := frz_of_heap L7.out
            replace s7 := lt_of_heap L7.out
            replace HK2 := Lib.hid (HK2.out.trans (Keep.of_below HB8.out))
            have z8 := HK2.out.size
            clear hb6 hb8 hI8 hT8 hg3 hR HG3
            go_upto_region 32 with fail
            obtain ⟨j0, hj0, jz0, jz1, jz2⟩ := info_parts info_rs
            go_wp2_with (at_builtin; refine wpList_append_own _ rfl (.tmp 153) (.tmp 155) 33 rfl wq.heap.size 58 j0 (.agg #[.int .i64 0, .bool false]) 2 16 Try.underlying33 hj0 jz0 jz1 jz2 rfl (by decide) (.slice Ag n cg) n (log.flatMap Rs.cells) rfl ?ownZ ⟨_, 0, none⟩ 1 1 [.int .i64 rv, .bool rk] rfl rfl ?c1Z ?c2Z ?c3Z ?c4Z ?c5Z ?ccZ)
            case ownZ =>
              have hO9 := owns_set (b := w3.heap.size) (o := 0) (x := .slice A8 cs'.length c8) HO2.out (lt_of_heap Lr7.out)
              with_reducible repeat (first | exact hO9 | refine World.ownsRow.alloc ?_ _)
            try case c1Z =>
              intro j u hj
              rw [adr0, cell_of_heap (ha_new _ _ _ (by first | rfl | (simp only [World.size_alloc]; done) | simp only [World.size_alloc, World.size_setCell]))]
              simpa using hj
            case c2Z => first | rfl | exact ⟨rfl, rfl⟩ | (intro u hu; simp at hu; rcases hu with rfl | rfl <;> rfl)
            case c3Z => simp only [maxLen]; omega
            case c4Z => omega
            case c5Z => first | omega | (simp only [World.size_alloc, World.size_setCell]; omega)
            intro v9 w9 hown9 hgrow9 hnil9
            have H9 := Lib.hid hown9
            have G9 := Lib.hid hgrow9
            clear hown9 hgrow9 hnil9
            go_wp2_with fail
            go_roundw
            case rel =>
              have hnb : ∀ b', (Value.slice Ag n cg).ownBlock = some b' → wq.heap.size ≤ b' := fun b' hb' => (HO2.out.lt b' hb').1
              have hkz : Keep (fun b => b = w3.heap.size ∨ (Value.slice Ag n cg).ownBlock = some b) w8 w9 := Keep.grown (by with_reducible repeat (first | refine Keep.setCell ?_ _ (.inr (.inl rfl)) | refine Keep.alloc ?_ _ | exact Keep.refl _ _)) G9.out (fun b' hb' => .inr (.inr hb'))
              have hI9 := HI8.out
              have hT9 := HT8.out
              have hl8' : cs8.length = cs'.length := hl8
              rw [hl8'] at hI9 hT9
              obtain ⟨g1, g2⟩ := ints_keep hI9 hT9 hkz (by
                rintro b (rfl | hb) _ c' fr e
                · rw [L7.out] at e; simp at e
                · obtain ⟨c', hc'⟩ := owns_type HO2.out hb
                  rw [hc'] at e
                  simp at e)
              refine ⟨n + 1, cs8, log ++ [⟨rv, rk⟩], .slice A8 cs'.length c8, by omega, by go_num, by rw [List.length_append, HLN.out]; rfl, ?_, ?_, ?_, g1, g2, by omega, HG4.out⟩
              · rw [List.flatMap_append]; exact H9.out
              · refine Keep.grown ?_ G9.out (fun b' hb' => .inl (hnb b' hb'))
                with_reducible repeat (first | exact HK2.out | refine Keep.setCell ?_ _ (.inr rfl) | refine Keep.alloc ?_ _)
              · have hs8 : (w8.setCell ⟨w3.heap.size, 0, none⟩ (.slice A8 cs'.length c8)).heap[w3.heap.size]? = some (.cells #[.slice A8 cs'.length c8] 53 (0, 0)) := by
                  rw [hs_same, L7.out]
                  rfl
                exact grown_blkA G9.out (blk_keep (show Below (w8.setCell ⟨w3.heap.size, 0, none⟩ (.slice A8 cs'.length c8)).heap.size (w8.setCell ⟨w3.heap.size, 0, none⟩ (.slice A8 cs'.length c8)) _ by with_reducible repeat (first | exact Below.refl _ _ | refine blw_alloc ?_ _ | refine blw_drew ?_)) (lt_of_heap hs8) hs8) (fun e => by have := hnb _ e; have := lt_of_heap Lr7.out; omega)
            case measure => simp [intOf]; omega
          · simp only [if_true, Bool.and_eq_true, decide_eq_true_eq] at hg2
            have HG3 := Lib.hid hg2
            clear hg2
            go_wp2_with fail
            generalize hWz : World.alloc _ _ = W6
            have b_q15 := congrArg (fun u : World => u.heap[w5.heap.size]?) hWz
            try simp only [] at b_q15
            repeat (first | rw [hd_drew] at b_q15 | rw [hd_drewN] at b_q15 | rw [hs_ne _ _ _ _ _ (by omega)] at b_q15 | rw [ha_lt _ _ _ (by first | omega | (simp only [World.size_alloc, World.size_setCell, World.size_drew]; omega))] at b_q15 | rw [hs_same] at b_q15)
            rw [ha_new _ _ _ (by first | rfl | simp only [World.size_alloc, World.size_setCell, World.size_drew])] at b_q15
            try simp only [Option.map_some, putO, List.setIfInBounds_toArray, List.set_cons_zero, List.set_cons_succ] at b_q15
            have Lq15 := Lib.hid b_q15.symm
            clear b_q15
            have b_q16 := congrArg (fun u : World => u.heap[w5.heap.size + 1]?) hWz
            try simp only [] at b_q16
            repeat (first | rw [hd_drew] at b_q16 | rw [hd_drewN] at b_q16 | rw [hs_ne _ _ _ _ _ (by omega)] at b_q16 | rw [ha_lt _ _ _ (by first | omega | (simp only [World.size_alloc, World.size_setCell, World.size_drew]; omega))] at b_q16 | rw [hs_same] at b_q16)
            rw [ha_new _ _ _ (by first | rfl | simp only [World.size_alloc, World.size_setCell, World.size_drew])] at b_q16
            try simp only [Option.map_some, putO, List.setIfInBounds_toArray, List.set_cons_zero, List.set_cons_succ] at b_q16
            have Lq16 := Lib.hid b_q16.symm
            clear b_q16
            have cq15 := cell_of_heap Lq15.out
            have fq15 := frz_of_heap Lq15.out
            have sq15 := lt_of_heap Lq15.out
            have cq16 := cell_of_heap Lq16.out
            have fq16 := frz_of_heap Lq16.out
            have sq16 := lt_of_heap Lq16.out
            have hb6 : Below w5.heap.size w5 W6 := by subst hWz; exact blw_alloc (blw_alloc (Below.refl _ _) _) _
            clear hWz cq15 fq15 sq15
            refine (wait_Next lay3 2 ⟨6, 0, 0, 0, 0, 0, 0, .slice Al seen.length cl, .slice none 0 0, .slice none 0 0⟩ (.slice none 0 0) [] _ (SlR.nil _ _ _) seen (HS2.out.below hb6) ⟨_, _, _, rfl⟩ ⟨_, _, _, rfl⟩).mono ?_
            rintro e w7 ⟨rfl, hb7⟩
            obtain ⟨P2, hP2⟩ : ∃ P, P = stepOf (waitP lay3 2 6 seen) [] := ⟨_, rfl⟩
            have hg3 := HG3.out
            rw [← hP2] at hg3 ⊢
            obtain ⟨⟨e1, e2, e3, e4, e5⟩, o2, d2⟩ := P2
            have HB7 := Lib.hid (blw_then hb6 hb7)
            replace Lq16 := Lib.hid ((hb7.block _ (lt_of_heap Lq16.out)).trans Lq16.out)
            replace cq16 := cell_of_heap Lq16.out
            replace fq16 := frz_of_heap Lq16.out
            replace sq16 := lt_of_heap Lq16.out
            replace L6y := Lib.hid (blk_keep HB7.out (lt_of_heap L6y.out) L6y.out)
            replace HS2 := Lib.hid (HS2.out.below HB7.out)
            replace c6 := cell_of_heap L6y.out
            replace s6 := lt_of_heap L6y.out
            have HG4 := Lib.hid hg3
            clear hb6 hb7 hP2 hg3 HG3
            go_wp2_with fail
            generalize hWz : World.alloc _ _ = W8
            have b_q18 := congrArg (fun u : World => u.heap[w7.heap.size]?) hWz
            try simp only [] at b_q18
            repeat (first | rw [hd_drew] at b_q18 | rw [hd_drewN] at b_q18 | rw [hs_ne _ _ _ _ _ (by omega)] at b_q18 | rw [ha_lt _ _ _ (by first | omega | (simp only [World.size_alloc, World.size_setCell, World.size_drew]; omega))] at b_q18 | rw [hs_same] at b_q18)
            rw [ha_new _ _ _ (by first | rfl | simp only [World.size_alloc, World.size_setCell, World.size_drew])] at b_q18
            try simp only [Option.map_some, putO, List.setIfInBounds_toArray, List.set_cons_zero, List.set_cons_succ] at b_q18
            have Lq18 := Lib.hid b_q18.symm
            clear b_q18
            have b_q19 := congrArg (fun u : World => u.heap[w7.heap.size + 1]?) hWz
            try simp only [] at b_q19
            repeat (first | rw [hd_drew] at b_q19 | rw [hd_drewN] at b_q19 | rw [hs_ne _ _ _ _ _ (by omega)] at b_q19 | rw [ha_lt _ _ _ (by first | omega | (simp only [World.size_alloc, World.size_setCell, World.size_drew]; omega))] at b_q19 | rw [hs_same] at b_q19)
            rw [ha_new _ _ _ (by first | rfl | simp only [World.size_alloc, World.size_setCell, World.size_drew])] at b_q19
            try simp only [Option.map_some, putO, List.setIfInBounds_toArray, List.set_cons_zero, List.set_cons_succ] at b_q19
            have Lq19 := Lib.hid b_q19.symm
            clear b_q19
            have b_q20 := congrArg (fun u : World => u.heap[w7.heap.size + 1 + 1]?) hWz
            try simp only [] at b_q20
            repeat (first | rw [hd_drew] at b_q20 | rw [hd_drewN] at b_q20 | rw [hs_ne _ _ _ _ _ (by omega)] at b_q20 | rw [ha_lt _ _ _ (by first | omega | (simp only [World.size_alloc, World.size_setCell, World.size_drew]; omega))] at b_q20 | rw [hs_same] at b_q20)
            rw [ha_new _ _ _ (by first | rfl | simp only [World.size_alloc, World.size_setCell, World.size_drew])] at b_q20
            try simp only [Option.map_some, putO, List.setIfInBounds_toArray, List.set_cons_zero, List.set_cons_succ] at b_q20
            have Lq20 := Lib.hid b_q20.symm
            clear b_q20
            have cq18 := cell_of_heap Lq18.out
            have fq18 := frz_of_heap Lq18.out
            have sq18 := lt_of_heap Lq18.out
            have cq19 := cell_of_heap Lq19.out
            have fq19 := frz_of_heap Lq19.out
            have sq19 := lt_of_heap Lq19.out
            have cq20 := cell_of_heap Lq20.out
            have fq20 := frz_of_heap Lq20.out
            have sq20 := lt_of_heap Lq20.out
            have hb8 : Below w7.heap.size w7 W8 := by subst hWz; exact blw_alloc (blw_alloc (blw_alloc (Below.refl _ _) _) _) _
            clear hWz cq18 fq18 sq18 cq19 fq19 sq19 cq20 fq20 sq20
            refine (wait_Next lay3 2 ⟨6, 0, 0, 0, 0, 0, 0, .slice Al seen.length cl, .slice none 0 0, .slice none 0 0⟩ (.slice (some ⟨w7.heap.size + 1 + 1, 0, none⟩) 1 1) [⟨0, true⟩] _ (rs_one Lq20.out) seen (HS2.out.below hb8) ⟨_, _, _, rfl⟩ ⟨_, _, _, rfl⟩).mono ?_
            rintro e w9 ⟨rfl, hb9⟩
            obtain ⟨P3, hP3⟩ : ∃ P, P = stepOf (waitP lay3 2 6 seen) [⟨0, true⟩] := ⟨_, rfl⟩
            have hg3 := HG4.out
            rw [← hP3] at hg3 ⊢
            obtain ⟨⟨f1, f2, f3, f4, f5⟩, o3, d3⟩ := P3
            obtain ⟨⟨⟨⟨g1, g2⟩, g3⟩, g4⟩, g5⟩ := hg3
            simp only at g1 g2 g3 g4 g5
            subst g2 g4 g5
            obtain rfl : d2 = false := by simpa using g3
            have HB9 := Lib.hid (blw_then hb8 hb9)
            replace Lq16 := Lib.hid ((HB9.out.block _ (lt_of_heap Lq16.out)).trans Lq16.out)
            replace cq16 := cell_of_heap Lq16.out
            replace fq16 := frz_of_heap Lq16.out
            replace sq16 := lt_of_heap Lq16.out
            have sq15 : w5.heap.size < w9.heap.size := by omega
            have hfin : Below w.heap.size w w9 := Keep.toBelow (X := fun i => w.heap.size ≤ i) ((Keep.of_below HBW.out).trans ((HK.out.mono fun i _ hi => by have h1 := HB2.out.size; have h2 := lt_of_heap Lq6.out; omega).trans ((HK2.out.mono fun i _ hi => by have h2 := HB3.out.size; omega).trans ((Keep.of_below HB7.out).trans (Keep.of_below HB9.out))))) (fun i hi => by omega)
            have HFIN := Lib.hid hfin
            have hnT2 : n = T := by omega
            have hnt : ((n : Int) == (T : Int)) = true := by simp [g1]
            have hnt2 : (n == T) = true := by simp [hnT2]
            have hnt3 : ((T : Int) == (T : Int)) = true := by simp
            have q1 := eql_ou ⟨0, 0, 0, 0, decide (first < 0), false, 0⟩ ⟨0, 0, 0, 0, decide (first < 0), false, 0⟩
            have q2 := eql_ou Ou.zero Ou.zero
            simp only [Ou.zero, decide_true] at q1 q2
            clear hb8 hb9 hP3 hfin HG4 g1 g3
            go_wp2_with fail
            exact bodyPost_ret (v := .bool true) (by simp [results, go_sem]) rfl ⟨rfl, blw_alloc (blw_alloc HFIN.out _) _⟩
      · have hfd : decide (first ≥ 0) = false := by simp [hff]
        rw [if_neg hff] at hwv
        go_upto_block 2 with fail
        rename World => wq
        go_wp2_with fail
        go_loopw [13, 14] (fun vl i wy => ∃ (n : Nat) (cs' : List Int) (log : List Rs) (vm' : Value), n ≤ T + 1 ∧ i = .int .i64 (n : Int) ∧ log.length = n ∧ wy.ownsRow wq.heap.size 58 2 vl n (log.flatMap Rs.cells) ∧ Keep (· = w3.heap.size) wq wy ∧
          wy.heap[w3.heap.size]? = some (.cells #[vm'] 53 (0, 0)) ∧ IntsR wy vm' cs' ∧ Typed wy vm' ∧ cs'.length ≤ 1048576 ∧ waGo seen first T (T + 1 - n) n cs' log = true) (fun _ i _ => T + 1 - (intOf i).toNat)
        case atStart => exact ⟨0, cs, [], .slice (some ⟨vb, 0, none⟩) 28 28, Nat.zero_le _, rfl, rfl, World.ownsRow_nil _ _ _ _, Keep.refl _ _, Lr7.out, HIV.out, HTV.out, by omega, HGO.out⟩
        case round =>
          obtain ⟨n, cs', log, vm', hn, rfl, hln, how, hK, h7, hI, hT, hl, hg⟩ := hrel
          obtain ⟨Av, cv, rfl, -⟩ := hI.out
          obtain ⟨Ag, cg, rfl, -⟩ := owns_shape how
          have hnT : n ≤ T := by
            rcases Nat.lt_or_ge T n with h | h
            · rw [show T + 1 - n = 0 by omega, waGo] at hg; simp at hg
            · exact h
          have hfu : T + 1 - n = (T + 1 - (n + 1)) + 1 := by omega
          rw [hfu, waGo] at hg
          have HG2 := Lib.hid hg
          have HO2 := Lib.hid how
          have HK2 := Lib.hid hK
          have HI2 := Lib.hid hI
          have HT2 := Lib.hid hT
          have L7 := Lib.hid h7
          have L6y := Lib.hid ((hK.block _ (lt_of_heap Lr6.out) (fun e => n76 e.symm)).trans Lr6.out)
          have hds : decide ((n : Int) ≤ (T : Int)) = true := by simp; omega
          obtain ⟨hsl2, hst2⟩ := HSS.out.keepT HST.out hK (by
            rintro b' rfl _ c' fr e
            rw [Lr7.out] at e; simp at e)
          have HS2 := Lib.hid hsl2
          have HLG := Lib.hid (SlR.of_owns (enc := Rs.cells) (xs := log) (hln.symm ▸ how) (fun _ => rfl) (by omega))
          have HLN := Lib.hid hln
          have c6 := cell_of_heap L6y.out
          have s6 := lt_of_heap L6y.out
          have zy := hK.size
          clear hg how hK hI hT h7 hsl2 hst2 hfu hln
          go_wp2_with fail
          refine (wait_Next lay3 2 ⟨5, 0, 0, 0, 0, 0, 0, .slice Al seen.length cl, .slice none 0 0, .slice none 0 0⟩ (.slice Ag n cg) log _ (HLN.out ▸ HLG.out) seen HS2.out ⟨_, _, _, rfl⟩ ⟨_, _, _, rfl⟩).mono ?_
          rintro e w5 ⟨rfl, hb5⟩
          obtain ⟨P, hP⟩ : ∃ P, P = stepOf (waitP lay3 2 5 seen) log := ⟨_, rfl⟩
          have hg2 := HG2.out
          rw [← hP] at hg2 ⊢
          obtain ⟨⟨p1, p2, p3, p4, p5⟩, o, d⟩ := P
          have HB5 := Lib.hid hb5
          replace L7 := Lib.hid (blk_keep hb5 (lt_of_heap L7.out) L7.out)
          replace L6y := Lib.hid (blk_keep hb5 (lt_of_heap L6y.out) L6y.out)
          replace HI2 := Lib.hid (HI2.out.below hb5)
          replace HT2 := Lib.hid (HT2.out.below hb5)
          replace HO2 := Lib.hid (owns_below HO2.out hb5)
          replace HS2 := Lib.hid (HS2.out.below hb5)
          replace HK2 := Lib.hid (HK2.out.trans (Keep.of_below hb5))
          replace c6 := cell_of_heap L6y.out
          replace s6 := lt_of_heap L6y.out
          have c7 := cell_of_heap L7.out
          have f7 := frz_of_heap L7.out
          have s7 := lt_of_heap L7.out
          have z5 := HK2.out.size
          clear hb5 hP
          cases d
          · simp only [Bool.false_eq_true, if_false] at hg2
            have HG3 := Lib.hid hg2
            clear hg2
            go_wp2_with fail
            generalize hWz : World.alloc _ _ = W6
            have hb6 : Below w5.heap.size w5 W6 := by subst hWz; exact blw_alloc (blw_alloc (Below.refl _ _) _) _
            clear hWz
            refine (ref02_Do cs' ⟨p1, p2, p3, p4, p5⟩ _ _ (HI2.out.below hb6) hl).mono ?_
            rintro e w8 ⟨vm8, rfl, hI8, hb8, hT8, -⟩
            obtain ⟨A8, c8, rfl, -⟩ := hI8.out
            have hg3 := HG3.out
            have hl8 := memDo_length cs' ⟨p1, p2, p3, p4, p5⟩
            obtain ⟨R, hR⟩ : ∃ R, R = memDo cs' ⟨p1, p2, p3, p4, p5⟩ := ⟨_, rfl⟩
            rw [← hR] at hg3 hI8 hT8 hl8 ⊢
            obtain ⟨cs8, ⟨rv, rk⟩, er⟩ := R
            simp only at hg3 hI8 hT8 hl8
            have her : er = 0 := by
              by_cases h : er = 0
              · exact h
              · rw [if_neg h] at hg3; simp at hg3
            subst her
            rw [if_pos rfl] at hg3
            have HG4 := Lib.hid hg3
            have HB8 := Lib.hid (blw_then hb6 hb8)
            have HI8 := Lib.hid hI8
            have HT8 := Lib.hid (hT8 (HT2.out.below hb6))
            replace L7 := Lib.hid (blk_keep HB8.out (lt_of_heap L7.out) L7.out)
            replace L6y := Lib.hid (blk_keep HB8.out (lt_of_heap L6y.out) L6y.out)
            replace HO2 := Lib.hid (owns_below HO2.out HB8.out)
            replace c6 := cell_of_heap L6y.out
            replace s6 := lt_of_heap L6y.out
            replace c7 := cell_of_heap L7.out
            replace f7 := frz_of_heap L7.out
            replace s7 := lt_of_heap L7.out
            replace HK2 := Lib.hid (HK2.out.trans (Keep.of_below HB8.out))
            have z8 := HK2.out.size
            clear hb6 hb8 hI8 hT8 hg3 hR HG3
            go_upto_region 32 with fail
            obtain ⟨j0, hj0, jz0, jz1, jz2⟩ := info_parts info_rs
            go_wp2_with (at_builtin; refine wpList_append_own _ rfl (.tmp 153) (.tmp 155) 33 rfl wq.heap.size 58 j0 (.agg #[.int .i64 0, .bool false]) 2 16 Try.underlying33 hj0 jz0 jz1 jz2 rfl (by decide) (.slice Ag n cg) n (log.flatMap Rs.cells) rfl ?ownY ⟨_, 0, none⟩ 1 1 [.int .i64 rv, .bool rk] rfl rfl ?c1Y ?c2Y ?c3Y ?c4Y ?c5Y ?ccY)
            case ownY =>
              have hO9 := owns_set (b := w3.heap.size) (o := 0) (x := .slice A8 cs'.length c8) HO2.out (lt_of_heap Lr7.out)
              with_reducible repeat (first | exact hO9 | refine World.ownsRow.alloc ?_ _)
            try case c1Y =>
              intro j u hj
              rw [adr0, cell_of_heap (ha_new _ _ _ (by first | rfl | (simp only [World.size_alloc]; done) | simp only [World.size_alloc, World.size_setCell]))]
              simpa using hj
            case c2Y => first | rfl | exact ⟨rfl, rfl⟩ | (intro u hu; simp at hu; rcases hu with rfl | rfl <;> rfl)
            case c3Y => simp only [maxLen]; omega
            case c4Y => omega
            case c5Y => first | omega | (simp only [World.size_alloc, World.size_setCell]; omega)
            intro v9 w9 hown9 hgrow9 hnil9
            have H9 := Lib.hid hown9
            have G9 := Lib.hid hgrow9
            clear hown9 hgrow9 hnil9
            go_wp2_with fail
            go_roundw
            case rel =>
              have hnb : ∀ b', (Value.slice Ag n cg).ownBlock = some b' → wq.heap.size ≤ b' := fun b' hb' => (HO2.out.lt b' hb').1
              have hkz : Keep (fun b => b = w3.heap.size ∨ (Value.slice Ag n cg).ownBlock = some b) w8 w9 := Keep.grown (by with_reducible repeat (first | refine Keep.setCell ?_ _ (.inr (.inl rfl)) | refine Keep.alloc ?_ _ | exact Keep.refl _ _)) G9.out (fun b' hb' => .inr (.inr hb'))
              have hI9 := HI8.out
              have hT9 := HT8.out
              have hl8' : cs8.length = cs'.length := hl8
              rw [hl8'] at hI9 hT9
              obtain ⟨g1, g2⟩ := ints_keep hI9 hT9 hkz (by
                rintro b (rfl | hb) _ c' fr e
                · rw [L7.out] at e; simp at e
                · obtain ⟨c', hc'⟩ := owns_type HO2.out hb
                  rw [hc'] at e
                  simp at e)
              refine ⟨n + 1, cs8, log ++ [⟨rv, rk⟩], .slice A8 cs'.length c8, by omega, by go_num, by rw [List.length_append, HLN.out]; rfl, ?_, ?_, ?_, g1, g2, by omega, HG4.out⟩
              · rw [List.flatMap_append]; exact H9.out
              · refine Keep.grown ?_ G9.out (fun b' hb' => .inl (hnb b' hb'))
                with_reducible repeat (first | exact HK2.out | refine Keep.setCell ?_ _ (.inr rfl) | refine Keep.alloc ?_ _)
              · have hs8 : (w8.setCell ⟨w3.heap.size, 0, none⟩ (.slice A8 cs'.length c8)).heap[w3.heap.size]? = some (.cells #[.slice A8 cs'.length c8] 53 (0, 0)) := by
                  rw [hs_same, L7.out]
                  rfl
                exact grown_blkA G9.out (blk_keep (show Below (w8.setCell ⟨w3.heap.size, 0, none⟩ (.slice A8 cs'.length c8)).heap.size (w8.setCell ⟨w3.heap.size, 0, none⟩ (.slice A8 cs'.length c8)) _ by with_reducible repeat (first | exact Below.refl _ _ | refine blw_alloc ?_ _ | refine blw_drew ?_)) (lt_of_heap hs8) hs8) (fun e => by have := hnb _ e; have := lt_of_heap Lr7.out; omega)
            case measure => simp [intOf]; omega
          · simp only [if_true, Bool.and_eq_true, decide_eq_true_eq] at hg2
            have HG3 := Lib.hid hg2
            clear hg2
            go_wp2_with fail
            generalize hWz : World.alloc _ _ = W6
            have b_q15 := congrArg (fun u : World => u.heap[w5.heap.size]?) hWz
            try simp only [] at b_q15
            repeat (first | rw [hd_drew] at b_q15 | rw [hd_drewN] at b_q15 | rw [hs_ne _ _ _ _ _ (by omega)] at b_q15 | rw [ha_lt _ _ _ (by first | omega | (simp only [World.size_alloc, World.size_setCell, World.size_drew]; omega))] at b_q15 | rw [hs_same] at b_q15)
            rw [ha_new _ _ _ (by first | rfl | simp only [World.size_alloc, World.size_setCell, World.size_drew])] at b_q15
            try simp only [Option.map_some, putO, List.setIfInBounds_toArray, List.set_cons_zero, List.set_cons_succ] at b_q15
            have Lq15 := Lib.hid b_q15.symm
            clear b_q15
            have b_q16 := congrArg (fun u : World => u.heap[w5.heap.size + 1]?) hWz
            try simp only [] at b_q16
            repeat (first | rw [hd_drew] at b_q16 | rw [hd_drewN] at b_q16 | rw [hs_ne _ _ _ _ _ (by omega)] at b_q16 | rw [ha_lt _ _ _ (by first | omega | (simp only [World.size_alloc, World.size_setCell, World.size_drew]; omega))] at b_q16 | rw [hs_same] at b_q16)
            rw [ha_new _ _ _ (by first | rfl | simp only [World.size_alloc, World.size_setCell, World.size_drew])] at b_q16
            try simp only [Option.map_some, putO, List.setIfInBounds_toArray, List.set_cons_zero, List.set_cons_succ] at b_q16
            have Lq16 := Lib.hid b_q16.symm
            clear b_q16
            have cq15 := cell_of_heap Lq15.out
            have fq15 := frz_of_heap Lq15.out
            have sq15 := lt_of_heap Lq15.out
            have cq16 := cell_of_heap Lq16.out
            have fq16 := frz_of_heap Lq16.out
            have sq16 := lt_of_heap Lq16.out
            have hb6 : Below w5.heap.size w5 W6 := by subst hWz; exact blw_alloc (blw_alloc (Below.refl _ _) _) _
            clear hWz cq15 fq15 sq15
            refine (wait_Next lay3 2 ⟨6, 0, 0, 0, 0, 0, 0, .slice Al seen.length cl, .slice none 0 0, .slice none 0 0⟩ (.slice none 0 0) [] _ (SlR.nil _ _ _) seen (HS2.out.below hb6) ⟨_, _, _, rfl⟩ ⟨_, _, _, rfl⟩).mono ?_
            rintro e w7 ⟨rfl, hb7⟩
            obtain ⟨P2, hP2⟩ : ∃ P, P = stepOf (waitP lay3 2 6 seen) [] := ⟨_, rfl⟩
            have hg3 := HG3.out
            rw [← hP2] at hg3 ⊢
            obtain ⟨⟨e1, e2, e3, e4, e5⟩, o2, d2⟩ := P2
            have HB7 := Lib.hid (blw_then hb6 hb7)
            replace Lq16 := Lib.hid ((hb7.block _ (lt_of_heap Lq16.out)).trans Lq16.out)
            replace cq16 := cell_of_heap Lq16.out
            replace fq16 := frz_of_heap Lq16.out
            replace sq16 := lt_of_heap Lq16.out
            replace L6y := Lib.hid (blk_keep HB7.out (lt_of_heap L6y.out) L6y.out)
            replace HS2 := Lib.hid (HS2.out.below HB7.out)
            replace c6 := cell_of_heap L6y.out
            replace s6 := lt_of_heap L6y.out
            have HG4 := Lib.hid hg3
            clear hb6 hb7 hP2 hg3 HG3
            go_wp2_with fail
            generalize hWz : World.alloc _ _ = W8
            have b_q18 := congrArg (fun u : World => u.heap[w7.heap.size]?) hWz
            try simp only [] at b_q18
            repeat (first | rw [hd_drew] at b_q18 | rw [hd_drewN] at b_q18 | rw [hs_ne _ _ _ _ _ (by omega)] at b_q18 | rw [ha_lt _ _ _ (by first | omega | (simp only [World.size_alloc, World.size_setCell, World.size_drew]; omega))] at b_q18 | rw [hs_same] at b_q18)
            rw [ha_new _ _ _ (by first | rfl | simp only [World.size_alloc, World.size_setCell, World.size_drew])] at b_q18
            try simp only [Option.map_some, putO, List.setIfInBounds_toArray, List.set_cons_zero, List.set_cons_succ] at b_q18
            have Lq18 := Lib.hid b_q18.symm
            clear b_q18
            have b_q19 := congrArg (fun u : World => u.heap[w7.heap.size + 1]?) hWz
            try simp only [] at b_q19
            repeat (first | rw [hd_drew] at b_q19 | rw [hd_drewN] at b_q19 | rw [hs_ne _ _ _ _ _ (by omega)] at b_q19 | rw [ha_lt _ _ _ (by first | omega | (simp only [World.size_alloc, World.size_setCell, World.size_drew]; omega))] at b_q19 | rw [hs_same] at b_q19)
            rw [ha_new _ _ _ (by first | rfl | simp only [World.size_alloc, World.size_setCell, World.size_drew])] at b_q19
            try simp only [Option.map_some, putO, List.setIfInBounds_toArray, List.set_cons_zero, List.set_cons_succ] at b_q19
            have Lq19 := Lib.hid b_q19.symm
            clear b_q19
            have b_q20 := congrArg (fun u : World => u.heap[w7.heap.size + 1 + 1]?) hWz
            try simp only [] at b_q20
            repeat (first | rw [hd_drew] at b_q20 | rw [hd_drewN] at b_q20 | rw [hs_ne _ _ _ _ _ (by omega)] at b_q20 | rw [ha_lt _ _ _ (by first | omega | (simp only [World.size_alloc, World.size_setCell, World.size_drew]; omega))] at b_q20 | rw [hs_same] at b_q20)
            rw [ha_new _ _ _ (by first | rfl | simp only [World.size_alloc, World.size_setCell, World.size_drew])] at b_q20
            try simp only [Option.map_some, putO, List.setIfInBounds_toArray, List.set_cons_zero, List.set_cons_succ] at b_q20
            have Lq20 := Lib.hid b_q20.symm
            clear b_q20
            have cq18 := cell_of_heap Lq18.out
            have fq18 := frz_of_heap Lq18.out
            have sq18 := lt_of_heap Lq18.out
            have cq19 := cell_of_heap Lq19.out
            have fq19 := frz_of_heap Lq19.out
            have sq19 := lt_of_heap Lq19.out
            have cq20 := cell_of_heap Lq20.out
            have fq20 := frz_of_heap Lq20.out
            have sq20 := lt_of_heap Lq20.out
            have hb8 : Below w7.heap.size w7 W8 := by subst hWz; exact blw_alloc (blw_alloc (blw_alloc (Below.refl _ _) _) _) _
            clear hWz cq18 fq18 sq18 cq19 fq19 sq19 cq20 fq20 sq20
            refine (wait_Next lay3 2 ⟨6, 0, 0, 0, 0, 0, 0, .slice Al seen.length cl, .slice none 0 0, .slice none 0 0⟩ (.slice (some ⟨w7.heap.size + 1 + 1, 0, none⟩) 1 1) [⟨0, true⟩] _ (rs_one Lq20.out) seen (HS2.out.below hb8) ⟨_, _, _, rfl⟩ ⟨_, _, _, rfl⟩).mono ?_
            rintro e w9 ⟨rfl, hb9⟩
            obtain ⟨P3, hP3⟩ : ∃ P, P = stepOf (waitP lay3 2 6 seen) [⟨0, true⟩] := ⟨_, rfl⟩
            have hg3 := HG4.out
            rw [← hP3] at hg3 ⊢
            obtain ⟨⟨f1, f2, f3, f4, f5⟩, o3, d3⟩ := P3
            obtain ⟨⟨⟨⟨g1, g2⟩, g3⟩, g4⟩, g5⟩ := hg3
            simp only at g1 g2 g3 g4 g5
            subst g2 g4 g5
            obtain rfl : d2 = false := by simpa using g3
            have HB9 := Lib.hid (blw_then hb8 hb9)
            replace Lq16 := Lib.hid ((HB9.out.block _ (lt_of_heap Lq16.out)).trans Lq16.out)
            replace cq16 := cell_of_heap Lq16.out
            replace fq16 := frz_of_heap Lq16.out
            replace sq16 := lt_of_heap Lq16.out
            have sq15 : w5.heap.size < w9.heap.size := by omega
            have hfin : Below w.heap.size w w9 := Keep.toBelow (X := fun i => w.heap.size ≤ i) ((Keep.of_below HBW.out).trans ((HK.out.mono fun i _ hi => by have h1 := HB2.out.size; have h2 := lt_of_heap Lq6.out; omega).trans ((HK2.out.mono fun i _ hi => by have h2 := HB3.out.size; omega).trans ((Keep.of_below HB7.out).trans (Keep.of_below HB9.out))))) (fun i hi => by omega)
            have HFIN := Lib.hid hfin
            have hnT2 : n = T := by omega
            have hnt : ((n : Int) == (T : Int)) = true := by simp [g1]
            have hnt2 : (n == T) = true := by simp [hnT2]
            have hnt3 : ((T : Int) == (T : Int)) = true := by simp
            have q1 := eql_ou ⟨0, 0, 0, 0, decide (first < 0), false, 0⟩ ⟨0, 0, 0, 0, decide (first < 0), false, 0⟩
            have q2 := eql_ou Ou.zero Ou.zero
            simp only [Ou.zero, decide_true] at q1 q2
            clear hb8 hb9 hP3 hfin HG4 g1 g3
            go_wp2_with fail
            exact bodyPost_ret (v := .bool true) (by simp [results, go_sem]) rfl ⟨rfl, blw_alloc (blw_alloc HFIN.out _) _⟩
end Go.Proofs.Ytpfibcbeenogiaa
