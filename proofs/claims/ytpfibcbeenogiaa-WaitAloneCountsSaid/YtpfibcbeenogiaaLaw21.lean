/- hallmootlaw21: where, bits. -/
import Derived.Test.YtpfibcbeenogiaaTab
import Derived.Test.YtpfibcbeenogiaaRefs
import Derived.Test.YtpfibcbeenogiaaTail
import Derived.Test.YtpfibcbeenogiaaAfter
namespace Go.Proofs.Ytpfibcbeenogiaa
open Go.RowKit
set_option linter.unusedSimpArgs false
set_option linter.unusedVariables false
def lay3 : Lay := ⟨3, 3, 0, 0, 0, 0, 1, 2, 3, 4, 16, 16, 28⟩
theorem law_where (w : World) : Calls Try.prog 36 #[] w fun e w' => e = .returned lay3.v ∧ Below w.heap.size w w' := by
  go_enter Try.func36, Try.ntmps36
  go_wp2_with fail
  refine (ref_Of 3 3 0 0 0 _).mono ?_
  rintro e w1 ⟨rfl, hb⟩
  rw [show rOf 3 3 0 0 0 = (lay3, 0) by decide]
  have bx0 := hb.block (w.heap.size) (by simp only [World.size_alloc, World.size_setCell]; omega)
  repeat (first | rw [hs_ne _ _ _ _ _ (by omega)] at bx0 | rw [ha_lt _ _ _ (by simp only [World.size_alloc, World.size_setCell]; omega)] at bx0 | rw [hs_same] at bx0 | rw [hd_drew] at bx0)
  rw [ha_new _ _ _ (by simp only [World.size_alloc, World.size_setCell])] at bx0
  try simp only [Option.map_some, putO, List.setIfInBounds_toArray, List.set_cons_zero, List.set_cons_succ] at bx0
  have Bx0 := Lib.hid bx0
  clear bx0
  have cx0 : ∀ i, w1.cell? ⟨w.heap.size, i, none⟩ = _ := cell_of_heap Bx0.out
  have fx0 : ∀ i, w1.frozen? ⟨w.heap.size, i, none⟩ = false := fun i => by simp [World.frozen?, Bx0.out]
  have Q1 := Lib.hid (blw_then (w := w) (by with_reducible repeat (first | exact Below.refl _ _ | refine blw_alloc ?_ _ | refine blw_drew ?_)) hb)
  have zQ1 := hb.size
  simp only [World.size_alloc, World.size_setCell] at zQ1
  clear hb
  have y0 := lt_of_heap Bx0.out
  go_wp2_with fail
  refine bodyPost_ret (v := lay3.v) (by simp [results, go_sem, cx0, fx0, y0, lay3]) rfl ⟨rfl, ?_⟩
  refine Keep.toBelow (X := fun i => w.heap.size ≤ i) ?_ (fun i hi => by omega)
  with_reducible repeat (first | refine Keep.setCell ?_ _ (.inr (by simp only []; omega)) | refine Keep.alloc ?_ _)
  exact Keep.of_below Q1.out
def bitsN (l : Lay) (cs : List Int) : Nat → Int
  | 0 => 0
  | n + 1 => bitsN l cs n + (if rIn (memCell cs (cellP l.loc l.locs (n : Int) 4 3)) 0 then 1 else 0)
theorem bitsN_le (l : Lay) (cs : List Int) : ∀ n, 0 ≤ bitsN l cs n ∧ bitsN l cs n ≤ n
  | 0 => ⟨Int.le_refl _, Int.le_refl _⟩
  | n + 1 => by
    have := bitsN_le l cs n
    rw [bitsN]
    split <;> omega
set_option maxRecDepth 100000 in
set_option maxHeartbeats 2000000 in
theorem law_bits (l : Lay) (t : Tb) (tb : Nat) (cs : List Int) (w : World) (hT : w.heap[tb]? = some (.cells t.cells 87 (0, 0))) (hm : IntsR w t.vm cs) :
    Calls Try.prog 39 #[l.v, .pointer (some ⟨tb, 0, none⟩)] w fun e w' => e = .returned (.int .i64 (bitsN l cs 3)) ∧ Below w.heap.size w w' := by
  have HM := Lib.hid hm
  obtain ⟨vm, vw, kind, a', b', try_, stamp, karma, aborts, sv, wv, dv, vlog, told, bad⟩ := t
  simp only at HM
  obtain ⟨A, c, rfl, -⟩ := hm.out
  have Lt := Lib.hid hT
  clear hT hm
  go_enter Try.func39, Try.ntmps39
  go_wp2_with fail
  generalize hW : w.alloc _ = W
  have b_q := congrArg (fun u : World => u.heap[w.heap.size]?) hW
  try simp only [] at b_q
  repeat (first | rw [hd_drew] at b_q | rw [hd_drewN] at b_q | rw [hs_ne _ _ _ _ _ (by omega)] at b_q | rw [ha_lt _ _ _ (by first | omega | (simp only [World.size_alloc, World.size_setCell, World.size_drew]; omega))] at b_q | rw [hs_same] at b_q)
  rw [ha_new _ _ _ (by first | rfl | simp only [World.size_alloc, World.size_setCell, World.size_drew])] at b_q
  try simp only [Option.map_some, putO, List.setIfInBounds_toArray, List.set_cons_zero, List.set_cons_succ] at b_q
  have Lq := Lib.hid b_q.symm
  clear b_q
  have cq := cell_of_heap Lq.out
  have fq := frz_of_heap Lq.out
  have sq := lt_of_heap Lq.out
  have hbw : Below w.heap.size w W := by subst hW; exact blw_alloc (Below.refl _ _) _
  have HBW := Lib.hid hbw
  clear hW hbw cq fq
  have LtW := Lib.hid (blk_keep HBW.out (lt_of_heap Lt.out) Lt.out)
  have HMW := Lib.hid (HM.out.below HBW.out)
  go_loopw [5, 6] (fun s i wr => ∃ n : Nat, n ≤ 3 ∧ i = .int .i64 (n : Int) ∧ s = .int .i64 (bitsN l cs n) ∧ Below W.heap.size W wr) (fun _ i _ => 3 - (intOf i).toNat)
  case atStart => exact ⟨0, Nat.zero_le _, rfl, rfl, Below.refl _ _⟩
  case round =>
    obtain ⟨n, hn, rfl, rfl, hb⟩ := hrel
    have HB := Lib.hid hb
    by_cases hlt : n < 3
    · have hd : decide ((n : Int) < 3) = true := by simp; omega
      have Lt2 := Lib.hid (blk_keep hb (lt_of_heap LtW.out) LtW.out)
      have Lq2 := Lib.hid (blk_keep hb sq Lq.out)
      have HM2 := Lib.hid (HMW.out.below hb)
      clear hb
      have hs1 := after_cell Lt2.out
      have hs2 := after_cell Lq2.out
      have K1 : Hid (∀ u : After wr, Calls Try.prog 22 #[l.v, .int .i64 (n : Int)] u.w (fun e w' => e = .returned (.int .i64 (cellP l.loc l.locs (n : Int) 4 3)) ∧ ∃ u' : After wr, w' = u'.w)) := fun u => after_call (ref_Waiters l n u.w)
      have K2 : Hid (∀ u : After wr, Calls Try.prog 27 #[.agg #[.slice A cs.length c], .int .i64 (cellP l.loc l.locs (n : Int) 4 3)] u.w (fun e w' => e = .returned (.int .i64 (memCell cs (cellP l.loc l.locs (n : Int) 4 3))) ∧ ∃ u' : After wr, w' = u'.w)) := fun u => after_call (ref_Cell cs _ _ u.w (HM2.out.below u.b))
      have K3 : Hid (∀ u : After wr, Calls Try.prog 26 #[.int .i64 (memCell cs (cellP l.loc l.locs (n : Int) 4 3)), .int .i64 0] u.w (fun e w' => e = .returned (.bool (rIn (memCell cs (cellP l.loc l.locs (n : Int) 4 3)) 0)) ∧ ∃ u' : After wr, w' = u'.w)) := fun u => after_same (ref_In _ _ _)
      go_wp2_with fail
      refine region_after (by kernel_rfl) (by kernel_rfl) ?_
      repeat (go_big_quiet_step (first | exact K1.out _ | exact K2.out _ | exact K3.out _))
      refine wpQuiet_nil ?_
      rintro w3 ⟨⟨w3', hb3⟩, he⟩
      obtain rfl : w3 = w3' := he
      have HB3 := Lib.hid (blw_then HB.out hb3)
      have hle := bitsN_le l cs n
      have HLE := Lib.hid hle
      have hsw : wrap64 (bitsN l cs n + 1) = bitsN l cs n + 1 := by unfold wrap64; omega
      clear hs1 hs2 K1 K2 K3 hb3 hle
      cases hr : rIn (memCell cs (cellP l.loc l.locs (n : Int) 4 3)) 0
      · have hsucc : Hid (bitsN l cs (n + 1) = bitsN l cs n) := Lib.hid (by rw [bitsN, hr]; simp)
        go_wp2_with fail
        go_roundw
        case rel => exact ⟨n + 1, by omega, by go_num, by rw [hsucc.out], HB3.out⟩
        case measure => simp [intOf]; omega
      · have hsucc : Hid (bitsN l cs (n + 1) = bitsN l cs n + 1) := Lib.hid (by rw [bitsN, hr]; simp)
        go_wp2_with fail
        go_roundw
        case rel => exact ⟨n + 1, by omega, by go_num, by rw [hsucc.out]; first | rfl | go_num, HB3.out⟩
        case measure => simp [intOf]; omega
    · obtain rfl : n = 3 := by omega
      clear hb
      go_wp2
      go_ret
      exact ⟨rfl, blw_then HBW.out HB.out⟩
end Go.Proofs.Ytpfibcbeenogiaa
