/- law21.WaitRouseWakesMask, walked. -/
import Derived.Test.YtpfibcbeenogiaaSan21
import Derived.Test.YtpfibcbeenogiaaAll
import Derived.Test.YtpfibcbeenogiaaInts
import Derived.Test.YtpfibcbeenogiaaBits
namespace Go.Proofs.Ytpfibcbeenogiaa
open Go.RowKit
set_option linter.unusedSimpArgs false
set_option linter.unusedVariables false
/-! ### the plain law -/
def lay1 (n : Int) : Lay := layOf n 1 0 0 0
def wantN (n : Int) (f : Int → Bool) : Nat → List Int
  | 0 => List.replicate (lay1 n).size.toNat 0
  | t + 1 => if f (t : Int) then (wantN n f t).set (cellP (lay1 n).thd (lay1 n).thr (t : Int) 4 2).toNat 1 else wantN n f t
def manyN (f : Int → Bool) : Nat → Nat
  | 0 => 0
  | t + 1 => manyN f t + (if f (t : Int) then 1 else 0)
theorem wantN_length (n : Int) (f : Int → Bool) : ∀ t, (wantN n f t).length = (lay1 n).size.toNat
  | 0 => by simp [wantN]
  | t + 1 => by rw [wantN]; split <;> simp [wantN_length n f t]
theorem manyN_le (f : Int → Bool) : ∀ t, manyN f t ≤ t
  | 0 => Nat.le_refl _
  | t + 1 => by have := manyN_le f t; rw [manyN]; split <;> omega
theorem rouse_length (l : Lay) (f : Int → Bool) : ∀ t, (rouseN l f t).length = manyN f t
  | 0 => rfl
  | t + 1 => by rw [rouseN, manyN, List.length_append, rouse_length l f t]; split <;> simp
theorem rouse_cong (l : Lay) {f g : Int → Bool} : ∀ t, (∀ k : Nat, k < t → f k = g k) → rouseN l f t = rouseN l g t
  | 0, _ => rfl
  | t + 1, h => by rw [rouseN, rouseN, rouse_cong l t (fun k hk => h k (by omega)), h t (by omega)]
theorem memAll_app (z : List Int) : ∀ (xs ys : List Acc) (cs cs' : List Int), memAll z cs xs = (cs', 0) → memAll z cs (xs ++ ys) = memAll z cs' ys
  | [], ys, cs, cs', h => by simp only [memAll, Prod.mk.injEq] at h; rw [h.1, List.nil_append]
  | a :: xs, ys, cs, cs', h => by
    rw [memAll] at h
    rw [List.cons_append, memAll]
    split
    · rename_i he
      rw [if_pos he] at h
      exact memAll_app z xs ys _ _ h
    · rename_i he
      rw [if_neg he] at h
      simp only [Prod.mk.injEq] at h
      exact absurd h.2 he
theorem wake1 {n : Int} (hn : 1 ≤ n ∧ n ≤ 4) {t : Nat} (ht : (t : Int) < n) : ∃ c : Nat, cellP (lay1 n).thd (lay1 n).thr (t : Int) 4 2 = (c : Int) ∧ c < (lay1 n).size.toNat := by
  refine ⟨6 + 4 * t, ?_, ?_⟩
  · rw [cellP, if_neg (by simp [lay1, layOf]; omega)]
    have e1 : wrap64 (4 * (t : Int)) = 4 * (t : Int) := by unfold wrap64; omega
    have e2 : wrap64 (4 + 4 * (t : Int)) = 4 + 4 * (t : Int) := by unfold wrap64; omega
    have e3 : wrap64 (4 + 4 * (t : Int) + 2) = 4 + 4 * (t : Int) + 2 := by unfold wrap64; omega
    show wrap64 (wrap64 (4 + wrap64 (4 * (t : Int))) + 2) = _
    rw [e1, e2, e3]
    omega
  · show 6 + 4 * t < (4 + 4 * n + 0 + 4 * 1).toNat
    omega
theorem rouse_want {n : Int} (hn : 1 ≤ n ∧ n ≤ 4) (f : Int → Bool) (z : List Int) : ∀ t : Nat, (t : Int) ≤ n → memAll z (List.replicate (lay1 n).size.toNat 0) (rouseN (lay1 n) f t) = (wantN n f t, 0)
  | 0, _ => rfl
  | t + 1, h => by
    have ih := rouse_want hn f z t (by omega)
    rw [rouseN, memAll_app z _ _ _ _ ih, wantN]
    split
    · obtain ⟨c, hc, hl⟩ := wake1 hn (t := t) (by omega)
      rw [hc]
      have hd : memDo (wantN n f t) (accStore (c : Int) 1) = ((wantN n f t).set c 1, ⟨(wantN n f t)[c]?.getD 0, true⟩, 0) := by
        have hr : memRight (accStore (c : Int) 1) = true := by simp [memRight, accStore]
        have hx : (wantN n f t)[c]? = some ((wantN n f t)[c]'(by rw [wantN_length]; exact hl)) := List.getElem?_eq_getElem _
        rw [memDo, if_pos hr]
        simp only [accStore, Int.toNat_natCast, hx, memNext]
        simp
      rw [memAll, hd, if_pos rfl, memAll, Int.toNat_natCast]
    · rw [memAll]
theorem rOf1 {N : Nat} (h1 : 1 ≤ N) (h4 : N ≤ 4) : rOf (N : Int) 1 0 0 0 = (lay1 N, 0) := by
  obtain rfl | rfl | rfl | rfl : N = 1 ∨ N = 2 ∨ N = 3 ∨ N = 4 := by omega
  all_goals decide
/-! ### the walk -/
theorem ref_NewZ (Z : Nat) (hZ : Z ≤ 1048576) (w : World) : Calls Try.prog 19 #[.int .i64 (Z : Int)] w fun e w' =>
    ∃ vb, e = .returned (.agg #[.slice (some ⟨vb, 0, none⟩) Z Z]) ∧ IntsR w' (.slice (some ⟨vb, 0, none⟩) Z Z) (List.replicate Z 0) ∧ Typed w' (.slice (some ⟨vb, 0, none⟩) Z Z) ∧ Below w.heap.size w w' := by
  refine (ref_New Z hZ w).mono ?_
  rintro e w' ⟨vm, rfl, b, rfl, h2, h3, h4⟩
  have hl : (List.replicate Z (0 : Int)).length = Z := List.length_replicate
  have g := SlR.of_heap h3 Z (by rw [hl]; exact Nat.le_refl _) (by rw [hl]; omega)
  rw [hl] at g ⊢
  refine ⟨b, rfl, g, fun b' hb' => ?_, h4⟩
  simp only [Value.ownBlock, Option.some.injEq] at hb'
  subst hb'
  exact ⟨_, _, h3⟩
theorem set_mem {w : World} {b : Nat} {x v vm : Value} {cs : List Int} (h9 : w.heap[b]? = some (.cells #[x] 53 (0, 0))) (hI : IntsR w vm cs) (hT : Typed w vm) :
    IntsR (w.setCell ⟨b, 0, none⟩ v) vm cs ∧ Typed (w.setCell ⟨b, 0, none⟩ v) vm ∧ (w.setCell ⟨b, 0, none⟩ v).heap[b]? = some (.cells #[v] 53 (0, 0)) := by
  have hk : Keep (· = b) w (w.setCell ⟨b, 0, none⟩ v) := Keep.setCell (Keep.refl _ _) _ (.inr rfl)
  obtain ⟨g1, g2⟩ := ints_keep hI hT hk (by
    rintro b rfl _ c' fr e
    rw [h9] at e; simp at e)
  refine ⟨g1, g2, ?_⟩
  rw [hs_same, h9]
  rfl
set_option maxRecDepth 100000 in
set_option maxHeartbeats 4000000 in
theorem law_RouseWakes (mask th : Int) (hm : I64 mask) (hth : 0 ≤ th ∧ th ≤ 255) (w : World) :
    Calls Try.prog 11 #[.int .i64 mask, .int .u8 th] w (SanePost w) := by
  obtain ⟨N, hN, hN1, hN4⟩ : ∃ N : Nat, 1 + th % 4 = (N : Int) ∧ 1 ≤ N ∧ N ≤ 4 := ⟨(1 + th % 4).toNat, by omega, by omega, by omega⟩
  have hc1 : IntKind.i64.wrap th = th := (IntWalk.i64_left _).trans (by unfold wrap64; omega)
  have hc2 : th.tmod 4 = th % 4 := Int.tmod_eq_emod_of_nonneg hth.1
  have hc3 : wrap64 th = th := by unfold wrap64; omega
  go_enter Try.func11, Try.ntmps11
  go_wp2_with fail
  refine (law21_sanity _).mono ?_
  rintro e w1 ⟨rfl, hb1⟩
  have HB1 := Lib.hid hb1
  clear hb1
  go_wp2_with fail
  refine (ref_Of (N : Int) 1 0 0 0 _).mono ?_
  rintro e w2 ⟨rfl, hb2⟩
  rw [rOf1 hN1 hN4]
  have HB2 := Lib.hid (blw_then HB1.out hb2)
  clear hb2
  obtain ⟨Z, hZ, hZ2, hZn⟩ : ∃ Z : Nat, (lay1 (N : Int)).size = (Z : Int) ∧ Z ≤ 24 ∧ (lay1 (N : Int)).size.toNat = Z := ⟨8 + 4 * N, by show 4 + 4 * (N : Int) + 0 + 4 * 1 = _; omega, by omega, by show (4 + 4 * (N : Int) + 0 + 4 * 1).toNat = _; omega⟩
  have HZ := Lib.hid hZ
  have HNEW := Lib.hid (fun (u : World) => (hZ ▸ ref_NewZ Z (by omega) u : Calls Try.prog 19 #[.int .i64 (lay1 (N : Int)).size] u fun e w' => ∃ vb, e = .returned (.agg #[.slice (some ⟨vb, 0, none⟩) Z Z]) ∧ IntsR w' (.slice (some ⟨vb, 0, none⟩) Z Z) (List.replicate Z 0) ∧ Typed w' (.slice (some ⟨vb, 0, none⟩) Z Z) ∧ Below u.heap.size u w'))
  have HMK := Lib.hid (fun (u : World) => (hZ ▸ make_ints Z (by omega) u : (Instr.makeSlice 51 (.int .i64 (lay1 (N : Int)).size) (.int .i64 (lay1 (N : Int)).size)).run Try.prog u = .ok (.slice (some ⟨u.heap.size, 0, none⟩) Z Z) (u.alloc (.cells ((List.replicate Z (0 : Int)).map fun x => Value.int .i64 x).toArray 3))))
  clear hZ
  go_upto_region 4 with fail
  generalize hW : World.alloc _ _ = W
  have b_q7 := congrArg (fun u : World => u.heap[w2.heap.size]?) hW
  try simp only [] at b_q7
  repeat (first | rw [hd_drew] at b_q7 | rw [hd_drewN] at b_q7 | rw [hs_ne _ _ _ _ _ (by omega)] at b_q7 | rw [ha_lt _ _ _ (by first | omega | (simp only [World.size_alloc, World.size_setCell, World.size_drew]; omega))] at b_q7 | rw [hs_same] at b_q7)
  rw [ha_new _ _ _ (by first | rfl | simp only [World.size_alloc, World.size_setCell, World.size_drew])] at b_q7
  try simp only [Option.map_some, putO, List.setIfInBounds_toArray, List.set_cons_zero, List.set_cons_succ] at b_q7
  have Lq7 := Lib.hid b_q7.symm
  clear b_q7
  have cq7 := cell_of_heap Lq7.out
  have fq7 := frz_of_heap Lq7.out
  have sq7 := lt_of_heap Lq7.out
  have hbw : Below w2.heap.size w2 W := by subst hW; exact blw_alloc (Below.refl _ _) _
  clear hW
  have HBW := Lib.hid (blw_then HB2.out hbw)
  have HSof := Lib.hid (fun (wa : World) (h : Below W.heap.size W wa) => (⟨cell_of_heap (blk_keep h (lt_of_heap Lq7.out) Lq7.out), h⟩ : (∀ i, wa.cell? ⟨w2.heap.size, i, none⟩ = (#[.int .i64 (lay1 N).thr, .int .i64 (lay1 N).locs, .int .i64 (lay1 N).lks, .int .i64 (lay1 N).sec, .int .i64 (lay1 N).man, .int .i64 (lay1 N).clk, .int .i64 (lay1 N).stp, .int .i64 (lay1 N).log, .int .i64 (lay1 N).fin, .int .i64 (lay1 N).thd, .int .i64 (lay1 N).lck, .int .i64 (lay1 N).loc, .int .i64 (lay1 N).size] : Array Value)[i]?) ∧ Below W.heap.size W wa))
  obtain ⟨M, hM⟩ : ∃ M, M = memAll (List.replicate Z 0) (List.replicate Z 0) (rouseN (lay1 N) (wIn mask) (lay1 N).thr.toNat) := ⟨_, rfl⟩
  have HM := Lib.hid hM
  have htn : (lay1 (N : Int)).thr.toNat = N := by show ((N : Int)).toNat = N; omega
  have hcong : rouseN (lay1 (N : Int)) (wIn mask) N = rouseN (lay1 (N : Int)) (rIn mask) N := rouse_cong _ N (fun k hk => by rw [wIn_eq (by omega), rIn_eq hm (by omega)])
  have HMV : Hid (M = (wantN N (rIn mask) N, 0)) := Lib.hid (by
    rw [hM, htn, hcong, ← hZn]
    exact rouse_want ⟨by omega, by omega⟩ (rIn mask) _ N (Int.le_refl _))
  have HLR : Hid ((rouseN (lay1 (N : Int)) (wIn mask) (lay1 (N : Int)).thr.toNat).length = manyN (rIn mask) N) := Lib.hid (by rw [htn, hcong, rouse_length])
  have HWL := Lib.hid (fun t => (wantN_length (N : Int) (rIn mask) t).trans hZn)
  clear htn hcong
  have HTH := Lib.hid (show 0 ≤ (lay1 (N : Int)).thr ∧ (lay1 (N : Int)).thr ≤ 4 from ⟨by show (0 : Int) ≤ N; omega, by show (N : Int) ≤ 4; omega⟩)
  clear hbw cq7 fq7 sq7 hM
  go_cut [9, 11] from 26 to 36 (fun p9 s11 wx => ∃ (b9 : Nat) (vm : Value), p9 = .pointer (some ⟨b9, 0, none⟩) ∧ s11 = .int .i64 M.2 ∧ Below W.heap.size W wx ∧ wx.heap[b9]? = some (.cells #[vm] 53 (0, 0)) ∧ IntsR wx vm M.1 ∧ Typed wx vm ∧ W.heap.size ≤ b9)
  case first =>
    go_region_held3 (fun w' => (∀ i, w'.cell? ⟨w2.heap.size, i, none⟩ = (#[.int .i64 (lay1 N).thr, .int .i64 (lay1 N).locs, .int .i64 (lay1 N).lks, .int .i64 (lay1 N).sec, .int .i64 (lay1 N).man, .int .i64 (lay1 N).clk, .int .i64 (lay1 N).stp, .int .i64 (lay1 N).log, .int .i64 (lay1 N).fin, .int .i64 (lay1 N).thd, .int .i64 (lay1 N).lck, .int .i64 (lay1 N).loc, .int .i64 (lay1 N).size] : Array Value)[i]?) ∧ Below W.heap.size W w')
      (((try dsimp only); refine HSof.out _ ?_; with_reducible repeat (first | exact Below.refl _ _ | refine blw_alloc ?_ _ | refine blw_drew ?_ | refine blw_set ?_ (by simp only [World.size_alloc]; omega) _ | assumption)))
      ((first
        | (go_at_call 19; refine (HNEW.out _).mono ?_; rintro e wn ⟨vb3, rfl, hI3, hT3, hbX⟩
           have hB3 := blw_then (show Below W.heap.size W _ by with_reducible repeat (first | exact Below.refl _ _ | assumption | refine blw_alloc ?_ _ | refine blw_drew ?_)) hbX
           have z3 := hB3.size
           have HT3 := Lib.hid hT3
           have HI3 := Lib.hid hI3
           (try (replace HR5 := Lib.hid (HR5.out.below (blw_then (show Below _ _ _ by with_reducible repeat (first | exact Below.refl _ _ | refine blw_alloc ?_ _ | refine blw_drew ?_)) hbX))))
           (try (replace H9 := Lib.hid (blk_keep (blw_then (show Below _ _ _ by with_reducible repeat (first | exact Below.refl _ _ | refine blw_alloc ?_ _ | refine blw_drew ?_)) hbX) (lt_of_heap H9.out) H9.out)))
           (try (have H9 := Lib.hid (blk_keep hbX (lt_newT _ _) (ha_new _ _ _ rfl))))
           (try (have H9 := Lib.hid (blk_keep hbX (lt_newT _ _) ((hd_drew _ _).trans (ha_new _ _ _ rfl)))))
           clear hT3 hI3 hbX)
        | (go_at_call 33; refine (wait_Rouse (lay1 N) mask _ HTH.out).mono ?_; rintro e wr5 ⟨v5, rfl, hR5, -, hbX⟩
           have hB5 := blw_then (show Below W.heap.size W _ by with_reducible repeat (first | exact Below.refl _ _ | assumption | refine blw_alloc ?_ _ | refine blw_drew ?_)) hbX
           have z5 := hB5.size
           obtain ⟨A5, c5, rfl, -⟩ := hR5.out
           have HR5 := Lib.hid hR5
           (try (replace HI3 := Lib.hid (HI3.out.below (blw_then (show Below _ _ _ by with_reducible repeat (first | exact Below.refl _ _ | refine blw_alloc ?_ _ | refine blw_drew ?_)) hbX))))
           (try (replace HT3 := Lib.hid (HT3.out.below (blw_then (show Below _ _ _ by with_reducible repeat (first | exact Below.refl _ _ | refine blw_alloc ?_ _ | refine blw_drew ?_)) hbX))))
           (try (replace H9 := Lib.hid (blk_keep (blw_then (show Below _ _ _ by with_reducible repeat (first | exact Below.refl _ _ | refine blw_alloc ?_ _ | refine blw_drew ?_)) hbX) (lt_of_heap H9.out) H9.out)))
           (try (have H9 := Lib.hid (blk_keep hbX (lt_newT _ _) (ha_new _ _ _ rfl))))
           (try (have H9 := Lib.hid (blk_keep hbX (lt_newT _ _) ((hd_drew _ _).trans (ha_new _ _ _ rfl)))))
           clear hR5 hbX)
        | (go_at_call 41; refine (mem_All (List.replicate Z 0) _ _ _ _ (HI3.out.below (show Below _ _ _ by with_reducible repeat (first | exact Below.refl _ _ | refine blw_alloc ?_ _ | refine blw_drew ?_))) (HT3.out.below (show Below _ _ _ by with_reducible repeat (first | exact Below.refl _ _ | refine blw_alloc ?_ _ | refine blw_drew ?_))) (by simp; omega) (HR5.out.below (show Below _ _ _ by with_reducible repeat (first | exact Below.refl _ _ | refine blw_alloc ?_ _ | refine blw_drew ?_))) (by rw [rouse_length]; have := manyN_le (wIn mask) (lay1 N).thr.toNat; have := HTH.out; omega)).mono ?_; rintro e w6 ⟨vm6, vr6, rfl, hI6, hT6, hbX⟩
           rw [← HM.out] at hI6 ⊢
           have hB6 := blw_then (show Below W.heap.size W _ by with_reducible repeat (first | exact Below.refl _ _ | assumption | refine blw_alloc ?_ _ | refine blw_drew ?_)) hbX
           obtain ⟨A6, c6, rfl, -⟩ := hI6.out
           have HI6 := Lib.hid hI6
           have HT6 := Lib.hid hT6
           (try (replace H9 := Lib.hid (blk_keep (blw_then (show Below _ _ _ by with_reducible repeat (first | exact Below.refl _ _ | refine blw_alloc ?_ _ | refine blw_drew ?_)) hbX) (lt_of_heap H9.out) H9.out)))
           (try (have H9 := Lib.hid (blk_keep hbX (lt_newT _ _) (ha_new _ _ _ rfl))))
           (try (have H9 := Lib.hid (blk_keep hbX (lt_newT _ _) ((hd_drew _ _).trans (ha_new _ _ _ rfl)))))
           (try (have c9 := cell_of_heap H9.out))
           (try (have f9 := frz_of_heap H9.out))
           (try (have s9 := lt_of_heap H9.out))
           clear hI6 hT6 hbX)))
    all_goals (
      go_wp2_with fail
      go_meet
      case rel =>
        have zz6 := hB6.size
        first
          | (refine ⟨_, _, rfl, rfl, blw_alloc hB6 _, ha_new _ _ _ rfl, HI6.out.below (blw_alloc (Below.refl _ _) _), HT6.out.below (blw_alloc (Below.refl _ _) _), zz6⟩)
          | (obtain ⟨g1, g2, g3⟩ := set_mem (v := .slice A6 M.1.length c6) H9.out HI6.out HT6.out
             exact ⟨_, _, rfl, rfl, blw_set hB6 (by simp only []; omega) _, g3, g1, g2, by omega⟩))
  case rest =>
    obtain ⟨b9, vm, rfl, rfl, hbx, hb9, hI9, hT9, hl9⟩ := hcut
    have HI9 := Lib.hid hI9
    have HT9 := Lib.hid hT9
    have L9 := Lib.hid hb9
    have Lq := Lib.hid (blk_keep hbx (lt_of_heap Lq7.out) Lq7.out)
    have HBX := Lib.hid (blw_then HBW.out hbx)
    have cq := cell_of_heap Lq.out
    have sq := lt_of_heap Lq.out
    have hmk := HMK.out
    clear hbx hb9 hI9 hT9
    go_wp2_with fail
    generalize hW9 : World.alloc _ _ = W9
    have b_q12 := congrArg (fun u : World => u.heap[wc.heap.size]?) hW9
    try simp only [] at b_q12
    repeat (first | rw [hd_drew] at b_q12 | rw [hd_drewN] at b_q12 | rw [hs_ne _ _ _ _ _ (by omega)] at b_q12 | rw [ha_lt _ _ _ (by first | omega | (simp only [World.size_alloc, World.size_setCell, World.size_drew]; omega))] at b_q12 | rw [hs_same] at b_q12)
    rw [ha_new _ _ _ (by first | rfl | simp only [World.size_alloc, World.size_setCell, World.size_drew])] at b_q12
    try simp only [Option.map_some, putO, List.setIfInBounds_toArray, List.set_cons_zero, List.set_cons_succ] at b_q12
    have Lq12 := Lib.hid b_q12.symm
    clear b_q12
    have cq12 := cell_of_heap Lq12.out
    have fq12 := frz_of_heap Lq12.out
    have sq12 := lt_of_heap Lq12.out
    have hb9 : Below wc.heap.size wc W9 := by subst hW9; exact blw_alloc (Below.refl _ _) _
    clear hW9 hmk cq12 fq12 sq12
    have L9' := Lib.hid (blk_keep hb9 (lt_of_heap L9.out) L9.out)
    have Lq' := Lib.hid (blk_keep hb9 (lt_of_heap Lq.out) Lq.out)
    have HI9' := Lib.hid (HI9.out.below hb9)
    have HT9' := Lib.hid (HT9.out.below hb9)
    have HB9 := Lib.hid (blw_then HBX.out hb9)
    have nq : ¬ w2.heap.size = wc.heap.size := by omega
    have n9 : ¬ b9 = wc.heap.size := by have := lt_of_heap L9.out; omega
    have zc := hb9.size
    clear hb9 cq sq
    go_loopw [13, 14] (fun m i wr => ∃ t : Nat, t ≤ N ∧ i = .int .i64 (t : Int) ∧ m = .int .i64 (manyN (rIn mask) t : Int) ∧ Keep (· = wc.heap.size) W9 wr ∧ wr.heap[wc.heap.size]? = some (.cells ((wantN N (rIn mask) t).map (Value.int .i64)).toArray 3 (0, 0))) (fun _ i _ => N - (intOf i).toNat)
    case atStart =>
      refine ⟨0, Nat.zero_le _, rfl, rfl, Keep.refl _ _, ?_⟩
      rw [wantN, hZn]
      simpa using Lq12.out
    case round =>
      obtain ⟨t, ht, rfl, rfl, hK, hA⟩ := hrel
      have HK := Lib.hid hK
      have LA := Lib.hid hA
      have Lr := Lib.hid ((hK.block _ (lt_of_heap Lq'.out) nq).trans Lq'.out)
      have L9r := Lib.hid ((hK.block _ (lt_of_heap L9'.out) n9).trans L9'.out)
      have cr := cell_of_heap Lr.out
      have c9 := cell_of_heap L9r.out
      have hml := manyN_le (rIn mask) t
      clear hK hA
      by_cases hlt : t < N
      · have hd : decide ((t : Int) < (N : Int)) = true := by simp; omega
        have HLT := Lib.hid hlt
        go_wp2_with fail
        refine (ref_In mask t _).mono ?_
        rintro e w5 ⟨rfl, hw5⟩
        subst hw5
        cases hin : rIn mask (t : Int)
        · have hs : Hid (manyN (rIn mask) (t + 1) = manyN (rIn mask) t ∧ wantN N (rIn mask) (t + 1) = wantN N (rIn mask) t) := Lib.hid ⟨by rw [manyN, hin]; simp, by rw [wantN, hin]; simp⟩
          go_wp2_with fail
          go_roundw
          case rel => exact ⟨t + 1, HLT.out, by go_num, by rw [hs.out.1], HK.out, by rw [hs.out.2]; exact LA.out⟩
          case measure => have := HLT.out; simp [intOf]; omega
        · obtain ⟨c, hc, hcl⟩ := wake1 (n := (N : Int)) ⟨by omega, by omega⟩ (t := t) (by omega)
          have hs : Hid (manyN (rIn mask) (t + 1) = manyN (rIn mask) t + 1 ∧ wantN N (rIn mask) (t + 1) = (wantN N (rIn mask) t).set c 1) := Lib.hid ⟨by rw [manyN, hin]; simp, by rw [wantN, hin, hc]; simp⟩
          go_wp2_with fail
          refine (ref_Wake (lay1 N) t _).mono ?_
          rintro e w5 ⟨rfl, hb5⟩
          rw [hc]
          have LA5 := Lib.hid (blk_keep hb5 (lt_of_heap LA.out) LA.out)
          have HK5 := Lib.hid (HK.out.trans (Keep.of_below hb5))
          have ca := cell_of_heap LA5.out
          have fa := frz_of_heap LA5.out
          have sa := lt_of_heap LA5.out
          have hcz : c < Z := by omega
          have hx : ((wantN N (rIn mask) t).map (Value.int .i64)).toArray[c]? = some (.int .i64 ((wantN N (rIn mask) t)[c]'(by rw [HWL.out]; exact hcz))) := by simp
          have ca' := (ca c).trans hx
          have hcz2 : (c : Int) < (Z : Int) := by omega
          clear hb5 ca hx
          go_wp2_with fail
          go_roundw
          case rel =>
            refine ⟨t + 1, HLT.out, by go_num, by rw [hs.out.1]; go_num, ?_, ?_⟩
            · exact Keep.setCell HK5.out _ (.inr rfl)
            · rw [hs_same, LA5.out, hs.out.2]
              simp [putO, List.map_set]
          case measure => have := HLT.out; simp [intOf]; omega
      · obtain rfl : t = N := by omega
        have hd : decide ((t : Int) < (t : Int)) = false := by simp
        have m2 : M.2 = 0 := by rw [HMV.out]
        have hlw : (wantN (t : Int) (rIn mask) t).length = Z := HWL.out t
        have HSA := Lib.hid (hlw ▸ SlR.of_heap (enc := fun x : Int => Value.int .i64 x) (xs := wantN (t : Int) (rIn mask) t) LA.out Z (by omega) (by omega) : IntsR wr (.slice (some ⟨wc.heap.size, 0, none⟩) Z Z) (wantN (t : Int) (rIn mask) t))
        go_wp2_with fail
        refine (ref_Ints M.1 (wantN (t : Int) (rIn mask) t) vm _ _ (HI9'.out.stay HK.out.size (fun b hb hl => HK.out.block b hl (by obtain ⟨c', fr, h⟩ := HT9.out b hb; have := lt_of_heap h; omega))) HSA.out).mono ?_
        rintro e w5 ⟨rfl, hb5⟩
        have hdec : decide (M.1 = wantN (t : Int) (rIn mask) t) = true := by rw [HMV.out]; simp
        rw [hdec]
        have HB5 := Lib.hid hb5
        replace Lr := Lib.hid (blk_keep hb5 (lt_of_heap Lr.out) Lr.out)
        replace cr := cell_of_heap Lr.out
        clear hb5 c9 hdec
        go_wp2_with fail
        refine (wait_Rouse (lay1 t) mask _ HTH.out).mono ?_
        rintro e w6 ⟨v6, rfl, hR6, -, hb6⟩
        obtain ⟨A6, c6, rfl, -⟩ := hR6.out
        rw [HLR.out]
        have hfin : Below w.heap.size w w6 := blw_then (Keep.toBelow (X := fun i => w.heap.size ≤ i) ((Keep.of_below HB9.out).trans (HK.out.mono fun i _ hi => by have := HBX.out.size; omega)) (fun i hi => by omega)) (blw_then HB5.out hb6)
        have HFIN := Lib.hid hfin
        clear hfin hb6 hR6
        go_wp2_with fail
        exact bodyPost_ret (v := .bool true) (by simp [results, go_sem]) rfl ⟨rfl, HFIN.out⟩
end Go.Proofs.Ytpfibcbeenogiaa
