/- Package visible, walked. -/
import Derived.Test.YtpfibcbeenogiaaRun
import Derived.Test.YtpfibcbeenogiaaWord
import Derived.Test.YtpfibcbeenogiaaLayout
namespace Go.Proofs.Ytpfibcbeenogiaa
open Go.RowKit
set_option linter.unusedSimpArgs false
set_option linter.unusedVariables false
theorem vis_there (me m : Int) (w : World) : Calls Try.prog 78 #[.agg #[.int .i64 me], .int .i64 m] w fun e w' => e = .returned (.bool (wIn m me)) ∧ Below w.heap.size w w' := by
  go_enter Try.func78, Try.ntmps78
  go_wp2_with (go_at_call 67; refine (word_In _ _ _).mono ?_; rintro e w' ⟨rfl, rfl⟩)
  go_ret
  exact ⟨rfl, by with_reducible repeat (first | exact Below.refl _ _ | refine blw_alloc ?_ _)⟩
theorem vis_gone (me m : Int) (w : World) : Calls Try.prog 81 #[.agg #[.int .i64 me], .int .i64 m] w fun e w' => e = .returned (.bool (!wIn m me)) ∧ Below w.heap.size w w' := by
  have hnot : ∀ (x : Bool) (w : World), (Op.unary .not (.bool x)).run Try.prog w = .ok (.bool (!x)) w := fun _ _ => rfl
  go_enter Try.func81, Try.ntmps81
  go_wp2_with (go_at_call 67; refine (word_In _ _ _).mono ?_; rintro e w' ⟨rfl, rfl⟩)
  go_ret
  exact ⟨rfl, by with_reducible repeat (first | exact Below.refl _ _ | refine blw_alloc ?_ _)⟩
/-- A compare-and-swap loop from place k of the log on. -/
def goesL (ends : Int → Bool) (makes : Int → Int) (cell : Int) (log : List Rs) (k : Nat) : Except Acc (Bool × Nat) :=
  match h : log[k]? with
  | none => .error (accLoad cell)
  | some r =>
    if ends r.val then .ok (false, k + 1) else
    match log[k + 1]? with
    | none => .error (accCas cell r.val (makes r.val))
    | some q => if q.ok then .ok (true, k + 2) else goesL ends makes cell log (k + 2)
termination_by log.length - k
decreasing_by
  have := (List.getElem?_eq_some_iff.1 h).1
  omega
section
variable {ends : Int → Bool} {makes : Int → Int} {cell : Int} {log : List Rs} {k : Nat}
theorem goesL_none (h : log[k]? = none) : goesL ends makes cell log k = .error (accLoad cell) := by
  rw [goesL]; split
  · rfl
  · rename_i r hr; rw [h] at hr; cases hr
theorem goesL_some {r : Rs} (h : log[k]? = some r) : goesL ends makes cell log k = if ends r.val then .ok (false, k + 1) else
    match log[k + 1]? with
    | none => .error (accCas cell r.val (makes r.val))
    | some q => if q.ok then .ok (true, k + 2) else goesL ends makes cell log (k + 2) := by
  rw [goesL]; split
  · rename_i hr; rw [h] at hr; cases hr
  · rename_i r' hr; rw [h] at hr; cases hr; rfl
theorem goesL_end {r : Rs} (h : log[k]? = some r) (he : ends r.val = true) : goesL ends makes cell log k = .ok (false, k + 1) := by rw [goesL_some h, if_pos he]
theorem goesL_stop {r : Rs} (h : log[k]? = some r) (he : ends r.val = false) (h2 : log[k + 1]? = none) : goesL ends makes cell log k = .error (accCas cell r.val (makes r.val)) := by
  rw [goesL_some h, if_neg (by simp [he]), h2]
theorem goesL_done {r q : Rs} (h : log[k]? = some r) (he : ends r.val = false) (h2 : log[k + 1]? = some q) (hq : q.ok = true) : goesL ends makes cell log k = .ok (true, k + 2) := by
  rw [goesL_some h, if_neg (by simp [he]), h2]; simp [hq]
theorem goesL_again {r q : Rs} (h : log[k]? = some r) (he : ends r.val = false) (h2 : log[k + 1]? = some q) (hq : q.ok = false) : goesL ends makes cell log k = goesL ends makes cell log (k + 2) := by
  rw [goesL_some h, if_neg (by simp [he]), h2]; simp [hq]
end
def putM (cell me : Int) : M Bool := goesL (fun m => wIn m me) (fun m => wWith m me) cell
def outM (cell me : Int) : M Bool := goesL (fun m => !wIn m me) (fun m => wWithout m me) cell
def kOf (w : World) (ba : Nat) : Nat := match w.cell? ⟨ba, 0, none⟩ with
  | some (.int _ n) => n.toNat
  | _ => 0
theorem kOf_eq {w : World} {ba : Nat} {k : Nat} (h : w.heap[ba]? = some (.cells #[.int .i64 (k : Int)] 3 (0, 0))) : kOf w ba = k := by
  have := cell_of_heap h 0
  simp at this
  simp [kOf, this]
set_option maxHeartbeats 400000 in
theorem goes_put (cell me : Int) (ba bl : Nat) (vlog : Value) (log : List Rs) (k : Nat) (w : World) (h : DoAt w ba bl vlog log k) :
    Calls Try.prog 80 #[.agg #[.func (.func 78) #[.agg #[.int .i64 me]] #[], .func (.func 79) #[] #[]], doV ba bl, .int .i64 cell, .int .i64 me] w
      (Runs w ba log k (putM cell me) (fun b => .bool b)) := by
  have H := Lib.hid h
  have hlt := h.lt
  clear h
  go_enter Try.func80, Try.ntmps80
  go_wp2_with fail
  generalize hW : w.alloc _ = W
  have hWk : Keep (· = ba) w W := by subst hW; exact (Keep.refl _ _).alloc _
  have hWc0 : W.cell? ⟨w.heap.size, 0, none⟩ = some (.func (.func 78) #[.agg #[.int .i64 me]] #[]) := by subst hW; simp [go_sem]
  have hWc1 : W.cell? ⟨w.heap.size, 1, none⟩ = some (.func (.func 79) #[] #[]) := by subst hW; simp [go_sem]
  have hWs : w.heap.size < W.heap.size := by subst hW; simp
  have hDW : Hid (DoAt W ba bl vlog log k) := by subst hW; exact H.out.stay (blw_alloc (Below.refl _ _) _)
  clear hW
  go_loopw [9] (fun _ wr => ∃ k' : Nat, k' ≤ log.length ∧ Keep (· = ba) W wr ∧ wr.heap[ba]? = some (.cells #[.int .i64 (k' : Int)] 3 (0, 0)) ∧ putM cell me log k' = putM cell me log k) (fun _ wr => log.length - kOf wr ba)
  case atStart => exact ⟨k, hDW.out.le, Keep.refl _ _, hDW.out.at_, rfl⟩
  case round =>
    obtain ⟨k', hk', hK, ha, hp⟩ := hrel
    have hne : ¬ w.heap.size = ba := by omega
    have c0 : wr.cell? ⟨w.heap.size, 0, none⟩ = _ := (hK.bcell _ _ hWs hne).trans hWc0
    have c1 : wr.cell? ⟨w.heap.size, 1, none⟩ = _ := (hK.bcell _ _ hWs hne).trans hWc1
    have hsz : w.heap.size < wr.heap.size := Nat.lt_of_lt_of_le hWs hK.size
    have HD := Lib.hid (hDW.out.keep hK ha hk')
    have HK := Lib.hid (hWk.trans hK)
    have HKW := Lib.hid hK
    have HP := Lib.hid hp
    have HkO := Lib.hid (kOf_eq ha)
    clear hK ha hp hWc0 hWc1 hWk
    go_wp2_with fail
    refine (play_Load cell ba bl vlog log k' wr HD.out).mono ?_
    intro e w1 hR
    obtain ⟨hK1, ⟨n, k1, h1, rfl, h3, h4⟩ | ⟨x, k1, h1, rfl, h3, h4⟩⟩ := hR
    · obtain ⟨r, hr, rfl, rfl⟩ := loadM_ok h1
      have d0 : w1.cell? ⟨w.heap.size, 0, none⟩ = _ := (hK1.bcell _ _ hsz hne).trans c0
      have d1 : w1.cell? ⟨w.heap.size, 1, none⟩ = _ := (hK1.bcell _ _ hsz hne).trans c1
      have hsz1 : w.heap.size < w1.heap.size := Nat.lt_of_lt_of_le hsz hK1.size
      have HR := Lib.hid hr
      have HK1 := Lib.hid (HK.out.trans hK1)
      have HKW1 := Lib.hid (HKW.out.trans hK1)
      have H3 := Lib.hid h3
      have H4 := Lib.hid h4
      clear hr hK1 h3 h4 h1 c0 c1
      generalize hn : r.val = n at *
      have HN := Lib.hid hn
      clear hn
      cases hin : wIn n me
      · go_wp2_with fail
        refine (vis_there me n w1).mono ?_
        rintro e w2 ⟨rfl, hb2⟩
        have d0' := (bcell hb2).1 _ 0 hsz1
        have d1' := (bcell hb2).1 _ 1 hsz1
        rw [d0] at d0'
        rw [d1] at d1'
        have hsz2 : w.heap.size < w2.heap.size := Nat.lt_of_lt_of_le hsz1 hb2.size
        have HK2 := Lib.hid (HK1.out.trans (Keep.of_below hb2))
        have HKW2 := Lib.hid (HKW1.out.trans (Keep.of_below hb2))
        have H4' := Lib.hid ((hb2.block ba (lt_of_heap H4.out)).trans H4.out)
        have HD2 := Lib.hid (hDW.out.keep HKW2.out H4'.out H3.out)
        have HIN := Lib.hid hin
        clear hb2 d0 d1
        go_wp2_with fail
        refine (word_With n me _).mono ?_
        rintro e w3 ⟨rfl, rfl⟩
        go_wp2_with fail
        refine (play_Cas cell n (wWith n me) ba bl vlog log (k' + 1) _ HD2.out).mono ?_
        intro e w3 hR
        obtain ⟨hK3, ⟨b, k1, h1, rfl, h3, h4⟩ | ⟨x, k1, h1, rfl, h3, h4⟩⟩ := hR
        · obtain ⟨q, hq, rfl, rfl⟩ := casM_ok h1
          have HQ := Lib.hid hq
          have H5 := Lib.hid h3
          have H6 := Lib.hid h4
          have HK3 := Lib.hid hK3
          have hk6 := Lib.hid (kOf_eq h4)
          clear hq h1 h3 h4 hK3
          cases hok : q.ok
          · have HOK := Lib.hid hok
            go_wp2_with fail
            go_roundw
            case rel => exact ⟨k' + 2, H5.out, HKW2.out.trans HK3.out, H6.out, by rw [← HP.out]; exact (goesL_again HR.out (by rw [HN.out]; exact HIN.out) HQ.out HOK.out).symm⟩
            case measure => rw [hk6.out, HkO.out]; have := H5.out; omega
          · have HOK := Lib.hid hok
            go_wp2
            go_ret
            refine Runs.close (k1 := k' + 2) ?_ (HK2.out.trans HK3.out) H5.out H6.out
            rw [← HP.out]; exact goesL_done HR.out (by rw [HN.out]; exact HIN.out) HQ.out HOK.out
        · obtain ⟨hq, rfl⟩ := casM_err h1
          have HQ := Lib.hid hq
          have H5 := Lib.hid h3
          have H6 := Lib.hid h4
          have HK3 := Lib.hid hK3
          clear hq h1 h3 h4 hK3
          go_wp2
          refine ⟨rfl, Runs.halt (k1 := k1) ?_ (HK2.out.trans HK3.out) H5.out H6.out⟩
          rw [← HP.out, ← HN.out]; exact goesL_stop HR.out (by rw [HN.out]; exact HIN.out) HQ.out
      · have hin' := hin
        have HIN := Lib.hid hin'
        clear hin'
        go_wp2_with fail
        refine (vis_there me n w1).mono ?_
        rintro e w2 ⟨rfl, hb2⟩
        have HB2 := Lib.hid hb2
        clear hb2
        go_wp2
        go_ret
        refine Runs.close (k1 := k' + 1) ?_ (HK1.out.trans (Keep.of_below HB2.out)) H3.out ?_
        · rw [← HP.out]; exact goesL_end HR.out (by rw [HN.out]; exact HIN.out)
        · rw [HB2.out.block ba (lt_of_heap H4.out)]; exact H4.out
    · obtain ⟨hr, rfl⟩ := loadM_err h1
      have HR := Lib.hid hr
      have HK1 := Lib.hid (HK.out.trans hK1)
      have H4 := Lib.hid h4
      clear hr hK1 h4 h1
      go_wp2
      refine ⟨rfl, Runs.halt (k1 := k1) ?_ HK1.out h3 H4.out⟩
      rw [← HP.out]; exact goesL_none HR.out
set_option maxHeartbeats 400000 in
theorem goes_out (cell me : Int) (ba bl : Nat) (vlog : Value) (log : List Rs) (k : Nat) (w : World) (h : DoAt w ba bl vlog log k) :
    Calls Try.prog 80 #[.agg #[.func (.func 81) #[.agg #[.int .i64 me]] #[], .func (.func 82) #[] #[]], doV ba bl, .int .i64 cell, .int .i64 me] w
      (Runs w ba log k (outM cell me) (fun b => .bool b)) := by
  have H := Lib.hid h
  have hlt := h.lt
  clear h
  go_enter Try.func80, Try.ntmps80
  go_wp2_with fail
  generalize hW : w.alloc _ = W
  have hWk : Keep (· = ba) w W := by subst hW; exact (Keep.refl _ _).alloc _
  have hWc0 : W.cell? ⟨w.heap.size, 0, none⟩ = some (.func (.func 81) #[.agg #[.int .i64 me]] #[]) := by subst hW; simp [go_sem]
  have hWc1 : W.cell? ⟨w.heap.size, 1, none⟩ = some (.func (.func 82) #[] #[]) := by subst hW; simp [go_sem]
  have hWs : w.heap.size < W.heap.size := by subst hW; simp
  have hDW : Hid (DoAt W ba bl vlog log k) := by subst hW; exact H.out.stay (blw_alloc (Below.refl _ _) _)
  clear hW
  go_loopw [9] (fun _ wr => ∃ k' : Nat, k' ≤ log.length ∧ Keep (· = ba) W wr ∧ wr.heap[ba]? = some (.cells #[.int .i64 (k' : Int)] 3 (0, 0)) ∧ outM cell me log k' = outM cell me log k) (fun _ wr => log.length - kOf wr ba)
  case atStart => exact ⟨k, hDW.out.le, Keep.refl _ _, hDW.out.at_, rfl⟩
  case round =>
    obtain ⟨k', hk', hK, ha, hp⟩ := hrel
    have hne : ¬ w.heap.size = ba := by omega
    have c0 : wr.cell? ⟨w.heap.size, 0, none⟩ = _ := (hK.bcell _ _ hWs hne).trans hWc0
    have c1 : wr.cell? ⟨w.heap.size, 1, none⟩ = _ := (hK.bcell _ _ hWs hne).trans hWc1
    have hsz : w.heap.size < wr.heap.size := Nat.lt_of_lt_of_le hWs hK.size
    have HD := Lib.hid (hDW.out.keep hK ha hk')
    have HK := Lib.hid (hWk.trans hK)
    have HKW := Lib.hid hK
    have HP := Lib.hid hp
    have HkO := Lib.hid (kOf_eq ha)
    clear hK ha hp hWc0 hWc1 hWk
    go_wp2_with fail
    refine (play_Load cell ba bl vlog log k' wr HD.out).mono ?_
    intro e w1 hR
    obtain ⟨hK1, ⟨n, k1, h1, rfl, h3, h4⟩ | ⟨x, k1, h1, rfl, h3, h4⟩⟩ := hR
    · obtain ⟨r, hr, rfl, rfl⟩ := loadM_ok h1
      have d0 : w1.cell? ⟨w.heap.size, 0, none⟩ = _ := (hK1.bcell _ _ hsz hne).trans c0
      have d1 : w1.cell? ⟨w.heap.size, 1, none⟩ = _ := (hK1.bcell _ _ hsz hne).trans c1
      have hsz1 : w.heap.size < w1.heap.size := Nat.lt_of_lt_of_le hsz hK1.size
      have HR := Lib.hid hr
      have HK1 := Lib.hid (HK.out.trans hK1)
      have HKW1 := Lib.hid (HKW.out.trans hK1)
      have H3 := Lib.hid h3
      have H4 := Lib.hid h4
      clear hr hK1 h3 h4 h1 c0 c1
      generalize hn : r.val = n at *
      have HN := Lib.hid hn
      clear hn
      cases hin : !wIn n me
      · go_wp2_with fail
        refine (vis_gone me n w1).mono ?_
        rintro e w2 ⟨rfl, hb2⟩
        have d0' := (bcell hb2).1 _ 0 hsz1
        have d1' := (bcell hb2).1 _ 1 hsz1
        rw [d0] at d0'
        rw [d1] at d1'
        have hsz2 : w.heap.size < w2.heap.size := Nat.lt_of_lt_of_le hsz1 hb2.size
        have HK2 := Lib.hid (HK1.out.trans (Keep.of_below hb2))
        have HKW2 := Lib.hid (HKW1.out.trans (Keep.of_below hb2))
        have H4' := Lib.hid ((hb2.block ba (lt_of_heap H4.out)).trans H4.out)
        have HD2 := Lib.hid (hDW.out.keep HKW2.out H4'.out H3.out)
        have HIN := Lib.hid hin
        clear hb2 d0 d1
        go_wp2_with fail
        refine (word_Without n me _).mono ?_
        rintro e w3 ⟨rfl, rfl⟩
        go_wp2_with fail
        refine (play_Cas cell n (wWithout n me) ba bl vlog log (k' + 1) _ HD2.out).mono ?_
        intro e w3 hR
        obtain ⟨hK3, ⟨b, k1, h1, rfl, h3, h4⟩ | ⟨x, k1, h1, rfl, h3, h4⟩⟩ := hR
        · obtain ⟨q, hq, rfl, rfl⟩ := casM_ok h1
          have HQ := Lib.hid hq
          have H5 := Lib.hid h3
          have H6 := Lib.hid h4
          have HK3 := Lib.hid hK3
          have hk6 := Lib.hid (kOf_eq h4)
          clear hq h1 h3 h4 hK3
          cases hok : q.ok
          · have HOK := Lib.hid hok
            go_wp2_with fail
            go_roundw
            case rel => exact ⟨k' + 2, H5.out, HKW2.out.trans HK3.out, H6.out, by rw [← HP.out]; exact (goesL_again HR.out (by rw [HN.out]; exact HIN.out) HQ.out HOK.out).symm⟩
            case measure => rw [hk6.out, HkO.out]; have := H5.out; omega
          · have HOK := Lib.hid hok
            go_wp2
            go_ret
            refine Runs.close (k1 := k' + 2) ?_ (HK2.out.trans HK3.out) H5.out H6.out
            rw [← HP.out]; exact goesL_done HR.out (by rw [HN.out]; exact HIN.out) HQ.out HOK.out
        · obtain ⟨hq, rfl⟩ := casM_err h1
          have HQ := Lib.hid hq
          have H5 := Lib.hid h3
          have H6 := Lib.hid h4
          have HK3 := Lib.hid hK3
          clear hq h1 h3 h4 hK3
          go_wp2
          refine ⟨rfl, Runs.halt (k1 := k1) ?_ (HK2.out.trans HK3.out) H5.out H6.out⟩
          rw [← HP.out, ← HN.out]; exact goesL_stop HR.out (by rw [HN.out]; exact HIN.out) HQ.out
      · have hin' := hin
        have HIN := Lib.hid hin'
        clear hin'
        go_wp2_with fail
        refine (vis_gone me n w1).mono ?_
        rintro e w2 ⟨rfl, hb2⟩
        have HB2 := Lib.hid hb2
        clear hb2
        go_wp2
        go_ret
        refine Runs.close (k1 := k' + 1) ?_ (HK1.out.trans (Keep.of_below HB2.out)) H3.out ?_
        · rw [← HP.out]; exact goesL_end HR.out (by rw [HN.out]; exact HIN.out)
        · rw [HB2.out.block ba (lt_of_heap H4.out)]; exact H4.out
    · obtain ⟨hr, rfl⟩ := loadM_err h1
      have HR := Lib.hid hr
      have HK1 := Lib.hid (HK.out.trans hK1)
      have H4 := Lib.hid h4
      clear hr hK1 h4 h1
      go_wp2
      refine ⟨rfl, Runs.halt (k1 := k1) ?_ HK1.out h3 H4.out⟩
      rw [← HP.out]; exact goesL_none HR.out
end Go.Proofs.Ytpfibcbeenogiaa
