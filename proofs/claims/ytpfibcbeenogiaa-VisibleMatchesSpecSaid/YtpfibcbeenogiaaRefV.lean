/- The reference of package visible, walked: Put, Out, Next. -/
import Derived.Test.YtpfibcbeenogiaaCur
import Derived.Test.YtpfibcbeenogiaaVis
import Derived.Test.YtpfibcbeenogiaaVisNext
namespace Go.Proofs.Ytpfibcbeenogiaa
open Go.RowKit
set_option linter.unusedSimpArgs false
set_option linter.unusedVariables false
/-- A program of accesses, as a reference replays it: what it returns (d behind the end of the log), and the state that it leaves. -/
def curM {α : Type} (p : M α) (d : α) (log : List Rs) (s : Cu) : α × Cu := if s.stop then (d, s) else match p log s.k with
  | .ok (a, k') => (a, ⟨k', s.ask, false⟩)
  | .error x => (d, ⟨log.length, x, true⟩)
theorem curM_stop {α : Type} (p : M α) (d : α) (log : List Rs) (k : Nat) (a : Acc) : curM p d log ⟨k, a, true⟩ = (d, ⟨k, a, true⟩) := rfl
theorem curM_ok {α : Type} {p : M α} {d : α} {log : List Rs} {k k' : Nat} {a : Acc} {x : α} (h : p log k = .ok (x, k')) : curM p d log ⟨k, a, false⟩ = (x, ⟨k', a, false⟩) := by
  simp [curM, h]
theorem curM_err {α : Type} {p : M α} {d : α} {log : List Rs} {k : Nat} {a x : Acc} (h : p log k = .error x) : curM p d log ⟨k, a, false⟩ = (d, ⟨log.length, x, true⟩) := by
  simp [curM, h]
theorem curM_same {α : Type} {p : M α} {d : α} {log : List Rs} {k k' : Nat} {a : Acc} (h : p log k = p log k') : curM p d log ⟨k, a, false⟩ = curM p d log ⟨k', a, false⟩ := by
  simp [curM, h]
def rPutM (cell me : Int) : M Bool := goesL (fun m => rIn m me) (fun m => rWith m me) cell
def rOutM (cell me : Int) : M Bool := goesL (fun m => !rIn m me) (fun m => rWithout m me) cell
theorem rIn_zero (me : Int) : rIn 0 me = false := by
  unfold rIn
  split
  · rfl
  · rename_i h
    obtain ⟨h1, h2, h3⟩ := rBit_ne h
    have hp : (0 : Int) < 2 ^ me.toNat := Int.pow_pos (by decide)
    have hq := pow_small (k := me.toNat) (by omega)
    rw [h3]
    simp [rDown, rMod, wrap64]
def leftOf (n : Nat) (bc : Nat) (w : World) : Nat := match w.cell? ⟨bc, 1, none⟩, w.cell? ⟨bc, 7, none⟩ with
  | some (.int _ k), some (.bool b) => 2 * (n - k.toNat) + (if b then 0 else 1)
  | _, _ => 0
theorem leftOf_eq {n bc : Nat} {w : World} {vlog : Value} {s : Cu} (h : w.heap[bc]? = some (.cells (s.cells vlog) 103 (0, 0))) : leftOf n bc w = 2 * (n - s.k) + (if s.stop then 0 else 1) := by
  have h1 := cell_of_heap h 1
  have h2 := cell_of_heap h 7
  simp [Cu.cells] at h1 h2
  simp [leftOf, h1, h2]
theorem ref_Put (cell me : Int) (bc : Nat) (vlog : Value) (log : List Rs) (s : Cu) (w : World) (h : CurAt w bc vlog log s) :
    Calls Try.prog 51 #[.pointer (some ⟨bc, 0, none⟩), .int .i64 cell, .int .i64 me] w
      (CurPost w bc vlog log (.bool (curM (rPutM cell me) false log s).1) (curM (rPutM cell me) false log s).2) := by
  obtain ⟨R, hR⟩ : ∃ R, curM (rPutM cell me) false log s = R := ⟨_, rfl⟩
  rw [hR]
  have HR0 := Lib.hid hR
  have H0 := Lib.hid h
  clear hR h
  go_enter Try.func51, Try.ntmps51
  go_wp2_with fail
  go_loopw [7, 8, 9] (fun _ _ _ wr => ∃ s' : Cu, Keep (· = bc) w wr ∧ wr.heap[bc]? = some (.cells (s'.cells vlog) 103 (0, 0)) ∧ s'.k ≤ log.length ∧ curM (rPutM cell me) false log s' = R) (fun _ _ _ wr => leftOf log.length bc wr)
  case atStart => exact ⟨s, Keep.refl _ _, H0.out.at_, H0.out.le, HR0.out⟩
  case round =>
    obtain ⟨s', hK, hat, hle, hR⟩ := hrel
    have hlt := lt_of_heap hat
    have hc : ∀ i, wr.cell? ⟨bc, i, none⟩ = _ := cell_of_heap hat
    have HK := Lib.hid hK
    have HA := Lib.hid hat
    have HL := Lib.hid hle
    have HR := Lib.hid hR
    have HLe := Lib.hid (leftOf_eq (n := log.length) hat)
    have HC := Lib.hid (H0.out.keep hK hat hle)
    clear hK hat hle hR
    obtain ⟨k, ask, stop⟩ := s'
    cases stop
    · go_wp2_with fail
      refine (cur_Load cell bc vlog log ⟨k, ask, false⟩ wr HC.out).mono ?_
      rintro e w1 ⟨rfl, hk1, ha1, hl1⟩
      have HK1 := Lib.hid (HK.out.trans hk1)
      have HC1 := Lib.hid (HC.out.keep hk1 ha1 hl1)
      have HA1 := Lib.hid ha1
      clear hk1 ha1 hl1 hc
      cases hg : log[k]? with
      | none =>
        have HG := Lib.hid hg
        have e1 : curDo log ⟨k, ask, false⟩ (accLoad cell) = (⟨0, false⟩, ⟨k, accLoad cell, true⟩) := by simp [curDo, hg]
        rw [e1] at HA1 HC1 ⊢
        have hz := rIn_zero me
        clear hg e1
        go_wp2_with fail
        refine (ref_In 0 me _).mono ?_
        rintro e w2 ⟨rfl, rfl⟩
        go_wp2_with fail
        refine (ref_With 0 me _).mono ?_
        rintro e w2 ⟨rfl, rfl⟩
        go_wp2_with fail
        refine (cur_Cas cell 0 (rWith 0 me) bc vlog log ⟨k, accLoad cell, true⟩ _ HC1.out).mono ?_
        rintro e w3 ⟨rfl, hk3, ha3, hl3⟩
        have e3 : curDo log ⟨k, accLoad cell, true⟩ (accCas cell 0 (rWith 0 me)) = (⟨0, false⟩, ⟨k, accLoad cell, true⟩) := rfl
        rw [e3] at ha3 hl3 ⊢
        have HK3 := Lib.hid (HK1.out.trans hk3)
        have HA3 := Lib.hid ha3
        have HL3 := Lib.hid hl3
        have HLe3 := Lib.hid (leftOf_eq (n := log.length) ha3)
        clear hk3 ha3 hl3 e3 hz
        go_wp2_with fail
        go_roundw
        case rel =>
          refine ⟨⟨k, accLoad cell, true⟩, HK3.out, HA3.out, HL3.out, ?_⟩
          rw [← HR.out, curM_err (p := rPutM cell me) (goesL_none HG.out), curM_stop]
          have h1 := HL.out
          have h2 := List.getElem?_eq_none_iff.1 HG.out
          try simp only at h1
          rw [show log.length = k by omega]
        case measure => rw [HLe3.out, HLe.out]; simp
      | some r =>
        have HG := Lib.hid hg
        have e1 : curDo log ⟨k, ask, false⟩ (accLoad cell) = (r, ⟨k + 1, ask, false⟩) := by simp [curDo, hg]
        rw [e1] at HA1 HC1 ⊢
        clear hg e1
        cases hin : rIn r.val me
        · have HIN := Lib.hid hin
          go_wp2_with fail
          refine (ref_In r.val me _).mono ?_
          rintro e w2 ⟨rfl, rfl⟩
          rw [HIN.out]
          clear hin
          go_wp2_with fail
          refine (ref_With r.val me _).mono ?_
          rintro e w2 ⟨rfl, rfl⟩
          go_wp2_with fail
          refine (cur_Cas cell r.val (rWith r.val me) bc vlog log ⟨k + 1, ask, false⟩ _ HC1.out).mono ?_
          rintro e w3 ⟨rfl, hk3, ha3, hl3⟩
          have HK3 := Lib.hid (HK1.out.trans hk3)
          clear hk3
          cases hg2 : log[k + 1]? with
          | none =>
            have HG2 := Lib.hid hg2
            have e3 : curDo log ⟨k + 1, ask, false⟩ (accCas cell r.val (rWith r.val me)) = (⟨0, false⟩, ⟨k + 1, accCas cell r.val (rWith r.val me), true⟩) := by simp [curDo, hg2]
            rw [e3] at ha3 hl3 ⊢
            have HA3 := Lib.hid ha3
            have HL3 := Lib.hid hl3
            have HLe3 := Lib.hid (leftOf_eq (n := log.length) ha3)
            clear hg2 e3 ha3 hl3
            go_wp2_with fail
            go_roundw
            case rel =>
              refine ⟨⟨k + 1, accCas cell r.val (rWith r.val me), true⟩, HK3.out, HA3.out, HL3.out, ?_⟩
              rw [← HR.out, curM_err (p := rPutM cell me) (goesL_stop HG.out HIN.out HG2.out), curM_stop]
              have h1 := HL3.out
              have h2 := List.getElem?_eq_none_iff.1 HG2.out
              try simp only at h1
              rw [show log.length = k + 1 by omega]
            case measure => rw [HLe3.out, HLe.out]; have := (List.getElem?_eq_some_iff.1 HG.out).1; simp; omega
          | some q =>
            have HG2 := Lib.hid hg2
            have e3 : curDo log ⟨k + 1, ask, false⟩ (accCas cell r.val (rWith r.val me)) = (q, ⟨k + 1 + 1, ask, false⟩) := by simp [curDo, hg2]
            rw [e3] at ha3 hl3 ⊢
            have HA3 := Lib.hid ha3
            have HL3 := Lib.hid hl3
            have HLe3 := Lib.hid (leftOf_eq (n := log.length) ha3)
            clear hg2 e3 ha3 hl3
            cases hok : q.ok
            · have HOK := Lib.hid hok
              go_wp2_with fail
              go_roundw
              case rel =>
                refine ⟨⟨k + 1 + 1, ask, false⟩, HK3.out, HA3.out, HL3.out, ?_⟩
                rw [← HR.out]
                exact (curM_same (p := rPutM cell me) (goesL_again HG.out HIN.out HG2.out HOK.out)).symm
              case measure => rw [HLe3.out, HLe.out]; have := (List.getElem?_eq_some_iff.1 HG2.out).1; simp; omega
            · have HOK := Lib.hid hok
              go_wp2
              go_ret
              have hfin := HR.out
              rw [curM_ok (p := rPutM cell me) (goesL_done HG.out HIN.out HG2.out HOK.out)] at hfin
              subst hfin
              exact ⟨rfl, HK3.out, HA3.out, HL3.out⟩
        · have HIN := Lib.hid hin
          go_wp2_with fail
          refine (ref_In r.val me _).mono ?_
          rintro e w2 ⟨rfl, rfl⟩
          rw [HIN.out]
          clear hin
          go_wp2
          go_ret
          have hfin := HR.out
          rw [curM_ok (p := rPutM cell me) (goesL_end HG.out HIN.out)] at hfin
          subst hfin
          exact ⟨rfl, HK1.out, HA1.out, HC1.out.le⟩
    · go_wp2
      go_ret
      have hfin := HR.out
      rw [curM_stop] at hfin
      subst hfin
      exact ⟨rfl, HK.out, HA.out, HL.out⟩
theorem ref_Out (cell me : Int) (bc : Nat) (vlog : Value) (log : List Rs) (s : Cu) (w : World) (h : CurAt w bc vlog log s) :
    Calls Try.prog 52 #[.pointer (some ⟨bc, 0, none⟩), .int .i64 cell, .int .i64 me] w
      (CurPost w bc vlog log (.bool (curM (rOutM cell me) false log s).1) (curM (rOutM cell me) false log s).2) := by
  obtain ⟨R, hR⟩ : ∃ R, curM (rOutM cell me) false log s = R := ⟨_, rfl⟩
  rw [hR]
  have HR0 := Lib.hid hR
  have H0 := Lib.hid h
  clear hR h
  go_enter Try.func52, Try.ntmps52
  go_wp2_with fail
  go_loopw [7, 8, 9] (fun _ _ _ wr => ∃ s' : Cu, Keep (· = bc) w wr ∧ wr.heap[bc]? = some (.cells (s'.cells vlog) 103 (0, 0)) ∧ s'.k ≤ log.length ∧ curM (rOutM cell me) false log s' = R) (fun _ _ _ wr => leftOf log.length bc wr)
  case atStart => exact ⟨s, Keep.refl _ _, H0.out.at_, H0.out.le, HR0.out⟩
  case round =>
    obtain ⟨s', hK, hat, hle, hR⟩ := hrel
    have hlt := lt_of_heap hat
    have hc : ∀ i, wr.cell? ⟨bc, i, none⟩ = _ := cell_of_heap hat
    have HK := Lib.hid hK
    have HA := Lib.hid hat
    have HL := Lib.hid hle
    have HR := Lib.hid hR
    have HLe := Lib.hid (leftOf_eq (n := log.length) hat)
    have HC := Lib.hid (H0.out.keep hK hat hle)
    clear hK hat hle hR
    obtain ⟨k, ask, stop⟩ := s'
    cases stop
    · go_wp2_with fail
      refine (cur_Load cell bc vlog log ⟨k, ask, false⟩ wr HC.out).mono ?_
      rintro e w1 ⟨rfl, hk1, ha1, hl1⟩
      have HK1 := Lib.hid (HK.out.trans hk1)
      have HC1 := Lib.hid (HC.out.keep hk1 ha1 hl1)
      have HA1 := Lib.hid ha1
      clear hk1 ha1 hl1 hc
      cases hg : log[k]? with
      | none =>
        have HG := Lib.hid hg
        have e1 : curDo log ⟨k, ask, false⟩ (accLoad cell) = (⟨0, false⟩, ⟨k, accLoad cell, true⟩) := by simp [curDo, hg]
        rw [e1] at HA1 HC1 ⊢
        have hz := rIn_zero me
        clear hg e1
        go_wp2_with fail
        refine (ref_In 0 me _).mono ?_
        rintro e w2 ⟨rfl, rfl⟩
        go_wp2
        go_ret
        have hfin := HR.out
        rw [curM_err (p := rOutM cell me) (goesL_none HG.out)] at hfin
        have h1 := HL.out
        have h2 := List.getElem?_eq_none_iff.1 HG.out
        try simp only at h1
        rw [show log.length = k by omega] at hfin
        subst hfin
        exact ⟨rfl, HK1.out, HA1.out, HC1.out.le⟩
      | some r =>
        have HG := Lib.hid hg
        have e1 : curDo log ⟨k, ask, false⟩ (accLoad cell) = (r, ⟨k + 1, ask, false⟩) := by simp [curDo, hg]
        rw [e1] at HA1 HC1 ⊢
        clear hg e1
        cases hin : rIn r.val me
        · have HIN := Lib.hid (show (!rIn r.val me) = true by rw [hin]; rfl)
          have HIN0 := Lib.hid hin
          go_wp2_with fail
          refine (ref_In r.val me _).mono ?_
          rintro e w2 ⟨rfl, rfl⟩
          rw [HIN0.out]
          clear hin
          go_wp2
          go_ret
          have hfin := HR.out
          rw [curM_ok (p := rOutM cell me) (goesL_end HG.out HIN.out)] at hfin
          subst hfin
          exact ⟨rfl, HK1.out, HA1.out, HC1.out.le⟩
        · have HIN := Lib.hid (show (!rIn r.val me) = false by rw [hin]; rfl)
          have HIN0 := Lib.hid hin
          go_wp2_with fail
          refine (ref_In r.val me _).mono ?_
          rintro e w2 ⟨rfl, rfl⟩
          rw [HIN0.out]
          clear hin
          go_wp2_with fail
          refine (ref_Without r.val me _).mono ?_
          rintro e w2 ⟨rfl, rfl⟩
          go_wp2_with fail
          refine (cur_Cas cell r.val (rWithout r.val me) bc vlog log ⟨k + 1, ask, false⟩ _ HC1.out).mono ?_
          rintro e w3 ⟨rfl, hk3, ha3, hl3⟩
          have HK3 := Lib.hid (HK1.out.trans hk3)
          clear hk3
          cases hg2 : log[k + 1]? with
          | none =>
            have HG2 := Lib.hid hg2
            have e3 : curDo log ⟨k + 1, ask, false⟩ (accCas cell r.val (rWithout r.val me)) = (⟨0, false⟩, ⟨k + 1, accCas cell r.val (rWithout r.val me), true⟩) := by simp [curDo, hg2]
            rw [e3] at ha3 hl3 ⊢
            have HA3 := Lib.hid ha3
            have HL3 := Lib.hid hl3
            have HLe3 := Lib.hid (leftOf_eq (n := log.length) ha3)
            clear hg2 e3 ha3 hl3
            go_wp2_with fail
            go_roundw
            case rel =>
              refine ⟨⟨k + 1, accCas cell r.val (rWithout r.val me), true⟩, HK3.out, HA3.out, HL3.out, ?_⟩
              rw [← HR.out, curM_err (p := rOutM cell me) (goesL_stop HG.out HIN.out HG2.out), curM_stop]
              have h1 := HL3.out
              have h2 := List.getElem?_eq_none_iff.1 HG2.out
              try simp only at h1
              rw [show log.length = k + 1 by omega]
            case measure => rw [HLe3.out, HLe.out]; have := (List.getElem?_eq_some_iff.1 HG.out).1; simp; omega
          | some q =>
            have HG2 := Lib.hid hg2
            have e3 : curDo log ⟨k + 1, ask, false⟩ (accCas cell r.val (rWithout r.val me)) = (q, ⟨k + 1 + 1, ask, false⟩) := by simp [curDo, hg2]
            rw [e3] at ha3 hl3 ⊢
            have HA3 := Lib.hid ha3
            have HL3 := Lib.hid hl3
            have HLe3 := Lib.hid (leftOf_eq (n := log.length) ha3)
            clear hg2 e3 ha3 hl3
            cases hok : q.ok
            · have HOK := Lib.hid hok
              go_wp2_with fail
              go_roundw
              case rel =>
                refine ⟨⟨k + 1 + 1, ask, false⟩, HK3.out, HA3.out, HL3.out, ?_⟩
                rw [← HR.out]
                exact (curM_same (p := rOutM cell me) (goesL_again HG.out HIN.out HG2.out HOK.out)).symm
              case measure => rw [HLe3.out, HLe.out]; have := (List.getElem?_eq_some_iff.1 HG2.out).1; simp; omega
            · have HOK := Lib.hid hok
              go_wp2
              go_ret
              have hfin := HR.out
              rw [curM_ok (p := rOutM cell me) (goesL_done HG.out HIN.out HG2.out HOK.out)] at hfin
              subst hfin
              exact ⟨rfl, HK3.out, HA3.out, HL3.out⟩
    · go_wp2
      go_ret
      have hfin := HR.out
      rw [curM_stop] at hfin
      subst hfin
      exact ⟨rfl, HK.out, HA.out, HL.out⟩
end Go.Proofs.Ytpfibcbeenogiaa
