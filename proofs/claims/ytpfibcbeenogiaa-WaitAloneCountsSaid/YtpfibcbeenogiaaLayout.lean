/- The functions of package layout and of its reference that tell a cell, walked. No conditions. -/
import Derived.Test.YtpfibcbeenogiaaBase
import Derived.Test.YtpfibcbeenogiaaProg
namespace Go.Proofs.Ytpfibcbeenogiaa
open Go.RowKit
set_option linter.unusedSimpArgs false
set_option linter.unusedVariables false
/-- The cell of part number n, or -1. -/
def cellP (base many n size at_ : Int) : Int := if n < 0 ∨ n ≥ many then -1 else wrap64 (wrap64 (base + wrap64 (size * n)) + at_)
theorem lay_place (from_ many n size at_ : Int) (b off c : Nat) (w : World) (h0 : w.cell? ⟨b, off, none⟩ = some (.int .i64 size)) (h1 : w.cell? ⟨b, off + 1, none⟩ = some (.int .i64 at_)) :
   Calls Try.prog 77 #[.int .i64 from_, .int .i64 many, .int .i64 n, .slice (some ⟨b, off, none⟩) 2 c] w fun e w' =>
    e = .returned (.int .i64 (cellP from_ many n size at_)) ∧ ∃ k, w' = w.drewN k := by
  by_cases hn : n < 0
  · go_enter Try.func77, Try.ntmps77
    go_wp2
    go_ret
    exact ⟨by rw [cellP, if_pos (by omega)]; rfl, 0, rfl⟩
  · by_cases hm : n ≥ many
    · go_enter Try.func77, Try.ntmps77
      go_wp2
      go_ret
      exact ⟨by rw [cellP, if_pos (by omega)]; rfl, 0, rfl⟩
    · go_enter Try.func77, Try.ntmps77
      go_wp2
      go_quiet (fail)
      go_wp2
      go_ret
      exact ⟨by rw [cellP, if_neg (by omega)]; rfl, _, rfl⟩
theorem lay_Readers (l : Lay) (n : Int) (w : World) : Calls Try.prog 45 #[l.v, .int .i64 n] w fun e w' => e = .returned (.int .i64 (cellP l.loc l.locs n 4 2)) ∧ Below w.heap.size w w' := by
  go_enter Try.func45, Try.ntmps45
  go_wp2_with (go_at_call 77; refine (lay_place _ _ _ 4 2 _ _ _ _ ?_ ?_).mono ?_; rotate_left 2; rintro e w1 ⟨rfl, k, rfl⟩)
  rotate_left
  all_goals first | (go_ret; exact ⟨rfl, by repeat (first | exact Below.refl _ _ | refine blw_alloc ?_ _ | refine blw_drewN ?_ _)⟩) | simp [go_sem]
theorem lay_Waiters (l : Lay) (n : Int) (w : World) : Calls Try.prog 48 #[l.v, .int .i64 n] w fun e w' => e = .returned (.int .i64 (cellP l.loc l.locs n 4 3)) ∧ Below w.heap.size w w' := by
  go_enter Try.func48, Try.ntmps48
  go_wp2_with (go_at_call 77; refine (lay_place _ _ _ 4 3 _ _ _ _ ?_ ?_).mono ?_; rotate_left 2; rintro e w1 ⟨rfl, k, rfl⟩)
  rotate_left
  all_goals first | (go_ret; exact ⟨rfl, by repeat (first | exact Below.refl _ _ | refine blw_alloc ?_ _ | refine blw_drewN ?_ _)⟩) | simp [go_sem]
theorem lay_Word (l : Lay) (n : Int) (w : World) : Calls Try.prog 88 #[l.v, .int .i64 n] w fun e w' => e = .returned (.int .i64 (cellP l.loc l.locs n 4 0)) ∧ Below w.heap.size w w' := by
  go_enter Try.func88, Try.ntmps88
  go_wp2_with (go_at_call 77; refine (lay_place _ _ _ 4 0 _ _ _ _ ?_ ?_).mono ?_; rotate_left 2; rintro e w1 ⟨rfl, k, rfl⟩)
  rotate_left
  all_goals first | (go_ret; exact ⟨rfl, by repeat (first | exact Below.refl _ _ | refine blw_alloc ?_ _ | refine blw_drewN ?_ _)⟩) | simp [go_sem]
theorem lay_Status (l : Lay) (n : Int) (w : World) : Calls Try.prog 49 #[l.v, .int .i64 n] w fun e w' => e = .returned (.int .i64 (cellP l.thd l.thr n 4 0)) ∧ Below w.heap.size w w' := by
  go_enter Try.func49, Try.ntmps49
  go_wp2_with (go_at_call 77; refine (lay_place _ _ _ 4 0 _ _ _ _ ?_ ?_).mono ?_; rotate_left 2; rintro e w1 ⟨rfl, k, rfl⟩)
  rotate_left
  all_goals first | (go_ret; exact ⟨rfl, by repeat (first | exact Below.refl _ _ | refine blw_alloc ?_ _ | refine blw_drewN ?_ _)⟩) | simp [go_sem]
theorem lay_Wake (l : Lay) (n : Int) (w : World) : Calls Try.prog 68 #[l.v, .int .i64 n] w fun e w' => e = .returned (.int .i64 (cellP l.thd l.thr n 4 2)) ∧ Below w.heap.size w w' := by
  go_enter Try.func68, Try.ntmps68
  go_wp2_with (go_at_call 77; refine (lay_place _ _ _ 4 2 _ _ _ _ ?_ ?_).mono ?_; rotate_left 2; rintro e w1 ⟨rfl, k, rfl⟩)
  rotate_left
  all_goals first | (go_ret; exact ⟨rfl, by repeat (first | exact Below.refl _ _ | refine blw_alloc ?_ _ | refine blw_drewN ?_ _)⟩) | simp [go_sem]
theorem ref_thread (l : Lay) (n i : Int) (w : World) : Calls Try.prog 73 #[l.v, .int .i64 n, .int .i64 i] w fun e w' => e = .returned (.int .i64 (cellP l.thd l.thr n 4 i)) ∧ Below w.heap.size w w' := by
  by_cases hn : n < 0
  · go_enter Try.func73, Try.ntmps73
    go_wp2
    go_ret
    exact ⟨by rw [cellP, if_pos (by omega)]; rfl, by repeat (first | exact Below.refl _ _ | refine blw_alloc ?_ _)⟩
  · by_cases hm : n ≥ l.thr
    · go_enter Try.func73, Try.ntmps73
      go_wp2
      go_ret
      exact ⟨by rw [cellP, if_pos (by omega)]; rfl, by repeat (first | exact Below.refl _ _ | refine blw_alloc ?_ _)⟩
    · go_enter Try.func73, Try.ntmps73
      go_wp2
      go_ret
      exact ⟨by rw [cellP, if_neg (by omega)]; rfl, by repeat (first | exact Below.refl _ _ | refine blw_alloc ?_ _)⟩
theorem ref_loc (l : Lay) (n i : Int) (w : World) : Calls Try.prog 57 #[l.v, .int .i64 n, .int .i64 i] w fun e w' => e = .returned (.int .i64 (cellP l.loc l.locs n 4 i)) ∧ Below w.heap.size w w' := by
  by_cases hn : n < 0
  · go_enter Try.func57, Try.ntmps57
    go_wp2
    go_ret
    exact ⟨by rw [cellP, if_pos (by omega)]; rfl, by repeat (first | exact Below.refl _ _ | refine blw_alloc ?_ _)⟩
  · by_cases hm : n ≥ l.locs
    · go_enter Try.func57, Try.ntmps57
      go_wp2
      go_ret
      exact ⟨by rw [cellP, if_pos (by omega)]; rfl, by repeat (first | exact Below.refl _ _ | refine blw_alloc ?_ _)⟩
    · go_enter Try.func57, Try.ntmps57
      go_wp2
      go_ret
      exact ⟨by rw [cellP, if_neg (by omega)]; rfl, by repeat (first | exact Below.refl _ _ | refine blw_alloc ?_ _)⟩
theorem ref_Readers (l : Lay) (n : Int) (w : World) : Calls Try.prog 21 #[l.v, .int .i64 n] w fun e w' => e = .returned (.int .i64 (cellP l.loc l.locs n 4 2)) ∧ Below w.heap.size w w' := by
  go_enter Try.func21, Try.ntmps21
  go_wp2_with (go_at_call 57; refine (ref_loc l _ _ _).mono ?_; rintro e w1 ⟨rfl, hb⟩)
  go_ret
  exact ⟨rfl, by refine blw_then ?_ hb; repeat (first | exact Below.refl _ _ | refine blw_alloc ?_ _)⟩
theorem ref_Waiters (l : Lay) (n : Int) (w : World) : Calls Try.prog 22 #[l.v, .int .i64 n] w fun e w' => e = .returned (.int .i64 (cellP l.loc l.locs n 4 3)) ∧ Below w.heap.size w w' := by
  go_enter Try.func22, Try.ntmps22
  go_wp2_with (go_at_call 57; refine (ref_loc l _ _ _).mono ?_; rintro e w1 ⟨rfl, hb⟩)
  go_ret
  exact ⟨rfl, by refine blw_then ?_ hb; repeat (first | exact Below.refl _ _ | refine blw_alloc ?_ _)⟩
theorem ref_Word (l : Lay) (n : Int) (w : World) : Calls Try.prog 38 #[l.v, .int .i64 n] w fun e w' => e = .returned (.int .i64 (cellP l.loc l.locs n 4 0)) ∧ Below w.heap.size w w' := by
  go_enter Try.func38, Try.ntmps38
  go_wp2_with (go_at_call 57; refine (ref_loc l _ _ _).mono ?_; rintro e w1 ⟨rfl, hb⟩)
  go_ret
  exact ⟨rfl, by refine blw_then ?_ hb; repeat (first | exact Below.refl _ _ | refine blw_alloc ?_ _)⟩
theorem ref_Status (l : Lay) (n : Int) (w : World) : Calls Try.prog 50 #[l.v, .int .i64 n] w fun e w' => e = .returned (.int .i64 (cellP l.thd l.thr n 4 0)) ∧ Below w.heap.size w w' := by
  go_enter Try.func50, Try.ntmps50
  go_wp2_with (go_at_call 73; refine (ref_thread l _ _ _).mono ?_; rintro e w1 ⟨rfl, hb⟩)
  go_ret
  exact ⟨rfl, by refine blw_then ?_ hb; repeat (first | exact Below.refl _ _ | refine blw_alloc ?_ _)⟩
theorem ref_Wake (l : Lay) (n : Int) (w : World) : Calls Try.prog 42 #[l.v, .int .i64 n] w fun e w' => e = .returned (.int .i64 (cellP l.thd l.thr n 4 2)) ∧ Below w.heap.size w w' := by
  go_enter Try.func42, Try.ntmps42
  go_wp2_with (go_at_call 73; refine (ref_thread l _ _ _).mono ?_; rintro e w1 ⟨rfl, hb⟩)
  go_ret
  exact ⟨rfl, by refine blw_then ?_ hb; repeat (first | exact Below.refl _ _ | refine blw_alloc ?_ _)⟩
end Go.Proofs.Ytpfibcbeenogiaa
