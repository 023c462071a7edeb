/- The functions of package word and of its reference, walked: what each returns. No conditions. -/
import Derived.Test.YtpfibcbeenogiaaBase
import Derived.Test.YtpfibcbeenogiaaProg
namespace Go.Proofs.Ytpfibcbeenogiaa
open Go.RowKit
set_option linter.unusedSimpArgs false
set_option linter.unusedVariables false
def wBit (t : Int) : Int := if t < 0 ∨ 62 ≤ t then 0 else wrap64 (2 ^ t.toNat)
theorem word_Bit (t : Int) (w : World) : Calls Try.prog 107 #[.int .i64 t] w fun e w' => e = .returned (.int .i64 (wBit t)) ∧ w = w' := by
  by_cases h0 : t < 0
  · go_enter Try.func107, Try.ntmps107
    go_wp2
    go_ret
    exact ⟨by simp [wBit, h0], rfl⟩
  · by_cases h2 : 62 ≤ t
    · go_enter Try.func107, Try.ntmps107
      go_wp2
      go_ret
      exact ⟨by simp [wBit, h2], rfl⟩
    · go_enter Try.func107, Try.ntmps107
      go_wp2
      go_ret
      exact ⟨by rw [wBit, if_neg (by omega)]; rfl, rfl⟩
def wIn (m t : Int) : Bool := bits .and .i64 m (wBit t) != 0
theorem word_has (m t : Int) (w : World) : Calls Try.prog 98 #[.int .i64 m, .int .i64 t] w fun e w' => e = .returned (.bool (wIn m t)) ∧ w = w' := by
  go_enter Try.func98, Try.ntmps98
  go_wp2_with (go_at_call 107; refine (word_Bit _ _).mono ?_; rintro e w' ⟨rfl, rfl⟩)
  go_ret
  exact ⟨rfl, rfl⟩
theorem word_In (m t : Int) (w : World) : Calls Try.prog 67 #[.int .i64 m, .int .i64 t] w fun e w' => e = .returned (.bool (wIn m t)) ∧ w = w' := by
  go_enter Try.func67, Try.ntmps67
  go_wp2_with (go_at_call 98; refine (word_has _ _ _).mono ?_; rintro e w' ⟨rfl, rfl⟩)
  go_ret
  exact ⟨rfl, rfl⟩
def wWith (m t : Int) : Int := bits .or .i64 m (wBit t)
theorem word_with (m t : Int) (w : World) : Calls Try.prog 101 #[.int .i64 m, .int .i64 t] w fun e w' => e = .returned (.int .i64 (wWith m t)) ∧ w = w' := by
  go_enter Try.func101, Try.ntmps101
  go_wp2_with (go_at_call 107; refine (word_Bit _ _).mono ?_; rintro e w' ⟨rfl, rfl⟩)
  go_ret
  exact ⟨rfl, rfl⟩
theorem word_With (m t : Int) (w : World) : Calls Try.prog 79 #[.int .i64 m, .int .i64 t] w fun e w' => e = .returned (.int .i64 (wWith m t)) ∧ w = w' := by
  go_enter Try.func79, Try.ntmps79
  go_wp2_with (go_at_call 101; refine (word_with _ _ _).mono ?_; rintro e w' ⟨rfl, rfl⟩)
  go_ret
  exact ⟨rfl, rfl⟩
def wWithout (m t : Int) : Int := bits .andNot .i64 m (wBit t)
theorem word_without (m t : Int) (w : World) : Calls Try.prog 103 #[.int .i64 m, .int .i64 t] w fun e w' => e = .returned (.int .i64 (wWithout m t)) ∧ w = w' := by
  go_enter Try.func103, Try.ntmps103
  go_wp2_with (go_at_call 107; refine (word_Bit _ _).mono ?_; rintro e w' ⟨rfl, rfl⟩)
  go_ret
  exact ⟨rfl, rfl⟩
theorem word_Without (m t : Int) (w : World) : Calls Try.prog 82 #[.int .i64 m, .int .i64 t] w fun e w' => e = .returned (.int .i64 (wWithout m t)) ∧ w = w' := by
  go_enter Try.func82, Try.ntmps82
  go_wp2_with (go_at_call 103; refine (word_without _ _ _).mono ?_; rintro e w' ⟨rfl, rfl⟩)
  go_ret
  exact ⟨rfl, rfl⟩
theorem word_Free (v : Int) (w : World) : Calls Try.prog 108 #[.int .i64 v] w fun e w' => e = .returned (.int .i64 (wrap64 (v * 2))) ∧ w = w' := by
  go_enter Try.func108, Try.ntmps108
  go_wp2
  go_ret
  exact ⟨rfl, rfl⟩
theorem word_Locked (v : Int) (w : World) : Calls Try.prog 109 #[.int .i64 v] w fun e w' => e = .returned (.bool (bits .and .i64 v 1 == 1)) ∧ w = w' := by
  go_enter Try.func109, Try.ntmps109
  go_wp2
  go_ret
  exact ⟨rfl, rfl⟩
theorem word_Who (v : Int) (w : World) : Calls Try.prog 110 #[.int .i64 v] w fun e w' => e = .returned (.int .i64 (v / 2)) ∧ w = w' := by
  go_enter Try.func110, Try.ntmps110
  go_wp2
  go_ret
  exact ⟨rfl, rfl⟩
end Go.Proofs.Ytpfibcbeenogiaa
