/- The functions of the reference of package word, walked: what each returns. No conditions but a divisor that is not 0. -/
import Derived.Test.YtpfibcbeenogiaaBase
import Derived.Test.YtpfibcbeenogiaaProg
namespace Go.Proofs.Ytpfibcbeenogiaa
open Go.RowKit
set_option linter.unusedSimpArgs false
set_option linter.unusedVariables false
def rMod (m n : Int) : Int := if m.tmod n < 0 then wrap64 (m.tmod n + n) else m.tmod n
def rDown (m n : Int) : Int := wrap64 ((wrap64 (m - rMod m n)).tdiv n)
theorem ref_mod (m n : Int) (hn : ¬ n = 0) (w : World) : Calls Try.prog 58 #[.int .i64 m, .int .i64 n] w fun e w' => e = .returned (.int .i64 (rMod m n)) ∧ w = w' := by
  by_cases h : m.tmod n < 0
  · go_enter Try.func58, Try.ntmps58
    go_wp2
    go_ret
    exact ⟨by simp [rMod, h], rfl⟩
  · go_enter Try.func58, Try.ntmps58
    go_wp2
    go_ret
    exact ⟨by rw [rMod, if_neg (by omega)]; rfl, rfl⟩
theorem ref_down (m n : Int) (hn : ¬ n = 0) (w : World) : Calls Try.prog 59 #[.int .i64 m, .int .i64 n] w fun e w' => e = .returned (.int .i64 (rDown m n)) ∧ w = w' := by
  go_enter Try.func59, Try.ntmps59
  go_wp2_with (go_at_call 58; refine (ref_mod _ _ hn _).mono ?_; rintro e w' ⟨rfl, rfl⟩)
  go_ret
  exact ⟨rfl, rfl⟩
def rBit (t : Int) : Int := if t < 0 ∨ 61 < t then 0 else 2 ^ t.toNat
theorem pow_small {k : Nat} (h : k ≤ 61) : (2 : Int) ^ k ≤ 2305843009213693952 := by
  have h1 : (2 : Nat) ^ k ≤ 2 ^ 61 := Nat.pow_le_pow_right (by omega) h
  have h2 : ((2 : Nat) ^ k : Nat) ≤ 2305843009213693952 := Nat.le_trans h1 (by decide)
  have h3 : (((2 : Nat) ^ k : Nat) : Int) = (2 : Int) ^ k := by simp
  omega
theorem wrap_twice {k : Nat} (h : k < 61) : wrap64 (2 * 2 ^ k) = 2 ^ (k + 1) := by
  have h1 := pow_small (k := k) (by omega)
  have h0 : (0 : Int) ≤ 2 ^ k := Int.pow_nonneg (by omega)
  rw [Int.pow_succ]
  unfold wrap64
  omega
theorem ref_Bit (t : Int) (w : World) : Calls Try.prog 23 #[.int .i64 t] w fun e w' => e = .returned (.int .i64 (rBit t)) ∧ w = w' := by
  by_cases h0 : t < 0
  · go_enter Try.func23, Try.ntmps23
    go_wp2
    go_ret
    exact ⟨by simp [rBit, h0], rfl⟩
  · by_cases h2 : 61 < t
    · go_enter Try.func23, Try.ntmps23
      go_wp2
      go_ret
      exact ⟨by simp [rBit, h2], rfl⟩
    · obtain ⟨n, rfl⟩ := Int.eq_ofNat_of_zero_le (show 0 ≤ t by omega)
      have hb : rBit (n : Int) = 2 ^ n := by unfold rBit; rw [if_neg (by omega)]; simp
      rw [hb]
      clear hb
      have hd1 : decide ((n : Int) < 0) = false := by simp
      have hd2 : decide ((n : Int) > 61) = false := by simp; omega
      go_enter Try.func23, Try.ntmps23
      go_wp2
      go_loop [3, 4] (fun v i => ∃ k : Nat, k ≤ n ∧ i = .int .i64 k ∧ v = .int .i64 (2 ^ k)) (fun _ i => n - (intOf i).toNat)
      case atStart => exact ⟨0, Nat.zero_le _, rfl, rfl⟩
      case round =>
        obtain ⟨k, hk, rfl, rfl⟩ := hrel
        by_cases hlt : k < n
        · have hw := wrap_twice (k := k) (by omega)
          go_wp2
          go_round
          case rel => exact ⟨k + 1, by omega, by go_num, by rw [hw]⟩
          case measure => simp [intOf]; omega
        · obtain rfl : k = n := by omega
          go_wp2
          go_ret
          exact ⟨rfl, rfl⟩
theorem rBit_ne {t : Int} (h : ¬ rBit t = 0) : 0 ≤ t ∧ t ≤ 61 ∧ rBit t = 2 ^ t.toNat := by
  unfold rBit at *
  split at h
  · exact absurd rfl h
  · rename_i hh; rw [if_neg hh]; exact ⟨by omega, by omega, rfl⟩
def rIn (m t : Int) : Bool := if rBit t = 0 then false else rMod (rDown m (rBit t)) 2 == 1
theorem ref_In (m t : Int) (w : World) : Calls Try.prog 26 #[.int .i64 m, .int .i64 t] w fun e w' => e = .returned (.bool (rIn m t)) ∧ w = w' := by
  by_cases h : rBit t = 0
  · have hb : (rBit t == 0) = true := by simp [h]
    have H : rIn m t = false := by simp [rIn, h]
    rw [H]
    clear H h
    go_enter Try.func26, Try.ntmps26
    go_wp2_with (go_at_call 23; refine (ref_Bit _ _).mono ?_; rintro e w' ⟨rfl, rfl⟩)
    go_ret
    exact ⟨rfl, rfl⟩
  · have hb : (rBit t == 0) = false := by simp [h]
    have H : rIn m t = (rMod (rDown m (rBit t)) 2 == 1) := by simp [rIn, h]
    rw [H]
    clear H
    go_enter Try.func26, Try.ntmps26
    go_wp2_with (first | (go_at_call 23; refine (ref_Bit _ _).mono ?_; rintro e w' ⟨rfl, rfl⟩) | (go_at_call 59; refine (ref_down _ _ h _).mono ?_; rintro e w' ⟨rfl, rfl⟩) | (go_at_call 58; refine (ref_mod _ _ (by decide) _).mono ?_; rintro e w' ⟨rfl, rfl⟩))
    go_ret
    exact ⟨rfl, rfl⟩
def rWith (m t : Int) : Int := if rIn m t then m else wrap64 (m + rBit t)
def rWithout (m t : Int) : Int := if rIn m t then wrap64 (m - rBit t) else m
theorem ref_With (m t : Int) (w : World) : Calls Try.prog 84 #[.int .i64 m, .int .i64 t] w fun e w' => e = .returned (.int .i64 (rWith m t)) ∧ w = w' := by
  cases h : rIn m t
  all_goals
    have H := h
    go_enter Try.func84, Try.ntmps84
    go_wp2_with (first | (go_at_call 23; refine (ref_Bit _ _).mono ?_; rintro e w' ⟨rfl, rfl⟩) | (go_at_call 26; refine (ref_In _ _ _).mono ?_; rintro e w' ⟨rfl, rfl⟩))
    go_ret
    exact ⟨by simp [rWith, H], rfl⟩
theorem ref_Without (m t : Int) (w : World) : Calls Try.prog 85 #[.int .i64 m, .int .i64 t] w fun e w' => e = .returned (.int .i64 (rWithout m t)) ∧ w = w' := by
  cases h : rIn m t
  all_goals
    have H := h
    go_enter Try.func85, Try.ntmps85
    go_wp2_with (first | (go_at_call 23; refine (ref_Bit _ _).mono ?_; rintro e w' ⟨rfl, rfl⟩) | (go_at_call 26; refine (ref_In _ _ _).mono ?_; rintro e w' ⟨rfl, rfl⟩))
    go_ret
    exact ⟨by simp [rWithout, H], rfl⟩
theorem ref_Free (v : Int) (w : World) : Calls Try.prog 95 #[.int .i64 v] w fun e w' => e = .returned (.int .i64 (wrap64 (2 * v))) ∧ w = w' := by
  go_enter Try.func95, Try.ntmps95
  go_wp2
  go_ret
  exact ⟨rfl, rfl⟩
theorem ref_Locked (v : Int) (w : World) : Calls Try.prog 96 #[.int .i64 v] w fun e w' => e = .returned (.bool (rMod v 2 == 1)) ∧ w = w' := by
  go_enter Try.func96, Try.ntmps96
  go_wp2_with (go_at_call 58; refine (ref_mod _ _ (by decide) _).mono ?_; rintro e w' ⟨rfl, rfl⟩)
  go_ret
  exact ⟨rfl, rfl⟩
theorem ref_Who (v : Int) (w : World) : Calls Try.prog 97 #[.int .i64 v] w fun e w' => e = .returned (.int .i64 (rDown v 2)) ∧ w = w' := by
  go_enter Try.func97, Try.ntmps97
  go_wp2_with (go_at_call 59; refine (ref_down _ _ (by decide) _).mono ?_; rintro e w' ⟨rfl, rfl⟩)
  go_ret
  exact ⟨rfl, rfl⟩
theorem ref_Held (v : Int) (w : World) : Calls Try.prog 100 #[.int .i64 v] w fun e w' => e = .returned (.int .i64 (wrap64 (wrap64 (2 * v) + 1))) ∧ w = w' := by
  go_enter Try.func100, Try.ntmps100
  go_wp2
  go_ret
  exact ⟨rfl, rfl⟩
end Go.Proofs.Ytpfibcbeenogiaa
