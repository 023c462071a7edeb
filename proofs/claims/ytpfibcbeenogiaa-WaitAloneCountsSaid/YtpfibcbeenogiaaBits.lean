/- Single bits of an int: the program's and the reference's readings agree. -/
import Derived.Test.YtpfibcbeenogiaaWord
import Derived.Test.YtpfibcbeenogiaaRefOne
namespace Go.Proofs.Ytpfibcbeenogiaa
open Go.RowKit
def I64 (m : Int) : Prop := -9223372036854775808 ≤ m ∧ m ≤ 9223372036854775807
/-- Bit t of m. -/
def bitOf (m : Int) (t : Nat) : Bool := decide (m / 2 ^ t % 2 = 1)
theorem pow_pos' (t : Nat) : (0 : Int) < 2 ^ t := Int.pow_pos (by decide)
theorem rMod_eq (m n : Int) (hn : 0 < n) (hn2 : n ≤ 2305843009213693952) : rMod m n = m % n := by
  have h1 := Int.emod_nonneg m (show n ≠ 0 by omega)
  have h2 := Int.emod_lt_of_pos m hn
  unfold rMod
  by_cases hm : 0 ≤ m
  · rw [Int.tmod_eq_emod_of_nonneg hm, if_neg (by omega)]
  · have h3 := Int.tmod_eq_emod (a := m) (b := n)
    have h4 : m.tmod n = if n ∣ m then m % n else m % n - n := by
      rw [h3]
      split
      · rename_i h
        rcases h with h | h
        · omega
        · rw [if_pos h]; simp
      · rename_i h
        rw [if_neg (fun hd => h (.inr hd)), Int.natAbs_of_nonneg (by omega)]
    rw [h4]
    by_cases hd : n ∣ m
    · rw [if_pos hd, if_neg (by omega)]
    · rw [if_neg hd]
      have h5 : m % n ≠ 0 := fun h => hd (Int.dvd_of_emod_eq_zero h)
      rw [if_pos (by omega)]
      rw [show m % n - n + n = m % n by omega]
      unfold wrap64
      omega
theorem wrap_in {n : Int} (h : I64 n) : wrap64 n = n := by
  unfold wrap64
  have := h.1
  have := h.2
  omega
theorem pow_split {t : Nat} (ht : t ≤ 63) : (2 : Int) ^ t * 2 ^ (63 - t) = 9223372036854775808 := by
  rw [← Int.pow_add, show t + (63 - t) = 63 by omega]
  rfl
theorem ediv_in {m : Int} (hm : I64 m) {t : Nat} (ht : t ≤ 61) : I64 (m / 2 ^ t) ∧ I64 (2 ^ t * (m / 2 ^ t)) := by
  have hp := pow_pos' t
  have hs := pow_split (t := t) (by omega)
  have h1 : -(2 ^ (63 - t)) ≤ m / 2 ^ t := by
    apply Int.le_ediv_of_mul_le hp
    rw [Int.neg_mul, Int.mul_comm, hs]
    exact hm.1
  have h2 : 2 ^ t * (m / 2 ^ t) ≤ m := Int.mul_ediv_self_le (by omega)
  have h3 : 2 ^ t * (-(2 ^ (63 - t))) ≤ 2 ^ t * (m / 2 ^ t) := Int.mul_le_mul_of_nonneg_left h1 (by omega)
  rw [Int.mul_neg, hs] at h3
  have hm1 := hm.1
  have hm2 := hm.2
  refine ⟨⟨?_, ?_⟩, ⟨h3, by omega⟩⟩
  · by_cases h0 : 0 ≤ m
    · have := Int.ediv_nonneg h0 (show (0 : Int) ≤ 2 ^ t by omega)
      omega
    · have h4 : 1 * (2 ^ (63 - t)) ≤ (2 : Int) ^ t * 2 ^ (63 - t) := Int.mul_le_mul_of_nonneg_right (by omega) (by have := pow_pos' (63 - t); omega)
      rw [hs] at h4
      omega
  · by_cases h0 : 0 ≤ m
    · have := Int.ediv_le_self (2 ^ t) h0
      omega
    · have := Int.ediv_neg_of_neg_of_pos (show m < 0 by omega) hp
      omega
theorem rDown_eq {m : Int} (hm : I64 m) {t : Nat} (ht : t ≤ 61) : rDown m (2 ^ t) = m / 2 ^ t := by
  have hp := pow_pos' t
  have hsm := pow_small ht
  obtain ⟨h1, h2⟩ := ediv_in hm ht
  have h3 : m - m % 2 ^ t = 2 ^ t * (m / 2 ^ t) := by
    have := Int.mul_ediv_add_emod m (2 ^ t)
    omega
  rw [rDown, rMod_eq m _ hp hsm, h3, wrap_in h2, Int.mul_tdiv_cancel_left _ (by omega), wrap_in h1]
theorem rIn_eq {m : Int} (hm : I64 m) {t : Nat} (ht : t ≤ 61) : rIn m t = bitOf m t := by
  have hb : rBit (t : Int) = 2 ^ t := by unfold rBit; rw [if_neg (by omega)]; simp
  have hp := pow_pos' t
  rw [rIn, hb, if_neg (by omega), rDown_eq hm ht, rMod_eq _ 2 (by omega) (by omega), bitOf]
  by_cases h : m / 2 ^ t % 2 = 1 <;> simp [h]
/-! the same in bit vectors -/
theorem bv_bit {m : Int} {t : Nat} (ht : t ≤ 61) : (BitVec.ofInt 64 m).getLsbD t = bitOf m t := by
  have hp := pow_pos' t
  have e : (BitVec.ofInt 64 m).toNat = (m % 18446744073709551616).toNat := by rw [BitVec.toNat_ofInt]; rfl
  have h0 : 0 ≤ m % 18446744073709551616 := Int.emod_nonneg m (by decide)
  rw [BitVec.getLsbD, e, Nat.testBit_eq_decide_div_mod_eq, bitOf]
  have hk : (2 : Int) ^ t * 2 ^ (64 - t) = 18446744073709551616 := by
    rw [← Int.pow_add, show t + (64 - t) = 64 by omega]
    rfl
  have h1 : (((m % 18446744073709551616).toNat / 2 ^ t % 2 : Nat) : Int) = m / 2 ^ t % 2 := by
    rw [Int.natCast_emod, Int.natCast_ediv, Int.toNat_of_nonneg h0]
    have h2 := Int.mul_ediv_add_emod m 18446744073709551616
    have h3 : m / 2 ^ t = (m % 18446744073709551616) / 2 ^ t + 2 ^ (64 - t) * (m / 18446744073709551616) := by
      conv => lhs; rw [← h2, ← hk, Int.mul_assoc, Int.add_comm, Int.add_mul_ediv_left _ _ (show (2 : Int) ^ t ≠ 0 by omega)]
      rw [hk]
    have h4 : (2 : Int) ^ (64 - t) = 2 * 2 ^ (63 - t) := by
      rw [show 64 - t = 63 - t + 1 by omega, Int.pow_succ, Int.mul_comm]
    rw [h3, h4, Int.mul_assoc]
    simp
  rw [Bool.eq_iff_iff]
  simp only [decide_eq_true_eq]
  omega
theorem wrap_toInt (X : BitVec 64) : IntKind.i64.wrap (X.toNat : Int) = X.toInt := by
  have h := X.isLt
  rw [BitVec.toInt_eq_toNat_cond]
  have e : IntKind.i64.wrap (X.toNat : Int) = if (X.toNat : Int) % 18446744073709551616 ≥ 9223372036854775808 then (X.toNat : Int) % 18446744073709551616 - 18446744073709551616 else (X.toNat : Int) % 18446744073709551616 := by
    simp [IntKind.wrap, IntKind.bits, IntKind.signed]
  rw [e, Int.emod_eq_of_lt (by omega) (by omega)]
  split <;> split <;> omega
theorem bits_and (x y : Int) : bits .and .i64 x y = (BitVec.ofInt 64 x &&& BitVec.ofInt 64 y).toInt := wrap_toInt _
theorem bits_or (x y : Int) : bits .or .i64 x y = (BitVec.ofInt 64 x ||| BitVec.ofInt 64 y).toInt := wrap_toInt _
theorem bits_andNot (x y : Int) : bits .andNot .i64 x y = (BitVec.ofInt 64 x &&& ~~~BitVec.ofInt 64 y).toInt := wrap_toInt _
theorem toInt_in (X : BitVec 64) : I64 X.toInt := by
  have h := X.isLt
  rw [BitVec.toInt_eq_toNat_cond]
  constructor <;> split <;> omega
theorem wBit_eq {t : Nat} (ht : t ≤ 61) : wBit t = 2 ^ t := by
  have := pow_small ht
  have := pow_pos' t
  rw [wBit, if_neg (by omega), Int.toNat_natCast, wrap_in ⟨by omega, by omega⟩]
theorem pow_bit {t : Nat} (ht : t ≤ 61) (j : Nat) : (BitVec.ofInt 64 (2 ^ t)).getLsbD j = decide (t = j) := by
  have h1 : (BitVec.ofInt 64 ((2 : Int) ^ t)).toNat = 2 ^ t := by
    have h2 := pow_small ht
    have h3 := pow_pos' t
    have h4 : ((2 ^ t : Nat) : Int) = 2 ^ t := by simp
    rw [BitVec.toNat_ofInt, ← h4]
    have h5 : (2 ^ t : Nat) ≤ 2305843009213693952 := by omega
    rw [show (((2 ^ t : Nat) : Int) % ((2 ^ 64 : Nat) : Int)) = ((2 ^ t : Nat) : Int) from Int.emod_eq_of_lt (by omega) (by omega)]
    rfl
  rw [BitVec.getLsbD, h1, Nat.testBit_two_pow]
theorem wIn_eq {m : Int} {t : Nat} (ht : t ≤ 61) : wIn m t = bitOf m t := by
  rw [wIn, wBit_eq ht, bits_and, ← bv_bit ht]
  cases h : (BitVec.ofInt 64 m).getLsbD t
  · have : BitVec.ofInt 64 m &&& BitVec.ofInt 64 (2 ^ t) = 0#64 := by
      apply BitVec.eq_of_getLsbD_eq
      intro j hj
      rw [BitVec.getLsbD_and, pow_bit ht]
      by_cases e : t = j
      · subst e; simp [h]
      · simp [e]
    rw [this]
    decide
  · have : (BitVec.ofInt 64 m &&& BitVec.ofInt 64 (2 ^ t)).toInt ≠ 0 := by
      intro e
      have e2 : BitVec.ofInt 64 m &&& BitVec.ofInt 64 (2 ^ t) = 0#64 := by rw [← BitVec.toInt_inj, e]; decide
      have e3 := congrArg (fun x => x.getLsbD t) e2
      simp only [BitVec.getLsbD_and, pow_bit ht, h] at e3
      simp at e3
    simpa using this
theorem bitOf_toInt (X : BitVec 64) {j : Nat} (hj : j ≤ 61) : bitOf X.toInt j = X.getLsbD j := by
  rw [← bv_bit hj, BitVec.ofInt_toInt]
theorem wWith_in (m t : Int) : I64 (wWith m t) := by rw [wWith, bits_or]; exact toInt_in _
theorem wWithout_in (m t : Int) : I64 (wWithout m t) := by rw [wWithout, bits_andNot]; exact toInt_in _
theorem bit_with (m : Int) {t j : Nat} (ht : t ≤ 61) (hj : j ≤ 61) : bitOf (wWith m t) j = (bitOf m j || decide (t = j)) := by
  rw [wWith, wBit_eq ht, bits_or, bitOf_toInt _ hj, BitVec.getLsbD_or, pow_bit ht, bv_bit hj]
theorem bit_without (m : Int) {t j : Nat} (ht : t ≤ 61) (hj : j ≤ 61) : bitOf (wWithout m t) j = (bitOf m j && !decide (t = j)) := by
  rw [wWithout, wBit_eq ht, bits_andNot, bitOf_toInt _ hj, BitVec.getLsbD_and, BitVec.getLsbD_not, pow_bit ht, bv_bit hj]
  simp [show j < 64 by omega]
theorem ofInt_I64 {m : Int} (hm : I64 m) : (BitVec.ofInt 64 m).toInt = m := by
  have h1 := hm.1
  have h2 := hm.2
  rw [BitVec.toInt_ofInt]
  exact Int.bmod_eq_of_le (by omega) (by omega)
/-- Two bits set and taken away again. -/
theorem with_without {m : Int} (hm : I64 m) {a b : Nat} (ha : a ≤ 61) (hb : b ≤ 61) (h1 : bitOf m a = false) (h2 : bitOf m b = false) : wWithout (wWithout (wWith (wWith m a) b) a) b = m := by
  rw [wWithout, wWithout, wWith, wWith, wBit_eq ha, wBit_eq hb]
  simp only [bits_or, bits_andNot, BitVec.ofInt_toInt]
  conv => rhs; rw [← ofInt_I64 hm]
  congr 1
  apply BitVec.eq_of_getLsbD_eq
  intro j hj
  simp only [BitVec.getLsbD_and, BitVec.getLsbD_or, BitVec.getLsbD_not, pow_bit ha, pow_bit hb, hj, decide_true, Bool.true_and]
  by_cases e1 : a = j
  · subst e1
    rw [bv_bit ha, h1]
    simp
  · by_cases e2 : b = j
    · subst e2
      rw [bv_bit hb, h2]
      simp
    · simp [e1, e2]
end Go.Proofs.Ytpfibcbeenogiaa
