/- Setting and clearing a bit: the program's and the reference's results agree. -/
import Derived.Test.YtpfibcbeenogiaaBits
import Derived.Test.YtpfibcbeenogiaaVis
import Derived.Test.YtpfibcbeenogiaaRefV
import Derived.Test.YtpfibcbeenogiaaRefVN
namespace Go.Proofs.Ytpfibcbeenogiaa
open Go.RowKit
theorem wrap_bv (n : Int) : wrap64 n = (BitVec.ofInt 64 n).toInt := by
  rw [BitVec.toInt_ofInt]
  unfold wrap64 Int.bmod
  simp only [show ((2 ^ 64 : Nat) : Int) = 18446744073709551616 from rfl]
  split <;> omega
theorem wWith_eq {m : Int} (hm : I64 m) {t : Nat} (ht : t ≤ 61) (h : bitOf m t = false) : wWith m t = rWith m t := by
  have hr : rIn m t = false := by rw [rIn_eq hm ht, h]
  have hb : rBit (t : Int) = 2 ^ t := by rw [rBit, if_neg (by omega)]; simp
  rw [rWith, hr, wWith, bits_or, wBit_eq ht, hb, wrap_bv, BitVec.ofInt_add]
  simp only [Bool.false_eq_true, if_false]
  rw [BitVec.add_eq_or_of_and_eq_zero]
  ext j hj
  rw [BitVec.getElem_and, BitVec.getElem_zero]
  by_cases hjt : t = j
  · subst hjt
    have := bv_bit (m := m) ht
    rw [BitVec.getLsbD_eq_getElem hj] at this
    rw [this, h]
    rfl
  · have := pow_bit ht j
    rw [BitVec.getLsbD_eq_getElem hj] at this
    rw [this]
    simp [hjt]
theorem wWithout_eq {m : Int} (hm : I64 m) {t : Nat} (ht : t ≤ 61) (h : bitOf m t = true) : wWithout m t = rWithout m t := by
  have hr : rIn m t = true := by rw [rIn_eq hm ht, h]
  have hb : rBit (t : Int) = 2 ^ t := by rw [rBit, if_neg (by omega)]; simp
  rw [rWithout, hr, wWithout, bits_andNot, wBit_eq ht, hb, wrap_bv]
  simp only [if_true]
  congr 1
  have e1 : (BitVec.ofInt 64 m &&& ~~~BitVec.ofInt 64 (2 ^ t)) + BitVec.ofInt 64 (2 ^ t) = BitVec.ofInt 64 m := by
    rw [BitVec.add_eq_or_of_and_eq_zero]
    · ext j hj
      simp only [BitVec.getElem_or, BitVec.getElem_and, BitVec.getElem_not]
      by_cases hjt : t = j
      · subst hjt
        have := bv_bit (m := m) ht
        rw [BitVec.getLsbD_eq_getElem hj] at this
        rw [this, h]
        simp
      · have := pow_bit ht j
        rw [BitVec.getLsbD_eq_getElem hj] at this
        rw [this]
        simp [hjt]
    · ext j hj
      simp
  have e2 : BitVec.ofInt 64 (m - 2 ^ t) + BitVec.ofInt 64 (2 ^ t) = BitVec.ofInt 64 m := by
    rw [← BitVec.ofInt_add]
    congr 1
    omega
  have e3 := congrArg (fun X => X - BitVec.ofInt 64 (2 ^ t)) (e1.trans e2.symm)
  simpa only [BitVec.add_sub_cancel] using e3
theorem goesL_congr {e1 e2 : Int → Bool} {m1 m2 : Int → Int} {cell : Int} {log : List Rs} (he : ∀ r, r ∈ log → e1 r.val = e2 r.val) (hm : ∀ r, r ∈ log → e1 r.val = false → m1 r.val = m2 r.val) :
    ∀ (d k : Nat), log.length ≤ k + d → goesL e1 m1 cell log k = goesL e2 m2 cell log k := by
  intro d
  induction d using Nat.strongRecOn with
  | ind d ih =>
    intro k hk
    cases hg : log[k]? with
    | none => rw [goesL_none hg, goesL_none hg]
    | some r =>
      have hr : r ∈ log := List.mem_of_getElem? hg
      have hl := (List.getElem?_eq_some_iff.1 hg).1
      rw [goesL_some hg, goesL_some hg, he r hr]
      cases h2 : e2 r.val
      · rw [hm r hr (by rw [he r hr, h2])]
        simp only [Bool.false_eq_true, if_false]
        cases hq : log[k + 1]? with
        | none => rfl
        | some q =>
          simp only
          split
          · rfl
          · exact ih (d - 2) (by omega) (k + 2) (by omega)
      · rfl
/-- The program and the reference are one program of accesses. -/
theorem visP_eq (l : Lay) (me kind a : Int) (log : List Rs) (hthr : l.thr ≤ 4) (hlog : ∀ r, r ∈ log → I64 r.val) : stepOf (visP l me kind a) log = stepOf (rvisP l me kind a) log := by
  unfold visP rvisP
  by_cases h : visCell l kind a < 0 ∨ cellP l.thd l.thr me 4 0 < 0
  · rw [if_pos h, if_pos h]
  rw [if_neg h, if_neg h]
  have hme : 0 ≤ me ∧ me < l.thr := by
    refine Classical.byContradiction fun hn => h (.inr ?_)
    rw [cellP, if_pos (by omega)]
    decide
  obtain ⟨t, rfl⟩ := Int.eq_ofNat_of_zero_le hme.1
  have ht : t ≤ 61 := by omega
  have e : ∀ r, r ∈ log → wIn r.val (t : Int) = rIn r.val (t : Int) := fun r hr => by rw [wIn_eq ht, rIn_eq (hlog r hr) ht]
  by_cases hp : kind = 1 ∨ kind = 3
  · rw [if_pos hp, if_pos hp]
    have : putM (visCell l kind a) t log 0 = rPutM (visCell l kind a) t log 0 :=
      goesL_congr e (fun r hr h0 => wWith_eq (hlog r hr) ht (by rw [← wIn_eq ht]; exact h0)) log.length 0 (by omega)
    simp [stepOf, M.map, M.bind, this]
  · rw [if_neg hp, if_neg hp]
    have : outM (visCell l kind a) t log 0 = rOutM (visCell l kind a) t log 0 :=
      goesL_congr (fun r hr => by rw [e r hr]) (fun r hr h0 => wWithout_eq (hlog r hr) ht (by rw [← wIn_eq ht]; simpa using h0)) log.length 0 (by omega)
    simp [stepOf, M.map, M.bind, this]
end Go.Proofs.Ytpfibcbeenogiaa
