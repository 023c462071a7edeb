/- hallmootlaw21: played, walked. -/
import Derived.Test.YtpfibcbeenogiaaPlayedA
import Derived.BigQuiet
namespace Go.Proofs.Ytpfibcbeenogiaa
open Go.RowKit
set_option linter.unusedSimpArgs false
set_option linter.unusedVariables false
theorem info_wr : (Try.prog.info? 138).map (fun i => (i.zero, i.size, i.bytes)) = some (some (.agg #[.int .i64 0, .int .i64 0, .int .i64 0, .slice none 0 0]), 4, 48) := by kernel_rfl
theorem und_wrs : Try.prog.underlying 85 = some (.slice 138) := by kernel_rfl
abbrev zWr : Array Value := #[.int .i64 0, .int .i64 0, .int .i64 0, .slice none 0 0]
theorem make_wrs (n : Nat) (hn : n ≤ 1048576) (W : World) : (Instr.makeSlice 85 (.int .i64 (n : Int)) (.int .i64 (n : Int))).run Try.prog W = .ok (.slice (some ⟨W.heap.size, 0, none⟩) n n) (W.alloc (.cells (madeCells zWr (n * 4)) 138)) := by
  obtain ⟨i0, hi0, hz0, hz1, hz2⟩ := info_parts info_wr
  have h := run_make (P := Try.prog) W 85 138 i0 _ und_wrs hi0 hz0 .i64 .i64 (n : Int) (n : Int) (by omega) (Int.le_refl _) (by rw [hz2]; omega) (by omega)
  rw [h, hz1]
  rfl
theorem made_wr (n i : Nat) (hi : i < n) : (madeCells zWr (n * 4))[i * 4]? = some (.int .i64 0) ∧ (madeCells zWr (n * 4))[i * 4 + 1]? = some (.int .i64 0) ∧ (madeCells zWr (n * 4))[i * 4 + 2]? = some (.int .i64 0) ∧ (madeCells zWr (n * 4))[i * 4 + 3]? = some (.slice none 0 0) := by
  have e0 : i * 4 % 4 = 0 := by omega
  have e1 : (i * 4 + 1) % 4 = 1 := by omega
  have e2 : (i * 4 + 2) % 4 = 2 := by omega
  have e3 : (i * 4 + 3) % 4 = 3 := by omega
  have l0 : i * 4 < n * 4 := by omega
  have l1 : i * 4 + 1 < n * 4 := by omega
  have l2 : i * 4 + 2 < n * 4 := by omega
  have l3 : i * 4 + 3 < n * 4 := by omega
  simp [madeCells, zWr, e0, e1, e2, e3, l0, l1, l2, l3]
def seenOf (xs : List Int) : List Sn := xs.map fun x => ⟨x % 3, 0, 0⟩
def st0 (n : Nat) : St := ⟨List.replicate 28 0, false, List.replicate n wr0, 5, [], 0⟩
def stepSt (seen : List Sn) (want : List (List Int)) (who : Nat) (s : St) : St := if who = 0 then sleepSt lay3 seen s else writeSt lay3 want (who - 1) s
def turnSt (seen : List Sn) (want : List (List Int)) (s : St) (t : Int) : St := if s.bad then s else stepSt seen want (t % (1 + (want.length : Int))).toNat s
def allSt (want : List (List Int)) (s : St) : Nat → St
  | 0 => s
  | n + 1 => writeSt lay3 want n (allSt want s n)
def roundSt (want : List (List Int)) (s : St) : St := if s.bad then s else allSt want s want.length
def napSt (seen : List Sn) (s : St) : St := if s.bad then s else sleepSt lay3 seen s
def iter {α : Type} (f : α → α) : Nat → α → α
  | 0, s => s
  | n + 1, s => f (iter f n s)
def playedSt (seen turns : List Int) (want : List (List Int)) : St :=
  iter (napSt (seenOf seen)) 60 (iter (roundSt want) 100 (turns.foldl (turnSt (seenOf seen) want) (st0 want.length)))
theorem wok0 (xs : List Int) : WOk xs wr0 := ⟨Int.le_refl _, by simp [wr0], fun h => absurd rfl h⟩
def Good (want : List (List Int)) (s : St) : Prop := s.ws.length = want.length ∧ ∀ i, WOk (want.getD i []) (s.ws.getD i wr0)
theorem good0 (want : List (List Int)) : Good want (st0 want.length) := ⟨by simp [st0], fun i => by
  have : (st0 want.length).ws.getD i wr0 = wr0 := by
    simp only [st0, List.getD_eq_getElem?_getD, List.getElem?_replicate]
    split <;> rfl
  rw [this]
  exact wok0 _⟩
theorem good_sleep {want : List (List Int)} {s : St} (l : Lay) (seen : List Sn) (h : Good want s) : Good want (sleepSt l seen s) := h
theorem good_write {want : List (List Int)} {s : St} (l : Lay) (i : Nat) (h : Good want s) : Good want (writeSt l want i s) := by
  refine ⟨by simp [writeSt, h.1], fun j => ?_⟩
  simp only [writeSt]
  by_cases hji : j = i
  · subst hji
    by_cases hl : j < s.ws.length
    · rw [List.getD_eq_getElem?_getD (l := s.ws.set _ _), List.getElem?_set_self hl]
      exact writeS_ok _ _ _ _ (h.2 j)
    · rw [List.set_eq_of_length_le (by omega)]
      exact h.2 j
  · rw [List.getD_eq_getElem?_getD (l := s.ws.set _ _), List.getElem?_set_ne (fun e => hji e.symm), ← List.getD_eq_getElem?_getD]
    exact h.2 j
end Go.Proofs.Ytpfibcbeenogiaa
