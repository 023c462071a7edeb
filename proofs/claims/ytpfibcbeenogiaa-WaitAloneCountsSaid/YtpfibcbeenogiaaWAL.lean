/- law21.WaitAloneCounts: the plain law. -/
import Derived.Test.YtpfibcbeenogiaaSan21
namespace Go.Proofs.Ytpfibcbeenogiaa
open Go.RowKit
set_option linter.unusedSimpArgs false
set_option linter.unusedVariables false
structure Wa where
  cs : List Int
  seen : List Sn
  first : Int
/-- The memory, the reads and the first changed read after k locations. -/
def waL (b c : List Bool) : Nat → Wa
  | 0 => ⟨List.replicate 28 0, [], -1⟩
  | k + 1 => if b.getD k false then ⟨if c.getD k false then (waL b c k).cs.set (16 + 4 * k) 8 else (waL b c k).cs, (waL b c k).seen ++ [⟨(k : Int), 0, 0⟩], if c.getD k false = true ∧ (waL b c k).first < 0 then ((waL b c k).seen.length : Int) else (waL b c k).first⟩ else waL b c k
def waWant (s : Wa) : Int := if s.first ≥ 0 then 1 + 2 * (s.seen.length : Int) + s.first + 1 + 2 * (s.seen.length : Int) else 1 + 2 * (s.seen.length : Int) + (s.seen.length : Int)
/-- The law's second loop. -/
def waGo (seen : List Sn) (first want : Int) : Nat → Nat → List Int → List Rs → Bool
  | 0, _, _, _ => false
  | f + 1, i, cs, log =>
    if (stepOf (waitP lay3 2 5 seen) log).2.2 then
      decide ((i : Int) = want) && decide ((stepOf (waitP lay3 2 5 seen) log).2.1 = ⟨0, 0, 0, 0, decide (first < 0), false, 0⟩) && !(stepOf (waitP lay3 2 6 seen) []).2.2 && (stepOf (waitP lay3 2 6 seen) [⟨0, true⟩]).2.2 && decide ((stepOf (waitP lay3 2 6 seen) [⟨0, true⟩]).2.1 = Ou.zero)
    else if (memDo cs (stepOf (waitP lay3 2 5 seen) log).1).2.2 = 0 then waGo seen first want f (i + 1) (memDo cs (stepOf (waitP lay3 2 5 seen) log).1).1 (log ++ [(memDo cs (stepOf (waitP lay3 2 5 seen) log).1).2.1])
    else false
def waAll (b c : List Bool) : Bool := waGo (waL b c 3).seen (waL b c 3).first (waWant (waL b c 3)) ((waWant (waL b c 3)).toNat + 1) 0 (waL b c 3).cs []
set_option maxRecDepth 100000 in
theorem wa_true : ∀ b0 b1 b2 c0 c1 c2 : Bool, waAll [b0, b1, b2] [c0, c1, c2] = true := by decide +kernel
set_option maxRecDepth 100000 in
theorem wa_bounds : ∀ b0 b1 b2 c0 c1 c2 : Bool, 0 ≤ waWant (waL [b0, b1, b2] [c0, c1, c2] 3) ∧ waWant (waL [b0, b1, b2] [c0, c1, c2] 3) ≤ 30 := by decide +kernel
end Go.Proofs.Ytpfibcbeenogiaa
