/- More words on worlds and values. No program is named. -/
import Derived.Test.YtpfibcbeenogiaaBase
namespace Go.Proofs.Ytpfibcbeenogiaa
open Go.RowKit
theorem frz_of_heap {w : World} {b : Nat} {c : Array Value} {T : TypeId} (h : w.heap[b]? = some (.cells c T (0, 0))) : ∀ i, w.frozen? ⟨b, i, none⟩ = false := fun i => by simp [World.frozen?, h]
def IsSl (v : Value) : Prop := ∃ A n c, v = .slice A n c
theorem SlR.sl {α : Type} {m : Nat} {enc : α → List Value} {w : World} {v : Value} {xs : List α} (h : SlR m enc w v xs) : IsSl v := by
  obtain ⟨A, c, h1, _⟩ := h.out
  exact ⟨_, _, _, h1⟩
theorem SlR.stayN {α : Type} {m : Nat} {enc : α → List Value} {w w' : World} {v : Value} {xs : List α} (h : SlR m enc w v xs) (hs : w.heap.size ≤ w'.heap.size) (hb : xs ≠ [] → ∀ b, v.ownBlock = some b → b < w.heap.size → w'.heap[b]? = w.heap[b]?) : SlR m enc w' v xs := by
  obtain ⟨A, c, rfl, h2, h3, h4⟩ := h
  refine ⟨A, c, rfl, h2, h3, fun hx => ?_⟩
  obtain ⟨b, o, rfl, g2, g3⟩ := h4 hx
  exact ⟨b, o, rfl, Nat.lt_of_lt_of_le g2 hs, fun i x hi j u hu => (World.cell?_of_block (a := ⟨b, _, none⟩) (hb hx b rfl g2)).trans (g3 i x hi j u hu)⟩
theorem SlR.blk {α : Type} {m : Nat} {enc : α → List Value} {w : World} {v : Value} {xs : List α} (h : SlR m enc w v xs) (hx : xs ≠ []) {b : Nat} (hb : v.ownBlock = some b) : b < w.heap.size := by
  obtain ⟨A, c, rfl, h2, h3, h4⟩ := h
  obtain ⟨b', o, rfl, g2, g3⟩ := h4 hx
  simp only [Value.ownBlock, Option.some.injEq] at hb
  omega
end Go.Proofs.Ytpfibcbeenogiaa
