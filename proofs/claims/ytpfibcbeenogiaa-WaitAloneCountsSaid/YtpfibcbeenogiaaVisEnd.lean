/- Package visible, walked: Next whole, and Needs. -/
import Derived.Test.YtpfibcbeenogiaaVisNext
namespace Go.Proofs.Ytpfibcbeenogiaa
open Go.RowKit
set_option linter.unusedSimpArgs false
set_option linter.unusedVariables false
theorem next1 (l : Lay) (me : Int) (o : OpV) (ba bl pl po pm : Nat) (atv vlog : Value) (log : List Rs) (w : World) (hD : DoAt w ba bl vlog log 0)
    (hl : w.heap[pl]? = some (.cells l.cells 25 (0, 0))) (ho : w.heap[po]? = some (.cells o.cells 32 (0, 0))) (hm : w.heap[pm]? = some (.cells #[.int .i64 me] 3 (0, 0))) :
    Calls Try.prog 44 #[doV ba bl, atv, .pointer (some ⟨pl, 0, none⟩), .pointer (some ⟨po, 0, none⟩), .pointer (some ⟨pm, 0, none⟩)] w (Runs w ba log 0 (visP l me o.kind o.a) Ou.v) := by
  by_cases h1 : o.kind = 1
  · exact next1_1 l me o h1 ba bl pl po pm atv vlog log w hD hl ho hm
  by_cases h2 : o.kind = 2
  · exact next1_2 l me o h2 ba bl pl po pm atv vlog log w hD hl ho hm
  by_cases h3 : o.kind = 3
  · exact next1_3 l me o h3 ba bl pl po pm atv vlog log w hD hl ho hm
  by_cases h4 : o.kind = 4
  · exact next1_4 l me o h4 ba bl pl po pm atv vlog log w hD hl ho hm
  exact next1_5 l me o ⟨h1, h2, h3, h4⟩ ba bl pl po pm atv vlog log w hD hl ho hm
abbrev OpV.v (o : OpV) : Value := .agg o.cells
theorem enters_next1 (args : Array Value) (w : World) : (callFunc 44 args).run Try.prog w = .ok (.enter 44 args) w := by simp [go_sem]
theorem vis_Next (l : Lay) (me : Int) (o : OpV) (vlog : Value) (log : List Rs) (w : World) (hs : SlR 2 Rs.cells w vlog log) :
    Calls Try.prog 14 #[l.v, .int .i64 me, o.v, vlog] w fun e w' => e = .returned (tripV (stepOf (visP l me o.kind o.a) log)) ∧ Below w.heap.size w w' := by
  have hmf : ∀ (fn : Fn) (first cap : Array Value) (w : World), (Instr.makeFunc fn first cap).run Try.prog w = .ok (.func fn first cap) w := fun _ _ _ _ => rfl
  have HS := Lib.hid hs
  clear hs
  generalize hT : stepOf (visP l me o.kind o.a) log = T
  have HT := Lib.hid hT
  clear hT
  obtain ⟨⟨a1, a2, a3, a4, a5⟩, ⟨o1, o2, o3, o4, o5, o6, o7⟩, b⟩ := T
  go_enter Try.func14, Try.ntmps14
  go_wp2_with fail
  refine (play_Run 44 _ _ _ vlog log (visP l me o.kind o.a) _ (HS.out.below (by with_reducible repeat (first | exact Below.refl _ _ | refine blw_alloc ?_ _))) enters_next1 ?_).mono ?_
  · intro w1 ba bl hD hb hba
    refine next1 l me o ba bl _ _ _ _ vlog log w1 hD ?_ ?_ ?_
    · rw [hb.block _ (by simp only [World.size_alloc]; omega), ha_lt _ _ _ (by simp only [World.size_alloc]; omega), ha_lt _ _ _ (by simp only [World.size_alloc]; omega), ha_lt _ _ _ (by simp only [World.size_alloc]; omega), ha_lt _ _ _ (by simp only [World.size_alloc]; omega), ha_new _ _ _ rfl]
    · rw [hb.block _ (by simp only [World.size_alloc]; omega), ha_lt _ _ _ (by simp only [World.size_alloc]; omega), ha_lt _ _ _ (by simp only [World.size_alloc]; omega), ha_new _ _ _ (by simp only [World.size_alloc])]
    · rw [hb.block _ (by simp only [World.size_alloc]; omega), ha_lt _ _ _ (by simp only [World.size_alloc]; omega), ha_lt _ _ _ (by simp only [World.size_alloc]; omega), ha_lt _ _ _ (by simp only [World.size_alloc]; omega), ha_new _ _ _ (by simp only [World.size_alloc])]
  · rintro e w1 ⟨rfl, hb⟩
    rw [HT.out]
    have A3 := Lib.hid (hb.block (w.heap.size + 1 + 1 + 1) (by simp only [World.size_alloc]; omega))
    have A4 := Lib.hid (hb.block (w.heap.size + 1 + 1 + 1 + 1) (by simp only [World.size_alloc]; omega))
    have B3 := A3.out
    have B4 := A4.out
    rw [ha_lt _ _ _ (by simp only [World.size_alloc]; omega), ha_new _ _ _ (by simp only [World.size_alloc])] at B3
    rw [ha_new _ _ _ (by simp only [World.size_alloc])] at B4
    have HB := Lib.hid hb
    have f3 : ∀ i, w1.frozen? ⟨w.heap.size + 1 + 1 + 1, i, none⟩ = false := fun i => by simp [World.frozen?, B3]
    have f4 : ∀ i, w1.frozen? ⟨w.heap.size + 1 + 1 + 1 + 1, i, none⟩ = false := fun i => by simp [World.frozen?, B4]
    have n3 : ∀ i, w1.cell? ⟨w.heap.size + 1 + 1 + 1, i, none⟩ = _ := cell_of_heap B3
    have n4 : ∀ i, w1.cell? ⟨w.heap.size + 1 + 1 + 1 + 1, i, none⟩ = _ := cell_of_heap B4
    clear A3 A4 B3 B4 hb HT
    go_wp2
    refine bodyPost_ret (v := .tuple #[.agg #[.int .i64 a1, .int .i64 a2, .int .i64 a3, .int .i64 a4, .string a5], .agg #[.int .i64 o1, .int .i64 o2, .int .i64 o3, .int .i64 o4, .bool o5, .bool o6, .int .i64 o7], .bool b]) (by simp [results, go_sem, n3, n4, f3, f4]) rfl ⟨rfl, ?_⟩
    refine Keep.toBelow (X := fun i => w.heap.size ≤ i) ?_ (fun i hi => by omega)
    with_reducible repeat (refine Keep.setCell ?_ _ (.inr (by simp only []; omega)))
    refine Keep.trans ?_ (Keep.of_below HB.out)
    with_reducible repeat (first | exact Keep.refl _ _ | refine Keep.alloc ?_ _)
def visNeeds (man aborts : Int) : Bool := decide (man = 1) || (decide (man = 3) && decide (2 ≤ aborts))
theorem vis_Needs (l : Lay) (s k a : Int) (w : World) : Calls Try.prog 16 #[l.v, .agg #[.int .i64 s, .int .i64 k, .int .i64 a]] w fun e w' => e = .returned (.bool (visNeeds l.man a)) ∧ Below w.heap.size w w' := by
  by_cases h1 : l.man = 1
  · have b1 : (l.man == 1) = true := by simp [h1]
    have H : visNeeds l.man a = true := by simp [visNeeds, h1]
    rw [H]
    clear h1 H
    go_enter Try.func16, Try.ntmps16
    go_wp2
    go_ret
    exact ⟨rfl, by with_reducible repeat (first | exact Below.refl _ _ | refine blw_alloc ?_ _)⟩
  · by_cases h3 : l.man = 3
    · have b1 : (l.man == 1) = false := by simp [h1]
      have b3 : (l.man == 3) = true := by simp [h3]
      have H : visNeeds l.man a = decide (2 ≤ a) := by simp [visNeeds, h3]
      rw [H]
      clear h1 h3 H
      go_enter Try.func16, Try.ntmps16
      go_wp2
      go_ret
      exact ⟨rfl, by with_reducible repeat (first | exact Below.refl _ _ | refine blw_alloc ?_ _)⟩
    · have b1 : (l.man == 1) = false := by simp [h1]
      have b3 : (l.man == 3) = false := by simp [h3]
      have H : visNeeds l.man a = false := by simp [visNeeds, h1, h3]
      rw [H]
      clear h1 h3 H
      go_enter Try.func16, Try.ntmps16
      go_wp2
      go_ret
      exact ⟨rfl, by with_reducible repeat (first | exact Below.refl _ _ | refine blw_alloc ?_ _)⟩
theorem ref_Needs (l : Lay) (s k a : Int) (w : World) : Calls Try.prog 17 #[l.v, .agg #[.int .i64 s, .int .i64 k, .int .i64 a]] w fun e w' => e = .returned (.bool (visNeeds l.man a)) ∧ Below w.heap.size w w' := by
  by_cases h1 : l.man = 1
  · have b1 : (l.man == 1) = true := by simp [h1]
    have H : visNeeds l.man a = true := by simp [visNeeds, h1]
    rw [H]
    clear h1 H
    go_enter Try.func17, Try.ntmps17
    go_wp2
    go_ret
    exact ⟨rfl, by with_reducible repeat (first | exact Below.refl _ _ | refine blw_alloc ?_ _)⟩
  · by_cases h3 : l.man = 3
    · have b1 : (l.man == 1) = false := by simp [h1]
      have b3 : (l.man == 3) = true := by simp [h3]
      have H : visNeeds l.man a = decide (1 < a) := by simp [visNeeds, h3]; omega
      rw [H]
      clear h1 h3 H
      go_enter Try.func17, Try.ntmps17
      go_wp2
      go_ret
      exact ⟨rfl, by with_reducible repeat (first | exact Below.refl _ _ | refine blw_alloc ?_ _)⟩
    · have b1 : (l.man == 1) = false := by simp [h1]
      have b3 : (l.man == 3) = false := by simp [h3]
      have H : visNeeds l.man a = false := by simp [visNeeds, h1, h3]
      rw [H]
      clear h1 h3 H
      go_enter Try.func17, Try.ntmps17
      go_wp2
      go_ret
      exact ⟨rfl, by with_reducible repeat (first | exact Below.refl _ _ | refine blw_alloc ?_ _)⟩
end Go.Proofs.Ytpfibcbeenogiaa
