/- Package wait, walked: Next as a whole. -/
import Derived.Test.YtpfibcbeenogiaaWaitNext
namespace Go.Proofs.Ytpfibcbeenogiaa
open Go.RowKit
set_option linter.unusedSimpArgs false
set_option linter.unusedVariables false
theorem enters_wnext1 (args : Array Value) (w : World) : (callFunc 60 args).run Try.prog w = .ok (.enter 60 args) w := by simp [go_sem]
theorem wait_Next (l : Lay) (me : Int) (o : OpV) (vlog : Value) (log : List Rs) (w : World) (hs : SlR 2 Rs.cells w vlog log) (seen : List Sn) (hseen : SlR 3 Sn.cells w o.seen seen) (hwr : IsSl o.writes) (hdu : IsSl o.durable) :
    Calls Try.prog 30 #[l.v, .int .i64 me, o.v, vlog] w fun e w' => e = .returned (tripV (stepOf (waitP l me o.kind seen) log)) ∧ Below w.heap.size w w' := by
  have hmf : ∀ (fn : Fn) (first cap : Array Value) (w : World), (Instr.makeFunc fn first cap).run Try.prog w = .ok (.func fn first cap) w := fun _ _ _ _ => rfl
  have HS := Lib.hid hs
  have HSE := Lib.hid hseen
  have HWR := Lib.hid hwr
  have HDU := Lib.hid hdu
  clear hs hseen hwr hdu
  generalize hT : stepOf (waitP l me o.kind seen) log = T
  have HT := Lib.hid hT
  clear hT
  obtain ⟨⟨a1, a2, a3, a4, a5⟩, ⟨o1, o2, o3, o4, o5, o6, o7⟩, b⟩ := T
  go_enter Try.func30, Try.ntmps30
  go_wp2_with fail
  refine (play_Run 60 _ _ _ vlog log (waitP l me o.kind seen) _ (HS.out.below (by with_reducible repeat (first | exact Below.refl _ _ | refine blw_alloc ?_ _))) enters_wnext1 ?_).mono ?_
  · intro w1 ba bl hD hb hba
    refine wnext1 l me o seen ba bl _ _ _ _ vlog log w1 hD (HSE.out.below ?_) HWR.out HDU.out ?_ ?_ ?_ ?_
    · refine blw_then ?_ (hb.mono ?_)
      · with_reducible repeat (first | exact Below.refl _ _ | refine blw_alloc ?_ _)
      · simp only [World.size_alloc]; omega
    · intro hx b hb'
      have := HSE.out.blk hx hb'
      simp only [World.size_alloc] at hba
      omega
    · rw [hb.block _ (by simp only [World.size_alloc]; omega), ha_lt _ _ _ (by simp only [World.size_alloc]; omega), ha_lt _ _ _ (by simp only [World.size_alloc]; omega), ha_lt _ _ _ (by simp only [World.size_alloc]; omega), ha_lt _ _ _ (by simp only [World.size_alloc]; omega), ha_new _ _ _ rfl]
    · rw [hb.block _ (by simp only [World.size_alloc]; omega), ha_lt _ _ _ (by simp only [World.size_alloc]; omega), ha_lt _ _ _ (by simp only [World.size_alloc]; omega), ha_new _ _ _ (by simp only [World.size_alloc])]
    · rw [hb.block _ (by simp only [World.size_alloc]; omega), ha_lt _ _ _ (by simp only [World.size_alloc]; omega), ha_lt _ _ _ (by simp only [World.size_alloc]; omega), ha_lt _ _ _ (by simp only [World.size_alloc]; omega), ha_new _ _ _ (by simp only [World.size_alloc])]
  · rintro e w1 ⟨rfl, hb⟩
    rw [HT.out]
    have A3 := Lib.hid (hb.block (w.heap.size + 1 + 1 + 1) (by simp only [World.size_alloc]; omega))
    have A4 := Lib.hid (hb.block (w.heap.size + 1 + 1 + 1 + 1) (by simp only [World.size_alloc]; omega))
    have B3 := A3.out
    have B4 := A4.out
    rw [ha_lt _ _ _ (by simp only [World.size_alloc]; omega), ha_new _ _ _ (by simp only [World.size_alloc])] at B3
    rw [ha_new _ _ _ (by simp only [World.size_alloc])] at B4
    have HB := Lib.hid hb
    have f3 : ∀ i, w1.frozen? ⟨w.heap.size + 1 + 1 + 1, i, none⟩ = false := fun i => by simp [World.frozen?, B3]
    have f4 : ∀ i, w1.frozen? ⟨w.heap.size + 1 + 1 + 1 + 1, i, none⟩ = false := fun i => by simp [World.frozen?, B4]
    have n3 : ∀ i, w1.cell? ⟨w.heap.size + 1 + 1 + 1, i, none⟩ = _ := cell_of_heap B3
    have n4 : ∀ i, w1.cell? ⟨w.heap.size + 1 + 1 + 1 + 1, i, none⟩ = _ := cell_of_heap B4
    clear A3 A4 B3 B4 hb HT
    go_wp2
    refine bodyPost_ret (v := .tuple #[.agg #[.int .i64 a1, .int .i64 a2, .int .i64 a3, .int .i64 a4, .string a5], .agg #[.int .i64 o1, .int .i64 o2, .int .i64 o3, .int .i64 o4, .bool o5, .bool o6, .int .i64 o7], .bool b]) (by simp [results, go_sem, n3, n4, f3, f4]) rfl ⟨rfl, ?_⟩
    refine Keep.toBelow (X := fun i => w.heap.size ≤ i) ?_ (fun i hi => by omega)
    with_reducible repeat (refine Keep.setCell ?_ _ (.inr (by simp only []; omega)))
    refine Keep.trans ?_ (Keep.of_below HB.out)
    with_reducible repeat (first | exact Keep.refl _ _ | refine Keep.alloc ?_ _)
end Go.Proofs.Ytpfibcbeenogiaa
