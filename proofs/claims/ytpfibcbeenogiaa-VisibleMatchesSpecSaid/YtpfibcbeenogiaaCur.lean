/- The replay of the references, walked: a program of accesses that goes on with zeros behind the end of its log. -/
import Derived.Test.YtpfibcbeenogiaaRun
import Derived.Test.YtpfibcbeenogiaaRefOne
namespace Go.Proofs.Ytpfibcbeenogiaa
open Go.RowKit
set_option linter.unusedSimpArgs false
set_option linter.unusedVariables false
structure Cu where
  k : Nat
  ask : Acc
  stop : Bool
abbrev Cu.cells (s : Cu) (vlog : Value) : Array Value := #[vlog, .int .i64 (s.k : Int), .int .i64 s.ask.kind, .int .i64 s.ask.cell, .int .i64 s.ask.old, .int .i64 s.ask.new, .string s.ask.bytes, .bool s.stop]
structure CurAt (w : World) (bc : Nat) (vlog : Value) (log : List Rs) (s : Cu) : Prop where
  at_ : w.heap[bc]? = some (.cells (s.cells vlog) 103 (0, 0))
  sl : SlR 2 Rs.cells w vlog log
  sep : ∀ b o n c, vlog = .slice (some ⟨b, o, none⟩) n c → log ≠ [] → b ≠ bc
  le : s.k ≤ log.length
theorem CurAt.lt {w : World} {bc : Nat} {vlog : Value} {log : List Rs} {s : Cu} (h : CurAt w bc vlog log s) : bc < w.heap.size := lt_of_heap h.at_
theorem CurAt.keep {w w' : World} {bc : Nat} {vlog : Value} {log : List Rs} {s s' : Cu} (h : CurAt w bc vlog log s) (hk : Keep (· = bc) w w')
    (ha : w'.heap[bc]? = some (.cells (s'.cells vlog) 103 (0, 0))) (hle : s'.k ≤ log.length) : CurAt w' bc vlog log s' := by
  refine ⟨ha, ?_, h.sep, hle⟩
  obtain ⟨A, c, h1, h2, h3, h4⟩ := h.sl
  refine ⟨A, c, h1, h2, h3, fun hx => ?_⟩
  obtain ⟨b, o, g1, g2, g3⟩ := h4 hx
  refine ⟨b, o, g1, Nat.lt_of_lt_of_le g2 hk.size, fun i x hi j u hu => ?_⟩
  rw [hk.bcell b _ g2 (h.sep b o _ c (by rw [h1, g1]) hx)]
  exact g3 i x hi j u hu
theorem CurAt.stay {w w' : World} {bc : Nat} {vlog : Value} {log : List Rs} {s : Cu} (h : CurAt w bc vlog log s) (hk : Below w.heap.size w w') : CurAt w' bc vlog log s :=
  h.keep (Keep.of_below hk) (by rw [hk.block bc h.lt]; exact h.at_) h.le
def curDo (log : List Rs) (s : Cu) (x : Acc) : Rs × Cu := if s.stop then (⟨0, false⟩, s) else match log[s.k]? with
  | none => (⟨0, false⟩, ⟨s.k, x, true⟩)
  | some r => (r, ⟨s.k + 1, s.ask, false⟩)
/-- What a step of a replay leaves: the outcome, and the replay's state. -/
def CurPost (w : World) (bc : Nat) (vlog : Value) (log : List Rs) (v : Value) (s' : Cu) (e : Ending) (w' : World) : Prop :=
  e = .returned v ∧ Keep (· = bc) w w' ∧ w'.heap[bc]? = some (.cells (s'.cells vlog) 103 (0, 0)) ∧ s'.k ≤ log.length
theorem CurPost.at {w w' : World} {bc : Nat} {vlog v : Value} {log : List Rs} {s s' : Cu} {e : Ending} (h : CurAt w bc vlog log s) (hp : CurPost w bc vlog log v s' e w') : CurAt w' bc vlog log s' :=
  h.keep hp.2.1 hp.2.2.1 hp.2.2.2
theorem cur_Do (x : Acc) (bc : Nat) (vlog : Value) (log : List Rs) (s : Cu) (w : World) (h : CurAt w bc vlog log s) :
    Calls Try.prog 94 #[.pointer (some ⟨bc, 0, none⟩), x.v] w (CurPost w bc vlog log (curDo log s x).1.v (curDo log s x).2) := by
  obtain ⟨k, ask, stop⟩ := s
  have hat := h.at_
  have hlt := h.lt
  have hle := h.le
  have hc : ∀ i, w.cell? ⟨bc, i, none⟩ = _ := cell_of_heap hat
  have hf : ∀ i, w.frozen? ⟨bc, i, none⟩ = false := fun i => by simp [World.frozen?, hat]
  have HA := Lib.hid hat
  have HL := Lib.hid hle
  obtain ⟨A, c, rfl, h2, h3, h4⟩ := h.sl
  cases stop
  · by_cases hk : k < log.length
    · obtain ⟨b, o, rfl, g2, g3⟩ := h4 (by intro e; simp [e] at hk)
      have hr : log[k]? = some log[k] := List.getElem?_eq_getElem hk
      have c0 := g3 k log[k] hr 0 _ rfl
      have c1 := g3 k log[k] hr 1 _ rfl
      have hbb := h.sep b o _ c rfl (by intro e; simp [e] at hk)
      have hd : decide ((k : Int) ≥ (log.length : Int)) = false := by simp; omega
      have hw1 : wrap64 ((k : Int) + 1) = (k : Int) + 1 := by unfold wrap64; omega
      have hw2 : wrap64 ((k : Int) + 1 - 1) = (k : Int) := by unfold wrap64; omega
      have HE : Hid (curDo log ⟨k, ask, false⟩ x = (log[k], ⟨k + 1, ask, false⟩)) := by show curDo log ⟨k, ask, false⟩ x = _; simp [curDo, hr]
      generalize hR : log[k] = r at *
      simp only [Nat.add_zero] at c0
      have hk1 := Lib.hid (show k + 1 ≤ log.length by omega)
      clear hr hR g3 h4 h hat hle
      go_enter Try.func94, Try.ntmps94
      go_wp2
      go_region
      go_wp2
      go_region
      go_wp2
      refine bodyPost_ret (v := r.v) (by simp [results, go_sem]) rfl ?_
      rw [HE.out]
      refine ⟨rfl, ?_, ?_, hk1.out⟩
      · with_reducible repeat (first | exact Keep.refl _ _ | refine Keep.drew ?_ | refine Keep.alloc ?_ _ | refine Keep.setCell ?_ _ (.inr rfl) | refine Keep.setCell ?_ _ (.inl (by simp only []; omega)))
      · repeat (first | rw [hd_drew] | rw [hs_same] | rw [hs_ne _ _ _ _ _ (by omega)] | rw [ha_lt _ _ _ (by first | omega | (simp only [World.size_alloc, World.size_setCell, World.size_drew]; omega))])
        rw [HA.out]
        rfl
    · have hd : decide (log.length ≤ k) = true := by simp; omega
      have hk2 : log.length ≤ k := by omega
      have HE : Hid (curDo log ⟨k, ask, false⟩ x = (⟨0, false⟩, ⟨k, x, true⟩)) := by
        show curDo log ⟨k, ask, false⟩ x = _
        simp [curDo, List.getElem?_eq_none (show log.length ≤ k by omega)]
      obtain ⟨xk, xc, xo, xn, xb⟩ := x
      clear h4 h hat hle hk
      go_enter Try.func94, Try.ntmps94
      go_wp2
      go_region
      go_wp2
      refine bodyPost_ret (v := (⟨0, false⟩ : Rs).v) (by simp [results, go_sem]) rfl ?_
      rw [HE.out]
      refine ⟨rfl, ?_, ?_, HL.out⟩
      · with_reducible repeat (first | exact Keep.refl _ _ | refine Keep.drew ?_ | refine Keep.alloc ?_ _ | refine Keep.setCell ?_ _ (.inr rfl) | refine Keep.setCell ?_ _ (.inl (by simp only []; omega)))
      · repeat (first | rw [hd_drew] | rw [hs_same] | rw [hs_ne _ _ _ _ _ (by omega)] | rw [ha_lt _ _ _ (by first | omega | (simp only [World.size_alloc, World.size_setCell, World.size_drew]; omega))])
        rw [HA.out]
        rfl
  · have HE : Hid (curDo log ⟨k, ask, true⟩ x = (⟨0, false⟩, ⟨k, ask, true⟩)) := by show curDo log ⟨k, ask, true⟩ x = _; rfl
    clear h4 h hat hle
    go_enter Try.func94, Try.ntmps94
    go_wp2
    refine bodyPost_ret (v := (⟨0, false⟩ : Rs).v) (by simp [results, go_sem]) rfl ?_
    rw [HE.out]
    refine ⟨rfl, ?_, ?_, HL.out⟩
    · with_reducible repeat (first | exact Keep.refl _ _ | refine Keep.drew ?_ | refine Keep.alloc ?_ _ | refine Keep.setCell ?_ _ (.inr rfl) | refine Keep.setCell ?_ _ (.inl (by simp only []; omega)))
    · repeat (first | rw [hd_drew] | rw [hs_same] | rw [hs_ne _ _ _ _ _ (by omega)] | rw [ha_lt _ _ _ (by first | omega | (simp only [World.size_alloc, World.size_setCell, World.size_drew]; omega))])
      rw [HA.out]
theorem cur_Load (cell : Int) (bc : Nat) (vlog : Value) (log : List Rs) (s : Cu) (w : World) (h : CurAt w bc vlog log s) :
    Calls Try.prog 66 #[.pointer (some ⟨bc, 0, none⟩), .int .i64 cell] w (CurPost w bc vlog log (.int .i64 (curDo log s (accLoad cell)).1.val) (curDo log s (accLoad cell)).2) := by
  obtain ⟨R, hR⟩ : ∃ R, curDo log s (accLoad cell) = R := ⟨_, rfl⟩
  rw [hR]
  have HR := Lib.hid hR
  clear hR
  obtain ⟨⟨rv, rok⟩, s'⟩ := R
  have hlt := h.lt
  go_enter Try.func66, Try.ntmps66
  go_wp2_with fail
  refine (cur_Do (accLoad cell) bc vlog log s w h).mono ?_
  rw [HR.out]
  rintro e w1 ⟨rfl, hk, ha, hle⟩
  have hz := hk.size
  have HK := Lib.hid hk
  have HA := Lib.hid ha
  have HL := Lib.hid hle
  clear hk ha hle h
  go_wp2
  go_ret
  refine ⟨rfl, ?_, ?_, HL.out⟩
  · exact HK.out.alloc _
  · exact (ha_lt _ _ _ (by omega)).trans HA.out
theorem cur_Cas (cell old n : Int) (bc : Nat) (vlog : Value) (log : List Rs) (s : Cu) (w : World) (h : CurAt w bc vlog log s) :
    Calls Try.prog 83 #[.pointer (some ⟨bc, 0, none⟩), .int .i64 cell, .int .i64 old, .int .i64 n] w (CurPost w bc vlog log (.bool (curDo log s (accCas cell old n)).1.ok) (curDo log s (accCas cell old n)).2) := by
  obtain ⟨R, hR⟩ : ∃ R, curDo log s (accCas cell old n) = R := ⟨_, rfl⟩
  rw [hR]
  have HR := Lib.hid hR
  clear hR
  obtain ⟨⟨rv, rok⟩, s'⟩ := R
  have hlt := h.lt
  go_enter Try.func83, Try.ntmps83
  go_wp2_with fail
  refine (cur_Do (accCas cell old n) bc vlog log s w h).mono ?_
  rw [HR.out]
  rintro e w1 ⟨rfl, hk, ha, hle⟩
  have hz := hk.size
  have HK := Lib.hid hk
  have HA := Lib.hid ha
  have HL := Lib.hid hle
  clear hk ha hle h
  go_wp2
  go_ret
  refine ⟨rfl, ?_, ?_, HL.out⟩
  · exact HK.out.alloc _
  · exact (ha_lt _ _ _ (by omega)).trans HA.out
theorem cur_Store (cell n : Int) (bc : Nat) (vlog : Value) (log : List Rs) (s : Cu) (w : World) (h : CurAt w bc vlog log s) :
    Calls Try.prog 64 #[.pointer (some ⟨bc, 0, none⟩), .int .i64 cell, .int .i64 n] w (CurPost w bc vlog log (.tuple #[]) (curDo log s (accStore cell n)).2) := by
  obtain ⟨R, hR⟩ : ∃ R, curDo log s (accStore cell n) = R := ⟨_, rfl⟩
  rw [hR]
  have HR := Lib.hid hR
  clear hR
  obtain ⟨⟨rv, rok⟩, s'⟩ := R
  have hlt := h.lt
  go_enter Try.func64, Try.ntmps64
  go_wp2_with fail
  refine (cur_Do (accStore cell n) bc vlog log s w h).mono ?_
  rw [HR.out]
  rintro e w1 ⟨rfl, hk, ha, hle⟩
  have hz := hk.size
  have HK := Lib.hid hk
  have HA := Lib.hid ha
  have HL := Lib.hid hle
  clear hk ha hle h
  go_wp2
  go_end0
  refine ⟨rfl, ?_, ?_, HL.out⟩
  · exact HK.out
  · exact HA.out
def curTold (s : Cu) (o : Ou) : Acc × Ou × Bool := if s.stop then (s.ask, Ou.zero, false) else (Acc.zero, o, true)
theorem cur_Told (o : Ou) (bc : Nat) (vlog : Value) (s : Cu) (w : World) (hat : w.heap[bc]? = some (.cells (s.cells vlog) 103 (0, 0))) :
    Calls Try.prog 53 #[.pointer (some ⟨bc, 0, none⟩), o.v] w fun e w' => e = .returned (tripV (curTold s o)) ∧ Below w.heap.size w w' := by
  obtain ⟨k, ask, stop⟩ := s
  have hlt := lt_of_heap hat
  have hl1 : bc < w.heap.size + 1 := by omega
  have hl2 : bc < w.heap.size + 1 + 1 := by omega
  have hn1 : ¬ bc = w.heap.size + 1 + 1 := by omega
  have hc : ∀ i, w.cell? ⟨bc, i, none⟩ = _ := cell_of_heap hat
  cases stop
  · have hc7 : w.cell? ⟨bc, 7, none⟩ = some (.bool false) := hc 7
    clear hat hc
    rw [show curTold ⟨k, ask, false⟩ o = (Acc.zero, o, true) from rfl]
    obtain ⟨o1, o2, o3, o4, o5, o6, o7⟩ := o
    go_enter Try.func53, Try.ntmps53
    go_wp2
    go_region
    go_wp2
    refine bodyPost_ret (v := tripV (Acc.zero, ⟨o1, o2, o3, o4, o5, o6, o7⟩, true)) (by simp [results, go_sem, Acc.zero]) rfl ⟨rfl, ?_⟩
    with_reducible repeat (first | exact Below.refl _ _ | refine blw_alloc ?_ _ | refine blw_drew ?_ | refine blw_set ?_ (by simp only []; omega) _)
  · clear hat
    rw [show curTold ⟨k, ask, true⟩ o = (ask, Ou.zero, false) from rfl]
    obtain ⟨a1, a2, a3, a4, a5⟩ := ask
    have hc7 : w.cell? ⟨bc, 7, none⟩ = some (.bool true) := hc 7
    have hc2 : w.cell? ⟨bc, 2, none⟩ = some (.int .i64 a1) := hc 2
    have hc3 : w.cell? ⟨bc, 3, none⟩ = some (.int .i64 a2) := hc 3
    have hc4 : w.cell? ⟨bc, 4, none⟩ = some (.int .i64 a3) := hc 4
    have hc5 : w.cell? ⟨bc, 5, none⟩ = some (.int .i64 a4) := hc 5
    have hc6 : w.cell? ⟨bc, 6, none⟩ = some (.string a5) := hc 6
    clear hc
    go_enter Try.func53, Try.ntmps53
    go_wp2
    refine bodyPost_ret (v := tripV (⟨a1, a2, a3, a4, a5⟩, Ou.zero, false)) (by simp [results, go_sem, Ou.zero]) rfl ⟨rfl, ?_⟩
    with_reducible repeat (first | exact Below.refl _ _ | refine blw_alloc ?_ _ | refine blw_drew ?_ | refine blw_set ?_ (by simp only []; omega) _)
end Go.Proofs.Ytpfibcbeenogiaa
