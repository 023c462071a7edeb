/- play.Run, walked: the deferred function that recovers, and the replay of whatever program is handed in. -/
import Derived.Test.YtpfibcbeenogiaaPlay
namespace Go.Proofs.Ytpfibcbeenogiaa
open Go.RowKit
set_option linter.unusedSimpArgs false
set_option linter.unusedVariables false
def AtEnd (R : World → Prop) (e : Exit) (a : Act) (w : World) : Prop := e = .normal ∧ a.defers = [] ∧ R w
theorem und_any : Try.prog.underlying 20 = some (.interface (Try.prog.methodsAt 20)) := by kernel_rfl
theorem any_nil (w : World) : (binOp .eql 20 .nilIface .nilIface).run Try.prog w = .ok (.bool true) w := run_eql_nil_nil w _ und_any
theorem any_held (u : TypeId) (x : Value) (w : World) : (binOp .eql 20 (.iface u x) .nilIface).run Try.prog w = .ok (.bool false) w := run_eql_held_nil w _ _ _ und_any
theorem as_next (v : Value) (w : World) : (Instr.typeAssert (.iface 121 v) 20 121 true).run Try.prog w = .ok (.tuple #[v, .bool true]) w := by kernel_rfl
theorem run_idle (pa po pd : Nat) (w : World) :
    CallsD Try.prog 75 #[.pointer (some ⟨pa, 0, none⟩), .pointer (some ⟨po, 0, none⟩), .pointer (some ⟨pd, 0, none⟩)] .returning w fun e u' w' =>
      e = .returned (.tuple #[]) ∧ u' = .returning ∧ w' = w := by
  refine callsD_of_wpS Try.func75 rfl fun c₀ cs hu => ?_
  simp only [Try.ntmps75, List.size_toArray, List.length_cons, List.length_nil, Nat.reduceAdd, Nat.reduceSub, Array.replicate_succ,
     Array.replicate_zero, List.push_toArray, List.append_toArray, List.nil_append, List.cons_append]
  apply wpS_seq
  apply wpS_region
  simp [wpOpsS, go_sem, recoverD, hu, Exit.thenS]
  refine wpS_of_wp (wp_mono (Q := AtEnd (· = w)) ?_ ?_)
  · have hU := any_nil
    go_wp2
    exact ⟨rfl, rfl, rfl⟩
  · rintro e a w1 ⟨rfl, h1, rfl⟩
    obtain ⟨d1, d2, d3, d4, d5, d6⟩ := c₀
    simp_all [bodyPostS, results, Try.results75]
set_option maxRecDepth 100000 in
theorem run_next (x : Acc) (pa po pd : Nat) (older : List PanicEntry) (w : World) (cs0 cs1 : Array Value) (v0 : Value)
    (ha : w.heap[pa]? = some (.cells cs0 39 (0, 0))) (h0 : cs0.size = 5) (ho : w.heap[po]? = some (.cells cs1 42 (0, 0))) (h1 : cs1.size = 7)
    (hd : w.heap[pd]? = some (.cells #[v0] 4 (0, 0))) (n1 : ¬ pa = po) (n2 : ¬ pa = pd) (n3 : ¬ po = pd) :
    CallsD Try.prog 75 #[.pointer (some ⟨pa, 0, none⟩), .pointer (some ⟨po, 0, none⟩), .pointer (some ⟨pd, 0, none⟩)]
      (.panicking ({ v := .iface 121 (.agg #[.int .i64 x.kind, .int .i64 x.cell, .int .i64 x.old, .int .i64 x.new, .string x.bytes]), recovered := false } :: older)) w fun e u' w' =>
      e = .returned (.tuple #[]) ∧ u' = .panicking ({ v := .iface 121 (.agg #[.int .i64 x.kind, .int .i64 x.cell, .int .i64 x.old, .int .i64 x.new, .string x.bytes]), recovered := true } :: older) ∧
      Keep (fun i => i = pa ∨ i = po ∨ i = pd) w w' ∧ w'.heap[pa]? = some (.cells #[.int .i64 x.kind, .int .i64 x.cell, .int .i64 x.old, .int .i64 x.new, .string x.bytes] 39 (0, 0)) ∧
      w'.heap[po]? = some (.cells #[.int .i64 0, .int .i64 0, .int .i64 0, .int .i64 0, .bool false, .bool false, .int .i64 0] 42 (0, 0)) ∧ w'.heap[pd]? = some (.cells #[.bool false] 4 (0, 0)) := by
  obtain ⟨a0, a1, a2, a3, a4, rfl⟩ : ∃ a0 a1 a2 a3 a4, cs0 = #[a0, a1, a2, a3, a4] := by
    obtain ⟨l⟩ := cs0
    match l, h0 with
    | [a0, a1, a2, a3, a4], _ => exact ⟨a0, a1, a2, a3, a4, rfl⟩
  obtain ⟨b0, b1, b2, b3, b4, b5, b6, rfl⟩ : ∃ a0 a1 a2 a3 a4 a5 a6, cs1 = #[a0, a1, a2, a3, a4, a5, a6] := by
    obtain ⟨l⟩ := cs1
    match l, h1 with
    | [a0, a1, a2, a3, a4, a5, a6], _ => exact ⟨a0, a1, a2, a3, a4, a5, a6, rfl⟩
  have la := lt_of_heap ha
  have lo := lt_of_heap ho
  have ld := lt_of_heap hd
  refine callsD_of_wpS Try.func75 rfl fun c₀ cs hu => ?_
  simp only [Try.ntmps75, List.size_toArray, List.length_cons, List.length_nil, Nat.reduceAdd, Nat.reduceSub, Array.replicate_succ,
     Array.replicate_zero, List.push_toArray, List.append_toArray, List.nil_append, List.cons_append]
  apply wpS_seq
  apply wpS_region
  simp [wpOpsS, go_sem, recoverD, hu, Exit.thenS]
  refine wpS_of_wp (wp_mono (Q := AtEnd fun w' => Keep (fun i => i = pa ∨ i = po ∨ i = pd) w w' ∧ w'.heap[pa]? = some (.cells #[.int .i64 x.kind, .int .i64 x.cell, .int .i64 x.old, .int .i64 x.new, .string x.bytes] 39 (0, 0)) ∧
      w'.heap[po]? = some (.cells #[.int .i64 0, .int .i64 0, .int .i64 0, .int .i64 0, .bool false, .bool false, .int .i64 0] 42 (0, 0)) ∧ w'.heap[pd]? = some (.cells #[.bool false] 4 (0, 0))) ?_ ?_)
  · have c0 := cell_of_heap ha 0
    have c1 := cell_of_heap ha 1
    have c2 := cell_of_heap ha 2
    have c3 := cell_of_heap ha 3
    have c4 := cell_of_heap ha 4
    have f0 : ∀ o, w.frozen? ⟨pa, o, none⟩ = false := fun o => by simp [World.frozen?, ha]
    have e0 := cell_of_heap ho 0
    have e1 := cell_of_heap ho 1
    have e2 := cell_of_heap ho 2
    have e3 := cell_of_heap ho 3
    have e4 := cell_of_heap ho 4
    have e5 := cell_of_heap ho 5
    have e6 := cell_of_heap ho 6
    have f1 : ∀ o, w.frozen? ⟨po, o, none⟩ = false := fun o => by simp [World.frozen?, ho]
    have g0 := cell_of_heap hd 0
    have f2 : ∀ o, w.frozen? ⟨pd, o, none⟩ = false := fun o => by simp [World.frozen?, hd]
    simp at c0 c1 c2 c3 c4 e0 e1 e2 e3 e4 e5 e6 g0
    have Ha := Lib.hid ha
    have Ho := Lib.hid ho
    have Hd := Lib.hid hd
    clear ha ho hd hu h0 h1
    have hU := any_held 121
    have hT := as_next
    go_wp2
    refine ⟨rfl, rfl, ?_, ?_, ?_, ?_⟩
    · with_reducible repeat (first | exact Keep.refl _ _ | refine Keep.alloc ?_ _ | refine Keep.setCell ?_ _ (.inr (by simp)))
    · have m1 : ¬ po = pa := fun e => n1 e.symm
      have m2 : ¬ pd = pa := fun e => n2 e.symm
      simp only [hs_same, hs_ne, n1, n2, n3, m1, m2, ha_lt, la, Ha.out, not_false_eq_true, World.size_setCell, World.size_alloc, Option.map_some, putO]
      rfl
    · have m3 : ¬ pd = po := fun e => n3 e.symm
      simp only [hs_same, hs_ne, n1, n2, n3, m3, ha_lt, lo, Ho.out, not_false_eq_true, World.size_setCell, World.size_alloc, Option.map_some, putO]
      rfl
    · simp only [hs_same, hs_ne, n2, n3, ha_lt, ld, Hd.out, not_false_eq_true, World.size_setCell, World.size_alloc, Option.map_some, putO]
      rfl
  · rintro e a w1 ⟨rfl, h1, h2⟩
    obtain ⟨d1, d2, d3, d4, d5, d6⟩ := c₀
    simp_all [bodyPostS, results, Try.results75]
theorem Run_results (tmps : Array Value) (na no nd : Nat) (a0 a1 a2 a3 a4 b0 b1 b2 b3 b4 b5 b6 d0 : Value) (w : World) (h4 : tmps[4]?.getD undef = .pointer (some ⟨na, 0, none⟩)) (h5 : tmps[5]?.getD undef = .pointer (some ⟨no, 0, none⟩)) (h6 : tmps[6]?.getD undef = .pointer (some ⟨nd, 0, none⟩))
    (ha : w.heap[na]? = some (.cells #[a0, a1, a2, a3, a4] 39 (0, 0))) (ho : w.heap[no]? = some (.cells #[b0, b1, b2, b3, b4, b5, b6] 42 (0, 0))) (hd : w.heap[nd]? = some (.cells #[d0] 4 (0, 0))) :
    (results Try.f43 tmps).run Try.prog w = .ok (.tuple #[.agg #[a0, a1, a2, a3, a4], .agg #[b0, b1, b2, b3, b4, b5, b6], d0]) w := by
  have c0 := cell_of_heap ha 0
  have c1 := cell_of_heap ha 1
  have c2 := cell_of_heap ha 2
  have c3 := cell_of_heap ha 3
  have c4 := cell_of_heap ha 4
  have e0 := cell_of_heap ho 0
  have e1 := cell_of_heap ho 1
  have e2 := cell_of_heap ho 2
  have e3 := cell_of_heap ho 3
  have e4 := cell_of_heap ho 4
  have e5 := cell_of_heap ho 5
  have e6 := cell_of_heap ho 6
  have g0 := cell_of_heap hd 0
  simp at c0 c1 c2 c3 c4 e0 e1 e2 e3 e4 e5 e6 g0
  clear ha ho hd
  simp [results, Try.results43, h4, h5, h6, go_sem, c0, c1, c2, c3, c4, e0, e1, e2, e3, e4, e5, e6, g0]
/-- What Next returns of a program: its next access, or its outcome. -/
def stepOf (p : M Ou) (log : List Rs) : Acc × Ou × Bool := match p log 0 with
  | .ok (o, _) => (Acc.zero, o, true)
  | .error x => (x, Ou.zero, false)
abbrev tripV (r : Acc × Ou × Bool) : Value := .tuple #[r.1.v, r.2.1.v, .bool r.2.2]
set_option maxRecDepth 100000 in
theorem play_Run (F : Nat) (c1 c2 c3 vlog : Value) (log : List Rs) (p : M Ou) (w : World) (hs : SlR 2 Rs.cells w vlog log)
    (hF : ∀ (args : Array Value) (w : World), (callFunc F args).run Try.prog w = .ok (.enter F args) w)
    (hf : ∀ (w1 : World) (ba bl : Nat), DoAt w1 ba bl vlog log 0 → Below w.heap.size w w1 → w.heap.size ≤ ba →
      Calls Try.prog F #[doV ba bl, .func (.func 76) #[] #[.pointer (some ⟨ba, 0, none⟩)], c1, c2, c3] w1 (Runs w1 ba log 0 p Ou.v)) :
    Calls Try.prog 43 #[.func (.func F) #[] #[c1, c2, c3], vlog] w fun e w' => e = .returned (tripV (stepOf p log)) ∧ Below w.heap.size w w' := by
  have hmf : ∀ (fn : Fn) (first cap : Array Value) (w : World), (Instr.makeFunc fn first cap).run Try.prog w = .ok (.func fn first cap) w := fun _ _ _ _ => rfl
  have HS := Lib.hid hs
  have HF := Lib.hid hf
  clear hs hf
  obtain ⟨A, c, rfl, -, -, -⟩ : ∃ A c, vlog = .slice A log.length c ∧ log.length ≤ c ∧ True ∧ True := by
    obtain ⟨A, c, h1, h2, _⟩ := HS.out.out
    exact ⟨A, c, h1, h2, trivial, trivial⟩
  go_enter_defers Try.func43, Try.ntmps43
  go_wp2_with fail
  refine (HF.out _ (w.heap.size + 1 + 1 + 1 + 1) w.heap.size ?_ ?_ ?_).mono ?_
  · refine ⟨?_, ?_, ?_, ?_, ?_, by simp⟩
    · rw [ha_new _ _ _ (by simp)]; rfl
    · simp [go_sem]
    · exact HS.out.below (by with_reducible repeat (first | exact Below.refl _ _ | refine blw_alloc ?_ _))
    · omega
    · rintro b o n c' h1 h2
      obtain ⟨A', c2', h3, _, _, h4⟩ := HS.out.out
      obtain ⟨b', o', h5, h6, _⟩ := h4 h2
      rw [h3, h5] at h1
      simp only [Value.slice.injEq, Option.some.injEq, Addr.mk.injEq] at h1
      omega
  · with_reducible repeat (first | exact Below.refl _ _ | refine blw_alloc ?_ _)
  · omega
  · intro e w1 hR
    obtain ⟨hK, ⟨o, k', h1, rfl, h3, h4⟩ | ⟨x, k', h1, rfl, h3, h4⟩⟩ := hR
    all_goals
      have H1 := Lib.hid h1
      have HK := Lib.hid hK
      have hz := hK.size
      simp only [World.size_alloc] at hz
      have ha := hK.block (w.heap.size + 1) (by simp only [World.size_alloc]; omega) (by omega)
      have ho := hK.block (w.heap.size + 1 + 1) (by simp only [World.size_alloc]; omega) (by omega)
      have hd := hK.block (w.heap.size + 1 + 1 + 1) (by simp only [World.size_alloc]; omega) (by omega)
      rw [ha_lt _ _ _ (by simp only [World.size_alloc]; omega), ha_lt _ _ _ (by simp only [World.size_alloc]; omega), ha_lt _ _ _ (by simp only [World.size_alloc]; omega), ha_new _ _ _ (by simp only [World.size_alloc])] at ha
      rw [ha_lt _ _ _ (by simp only [World.size_alloc]; omega), ha_lt _ _ _ (by simp only [World.size_alloc]; omega), ha_new _ _ _ (by simp only [World.size_alloc])] at ho
      rw [ha_lt _ _ _ (by simp only [World.size_alloc]; omega), ha_new _ _ _ (by simp only [World.size_alloc])] at hd
      clear h1 h4 hK
    · have c0 := cell_of_heap ha 0
      have c1 := cell_of_heap ha 1
      have c2 := cell_of_heap ha 2
      have c3 := cell_of_heap ha 3
      have c4 := cell_of_heap ha 4
      have f0 : ∀ o, w1.frozen? ⟨w.heap.size + 1, o, none⟩ = false := fun o => by simp [World.frozen?, ha]
      have e0 := cell_of_heap ho 0
      have e1 := cell_of_heap ho 1
      have e2 := cell_of_heap ho 2
      have e3 := cell_of_heap ho 3
      have e4 := cell_of_heap ho 4
      have e5 := cell_of_heap ho 5
      have e6 := cell_of_heap ho 6
      have f1 : ∀ o, w1.frozen? ⟨w.heap.size + 1 + 1, o, none⟩ = false := fun o => by simp [World.frozen?, ho]
      have g0 := cell_of_heap hd 0
      have f2 : ∀ o, w1.frozen? ⟨w.heap.size + 1 + 1 + 1, o, none⟩ = false := fun o => by simp [World.frozen?, hd]
      simp at c0 c1 c2 c3 c4 e0 e1 e2 e3 e4 e5 e6 g0
      have Ha := Lib.hid ha
      have Ho := Lib.hid ho
      have Hd := Lib.hid hd
      clear ha ho hd
      simp only [Ou.v]
      go_wp2
      refine leaves_cons (f := 75) (args := #[.pointer (some ⟨w.heap.size + 1, 0, none⟩), .pointer (some ⟨w.heap.size + 1 + 1, 0, none⟩), .pointer (some ⟨w.heap.size + 1 + 1 + 1, 0, none⟩)]) (by simp) (by simp [go_sem]) ?_
      refine (run_idle _ _ _ _).mono ?_
      rintro e u' w'' ⟨rfl, rfl, rfl⟩
      refine ⟨_, Run_results _ (w.heap.size + 1) (w.heap.size + 1 + 1) (w.heap.size + 1 + 1 + 1) (.int .i64 0) (.int .i64 0) (.int .i64 0) (.int .i64 0) (.string ⟨#[]⟩) (.int .i64 o.val) (.int .i64 o.ver) (.int .i64 o.rv) (.int .i64 o.stamp) (.bool o.is) (.bool o.lost) (.int .i64 o.err) (.bool true) _ rfl rfl rfl ?_ ?_ ?_, ?_, ?_⟩
      · rw [hs_ne _ _ _ _ _ (by omega)]
        simp only [hs_ne _ (w.heap.size + 1 + 1) (w.heap.size + 1) _ _ (by omega), hs_same, Ha.out, Option.map_some, putO]
        rfl
      · rw [hs_ne _ _ _ _ _ (by omega)]
        simp only [hs_ne _ (w.heap.size + 1) (w.heap.size + 1 + 1) _ _ (by omega), hs_same, Ho.out, Option.map_some, putO]
        rfl
      · simp only [hs_ne _ (w.heap.size + 1 + 1) (w.heap.size + 1 + 1 + 1) _ _ (by omega), hs_ne _ (w.heap.size + 1) (w.heap.size + 1 + 1 + 1) _ _ (by omega), hs_same, Hd.out, Option.map_some, putO]
        rfl
      · rw [stepOf, H1.out]; rfl
      · refine Keep.toBelow (X := fun i => w.heap.size ≤ i) ?_ (fun i hi => by omega)
        with_reducible (repeat (refine Keep.setCell ?_ _ (.inl (by simp only []; omega))))
        refine Keep.trans ?_ (HK.out.mono fun i _ hi => by omega)
        with_reducible (repeat (first | exact Keep.refl _ _ | refine Keep.alloc ?_ _))
    · clear hF hmf
      go_wp2_with fail
      refine leaves_cons (f := 75) (args := #[.pointer (some ⟨w.heap.size + 1, 0, none⟩), .pointer (some ⟨w.heap.size + 1 + 1, 0, none⟩), .pointer (some ⟨w.heap.size + 1 + 1 + 1, 0, none⟩)]) (by simp) (by simp [go_sem]) ?_
      refine (run_next x _ _ _ [] _ _ _ _ ha rfl ho rfl hd (by omega) (by omega) (by omega)).mono ?_
      rintro e u' w'' ⟨rfl, rfl, hk2, a2, o2, d2⟩
      refine ⟨_, Run_results _ (w.heap.size + 1) (w.heap.size + 1 + 1) (w.heap.size + 1 + 1 + 1) _ _ _ _ _ _ _ _ _ _ _ _ _ _ rfl rfl rfl a2 o2 d2, ?_, ?_⟩
      · rw [stepOf, H1.out]; rfl
      · refine Keep.toBelow (X := fun i => w.heap.size ≤ i) ?_ (fun i hi => by omega)
        refine Keep.trans ?_ (hk2.mono fun i _ hi => by omega)
        refine Keep.trans ?_ (HK.out.mono fun i _ hi => by omega)
        with_reducible (repeat (first | exact Keep.refl _ _ | refine Keep.alloc ?_ _))
end Go.Proofs.Ytpfibcbeenogiaa
