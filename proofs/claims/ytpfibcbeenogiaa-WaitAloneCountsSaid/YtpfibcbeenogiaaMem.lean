/- Package mem and the memory of its reference, walked. -/
import Derived.Test.YtpfibcbeenogiaaBase
import Derived.Test.YtpfibcbeenogiaaProg
import Derived.Lib.Hide
namespace Go.Proofs.Ytpfibcbeenogiaa
open Go.RowKit
set_option linter.unusedSimpArgs false
set_option linter.unusedVariables false
def memRight (a : Acc) : Bool := decide (0 ≤ a.cell) && a.bytes.toList.isEmpty &&
  (if a.kind = 1 then decide (a.new = 0) && decide (a.old = 0) else if a.kind = 2 ∨ a.kind = 4 then decide (a.old = 0) else decide (a.kind = 3))
theorem ret_bool {a b : Bool} (h : a = b) : Ending.returned (.bool a) = .returned (.bool b) := by rw [h]
theorem mem_Right (a : Acc) (w : World) : Calls Try.prog 55 #[a.v] w fun e w' => e = .returned (.bool (memRight a)) ∧ Below w.heap.size w w' := by
  generalize hR : memRight a = R
  have HR := Lib.hid hR
  clear hR
  obtain ⟨kind, cell, old, new, bytes⟩ := a
  by_cases h1 : kind = 1
  · subst h1
    go_enter Try.func55, Try.ntmps55
    go_wp2
    all_goals (go_ret; exact ⟨ret_bool (by rw [← HR.out]; go_tidy; clear HR; rw [Bool.eq_iff_iff]; simp_all [memRight] <;> (try omega)), by with_reducible repeat (first | exact Below.refl _ _ | refine blw_alloc ?_ _)⟩)
  by_cases h2 : kind = 2
  · subst h2
    go_enter Try.func55, Try.ntmps55
    go_wp2
    all_goals (go_ret; exact ⟨ret_bool (by rw [← HR.out]; go_tidy; clear HR; rw [Bool.eq_iff_iff]; simp_all [memRight] <;> (try omega)), by with_reducible repeat (first | exact Below.refl _ _ | refine blw_alloc ?_ _)⟩)
  by_cases h4 : kind = 4
  · subst h4
    go_enter Try.func55, Try.ntmps55
    go_wp2
    all_goals (go_ret; exact ⟨ret_bool (by rw [← HR.out]; go_tidy; clear HR; rw [Bool.eq_iff_iff]; simp_all [memRight] <;> (try omega)), by with_reducible repeat (first | exact Below.refl _ _ | refine blw_alloc ?_ _)⟩)
  by_cases h3 : kind = 3
  · subst h3
    go_enter Try.func55, Try.ntmps55
    go_wp2
    all_goals (go_ret; exact ⟨ret_bool (by rw [← HR.out]; go_tidy; clear HR; rw [Bool.eq_iff_iff]; simp_all [memRight] <;> (try omega)), by with_reducible repeat (first | exact Below.refl _ _ | refine blw_alloc ?_ _)⟩)
  · have k1 : (kind == 1) = false := by simp [h1]
    have k2 : (kind == 2) = false := by simp [h2]
    have k4 : (kind == 4) = false := by simp [h4]
    have k3 : (kind == 3) = false := by simp [h3]
    have HK := Lib.hid (And.intro h1 (And.intro h2 (And.intro h4 h3)))
    clear h1 h2 h4 h3
    go_enter Try.func55, Try.ntmps55
    go_wp2
    all_goals (go_ret; exact ⟨ret_bool (by rw [← HR.out]; obtain ⟨h1, h2, h4, h3⟩ := HK.out; simp [memRight, h1, h2, h4, h3]), by with_reducible repeat (first | exact Below.refl _ _ | refine blw_alloc ?_ _)⟩)
def memNext (was : Int) (a : Acc) : Int × Bool := if a.kind = 2 then (a.new, true) else if a.kind = 4 then (wrap64 (was + a.new), true) else if a.kind = 3 then (if was = a.old then (a.new, true) else (was, false)) else (was, true)
theorem ret_nb {a b : Int} {c d : Bool} (h : a = b) (k : c = d) : Ending.returned (.tuple #[.int .i64 a, .bool c]) = .returned (.tuple #[.int .i64 b, .bool d]) := by rw [h, k]
theorem mem_next (was : Int) (a : Acc) (w : World) : Calls Try.prog 56 #[.int .i64 was, a.v] w fun e w' => e = .returned (.tuple #[.int .i64 (memNext was a).1, .bool (memNext was a).2]) ∧ Below w.heap.size w w' := by
  generalize hR : memNext was a = R
  have HR := Lib.hid hR
  clear hR
  obtain ⟨n, b⟩ := R
  obtain ⟨kind, cell, old, new, bytes⟩ := a
  by_cases h2 : kind = 2
  · subst h2
    go_enter Try.func56, Try.ntmps56
    go_wp2
    all_goals (go_ret2; have := HR.out; simp [memNext] at this; exact ⟨ret_nb this.1 (by first | exact this.2 | exact this.2.symm), by with_reducible repeat (first | exact Below.refl _ _ | refine blw_alloc ?_ _)⟩)
  by_cases h4 : kind = 4
  · subst h4
    go_enter Try.func56, Try.ntmps56
    go_wp2
    all_goals (go_ret2; have := HR.out; simp [memNext] at this; exact ⟨ret_nb this.1 (by first | exact this.2 | exact this.2.symm), by with_reducible repeat (first | exact Below.refl _ _ | refine blw_alloc ?_ _)⟩)
  by_cases h3 : kind = 3
  · subst h3
    by_cases ho : was = old
    · have HO := Lib.hid ho
      have bo : (was != old) = false := by simp [ho]
      clear ho
      go_enter Try.func56, Try.ntmps56
      go_wp2
      all_goals (go_ret2; have := HR.out; simp [memNext, HO.out] at this; exact ⟨ret_nb this.1 (by first | exact this.2 | exact this.2.symm), by with_reducible repeat (first | exact Below.refl _ _ | refine blw_alloc ?_ _)⟩)
    · have HO := Lib.hid ho
      have bo : (was != old) = true := by simp [ho]
      clear ho
      go_enter Try.func56, Try.ntmps56
      go_wp2
      all_goals (go_ret2; have := HR.out; simp [memNext, HO.out] at this; exact ⟨ret_nb this.1 (by first | exact this.2 | exact this.2.symm), by with_reducible repeat (first | exact Below.refl _ _ | refine blw_alloc ?_ _)⟩)
  · have k2 : (kind == 2) = false := by simp [h2]
    have k4 : (kind == 4) = false := by simp [h4]
    have k3 : (kind == 3) = false := by simp [h3]
    have HK := Lib.hid (And.intro h2 (And.intro h4 h3))
    clear h2 h4 h3
    go_enter Try.func56, Try.ntmps56
    go_wp2
    all_goals (go_ret2; have := HR.out; obtain ⟨h2, h4, h3⟩ := HK.out; simp [memNext, h2, h4, h3] at this; exact ⟨ret_nb this.1 (by first | exact this.2 | exact this.2.symm), by with_reducible repeat (first | exact Below.refl _ _ | refine blw_alloc ?_ _)⟩)
def memDo (cs : List Int) (a : Acc) : List Int × Rs × Int :=
  if memRight a = true then (match cs[a.cell.toNat]? with
    | none => (cs, ⟨0, false⟩, 8)
    | some was => (cs.set a.cell.toNat (memNext was a).1, ⟨was, (memNext was a).2⟩, 0))
  else (cs, ⟨0, false⟩, 1)
theorem und_ints : Try.prog.underlying 51 = some (.slice 3) := by kernel_rfl
theorem info_int : (Try.prog.info? 3).map (fun i => (i.zero, i.size, i.bytes)) = some (some (.int .i64 0), 1, 8) := by kernel_rfl
theorem size_int : (Try.prog.info? 3).map (·.size) = some 1 := by kernel_rfl
set_option maxRecDepth 100000 in
theorem make_ints (n : Nat) (hn : n ≤ 1048576) (W : World) : (Instr.makeSlice 51 (.int .i64 (n : Int)) (.int .i64 (n : Int))).run Try.prog W = .ok (.slice (some ⟨W.heap.size, 0, none⟩) n n) (W.alloc (.cells ((List.replicate n (0 : Int)).map fun x => Value.int .i64 x).toArray 3)) := by
  have h := run_make_row' (P := Try.prog) 51 3 (.int .i64 0) 8 und_ints info_int rfl .i64 .i64 n (by omega) (by omega) W
  rw [h]
  congr 4
  apply Array.ext
  · simp [size_madeCells]
  · intro i h1 h2
    simp [madeCells, Nat.mod_one]
/-- The built-in copy of a whole slice of ints into a row that was just made. -/
theorem copy_ints (cs : List Int) (hlen : cs.length ≤ 1048576) (b o c : Nat) (w W : World) (g0 : Nat) (hW : Below w.heap.size w W) (hg : W.heap[g0 + 1]? = some (.cells (Array.replicate cs.length (Value.int .i64 0)) 3 (0, 0)))
    (hb : b < w.heap.size) (hw0 : w.heap.size ≤ g0) (hcell : ∀ j x, cs[j]? = some x → w.cell? ⟨b, o + j, none⟩ = some (.int .i64 x)) :
    ∃ w3, Sem.run Try.prog (Builtin.copy_ #[51, 51] 3 #[.slice (some ⟨g0 + 1, 0, none⟩) cs.length cs.length, .slice (some ⟨b, o, none⟩) cs.length c]) W = .ok (.int .i64 cs.length) w3 ∧
      Hid (w3.heap[g0 + 1]? = some (.cells (cs.map (Value.int .i64)).toArray 3 (0, 0)) ∧ Below w.heap.size w w3 ∧ Below (g0 + 1) W w3) := by
  have h := run_copy_row (P := Try.prog) W 51 51 3 3 (g0 + 1) 0 cs.length cs.length ⟨b, o, none⟩ cs.length c (Array.replicate cs.length (Value.int .i64 0)) 3 (cs.map (Value.int .i64)) und_ints size_int hg
    (by simp) (by
      intro j v hj
      rw [List.getElem?_map] at hj
      cases hx : cs[j]? with
      | none => simp [hx] at hj
      | some x =>
        simp [hx] at hj
        subst hj
        have e : (Addr.add ⟨b, o, none⟩ j) = ⟨b, o + j, none⟩ := by simp [Addr.add]
        rw [e]
        exact (hW.cell (p := ⟨b, o + j, none⟩) hb).trans (hcell j x hx)) (by simp) (by intro v hv; obtain ⟨x, -, rfl⟩ := List.mem_map.1 hv; rfl)
  have hl : ((cs.map (Value.int .i64)).length : Int) = cs.length := by simp
  refine ⟨_, h.trans (by rw [show goInt ((cs.map (Value.int .i64)).length : Int) = .int .i64 cs.length by simp [goInt]]), ?_⟩
  show _ ∧ _
  refine ⟨?_, below_setRow hW (by omega) _, below_setRow (Below.refl _ _) (by omega) _⟩
  rw [setRow_heap W (g0 + 1) _ _ 3 _ hg]
  simp
/-- The block of a slice of ints is a block of ints. -/
def Typed (w : World) (v : Value) : Prop := ∀ b, v.ownBlock = some b → ∃ c fr, w.heap[b]? = some (.cells c 3 fr)
theorem Typed.below {w w' : World} {v : Value} (h : Typed w v) (hb : Below w.heap.size w w') : Typed w' v := fun b hv => by
  obtain ⟨c, fr, h1⟩ := h b hv
  exact ⟨c, fr, (hb.block b (lt_of_heap h1)).trans h1⟩
/-- Ints are as they were where no block of ints was written. -/
theorem ints_keep {X : Nat → Prop} {w w' : World} {v : Value} {xs : List Int} (h : IntsR w v xs) (ht : Typed w v) (hk : Keep X w w') (hx : ∀ b, X b → b < w.heap.size → ∀ c fr, w.heap[b]? ≠ some (.cells c 3 fr)) : IntsR w' v xs ∧ Typed w' v := by
  have hb : ∀ b, v.ownBlock = some b → b < w.heap.size → w'.heap[b]? = w.heap[b]? := fun b hv hl => hk.block b hl fun hX => by
    obtain ⟨c, fr, h1⟩ := ht b hv
    exact hx b hX hl c fr h1
  refine ⟨h.stay hk.size hb, fun b hv => ?_⟩
  obtain ⟨c, fr, h1⟩ := ht b hv
  exact ⟨c, fr, (hb b hv (lt_of_heap h1)).trans h1⟩
theorem owns_type {w : World} {base : Nat} {e : TypeId} {size : Nat} {v : Value} {n : Nat} {xs : List Value} (h : w.ownsRow base e size v n xs) {b : Nat} (hb : v.ownBlock = some b) : ∃ c, w.heap[b]? = some (.cells c e (0, 0)) := by
  obtain ⟨h1, ⟨rfl, h2⟩ | ⟨g, cap, cur, rfl, h3, h4, h5, h6, h7, h8⟩⟩ := h
  · simp [Value.ownBlock] at hb
  · simp only [Value.ownBlock, Option.some.injEq] at hb
    subst hb
    exact ⟨_, h4⟩
/-- What Do of a memory returns. -/
def MemPost (w : World) (vm0 : Value) (res : List Int × Rs × Int) (e : Ending) (w' : World) : Prop :=
  ∃ vm, e = .returned (.tuple #[.agg #[vm], .agg #[.int .i64 res.2.1.val, .bool res.2.1.ok], .int .i64 res.2.2]) ∧ IntsR w' vm res.1 ∧ Below w.heap.size w w' ∧ (Typed w vm0 → Typed w' vm)
theorem MemPost.old {w w' : World} {vm : Value} {cs : List Int} {r : Rs} {err : Int} {R : List Int × Rs × Int} (hm : IntsR w vm cs) (hR : R = (cs, r, err)) (hfin : Below w.heap.size w w') :
    MemPost w vm R (.returned (.tuple #[.agg #[vm], .agg #[.int .i64 r.val, .bool r.ok], .int .i64 err])) w' := by subst hR; exact ⟨vm, rfl, hm.below hfin, hfin, fun h => h.below hfin⟩
theorem MemPost.new {w w' : World} {vm vm0 : Value} {cs : List Int} {r : Rs} {err : Int} {R : List Int × Rs × Int} (hR : R = (cs, r, err)) (hm : IntsR w' vm cs) (hfin : Below w.heap.size w w') (hnew : Typed w' vm) :
    MemPost w vm0 R (.returned (.tuple #[.agg #[vm], .agg #[.int .i64 r.val, .bool r.ok], .int .i64 err])) w' := by subst hR; exact ⟨vm, rfl, hm, hfin, fun _ => hnew⟩
theorem memDo_length (cs : List Int) (a : Acc) : (memDo cs a).1.length = cs.length := by
  unfold memDo
  split
  · split <;> simp
  · rfl
set_option maxRecDepth 100000 in
theorem mem_Do (cs : List Int) (a : Acc) (vm : Value) (w : World) (hm : IntsR w vm cs) (hlen : cs.length ≤ 1048576) : Calls Try.prog 20 #[.agg #[vm], a.v] w (MemPost w vm (memDo cs a)) := by
  have HM := Lib.hid hm
  obtain ⟨A, c, rfl, hc, -, hA⟩ := hm.one
  have HA := Lib.hid hA
  have HLEN := Lib.hid hlen
  clear hA hm hlen
  generalize hR : memDo cs a = R
  have HR := Lib.hid hR
  clear hR
  have hnot : ∀ (x : Bool) (w : World), (Op.unary .not (.bool x)).run Try.prog w = .ok (.bool (!x)) w := fun _ _ => rfl
  cases hr : memRight a
  · have Hr := Lib.hid hr
    go_enter Try.func20, Try.ntmps20
    go_wp2_with fail
    refine (mem_Right a _).mono ?_
    rintro e w1 ⟨rfl, hb⟩
    have b0 := hb.block (w.heap.size) (by simp only [World.size_alloc]; omega)
    rw [ha_lt _ _ _ (by simp only [World.size_alloc]; omega), ha_lt _ _ _ (by simp only [World.size_alloc]; omega), ha_lt _ _ _ (by simp only [World.size_alloc]; omega), ha_new _ _ _ (by simp only [World.size_alloc])] at b0
    have b1 := hb.block (w.heap.size + 1) (by simp only [World.size_alloc]; omega)
    rw [ha_lt _ _ _ (by simp only [World.size_alloc]; omega), ha_lt _ _ _ (by simp only [World.size_alloc]; omega), ha_new _ _ _ (by simp only [World.size_alloc])] at b1
    have b2 := hb.block (w.heap.size + 1 + 1) (by simp only [World.size_alloc]; omega)
    rw [ha_lt _ _ _ (by simp only [World.size_alloc]; omega), ha_new _ _ _ (by simp only [World.size_alloc])] at b2
    have b3 := hb.block (w.heap.size + 1 + 1 + 1) (by simp only [World.size_alloc]; omega)
    rw [ha_new _ _ _ (by simp only [World.size_alloc])] at b3
    have B0 := Lib.hid b0
    have B1 := Lib.hid b1
    have B2 := Lib.hid b2
    have B3 := Lib.hid b3
    clear b0 b1 b2 b3
    have c0 : ∀ i, w1.cell? ⟨w.heap.size, i, none⟩ = _ := cell_of_heap B0.out
    have f0 : ∀ i, w1.frozen? ⟨w.heap.size, i, none⟩ = false := fun i => by simp [World.frozen?, B0.out]
    have c1 : ∀ i, w1.cell? ⟨w.heap.size + 1, i, none⟩ = _ := cell_of_heap B1.out
    have f1 : ∀ i, w1.frozen? ⟨w.heap.size + 1, i, none⟩ = false := fun i => by simp [World.frozen?, B1.out]
    have c2 : ∀ i, w1.cell? ⟨w.heap.size + 1 + 1, i, none⟩ = _ := cell_of_heap B2.out
    have f2 : ∀ i, w1.frozen? ⟨w.heap.size + 1 + 1, i, none⟩ = false := fun i => by simp [World.frozen?, B2.out]
    have c3 : ∀ i, w1.cell? ⟨w.heap.size + 1 + 1 + 1, i, none⟩ = _ := cell_of_heap B3.out
    have f3 : ∀ i, w1.frozen? ⟨w.heap.size + 1 + 1 + 1, i, none⟩ = false := fun i => by simp [World.frozen?, B3.out]
    have Q1 := Lib.hid (blw_then (w := w) (by with_reducible repeat (first | exact Below.refl _ _ | refine blw_alloc ?_ _)) hb)
    have z1 := hb.size
    simp only [World.size_alloc] at z1
    clear hb
    have HE : Hid (memDo cs a = (cs, ⟨0, false⟩, 1)) := by show memDo cs a = _; rw [memDo, if_neg (by rw [Hr.out]; simp)]
    go_wp2
    refine bodyPost_ret (v := .tuple #[.agg #[.slice A cs.length c], .agg #[.int .i64 0, .bool false], .int .i64 1]) (by simp [results, go_sem, c2, f2, c3, f3]) rfl ?_
    refine MemPost.old HM.out (HR.out.symm.trans (HE.out)) (Keep.toBelow (X := fun i => w.heap.size ≤ i) ?_ (fun i hi => by omega))
    with_reducible repeat (refine Keep.setCell ?_ _ (.inr (by simp only []; omega)))
    exact Keep.of_below Q1.out
  · have Hr := Lib.hid hr
    go_enter Try.func20, Try.ntmps20
    go_wp2_with fail
    refine (mem_Right a _).mono ?_
    rintro e w1 ⟨rfl, hb⟩
    have b0 := hb.block (w.heap.size) (by simp only [World.size_alloc]; omega)
    rw [ha_lt _ _ _ (by simp only [World.size_alloc]; omega), ha_lt _ _ _ (by simp only [World.size_alloc]; omega), ha_lt _ _ _ (by simp only [World.size_alloc]; omega), ha_new _ _ _ (by simp only [World.size_alloc])] at b0
    have b1 := hb.block (w.heap.size + 1) (by simp only [World.size_alloc]; omega)
    rw [ha_lt _ _ _ (by simp only [World.size_alloc]; omega), ha_lt _ _ _ (by simp only [World.size_alloc]; omega), ha_new _ _ _ (by simp only [World.size_alloc])] at b1
    have b2 := hb.block (w.heap.size + 1 + 1) (by simp only [World.size_alloc]; omega)
    rw [ha_lt _ _ _ (by simp only [World.size_alloc]; omega), ha_new _ _ _ (by simp only [World.size_alloc])] at b2
    have b3 := hb.block (w.heap.size + 1 + 1 + 1) (by simp only [World.size_alloc]; omega)
    rw [ha_new _ _ _ (by simp only [World.size_alloc])] at b3
    have B0 := Lib.hid b0
    have B1 := Lib.hid b1
    have B2 := Lib.hid b2
    have B3 := Lib.hid b3
    clear b0 b1 b2 b3
    have c0 : ∀ i, w1.cell? ⟨w.heap.size, i, none⟩ = _ := cell_of_heap B0.out
    have f0 : ∀ i, w1.frozen? ⟨w.heap.size, i, none⟩ = false := fun i => by simp [World.frozen?, B0.out]
    have c1 : ∀ i, w1.cell? ⟨w.heap.size + 1, i, none⟩ = _ := cell_of_heap B1.out
    have f1 : ∀ i, w1.frozen? ⟨w.heap.size + 1, i, none⟩ = false := fun i => by simp [World.frozen?, B1.out]
    have c2 : ∀ i, w1.cell? ⟨w.heap.size + 1 + 1, i, none⟩ = _ := cell_of_heap B2.out
    have f2 : ∀ i, w1.frozen? ⟨w.heap.size + 1 + 1, i, none⟩ = false := fun i => by simp [World.frozen?, B2.out]
    have c3 : ∀ i, w1.cell? ⟨w.heap.size + 1 + 1 + 1, i, none⟩ = _ := cell_of_heap B3.out
    have f3 : ∀ i, w1.frozen? ⟨w.heap.size + 1 + 1 + 1, i, none⟩ = false := fun i => by simp [World.frozen?, B3.out]
    have Q1 := Lib.hid (blw_then (w := w) (by with_reducible repeat (first | exact Below.refl _ _ | refine blw_alloc ?_ _)) hb)
    have z1 := hb.size
    simp only [World.size_alloc] at z1
    clear hb
    by_cases hcl : a.cell ≥ (cs.length : Int)
    · have HCL := Lib.hid hcl
      have hd : decide (a.cell ≥ (cs.length : Int)) = true := by simpa using hcl
      have HE : Hid (memDo cs a = (cs, ⟨0, false⟩, 8)) := by
        show memDo cs a = _
        rw [memDo, if_pos Hr.out, List.getElem?_eq_none (by omega)]
      clear hcl
      go_wp2
      refine bodyPost_ret (v := .tuple #[.agg #[.slice A cs.length c], .agg #[.int .i64 0, .bool false], .int .i64 8]) (by simp [results, go_sem, c2, f2, c3, f3]) rfl ?_
      refine MemPost.old HM.out (HR.out.symm.trans (HE.out)) (Keep.toBelow (X := fun i => w.heap.size ≤ i) ?_ (fun i hi => by omega))
      with_reducible repeat (refine Keep.setCell ?_ _ (.inr (by simp only []; omega)))
      exact Keep.of_below Q1.out
    · have h0 : 0 ≤ a.cell := by
        have := Hr.out
        simp [memRight] at this
        omega
      obtain ⟨i, hi⟩ := Int.eq_ofNat_of_zero_le h0
      obtain ⟨kind, cell, old, new, bytes⟩ := a
      simp only at hi
      subst hi
      simp only at hcl h0
      have hil : i < cs.length := by omega
      have hne : cs ≠ [] := by intro e; simp [e] at hil
      obtain ⟨b, o, rfl, hbl, hcell⟩ := HA.out hne
      have hx : cs[i]? = some cs[i] := List.getElem?_eq_getElem hil
      have cw := hcell i _ hx
      have cw1 : w1.cell? ⟨b, o + i, none⟩ = _ := (bcell Q1.out).1 b (o + i) hbl |>.trans cw
      have HX := Lib.hid hx
      have cw' := cw
      have HA2 := Lib.hid hcell
      clear hcell
      generalize cs[i] = was at *
      generalize hN : memNext was ⟨kind, (i : Int), old, new, bytes⟩ = nb
      obtain ⟨n, bk⟩ := nb
      have HN := Lib.hid hN
      have HE : Hid (memDo cs ⟨kind, (i : Int), old, new, bytes⟩ = (cs.set i n, ⟨was, bk⟩, 0)) := by
        show memDo cs ⟨kind, (i : Int), old, new, bytes⟩ = _
        rw [memDo, if_pos Hr.out]
        simp only [Int.toNat_natCast, hx, hN]
      have hd : decide ((i : Int) ≥ (cs.length : Int)) = false := by simp; omega
      clear hx hN hcl h0 cw
      go_wp2_with fail
      refine (mem_next was ⟨kind, (i : Int), old, new, bytes⟩ _).mono ?_
      rintro e w2 ⟨rfl, hb2⟩
      rw [HN.out]
      have Q2 := Lib.hid (blw_then Q1.out hb2)
      have z2 := hb2.size
      have y0 : w.heap.size < w2.heap.size := by omega
      have y1 : w.heap.size + 1 < w2.heap.size := by omega
      have y2 : w.heap.size + 1 + 1 < w2.heap.size := by omega
      have y3 : w.heap.size + 1 + 1 + 1 < w2.heap.size := by omega
      have yb : b < w2.heap.size := by omega
      have D0 := Lib.hid ((hb2.block (w.heap.size) (by omega)).trans B0.out)
      have D1 := Lib.hid ((hb2.block (w.heap.size + 1) (by omega)).trans B1.out)
      have D2 := Lib.hid ((hb2.block (w.heap.size + 1 + 1) (by omega)).trans B2.out)
      have D3 := Lib.hid ((hb2.block (w.heap.size + 1 + 1 + 1) (by omega)).trans B3.out)
      clear c0 f0 c1 f1 c2 f2 c3 f3 cw1
      have c0 : ∀ i, w2.cell? ⟨w.heap.size, i, none⟩ = _ := cell_of_heap D0.out
      have f0 : ∀ i, w2.frozen? ⟨w.heap.size, i, none⟩ = false := fun i => by simp [World.frozen?, D0.out]
      have c1 : ∀ i, w2.cell? ⟨w.heap.size + 1, i, none⟩ = _ := cell_of_heap D1.out
      have f1 : ∀ i, w2.frozen? ⟨w.heap.size + 1, i, none⟩ = false := fun i => by simp [World.frozen?, D1.out]
      have c2 : ∀ i, w2.cell? ⟨w.heap.size + 1 + 1, i, none⟩ = _ := cell_of_heap D2.out
      have f2 : ∀ i, w2.frozen? ⟨w.heap.size + 1 + 1, i, none⟩ = false := fun i => by simp [World.frozen?, D2.out]
      have c3 : ∀ i, w2.cell? ⟨w.heap.size + 1 + 1 + 1, i, none⟩ = _ := cell_of_heap D3.out
      have f3 : ∀ i, w2.frozen? ⟨w.heap.size + 1 + 1 + 1, i, none⟩ = false := fun i => by simp [World.frozen?, D3.out]
      have cw2 := ((bcell hb2).1 b (o + i) (by omega)).trans (((bcell Q1.out).1 b (o + i) hbl).trans cw')
      clear hb2
      by_cases hnw : n = was
      · have bn : (n == was) = true := by simp [hnw]
        have HNW := Lib.hid hnw
        clear hnw
        go_wp2
        go_region
        go_wp2
        refine bodyPost_ret (v := .tuple #[.agg #[.slice (some ⟨b, o, none⟩) cs.length c], .agg #[.int .i64 was, .bool bk], .int .i64 0]) (by simp [results, go_sem, c2, f2, c3, f3, y2, y3]) rfl ?_
        refine MemPost.old (r := ⟨was, bk⟩) HM.out (HR.out.symm.trans (HE.out.trans ?_)) (Keep.toBelow (X := fun i => w.heap.size ≤ i) ?_ (fun i hi => by omega))
        · rw [HNW.out, set_self HX.out]
        · with_reducible repeat (first | refine Keep.setCell ?_ _ (.inr (by simp only []; omega)) | refine Keep.drew ?_ | refine Keep.alloc ?_ _)
          exact Keep.of_below Q2.out
      · have bn : (n == was) = false := by simp [hnw]
        clear hnw
        have hmk := make_ints cs.length HLEN.out
        have hmk' : ∀ W : World, (Instr.makeSlice 51 (.int .i64 (cs.length : Int)) (.int .i64 (cs.length : Int))).run Try.prog W = .ok (.slice (some ⟨W.heap.size, 0, none⟩) cs.length cs.length) (W.alloc (.cells (Array.replicate cs.length (Value.int .i64 0)) 3)) := by
          intro W
          have := hmk W
          simpa using this
        clear hmk
        have Q3 := Lib.hid (blw_alloc (blw_alloc Q2.out (.cells #[Value.int .i64 was, Value.bool bk] 58)) (.cells (Array.replicate cs.length (Value.int .i64 0)) 3))
        obtain ⟨w3, hcp, E3⟩ := copy_ints cs HLEN.out b o c w _ w2.heap.size Q3.out (ha_new _ _ _ (by simp only [World.size_alloc])) hbl (by omega) HA2.out
        have z3 := E3.out.2.2.size
        simp only [World.size_alloc] at z3
        have D0' := Lib.hid ((E3.out.2.2.block (w.heap.size) (by omega)).trans ((ha_lt _ _ _ (by simp only [World.size_alloc]; omega)).trans ((ha_lt _ _ _ (by omega)).trans D0.out)))
        have D1' := Lib.hid ((E3.out.2.2.block (w.heap.size + 1) (by omega)).trans ((ha_lt _ _ _ (by simp only [World.size_alloc]; omega)).trans ((ha_lt _ _ _ (by omega)).trans D1.out)))
        have D2' := Lib.hid ((E3.out.2.2.block (w.heap.size + 1 + 1) (by omega)).trans ((ha_lt _ _ _ (by simp only [World.size_alloc]; omega)).trans ((ha_lt _ _ _ (by omega)).trans D2.out)))
        have D3' := Lib.hid ((E3.out.2.2.block (w.heap.size + 1 + 1 + 1) (by omega)).trans ((ha_lt _ _ _ (by simp only [World.size_alloc]; omega)).trans ((ha_lt _ _ _ (by omega)).trans D3.out)))
        have D4' := Lib.hid ((E3.out.2.2.block (w2.heap.size) (by omega)).trans ((ha_lt _ _ _ (by simp only [World.size_alloc]; omega)).trans (ha_new _ _ _ rfl)))
        have D5' := Lib.hid E3.out.1
        have e1 : ∀ i, w3.cell? ⟨w.heap.size + 1, i, none⟩ = _ := cell_of_heap D1'.out
        have g1 : ∀ i, w3.frozen? ⟨w.heap.size + 1, i, none⟩ = false := fun i => by simp [World.frozen?, D1'.out]
        have e2 : ∀ i, w3.cell? ⟨w.heap.size + 1 + 1, i, none⟩ = _ := cell_of_heap D2'.out
        have g2 : ∀ i, w3.frozen? ⟨w.heap.size + 1 + 1, i, none⟩ = false := fun i => by simp [World.frozen?, D2'.out]
        have e3 : ∀ i, w3.cell? ⟨w.heap.size + 1 + 1 + 1, i, none⟩ = _ := cell_of_heap D3'.out
        have g3 : ∀ i, w3.frozen? ⟨w.heap.size + 1 + 1 + 1, i, none⟩ = false := fun i => by simp [World.frozen?, D3'.out]
        have e4 : ∀ i, w3.cell? ⟨w2.heap.size, i, none⟩ = _ := cell_of_heap D4'.out
        have g4 : ∀ i, w3.frozen? ⟨w2.heap.size, i, none⟩ = false := fun i => by simp [World.frozen?, D4'.out]
        have e5 : w3.cell? ⟨w2.heap.size + 1, i, none⟩ = some (.int .i64 was) := by rw [cell_of_heap D5'.out]; simp [HX.out]
        have g5 : ∀ i, w3.frozen? ⟨w2.heap.size + 1, i, none⟩ = false := fun i => by simp [World.frozen?, D5'.out]
        have u0 : ¬ w.heap.size + 1 + 1 = w2.heap.size + 1 := by omega
        have u1 : ¬ w.heap.size + 1 + 1 + 1 = w2.heap.size + 1 := by omega
        have u2 : ¬ w.heap.size + 1 + 1 + 1 = w2.heap.size := by omega
        have u3 : ¬ w.heap.size + 1 + 1 = w2.heap.size := by omega
        go_wp2_with fail
        go_region
        go_wp2
        have hset : (cs.set i n).length = cs.length := by simp
        refine bodyPost_ret (v := .tuple #[.agg #[.slice (some ⟨w2.heap.size + 1, 0, none⟩) cs.length cs.length], .agg #[.int .i64 was, .bool bk], .int .i64 0]) (by simp [results, go_sem, e2, g2, e3, g3, u0, u1, u2, u3]) rfl ?_
        have hb5 : ((((w3.setCell ⟨w2.heap.size + 1, i, none⟩ (Value.int IntKind.i64 n)).setCell ⟨w.heap.size + 1 + 1, 0, none⟩ (Value.slice (some ⟨w2.heap.size + 1, 0, none⟩) cs.length cs.length)).setCell ⟨w.heap.size + 1 + 1 + 1, 0, none⟩ (Value.int IntKind.i64 was)).setCell ⟨w.heap.size + 1 + 1 + 1, 1, none⟩ (Value.bool bk)).drew.heap[w2.heap.size + 1]? = some (.cells ((cs.set i n).map (Value.int .i64)).toArray 3 (0, 0)) := by
          rw [hd_drew, hs_ne _ _ _ _ _ u1, hs_ne _ _ _ _ _ u1, hs_ne _ _ _ _ _ u0, hs_same, D5'.out]
          simp [putO, List.map_set]
        have HB5 := Lib.hid hb5
        clear hb5
        refine MemPost.new (cs := cs.set i n) (r := ⟨was, bk⟩) (HR.out.symm.trans HE.out) ?_ (Keep.toBelow (X := fun i => w.heap.size ≤ i) ?_ (fun i hi => by omega)) (fun b hb => by simp only [Value.ownBlock, Option.some.injEq] at hb; subst hb; exact ⟨_, _, HB5.out⟩)
        · have := SlR.of_heap HB5.out cs.length (by simp) (by have := HLEN.out; simp; omega)
          rw [hset] at this
          exact this
        · with_reducible repeat (first | refine Keep.setCell ?_ _ (.inr (by simp only []; omega)) | refine Keep.drew ?_ | refine Keep.alloc ?_ _)
          exact Keep.of_below E3.out.2.1
end Go.Proofs.Ytpfibcbeenogiaa
