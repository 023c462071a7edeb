/- Package visible, walked: Next. -/
import Derived.Test.YtpfibcbeenogiaaVis
namespace Go.Proofs.Ytpfibcbeenogiaa
open Go.RowKit
set_option linter.unusedSimpArgs false
set_option linter.unusedVariables false
theorem vis_Put (cell me : Int) (ba bl : Nat) (vlog : Value) (log : List Rs) (k : Nat) (w : World) (h : DoAt w ba bl vlog log k) :
    Calls Try.prog 46 #[doV ba bl, .int .i64 cell, .int .i64 me] w (Runs w ba log k (putM cell me) (fun b => .bool b)) := by
  have hmf : ∀ (fn : Fn) (first cap : Array Value) (w : World), (Instr.makeFunc fn first cap).run Try.prog w = .ok (.func fn first cap) w := fun _ _ _ _ => rfl
  have H := Lib.hid h
  clear h
  go_enter Try.func46, Try.ntmps46
  go_wp2_with fail
  refine (goes_put cell me ba bl vlog log k w H.out).mono ?_
  intro e w1 hR
  have HR := Lib.hid hR
  obtain ⟨_, ⟨b, k', _, rfl, _, _⟩ | ⟨x, k', _, rfl, _, _⟩⟩ := hR
  · go_wp2
    go_ret
    exact HR.out
  · go_wp2
    exact ⟨rfl, HR.out⟩
theorem vis_Out (cell me : Int) (ba bl : Nat) (vlog : Value) (log : List Rs) (k : Nat) (w : World) (h : DoAt w ba bl vlog log k) :
    Calls Try.prog 47 #[doV ba bl, .int .i64 cell, .int .i64 me] w (Runs w ba log k (outM cell me) (fun b => .bool b)) := by
  have hmf : ∀ (fn : Fn) (first cap : Array Value) (w : World), (Instr.makeFunc fn first cap).run Try.prog w = .ok (.func fn first cap) w := fun _ _ _ _ => rfl
  have H := Lib.hid h
  clear h
  go_enter Try.func47, Try.ntmps47
  go_wp2_with fail
  refine (goes_out cell me ba bl vlog log k w H.out).mono ?_
  intro e w1 hR
  have HR := Lib.hid hR
  obtain ⟨_, ⟨b, k', _, rfl, _, _⟩ | ⟨x, k', _, rfl, _, _⟩⟩ := hR
  · go_wp2
    go_ret
    exact HR.out
  · go_wp2
    exact ⟨rfl, HR.out⟩
/-- An operation as the walks have it: its slices are values. -/
structure OpV where
  (kind a b try_ stamp karma aborts : Int)
  (seen writes durable : Value)
abbrev OpV.cells (o : OpV) : Array Value := #[.int .i64 o.kind, .int .i64 o.a, .int .i64 o.b, .int .i64 o.try_, .int .i64 o.stamp, .int .i64 o.karma, .int .i64 o.aborts, o.seen, o.writes, o.durable]
abbrev Lay.cells (l : Lay) : Array Value := #[.int .i64 l.thr, .int .i64 l.locs, .int .i64 l.lks, .int .i64 l.sec, .int .i64 l.man, .int .i64 l.clk, .int .i64 l.stp, .int .i64 l.log, .int .i64 l.fin, .int .i64 l.thd, .int .i64 l.lck, .int .i64 l.loc, .int .i64 l.size]
def outErr (n : Int) : Ou := ⟨0, 0, 0, 0, false, false, n⟩
def outIs (b : Bool) : Ou := ⟨0, 0, 0, 0, b, false, 0⟩
def visCell (l : Lay) (kind a : Int) : Int := if kind = 1 ∨ kind = 2 then cellP l.loc l.locs a 4 2 else if kind = 3 ∨ kind = 4 then cellP l.loc l.locs a 4 3 else -1
def visP (l : Lay) (me kind a : Int) : M Ou :=
  if visCell l kind a < 0 ∨ cellP l.thd l.thr me 4 0 < 0 then M.ret (outErr 1)
  else (if kind = 1 ∨ kind = 3 then putM (visCell l kind a) me else outM (visCell l kind a) me).map outIs
set_option maxHeartbeats 800000 in
theorem next1_1 (l : Lay) (me : Int) (o : OpV) (hkind : o.kind = 1) (ba bl pl po pm : Nat) (atv vlog : Value) (log : List Rs) (w : World) (hD : DoAt w ba bl vlog log 0)
    (hl : w.heap[pl]? = some (.cells l.cells 25 (0, 0))) (ho : w.heap[po]? = some (.cells o.cells 32 (0, 0))) (hm : w.heap[pm]? = some (.cells #[.int .i64 me] 3 (0, 0))) :
    Calls Try.prog 44 #[doV ba bl, atv, .pointer (some ⟨pl, 0, none⟩), .pointer (some ⟨po, 0, none⟩), .pointer (some ⟨pm, 0, none⟩)] w (Runs w ba log 0 (visP l me o.kind o.a) Ou.v) := by
  have k1 : (o.kind == 1) = true := by simp; omega
  have HV : Hid (visCell l o.kind o.a = cellP l.loc l.locs o.a 4 2) := by show visCell l o.kind o.a = cellP l.loc l.locs o.a 4 2; unfold visCell; rw [if_pos (by omega)]
  have HKI := Lib.hid hkind
  clear hkind
  have HL := Lib.hid hl
  have HO := Lib.hid ho
  have HM := Lib.hid hm
  have ll := lt_of_heap hl
  have lo := lt_of_heap ho
  have lm := lt_of_heap hm
  have HD := Lib.hid hD
  have lb := hD.lt
  clear hl ho hm hD
  have cl : ∀ i, w.cell? ⟨pl, i, none⟩ = l.cells[i]? := cell_of_heap HL.out
  have co : ∀ i, w.cell? ⟨po, i, none⟩ = o.cells[i]? := cell_of_heap HO.out
  have cm : ∀ i, w.cell? ⟨pm, i, none⟩ = (#[.int .i64 me] : Array Value)[i]? := cell_of_heap HM.out
  have hsz := Nat.lt_irrefl 0
  clear hsz
  have w0k : Below w.heap.size w (w.alloc (.cells (Array.mk [.int .i64 0, .int .i64 0, .int .i64 0, .int .i64 0, .bool false, .bool false, .int .i64 0]) 42)) := blw_alloc (Below.refl _ _) _
  go_enter Try.func44, Try.ntmps44
  go_wp2_with fail
  refine (lay_Readers l o.a _).mono ?_
  rintro e w1 ⟨rfl, hb1⟩
  have Q1 := Lib.hid (blw_then w0k hb1)
  have N1 := Lib.hid ((hb1.block w.heap.size (by simp)).trans (ha_new _ _ _ rfl))
  have hsz1 := hb1.size
  simp only [World.size_alloc] at hsz1
  clear hb1 cl co cm w0k
  have cl : ∀ i, w1.cell? ⟨pl, i, none⟩ = l.cells[i]? := cell_of_heap ((Q1.out.block pl ll).trans HL.out)
  have co : ∀ i, w1.cell? ⟨po, i, none⟩ = o.cells[i]? := cell_of_heap ((Q1.out.block po lo).trans HO.out)
  have cm : ∀ i, w1.cell? ⟨pm, i, none⟩ = (#[.int .i64 me] : Array Value)[i]? := cell_of_heap ((Q1.out.block pm lm).trans HM.out)
  cases hc : decide (cellP l.loc l.locs o.a 4 2 < 0)
  · have hc1 := of_decide_eq_false hc
    have HC := Lib.hid hc1
    clear hc1
    go_wp2_with fail
    refine (lay_Status l me _).mono ?_
    rintro e w3 ⟨rfl, hb3⟩
    have Q3 := Lib.hid (blw_then Q1.out hb3)
    have N3 := Lib.hid ((hb3.block w.heap.size (by omega)).trans N1.out)
    have hsz3 := hb3.size
    clear hb3 cl co cm
    have cm : ∀ i, w3.cell? ⟨pm, i, none⟩ = (#[.int .i64 me] : Array Value)[i]? := cell_of_heap ((Q3.out.block pm lm).trans HM.out)
    cases hs : decide (cellP l.thd l.thr me 4 0 < 0)
    · have HS := Lib.hid (of_decide_eq_false hs)
      have D3 := Lib.hid (HD.out.stay Q3.out)
      go_wp2_with fail
      refine (vis_Put (cellP l.loc l.locs o.a 4 2) me ba bl vlog log 0 w3 D3.out).mono ?_
      intro e w4 hR
      have HR := Lib.hid hR
      obtain ⟨hK, ⟨b, k', h1, rfl, h3, h4⟩ | ⟨x, k', h1, rfl, h3, h4⟩⟩ := hR
      · have H1 := Lib.hid h1
        have H3 := Lib.hid h3
        have H4 := Lib.hid h4
        have N4 := Lib.hid ((hK.block w.heap.size (by omega) (by omega)).trans N3.out)
        have HK := Lib.hid hK
        clear h1 h3 h4 hK cm
        have f1 : ∀ i, w4.frozen? ⟨w.heap.size, i, none⟩ = false := fun i => by simp [World.frozen?, N4.out]
        have n1 : ∀ i, w4.cell? ⟨w.heap.size, i, none⟩ = (#[.int .i64 0, .int .i64 0, .int .i64 0, .int .i64 0, .bool false, .bool false, .int .i64 0] : Array Value)[i]? := cell_of_heap N4.out
        go_wp2
        refine bodyPost_ret (v := (outIs b).v) (by simp [results, go_sem, n1, f1, outIs]) rfl ?_
        refine Runs.close (k1 := k') ?_ ?_ H3.out ?_
        · rw [visP, HV.out, if_neg (by have h1 := HC.out; have h2 := HS.out; omega), if_pos (by have := HKI.out; omega), M.map, M.bind, H1.out]; rfl
        · with_reducible repeat (refine Keep.setCell ?_ _ (.inl (Nat.le_refl _)))
          exact Keep.trans (Keep.of_below Q3.out) HK.out
        · simp only [hs_ne _ w.heap.size ba _ _ (by omega)]; exact H4.out
      · have H1 := Lib.hid h1
        have H3 := Lib.hid h3
        have H4 := Lib.hid h4
        have HK := Lib.hid hK
        clear h1 h3 h4 hK cm
        go_wp2_with fail
        refine ⟨rfl, Runs.halt (k1 := k') ?_ (Keep.trans (Keep.of_below Q3.out) HK.out) H3.out H4.out⟩
        rw [visP, HV.out, if_neg (by have h1 := HC.out; have h2 := HS.out; omega), if_pos (by have := HKI.out; omega), M.map, M.bind, H1.out]
    · have HS := Lib.hid (of_decide_eq_true hs)
      have f1 : ∀ i, w3.frozen? ⟨w.heap.size, i, none⟩ = false := fun i => by simp [World.frozen?, N3.out]
      have n1 : ∀ i, w3.cell? ⟨w.heap.size, i, none⟩ = (#[.int .i64 0, .int .i64 0, .int .i64 0, .int .i64 0, .bool false, .bool false, .int .i64 0] : Array Value)[i]? := cell_of_heap N3.out
      go_wp2
      refine bodyPost_ret (v := (outErr 1).v) (by simp [results, go_sem, n1, f1, outErr]) rfl ?_
      refine Runs.close (k1 := 0) ?_ ?_ (Nat.zero_le _) ?_
      · rw [visP, HV.out, if_pos (by have h2 := HS.out; omega)]; rfl
      · with_reducible repeat (refine Keep.setCell ?_ _ (.inl (Nat.le_refl _)))
        exact Keep.of_below Q3.out
      · simp only [hs_ne _ w.heap.size ba _ _ (by omega)]; exact (Q3.out.block ba lb).trans HD.out.at_
  · have HC := Lib.hid (of_decide_eq_true hc)
    have f1 : ∀ i, w1.frozen? ⟨w.heap.size, i, none⟩ = false := fun i => by simp [World.frozen?, N1.out]
    have n1 : ∀ i, w1.cell? ⟨w.heap.size, i, none⟩ = (#[.int .i64 0, .int .i64 0, .int .i64 0, .int .i64 0, .bool false, .bool false, .int .i64 0] : Array Value)[i]? := cell_of_heap N1.out
    go_wp2
    refine bodyPost_ret (v := (outErr 1).v) (by simp [results, go_sem, n1, f1, outErr]) rfl ?_
    refine Runs.close (k1 := 0) ?_ ?_ (Nat.zero_le _) ?_
    · rw [visP, HV.out, if_pos (by have h2 := HC.out; omega)]; rfl
    · with_reducible repeat (refine Keep.setCell ?_ _ (.inl (Nat.le_refl _)))
      exact Keep.of_below Q1.out
    · simp only [hs_ne _ w.heap.size ba _ _ (by omega)]; exact (Q1.out.block ba lb).trans HD.out.at_
set_option maxHeartbeats 800000 in
theorem next1_2 (l : Lay) (me : Int) (o : OpV) (hkind : o.kind = 2) (ba bl pl po pm : Nat) (atv vlog : Value) (log : List Rs) (w : World) (hD : DoAt w ba bl vlog log 0)
    (hl : w.heap[pl]? = some (.cells l.cells 25 (0, 0))) (ho : w.heap[po]? = some (.cells o.cells 32 (0, 0))) (hm : w.heap[pm]? = some (.cells #[.int .i64 me] 3 (0, 0))) :
    Calls Try.prog 44 #[doV ba bl, atv, .pointer (some ⟨pl, 0, none⟩), .pointer (some ⟨po, 0, none⟩), .pointer (some ⟨pm, 0, none⟩)] w (Runs w ba log 0 (visP l me o.kind o.a) Ou.v) := by
  have k1 : (o.kind == 1) = false := by simp; omega
  have k2 : (o.kind == 2) = true := by simp; omega
  have HV : Hid (visCell l o.kind o.a = cellP l.loc l.locs o.a 4 2) := by show visCell l o.kind o.a = cellP l.loc l.locs o.a 4 2; unfold visCell; rw [if_pos (by omega)]
  have HKI := Lib.hid hkind
  clear hkind
  have HL := Lib.hid hl
  have HO := Lib.hid ho
  have HM := Lib.hid hm
  have ll := lt_of_heap hl
  have lo := lt_of_heap ho
  have lm := lt_of_heap hm
  have HD := Lib.hid hD
  have lb := hD.lt
  clear hl ho hm hD
  have cl : ∀ i, w.cell? ⟨pl, i, none⟩ = l.cells[i]? := cell_of_heap HL.out
  have co : ∀ i, w.cell? ⟨po, i, none⟩ = o.cells[i]? := cell_of_heap HO.out
  have cm : ∀ i, w.cell? ⟨pm, i, none⟩ = (#[.int .i64 me] : Array Value)[i]? := cell_of_heap HM.out
  have hsz := Nat.lt_irrefl 0
  clear hsz
  have w0k : Below w.heap.size w (w.alloc (.cells (Array.mk [.int .i64 0, .int .i64 0, .int .i64 0, .int .i64 0, .bool false, .bool false, .int .i64 0]) 42)) := blw_alloc (Below.refl _ _) _
  go_enter Try.func44, Try.ntmps44
  go_wp2_with fail
  refine (lay_Readers l o.a _).mono ?_
  rintro e w1 ⟨rfl, hb1⟩
  have Q1 := Lib.hid (blw_then w0k hb1)
  have N1 := Lib.hid ((hb1.block w.heap.size (by simp)).trans (ha_new _ _ _ rfl))
  have hsz1 := hb1.size
  simp only [World.size_alloc] at hsz1
  clear hb1 cl co cm w0k
  have cl : ∀ i, w1.cell? ⟨pl, i, none⟩ = l.cells[i]? := cell_of_heap ((Q1.out.block pl ll).trans HL.out)
  have co : ∀ i, w1.cell? ⟨po, i, none⟩ = o.cells[i]? := cell_of_heap ((Q1.out.block po lo).trans HO.out)
  have cm : ∀ i, w1.cell? ⟨pm, i, none⟩ = (#[.int .i64 me] : Array Value)[i]? := cell_of_heap ((Q1.out.block pm lm).trans HM.out)
  cases hc : decide (cellP l.loc l.locs o.a 4 2 < 0)
  · have hc1 := of_decide_eq_false hc
    have HC := Lib.hid hc1
    clear hc1
    go_wp2_with fail
    refine (lay_Status l me _).mono ?_
    rintro e w3 ⟨rfl, hb3⟩
    have Q3 := Lib.hid (blw_then Q1.out hb3)
    have N3 := Lib.hid ((hb3.block w.heap.size (by omega)).trans N1.out)
    have hsz3 := hb3.size
    clear hb3 cl co cm
    have cm : ∀ i, w3.cell? ⟨pm, i, none⟩ = (#[.int .i64 me] : Array Value)[i]? := cell_of_heap ((Q3.out.block pm lm).trans HM.out)
    cases hs : decide (cellP l.thd l.thr me 4 0 < 0)
    · have HS := Lib.hid (of_decide_eq_false hs)
      have D3 := Lib.hid (HD.out.stay Q3.out)
      go_wp2_with fail
      refine (vis_Out (cellP l.loc l.locs o.a 4 2) me ba bl vlog log 0 w3 D3.out).mono ?_
      intro e w4 hR
      have HR := Lib.hid hR
      obtain ⟨hK, ⟨b, k', h1, rfl, h3, h4⟩ | ⟨x, k', h1, rfl, h3, h4⟩⟩ := hR
      · have H1 := Lib.hid h1
        have H3 := Lib.hid h3
        have H4 := Lib.hid h4
        have N4 := Lib.hid ((hK.block w.heap.size (by omega) (by omega)).trans N3.out)
        have HK := Lib.hid hK
        clear h1 h3 h4 hK cm
        have f1 : ∀ i, w4.frozen? ⟨w.heap.size, i, none⟩ = false := fun i => by simp [World.frozen?, N4.out]
        have n1 : ∀ i, w4.cell? ⟨w.heap.size, i, none⟩ = (#[.int .i64 0, .int .i64 0, .int .i64 0, .int .i64 0, .bool false, .bool false, .int .i64 0] : Array Value)[i]? := cell_of_heap N4.out
        go_wp2
        refine bodyPost_ret (v := (outIs b).v) (by simp [results, go_sem, n1, f1, outIs]) rfl ?_
        refine Runs.close (k1 := k') ?_ ?_ H3.out ?_
        · rw [visP, HV.out, if_neg (by have h1 := HC.out; have h2 := HS.out; omega), if_neg (by have := HKI.out; omega), M.map, M.bind, H1.out]; rfl
        · with_reducible repeat (refine Keep.setCell ?_ _ (.inl (Nat.le_refl _)))
          exact Keep.trans (Keep.of_below Q3.out) HK.out
        · simp only [hs_ne _ w.heap.size ba _ _ (by omega)]; exact H4.out
      · have H1 := Lib.hid h1
        have H3 := Lib.hid h3
        have H4 := Lib.hid h4
        have HK := Lib.hid hK
        clear h1 h3 h4 hK cm
        go_wp2_with fail
        refine ⟨rfl, Runs.halt (k1 := k') ?_ (Keep.trans (Keep.of_below Q3.out) HK.out) H3.out H4.out⟩
        rw [visP, HV.out, if_neg (by have h1 := HC.out; have h2 := HS.out; omega), if_neg (by have := HKI.out; omega), M.map, M.bind, H1.out]
    · have HS := Lib.hid (of_decide_eq_true hs)
      have f1 : ∀ i, w3.frozen? ⟨w.heap.size, i, none⟩ = false := fun i => by simp [World.frozen?, N3.out]
      have n1 : ∀ i, w3.cell? ⟨w.heap.size, i, none⟩ = (#[.int .i64 0, .int .i64 0, .int .i64 0, .int .i64 0, .bool false, .bool false, .int .i64 0] : Array Value)[i]? := cell_of_heap N3.out
      go_wp2
      refine bodyPost_ret (v := (outErr 1).v) (by simp [results, go_sem, n1, f1, outErr]) rfl ?_
      refine Runs.close (k1 := 0) ?_ ?_ (Nat.zero_le _) ?_
      · rw [visP, HV.out, if_pos (by have h2 := HS.out; omega)]; rfl
      · with_reducible repeat (refine Keep.setCell ?_ _ (.inl (Nat.le_refl _)))
        exact Keep.of_below Q3.out
      · simp only [hs_ne _ w.heap.size ba _ _ (by omega)]; exact (Q3.out.block ba lb).trans HD.out.at_
  · have HC := Lib.hid (of_decide_eq_true hc)
    have f1 : ∀ i, w1.frozen? ⟨w.heap.size, i, none⟩ = false := fun i => by simp [World.frozen?, N1.out]
    have n1 : ∀ i, w1.cell? ⟨w.heap.size, i, none⟩ = (#[.int .i64 0, .int .i64 0, .int .i64 0, .int .i64 0, .bool false, .bool false, .int .i64 0] : Array Value)[i]? := cell_of_heap N1.out
    go_wp2
    refine bodyPost_ret (v := (outErr 1).v) (by simp [results, go_sem, n1, f1, outErr]) rfl ?_
    refine Runs.close (k1 := 0) ?_ ?_ (Nat.zero_le _) ?_
    · rw [visP, HV.out, if_pos (by have h2 := HC.out; omega)]; rfl
    · with_reducible repeat (refine Keep.setCell ?_ _ (.inl (Nat.le_refl _)))
      exact Keep.of_below Q1.out
    · simp only [hs_ne _ w.heap.size ba _ _ (by omega)]; exact (Q1.out.block ba lb).trans HD.out.at_
set_option maxHeartbeats 800000 in
theorem next1_3 (l : Lay) (me : Int) (o : OpV) (hkind : o.kind = 3) (ba bl pl po pm : Nat) (atv vlog : Value) (log : List Rs) (w : World) (hD : DoAt w ba bl vlog log 0)
    (hl : w.heap[pl]? = some (.cells l.cells 25 (0, 0))) (ho : w.heap[po]? = some (.cells o.cells 32 (0, 0))) (hm : w.heap[pm]? = some (.cells #[.int .i64 me] 3 (0, 0))) :
    Calls Try.prog 44 #[doV ba bl, atv, .pointer (some ⟨pl, 0, none⟩), .pointer (some ⟨po, 0, none⟩), .pointer (some ⟨pm, 0, none⟩)] w (Runs w ba log 0 (visP l me o.kind o.a) Ou.v) := by
  have k1 : (o.kind == 1) = false := by simp; omega
  have k2 : (o.kind == 2) = false := by simp; omega
  have k3 : (o.kind == 3) = true := by simp; omega
  have HV : Hid (visCell l o.kind o.a = cellP l.loc l.locs o.a 4 3) := by show visCell l o.kind o.a = cellP l.loc l.locs o.a 4 3; unfold visCell; rw [if_neg (by omega), if_pos (by omega)]
  have HKI := Lib.hid hkind
  clear hkind
  have HL := Lib.hid hl
  have HO := Lib.hid ho
  have HM := Lib.hid hm
  have ll := lt_of_heap hl
  have lo := lt_of_heap ho
  have lm := lt_of_heap hm
  have HD := Lib.hid hD
  have lb := hD.lt
  clear hl ho hm hD
  have cl : ∀ i, w.cell? ⟨pl, i, none⟩ = l.cells[i]? := cell_of_heap HL.out
  have co : ∀ i, w.cell? ⟨po, i, none⟩ = o.cells[i]? := cell_of_heap HO.out
  have cm : ∀ i, w.cell? ⟨pm, i, none⟩ = (#[.int .i64 me] : Array Value)[i]? := cell_of_heap HM.out
  have hsz := Nat.lt_irrefl 0
  clear hsz
  have w0k : Below w.heap.size w (w.alloc (.cells (Array.mk [.int .i64 0, .int .i64 0, .int .i64 0, .int .i64 0, .bool false, .bool false, .int .i64 0]) 42)) := blw_alloc (Below.refl _ _) _
  go_enter Try.func44, Try.ntmps44
  go_wp2_with fail
  refine (lay_Readers l o.a _).mono ?_
  rintro e w1 ⟨rfl, hb1⟩
  have Q1 := Lib.hid (blw_then w0k hb1)
  have N1 := Lib.hid ((hb1.block w.heap.size (by simp)).trans (ha_new _ _ _ rfl))
  have hsz1 := hb1.size
  simp only [World.size_alloc] at hsz1
  clear hb1 cl co cm w0k
  have cl : ∀ i, w1.cell? ⟨pl, i, none⟩ = l.cells[i]? := cell_of_heap ((Q1.out.block pl ll).trans HL.out)
  have co : ∀ i, w1.cell? ⟨po, i, none⟩ = o.cells[i]? := cell_of_heap ((Q1.out.block po lo).trans HO.out)
  have cm : ∀ i, w1.cell? ⟨pm, i, none⟩ = (#[.int .i64 me] : Array Value)[i]? := cell_of_heap ((Q1.out.block pm lm).trans HM.out)
  go_wp2_with fail
  refine (lay_Waiters l o.a _).mono ?_
  rintro e w2 ⟨rfl, hb2⟩
  have Q2 := Lib.hid (blw_then Q1.out hb2)
  have N2 := Lib.hid ((hb2.block w.heap.size (by omega)).trans N1.out)
  have hsz2 := hb2.size
  clear hb2 cl co cm
  have cl : ∀ i, w2.cell? ⟨pl, i, none⟩ = l.cells[i]? := cell_of_heap ((Q2.out.block pl ll).trans HL.out)
  have co : ∀ i, w2.cell? ⟨po, i, none⟩ = o.cells[i]? := cell_of_heap ((Q2.out.block po lo).trans HO.out)
  have cm : ∀ i, w2.cell? ⟨pm, i, none⟩ = (#[.int .i64 me] : Array Value)[i]? := cell_of_heap ((Q2.out.block pm lm).trans HM.out)
  cases hc : decide (cellP l.loc l.locs o.a 4 3 < 0)
  · have hc1 := of_decide_eq_false hc
    have HC := Lib.hid hc1
    clear hc1
    go_wp2_with fail
    refine (lay_Status l me _).mono ?_
    rintro e w3 ⟨rfl, hb3⟩
    have Q3 := Lib.hid (blw_then Q2.out hb3)
    have N3 := Lib.hid ((hb3.block w.heap.size (by omega)).trans N2.out)
    have hsz3 := hb3.size
    clear hb3 cl co cm
    have cm : ∀ i, w3.cell? ⟨pm, i, none⟩ = (#[.int .i64 me] : Array Value)[i]? := cell_of_heap ((Q3.out.block pm lm).trans HM.out)
    cases hs : decide (cellP l.thd l.thr me 4 0 < 0)
    · have HS := Lib.hid (of_decide_eq_false hs)
      have D3 := Lib.hid (HD.out.stay Q3.out)
      go_wp2_with fail
      refine (vis_Put (cellP l.loc l.locs o.a 4 3) me ba bl vlog log 0 w3 D3.out).mono ?_
      intro e w4 hR
      have HR := Lib.hid hR
      obtain ⟨hK, ⟨b, k', h1, rfl, h3, h4⟩ | ⟨x, k', h1, rfl, h3, h4⟩⟩ := hR
      · have H1 := Lib.hid h1
        have H3 := Lib.hid h3
        have H4 := Lib.hid h4
        have N4 := Lib.hid ((hK.block w.heap.size (by omega) (by omega)).trans N3.out)
        have HK := Lib.hid hK
        clear h1 h3 h4 hK cm
        have f1 : ∀ i, w4.frozen? ⟨w.heap.size, i, none⟩ = false := fun i => by simp [World.frozen?, N4.out]
        have n1 : ∀ i, w4.cell? ⟨w.heap.size, i, none⟩ = (#[.int .i64 0, .int .i64 0, .int .i64 0, .int .i64 0, .bool false, .bool false, .int .i64 0] : Array Value)[i]? := cell_of_heap N4.out
        go_wp2
        refine bodyPost_ret (v := (outIs b).v) (by simp [results, go_sem, n1, f1, outIs]) rfl ?_
        refine Runs.close (k1 := k') ?_ ?_ H3.out ?_
        · rw [visP, HV.out, if_neg (by have h1 := HC.out; have h2 := HS.out; omega), if_pos (by have := HKI.out; omega), M.map, M.bind, H1.out]; rfl
        · with_reducible repeat (refine Keep.setCell ?_ _ (.inl (Nat.le_refl _)))
          exact Keep.trans (Keep.of_below Q3.out) HK.out
        · simp only [hs_ne _ w.heap.size ba _ _ (by omega)]; exact H4.out
      · have H1 := Lib.hid h1
        have H3 := Lib.hid h3
        have H4 := Lib.hid h4
        have HK := Lib.hid hK
        clear h1 h3 h4 hK cm
        go_wp2_with fail
        refine ⟨rfl, Runs.halt (k1 := k') ?_ (Keep.trans (Keep.of_below Q3.out) HK.out) H3.out H4.out⟩
        rw [visP, HV.out, if_neg (by have h1 := HC.out; have h2 := HS.out; omega), if_pos (by have := HKI.out; omega), M.map, M.bind, H1.out]
    · have HS := Lib.hid (of_decide_eq_true hs)
      have f1 : ∀ i, w3.frozen? ⟨w.heap.size, i, none⟩ = false := fun i => by simp [World.frozen?, N3.out]
      have n1 : ∀ i, w3.cell? ⟨w.heap.size, i, none⟩ = (#[.int .i64 0, .int .i64 0, .int .i64 0, .int .i64 0, .bool false, .bool false, .int .i64 0] : Array Value)[i]? := cell_of_heap N3.out
      go_wp2
      refine bodyPost_ret (v := (outErr 1).v) (by simp [results, go_sem, n1, f1, outErr]) rfl ?_
      refine Runs.close (k1 := 0) ?_ ?_ (Nat.zero_le _) ?_
      · rw [visP, HV.out, if_pos (by have h2 := HS.out; omega)]; rfl
      · with_reducible repeat (refine Keep.setCell ?_ _ (.inl (Nat.le_refl _)))
        exact Keep.of_below Q3.out
      · simp only [hs_ne _ w.heap.size ba _ _ (by omega)]; exact (Q3.out.block ba lb).trans HD.out.at_
  · have HC := Lib.hid (of_decide_eq_true hc)
    have f1 : ∀ i, w2.frozen? ⟨w.heap.size, i, none⟩ = false := fun i => by simp [World.frozen?, N2.out]
    have n1 : ∀ i, w2.cell? ⟨w.heap.size, i, none⟩ = (#[.int .i64 0, .int .i64 0, .int .i64 0, .int .i64 0, .bool false, .bool false, .int .i64 0] : Array Value)[i]? := cell_of_heap N2.out
    go_wp2
    refine bodyPost_ret (v := (outErr 1).v) (by simp [results, go_sem, n1, f1, outErr]) rfl ?_
    refine Runs.close (k1 := 0) ?_ ?_ (Nat.zero_le _) ?_
    · rw [visP, HV.out, if_pos (by have h2 := HC.out; omega)]; rfl
    · with_reducible repeat (refine Keep.setCell ?_ _ (.inl (Nat.le_refl _)))
      exact Keep.of_below Q2.out
    · simp only [hs_ne _ w.heap.size ba _ _ (by omega)]; exact (Q2.out.block ba lb).trans HD.out.at_
set_option maxHeartbeats 800000 in
theorem next1_4 (l : Lay) (me : Int) (o : OpV) (hkind : o.kind = 4) (ba bl pl po pm : Nat) (atv vlog : Value) (log : List Rs) (w : World) (hD : DoAt w ba bl vlog log 0)
    (hl : w.heap[pl]? = some (.cells l.cells 25 (0, 0))) (ho : w.heap[po]? = some (.cells o.cells 32 (0, 0))) (hm : w.heap[pm]? = some (.cells #[.int .i64 me] 3 (0, 0))) :
    Calls Try.prog 44 #[doV ba bl, atv, .pointer (some ⟨pl, 0, none⟩), .pointer (some ⟨po, 0, none⟩), .pointer (some ⟨pm, 0, none⟩)] w (Runs w ba log 0 (visP l me o.kind o.a) Ou.v) := by
  have k1 : (o.kind == 1) = false := by simp; omega
  have k2 : (o.kind == 2) = false := by simp; omega
  have k3 : (o.kind == 3) = false := by simp; omega
  have k4 : (o.kind == 4) = true := by simp; omega
  have HV : Hid (visCell l o.kind o.a = cellP l.loc l.locs o.a 4 3) := by show visCell l o.kind o.a = cellP l.loc l.locs o.a 4 3; unfold visCell; rw [if_neg (by omega), if_pos (by omega)]
  have HKI := Lib.hid hkind
  clear hkind
  have HL := Lib.hid hl
  have HO := Lib.hid ho
  have HM := Lib.hid hm
  have ll := lt_of_heap hl
  have lo := lt_of_heap ho
  have lm := lt_of_heap hm
  have HD := Lib.hid hD
  have lb := hD.lt
  clear hl ho hm hD
  have cl : ∀ i, w.cell? ⟨pl, i, none⟩ = l.cells[i]? := cell_of_heap HL.out
  have co : ∀ i, w.cell? ⟨po, i, none⟩ = o.cells[i]? := cell_of_heap HO.out
  have cm : ∀ i, w.cell? ⟨pm, i, none⟩ = (#[.int .i64 me] : Array Value)[i]? := cell_of_heap HM.out
  have hsz := Nat.lt_irrefl 0
  clear hsz
  have w0k : Below w.heap.size w (w.alloc (.cells (Array.mk [.int .i64 0, .int .i64 0, .int .i64 0, .int .i64 0, .bool false, .bool false, .int .i64 0]) 42)) := blw_alloc (Below.refl _ _) _
  go_enter Try.func44, Try.ntmps44
  go_wp2_with fail
  refine (lay_Readers l o.a _).mono ?_
  rintro e w1 ⟨rfl, hb1⟩
  have Q1 := Lib.hid (blw_then w0k hb1)
  have N1 := Lib.hid ((hb1.block w.heap.size (by simp)).trans (ha_new _ _ _ rfl))
  have hsz1 := hb1.size
  simp only [World.size_alloc] at hsz1
  clear hb1 cl co cm w0k
  have cl : ∀ i, w1.cell? ⟨pl, i, none⟩ = l.cells[i]? := cell_of_heap ((Q1.out.block pl ll).trans HL.out)
  have co : ∀ i, w1.cell? ⟨po, i, none⟩ = o.cells[i]? := cell_of_heap ((Q1.out.block po lo).trans HO.out)
  have cm : ∀ i, w1.cell? ⟨pm, i, none⟩ = (#[.int .i64 me] : Array Value)[i]? := cell_of_heap ((Q1.out.block pm lm).trans HM.out)
  go_wp2_with fail
  refine (lay_Waiters l o.a _).mono ?_
  rintro e w2 ⟨rfl, hb2⟩
  have Q2 := Lib.hid (blw_then Q1.out hb2)
  have N2 := Lib.hid ((hb2.block w.heap.size (by omega)).trans N1.out)
  have hsz2 := hb2.size
  clear hb2 cl co cm
  have cl : ∀ i, w2.cell? ⟨pl, i, none⟩ = l.cells[i]? := cell_of_heap ((Q2.out.block pl ll).trans HL.out)
  have co : ∀ i, w2.cell? ⟨po, i, none⟩ = o.cells[i]? := cell_of_heap ((Q2.out.block po lo).trans HO.out)
  have cm : ∀ i, w2.cell? ⟨pm, i, none⟩ = (#[.int .i64 me] : Array Value)[i]? := cell_of_heap ((Q2.out.block pm lm).trans HM.out)
  cases hc : decide (cellP l.loc l.locs o.a 4 3 < 0)
  · have hc1 := of_decide_eq_false hc
    have HC := Lib.hid hc1
    clear hc1
    go_wp2_with fail
    refine (lay_Status l me _).mono ?_
    rintro e w3 ⟨rfl, hb3⟩
    have Q3 := Lib.hid (blw_then Q2.out hb3)
    have N3 := Lib.hid ((hb3.block w.heap.size (by omega)).trans N2.out)
    have hsz3 := hb3.size
    clear hb3 cl co cm
    have cm : ∀ i, w3.cell? ⟨pm, i, none⟩ = (#[.int .i64 me] : Array Value)[i]? := cell_of_heap ((Q3.out.block pm lm).trans HM.out)
    cases hs : decide (cellP l.thd l.thr me 4 0 < 0)
    · have HS := Lib.hid (of_decide_eq_false hs)
      have D3 := Lib.hid (HD.out.stay Q3.out)
      go_wp2_with fail
      refine (vis_Out (cellP l.loc l.locs o.a 4 3) me ba bl vlog log 0 w3 D3.out).mono ?_
      intro e w4 hR
      have HR := Lib.hid hR
      obtain ⟨hK, ⟨b, k', h1, rfl, h3, h4⟩ | ⟨x, k', h1, rfl, h3, h4⟩⟩ := hR
      · have H1 := Lib.hid h1
        have H3 := Lib.hid h3
        have H4 := Lib.hid h4
        have N4 := Lib.hid ((hK.block w.heap.size (by omega) (by omega)).trans N3.out)
        have HK := Lib.hid hK
        clear h1 h3 h4 hK cm
        have f1 : ∀ i, w4.frozen? ⟨w.heap.size, i, none⟩ = false := fun i => by simp [World.frozen?, N4.out]
        have n1 : ∀ i, w4.cell? ⟨w.heap.size, i, none⟩ = (#[.int .i64 0, .int .i64 0, .int .i64 0, .int .i64 0, .bool false, .bool false, .int .i64 0] : Array Value)[i]? := cell_of_heap N4.out
        go_wp2
        refine bodyPost_ret (v := (outIs b).v) (by simp [results, go_sem, n1, f1, outIs]) rfl ?_
        refine Runs.close (k1 := k') ?_ ?_ H3.out ?_
        · rw [visP, HV.out, if_neg (by have h1 := HC.out; have h2 := HS.out; omega), if_neg (by have := HKI.out; omega), M.map, M.bind, H1.out]; rfl
        · with_reducible repeat (refine Keep.setCell ?_ _ (.inl (Nat.le_refl _)))
          exact Keep.trans (Keep.of_below Q3.out) HK.out
        · simp only [hs_ne _ w.heap.size ba _ _ (by omega)]; exact H4.out
      · have H1 := Lib.hid h1
        have H3 := Lib.hid h3
        have H4 := Lib.hid h4
        have HK := Lib.hid hK
        clear h1 h3 h4 hK cm
        go_wp2_with fail
        refine ⟨rfl, Runs.halt (k1 := k') ?_ (Keep.trans (Keep.of_below Q3.out) HK.out) H3.out H4.out⟩
        rw [visP, HV.out, if_neg (by have h1 := HC.out; have h2 := HS.out; omega), if_neg (by have := HKI.out; omega), M.map, M.bind, H1.out]
    · have HS := Lib.hid (of_decide_eq_true hs)
      have f1 : ∀ i, w3.frozen? ⟨w.heap.size, i, none⟩ = false := fun i => by simp [World.frozen?, N3.out]
      have n1 : ∀ i, w3.cell? ⟨w.heap.size, i, none⟩ = (#[.int .i64 0, .int .i64 0, .int .i64 0, .int .i64 0, .bool false, .bool false, .int .i64 0] : Array Value)[i]? := cell_of_heap N3.out
      go_wp2
      refine bodyPost_ret (v := (outErr 1).v) (by simp [results, go_sem, n1, f1, outErr]) rfl ?_
      refine Runs.close (k1 := 0) ?_ ?_ (Nat.zero_le _) ?_
      · rw [visP, HV.out, if_pos (by have h2 := HS.out; omega)]; rfl
      · with_reducible repeat (refine Keep.setCell ?_ _ (.inl (Nat.le_refl _)))
        exact Keep.of_below Q3.out
      · simp only [hs_ne _ w.heap.size ba _ _ (by omega)]; exact (Q3.out.block ba lb).trans HD.out.at_
  · have HC := Lib.hid (of_decide_eq_true hc)
    have f1 : ∀ i, w2.frozen? ⟨w.heap.size, i, none⟩ = false := fun i => by simp [World.frozen?, N2.out]
    have n1 : ∀ i, w2.cell? ⟨w.heap.size, i, none⟩ = (#[.int .i64 0, .int .i64 0, .int .i64 0, .int .i64 0, .bool false, .bool false, .int .i64 0] : Array Value)[i]? := cell_of_heap N2.out
    go_wp2
    refine bodyPost_ret (v := (outErr 1).v) (by simp [results, go_sem, n1, f1, outErr]) rfl ?_
    refine Runs.close (k1 := 0) ?_ ?_ (Nat.zero_le _) ?_
    · rw [visP, HV.out, if_pos (by have h2 := HC.out; omega)]; rfl
    · with_reducible repeat (refine Keep.setCell ?_ _ (.inl (Nat.le_refl _)))
      exact Keep.of_below Q2.out
    · simp only [hs_ne _ w.heap.size ba _ _ (by omega)]; exact (Q2.out.block ba lb).trans HD.out.at_
set_option maxHeartbeats 800000 in
theorem next1_5 (l : Lay) (me : Int) (o : OpV) (hkind : ¬ o.kind = 1 ∧ ¬ o.kind = 2 ∧ ¬ o.kind = 3 ∧ ¬ o.kind = 4) (ba bl pl po pm : Nat) (atv vlog : Value) (log : List Rs) (w : World) (hD : DoAt w ba bl vlog log 0)
    (hl : w.heap[pl]? = some (.cells l.cells 25 (0, 0))) (ho : w.heap[po]? = some (.cells o.cells 32 (0, 0))) (hm : w.heap[pm]? = some (.cells #[.int .i64 me] 3 (0, 0))) :
    Calls Try.prog 44 #[doV ba bl, atv, .pointer (some ⟨pl, 0, none⟩), .pointer (some ⟨po, 0, none⟩), .pointer (some ⟨pm, 0, none⟩)] w (Runs w ba log 0 (visP l me o.kind o.a) Ou.v) := by
  have k1 : (o.kind == 1) = false := by simp; omega
  have k2 : (o.kind == 2) = false := by simp; omega
  have k3 : (o.kind == 3) = false := by simp; omega
  have k4 : (o.kind == 4) = false := by simp; omega
  have HV : Hid (visCell l o.kind o.a = -1) := by show visCell l o.kind o.a = -1; unfold visCell; rw [if_neg (by omega), if_neg (by omega)]
  have HKI := Lib.hid hkind
  clear hkind
  have HL := Lib.hid hl
  have HO := Lib.hid ho
  have HM := Lib.hid hm
  have ll := lt_of_heap hl
  have lo := lt_of_heap ho
  have lm := lt_of_heap hm
  have HD := Lib.hid hD
  have lb := hD.lt
  clear hl ho hm hD
  have cl : ∀ i, w.cell? ⟨pl, i, none⟩ = l.cells[i]? := cell_of_heap HL.out
  have co : ∀ i, w.cell? ⟨po, i, none⟩ = o.cells[i]? := cell_of_heap HO.out
  have cm : ∀ i, w.cell? ⟨pm, i, none⟩ = (#[.int .i64 me] : Array Value)[i]? := cell_of_heap HM.out
  have hsz := Nat.lt_irrefl 0
  clear hsz
  have w0k : Below w.heap.size w (w.alloc (.cells (Array.mk [.int .i64 0, .int .i64 0, .int .i64 0, .int .i64 0, .bool false, .bool false, .int .i64 0]) 42)) := blw_alloc (Below.refl _ _) _
  go_enter Try.func44, Try.ntmps44
  go_wp2_with fail
  refine (lay_Readers l o.a _).mono ?_
  rintro e w1 ⟨rfl, hb1⟩
  have Q1 := Lib.hid (blw_then w0k hb1)
  have N1 := Lib.hid ((hb1.block w.heap.size (by simp)).trans (ha_new _ _ _ rfl))
  have hsz1 := hb1.size
  simp only [World.size_alloc] at hsz1
  clear hb1 cl co cm w0k
  have cl : ∀ i, w1.cell? ⟨pl, i, none⟩ = l.cells[i]? := cell_of_heap ((Q1.out.block pl ll).trans HL.out)
  have co : ∀ i, w1.cell? ⟨po, i, none⟩ = o.cells[i]? := cell_of_heap ((Q1.out.block po lo).trans HO.out)
  have cm : ∀ i, w1.cell? ⟨pm, i, none⟩ = (#[.int .i64 me] : Array Value)[i]? := cell_of_heap ((Q1.out.block pm lm).trans HM.out)
  have f1 : ∀ i, w1.frozen? ⟨w.heap.size, i, none⟩ = false := fun i => by simp [World.frozen?, N1.out]
  have n1 : ∀ i, w1.cell? ⟨w.heap.size, i, none⟩ = (#[.int .i64 0, .int .i64 0, .int .i64 0, .int .i64 0, .bool false, .bool false, .int .i64 0] : Array Value)[i]? := cell_of_heap N1.out
  go_wp2
  refine bodyPost_ret (v := (outErr 1).v) (by simp [results, go_sem, n1, f1, outErr]) rfl ?_
  refine Runs.close (k1 := 0) ?_ ?_ (Nat.zero_le _) ?_
  · rw [visP, HV.out, if_pos (by omega)]; rfl
  · with_reducible repeat (refine Keep.setCell ?_ _ (.inl (Nat.le_refl _)))
    exact Keep.of_below Q1.out
  · simp only [hs_ne _ w.heap.size ba _ _ (by omega)]; exact (Q1.out.block ba lb).trans HD.out.at_
end Go.Proofs.Ytpfibcbeenogiaa
