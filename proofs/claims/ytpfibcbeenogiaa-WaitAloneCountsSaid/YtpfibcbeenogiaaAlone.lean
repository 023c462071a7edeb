/- law18.alone: an operation without interference, walked. -/
import Derived.Test.YtpfibcbeenogiaaInts
import Derived.Test.YtpfibcbeenogiaaVisEnd
namespace Go.Proofs.Ytpfibcbeenogiaa
open Go.RowKit
set_option linter.unusedSimpArgs false
set_option linter.unusedVariables false
def aloneGo (p : M Ou) (cs : List Int) (log : List Rs) (i : Nat) : Nat → Ou × List Int × Int
  | 0 => (Ou.zero, cs, -1)
  | f + 1 =>
    let s := stepOf p log
    if s.2.2 then (s.2.1, cs, i)
    else
      let r := memDo cs s.1
      if r.2.2 = 0 then aloneGo p r.1 (log ++ [r.2.1]) (i + 1) f else (Ou.zero, cs, -1)
def aloneF (p : M Ou) (cs : List Int) : Ou × List Int × Int := aloneGo p cs [] 0 21
theorem info_rs : (Try.prog.info? 58).map (fun i => (i.zero, i.size, i.bytes)) = some (some (.agg #[.int .i64 0, .bool false]), 2, 16) := by kernel_rfl
theorem flat_at {α : Type} {m : Nat} {enc : α → List Value} (henc : ∀ x, (enc x).length = m) : ∀ {xs : List α} {i j : Nat} {x : α} {u : Value}, xs[i]? = some x → j < m → (enc x)[j]? = some u → (xs.flatMap enc)[i * m + j]? = some u
  | [], i, j, x, u, hi, _, _ => by simp at hi
  | y :: ys, 0, j, x, u, hi, hj, hu => by
    simp at hi
    subst hi
    rw [List.flatMap_cons, List.getElem?_append_left (by rw [henc]; omega), Nat.zero_mul, Nat.zero_add]
    exact hu
  | y :: ys, i + 1, j, x, u, hi, hj, hu => by
    have := flat_at henc (xs := ys) (i := i) (by simpa using hi) hj hu
    rw [List.flatMap_cons, List.getElem?_append_right (by rw [henc, Nat.add_mul]; omega), henc]
    rw [show (i + 1) * m + j - m = i * m + j by rw [Nat.add_mul]; omega]
    exact this
/-- A slice of the call's own reads as a list. -/
theorem SlR.of_owns {α : Type} {m : Nat} {enc : α → List Value} {w : World} {base : Nat} {e : TypeId} {v : Value} {xs : List α} (h : w.ownsRow base e m v xs.length (xs.flatMap enc)) (henc : ∀ x, (enc x).length = m) (hl : xs.length ≤ 9223372036854775807) : SlR m enc w v xs := by
  obtain ⟨h1, ⟨rfl, h2⟩ | ⟨g, cap, cur, rfl, h3, h4, h5, h6, h7, h8⟩⟩ := h
  · obtain rfl : xs = [] := List.eq_nil_of_length_eq_zero h2
    exact SlR.nil _ _ _
  · refine ⟨_, cap, rfl, h5, hl, fun _ => ⟨g, 0, rfl, lt_of_heap h4, fun i x hi j u hu => ?_⟩⟩
    have hj : j < m := by
      have := (List.getElem?_eq_some_iff.1 hu).1
      rw [henc] at this
      exact this
    have hx : (xs.flatMap enc)[i * m + j]? = some u := flat_at henc hi hj hu
    rw [← h8, List.getElem?_take] at hx
    rw [Nat.zero_add, cell_of_heap h4]
    split at hx
    · simpa using hx
    · cases hx
set_option maxRecDepth 100000 in
set_option maxHeartbeats 2000000 in
theorem law_alone (l : Lay) (cs : List Int) (vm : Value) (me : Int) (o : OpV) (w : World) (hm : IntsR w vm cs) (hty : Typed w vm) (hlen : cs.length ≤ 1048576) :
    Calls Try.prog 25 #[l.v, .agg #[vm], .int .i64 me, o.v] w fun e w' =>
      ∃ vm', e = .returned (.tuple #[(aloneF (visP l me o.kind o.a) cs).1.v, .agg #[vm'], .int .i64 (aloneF (visP l me o.kind o.a) cs).2.2]) ∧ IntsR w' vm' (aloneF (visP l me o.kind o.a) cs).2.1 ∧ Typed w' vm' ∧ Below w.heap.size w w' := by
  have HM := Lib.hid hm
  clear hm
  generalize hP : visP l me o.kind o.a = p
  generalize hF : aloneF p cs = F
  have HP := Lib.hid hP
  have HF := Lib.hid hF
  clear hP hF
  go_enter Try.func25, Try.ntmps25
  go_wp2_with fail
  generalize hW : ((((w.alloc _).alloc _).alloc _).alloc _).alloc _ = W
  have bw0 := congrArg (fun u : World => u.heap[w.heap.size]?) hW
  try simp only [] at bw0
  repeat (first | rw [hs_ne _ _ _ _ _ (by omega)] at bw0 | rw [ha_lt _ _ _ (by simp only [World.size_alloc, World.size_setCell]; omega)] at bw0 | rw [hs_same] at bw0 | rw [hd_drew] at bw0)
  rw [ha_new _ _ _ (by simp only [World.size_alloc, World.size_setCell])] at bw0
  have Bw0 := Lib.hid bw0.symm
  clear bw0
  have bw1 := congrArg (fun u : World => u.heap[w.heap.size + 1]?) hW
  try simp only [] at bw1
  repeat (first | rw [hs_ne _ _ _ _ _ (by omega)] at bw1 | rw [ha_lt _ _ _ (by simp only [World.size_alloc, World.size_setCell]; omega)] at bw1 | rw [hs_same] at bw1 | rw [hd_drew] at bw1)
  rw [ha_new _ _ _ (by simp only [World.size_alloc, World.size_setCell])] at bw1
  have Bw1 := Lib.hid bw1.symm
  clear bw1
  have bw2 := congrArg (fun u : World => u.heap[w.heap.size + 1 + 1]?) hW
  try simp only [] at bw2
  repeat (first | rw [hs_ne _ _ _ _ _ (by omega)] at bw2 | rw [ha_lt _ _ _ (by simp only [World.size_alloc, World.size_setCell]; omega)] at bw2 | rw [hs_same] at bw2 | rw [hd_drew] at bw2)
  rw [ha_new _ _ _ (by simp only [World.size_alloc, World.size_setCell])] at bw2
  have Bw2 := Lib.hid bw2.symm
  clear bw2
  have bw3 := congrArg (fun u : World => u.heap[w.heap.size + 1 + 1 + 1]?) hW
  try simp only [] at bw3
  repeat (first | rw [hs_ne _ _ _ _ _ (by omega)] at bw3 | rw [ha_lt _ _ _ (by simp only [World.size_alloc, World.size_setCell]; omega)] at bw3 | rw [hs_same] at bw3 | rw [hd_drew] at bw3)
  rw [ha_new _ _ _ (by simp only [World.size_alloc, World.size_setCell])] at bw3
  have Bw3 := Lib.hid bw3.symm
  clear bw3
  have bw4 := congrArg (fun u : World => u.heap[w.heap.size + 1 + 1 + 1 + 1]?) hW
  try simp only [] at bw4
  repeat (first | rw [hs_ne _ _ _ _ _ (by omega)] at bw4 | rw [ha_lt _ _ _ (by simp only [World.size_alloc, World.size_setCell]; omega)] at bw4 | rw [hs_same] at bw4 | rw [hd_drew] at bw4)
  rw [ha_new _ _ _ (by simp only [World.size_alloc, World.size_setCell])] at bw4
  have Bw4 := Lib.hid bw4.symm
  clear bw4
  have WB : Hid (Below w.heap.size w W) := by
    subst hW
    exact blw_alloc (blw_alloc (blw_alloc (blw_alloc (blw_alloc (Below.refl _ _) _) _) _) _) _
  have ws : W.heap.size = w.heap.size + 1 + 1 + 1 + 1 + 1 := by subst hW; simp
  clear hW
  go_loopw [11, 12] (fun vlog i wr => ∃ (n : Nat) (cs' : List Int) (log : List Rs) (vm' : Value), n ≤ 21 ∧ i = .int .i64 (n : Int) ∧ log.length = n ∧ wr.ownsRow W.heap.size 58 2 vlog n (log.flatMap Rs.cells) ∧
    Keep (· = w.heap.size + 1) W wr ∧ wr.heap[w.heap.size + 1]? = some (.cells #[vm'] 53 (0, 0)) ∧ IntsR wr vm' cs' ∧ cs'.length ≤ 1048576 ∧
    Typed wr vm' ∧ aloneGo p cs' log n (21 - n) = F) (fun _ i _ => 21 - (intOf i).toNat)
  case atStart =>
    exact ⟨0, cs, [], vm, by omega, rfl, rfl, World.ownsRow_nil _ _ _ _, Keep.refl _ _, Bw1.out, HM.out.below WB.out, hlen, hty.below WB.out, HF.out⟩
  case round =>
    obtain ⟨n, cs', log, vm', hn, rfl, hln, how, hK, hB1, hI, hlen', hap, hgo⟩ := hrel
    obtain ⟨Av, cv, rfl, -⟩ := hI.out
    have Bx1 := Lib.hid hB1
    have cx1 : ∀ i, wr.cell? ⟨w.heap.size + 1, i, none⟩ = _ := cell_of_heap Bx1.out
    have fx1 : ∀ i, wr.frozen? ⟨w.heap.size + 1, i, none⟩ = false := fun i => by simp [World.frozen?, Bx1.out]
    have Bx0 := Lib.hid ((hK.block (w.heap.size) (lt_of_heap Bw0.out) (by omega)).trans Bw0.out)
    have Bx2 := Lib.hid ((hK.block (w.heap.size + 1 + 1) (lt_of_heap Bw2.out) (by omega)).trans Bw2.out)
    have Bx3 := Lib.hid ((hK.block (w.heap.size + 1 + 1 + 1) (lt_of_heap Bw3.out) (by omega)).trans Bw3.out)
    have Bx4 := Lib.hid ((hK.block (w.heap.size + 1 + 1 + 1 + 1) (lt_of_heap Bw4.out) (by omega)).trans Bw4.out)
    have cx0 : ∀ i, wr.cell? ⟨w.heap.size, i, none⟩ = _ := cell_of_heap Bx0.out
    have fx0 : ∀ i, wr.frozen? ⟨w.heap.size, i, none⟩ = false := fun i => by simp [World.frozen?, Bx0.out]
    have cx2 : ∀ i, wr.cell? ⟨w.heap.size + 1 + 1, i, none⟩ = _ := cell_of_heap Bx2.out
    have fx2 : ∀ i, wr.frozen? ⟨w.heap.size + 1 + 1, i, none⟩ = false := fun i => by simp [World.frozen?, Bx2.out]
    have cx3 : ∀ i, wr.cell? ⟨w.heap.size + 1 + 1 + 1, i, none⟩ = _ := cell_of_heap Bx3.out
    have fx3 : ∀ i, wr.frozen? ⟨w.heap.size + 1 + 1 + 1, i, none⟩ = false := fun i => by simp [World.frozen?, Bx3.out]
    have cx4 : ∀ i, wr.cell? ⟨w.heap.size + 1 + 1 + 1 + 1, i, none⟩ = _ := cell_of_heap Bx4.out
    have fx4 : ∀ i, wr.frozen? ⟨w.heap.size + 1 + 1 + 1 + 1, i, none⟩ = false := fun i => by simp [World.frozen?, Bx4.out]
    have zr := hK.size
    have HK := Lib.hid hK
    have HO := Lib.hid how
    have HI := Lib.hid hI
    have HT := Lib.hid hap
    have HG := Lib.hid hgo
    clear hB1 hK how hI hap hgo
    have FIN : ∀ wf, Keep (fun i => i = w.heap.size + 1 + 1 + 1 ∨ i = w.heap.size + 1 + 1 + 1 + 1) wr wf → IntsR wf (.slice Av cs'.length cv) cs' ∧ Typed wf (.slice Av cs'.length cv) ∧ Below w.heap.size w wf := by
      intro wf hk
      obtain ⟨g1, g2⟩ := ints_keep HI.out HT.out hk (by
        rintro b (rfl | rfl) _ c fr e
        · rw [Bx3.out] at e; simp at e
        · rw [Bx4.out] at e; simp at e)
      exact ⟨g1, g2, Keep.toBelow (X := fun i => w.heap.size ≤ i) ((Keep.of_below WB.out).trans ((HK.out.mono fun i _ hi => by omega).trans (hk.mono fun i _ hi => by omega))) (fun i hi => by omega)⟩
    have FIN := Lib.hid FIN
    by_cases hlt : n < 21
    · have hd : decide ((n : Int) ≤ 20) = true := by simp; omega
      have hlog := SlR.of_owns (enc := Rs.cells) (xs := log) (hln.symm ▸ HO.out) (fun _ => rfl) (by omega)
      go_wp2_with fail
      refine (vis_Next l me o u11 log wr hlog).mono ?_
      rintro e w1 ⟨rfl, hb⟩
      rw [HP.out]
      have HS := Lib.hid (rfl : stepOf p log = stepOf p log)
      revert HS
      generalize hS : stepOf p log = S
      obtain ⟨a, out, d⟩ := S
      intro HS
      have HSS := Lib.hid hS
      clear HS hS hlog
      have By0 := Lib.hid ((hb.block (w.heap.size) (lt_of_heap Bx0.out)).trans Bx0.out)
      have By1 := Lib.hid ((hb.block (w.heap.size + 1) (lt_of_heap Bx1.out)).trans Bx1.out)
      have By2 := Lib.hid ((hb.block (w.heap.size + 1 + 1) (lt_of_heap Bx2.out)).trans Bx2.out)
      have By3 := Lib.hid ((hb.block (w.heap.size + 1 + 1 + 1) (lt_of_heap Bx3.out)).trans Bx3.out)
      have By4 := Lib.hid ((hb.block (w.heap.size + 1 + 1 + 1 + 1) (lt_of_heap Bx4.out)).trans Bx4.out)
      clear cx0 fx0
      have cy0 : ∀ i, w1.cell? ⟨w.heap.size, i, none⟩ = _ := cell_of_heap By0.out
      have fy0 : ∀ i, w1.frozen? ⟨w.heap.size, i, none⟩ = false := fun i => by simp [World.frozen?, By0.out]
      clear cx1 fx1
      have cy1 : ∀ i, w1.cell? ⟨w.heap.size + 1, i, none⟩ = _ := cell_of_heap By1.out
      have fy1 : ∀ i, w1.frozen? ⟨w.heap.size + 1, i, none⟩ = false := fun i => by simp [World.frozen?, By1.out]
      clear cx2 fx2
      have cy2 : ∀ i, w1.cell? ⟨w.heap.size + 1 + 1, i, none⟩ = _ := cell_of_heap By2.out
      have fy2 : ∀ i, w1.frozen? ⟨w.heap.size + 1 + 1, i, none⟩ = false := fun i => by simp [World.frozen?, By2.out]
      clear cx3 fx3
      have cy3 : ∀ i, w1.cell? ⟨w.heap.size + 1 + 1 + 1, i, none⟩ = _ := cell_of_heap By3.out
      have fy3 : ∀ i, w1.frozen? ⟨w.heap.size + 1 + 1 + 1, i, none⟩ = false := fun i => by simp [World.frozen?, By3.out]
      clear cx4 fx4
      have cy4 : ∀ i, w1.cell? ⟨w.heap.size + 1 + 1 + 1 + 1, i, none⟩ = _ := cell_of_heap By4.out
      have fy4 : ∀ i, w1.frozen? ⟨w.heap.size + 1 + 1 + 1 + 1, i, none⟩ = false := fun i => by simp [World.frozen?, By4.out]
      have HB1 := Lib.hid hb
      have z1 := hb.size
      clear hb
      have y3 : w.heap.size + 1 + 1 + 1 < w1.heap.size := by omega
      have y4 : w.heap.size + 1 + 1 + 1 + 1 < w1.heap.size := by omega
      have y1 : w.heap.size + 1 < w1.heap.size := by omega
      have y0 : w.heap.size < w1.heap.size := by omega
      have y2 : w.heap.size + 1 + 1 < w1.heap.size := by omega
      cases d
      · go_wp2_with fail
        generalize hW1 : (w1.alloc _).alloc _ = W1
        have HBW : Hid (Below w1.heap.size w1 W1) := by subst hW1; exact blw_alloc (blw_alloc (Below.refl _ _) _) _
        have zW := HBW.out.size
        clear hW1
        have Bz0 := Lib.hid ((HBW.out.block (w.heap.size) (lt_of_heap By0.out)).trans By0.out)
        have Bz1 := Lib.hid ((HBW.out.block (w.heap.size + 1) (lt_of_heap By1.out)).trans By1.out)
        have Bz2 := Lib.hid ((HBW.out.block (w.heap.size + 1 + 1) (lt_of_heap By2.out)).trans By2.out)
        have Bz3 := Lib.hid ((HBW.out.block (w.heap.size + 1 + 1 + 1) (lt_of_heap By3.out)).trans By3.out)
        have Bz4 := Lib.hid ((HBW.out.block (w.heap.size + 1 + 1 + 1 + 1) (lt_of_heap By4.out)).trans By4.out)
        clear cy0 fy0
        have cz0 : ∀ i, W1.cell? ⟨w.heap.size, i, none⟩ = _ := cell_of_heap Bz0.out
        have fz0 : ∀ i, W1.frozen? ⟨w.heap.size, i, none⟩ = false := fun i => by simp [World.frozen?, Bz0.out]
        clear cy1 fy1
        have cz1 : ∀ i, W1.cell? ⟨w.heap.size + 1, i, none⟩ = _ := cell_of_heap Bz1.out
        have fz1 : ∀ i, W1.frozen? ⟨w.heap.size + 1, i, none⟩ = false := fun i => by simp [World.frozen?, Bz1.out]
        clear cy2 fy2
        have cz2 : ∀ i, W1.cell? ⟨w.heap.size + 1 + 1, i, none⟩ = _ := cell_of_heap Bz2.out
        have fz2 : ∀ i, W1.frozen? ⟨w.heap.size + 1 + 1, i, none⟩ = false := fun i => by simp [World.frozen?, Bz2.out]
        clear cy3 fy3
        have cz3 : ∀ i, W1.cell? ⟨w.heap.size + 1 + 1 + 1, i, none⟩ = _ := cell_of_heap Bz3.out
        have fz3 : ∀ i, W1.frozen? ⟨w.heap.size + 1 + 1 + 1, i, none⟩ = false := fun i => by simp [World.frozen?, Bz3.out]
        clear cy4 fy4
        have cz4 : ∀ i, W1.cell? ⟨w.heap.size + 1 + 1 + 1 + 1, i, none⟩ = _ := cell_of_heap Bz4.out
        have fz4 : ∀ i, W1.frozen? ⟨w.heap.size + 1 + 1 + 1 + 1, i, none⟩ = false := fun i => by simp [World.frozen?, Bz4.out]
        refine (mem_Do cs' a _ W1 ((HI.out.below HB1.out).below HBW.out) hlen').mono ?_
        rintro e w2 ⟨vm2, rfl, hI2, hb2, hty2⟩
        obtain ⟨A2, c2, rfl, -⟩ := hI2.out
        have Bu0 := Lib.hid ((hb2.block (w.heap.size) (lt_of_heap Bz0.out)).trans Bz0.out)
        have Bu1 := Lib.hid ((hb2.block (w.heap.size + 1) (lt_of_heap Bz1.out)).trans Bz1.out)
        have Bu2 := Lib.hid ((hb2.block (w.heap.size + 1 + 1) (lt_of_heap Bz2.out)).trans Bz2.out)
        have Bu3 := Lib.hid ((hb2.block (w.heap.size + 1 + 1 + 1) (lt_of_heap Bz3.out)).trans Bz3.out)
        have Bu4 := Lib.hid ((hb2.block (w.heap.size + 1 + 1 + 1 + 1) (lt_of_heap Bz4.out)).trans Bz4.out)
        clear cz0 fz0
        have cu0 : ∀ i, w2.cell? ⟨w.heap.size, i, none⟩ = _ := cell_of_heap Bu0.out
        have fu0 : ∀ i, w2.frozen? ⟨w.heap.size, i, none⟩ = false := fun i => by simp [World.frozen?, Bu0.out]
        clear cz1 fz1
        have cu1 : ∀ i, w2.cell? ⟨w.heap.size + 1, i, none⟩ = _ := cell_of_heap Bu1.out
        have fu1 : ∀ i, w2.frozen? ⟨w.heap.size + 1, i, none⟩ = false := fun i => by simp [World.frozen?, Bu1.out]
        clear cz2 fz2
        have cu2 : ∀ i, w2.cell? ⟨w.heap.size + 1 + 1, i, none⟩ = _ := cell_of_heap Bu2.out
        have fu2 : ∀ i, w2.frozen? ⟨w.heap.size + 1 + 1, i, none⟩ = false := fun i => by simp [World.frozen?, Bu2.out]
        clear cz3 fz3
        have cu3 : ∀ i, w2.cell? ⟨w.heap.size + 1 + 1 + 1, i, none⟩ = _ := cell_of_heap Bu3.out
        have fu3 : ∀ i, w2.frozen? ⟨w.heap.size + 1 + 1 + 1, i, none⟩ = false := fun i => by simp [World.frozen?, Bu3.out]
        clear cz4 fz4
        have cu4 : ∀ i, w2.cell? ⟨w.heap.size + 1 + 1 + 1 + 1, i, none⟩ = _ := cell_of_heap Bu4.out
        have fu4 : ∀ i, w2.frozen? ⟨w.heap.size + 1 + 1 + 1 + 1, i, none⟩ = false := fun i => by simp [World.frozen?, Bu4.out]
        have z2 := hb2.size
        have sv0 : w.heap.size < w2.heap.size := by omega
        have sv1 : w.heap.size + 1 < w2.heap.size := by omega
        have sv2 : w.heap.size + 1 + 1 < w2.heap.size := by omega
        have sv3 : w.heap.size + 1 + 1 + 1 < w2.heap.size := by omega
        have sv4 : w.heap.size + 1 + 1 + 1 + 1 < w2.heap.size := by omega
        have HT2 := Lib.hid (hty2 ((HT.out.below HB1.out).below HBW.out))
        have HI2 := Lib.hid hI2
        have HB2 := Lib.hid hb2
        have hlen2 := memDo_length cs' a
        have HRR := Lib.hid (rfl : memDo cs' a = memDo cs' a)
        clear hb2 hI2 hty2
        obtain ⟨R, hR⟩ : ∃ R, R = memDo cs' a := ⟨_, rfl⟩
        rw [← hR] at HI2 hlen2 ⊢
        have HR := Lib.hid hR
        clear hR HRR
        obtain ⟨cs2, ⟨rv, rok⟩, er⟩ := R
        by_cases her : er = 0
        · subst her
          have HE : Hid (aloneGo p cs2 (log ++ [⟨rv, rok⟩]) (n + 1) (21 - (n + 1)) = F) := by
            show _ = F
            rw [← HG.out, show 21 - n = (21 - (n + 1)) + 1 by omega, aloneGo]
            simp only [HSS.out, ← HR.out, Bool.false_eq_true, if_false, if_true]
          obtain ⟨i0, hi0, hz0, hz1, hz2⟩ := info_parts info_rs
          have HO2 := Lib.hid (owns_below (owns_below (owns_below HO.out HB1.out) HBW.out) HB2.out)
          go_wp2_with (at_builtin; refine wpList_append_own _ rfl (.tmp 48) (.tmp 50) 33 rfl W.heap.size 58 i0 (.agg #[.int .i64 0, .bool false]) 2 16 Try.underlying33 hi0 hz0 hz1 hz2 rfl (by decide) u11 n (log.flatMap Rs.cells) rfl ?own ⟨w2.heap.size + 1 + 1, 0, none⟩ 1 1 [.int .i64 rv, .bool rok] rfl rfl ?c1 ?c2 ?c3 ?c4 ?c5 ?_)
          case own => exact (((owns_set HO2.out (by omega)).alloc _).alloc _).alloc _
          case c1 =>
            intro j u hj
            have e : (Addr.add ⟨w2.heap.size + 1 + 1, 0, none⟩ j) = ⟨w2.heap.size + 1 + 1, j, none⟩ := by simp [Addr.add] <;> omega
            rw [e, cell_of_heap (ha_new _ _ _ (by simp only [World.size_alloc, World.size_setCell]))]
            simpa using hj
          case c2 => intro u hu; simp at hu; rcases hu with rfl | rfl <;> rfl
          case c3 => simp only [maxLen]; omega
          case c4 => omega
          case c5 =>
            have := HK.out.size
            have := HB1.out.size
            simp only [World.size_alloc, World.size_setCell]
            omega
          intro vlog' w3 hown3 hgrow3 hnil
          have H3 := Lib.hid hown3
          have G3 := Lib.hid hgrow3
          clear hown3 hgrow3 hnil
          go_wp2
          go_roundw
          case rel =>
            have hnb : ∀ k, u11.ownBlock = some k → W.heap.size ≤ k := fun k hk => (HO2.out.lt k hk).1
            refine ⟨n + 1, cs2, log ++ [⟨rv, rok⟩], .slice A2 cs'.length c2, by omega, by go_num, by simp [hln], by rw [List.flatMap_append, ws]; exact H3.out, ?_, ?_, ?_, ?_, ?_, HE.out⟩
            · refine Keep.grown ?_ G3.out (fun k hk => .inl (hnb k hk))
              with_reducible repeat (first | refine Keep.setCell ?_ _ (.inr rfl) | refine Keep.alloc ?_ _)
              exact HK.out.trans ((Keep.of_below HB1.out).trans ((Keep.of_below HBW.out).trans (Keep.of_below HB2.out)))
            · refine (G3.out.block _ (by simp only [World.size_alloc, World.size_setCell]; omega) (fun e => by have := hnb _ e.symm; omega)).trans ?_
              rw [ha_lt _ _ _ (by simp only [World.size_alloc, World.size_setCell]; omega), ha_lt _ _ _ (by simp only [World.size_alloc, World.size_setCell]; omega), ha_lt _ _ _ (by simp only [World.size_alloc, World.size_setCell]; omega), hs_same, Bu1.out]
              rfl
            · have hI3 := HI2.out
              rw [hlen2] at hI3
              have hT3 := HT2.out
              rw [show (memDo cs' a).1.length = cs'.length from memDo_length cs' a] at hT3
              refine (ints_keep (X := fun i => i = w.heap.size + 1 ∨ u11.ownBlock = some i) hI3 hT3 ?_ ?_).1
              · refine Keep.grown ?_ G3.out (fun k hk => .inr (.inr hk))
                with_reducible repeat (first | refine Keep.setCell ?_ _ (.inr (.inl rfl)) | refine Keep.alloc ?_ _)
                exact Keep.refl _ _
              · rintro b (rfl | hb) _ c fr e
                · rw [Bu1.out] at e; simp at e
                · obtain ⟨c', hc'⟩ := owns_type HO2.out hb
                  rw [hc'] at e
                  simp at e
            · omega
            · have hI3 := HI2.out
              rw [hlen2] at hI3
              have hT3 := HT2.out
              rw [show (memDo cs' a).1.length = cs'.length from memDo_length cs' a] at hT3
              refine (ints_keep (X := fun i => i = w.heap.size + 1 ∨ u11.ownBlock = some i) hI3 hT3 ?_ ?_).2
              · refine Keep.grown ?_ G3.out (fun k hk => .inr (.inr hk))
                with_reducible repeat (first | refine Keep.setCell ?_ _ (.inr (.inl rfl)) | refine Keep.alloc ?_ _)
                exact Keep.refl _ _
              · rintro b (rfl | hb) _ c fr e
                · rw [Bu1.out] at e; simp at e
                · obtain ⟨c', hc'⟩ := owns_type HO2.out hb
                  rw [hc'] at e
                  simp at e
          case measure => simp [intOf]; omega
        · have HE : Hid (F = (Ou.zero, cs', -1)) := by
            show F = _
            rw [← HG.out, show 21 - n = (20 - n) + 1 by omega, aloneGo]
            simp only [HSS.out, ← HR.out, Bool.false_eq_true, if_false, if_neg her]
          have bne : (er != 0) = true := by simp [her]
          clear her
          go_wp2_with fail
          go_region
          go_wp2
          refine bodyPost_ret (v := .tuple #[Ou.zero.v, .agg #[.slice Av cs'.length cv], .int .i64 (-1)]) (by simp [results, go_sem, cu3, fu3, cu4, fu4, sv0, sv1, sv2, sv3, sv4, Ou.zero]) rfl ?_
          refine ⟨_, by rw [HE.out], ?_⟩
          rw [HE.out]
          refine FIN.out _ ?_
          with_reducible repeat (first | refine Keep.setCell ?_ _ (.inr (by first | exact .inl rfl | exact .inr rfl)) | refine Keep.drew ?_ | refine Keep.alloc ?_ _)
          exact (Keep.of_below HB1.out).trans ((Keep.of_below HBW.out).trans (Keep.of_below HB2.out))
      · have HE : Hid (F = (out, cs', (n : Int))) := by
          show F = _
          rw [← HG.out, show 21 - n = (20 - n) + 1 by omega, aloneGo]
          simp only [HSS.out, if_true]
        go_wp2
        go_region
        go_wp2
        refine bodyPost_ret (v := .tuple #[out.v, .agg #[.slice Av cs'.length cv], .int .i64 (n : Int)]) (by simp [results, go_sem, cy3, fy3, cy4, fy4, y0, y1, y2, y3, y4]) rfl ?_
        refine ⟨_, by rw [HE.out], ?_⟩
        rw [HE.out]
        refine FIN.out _ ?_
        with_reducible repeat (first | refine Keep.setCell ?_ _ (.inr (by first | exact .inl rfl | exact .inr rfl)) | refine Keep.drew ?_ | refine Keep.alloc ?_ _)
        exact Keep.of_below HB1.out
    · obtain rfl : n = 21 := by omega
      have HE : Hid (F = (Ou.zero, cs', -1)) := by
        show F = _
        rw [← HG.out, show 21 - 21 = 0 from rfl, aloneGo]
      go_wp2
      go_region
      go_wp2
      refine bodyPost_ret (v := .tuple #[Ou.zero.v, .agg #[.slice Av cs'.length cv], .int .i64 (-1)]) (by simp [results, go_sem, cx3, fx3, cx4, fx4, Ou.zero]) rfl ?_
      refine ⟨_, by rw [HE.out], ?_⟩
      rw [HE.out]
      refine FIN.out _ ?_
      with_reducible repeat (first | refine Keep.setCell ?_ _ (.inr (by first | exact .inl rfl | exact .inr rfl)) | refine Keep.drew ?_ | refine Keep.alloc ?_ _)
      exact Keep.refl _ _
end Go.Proofs.Ytpfibcbeenogiaa
