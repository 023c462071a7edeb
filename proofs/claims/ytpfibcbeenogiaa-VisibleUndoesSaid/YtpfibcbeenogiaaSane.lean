/- law18.sanity, walked. -/
import Derived.Test.YtpfibcbeenogiaaAlone
import Derived.Test.YtpfibcbeenogiaaAfter
import Derived.Deep.RegionHeld3
import Derived.Deep.CutRange
import Derived.Deep.Quiet
import Derived.Deep.Upon
namespace Go.Proofs.Ytpfibcbeenogiaa
open Go.RowKit
set_option linter.unusedSimpArgs false
set_option linter.unusedVariables false
/-- What an operation without interference does. -/
theorem alone_goes (ends : Int → Bool) (makes : Int → Int) (i : Nat) (m : Int) (cs : List Int) (p : M Ou) (hp : p = M.map outIs (goesL ends makes (i : Int))) (hi : cs[i]? = some m) :
    aloneF p cs = if ends m then (outIs false, cs, 1) else (outIs true, cs.set i (makes m), 2) := by
  have hr1 : memRight (accLoad (i : Int)) = true := by simp [memRight, accLoad]
  have h1 : stepOf p [] = (accLoad i, Ou.zero, false) := by
    simp only [stepOf, hp, M.map, M.bind, M.ret]; rw [goesL_none (by simp)]
  have h2 : memDo cs (accLoad (i : Int)) = (cs, ⟨m, true⟩, 0) := by
    rw [memDo, if_pos hr1]
    simp only [accLoad, Int.toNat_natCast, hi, memNext]
    simp [set_self hi]
  rw [aloneF, aloneGo]
  simp only [h1, h2, Bool.false_eq_true, if_false, if_true, List.nil_append]
  rw [aloneGo]
  cases he : ends m
  · have h3 : stepOf p [⟨m, true⟩] = (accCas i m (makes m), Ou.zero, false) := by
      simp only [stepOf, hp, M.map, M.bind, M.ret]; rw [goesL_stop (r := ⟨m, true⟩) (by simp) he (by simp)]
    have hr2 : memRight (accCas (i : Int) m (makes m)) = true := by simp [memRight, accCas]
    have h4 : memDo cs (accCas (i : Int) m (makes m)) = (cs.set i (makes m), ⟨m, true⟩, 0) := by
      rw [memDo, if_pos hr2]
      simp only [accCas, Int.toNat_natCast, hi, memNext]
      simp
    have h5 : stepOf p [⟨m, true⟩, ⟨m, true⟩] = (Acc.zero, outIs true, true) := by
      simp only [stepOf, hp, M.map, M.bind, M.ret]; rw [goesL_done (r := ⟨m, true⟩) (q := ⟨m, true⟩) (by simp) he (by simp) rfl]
    simp only [h3, h4, Bool.false_eq_true, if_false, if_true, List.cons_append, List.nil_append]
    rw [aloneGo]
    simp only [h5, if_true]
    rfl
  · have h3 : stepOf p [⟨m, true⟩] = (Acc.zero, outIs false, true) := by
      simp only [stepOf, hp, M.map, M.bind, M.ret]; rw [goesL_end (r := ⟨m, true⟩) (by simp) he]
    simp only [h3, if_true]
    rfl
theorem aloneF_vis (l : Lay) (me kind a : Int) (c : Nat) (m : Int) (cs : List Int) (hc : visCell l kind a = (c : Int)) (hs : ¬ cellP l.thd l.thr me 4 0 < 0) (hi : cs[c]? = some m) :
    aloneF (visP l me kind a) cs = if kind = 1 ∨ kind = 3 then (if wIn m me then (outIs false, cs, 1) else (outIs true, cs.set c (wWith m me), 2)) else (if wIn m me then (outIs true, cs.set c (wWithout m me), 2) else (outIs false, cs, 1)) := by
  have hP : visP l me kind a = M.map outIs (if kind = 1 ∨ kind = 3 then putM c me else outM c me) := by
    rw [visP, hc, if_neg (by omega)]
  by_cases hk : kind = 1 ∨ kind = 3
  · rw [if_pos hk] at hP ⊢
    exact alone_goes (fun m => wIn m me) (fun m => wWith m me) c m cs _ hP hi
  · rw [if_neg hk] at hP ⊢
    rw [alone_goes (fun m => !wIn m me) (fun m => wWithout m me) c m cs _ hP hi]
    cases wIn m me <;> simp
def lay0 : Lay := ⟨3, 2, 0, 0, 1, 0, 1, 2, 3, 4, 16, 16, 24⟩
theorem rOf0 : rOf 3 2 0 0 1 = (⟨3, 2, 0, 0, 1, 0, 1, 2, 3, 4, 16, 16, 24⟩, 0) := by decide
abbrev opN (k a : Int) : OpV := ⟨k, a, 0, 0, 0, 0, 0, .slice none 0 0, .slice none 0 0, .slice none 0 0⟩
abbrev lay9 : Lay := ⟨3, 2, 0, 0, 1, 0, 1, 2, 3, 4, 16, 16, 24⟩
abbrev mem0 : List Int := List.replicate 24 0
theorem sane_is1 : aloneF (visP lay9 2 1 1) mem0 = (outIs true, mem0.set 22 4, 2) := by
  rw [aloneF_vis lay9 2 1 1 22 0 mem0 (by decide +kernel) (by decide +kernel) (by decide +kernel)]
  decide +kernel
theorem sane_is2 : aloneF (visP lay9 2 1 1) (mem0.set 22 4) = (outIs false, mem0.set 22 4, 1) := by
  rw [aloneF_vis lay9 2 1 1 22 4 (mem0.set 22 4) (by decide +kernel) (by decide +kernel) (by decide +kernel)]
  decide +kernel
theorem sane_is3 : aloneF (visP lay9 2 2 1) (mem0.set 22 4) = (outIs true, mem0, 2) := by
  rw [aloneF_vis lay9 2 2 1 22 4 (mem0.set 22 4) (by decide +kernel) (by decide +kernel) (by decide +kernel)]
  decide +kernel
theorem sane_is4 : stepOf (visP lay9 3 1 0) [] = (Acc.zero, outErr 1, true) := by
  rw [visP, if_pos (by decide +kernel)]
  rfl
theorem sane_cell (w : World) : Calls Try.prog 21 #[lay9.v, .int .i64 1] w fun e w' => e = .returned (.int .i64 22) ∧ Below w.heap.size w w' := by
  refine (ref_Readers lay9 1 w).mono ?_
  rintro e w' ⟨rfl, h⟩
  exact ⟨by rw [show cellP lay9.loc lay9.locs 1 4 2 = 22 by decide +kernel], h⟩
theorem sane_at (cs : List Int) (n : Int) (hn : memCell cs 22 = n) (vm : Value) (w : World) (hm : IntsR w vm cs) : Calls Try.prog 27 #[.agg #[vm], .int .i64 22] w fun e w' => e = .returned (.int .i64 n) ∧ Below w.heap.size w w' := by
  refine (ref_Cell cs 22 vm w hm).mono ?_
  rintro e w' ⟨rfl, h⟩
  exact ⟨by rw [hn], h⟩
theorem sane_needs (l : Lay) (a : Int) (b : Bool) (hb : visNeeds l.man a = b) (w : World) : Calls Try.prog 16 #[l.v, .agg #[.int .i64 0, .int .i64 0, .int .i64 a]] w fun e w' => e = .returned (.bool b) ∧ Below w.heap.size w w' := by
  refine (vis_Needs l 0 0 a w).mono ?_
  rintro e w' ⟨rfl, h⟩
  exact ⟨by rw [hb], h⟩
theorem lt_new (w : World) (o : Obj) : w.heap.size < (w.alloc o).heap.size := by rw [World.size_alloc]; omega
theorem sane_keep {X w3 : World} (hb : Below X.heap.size X w3) {b : Nat} {cells : Array Value} {T : TypeId} (h : X.heap[b]? = some (.cells cells T (0, 0))) :
    (∀ i, w3.cell? ⟨b, i, none⟩ = cells[i]?) ∧ (∀ i, w3.frozen? ⟨b, i, none⟩ = false) ∧ b < w3.heap.size ∧ Hid (w3.heap[b]? = some (.cells cells T (0, 0))) := by
  have e := (hb.block b (lt_of_heap h)).trans h
  exact ⟨cell_of_heap e, fun i => by simp [World.frozen?, e], lt_of_heap e, e⟩
theorem sane_one (kind : Int) (cs cs' : List Int) (is : Bool) (n : Int) (hF : aloneF (visP lay9 2 kind 1) cs = (outIs is, cs', n)) (hlen : cs.length ≤ 1048576) (vm : Value) (w : World) (hm : IntsR w vm cs) (hty : Typed w vm) :
    Calls Try.prog 25 #[lay9.v, .agg #[vm], .int .i64 2, (opN kind 1).v] w fun e w' =>
      ∃ vm', e = .returned (.tuple #[(outIs is).v, .agg #[vm'], .int .i64 n]) ∧ IntsR w' vm' cs' ∧ Typed w' vm' ∧ Below w.heap.size w w' := by
  refine (law_alone lay9 cs vm 2 (opN kind 1) w hm hty hlen).mono ?_
  rintro e w' ⟨vm', rfl, h1, h2, h3⟩
  rw [show visP lay9 2 (opN kind 1).kind (opN kind 1).a = visP lay9 2 kind 1 from rfl, hF] at h1 ⊢
  exact ⟨vm', rfl, h1, h2, h3⟩
theorem fresh_ints {w' : World} {b : Nat} {cs : List Int} (hl : cs.length ≤ 1048576) (h : w'.heap[b]? = some (.cells (cs.map (Value.int .i64)).toArray 3 (0, 0))) : IntsR w' (.slice (some ⟨b, 0, none⟩) cs.length cs.length) cs ∧ Typed w' (.slice (some ⟨b, 0, none⟩) cs.length cs.length) :=
  ⟨SlR.of_heap h cs.length (by omega) (by omega), fun b' hb => by simp only [Value.ownBlock, Option.some.injEq] at hb; subst hb; exact ⟨_, _, h⟩⟩
set_option maxRecDepth 100000 in
set_option maxHeartbeats 40000000 in
theorem law_sanity (w : World) : Calls Try.prog 12 #[] w fun e w' => e = .returned (.bool true) ∧ Below w.heap.size w w' := by
  go_enter Try.func12, Try.ntmps12
  go_wp2_with fail
  refine (ref_Of 3 2 0 0 1 _).mono ?_
  rintro e w1 ⟨rfl, hb⟩
  rw [rOf0]
  have HB1 := Lib.hid hb
  clear hb
  go_upto_region 2 with fail
  generalize hW : w1.alloc _ = W
  have hl : W.heap[w1.heap.size]? = some (.cells #[.int .i64 3, .int .i64 2, .int .i64 0, .int .i64 0, .int .i64 1, .int .i64 0, .int .i64 1, .int .i64 2, .int .i64 3, .int .i64 4, .int .i64 16, .int .i64 16, .int .i64 24] 25 (0, 0)) := by
    subst hW
    exact ha_new _ _ _ rfl
  have HBW : Hid (Below w.heap.size w W) := by subst hW; exact blw_alloc HB1.out _
  have hsz : w1.heap.size < W.heap.size := lt_of_heap hl
  have HL := Lib.hid hl
  have cl : ∀ i, W.cell? ⟨w1.heap.size, i, none⟩ = _ := cell_of_heap hl
  clear hW
  have hSB : ∀ wa wb : World, Below wa.heap.size wa wb → ((∀ i, wa.cell? ⟨w1.heap.size, i, none⟩ = #[Value.int .i64 3, .int .i64 2, .int .i64 0, .int .i64 0, .int .i64 1, .int .i64 0, .int .i64 1, .int .i64 2, .int .i64 3, .int .i64 4, .int .i64 16, .int .i64 16, .int .i64 24][i]?) ∧ w1.heap.size < wa.heap.size) → ((∀ i, wb.cell? ⟨w1.heap.size, i, none⟩ = #[Value.int .i64 3, .int .i64 2, .int .i64 0, .int .i64 0, .int .i64 1, .int .i64 0, .int .i64 1, .int .i64 2, .int .i64 3, .int .i64 4, .int .i64 16, .int .i64 16, .int .i64 24][i]?) ∧ w1.heap.size < wb.heap.size) :=
    fun wa wb hb h => ⟨fun i => (hb.cell (p := ⟨w1.heap.size, i, none⟩) h.2).trans (h.1 i), Nat.lt_of_lt_of_le h.2 hb.size⟩
  have hSA : ∀ (wa : World) (o : Obj), ((∀ i, wa.cell? ⟨w1.heap.size, i, none⟩ = #[Value.int .i64 3, .int .i64 2, .int .i64 0, .int .i64 0, .int .i64 1, .int .i64 0, .int .i64 1, .int .i64 2, .int .i64 3, .int .i64 4, .int .i64 16, .int .i64 16, .int .i64 24][i]?) ∧ w1.heap.size < wa.heap.size) → ((∀ i, (wa.alloc o).cell? ⟨w1.heap.size, i, none⟩ = #[Value.int .i64 3, .int .i64 2, .int .i64 0, .int .i64 0, .int .i64 1, .int .i64 0, .int .i64 1, .int .i64 2, .int .i64 3, .int .i64 4, .int .i64 16, .int .i64 16, .int .i64 24][i]?) ∧ w1.heap.size < (wa.alloc o).heap.size) :=
    fun wa o h => hSB _ _ ((Below.refl _ _).alloc (Nat.le_refl _) _) h
  have hSS : ∀ (wa : World) (b o : Nat) (v : Value), ((∀ i, wa.cell? ⟨w1.heap.size, i, none⟩ = #[Value.int .i64 3, .int .i64 2, .int .i64 0, .int .i64 0, .int .i64 1, .int .i64 0, .int .i64 1, .int .i64 2, .int .i64 3, .int .i64 4, .int .i64 16, .int .i64 16, .int .i64 24][i]?) ∧ w1.heap.size < wa.heap.size) → b ≠ w1.heap.size → ((∀ i, (wa.setCell ⟨b, o, none⟩ v).cell? ⟨w1.heap.size, i, none⟩ = #[Value.int .i64 3, .int .i64 2, .int .i64 0, .int .i64 0, .int .i64 1, .int .i64 0, .int .i64 1, .int .i64 2, .int .i64 3, .int .i64 4, .int .i64 16, .int .i64 16, .int .i64 24][i]?) ∧ w1.heap.size < (wa.setCell ⟨b, o, none⟩ v).heap.size) :=
    fun wa b o v h hne => ⟨fun i => (World.cell?_of_block (a := ⟨w1.heap.size, i, none⟩) (hs_ne wa b _ o v hne)).trans (h.1 i), by simpa using h.2⟩
  have hS0 : (∀ i, W.drew.cell? ⟨w1.heap.size, i, none⟩ = #[Value.int .i64 3, .int .i64 2, .int .i64 0, .int .i64 0, .int .i64 1, .int .i64 0, .int .i64 1, .int .i64 2, .int .i64 3, .int .i64 4, .int .i64 16, .int .i64 16, .int .i64 24][i]?) ∧ w1.heap.size < W.drew.heap.size := ⟨cl, hsz⟩
  have hSD : ∀ wa : World, ((∀ i, wa.cell? ⟨w1.heap.size, i, none⟩ = #[Value.int .i64 3, .int .i64 2, .int .i64 0, .int .i64 0, .int .i64 1, .int .i64 0, .int .i64 1, .int .i64 2, .int .i64 3, .int .i64 4, .int .i64 16, .int .i64 16, .int .i64 24][i]?) ∧ w1.heap.size < wa.heap.size) → ((∀ i, wa.drew.cell? ⟨w1.heap.size, i, none⟩ = #[Value.int .i64 3, .int .i64 2, .int .i64 0, .int .i64 0, .int .i64 1, .int .i64 0, .int .i64 1, .int .i64 2, .int .i64 3, .int .i64 4, .int .i64 16, .int .i64 16, .int .i64 24][i]?) ∧ w1.heap.size < wa.drew.heap.size) := fun _ h => h
  have HSD := Lib.hid hSD
  have hS9 : (∀ i, W.cell? ⟨w1.heap.size, i, none⟩ = #[Value.int .i64 3, .int .i64 2, .int .i64 0, .int .i64 0, .int .i64 1, .int .i64 0, .int .i64 1, .int .i64 2, .int .i64 3, .int .i64 4, .int .i64 16, .int .i64 16, .int .i64 24][i]?) ∧ w1.heap.size < W.heap.size := ⟨cl, hsz⟩
  have HS9 := Lib.hid hS9
  clear hSD hS9
  have HSB := Lib.hid hSB
  have HSA := Lib.hid hSA
  have HSS := Lib.hid hSS
  clear hSB hSA hSS cl
  clear hl
  go_cut [3, 4, 5] from 20 to 29 (fun p3 p4 s5 wx => ∃ (b3 b4 : Nat) (vm : Value), p3 = .pointer (some ⟨b3, 0, none⟩) ∧ p4 = .pointer (some ⟨b4, 0, none⟩) ∧ s5 = .int .i64 2 ∧ Below W.heap.size W wx ∧
    wx.heap[b3]? = some (.cells #[.int .i64 0, .int .i64 0, .int .i64 0, .int .i64 0, .bool true, .bool false, .int .i64 0] 42 (0, 0)) ∧ wx.heap[b4]? = some (.cells #[vm] 53 (0, 0)) ∧
    IntsR wx vm ((List.replicate 24 0).set 22 4) ∧ Typed wx vm)
  case first =>
    go_region_held3 (fun w' => (∀ i, w'.cell? ⟨w1.heap.size, i, none⟩ = #[Value.int .i64 3, .int .i64 2, .int .i64 0, .int .i64 0, .int .i64 1, .int .i64 0, .int .i64 1, .int .i64 2, .int .i64 3, .int .i64 4, .int .i64 16, .int .i64 16, .int .i64 24][i]?) ∧ w1.heap.size < w'.heap.size)
      (((try dsimp only); with_reducible repeat (first | refine HSS.out _ _ _ _ ?_ (Nat.ne_of_gt hsz) | refine HSS.out _ _ _ _ ?_ (Nat.ne_of_gt (Nat.lt_succ_of_lt hsz)) | refine HSS.out _ _ _ _ ?_ (Nat.ne_of_gt zz2) | refine HSS.out _ _ _ _ ?_ (Nat.ne_of_gt (Nat.lt_succ_of_lt zz2)) | refine HSS.out _ _ _ _ ?_ (Nat.ne_of_gt zz3) | refine HSS.out _ _ _ _ ?_ (Nat.ne_of_gt (Nat.lt_succ_of_lt zz3)) | refine HSA.out _ _ ?_ | refine HSD.out _ ?_ | exact HS9.out | assumption | refine HSB.out _ _ ‹Below _ _ _› ?_)))
      ((first
        | (go_at_call 19; refine (ref_New 24 (by decide) _).mono ?_; rintro e w2 ⟨vm2, rfl, b2, rfl, hF1, hF2, hF3⟩; have hI2 := fresh_ints (cs := mem0) (Nat.le_of_ble_eq_true rfl) hF2; clear hF2 hF1; have zz2 := Nat.lt_of_lt_of_le (And.right ‹_ ∧ w1.heap.size < _›) hF3.size
           (try (have q := sane_keep (b := W.heap.size) hF3 (ha_new _ _ _ rfl); obtain ⟨c20, f20, z20, h20⟩ := q))
           (try (have q := sane_keep (b := W.heap.size) hF3 ((hd_drew _ _).trans (ha_new _ _ _ rfl)); obtain ⟨c20, f20, z20, h20⟩ := q))
           (try (have q := sane_keep (b := W.heap.size) hF3 ((ha_lt _ _ _ (lt_new _ _)).trans (ha_new _ _ _ rfl)); obtain ⟨c20, f20, z20, h20⟩ := q))
           (try (have q := sane_keep (b := W.heap.size) hF3 ((hd_drew _ _).trans ((ha_lt _ _ _ (lt_new _ _)).trans (ha_new _ _ _ rfl))); obtain ⟨c20, f20, z20, h20⟩ := q))
           (try (have q := sane_keep (b := W.heap.size + 1) hF3 (ha_new _ _ _ (World.size_alloc _ _).symm); obtain ⟨c21, f21, z21, h21⟩ := q))
           (try (have q := sane_keep (b := W.heap.size + 1) hF3 ((hd_drew _ _).trans (ha_new _ _ _ (World.size_alloc _ _).symm)); obtain ⟨c21, f21, z21, h21⟩ := q)))
        | (go_at_call 25; refine (sane_one 1 _ _ _ _ sane_is1 (by decide) _ _ (by first | exact hI2.1 | exact hI2.1.below (blw_alloc (Below.refl _ _) _) | exact hI2.1.below (blw_alloc (blw_alloc (Below.refl _ _) _) _)) (by first | exact hI2.2 | exact hI2.2.below (blw_alloc (Below.refl _ _) _) | exact hI2.2.below (blw_alloc (blw_alloc (Below.refl _ _) _) _))).mono ?_; rintro e w3 ⟨vm3, rfl, hI3, hT3, hb3⟩; obtain ⟨A3, c3, rfl, -⟩ := hI3.out
           (try (have q := sane_keep (b := w2.heap.size) hb3 (ha_new _ _ _ rfl); obtain ⟨c30, f30, z30, h30⟩ := q))
           (try (have q := sane_keep (b := w2.heap.size) hb3 ((ha_lt _ _ _ (lt_new _ _)).trans (ha_new _ _ _ rfl)); obtain ⟨c30, f30, z30, h30⟩ := q))
           (try (have q := sane_keep (b := w2.heap.size + 1) hb3 (ha_new _ _ _ (World.size_alloc _ _).symm); obtain ⟨c31, f31, z31, h31⟩ := q))
           (try (have q := sane_keep (b := W.heap.size) hb3 h20.out; obtain ⟨c32, f32, z32, h32⟩ := q))
           (try (have q := sane_keep (b := W.heap.size) hb3 ((ha_lt _ _ _ z20).trans h20.out); obtain ⟨c32, f32, z32, h32⟩ := q))
           (try (have q := sane_keep (b := W.heap.size + 1) hb3 h21.out; obtain ⟨c33, f33, z33, h33⟩ := q))
           have zz3 := Nat.lt_of_lt_of_le (And.right ‹_ ∧ w1.heap.size < _›) hb3.size)))
    all_goals (
      have hW2 : Below W.heap.size W w2 := blw_then (by with_reducible repeat (first | exact Below.refl _ _ | refine blw_alloc ?_ _ | refine blw_drew ?_)) hF3
      have hW3 : Below W.heap.size W w3 := blw_then (by with_reducible repeat (first | exact hW2 | refine blw_alloc ?_ _ | refine blw_drew ?_)) hb3
      have zw2 := hW2.size
      have zw3 := hW3.size
      have z23 := hb3.size
      try simp only [World.size_alloc] at z23
      clear HSB HSA HSS HSD HS9
      go_wp2_with fail
      go_meet
      case rel =>
        refine ⟨_, _, .slice A3 24 c3, rfl, rfl, rfl, ?_, ?_, ?_, ?_⟩
        · with_reducible repeat (first | exact hW3 | refine blw_alloc ?_ _ | refine blw_drew ?_ | refine blw_set ?_ (by simp only []; omega) _)
        · skip
          repeat (first | rw [hd_drew] | rw [hs_ne _ _ _ _ _ (by omega)] | rw [hs_same] | rw [ha_lt _ _ _ (by simp only [World.size_alloc, World.size_setCell]; omega)])
          first | rw [ha_new _ _ _ (by simp only [World.size_alloc, World.size_setCell])] | rw [h30.out] | rw [h31.out] | rw [h32.out] | rw [h33.out]
          try rfl
        · skip
          repeat (first | rw [hd_drew] | rw [hs_ne _ _ _ _ _ (by omega)] | rw [hs_same] | rw [ha_lt _ _ _ (by simp only [World.size_alloc, World.size_setCell]; omega)])
          first | rw [ha_new _ _ _ (by simp only [World.size_alloc, World.size_setCell])] | rw [h30.out] | rw [h31.out] | rw [h32.out] | rw [h33.out]
          try rfl
        · first
            | (refine ints_keep (X := fun i => i = w2.heap.size ∨ i = w2.heap.size + 1) hI3 hT3 ?_ ?_
               · with_reducible repeat (first | exact Keep.refl _ _ | refine Keep.drew ?_ | refine Keep.alloc ?_ _ | refine Keep.setCell ?_ _ (.inl (by simp only []; omega)) | refine Keep.setCell ?_ _ (.inr (by first | exact rfl | exact .inl rfl | exact .inr rfl)))
               · rintro _ (rfl | rfl) _ c fr e <;> first | (rw [h30.out] at e; simp at e; done) | (rw [h31.out] at e; simp at e; done))
            | (refine ints_keep (X := fun i => i = W.heap.size ∨ i = W.heap.size + 1) hI3 hT3 ?_ ?_
               · with_reducible repeat (first | exact Keep.refl _ _ | refine Keep.drew ?_ | refine Keep.alloc ?_ _ | refine Keep.setCell ?_ _ (.inl (by simp only []; omega)) | refine Keep.setCell ?_ _ (.inr (by first | exact rfl | exact .inl rfl | exact .inr rfl)))
               · rintro _ (rfl | rfl) _ c fr e <;> first | (rw [h32.out] at e; simp at e; done) | (rw [h33.out] at e; simp at e; done))
            | (refine ints_keep (X := fun i => i = W.heap.size ∨ i = w2.heap.size) hI3 hT3 ?_ ?_
               · with_reducible repeat (first | exact Keep.refl _ _ | refine Keep.drew ?_ | refine Keep.alloc ?_ _ | refine Keep.setCell ?_ _ (.inl (by simp only []; omega)) | refine Keep.setCell ?_ _ (.inr (by first | exact rfl | exact .inl rfl | exact .inr rfl)))
               · rintro _ (rfl | rfl) _ c fr e <;> first | (rw [h32.out] at e; simp at e; done) | (rw [h30.out] at e; simp at e; done))
            | (refine ints_keep (X := fun i => i = w2.heap.size) hI3 hT3 ?_ ?_
               · with_reducible repeat (first | exact Keep.refl _ _ | refine Keep.drew ?_ | refine Keep.alloc ?_ _ | refine Keep.setCell ?_ _ (.inl (by simp only []; omega)) | refine Keep.setCell ?_ _ (.inr (by first | exact rfl | exact .inl rfl | exact .inr rfl)))
               · rintro _ rfl _ c fr e; rw [h30.out] at e; simp at e)
            | (refine ints_keep (X := fun i => i = W.heap.size) hI3 hT3 ?_ ?_
               · with_reducible repeat (first | exact Keep.refl _ _ | refine Keep.drew ?_ | refine Keep.alloc ?_ _ | refine Keep.setCell ?_ _ (.inl (by simp only []; omega)) | refine Keep.setCell ?_ _ (.inr (by first | exact rfl | exact .inl rfl | exact .inr rfl)))
               · rintro _ rfl _ c fr e; rw [h32.out] at e; simp at e)
            | (refine ints_keep (X := fun i => False) hI3 hT3 ?_ ?_
               · with_reducible repeat (first | exact Keep.refl _ _ | refine Keep.drew ?_ | refine Keep.alloc ?_ _ | refine Keep.setCell ?_ _ (.inl (by simp only []; omega)) | refine Keep.setCell ?_ _ (.inr (by first | exact rfl | exact .inl rfl | exact .inr rfl)))
               · exact fun _ h => h.elim)
      )
  case rest =>
    obtain ⟨b3, b4, vm, rfl, rfl, rfl, hb, h3, h4, hI, hT⟩ := hcut
    obtain ⟨A, c, rfl, -⟩ := hI.out
    have cl0 : ∀ i, wc.cell? ⟨w1.heap.size, i, none⟩ = _ := fun i => (hb.cell (p := ⟨w1.heap.size, i, none⟩) hsz).trans (HS9.out.1 i)
    have hl0 := Lib.hid ((hb.block w1.heap.size hsz).trans HL.out)
    have c3 : ∀ i, wc.cell? ⟨b3, i, none⟩ = _ := cell_of_heap h3
    have c4 : ∀ i, wc.cell? ⟨b4, i, none⟩ = _ := cell_of_heap h4
    have H3 := Lib.hid h3
    have H4 := Lib.hid h4
    have HB := Lib.hid (blw_then HBW.out hb)
    clear hS0 HSB HSA HSS HSD HS9 hb h3 h4
    go_wp2_with fail
    refine (sane_one 1 _ _ _ _ sane_is2 (by simp) _ _ hI hT).mono ?_
    rintro e w3 ⟨vm3, rfl, hI3, hT3, hb3⟩
    obtain ⟨A3, c3', rfl, -⟩ := hI3.out
    have cl3 : ∀ i, w3.cell? ⟨w1.heap.size, i, none⟩ = _ := cell_of_heap ((hb3.block _ (lt_of_heap hl0.out)).trans hl0.out)
    have hs3 : w1.heap.size < w3.heap.size := Nat.lt_of_lt_of_le (lt_of_heap hl0.out) hb3.size
    have P3 := Lib.hid ((hb3.block _ (lt_of_heap H3.out)).trans H3.out)
    have P4 := Lib.hid ((hb3.block _ (lt_of_heap H4.out)).trans H4.out)
    have Pl := Lib.hid ((hb3.block _ (lt_of_heap hl0.out)).trans hl0.out)
    have HB3 := Lib.hid (blw_then HB.out hb3)
    have hJ3 := Lib.hid (hI.below hb3)
    clear hb3 c3 c4 cl0 cl3 hI hT
    go_upto_region 4 with fail
    generalize hg4 : (w3.alloc _).alloc _ = W4
    have ho4 : W4.heap[w3.heap.size]? = some (.cells #[.int .i64 0, .int .i64 0, .int .i64 0, .int .i64 0, .bool false, .bool false, .int .i64 0] 42 (0, 0)) := by
      rw [← hg4, ha_lt _ _ _ (by simp only [World.size_alloc]; omega), ha_new _ _ _ rfl]
      try rfl
    have hm4 : W4.heap[w3.heap.size + 1]? = some (.cells #[.slice A3 (List.set mem0 22 4).length c3'] 53 (0, 0)) := by
      rw [← hg4, ha_new _ _ _ (by simp only [World.size_alloc])]
      try rfl
    have hw4 : Below w3.heap.size w3 W4 := by rw [← hg4]; exact blw_alloc (blw_alloc (Below.refl _ _) _) _
    clear hg4
    have hI4 := Lib.hid (hI3.below hw4)
    have hJ4 := Lib.hid (hJ3.out.below hw4)
    have hT4 := Lib.hid (hT3.below hw4)
    have R3 := Lib.hid ((hw4.block _ (lt_of_heap P3.out)).trans P3.out)
    have R4 := Lib.hid ((hw4.block _ (lt_of_heap P4.out)).trans P4.out)
    have Rl := Lib.hid ((hw4.block _ (lt_of_heap Pl.out)).trans Pl.out)
    have Ro := Lib.hid ho4
    have Rm := Lib.hid hm4
    have HB4 := Lib.hid (blw_then HB3.out hw4)
    have cl4 : ∀ i, W4.cell? ⟨w1.heap.size, i, none⟩ = _ := cell_of_heap Rl.out
    have cm4 : ∀ i, W4.cell? ⟨w3.heap.size + 1, i, none⟩ = _ := cell_of_heap Rm.out
    generalize w3.heap.size = s3 at *
    clear ho4 hm4 hw4 hs3 hI3 hT3 P3 P4 Pl HB3
    go_wp2_with fail
    refine (sane_one 2 _ _ _ _ sane_is3 (by simp) _ _ hI4.out hT4.out).mono ?_
    rintro e w5 ⟨vm5, rfl, hI5, hT5, hb5⟩
    obtain ⟨A5, c5', rfl, -⟩ := hI5.out
    have P3 := Lib.hid ((hb5.block _ (lt_of_heap R3.out)).trans R3.out)
    have P4 := Lib.hid ((hb5.block _ (lt_of_heap R4.out)).trans R4.out)
    have Pl := Lib.hid ((hb5.block _ (lt_of_heap Rl.out)).trans Rl.out)
    have Po := Lib.hid ((hb5.block _ (lt_of_heap Ro.out)).trans Ro.out)
    have Pm := Lib.hid ((hb5.block _ (lt_of_heap Rm.out)).trans Rm.out)
    have HB5 := Lib.hid (blw_then HB4.out hb5)
    have hI4' := Lib.hid (hI4.out.below hb5)
    have hJ5 := Lib.hid (hJ4.out.below hb5)
    clear hb5 cl4 cm4 R3 R4 Rl Ro Rm hI4 hT4
    go_upto_region 5 with fail
    generalize hg6 : (w5.alloc _).alloc _ = W6
    have ho6 : W6.heap[w5.heap.size]? = some (.cells #[.int .i64 0, .int .i64 0, .int .i64 0, .int .i64 0, .bool true, .bool false, .int .i64 0] 42 (0, 0)) := by
      rw [← hg6, ha_lt _ _ _ (by simp only [World.size_alloc]; omega), ha_new _ _ _ rfl]
      try rfl
    have hm6 : W6.heap[w5.heap.size + 1]? = some (.cells #[.slice A5 mem0.length c5'] 53 (0, 0)) := by
      rw [← hg6, ha_new _ _ _ (by simp only [World.size_alloc])]
      try rfl
    have hw6 : Below w5.heap.size w5 W6 := by rw [← hg6]; exact blw_alloc (blw_alloc (Below.refl _ _) _) _
    clear hg6
    have R3 := Lib.hid ((hw6.block _ (lt_of_heap P3.out)).trans P3.out)
    have R4 := Lib.hid ((hw6.block _ (lt_of_heap P4.out)).trans P4.out)
    have Rl := Lib.hid ((hw6.block _ (lt_of_heap Pl.out)).trans Pl.out)
    have Ro := Lib.hid ((hw6.block _ (lt_of_heap Po.out)).trans Po.out)
    have Rm := Lib.hid ((hw6.block _ (lt_of_heap Pm.out)).trans Pm.out)
    have So := Lib.hid ho6
    have Sm := Lib.hid hm6
    have HB6 := Lib.hid (blw_then HB5.out hw6)
    have hI6 := Lib.hid (hI5.below hw6)
    have hJ6 := Lib.hid (hJ5.out.below hw6)
    have hI46 := Lib.hid (hI4'.out.below hw6)
    have cl6 : ∀ i, W6.cell? ⟨w1.heap.size, i, none⟩ = _ := cell_of_heap Rl.out
    generalize w5.heap.size = s5 at *
    clear ho6 hm6 hw6 hI5 hT5 P3 P4 Pl Po Pm HB5 hI4'
    go_wp2_with fail
    refine (vis_Next lay9 3 (opN 1 0) _ [] _ (SlR.nil _ _ _)).mono ?_
    rintro e w7 ⟨rfl, hb7⟩
    rw [show visP lay9 3 (opN 1 0).kind (opN 1 0).a = visP lay9 3 1 0 from rfl, sane_is4]
    have P3 := Lib.hid ((hb7.block _ (lt_of_heap R3.out)).trans R3.out)
    have P4 := Lib.hid ((hb7.block _ (lt_of_heap R4.out)).trans R4.out)
    have Pl := Lib.hid ((hb7.block _ (lt_of_heap Rl.out)).trans Rl.out)
    have Po := Lib.hid ((hb7.block _ (lt_of_heap Ro.out)).trans Ro.out)
    have Pm := Lib.hid ((hb7.block _ (lt_of_heap Rm.out)).trans Rm.out)
    have To := Lib.hid ((hb7.block _ (lt_of_heap So.out)).trans So.out)
    have Tm := Lib.hid ((hb7.block _ (lt_of_heap Sm.out)).trans Sm.out)
    have HB7 := Lib.hid (blw_then HB6.out hb7)
    have hI7 := Lib.hid (hI6.out.below hb7)
    have hJ7 := Lib.hid (hJ6.out.below hb7)
    have hI47 := Lib.hid (hI46.out.below hb7)
    clear hb7 cl6 R3 R4 Rl Ro Rm So Sm HB6 hI6 hI46
    go_upto_region 6 with fail
    generalize hg8 : (w7.alloc _).alloc _ = W8
    have ho8 : W8.heap[w7.heap.size + 1]? = some (.cells #[.int .i64 0, .int .i64 0, .int .i64 0, .int .i64 0, .bool false, .bool false, .int .i64 1] 42 (0, 0)) := by
      rw [← hg8, ha_new _ _ _ (by simp only [World.size_alloc])]
      try rfl
    have hw8 : Below w7.heap.size w7 W8 := by rw [← hg8]; exact blw_alloc (blw_alloc (Below.refl _ _) _) _
    clear hg8
    have e3 := after_cell ((hw8.block _ (lt_of_heap P3.out)).trans P3.out)
    have e4 := after_cell ((hw8.block _ (lt_of_heap P4.out)).trans P4.out)
    have el := after_cell ((hw8.block _ (lt_of_heap Pl.out)).trans Pl.out)
    have eo := after_cell ((hw8.block _ (lt_of_heap Po.out)).trans Po.out)
    have em := after_cell ((hw8.block _ (lt_of_heap Pm.out)).trans Pm.out)
    have fo := after_cell ((hw8.block _ (lt_of_heap To.out)).trans To.out)
    have fm := after_cell ((hw8.block _ (lt_of_heap Tm.out)).trans Tm.out)
    have go8 := after_cell ho8
    have HB8 := Lib.hid (blw_then HB7.out hw8)
    have hI8 := Lib.hid (hI7.out.below hw8)
    have hJ8 := Lib.hid (hJ7.out.below hw8)
    have hI48 := Lib.hid (hI47.out.below hw8)
    generalize w7.heap.size = s7 at *
    clear ho8 hw8 P3 P4 Pl Po Pm To Tm HB7 hI7 hI47
    refine region_after (by kernel_rfl) (by kernel_rfl) ?_
    have k1 : ∀ u : After W8, Calls Try.prog 21 #[lay9.v, .int .i64 1] u.w (fun e w' => e = .returned (.int .i64 22) ∧ ∃ u' : After W8, w' = u'.w) := fun u => after_call (sane_cell _)
    have k2 : ∀ u : After W8, Calls Try.prog 27 #[.agg #[.slice A 24 c], .int .i64 22] u.w (fun e w' => e = .returned (.int .i64 4) ∧ ∃ u' : After W8, w' = u'.w) :=
      fun u => after_call (sane_at (mem0.set 22 4) 4 (by decide) _ _ ((show IntsR W8 (.slice A 24 c) (mem0.set 22 4) from hJ8.out).below u.b))
    have k3 : ∀ u : After W8, Calls Try.prog 27 #[.agg #[.slice A5 24 c5'], .int .i64 22] u.w (fun e w' => e = .returned (.int .i64 0) ∧ ∃ u' : After W8, w' = u'.w) :=
      fun u => after_call (sane_at mem0 0 (by decide) _ _ ((show IntsR W8 (.slice A5 24 c5') mem0 from hI8.out).below u.b))
    have k4 : ∀ u : After W8, Calls Try.prog 16 #[lay9.v, .agg #[.int .i64 0, .int .i64 0, .int .i64 0]] u.w (fun e w' => e = .returned (.bool true) ∧ ∃ u' : After W8, w' = u'.w) :=
      fun u => after_call (sane_needs lay9 0 true (by decide) _)
    have k5 : ∀ u : After W8, Calls Try.prog 16 #[(⟨0, 0, 0, 0, 3, 0, 0, 0, 0, 0, 0, 0, 0⟩ : Lay).v, .agg #[.int .i64 0, .int .i64 0, .int .i64 1]] u.w (fun e w' => e = .returned (.bool false) ∧ ∃ u' : After W8, w' = u'.w) :=
      fun u => after_call (sane_needs ⟨0, 0, 0, 0, 3, 0, 0, 0, 0, 0, 0, 0, 0⟩ 1 false (by decide) _)
    have K1 := Lib.hid k1
    have K2 := Lib.hid k2
    have K3 := Lib.hid k3
    have K4 := Lib.hid k4
    have K5 := Lib.hid k5
    clear k1 k2 k3 k4 k5
    iterate 26 go_big_quiet_step (fail)
    go_big_quiet_step (exact K1.out _)
    go_big_quiet_step (exact K2.out _)
    iterate 5 go_big_quiet_step (fail)
    go_big_quiet_step (exact K1.out _)
    go_big_quiet_step (exact K3.out _)
    iterate 13 go_big_quiet_step (fail)
    go_big_quiet_step (exact K4.out _)
    iterate 5 go_big_quiet_step (fail)
    go_big_quiet_step (exact K5.out _)
    iterate 3 go_big_quiet_step (fail)
    refine wpQuiet_nil ?_
    rintro _ ⟨⟨w9, hb9⟩, rfl⟩
    have HB9 := Lib.hid (blw_then HB8.out hb9)
    clear hb9 e3 e4 el eo em fo fm go8
    go_wp2
    go_ret
    exact ⟨rfl, HB9.out⟩
end Go.Proofs.Ytpfibcbeenogiaa
