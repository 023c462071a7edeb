/- hallmootlaw21: played, walked. -/
import Derived.Test.YtpfibcbeenogiaaPlayedB
import Derived.Deep.CutBlock
namespace Go.Proofs.Ytpfibcbeenogiaa
open Go.RowKit
set_option linter.unusedSimpArgs false
set_option linter.unusedVariables false
abbrev lay3c : Array Value := #[.int .i64 3, .int .i64 3, .int .i64 0, .int .i64 0, .int .i64 0, .int .i64 0, .int .i64 1, .int .i64 2, .int .i64 3, .int .i64 4, .int .i64 16, .int .i64 16, .int .i64 28]
def PlayedPost (w : World) (seen : List Sn) (N : Nat) (s : St) (e : Ending) (w' : World) : Prop := ∃ tb wb, e = .returned (.pointer (some ⟨tb, 0, none⟩)) ∧ StR w tb wb seen N s w'
theorem ref_New28 (w : World) : Calls Try.prog 19 #[.int .i64 28] w fun e w' =>
    ∃ b, e = .returned (.agg #[.slice (some ⟨b, 0, none⟩) 28 28]) ∧ w.heap.size ≤ b ∧ w'.heap[b]? = some (.cells ((List.replicate 28 (0 : Int)).map (Value.int .i64)).toArray 3 (0, 0)) ∧ Below w.heap.size w w' :=
  (ref_New 28 (by omega) w).mono fun e w' ⟨vm, h, b, h1, h2, h3, h4⟩ => ⟨b, by rw [h, h1, List.length_replicate], h2, h3, h4⟩
theorem info_sn : (Try.prog.info? 89).map (fun i => (i.zero, i.size, i.bytes)) = some (some (.agg #[.int .i64 0, .int .i64 0, .int .i64 0]), 3, 24) := by kernel_rfl
theorem SlR.elem1 {α : Type} {enc : α → Value} {w : World} {A : Option Addr} {c : Nat} {xs : List α} (h : SlR 1 (fun x => [enc x]) w (.slice A xs.length c) xs) {k : Nat} (hk : k < xs.length) : ∃ b o, A = some ⟨b, o, none⟩ ∧ b < w.heap.size ∧ w.cell? ⟨b, o + k, none⟩ = some (enc xs[k]) := by
  obtain ⟨A', c', e, -, -, h⟩ := h.one
  simp only [Value.slice.injEq] at e
  obtain ⟨rfl, -, rfl⟩ := e
  obtain ⟨b, o, h1, h2, h3⟩ := h (by intro e; subst e; simp at hk)
  exact ⟨b, o, h1, h2, h3 k _ (List.getElem?_eq_getElem hk)⟩
theorem grown_blk {X w9 : World} {row : Option Nat} {b : Nat} {o : Obj} (hg : X.grownBy w9 row) (h : X.heap[b]? = some o) (hn : row ≠ some b) : w9.heap[b]? = some o :=
  (hg.block b (lt_of_heap h) (fun e => hn e.symm)).trans h
theorem foldl_bad (seen : List Sn) (want : List (List Int)) : ∀ (ts : List Int) (s : St), s.bad = true → ts.foldl (turnSt seen want) s = s
  | [], _, _ => rfl
  | t :: ts, s, h => by
    rw [List.foldl_cons]
    have e : turnSt seen want s t = s := by rw [turnSt, if_pos h]
    rw [e]
    exact foldl_bad seen want ts s h
theorem StR.more {w0 w : World} {tb wb N M : Nat} {seen : List Sn} {s : St} (h : StR w0 tb wb seen N s w) (hm : N ≤ M) : StR w0 tb wb seen M s w :=
  ⟨h.below, h.tbl, h.wbl, h.ne, h.len, Nat.le_trans h.log hm, h.ex⟩
theorem WantR.below {w w' : World} {v : Value} {want : List (List Int)} (h : WantR w v want) (hb : Below w.heap.size w w') : WantR w' v want := by
  obtain ⟨A, c, e, g⟩ := h
  exact ⟨A, c, e, fun i xs hi => (g i xs hi).below hb⟩
theorem iter_bad {α : Type} (f : α → α) {k : Nat} {s : α} (h : f (iter f k s) = iter f k s) : ∀ n, k ≤ n → iter f n s = iter f k s
  | 0, hn => by rw [Nat.le_zero.1 hn]
  | n + 1, hn => by
    rcases Nat.lt_or_ge n k with hk | hk
    · rw [show k = n + 1 by omega]
    · rw [iter, iter_bad f h n hk, h]
theorem round_bad (want : List (List Int)) {s : St} (h : s.bad = true) : roundSt want s = s := by rw [roundSt, if_pos h]
theorem nap_bad (seen : List Sn) {s : St} (h : s.bad = true) : napSt seen s = s := by rw [napSt, if_pos h]
theorem StR.on {w0 w w' : World} {tb wb N : Nat} {seen : List Sn} {s : St} (h : StR w0 tb wb seen N s w) (hb : Below w.heap.size w w') : StR w0 tb wb seen N s w' := by
  obtain ⟨g1, g2, g3, g4, g5, g6, vm, vlog, vseen, C, h1, h2, h3, h4, h5, h6, h7, h8, h9, h10⟩ := h
  refine ⟨blw_then g1 hb, g2, g3, g4, g5, g6, vm, vlog, vseen, C, blk_keep hb (lt_of_heap h1) h1, blk_keep hb (lt_of_heap h2) h2, h3, h4.below hb, h5.below hb, h6.below hb, h7.below hb, h8.below hb, h9.below hb, ?_⟩
  intro i wr hi
  obtain ⟨vr, k0, k1, k2, k3, k4, k5⟩ := h10 i wr hi
  exact ⟨vr, k0, k1, k2, k3, k4.below hb, k5.below hb⟩
theorem StR.base {w0 w1 w : World} {tb wb N : Nat} {seen : List Sn} {s : St} (h : StR w1 tb wb seen N s w) (hb : Below w0.heap.size w0 w1) : StR w0 tb wb seen N s w :=
  ⟨blw_then hb h.below, Nat.le_trans hb.size h.tbl, Nat.le_trans hb.size h.wbl, h.ne, h.len, h.log, h.ex⟩
theorem turn_step {w0 w : World} {tb wb k who : Nat} {x : Int} {seen : List Sn} {turns : List Int} {want : List (List Int)} {s s0 s' : St} (h : s = (turns.take k).foldl (turnSt seen want) s0) (hx : turns[k]? = some x) (hb : s.bad = false) (hw : x % (1 + (want.length : Int)) = (who : Int))
    (hs : StR w0 tb wb seen (k + 1) s' w) (hg : Good want s') (hc : (who = 0 ∧ s' = sleepSt lay3 seen s) ∨ (∃ j, who = j + 1 ∧ s' = writeSt lay3 want j s)) :
    StR w0 tb wb seen (k + 1) ((turns.take (k + 1)).foldl (turnSt seen want) s0) w ∧ Good want ((turns.take (k + 1)).foldl (turnSt seen want) s0) := by
  have e : (turns.take (k + 1)).foldl (turnSt seen want) s0 = s' := by
    rw [List.take_add_one, hx, List.foldl_append, ← h]
    show turnSt seen want s x = s'
    rw [turnSt, hb, if_neg (by simp), hw, Int.toNat_natCast, stepSt]
    rcases hc with ⟨rfl, rfl⟩ | ⟨j, rfl, rfl⟩
    · rw [if_pos rfl]
    · rw [if_neg (by omega)]
      rfl
  rw [e]
  exact ⟨hs, hg⟩
theorem turn_end {w0 w : World} {tb wb k : Nat} {seen : List Sn} {turns : List Int} {want : List (List Int)} {s s0 : St} (h : s = (turns.take k).foldl (turnSt seen want) s0) (hb : s.bad = true) (hs : StR w0 tb wb seen k s w) (hg : Good want s) (hk : k ≤ turns.length) :
    StR w0 tb wb seen turns.length (turns.foldl (turnSt seen want) s0) w ∧ Good want (turns.foldl (turnSt seen want) s0) := by
  have e : turns.foldl (turnSt seen want) s0 = s := by
    conv => lhs; rw [← List.take_append_drop k turns, List.foldl_append, ← h]
    exact foldl_bad seen want _ s hb
  rw [e]
  exact ⟨hs.more hk, hg⟩
def seenIs (seen : List Int) (k : Nat) : List Value := (seenOf (seen.take k)).flatMap Sn.cells
theorem seenIs_succ {seen : List Int} {k : Nat} {x : Int} (h : seen[k]? = some x) : seenIs seen (k + 1) = seenIs seen k ++ [.int .i64 (x % 3), .int .i64 0, .int .i64 0] := by
  unfold seenIs seenOf
  rw [List.take_add_one, h]
  simp
set_option maxRecDepth 100000 in
set_option maxHeartbeats 4000000 in
theorem law_played (vs vwant vt : Value) (seen turns : List Int) (want : List (List Int)) (w : World) (hs : SlR 1 (fun x : Int => [.int .u8 x]) w vs seen) (hs8 : ∀ x ∈ seen, 0 ≤ x ∧ x < 256) (hw : WantR w vwant want)
    (ht : SlR 1 (fun x : Int => [.int .u8 x]) w vt turns) (ht8 : ∀ x ∈ turns, 0 ≤ x ∧ x < 256) (hsl : seen.length ≤ 1000) (hwl : want.length ≤ 1000) (hxl : ∀ xs ∈ want, xs.length ≤ 1000) (htl : turns.length ≤ 1000) :
    Calls Try.prog 37 #[.agg #[vs, vwant, vt]] w (PlayedPost w (seenOf seen) 2000 (playedSt seen turns want)) := by
  have HS := Lib.hid hs
  have HWN := Lib.hid hw
  have HT := Lib.hid ht
  have HLIM := Lib.hid (And.intro hsl (And.intro hwl (And.intro hxl htl)))
  have H8 := Lib.hid (And.intro hs8 ht8)
  obtain ⟨As, cS, rfl, -⟩ := hs.one
  obtain ⟨At, cT, rfl, -⟩ := ht.one
  obtain ⟨Aw, cW, rfl, -⟩ := hw
  have HMK := Lib.hid (make_wrs want.length (by omega))
  clear hs ht hs8 ht8 hsl hwl hxl htl
  go_enter Try.func37, Try.ntmps37
  go_wp2_with fail
  refine (law_where _).mono ?_
  rintro e w1 ⟨rfl, hb1⟩
  have bx0 := hb1.block (w.heap.size) (by simp only [World.size_alloc, World.size_setCell]; omega)
  repeat (first | rw [hs_ne _ _ _ _ _ (by omega)] at bx0 | rw [ha_lt _ _ _ (by simp only [World.size_alloc, World.size_setCell]; omega)] at bx0 | rw [hs_same] at bx0 | rw [hd_drew] at bx0)
  rw [ha_new _ _ _ (by simp only [World.size_alloc, World.size_setCell])] at bx0
  try simp only [Option.map_some, putO, List.setIfInBounds_toArray, List.set_cons_zero, List.set_cons_succ] at bx0
  have Bx0 := Lib.hid bx0
  clear bx0
  have cx0 : ∀ i, w1.cell? ⟨w.heap.size, i, none⟩ = _ := cell_of_heap Bx0.out
  have fx0 : ∀ i, w1.frozen? ⟨w.heap.size, i, none⟩ = false := fun i => by simp [World.frozen?, Bx0.out]
  have Q1 := Lib.hid (blw_then (w := w) (by with_reducible repeat (first | exact Below.refl _ _ | refine blw_alloc ?_ _ | refine blw_drew ?_)) hb1)
  have zQ1 := hb1.size
  simp only [World.size_alloc, World.size_setCell] at zQ1
  clear hb1
  have sx0 := lt_of_heap Bx0.out
  go_upto_region 1 with fail
  generalize hW : w1.alloc _ = W
  have b_q3 := congrArg (fun u : World => u.heap[w1.heap.size]?) hW
  try simp only [] at b_q3
  repeat (first | rw [hd_drew] at b_q3 | rw [hd_drewN] at b_q3 | rw [hs_ne _ _ _ _ _ (by omega)] at b_q3 | rw [ha_lt _ _ _ (by first | omega | (simp only [World.size_alloc, World.size_setCell, World.size_drew]; omega))] at b_q3 | rw [hs_same] at b_q3)
  rw [ha_new _ _ _ (by first | rfl | simp only [World.size_alloc, World.size_setCell, World.size_drew])] at b_q3
  try simp only [Option.map_some, putO, List.setIfInBounds_toArray, List.set_cons_zero, List.set_cons_succ] at b_q3
  have Lq3 := Lib.hid b_q3.symm
  clear b_q3
  have cq3 := cell_of_heap Lq3.out
  have fq3 := frz_of_heap Lq3.out
  have sq3 := lt_of_heap Lq3.out
  have hbw : Below w1.heap.size w1 W := by subst hW; exact blw_alloc (Below.refl _ _) _
  have hws : W.heap.size = w1.heap.size + 1 := by subst hW; simp
  clear hW
  have HBW := Lib.hid (blw_then Q1.out hbw)
  have LP := Lib.hid (blk_keep hbw sx0 Bx0.out)
  have hSof : ∀ wa, Below W.heap.size W wa → ((∀ i, wa.cell? ⟨w.heap.size, i, none⟩ = (#[.slice As seen.length cS, .slice Aw want.length cW, .slice At turns.length cT] : Array Value)[i]?) ∧ (∀ i, wa.cell? ⟨w1.heap.size, i, none⟩ = lay3c[i]?) ∧ Below W.heap.size W wa) := fun wa h => ⟨cell_of_heap (blk_keep h (lt_of_heap LP.out) LP.out), cell_of_heap (blk_keep h (lt_of_heap Lq3.out) Lq3.out), h⟩
  have HSof := Lib.hid hSof
  have HWS := Lib.hid hws
  clear hSof hbw cx0 fx0 hws cq3 fq3
  go_cut [4] from 12 to 21 (fun p4 wx => ∃ (tb wb vb : Nat), p4 = .pointer (some ⟨tb, 0, none⟩) ∧ Below W.heap.size W wx ∧
    wx.heap[tb]? = some (.cells (tabOf (.slice (some ⟨vb, 0, none⟩) 28 28) (.slice none 0 0) (.slice none 0 0) wb want.length (st0 want.length)).cells 87 (0, 0)) ∧
    wx.heap[wb]? = some (.cells (madeCells zWr (want.length * 4)) 138 (0, 0)) ∧
    wx.heap[vb]? = some (.cells ((List.replicate 28 (0 : Int)).map (Value.int .i64)).toArray 3 (0, 0)) ∧ W.heap.size ≤ tb ∧ W.heap.size ≤ wb ∧ tb ≠ wb)
  case first =>
    have hmk := HMK.out
    go_region_held3 (fun w' => (∀ i, w'.cell? ⟨w.heap.size, i, none⟩ = (#[.slice As seen.length cS, .slice Aw want.length cW, .slice At turns.length cT] : Array Value)[i]?) ∧ (∀ i, w'.cell? ⟨w1.heap.size, i, none⟩ = lay3c[i]?) ∧ Below W.heap.size W w')
      (((try dsimp only); refine HSof.out _ ?_; with_reducible repeat (first | exact Below.refl _ _ | refine blw_alloc ?_ _ | refine blw_drew ?_ | refine blw_set ?_ (by simp only [World.size_alloc]; omega) _ | assumption)))
      ((first
        | (go_at_call 19; refine (ref_New28 _).mono ?_; rintro e w3 ⟨vb, rfl, hvb, hv3, hb3⟩
           have hB3 := blw_then (show Below W.heap.size W _ by with_reducible repeat (first | exact Below.refl _ _ | refine blw_alloc ?_ _ | refine blw_drew ?_)) hb3
           have zz3 := hB3.size
           have V3 := Lib.hid hv3
           have HB3 := Lib.hid hb3
           clear hv3
           (try (have q := tab_keep (b := W.heap.size) hb3 (ha_new _ _ _ rfl); obtain ⟨c30, f30, z30, h30⟩ := q))
           (try (have q := tab_keep (b := W.heap.size) hb3 ((hd_drew _ _).trans (ha_new _ _ _ rfl)); obtain ⟨c30, f30, z30, h30⟩ := q)))))
    all_goals (
      have zsz := HB3.out.size
      try simp only [World.size_alloc, World.size_drew] at zsz
      have vlt := lt_of_heap V3.out
      go_wp2_with fail
      go_meet
      case rel =>
        first
          | (have h30' := h30.out; refine ⟨_, W.heap.size, vb, rfl, ?_, ?_, ?_, ?_, ?_, ?_, ?_⟩)
          | refine ⟨_, w3.heap.size, vb, rfl, ?_, ?_, ?_, ?_, ?_, ?_, ?_⟩
        · with_reducible repeat (first | exact hB3 | refine blw_alloc ?_ _ | refine blw_drew ?_ | refine blw_set ?_ (by simp only []; omega) _)
        · repeat (first | rw [hd_drew] | rw [hs_ne _ _ _ _ _ (by omega)] | rw [hs_same] | rw [ha_lt _ _ _ (by first | omega | (simp only [World.size_alloc, World.size_setCell]; omega))])
          first | rw [ha_new _ _ _ (by simp only [World.size_alloc, World.size_setCell])] | rw [h30.out]
          try rfl
        · repeat (first | rw [hd_drew] | rw [hs_ne _ _ _ _ _ (by omega)] | rw [hs_same] | rw [ha_lt _ _ _ (by first | omega | (simp only [World.size_alloc, World.size_setCell]; omega))])
          first | rw [ha_new _ _ _ (by simp only [World.size_alloc, World.size_setCell])] | rw [h30.out]
          try rfl
        · repeat (first | rw [hd_drew] | rw [hs_ne _ _ _ _ _ (by omega)] | rw [hs_same] | rw [ha_lt _ _ _ (by first | omega | (simp only [World.size_alloc, World.size_setCell]; omega))])
          exact V3.out
        · omega
        · omega
        · omega)
  case rest =>
    obtain ⟨tb, wb, vb, rfl, hbx, htb, hwb, hvb, htl, hwl, hne⟩ := hcut
    have Lt := Lib.hid htb
    have Lw := Lib.hid hwb
    have Lv := Lib.hid hvb
    have HBX := Lib.hid hbx
    have HL := Lib.hid (And.intro htl (And.intro hwl hne))
    have htlt := lt_of_heap htb
    have LPX := Lib.hid (blk_keep hbx (lt_of_heap LP.out) LP.out)
    have LqX := Lib.hid (blk_keep hbx (lt_of_heap Lq3.out) Lq3.out)
    have npt : ¬ w.heap.size = tb := by have := lt_of_heap LP.out; omega
    have nqt : ¬ w1.heap.size = tb := by have := lt_of_heap Lq3.out; omega
    clear hbx htb hwb hvb htl hwl hne
    obtain ⟨i0, hi0, hz0, hz1, hz2⟩ := info_parts info_sn
    go_wp2_with fail
    go_loopw [5] (fun i wr => ∃ (k : Nat) (vseen : Value), k ≤ seen.length ∧ i = .int .i64 (k : Int) ∧ Keep (· = tb) wc wr ∧ wr.heap[tb]? = some (.cells (tabOf (.slice (some ⟨vb, 0, none⟩) 28 28) (.slice none 0 0) vseen wb want.length (st0 want.length)).cells 87 (0, 0)) ∧ wr.ownsRow wc.heap.size 89 3 vseen k (seenIs seen k)) (fun i _ => seen.length - (intOf i).toNat)
    case atStart => exact ⟨0, .slice none 0 0, Nat.zero_le _, rfl, Keep.refl _ _, Lt.out, World.ownsRow_nil _ _ _ _⟩
    case round =>
      obtain ⟨k, vseen, hk, rfl, hK, hT, hown⟩ := hrel
      obtain ⟨A5, c5, rfl, -⟩ := owns_shape hown
      have HK := Lib.hid hK
      have HTr := Lib.hid hT
      have HOW := Lib.hid hown
      have ct := cell_of_heap hT
      simp only [tabOf, st0] at ct
      have ft := frz_of_heap hT
      have st := lt_of_heap hT
      have LPr := Lib.hid ((hK.block _ (lt_of_heap LPX.out) npt).trans LPX.out)
      have cp := cell_of_heap LPr.out
      have zk := hK.size
      clear hK hT hown
      by_cases hlt : k < seen.length
      · have hd : decide ((k : Int) < (seen.length : Int)) = true := by simp; omega
        have HLT := Lib.hid hlt
        obtain ⟨bs, os, rfl, hbs, cx⟩ := HS.out.elem1 hlt
        have hx : seen[k]? = some seen[k] := List.getElem?_eq_getElem hlt
        have hx8 := H8.out.1 _ (List.getElem_mem hlt)
        generalize seen[k] = x at hx hx8 cx
        have HX := Lib.hid hx
        have cxr : wr.cell? ⟨bs, os + k, none⟩ = some (.int .u8 x) := by
          have e1 := cell_keep (o := os + k) HBW.out hbs
          have e2 := cell_keep (o := os + k) HBX.out (Nat.lt_of_lt_of_le hbs HBW.out.size)
          have e3 := HK.out.bcell bs (os + k) (Nat.lt_of_lt_of_le (Nat.lt_of_lt_of_le hbs HBW.out.size) HBX.out.size) (by have := HL.out.1; have := HBW.out.size; omega)
          rw [e3, e2, e1]
          exact cx
        clear hx cx
        have hx3 : wrap64 x = x := by unfold wrap64; omega
        have hx4 : IntKind.i64.wrap x = x := (IntWalk.i64_left _).trans hx3
        have hx5 : x.tmod 3 = x % 3 := Int.tmod_eq_emod_of_nonneg hx8.1
        go_wp2_with fail
        have hlk : seen.length ≤ 1000 := HLIM.out.1
        have HB1 : Hid (k + 1 ≤ maxLen) := Lib.hid (by simp only [maxLen]; omega)
        have HB2 : Hid ((k + 1) * 24 ≤ 140737488355328) := Lib.hid (by omega)
        have HSU := Lib.hid (seenIs_succ HX.out)
        have HTLT : Hid (¬ wc.heap.size ≤ tb) := Lib.hid (by have := lt_of_heap Lt.out; omega)
        skip
        go_region_law
          ((first
            | (refine step_append_any rfl (.tmp 34) (.tmp 43) 28 rfl wc.heap.size 89 i0 (.agg #[.int .i64 0, .int .i64 0, .int .i64 0]) 3 24 Try.underlying28 hi0 hz0 hz1 hz2 rfl (by decide) _ k (seenIs seen k) rfl ?own _ 1 1 [.int .i64 (x % 3), .int .i64 0, .int .i64 0] rfl rfl ?src ?one HB1.out HB2.out ?bas (k + 1) rfl (seenIs seen (k + 1)) HSU.out.symm ?_
               case own => first | exact HOW.out.alloc _ | exact HOW.out
               case src =>
                 refine .inr ⟨_, rfl, World.news_of_block (cs := #[.int .i64 (x % 3), .int .i64 0, .int .i64 0]) (t := 89) (fr := (0, 0)) ?_⟩
                 first | exact ha_new _ _ _ rfl | exact (hd_drew _ _).trans (ha_new _ _ _ rfl)
               case one => intro u hu; simp at hu; rcases hu with rfl | rfl | rfl <;> rfl
               case bas => first | exact zk | (simp only [World.size_alloc, World.size_drew]; omega)
               intro A9 c9 w9 hown9 hgrow9 hlow9
               have hK9 : Keep (· = tb) wc w9 := Keep.grown (show Keep (· = tb) wc _ by with_reducible repeat (first | exact HK.out | refine Keep.alloc ?_ _ | refine Keep.drew ?_)) hgrow9 (fun b' hb' => .inl (hlow9 b' hb'))
               have HK9 := Lib.hid hK9
               have HOWN9 := Lib.hid hown9
               have hT9 := grown_blk hgrow9 (blk_keep (show Below wr.heap.size wr _ by with_reducible repeat (first | exact Below.refl _ _ | refine blw_alloc ?_ _ | refine blw_drew ?_)) st HTr.out) (fun e => HTLT.out (hlow9 tb e))
               have HT9 := Lib.hid hT9
               have ct9 := cell_of_heap hT9
               simp only [tabOf, st0] at ct9
               have ft9 := frz_of_heap hT9
               have st9 := lt_of_heap hT9
               clear hown9 hgrow9 hlow9 hK9 hT9)))
        all_goals (
          go_wp2_with fail
          go_roundw
          case rel =>
            refine ⟨k + 1, .slice A9 (k + 1) c9, HLT.out, by go_num, ?_, ?_, ?_⟩
            · with_reducible repeat (first | exact HK9.out | refine Keep.setCell ?_ _ (.inr rfl) | refine Keep.drew ?_)
            · repeat (first | rw [hd_drew] | rw [hs_same])
              rw [HT9.out]
              rfl
            · exact owns_set HOWN9.out (lt_of_heap Lt.out)
          case measure => have := HLT.out; simp [intOf]; omega)
      · obtain rfl : k = seen.length := by omega
        have HST : Hid (StR W tb wb (seenOf seen) 0 (st0 want.length) wr) := by
          have hkb : Below W.heap.size W wr := below_keep2 HBX.out HK.out (fun b hb => by have := HL.out.1; omega)
          have hws : (st0 want.length).ws.length = want.length := by simp [st0]
          have hsn : (seenOf seen).length = seen.length := by simp [seenOf]
          have hLw := (HK.out.block wb (lt_of_heap Lw.out) (fun e => HL.out.2.2 e.symm)).trans Lw.out
          have hLv := (HK.out.block vb (lt_of_heap Lv.out) (fun e => by have h1 := Lv.out; have h2 := Lt.out; rw [e, h2] at h1; simp at h1)).trans Lv.out
          refine Lib.hid ⟨hkb, HL.out.1, HL.out.2.1, HL.out.2.2, by simp [st0], by simp [st0], .slice (some ⟨vb, 0, none⟩) 28 28, .slice none 0 0, .slice A5 seen.length c5, madeCells zWr (want.length * 4), by rw [hws]; exact HTr.out, hLw, by rw [hws, size_madeCells], SlR.of_heap hLv 28 (by simp [st0]) (by simp [st0]), fun b hb => by simp only [Value.ownBlock, Option.some.injEq] at hb; subst hb; exact ⟨_, _, hLv⟩, SlR.nil _ _ _, fun b hb => by simp [Value.ownBlock] at hb, ?_, ?_, ?_⟩
          · refine SlR.of_owns (base := wc.heap.size) (e := 89) ?_ (fun _ => rfl) (by have := HLIM.out.1; omega)
            rw [hsn]
            have := HOW.out
            simpa [seenIs] using this
          · intro b hb
            obtain ⟨c', hc'⟩ := owns_type HOW.out hb
            exact ⟨c', _, hc'⟩
          · intro i wr' hi
            have hi' : i < want.length := by
              have := (List.getElem?_eq_some_iff.1 hi).1
              rw [hws] at this; exact this
            obtain rfl : wr' = wr0 := by
              simp only [st0, List.getElem?_replicate] at hi
              rw [if_pos hi'] at hi
              exact (Option.some.inj hi).symm
            obtain ⟨m0, m1, m2, m3⟩ := made_wr want.length i hi'
            exact ⟨_, m0, m1, m2, m3, SlR.nil _ _ _, fun b hb => by simp [Value.ownBlock] at hb⟩
        clear hi0 hz0 hz1 hz2
        have hd : decide ((seen.length : Int) < (seen.length : Int)) = false := by simp
        have HG0 := Lib.hid (good0 want)
        have LPW := Lib.hid LP.out
        have nw := HLIM.out.2.1
        have nt := HLIM.out.2.2.2
        go_upto_block 2 with fail
        clear hd ct ft st cp zk
        go_cut [] from 48 to 83 (fun wx => StR W tb wb (seenOf seen) turns.length (turns.foldl (turnSt (seenOf seen) want) (st0 want.length)) wx ∧ Good want (turns.foldl (turnSt (seenOf seen) want) (st0 want.length)))
        case first =>
          go_wp2_with fail
          go_loopw [6] (fun i w2 => ∃ k : Nat, k ≤ turns.length ∧ i = .int .i64 (k : Int) ∧ StR W tb wb (seenOf seen) k ((turns.take k).foldl (turnSt (seenOf seen) want) (st0 want.length)) w2 ∧ Good want ((turns.take k).foldl (turnSt (seenOf seen) want) (st0 want.length))) (fun i _ => turns.length - (intOf i).toNat)
          case atStart => exact ⟨0, Nat.zero_le _, rfl, HST.out, HG0.out⟩
          case round =>
            obtain ⟨k, hk, rfl, hst, hgd⟩ := hrel
            obtain ⟨s, hsk⟩ : ∃ s, s = (turns.take k).foldl (turnSt (seenOf seen) want) (st0 want.length) := ⟨_, rfl⟩
            rw [← hsk] at hst hgd
            have HSK := Lib.hid hsk
            have HS2 := Lib.hid hst
            have HG2 := Lib.hid hgd
            clear hsk
            obtain ⟨hb2, -, -, -, -, -, vm2, vlog2, vseen2, C2, hT2, -⟩ := hst
            have LP2 := Lib.hid (blk_keep hb2 (lt_of_heap LPW.out) LPW.out)
            have Lq2 := Lib.hid (blk_keep hb2 (lt_of_heap Lq3.out) Lq3.out)
            have cp := cell_of_heap LP2.out
            have cq := cell_of_heap Lq2.out
            have ct := cell_of_heap hT2
            have ft := frz_of_heap hT2
            simp only [tabOf] at ct
            clear hT2 hgd hb2
            by_cases hlt : k < turns.length
            · have hd : decide ((k : Int) < (turns.length : Int)) = true := by simp; omega
              cases hbd : s.bad
              · have HLT := Lib.hid hlt
                have HBD := Lib.hid hbd
                obtain ⟨bs, os, rfl, hbs, cx⟩ := HT.out.elem1 hlt
                have hx : turns[k]? = some turns[k] := List.getElem?_eq_getElem hlt
                have hx8 := H8.out.2 _ (List.getElem_mem hlt)
                generalize turns[k] = x at hx hx8 cx
                have HX := Lib.hid hx
                have cxr : wr.cell? ⟨bs, os + k, none⟩ = some (.int .u8 x) := by
                  have e1 := cell_keep (o := os + k) HBW.out hbs
                  have e2 := cell_keep (o := os + k) HS2.out.below (Nat.lt_of_lt_of_le hbs HBW.out.size)
                  rw [e2, e1]
                  exact cx
                have hx3 : wrap64 x = x := by unfold wrap64; omega
                have hx4 : IntKind.i64.wrap x = x := (IntWalk.i64_left _).trans hx3
                have hx5 : x.tmod (1 + (want.length : Int)) = x % (1 + (want.length : Int)) := Int.tmod_eq_emod_of_nonneg hx8.1
                have hx6 : IntKind.i64.wrap (1 + (want.length : Int)) = 1 + (want.length : Int) := (IntWalk.i64_left _).trans (by unfold wrap64; omega)
                have hx7 : ¬ (1 + (want.length : Int) = 0) := by omega
                clear hx cx
                go_wp2_with fail
                go_quiet (fail)
                obtain ⟨who, hwho, hwl⟩ : ∃ who : Nat, x % (1 + (want.length : Int)) = (who : Int) ∧ who ≤ want.length := ⟨(x % (1 + (want.length : Int))).toNat, by have := Int.emod_nonneg x hx7; omega, by have := Int.emod_nonneg x hx7; have := Int.emod_lt_of_pos x (show (0 : Int) < 1 + (want.length : Int) by omega); omega⟩
                rw [hwho]
                have HWHO := Lib.hid hwho
                have HSD := Lib.hid (HS2.out.on (w' := wr.drewN nq) (blw_drewN (Below.refl _ _) _))
                clear hx5 hx6 hx7 hwho
                rcases who with _ | j
                · go_wp2_with fail
                  refine (sleep_step lay3 W tb wb (seenOf seen) k (by have := HLIM.out.2.2.2; omega) s _ HSD.out).mono ?_
                  rintro e w5 ⟨rfl, hs5⟩
                  have H5 := Lib.hid (turn_step HSK.out HX.out HBD.out HWHO.out hs5 (good_sleep lay3 (seenOf seen) HG2.out) (Or.inl ⟨rfl, rfl⟩))
                  clear hs5
                  go_wp2_with fail
                  go_roundw
                  case rel => exact ⟨k + 1, HLT.out, by go_num, H5.out⟩
                  case measure => have := HLT.out; simp [intOf]; omega
                · go_wp2_with fail
                  refine (write_step lay3 (by decide) W tb wb (seenOf seen) k s _ HSD.out (.slice As seen.length cS) (.slice Aw want.length cW) (.slice (some ⟨bs, os, none⟩) turns.length cT) want j (by omega) (HWN.out.below HBW.out) (fun xs h => by have := HLIM.out.2.2.1 xs h; omega) (by omega) HG2.out.1 (HG2.out.2 j)).mono ?_
                  rintro e w5 ⟨rfl, hs5⟩
                  have H5 := Lib.hid (turn_step HSK.out HX.out HBD.out HWHO.out (hs5.more (Nat.le_succ _)) (good_write lay3 j HG2.out) (Or.inr ⟨j, rfl, rfl⟩))
                  clear hs5
                  go_wp2_with fail
                  go_roundw
                  case rel => exact ⟨k + 1, HLT.out, by go_num, H5.out⟩
                  case measure => have := HLT.out; simp [intOf]; omega
              · have HBD := Lib.hid hbd
                go_wp2_with fail
                go_meet
                case rel => exact turn_end HSK.out HBD.out HS2.out HG2.out hk
            · obtain rfl : k = turns.length := by omega
              have hd : decide ((turns.length : Int) < (turns.length : Int)) = false := by simp
              go_wp2_with fail
              go_meet
              case rel => rw [List.take_length] at HSK; rw [← HSK.out]; exact ⟨HS2.out, HG2.out⟩
        case rest =>
          obtain ⟨hst3, hg3⟩ := hcut
          obtain ⟨s3, hs3⟩ : ∃ s3, s3 = turns.foldl (turnSt (seenOf seen) want) (st0 want.length) := ⟨_, rfl⟩
          rw [← hs3] at hst3 hg3
          have HS3 := Lib.hid hst3
          have HG3 := Lib.hid hg3
          have HE3 := Lib.hid hs3
          clear hst3 hg3 hs3
          have HWW := Lib.hid (HWN.out.below HBW.out)
          go_upto_block 4 with fail
          go_cut [] from 84 to 106 (fun wx => StR W tb wb (seenOf seen) turns.length (iter (roundSt want) 100 s3) wx ∧ Good want (iter (roundSt want) 100 s3))
          case first =>
            go_wp2_with fail
            go_loopw [8] (fun i w2 => ∃ k : Nat, k ≤ 100 ∧ i = .int .i64 (k : Int) ∧ StR W tb wb (seenOf seen) turns.length (iter (roundSt want) k s3) w2 ∧ Good want (iter (roundSt want) k s3)) (fun i _ => 100 - (intOf i).toNat)
            case atStart => exact ⟨0, Nat.zero_le _, rfl, HS3.out, HG3.out⟩
            case round =>
              obtain ⟨k, hk, rfl, hst, hgd⟩ := hrel
              obtain ⟨s, hsk⟩ : ∃ s, s = iter (roundSt want) k s3 := ⟨_, rfl⟩
              rw [← hsk] at hst hgd
              have HSK := Lib.hid hsk
              have HS2 := Lib.hid hst
              have HG2 := Lib.hid hgd
              clear hsk
              obtain ⟨hb2, -, -, -, -, -, vm2, vlog2, vseen2, C2, hT2, -⟩ := hst
              have LP2 := Lib.hid (blk_keep hb2 (lt_of_heap LPW.out) LPW.out)
              have Lq2 := Lib.hid (blk_keep hb2 (lt_of_heap Lq3.out) Lq3.out)
              have cp := cell_of_heap LP2.out
              have cq := cell_of_heap Lq2.out
              have ct := cell_of_heap hT2
              have ft := frz_of_heap hT2
              simp only [tabOf] at ct
              clear hT2 hgd hb2
              by_cases hlt : k < 100
              · have hd : decide ((k : Int) < 100) = true := by simp; omega
                cases hbd : s.bad
                · have HLT := Lib.hid hlt
                  have HBD := Lib.hid hbd
                  go_wp2_with fail
                  clear cp cq ct ft
                  have W9 := Lib.hid HS2.out
                  go_loopw [9] (fun i w2 => ∃ m : Nat, m ≤ want.length ∧ i = .int .i64 (m : Int) ∧ StR W tb wb (seenOf seen) turns.length (allSt want s m) w2 ∧ Good want (allSt want s m)) (fun i _ => want.length - (intOf i).toNat)
                  case atStart => exact ⟨0, Nat.zero_le _, rfl, HS2.out, HG2.out⟩
                  case round =>
                    obtain ⟨m, hm, rfl, hsm, hgm⟩ := hrel
                    have HSM := Lib.hid hsm
                    have HGM := Lib.hid hgm
                    have LP4 := Lib.hid (blk_keep hsm.below (lt_of_heap LPW.out) LPW.out)
                    have Lq4 := Lib.hid (blk_keep hsm.below (lt_of_heap Lq3.out) Lq3.out)
                    have cp := cell_of_heap LP4.out
                    have cq := cell_of_heap Lq4.out
                    clear hsm hgm
                    by_cases hlm : m < want.length
                    · have hd2 : decide ((m : Int) < (want.length : Int)) = true := by simp; omega
                      go_wp2_with fail
                      refine (write_step lay3 (by decide) W tb wb (seenOf seen) turns.length (allSt want s m) _ HSM.out (.slice As seen.length cS) (.slice Aw want.length cW) (.slice At turns.length cT) want m hlm HWW.out (fun xs h => by have := HLIM.out.2.2.1 xs h; omega) (by omega) HGM.out.1 (HGM.out.2 m)).mono ?_
                      rintro e w5 ⟨rfl, hs5⟩
                      have H5 := Lib.hid (And.intro hs5 (good_write lay3 m HGM.out))
                      clear hs5
                      go_wp2_with fail
                      go_roundw
                      case rel => exact ⟨m + 1, hlm, by go_num, H5.out⟩
                      case measure => simp [intOf]; omega
                    · obtain rfl : m = want.length := by omega
                      have hd2 : decide ((want.length : Int) < (want.length : Int)) = false := by simp
                      have hit : Hid (iter (roundSt want) (k + 1) s3 = allSt want s want.length) := Lib.hid (by rw [iter, ← HSK.out, roundSt, HBD.out]; simp)
                      go_wp2_with fail
                      go_roundw
                      case rel => exact ⟨k + 1, HLT.out, by go_num, by rw [hit.out]; exact ⟨HSM.out, HGM.out⟩⟩
                      case measure => have := HLT.out; simp [intOf]; omega
                · have HBD := Lib.hid hbd
                  go_wp2_with fail
                  go_meet
                  case rel =>
                    have e := iter_bad (roundSt want) (k := k) (s := s3) (by rw [← HSK.out]; exact round_bad want HBD.out) 100 hk
                    rw [e, ← HSK.out]
                    exact ⟨HS2.out, HG2.out⟩
              · obtain rfl : k = 100 := by omega
                have hd : decide (((100 : Nat) : Int) < 100) = false := by decide
                go_wp2_with fail
                go_meet
                case rel => rw [← HSK.out]; exact ⟨HS2.out, HG2.out⟩
          case rest =>
            obtain ⟨hst4, hg4⟩ := hcut
            obtain ⟨s4, hs4⟩ : ∃ s4, s4 = iter (roundSt want) 100 s3 := ⟨_, rfl⟩
            rw [← hs4] at hst4 hg4
            have HS4 := Lib.hid hst4
            have HG4 := Lib.hid hg4
            have HE4 := Lib.hid hs4
            clear hst4 hg4 hs4
            go_upto_block 8 with fail
            go_cut [] from 107 to 120 (fun wx => StR W tb wb (seenOf seen) (turns.length + 60) (iter (napSt (seenOf seen)) 60 s4) wx)
            case first =>
              go_wp2_with fail
              go_loopw [10] (fun i w2 => ∃ k : Nat, k ≤ 60 ∧ i = .int .i64 (k : Int) ∧ StR W tb wb (seenOf seen) (turns.length + k) (iter (napSt (seenOf seen)) k s4) w2) (fun i _ => 60 - (intOf i).toNat)
              case atStart => exact ⟨0, Nat.zero_le _, rfl, HS4.out⟩
              case round =>
                obtain ⟨k, hk, rfl, hst⟩ := hrel
                obtain ⟨s, hsk⟩ : ∃ s, s = iter (napSt (seenOf seen)) k s4 := ⟨_, rfl⟩
                rw [← hsk] at hst
                have HSK := Lib.hid hsk
                have HS2 := Lib.hid hst
                clear hsk
                obtain ⟨hb2, -, -, -, -, -, vm2, vlog2, vseen2, C2, hT2, -⟩ := hst
                have Lq2 := Lib.hid (blk_keep hb2 (lt_of_heap Lq3.out) Lq3.out)
                have cq := cell_of_heap Lq2.out
                have ct := cell_of_heap hT2
                have ft := frz_of_heap hT2
                simp only [tabOf] at ct
                clear hT2 hb2
                by_cases hlt : k < 60
                · have hd : decide ((k : Int) < 60) = true := by simp; omega
                  cases hbd : s.bad
                  · have HLT := Lib.hid hlt
                    have HBD := Lib.hid hbd
                    go_wp2_with fail
                    refine (sleep_step lay3 W tb wb (seenOf seen) (turns.length + k) (by omega) s _ HS2.out).mono ?_
                    rintro e w5 ⟨rfl, hs5⟩
                    have hit : Hid (iter (napSt (seenOf seen)) (k + 1) s4 = sleepSt lay3 (seenOf seen) s) := Lib.hid (by rw [iter, ← HSK.out, napSt, HBD.out]; simp)
                    have H5 := Lib.hid hs5
                    clear hs5
                    go_wp2_with fail
                    go_roundw
                    case rel => exact ⟨k + 1, HLT.out, by go_num, by rw [hit.out]; exact H5.out⟩
                    case measure => have := HLT.out; simp [intOf]; omega
                  · have HBD := Lib.hid hbd
                    go_wp2_with fail
                    go_meet
                    case rel =>
                      have e := iter_bad (napSt (seenOf seen)) (k := k) (s := s4) (by rw [← HSK.out]; exact nap_bad _ HBD.out) 60 hk
                      rw [e, ← HSK.out]
                      exact HS2.out.more (by omega)
                · obtain rfl : k = 60 := by omega
                  have hd : decide (((60 : Nat) : Int) < 60) = false := by decide
                  go_wp2_with fail
                  go_meet
                  case rel => rw [← HSK.out]; exact HS2.out
            case rest =>
              have HF := Lib.hid hcut
              clear hcut
              go_wp2_with fail
              refine bodyPost_ret (v := .pointer (some ⟨tb, 0, none⟩)) (by simp [results, go_sem]) rfl ?_
              have hf := HF.out
              rw [HE4.out, HE3.out] at hf
              exact ⟨tb, wb, rfl, (hf.base HBW.out).more (by omega)⟩
end Go.Proofs.Ytpfibcbeenogiaa
