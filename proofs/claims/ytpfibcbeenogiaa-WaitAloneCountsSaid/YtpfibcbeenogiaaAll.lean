/- mem.All, walked. -/
import Derived.Test.YtpfibcbeenogiaaRouse
import Derived.Test.YtpfibcbeenogiaaApp
import Derived.Deep.RegionLaw
import Derived.Deep.CutRange
import Derived.Test.YtpfibcbeenogiaaSleepA
namespace Go.Proofs.Ytpfibcbeenogiaa
open Go.RowKit
set_option linter.unusedSimpArgs false
set_option linter.unusedVariables false
def memAll (cs0 : List Int) : List Int → List Acc → List Int × Int
  | cs, [] => (cs, 0)
  | cs, a :: xs => if (memDo cs a).2.2 = 0 then memAll cs0 (memDo cs a).1 xs else (cs0, (memDo cs a).2.2)
def AllPost (w : World) (F : List Int × Int) (e : Ending) (w' : World) : Prop :=
  ∃ vm' vr, e = .returned (.tuple #[.agg #[vm'], vr, .int .i64 F.2]) ∧ IntsR w' vm' F.1 ∧ Typed w' vm' ∧ Below w.heap.size w w'
theorem SlR.elemA {w : World} {A : Option Addr} {c : Nat} {xs : List Acc} (h : SlR 5 Acc.cells w (.slice A xs.length c) xs) {k : Nat} {x : Acc} (hk : xs[k]? = some x) : ∃ b o, A = some ⟨b, o, none⟩ ∧ b < w.heap.size ∧
    w.cell? ⟨b, o + k * 5, none⟩ = some (.int .i64 x.kind) ∧ w.cell? ⟨b, o + k * 5 + 1, none⟩ = some (.int .i64 x.cell) ∧ w.cell? ⟨b, o + k * 5 + 2, none⟩ = some (.int .i64 x.old) ∧ w.cell? ⟨b, o + k * 5 + 3, none⟩ = some (.int .i64 x.new) ∧ w.cell? ⟨b, o + k * 5 + 4, none⟩ = some (.string x.bytes) := by
  obtain ⟨A', c', e, -, -, h⟩ := h.out
  simp only [Value.slice.injEq] at e
  obtain ⟨rfl, -, rfl⟩ := e
  obtain ⟨b, o, h1, h2, h3⟩ := h (by intro e; subst e; simp at hk)
  exact ⟨b, o, h1, h2, h3 k x hk 0 _ rfl, h3 k x hk 1 _ rfl, h3 k x hk 2 _ rfl, h3 k x hk 3 _ rfl, h3 k x hk 4 _ rfl⟩
theorem grown_blkA {X w9 : World} {row : Option Nat} {b : Nat} {o : Obj} (hg : X.grownBy w9 row) (h : X.heap[b]? = some o) (hn : row ≠ some b) : w9.heap[b]? = some o :=
  (hg.block b (lt_of_heap h) (fun e => hn e.symm)).trans h
set_option maxRecDepth 100000 in
set_option maxHeartbeats 4000000 in
theorem mem_All (cs : List Int) (xs : List Acc) (vm vas : Value) (w : World) (hm : IntsR w vm cs) (hty : Typed w vm) (hlen : cs.length ≤ 1048576) (has : SlR 5 Acc.cells w vas xs) (hal : xs.length ≤ 100000) :
    Calls Try.prog 41 #[.agg #[vm], vas] w (AllPost w (memAll cs cs xs)) := by
  generalize hF : memAll cs cs xs = F
  have HF := Lib.hid hF
  have HM := Lib.hid hm
  have HTY := Lib.hid hty
  have HA := Lib.hid has
  obtain ⟨A, c, rfl, -⟩ := hm.out
  obtain ⟨Aa, ca, rfl, -⟩ := has.out
  clear hF hm hty has
  go_enter Try.func41, Try.ntmps41
  go_wp2_with fail
  generalize hW : World.alloc _ _ = W
  have b_q2 := congrArg (fun u : World => u.heap[w.heap.size]?) hW
  try simp only [] at b_q2
  repeat (first | rw [hd_drew] at b_q2 | rw [hd_drewN] at b_q2 | rw [hs_ne _ _ _ _ _ (by omega)] at b_q2 | rw [ha_lt _ _ _ (by first | omega | (simp only [World.size_alloc, World.size_setCell, World.size_drew]; omega))] at b_q2 | rw [hs_same] at b_q2)
  rw [ha_new _ _ _ (by first | rfl | simp only [World.size_alloc, World.size_setCell, World.size_drew])] at b_q2
  try simp only [Option.map_some, putO, List.setIfInBounds_toArray, List.set_cons_zero, List.set_cons_succ] at b_q2
  have Lq2 := Lib.hid b_q2.symm
  clear b_q2
  have b_q4 := congrArg (fun u : World => u.heap[w.heap.size + 1]?) hW
  try simp only [] at b_q4
  repeat (first | rw [hd_drew] at b_q4 | rw [hd_drewN] at b_q4 | rw [hs_ne _ _ _ _ _ (by omega)] at b_q4 | rw [ha_lt _ _ _ (by first | omega | (simp only [World.size_alloc, World.size_setCell, World.size_drew]; omega))] at b_q4 | rw [hs_same] at b_q4)
  rw [ha_new _ _ _ (by first | rfl | simp only [World.size_alloc, World.size_setCell, World.size_drew])] at b_q4
  try simp only [Option.map_some, putO, List.setIfInBounds_toArray, List.set_cons_zero, List.set_cons_succ] at b_q4
  have Lq4 := Lib.hid b_q4.symm
  clear b_q4
  have b_q7 := congrArg (fun u : World => u.heap[w.heap.size + 1 + 1]?) hW
  try simp only [] at b_q7
  repeat (first | rw [hd_drew] at b_q7 | rw [hd_drewN] at b_q7 | rw [hs_ne _ _ _ _ _ (by omega)] at b_q7 | rw [ha_lt _ _ _ (by first | omega | (simp only [World.size_alloc, World.size_setCell, World.size_drew]; omega))] at b_q7 | rw [hs_same] at b_q7)
  rw [ha_new _ _ _ (by first | rfl | simp only [World.size_alloc, World.size_setCell, World.size_drew])] at b_q7
  try simp only [Option.map_some, putO, List.setIfInBounds_toArray, List.set_cons_zero, List.set_cons_succ] at b_q7
  have Lq7 := Lib.hid b_q7.symm
  clear b_q7
  have cq2 := cell_of_heap Lq2.out
  have fq2 := frz_of_heap Lq2.out
  have sq2 := lt_of_heap Lq2.out
  have cq4 := cell_of_heap Lq4.out
  have fq4 := frz_of_heap Lq4.out
  have sq4 := lt_of_heap Lq4.out
  have cq7 := cell_of_heap Lq7.out
  have fq7 := frz_of_heap Lq7.out
  have sq7 := lt_of_heap Lq7.out
  have hbw : Below w.heap.size w W := by subst hW; exact blw_alloc (blw_alloc (blw_alloc (Below.refl _ _) _) _) _
  have hws : W.heap.size = w.heap.size + 1 + 1 + 1 := by subst hW; simp
  clear hW
  have HBW := Lib.hid hbw
  clear cq2 fq2 sq2 cq4 fq4 sq4 cq7 fq7 sq7 hbw
  obtain ⟨i0, hi0, hz0, hz1, hz2⟩ := info_parts info_rs
  go_loopw [8, 17] (fun vlog i wr => ∃ (n : Nat) (cs' : List Int) (lg : List Value) (vm' : Value), n ≤ xs.length ∧ i = .int .i64 (n : Int) ∧ wr.ownsRow W.heap.size 58 2 vlog n lg ∧
    Keep (· = w.heap.size + 1 + 1) W wr ∧ wr.heap[w.heap.size + 1 + 1]? = some (.cells #[vm'] 53 (0, 0)) ∧ IntsR wr vm' cs' ∧ cs'.length ≤ 1048576 ∧ Typed wr vm' ∧ memAll cs cs' (xs.drop n) = F) (fun _ i _ => xs.length - (intOf i).toNat)
  case atStart => exact ⟨0, cs, [], .slice A cs.length c, Nat.zero_le _, rfl, World.ownsRow_nil _ _ _ _, Keep.refl _ _, Lq7.out, HM.out.below HBW.out, hlen, HTY.out.below HBW.out, HF.out⟩
  case round =>
    obtain ⟨n, cs', lg, vm', hn, rfl, how, hK, hB7, hI, hlen', hT, hgo⟩ := hrel
    obtain ⟨Av, cv, rfl, -⟩ := hI.out
    obtain ⟨Al, cl, rfl, -⟩ := owns_shape how
    have L7 := Lib.hid hB7
    have L2 := Lib.hid ((hK.block w.heap.size (lt_of_heap Lq2.out) (by omega)).trans Lq2.out)
    have L4 := Lib.hid ((hK.block (w.heap.size + 1) (lt_of_heap Lq4.out) (by omega)).trans Lq4.out)
    have c7 := cell_of_heap L7.out
    have f7 := frz_of_heap L7.out
    have s7 := lt_of_heap L7.out
    have HK := Lib.hid hK
    have HO := Lib.hid how
    have HI := Lib.hid hI
    have HT := Lib.hid hT
    have HG := Lib.hid hgo
    have zr := hK.size
    clear hB7 hK how hI hT hgo
    by_cases hlt : n < xs.length
    · have hd : decide ((n : Int) < (xs.length : Int)) = true := by simp; omega
      have hx : xs[n]? = some xs[n] := List.getElem?_eq_getElem hlt
      have hdr : xs.drop n = xs[n] :: xs.drop (n + 1) := List.drop_eq_getElem_cons hlt
      obtain ⟨ba, oa, rfl, hba, e0, e1, e2, e3, e4⟩ := HA.out.elemA hx
      generalize xs[n] = a at hx hdr e0 e1 e2 e3 e4
      have hcr : ∀ o, wr.cell? ⟨ba, o, none⟩ = w.cell? ⟨ba, o, none⟩ := fun o => (HK.out.bcell ba o (by omega) (by omega)).trans ((bcell HBW.out).1 ba o hba)
      have g0 := (hcr _).trans e0
      have g1 := (hcr _).trans e1
      have g2 := (hcr _).trans e2
      have g3 := (hcr _).trans e3
      have g4 := (hcr _).trans e4
      have HX := Lib.hid hx
      have HDR := Lib.hid hdr
      have HLT := Lib.hid hlt
      clear hcr e0 e1 e2 e3 e4 hx hdr
      go_wp2_with fail
      have hba2 : Below wr.heap.size wr (wr.alloc (.cells #[.int .i64 a.kind, .int .i64 a.cell, .int .i64 a.old, .int .i64 a.new, .string a.bytes] 39)) := blw_alloc (Below.refl _ _) _
      refine (mem_Do cs' a _ _ (HI.out.below hba2) hlen').mono ?_
      rintro e w2 ⟨vm2, rfl, hI2, hb2, hty2⟩
      obtain ⟨A2, c2, rfl, -⟩ := hI2.out
      have HB2 := Lib.hid (blw_then hba2 hb2)
      have HT2 := Lib.hid (hty2 (HT.out.below hba2))
      have HI2 := Lib.hid hI2
      replace L7 := Lib.hid (blk_keep HB2.out (lt_of_heap L7.out) L7.out)
      replace L2 := Lib.hid (blk_keep HB2.out (lt_of_heap L2.out) L2.out)
      replace L4 := Lib.hid (blk_keep HB2.out (lt_of_heap L4.out) L4.out)
      have HO2 := Lib.hid (owns_below HO.out HB2.out)
      have hl2 := memDo_length cs' a
      obtain ⟨R, hR⟩ : ∃ R, R = memDo cs' a := ⟨_, rfl⟩
      rw [← hR] at HI2 hl2 HT2 ⊢
      have HR := Lib.hid hR
      clear hR hI2 hb2 hty2 hba2 c7 f7 s7 g0 g1 g2 g3 g4
      obtain ⟨cs2, ⟨rv, rok⟩, er⟩ := R
      have c7 := cell_of_heap L7.out
      have f7 := frz_of_heap L7.out
      have s7 := lt_of_heap L7.out
      have c2 := cell_of_heap L2.out
      have f2 := frz_of_heap L2.out
      have s2 := lt_of_heap L2.out
      have c4 := cell_of_heap L4.out
      have f4 := frz_of_heap L4.out
      have s4 := lt_of_heap L4.out
      by_cases her : er = 0
      · subst her
        have HE : Hid (memAll cs cs2 (xs.drop (n + 1)) = F) := Lib.hid (by rw [← HG.out, HDR.out, memAll, ← HR.out, if_pos rfl])
        go_wp2_with fail
        generalize hW8 : World.alloc _ _ = W8
        have b_q11 := congrArg (fun u : World => u.heap[w2.heap.size]?) hW8
        try simp only [] at b_q11
        repeat (first | rw [hd_drew] at b_q11 | rw [hd_drewN] at b_q11 | rw [hs_ne _ _ _ _ _ (by omega)] at b_q11 | rw [ha_lt _ _ _ (by first | omega | (simp only [World.size_alloc, World.size_setCell, World.size_drew]; omega))] at b_q11 | rw [hs_same] at b_q11)
        rw [ha_new _ _ _ (by first | rfl | simp only [World.size_alloc, World.size_setCell, World.size_drew])] at b_q11
        try simp only [Option.map_some, putO, List.setIfInBounds_toArray, List.set_cons_zero, List.set_cons_succ] at b_q11
        have Lq11 := Lib.hid b_q11.symm
        clear b_q11
        have b_q12 := congrArg (fun u : World => u.heap[w2.heap.size + 1]?) hW8
        try simp only [] at b_q12
        repeat (first | rw [hd_drew] at b_q12 | rw [hd_drewN] at b_q12 | rw [hs_ne _ _ _ _ _ (by omega)] at b_q12 | rw [ha_lt _ _ _ (by first | omega | (simp only [World.size_alloc, World.size_setCell, World.size_drew]; omega))] at b_q12 | rw [hs_same] at b_q12)
        rw [ha_new _ _ _ (by first | rfl | simp only [World.size_alloc, World.size_setCell, World.size_drew])] at b_q12
        try simp only [Option.map_some, putO, List.setIfInBounds_toArray, List.set_cons_zero, List.set_cons_succ] at b_q12
        have Lq12 := Lib.hid b_q12.symm
        clear b_q12
        have cq11 := cell_of_heap Lq11.out
        have fq11 := frz_of_heap Lq11.out
        have sq11 := lt_of_heap Lq11.out
        have cq12 := cell_of_heap Lq12.out
        have fq12 := frz_of_heap Lq12.out
        have sq12 := lt_of_heap Lq12.out
        have hb8 : Below w2.heap.size w2 W8 := by subst hW8; exact blw_alloc (blw_alloc (Below.refl _ _) _) _
        clear hW8
        have HO8 := Lib.hid (owns_below HO2.out hb8)
        have HBO8 := Lib.hid hb8
        replace L7 := Lib.hid (blk_keep hb8 (lt_of_heap L7.out) L7.out)
        have c7 := cell_of_heap L7.out
        have f7 := frz_of_heap L7.out
        have s7 := lt_of_heap L7.out
        have HB8 := Lib.hid (blw_then HB2.out hb8)
        have zW := HB8.out.size
        have HX1 : Hid (n + 1 ≤ maxLen) := Lib.hid (by simp only [maxLen]; omega)
        have HX2 : Hid ((n + 1) * 16 ≤ 140737488355328) := Lib.hid (by omega)
        clear hb8 c2 f2 s2 c4 f4 s4
        have HROW := Lib.hid (fun k (hk : (Value.slice Al n cl).ownBlock = some k) => HO2.out.lt k hk)
        go_region_law
          ((first
            | (refine step_append_any rfl (.tmp 33) (.tmp 35) 33 rfl W.heap.size 58 i0 (.agg #[.int .i64 0, .bool false]) 2 16 Try.underlying33 hi0 hz0 hz1 hz2 rfl (by decide) _ n lg rfl ?own _ 1 1 [.int .i64 rv, .bool rok] rfl rfl ?src ?one HX1.out HX2.out ?bas (n + 1) rfl (lg ++ [.int .i64 rv, .bool rok]) rfl ?_
               case own => first | exact HO8.out.alloc _ | exact HO8.out
               case src =>
                 refine .inr ⟨_, rfl, World.news_of_block (cs := #[.int .i64 rv, .bool rok]) (t := 58) (fr := (0, 0)) ?_⟩
                 first | exact ha_new _ _ _ rfl | exact (hd_drew _ _).trans (ha_new _ _ _ rfl)
               case one => intro u hu; simp at hu; rcases hu with rfl | rfl <;> rfl
               case bas => first | omega | (simp only [World.size_alloc, World.size_drew]; omega)
               intro A9 c9 w9 hown9 hgrow9 hlow9
               have hn9 : ∀ b, b < W.heap.size → (Value.slice Al n cl).ownBlock ≠ some b := fun b hb e => by have := hlow9 b e; omega
               have HK9 := Lib.hid (Keep.grown (X := fun b => (Value.slice Al n cl).ownBlock = some b) (Keep.of_below (show Below W8.heap.size W8 _ by with_reducible repeat (first | exact Below.refl _ _ | refine blw_alloc ?_ _ | refine blw_drew ?_))) hgrow9 (fun b' hb' => .inr hb'))
               have L79 := Lib.hid (grown_blkA hgrow9 (blk_keep (show Below W8.heap.size W8 _ by with_reducible repeat (first | exact Below.refl _ _ | refine blw_alloc ?_ _ | refine blw_drew ?_)) (lt_of_heap L7.out) L7.out) (hn9 _ (by omega)))
               have L119 := Lib.hid (grown_blkA hgrow9 (blk_keep (show Below W8.heap.size W8 _ by with_reducible repeat (first | exact Below.refl _ _ | refine blw_alloc ?_ _ | refine blw_drew ?_)) (lt_of_heap Lq11.out) Lq11.out) (fun e => Nat.lt_irrefl _ (HROW.out _ e).2))
               have c119 := cell_of_heap L119.out
               have c79 := cell_of_heap L79.out
               have f79 := frz_of_heap L79.out
               have s79 := lt_of_heap L79.out
               have HOWN9 := Lib.hid hown9
               have HGR9 := Lib.hid hgrow9
               have HLOW9 := Lib.hid hlow9
               clear hown9 hgrow9 hlow9 hn9)))
        all_goals (
          go_wp2_with fail
          go_roundw
          case rel =>
            have hk8 : Keep (fun b => b = w.heap.size + 1 + 1 ∨ (Value.slice Al n cl).ownBlock = some b) W8 (w9.setCell ⟨w.heap.size + 1 + 1, 0, none⟩ (.slice A2 cs'.length c2)) := (HK9.out.mono fun b _ h => .inr h).trans (Keep.setCell (Keep.refl _ _) _ (.inr (.inl rfl)))
            have hI8 := HI2.out
            have hT8 := HT2.out
            simp only [hl2] at hI8 hT8
            obtain ⟨g1, g2⟩ := ints_keep (hI8.below HBO8.out) (hT8.below HBO8.out) hk8 (by
              rintro b (rfl | hb) _ c fr e
              · rw [L7.out] at e; simp at e
              · obtain ⟨c', hc'⟩ := owns_type HO8.out hb
                rw [hc'] at e
                simp at e)
            refine ⟨n + 1, cs2, lg ++ [.int .i64 rv, .bool rok], .slice A2 cs'.length c2, HLT.out, by go_num, ?_, ?_, ?_, g1, ?_, g2, HE.out⟩
            · exact owns_set HOWN9.out (by omega)
            · refine ⟨hk8.os.trans (HB8.out.os.trans HK.out.os), hk8.tape.trans (HB8.out.tape.trans HK.out.tape), hk8.output.trans (HB8.out.output.trans HK.out.output), ?_, ?_⟩
              · have := hk8.size; omega
              · intro b hb hbn
                refine (hk8.block b (by omega) (fun h => h.elim hbn (fun h => by have := (HROW.out b h).1; omega))).trans ?_
                exact (HB8.out.block b (by omega)).trans (HK.out.block b hb hbn)
            · rw [hs_same, L79.out]
              rfl
            · exact hl2 ▸ hlen'
          case measure => have := HLT.out; simp [intOf]; omega)
      · have HE : Hid (F = (cs, er)) := Lib.hid (by rw [← HG.out, HDR.out, memAll, ← HR.out, if_neg her])
        have bne : (er != 0) = true := by simp [her]
        clear her
        go_wp2_with fail
        refine bodyPost_ret (v := .tuple #[.agg #[.slice A cs.length c], .slice none 0 0, .int .i64 er]) (by simp [results, go_sem, c4, f4, s4, s2, s7]) rfl ?_
        rw [HE.out]
        have FIN : ∀ wf, Keep (· = w.heap.size + 1) w2 wf → Below w.heap.size w wf := fun wf hk =>
          Keep.toBelow (X := fun i => w.heap.size ≤ i) (((Keep.of_below HBW.out).trans (HK.out.mono fun i _ hi => by omega)).trans ((Keep.of_below HB2.out).trans (hk.mono fun i _ hi => by omega))) (fun i hi => by omega)
        refine ⟨_, _, rfl, HM.out.below (FIN _ ?_), HTY.out.below (FIN _ ?_), FIN _ ?_⟩
        all_goals (
          with_reducible repeat (first | refine Keep.setCell ?_ _ (.inr rfl) | refine Keep.alloc ?_ _)
          exact Keep.refl _ _)
    · obtain rfl : n = xs.length := by omega
      have hd : decide ((xs.length : Int) < (xs.length : Int)) = false := by simp
      have HE : Hid (F = (cs', 0)) := Lib.hid (by rw [← HG.out, List.drop_length, memAll])
      have c2 := cell_of_heap L2.out
      have f2 := frz_of_heap L2.out
      have s2 := lt_of_heap L2.out
      have c4 := cell_of_heap L4.out
      have f4 := frz_of_heap L4.out
      have s4 := lt_of_heap L4.out
      go_wp2_with fail
      refine bodyPost_ret (v := .tuple #[.agg #[.slice Av cs'.length cv], .slice Al xs.length cl, .int .i64 0]) (by simp [results, go_sem, c4, f4, s4, s2]) rfl ?_
      rw [HE.out]
      have hk : Keep (· = w.heap.size + 1) wr (wr.setCell ⟨w.heap.size + 1, 0, none⟩ (.slice Av cs'.length cv)) := Keep.setCell (Keep.refl _ _) _ (.inr rfl)
      obtain ⟨g1, g2⟩ := ints_keep HI.out HT.out hk (by
        rintro b rfl _ c' fr e
        rw [L4.out] at e; simp at e)
      exact ⟨_, _, rfl, g1, g2, Keep.toBelow (X := fun i => w.heap.size ≤ i) (((Keep.of_below HBW.out).trans (HK.out.mono fun i _ hi => by omega)).trans (hk.mono fun i _ hi => by omega)) (fun i hi => by omega)⟩
end Go.Proofs.Ytpfibcbeenogiaa
