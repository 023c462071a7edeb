/- wait.Rouse and hallmootref21.Rouse, walked. -/
import Derived.Test.YtpfibcbeenogiaaAlone
import Derived.Test.YtpfibcbeenogiaaMore
import Derived.Test.YtpfibcbeenogiaaRefOne
import Derived.Test.YtpfibcbeenogiaaRefOne
namespace Go.Proofs.Ytpfibcbeenogiaa
open Go.RowKit
set_option linter.unusedSimpArgs false
set_option linter.unusedVariables false
def Acc.cells (a : Acc) : List Value := [.int .i64 a.kind, .int .i64 a.cell, .int .i64 a.old, .int .i64 a.new, .string a.bytes]
def rouseN (l : Lay) (f : Int → Bool) : Nat → List Acc
  | 0 => []
  | t + 1 => rouseN l f t ++ (if f (t : Int) then [accStore (cellP l.thd l.thr (t : Int) 4 2) 1] else [])
theorem rouseN_length (l : Lay) (f : Int → Bool) : ∀ t, (rouseN l f t).length ≤ t
  | 0 => Nat.le_refl _
  | t + 1 => by
    have := rouseN_length l f t
    rw [rouseN, List.length_append]
    split <;> simp <;> omega
theorem info_acc : (Try.prog.info? 39).map (fun i => (i.zero, i.size, i.bytes)) = some (some (.agg #[.int .i64 0, .int .i64 0, .int .i64 0, .int .i64 0, .string ⟨#[]⟩]), 5, 48) := by kernel_rfl
set_option maxRecDepth 100000 in
set_option maxHeartbeats 2000000 in
theorem wait_Rouse (l : Lay) (mask : Int) (w : World) (hthr : 0 ≤ l.thr ∧ l.thr ≤ 4) :
    Calls Try.prog 33 #[l.v, .int .i64 mask] w fun e w' =>
      ∃ v, e = .returned v ∧ SlR 5 Acc.cells w' v (rouseN l (wIn mask) l.thr.toNat) ∧ (∀ b, v.ownBlock = some b → w.heap.size ≤ b ∧ ∃ c, w'.heap[b]? = some (.cells c 39 (0, 0))) ∧ Below w.heap.size w w' := by
  obtain ⟨i0, hi0, hz0, hz1, hz2⟩ := info_parts info_acc
  go_enter Try.func33, Try.ntmps33
  go_wp2_with fail
  generalize hW : w.alloc _ = W
  have bw0 := congrArg (fun u : World => u.heap[w.heap.size]?) hW
  try simp only [] at bw0
  repeat (first | rw [hs_ne _ _ _ _ _ (by omega)] at bw0 | rw [ha_lt _ _ _ (by simp only [World.size_alloc, World.size_setCell]; omega)] at bw0 | rw [hs_same] at bw0 | rw [hd_drew] at bw0)
  rw [ha_new _ _ _ (by simp only [World.size_alloc, World.size_setCell])] at bw0
  have Bw0 := Lib.hid bw0.symm
  clear bw0
  have WB : Hid (Below w.heap.size w W) := by
    subst hW
    exact blw_alloc (Below.refl _ _) _
  have ws : W.heap.size = w.heap.size + 1 := by subst hW; simp
  clear hW
  go_loopw [5, 10] (fun v i wr => ∃ n : Nat, n ≤ l.thr.toNat ∧ i = .int .i64 (n : Int) ∧ wr.ownsRow W.heap.size 39 5 v (rouseN l (wIn mask) n).length ((rouseN l (wIn mask) n).flatMap Acc.cells) ∧ Keep (fun i => w.heap.size + 1 ≤ i) W wr) (fun _ i _ => l.thr.toNat - (intOf i).toNat)
  case atStart => exact ⟨0, Nat.zero_le _, rfl, World.ownsRow_nil _ _ _ _, Keep.refl _ _⟩
  case round =>
    obtain ⟨n, hn, rfl, how, hK⟩ := hrel
    have Bx0 := Lib.hid ((hK.block (w.heap.size) (lt_of_heap Bw0.out) (by omega)).trans Bw0.out)
    have cx0 : ∀ i, wr.cell? ⟨w.heap.size, i, none⟩ = _ := cell_of_heap Bx0.out
    have fx0 : ∀ i, wr.frozen? ⟨w.heap.size, i, none⟩ = false := fun i => by simp [World.frozen?, Bx0.out]
    have zr := hK.size
    have HK := Lib.hid hK
    have HO := Lib.hid how
    have hlen := rouseN_length l (wIn mask) n
    clear hK how
    by_cases hlt : n < l.thr.toNat
    · have hd : decide ((n : Int) < l.thr) = true := by simp; omega
      go_wp2_with fail
      refine (word_In mask n _).mono ?_
      rintro e w1 ⟨rfl, hw1⟩
      subst hw1
      cases hin : wIn mask (n : Int)
      · have hsucc : rouseN l (wIn mask) (n + 1) = rouseN l (wIn mask) n := by rw [rouseN, hin]; simp
        have HSU := Lib.hid hsucc
        clear hsucc
        go_wp2_with fail
        go_roundw
        case rel => exact ⟨n + 1, by omega, by go_num, by rw [HSU.out]; exact HO.out, HK.out⟩
        case measure => simp [intOf]; omega
      · have hsucc : rouseN l (wIn mask) (n + 1) = rouseN l (wIn mask) n ++ [accStore (cellP l.thd l.thr (n : Int) 4 2) 1] := by rw [rouseN, hin]; simp
        have HSU := Lib.hid hsucc
        clear hsucc
        go_wp2_with fail
        refine (lay_Wake l n _).mono ?_
        rintro e w2 ⟨rfl, hb2⟩
        have HB2 := Lib.hid hb2
        have z2 := hb2.size
        have HO2 := Lib.hid (owns_below HO.out hb2)
        clear hb2
        go_wp2_with (at_builtin; refine wpList_append_own _ rfl (.tmp 16) (.tmp 21) 76 rfl W.heap.size 39 i0 (.agg #[.int .i64 0, .int .i64 0, .int .i64 0, .int .i64 0, .string ⟨#[]⟩]) 5 48 Try.underlying76 hi0 hz0 hz1 hz2 rfl (by decide) u5 (rouseN l (wIn mask) n).length ((rouseN l (wIn mask) n).flatMap Acc.cells) rfl ?own ⟨w2.heap.size, 0, none⟩ 1 1 (Acc.cells (accStore (cellP l.thd l.thr (n : Int) 4 2) 1)) rfl rfl ?c1 ?c2 ?c3 ?c4 ?c5 ?_)
        case own => exact HO2.out.alloc _
        case c1 =>
          intro j u hj
          have e : (Addr.add ⟨w2.heap.size, 0, none⟩ j) = ⟨w2.heap.size, j, none⟩ := by simp [Addr.add] <;> omega
          rw [e, cell_of_heap (ha_new _ _ _ rfl)]
          simpa [Acc.cells, accStore] using hj
        case c2 => intro u hu; simp [Acc.cells] at hu; rcases hu with rfl | rfl | rfl | rfl | rfl <;> rfl
        case c3 => simp only [maxLen]; omega
        case c4 => omega
        case c5 => simp only [World.size_alloc]; omega
        intro v3 w3 hown3 hgrow3 hnil
        have H3 := Lib.hid hown3
        have G3 := Lib.hid hgrow3
        clear hown3 hgrow3 hnil
        go_wp2
        go_roundw
        case rel =>
          refine ⟨n + 1, by omega, by go_num, ?_, ?_⟩
          · rw [HSU.out, List.length_append, List.flatMap_append]
            rw [ws]; exact H3.out
          · refine Keep.grown ?_ G3.out (fun k hk => .inl (HO2.out.lt k hk).1)
            with_reducible repeat (first | refine Keep.alloc ?_ _)
            exact HK.out.trans (Keep.of_below HB2.out)
        case measure => simp [intOf]; omega
    · obtain rfl : n = l.thr.toNat := by omega
      have hd : decide (((l.thr.toNat : Nat) : Int) < l.thr) = false := by simp; omega
      go_wp2_with fail
      refine bodyPost_ret (v := u5) (by simp [results, go_sem]) rfl ?_
      refine ⟨_, rfl, SlR.of_owns HO.out (fun _ => rfl) (by omega), fun b hb => ⟨by have := (HO.out.lt b hb).1; omega, owns_type HO.out hb⟩, ?_⟩
      exact Keep.toBelow (X := fun i => w.heap.size ≤ i) ((Keep.of_below WB.out).trans (HK.out.mono fun i _ hi => by omega)) (fun i hi => by omega)
set_option maxRecDepth 100000 in
set_option maxHeartbeats 2000000 in
theorem ref_Rouse (l : Lay) (mask : Int) (w : World) (hthr : 0 ≤ l.thr ∧ l.thr ≤ 4) :
    Calls Try.prog 34 #[l.v, .int .i64 mask] w fun e w' =>
      ∃ v, e = .returned v ∧ SlR 5 Acc.cells w' v (rouseN l (rIn mask) l.thr.toNat) ∧ (∀ b, v.ownBlock = some b → w.heap.size ≤ b ∧ ∃ c, w'.heap[b]? = some (.cells c 39 (0, 0))) ∧ Below w.heap.size w w' := by
  obtain ⟨i0, hi0, hz0, hz1, hz2⟩ := info_parts info_acc
  go_enter Try.func34, Try.ntmps34
  go_wp2_with fail
  generalize hW : w.alloc _ = W
  have bw0 := congrArg (fun u : World => u.heap[w.heap.size]?) hW
  try simp only [] at bw0
  repeat (first | rw [hs_ne _ _ _ _ _ (by omega)] at bw0 | rw [ha_lt _ _ _ (by simp only [World.size_alloc, World.size_setCell]; omega)] at bw0 | rw [hs_same] at bw0 | rw [hd_drew] at bw0)
  rw [ha_new _ _ _ (by simp only [World.size_alloc, World.size_setCell])] at bw0
  have Bw0 := Lib.hid bw0.symm
  clear bw0
  have WB : Hid (Below w.heap.size w W) := by
    subst hW
    exact blw_alloc (Below.refl _ _) _
  have ws : W.heap.size = w.heap.size + 1 := by subst hW; simp
  clear hW
  go_loopw [5, 6] (fun v i wr => ∃ n : Nat, n ≤ l.thr.toNat ∧ i = .int .i64 (n : Int) ∧ wr.ownsRow W.heap.size 39 5 v (rouseN l (rIn mask) n).length ((rouseN l (rIn mask) n).flatMap Acc.cells) ∧ Keep (fun i => w.heap.size + 1 ≤ i) W wr) (fun _ i _ => l.thr.toNat - (intOf i).toNat)
  case atStart => exact ⟨0, Nat.zero_le _, rfl, World.ownsRow_nil _ _ _ _, Keep.refl _ _⟩
  case round =>
    obtain ⟨n, hn, rfl, how, hK⟩ := hrel
    have Bx0 := Lib.hid ((hK.block (w.heap.size) (lt_of_heap Bw0.out) (by omega)).trans Bw0.out)
    have cx0 : ∀ i, wr.cell? ⟨w.heap.size, i, none⟩ = _ := cell_of_heap Bx0.out
    have fx0 : ∀ i, wr.frozen? ⟨w.heap.size, i, none⟩ = false := fun i => by simp [World.frozen?, Bx0.out]
    have zr := hK.size
    have HK := Lib.hid hK
    have HO := Lib.hid how
    have hlen := rouseN_length l (rIn mask) n
    clear hK how
    by_cases hlt : n < l.thr.toNat
    · have hd : decide ((n : Int) < l.thr) = true := by simp; omega
      go_wp2_with fail
      refine (ref_In mask n _).mono ?_
      rintro e w1 ⟨rfl, hw1⟩
      subst hw1
      cases hin : rIn mask (n : Int)
      · have hsucc : rouseN l (rIn mask) (n + 1) = rouseN l (rIn mask) n := by rw [rouseN, hin]; simp
        have HSU := Lib.hid hsucc
        clear hsucc
        go_wp2_with fail
        go_roundw
        case rel => exact ⟨n + 1, by omega, by go_num, by rw [HSU.out]; exact HO.out, HK.out⟩
        case measure => simp [intOf]; omega
      · have hsucc : rouseN l (rIn mask) (n + 1) = rouseN l (rIn mask) n ++ [accStore (cellP l.thd l.thr (n : Int) 4 2) 1] := by rw [rouseN, hin]; simp
        have HSU := Lib.hid hsucc
        clear hsucc
        go_wp2_with fail
        refine (ref_Wake l n _).mono ?_
        rintro e w2 ⟨rfl, hb2⟩
        have HB2 := Lib.hid hb2
        have z2 := hb2.size
        have HO2 := Lib.hid (owns_below HO.out hb2)
        clear hb2
        go_wp2_with (at_builtin; refine wpList_append_own _ rfl (.tmp 19) (.tmp 24) 76 rfl W.heap.size 39 i0 (.agg #[.int .i64 0, .int .i64 0, .int .i64 0, .int .i64 0, .string ⟨#[]⟩]) 5 48 Try.underlying76 hi0 hz0 hz1 hz2 rfl (by decide) u5 (rouseN l (rIn mask) n).length ((rouseN l (rIn mask) n).flatMap Acc.cells) rfl ?own ⟨w2.heap.size, 0, none⟩ 1 1 (Acc.cells (accStore (cellP l.thd l.thr (n : Int) 4 2) 1)) rfl rfl ?c1 ?c2 ?c3 ?c4 ?c5 ?_)
        case own => exact HO2.out.alloc _
        case c1 =>
          intro j u hj
          have e : (Addr.add ⟨w2.heap.size, 0, none⟩ j) = ⟨w2.heap.size, j, none⟩ := by simp [Addr.add] <;> omega
          rw [e, cell_of_heap (ha_new _ _ _ rfl)]
          simpa [Acc.cells, accStore] using hj
        case c2 => intro u hu; simp [Acc.cells] at hu; rcases hu with rfl | rfl | rfl | rfl | rfl <;> rfl
        case c3 => simp only [maxLen]; omega
        case c4 => omega
        case c5 => simp only [World.size_alloc]; omega
        intro v3 w3 hown3 hgrow3 hnil
        have H3 := Lib.hid hown3
        have G3 := Lib.hid hgrow3
        clear hown3 hgrow3 hnil
        go_wp2
        go_roundw
        case rel =>
          refine ⟨n + 1, by omega, by go_num, ?_, ?_⟩
          · rw [HSU.out, List.length_append, List.flatMap_append]
            rw [ws]; exact H3.out
          · refine Keep.grown ?_ G3.out (fun k hk => .inl (HO2.out.lt k hk).1)
            with_reducible repeat (first | refine Keep.alloc ?_ _)
            exact HK.out.trans (Keep.of_below HB2.out)
        case measure => simp [intOf]; omega
    · obtain rfl : n = l.thr.toNat := by omega
      have hd : decide (((l.thr.toNat : Nat) : Int) < l.thr) = false := by simp; omega
      go_wp2_with fail
      refine bodyPost_ret (v := u5) (by simp [results, go_sem]) rfl ?_
      refine ⟨_, rfl, SlR.of_owns HO.out (fun _ => rfl) (by omega), fun b hb => ⟨by have := (HO.out.lt b hb).1; omega, owns_type HO.out hb⟩, ?_⟩
      exact Keep.toBelow (X := fun i => w.heap.size ≤ i) ((Keep.of_below WB.out).trans (HK.out.mono fun i _ hi => by omega)) (fun i hi => by omega)
end Go.Proofs.Ytpfibcbeenogiaa
