/- Package wait, walked: the iterator over the waiter masks' cells. -/
import Derived.Test.YtpfibcbeenogiaaVisEnd
import Derived.Test.YtpfibcbeenogiaaRound
import Derived.Test.YtpfibcbeenogiaaMore
import Derived.OwnWalkIn
import Derived.TacticsInMore
import Derived.LoopNIn
import Derived.LoopIn
import Derived.Outline
namespace Go.Proofs.Ytpfibcbeenogiaa
open Go.RowKit
attribute [local go_sem] Oper.semAt_some
set_option linter.unusedSimpArgs false
set_option linter.unusedVariables false
structure Sn where
  (loc ver val : Int)
abbrev Sn.cells (x : Sn) : List Value := [.int .i64 x.loc, .int .i64 x.ver, .int .i64 x.val]
def eachM {β : Type} (f : β → M Unit) : List β → M Unit
  | [] => M.ret ()
  | x :: xs => (f x).bind fun _ => eachM f xs
abbrev slpC (ba bl : Nat) (l : Lay) (me : Int) (o : OpV) : Array Value := #[doV ba bl, .int .i64 l.thr, .int .i64 l.locs, .int .i64 l.lks, .int .i64 l.sec, .int .i64 l.man, .int .i64 l.clk, .int .i64 l.stp, .int .i64 l.log, .int .i64 l.fin, .int .i64 l.thd, .int .i64 l.lck, .int .i64 l.loc, .int .i64 l.size, .int .i64 me,
  .int .i64 o.kind, .int .i64 o.a, .int .i64 o.b, .int .i64 o.try_, .int .i64 o.stamp, .int .i64 o.karma, .int .i64 o.aborts, o.seen, o.writes, o.durable]
theorem round_any {P : Program} {n m l : Nat} {f : FuncId} {tmps : Array Value} {assign body : Code} {w : World} {R : Ending → World → Prop} (h : RoundIn Fence.wide n P l f tmps assign body w R) : RoundIn Fence.wide m P l f tmps assign body w R :=
  ⟨h.1, fun c cs _ => h.2 c cs (room_wide _)⟩
set_option maxHeartbeats 2000000 in
theorem wait_waiters (l : Lay) (me : Int) (o : OpV) (ba bl lp : Nat) (seen : List Sn) (F : Sn → M Unit) (log : List Rs) (St : Nat → World → Prop) (Pn : World → Prop) (k0 : Nat) (w : World)
    (hseen : SlR 3 Sn.cells w o.seen seen) (hwr : IsSl o.writes) (hdu : IsSl o.durable) (hsep : seen ≠ [] → ∀ b, o.seen.ownBlock = some b → ¬ (b = ba ∨ b = lp)) (hba : ba < w.heap.size) (hlp : lp < w.heap.size)
    (hS : ∀ k W W', St k W → Below W.heap.size W W' → St k W')
    (hY : ∀ x, x ∈ seen → ∀ k W, St k W → YieldAt Fence.wide 0 Try.prog lp #[.int .i64 (cellP l.loc l.locs x.loc 4 3)] W fun e W' => Keep (fun i => i = ba ∨ i = lp) W W' ∧
      ((∃ k', F x log k = .ok ((), k') ∧ e = .returned (.bool true) ∧ St k' W') ∨ (∃ ac, F x log k = .error ac ∧ e = .panicked (chainOf ac) ∧ Pn W')))
    (h0 : St k0 w) :
    Calls Try.prog 90 #[.agg (slpC ba bl l me o), .func (.yield lp) #[] #[]] w fun e w' => Keep (fun i => i = ba ∨ i = lp) w w' ∧
      ((∃ k', eachM F seen log k0 = .ok ((), k') ∧ e = .returned (.tuple #[]) ∧ St k' w') ∨ (∃ ac, eachM F seen log k0 = .error ac ∧ e = .panicked (chainOf ac) ∧ Pn w')) := by
  have HSN := Lib.hid hseen
  obtain ⟨A, c, hse, hc1, hc2, hA⟩ := hseen.out
  obtain ⟨A1, n1, c1, hw1⟩ := hwr
  obtain ⟨A2, n2, c2, hd2⟩ := hdu
  obtain ⟨kind, a, b, try_, stamp, karma, aborts, sv, wv, dv⟩ := o
  simp only at hse hw1 hd2 HSN hsep
  subst hse hw1 hd2
  have HA := Lib.hid hA
  have HSEP := Lib.hid hsep
  have HS := Lib.hid hS
  have HY := Lib.hid hY
  have H0 := Lib.hid h0
  clear hA hsep hS hY h0 hseen
  generalize hR0 : eachM F seen log k0 = R0
  have HR0 := Lib.hid hR0
  clear hR0
  refine (callsIn_wide (n := 3)).1 ?_
  refine callsIn_of_wp Try.func90 rfl trivial ?_ rfl
  simp only [Try.ntmps90, List.size_toArray, List.length_cons, List.length_nil, Nat.reduceAdd, Nat.reduceSub, Array.replicate_succ, Array.replicate_zero, List.push_toArray, List.append_toArray, List.nil_append, List.cons_append]
  gi_wp2
  generalize hW : w.alloc _ = W1
  have b_s := congrArg (fun u : World => u.heap[w.heap.size]?) hW
  try simp only [] at b_s
  repeat (first | rw [hd_drew] at b_s | rw [hs_ne _ _ _ _ _ (by omega)] at b_s | rw [ha_lt _ _ _ (by first | omega | (simp only [World.size_alloc, World.size_setCell, World.size_drew]; omega))] at b_s | rw [hs_same] at b_s)
  rw [ha_new _ _ _ (by first | rfl | simp only [World.size_alloc, World.size_setCell, World.size_drew])] at b_s
  try simp only [Option.map_some, putO, List.setIfInBounds_toArray, List.set_cons_zero, List.set_cons_succ] at b_s
  have Ls := Lib.hid b_s.symm
  clear b_s
  have cs := cell_of_heap Ls.out
  have fs := frz_of_heap Ls.out
  have ss := lt_of_heap Ls.out
  have hb1 : Below w.heap.size w W1 := by rw [← hW]; exact blw_alloc (Below.refl _ _) _
  clear hW
  have hsb : ¬ w.heap.size = ba := by omega
  have hsl : ¬ w.heap.size = lp := by omega
  generalize hsz : w.heap.size = sb at *
  have HSZ := Lib.hid hsz
  clear hsz
  have HSN1 := Lib.hid (HSN.out.below (by have := HSZ.out; rw [this]; exact hb1))
  have H1 := Lib.hid (HS.out _ _ _ H0.out (by have := HSZ.out; rw [this]; exact hb1))
  have HK1 : Hid (Keep (fun i => i = ba ∨ i = lp) w W1) := Keep.of_below (by have := HSZ.out; rw [this]; exact hb1)
  clear hb1
  have hba1 : ba < W1.heap.size := by omega
  have hlp1 : lp < W1.heap.size := by omega
  gi_loopw [5, 10] (fun _ i wr => ∃ (n k : Nat), n ≤ seen.length ∧ i = .int .i64 (n : Int) ∧ Keep (fun i => i = ba ∨ i = lp) W1 wr ∧ St k wr ∧ eachM F (seen.drop n) log k = R0) (fun _ i _ => seen.length - (intOf i).toNat)
  case atStart => exact ⟨0, k0, Nat.zero_le _, rfl, Keep.refl _ _, H1.out, by simpa using HR0.out⟩
  case round =>
    obtain ⟨n, k, hn, rfl, hK, hSt, hE⟩ := hrel
    have HSN2 := Lib.hid (HSN1.out.stayN hK.size (fun hne b' hb' hl' => hK.block b' hl' (HSEP.out hne b' hb')))
    have Lr := Lib.hid ((hK.block sb ss (by omega)).trans Ls.out)
    have cr := cell_of_heap Lr.out
    have sr := lt_of_heap Lr.out
    have HK := Lib.hid hK
    have HST := Lib.hid hSt
    have HE := Lib.hid hE
    have hbr : ba < wr.heap.size := Nat.lt_of_lt_of_le hba1 hK.size
    have hlr : lp < wr.heap.size := Nat.lt_of_lt_of_le hlp1 hK.size
    clear hK hSt hE
    by_cases hlt : n < seen.length
    · obtain ⟨x, hx⟩ : ∃ x, seen[n]? = some x := ⟨_, List.getElem?_eq_getElem hlt⟩
      obtain ⟨A', c', h1, h2, h3, h4⟩ := HSN2.out.out
      obtain ⟨bs, os, hAs, hbs, hcs⟩ := h4 (by intro e; simp [e] at hlt)
      simp only [Value.slice.injEq] at h1
      obtain ⟨rfl, -, rfl⟩ := h1
      subst hAs
      have e0 := hcs n x hx 0 _ rfl
      have e1 := hcs n x hx 1 _ rfl
      have e2 := hcs n x hx 2 _ rfl
      simp only [Nat.add_zero] at e0
      have HX := Lib.hid hx
      have hdrop : seen.drop n = x :: seen.drop (n + 1) := by rw [List.drop_eq_getElem_cons hlt]; rw [List.getElem?_eq_getElem hlt] at hx; simp only [Option.some.injEq] at hx; rw [hx]
      have HDR := Lib.hid hdrop
      obtain ⟨lo, ve, va⟩ := x
      clear h2 h3 h4 hcs hx hdrop
      gi_wp2_with fail
      refine ⟨trivial, CallsIn.mono (callsIn_wide.2 (lay_Waiters l lo _)) ?_⟩
      rintro e W3 ⟨rfl, hb3⟩
      have HB3 := Lib.hid (blw_then (w := wr) (blw_alloc (Below.refl _ _) _) hb3)
      have h3 := HS.out _ _ _ HST.out HB3.out
      obtain ⟨fn, tmps, assign, body, hy, hR⟩ := HY.out ⟨lo, ve, va⟩ (List.mem_of_getElem? HX.out) k W3 h3
      have HR := Lib.hid hR
      clear hb3 h3 hR
      gi_wp2_with fail
      refine (round_any HR.out).mono ?_
      rintro e W4 ⟨hK4, ⟨k', hF, rfl, hSt4⟩ | ⟨ac, hF, rfl, hPn⟩⟩
      · have HK4 := Lib.hid ((HK.out.trans (Keep.of_below HB3.out)).trans hK4)
        have HST4 := Lib.hid hSt4
        have HE4 : Hid (eachM F (seen.drop (n + 1)) log k' = R0) := by
          show _ = _
          rw [← HE.out, HDR.out]
          simp [eachM, M.bind, hF]
        clear hK4 hSt4 hF hy
        gi_wp2_with fail
        go_roundw
        case rel => exact ⟨n + 1, k', by omega, by go_num, HK4.out, HST4.out, HE4.out⟩
        case measure => simp [intOf]; omega
      · have HK4 := Lib.hid ((HK.out.trans (Keep.of_below HB3.out)).trans hK4)
        have HE4 : Hid (R0 = .error ac) := by
          show _ = _
          rw [← HE.out, HDR.out]
          simp [eachM, M.bind, hF]
        have HPN := Lib.hid hPn
        clear hK4 hPn hF hy
        gi_wp2_with fail
        exact ⟨rfl, HK1.out.trans HK4.out, .inr ⟨ac, HE4.out, rfl, HPN.out⟩⟩
    · have hn2 : n = seen.length := by omega
      subst hn2
      gi_wp2
      go_end0
      refine ⟨HK1.out.trans HK.out, .inl ⟨k, ?_, rfl, HST.out⟩⟩
      rw [← HE.out]
      simp [eachM, M.ret]
end Go.Proofs.Ytpfibcbeenogiaa
