/- Package lock's LookAt and the check of wait that all reads are still current, walked. -/
import Derived.Test.YtpfibcbeenogiaaContains
import Derived.Test.YtpfibcbeenogiaaWaitOut
namespace Go.Proofs.Ytpfibcbeenogiaa
open Go.RowKit
set_option linter.unusedSimpArgs false
set_option linter.unusedVariables false
def lookP (l : Lay) (loc ver : Int) : M (Int × Bool) := (loadM (cellP l.loc l.locs loc 4 0)).map fun w => if w = wrap64 (ver * 2) then (-1, true) else if bits .and .i64 w 1 == 1 then (w / 2, false) else (-1, false)
theorem lock_LookAt (l : Lay) (loc ver : Int) (ba bl : Nat) (vlog : Value) (log : List Rs) (k : Nat) (w : World) (h : DoAt w ba bl vlog log k) :
    Calls Try.prog 106 #[doV ba bl, l.v, .int .i64 loc, .int .i64 ver] w (Runs w ba log k (lookP l loc ver) (fun r => .tuple #[.int .i64 r.1, .bool r.2])) := by
  have H := Lib.hid h
  clear h
  go_enter Try.func106, Try.ntmps106
  go_wp2_with fail
  refine (lay_Word l loc _).mono ?_
  rintro e w1 ⟨rfl, hb⟩
  have HB := Lib.hid (blw_then (blw_alloc (Below.refl _ _) _) hb)
  have H1 := Lib.hid (H.out.stay HB.out)
  clear hb
  go_wp2_with fail
  refine (play_Load (cellP l.loc l.locs loc 4 0) ba bl vlog log k w1 H1.out).mono ?_
  intro e w2 hR
  obtain ⟨hK, ⟨n, k1, h1, rfl, h3, h4⟩ | ⟨x, k1, h1, rfl, h3, h4⟩⟩ := hR
  · have HK := Lib.hid ((Keep.of_below HB.out).trans hK)
    have H3 := Lib.hid h3
    have H4 := Lib.hid h4
    have HP : Hid (lookP l loc ver log k = .ok ((if n = wrap64 (ver * 2) then (-1, true) else if bits .and .i64 n 1 == 1 then (n / 2, false) else (-1, false)), k1)) := by
      show _ = _
      simp [lookP, M.map, M.bind, M.ret, h1]
    clear hK h1 h3 h4
    go_wp2_with fail
    refine (word_Free ver _).mono ?_
    rintro e w3 ⟨rfl, rfl⟩
    by_cases hn : n = wrap64 (ver * 2)
    · have bn : (n == wrap64 (ver * 2)) = true := by simp [hn]
      have HN := Lib.hid hn
      clear hn
      go_wp2
      go_ret2
      exact Runs.close (a := (-1, true)) (by rw [HP.out, if_pos HN.out]) HK.out H3.out H4.out
    · have bn : (n == wrap64 (ver * 2)) = false := by simp [hn]
      have HN := Lib.hid hn
      clear hn
      go_wp2_with fail
      refine (word_Locked n _).mono ?_
      rintro e w3 ⟨rfl, rfl⟩
      cases hl : (bits .and .i64 n 1 == 1)
      · have HL := Lib.hid hl
        clear hl
        go_wp2
        go_ret2
        exact Runs.close (a := (-1, false)) (by rw [HP.out, if_neg HN.out, HL.out]; rfl) HK.out H3.out H4.out
      · have HL := Lib.hid hl
        clear hl
        go_wp2_with fail
        refine (word_Who n _).mono ?_
        rintro e w3 ⟨rfl, rfl⟩
        go_wp2
        go_ret2
        exact Runs.close (a := (n / 2, false)) (by rw [HP.out, if_neg HN.out, HL.out]; rfl) HK.out H3.out H4.out
  · have HK := Lib.hid ((Keep.of_below HB.out).trans hK)
    have H3 := Lib.hid h3
    have H4 := Lib.hid h4
    have HP : Hid (lookP l loc ver log k = .error x) := by
      show _ = _
      simp [lookP, M.map, M.bind, h1]
    clear hK h1 h3 h4
    go_wp2_with fail
    exact ⟨rfl, Runs.halt HP.out HK.out H3.out H4.out⟩
def changedM (l : Lay) (x : Sn) : M Bool := (lookP l x.loc x.ver).map fun r => !r.2
def sameM (l : Lay) (seen : List Sn) : M Bool := (containsM (changedM l) seen).map fun b => !b
def SameSt (sb ba bl : Nat) (cells : Array Value) (vlog : Value) (log : List Rs) (k : Nat) (W : World) : Prop := DoAt W ba bl vlog log k ∧ W.heap[sb]? = some (.cells cells 114 (0, 0))
def At (ba : Nat) (log : List Rs) (W : World) : Prop := ∃ k, k ≤ log.length ∧ W.heap[ba]? = some (.cells #[.int .i64 (k : Int)] 3 (0, 0))
set_option maxHeartbeats 1000000 in
theorem wait_changed (l : Lay) (me : Int) (o : OpV) (sb ba bl : Nat) (vlog : Value) (log : List Rs) (x : Sn) (k : Nat) (W : World) (hne : ¬ sb = ba) (hSt : SameSt sb ba bl (slpC ba bl l me o) vlog log k W) :
    Calls Try.prog 105 #[.agg #[.int .i64 x.loc, .int .i64 x.ver, .int .i64 x.val], .pointer (some ⟨sb, 0, none⟩)] W
      (Went (· = ba) W log k (changedM l x) (fun b => .bool b) (SameSt sb ba bl (slpC ba bl l me o) vlog log) (At ba log)) := by
  obtain ⟨hD, hs⟩ := hSt
  have HD := Lib.hid hD
  have Ls := Lib.hid hs
  have cs := cell_of_heap hs
  have ss := lt_of_heap hs
  obtain ⟨kind, a, b, try_, stamp, karma, aborts, sv, wv, dv⟩ := o
  clear hD hs
  go_enter Try.func105, Try.ntmps105
  go_wp2_with fail
  refine (lock_LookAt l x.loc x.ver ba bl vlog log k _ (HD.out.stay (blw_alloc (Below.refl _ _) _))).mono ?_
  intro e w2 hR
  obtain ⟨hK, ⟨r, k1, h1, rfl, h3, h4⟩ | ⟨y, k1, h1, rfl, h3, h4⟩⟩ := hR
  · have HK := Lib.hid ((Keep.of_below (blw_alloc (Below.refl _ _) _)).trans hK)
    have HD2 := Lib.hid (HD.out.keep HK.out h4 h3)
    have Ls2 := Lib.hid ((HK.out.block _ ss hne).trans Ls.out)
    have HP : Hid (changedM l x log k = .ok (!r.2, k1)) := by
      show _ = _
      simp [changedM, M.map, M.bind, M.ret, h1]
    have hnot : ∀ (x : Bool) (w : World), (Op.unary .not (.bool x)).run Try.prog w = .ok (.bool (!x)) w := fun _ _ => rfl
    clear hK h1 h3 h4 cs ss
    go_wp2
    go_ret
    exact ⟨HK.out, .inl ⟨_, k1, HP.out, rfl, HD2.out, Ls2.out⟩⟩
  · have HK := Lib.hid ((Keep.of_below (blw_alloc (Below.refl _ _) _)).trans hK)
    have H3 := Lib.hid h3
    have H4 := Lib.hid h4
    have HP : Hid (changedM l x log k = .error y) := by
      show _ = _
      simp [changedM, M.map, M.bind, h1]
    clear hK h1 h3 h4 cs ss
    go_wp2_with fail
    exact ⟨rfl, HK.out, .inr ⟨y, HP.out, rfl, k1, H3.out, H4.out⟩⟩
theorem enters_changed (args : Array Value) (w : World) : (callFunc 105 args).run Try.prog w = .ok (.enter 105 args) w := by simp [go_sem]
set_option maxHeartbeats 1000000 in
theorem wait_same (l : Lay) (me : Int) (o : OpV) (ba bl : Nat) (vlog : Value) (log : List Rs) (seen : List Sn) (k : Nat) (w : World)
    (hD : DoAt w ba bl vlog log k) (hseen : SlR 3 Sn.cells w o.seen seen) (hwr : IsSl o.writes) (hdu : IsSl o.durable) (hsep : seen ≠ [] → ∀ b, o.seen.ownBlock = some b → ¬ b = ba) :
    Calls Try.prog 91 #[.agg (slpC ba bl l me o)] w (Runs w ba log k (sameM l seen) (fun b => .bool b)) := by
  have HSN := Lib.hid hseen
  have HSEP := Lib.hid hsep
  have HD := Lib.hid hD
  have hbaw := hD.lt
  obtain ⟨A0, c0, hs0, -⟩ := hseen.out
  obtain ⟨A1, n1, c1, hw1⟩ := hwr
  obtain ⟨A2, n2, c2, hd2⟩ := hdu
  clear hD hseen hsep
  obtain ⟨kind, a, b, try_, stamp, karma, aborts, sv, wv, dv⟩ := o
  simp only at hs0 hw1 hd2 HSN HSEP
  subst hs0 hw1 hd2
  have hmf : ∀ (fn : Fn) (first cap : Array Value) (w : World), (Instr.makeFunc fn first cap).run Try.prog w = .ok (.func fn first cap) w := fun _ _ _ _ => rfl
  go_enter Try.func91, Try.ntmps91
  go_wp2_with fail
  generalize hW : w.alloc _ = W1
  have Ls : Hid (W1.heap[w.heap.size]? = some (.cells (slpC ba bl l me ⟨kind, a, b, try_, stamp, karma, aborts, .slice A0 seen.length c0, .slice A1 n1 c1, .slice A2 n2 c2⟩) 114 (0, 0))) := by
    show _ = _
    rw [← hW]
    exact ha_new _ _ _ rfl
  have HB := Lib.hid (show Below w.heap.size w W1 by rw [← hW]; exact blw_alloc (Below.refl _ _) _)
  clear hW
  have hne : ¬ w.heap.size = ba := by omega
  refine (sl_Contains 105 (.pointer (some ⟨w.heap.size, 0, none⟩)) (changedM l) (· = ba) (SameSt w.heap.size ba bl (slpC ba bl l me ⟨kind, a, b, try_, stamp, karma, aborts, .slice A0 seen.length c0, .slice A1 n1 c1, .slice A2 n2 c2⟩) vlog log) (At ba log) log _ seen k W1
    (HSN.out.below HB.out) (fun hx b' hb' => HSEP.out hx b' hb') enters_changed (fun x _ k W hSt => wait_changed l me _ _ ba bl vlog log x k W hne hSt) ⟨HD.out.stay HB.out, Ls.out⟩).mono ?_
  rintro e W ⟨hK, ⟨b', k', hj, rfl, hSt⟩ | ⟨x, hx, rfl, k1, h3, h4⟩⟩
  · have HK := Lib.hid ((Keep.of_below HB.out).trans hK)
    have HST := Lib.hid hSt
    have HP : Hid (sameM l seen log k = .ok (!b', k')) := by
      show _ = _
      simp [sameM, M.map, M.bind, M.ret, hj]
    have hnot : ∀ (x : Bool) (w : World), (Op.unary .not (.bool x)).run Try.prog w = .ok (.bool (!x)) w := fun _ _ => rfl
    clear hK hSt hj
    go_wp2
    go_ret
    exact Runs.close HP.out HK.out HST.out.1.le HST.out.1.at_
  · have HK := Lib.hid ((Keep.of_below HB.out).trans hK)
    have H3 := Lib.hid h3
    have H4 := Lib.hid h4
    have HP : Hid (sameM l seen log k = .error x) := by
      show _ = _
      simp [sameM, M.map, M.bind, hx]
    clear hK hx h3 h4
    go_wp2_with fail
    exact ⟨rfl, Runs.halt HP.out HK.out H3.out H4.out⟩
end Go.Proofs.Ytpfibcbeenogiaa
