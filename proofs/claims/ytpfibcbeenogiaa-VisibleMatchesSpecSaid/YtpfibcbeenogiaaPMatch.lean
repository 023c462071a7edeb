/- Whatever the layout, the thread, the operation and the log: law18.VisibleMatchesSpec returns true, and its argument reads as before. No conditions. -/
import Derived.Test.YtpfibcbeenogiaaRows
import Derived.Test.YtpfibcbeenogiaaVM
import Derived.Test.YtpfibcbeenogiaaRead
import Derived.WalkKit
import Derived.ProofKit
import Derived.OpenShut
import Derived.Carry
namespace Go.Proofs.Ytpfibcbeenogiaa.visibleMatchesSpec
open Go.ChangeShapes Go.WideShapes Go.ChangeAt Go.RowKit
set_option linter.unusedVariables false
set_option linter.unusedSimpArgs false

theorem co_s_apiresult : Try.prog.cellsOf 33 = 1 := by kernel_rfl
theorem co_vm : Try.prog.cellsOf 35 = 25 := by kernel_rfl
section
variable {H : Type} {enc : TypeId × Value → H} {w : World} {base : Nat} {spare : Nat → Bool} {held : Bool}
theorem rd_isSl {n : Nat} {t e : TypeId} {v : Value} (ht : Try.prog.underlying t = some (.slice e)) (h : Rd enc w base spare held n t [v]) : IsSl v := by
  obtain ⟨x, h⟩ := h
  rcases Go.Deep.open_slice ht h with ⟨hcs, _⟩ | ⟨a, len, cap, m, n', D, Pl, hcs, _⟩
  · simp only [List.cons.injEq, and_true] at hcs
    exact ⟨_, _, _, hcs⟩
  · simp only [List.cons.injEq, and_true] at hcs
    exact ⟨_, _, _, hcs⟩
set_option maxRecDepth 100000 in
theorem rd_vm0 {n : Nat} {cs : List Value} (h : Rd enc w base spare held n 35 cs) : ∃ (lcfthr : Int) (lcflocs : Int) (lcflks : Int) (lcfsec : Int) (lcfman : Int) (lclk : Int) (lstp : Int) (llog : Int) (lfin : Int) (lthd : Int) (llck : Int) (lloc : Int) (lsize : Int) (me : Int) (okind : Int) (oa : Int) (ob : Int) (otry_ : Int) (ominestamp : Int) (ominekarma : Int) (omineaborts : Int) (oseen : Value) (owrites : Value) (odurable : Value) (log : Value), cs = [.int .i64 lcfthr, .int .i64 lcflocs, .int .i64 lcflks, .int .i64 lcfsec, .int .i64 lcfman, .int .i64 lclk, .int .i64 lstp, .int .i64 llog, .int .i64 lfin, .int .i64 lthd, .int .i64 llck, .int .i64 lloc, .int .i64 lsize, .int .i64 me, .int .i64 okind, .int .i64 oa, .int .i64 ob, .int .i64 otry_, .int .i64 ominestamp, .int .i64 ominekarma, .int .i64 omineaborts, oseen, owrites, odurable, log] ∧ I64 lcfthr ∧ I64 lcflocs ∧ I64 lcflks ∧ I64 lcfsec ∧ I64 lcfman ∧ I64 lclk ∧ I64 lstp ∧ I64 llog ∧ I64 lfin ∧ I64 lthd ∧ I64 llck ∧ I64 lloc ∧ I64 lsize ∧ I64 me ∧ I64 okind ∧ I64 oa ∧ I64 ob ∧ I64 otry_ ∧ I64 ominestamp ∧ I64 ominekarma ∧ I64 omineaborts ∧ (∃ m, Rd enc w base spare held m 28 [oseen]) ∧ (∃ m, Rd enc w base spare held m 29 [owrites]) ∧ (∃ m, Rd enc w base spare held m 30 [odurable]) ∧ (∃ m, Rd enc w base spare held m 33 [log]) := by
  obtain ⟨hl, m, hf⟩ := rd_field Try.underlying35 h
  rw [co_vm] at hl
  match cs, hl with
  | [c0, c1, c2, c3, c4, c5, c6, c7, c8, c9, c10, c11, c12, c13, c14, c15, c16, c17, c18, c19, c20, c21, c22, c23, c24], _ =>
    have h0 : Rd enc w base spare held m 25 [c0, c1, c2, c3, c4, c5, c6, c7, c8, c9, c10, c11, c12] := by
      have this : Rd enc w base spare held m 25 ((List.drop 0 _).take (Try.prog.cellsOf 25)) := hf 0 (by decide)
      rw [co_lay] at this
      exact this
    obtain ⟨x0, x1, x2, x3, x4, x5, x6, x7, x8, x9, x10, x11, x12, e0, k0, k1, k2, k3, k4, k5, k6, k7, k8, k9, k10, k11, k12⟩ := rd_lay h0
    simp only [List.cons.injEq, and_true] at e0
    obtain ⟨rfl, rfl, rfl, rfl, rfl, rfl, rfl, rfl, rfl, rfl, rfl, rfl, rfl⟩ := e0
    have h1 : Rd enc w base spare held m 3 [c13] := by
      have this : Rd enc w base spare held m 3 ((List.drop 13 _).take (Try.prog.cellsOf 3)) := hf 1 (by decide)
      rw [co_int] at this
      exact this
    obtain ⟨x13, e1, k13⟩ := rd_int Try.underlying3 h1
    simp only [List.cons.injEq, and_true] at e1
    subst e1
    have h2 : Rd enc w base spare held m 32 [c14, c15, c16, c17, c18, c19, c20, c21, c22, c23] := by
      have this : Rd enc w base spare held m 32 ((List.drop 14 _).take (Try.prog.cellsOf 32)) := hf 2 (by decide)
      rw [co_op] at this
      exact this
    obtain ⟨x14, x15, x16, x17, x18, x19, x20, x21, x22, x23, e2, k14, k15, k16, k17, k18, k19, k20, k21, k22, k23⟩ := rd_op h2
    simp only [List.cons.injEq, and_true] at e2
    obtain ⟨rfl, rfl, rfl, rfl, rfl, rfl, rfl, rfl, rfl, rfl⟩ := e2
    have h3 : Rd enc w base spare held m 33 [c24] := by
      have this : Rd enc w base spare held m 33 ((List.drop 24 _).take (Try.prog.cellsOf 33)) := hf 3 (by decide)
      rw [co_s_apiresult] at this
      exact this
    exact ⟨x0, x1, x2, x3, x4, x5, x6, x7, x8, x9, x10, x11, x12, x13, x14, x15, x16, x17, x18, x19, x20, c21, c22, c23, c24, rfl, k0, k1, k2, k3, k4, k5, k6, k7, k8, k9, k10, k11, k12, k13, k14, k15, k16, k17, k18, k19, k20, k21, k22, k23, ⟨m, h3⟩⟩
theorem rd_vm {n : Nat} {cs : List Value} (h : Rd enc w base spare held n 35 cs) : ∃ (l : Lay) (me : Int) (o : OpV) (vlog : Value), cs = l.cells.toList ++ .int .i64 me :: (o.cells.toList ++ [vlog]) ∧ (IsSl o.seen ∧ IsSl o.writes ∧ IsSl o.durable) ∧ ∃ log : List Rs, SlR 2 Rs.cells w vlog log ∧ ∀ r, r ∈ log → I64 r.val := by
  obtain ⟨lcfthr, lcflocs, lcflks, lcfsec, lcfman, lclk, lstp, llog, lfin, lthd, llck, lloc, lsize, me, okind, oa, ob, otry_, ominestamp, ominekarma, omineaborts, oseen, owrites, odurable, log, e, k0, k1, k2, k3, k4, k5, k6, k7, k8, k9, k10, k11, k12, k13, k14, k15, k16, k17, k18, k19, k20, k21, k22, k23, k24⟩ := rd_vm0 h
  obtain ⟨m, hm⟩ := k24
  obtain ⟨lg0, h1, h2⟩ := rd_results hm
  obtain ⟨m1, hm1⟩ := k21
  obtain ⟨m2, hm2⟩ := k22
  obtain ⟨m3, hm3⟩ := k23
  exact ⟨⟨lcfthr, lcflocs, lcflks, lcfsec, lcfman, lclk, lstp, llog, lfin, lthd, llck, lloc, lsize⟩, me, ⟨okind, oa, ob, otry_, ominestamp, ominekarma, omineaborts, oseen, owrites, odurable⟩, log, e, ⟨rd_isSl Try.underlying28 hm1, rd_isSl Try.underlying29 hm2, rd_isSl Try.underlying30 hm3⟩, lg0, h1, h2⟩
end
theorem own : ownKnob Try.prog.godebug = none := by kernel_rfl
theorem laidOut : laidOutB Try.prog = true := by kernel_rfl
set_option maxRecDepth 100000 in
theorem lifted (os : Os) (started : os.Started) (H : Type) (enc : TypeId × Value → H) :
    ReturnsInHanded {} Try.checked os 3 .any (Rows.visibleMatchesSpecSpec.pre6 enc Try.prog Try.f3 Rows.visibleMatchesSpecRow.domain false) (Rows.visibleMatchesSpecSpec.post enc Try.prog Try.f3 false true false false) := by
  refine returnsInHanded_of_change (C := Try.checked) own started (by kernel_rfl) Try.func3
    (ChangeSpec.witness6 (enc := enc) (C := Try.checked) false ⟨#[], #[.agg #[.int .i64 0, .int .i64 0, .int .i64 0, .int .i64 0, .int .i64 0, .int .i64 0, .int .i64 0, .int .i64 0, .int .i64 0, .int .i64 0, .int .i64 0, .int .i64 0, .int .i64 0, .int .i64 0,
      .int .i64 0, .int .i64 0, .int .i64 0, .int .i64 0, .int .i64 0, .int .i64 0, .int .i64 0, .slice none 0 0, .slice none 0 0, .slice none 0 0, .slice none 0 0]], []⟩ 8 (by kernel_rfl) (by kernel_rfl) (by kernel_rfl) (by kernel_rfl)) ?_
  intro W base args ds gs before hval0 hW hcnd _
  have hval : ∀ (j : Nat) t v, Try.f3.params[j]? = some t → args[j]? = some v → Value.okWide Try.prog W .any base t v := hval0
  have hW' := hW
  obtain ⟨p, q, hA0, hV, rfl, hfz, hnd⟩ := hW
  have hA : DataW.TrodAll enc Try.prog W 0 (fun _ => true) true Try.f3.params.toList args.toList ds p := hA0
  rw [Try.params3] at hA hval
  obtain ⟨v0, vs0, d0, ds0, p0, q0, hargs, rfl, rfl, h0, r0⟩ := trodAll_cons hA
  obtain ⟨rfl, rfl, rfl⟩ := trodAll_nil r0
  obtain rfl : args = #[v0] := by cases args; simp_all
  obtain ⟨rfl, rfl⟩ := trodVars_none hV
  clear hA0 hval0
  simp only [List.append_nil] at hW'
  have hlt : ∀ x ∈ p0, x.block < W.heap.size := fun x hx => by simpa using hW'.lt x hx
  have harg0 : ∀ (W' : World), Below W.heap.size W W' → DataW.Trod enc Try.prog W' 0 (fun b => decide (b < W.heap.size)) true 35 v0 d0 p0 :=
    fun W' hn => Below.trod laidOut (by kernel_rfl) (of_decide_eq_true (by kernel_rfl)) h0 hn hlt
  obtain ⟨cs, rfl, hsz⟩ := okWide_struct Try.underlying35 (hval 0 _ v0 rfl rfl)
  obtain ⟨n, hR⟩ := rd_of h0
  obtain ⟨l, me, o, vlog, hcs, ⟨hse, hwr, hdu⟩, log, hs, hI⟩ := rd_vm hR
  obtain rfl : cs = _ := by
    have : cs.toList = _ := hcs
    exact Array.toList_inj.1 (this.trans (by rfl))
  refine (law_VM l me o vlog log W hs hI hse hwr hdu).mono fun e W' ⟨he, hg⟩ => ?_
  subst he
  exact ⟨_, rfl, _, _, _, [], _, [], hW', (trodAll_cons_mk (shut_bool Try.underlying4 _) trodAll_mk0), (trodAll_cons_mk (harg0 _ hg) trodAll_mk0), rfl, hg.frame _, fun h => by cases h⟩

theorem over : Rows.visibleMatchesSpecRow.holds Try.pinned (OpenSpec.ofChange Rows.visibleMatchesSpecSpec) :=
  OpenClaim.holds_of_wide 3 Try.f3 rfl rfl rfl rfl rfl rfl rfl ⟨rfl, rfl, rfl, rfl, rfl⟩ rfl rfl rfl rfl rfl (by kernel_rfl) Try.func3 (by kernel_rfl)
    (of_decide_eq_true (by kernel_rfl)) (by unfold Func.isWrapper; first | (rw [if_pos (by decide +kernel)]; kernel_rfl) | (rw [if_neg (by decide +kernel)]; exact ⟨rfl, rfl⟩))
    (fun os started H enc _ => lifted os started H enc)

/-- ████ THE STATEMENT ████ -/
theorem proved : Rows.VisibleMatchesSpecSaid :=
  over
#print axioms proved
end Go.Proofs.Ytpfibcbeenogiaa.visibleMatchesSpec
