/- Whatever the mask, the threads and the masks' kind: law18.VisibleUndoes returns true, and its argument reads as before. No conditions. -/
import Derived.Test.YtpfibcbeenogiaaRows
import Derived.Test.YtpfibcbeenogiaaVU
import Derived.Test.YtpfibcbeenogiaaRead
import Derived.WalkKit
import Derived.ProofKit
import Derived.OpenShut
import Derived.Carry
namespace Go.Proofs.Ytpfibcbeenogiaa.visibleUndoes
open Go.ChangeShapes Go.WideShapes Go.ChangeAt Go.RowKit
set_option linter.unusedVariables false
set_option linter.unusedSimpArgs false
theorem co_uint : Try.prog.cellsOf 5 = 1 := by kernel_rfl
theorem co_vu : Try.prog.cellsOf 71 = 4 := by kernel_rfl
section
variable {H : Type} {enc : TypeId × Value → H} {w : World} {base : Nat} {spare : Nat → Bool} {held : Bool}
set_option maxRecDepth 100000 in
theorem rd_vu {n : Nat} {cs : List Value} (h : Rd enc w base spare held n 71 cs) : ∃ (mask : Int) (one : Int) (two : Int) (wt : Bool), cs = [.int .i64 mask, .int .u8 one, .int .u8 two, .bool wt] ∧ I64 mask ∧ (0 ≤ one ∧ one ≤ 255) ∧ (0 ≤ two ∧ two ≤ 255) ∧ True := by
  obtain ⟨hl, m, hf⟩ := rd_field Try.underlying71 h
  rw [co_vu] at hl
  match cs, hl with
  | [c0, c1, c2, c3], _ =>
    have h0 : Rd enc w base spare held m 3 [c0] := by
      have this : Rd enc w base spare held m 3 ((List.drop 0 _).take (Try.prog.cellsOf 3)) := hf 0 (by decide)
      rw [co_int] at this
      exact this
    obtain ⟨x0, e0, k0⟩ := rd_int Try.underlying3 h0
    simp only [List.cons.injEq, and_true] at e0
    subst e0
    have h1 : Rd enc w base spare held m 5 [c1] := by
      have this : Rd enc w base spare held m 5 ((List.drop 1 _).take (Try.prog.cellsOf 5)) := hf 1 (by decide)
      rw [co_uint] at this
      exact this
    obtain ⟨x1, e1, k1⟩ := rd_u8 Try.underlying5 h1
    simp only [List.cons.injEq, and_true] at e1
    subst e1
    have h2 : Rd enc w base spare held m 5 [c2] := by
      have this : Rd enc w base spare held m 5 ((List.drop 2 _).take (Try.prog.cellsOf 5)) := hf 2 (by decide)
      rw [co_uint] at this
      exact this
    obtain ⟨x2, e2, k2⟩ := rd_u8 Try.underlying5 h2
    simp only [List.cons.injEq, and_true] at e2
    subst e2
    have h3 : Rd enc w base spare held m 4 [c3] := by
      have this : Rd enc w base spare held m 4 ((List.drop 3 _).take (Try.prog.cellsOf 4)) := hf 3 (by decide)
      rw [co_bool] at this
      exact this
    obtain ⟨x3, e3⟩ := rd_bool Try.underlying4 h3
    simp only [List.cons.injEq, and_true] at e3
    subst e3
    exact ⟨x0, x1, x2, x3, rfl, k0, k1, k2, trivial⟩
end
theorem own : ownKnob Try.prog.godebug = none := by kernel_rfl
theorem laidOut : laidOutB Try.prog = true := by kernel_rfl
set_option maxRecDepth 100000 in
theorem lifted (os : Os) (started : os.Started) (H : Type) (enc : TypeId × Value → H) :
    ReturnsInHanded {} Try.checked os 6 .any (Rows.visibleUndoesSpec.pre6 enc Try.prog Try.f6 Rows.visibleUndoesRow.domain false) (Rows.visibleUndoesSpec.post enc Try.prog Try.f6 false true false false) := by
  refine returnsInHanded_of_change (C := Try.checked) own started (by kernel_rfl) Try.func6
    (ChangeSpec.witness6 (enc := enc) (C := Try.checked) false ⟨#[], #[.agg #[.int .i64 0, .int .u8 0, .int .u8 0, .bool false]], []⟩ 8 (by kernel_rfl) (by kernel_rfl) (by kernel_rfl) (by kernel_rfl)) ?_
  intro W base args ds gs before hval0 hW hcnd _
  have hval : ∀ (j : Nat) t v, Try.f6.params[j]? = some t → args[j]? = some v → Value.okWide Try.prog W .any base t v := hval0
  have hW' := hW
  obtain ⟨p, q, hA0, hV, rfl, hfz, hnd⟩ := hW
  have hA : DataW.TrodAll enc Try.prog W 0 (fun _ => true) true Try.f6.params.toList args.toList ds p := hA0
  rw [Try.params6] at hA hval
  obtain ⟨v0, vs0, d0, ds0, p0, q0, hargs, rfl, rfl, h0, r0⟩ := trodAll_cons hA
  obtain ⟨rfl, rfl, rfl⟩ := trodAll_nil r0
  obtain rfl : args = #[v0] := by cases args; simp_all
  obtain ⟨rfl, rfl⟩ := trodVars_none hV
  clear hA0 hval0
  simp only [List.append_nil] at hW'
  have hlt0 : ∀ x ∈ p0, x.block < W.heap.size := fun x hx => hW'.lt x (by simp [hx])
  have harg0 : ∀ (W' : World), Below W.heap.size W W' → DataW.Trod enc Try.prog W' 0 (fun b => decide (b < W.heap.size)) true 71 v0 d0 p0 :=
    fun W' hn => Below.trod laidOut (by kernel_rfl) (of_decide_eq_true (by kernel_rfl)) h0 hn hlt0
  obtain ⟨mask, one, two, wt, rfl, i0, i1, i2⟩ : ∃ (mask one two : Int) (wt : Bool), v0 = .agg #[.int .i64 mask, .int .u8 one, .int .u8 two, .bool wt] ∧ I64 mask ∧ (0 ≤ one ∧ one ≤ 255) ∧ (0 ≤ two ∧ two ≤ 255) := by
    obtain ⟨cs, rfl, hsz⟩ := okWide_struct Try.underlying71 (hval 0 _ v0 rfl rfl)
    obtain ⟨n, hR⟩ := rd_of h0
    obtain ⟨a, b, c, d, e, k0, k1, k2, -⟩ := rd_vu hR
    obtain rfl : cs = _ := Array.toList_inj.1 ((show cs.toList = _ from e).trans (by rfl))
    exact ⟨a, b, c, d, rfl, k0, k1, k2⟩
  refine (law_VisibleUndoes mask one two wt i0 i1 i2 W).mono fun e W' ⟨he, hg⟩ => ?_
  subst he
  exact ⟨_, rfl, _, _, _, [], _, [], hW', (trodAll_cons_mk (shut_bool Try.underlying4 _) trodAll_mk0), (trodAll_cons_mk (harg0 _ hg) trodAll_mk0), rfl, hg.frame _, fun h => by cases h⟩

theorem over : Rows.visibleUndoesRow.holds Try.pinned (OpenSpec.ofChange Rows.visibleUndoesSpec) :=
  OpenClaim.holds_of_wide 6 Try.f6 rfl rfl rfl rfl rfl rfl rfl ⟨rfl, rfl, rfl, rfl, rfl⟩ rfl rfl rfl rfl rfl (by kernel_rfl) Try.func6 (by kernel_rfl)
    (of_decide_eq_true (by kernel_rfl)) (by unfold Func.isWrapper; first | (rw [if_pos (by decide +kernel)]; kernel_rfl) | (rw [if_neg (by decide +kernel)]; exact ⟨rfl, rfl⟩))
    (fun os started H enc _ => lifted os started H enc)

/-- ████ THE STATEMENT ████ -/
theorem proved : Rows.VisibleUndoesSaid :=
  over
#print axioms proved
end Go.Proofs.Ytpfibcbeenogiaa.visibleUndoes
