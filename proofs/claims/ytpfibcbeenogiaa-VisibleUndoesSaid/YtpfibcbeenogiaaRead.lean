/- Reading arguments: from 'it reads as data' to cells. -/
import Derived.Test.YtpfibcbeenogiaaBase
import Derived.Test.YtpfibcbeenogiaaBits
import Derived.Deep.Slices
import Derived.Deep.Fields
import Derived.ChangeSame
import Derived.ProofKit
import Derived.OpenShut
namespace Go.Proofs.Ytpfibcbeenogiaa
open Go.RowKit Go.ChangeShapes Go.WideShapes Go.Deep
set_option linter.unusedSimpArgs false
set_option linter.unusedVariables false
theorem wf_I64 {a : Int} (h : (Lit.int .i64 a).wf = true) : I64 a := by
  simp [Lit.wf, IntKind.min, IntKind.max, IntKind.bits, IntKind.signed] at h
  constructor <;> omega
theorem wf_U8 {a : Int} (h : (Lit.int .u8 a).wf = true) : 0 ≤ a ∧ a ≤ 255 := by
  simp [Lit.wf, IntKind.min, IntKind.max, IntKind.bits, IntKind.signed] at h
  constructor <;> omega
section
variable {H : Type} {enc : TypeId × Value → H} {w : World} {base : Nat} {spare : Nat → Bool} {held : Bool}
/-- These cells read as data of this type. -/
def Rd {H : Type} (enc : TypeId × Value → H) (w : World) (base : Nat) (spare : Nat → Bool) (held : Bool) (n : Nat) (t : TypeId) (cs : List Value) : Prop := ∃ x, DataW.trod enc Try.prog w base spare held n t cs = some x
theorem rd_of {t : TypeId} {v : Value} {d : DataW H} {p : List MemPlace} (h : DataW.Trod enc Try.prog w base spare held t v d p) : ∃ n, Rd enc w base spare held n t v.cells.toList := by
  obtain ⟨n, h⟩ := h
  exact ⟨n, _, h⟩
theorem rd_int {n : Nat} {t : TypeId} {cs : List Value} (ht : Try.prog.underlying t = some (.int .i64)) (h : Rd enc w base spare held n t cs) : ∃ a, cs = [.int .i64 a] ∧ I64 a := by
  obtain ⟨x, h⟩ := h
  obtain ⟨a, h1, _, h2⟩ := DataW.trod_int ht h
  exact ⟨a, h1, wf_I64 h2⟩
theorem rd_u8 {n : Nat} {t : TypeId} {cs : List Value} (ht : Try.prog.underlying t = some (.int .u8)) (h : Rd enc w base spare held n t cs) : ∃ a, cs = [.int .u8 a] ∧ (0 ≤ a ∧ a ≤ 255) := by
  obtain ⟨x, h⟩ := h
  obtain ⟨a, h1, _, h2⟩ := DataW.trod_int ht h
  exact ⟨a, h1, wf_U8 h2⟩
theorem rd_bool {n : Nat} {t : TypeId} {cs : List Value} (ht : Try.prog.underlying t = some .bool) (h : Rd enc w base spare held n t cs) : ∃ b, cs = [.bool b] := by
  obtain ⟨x, h⟩ := h
  obtain ⟨b, h1, _⟩ := DataW.trod_bool ht h
  exact ⟨b, h1⟩
theorem rd_field {n : Nat} {t : TypeId} {fs : Array Field} {cs : List Value} (ht : Try.prog.underlying t = some (.struct fs)) (h : Rd enc w base spare held n t cs) :
    cs.length = Try.prog.cellsOf t ∧ ∃ m, ∀ (i : Nat) (hi : i < fs.size), Rd enc w base spare held m (fs[i]'hi).type ((cs.drop (fs[i]'hi).offset).take (Try.prog.cellsOf (fs[i]'hi).type)) := by
  obtain ⟨x, h⟩ := h
  obtain ⟨xs, m, _, _, hl, hx, hf⟩ := DataW.trod_struct ht h
  refine ⟨hl, m, fun i hi => ?_⟩
  have hil : i < xs.length := by rw [hx]; exact hi
  exact ⟨_, (hf i _ (Array.getElem?_eq_getElem hi)).trans (List.getElem?_eq_getElem hil)⟩
/-- A slice that reads as data: a list of what its elements read as. -/
theorem rd_slice {α : Type} {encL : α → List Value} {k : Nat} {Pr : α → Prop} {n : Nat} {t e : TypeId} {v : Value} (ht : Try.prog.underlying t = some (.slice e)) (hk : Try.prog.cellsOf e = k) (hk0 : 0 < k)
    (hel : ∀ (m : Nat) (cs : List Value), Rd enc w base spare held m e cs → ∃ x : α, cs = encL x ∧ Pr x) (h : Rd enc w base spare held n t [v]) : ∃ xs : List α, SlR k encL w v xs ∧ ∀ x, x ∈ xs → Pr x := by
  obtain ⟨x, h⟩ := h
  rcases open_slice ht h with ⟨hcs, _⟩ | ⟨a, len, cap, m, n', D, Pl, hcs, hb, hl, hm, hmm, _, hi⟩
  · simp only [List.cons.injEq, and_true] at hcs
    subst hcs
    exact ⟨[], SlR.nil _ _ _, fun x hx => by cases hx⟩
  · simp only [List.cons.injEq, and_true] at hcs
    subst hcs
    have hlm : len ≤ m := by rw [hmm]; split <;> omega
    have hall : ∀ i : Fin len, ∃ x : α, (∀ j, j < k → w.cell? (a.add (i * k + j)) = (encL x)[j]?) ∧ (encL x).length = k ∧ Pr x := by
      intro i
      obtain ⟨cs', hc, htr⟩ := hi i (Nat.lt_of_lt_of_le i.2 hlm)
      rw [hk] at hc
      obtain ⟨_, hcl, hat⟩ := World.cells?_some hc
      obtain ⟨x, rfl, hp⟩ := hel _ _ ⟨_, htr⟩
      refine ⟨x, fun j hj => ?_, hcl, hp⟩
      rw [← Go.Deep.add_add]
      exact hat j hj
    obtain ⟨f, hf⟩ := Classical.axiomOfChoice hall
    have hlen : (List.ofFn f).length = len := by simp
    refine ⟨List.ofFn f, ⟨some a, cap, by rw [hlen], by omega, by rw [hlen]; unfold maxLen at hm; omega, fun hne => ?_⟩, fun x hx => ?_⟩
    · have h0 : 0 < len := by
        rcases Nat.eq_zero_or_pos len with h0 | h0
        · exact absurd (List.eq_nil_of_length_eq_zero (hlen.trans h0)) hne
        · exact h0
      obtain ⟨hc0, hk1, _⟩ := hf ⟨0, h0⟩
      have h00 := hc0 0 hk0
      have hs : a.spot = none := by
        cases hsp : a.spot with
        | none => rfl
        | some q =>
          rw [List.getElem?_eq_getElem (by rw [hk1]; exact hk0)] at h00
          unfold World.cell? at h00
          split at h00
          · simp [Addr.add, hsp] at h00
          · cases h00
      obtain ⟨b, o, sp⟩ := a
      simp only at hs
      subst hs
      refine ⟨b, o, rfl, ?_, fun i x hix j u hu => ?_⟩
      · rw [List.getElem?_eq_getElem (by rw [hk1]; exact hk0)] at h00
        have := World.block_lt_of_cell? w _ h00
        simpa [Addr.add] using this
      · have hil : i < len := by
          have := (List.getElem?_eq_some_iff.1 hix).1
          omega
        have hx : x = f ⟨i, hil⟩ := by
          rw [List.getElem?_eq_getElem (by omega)] at hix
          simp only [Option.some.injEq] at hix
          rw [← hix]
          simp
        subst hx
        obtain ⟨hc, hk2, _⟩ := hf ⟨i, hil⟩
        have hj : j < k := by
          have := (List.getElem?_eq_some_iff.1 hu).1
          omega
        have he : (⟨b, o + i * k + j, none⟩ : Addr) = (⟨b, o, none⟩ : Addr).add (i * k + j) := by simp [Addr.add, Nat.add_assoc]
        rw [he]
        exact (hc j hj).trans hu
    · obtain ⟨i, rfl⟩ := List.mem_ofFn.1 hx
      exact (hf i).2.2
end
theorem co_conf : Try.prog.cellsOf 23 = 5 := by kernel_rfl
theorem co_lay : Try.prog.cellsOf 25 = 13 := by kernel_rfl
theorem co_cont : Try.prog.cellsOf 27 = 3 := by kernel_rfl
theorem co_op : Try.prog.cellsOf 32 = 10 := by kernel_rfl
theorem co_rs : Try.prog.cellsOf 58 = 2 := by kernel_rfl
theorem co_seen : Try.prog.cellsOf 89 = 3 := by kernel_rfl
theorem co_int : Try.prog.cellsOf 3 = 1 := by kernel_rfl
theorem co_s_apiseen : Try.prog.cellsOf 28 = 1 := by kernel_rfl
theorem co_s_apiwrite : Try.prog.cellsOf 29 = 1 := by kernel_rfl
theorem co_s_bool : Try.prog.cellsOf 30 = 1 := by kernel_rfl
theorem co_bool : Try.prog.cellsOf 4 = 1 := by kernel_rfl
section
variable {H : Type} {enc : TypeId × Value → H} {w : World} {base : Nat} {spare : Nat → Bool} {held : Bool}
set_option maxRecDepth 100000 in
theorem rd_conf {n : Nat} {cs : List Value} (h : Rd enc w base spare held n 23 cs) : ∃ (thr : Int) (locs : Int) (lks : Int) (sec : Int) (man : Int), cs = [.int .i64 thr, .int .i64 locs, .int .i64 lks, .int .i64 sec, .int .i64 man] ∧ I64 thr ∧ I64 locs ∧ I64 lks ∧ I64 sec ∧ I64 man := by
  obtain ⟨hl, m, hf⟩ := rd_field Try.underlying23 h
  rw [co_conf] at hl
  match cs, hl with
  | [c0, c1, c2, c3, c4], _ =>
    have h0 : Rd enc w base spare held m 3 [c0] := by
      have this : Rd enc w base spare held m 3 ((List.drop 0 _).take (Try.prog.cellsOf 3)) := hf 0 (by decide)
      rw [co_int] at this
      exact this
    obtain ⟨x0, e0, k0⟩ := rd_int Try.underlying3 h0
    simp only [List.cons.injEq, and_true] at e0
    subst e0
    have h1 : Rd enc w base spare held m 3 [c1] := by
      have this : Rd enc w base spare held m 3 ((List.drop 1 _).take (Try.prog.cellsOf 3)) := hf 1 (by decide)
      rw [co_int] at this
      exact this
    obtain ⟨x1, e1, k1⟩ := rd_int Try.underlying3 h1
    simp only [List.cons.injEq, and_true] at e1
    subst e1
    have h2 : Rd enc w base spare held m 3 [c2] := by
      have this : Rd enc w base spare held m 3 ((List.drop 2 _).take (Try.prog.cellsOf 3)) := hf 2 (by decide)
      rw [co_int] at this
      exact this
    obtain ⟨x2, e2, k2⟩ := rd_int Try.underlying3 h2
    simp only [List.cons.injEq, and_true] at e2
    subst e2
    have h3 : Rd enc w base spare held m 3 [c3] := by
      have this : Rd enc w base spare held m 3 ((List.drop 3 _).take (Try.prog.cellsOf 3)) := hf 3 (by decide)
      rw [co_int] at this
      exact this
    obtain ⟨x3, e3, k3⟩ := rd_int Try.underlying3 h3
    simp only [List.cons.injEq, and_true] at e3
    subst e3
    have h4 : Rd enc w base spare held m 3 [c4] := by
      have this : Rd enc w base spare held m 3 ((List.drop 4 _).take (Try.prog.cellsOf 3)) := hf 4 (by decide)
      rw [co_int] at this
      exact this
    obtain ⟨x4, e4, k4⟩ := rd_int Try.underlying3 h4
    simp only [List.cons.injEq, and_true] at e4
    subst e4
    exact ⟨x0, x1, x2, x3, x4, rfl, k0, k1, k2, k3, k4⟩
set_option maxRecDepth 100000 in
theorem rd_lay {n : Nat} {cs : List Value} (h : Rd enc w base spare held n 25 cs) : ∃ (cfthr : Int) (cflocs : Int) (cflks : Int) (cfsec : Int) (cfman : Int) (clk : Int) (stp : Int) (log : Int) (fin : Int) (thd : Int) (lck : Int) (loc : Int) (size : Int), cs = [.int .i64 cfthr, .int .i64 cflocs, .int .i64 cflks, .int .i64 cfsec, .int .i64 cfman, .int .i64 clk, .int .i64 stp, .int .i64 log, .int .i64 fin, .int .i64 thd, .int .i64 lck, .int .i64 loc, .int .i64 size] ∧ I64 cfthr ∧ I64 cflocs ∧ I64 cflks ∧ I64 cfsec ∧ I64 cfman ∧ I64 clk ∧ I64 stp ∧ I64 log ∧ I64 fin ∧ I64 thd ∧ I64 lck ∧ I64 loc ∧ I64 size := by
  obtain ⟨hl, m, hf⟩ := rd_field Try.underlying25 h
  rw [co_lay] at hl
  match cs, hl with
  | [c0, c1, c2, c3, c4, c5, c6, c7, c8, c9, c10, c11, c12], _ =>
    have h0 : Rd enc w base spare held m 23 [c0, c1, c2, c3, c4] := by
      have this : Rd enc w base spare held m 23 ((List.drop 0 _).take (Try.prog.cellsOf 23)) := hf 0 (by decide)
      rw [co_conf] at this
      exact this
    obtain ⟨x0, x1, x2, x3, x4, e0, k0, k1, k2, k3, k4⟩ := rd_conf h0
    simp only [List.cons.injEq, and_true] at e0
    obtain ⟨rfl, rfl, rfl, rfl, rfl⟩ := e0
    have h1 : Rd enc w base spare held m 3 [c5] := by
      have this : Rd enc w base spare held m 3 ((List.drop 5 _).take (Try.prog.cellsOf 3)) := hf 1 (by decide)
      rw [co_int] at this
      exact this
    obtain ⟨x5, e1, k5⟩ := rd_int Try.underlying3 h1
    simp only [List.cons.injEq, and_true] at e1
    subst e1
    have h2 : Rd enc w base spare held m 3 [c6] := by
      have this : Rd enc w base spare held m 3 ((List.drop 6 _).take (Try.prog.cellsOf 3)) := hf 2 (by decide)
      rw [co_int] at this
      exact this
    obtain ⟨x6, e2, k6⟩ := rd_int Try.underlying3 h2
    simp only [List.cons.injEq, and_true] at e2
    subst e2
    have h3 : Rd enc w base spare held m 3 [c7] := by
      have this : Rd enc w base spare held m 3 ((List.drop 7 _).take (Try.prog.cellsOf 3)) := hf 3 (by decide)
      rw [co_int] at this
      exact this
    obtain ⟨x7, e3, k7⟩ := rd_int Try.underlying3 h3
    simp only [List.cons.injEq, and_true] at e3
    subst e3
    have h4 : Rd enc w base spare held m 3 [c8] := by
      have this : Rd enc w base spare held m 3 ((List.drop 8 _).take (Try.prog.cellsOf 3)) := hf 4 (by decide)
      rw [co_int] at this
      exact this
    obtain ⟨x8, e4, k8⟩ := rd_int Try.underlying3 h4
    simp only [List.cons.injEq, and_true] at e4
    subst e4
    have h5 : Rd enc w base spare held m 3 [c9] := by
      have this : Rd enc w base spare held m 3 ((List.drop 9 _).take (Try.prog.cellsOf 3)) := hf 5 (by decide)
      rw [co_int] at this
      exact this
    obtain ⟨x9, e5, k9⟩ := rd_int Try.underlying3 h5
    simp only [List.cons.injEq, and_true] at e5
    subst e5
    have h6 : Rd enc w base spare held m 3 [c10] := by
      have this : Rd enc w base spare held m 3 ((List.drop 10 _).take (Try.prog.cellsOf 3)) := hf 6 (by decide)
      rw [co_int] at this
      exact this
    obtain ⟨x10, e6, k10⟩ := rd_int Try.underlying3 h6
    simp only [List.cons.injEq, and_true] at e6
    subst e6
    have h7 : Rd enc w base spare held m 3 [c11] := by
      have this : Rd enc w base spare held m 3 ((List.drop 11 _).take (Try.prog.cellsOf 3)) := hf 7 (by decide)
      rw [co_int] at this
      exact this
    obtain ⟨x11, e7, k11⟩ := rd_int Try.underlying3 h7
    simp only [List.cons.injEq, and_true] at e7
    subst e7
    have h8 : Rd enc w base spare held m 3 [c12] := by
      have this : Rd enc w base spare held m 3 ((List.drop 12 _).take (Try.prog.cellsOf 3)) := hf 8 (by decide)
      rw [co_int] at this
      exact this
    obtain ⟨x12, e8, k12⟩ := rd_int Try.underlying3 h8
    simp only [List.cons.injEq, and_true] at e8
    subst e8
    exact ⟨x0, x1, x2, x3, x4, x5, x6, x7, x8, x9, x10, x11, x12, rfl, k0, k1, k2, k3, k4, k5, k6, k7, k8, k9, k10, k11, k12⟩
set_option maxRecDepth 100000 in
theorem rd_cont {n : Nat} {cs : List Value} (h : Rd enc w base spare held n 27 cs) : ∃ (stamp : Int) (karma : Int) (aborts : Int), cs = [.int .i64 stamp, .int .i64 karma, .int .i64 aborts] ∧ I64 stamp ∧ I64 karma ∧ I64 aborts := by
  obtain ⟨hl, m, hf⟩ := rd_field Try.underlying27 h
  rw [co_cont] at hl
  match cs, hl with
  | [c0, c1, c2], _ =>
    have h0 : Rd enc w base spare held m 3 [c0] := by
      have this : Rd enc w base spare held m 3 ((List.drop 0 _).take (Try.prog.cellsOf 3)) := hf 0 (by decide)
      rw [co_int] at this
      exact this
    obtain ⟨x0, e0, k0⟩ := rd_int Try.underlying3 h0
    simp only [List.cons.injEq, and_true] at e0
    subst e0
    have h1 : Rd enc w base spare held m 3 [c1] := by
      have this : Rd enc w base spare held m 3 ((List.drop 1 _).take (Try.prog.cellsOf 3)) := hf 1 (by decide)
      rw [co_int] at this
      exact this
    obtain ⟨x1, e1, k1⟩ := rd_int Try.underlying3 h1
    simp only [List.cons.injEq, and_true] at e1
    subst e1
    have h2 : Rd enc w base spare held m 3 [c2] := by
      have this : Rd enc w base spare held m 3 ((List.drop 2 _).take (Try.prog.cellsOf 3)) := hf 2 (by decide)
      rw [co_int] at this
      exact this
    obtain ⟨x2, e2, k2⟩ := rd_int Try.underlying3 h2
    simp only [List.cons.injEq, and_true] at e2
    subst e2
    exact ⟨x0, x1, x2, rfl, k0, k1, k2⟩
set_option maxRecDepth 100000 in
theorem rd_op {n : Nat} {cs : List Value} (h : Rd enc w base spare held n 32 cs) : ∃ (kind : Int) (a : Int) (b : Int) (try_ : Int) (minestamp : Int) (minekarma : Int) (mineaborts : Int) (seen : Value) (writes : Value) (durable : Value), cs = [.int .i64 kind, .int .i64 a, .int .i64 b, .int .i64 try_, .int .i64 minestamp, .int .i64 minekarma, .int .i64 mineaborts, seen, writes, durable] ∧ I64 kind ∧ I64 a ∧ I64 b ∧ I64 try_ ∧ I64 minestamp ∧ I64 minekarma ∧ I64 mineaborts ∧ (∃ m, Rd enc w base spare held m 28 [seen]) ∧ (∃ m, Rd enc w base spare held m 29 [writes]) ∧ (∃ m, Rd enc w base spare held m 30 [durable]) := by
  obtain ⟨hl, m, hf⟩ := rd_field Try.underlying32 h
  rw [co_op] at hl
  match cs, hl with
  | [c0, c1, c2, c3, c4, c5, c6, c7, c8, c9], _ =>
    have h0 : Rd enc w base spare held m 3 [c0] := by
      have this : Rd enc w base spare held m 3 ((List.drop 0 _).take (Try.prog.cellsOf 3)) := hf 0 (by decide)
      rw [co_int] at this
      exact this
    obtain ⟨x0, e0, k0⟩ := rd_int Try.underlying3 h0
    simp only [List.cons.injEq, and_true] at e0
    subst e0
    have h1 : Rd enc w base spare held m 3 [c1] := by
      have this : Rd enc w base spare held m 3 ((List.drop 1 _).take (Try.prog.cellsOf 3)) := hf 1 (by decide)
      rw [co_int] at this
      exact this
    obtain ⟨x1, e1, k1⟩ := rd_int Try.underlying3 h1
    simp only [List.cons.injEq, and_true] at e1
    subst e1
    have h2 : Rd enc w base spare held m 3 [c2] := by
      have this : Rd enc w base spare held m 3 ((List.drop 2 _).take (Try.prog.cellsOf 3)) := hf 2 (by decide)
      rw [co_int] at this
      exact this
    obtain ⟨x2, e2, k2⟩ := rd_int Try.underlying3 h2
    simp only [List.cons.injEq, and_true] at e2
    subst e2
    have h3 : Rd enc w base spare held m 3 [c3] := by
      have this : Rd enc w base spare held m 3 ((List.drop 3 _).take (Try.prog.cellsOf 3)) := hf 3 (by decide)
      rw [co_int] at this
      exact this
    obtain ⟨x3, e3, k3⟩ := rd_int Try.underlying3 h3
    simp only [List.cons.injEq, and_true] at e3
    subst e3
    have h4 : Rd enc w base spare held m 27 [c4, c5, c6] := by
      have this : Rd enc w base spare held m 27 ((List.drop 4 _).take (Try.prog.cellsOf 27)) := hf 4 (by decide)
      rw [co_cont] at this
      exact this
    obtain ⟨x4, x5, x6, e4, k4, k5, k6⟩ := rd_cont h4
    simp only [List.cons.injEq, and_true] at e4
    obtain ⟨rfl, rfl, rfl⟩ := e4
    have h5 : Rd enc w base spare held m 28 [c7] := by
      have this : Rd enc w base spare held m 28 ((List.drop 7 _).take (Try.prog.cellsOf 28)) := hf 5 (by decide)
      rw [co_s_apiseen] at this
      exact this
    have h6 : Rd enc w base spare held m 29 [c8] := by
      have this : Rd enc w base spare held m 29 ((List.drop 8 _).take (Try.prog.cellsOf 29)) := hf 6 (by decide)
      rw [co_s_apiwrite] at this
      exact this
    have h7 : Rd enc w base spare held m 30 [c9] := by
      have this : Rd enc w base spare held m 30 ((List.drop 9 _).take (Try.prog.cellsOf 30)) := hf 7 (by decide)
      rw [co_s_bool] at this
      exact this
    exact ⟨x0, x1, x2, x3, x4, x5, x6, c7, c8, c9, rfl, k0, k1, k2, k3, k4, k5, k6, ⟨m, h5⟩, ⟨m, h6⟩, ⟨m, h7⟩⟩
set_option maxRecDepth 100000 in
theorem rd_rs {n : Nat} {cs : List Value} (h : Rd enc w base spare held n 58 cs) : ∃ (val : Int) (ok : Bool), cs = [.int .i64 val, .bool ok] ∧ I64 val ∧ True := by
  obtain ⟨hl, m, hf⟩ := rd_field Try.underlying58 h
  rw [co_rs] at hl
  match cs, hl with
  | [c0, c1], _ =>
    have h0 : Rd enc w base spare held m 3 [c0] := by
      have this : Rd enc w base spare held m 3 ((List.drop 0 _).take (Try.prog.cellsOf 3)) := hf 0 (by decide)
      rw [co_int] at this
      exact this
    obtain ⟨x0, e0, k0⟩ := rd_int Try.underlying3 h0
    simp only [List.cons.injEq, and_true] at e0
    subst e0
    have h1 : Rd enc w base spare held m 4 [c1] := by
      have this : Rd enc w base spare held m 4 ((List.drop 1 _).take (Try.prog.cellsOf 4)) := hf 1 (by decide)
      rw [co_bool] at this
      exact this
    obtain ⟨x1, e1⟩ := rd_bool Try.underlying4 h1
    simp only [List.cons.injEq, and_true] at e1
    subst e1
    exact ⟨x0, x1, rfl, k0, trivial⟩
set_option maxRecDepth 100000 in
theorem rd_seen {n : Nat} {cs : List Value} (h : Rd enc w base spare held n 89 cs) : ∃ (loc : Int) (ver : Int) (val : Int), cs = [.int .i64 loc, .int .i64 ver, .int .i64 val] ∧ I64 loc ∧ I64 ver ∧ I64 val := by
  obtain ⟨hl, m, hf⟩ := rd_field Try.underlying89 h
  rw [co_seen] at hl
  match cs, hl with
  | [c0, c1, c2], _ =>
    have h0 : Rd enc w base spare held m 3 [c0] := by
      have this : Rd enc w base spare held m 3 ((List.drop 0 _).take (Try.prog.cellsOf 3)) := hf 0 (by decide)
      rw [co_int] at this
      exact this
    obtain ⟨x0, e0, k0⟩ := rd_int Try.underlying3 h0
    simp only [List.cons.injEq, and_true] at e0
    subst e0
    have h1 : Rd enc w base spare held m 3 [c1] := by
      have this : Rd enc w base spare held m 3 ((List.drop 1 _).take (Try.prog.cellsOf 3)) := hf 1 (by decide)
      rw [co_int] at this
      exact this
    obtain ⟨x1, e1, k1⟩ := rd_int Try.underlying3 h1
    simp only [List.cons.injEq, and_true] at e1
    subst e1
    have h2 : Rd enc w base spare held m 3 [c2] := by
      have this : Rd enc w base spare held m 3 ((List.drop 2 _).take (Try.prog.cellsOf 3)) := hf 2 (by decide)
      rw [co_int] at this
      exact this
    obtain ⟨x2, e2, k2⟩ := rd_int Try.underlying3 h2
    simp only [List.cons.injEq, and_true] at e2
    subst e2
    exact ⟨x0, x1, x2, rfl, k0, k1, k2⟩
theorem rd_results {n : Nat} {v : Value} (h : Rd enc w base spare held n 33 [v]) : ∃ log : List Rs, SlR 2 Rs.cells w v log ∧ ∀ r, r ∈ log → I64 r.val :=
  rd_slice Try.underlying33 (by kernel_rfl) (by decide) (fun m cs h => by
    obtain ⟨a, b, h1, h2, _⟩ := rd_rs h
    exact ⟨⟨a, b⟩, h1, h2⟩) h
end
end Go.Proofs.Ytpfibcbeenogiaa
