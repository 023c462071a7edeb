/- hallmootlaw21: the state of an execution; a step of the sleeper and a step of a writer on it. -/
import Derived.Test.YtpfibcbeenogiaaWriteB
import Derived.Test.YtpfibcbeenogiaaSleep
import Derived.Test.YtpfibcbeenogiaaLaw21
namespace Go.Proofs.Ytpfibcbeenogiaa
open Go.RowKit
set_option linter.unusedSimpArgs false
set_option linter.unusedVariables false
structure St where
  cs : List Int
  bad : Bool
  ws : List Wr
  kind : Int
  log : List Rs
  told : Int
def St.sl (s : St) : Sl := ⟨s.cs, s.kind, s.log, s.told, s.bad⟩
def sleepSt (l : Lay) (seen : List Sn) (s : St) : St :=
  let r := sleepS l seen s.sl
  ⟨r.cs, r.bad, s.ws, r.kind, r.log, r.told⟩
def wr0 : Wr := ⟨0, 0, 0, []⟩
def writeSt (l : Lay) (want : List (List Int)) (i : Nat) (s : St) : St :=
  let r := writeS l (want.getD i []) (i : Int) ⟨s.cs, s.bad, s.ws.getD i wr0⟩
  ⟨r.cs, r.bad, s.ws.set i r.wr, s.kind, s.log, s.told⟩
def tabOf (vm vlog vseen : Value) (wb n : Nat) (s : St) : Tb := ⟨vm, .slice (some ⟨wb, 0, none⟩) n n, s.kind, 0, 0, 0, 0, 0, 0, vseen, .slice none 0 0, .slice none 0 0, vlog, s.told, s.bad⟩
/-- The writers' cells. -/
def WrR (w : World) (C : Array Value) (ws : List Wr) : Prop :=
  ∀ i wr, ws[i]? = some wr → ∃ vr, C[i * 4]? = some (.int .i64 wr.nxt) ∧ C[i * 4 + 1]? = some (.int .i64 wr.at_) ∧ C[i * 4 + 2]? = some (.int .i64 wr.ver) ∧ C[i * 4 + 3]? = some vr ∧ SlR 5 Acc.cells w vr wr.rouse ∧ TyR 39 w vr
structure StR (w0 : World) (tb wb : Nat) (seen : List Sn) (N : Nat) (s : St) (w : World) : Prop where
  below : Below w0.heap.size w0 w
  tbl : w0.heap.size ≤ tb
  wbl : w0.heap.size ≤ wb
  ne : tb ≠ wb
  len : s.cs.length ≤ 1048576
  log : s.log.length ≤ N
  ex : ∃ vm vlog vseen C, w.heap[tb]? = some (.cells (tabOf vm vlog vseen wb s.ws.length s).cells 87 (0, 0)) ∧
    w.heap[wb]? = some (.cells C 138 (0, 0)) ∧ C.size = s.ws.length * 4 ∧ IntsR w vm s.cs ∧ Typed w vm ∧ SlR 2 Rs.cells w vlog s.log ∧ TyR 58 w vlog ∧
    SlR 3 Sn.cells w vseen seen ∧ TyR 89 w vseen ∧ WrR w C s.ws
/-- A slice of slices of bytes, read as a list of lists. -/
def WantR (w : World) (v : Value) (want : List (List Int)) : Prop :=
  ∃ A c, v = .slice A want.length c ∧ ∀ i xs, want[i]? = some xs → WantI w v want.length i xs
theorem WantI.below {w w' : World} {v : Value} {n i : Nat} {xs : List Int} (h : WantI w v n i xs) (hb : Below w.heap.size w w') : WantI w' v n i xs := by
  obtain ⟨b, o, c, v', h1, h2, h3, h4, h5, h6⟩ := h
  exact ⟨b, o, c, v', h1, h2, (hb.cell (p := ⟨b, _, none⟩) h4).trans h3, Nat.lt_of_lt_of_le h4 hb.size, h5.below hb, h6⟩
theorem below_keep2 {w0 w w' : World} {X : Nat → Prop} (h : Below w0.heap.size w0 w) (hk : Keep X w w') (hx : ∀ b, X b → w0.heap.size ≤ b) : Below w0.heap.size w0 w' :=
  ⟨hk.os.trans h.os, hk.tape.trans h.tape, hk.output.trans h.output, Nat.le_trans h.size hk.size, fun i hi => (hk.block i (Nat.lt_of_lt_of_le hi h.size) (fun hX => by have := hx i hX; omega)).trans (h.block i hi)⟩
theorem sleep_step (l : Lay) (w0 : World) (tb wb : Nat) (seen : List Sn) (N : Nat) (hN : N ≤ 1000000) (s : St) (w : World) (h : StR w0 tb wb seen N s w) :
    Calls Try.prog 69 #[.pointer (some ⟨tb, 0, none⟩), l.v] w fun e w' => e = .returned (.tuple #[]) ∧ StR w0 tb wb seen (N + 1) (sleepSt l seen s) w' := by
  obtain ⟨hb, ht, hw, hne, hlen, hlog, vm, vlog, vseen, C, h1, h2, h3, h4, h5, h6, h7, h8, h9, h10⟩ := h
  refine (tab_sleep l (tabOf vm vlog vseen wb s.ws.length s) tb s.sl seen w h1 h4 h5 hlen h6 h7 (Nat.le_trans hlog hN) h8 ⟨_, _, _, rfl⟩ ⟨_, _, _, rfl⟩).mono ?_
  rintro e w' ⟨vm', vlog', rfl, hk, hT, hI, hY, hS, hTy⟩
  have hX : ∀ b, b = tb → b < w.heap.size → ∀ c fr, w.heap[b]? ≠ some (.cells c 89 fr) := by
    rintro b rfl _ c fr e
    rw [h1] at e; simp at e
  have hX2 : ∀ b, b = tb → b < w.heap.size → ∀ c fr, w.heap[b]? ≠ some (.cells c 39 fr) := by
    rintro b rfl _ c fr e
    rw [h1] at e; simp at e
  obtain ⟨g8, g9⟩ := h8.keepT h9 hk hX
  refine ⟨rfl, below_keep2 hb hk (fun b hb => by omega), ht, hw, hne, by show (sleepS l seen s.sl).cs.length ≤ _; rw [sleepS_length]; exact hlen, Nat.le_trans (sleepS_log l seen s.sl) (by show s.log.length + 1 ≤ N + 1; omega), vm', vlog', vseen, C, hT, (hk.block wb (lt_of_heap h2) (fun e => hne e.symm)).trans h2, h3, hI, hY, hS, hTy, g8, g9, ?_⟩
  intro i wr hi
  obtain ⟨vr, k0, k1, k2, k3, k4, k5⟩ := h10 i wr hi
  obtain ⟨q4, q5⟩ := k4.keepT k5 hk hX2
  exact ⟨vr, k0, k1, k2, k3, q4, q5⟩
theorem write_step (l : Lay) (hthr : 0 ≤ l.thr ∧ l.thr ≤ 4) (w0 : World) (tb wb : Nat) (seen : List Sn) (N : Nat) (s : St) (w : World) (h : StR w0 tb wb seen N s w) (vseen' vwant vturns : Value) (want : List (List Int)) (i : Nat) (hi : i < want.length)
    (hp : WantR w0 vwant want) (hnx : ∀ xs ∈ want, xs.length ≤ 1000000) (hnl : want.length ≤ 1000000) (hws : s.ws.length = want.length) (hok : WOk (want.getD i []) (s.ws.getD i wr0)) :
    Calls Try.prog 70 #[.pointer (some ⟨tb, 0, none⟩), l.v, .agg #[vseen', vwant, vturns], .int .i64 (i : Int)] w fun e w' => e = .returned (.tuple #[]) ∧ StR w0 tb wb seen N (writeSt l want i s) w' := by
  obtain ⟨hb, ht, hw, hne, hlen, hlog, vm, vlog, vseen, C, h1, h2, h3, h4, h5, h6, h7, h8, h9, h10⟩ := h
  have hxs : want[i]? = some want[i] := List.getElem?_eq_getElem hi
  have hgd : want.getD i [] = want[i] := by rw [List.getD_eq_getElem?_getD, hxs]; rfl
  have his : i < s.ws.length := by omega
  have hwr : s.ws[i]? = some s.ws[i] := List.getElem?_eq_getElem his
  have hgw : s.ws.getD i wr0 = s.ws[i] := by rw [List.getD_eq_getElem?_getD, hwr]; rfl
  obtain ⟨vr, k0, k1, k2, k3, k4, k5⟩ := h10 i _ hwr
  obtain ⟨A, c, -, hpi⟩ := hp
  have hwi := (hpi i _ hxs).below hb
  rw [hgd, hgw] at hok
  unfold writeSt
  rw [hgd, hgw]
  refine (tab_write l (tabOf vm vlog vseen wb s.ws.length s) tb wb s.ws.length i want[i] ⟨s.cs, s.bad, s.ws[i]⟩ vr C vseen' vwant vturns w hne h1 h2 (by rw [h3]; omega) k0 k1 k2 k3 k4 k5 h4 h5 hlen (by rw [hws]; exact hwi) (by have := hnx _ (List.getElem_mem hi); omega) (by omega) hthr hok).mono ?_
  rintro e w' ⟨vm', C', vr', rfl, hk, hT, hW, hsz, hout, c0, c1, c2, c3, hR, hRT, hI, hY⟩
  have hX : ∀ T, T ≠ 87 → T ≠ 138 → ∀ b, (b = tb ∨ b = wb) → b < w.heap.size → ∀ c fr, w.heap[b]? ≠ some (.cells c T fr) := by
    rintro T hT1 hT2 b (rfl | rfl) _ c fr e
    · rw [h1] at e; simp only [Option.some.injEq, Obj.cells.injEq] at e; exact hT1 e.2.1.symm
    · rw [h2] at e; simp only [Option.some.injEq, Obj.cells.injEq] at e; exact hT2 e.2.1.symm
  obtain ⟨g6, g7⟩ := h6.keepT h7 hk (hX _ (by decide) (by decide))
  obtain ⟨g8, g9⟩ := h8.keepT h9 hk (hX _ (by decide) (by decide))
  have hgw2 : ({ s with ws := s.ws.set i (writeS l want[i] (i : Int) ⟨s.cs, s.bad, s.ws[i]⟩).wr } : St).ws.length = s.ws.length := by simp
  refine ⟨rfl, below_keep2 hb hk (by rintro b (rfl | rfl) <;> assumption), ht, hw, hne, by show (writeS l want[i] (i : Int) ⟨s.cs, s.bad, s.ws[i]⟩).cs.length ≤ _; rw [writeS_length]; exact hlen, hlog, vm', vlog, vseen, C', ?_, hW, by rw [hsz, h3]; simp, hI, hY, g6, g7, g8, g9, ?_⟩
  · simp only [List.length_set]
    exact hT
  · intro j wr hj
    simp only at hj
    by_cases hji : j = i
    · subst hji
      rw [List.getElem?_set_self his] at hj
      simp only [Option.some.injEq] at hj
      subst hj
      exact ⟨vr', c0, c1, c2, c3, hR, hRT⟩
    · rw [List.getElem?_set_ne (fun e => hji e.symm)] at hj
      obtain ⟨vr2, q0, q1, q2, q3, q4, q5⟩ := h10 j wr hj
      obtain ⟨r4, r5⟩ := q4.keepT q5 hk (hX _ (by decide) (by decide))
      exact ⟨vr2, (hout _ (by omega)).trans q0, (hout _ (by omega)).trans q1, (hout _ (by omega)).trans q2, (hout _ (by omega)).trans q3, r4, r5⟩
end Go.Proofs.Ytpfibcbeenogiaa
