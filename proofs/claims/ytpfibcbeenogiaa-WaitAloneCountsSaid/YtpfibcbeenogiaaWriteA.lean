/- hallmootlaw21: the words of a writer's step. -/
import Derived.Test.YtpfibcbeenogiaaTab
import Derived.Test.YtpfibcbeenogiaaSleepA
import Derived.Test.YtpfibcbeenogiaaRefs
import Derived.Test.YtpfibcbeenogiaaTail
import Derived.Test.YtpfibcbeenogiaaAfter
namespace Go.Proofs.Ytpfibcbeenogiaa
open Go.RowKit
set_option linter.unusedSimpArgs false
set_option linter.unusedVariables false
structure Wr where
  nxt : Int
  at_ : Int
  ver : Int
  rouse : List Acc
/-- What a writer's step sees and turns. -/
structure Ws where
  cs : List Int
  bad : Bool
  wr : Wr
def resOf (cs : List Int) (a : Acc) : Rs := if (memDo cs a).2.2 = 0 then (memDo cs a).2.1 else ⟨0, false⟩
def badOf (cs : List Int) (a : Acc) (bad : Bool) : Bool := if (memDo cs a).2.2 = 0 then bad else true
def wantLoc (xs : List Int) (k : Int) : Int := (xs.getD k.toNat 0).tmod 3
def writeS (l : Lay) (xs : List Int) (i : Int) (s : Ws) : Ws :=
  if s.wr.at_ = 0 ∧ s.wr.nxt ≥ (xs.length : Int) then s
  else
    let loc := if s.wr.at_ = 0 then wantLoc xs s.wr.nxt else wantLoc xs (s.wr.nxt - 1)
    let word := cellP l.loc l.locs loc 4 0
    if s.wr.at_ = 0 then
      let a : Acc := ⟨1, word, 0, 0, ⟨#[]⟩⟩
      let r := resOf s.cs a
      ⟨(memDo s.cs a).1, badOf s.cs a s.bad, if r.val.tmod 2 = 0 then ⟨s.wr.nxt + 1, 1, r.val, s.wr.rouse⟩ else s.wr⟩
    else if s.wr.at_ = 1 then
      let a : Acc := ⟨3, word, s.wr.ver, wrap64 (wrap64 (2 * (i + 1)) + 1), ⟨#[]⟩⟩
      let r := resOf s.cs a
      ⟨(memDo s.cs a).1, badOf s.cs a s.bad, if r.ok then { s.wr with at_ := 2 } else { s.wr with at_ := 0, nxt := s.wr.nxt - 1 }⟩
    else if s.wr.at_ = 2 then
      let a : Acc := ⟨4, l.clk, 0, 1, ⟨#[]⟩⟩
      ⟨(memDo s.cs a).1, badOf s.cs a s.bad, { s.wr with ver := wrap64 ((resOf s.cs a).val + 1), at_ := 3 }⟩
    else if s.wr.at_ = 3 then
      let a : Acc := ⟨2, word, 0, wrap64 (2 * s.wr.ver), ⟨#[]⟩⟩
      ⟨(memDo s.cs a).1, badOf s.cs a s.bad, { s.wr with at_ := 4 }⟩
    else if s.wr.at_ = 4 then
      let a : Acc := ⟨1, cellP l.loc l.locs loc 4 3, 0, 0, ⟨#[]⟩⟩
      ⟨(memDo s.cs a).1, badOf s.cs a s.bad, { s.wr with rouse := rouseN l (wIn (resOf s.cs a).val) l.thr.toNat, at_ := 5 }⟩
    else match s.wr.rouse with
      | [] => { s with wr := { s.wr with at_ := 0 } }
      | a :: rest => ⟨(memDo s.cs a).1, badOf s.cs a s.bad, { s.wr with rouse := rest, at_ := if rest = [] then 0 else s.wr.at_ }⟩
theorem acc_parts {cs : List Int} {a : Acc} {bad rb rk : Bool} {R : List Int × Rs × Int} {rv : Int} (h1 : R = memDo cs a) (h2 : (if R.2.2 = 0 then R.2.1.val else 0) = rv) (h3 : (if R.2.2 = 0 then R.2.1.ok else false) = rk) (h4 : (if R.2.2 = 0 then bad else true) = rb) :
    (memDo cs a).1 = R.1 ∧ resOf cs a = ⟨rv, rk⟩ ∧ badOf cs a bad = rb := by
  subst h1 h2 h3 h4
  refine ⟨rfl, ?_, rfl⟩
  unfold resOf
  by_cases h : (memDo cs a).2.2 = 0 <;> simp [h]
theorem tab_accessR (t : Tb) (tb : Nat) (a : Acc) (cs : List Int) (w : World) {R : List Int} {rv : Int} {rk rb : Bool} (h : (memDo cs a).1 = R ∧ resOf cs a = ⟨rv, rk⟩ ∧ badOf cs a t.bad = rb)
    (hT : w.heap[tb]? = some (.cells t.cells 87 (0, 0))) (hm : IntsR w t.vm cs) (hty : Typed w t.vm) (hlen : cs.length ≤ 1048576) :
    Calls Try.prog 99 #[.pointer (some ⟨tb, 0, none⟩), a.v] w fun e w' =>
      ∃ vm', e = .returned (.agg #[.int .i64 rv, .bool rk]) ∧ Keep (· = tb) w w' ∧ w'.heap[tb]? = some (.cells { t with vm := vm', bad := rb }.cells 87 (0, 0)) ∧ IntsR w' vm' R ∧ Typed w' vm' := by
  obtain ⟨h1, h2, h3⟩ := h
  subst h1 h3
  have e1 : (if (memDo cs a).2.2 = 0 then (memDo cs a).2.1.val else 0) = rv := by
    have := congrArg Rs.val h2
    unfold resOf at this
    split at this <;> simp_all
  have e2 : (if (memDo cs a).2.2 = 0 then (memDo cs a).2.1.ok else false) = rk := by
    have := congrArg Rs.ok h2
    unfold resOf at this
    split at this <;> simp_all
  refine (tab_access t tb a cs w hT hm hty hlen).mono ?_
  rintro e w' ⟨vm', g1, g2, g3, g4, g5⟩
  exact ⟨vm', by rw [g1, e1, e2], g2, g3, g4, g5⟩
theorem tabk_keep {X w3 : World} {tb : Nat} (hk : Keep (· = tb) X w3) {b : Nat} {cells : Array Value} {T : TypeId} (h : X.heap[b]? = some (.cells cells T (0, 0))) (hn : b ≠ tb) :
    (∀ i, w3.cell? ⟨b, i, none⟩ = cells[i]?) ∧ (∀ i, w3.frozen? ⟨b, i, none⟩ = false) ∧ b < w3.heap.size ∧ Hid (w3.heap[b]? = some (.cells cells T (0, 0))) := by
  have e := (hk.block b (lt_of_heap h) hn).trans h
  exact ⟨cell_of_heap e, fun i => by simp [World.frozen?, e], lt_of_heap e, e⟩
section
variable (l : Lay) (xs : List Int) (i : Int) (cs : List Int) (bad : Bool) (nxt ver : Int) (rouse : List Acc)
theorem writeS_end (h : nxt ≥ (xs.length : Int)) : writeS l xs i ⟨cs, bad, ⟨nxt, 0, ver, rouse⟩⟩ = ⟨cs, bad, ⟨nxt, 0, ver, rouse⟩⟩ := by
  simp [writeS]; omega
theorem writeS_0 (h : ¬ nxt ≥ (xs.length : Int)) : writeS l xs i ⟨cs, bad, ⟨nxt, 0, ver, rouse⟩⟩ =
    ⟨(memDo cs ⟨1, cellP l.loc l.locs (wantLoc xs nxt) 4 0, 0, 0, ⟨#[]⟩⟩).1, badOf cs ⟨1, cellP l.loc l.locs (wantLoc xs nxt) 4 0, 0, 0, ⟨#[]⟩⟩ bad, if (resOf cs ⟨1, cellP l.loc l.locs (wantLoc xs nxt) 4 0, 0, 0, ⟨#[]⟩⟩).val.tmod 2 = 0 then ⟨nxt + 1, 1, (resOf cs ⟨1, cellP l.loc l.locs (wantLoc xs nxt) 4 0, 0, 0, ⟨#[]⟩⟩).val, rouse⟩ else ⟨nxt, 0, ver, rouse⟩⟩ := by
  unfold writeS
  rw [if_neg (fun q => h q.2)]
  simp
theorem writeS_1 : writeS l xs i ⟨cs, bad, ⟨nxt, 1, ver, rouse⟩⟩ =
    ⟨(memDo cs ⟨3, cellP l.loc l.locs (wantLoc xs (nxt - 1)) 4 0, ver, wrap64 (wrap64 (2 * (i + 1)) + 1), ⟨#[]⟩⟩).1, badOf cs ⟨3, cellP l.loc l.locs (wantLoc xs (nxt - 1)) 4 0, ver, wrap64 (wrap64 (2 * (i + 1)) + 1), ⟨#[]⟩⟩ bad,
      if (resOf cs ⟨3, cellP l.loc l.locs (wantLoc xs (nxt - 1)) 4 0, ver, wrap64 (wrap64 (2 * (i + 1)) + 1), ⟨#[]⟩⟩).ok then ⟨nxt, 2, ver, rouse⟩ else ⟨nxt - 1, 0, ver, rouse⟩⟩ := by
  simp [writeS]
theorem writeS_2 : writeS l xs i ⟨cs, bad, ⟨nxt, 2, ver, rouse⟩⟩ =
    ⟨(memDo cs ⟨4, l.clk, 0, 1, ⟨#[]⟩⟩).1, badOf cs ⟨4, l.clk, 0, 1, ⟨#[]⟩⟩ bad, ⟨nxt, 3, wrap64 ((resOf cs ⟨4, l.clk, 0, 1, ⟨#[]⟩⟩).val + 1), rouse⟩⟩ := by
  simp [writeS]
theorem writeS_3 : writeS l xs i ⟨cs, bad, ⟨nxt, 3, ver, rouse⟩⟩ =
    ⟨(memDo cs ⟨2, cellP l.loc l.locs (wantLoc xs (nxt - 1)) 4 0, 0, wrap64 (2 * ver), ⟨#[]⟩⟩).1, badOf cs ⟨2, cellP l.loc l.locs (wantLoc xs (nxt - 1)) 4 0, 0, wrap64 (2 * ver), ⟨#[]⟩⟩ bad, ⟨nxt, 4, ver, rouse⟩⟩ := by
  simp [writeS]
theorem writeS_4 : writeS l xs i ⟨cs, bad, ⟨nxt, 4, ver, rouse⟩⟩ =
    ⟨(memDo cs ⟨1, cellP l.loc l.locs (wantLoc xs (nxt - 1)) 4 3, 0, 0, ⟨#[]⟩⟩).1, badOf cs ⟨1, cellP l.loc l.locs (wantLoc xs (nxt - 1)) 4 3, 0, 0, ⟨#[]⟩⟩ bad, ⟨nxt, 5, ver, rouseN l (wIn (resOf cs ⟨1, cellP l.loc l.locs (wantLoc xs (nxt - 1)) 4 3, 0, 0, ⟨#[]⟩⟩).val) l.thr.toNat⟩⟩ := by
  simp [writeS]
theorem writeS_5n (at_ : Int) (h : at_ < 0 ∨ 5 ≤ at_) : writeS l xs i ⟨cs, bad, ⟨nxt, at_, ver, []⟩⟩ = ⟨cs, bad, ⟨nxt, 0, ver, []⟩⟩ := by
  unfold writeS
  rw [if_neg (fun q => by have := q.1; simp only at this; omega)]
  simp only
  rw [if_neg (by omega), if_neg (by omega), if_neg (by omega), if_neg (by omega), if_neg (by omega)]
theorem writeS_5c (at_ : Int) (h : at_ < 0 ∨ 5 ≤ at_) (a : Acc) : writeS l xs i ⟨cs, bad, ⟨nxt, at_, ver, a :: rouse⟩⟩ = ⟨(memDo cs a).1, badOf cs a bad, ⟨nxt, if rouse = [] then 0 else at_, ver, rouse⟩⟩ := by
  unfold writeS
  rw [if_neg (fun q => by have := q.1; simp only at this; omega)]
  simp only
  rw [if_neg (by omega), if_neg (by omega), if_neg (by omega), if_neg (by omega), if_neg (by omega)]
end
/-- The i-th slice of a slice of slices, read as a list of bytes. -/
def WantI (w : World) (v : Value) (n i : Nat) (xs : List Int) : Prop :=
  ∃ b o c v', v = .slice (some ⟨b, o, none⟩) n c ∧ i < n ∧ w.cell? ⟨b, o + i, none⟩ = some v' ∧ b < w.heap.size ∧ SlR 1 (fun x : Int => [.int .u8 x]) w v' xs ∧ (∀ x ∈ xs, 0 ≤ x ∧ x < 256)
/-- What a step of a writer leaves (the writer's four cells begin at o). -/
def WritePost (t : Tb) (tb wb o : Nat) (C : Array Value) (w : World) (F : Ws) (e : Ending) (w' : World) : Prop :=
  ∃ vm' C' vr', e = .returned (.tuple #[]) ∧ Keep (fun b => b = tb ∨ b = wb) w w' ∧ w'.heap[tb]? = some (.cells { t with vm := vm', bad := F.bad }.cells 87 (0, 0)) ∧
    w'.heap[wb]? = some (.cells C' 138 (0, 0)) ∧ C'.size = C.size ∧ (∀ k, k < o ∨ o + 4 ≤ k → C'[k]? = C[k]?) ∧
    C'[o]? = some (.int .i64 F.wr.nxt) ∧ C'[o + 1]? = some (.int .i64 F.wr.at_) ∧ C'[o + 2]? = some (.int .i64 F.wr.ver) ∧ C'[o + 3]? = some vr' ∧
    SlR 5 Acc.cells w' vr' F.wr.rouse ∧ TyR 39 w' vr' ∧ IntsR w' vm' F.cs ∧ Typed w' vm'
theorem cell_keep {w w1 : World} (hb : Below w.heap.size w w1) {b o : Nat} (h : b < w.heap.size) : w1.cell? ⟨b, o, none⟩ = w.cell? ⟨b, o, none⟩ := (bcell hb).1 b o h
theorem SlR.nilAt {α : Type} {m : Nat} {enc : α → List Value} {w : World} (A : Option Addr) (c : Nat) : SlR m enc w (.slice A 0 c) [] := ⟨A, c, rfl, Nat.zero_le _, by simp, fun h => absurd rfl h⟩
theorem SlR.tail {α : Type} {m : Nat} {enc : α → List Value} {w : World} {b o c : Nat} {x : α} {xs : List α} (h : SlR m enc w (.slice (some ⟨b, o, none⟩) (x :: xs).length c) (x :: xs)) : SlR m enc w (.slice (some ⟨b, o + m, none⟩) xs.length (c - 1)) xs := by
  obtain ⟨A, c', h1, h2, h3, h4⟩ := h
  simp only [Value.slice.injEq] at h1
  obtain ⟨rfl, -, rfl⟩ := h1
  simp only [List.length_cons] at h2 h3
  refine ⟨_, _, rfl, by omega, by omega, fun _ => ⟨b, o + m, rfl, ?_, fun i y hy j u hu => ?_⟩⟩
  · obtain ⟨b', o', e, g, -⟩ := h4 (by simp)
    simp only [Option.some.injEq, Addr.mk.injEq] at e
    obtain ⟨rfl, -, -⟩ := e
    exact g
  · obtain ⟨b', o', e, g, g2⟩ := h4 (by simp)
    simp only [Option.some.injEq, Addr.mk.injEq] at e
    obtain ⟨rfl, rfl, -⟩ := e
    have := g2 (i + 1) y (by simpa using hy) j u hu
    rw [← this, Nat.add_mul, Nat.one_mul]
    congr 2
    omega
theorem max_idx {k n : Nat} (h : k < n) (hb : n ≤ 1000000) : ∃ k0 : Nat, max (IntKind.i64.wrap ((k : Int) - 1)) 0 = (k0 : Int) ∧ k0 < n := by
  have e : IntKind.i64.wrap ((k : Int) - 1) = (k : Int) - 1 := by rw [IntWalk.i64_left]; unfold wrap64; omega
  rw [e]
  exact ⟨k - 1, by omega, by omega⟩
theorem get_same {C : Array Value} {o : Nat} {v : Value} (h : o < C.size) : (C.setIfInBounds o v)[o]? = some v := by simp [h]
theorem get_ne {C : Array Value} {o a b : Nat} {v : Value} {r : Option Value} (h : a ≠ b) (g : C[o + b]? = r) : (C.setIfInBounds (o + a) v)[o + b]? = r := by
  rw [Array.getElem?_setIfInBounds_ne (by omega)]; exact g
theorem get_ne0 {C : Array Value} {o b : Nat} {v : Value} {r : Option Value} (h : b ≠ 0) (g : C[o + b]? = r) : (C.setIfInBounds o v)[o + b]? = r := by
  rw [Array.getElem?_setIfInBounds_ne (by omega)]; exact g
theorem get_0ne {C : Array Value} {o a : Nat} {v : Value} {r : Option Value} (h : a ≠ 0) (g : C[o]? = r) : (C.setIfInBounds (o + a) v)[o]? = r := by
  rw [Array.getElem?_setIfInBounds_ne (by omega)]; exact g
theorem size_le {C : Array Value} {o n : Nat} {v : Value} (h : o < C.size) : o < (C.setIfInBounds n v).size := by simpa using h
theorem four_sizes {C : Array Value} {o : Nat} (h : o + 4 ≤ C.size) : o < C.size ∧ o + 1 < C.size ∧ o + 2 < C.size ∧ o + 3 < C.size := by omega
theorem out_set0 {C C' : Array Value} {o k : Nat} {v : Value} (h : k < o ∨ o + 4 ≤ k) (g : C'[k]? = C[k]?) : (C'.setIfInBounds o v)[k]? = C[k]? := by
  rw [Array.getElem?_setIfInBounds_ne (by omega)]; exact g
theorem out_set {C C' : Array Value} {o k : Nat} {v : Value} (j : Nat) (hj : j < 4) (h : k < o ∨ o + 4 ≤ k) (g : C'[k]? = C[k]?) : (C'.setIfInBounds (o + j) v)[k]? = C[k]? := by
  rw [Array.getElem?_setIfInBounds_ne (by omega)]; exact g
theorem write_fin {t : Tb} {tb wb o : Nat} {w wA wf : World} {C C' : Array Value} {vmA vr : Value} {cs' : List Int} {bA : Bool} {n a v : Int} {rs : List Acc}
    (hne : tb ≠ wb) (hK1 : Keep (· = tb) w wA) (hT : wA.heap[tb]? = some (.cells { t with vm := vmA, bad := bA }.cells 87 (0, 0)))
    (hw : wA.heap[wb]? = some (.cells C 138 (0, 0))) (hI : IntsR wA vmA cs') (hY : Typed wA vmA) (hR : SlR 5 Acc.cells wA vr rs) (hRT : TyR 39 wA vr)
    (hK2 : Keep (· = wb) wA wf) (hC : wf.heap[wb]? = some (.cells C' 138 (0, 0))) (hsz : C'.size = C.size) (hout : ∀ k, k < o ∨ o + 4 ≤ k → C'[k]? = C[k]?)
    (h0 : C'[o]? = some (.int .i64 n)) (h1 : C'[o + 1]? = some (.int .i64 a)) (h2 : C'[o + 2]? = some (.int .i64 v)) (h3 : C'[o + 3]? = some vr) :
    WritePost t tb wb o C w ⟨cs', bA, ⟨n, a, v, rs⟩⟩ (.returned (.tuple #[])) wf := by
  obtain ⟨g1, g2⟩ := ints_keep hI hY hK2 (by
    rintro b' rfl _ c' fr' e'
    rw [hw] at e'; simp at e')
  obtain ⟨g3, g4⟩ := hR.keepT hRT hK2 (by
    rintro b' rfl _ c' fr' e'
    rw [hw] at e'; simp at e')
  exact ⟨vmA, C', vr, rfl, (hK1.mono fun _ _ h => .inl h).trans (hK2.mono fun _ _ h => .inr h), (hK2.block tb (lt_of_heap hT) hne).trans hT, hC, hsz, hout, h0, h1, h2, h3, g3, g4, g1, g2⟩
end Go.Proofs.Ytpfibcbeenogiaa
