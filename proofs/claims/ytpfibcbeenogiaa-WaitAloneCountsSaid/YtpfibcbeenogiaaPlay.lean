/- Package play, walked: a program of accesses replayed against a log. -/
import Derived.Test.YtpfibcbeenogiaaBase
import Derived.Test.YtpfibcbeenogiaaProg
import Derived.Lib.Hide
namespace Go.Proofs.Ytpfibcbeenogiaa
open Go.RowKit
set_option linter.unusedSimpArgs false
set_option linter.unusedVariables false
/-- The state of a replay: at holds k, the variable log reads as the list. -/
structure DoAt (w : World) (ba bl : Nat) (vlog : Value) (log : List Rs) (k : Nat) : Prop where
  at_ : w.heap[ba]? = some (.cells #[.int .i64 k] 3 (0, 0))
  lg : w.cell? ⟨bl, 0, none⟩ = some vlog
  sl : SlR 2 Rs.cells w vlog log
  apart : ba ≠ bl
  sep : ∀ b o n c, vlog = .slice (some ⟨b, o, none⟩) n c → log ≠ [] → b ≠ ba
  le : k ≤ log.length
theorem DoAt.lt {w : World} {ba bl : Nat} {vlog : Value} {log : List Rs} {k : Nat} (h : DoAt w ba bl vlog log k) : ba < w.heap.size := lt_of_heap h.at_
theorem DoAt.ltl {w : World} {ba bl : Nat} {vlog : Value} {log : List Rs} {k : Nat} (h : DoAt w ba bl vlog log k) : bl < w.heap.size := World.block_lt_of_cell? w _ h.lg
/-- It goes on in a later world in which only at may have been written. -/
theorem DoAt.keep {w w' : World} {ba bl : Nat} {vlog : Value} {log : List Rs} {k k' : Nat} (h : DoAt w ba bl vlog log k) (hk : Keep (· = ba) w w')
    (ha : w'.heap[ba]? = some (.cells #[.int .i64 k'] 3 (0, 0))) (hle : k' ≤ log.length) : DoAt w' ba bl vlog log k' := by
  refine ⟨ha, ?_, ?_, h.apart, h.sep, hle⟩
  · rw [hk.bcell bl 0 h.ltl (fun e => h.apart e.symm)]; exact h.lg
  · obtain ⟨A, c, h1, h2, h3, h4⟩ := h.sl
    refine ⟨A, c, h1, h2, h3, fun hx => ?_⟩
    obtain ⟨b, o, g1, g2, g3⟩ := h4 hx
    refine ⟨b, o, g1, Nat.lt_of_lt_of_le g2 hk.size, fun i x hi j u hu => ?_⟩
    rw [hk.bcell b _ g2 (h.sep b o _ c (by rw [h1, g1]) hx)]
    exact g3 i x hi j u hu
theorem DoAt.stay {w w' : World} {ba bl : Nat} {vlog : Value} {log : List Rs} {k : Nat} (h : DoAt w ba bl vlog log k) (hk : Below w.heap.size w w') : DoAt w' ba bl vlog log k :=
  h.keep (Keep.of_below hk) (by rw [hk.block ba h.lt]; exact h.at_) h.le
/-- A program of accesses: what it returns and where it stands in the log, or the access at which the log ends. -/
abbrev M (α : Type) := List Rs → Nat → Except Acc (α × Nat)
def M.ret {α : Type} (a : α) : M α := fun _ k => .ok (a, k)
def M.bind {α β : Type} (p : M α) (f : α → M β) : M β := fun log k => match p log k with
  | .ok (a, k') => f a log k'
  | .error x => .error x
def M.map {α β : Type} (f : α → β) (p : M α) : M β := p.bind fun a => M.ret (f a)
def doM (x : Acc) : M Rs := fun log k => match log[k]? with
  | some r => .ok (r, k + 1)
  | none => .error x
def chainOf (x : Acc) : List PanicEntry := [{ v := .iface 121 (.agg #[.int .i64 x.kind, .int .i64 x.cell, .int .i64 x.old, .int .i64 x.new, .string x.bytes]), recovered := false }]
/-- The call does what the program does. -/
def Runs {α : Type} (w : World) (ba : Nat) (log : List Rs) (k : Nat) (p : M α) (enc : α → Value) (e : Ending) (w' : World) : Prop :=
  Keep (· = ba) w w' ∧
  ((∃ a k', p log k = .ok (a, k') ∧ e = .returned (enc a) ∧ k' ≤ log.length ∧ w'.heap[ba]? = some (.cells #[.int .i64 (k' : Int)] 3 (0, 0))) ∨
   (∃ x k', p log k = .error x ∧ e = .panicked (chainOf x) ∧ k' ≤ log.length ∧ w'.heap[ba]? = some (.cells #[.int .i64 (k' : Int)] 3 (0, 0))))
theorem heap_alloc_lt {w : World} {o : Obj} {b : Nat} (h : b < w.heap.size) : (w.alloc o).heap[b]? = w.heap[b]? := Below.heap_alloc w o b h
theorem heap_setCell_same {w : World} {b o : Nat} {c : Array Value} {T : TypeId} {fr : Nat × Nat} {v : Value} (h : w.heap[b]? = some (.cells c T fr)) : (w.setCell ⟨b, o, none⟩ v).heap[b]? = some (.cells (c.setIfInBounds o v) T fr) := by
  simp [World.setCell, Array.getElem?_modify, h]
theorem play_do (x : Acc) (ba bl : Nat) (vlog : Value) (log : List Rs) (k : Nat) (w : World) (h : DoAt w ba bl vlog log k) :
    Calls Try.prog 74 #[x.v, .pointer (some ⟨ba, 0, none⟩), .pointer (some ⟨bl, 0, none⟩)] w (Runs w ba log k (doM x) Rs.v) := by
  have hat := h.at_
  have hlt := h.lt
  have hltl := h.ltl
  have hc := cell_of_heap h.at_ 0
  have hf : w.frozen? ⟨ba, 0, none⟩ = false := by simp [World.frozen?, hat]
  have hl := h.lg
  have hap : ¬ bl = ba := fun e => h.apart e.symm
  obtain ⟨A, c, rfl, h2, h3, h4⟩ := h.sl
  simp only [List.getElem?_toArray, List.getElem?_cons_zero] at hc
  by_cases hk : k < log.length
  · obtain ⟨b, o, rfl, g2, g3⟩ := h4 (by intro e; simp [e] at hk)
    have hr : log[k]? = some log[k] := List.getElem?_eq_getElem hk
    have c0 := g3 k log[k] hr 0 _ rfl
    have c1 := g3 k log[k] hr 1 _ rfl
    have hbb := h.sep b o _ c rfl (by intro e; simp [e] at hk)
    have hd : decide ((k : Int) ≥ (log.length : Int)) = false := by simp; omega
    have hw1 : wrap64 ((k : Int) + 1) = (k : Int) + 1 := by unfold wrap64; omega
    have hw2 : wrap64 ((k : Int) + 1 - 1) = (k : Int) := by unfold wrap64; omega
    generalize hR : log[k] = r at *
    have HR := Lib.hid hr
    have HA := Lib.hid hat
    simp only [Nat.add_zero] at c0
    clear hr hR g3 h4 h hat
    go_enter Try.func74, Try.ntmps74
    go_wp2
    refine bodyPost_ret (v := r.v) (by simp [results, go_sem]) rfl ?_
    refine ⟨?_, .inl ⟨r, k + 1, by rw [doM, HR.out], rfl, by omega, ?_⟩⟩
    · repeat (first | exact Keep.refl _ _ | refine Keep.alloc ?_ _ | refine Keep.setCell ?_ _ (.inr rfl))
    · rw [heap_alloc_lt (by simp; omega), heap_alloc_lt (by simpa using hlt), heap_setCell_same HA.out]; rfl
  · have hd : decide ((k : Int) ≥ (log.length : Int)) = true := by simp; omega
    have HA := Lib.hid hat
    have HK : Hid (log.length ≤ k) := by show log.length ≤ k; omega
    have HL := Lib.hid h.le
    clear hat h h4
    go_enter Try.func74, Try.ntmps74
    go_wp2
    refine ⟨rfl, ?_, .inr ⟨x, k, by rw [doM, List.getElem?_eq_none HK.out], rfl, HL.out, ?_⟩⟩
    · repeat (first | exact Keep.refl _ _ | refine Keep.alloc ?_ _)
    · rw [heap_alloc_lt (by simp; omega), heap_alloc_lt hlt]; exact HA.out
abbrev doV (ba bl : Nat) : Value := .func (.func 74) #[] #[.pointer (some ⟨ba, 0, none⟩), .pointer (some ⟨bl, 0, none⟩)]
def accLoad (cell : Int) : Acc := ⟨1, cell, 0, 0, ⟨#[]⟩⟩
def accStore (cell n : Int) : Acc := ⟨2, cell, 0, n, ⟨#[]⟩⟩
def accCas (cell old n : Int) : Acc := ⟨3, cell, old, n, ⟨#[]⟩⟩
def loadM (cell : Int) : M Int := (doM (accLoad cell)).map Rs.val
def casM (cell old n : Int) : M Bool := (doM (accCas cell old n)).map Rs.ok
def storeM (cell n : Int) : M Unit := (doM (accStore cell n)).map fun _ => ()
theorem Runs.map {α β : Type} {w w' : World} {ba : Nat} {log : List Rs} {k : Nat} {p : M α} {enc : α → Value} {enc' : β → Value} {f : α → β} {e : Ending} (h : Runs w ba log k p enc e w') :
    (∃ a, e = .returned (enc a) ∧ Runs w ba log k (p.map f) enc' (.returned (enc' (f a))) w') ∨ (∃ c, e = .panicked c ∧ Runs w ba log k (p.map f) enc' (.panicked c) w') := by
  obtain ⟨hk, ⟨a, k', h1, h2, h3, h4⟩ | ⟨x, k', h1, h2, h3, h4⟩⟩ := h
  · exact .inl ⟨a, h2, hk, .inl ⟨f a, k', by simp [M.map, M.bind, M.ret, h1], rfl, h3, h4⟩⟩
  · exact .inr ⟨_, h2, hk, .inr ⟨x, k', by simp [M.map, M.bind, h1], rfl, h3, h4⟩⟩
theorem fld_Val (v : Int) (b : Bool) (w : World) : (Instr.field 58 (.agg #[.int .i64 v, .bool b]) 0).run Try.prog w = .ok (.int .i64 v) w := by kernel_rfl
theorem fld_Ok (v : Int) (b : Bool) (w : World) : (Instr.field 58 (.agg #[.int .i64 v, .bool b]) 1).run Try.prog w = .ok (.bool b) w := by kernel_rfl
theorem play_Load (cell : Int) (ba bl : Nat) (vlog : Value) (log : List Rs) (k : Nat) (w : World) (h : DoAt w ba bl vlog log k) :
    Calls Try.prog 93 #[doV ba bl, .int .i64 cell] w (Runs w ba log k (loadM cell) (fun n => .int .i64 n)) := by
  go_enter Try.func93, Try.ntmps93
  go_wp2_with fail
  refine (play_do (accLoad cell) ba bl vlog log k w h).mono ?_
  intro e w1 hR
  rcases hR.map (f := Rs.val) (enc' := fun n => .int .i64 n) with ⟨r, rfl, hS⟩ | ⟨c, rfl, hS⟩
  · have HS := Lib.hid hS
    clear hS hR h
    simp only [Rs.v]
    have hfld := fld_Val
    go_wp2
    go_ret
    exact HS.out
  · have HS := Lib.hid hS
    clear hS hR h
    go_wp2
    exact ⟨rfl, HS.out⟩
theorem play_Cas (cell old n : Int) (ba bl : Nat) (vlog : Value) (log : List Rs) (k : Nat) (w : World) (h : DoAt w ba bl vlog log k) :
    Calls Try.prog 102 #[doV ba bl, .int .i64 cell, .int .i64 old, .int .i64 n] w (Runs w ba log k (casM cell old n) (fun b => .bool b)) := by
  go_enter Try.func102, Try.ntmps102
  go_wp2_with fail
  refine (play_do (accCas cell old n) ba bl vlog log k w h).mono ?_
  intro e w1 hR
  rcases hR.map (f := Rs.ok) (enc' := fun b => .bool b) with ⟨r, rfl, hS⟩ | ⟨c, rfl, hS⟩
  · have HS := Lib.hid hS
    clear hS hR h
    simp only [Rs.v]
    have hfld := fld_Ok
    go_wp2
    go_ret
    exact HS.out
  · have HS := Lib.hid hS
    clear hS hR h
    go_wp2
    exact ⟨rfl, HS.out⟩
theorem play_Store (cell n : Int) (ba bl : Nat) (vlog : Value) (log : List Rs) (k : Nat) (w : World) (h : DoAt w ba bl vlog log k) :
    Calls Try.prog 89 #[doV ba bl, .int .i64 cell, .int .i64 n] w (Runs w ba log k (storeM cell n) (fun _ => .tuple #[])) := by
  go_enter Try.func89, Try.ntmps89
  go_wp2_with fail
  refine (play_do (accStore cell n) ba bl vlog log k w h).mono ?_
  intro e w1 hR
  rcases hR.map (f := fun _ => ()) (enc' := fun _ => .tuple #[]) with ⟨r, rfl, hS⟩ | ⟨c, rfl, hS⟩
  · have HS := Lib.hid hS
    clear hS hR h
    go_wp2
    go_end0
    exact HS.out
  · have HS := Lib.hid hS
    clear hS hR h
    go_wp2
    exact ⟨rfl, HS.out⟩
theorem loadM_ok {cell : Int} {log : List Rs} {k k1 : Nat} {n : Int} (h : loadM cell log k = .ok (n, k1)) : ∃ r, log[k]? = some r ∧ n = r.val ∧ k1 = k + 1 := by
  unfold loadM M.map M.bind doM at h
  cases hr : log[k]? with
  | none => rw [hr] at h; cases h
  | some r => rw [hr] at h; simp [M.ret] at h; exact ⟨r, rfl, h.1.symm, h.2.symm⟩
theorem loadM_err {cell : Int} {log : List Rs} {k : Nat} {x : Acc} (h : loadM cell log k = .error x) : log[k]? = none ∧ x = accLoad cell := by
  unfold loadM M.map M.bind doM at h
  cases hr : log[k]? with
  | none => rw [hr] at h; simp at h; exact ⟨rfl, h.symm⟩
  | some r => rw [hr] at h; simp [M.ret] at h
theorem casM_ok {cell old n : Int} {log : List Rs} {k k1 : Nat} {b : Bool} (h : casM cell old n log k = .ok (b, k1)) : ∃ r, log[k]? = some r ∧ b = r.ok ∧ k1 = k + 1 := by
  unfold casM M.map M.bind doM at h
  cases hr : log[k]? with
  | none => rw [hr] at h; cases h
  | some r => rw [hr] at h; simp [M.ret] at h; exact ⟨r, rfl, h.1.symm, h.2.symm⟩
theorem casM_err {cell old n : Int} {log : List Rs} {k : Nat} {x : Acc} (h : casM cell old n log k = .error x) : log[k]? = none ∧ x = accCas cell old n := by
  unfold casM M.map M.bind doM at h
  cases hr : log[k]? with
  | none => rw [hr] at h; simp at h; exact ⟨rfl, h.symm⟩
  | some r => rw [hr] at h; simp [M.ret] at h
theorem Runs.close {α : Type} {w w2 : World} {ba : Nat} {log : List Rs} {k k1 : Nat} {p : M α} {enc : α → Value} {a : α} (hp : p log k = .ok (a, k1)) (hK : Keep (· = ba) w w2) (hle : k1 ≤ log.length)
    (ha : w2.heap[ba]? = some (.cells #[.int .i64 (k1 : Int)] 3 (0, 0))) : Runs w ba log k p enc (.returned (enc a)) w2 := ⟨hK, .inl ⟨a, k1, hp, rfl, hle, ha⟩⟩
theorem Runs.halt {α : Type} {w w2 : World} {ba : Nat} {log : List Rs} {k k1 : Nat} {p : M α} {enc : α → Value} {x : Acc} (hp : p log k = .error x) (hK : Keep (· = ba) w w2) (hle : k1 ≤ log.length)
    (ha : w2.heap[ba]? = some (.cells #[.int .i64 (k1 : Int)] 3 (0, 0))) : Runs w ba log k p enc (.panicked (chainOf x)) w2 := ⟨hK, .inr ⟨x, k1, hp, rfl, hle, ha⟩⟩
end Go.Proofs.Ytpfibcbeenogiaa
