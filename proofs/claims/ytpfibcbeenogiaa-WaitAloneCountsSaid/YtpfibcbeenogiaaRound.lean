/- A range over a function whose body may panic: the laws of the walk, at the frame of one function. No program is named. -/
import Derived.Test.YtpfibcbeenogiaaBase
import Derived.RangeFuncRecord
import Derived.RangeFuncSeq
import Derived.RangeFuncCalls
import Derived.TacticsIn
import Derived.BigFrameIn
namespace Go.Proofs.Ytpfibcbeenogiaa
open Go.RowKit
section
variable {P : Program} {b : Frame} {a : Act} {w : World} {Q : Exit → Act → World → Prop}
/-- A piece of code, walked in the frame of one function. -/
def wpB (P : Program) (b : Frame) (c : Code) (Q : Exit → Act → World → Prop) (a : Act) (w : World) : Prop :=
  ∀ (k : List Item) (cs : List Frame), ∃ e a' w', Q e a' w' ∧ ArrivesIn (Machine.fenced P Fence.wide) P (lone (b.atR a (.code c :: k)) cs w) b k cs e a' w'
theorem wpB_of_wp {c : Code} (hb : b.roundOf = none) (h : c.wp P Q a w) : wpB P b c Q a w := fun k cs => (wpIn_wide (n := 0)).2 h b k cs hb trivial (room_wide _)
theorem wpB_mono {c : Code} {Q' : Exit → Act → World → Prop} (h : wpB P b c Q a w) (hq : ∀ e a w, Q e a w → Q' e a w) : wpB P b c Q' a w :=
  fun k cs => let ⟨e, a', w', q, r⟩ := h k cs; ⟨e, a', w', hq _ _ _ q, r⟩
theorem wpB_seq {x y : Code} (h : wpB P b x (Exit.then (fun a w => wpB P b y Q a w) Q) a w) : wpB P b (.seq x y) Q a w := by
  intro k cs
  have h0 : (lone (b.atR a (.code (.seq x y) :: k)) cs w).fenced P Fence.wide := fenced_wide _ _
  obtain ⟨e, a₁, w₁, hq, harr⟩ := h (.code y :: k) cs
  cases e with
  | normal =>
    obtain ⟨e₂, a₂, w₂, hq₂, harr₂⟩ := hq k cs
    exact ⟨e₂, a₂, w₂, hq₂, .of_steps (.head h0 stepR_seq harr) harr₂⟩
  | exit id => exact ⟨_, a₁, w₁, hq, .of_steps (.one h0 stepR_seq) (.pass (x := .code y) rfl (fun _ _ => .inl (by simp)) harr)⟩
  | goto l => exact ⟨_, a₁, w₁, hq, .of_steps (.one h0 stepR_seq) (.pass (x := .code y) rfl (fun _ _ => .inl (by simp)) harr)⟩
  | ret => exact ⟨_, a₁, w₁, hq, .of_steps (.one h0 stepR_seq) (.pass (x := .code y) rfl (fun _ _ => .inl (by simp)) harr)⟩
  | panic ch => exact ⟨_, a₁, w₁, hq, .of_steps (.one h0 stepR_seq) (.pass (x := .code y) rfl (fun _ _ => .inl (by simp)) harr)⟩
  | outgrown => exact ⟨_, a₁, w₁, hq, .of_steps (.one h0 stepR_seq) (.pass (x := .code y) rfl (fun _ _ => .inl (by simp)) harr)⟩
theorem wpB_seq_k {x y : Code} (hb : b.roundOf = none) (h : ∀ K : Act → World → Prop, (∀ a w, wpB P b y Q a w → K a w) → x.wp P (Exit.then K Q) a w) : wpB P b (.seq x y) Q a w :=
  wpB_seq (wpB_of_wp hb (h _ fun _ _ h => h))
theorem wpB_seq_kk {x y : Code} (h : ∀ K : Act → World → Prop, (∀ a w, wpB P b y Q a w → K a w) → wpB P b x (Exit.then K Q) a w) : wpB P b (.seq x y) Q a w :=
  wpB_seq (h _ fun _ _ h => h)
/-- A block that is left off its end, or by a panic. -/
theorem wpB_block {id : Nat} {c : Code} (h : wpB P b c (fun e a w => match e with
    | .normal => Q .normal a w
    | .panic ch => Q (.panic ch) a w
    | _ => False) a w) : wpB P b (.block id c) Q a w := by
  intro k cs
  have h0 : (lone (b.atR a (.code (.block id c) :: k)) cs w).fenced P Fence.wide := fenced_wide _ _
  obtain ⟨e, a₁, w₁, hq, harr⟩ := h (.inBlock id :: k) cs
  cases e with
  | normal => exact ⟨.normal, a₁, w₁, hq, .head h0 stepR_block (StepsIn.trans harr (.one (fenced_wide _ _) stepR_inBlock))⟩
  | panic ch => exact ⟨_, a₁, w₁, hq, .of_steps (.one h0 stepR_block) harr⟩
  | exit id' => exact hq.elim
  | goto l => exact hq.elim
  | ret => exact hq.elim
  | outgrown => exact hq.elim
/-- What is asked at a round's end: off its end: the record ready, yield hands back true · a panic: no deferred call of the round's own. -/
def roundPostP (P : Program) (l : Nat) (R : Ending → World → Prop) : Exit → Act → World → Prop
  | .normal, _, w => ∃ v w', (Instr.endRound l none).run P w = .ok v w' ∧ R (.returned v) w'
  | .panic chain, a, w => a.defers = [] ∧ R (.panicked chain) w
  | _, _, _ => False
theorem roundIn_P {n l : Nat} {f : FuncId} {tmps : Array Value} {assign body : Code} {R : Ending → World → Prop} (hf : ∃ fn, P.funcs[f]? = some fn)
    (h : assign.wpIn (Fence.wide.inRound l) n P (Exit.then (fun a₁ w₁ => ∃ w₂, (Instr.beginRound l).run P w₁ = .ok () w₂ ∧ body.wpIn (Fence.wide.inRound l) n P (roundPostP P l R) a₁ w₂) (fun _ _ _ => False))
      { tmps := tmps, defers := [] } w) : RoundIn Fence.wide n P l f tmps assign body w R := by
  refine ⟨trivial, fun c cs hr => ?_⟩
  let b : Frame := { (default : Frame) with fn := f, kind := .normal, roundOf := some l }
  have hb0 : Frame.round l f tmps assign body .normal = b.atR { tmps := tmps, defers := [] } [.code assign, .beginRound, .code body] := by
    simp [Frame.round, Frame.atR, b]
  obtain ⟨e, a₁, w₁, hq, harr⟩ := h b [.beginRound, .code body] (c :: cs) rfl trivial (room_wide _)
  rw [← hb0] at harr
  cases e with
  | normal =>
    obtain ⟨w₂, hbr, hbody⟩ := hq
    have s1 : StepsIn (Machine.fenced P Fence.wide) P (lone (b.atR a₁ [.beginRound, .code body]) (c :: cs) w₁) (lone (b.atR a₁ [.code body]) (c :: cs) w₂) :=
      .one (fenced_wide _ _) (stepR_beginRound rfl hbr)
    obtain ⟨e₂, a₂, w₃, hq₂, harr₂⟩ := hbody b [] (c :: cs) rfl trivial (room_wide _)
    cases e₂ with
    | normal =>
      obtain ⟨v, w₄, hend, hR⟩ := hq₂
      exact ⟨.returned v, w₄, hR, (StepsIn.trans harr s1).trans (StepsIn.trans harr₂ (.one (fenced_wide _ _) (stepR_round_end rfl rfl hend)))⟩
    | panic chain =>
      obtain ⟨hd, hR⟩ := hq₂
      obtain ⟨todo, hs⟩ := harr₂
      have hl : ({ b.atR a₂ todo with mode := .panicking chain } : Frame).leaving P w₃ (.panicked chain) := ⟨rfl, hd, hf⟩
      exact ⟨.panicked chain, w₃, hR, (StepsIn.trans harr s1).trans (StepsIn.trans hs (.one (fenced_wide _ _) (step_leave_panicked hl)))⟩
    | ret => exact hq₂.elim
    | exit id => exact hq₂.elim
    | goto t => exact hq₂.elim
    | outgrown => exact hq₂.elim
  | exit id => exact hq.elim
  | goto t => exact hq.elim
  | ret => exact hq.elim
  | panic chain => exact hq.elim
  | outgrown => exact hq.elim
/-- What is asked when the function that was ranged over has ended: it has returned, no jump is pending; or it has passed a panic up. -/
def rangePostP (P : Program) (l : Nat) (Q : Exit → Act → World → Prop) (a' : Act) : Ending → World → Prop
  | .returned _, w₃ => ∃ w₄, (Instr.endLoop l).run P w₃ = .ok none w₄ ∧ Q .normal a' w₄
  | .panicked chain, w₃ => Q (.panic chain) a' w₃
  | .outgrown, _ => False
theorem wpB_range {g : Operand} {ps : Array Tmp} {assign body : Code}
    (h : ∃ (l : Nat) (mark : List Deferred) (w₁ : World) (d : Deferred) (w₁' : World) (f : FuncId) (args : Array Value) (w₂ : World),
      (Instr.enterLoop b.fn a.tmps ps assign body b.roundOf).run P w = .ok (l, mark) w₁ ∧
      (resolve a.eval (rangeCall g l) 0).run P w₁ = .ok d w₁' ∧
      (invoke d.target d.args).run P w₁' = .ok (.enter f args) w₂ ∧
      Calls P f args w₂ (rangePostP P l Q { a with defers := mark ++ a.defers })) :
    wpB P b (.rangeFunc g ps assign body) Q a w := by
  intro k cs
  obtain ⟨l, mark, w₁, d, w₁', f, args, w₂, he, hres, hinv, hcall⟩ := h
  have hcall := (callsIn_wide (n := 0)).2 hcall
  have henter := stepR_rangeFunc (P := P) (b := b) (a := a) (k := k) (cs := cs) (w := w) he hres hinv
  obtain ⟨e, w₃, fr, hR, hsteps, hfn, hleave⟩ := hcall.2 (b.atR { a with defers := mark ++ a.defers } (.inRangeFunc l :: k) :: cs) (room_wide _)
  cases e with
  | outgrown => exact hR.elim
  | returned v =>
    obtain ⟨w₄, hend, hj⟩ := hR
    refine ⟨.normal, _, w₄, hj, .head (fenced_wide _ _) henter (StepsIn.trans hsteps (.head (fenced_wide _ _) ?_ (.one (fenced_wide _ _) (stepR_endRangeFunc hend))))⟩
    rw [← finish_atR_inRangeFunc l v]; exact step_leave_returned hleave
  | panicked chain =>
    refine ⟨.panic chain, _, w₃, hR, .inRangeFunc l :: k, .head (fenced_wide _ _) henter (StepsIn.trans hsteps (.one (fenced_wide _ _) ?_))⟩
    rw [← Frame.raise_atR]; exact step_leave_panicked hleave
/-- The statement at an outermost loop: two blocks are laid; the iterator is called. -/
theorem wpB_range_outer {g : Operand} {ps : Array Tmp} {assign body : Code} (hro : b.roundOf = none) {gf : Nat} {first lb : Array Value} (hg : a.eval g = .func (.func gf) first lb) (eg : ∀ args w, (callFunc gf args).run P w = .ok (.enter gf args) w)
    (h : ∀ rec : LoopState → Loop, (∀ st, rec st = { state := st, pending := none, fn := b.fn, tmps := a.tmps, params := ps, assign, body, defers := w.heap.size }) →
      Calls P gf (first ++ #[.func (.yield (w.heap.size + 1)) #[] #[]] ++ lb) ((w.alloc (.deferred (some []))).alloc (.loop (rec .ready))) (rangePostP P (w.heap.size + 1) Q { a with defers := [{ target := .collected w.heap.size, args := #[] }] ++ a.defers })) :
    wpB P b (.rangeFunc g ps assign body) Q a w := by
  obtain ⟨rec, hrec⟩ : ∃ rec : LoopState → Loop, rec = fun st => { state := st, pending := none, fn := b.fn, tmps := a.tmps, params := ps, assign, body, defers := w.heap.size } := ⟨_, rfl⟩
  have h' := h rec (fun st => congrFun hrec st)
  have he : (Instr.enterLoop b.fn a.tmps ps assign body b.roundOf).run P w = .ok (w.heap.size + 1, [{ target := .collected w.heap.size, args := #[] }]) ((w.alloc (.deferred (some []))).alloc (.loop (rec .ready))) := by
    rw [hro, hrec]
    exact run_enterLoop_outer _ _ _ _ _
  clear h hrec
  obtain ⟨W1, hW1⟩ : ∃ W1, (w.alloc (.deferred (some []))).alloc (.loop (rec .ready)) = W1 := ⟨_, rfl⟩
  rw [hW1] at h' he
  clear hW1
  generalize hm : [({ target := .collected w.heap.size, args := #[] } : Deferred)] = mark at *
  generalize w.heap.size + 1 = l at *
  have h1 : (resolve a.eval (rangeCall g l) 0).run P W1 = .ok ({ target := .fn (.func gf) lb, args := first ++ #[.func (.yield l) #[] #[]] } : Deferred) W1 := by
    simp only [resolve, hg]
    simp [go_sem]
  have h2 : (invoke (.fn (.func gf) lb) (first ++ #[.func (.yield l) #[] #[]])).run P W1 = .ok (.enter gf (first ++ #[.func (.yield l) #[] #[]] ++ lb)) W1 := by
    simp [invoke, go_sem, eg]
  exact wpB_range ⟨l, mark, W1, _, W1, gf, _, W1, he, h1, h2, h'⟩
/-- A call of yield: the round, from the walks of the assignment and of the body. -/
theorem yieldAt_P {l : Nat} {ps : Array Tmp} {assign body : Code} {fn0 : FuncId} {tmps : Array Value} {D : Nat} {rec : LoopState → Loop} {args : Array Value} {R : Ending → World → Prop}
    (hrec : ∀ st, rec st = { state := st, pending := none, fn := fn0, tmps := tmps, params := ps, assign, body, defers := D }) (hl : w.heap[l]? = some (.loop (rec .ready))) (hs : args.size = ps.size) (hf : ∃ fn, P.funcs[fn0]? = some fn)
    (h : assign.wpIn (Fence.wide.inRound l) 0 P (Exit.then (fun a₁ w₁ => ∃ w₂, (Instr.beginRound l).run P w₁ = .ok () w₂ ∧ body.wpIn (Fence.wide.inRound l) 0 P (roundPostP P l R) a₁ w₂) (fun _ _ _ => False))
      { tmps := (ps.zip args).foldl (fun t (p, v) => t.setIfInBounds p v) tmps, defers := [] } w) : YieldAt Fence.wide 0 P l args w R := by
  have hy := run_yield (P := P) (args := args) hl (by rw [hrec]; exact hs)
  rw [hrec] at hy
  exact ⟨fn0, _, assign, body, hy, roundIn_P hf h⟩
theorem begin_P {l : Nat} {rec : LoopState → Loop} {ps : Array Tmp} {assign body : Code} {fn0 : FuncId} {tmps : Array Value} {D : Nat}
    (hrec : ∀ st, rec st = { state := st, pending := none, fn := fn0, tmps := tmps, params := ps, assign, body, defers := D }) (hl : w.heap[l]? = some (.loop (rec .ready))) :
    (Instr.beginRound l).run P w = .ok () (w.putObj l (.loop (rec .busy))) := by
  have := run_beginRound (P := P) hl (by rw [hrec])
  rw [this, hrec, hrec]
theorem end_P {l : Nat} {rec : LoopState → Loop} {ps : Array Tmp} {assign body : Code} {fn0 : FuncId} {tmps : Array Value} {D : Nat}
    (hrec : ∀ st, rec st = { state := st, pending := none, fn := fn0, tmps := tmps, params := ps, assign, body, defers := D }) (hl : w.heap[l]? = some (.loop (rec .busy))) :
    (Instr.endRound l none).run P w = .ok (.bool true) (w.putObj l (.loop (rec .ready))) := by
  have := run_endRound (P := P) none hl
  rw [this, hrec, hrec]
  rfl
theorem endLoop_P {l : Nat} {rec : LoopState → Loop} {ps : Array Tmp} {assign body : Code} {fn0 : FuncId} {tmps : Array Value} {D : Nat}
    (hrec : ∀ st, rec st = { state := st, pending := none, fn := fn0, tmps := tmps, params := ps, assign, body, defers := D }) (hl : w.heap[l]? = some (.loop (rec .ready))) :
    (Instr.endLoop l).run P w = .ok none (w.putObj l (.loop (rec .exhausted))) := by
  have := run_endLoop (P := P) hl (by rw [hrec]; simp)
  rw [this, hrec, hrec]
theorem cell_putLoop {lp : Nat} {r : Loop} {o : Obj} {p : Addr} {v : Value} (hl : w.heap[lp]? = some (.loop r)) (h : w.cell? p = some v) : (w.putObj lp o).cell? p = some v := by
  rw [← h]
  refine World.cell?_of_block (World.putObj_heap_other fun e => ?_)
  unfold World.cell? at h
  rw [e, hl] at h
  cases h
theorem heap_putLoop {lp bk : Nat} {r : Loop} {o : Obj} {c : Array Value} {T : TypeId} {f : Nat × Nat} (hl : w.heap[lp]? = some (.loop r)) (h : w.heap[bk]? = some (.cells c T f)) : (w.putObj lp o).heap[bk]? = some (.cells c T f) := by
  rw [← h]
  refine World.putObj_heap_other fun e => ?_
  rw [e, hl] at h
  cases h
theorem keep_putObj {X : Nat → Prop} {r : Nat} {o : Obj} (hx : X r) : Keep X w (w.putObj r o) :=
  ⟨rfl, rfl, rfl, by simp, fun k hk hn => World.putObj_heap_other (fun e => hn (e ▸ hx))⟩
theorem SlR.putLoop {α : Type} {m : Nat} {enc : α → List Value} {v : Value} {xs : List α} {lp : Nat} {r : Loop} {o : Obj} (hl : w.heap[lp]? = some (.loop r)) (h : SlR m enc w v xs) : SlR m enc (w.putObj lp o) v xs := by
  obtain ⟨A, c, h1, h2, h3, h4⟩ := h
  refine ⟨A, c, h1, h2, h3, fun hx => ?_⟩
  obtain ⟨b, o, g1, g2, g3⟩ := h4 hx
  exact ⟨b, o, g1, by simpa using g2, fun i x hi j u hu => cell_putLoop hl (g3 i x hi j u hu)⟩
/-- A function's contract from its body, walked in its own frame; marks of loops among its deferred calls. -/
theorem calls_of_wpB {f : FuncId} {fn : Func} {c : Code} {args : Array Value} {R : Ending → World → Prop}
    (hf : P.funcs[f]? = some fn) (hb : fn.body = some c)
    (h : ∀ b : Frame, b.fn = f → b.roundOf = none → wpB P b c (bodyPostM Fence.wide 0 P fn R) { tmps := args ++ Array.replicate (fn.ntmps - args.size) undef, defers := [] } w) : Calls P f args w R := by
  refine (callsIn_wide (n := 0)).1 ⟨trivial, fun cs hr => ?_⟩
  let b : Frame := { (default : Frame) with fn := f, kind := .normal, roundOf := none }
  have henter : Frame.enter P f args .normal = b.atR { tmps := args ++ Array.replicate (fn.ntmps - args.size) undef, defers := [] } [.code c] := by
    simp [Frame.enter, Frame.atR, hf, hb, b]
  obtain ⟨e, a', w', hq, harr⟩ := h b rfl rfl [] cs
  have harr : ArrivesIn (Machine.fenced P Fence.wide) P (lone (b.atR { tmps := args ++ Array.replicate (fn.ntmps - args.size) undef, defers := [] } [.code c]) cs w) b [] cs e a' w' := harr
  rw [← henter] at harr
  cases e with
  | normal =>
    obtain ⟨e', w'', fr', hR, hs, hfn, hl⟩ := leaves_stepsInM a'.defers .returning w' { b.atR a' [] with mode := .returning } cs rfl rfl rfl hf rfl trivial (room_wide _) hq
    exact ⟨e', w'', fr', hR, ComesIn.of_steps (StepsIn.trans harr (.one (fenced_wide _ _) (stepR_end rfl))) hs, hfn, hl⟩
  | ret =>
    obtain ⟨todo, hs₀⟩ := harr.1 rfl
    obtain ⟨e', w'', fr', hR, hs, hfn, hl⟩ := leaves_stepsInM a'.defers .returning w' { b.atR a' todo with mode := .returning } cs rfl rfl rfl hf rfl trivial (room_wide _) hq
    exact ⟨e', w'', fr', hR, ComesIn.of_steps hs₀ hs, hfn, hl⟩
  | panic chain =>
    obtain ⟨todo, hs₀⟩ := harr
    obtain ⟨e', w'', fr', hR, hs, hfn, hl⟩ := leaves_stepsInM a'.defers (.panicking chain) w' { b.atR a' todo with mode := .panicking chain } cs rfl rfl rfl hf rfl trivial (room_wide _) hq
    exact ⟨e', w'', fr', hR, ComesIn.of_steps hs₀ hs, hfn, hl⟩
  | exit id => exact hq.elim
  | goto l => exact hq.elim
  | outgrown => exact ⟨.outgrown, w', b, hq, harr.resolve_left (by simp [b]), rfl, trivial⟩
end
end Go.Proofs.Ytpfibcbeenogiaa
