/- Words of this seat's proofs that name no function of the program: worlds that keep what was there, slices that read as lists, the data of package api. No conditions. -/
import Derived.WalkKit
import Derived.Deep.QuietTactic
import Derived.BigQuiet
import Derived.KernelRfl
import Derived.WalkLawsBesides
import Derived.WalkSpells
import Derived.WideLaws
import Derived.Laws.CopyOwn
import Derived.Deep.OwnRows
import Derived.Lib.Hide
namespace Go.Proofs.Ytpfibcbeenogiaa
open Go.RowKit
set_option linter.unusedSimpArgs false
set_option linter.unusedVariables false

/-- What was there before is as it was, but for the blocks of which X speaks. -/
structure Keep (X : Nat → Prop) (w w' : World) : Prop where
  os : w'.os = w.os
  tape : w'.tape = w.tape
  output : w'.output = w.output
  size : w.heap.size ≤ w'.heap.size
  block : ∀ k, k < w.heap.size → ¬ X k → w'.heap[k]? = w.heap[k]?

theorem Keep.refl (X : Nat → Prop) (w : World) : Keep X w w := ⟨rfl, rfl, rfl, Nat.le_refl _, fun _ _ _ => rfl⟩
theorem Keep.trans {X : Nat → Prop} {a b c : World} (h : Keep X a b) (k : Keep X b c) : Keep X a c :=
  ⟨k.os.trans h.os, k.tape.trans h.tape, k.output.trans h.output, Nat.le_trans h.size k.size,
    fun i hi hx => (k.block i (Nat.lt_of_lt_of_le hi h.size) hx).trans (h.block i hi hx)⟩
theorem Keep.mono {X Y : Nat → Prop} {w w' : World} (h : Keep X w w') (hxy : ∀ i, i < w.heap.size → X i → Y i) : Keep Y w w' :=
  ⟨h.os, h.tape, h.output, h.size, fun i hi hy => h.block i hi fun hx => hy (hxy i hi hx)⟩
theorem Keep.below {w w' : World} (h : Keep (fun _ => False) w w') : Below w.heap.size w w' :=
  ⟨h.os, h.tape, h.output, h.size, fun i hi => h.block i hi id⟩
theorem Keep.of_below {X : Nat → Prop} {w w' : World} (h : Below w.heap.size w w') : Keep X w w' :=
  ⟨h.os, h.tape, h.output, h.size, fun i hi _ => h.block i hi⟩
/-- A later world, of which only new blocks may have been written since an earlier one. -/
theorem Keep.alloc {X : Nat → Prop} {a w : World} (h : Keep X a w) (o : Obj) : Keep X a (w.alloc o) :=
  h.trans (Keep.of_below ((Below.refl _ _).alloc (Nat.le_refl _) _))
theorem Keep.drewN {X : Nat → Prop} {a w : World} (h : Keep X a w) (n : Nat) : Keep X a (w.drewN n) :=
  h.trans ⟨rfl, rfl, rfl, Nat.le_refl _, fun _ _ _ => rfl⟩
theorem Keep.drew {X : Nat → Prop} {a w : World} (h : Keep X a w) : Keep X a w.drew :=
  h.trans ⟨rfl, rfl, rfl, Nat.le_refl _, fun _ _ _ => rfl⟩
theorem Keep.setCell {X : Nat → Prop} {a w : World} (h : Keep X a w) {p : Addr} (v : Value) (hp : a.heap.size ≤ p.block ∨ X p.block) : Keep X a (w.setCell p v) :=
  ⟨h.os, h.tape, h.output, by simpa using h.size, fun i hi hx => by
    rw [Below.heap_setCell _ _ _ _ (by rcases hp with hp | hp; · omega
                                       · exact fun e => hx (e ▸ hp))]
    exact h.block i hi hx⟩
theorem Keep.toBelow {X : Nat → Prop} {w w' : World} (h : Keep X w w') (hx : ∀ i, i < w.heap.size → ¬ X i) : Below w.heap.size w w' :=
  ⟨h.os, h.tape, h.output, h.size, fun i hi => h.block i hi (hx i hi)⟩
theorem Keep.bcell {X : Nat → Prop} {w w' : World} (h : Keep X w w') : ∀ b o, b < w.heap.size → ¬ X b → w'.cell? ⟨b, o, none⟩ = w.cell? ⟨b, o, none⟩ :=
  fun b _ hb hx => World.cell?_of_block (w := w) (h.block b hb hx)
theorem Keep.bfrozen {X : Nat → Prop} {w w' : World} (h : Keep X w w') : ∀ b o, b < w.heap.size → ¬ X b → w'.frozen? ⟨b, o, none⟩ = w.frozen? ⟨b, o, none⟩ :=
  fun b _ hb hx => World.frozen?_of_block (w := w) (h.block b hb hx)
theorem blw_alloc {w W : World} (h : Below w.heap.size w W) (o : Obj) : Below w.heap.size w (W.alloc o) := h.alloc h.size o
theorem blw_drewN {w W : World} (h : Below w.heap.size w W) (n : Nat) : Below w.heap.size w (W.drewN n) := ⟨h.os, h.tape, h.output, h.size, h.block⟩
theorem blw_drew {w W : World} (h : Below w.heap.size w W) : Below w.heap.size w W.drew := h.drew
theorem blw_set {w W : World} (h : Below w.heap.size w W) {p : Addr} (hp : w.heap.size ≤ p.block) (v : Value) : Below w.heap.size w (W.setCell p v) := h.setCell hp v
theorem blw_then {w W W' : World} (h : Below w.heap.size w W) (k : Below W.heap.size W W') : Below w.heap.size w W' := h.trans (k.mono h.size)
theorem bcell {W w1 : World} (hb : Below W.heap.size W w1) : (∀ b o, b < W.heap.size → w1.cell? ⟨b, o, none⟩ = W.cell? ⟨b, o, none⟩) ∧ (∀ b o, b < W.heap.size → w1.frozen? ⟨b, o, none⟩ = W.frozen? ⟨b, o, none⟩) :=
  ⟨fun b o h => hb.cell (p := ⟨b, o, none⟩) h, fun b o h => hb.frozen (p := ⟨b, o, none⟩) h⟩
def putO (o : Nat) (v : Value) : Obj → Obj
  | .cells c T fr => .cells (c.setIfInBounds o v) T fr
  | x => x
theorem hs_same (w : World) (b o : Nat) (v : Value) : (w.setCell ⟨b, o, none⟩ v).heap[b]? = (w.heap[b]?).map (putO o v) := by
  simp only [World.setCell, Array.getElem?_modify, if_true]
  congr 1
theorem hs_ne (w : World) (b b' o : Nat) (v : Value) (h : ¬ b = b') : (w.setCell ⟨b, o, none⟩ v).heap[b']? = w.heap[b']? := by
  simp [World.setCell, Array.getElem?_modify, h]
theorem ha_lt (w : World) (ob : Obj) (b : Nat) (h : b < w.heap.size) : (w.alloc ob).heap[b]? = w.heap[b]? := Below.heap_alloc w ob b h
theorem ha_new (w : World) (ob : Obj) (b : Nat) (h : b = w.heap.size) : (w.alloc ob).heap[b]? = some ob := by
  subst h; show (w.heap.push ob)[w.heap.size]? = _; simp
theorem hd_drewN (w : World) (n b : Nat) : (w.drewN n).heap[b]? = w.heap[b]? := rfl
theorem hd_drew (w : World) (b : Nat) : w.drew.heap[b]? = w.heap[b]? := rfl
theorem set_self {α : Type} {cs : List α} {i : Nat} {x : α} (h : cs[i]? = some x) : cs.set i x = cs := by
  apply List.ext_getElem?
  intro j
  rw [List.getElem?_set]
  split
  · rename_i e
    subst e
    split
    · exact h.symm
    · rename_i hl
      rw [List.getElem?_eq_none (by omega)] at h
      cases h
  · rfl
theorem cell_of_heap {w : World} {b : Nat} {c : Array Value} {T : TypeId} {fr : Nat × Nat} (h : w.heap[b]? = some (.cells c T fr)) (o : Nat) : w.cell? ⟨b, o, none⟩ = c[o]? := by
  simp [World.cell?, h]
theorem lt_of_heap {w : World} {b : Nat} {o : Obj} (h : w.heap[b]? = some o) : b < w.heap.size := (Array.getElem?_eq_some_iff.1 h).1

theorem grown_below {w w' : World} (h : Below w.heap.size w w') : w.grownBy w' none := ⟨h.os, h.tape, h.output, h.size, fun k hk _ => h.block k hk⟩
theorem owns_below {w w' : World} {base : Nat} {e : TypeId} {size : Nat} {v : Value} {n : Nat} {xs : List Value} (h : w.ownsRow base e size v n xs) (hb : Below w.heap.size w w') : w'.ownsRow base e size v n xs :=
  h.kept (grown_below hb) (by cases hv : v.ownBlock <;> simp)
theorem grown_set (w : World) (b o : Nat) (v : Value) : w.grownBy (w.setCell ⟨b, o, none⟩ v) (some b) :=
  ⟨rfl, rfl, rfl, by simp, fun k _ hk => hs_ne w b k o v (fun e => hk (by rw [e]))⟩
theorem owns_set {w : World} {base : Nat} {e : TypeId} {size : Nat} {v : Value} {n : Nat} {xs : List Value} (h : w.ownsRow base e size v n xs) {b o : Nat} {x : Value} (hb : b < base) : (w.setCell ⟨b, o, none⟩ x).ownsRow base e size v n xs :=
  h.kept (grown_set w b o x) (by
    cases hv : v.ownBlock with
    | none => exact .inl rfl
    | some k =>
      right
      intro e
      have := (h.lt k hv).1
      simp only [Option.some.injEq] at e
      omega)
theorem Keep.grown {X : Nat → Prop} {a w w' : World} (h : Keep X a w) {row : Option Nat} (hg : w.grownBy w' row) (hr : ∀ k, row = some k → a.heap.size ≤ k ∨ X k) : Keep X a w' :=
  ⟨hg.os.trans h.os, hg.tape.trans h.tape, hg.output.trans h.output, Nat.le_trans h.size hg.size, fun i hi hx =>
    (hg.block i (Nat.lt_of_lt_of_le hi h.size) (fun e => by
      rcases hr i e.symm with h1 | h1
      · omega
      · exact hx h1)).trans (h.block i hi hx)⟩
/-! ### slices that read as lists: each element is a row of m cells -/
structure SlR {α : Type} (m : Nat) (enc : α → List Value) (w : World) (v : Value) (xs : List α) : Prop where
  out : ∃ A c, v = .slice A xs.length c ∧ xs.length ≤ c ∧ xs.length ≤ 9223372036854775807 ∧
    (xs ≠ [] → ∃ b o, A = some ⟨b, o, none⟩ ∧ b < w.heap.size ∧ ∀ i x, xs[i]? = some x → ∀ j u, (enc x)[j]? = some u → w.cell? ⟨b, o + i * m + j, none⟩ = some u)

theorem SlR.nil {α : Type} (m : Nat) (enc : α → List Value) (w : World) : SlR m enc w (.slice none 0 0) [] :=
  ⟨none, 0, rfl, Nat.le_refl _, by simp, fun h => absurd rfl h⟩
theorem SlR.stay {α : Type} {m : Nat} {enc : α → List Value} {w w' : World} {v : Value} {xs : List α} (h : SlR m enc w v xs) (hs : w.heap.size ≤ w'.heap.size) (hb : ∀ b, v.ownBlock = some b → b < w.heap.size → w'.heap[b]? = w.heap[b]?) : SlR m enc w' v xs := by
  obtain ⟨A, c, rfl, h2, h3, h4⟩ := h
  refine ⟨A, c, rfl, h2, h3, fun hx => ?_⟩
  obtain ⟨b, o, rfl, g2, g3⟩ := h4 hx
  exact ⟨b, o, rfl, Nat.lt_of_lt_of_le g2 hs, fun i x hi j u hu => (World.cell?_of_block (a := ⟨b, _, none⟩) (hb b rfl g2)).trans (g3 i x hi j u hu)⟩
theorem SlR.below {α : Type} {m : Nat} {enc : α → List Value} {w w' : World} {v : Value} {xs : List α} (h : SlR m enc w v xs) (hb : Below w.heap.size w w') : SlR m enc w' v xs := by
  obtain ⟨A, c, h1, h2, h3, h4⟩ := h
  refine ⟨A, c, h1, h2, h3, fun hx => ?_⟩
  obtain ⟨b, o, g1, g2, g3⟩ := h4 hx
  exact ⟨b, o, g1, Nat.lt_of_lt_of_le g2 hb.size, fun i x hi j u hu => (hb.cell (p := ⟨b, _, none⟩) g2).trans (g3 i x hi j u hu)⟩

abbrev IntsR (w : World) (v : Value) (xs : List Int) : Prop := SlR 1 (fun n : Int => [.int .i64 n]) w v xs
/-- What a slice of one-cell elements is, and its cells. -/
theorem SlR.one {α : Type} {enc : α → Value} {w : World} {v : Value} {xs : List α} (h : SlR 1 (fun x => [enc x]) w v xs) : ∃ A c, v = .slice A xs.length c ∧ xs.length ≤ c ∧ xs.length ≤ 9223372036854775807 ∧
    (xs ≠ [] → ∃ b o, A = some ⟨b, o, none⟩ ∧ b < w.heap.size ∧ ∀ i x, xs[i]? = some x → w.cell? ⟨b, o + i, none⟩ = some (enc x)) := by
  obtain ⟨A, c, h1, h2, h3, h4⟩ := h
  refine ⟨A, c, h1, h2, h3, fun hx => ?_⟩
  obtain ⟨b, o, g1, g2, g3⟩ := h4 hx
  refine ⟨b, o, g1, g2, fun i x hi => ?_⟩
  have := g3 i x hi 0 _ rfl
  simpa using this
/-- A whole block of one-cell elements read as a list. -/
theorem SlR.of_heap {α : Type} {enc : α → Value} {w : World} {b : Nat} {xs : List α} {T : TypeId} {fr : Nat × Nat} (h : w.heap[b]? = some (.cells (xs.map enc).toArray T fr)) (c : Nat) (hc : xs.length ≤ c) (hm : xs.length ≤ 9223372036854775807) :
    SlR 1 (fun x => [enc x]) w (.slice (some ⟨b, 0, none⟩) xs.length c) xs := by
  refine ⟨_, c, rfl, hc, hm, fun _ => ⟨b, 0, rfl, lt_of_heap h, fun i x hi j u hu => ?_⟩⟩
  match j, hu with
  | 0, hu =>
    simp at hu
    subst hu
    rw [cell_of_heap h]
    simp [hi]
/-! ### data of package api -/
structure Lay where
  (thr locs lks sec man clk stp log fin thd lck loc size : Int)
  deriving DecidableEq
abbrev Lay.v (l : Lay) : Value := .agg #[.int .i64 l.thr, .int .i64 l.locs, .int .i64 l.lks, .int .i64 l.sec, .int .i64 l.man, .int .i64 l.clk, .int .i64 l.stp, .int .i64 l.log, .int .i64 l.fin, .int .i64 l.thd, .int .i64 l.lck, .int .i64 l.loc, .int .i64 l.size]
structure Acc where
  (kind cell old new : Int)
  (bytes : ByteArray)
abbrev Acc.v (a : Acc) : Value := .agg #[.int .i64 a.kind, .int .i64 a.cell, .int .i64 a.old, .int .i64 a.new, .string a.bytes]
structure Rs where
  val : Int
  ok : Bool
  deriving DecidableEq
abbrev Rs.cells (r : Rs) : List Value := [.int .i64 r.val, .bool r.ok]
abbrev Rs.v (r : Rs) : Value := .agg #[.int .i64 r.val, .bool r.ok]
structure Ou where
  (val ver rv stamp : Int)
  (is lost : Bool)
  (err : Int)
  deriving DecidableEq
abbrev Ou.v (o : Ou) : Value := .agg #[.int .i64 o.val, .int .i64 o.ver, .int .i64 o.rv, .int .i64 o.stamp, .bool o.is, .bool o.lost, .int .i64 o.err]
def Ou.zero : Ou := ⟨0, 0, 0, 0, false, false, 0⟩
def Acc.zero : Acc := ⟨0, 0, 0, 0, ⟨#[]⟩⟩
end Go.Proofs.Ytpfibcbeenogiaa
