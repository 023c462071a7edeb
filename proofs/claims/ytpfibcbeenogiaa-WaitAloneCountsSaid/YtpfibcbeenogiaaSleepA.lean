/- hallmootlaw21: a step of the sleeper. -/
import Derived.Test.YtpfibcbeenogiaaTab
import Derived.Test.YtpfibcbeenogiaaWaitEnd
import Derived.Deep.RegionHeldLaw
import Derived.Deep.RegionLaw
import Derived.Test.YtpfibcbeenogiaaApp
namespace Go.Proofs.Ytpfibcbeenogiaa
open Go.RowKit
set_option linter.unusedSimpArgs false
set_option linter.unusedVariables false
/-- The block of a slice is a block of the type. -/
def TyR (T : TypeId) (w : World) (v : Value) : Prop := ∀ b, v.ownBlock = some b → ∃ c fr, w.heap[b]? = some (.cells c T fr)
theorem TyR.below {T : TypeId} {w w' : World} {v : Value} (h : TyR T w v) (hb : Below w.heap.size w w') : TyR T w' v := fun b hv => by
  obtain ⟨c, fr, h1⟩ := h b hv
  exact ⟨c, fr, (hb.block b (lt_of_heap h1)).trans h1⟩
theorem SlR.keepT {α : Type} {m : Nat} {enc : α → List Value} {T : TypeId} {X : Nat → Prop} {w w' : World} {v : Value} {xs : List α} (h : SlR m enc w v xs) (ht : TyR T w v) (hk : Keep X w w') (hx : ∀ b, X b → b < w.heap.size → ∀ c fr, w.heap[b]? ≠ some (.cells c T fr)) : SlR m enc w' v xs ∧ TyR T w' v := by
  have hb : ∀ b, v.ownBlock = some b → b < w.heap.size → w'.heap[b]? = w.heap[b]? := fun b hv hl => hk.block b hl fun hX => by
    obtain ⟨c, fr, h1⟩ := ht b hv
    exact hx b hX hl c fr h1
  refine ⟨h.stay hk.size hb, fun b hv => ?_⟩
  obtain ⟨c, fr, h1⟩ := ht b hv
  exact ⟨c, fr, (hb b hv (lt_of_heap h1)).trans h1⟩
/-- The sleeper's part of the state. -/
structure Sl where
  cs : List Int
  kind : Int
  log : List Rs
  told : Int
  bad : Bool
def accessS (s : Sl) (a : Acc) : Sl := { s with cs := (memDo s.cs a).1, log := s.log ++ [if (memDo s.cs a).2.2 = 0 then (memDo s.cs a).2.1 else ⟨0, false⟩], bad := if (memDo s.cs a).2.2 = 0 then s.bad else true }
def endS (s : Sl) (o : Ou) : Sl :=
  let bad := if o.err = 0 then s.bad else true
  if s.kind = 5 then (if o.is then { s with log := [], bad := bad, told := 1, kind := 6 } else { s with log := [], bad := bad, told := 2 })
  else (if o.is then { s with log := [], bad := bad, told := 3 } else { s with log := [], bad := bad })
def sleepS (l : Lay) (seen : List Sn) (s : Sl) : Sl :=
  if s.told > 1 then s
  else if (stepOf (waitP l 0 s.kind seen) s.log).2.2 then endS s (stepOf (waitP l 0 s.kind seen) s.log).2.1 else accessS s (stepOf (waitP l 0 s.kind seen) s.log).1
def Tb.with (t : Tb) (vm vlog : Value) (s : Sl) : Tb := { t with vm := vm, vlog := vlog, kind := s.kind, told := s.told, bad := s.bad }
theorem flat_inv {α : Type} {m : Nat} {enc : α → List Value} (henc : ∀ x, (enc x).length = m) : ∀ {xs : List α} {k : Nat} {u : Value}, (xs.flatMap enc)[k]? = some u → ∃ i x j, xs[i]? = some x ∧ (enc x)[j]? = some u ∧ k = i * m + j
  | [], k, u, h => by simp at h
  | y :: ys, k, u, h => by
    rw [List.flatMap_cons] at h
    by_cases hk : k < m
    · rw [List.getElem?_append_left (by rw [henc]; exact hk)] at h
      exact ⟨0, y, k, rfl, h, by omega⟩
    · rw [List.getElem?_append_right (by rw [henc]; omega), henc] at h
      obtain ⟨i, x, j, h1, h2, h3⟩ := flat_inv henc h
      exact ⟨i + 1, x, j, by simpa using h1, h2, by rw [Nat.add_mul]; omega⟩
theorem flat_len {α : Type} {m : Nat} {enc : α → List Value} (henc : ∀ x, (enc x).length = m) : ∀ xs : List α, (xs.flatMap enc).length = xs.length * m
  | [] => by simp
  | y :: ys => by rw [List.flatMap_cons, List.length_append, henc, flat_len henc ys, List.length_cons, Nat.add_mul]; omega
theorem SlR.src {α : Type} {m : Nat} {enc : α → List Value} {w : World} {A : Option Addr} {c : Nat} {xs : List α} (henc : ∀ x, (enc x).length = m) (h : SlR m enc w (.slice A xs.length c) xs) :
    xs.length = 0 ∨ ∃ ad, A = some ad ∧ ∀ j u, (xs.flatMap enc)[j]? = some u → w.cell? (ad.add j) = some u := by
  by_cases hx : xs = []
  · left; simp [hx]
  · right
    obtain ⟨A', c', h1, -, -, h4⟩ := h.out
    simp only [Value.slice.injEq] at h1
    obtain ⟨rfl, -, rfl⟩ := h1
    obtain ⟨b, o, rfl, -, h5⟩ := h4 hx
    refine ⟨_, rfl, fun k u hk => ?_⟩
    obtain ⟨i, x, j, g1, g2, rfl⟩ := flat_inv henc hk
    have e : (Addr.add ⟨b, o, none⟩ (i * m + j)) = ⟨b, o + i * m + j, none⟩ := by simp [Addr.add, Nat.add_assoc]
    rw [e]
    exact h5 i x g1 j u g2
/-- What a step of the sleeper leaves. -/
def SleepPost (t : Tb) (tb : Nat) (w : World) (F : Sl) (e : Ending) (w' : World) : Prop :=
  ∃ vm' vlog', e = .returned (.tuple #[]) ∧ Keep (· = tb) w w' ∧ w'.heap[tb]? = some (.cells (t.with vm' vlog' F).cells 87 (0, 0)) ∧
    IntsR w' vm' F.cs ∧ Typed w' vm' ∧ SlR 2 Rs.cells w' vlog' F.log ∧ TyR 58 w' vlog'
theorem sleep_fin {t : Tb} {tb B : Nat} {w w9 : World} {vm : Value} {cs' : List Int} {log : List Rs} {kind told rv : Int} {rk rb : Bool} {A9 : Option Addr} {c9 : Nat} {vl : Value} {ls : List Rs} {cc : List Int}
    (hK : Keep (· = tb) w w9) (hT : w9.heap[tb]? = some (.cells (t.with vm vl ⟨cc, kind, ls, told, rb⟩).cells 87 (0, 0))) (hI : IntsR w9 vm cs') (hY : Typed w9 vm)
    (hO : w9.ownsRow B 58 2 (.slice A9 (log.length + 1) c9) (log.length + 1) (log.flatMap Rs.cells ++ [.int .i64 rv, .bool rk])) (htb : tb < B) (hln : log.length ≤ 1000000) :
    SleepPost t tb w ⟨cs', kind, log ++ [⟨rv, rk⟩], told, rb⟩ (.returned (.tuple #[])) (w9.setCell ⟨tb, 12, none⟩ (.slice A9 (log.length + 1) c9)) := by
  have hk : Keep (· = tb) w9 (w9.setCell ⟨tb, 12, none⟩ (.slice A9 (log.length + 1) c9)) := Keep.setCell (Keep.refl _ _) _ (.inr rfl)
  obtain ⟨g1, g2⟩ := ints_keep hI hY hk (by
    rintro b' rfl _ c' fr' e'
    rw [hT] at e'; simp at e')
  have hO' := owns_set hO (o := 12) (x := .slice A9 (log.length + 1) c9) htb
  have hl : (log ++ [(⟨rv, rk⟩ : Rs)]).length = log.length + 1 := by simp
  refine ⟨vm, .slice A9 (log.length + 1) c9, rfl, hK.trans hk, ?_, g1, g2, ?_, fun b hb => ?_⟩
  · rw [hs_same, hT]
    rfl
  · refine SlR.of_owns (base := B) (e := 58) ?_ (fun _ => rfl) (by rw [hl]; omega)
    rw [hl, List.flatMap_append]
    exact hO'
  · obtain ⟨c', hc'⟩ := owns_type hO' hb
    exact ⟨c', _, hc'⟩
theorem access_fin {cs : List Int} {kind told : Int} {log : List Rs} {bad rb rk : Bool} {a : Acc} {R : List Int × Rs × Int} {rv : Int} (h1 : R = memDo cs a) (h2 : (if R.2.2 = 0 then R.2.1.val else 0) = rv) (h3 : (if R.2.2 = 0 then R.2.1.ok else false) = rk) (h4 : (if R.2.2 = 0 then bad else true) = rb) :
    accessS ⟨cs, kind, log, told, bad⟩ a = ⟨R.1, kind, log ++ [⟨rv, rk⟩], told, rb⟩ := by
  subst h1 h2 h3 h4
  unfold accessS
  by_cases h : (memDo cs a).2.2 = 0 <;> simp [h]
end Go.Proofs.Ytpfibcbeenogiaa
