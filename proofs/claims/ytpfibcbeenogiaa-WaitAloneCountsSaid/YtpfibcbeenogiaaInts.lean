/- Two slices of ints, two memories, compared. -/
import Derived.Test.YtpfibcbeenogiaaRefs
namespace Go.Proofs.Ytpfibcbeenogiaa
open Go.RowKit
set_option linter.unusedSimpArgs false
set_option linter.unusedVariables false
theorem take_same {xs ys : List Int} {k : Nat} (h : xs.take k = ys.take k) {x : Int} (hx : xs[k]? = some x) (hy : ys[k]? = some x) : xs.take (k + 1) = ys.take (k + 1) := by
  rw [List.take_add_one, List.take_add_one, h, hx, hy]
theorem take_whole {xs ys : List Int} (h : xs.take xs.length = ys.take xs.length) (hl : xs.length = ys.length) : xs = ys := by
  rw [List.take_length, hl, List.take_length] at h
  exact h
theorem SlR.adr {xs : List Int} {w : World} {A : Option Addr} {c : Nat} (h : IntsR w (.slice A xs.length c) xs) (hne : xs ≠ []) : ∃ b o, A = some ⟨b, o, none⟩ ∧ b < w.heap.size ∧ ∀ w', Below w.heap.size w w' → ∀ k x, xs[k]? = some x → w'.cell? ⟨b, o + k, none⟩ = some (.int .i64 x) := by
  obtain ⟨A', c', h1, _, _, h4⟩ := h.one
  obtain ⟨b, o, h5, h6, h7⟩ := h4 hne
  simp only [Value.slice.injEq] at h1
  exact ⟨b, o, h1.1.trans h5, h6, fun w' hb k x hx => (hb.cell (p := ⟨b, o + k, none⟩) h6).trans (h7 k x hx)⟩
theorem ref_Ints (xs ys : List Int) (v u : Value) (w : World) (hv : IntsR w v xs) (hu : IntsR w u ys) : Calls Try.prog 24 #[v, u] w fun e w' => e = .returned (.bool (decide (xs = ys))) ∧ Below w.heap.size w w' := by
  obtain ⟨A, c, rfl, hc, hxl, -⟩ := hv.one
  obtain ⟨B, d, rfl, hd, hyl, -⟩ := hu.one
  by_cases hl : xs.length = ys.length
  · have HL := Lib.hid hl
    have HV := Lib.hid hv
    have HU := Lib.hid hu
    have hne : ((xs.length : Int) != (ys.length : Int)) = false := by simp [hl]
    clear hl hv hu
    go_enter Try.func24, Try.ntmps24
    go_wp2_with fail
    go_loopw [5] (fun i wr => ∃ k : Nat, k ≤ xs.length ∧ i = .int .i64 (k : Int) ∧ Below w.heap.size w wr ∧ xs.take k = ys.take k) (fun i _ => xs.length - (intOf i).toNat)
    case atStart => exact ⟨0, Nat.zero_le _, rfl, Below.refl _ _, rfl⟩
    case round =>
      obtain ⟨k, hk, rfl, hb, ht⟩ := hrel
      have HB := Lib.hid hb
      have HT := Lib.hid ht
      clear hb ht
      by_cases hlt : k < xs.length
      · obtain ⟨x, hx⟩ : ∃ x, xs[k]? = some x := ⟨_, List.getElem?_eq_getElem hlt⟩
        have hlt2 : k < ys.length := by have := HL.out; omega
        obtain ⟨y, hy⟩ : ∃ y, ys[k]? = some y := ⟨_, List.getElem?_eq_getElem hlt2⟩
        obtain ⟨b1, o1, rfl, hb1, h1⟩ := HV.out.adr (fun e => by subst e; simp at hlt)
        obtain ⟨b2, o2, rfl, hb2, h2⟩ := HU.out.adr (fun e => by subst e; simp at hlt2)
        have d1 := h1 wr HB.out k x hx
        have d2 := h2 wr HB.out k y hy
        have HX := Lib.hid hx
        have HY := Lib.hid hy
        have i1 : (k : Int) < (xs.length : Int) := by omega
        have i2 : (k : Int) < (ys.length : Int) := by omega
        clear h1 h2 hx hy
        by_cases hxy : x = y
        · have bxy : (x != y) = false := by simp [hxy]
          have HXY := Lib.hid hxy
          clear hxy
          go_wp2_with fail
          go_quiet (fail)
          go_wp2
          go_roundw
          case rel => exact ⟨k + 1, by omega, by go_num, blw_drewN HB.out _, take_same HT.out HX.out (by rw [HXY.out]; exact HY.out)⟩
          case measure => simp [intOf]; omega
        · have bxy : (x != y) = true := by simp [hxy]
          have HXY := Lib.hid hxy
          clear hxy
          go_wp2_with fail
          go_quiet (fail)
          go_wp2
          go_ret
          exact ⟨ret_bool (by simp; intro e; subst e; exact HXY.out (Option.some.inj (HX.out.symm.trans HY.out))), blw_drewN HB.out _⟩
      · obtain rfl : k = xs.length := by omega
        go_wp2
        go_ret
        exact ⟨ret_bool (by simp [take_whole HT.out HL.out]), HB.out⟩
  · have HL := Lib.hid hl
    have hne : ((xs.length : Int) != (ys.length : Int)) = true := by simp; omega
    clear hl hv hu
    go_enter Try.func24, Try.ntmps24
    go_wp2
    go_ret
    exact ⟨ret_bool (by simp; intro e; exact HL.out (by rw [e])), Below.refl _ _⟩
theorem ref_Same (xs ys : List Int) (v u : Value) (w : World) (hv : IntsR w v xs) (hu : IntsR w u ys) : Calls Try.prog 28 #[.agg #[v], .agg #[u]] w fun e w' => e = .returned (.bool (decide (xs = ys))) ∧ Below w.heap.size w w' := by
  obtain ⟨A, c, rfl, hc, hxl, -⟩ := hv.one
  obtain ⟨B, d, rfl, hd, hyl, -⟩ := hu.one
  by_cases hl : xs.length = ys.length
  · have HL := Lib.hid hl
    have HV := Lib.hid hv
    have HU := Lib.hid hu
    have hne : ((xs.length : Int) != (ys.length : Int)) = false := by simp [hl]
    clear hl hv hu
    go_enter Try.func28, Try.ntmps28
    go_wp2_with fail
    generalize hW : (w.alloc _).alloc _ = W
    have w0 : W.cell? ⟨w.heap.size, 0, none⟩ = some (.slice A xs.length c) := by subst hW; simp [go_sem]
    have w1 : W.cell? ⟨w.heap.size + 1, 0, none⟩ = some (.slice B ys.length d) := by subst hW; simp [go_sem]
    have ws : w.heap.size + 1 < W.heap.size := by subst hW; simp
    have WB : Hid (Below w.heap.size w W) := by
      subst hW
      exact blw_alloc (blw_alloc (Below.refl _ _) _) _
    clear hW
    go_loopw [5] (fun i wr => ∃ k : Nat, k ≤ xs.length ∧ i = .int .i64 (k : Int) ∧ Below W.heap.size W wr ∧ xs.take k = ys.take k) (fun i _ => xs.length - (intOf i).toNat)
    case atStart => exact ⟨0, Nat.zero_le _, rfl, Below.refl _ _, rfl⟩
    case round =>
      obtain ⟨k, hk, rfl, hb, ht⟩ := hrel
      have y0 : wr.cell? ⟨w.heap.size, 0, none⟩ = _ := ((bcell hb).1 _ _ (by omega)).trans w0
      have y1 : wr.cell? ⟨w.heap.size + 1, 0, none⟩ = _ := ((bcell hb).1 _ _ (by omega)).trans w1
      have HBW := Lib.hid hb
      have HB := Lib.hid (blw_then WB.out hb)
      have HT := Lib.hid ht
      clear hb ht
      by_cases hlt : k < xs.length
      · obtain ⟨x, hx⟩ : ∃ x, xs[k]? = some x := ⟨_, List.getElem?_eq_getElem hlt⟩
        have hlt2 : k < ys.length := by have := HL.out; omega
        obtain ⟨y, hy⟩ : ∃ y, ys[k]? = some y := ⟨_, List.getElem?_eq_getElem hlt2⟩
        obtain ⟨b1, o1, rfl, hb1, h1⟩ := HV.out.adr (fun e => by subst e; simp at hlt)
        obtain ⟨b2, o2, rfl, hb2, h2⟩ := HU.out.adr (fun e => by subst e; simp at hlt2)
        have d1 := h1 wr HB.out k x hx
        have d2 := h2 wr HB.out k y hy
        have HX := Lib.hid hx
        have HY := Lib.hid hy
        have i1 : (k : Int) < (xs.length : Int) := by omega
        have i2 : (k : Int) < (ys.length : Int) := by omega
        clear h1 h2 hx hy
        by_cases hxy : x = y
        · have bxy : (x != y) = false := by simp [hxy]
          have HXY := Lib.hid hxy
          clear hxy
          go_wp2_with fail
          go_quiet (fail)
          go_wp2
          go_roundw
          case rel => exact ⟨k + 1, by omega, by go_num, blw_drewN HBW.out _, take_same HT.out HX.out (by rw [HXY.out]; exact HY.out)⟩
          case measure => simp [intOf]; omega
        · have bxy : (x != y) = true := by simp [hxy]
          have HXY := Lib.hid hxy
          clear hxy
          go_wp2_with fail
          go_quiet (fail)
          go_wp2
          go_ret
          exact ⟨ret_bool (by simp; intro e; subst e; exact HXY.out (Option.some.inj (HX.out.symm.trans HY.out))), blw_drewN HB.out _⟩
      · obtain rfl : k = xs.length := by omega
        go_wp2
        go_ret
        exact ⟨ret_bool (by simp [take_whole HT.out HL.out]), HB.out⟩
  · have HL := Lib.hid hl
    have hne : ((xs.length : Int) != (ys.length : Int)) = true := by simp; omega
    clear hl hv hu
    go_enter Try.func28, Try.ntmps28
    go_wp2
    go_ret
    exact ⟨ret_bool (by simp; intro e; exact HL.out (by rw [e])), by with_reducible repeat (first | exact Below.refl _ _ | refine blw_alloc ?_ _)⟩
end Go.Proofs.Ytpfibcbeenogiaa
