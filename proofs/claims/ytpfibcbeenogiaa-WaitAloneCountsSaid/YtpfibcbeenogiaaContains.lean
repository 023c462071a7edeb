/- slices.IndexFunc and ContainsFunc over the reads of a transaction, for any function value that runs a program of accesses. -/
import Derived.Test.YtpfibcbeenogiaaWaiters
namespace Go.Proofs.Ytpfibcbeenogiaa
open Go.RowKit
set_option linter.unusedSimpArgs false
set_option linter.unusedVariables false
def indexM (p : Sn → M Bool) : Int → List Sn → M Int
  | _, [] => M.ret (-1)
  | i, x :: xs => (p x).bind fun b => if b then M.ret i else indexM p (i + 1) xs
def containsM (p : Sn → M Bool) : List Sn → M Bool
  | [] => M.ret false
  | x :: xs => (p x).bind fun b => if b then M.ret true else containsM p xs
theorem contains_index (p : Sn → M Bool) (log : List Rs) : ∀ (xs : List Sn) (i : Int) (k : Nat), 0 ≤ i → (∃ b j k', containsM p xs log k = .ok (b, k') ∧ indexM p i xs log k = .ok (j, k') ∧ b = decide (0 ≤ j)) ∨ (∃ x, containsM p xs log k = .error x ∧ indexM p i xs log k = .error x)
  | [], i, k, hi => .inl ⟨false, -1, k, rfl, rfl, by simp⟩
  | x :: xs, i, k, hi => by
    cases hp : p x log k with
    | error a => exact .inr ⟨a, by simp [containsM, M.bind, hp], by simp [indexM, M.bind, hp]⟩
    | ok r =>
      obtain ⟨b, k1⟩ := r
      cases b
      · have := contains_index p log xs (i + 1) k1 (by omega)
        simpa [containsM, indexM, M.bind, hp] using this
      · exact .inl ⟨true, i, k1, by simp [containsM, M.bind, hp, M.ret], by simp [indexM, M.bind, hp, M.ret], by simp [hi]⟩
/-- What a call leaves that runs a program. -/
def Went {α : Type} (X : Nat → Prop) (w : World) (log : List Rs) (k : Nat) (p : M α) (enc : α → Value) (St : Nat → World → Prop) (Pn : World → Prop) (e : Ending) (w' : World) : Prop :=
  Keep X w w' ∧ ((∃ a k', p log k = .ok (a, k') ∧ e = .returned (enc a) ∧ St k' w') ∨ (∃ x, p log k = .error x ∧ e = .panicked (chainOf x) ∧ Pn w'))
set_option maxHeartbeats 1000000 in
theorem sl_Index (g : Nat) (cp : Value) (p : Sn → M Bool) (X : Nat → Prop) (St : Nat → World → Prop) (Pn : World → Prop) (log : List Rs) (vs : Value) (seen : List Sn) (k0 : Nat) (w : World)
    (hs : SlR 3 Sn.cells w vs seen) (hsep : seen ≠ [] → ∀ b, vs.ownBlock = some b → ¬ X b)
    (hF : ∀ (args : Array Value) (w : World), (callFunc g args).run Try.prog w = .ok (.enter g args) w)
    (hp : ∀ x, x ∈ seen → ∀ k W, St k W → Calls Try.prog g #[.agg #[.int .i64 x.loc, .int .i64 x.ver, .int .i64 x.val], cp] W (Went X W log k (p x) (fun b => .bool b) St Pn))
    (h0 : St k0 w) : Calls Try.prog 104 #[vs, .func (.func g) #[] #[cp]] w (Went X w log k0 (indexM p 0 seen) (fun n => .int .i64 n) St Pn) := by
  have HS := Lib.hid hs
  have HSEP := Lib.hid hsep
  have HP := Lib.hid hp
  have H0 := Lib.hid h0
  obtain ⟨A, c, rfl, hc1, hc2, -⟩ := hs.out
  clear hs hsep hp h0
  generalize hR0 : indexM p 0 seen log k0 = R0
  have HR0 := Lib.hid hR0
  clear hR0
  have hgoal : ∀ e w', (Keep X w w' ∧ ((∃ a k', R0 = .ok (a, k') ∧ e = .returned (.int .i64 a) ∧ St k' w') ∨ (∃ x, R0 = .error x ∧ e = .panicked (chainOf x) ∧ Pn w'))) → Went X w log k0 (indexM p 0 seen) (fun n => .int .i64 n) St Pn e w' := by
    intro e w' h
    unfold Went
    rw [HR0.out]
    exact h
  refine Calls.mono (R := fun e w' => Keep X w w' ∧ ((∃ a k', R0 = .ok (a, k') ∧ e = .returned (.int .i64 a) ∧ St k' w') ∨ (∃ x, R0 = .error x ∧ e = .panicked (chainOf x) ∧ Pn w'))) ?_ hgoal
  clear hgoal
  go_enter Try.func104, Try.ntmps104
  go_wp2_with fail
  go_loopw [5, 8] (fun _ i wr => ∃ (n k : Nat), n ≤ seen.length ∧ i = .int .i64 (n : Int) ∧ Keep X w wr ∧ St k wr ∧ indexM p (n : Int) (seen.drop n) log k = R0) (fun _ i _ => seen.length - (intOf i).toNat)
  case atStart => exact ⟨0, k0, Nat.zero_le _, rfl, Keep.refl _ _, H0.out, by simpa using HR0.out⟩
  case round =>
    obtain ⟨n, k, hn, rfl, hK, hSt, hE⟩ := hrel
    have HS2 := Lib.hid (HS.out.stayN hK.size (fun hne b' hb' hl' => hK.block b' hl' (HSEP.out hne b' hb')))
    have HK := Lib.hid hK
    have HST := Lib.hid hSt
    have HE := Lib.hid hE
    clear hK hSt hE
    by_cases hlt : n < seen.length
    · obtain ⟨x, hx⟩ : ∃ x, seen[n]? = some x := ⟨_, List.getElem?_eq_getElem hlt⟩
      obtain ⟨A', c', h1, h2, h3, h4⟩ := HS2.out.out
      obtain ⟨bs, os, hAs, hbs, hcs⟩ := h4 (by intro e; simp [e] at hlt)
      simp only [Value.slice.injEq] at h1
      obtain ⟨rfl, -, rfl⟩ := h1
      subst hAs
      have e0 := hcs n x hx 0 _ rfl
      have e1 := hcs n x hx 1 _ rfl
      have e2 := hcs n x hx 2 _ rfl
      simp only [Nat.add_zero] at e0
      have hdrop : seen.drop n = x :: seen.drop (n + 1) := by rw [List.drop_eq_getElem_cons hlt]; rw [List.getElem?_eq_getElem hlt] at hx; simp only [Option.some.injEq] at hx; rw [hx]
      have HDR := Lib.hid hdrop
      have HC := Lib.hid (HP.out x (List.mem_of_getElem? hx) k wr HST.out)
      obtain ⟨lo, ve, va⟩ := x
      clear h2 h3 h4 hcs hx hdrop
      go_wp2_with fail
      refine HC.out.mono ?_
      rintro e W4 ⟨hK4, ⟨bb, k', hF', rfl, hSt4⟩ | ⟨ac, hF', rfl, hPn⟩⟩
      · have HK4 := Lib.hid (HK.out.trans hK4)
        have HST4 := Lib.hid hSt4
        clear hK4 hSt4
        cases bb
        · have HE4 : Hid (indexM p ((n : Int) + 1) (seen.drop (n + 1)) log k' = R0) := by
            show _ = _
            rw [← HE.out, HDR.out]
            simp [indexM, M.bind, hF']
          clear hF'
          go_wp2_with fail
          go_roundw
          case rel => exact ⟨n + 1, k', by omega, by go_num, HK4.out, HST4.out, HE4.out⟩
          case measure => simp [intOf]; omega
        · have HE4 : Hid (R0 = .ok ((n : Int), k')) := by
            show _ = _
            rw [← HE.out, HDR.out]
            simp [indexM, M.bind, hF', M.ret]
          clear hF'
          go_wp2
          go_ret
          exact ⟨HK4.out, .inl ⟨_, k', HE4.out, rfl, HST4.out⟩⟩
      · have HK4 := Lib.hid (HK.out.trans hK4)
        have HE4 : Hid (R0 = .error ac) := by
          show _ = _
          rw [← HE.out, HDR.out]
          simp [indexM, M.bind, hF']
        have HPN := Lib.hid hPn
        clear hK4 hPn hF'
        go_wp2_with fail
        exact ⟨rfl, HK4.out, .inr ⟨ac, HE4.out, rfl, HPN.out⟩⟩
    · have hn2 : n = seen.length := by omega
      subst hn2
      go_wp2
      go_ret
      refine ⟨HK.out, .inl ⟨-1, k, ?_, rfl, HST.out⟩⟩
      rw [← HE.out]
      simp [indexM, M.ret]
theorem sl_Contains (g : Nat) (cp : Value) (p : Sn → M Bool) (X : Nat → Prop) (St : Nat → World → Prop) (Pn : World → Prop) (log : List Rs) (vs : Value) (seen : List Sn) (k0 : Nat) (w : World)
    (hs : SlR 3 Sn.cells w vs seen) (hsep : seen ≠ [] → ∀ b, vs.ownBlock = some b → ¬ X b)
    (hF : ∀ (args : Array Value) (w : World), (callFunc g args).run Try.prog w = .ok (.enter g args) w)
    (hp : ∀ x, x ∈ seen → ∀ k W, St k W → Calls Try.prog g #[.agg #[.int .i64 x.loc, .int .i64 x.ver, .int .i64 x.val], cp] W (Went X W log k (p x) (fun b => .bool b) St Pn))
    (h0 : St k0 w) : Calls Try.prog 86 #[vs, .func (.func g) #[] #[cp]] w (Went X w log k0 (containsM p seen) (fun b => .bool b) St Pn) := by
  have HI := Lib.hid (sl_Index g cp p X St Pn log vs seen k0 w hs hsep hF hp h0)
  obtain ⟨A, c, rfl, -⟩ := hs.out
  clear hs hsep hp h0
  go_enter Try.func86, Try.ntmps86
  go_wp2_with fail
  refine HI.out.mono ?_
  rintro e W ⟨hK, ⟨j, k', hj, rfl, hSt⟩ | ⟨x, hx, rfl, hPn⟩⟩
  · have HK := Lib.hid hK
    have HST := Lib.hid hSt
    have HJ : Hid (containsM p seen log k0 = .ok (decide (0 ≤ j), k')) := by
      show _ = _
      rcases contains_index p log seen 0 k0 (Int.le_refl _) with ⟨b, j', k1, h1, h2, h3⟩ | ⟨y, h1, h2⟩
      · rw [hj] at h2
        simp only [Except.ok.injEq, Prod.mk.injEq] at h2
        obtain ⟨rfl, rfl⟩ := h2
        rw [h1, h3]
      · rw [hj] at h2
        cases h2
    clear hK hSt hj
    go_wp2
    go_ret
    exact ⟨HK.out, .inl ⟨_, k', HJ.out, rfl, HST.out⟩⟩
  · have HK := Lib.hid hK
    have HPN := Lib.hid hPn
    have HX : Hid (containsM p seen log k0 = .error x) := by
      show _ = _
      rcases contains_index p log seen 0 k0 (Int.le_refl _) with ⟨b, j', k1, h1, h2, h3⟩ | ⟨y, h1, h2⟩
      · rw [hx] at h2
        cases h2
      · rw [hx] at h2
        simp only [Except.error.injEq] at h2
        rw [h1, h2]
    clear hK hPn hx
    go_wp2_with fail
    exact ⟨rfl, HK.out, .inr ⟨x, HX.out, rfl, HPN.out⟩⟩
end Go.Proofs.Ytpfibcbeenogiaa
