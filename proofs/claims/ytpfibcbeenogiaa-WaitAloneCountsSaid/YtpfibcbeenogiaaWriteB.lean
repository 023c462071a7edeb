/- hallmootlaw21: a step of a writer, all cases in one. -/
import Derived.Test.YtpfibcbeenogiaaWrite
namespace Go.Proofs.Ytpfibcbeenogiaa
open Go.RowKit
set_option linter.unusedSimpArgs false
set_option linter.unusedVariables false
def WOk (xs : List Int) (wr : Wr) : Prop := 0 ≤ wr.nxt ∧ wr.nxt ≤ (xs.length : Int) ∧ (wr.at_ ≠ 0 → 1 ≤ wr.nxt)
theorem tab_write (l : Lay) (t : Tb) (tb wb n i : Nat) (xs : List Int) (s : Ws) (vr : Value) (C : Array Value) (vseen vwant vturns : Value) (w : World) (hne : tb ≠ wb)
    (hT : w.heap[tb]? = some (.cells { t with vw := .slice (some ⟨wb, 0, none⟩) n n, bad := s.bad }.cells 87 (0, 0)))
    (hW : w.heap[wb]? = some (.cells C 138 (0, 0))) (hCs : i * 4 + 4 ≤ C.size)
    (hc0 : C[i * 4]? = some (.int .i64 s.wr.nxt)) (hc1 : C[i * 4 + 1]? = some (.int .i64 s.wr.at_)) (hc2 : C[i * 4 + 2]? = some (.int .i64 s.wr.ver)) (hc3 : C[i * 4 + 3]? = some vr)
    (hr : SlR 5 Acc.cells w vr s.wr.rouse) (hrt : TyR 39 w vr)
    (hm : IntsR w t.vm s.cs) (hty : Typed w t.vm) (hlen : s.cs.length ≤ 1048576)
    (hp : WantI w vwant n i xs) (hnx : (xs.length : Int) ≤ 1000000) (hnat : n ≤ 1000000) (hthr : 0 ≤ l.thr ∧ l.thr ≤ 4) (hok : WOk xs s.wr) :
    Calls Try.prog 70 #[.pointer (some ⟨tb, 0, none⟩), l.v, .agg #[vseen, vwant, vturns], .int .i64 (i : Int)] w (WritePost { t with vw := .slice (some ⟨wb, 0, none⟩) n n, bad := s.bad } tb wb (i * 4) C w (writeS l xs (i : Int) s)) := by
  obtain ⟨h0, h2, h1⟩ := hok
  by_cases h : s.wr.at_ = 0
  · by_cases he : s.wr.nxt = (xs.length : Int)
    · exact tab_writeE l t tb wb n i xs s vr C vseen vwant vturns w hne hT hW hCs hc0 hc1 hc2 hc3 hr hrt hm hty hlen hp hnx hnat h he
    · exact tab_write0 l t tb wb n i xs s vr C vseen vwant vturns w hne hT hW hCs hc0 hc1 hc2 hc3 hr hrt hm hty hlen hp hnx hnat h (by omega) h0
  · have h1' := h1 h
    by_cases g1 : s.wr.at_ = 1
    · exact tab_write1 l t tb wb n i xs s vr C vseen vwant vturns w hne hT hW hCs hc0 hc1 hc2 hc3 hr hrt hm hty hlen hp hnx hnat g1 h1' h2
    by_cases g2 : s.wr.at_ = 2
    · exact tab_write2 l t tb wb n i xs s vr C vseen vwant vturns w hne hT hW hCs hc0 hc1 hc2 hc3 hr hrt hm hty hlen hp hnx hnat g2 h1' h2
    by_cases g3 : s.wr.at_ = 3
    · exact tab_write3 l t tb wb n i xs s vr C vseen vwant vturns w hne hT hW hCs hc0 hc1 hc2 hc3 hr hrt hm hty hlen hp hnx hnat g3 h1' h2
    by_cases g4 : s.wr.at_ = 4
    · exact tab_write4 l t tb wb n i xs s vr C vseen vwant vturns w hne hT hW hCs hc0 hc1 hc2 hc3 hr hrt hm hty hlen hp hnx hnat g4 h1' h2 hthr
    exact tab_write5 l t tb wb n i xs s vr C vseen vwant vturns w hne hT hW hCs hc0 hc1 hc2 hc3 hr hrt hm hty hlen hp hnx hnat (by omega) h1' h2
/-- A writer's step keeps it within its limits. -/
theorem writeS_ok (l : Lay) (xs : List Int) (i : Int) (s : Ws) (h : WOk xs s.wr) : WOk xs (writeS l xs i s).wr := by
  obtain ⟨cs, bad, ⟨nxt, at_, ver, rouse⟩⟩ := s
  obtain ⟨h0, h2, h1⟩ := h
  simp only at h0 h1 h2
  unfold writeS
  simp only
  split
  · exact ⟨h0, h2, h1⟩
  · rename_i hn
    split
    · rename_i ha
      have hlt : ¬ nxt ≥ (xs.length : Int) := fun g => hn ⟨ha, g⟩
      simp only [WOk]
      split
      · exact ⟨by simp only []; omega, by simp only []; omega, fun _ => by simp only []; omega⟩
      · exact ⟨h0, h2, fun g => absurd ha g⟩
    · rename_i ha
      have h1' := h1 ha
      split
      · simp only [WOk]
        split
        · exact ⟨h0, h2, fun _ => h1'⟩
        · exact ⟨by simp only []; omega, by simp only []; omega, fun g => absurd rfl g⟩
      · split
        · exact ⟨h0, h2, fun _ => h1'⟩
        · split
          · exact ⟨h0, h2, fun _ => h1'⟩
          · split
            · exact ⟨h0, h2, fun _ => h1'⟩
            · split
              · exact ⟨h0, h2, fun g => absurd rfl g⟩
              · exact ⟨h0, h2, fun _ => h1'⟩
theorem writeS_length (l : Lay) (xs : List Int) (i : Int) (s : Ws) : (writeS l xs i s).cs.length = s.cs.length := by
  unfold writeS
  simp only
  split
  · rfl
  · split
    · exact memDo_length _ _
    · split
      · exact memDo_length _ _
      · split
        · exact memDo_length _ _
        · split
          · exact memDo_length _ _
          · split
            · exact memDo_length _ _
            · split
              · rfl
              · exact memDo_length _ _
theorem sleepS_length (l : Lay) (seen : List Sn) (s : Sl) : (sleepS l seen s).cs.length = s.cs.length := by
  unfold sleepS
  split
  · rfl
  · split
    · unfold endS
      simp only
      split <;> split <;> rfl
    · exact memDo_length _ _
theorem sleepS_log (l : Lay) (seen : List Sn) (s : Sl) : (sleepS l seen s).log.length ≤ s.log.length + 1 := by
  unfold sleepS
  split
  · omega
  · split
    · unfold endS
      simp only
      split <;> split <;> simp
    · simp [accessS]
end Go.Proofs.Ytpfibcbeenogiaa
