/- Structs compared. -/
import Derived.Test.YtpfibcbeenogiaaBase
import Derived.Test.YtpfibcbeenogiaaProg
import Derived.Laws.StructEq
namespace Go.Proofs.Ytpfibcbeenogiaa
open Go.RowKit
set_option linter.unusedSimpArgs false
set_option linter.unusedVariables false
theorem ef_last {P : Program} {d : Nat} {xs ys : Array Value} {f : Field} {a b : Value} {r : Bool} {w : World} (hn : f.name ≠ "_") (ha : (part f.type xs f.offset).run P w = .ok a w) (hb : (part f.type ys f.offset).run P w = .ok b w)
    (he : (Op.equalIn d f.type a b).run P w = .ok r w) : (Op.eqFields d xs ys [f]).run P w = .ok r w := by
  simp only [Op.eqFields, if_pos hn, Sem.run_bind, ha, hb, he, Result.andThen_ok]
  cases r <;> simp
theorem ef_cons {P : Program} {d : Nat} {xs ys : Array Value} {f : Field} {fs : List Field} {a b : Value} {r s : Bool} {w : World} (hn : f.name ≠ "_") (ha : (part f.type xs f.offset).run P w = .ok a w) (hb : (part f.type ys f.offset).run P w = .ok b w)
    (he : (Op.equalIn d f.type a b).run P w = .ok r w) (hr : (Op.eqFields d xs ys fs).run P w = .ok s w) : (Op.eqFields d xs ys (f :: fs)).run P w = .ok (r && s) w := by
  rw [Op.eqFields]
  simp only [if_pos hn, Sem.run_bind, ha, hb, he, Result.andThen_ok]
  cases r
  · simp
  · simpa using hr
theorem ef_agg {P : Program} {d : Nat} {xs ys : Array Value} {r : Bool} {w : World} {t : TypeId} {fs : Array Field} (hu : P.underlying t = some (.struct fs)) (hp : P.stoodInHeld t = false) (h : (Op.eqFields d xs ys fs.toList).run P w = .ok r w) :
    (Op.equalIn (d + 1) t (.agg xs) (.agg ys)).run P w = .ok r w := by
  have hf : P.fieldsOf t = fs := by simp [Program.fieldsOf, hu]
  rw [run_equalIn_struct (P := P) w d t xs ys (by rw [hf]; exact hu) hp, hf]
  exact h
theorem eql_conf (d : Nat) (a b c e f a' b' c' e' f' : Int) (w : World) : (Op.equalIn (d + 2) 23 (.agg #[.int .i64 a, .int .i64 b, .int .i64 c, .int .i64 e, .int .i64 f]) (.agg #[.int .i64 a', .int .i64 b', .int .i64 c', .int .i64 e', .int .i64 f'])).run Try.prog w
    = .ok ((a == a') && ((b == b') && ((c == c') && ((e == e') && (f == f'))))) w := by
  have hi (x y : Int) : (Op.equalIn (d + 1) 3 (.int .i64 x) (.int .i64 y)).run Try.prog w = .ok (x == y) w := run_equalIn_int w d _ .i64 .i64 x y (by kernel_rfl)
  refine ef_agg Try.underlying23 (by kernel_rfl) ?_
  refine ef_cons (by simp) (by kernel_rfl) (by kernel_rfl) (hi _ _) ?_
  refine ef_cons (by simp) (by kernel_rfl) (by kernel_rfl) (hi _ _) ?_
  refine ef_cons (by simp) (by kernel_rfl) (by kernel_rfl) (hi _ _) ?_
  refine ef_cons (by simp) (by kernel_rfl) (by kernel_rfl) (hi _ _) ?_
  exact ef_last (by simp) (by kernel_rfl) (by kernel_rfl) (hi _ _)
theorem beq_lay (l m : Lay) : (((l.thr == m.thr) && ((l.locs == m.locs) && ((l.lks == m.lks) && ((l.sec == m.sec) && (l.man == m.man))))) && ((l.clk == m.clk) && ((l.stp == m.stp) && ((l.log == m.log) && ((l.fin == m.fin) && ((l.thd == m.thd) && ((l.lck == m.lck) && ((l.loc == m.loc) && (l.size == m.size))))))))) = decide (l = m) := by
  rw [Bool.eq_iff_iff]
  obtain ⟨⟩ := l
  obtain ⟨⟩ := m
  simp [and_assoc]
theorem beq_ou (a b : Ou) : ((a.val == b.val) && ((a.ver == b.ver) && ((a.rv == b.rv) && ((a.stamp == b.stamp) && ((a.is == b.is) && ((a.lost == b.lost) && (a.err == b.err))))))) = decide (a = b) := by
  rw [Bool.eq_iff_iff]
  obtain ⟨⟩ := a
  obtain ⟨⟩ := b
  simp [and_assoc]
theorem eql_lay (l m : Lay) (w : World) : (binOp .eql 25 l.v m.v).run Try.prog w = .ok (.bool (decide (l = m))) w := by
  have hi (d : Nat) (x y : Int) : (Op.equalIn (d + 1) 3 (.int .i64 x) (.int .i64 y)).run Try.prog w = .ok (x == y) w := run_equalIn_int w d _ .i64 .i64 x y (by kernel_rfl)
  have h : (Op.equalIn 10000 25 l.v m.v).run Try.prog w = .ok (((l.thr == m.thr) && ((l.locs == m.locs) && ((l.lks == m.lks) && ((l.sec == m.sec) && (l.man == m.man))))) && ((l.clk == m.clk) && ((l.stp == m.stp) && ((l.log == m.log) && ((l.fin == m.fin) && ((l.thd == m.thd) && ((l.lck == m.lck) && ((l.loc == m.loc) && (l.size == m.size))))))))) w := by
    refine ef_agg (d := 9999) Try.underlying25 (by kernel_rfl) ?_
    refine ef_cons (by simp) (by kernel_rfl) (by kernel_rfl) (eql_conf 9997 _ _ _ _ _ _ _ _ _ _ _) ?_
    iterate 7 refine ef_cons (by simp) (by kernel_rfl) (by kernel_rfl) (hi 9998 _ _) ?_
    exact ef_last (by simp) (by kernel_rfl) (by kernel_rfl) (hi 9998 _ _)
  rw [run_eql_struct, h, beq_lay]
  rfl
def Acc.eqb (a b : Acc) : Bool := (a.kind == b.kind) && ((a.cell == b.cell) && ((a.old == b.old) && ((a.new == b.new) && (a.bytes.toList == b.bytes.toList))))
theorem Acc.eqb_self (a : Acc) : a.eqb a = true := by simp [Acc.eqb]
theorem eql_acc (a b : Acc) (w : World) : (binOp .eql 39 a.v b.v).run Try.prog w = .ok (.bool (a.eqb b)) w := by
  have hi (d : Nat) (x y : Int) : (Op.equalIn (d + 1) 3 (.int .i64 x) (.int .i64 y)).run Try.prog w = .ok (x == y) w := run_equalIn_int w d _ .i64 .i64 x y (by kernel_rfl)
  have hs (d : Nat) (x y : ByteArray) : (Op.equalIn (d + 1) 9 (.string x) (.string y)).run Try.prog w = .ok (x.toList == y.toList) w := run_equalIn_string w d _ x y (by kernel_rfl)
  have h : (Op.equalIn 10000 39 a.v b.v).run Try.prog w = .ok (a.eqb b) w := by
    refine ef_agg (d := 9999) Try.underlying39 (by kernel_rfl) ?_
    iterate 4 refine ef_cons (by simp) (by kernel_rfl) (by kernel_rfl) (hi 9998 _ _) ?_
    exact ef_last (by simp) (by kernel_rfl) (by kernel_rfl) (hs 9998 _ _)
  rw [run_eql_struct, h]
  rfl
theorem eql_ou (a b : Ou) (w : World) : (binOp .eql 42 a.v b.v).run Try.prog w = .ok (.bool (decide (a = b))) w := by
  have hi (d : Nat) (x y : Int) : (Op.equalIn (d + 1) 3 (.int .i64 x) (.int .i64 y)).run Try.prog w = .ok (x == y) w := run_equalIn_int w d _ .i64 .i64 x y (by kernel_rfl)
  have he (d : Nat) (x y : Int) : (Op.equalIn (d + 1) 40 (.int .i64 x) (.int .i64 y)).run Try.prog w = .ok (x == y) w := run_equalIn_int w d _ .i64 .i64 x y (by kernel_rfl)
  have hb (d : Nat) (x y : Bool) : (Op.equalIn (d + 1) 4 (.bool x) (.bool y)).run Try.prog w = .ok (x == y) w := run_equalIn_bool' w d _ x y (by kernel_rfl)
  have h : (Op.equalIn 10000 42 a.v b.v).run Try.prog w = .ok ((a.val == b.val) && ((a.ver == b.ver) && ((a.rv == b.rv) && ((a.stamp == b.stamp) && ((a.is == b.is) && ((a.lost == b.lost) && (a.err == b.err))))))) w := by
    refine ef_agg (d := 9999) Try.underlying42 (by kernel_rfl) ?_
    iterate 4 refine ef_cons (by simp) (by kernel_rfl) (by kernel_rfl) (hi 9998 _ _) ?_
    iterate 2 refine ef_cons (by simp) (by kernel_rfl) (by kernel_rfl) (hb 9998 _ _) ?_
    exact ef_last (by simp) (by kernel_rfl) (by kernel_rfl) (he 9998 _ _)
  rw [run_eql_struct, h, beq_ou]
  rfl
end Go.Proofs.Ytpfibcbeenogiaa
