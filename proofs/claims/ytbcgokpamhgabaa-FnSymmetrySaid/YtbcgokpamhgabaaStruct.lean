/- Two lines, or two boards, against each other by == and !=. -/
import Derived.Test.YtbcgokpamhgabaaHelp
import Derived.Laws.StructEq
set_option linter.unusedVariables false
namespace Go.Proofs.Ytbcgokpamhgabaa
open Go.RowKit Go.Sort

theorem eqL_and (a b : Ln) : eqL a b = ((a.f == b.f) && ((a.o == b.o) && (a.t == b.t))) := by rw [Bool.eq_iff_iff]; simp [eqL, Ln.ext_iff']
theorem line_eql (a b : Ln) (w : World) : (binOp .eql 34 (.agg #[.int .i64 a.f, .int .i64 a.o, .int .i64 a.t]) (.agg #[.int .i64 b.f, .int .i64 b.o, .int .i64 b.t])).run Try.prog w = .ok (.bool (eqL a b)) w := by
  rw [eqL_and, run_eql_struct, run_equalIn_agg _ _ _ _ _ (by kernel_rfl) (by kernel_rfl)]
  cases h1 : a.f == b.f <;> cases h2 : a.o == b.o <;> cases h3 : a.t == b.t <;> simp [go_sem, Try.underlying34, Try.underlying3, h1, h2, h3]
theorem line_neq (a b : Ln) (w : World) : (binOp .neq 34 (.agg #[.int .i64 a.f, .int .i64 a.o, .int .i64 a.t]) (.agg #[.int .i64 b.f, .int .i64 b.o, .int .i64 b.t])).run Try.prog w = .ok (.bool (!eqL a b)) w := by
  rw [eqL_and, run_neq_struct, run_equalIn_agg _ _ _ _ _ (by kernel_rfl) (by kernel_rfl)]
  cases h1 : a.f == b.f <;> cases h2 : a.o == b.o <;> cases h3 : a.t == b.t <;> simp [go_sem, Try.underlying34, Try.underlying3, h1, h2, h3]
theorem board_eql (a b : Ln) (w : World) : (binOp .eql 42 (.agg #[.int .i64 a.f, .int .i64 a.o, .int .i64 a.t]) (.agg #[.int .i64 b.f, .int .i64 b.o, .int .i64 b.t])).run Try.prog w = .ok (.bool (eqL a b)) w := by
  rw [eqL_and, run_eql_struct, run_equalIn_agg _ _ _ _ _ (by kernel_rfl) (by kernel_rfl)]
  cases h1 : a.f == b.f <;> cases h2 : a.o == b.o <;> cases h3 : a.t == b.t <;> simp [go_sem, Try.underlying42, Try.underlying3, h1, h2, h3]
theorem board_neq (a b : Ln) (w : World) : (binOp .neq 42 (.agg #[.int .i64 a.f, .int .i64 a.o, .int .i64 a.t]) (.agg #[.int .i64 b.f, .int .i64 b.o, .int .i64 b.t])).run Try.prog w = .ok (.bool (!eqL a b)) w := by
  rw [eqL_and, run_neq_struct, run_equalIn_agg _ _ _ _ _ (by kernel_rfl) (by kernel_rfl)]
  cases h1 : a.f == b.f <;> cases h2 : a.o == b.o <;> cases h3 : a.t == b.t <;> simp [go_sem, Try.underlying42, Try.underlying3, h1, h2, h3]
end Go.Proofs.Ytbcgokpamhgabaa
