/- The range of a word. -/
import Derived.Test.YtphhgmeokmemlaaRows
import Derived.DataShut
namespace Go.Proofs.Ytphhgmeokmemlaa
theorem u64_range {n : Int} (h : (Lit.int .u64 n).wf = true) : 0 ≤ n ∧ n < 18446744073709551616 := by
  have := (Lit.wf_int_iff _ _).1 h
  rw [IntKind.min_u64, IntKind.max_u64] at this
  omega
theorem i64_range {n : Int} (h : (Lit.int .i64 n).wf = true) : -9223372036854775808 ≤ n ∧ n < 9223372036854775808 := by
  have := (Lit.wf_int_iff _ _).1 h
  rw [IntKind.min_i64, IntKind.max_i64] at this
  omega
end Go.Proofs.Ytphhgmeokmemlaa
