/- What the functions of package num return: each walked once. -/
import Derived.Test.YtokioemmjfjhkaaProg
import Derived.Test.YtokioemmjfjhkaaNumP
import Derived.WalkKit
import Derived.WalkSpells
import Derived.WalkLawsBesides
import Derived.Lib.Hide
import Derived.Deep.QuietTactic
import Derived.BigQuiet
namespace Go.Proofs.Ytokioemmjfjhkaa
open Go.RowKit
namespace Num
theorem ret2 {a b c d : Int} (h1 : a = c) (h2 : b = d) : Ending.returned (.tuple #[.int .i64 a, .int .i64 b]) = .returned (.tuple #[.int .i64 c, .int .i64 d]) := by rw [h1, h2]
theorem ret1 {k : IntKind} {a c : Int} (h1 : a = c) : Ending.returned (.int k a) = .returned (.int k c) := by rw [h1]
theorem u64_small {n : Int} (h : 0 ≤ n) (h1 : n ≤ 9223372036854775807) : n = (n.natAbs : Int) := by omega
theorem u64_neg {n : Int} (h : n < 0) (h1 : -9223372036854775808 ≤ n) : IntKind.u64.wrap (-IntKind.u64.wrap n) = (n.natAbs : Int) := by
  rw [IntKind.wrap_u64, IntKind.wrap_u64]; omega
theorem gcd_step (a b : Nat) (_h : b ≠ 0) : Nat.gcd b (a % b) = Nat.gcd a b := by
  rw [Nat.gcd_comm b, ← Nat.gcd_rec, Nat.gcd_comm]
end Num
end Go.Proofs.Ytokioemmjfjhkaa
