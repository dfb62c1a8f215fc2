/- The walks of varint.Zig and varint.Zag: each answers the plain number that zigI, zagI say, for every argument. -/
import Derived.Test.YtfkjojagdgbhdaaRows
import Derived.Test.YtfkjojagdgbhdaaPBits
import Derived.WalkKit
import Derived.WalkSpells
import Derived.WalkLawsBesides
import Derived.Lib.Hide
namespace Go.Proofs.Ytfkjojagdgbhdaa
open Go.RowKit
set_option maxHeartbeats 400000 in
theorem zig_any (n : Int) (w : World) (h0 : -9223372036854775808 ≤ n) (h1 : n ≤ 9223372036854775807) :
    Calls Try.prog 15 #[.int .i64 n] w fun e w' => e = .returned (.int .u64 (zigI n)) ∧ w = w' := by
  have hz := Lib.hid (zig_bits n h0 h1)
  go_enter Try.func15, Try.ntmps15
  go_wp2
  go_ret
  exact ⟨congrArg (fun z => Ending.returned (.int .u64 z)) hz.out, rfl⟩
set_option maxHeartbeats 400000 in
theorem zag_any (n : Int) (w : World) (h0 : 0 ≤ n) (h1 : n ≤ 18446744073709551615) :
    Calls Try.prog 16 #[.int .u64 n] w fun e w' => e = .returned (.int .i64 (zagI n)) ∧ w = w' := by
  have hz := Lib.hid (zag_bits n h0 h1)
  go_enter Try.func16, Try.ntmps16
  go_wp2
  go_ret
  exact ⟨congrArg (fun z => Ending.returned (.int .i64 z)) hz.out, rfl⟩
end Go.Proofs.Ytfkjojagdgbhdaa
