/- math/bits.TrailingZeros64 at 16. -/
import Derived.Test.YtohaalilplngnaaDoorProg
import Derived.WalkKit
import Derived.KernelRfl
namespace Go.Proofs.YtohaalilplngnaaDoor.ClassTz
open Go Go.RowKit
theorem key : IntKind.u64.wrap (bits BinOp.and IntKind.u64 16 (IntKind.u64.wrap (-16)) * 285870213051353865) / 288230376151711744 = 15 := by kernel_rfl
set_option maxHeartbeats 1000000 in
theorem tz16 (w : World) (hcell : w.cell? ⟨3, 15, none⟩ = some (.int .u8 4)) :
    Calls Tryd.prog 91 #[.int .u64 16] w fun e w' => e = .returned (.int .i64 4) ∧ w' = w := by
  go_enter Tryd.func91, Tryd.ntmps91
  go_wp2_with (simp only [key])
  go_ret
  exact ⟨rfl, rfl⟩
end Go.Proofs.YtohaalilplngnaaDoor.ClassTz
