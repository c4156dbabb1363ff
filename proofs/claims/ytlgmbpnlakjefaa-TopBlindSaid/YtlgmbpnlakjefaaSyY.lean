/- The seat's program: its type table is right, its functions' rows. -/
import Derived.Test.YtlgmbpnlakjefaaSyX
import Derived.Test.YtlgmbpnlakjefaaTab
namespace Go.Proofs.Ytlgmbpnlakjefaa
open Go.Sy
theorem tabOk : TabOk Try.prog tab := tabChk_ok (by kernel_rfl)
theorem mixed : Try.prog.follows .mixedOrders = true := by kernel_rfl
end Go.Proofs.Ytlgmbpnlakjefaa
