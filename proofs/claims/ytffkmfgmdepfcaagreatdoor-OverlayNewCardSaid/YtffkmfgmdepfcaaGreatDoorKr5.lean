/- A closed run: shape 5. -/
import Derived.Test.YtffkmfgmdepfcaaGreatDoorTb1
import Derived.KernelRfl
namespace Go.Rk.Tb
open Go.Rk
theorem run5 : isT ((run (tb 5) 1000000).call 3 [.sym 0] ⟨.lf, 0⟩) = true := by kernel_rfl
end Go.Rk.Tb
