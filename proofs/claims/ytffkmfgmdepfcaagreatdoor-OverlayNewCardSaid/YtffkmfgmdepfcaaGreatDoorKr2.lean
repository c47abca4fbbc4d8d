/- A closed run: shape 2. -/
import Derived.Test.YtffkmfgmdepfcaaGreatDoorTb1
import Derived.KernelRfl
namespace Go.Rk.Tb
open Go.Rk
theorem run2 : isT ((run (tb 2) 1000000).call 3 [.sym 0] ⟨.lf, 0⟩) = true := by kernel_rfl
end Go.Rk.Tb
