/- The examples of the documentation, computed by the kernel in the abstract machine. -/
import Derived.Test.YtgdceghclckfhaaGreatA04
import Derived.KernelRfl
set_option linter.unusedVariables false
set_option linter.unusedSimpArgs false
namespace Go.AM.T
open Go Go.AM
theorem sane : isTrue ((runR tbl 1000000).call 7 [] AHeap.empty) = true := by kernel_rfl
end Go.AM.T
