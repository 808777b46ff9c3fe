/- The examples of the chapter hold: a closed run, computed by the kernel. -/
import Derived.Test.YtakejcabekdhcaaGreatDoorH3
import Derived.KernelRfl
namespace Go.Proofs.YtakejcabekdhcaaGreatDoor
open Go.Ev Go.RowKit

theorem example_run : isTrue (cl2 hk (Env.of Tryz.prog) (ev hk (Env.of Tryz.prog) 100000) 5 [] heap0) = true := by kernel_rfl
theorem example_any (w : World) : Calls Tryz.prog 5 #[] w fun e w' => e = .returned (.bool true) ∧ Below w.heap.size w w' := closed_true good hook_ok 100000 5 example_run w

end Go.Proofs.YtakejcabekdhcaaGreatDoor
