/- The run of ClusterRuns. -/
import Derived.Test.YtabllakilkjhkaaGreatDoorRuns
namespace Go.Proofs.YtabllakilkjhkaaGreatDoor.Tab
open Go.Ai
set_option maxRecDepth 100000
theorem cluster_run : gives (callN (ctx sumMake exts) 1000 60 4 [] (s0 (ctx none3 none2).ng)) (.bool true) = true := by kernel_rfl
end Go.Proofs.YtabllakilkjhkaaGreatDoor.Tab
