/- reticuleref09.Sound says true of the program that 'live' reads: run by the machine. Without conditions. -/
import Derived.Test.YtkkieaphblcjjaaGreatK
namespace Go.Proofs.YtkkieaphblcjjaaGreat
open Go.AM
theorem sound9 : runIs (CC 10 []) 1 100000 157 aSound bSound9 (.bool true) = true := by decide +kernel
end Go.Proofs.YtkkieaphblcjjaaGreat
