/- prog.Sound says true of the program that 'live' reads, in whatever order its maps are gone through: run by the machine. Without conditions. -/
import Derived.Test.YtkkieaphblcjjaaGreatK
namespace Go.Proofs.YtkkieaphblcjjaaGreat
open Go.AM
theorem sound : runIs (CC 10 []) 1 100000 140 aSound bSound (.bool true) = true := by decide +kernel
end Go.Proofs.YtkkieaphblcjjaaGreat
