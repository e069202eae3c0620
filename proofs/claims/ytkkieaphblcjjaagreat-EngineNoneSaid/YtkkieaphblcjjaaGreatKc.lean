/- 'live' says true, where the two calls are known: run by the machine. Without conditions. -/
import Derived.Test.YtkkieaphblcjjaaGreatK
namespace Go.Proofs.YtkkieaphblcjjaaGreat
open Go.AM
theorem live : runIs (CC 0 memos) 1 100000 7 [] [] (.bool true) = true := by decide +kernel
end Go.Proofs.YtkkieaphblcjjaaGreat
