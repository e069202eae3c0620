/- The tables of the given program for the machine, and two calls that are known once they are run. Without conditions. -/
import Derived.Test.YtkkieaphblcjjaaGreatProg
import Derived.Test.YtkkieaphblcjjaaGreatG

namespace Go.AM
/-- what a run comes to, as a test -/
noncomputable def runIs (C : Cfg) (lvl fuel : Nat) (f : FuncId) (args : List AVal) (blks : List (Nat × ABlk)) (r : AVal) : Bool :=
  match callRunF C lvl fuel f args blks with
  | some v => beqV 4 v r && freeV 4 r
  | none => false
noncomputable def rowOf (e : TypeId) (l : List AVal) : ABlk := .row e l.length (Tr.leaf.setList 0 l id)
end Go.AM

namespace Go.Proofs.YtkkieaphblcjjaaGreat
open Go.AM
noncomputable def tyT : Tr TypeInfo := Tr.build 1000 Tryz.prog.types.toList
noncomputable def fnT : Tr Func := Tr.build 1000 Tryz.prog.funcs.toList
def PL : List TypeId := [69, 70, 75, 76, 88, 89, 90, 91, 105, 106, 143, 144, 182, 183, 153, 154, 300, 301, 340, 341]
noncomputable def CC (lo : Nat) (memo : List Memo) : Cfg := { P := Tryz.prog, ty := tyT, fns := fnT, lo := lo, memo := memo, forky := [299], plain := PL, canon := [(299, [8, 9, 10, 11, 12, 5, 4, 13, 14, 15, 16, 17, 18, 19, 20, 21, 22, 23, 24, 25, 26, 27, 28, 29, 30])] }
/-- the program that 'live' reads, as reticuleref09.Sound and prog.Sound meet it -/
def aSound : List AVal := [.agg [.slice 0 0 1 1 3, .slice 1 0 1 1 6, .slice 2 0 1 1 8, .slice 3 0 1 1 1]]
noncomputable def bSound9 : List (Nat × ABlk) := [(0, rowOf 144 [.str [97], .int .u8 (.ofNat 2), .int .u8 (.ofNat 1)]), (1, rowOf 179 [.int .u8 (.ofNat 1), .int .u8 (.ofNat 1), .int .u8 (.ofNat 0), .str [], .int .i64 (.ofNat 1), .nilslice]), (2, rowOf 100 [.int .u8 (.ofNat 3), .str [], .int .u8 (.ofNat 0), .int .i64 (.negSucc 0), .int .i64 (.negSucc 0), .slice 4 0 1 1 6, .nilslice, .nilslice]), (3, rowOf 3 [.int .i64 (.ofNat 0)]), (4, rowOf 183 [.int .u8 (.ofNat 2), .str [97], .int .u8 (.ofNat 1), .bool false, .int .i64 (.ofNat 0), .int .i64 (.negSucc 0)])]
noncomputable def bSound : List (Nat × ABlk) := [(0, rowOf 144 [.str [97], .int .u8 (.ofNat 2), .int .u8 (.ofNat 1)]), (1, rowOf 179 [.int .u8 (.ofNat 1), .int .u8 (.ofNat 1), .int .u8 (.ofNat 0), .str [], .int .i64 (.ofNat 1), .slice 4 0 0 0 1]), (2, rowOf 100 [.int .u8 (.ofNat 3), .str [], .int .u8 (.ofNat 0), .int .i64 (.negSucc 0), .int .i64 (.negSucc 0), .slice 5 0 1 1 6, .slice 6 0 0 0 1, .slice 7 0 0 0 1]), (3, rowOf 3 [.int .i64 (.ofNat 0)]), (4, rowOf 3 []), (5, rowOf 183 [.int .u8 (.ofNat 2), .str [97], .int .u8 (.ofNat 1), .bool false, .int .i64 (.ofNat 0), .int .i64 (.negSucc 0)]), (6, rowOf 3 []), (7, rowOf 3 [])]
noncomputable def memos : List Memo := [⟨157, aSound, bSound9, .bool true⟩, ⟨140, aSound, bSound, .bool true⟩]
end Go.Proofs.YtkkieaphblcjjaaGreat
