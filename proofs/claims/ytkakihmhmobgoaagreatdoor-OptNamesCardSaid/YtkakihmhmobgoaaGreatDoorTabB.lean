/- The evaluator's code of the functions that the claim's way takes, and the table of them: printed by a program; the kernel compares it with the given program's code. -/
import Derived.Test.YtkakihmhmobgoaaGreatDoorTabA
namespace Go.Ev.Tab
/-- slices.EqualFunc[[]int,[]int,int,int] -/
def e184 : EFunc := { own := none, res := [(.tmp 6)], ntmps := 32, pure := false, body :=
 (.seq (.reg [⟨(some 6), (.dry (.mov (.k (.bool false)))), none⟩])
 (.seq (.seq (.reg [⟨(some 10), (.dry (.mov (.t 0))), none⟩,
 ⟨(some 11), (.dry (.len (.t 10))), none⟩,
 ⟨(some 12), (.dry (.mov (.t 1))), none⟩,
 ⟨(some 13), (.dry (.len (.t 12))), none⟩,
 ⟨(some 14), (.dry (.eq (.prim .i) true (.t 11) (.t 13))), none⟩])
 (.cond (.t 14)
 (.seq (.reg [⟨(some 6), (.dry (.mov (.k (.bool false)))), none⟩])
 .ret)
 .skip))
 (.seq (.seq (.reg [⟨(some 15), (.dry (.mov (.t 0))), none⟩,
 ⟨(some 16), (.dry (.len (.t 15))), none⟩,
 ⟨(some 17), (.dry (.mov (.k (.int .i64 0)))), none⟩])
 (.block 0
 (.loop
 (.seq (.reg [⟨(some 18), (.dry (.bin .lss (.t 17) (.t 16))), none⟩])
 (.seq (.cond (.t 18)
 .skip
 (.exit 0))
 (.seq (.block 1
 (.seq (.reg [⟨(some 19), (.dry (.mov (.t 17))), none⟩,
 ⟨(some 20), (.dry (.iaddr 1 (.t 15) (.t 17))), none⟩,
 ⟨(some 21), (.wet (.load 1 false (.t 20))), none⟩,
 ⟨(some 7), (.dry (.mov (.t 19))), none⟩,
 ⟨(some 8), (.dry (.mov (.t 21))), none⟩])
 (.seq (.reg [⟨(some 22), (.dry (.mov (.t 1))), none⟩,
 ⟨(some 23), (.dry (.mov (.t 7))), none⟩,
 ⟨(some 24), (.dry (.iaddr 1 (.t 22) (.t 23))), none⟩,
 ⟨(some 25), (.wet (.load 1 false (.t 24))), none⟩,
 ⟨(some 9), (.dry (.mov (.t 25))), none⟩])
 (.seq (.reg [⟨(some 26), (.dry (.mov (.t 2))), none⟩,
 ⟨(some 27), (.dry (.mov (.t 8))), none⟩,
 ⟨(some 28), (.dry (.mov (.t 9))), none⟩,
 ⟨(some 29), (.call (.t 26) [(.t 27), (.t 28)]), none⟩,
 ⟨(some 30), (.dry (.not (.t 29))), none⟩])
 (.cond (.t 30)
 (.seq (.reg [⟨(some 6), (.dry (.mov (.k (.bool false)))), none⟩])
 .ret)
 .skip)))))
 (.reg [⟨(some 31), (.dry (.bin .add (.t 17) (.k (.int .i64 1)))), none⟩,
 ⟨(some 17), (.dry (.mov (.t 31))), none⟩])))))))
 (.seq (.reg [⟨(some 6), (.dry (.mov (.k (.bool true)))), none⟩])
 .ret)))) }

/-- (*bellcrank/ssa.checker).asks$1 -/
def e185 : EFunc := { own := none, res := [(.tmp 7)], ntmps := 66, pure := false, body :=
 (.seq (.reg [⟨(some 7), (.dry (.mov (.k (.bool false)))), none⟩])
 (.seq (.seq (.reg [⟨(some 9), (.dry (.mov (.t 0))), none⟩,
 ⟨(some 10), (.dry (.bin .lss (.t 9) (.k (.int .i64 0)))), none⟩,
 ⟨(some 11), (.dry (.mov (.t 10))), none⟩,
 ⟨(some 12), (.dry (.mov (.t 0))), (some (11, false))⟩,
 ⟨(some 13), (.wet (.load 1 false (.t 2))), (some (11, false))⟩,
 ⟨(some 14), (.dry (.nilchk (.t 13))), (some (11, false))⟩,
 ⟨(some 15), (.dry (.faddr 9 1 false (.t 14))), (some (11, false))⟩,
 ⟨(some 16), (.wet (.load 1 false (.t 15))), (some (11, false))⟩,
 ⟨(some 17), (.dry (.len (.t 16))), (some (11, false))⟩,
 ⟨(some 18), (.dry (.bin .geq (.t 12) (.t 17))), (some (11, false))⟩,
 ⟨(some 19), (.dry (.pick (.t 11) (.k (.bool true)) (.t 18))), none⟩,
 ⟨(some 20), (.dry (.mov (.t 19))), none⟩,
 ⟨(some 21), (.wet (.load 1 false (.t 2))), (some (20, false))⟩,
 ⟨(some 22), (.dry (.nilchk (.t 21))), (some (20, false))⟩,
 ⟨(some 23), (.dry (.faddr 5 4 true (.t 22))), (some (20, false))⟩,
 ⟨(some 24), (.dry (.faddr 2 1 false (.t 23))), (some (20, false))⟩,
 ⟨(some 25), (.wet (.load 1 false (.t 24))), (some (20, false))⟩,
 ⟨(some 26), (.dry (.mov (.t 0))), (some (20, false))⟩,
 ⟨(some 27), (.dry (.iaddr 1 (.t 25) (.t 26))), (some (20, false))⟩,
 ⟨(some 28), (.wet (.load 1 false (.t 27))), (some (20, false))⟩,
 ⟨(some 29), (.dry (.mov (.t 1))), (some (20, false))⟩,
 ⟨(some 30), (.dry (.eq (.prim .i) true (.t 28) (.t 29))), (some (20, false))⟩,
 ⟨(some 31), (.dry (.pick (.t 20) (.k (.bool true)) (.t 30))), none⟩,
 ⟨(some 32), (.dry (.mov (.t 31))), none⟩,
 ⟨(some 33), (.wet (.load 1 false (.t 2))), (some (32, false))⟩,
 ⟨(some 34), (.dry (.nilchk (.t 33))), (some (32, false))⟩,
 ⟨(some 35), (.dry (.faddr 9 1 false (.t 34))), (some (32, false))⟩,
 ⟨(some 36), (.wet (.load 1 false (.t 35))), (some (32, false))⟩,
 ⟨(some 37), (.dry (.mov (.t 0))), (some (32, false))⟩,
 ⟨(some 38), (.dry (.iaddr 3 (.t 36) (.t 37))), (some (32, false))⟩,
 ⟨(some 39), (.dry (.faddr 0 1 false (.t 38))), (some (32, false))⟩,
 ⟨(some 40), (.wet (.load 1 false (.t 39))), (some (32, false))⟩,
 ⟨(some 41), (.dry (.not (.t 40))), (some (32, false))⟩,
 ⟨(some 42), (.dry (.pick (.t 32) (.k (.bool true)) (.t 41))), none⟩])
 (.cond (.t 42)
 (.seq (.reg [⟨(some 7), (.dry (.mov (.k (.bool false)))), none⟩])
 .ret)
 .skip))
 (.seq (.reg [⟨(some 43), (.wet (.load 1 false (.t 2))), none⟩,
 ⟨(some 44), (.dry (.nilchk (.t 43))), none⟩,
 ⟨(some 45), (.dry (.faddr 9 1 false (.t 44))), none⟩,
 ⟨(some 46), (.wet (.load 1 false (.t 45))), none⟩,
 ⟨(some 47), (.dry (.mov (.t 0))), none⟩,
 ⟨(some 48), (.dry (.iaddr 3 (.t 46) (.t 47))), none⟩,
 ⟨(some 49), (.wet (.load 3 true (.t 48))), none⟩,
 ⟨(some 8), (.wet (.alloc 393 3 [(.bool false), (.int .i64 0), (.int .i64 0)])), none⟩,
 ⟨none, (.wet (.store 3 (.t 8) (.t 49))), none⟩])
 (.seq (.seq (.reg [⟨(some 50), (.dry (.faddr 1 1 false (.t 8))), none⟩,
 ⟨(some 51), (.wet (.load 1 false (.t 50))), none⟩,
 ⟨(some 52), (.wet (.load 1 false (.t 3))), none⟩,
 ⟨(some 53), (.dry (.eq (.prim .i) false (.t 51) (.t 52))), none⟩])
 (.cond (.t 53)
 (.seq (.reg [⟨(some 54), (.dry (.faddr 2 1 false (.t 8))), none⟩,
 ⟨(some 55), (.wet (.load 1 false (.t 54))), none⟩,
 ⟨(some 56), (.wet (.load 1 false (.t 4))), none⟩,
 ⟨(some 57), (.dry (.bin .lss (.t 55) (.t 56))), none⟩,
 ⟨(some 7), (.dry (.mov (.t 57))), none⟩])
 .ret)
 .skip))
 (.seq (.draw [(⟨(some 58), (.wet (.load 1 false (.t 2))), none⟩, 0, false),
 (⟨(some 59), (.dry (.nilchk (.t 58))), none⟩, 1, false),
 (⟨(some 60), (.dry (.faddr 10 1 false (.t 59))), none⟩, 3, false),
 (⟨(some 61), (.wet (.load 1 false (.t 60))), none⟩, 7, false),
 (⟨(some 62), (.dry (.faddr 1 1 false (.t 8))), none⟩, 0, false),
 (⟨(some 63), (.wet (.load 1 false (.t 62))), none⟩, 16, false),
 (⟨(some 64), (.wet (.load 1 false (.t 3))), none⟩, 0, false),
 (⟨(some 65), (.call (.k (.fn 99 [] [])) [(.t 61), (.t 63), (.t 64)]), none⟩, 127, true),
 (⟨(some 7), (.dry (.mov (.t 65))), none⟩, 255, false)])
 .ret))))) }

/-- slices.IndexFunc[[][]int,[]int] -/
def e186 : EFunc := { own := none, res := [(.tmp 4)], ntmps := 19, pure := false, body :=
 (.seq (.reg [⟨(some 4), (.dry (.mov (.k (.int .i64 0)))), none⟩])
 (.seq (.seq (.reg [⟨(some 6), (.dry (.mov (.t 0))), none⟩,
 ⟨(some 7), (.dry (.len (.t 6))), none⟩,
 ⟨(some 8), (.dry (.mov (.k (.int .i64 0)))), none⟩])
 (.block 0
 (.loop
 (.seq (.reg [⟨(some 9), (.dry (.bin .lss (.t 8) (.t 7))), none⟩])
 (.seq (.cond (.t 9)
 .skip
 (.exit 0))
 (.seq (.block 1
 (.seq (.reg [⟨(some 10), (.dry (.mov (.t 8))), none⟩,
 ⟨(some 5), (.dry (.mov (.t 10))), none⟩])
 (.seq (.reg [⟨(some 11), (.dry (.mov (.t 1))), none⟩,
 ⟨(some 12), (.dry (.mov (.t 0))), none⟩,
 ⟨(some 13), (.dry (.mov (.t 5))), none⟩,
 ⟨(some 14), (.dry (.iaddr 1 (.t 12) (.t 13))), none⟩,
 ⟨(some 15), (.wet (.load 1 false (.t 14))), none⟩,
 ⟨(some 16), (.call (.t 11) [(.t 15)]), none⟩])
 (.cond (.t 16)
 (.seq (.reg [⟨(some 17), (.dry (.mov (.t 5))), none⟩,
 ⟨(some 4), (.dry (.mov (.t 17))), none⟩])
 .ret)
 .skip))))
 (.reg [⟨(some 18), (.dry (.bin .add (.t 8) (.k (.int .i64 1)))), none⟩,
 ⟨(some 8), (.dry (.mov (.t 18))), none⟩])))))))
 (.seq (.reg [⟨(some 4), (.dry (.mov (.k (.int .i64 (-1))))), none⟩])
 .ret))) }

/-- (*bellcrank/sccp.solver).answer -/
def e187 : EFunc := { own := none, res := [(.cell 4 2 true)], ntmps := 64, pure := false, body :=
 (.seq (.reg [⟨(some 3), (.wet (.box 4 (.t 1))), none⟩,
 ⟨(some 4), (.wet (.alloc 411 2 [(.int .i64 0), (.int .u64 0)])), none⟩])
 (.seq (.seq (.reg [⟨(some 9), (.dry (.faddr 0 1 false (.t 3))), none⟩,
 ⟨(some 10), (.wet (.load 1 false (.t 9))), none⟩,
 ⟨(some 11), (.call (.k (.fn 95 [] [])) [(.t 10)]), none⟩,
 ⟨(some 12), (.dry (.not (.t 11))), none⟩])
 (.cond (.t 12)
 (.seq (.reg [⟨(some 13), (.dry (.build [(.int .i64 0), (.int .u64 0)] [(0, 1, (.k (.int .i64 2)))])), none⟩,
 ⟨none, (.wet (.store 2 (.t 4) (.t 13))), none⟩])
 .ret)
 .skip))
 (.seq (.reg [⟨(some 15), (.dry (.mov (.t 0))), none⟩,
 ⟨(some 16), (.dry (.faddr 2 1 false (.t 3))), none⟩,
 ⟨(some 17), (.wet (.load 1 false (.t 16))), none⟩,
 ⟨(some 18), (.call (.k (.fn 211 [] [])) [(.t 15), (.t 17)]), none⟩,
 ⟨(some 14), (.dry (.mov (.t 18))), none⟩,
 ⟨(some 19), (.dry (.extract (.t 14) 0)), none⟩,
 ⟨(some 20), (.dry (.extract (.t 14) 1)), none⟩,
 ⟨(some 5), (.dry (.mov (.t 19))), none⟩,
 ⟨(some 6), (.dry (.mov (.t 20))), none⟩])
 (.seq (.block 0
 (.seq (.reg [⟨(some 22), (.dry (.mov (.t 6))), none⟩,
 ⟨(some 23), (.dry (.eq (.prim .i) true (.t 22) (.k (.int .i64 1)))), none⟩,
 ⟨(some 21), (.dry (.mov (.t 23))), none⟩])
 (.cond (.t 21)
 (.seq (.reg [⟨(some 24), (.dry (.mov (.t 6))), none⟩,
 ⟨(some 25), (.dry (.build [(.int .i64 0), (.int .u64 0)] [(0, 1, (.t 24))])), none⟩,
 ⟨none, (.wet (.store 2 (.t 4) (.t 25))), none⟩])
 .ret)
 (.seq (.reg [⟨(some 27), (.dry (.faddr 0 1 false (.t 3))), none⟩,
 ⟨(some 28), (.wet (.load 1 false (.t 27))), none⟩,
 ⟨(some 29), (.dry (.eq (.prim .i) false (.t 28) (.k (.int .i64 256)))), none⟩,
 ⟨(some 26), (.dry (.mov (.t 29))), none⟩])
 (.cond (.t 26)
 (.seq (.reg [⟨(some 30), (.dry (.faddr 1 1 false (.t 3))), none⟩,
 ⟨(some 31), (.wet (.load 1 false (.t 30))), none⟩,
 ⟨(some 32), (.dry (.build [(.int .i64 0), (.int .u64 0)] [(0, 1, (.k (.int .i64 1))), (1, 1, (.t 31))])), none⟩,
 ⟨none, (.wet (.store 2 (.t 4) (.t 32))), none⟩])
 .ret)
 (.seq (.reg [⟨(some 34), (.dry (.faddr 0 1 false (.t 3))), none⟩,
 ⟨(some 35), (.wet (.load 1 false (.t 34))), none⟩,
 ⟨(some 36), (.dry (.eq (.prim .i) false (.t 35) (.k (.int .i64 27)))), none⟩,
 ⟨(some 37), (.dry (.mov (.t 36))), none⟩,
 ⟨(some 38), (.dry (.mov (.t 5))), (some (37, true))⟩,
 ⟨(some 39), (.dry (.iaddr 1 (.t 38) (.k (.int .i64 2)))), (some (37, true))⟩,
 ⟨(some 40), (.wet (.load 1 false (.t 39))), (some (37, true))⟩,
 ⟨(some 41), (.dry (.eq (.prim .i) false (.t 40) (.k (.int .u64 0)))), (some (37, true))⟩,
 ⟨(some 42), (.dry (.pick (.t 37) (.t 41) (.k (.bool false)))), none⟩,
 ⟨(some 33), (.dry (.mov (.t 42))), none⟩])
 (.cond (.t 33)
 (.seq (.reg [⟨(some 43), (.dry (.mov (.t 5))), none⟩,
 ⟨(some 44), (.dry (.iaddr 1 (.t 43) (.k (.int .i64 1)))), none⟩,
 ⟨(some 45), (.wet (.load 1 false (.t 44))), none⟩,
 ⟨(some 46), (.dry (.build [(.int .i64 0), (.int .u64 0)] [(0, 1, (.k (.int .i64 1))), (1, 1, (.t 45))])), none⟩,
 ⟨none, (.wet (.store 2 (.t 4) (.t 46))), none⟩])
 .ret)
 (.seq (.reg [⟨(some 48), (.dry (.faddr 0 1 false (.t 3))), none⟩,
 ⟨(some 49), (.wet (.load 1 false (.t 48))), none⟩,
 ⟨(some 50), (.dry (.eq (.prim .i) false (.t 49) (.k (.int .i64 27)))), none⟩,
 ⟨(some 47), (.dry (.mov (.t 50))), none⟩])
 (.cond (.t 47)
 (.seq (.reg [⟨(some 51), (.dry (.mov (.t 5))), none⟩,
 ⟨(some 52), (.dry (.iaddr 1 (.t 51) (.k (.int .i64 0)))), none⟩,
 ⟨(some 53), (.wet (.load 1 false (.t 52))), none⟩,
 ⟨(some 54), (.dry (.build [(.int .i64 0), (.int .u64 0)] [(0, 1, (.k (.int .i64 1))), (1, 1, (.t 53))])), none⟩,
 ⟨none, (.wet (.store 2 (.t 4) (.t 54))), none⟩])
 .ret)
 .skip)))))))))
 (.seq (.reg [⟨(some 56), (.dry (.faddr 0 1 false (.t 3))), none⟩,
 ⟨(some 57), (.wet (.load 1 false (.t 56))), none⟩,
 ⟨(some 58), (.dry (.mov (.t 5))), none⟩,
 ⟨(some 59), (.call (.k (.fn 212 [] [])) [(.t 57), (.t 58)]), none⟩,
 ⟨(some 55), (.dry (.mov (.t 59))), none⟩,
 ⟨(some 60), (.dry (.extract (.t 55) 0)), none⟩,
 ⟨(some 61), (.dry (.extract (.t 55) 1)), none⟩,
 ⟨(some 7), (.dry (.mov (.t 60))), none⟩,
 ⟨(some 8), (.dry (.mov (.t 61))), none⟩])
 (.seq (.reg [⟨(some 62), (.dry (.mov (.t 7))), none⟩,
 ⟨(some 63), (.dry (.build [(.int .i64 0), (.int .u64 0)] [(0, 1, (.k (.int .i64 1))), (1, 1, (.t 62))])), none⟩,
 ⟨none, (.wet (.store 2 (.t 4) (.t 63))), none⟩])
 .ret)))))) }

/-- (*bellcrank/sccp.solver).learn -/
def e188 : EFunc := { own := none, res := [], ntmps := 54, pure := false, body :=
 (.seq (.reg [⟨(some 5), (.wet (.box 2 (.t 2))), none⟩])
 (.seq (.reg [⟨(some 7), (.dry (.mov (.t 0))), none⟩,
 ⟨(some 8), (.dry (.nilchk (.t 7))), none⟩,
 ⟨(some 9), (.dry (.faddr 4 1 false (.t 8))), none⟩,
 ⟨(some 10), (.wet (.load 1 false (.t 9))), none⟩,
 ⟨(some 11), (.dry (.mov (.t 1))), none⟩,
 ⟨(some 12), (.dry (.iaddr 2 (.t 10) (.t 11))), none⟩,
 ⟨(some 13), (.wet (.load 2 true (.t 12))), none⟩,
 ⟨(some 6), (.wet (.alloc 411 2 [(.int .i64 0), (.int .u64 0)])), none⟩,
 ⟨none, (.wet (.store 2 (.t 6) (.t 13))), none⟩])
 (.seq (.block 0
 (.seq (.reg [⟨(some 15), (.dry (.faddr 0 1 false (.t 5))), none⟩,
 ⟨(some 16), (.wet (.load 1 false (.t 15))), none⟩,
 ⟨(some 17), (.dry (.eq (.prim .i) false (.t 16) (.k (.int .i64 0)))), none⟩,
 ⟨(some 18), (.dry (.mov (.t 17))), none⟩,
 ⟨(some 19), (.wet (.load 2 true (.t 5))), (some (18, false))⟩,
 ⟨(some 20), (.wet (.load 2 true (.t 6))), (some (18, false))⟩,
 ⟨(some 21), (.dry (.eq (.agg [.i, .i]) false (.t 19) (.t 20))), (some (18, false))⟩,
 ⟨(some 22), (.dry (.pick (.t 18) (.k (.bool true)) (.t 21))), none⟩,
 ⟨(some 23), (.dry (.mov (.t 22))), none⟩,
 ⟨(some 24), (.dry (.faddr 0 1 false (.t 6))), (some (23, false))⟩,
 ⟨(some 25), (.wet (.load 1 false (.t 24))), (some (23, false))⟩,
 ⟨(some 26), (.dry (.eq (.prim .i) false (.t 25) (.k (.int .i64 2)))), (some (23, false))⟩,
 ⟨(some 27), (.dry (.pick (.t 23) (.k (.bool true)) (.t 26))), none⟩,
 ⟨(some 14), (.dry (.mov (.t 27))), none⟩])
 (.cond (.t 14)
 .ret
 (.seq (.reg [⟨(some 29), (.dry (.faddr 0 1 false (.t 6))), none⟩,
 ⟨(some 30), (.wet (.load 1 false (.t 29))), none⟩,
 ⟨(some 31), (.dry (.eq (.prim .i) false (.t 30) (.k (.int .i64 1)))), none⟩,
 ⟨(some 28), (.dry (.mov (.t 31))), none⟩])
 (.cond (.t 28)
 (.reg [⟨(some 32), (.dry (.build [(.int .i64 0), (.int .u64 0)] [(0, 1, (.k (.int .i64 2)))])), none⟩,
 ⟨none, (.wet (.store 2 (.t 5) (.t 32))), none⟩])
 .skip)))))
 (.seq (.draw [(⟨(some 33), (.dry (.mov (.t 0))), none⟩, 0, false),
 (⟨(some 34), (.dry (.nilchk (.t 33))), none⟩, 1, false),
 (⟨(some 35), (.dry (.faddr 4 1 false (.t 34))), none⟩, 3, false),
 (⟨(some 36), (.wet (.load 1 false (.t 35))), none⟩, 7, false),
 (⟨(some 37), (.dry (.mov (.t 1))), none⟩, 0, false),
 (⟨(some 38), (.wet (.load 2 true (.t 5))), none⟩, 0, false),
 (⟨(some 39), (.dry (.iaddr 2 (.t 36) (.t 37))), none⟩, 63, false),
 (⟨none, (.wet (.store 2 (.t 39) (.t 38))), none⟩, 127, true)])
 (.draw [(⟨(some 40), (.dry (.mov (.t 0))), none⟩, 0, false),
 (⟨(some 41), (.dry (.mov (.t 0))), none⟩, 0, false),
 (⟨(some 42), (.dry (.nilchk (.t 41))), none⟩, 2, false),
 (⟨(some 43), (.dry (.faddr 7 1 false (.t 42))), none⟩, 6, false),
 (⟨(some 44), (.wet (.load 1 false (.t 43))), none⟩, 14, false),
 (⟨(some 45), (.dry (.mov (.t 0))), none⟩, 0, false),
 (⟨(some 46), (.dry (.nilchk (.t 45))), none⟩, 32, false),
 (⟨(some 47), (.dry (.faddr 6 1 false (.t 46))), none⟩, 96, false),
 (⟨(some 48), (.wet (.load 1 false (.t 47))), none⟩, 224, false),
 (⟨(some 49), (.dry (.mov (.t 1))), none⟩, 0, false),
 (⟨(some 50), (.wet (.lookup .i .nils false (.t 48) (.t 49))), none⟩, 992, false),
 (⟨(some 51), (.wet (.append 8 1 8 (.t 44) (.t 50))), none⟩, 2046, true),
 (⟨(some 52), (.dry (.nilchk (.t 40))), none⟩, 4095, false),
 (⟨(some 53), (.dry (.faddr 7 1 false (.t 52))), none⟩, 8191, false),
 (⟨none, (.wet (.store 1 (.t 53) (.t 51))), none⟩, 16383, true)]))))) }

/-- slices.Reverse[[]int,int] -/
def e190 : EFunc := { own := none, res := [], ntmps := 28, pure := false, body :=
 (.seq (.reg [⟨(some 4), (.dry (.mov (.t 0))), none⟩,
 ⟨(some 5), (.dry (.len (.t 4))), none⟩,
 ⟨(some 6), (.dry (.bin .sub (.t 5) (.k (.int .i64 1)))), none⟩,
 ⟨(some 2), (.dry (.mov (.k (.int .i64 0)))), none⟩,
 ⟨(some 3), (.dry (.mov (.t 6))), none⟩])
 (.block 0
 (.loop
 (.seq (.seq (.reg [⟨(some 7), (.dry (.mov (.t 2))), none⟩,
 ⟨(some 8), (.dry (.mov (.t 3))), none⟩,
 ⟨(some 9), (.dry (.bin .lss (.t 7) (.t 8))), none⟩])
 (.cond (.t 9)
 .skip
 (.exit 0)))
 (.seq (.block 1
 (.draw [(⟨(some 14), (.dry (.mov (.t 0))), none⟩, 0, false),
 (⟨(some 15), (.dry (.mov (.t 2))), none⟩, 0, false),
 (⟨(some 16), (.dry (.mov (.t 0))), none⟩, 0, false),
 (⟨(some 17), (.dry (.mov (.t 3))), none⟩, 0, false),
 (⟨(some 18), (.dry (.mov (.t 0))), none⟩, 0, false),
 (⟨(some 19), (.dry (.mov (.t 3))), none⟩, 0, false),
 (⟨(some 20), (.dry (.iaddr 1 (.t 18) (.t 19))), none⟩, 48, false),
 (⟨(some 21), (.wet (.load 1 false (.t 20))), none⟩, 112, false),
 (⟨(some 22), (.dry (.mov (.t 0))), none⟩, 0, false),
 (⟨(some 23), (.dry (.mov (.t 2))), none⟩, 0, false),
 (⟨(some 24), (.dry (.iaddr 1 (.t 22) (.t 23))), none⟩, 768, false),
 (⟨(some 25), (.wet (.load 1 false (.t 24))), none⟩, 1792, false),
 (⟨(some 26), (.dry (.iaddr 1 (.t 14) (.t 15))), none⟩, 4083, false),
 (⟨none, (.wet (.store 1 (.t 26) (.t 21))), none⟩, 8179, true),
 (⟨(some 27), (.dry (.iaddr 1 (.t 16) (.t 17))), none⟩, 16383, false),
 (⟨none, (.wet (.store 1 (.t 27) (.t 25))), none⟩, 32767, true)]))
 (.reg [⟨(some 10), (.dry (.mov (.t 2))), none⟩,
 ⟨(some 11), (.dry (.bin .add (.t 10) (.k (.int .i64 1)))), none⟩,
 ⟨(some 12), (.dry (.mov (.t 3))), none⟩,
 ⟨(some 13), (.dry (.bin .sub (.t 12) (.k (.int .i64 1)))), none⟩,
 ⟨(some 2), (.dry (.mov (.t 11))), none⟩,
 ⟨(some 3), (.dry (.mov (.t 13))), none⟩])))))) }

/-- math/bits.Mul -/
def e191 : EFunc := { own := none, res := [(.tmp 4), (.tmp 5)], ntmps := 30, pure := false, body :=
 (.seq (.reg [⟨(some 4), (.dry (.mov (.k (.int .u64 0)))), none⟩,
 ⟨(some 5), (.dry (.mov (.k (.int .u64 0)))), none⟩])
 (.seq (.cond (.k (.bool false))
 (.seq (.reg [⟨(some 11), (.dry (.mov (.t 0))), none⟩,
 ⟨(some 12), (.dry (.conv .u32 (.t 11))), none⟩,
 ⟨(some 13), (.dry (.mov (.t 1))), none⟩,
 ⟨(some 14), (.dry (.conv .u32 (.t 13))), none⟩,
 ⟨(some 15), (.call (.k (.fn 213 [] [])) [(.t 12), (.t 14)]), none⟩,
 ⟨(some 10), (.dry (.mov (.t 15))), none⟩,
 ⟨(some 16), (.dry (.extract (.t 10) 0)), none⟩,
 ⟨(some 17), (.dry (.extract (.t 10) 1)), none⟩,
 ⟨(some 6), (.dry (.mov (.t 16))), none⟩,
 ⟨(some 7), (.dry (.mov (.t 17))), none⟩])
 (.seq (.reg [⟨(some 18), (.dry (.mov (.t 6))), none⟩,
 ⟨(some 19), (.dry (.conv .u64 (.t 18))), none⟩,
 ⟨(some 20), (.dry (.mov (.t 7))), none⟩,
 ⟨(some 21), (.dry (.conv .u64 (.t 20))), none⟩,
 ⟨(some 4), (.dry (.mov (.t 19))), none⟩,
 ⟨(some 5), (.dry (.mov (.t 21))), none⟩])
 .ret))
 .skip)
 (.seq (.reg [⟨(some 23), (.dry (.mov (.t 0))), none⟩,
 ⟨(some 24), (.dry (.mov (.t 1))), none⟩,
 ⟨(some 25), (.call (.k (.fn 214 [] [])) [(.t 23), (.t 24)]), none⟩,
 ⟨(some 22), (.dry (.mov (.t 25))), none⟩,
 ⟨(some 26), (.dry (.extract (.t 22) 0)), none⟩,
 ⟨(some 27), (.dry (.extract (.t 22) 1)), none⟩,
 ⟨(some 8), (.dry (.mov (.t 26))), none⟩,
 ⟨(some 9), (.dry (.mov (.t 27))), none⟩])
 (.seq (.reg [⟨(some 28), (.dry (.mov (.t 8))), none⟩,
 ⟨(some 29), (.dry (.mov (.t 9))), none⟩,
 ⟨(some 4), (.dry (.mov (.t 28))), none⟩,
 ⟨(some 5), (.dry (.mov (.t 29))), none⟩])
 .ret)))) }

/-- bellcrank/num.find -/
def e192 : EFunc := { own := none, res := [(.cell 2 4 true), (.tmp 3), (.tmp 4)], ntmps := 33, pure := false, body :=
 (.seq (.reg [⟨(some 2), (.wet (.alloc 513 4 [(.int .i64 0), (.int .i64 0), (.int .i64 0), (.int .i64 0)])), none⟩,
 ⟨(some 3), (.dry (.mov (.k (.int .i64 0)))), none⟩,
 ⟨(some 4), (.dry (.mov (.k (.bool false)))), none⟩])
 (.seq (.seq (.reg [⟨(some 7), (.call (.k (.fn 215 [] [])) []), none⟩,
 ⟨(some 8), (.dry (.len (.t 7))), none⟩,
 ⟨(some 9), (.dry (.mov (.k (.int .i64 0)))), none⟩])
 (.block 0
 (.loop
 (.seq (.reg [⟨(some 10), (.dry (.bin .lss (.t 9) (.t 8))), none⟩])
 (.seq (.cond (.t 10)
 .skip
 (.exit 0))
 (.seq (.block 1
 (.seq (.reg [⟨(some 11), (.dry (.iaddr 4 (.t 7) (.t 9))), none⟩,
 ⟨(some 12), (.wet (.load 4 true (.t 11))), none⟩,
 ⟨(some 6), (.wet (.alloc 513 4 [(.int .i64 0), (.int .i64 0), (.int .i64 0), (.int .i64 0)])), none⟩,
 ⟨none, (.wet (.store 4 (.t 6) (.t 12))), none⟩])
 (.seq (.reg [⟨(some 13), (.dry (.mov (.t 0))), none⟩,
 ⟨(some 14), (.dry (.faddr 0 1 false (.t 6))), none⟩,
 ⟨(some 15), (.wet (.load 1 false (.t 14))), none⟩,
 ⟨(some 16), (.dry (.bin .geq (.t 13) (.t 15))), none⟩,
 ⟨(some 17), (.dry (.mov (.t 16))), none⟩,
 ⟨(some 18), (.dry (.mov (.t 0))), (some (17, true))⟩,
 ⟨(some 19), (.dry (.faddr 0 1 false (.t 6))), (some (17, true))⟩,
 ⟨(some 20), (.wet (.load 1 false (.t 19))), (some (17, true))⟩,
 ⟨(some 21), (.dry (.bin .sub (.t 18) (.t 20))), (some (17, true))⟩,
 ⟨(some 22), (.dry (.faddr 1 1 false (.t 6))), (some (17, true))⟩,
 ⟨(some 23), (.wet (.load 1 false (.t 22))), (some (17, true))⟩,
 ⟨(some 24), (.dry (.bin .lss (.t 21) (.t 23))), (some (17, true))⟩,
 ⟨(some 25), (.dry (.pick (.t 17) (.t 24) (.k (.bool false)))), none⟩])
 (.cond (.t 25)
 (.seq (.draw [(⟨(some 26), (.wet (.load 4 true (.t 6))), none⟩, 0, false),
 (⟨(some 27), (.dry (.mov (.t 0))), none⟩, 0, false),
 (⟨(some 28), (.dry (.faddr 0 1 false (.t 6))), none⟩, 0, false),
 (⟨(some 29), (.wet (.load 1 false (.t 28))), none⟩, 4, false),
 (⟨(some 30), (.dry (.bin .sub (.t 27) (.t 29))), none⟩, 14, false),
 (⟨none, (.wet (.store 4 (.t 2) (.t 26))), none⟩, 1, false),
 (⟨(some 3), (.dry (.mov (.t 30))), none⟩, 63, false),
 (⟨(some 4), (.dry (.mov (.k (.bool true)))), none⟩, 127, false)])
 .ret)
 .skip))))
 (.reg [⟨(some 31), (.dry (.bin .add (.t 9) (.k (.int .i64 1)))), none⟩,
 ⟨(some 9), (.dry (.mov (.t 31))), none⟩])))))))
 (.seq (.reg [⟨(some 32), (.dry (.build [(.int .i64 0), (.int .i64 0), (.int .i64 0), (.int .i64 0)] [])), none⟩,
 ⟨none, (.wet (.store 4 (.t 2) (.t 32))), none⟩,
 ⟨(some 3), (.dry (.mov (.k (.int .i64 0)))), none⟩,
 ⟨(some 4), (.dry (.mov (.k (.bool false)))), none⟩])
 .ret))) }

/-- bellcrank/num.division -/
def e193 : EFunc := { own := none, res := [(.tmp 2)], ntmps := 9, pure := false, body :=
 (.seq (.reg [⟨(some 2), (.dry (.mov (.k (.bool false)))), none⟩])
 (.seq (.reg [⟨(some 3), (.dry (.mov (.t 0))), none⟩,
 ⟨(some 4), (.dry (.bin .geq (.t 3) (.k (.int .i64 3)))), none⟩,
 ⟨(some 5), (.dry (.mov (.t 4))), none⟩,
 ⟨(some 6), (.dry (.mov (.t 0))), (some (5, true))⟩,
 ⟨(some 7), (.dry (.bin .leq (.t 6) (.k (.int .i64 6)))), (some (5, true))⟩,
 ⟨(some 8), (.dry (.pick (.t 5) (.t 7) (.k (.bool false)))), none⟩,
 ⟨(some 2), (.dry (.mov (.t 8))), none⟩])
 .ret)) }

/-- (*strings.Builder).copyCheck -/
def e196 : EFunc := { own := (some (.check 217)), res := [], ntmps := 0, pure := false, body :=
 .skip }

/-- internal/strconv.Itoa -/
def e197 : EFunc := { own := none, res := [(.tmp 2)], ntmps := 5, pure := false, body :=
 (.seq (.reg [⟨(some 2), (.dry (.mov (.k (.str [])))), none⟩])
 (.seq (.reg [⟨(some 3), (.dry (.mov (.t 0))), none⟩,
 ⟨(some 4), (.call (.k (.fn 227 [] [])) [(.t 3), (.k (.int .i64 10))]), none⟩,
 ⟨(some 2), (.dry (.mov (.t 4))), none⟩])
 .ret)) }

/-- internal/strconv.FormatUint -/
def e198 : EFunc := { own := none, res := [(.tmp 4)], ntmps := 32, pure := false, body :=
 (.seq (.reg [⟨(some 4), (.dry (.mov (.k (.str [])))), none⟩])
 (.seq (.seq (.reg [⟨(some 9), (.dry (.mov (.t 1))), none⟩,
 ⟨(some 10), (.dry (.eq (.prim .i) false (.t 9) (.k (.int .i64 10)))), none⟩])
 (.cond (.t 10)
 (.seq (.seq (.reg [⟨(some 11), (.dry (.mov (.t 0))), none⟩,
 ⟨(some 12), (.dry (.bin .lss (.t 11) (.k (.int .u64 100)))), none⟩])
 (.cond (.t 12)
 (.seq (.reg [⟨(some 13), (.dry (.mov (.t 0))), none⟩,
 ⟨(some 14), (.dry (.conv .i64 (.t 13))), none⟩,
 ⟨(some 15), (.call (.k (.fn 228 [] [])) [(.t 14)]), none⟩,
 ⟨(some 4), (.dry (.mov (.t 15))), none⟩])
 .ret)
 .skip))
 (.seq (.reg [⟨(some 5), (.wet (.alloc 1 1 [(.int .u8 0), (.int .u8 0), (.int .u8 0), (.int .u8 0), (.int .u8 0), (.int .u8 0), (.int .u8 0), (.int .u8 0), (.int .u8 0), (.int .u8 0), (.int .u8 0), (.int .u8 0), (.int .u8 0), (.int .u8 0), (.int .u8 0), (.int .u8 0), (.int .u8 0), (.int .u8 0), (.int .u8 0), (.int .u8 0), (.int .u8 0), (.int .u8 0), (.int .u8 0), (.int .u8 0)])), none⟩])
 (.seq (.reg [⟨(some 16), (.dry (.mov (.t 0))), none⟩,
 ⟨(some 17), (.call (.k (.fn 229 [] [])) [(.t 16)]), none⟩,
 ⟨(some 6), (.dry (.mov (.t 17))), none⟩])
 (.seq (.reg [⟨(some 18), (.dry (.mov (.t 6))), none⟩,
 ⟨(some 19), (.wet (.aslice 24 1 (.t 5) none (some (.t 18)))), none⟩,
 ⟨(some 20), (.dry (.mov (.t 0))), none⟩,
 ⟨(some 21), (.call (.k (.fn 230 [] [])) [(.t 19), (.t 20)]), none⟩])
 (.seq (.reg [⟨(some 22), (.dry (.mov (.t 6))), none⟩,
 ⟨(some 23), (.wet (.aslice 24 1 (.t 5) none (some (.t 22)))), none⟩,
 ⟨(some 24), (.wet (.b2s (.t 23))), none⟩,
 ⟨(some 4), (.dry (.mov (.t 24))), none⟩])
 .ret)))))
 .skip))
 (.seq (.reg [⟨(some 26), (.dry (.mov (.t 0))), none⟩,
 ⟨(some 27), (.dry (.mov (.t 1))), none⟩,
 ⟨(some 28), (.call (.k (.fn 231 [] [])) [(.k .nils), (.t 26), (.t 27), (.k (.bool false)), (.k (.bool false))]), none⟩,
 ⟨(some 25), (.dry (.mov (.t 28))), none⟩,
 ⟨(some 29), (.dry (.extract (.t 25) 0)), none⟩,
 ⟨(some 30), (.dry (.extract (.t 25) 1)), none⟩,
 ⟨(some 7), (.dry (.mov (.t 29))), none⟩,
 ⟨(some 8), (.dry (.mov (.t 30))), none⟩])
 (.seq (.reg [⟨(some 31), (.dry (.mov (.t 8))), none⟩,
 ⟨(some 4), (.dry (.mov (.t 31))), none⟩])
 .ret)))) }

/-- (*bellcrank/sccp.solver).known -/
def e211 : EFunc := { own := none, res := [(.tmp 4), (.tmp 5)], ntmps := 38, pure := false, body :=
 (.seq (.reg [⟨(some 4), (.dry (.mov (.k .nils))), none⟩,
 ⟨(some 5), (.dry (.mov (.k (.int .i64 0)))), none⟩])
 (.seq (.reg [⟨(some 6), (.dry (.mov (.k (.int .i64 1)))), none⟩])
 (.seq (.reg [⟨(some 7), (.dry (.mov (.k .nils))), none⟩])
 (.seq (.seq (.reg [⟨(some 11), (.dry (.mov (.t 1))), none⟩,
 ⟨(some 12), (.dry (.len (.t 11))), none⟩,
 ⟨(some 13), (.dry (.mov (.k (.int .i64 0)))), none⟩])
 (.block 0
 (.loop
 (.seq (.reg [⟨(some 14), (.dry (.bin .lss (.t 13) (.t 12))), none⟩])
 (.seq (.cond (.t 14)
 .skip
 (.exit 0))
 (.seq (.block 1
 (.seq (.reg [⟨(some 15), (.dry (.iaddr 1 (.t 11) (.t 13))), none⟩,
 ⟨(some 16), (.wet (.load 1 false (.t 15))), none⟩,
 ⟨(some 9), (.dry (.mov (.t 16))), none⟩])
 (.seq (.reg [⟨(some 17), (.dry (.mov (.t 0))), none⟩,
 ⟨(some 18), (.dry (.nilchk (.t 17))), none⟩,
 ⟨(some 19), (.dry (.faddr 4 1 false (.t 18))), none⟩,
 ⟨(some 20), (.wet (.load 1 false (.t 19))), none⟩,
 ⟨(some 21), (.dry (.mov (.t 9))), none⟩,
 ⟨(some 22), (.dry (.iaddr 2 (.t 20) (.t 21))), none⟩,
 ⟨(some 23), (.wet (.load 2 true (.t 22))), none⟩,
 ⟨(some 10), (.wet (.alloc 411 2 [(.int .i64 0), (.int .u64 0)])), none⟩,
 ⟨none, (.wet (.store 2 (.t 10) (.t 23))), none⟩])
 (.seq (.reg [⟨(some 24), (.dry (.faddr 0 1 false (.t 10))), none⟩,
 ⟨(some 25), (.wet (.load 1 false (.t 24))), none⟩])
 (.block 2
 (.seq (.reg [⟨(some 32), (.dry (.eq (.prim .i) false (.t 25) (.k (.int .i64 0)))), none⟩,
 ⟨(some 31), (.dry (.mov (.t 32))), none⟩])
 (.cond (.t 31)
 (.seq (.reg [⟨(some 4), (.dry (.mov (.k .nils))), none⟩,
 ⟨(some 5), (.dry (.mov (.k (.int .i64 0)))), none⟩])
 .ret)
 (.seq (.reg [⟨(some 34), (.dry (.eq (.prim .i) false (.t 25) (.k (.int .i64 2)))), none⟩,
 ⟨(some 33), (.dry (.mov (.t 34))), none⟩])
 (.cond (.t 33)
 (.reg [⟨(some 6), (.dry (.mov (.k (.int .i64 2)))), none⟩])
 (.reg [⟨(some 26), (.dry (.mov (.t 7))), none⟩,
 ⟨(some 27), (.dry (.faddr 1 1 false (.t 10))), none⟩,
 ⟨(some 28), (.wet (.load 1 false (.t 27))), none⟩,
 ⟨(some 29), (.wet (.bsl 1 1 [(.int .u64 0)] [(0, (.t 28))])), none⟩,
 ⟨(some 30), (.wet (.append 138 1 8 (.t 26) (.t 29))), none⟩,
 ⟨(some 7), (.dry (.mov (.t 30))), none⟩]))))))))))
 (.reg [⟨(some 35), (.dry (.bin .add (.t 13) (.k (.int .i64 1)))), none⟩,
 ⟨(some 13), (.dry (.mov (.t 35))), none⟩])))))))
 (.seq (.reg [⟨(some 36), (.dry (.mov (.t 7))), none⟩,
 ⟨(some 37), (.dry (.mov (.t 6))), none⟩,
 ⟨(some 4), (.dry (.mov (.t 36))), none⟩,
 ⟨(some 5), (.dry (.mov (.t 37))), none⟩])
 .ret))))) }

/-- bellcrank/num.Eval -/
def e212 : EFunc := { own := none, res := [(.tmp 4), (.tmp 5)], ntmps := 81, pure := false, body :=
 (.seq (.reg [⟨(some 3), (.wet (.box 1 (.t 1))), none⟩,
 ⟨(some 4), (.dry (.mov (.k (.int .u64 0)))), none⟩,
 ⟨(some 5), (.dry (.mov (.k (.int .i64 0)))), none⟩])
 (.seq (.reg [⟨(some 18), (.dry (.mov (.t 0))), none⟩,
 ⟨(some 19), (.call (.k (.fn 192 [] [])) [(.t 18)]), none⟩,
 ⟨(some 17), (.dry (.mov (.t 19))), none⟩,
 ⟨(some 20), (.dry (.extract (.t 17) 0)), none⟩,
 ⟨(some 21), (.dry (.extract (.t 17) 1)), none⟩,
 ⟨(some 22), (.dry (.extract (.t 17) 2)), none⟩,
 ⟨(some 6), (.wet (.alloc 513 4 [(.int .i64 0), (.int .i64 0), (.int .i64 0), (.int .i64 0)])), none⟩,
 ⟨(some 7), (.wet (.alloc 1 1 [(.int .i64 0)])), none⟩,
 ⟨none, (.wet (.store 4 (.t 6) (.t 20))), none⟩,
 ⟨none, (.wet (.store 1 (.t 7) (.t 21))), none⟩,
 ⟨(some 8), (.dry (.mov (.t 22))), none⟩])
 (.seq (.reg [⟨(some 24), (.dry (.mov (.t 0))), none⟩,
 ⟨(some 25), (.call (.k (.fn 182 [] [])) [(.t 24)]), none⟩,
 ⟨(some 23), (.dry (.mov (.t 25))), none⟩,
 ⟨(some 26), (.dry (.extract (.t 23) 0)), none⟩,
 ⟨(some 27), (.dry (.extract (.t 23) 1)), none⟩,
 ⟨(some 28), (.dry (.extract (.t 23) 2)), none⟩,
 ⟨(some 10), (.wet (.alloc 1 1 [(.int .i64 0)])), none⟩,
 ⟨(some 9), (.dry (.mov (.t 26))), none⟩,
 ⟨none, (.wet (.store 1 (.t 10) (.t 27))), none⟩,
 ⟨(some 11), (.dry (.mov (.t 28))), none⟩])
 (.seq (.seq (.reg [⟨(some 29), (.dry (.mov (.t 11))), none⟩,
 ⟨(some 30), (.dry (.not (.t 29))), none⟩,
 ⟨(some 31), (.dry (.mov (.t 30))), none⟩,
 ⟨(some 32), (.dry (.mov (.t 9))), (some (31, false))⟩,
 ⟨(some 33), (.dry (.len (.t 32))), (some (31, false))⟩,
 ⟨(some 34), (.wet (.load 1 false (.t 3))), (some (31, false))⟩,
 ⟨(some 35), (.dry (.len (.t 34))), (some (31, false))⟩,
 ⟨(some 36), (.dry (.eq (.prim .i) true (.t 33) (.t 35))), (some (31, false))⟩,
 ⟨(some 37), (.dry (.pick (.t 31) (.k (.bool true)) (.t 36))), none⟩])
 (.cond (.t 37)
 (.seq (.reg [⟨(some 4), (.dry (.mov (.k (.int .u64 0)))), none⟩,
 ⟨(some 5), (.dry (.mov (.k (.int .i64 1)))), none⟩])
 .ret)
 .skip))
 (.seq (.seq (.reg [⟨(some 38), (.wet (.load 1 false (.t 3))), none⟩,
 ⟨(some 39), (.dry (.len (.t 38))), none⟩,
 ⟨(some 40), (.dry (.mov (.k (.int .i64 0)))), none⟩])
 (.block 0
 (.loop
 (.seq (.reg [⟨(some 41), (.dry (.bin .lss (.t 40) (.t 39))), none⟩])
 (.seq (.cond (.t 41)
 .skip
 (.exit 0))
 (.seq (.block 1
 (.seq (.reg [⟨(some 42), (.dry (.mov (.t 40))), none⟩,
 ⟨(some 43), (.dry (.iaddr 1 (.t 38) (.t 40))), none⟩,
 ⟨(some 44), (.wet (.load 1 false (.t 43))), none⟩,
 ⟨(some 12), (.dry (.mov (.t 42))), none⟩,
 ⟨(some 13), (.dry (.mov (.t 44))), none⟩])
 (.seq (.reg [⟨(some 45), (.dry (.mov (.t 9))), none⟩,
 ⟨(some 46), (.dry (.mov (.t 12))), none⟩,
 ⟨(some 47), (.dry (.iaddr 1 (.t 45) (.t 46))), none⟩,
 ⟨(some 48), (.wet (.load 1 false (.t 47))), none⟩,
 ⟨(some 49), (.dry (.mov (.t 13))), none⟩,
 ⟨(some 50), (.call (.k (.fn 242 [] [])) [(.t 48), (.t 49)]), none⟩,
 ⟨(some 51), (.dry (.not (.t 50))), none⟩])
 (.cond (.t 51)
 (.seq (.reg [⟨(some 4), (.dry (.mov (.k (.int .u64 0)))), none⟩,
 ⟨(some 5), (.dry (.mov (.k (.int .i64 1)))), none⟩])
 .ret)
 .skip))))
 (.reg [⟨(some 52), (.dry (.bin .add (.t 40) (.k (.int .i64 1)))), none⟩,
 ⟨(some 40), (.dry (.mov (.t 52))), none⟩])))))))
 (.seq (.reg [⟨(some 53), (.wet .mkmap), none⟩,
 ⟨(some 54), (.dry (.mkfn 243 [] [(.t 3)])), none⟩,
 ⟨none, (.wet (.mapset .i (.t 53) (.k (.int .i64 0)) (.t 54))), none⟩,
 ⟨(some 55), (.dry (.mkfn 245 [] [(.t 3), (.t 6), (.t 7)])), none⟩,
 ⟨none, (.wet (.mapset .i (.t 53) (.k (.int .i64 2)) (.t 55))), none⟩,
 ⟨(some 56), (.dry (.mkfn 247 [] [(.t 3)])), none⟩,
 ⟨none, (.wet (.mapset .i (.t 53) (.k (.int .i64 4)) (.t 56))), none⟩,
 ⟨(some 57), (.dry (.mkfn 248 [] [(.t 3), (.t 7)])), none⟩,
 ⟨none, (.wet (.mapset .i (.t 53) (.k (.int .i64 5)) (.t 57))), none⟩,
 ⟨(some 58), (.dry (.mkfn 249 [] [(.t 3), (.t 7), (.t 10)])), none⟩,
 ⟨none, (.wet (.mapset .i (.t 53) (.k (.int .i64 6)) (.t 58))), none⟩,
 ⟨(some 59), (.dry (.mov (.t 53))), none⟩,
 ⟨(some 14), (.dry (.mov (.t 59))), none⟩])
 (.seq (.seq (.reg [⟨(some 61), (.dry (.mov (.t 14))), none⟩,
 ⟨(some 62), (.dry (.faddr 2 1 false (.t 6))), none⟩,
 ⟨(some 63), (.wet (.load 1 false (.t 62))), none⟩,
 ⟨(some 64), (.wet (.lookup .i .nilf true (.t 61) (.t 63))), none⟩,
 ⟨(some 60), (.dry (.mov (.t 64))), none⟩,
 ⟨(some 65), (.dry (.extract (.t 60) 0)), none⟩,
 ⟨(some 66), (.dry (.extract (.t 60) 1)), none⟩,
 ⟨(some 15), (.dry (.mov (.t 65))), none⟩,
 ⟨(some 16), (.dry (.mov (.t 66))), none⟩])
 (.seq (.reg [⟨(some 67), (.dry (.mov (.t 16))), none⟩])
 (.cond (.t 67)
 (.seq (.reg [⟨(some 68), (.dry (.mov (.t 15))), none⟩,
 ⟨(some 69), (.call (.t 68) []), none⟩,
 ⟨(some 4), (.dry (.mov (.t 69))), none⟩,
 ⟨(some 5), (.dry (.mov (.k (.int .i64 0)))), none⟩])
 .ret)
 .skip)))
 (.seq (.draw [(⟨(some 70), (.wet (.load 4 true (.t 6))), none⟩, 0, false),
 (⟨(some 71), (.wet (.load 1 false (.t 7))), none⟩, 0, false),
 (⟨(some 72), (.wet (.load 1 false (.t 3))), none⟩, 0, false),
 (⟨(some 73), (.dry (.iaddr 1 (.t 72) (.k (.int .i64 0)))), none⟩, 4, false),
 (⟨(some 74), (.wet (.load 1 false (.t 73))), none⟩, 12, false),
 (⟨(some 75), (.wet (.load 1 false (.t 3))), none⟩, 0, false),
 (⟨(some 76), (.dry (.iaddr 1 (.t 75) (.k (.int .i64 1)))), none⟩, 32, false),
 (⟨(some 77), (.wet (.load 1 false (.t 76))), none⟩, 96, false),
 (⟨(some 78), (.call (.k (.fn 250 [] [])) [(.t 70), (.t 71), (.t 74), (.t 77)]), none⟩, 255, true),
 (⟨(some 79), (.dry (.extract (.t 78) 0)), none⟩, 511, false),
 (⟨(some 80), (.dry (.extract (.t 78) 1)), none⟩, 511, false),
 (⟨(some 4), (.dry (.mov (.t 79))), none⟩, 2047, false),
 (⟨(some 5), (.dry (.mov (.t 80))), none⟩, 4095, false)])
 .ret)))))))) }

/-- math/bits.Mul64 -/
def e214 : EFunc := { own := none, res := [(.tmp 4), (.tmp 5)], ntmps := 51, pure := false, body :=
 (.seq (.reg [⟨(some 4), (.dry (.mov (.k (.int .u64 0)))), none⟩,
 ⟨(some 5), (.dry (.mov (.k (.int .u64 0)))), none⟩])
 (.seq (.reg [⟨(some 14), (.dry (.mov (.t 0))), none⟩,
 ⟨(some 15), (.dry (.bin .and (.t 14) (.k (.int .u64 4294967295)))), none⟩,
 ⟨(some 6), (.dry (.mov (.t 15))), none⟩])
 (.seq (.reg [⟨(some 16), (.dry (.mov (.t 0))), none⟩,
 ⟨(some 17), (.dry (.bin .shr (.t 16) (.k (.int .u64 32)))), none⟩,
 ⟨(some 7), (.dry (.mov (.t 17))), none⟩])
 (.seq (.reg [⟨(some 18), (.dry (.mov (.t 1))), none⟩,
 ⟨(some 19), (.dry (.bin .and (.t 18) (.k (.int .u64 4294967295)))), none⟩,
 ⟨(some 8), (.dry (.mov (.t 19))), none⟩])
 (.seq (.reg [⟨(some 20), (.dry (.mov (.t 1))), none⟩,
 ⟨(some 21), (.dry (.bin .shr (.t 20) (.k (.int .u64 32)))), none⟩,
 ⟨(some 9), (.dry (.mov (.t 21))), none⟩])
 (.seq (.reg [⟨(some 22), (.dry (.mov (.t 6))), none⟩,
 ⟨(some 23), (.dry (.mov (.t 8))), none⟩,
 ⟨(some 24), (.dry (.bin .mul (.t 22) (.t 23))), none⟩,
 ⟨(some 10), (.dry (.mov (.t 24))), none⟩])
 (.seq (.reg [⟨(some 25), (.dry (.mov (.t 7))), none⟩,
 ⟨(some 26), (.dry (.mov (.t 8))), none⟩,
 ⟨(some 27), (.dry (.bin .mul (.t 25) (.t 26))), none⟩,
 ⟨(some 28), (.dry (.mov (.t 10))), none⟩,
 ⟨(some 29), (.dry (.bin .shr (.t 28) (.k (.int .u64 32)))), none⟩,
 ⟨(some 30), (.dry (.bin .add (.t 27) (.t 29))), none⟩,
 ⟨(some 11), (.dry (.mov (.t 30))), none⟩])
 (.seq (.reg [⟨(some 31), (.dry (.mov (.t 11))), none⟩,
 ⟨(some 32), (.dry (.bin .and (.t 31) (.k (.int .u64 4294967295)))), none⟩,
 ⟨(some 12), (.dry (.mov (.t 32))), none⟩])
 (.seq (.reg [⟨(some 33), (.dry (.mov (.t 11))), none⟩,
 ⟨(some 34), (.dry (.bin .shr (.t 33) (.k (.int .u64 32)))), none⟩,
 ⟨(some 13), (.dry (.mov (.t 34))), none⟩])
 (.seq (.reg [⟨(some 35), (.dry (.mov (.t 12))), none⟩,
 ⟨(some 36), (.dry (.mov (.t 6))), none⟩,
 ⟨(some 37), (.dry (.mov (.t 9))), none⟩,
 ⟨(some 38), (.dry (.bin .mul (.t 36) (.t 37))), none⟩,
 ⟨(some 39), (.dry (.bin .add (.t 35) (.t 38))), none⟩,
 ⟨(some 12), (.dry (.mov (.t 39))), none⟩])
 (.seq (.reg [⟨(some 40), (.dry (.mov (.t 7))), none⟩,
 ⟨(some 41), (.dry (.mov (.t 9))), none⟩,
 ⟨(some 42), (.dry (.bin .mul (.t 40) (.t 41))), none⟩,
 ⟨(some 43), (.dry (.mov (.t 13))), none⟩,
 ⟨(some 44), (.dry (.bin .add (.t 42) (.t 43))), none⟩,
 ⟨(some 45), (.dry (.mov (.t 12))), none⟩,
 ⟨(some 46), (.dry (.bin .shr (.t 45) (.k (.int .u64 32)))), none⟩,
 ⟨(some 47), (.dry (.bin .add (.t 44) (.t 46))), none⟩,
 ⟨(some 4), (.dry (.mov (.t 47))), none⟩])
 (.seq (.reg [⟨(some 48), (.dry (.mov (.t 0))), none⟩,
 ⟨(some 49), (.dry (.mov (.t 1))), none⟩,
 ⟨(some 50), (.dry (.bin .mul (.t 48) (.t 49))), none⟩,
 ⟨(some 5), (.dry (.mov (.t 50))), none⟩])
 .ret)))))))))))) }

/-- bellcrank/num.groups -/
def e215 : EFunc := { own := none, res := [(.tmp 0)], ntmps := 14, pure := false, body :=
 (.seq (.reg [⟨(some 0), (.dry (.mov (.k .nils))), none⟩])
 (.seq (.reg [⟨(some 1), (.dry (.build [(.int .i64 0), (.int .i64 0), (.int .i64 0), (.int .i64 0)] [(0, 1, (.k (.int .i64 69))), (1, 1, (.k (.int .i64 1))), (2, 1, (.k (.int .i64 0))), (3, 1, (.k (.int .i64 127)))])), none⟩,
 ⟨(some 2), (.dry (.build [(.int .i64 0), (.int .i64 0), (.int .i64 0), (.int .i64 0)] [(0, 1, (.k (.int .i64 70))), (1, 1, (.k (.int .i64 10))), (2, 1, (.k (.int .i64 1))), (3, 1, (.k (.int .i64 127)))])), none⟩,
 ⟨(some 3), (.dry (.build [(.int .i64 0), (.int .i64 0), (.int .i64 0), (.int .i64 0)] [(0, 1, (.k (.int .i64 80))), (1, 1, (.k (.int .i64 1))), (2, 1, (.k (.int .i64 0))), (3, 1, (.k (.int .i64 126)))])), none⟩,
 ⟨(some 4), (.dry (.build [(.int .i64 0), (.int .i64 0), (.int .i64 0), (.int .i64 0)] [(0, 1, (.k (.int .i64 81))), (1, 1, (.k (.int .i64 10))), (2, 1, (.k (.int .i64 1))), (3, 1, (.k (.int .i64 126)))])), none⟩,
 ⟨(some 5), (.dry (.build [(.int .i64 0), (.int .i64 0), (.int .i64 0), (.int .i64 0)] [(0, 1, (.k (.int .i64 103))), (1, 1, (.k (.int .i64 3))), (2, 1, (.k (.int .i64 2))), (3, 1, (.k (.int .i64 127)))])), none⟩,
 ⟨(some 6), (.dry (.build [(.int .i64 0), (.int .i64 0), (.int .i64 0), (.int .i64 0)] [(0, 1, (.k (.int .i64 106))), (1, 1, (.k (.int .i64 15))), (2, 1, (.k (.int .i64 3))), (3, 1, (.k (.int .i64 127)))])), none⟩,
 ⟨(some 7), (.dry (.build [(.int .i64 0), (.int .i64 0), (.int .i64 0), (.int .i64 0)] [(0, 1, (.k (.int .i64 121))), (1, 1, (.k (.int .i64 3))), (2, 1, (.k (.int .i64 2))), (3, 1, (.k (.int .i64 126)))])), none⟩,
 ⟨(some 8), (.dry (.build [(.int .i64 0), (.int .i64 0), (.int .i64 0), (.int .i64 0)] [(0, 1, (.k (.int .i64 124))), (1, 1, (.k (.int .i64 15))), (2, 1, (.k (.int .i64 3))), (3, 1, (.k (.int .i64 126)))])), none⟩,
 ⟨(some 9), (.dry (.build [(.int .i64 0), (.int .i64 0), (.int .i64 0), (.int .i64 0)] [(0, 1, (.k (.int .i64 167))), (1, 1, (.k (.int .i64 1))), (2, 1, (.k (.int .i64 4))), (3, 1, (.k (.int .i64 126)))])), none⟩,
 ⟨(some 10), (.dry (.build [(.int .i64 0), (.int .i64 0), (.int .i64 0), (.int .i64 0)] [(0, 1, (.k (.int .i64 172))), (1, 1, (.k (.int .i64 2))), (2, 1, (.k (.int .i64 5))), (3, 1, (.k (.int .i64 127)))])), none⟩,
 ⟨(some 11), (.dry (.build [(.int .i64 0), (.int .i64 0), (.int .i64 0), (.int .i64 0)] [(0, 1, (.k (.int .i64 192))), (1, 1, (.k (.int .i64 2))), (2, 1, (.k (.int .i64 6))), (3, 1, (.k (.int .i64 127)))])), none⟩,
 ⟨(some 12), (.dry (.build [(.int .i64 0), (.int .i64 0), (.int .i64 0), (.int .i64 0)] [(0, 1, (.k (.int .i64 194))), (1, 1, (.k (.int .i64 3))), (2, 1, (.k (.int .i64 6))), (3, 1, (.k (.int .i64 126)))])), none⟩,
 ⟨(some 13), (.wet (.bsl 4 12 [(.int .i64 0), (.int .i64 0), (.int .i64 0), (.int .i64 0), (.int .i64 0), (.int .i64 0), (.int .i64 0), (.int .i64 0), (.int .i64 0), (.int .i64 0), (.int .i64 0), (.int .i64 0), (.int .i64 0), (.int .i64 0), (.int .i64 0), (.int .i64 0), (.int .i64 0), (.int .i64 0), (.int .i64 0), (.int .i64 0), (.int .i64 0), (.int .i64 0), (.int .i64 0), (.int .i64 0), (.int .i64 0), (.int .i64 0), (.int .i64 0), (.int .i64 0), (.int .i64 0), (.int .i64 0), (.int .i64 0), (.int .i64 0), (.int .i64 0), (.int .i64 0), (.int .i64 0), (.int .i64 0), (.int .i64 0), (.int .i64 0), (.int .i64 0), (.int .i64 0), (.int .i64 0), (.int .i64 0), (.int .i64 0), (.int .i64 0), (.int .i64 0), (.int .i64 0), (.int .i64 0), (.int .i64 0)] [(0, (.t 1)), (4, (.t 2)), (8, (.t 3)), (12, (.t 4)), (16, (.t 5)), (20, (.t 6)), (24, (.t 7)), (28, (.t 8)), (32, (.t 9)), (36, (.t 10)), (40, (.t 11)), (44, (.t 12))])), none⟩,
 ⟨(some 0), (.dry (.mov (.t 13))), none⟩])
 .ret)) }

/-- math/bits.Len64 -/
def e225 : EFunc := { own := none, res := [(.tmp 2)], ntmps := 25, pure := false, body :=
 (.seq (.reg [⟨(some 2), (.dry (.mov (.k (.int .i64 0)))), none⟩])
 (.seq (.seq (.reg [⟨(some 3), (.dry (.mov (.t 0))), none⟩,
 ⟨(some 4), (.dry (.bin .geq (.t 3) (.k (.int .u64 4294967296)))), none⟩])
 (.cond (.t 4)
 (.seq (.reg [⟨(some 5), (.dry (.mov (.t 0))), none⟩,
 ⟨(some 6), (.dry (.bin .shr (.t 5) (.k (.int .u64 32)))), none⟩,
 ⟨(some 0), (.dry (.mov (.t 6))), none⟩])
 (.reg [⟨(some 2), (.dry (.mov (.k (.int .i64 32)))), none⟩]))
 .skip))
 (.seq (.seq (.reg [⟨(some 7), (.dry (.mov (.t 0))), none⟩,
 ⟨(some 8), (.dry (.bin .geq (.t 7) (.k (.int .u64 65536)))), none⟩])
 (.cond (.t 8)
 (.seq (.reg [⟨(some 9), (.dry (.mov (.t 0))), none⟩,
 ⟨(some 10), (.dry (.bin .shr (.t 9) (.k (.int .u64 16)))), none⟩,
 ⟨(some 0), (.dry (.mov (.t 10))), none⟩])
 (.reg [⟨(some 11), (.dry (.mov (.t 2))), none⟩,
 ⟨(some 12), (.dry (.bin .add (.t 11) (.k (.int .i64 16)))), none⟩,
 ⟨(some 2), (.dry (.mov (.t 12))), none⟩]))
 .skip))
 (.seq (.seq (.reg [⟨(some 13), (.dry (.mov (.t 0))), none⟩,
 ⟨(some 14), (.dry (.bin .geq (.t 13) (.k (.int .u64 256)))), none⟩])
 (.cond (.t 14)
 (.seq (.reg [⟨(some 15), (.dry (.mov (.t 0))), none⟩,
 ⟨(some 16), (.dry (.bin .shr (.t 15) (.k (.int .u64 8)))), none⟩,
 ⟨(some 0), (.dry (.mov (.t 16))), none⟩])
 (.reg [⟨(some 17), (.dry (.mov (.t 2))), none⟩,
 ⟨(some 18), (.dry (.bin .add (.t 17) (.k (.int .i64 8)))), none⟩,
 ⟨(some 2), (.dry (.mov (.t 18))), none⟩]))
 .skip))
 (.seq (.reg [⟨(some 19), (.dry (.mov (.t 2))), none⟩,
 ⟨(some 20), (.dry (.mov (.t 0))), none⟩,
 ⟨(some 21), (.dry (.conv .u8 (.t 20))), none⟩,
 ⟨(some 22), (.dry (.sidx (.k (.str [0, 1, 2, 2, 3, 3, 3, 3, 4, 4, 4, 4, 4, 4, 4, 4, 5, 5, 5, 5, 5, 5, 5, 5, 5, 5, 5, 5, 5, 5, 5, 5, 6, 6, 6, 6, 6, 6, 6, 6, 6, 6, 6, 6, 6, 6, 6, 6, 6, 6, 6, 6, 6, 6, 6, 6, 6, 6, 6, 6, 6, 6, 6, 6, 7, 7, 7, 7, 7, 7, 7, 7, 7, 7, 7, 7, 7, 7, 7, 7, 7, 7, 7, 7, 7, 7, 7, 7, 7, 7, 7, 7, 7, 7, 7, 7, 7, 7, 7, 7, 7, 7, 7, 7, 7, 7, 7, 7, 7, 7, 7, 7, 7, 7, 7, 7, 7, 7, 7, 7, 7, 7, 7, 7, 7, 7, 7, 7, 8, 8, 8, 8, 8, 8, 8, 8, 8, 8, 8, 8, 8, 8, 8, 8, 8, 8, 8, 8, 8, 8, 8, 8, 8, 8, 8, 8, 8, 8, 8, 8, 8, 8, 8, 8, 8, 8, 8, 8, 8, 8, 8, 8, 8, 8, 8, 8, 8, 8, 8, 8, 8, 8, 8, 8, 8, 8, 8, 8, 8, 8, 8, 8, 8, 8, 8, 8, 8, 8, 8, 8, 8, 8, 8, 8, 8, 8, 8, 8, 8, 8, 8, 8, 8, 8, 8, 8, 8, 8, 8, 8, 8, 8, 8, 8, 8, 8, 8, 8, 8, 8, 8, 8, 8, 8, 8, 8, 8, 8, 8, 8, 8, 8, 8, 8, 8, 8, 8, 8, 8, 8, 8, 8, 8, 8, 8, 8])) (.t 21))), none⟩,
 ⟨(some 23), (.dry (.conv .i64 (.t 22))), none⟩,
 ⟨(some 24), (.dry (.bin .add (.t 19) (.t 23))), none⟩,
 ⟨(some 2), (.dry (.mov (.t 24))), none⟩])
 .ret))))) }

/-- internal/strconv.FormatInt -/
def e227 : EFunc := { own := none, res := [(.tmp 4)], ntmps := 54, pure := false, body :=
 (.seq (.reg [⟨(some 4), (.dry (.mov (.k (.str [])))), none⟩])
 (.seq (.seq (.reg [⟨(some 10), (.dry (.mov (.t 1))), none⟩,
 ⟨(some 11), (.dry (.eq (.prim .i) false (.t 10) (.k (.int .i64 10)))), none⟩])
 (.cond (.t 11)
 (.seq (.seq (.reg [⟨(some 12), (.dry (.mov (.t 0))), none⟩,
 ⟨(some 13), (.dry (.bin .leq (.k (.int .i64 0)) (.t 12))), none⟩,
 ⟨(some 14), (.dry (.mov (.t 13))), none⟩,
 ⟨(some 15), (.dry (.mov (.t 0))), (some (14, true))⟩,
 ⟨(some 16), (.dry (.bin .lss (.t 15) (.k (.int .i64 100)))), (some (14, true))⟩,
 ⟨(some 17), (.dry (.pick (.t 14) (.t 16) (.k (.bool false)))), none⟩])
 (.cond (.t 17)
 (.seq (.reg [⟨(some 18), (.dry (.mov (.t 0))), none⟩,
 ⟨(some 19), (.call (.k (.fn 228 [] [])) [(.t 18)]), none⟩,
 ⟨(some 4), (.dry (.mov (.t 19))), none⟩])
 .ret)
 .skip))
 (.seq (.reg [⟨(some 5), (.wet (.alloc 1 1 [(.int .u8 0), (.int .u8 0), (.int .u8 0), (.int .u8 0), (.int .u8 0), (.int .u8 0), (.int .u8 0), (.int .u8 0), (.int .u8 0), (.int .u8 0), (.int .u8 0), (.int .u8 0), (.int .u8 0), (.int .u8 0), (.int .u8 0), (.int .u8 0), (.int .u8 0), (.int .u8 0), (.int .u8 0), (.int .u8 0), (.int .u8 0), (.int .u8 0), (.int .u8 0), (.int .u8 0)])), none⟩])
 (.seq (.reg [⟨(some 20), (.dry (.mov (.t 0))), none⟩,
 ⟨(some 21), (.dry (.conv .u64 (.t 20))), none⟩,
 ⟨(some 6), (.dry (.mov (.t 21))), none⟩])
 (.seq (.seq (.reg [⟨(some 22), (.dry (.mov (.t 0))), none⟩,
 ⟨(some 23), (.dry (.bin .lss (.t 22) (.k (.int .i64 0)))), none⟩])
 (.cond (.t 23)
 (.reg [⟨(some 24), (.dry (.mov (.t 6))), none⟩,
 ⟨(some 25), (.dry (.neg (.t 24))), none⟩,
 ⟨(some 6), (.dry (.mov (.t 25))), none⟩])
 .skip))
 (.seq (.reg [⟨(some 26), (.dry (.mov (.t 6))), none⟩,
 ⟨(some 27), (.call (.k (.fn 229 [] [])) [(.t 26)]), none⟩,
 ⟨(some 7), (.dry (.mov (.t 27))), none⟩])
 (.seq (.reg [⟨(some 28), (.dry (.mov (.t 7))), none⟩,
 ⟨(some 29), (.dry (.bin .add (.k (.int .i64 1)) (.t 28))), none⟩,
 ⟨(some 30), (.wet (.aslice 24 1 (.t 5) (some (.k (.int .i64 1))) (some (.t 29)))), none⟩,
 ⟨(some 31), (.dry (.mov (.t 6))), none⟩,
 ⟨(some 32), (.call (.k (.fn 230 [] [])) [(.t 30), (.t 31)]), none⟩])
 (.seq (.seq (.reg [⟨(some 33), (.dry (.mov (.t 0))), none⟩,
 ⟨(some 34), (.dry (.bin .lss (.t 33) (.k (.int .i64 0)))), none⟩])
 (.cond (.t 34)
 (.seq (.reg [⟨(some 35), (.dry (.aaddr 24 1 false (.t 5) (.k (.int .i64 0)))), none⟩,
 ⟨none, (.wet (.store 1 (.t 35) (.k (.int .u8 45)))), none⟩])
 (.seq (.reg [⟨(some 36), (.dry (.mov (.t 7))), none⟩,
 ⟨(some 37), (.dry (.bin .add (.k (.int .i64 1)) (.t 36))), none⟩,
 ⟨(some 38), (.wet (.aslice 24 1 (.t 5) none (some (.t 37)))), none⟩,
 ⟨(some 39), (.wet (.b2s (.t 38))), none⟩,
 ⟨(some 4), (.dry (.mov (.t 39))), none⟩])
 .ret))
 .skip))
 (.seq (.reg [⟨(some 40), (.dry (.mov (.t 7))), none⟩,
 ⟨(some 41), (.dry (.bin .add (.k (.int .i64 1)) (.t 40))), none⟩,
 ⟨(some 42), (.wet (.aslice 24 1 (.t 5) (some (.k (.int .i64 1))) (some (.t 41)))), none⟩,
 ⟨(some 43), (.wet (.b2s (.t 42))), none⟩,
 ⟨(some 4), (.dry (.mov (.t 43))), none⟩])
 .ret))))))))
 .skip))
 (.seq (.reg [⟨(some 45), (.dry (.mov (.t 0))), none⟩,
 ⟨(some 46), (.dry (.conv .u64 (.t 45))), none⟩,
 ⟨(some 47), (.dry (.mov (.t 1))), none⟩,
 ⟨(some 48), (.dry (.mov (.t 0))), none⟩,
 ⟨(some 49), (.dry (.bin .lss (.t 48) (.k (.int .i64 0)))), none⟩,
 ⟨(some 50), (.call (.k (.fn 231 [] [])) [(.k .nils), (.t 46), (.t 47), (.t 49), (.k (.bool false))]), none⟩,
 ⟨(some 44), (.dry (.mov (.t 50))), none⟩,
 ⟨(some 51), (.dry (.extract (.t 44) 0)), none⟩,
 ⟨(some 52), (.dry (.extract (.t 44) 1)), none⟩,
 ⟨(some 8), (.dry (.mov (.t 51))), none⟩,
 ⟨(some 9), (.dry (.mov (.t 52))), none⟩])
 (.seq (.reg [⟨(some 53), (.dry (.mov (.t 9))), none⟩,
 ⟨(some 4), (.dry (.mov (.t 53))), none⟩])
 .ret)))) }

/-- internal/strconv.small -/
def e228 : EFunc := { own := none, res := [(.tmp 2)], ntmps := 15, pure := false, body :=
 (.seq (.reg [⟨(some 2), (.dry (.mov (.k (.str [])))), none⟩])
 (.seq (.seq (.reg [⟨(some 3), (.dry (.mov (.t 0))), none⟩,
 ⟨(some 4), (.dry (.bin .lss (.t 3) (.k (.int .i64 10)))), none⟩])
 (.cond (.t 4)
 (.seq (.reg [⟨(some 5), (.dry (.mov (.t 0))), none⟩,
 ⟨(some 6), (.dry (.mov (.t 0))), none⟩,
 ⟨(some 7), (.dry (.bin .add (.t 6) (.k (.int .i64 1)))), none⟩,
 ⟨(some 8), (.dry (.strsl (.k (.str [48, 49, 50, 51, 52, 53, 54, 55, 56, 57, 97, 98, 99, 100, 101, 102, 103, 104, 105, 106, 107, 108, 109, 110, 111, 112, 113, 114, 115, 116, 117, 118, 119, 120, 121, 122])) (some (.t 5)) (some (.t 7)))), none⟩,
 ⟨(some 2), (.dry (.mov (.t 8))), none⟩])
 .ret)
 .skip))
 (.seq (.reg [⟨(some 9), (.dry (.mov (.t 0))), none⟩,
 ⟨(some 10), (.dry (.bin .mul (.t 9) (.k (.int .i64 2)))), none⟩,
 ⟨(some 11), (.dry (.mov (.t 0))), none⟩,
 ⟨(some 12), (.dry (.bin .mul (.t 11) (.k (.int .i64 2)))), none⟩,
 ⟨(some 13), (.dry (.bin .add (.t 12) (.k (.int .i64 2)))), none⟩,
 ⟨(some 14), (.dry (.strsl (.k (.str [48, 48, 48, 49, 48, 50, 48, 51, 48, 52, 48, 53, 48, 54, 48, 55, 48, 56, 48, 57, 49, 48, 49, 49, 49, 50, 49, 51, 49, 52, 49, 53, 49, 54, 49, 55, 49, 56, 49, 57, 50, 48, 50, 49, 50, 50, 50, 51, 50, 52, 50, 53, 50, 54, 50, 55, 50, 56, 50, 57, 51, 48, 51, 49, 51, 50, 51, 51, 51, 52, 51, 53, 51, 54, 51, 55, 51, 56, 51, 57, 52, 48, 52, 49, 52, 50, 52, 51, 52, 52, 52, 53, 52, 54, 52, 55, 52, 56, 52, 57, 53, 48, 53, 49, 53, 50, 53, 51, 53, 52, 53, 53, 53, 54, 53, 55, 53, 56, 53, 57, 54, 48, 54, 49, 54, 50, 54, 51, 54, 52, 54, 53, 54, 54, 54, 55, 54, 56, 54, 57, 55, 48, 55, 49, 55, 50, 55, 51, 55, 52, 55, 53, 55, 54, 55, 55, 55, 56, 55, 57, 56, 48, 56, 49, 56, 50, 56, 51, 56, 52, 56, 53, 56, 54, 56, 55, 56, 56, 56, 57, 57, 48, 57, 49, 57, 50, 57, 51, 57, 52, 57, 53, 57, 54, 57, 55, 57, 56, 57, 57])) (some (.t 10)) (some (.t 13)))), none⟩,
 ⟨(some 2), (.dry (.mov (.t 14))), none⟩])
 .ret))) }

/-- internal/strconv.numDigits -/
def e229 : EFunc := { own := none, res := [(.tmp 2)], ntmps := 15, pure := false, body :=
 (.seq (.reg [⟨(some 2), (.dry (.mov (.k (.int .i64 0)))), none⟩])
 (.seq (.reg [⟨(some 4), (.dry (.mov (.t 0))), none⟩,
 ⟨(some 5), (.call (.k (.fn 225 [] [])) [(.t 4)]), none⟩,
 ⟨(some 6), (.call (.k (.fn 256 [] [])) [(.t 5)]), none⟩,
 ⟨(some 3), (.dry (.mov (.t 6))), none⟩])
 (.seq (.reg [⟨(some 7), (.dry (.mov (.t 3))), none⟩,
 ⟨(some 8), (.dry (.mov (.t 0))), none⟩,
 ⟨(some 9), (.dry (.mov (.t 3))), none⟩,
 ⟨(some 10), (.dry (.aaddr 20 1 false (.g 0) (.t 9))), none⟩,
 ⟨(some 11), (.wet (.load 1 false (.t 10))), none⟩,
 ⟨(some 12), (.dry (.bin .geq (.t 8) (.t 11))), none⟩,
 ⟨(some 13), (.call (.k (.fn 257 [] [])) [(.t 12)]), none⟩,
 ⟨(some 14), (.dry (.bin .add (.t 7) (.t 13))), none⟩,
 ⟨(some 2), (.dry (.mov (.t 14))), none⟩])
 .ret))) }

/-- internal/strconv.formatBase10 -/
def e230 : EFunc := { own := none, res := [], ntmps := 167, pure := false, body :=
 (.seq (.reg [⟨(some 17), (.dry (.mov (.t 0))), none⟩,
 ⟨(some 18), (.dry (.len (.t 17))), none⟩,
 ⟨(some 4), (.dry (.mov (.t 18))), none⟩])
 (.seq (.block 0
 (.loop
 (.seq (.seq (.reg [⟨(some 19), (.dry (.mov (.t 4))), none⟩,
 ⟨(some 20), (.dry (.bin .geq (.t 19) (.k (.int .i64 8)))), none⟩])
 (.cond (.t 20)
 .skip
 (.exit 0)))
 (.block 1
 (.seq (.reg [⟨(some 21), (.dry (.mov (.t 1))), none⟩,
 ⟨(some 22), (.dry (.bin .rem (.t 21) (.k (.int .u64 100000000)))), none⟩,
 ⟨(some 23), (.dry (.conv .u32 (.t 22))), none⟩,
 ⟨(some 5), (.dry (.mov (.t 23))), none⟩])
 (.seq (.reg [⟨(some 24), (.dry (.mov (.t 1))), none⟩,
 ⟨(some 25), (.dry (.bin .quo (.t 24) (.k (.int .u64 100000000)))), none⟩,
 ⟨(some 1), (.dry (.mov (.t 25))), none⟩])
 (.seq (.reg [⟨(some 26), (.dry (.mov (.t 5))), none⟩,
 ⟨(some 27), (.dry (.bin .quo (.t 26) (.k (.int .u32 10000)))), none⟩,
 ⟨(some 28), (.dry (.mov (.t 5))), none⟩,
 ⟨(some 29), (.dry (.bin .rem (.t 28) (.k (.int .u32 10000)))), none⟩,
 ⟨(some 6), (.dry (.mov (.t 27))), none⟩,
 ⟨(some 7), (.dry (.mov (.t 29))), none⟩])
 (.seq (.reg [⟨(some 30), (.dry (.mov (.t 7))), none⟩,
 ⟨(some 31), (.dry (.bin .quo (.t 30) (.k (.int .u32 100)))), none⟩,
 ⟨(some 32), (.dry (.bin .mul (.t 31) (.k (.int .u32 2)))), none⟩,
 ⟨(some 33), (.dry (.mov (.t 7))), none⟩,
 ⟨(some 34), (.dry (.bin .rem (.t 33) (.k (.int .u32 100)))), none⟩,
 ⟨(some 35), (.dry (.bin .mul (.t 34) (.k (.int .u32 2)))), none⟩,
 ⟨(some 8), (.dry (.mov (.t 32))), none⟩,
 ⟨(some 9), (.dry (.mov (.t 35))), none⟩])
 (.seq (.reg [⟨(some 36), (.dry (.mov (.t 6))), none⟩,
 ⟨(some 37), (.dry (.bin .quo (.t 36) (.k (.int .u32 100)))), none⟩,
 ⟨(some 38), (.dry (.bin .mul (.t 37) (.k (.int .u32 2)))), none⟩,
 ⟨(some 39), (.dry (.mov (.t 6))), none⟩,
 ⟨(some 40), (.dry (.bin .rem (.t 39) (.k (.int .u32 100)))), none⟩,
 ⟨(some 41), (.dry (.bin .mul (.t 40) (.k (.int .u32 2)))), none⟩,
 ⟨(some 10), (.dry (.mov (.t 38))), none⟩,
 ⟨(some 11), (.dry (.mov (.t 41))), none⟩])
 (.seq (.draw [(⟨(some 42), (.dry (.mov (.t 0))), none⟩, 0, false),
 (⟨(some 43), (.dry (.mov (.t 4))), none⟩, 0, false),
 (⟨(some 44), (.dry (.bin .sub (.t 43) (.k (.int .i64 1)))), none⟩, 2, false),
 (⟨(some 45), (.dry (.mov (.t 0))), none⟩, 0, false),
 (⟨(some 46), (.dry (.mov (.t 4))), none⟩, 0, false),
 (⟨(some 47), (.dry (.bin .sub (.t 46) (.k (.int .i64 2)))), none⟩, 16, false),
 (⟨(some 48), (.dry (.mov (.t 9))), none⟩, 0, false),
 (⟨(some 49), (.dry (.bin .add (.t 48) (.k (.int .u32 1)))), none⟩, 64, false),
 (⟨(some 50), (.dry (.sidx (.k (.str [48, 48, 48, 49, 48, 50, 48, 51, 48, 52, 48, 53, 48, 54, 48, 55, 48, 56, 48, 57, 49, 48, 49, 49, 49, 50, 49, 51, 49, 52, 49, 53, 49, 54, 49, 55, 49, 56, 49, 57, 50, 48, 50, 49, 50, 50, 50, 51, 50, 52, 50, 53, 50, 54, 50, 55, 50, 56, 50, 57, 51, 48, 51, 49, 51, 50, 51, 51, 51, 52, 51, 53, 51, 54, 51, 55, 51, 56, 51, 57, 52, 48, 52, 49, 52, 50, 52, 51, 52, 52, 52, 53, 52, 54, 52, 55, 52, 56, 52, 57, 53, 48, 53, 49, 53, 50, 53, 51, 53, 52, 53, 53, 53, 54, 53, 55, 53, 56, 53, 57, 54, 48, 54, 49, 54, 50, 54, 51, 54, 52, 54, 53, 54, 54, 54, 55, 54, 56, 54, 57, 55, 48, 55, 49, 55, 50, 55, 51, 55, 52, 55, 53, 55, 54, 55, 55, 55, 56, 55, 57, 56, 48, 56, 49, 56, 50, 56, 51, 56, 52, 56, 53, 56, 54, 56, 55, 56, 56, 56, 57, 57, 48, 57, 49, 57, 50, 57, 51, 57, 52, 57, 53, 57, 54, 57, 55, 57, 56, 57, 57])) (.t 49))), none⟩, 192, false),
 (⟨(some 51), (.dry (.mov (.t 9))), none⟩, 0, false),
 (⟨(some 52), (.dry (.sidx (.k (.str [48, 48, 48, 49, 48, 50, 48, 51, 48, 52, 48, 53, 48, 54, 48, 55, 48, 56, 48, 57, 49, 48, 49, 49, 49, 50, 49, 51, 49, 52, 49, 53, 49, 54, 49, 55, 49, 56, 49, 57, 50, 48, 50, 49, 50, 50, 50, 51, 50, 52, 50, 53, 50, 54, 50, 55, 50, 56, 50, 57, 51, 48, 51, 49, 51, 50, 51, 51, 51, 52, 51, 53, 51, 54, 51, 55, 51, 56, 51, 57, 52, 48, 52, 49, 52, 50, 52, 51, 52, 52, 52, 53, 52, 54, 52, 55, 52, 56, 52, 57, 53, 48, 53, 49, 53, 50, 53, 51, 53, 52, 53, 53, 53, 54, 53, 55, 53, 56, 53, 57, 54, 48, 54, 49, 54, 50, 54, 51, 54, 52, 54, 53, 54, 54, 54, 55, 54, 56, 54, 57, 55, 48, 55, 49, 55, 50, 55, 51, 55, 52, 55, 53, 55, 54, 55, 55, 55, 56, 55, 57, 56, 48, 56, 49, 56, 50, 56, 51, 56, 52, 56, 53, 56, 54, 56, 55, 56, 56, 56, 57, 57, 48, 57, 49, 57, 50, 57, 51, 57, 52, 57, 53, 57, 54, 57, 55, 57, 56, 57, 57])) (.t 51))), none⟩, 512, false),
 (⟨(some 53), (.dry (.iaddr 1 (.t 42) (.t 44))), none⟩, 455, false),
 (⟨none, (.wet (.store 1 (.t 53) (.t 50))), none⟩, 2503, true),
 (⟨(some 54), (.dry (.iaddr 1 (.t 45) (.t 47))), none⟩, 8191, false),
 (⟨none, (.wet (.store 1 (.t 54) (.t 52))), none⟩, 16383, true)])
 (.seq (.draw [(⟨(some 55), (.dry (.mov (.t 0))), none⟩, 0, false),
 (⟨(some 56), (.dry (.mov (.t 4))), none⟩, 0, false),
 (⟨(some 57), (.dry (.bin .sub (.t 56) (.k (.int .i64 3)))), none⟩, 2, false),
 (⟨(some 58), (.dry (.mov (.t 0))), none⟩, 0, false),
 (⟨(some 59), (.dry (.mov (.t 4))), none⟩, 0, false),
 (⟨(some 60), (.dry (.bin .sub (.t 59) (.k (.int .i64 4)))), none⟩, 16, false),
 (⟨(some 61), (.dry (.mov (.t 8))), none⟩, 0, false),
 (⟨(some 62), (.dry (.bin .add (.t 61) (.k (.int .u32 1)))), none⟩, 64, false),
 (⟨(some 63), (.dry (.sidx (.k (.str [48, 48, 48, 49, 48, 50, 48, 51, 48, 52, 48, 53, 48, 54, 48, 55, 48, 56, 48, 57, 49, 48, 49, 49, 49, 50, 49, 51, 49, 52, 49, 53, 49, 54, 49, 55, 49, 56, 49, 57, 50, 48, 50, 49, 50, 50, 50, 51, 50, 52, 50, 53, 50, 54, 50, 55, 50, 56, 50, 57, 51, 48, 51, 49, 51, 50, 51, 51, 51, 52, 51, 53, 51, 54, 51, 55, 51, 56, 51, 57, 52, 48, 52, 49, 52, 50, 52, 51, 52, 52, 52, 53, 52, 54, 52, 55, 52, 56, 52, 57, 53, 48, 53, 49, 53, 50, 53, 51, 53, 52, 53, 53, 53, 54, 53, 55, 53, 56, 53, 57, 54, 48, 54, 49, 54, 50, 54, 51, 54, 52, 54, 53, 54, 54, 54, 55, 54, 56, 54, 57, 55, 48, 55, 49, 55, 50, 55, 51, 55, 52, 55, 53, 55, 54, 55, 55, 55, 56, 55, 57, 56, 48, 56, 49, 56, 50, 56, 51, 56, 52, 56, 53, 56, 54, 56, 55, 56, 56, 56, 57, 57, 48, 57, 49, 57, 50, 57, 51, 57, 52, 57, 53, 57, 54, 57, 55, 57, 56, 57, 57])) (.t 62))), none⟩, 192, false),
 (⟨(some 64), (.dry (.mov (.t 8))), none⟩, 0, false),
 (⟨(some 65), (.dry (.sidx (.k (.str [48, 48, 48, 49, 48, 50, 48, 51, 48, 52, 48, 53, 48, 54, 48, 55, 48, 56, 48, 57, 49, 48, 49, 49, 49, 50, 49, 51, 49, 52, 49, 53, 49, 54, 49, 55, 49, 56, 49, 57, 50, 48, 50, 49, 50, 50, 50, 51, 50, 52, 50, 53, 50, 54, 50, 55, 50, 56, 50, 57, 51, 48, 51, 49, 51, 50, 51, 51, 51, 52, 51, 53, 51, 54, 51, 55, 51, 56, 51, 57, 52, 48, 52, 49, 52, 50, 52, 51, 52, 52, 52, 53, 52, 54, 52, 55, 52, 56, 52, 57, 53, 48, 53, 49, 53, 50, 53, 51, 53, 52, 53, 53, 53, 54, 53, 55, 53, 56, 53, 57, 54, 48, 54, 49, 54, 50, 54, 51, 54, 52, 54, 53, 54, 54, 54, 55, 54, 56, 54, 57, 55, 48, 55, 49, 55, 50, 55, 51, 55, 52, 55, 53, 55, 54, 55, 55, 55, 56, 55, 57, 56, 48, 56, 49, 56, 50, 56, 51, 56, 52, 56, 53, 56, 54, 56, 55, 56, 56, 56, 57, 57, 48, 57, 49, 57, 50, 57, 51, 57, 52, 57, 53, 57, 54, 57, 55, 57, 56, 57, 57])) (.t 64))), none⟩, 512, false),
 (⟨(some 66), (.dry (.iaddr 1 (.t 55) (.t 57))), none⟩, 455, false),
 (⟨none, (.wet (.store 1 (.t 66) (.t 63))), none⟩, 2503, true),
 (⟨(some 67), (.dry (.iaddr 1 (.t 58) (.t 60))), none⟩, 8191, false),
 (⟨none, (.wet (.store 1 (.t 67) (.t 65))), none⟩, 16383, true)])
 (.seq (.draw [(⟨(some 68), (.dry (.mov (.t 0))), none⟩, 0, false),
 (⟨(some 69), (.dry (.mov (.t 4))), none⟩, 0, false),
 (⟨(some 70), (.dry (.bin .sub (.t 69) (.k (.int .i64 5)))), none⟩, 2, false),
 (⟨(some 71), (.dry (.mov (.t 0))), none⟩, 0, false),
 (⟨(some 72), (.dry (.mov (.t 4))), none⟩, 0, false),
 (⟨(some 73), (.dry (.bin .sub (.t 72) (.k (.int .i64 6)))), none⟩, 16, false),
 (⟨(some 74), (.dry (.mov (.t 11))), none⟩, 0, false),
 (⟨(some 75), (.dry (.bin .add (.t 74) (.k (.int .u32 1)))), none⟩, 64, false),
 (⟨(some 76), (.dry (.sidx (.k (.str [48, 48, 48, 49, 48, 50, 48, 51, 48, 52, 48, 53, 48, 54, 48, 55, 48, 56, 48, 57, 49, 48, 49, 49, 49, 50, 49, 51, 49, 52, 49, 53, 49, 54, 49, 55, 49, 56, 49, 57, 50, 48, 50, 49, 50, 50, 50, 51, 50, 52, 50, 53, 50, 54, 50, 55, 50, 56, 50, 57, 51, 48, 51, 49, 51, 50, 51, 51, 51, 52, 51, 53, 51, 54, 51, 55, 51, 56, 51, 57, 52, 48, 52, 49, 52, 50, 52, 51, 52, 52, 52, 53, 52, 54, 52, 55, 52, 56, 52, 57, 53, 48, 53, 49, 53, 50, 53, 51, 53, 52, 53, 53, 53, 54, 53, 55, 53, 56, 53, 57, 54, 48, 54, 49, 54, 50, 54, 51, 54, 52, 54, 53, 54, 54, 54, 55, 54, 56, 54, 57, 55, 48, 55, 49, 55, 50, 55, 51, 55, 52, 55, 53, 55, 54, 55, 55, 55, 56, 55, 57, 56, 48, 56, 49, 56, 50, 56, 51, 56, 52, 56, 53, 56, 54, 56, 55, 56, 56, 56, 57, 57, 48, 57, 49, 57, 50, 57, 51, 57, 52, 57, 53, 57, 54, 57, 55, 57, 56, 57, 57])) (.t 75))), none⟩, 192, false),
 (⟨(some 77), (.dry (.mov (.t 11))), none⟩, 0, false),
 (⟨(some 78), (.dry (.sidx (.k (.str [48, 48, 48, 49, 48, 50, 48, 51, 48, 52, 48, 53, 48, 54, 48, 55, 48, 56, 48, 57, 49, 48, 49, 49, 49, 50, 49, 51, 49, 52, 49, 53, 49, 54, 49, 55, 49, 56, 49, 57, 50, 48, 50, 49, 50, 50, 50, 51, 50, 52, 50, 53, 50, 54, 50, 55, 50, 56, 50, 57, 51, 48, 51, 49, 51, 50, 51, 51, 51, 52, 51, 53, 51, 54, 51, 55, 51, 56, 51, 57, 52, 48, 52, 49, 52, 50, 52, 51, 52, 52, 52, 53, 52, 54, 52, 55, 52, 56, 52, 57, 53, 48, 53, 49, 53, 50, 53, 51, 53, 52, 53, 53, 53, 54, 53, 55, 53, 56, 53, 57, 54, 48, 54, 49, 54, 50, 54, 51, 54, 52, 54, 53, 54, 54, 54, 55, 54, 56, 54, 57, 55, 48, 55, 49, 55, 50, 55, 51, 55, 52, 55, 53, 55, 54, 55, 55, 55, 56, 55, 57, 56, 48, 56, 49, 56, 50, 56, 51, 56, 52, 56, 53, 56, 54, 56, 55, 56, 56, 56, 57, 57, 48, 57, 49, 57, 50, 57, 51, 57, 52, 57, 53, 57, 54, 57, 55, 57, 56, 57, 57])) (.t 77))), none⟩, 512, false),
 (⟨(some 79), (.dry (.iaddr 1 (.t 68) (.t 70))), none⟩, 455, false),
 (⟨none, (.wet (.store 1 (.t 79) (.t 76))), none⟩, 2503, true),
 (⟨(some 80), (.dry (.iaddr 1 (.t 71) (.t 73))), none⟩, 8191, false),
 (⟨none, (.wet (.store 1 (.t 80) (.t 78))), none⟩, 16383, true)])
 (.seq (.draw [(⟨(some 81), (.dry (.mov (.t 0))), none⟩, 0, false),
 (⟨(some 82), (.dry (.mov (.t 4))), none⟩, 0, false),
 (⟨(some 83), (.dry (.bin .sub (.t 82) (.k (.int .i64 7)))), none⟩, 2, false),
 (⟨(some 84), (.dry (.mov (.t 0))), none⟩, 0, false),
 (⟨(some 85), (.dry (.mov (.t 4))), none⟩, 0, false),
 (⟨(some 86), (.dry (.bin .sub (.t 85) (.k (.int .i64 8)))), none⟩, 16, false),
 (⟨(some 87), (.dry (.mov (.t 10))), none⟩, 0, false),
 (⟨(some 88), (.dry (.bin .add (.t 87) (.k (.int .u32 1)))), none⟩, 64, false),
 (⟨(some 89), (.dry (.sidx (.k (.str [48, 48, 48, 49, 48, 50, 48, 51, 48, 52, 48, 53, 48, 54, 48, 55, 48, 56, 48, 57, 49, 48, 49, 49, 49, 50, 49, 51, 49, 52, 49, 53, 49, 54, 49, 55, 49, 56, 49, 57, 50, 48, 50, 49, 50, 50, 50, 51, 50, 52, 50, 53, 50, 54, 50, 55, 50, 56, 50, 57, 51, 48, 51, 49, 51, 50, 51, 51, 51, 52, 51, 53, 51, 54, 51, 55, 51, 56, 51, 57, 52, 48, 52, 49, 52, 50, 52, 51, 52, 52, 52, 53, 52, 54, 52, 55, 52, 56, 52, 57, 53, 48, 53, 49, 53, 50, 53, 51, 53, 52, 53, 53, 53, 54, 53, 55, 53, 56, 53, 57, 54, 48, 54, 49, 54, 50, 54, 51, 54, 52, 54, 53, 54, 54, 54, 55, 54, 56, 54, 57, 55, 48, 55, 49, 55, 50, 55, 51, 55, 52, 55, 53, 55, 54, 55, 55, 55, 56, 55, 57, 56, 48, 56, 49, 56, 50, 56, 51, 56, 52, 56, 53, 56, 54, 56, 55, 56, 56, 56, 57, 57, 48, 57, 49, 57, 50, 57, 51, 57, 52, 57, 53, 57, 54, 57, 55, 57, 56, 57, 57])) (.t 88))), none⟩, 192, false),
 (⟨(some 90), (.dry (.mov (.t 10))), none⟩, 0, false),
 (⟨(some 91), (.dry (.sidx (.k (.str [48, 48, 48, 49, 48, 50, 48, 51, 48, 52, 48, 53, 48, 54, 48, 55, 48, 56, 48, 57, 49, 48, 49, 49, 49, 50, 49, 51, 49, 52, 49, 53, 49, 54, 49, 55, 49, 56, 49, 57, 50, 48, 50, 49, 50, 50, 50, 51, 50, 52, 50, 53, 50, 54, 50, 55, 50, 56, 50, 57, 51, 48, 51, 49, 51, 50, 51, 51, 51, 52, 51, 53, 51, 54, 51, 55, 51, 56, 51, 57, 52, 48, 52, 49, 52, 50, 52, 51, 52, 52, 52, 53, 52, 54, 52, 55, 52, 56, 52, 57, 53, 48, 53, 49, 53, 50, 53, 51, 53, 52, 53, 53, 53, 54, 53, 55, 53, 56, 53, 57, 54, 48, 54, 49, 54, 50, 54, 51, 54, 52, 54, 53, 54, 54, 54, 55, 54, 56, 54, 57, 55, 48, 55, 49, 55, 50, 55, 51, 55, 52, 55, 53, 55, 54, 55, 55, 55, 56, 55, 57, 56, 48, 56, 49, 56, 50, 56, 51, 56, 52, 56, 53, 56, 54, 56, 55, 56, 56, 56, 57, 57, 48, 57, 49, 57, 50, 57, 51, 57, 52, 57, 53, 57, 54, 57, 55, 57, 56, 57, 57])) (.t 90))), none⟩, 512, false),
 (⟨(some 92), (.dry (.iaddr 1 (.t 81) (.t 83))), none⟩, 455, false),
 (⟨none, (.wet (.store 1 (.t 92) (.t 89))), none⟩, 2503, true),
 (⟨(some 93), (.dry (.iaddr 1 (.t 84) (.t 86))), none⟩, 8191, false),
 (⟨none, (.wet (.store 1 (.t 93) (.t 91))), none⟩, 16383, true)])
 (.reg [⟨(some 94), (.dry (.mov (.t 4))), none⟩,
 ⟨(some 95), (.dry (.bin .sub (.t 94) (.k (.int .i64 8)))), none⟩,
 ⟨(some 4), (.dry (.mov (.t 95))), none⟩]))))))))))))))
 (.seq (.reg [⟨(some 96), (.dry (.mov (.t 1))), none⟩,
 ⟨(some 97), (.dry (.conv .u32 (.t 96))), none⟩,
 ⟨(some 12), (.dry (.mov (.t 97))), none⟩])
 (.seq (.seq (.reg [⟨(some 98), (.dry (.mov (.t 4))), none⟩,
 ⟨(some 99), (.dry (.bin .geq (.t 98) (.k (.int .i64 4)))), none⟩])
 (.cond (.t 99)
 (.seq (.reg [⟨(some 100), (.dry (.mov (.t 12))), none⟩,
 ⟨(some 101), (.dry (.bin .rem (.t 100) (.k (.int .u32 10000)))), none⟩,
 ⟨(some 13), (.dry (.mov (.t 101))), none⟩])
 (.seq (.reg [⟨(some 102), (.dry (.mov (.t 12))), none⟩,
 ⟨(some 103), (.dry (.bin .quo (.t 102) (.k (.int .u32 10000)))), none⟩,
 ⟨(some 12), (.dry (.mov (.t 103))), none⟩])
 (.seq (.reg [⟨(some 104), (.dry (.mov (.t 13))), none⟩,
 ⟨(some 105), (.dry (.bin .quo (.t 104) (.k (.int .u32 100)))), none⟩,
 ⟨(some 106), (.dry (.bin .mul (.t 105) (.k (.int .u32 2)))), none⟩,
 ⟨(some 107), (.dry (.mov (.t 13))), none⟩,
 ⟨(some 108), (.dry (.bin .rem (.t 107) (.k (.int .u32 100)))), none⟩,
 ⟨(some 109), (.dry (.bin .mul (.t 108) (.k (.int .u32 2)))), none⟩,
 ⟨(some 14), (.dry (.mov (.t 106))), none⟩,
 ⟨(some 15), (.dry (.mov (.t 109))), none⟩])
 (.seq (.draw [(⟨(some 110), (.dry (.mov (.t 0))), none⟩, 0, false),
 (⟨(some 111), (.dry (.mov (.t 4))), none⟩, 0, false),
 (⟨(some 112), (.dry (.bin .sub (.t 111) (.k (.int .i64 1)))), none⟩, 2, false),
 (⟨(some 113), (.dry (.mov (.t 0))), none⟩, 0, false),
 (⟨(some 114), (.dry (.mov (.t 4))), none⟩, 0, false),
 (⟨(some 115), (.dry (.bin .sub (.t 114) (.k (.int .i64 2)))), none⟩, 16, false),
 (⟨(some 116), (.dry (.mov (.t 15))), none⟩, 0, false),
 (⟨(some 117), (.dry (.bin .add (.t 116) (.k (.int .u32 1)))), none⟩, 64, false),
 (⟨(some 118), (.dry (.sidx (.k (.str [48, 48, 48, 49, 48, 50, 48, 51, 48, 52, 48, 53, 48, 54, 48, 55, 48, 56, 48, 57, 49, 48, 49, 49, 49, 50, 49, 51, 49, 52, 49, 53, 49, 54, 49, 55, 49, 56, 49, 57, 50, 48, 50, 49, 50, 50, 50, 51, 50, 52, 50, 53, 50, 54, 50, 55, 50, 56, 50, 57, 51, 48, 51, 49, 51, 50, 51, 51, 51, 52, 51, 53, 51, 54, 51, 55, 51, 56, 51, 57, 52, 48, 52, 49, 52, 50, 52, 51, 52, 52, 52, 53, 52, 54, 52, 55, 52, 56, 52, 57, 53, 48, 53, 49, 53, 50, 53, 51, 53, 52, 53, 53, 53, 54, 53, 55, 53, 56, 53, 57, 54, 48, 54, 49, 54, 50, 54, 51, 54, 52, 54, 53, 54, 54, 54, 55, 54, 56, 54, 57, 55, 48, 55, 49, 55, 50, 55, 51, 55, 52, 55, 53, 55, 54, 55, 55, 55, 56, 55, 57, 56, 48, 56, 49, 56, 50, 56, 51, 56, 52, 56, 53, 56, 54, 56, 55, 56, 56, 56, 57, 57, 48, 57, 49, 57, 50, 57, 51, 57, 52, 57, 53, 57, 54, 57, 55, 57, 56, 57, 57])) (.t 117))), none⟩, 192, false),
 (⟨(some 119), (.dry (.mov (.t 15))), none⟩, 0, false),
 (⟨(some 120), (.dry (.sidx (.k (.str [48, 48, 48, 49, 48, 50, 48, 51, 48, 52, 48, 53, 48, 54, 48, 55, 48, 56, 48, 57, 49, 48, 49, 49, 49, 50, 49, 51, 49, 52, 49, 53, 49, 54, 49, 55, 49, 56, 49, 57, 50, 48, 50, 49, 50, 50, 50, 51, 50, 52, 50, 53, 50, 54, 50, 55, 50, 56, 50, 57, 51, 48, 51, 49, 51, 50, 51, 51, 51, 52, 51, 53, 51, 54, 51, 55, 51, 56, 51, 57, 52, 48, 52, 49, 52, 50, 52, 51, 52, 52, 52, 53, 52, 54, 52, 55, 52, 56, 52, 57, 53, 48, 53, 49, 53, 50, 53, 51, 53, 52, 53, 53, 53, 54, 53, 55, 53, 56, 53, 57, 54, 48, 54, 49, 54, 50, 54, 51, 54, 52, 54, 53, 54, 54, 54, 55, 54, 56, 54, 57, 55, 48, 55, 49, 55, 50, 55, 51, 55, 52, 55, 53, 55, 54, 55, 55, 55, 56, 55, 57, 56, 48, 56, 49, 56, 50, 56, 51, 56, 52, 56, 53, 56, 54, 56, 55, 56, 56, 56, 57, 57, 48, 57, 49, 57, 50, 57, 51, 57, 52, 57, 53, 57, 54, 57, 55, 57, 56, 57, 57])) (.t 119))), none⟩, 512, false),
 (⟨(some 121), (.dry (.iaddr 1 (.t 110) (.t 112))), none⟩, 455, false),
 (⟨none, (.wet (.store 1 (.t 121) (.t 118))), none⟩, 2503, true),
 (⟨(some 122), (.dry (.iaddr 1 (.t 113) (.t 115))), none⟩, 8191, false),
 (⟨none, (.wet (.store 1 (.t 122) (.t 120))), none⟩, 16383, true)])
 (.seq (.draw [(⟨(some 123), (.dry (.mov (.t 0))), none⟩, 0, false),
 (⟨(some 124), (.dry (.mov (.t 4))), none⟩, 0, false),
 (⟨(some 125), (.dry (.bin .sub (.t 124) (.k (.int .i64 3)))), none⟩, 2, false),
 (⟨(some 126), (.dry (.mov (.t 0))), none⟩, 0, false),
 (⟨(some 127), (.dry (.mov (.t 4))), none⟩, 0, false),
 (⟨(some 128), (.dry (.bin .sub (.t 127) (.k (.int .i64 4)))), none⟩, 16, false),
 (⟨(some 129), (.dry (.mov (.t 14))), none⟩, 0, false),
 (⟨(some 130), (.dry (.bin .add (.t 129) (.k (.int .u32 1)))), none⟩, 64, false),
 (⟨(some 131), (.dry (.sidx (.k (.str [48, 48, 48, 49, 48, 50, 48, 51, 48, 52, 48, 53, 48, 54, 48, 55, 48, 56, 48, 57, 49, 48, 49, 49, 49, 50, 49, 51, 49, 52, 49, 53, 49, 54, 49, 55, 49, 56, 49, 57, 50, 48, 50, 49, 50, 50, 50, 51, 50, 52, 50, 53, 50, 54, 50, 55, 50, 56, 50, 57, 51, 48, 51, 49, 51, 50, 51, 51, 51, 52, 51, 53, 51, 54, 51, 55, 51, 56, 51, 57, 52, 48, 52, 49, 52, 50, 52, 51, 52, 52, 52, 53, 52, 54, 52, 55, 52, 56, 52, 57, 53, 48, 53, 49, 53, 50, 53, 51, 53, 52, 53, 53, 53, 54, 53, 55, 53, 56, 53, 57, 54, 48, 54, 49, 54, 50, 54, 51, 54, 52, 54, 53, 54, 54, 54, 55, 54, 56, 54, 57, 55, 48, 55, 49, 55, 50, 55, 51, 55, 52, 55, 53, 55, 54, 55, 55, 55, 56, 55, 57, 56, 48, 56, 49, 56, 50, 56, 51, 56, 52, 56, 53, 56, 54, 56, 55, 56, 56, 56, 57, 57, 48, 57, 49, 57, 50, 57, 51, 57, 52, 57, 53, 57, 54, 57, 55, 57, 56, 57, 57])) (.t 130))), none⟩, 192, false),
 (⟨(some 132), (.dry (.mov (.t 14))), none⟩, 0, false),
 (⟨(some 133), (.dry (.sidx (.k (.str [48, 48, 48, 49, 48, 50, 48, 51, 48, 52, 48, 53, 48, 54, 48, 55, 48, 56, 48, 57, 49, 48, 49, 49, 49, 50, 49, 51, 49, 52, 49, 53, 49, 54, 49, 55, 49, 56, 49, 57, 50, 48, 50, 49, 50, 50, 50, 51, 50, 52, 50, 53, 50, 54, 50, 55, 50, 56, 50, 57, 51, 48, 51, 49, 51, 50, 51, 51, 51, 52, 51, 53, 51, 54, 51, 55, 51, 56, 51, 57, 52, 48, 52, 49, 52, 50, 52, 51, 52, 52, 52, 53, 52, 54, 52, 55, 52, 56, 52, 57, 53, 48, 53, 49, 53, 50, 53, 51, 53, 52, 53, 53, 53, 54, 53, 55, 53, 56, 53, 57, 54, 48, 54, 49, 54, 50, 54, 51, 54, 52, 54, 53, 54, 54, 54, 55, 54, 56, 54, 57, 55, 48, 55, 49, 55, 50, 55, 51, 55, 52, 55, 53, 55, 54, 55, 55, 55, 56, 55, 57, 56, 48, 56, 49, 56, 50, 56, 51, 56, 52, 56, 53, 56, 54, 56, 55, 56, 56, 56, 57, 57, 48, 57, 49, 57, 50, 57, 51, 57, 52, 57, 53, 57, 54, 57, 55, 57, 56, 57, 57])) (.t 132))), none⟩, 512, false),
 (⟨(some 134), (.dry (.iaddr 1 (.t 123) (.t 125))), none⟩, 455, false),
 (⟨none, (.wet (.store 1 (.t 134) (.t 131))), none⟩, 2503, true),
 (⟨(some 135), (.dry (.iaddr 1 (.t 126) (.t 128))), none⟩, 8191, false),
 (⟨none, (.wet (.store 1 (.t 135) (.t 133))), none⟩, 16383, true)])
 (.reg [⟨(some 136), (.dry (.mov (.t 4))), none⟩,
 ⟨(some 137), (.dry (.bin .sub (.t 136) (.k (.int .i64 4)))), none⟩,
 ⟨(some 4), (.dry (.mov (.t 137))), none⟩]))))))
 .skip))
 (.seq (.seq (.reg [⟨(some 138), (.dry (.mov (.t 4))), none⟩,
 ⟨(some 139), (.dry (.bin .geq (.t 138) (.k (.int .i64 2)))), none⟩])
 (.cond (.t 139)
 (.seq (.reg [⟨(some 140), (.dry (.mov (.t 12))), none⟩,
 ⟨(some 141), (.dry (.bin .rem (.t 140) (.k (.int .u32 100)))), none⟩,
 ⟨(some 142), (.dry (.bin .mul (.t 141) (.k (.int .u32 2)))), none⟩,
 ⟨(some 16), (.dry (.mov (.t 142))), none⟩])
 (.seq (.reg [⟨(some 143), (.dry (.mov (.t 12))), none⟩,
 ⟨(some 144), (.dry (.bin .quo (.t 143) (.k (.int .u32 100)))), none⟩,
 ⟨(some 12), (.dry (.mov (.t 144))), none⟩])
 (.seq (.draw [(⟨(some 145), (.dry (.mov (.t 0))), none⟩, 0, false),
 (⟨(some 146), (.dry (.mov (.t 4))), none⟩, 0, false),
 (⟨(some 147), (.dry (.bin .sub (.t 146) (.k (.int .i64 1)))), none⟩, 2, false),
 (⟨(some 148), (.dry (.mov (.t 0))), none⟩, 0, false),
 (⟨(some 149), (.dry (.mov (.t 4))), none⟩, 0, false),
 (⟨(some 150), (.dry (.bin .sub (.t 149) (.k (.int .i64 2)))), none⟩, 16, false),
 (⟨(some 151), (.dry (.mov (.t 16))), none⟩, 0, false),
 (⟨(some 152), (.dry (.bin .add (.t 151) (.k (.int .u32 1)))), none⟩, 64, false),
 (⟨(some 153), (.dry (.sidx (.k (.str [48, 48, 48, 49, 48, 50, 48, 51, 48, 52, 48, 53, 48, 54, 48, 55, 48, 56, 48, 57, 49, 48, 49, 49, 49, 50, 49, 51, 49, 52, 49, 53, 49, 54, 49, 55, 49, 56, 49, 57, 50, 48, 50, 49, 50, 50, 50, 51, 50, 52, 50, 53, 50, 54, 50, 55, 50, 56, 50, 57, 51, 48, 51, 49, 51, 50, 51, 51, 51, 52, 51, 53, 51, 54, 51, 55, 51, 56, 51, 57, 52, 48, 52, 49, 52, 50, 52, 51, 52, 52, 52, 53, 52, 54, 52, 55, 52, 56, 52, 57, 53, 48, 53, 49, 53, 50, 53, 51, 53, 52, 53, 53, 53, 54, 53, 55, 53, 56, 53, 57, 54, 48, 54, 49, 54, 50, 54, 51, 54, 52, 54, 53, 54, 54, 54, 55, 54, 56, 54, 57, 55, 48, 55, 49, 55, 50, 55, 51, 55, 52, 55, 53, 55, 54, 55, 55, 55, 56, 55, 57, 56, 48, 56, 49, 56, 50, 56, 51, 56, 52, 56, 53, 56, 54, 56, 55, 56, 56, 56, 57, 57, 48, 57, 49, 57, 50, 57, 51, 57, 52, 57, 53, 57, 54, 57, 55, 57, 56, 57, 57])) (.t 152))), none⟩, 192, false),
 (⟨(some 154), (.dry (.mov (.t 16))), none⟩, 0, false),
 (⟨(some 155), (.dry (.sidx (.k (.str [48, 48, 48, 49, 48, 50, 48, 51, 48, 52, 48, 53, 48, 54, 48, 55, 48, 56, 48, 57, 49, 48, 49, 49, 49, 50, 49, 51, 49, 52, 49, 53, 49, 54, 49, 55, 49, 56, 49, 57, 50, 48, 50, 49, 50, 50, 50, 51, 50, 52, 50, 53, 50, 54, 50, 55, 50, 56, 50, 57, 51, 48, 51, 49, 51, 50, 51, 51, 51, 52, 51, 53, 51, 54, 51, 55, 51, 56, 51, 57, 52, 48, 52, 49, 52, 50, 52, 51, 52, 52, 52, 53, 52, 54, 52, 55, 52, 56, 52, 57, 53, 48, 53, 49, 53, 50, 53, 51, 53, 52, 53, 53, 53, 54, 53, 55, 53, 56, 53, 57, 54, 48, 54, 49, 54, 50, 54, 51, 54, 52, 54, 53, 54, 54, 54, 55, 54, 56, 54, 57, 55, 48, 55, 49, 55, 50, 55, 51, 55, 52, 55, 53, 55, 54, 55, 55, 55, 56, 55, 57, 56, 48, 56, 49, 56, 50, 56, 51, 56, 52, 56, 53, 56, 54, 56, 55, 56, 56, 56, 57, 57, 48, 57, 49, 57, 50, 57, 51, 57, 52, 57, 53, 57, 54, 57, 55, 57, 56, 57, 57])) (.t 154))), none⟩, 512, false),
 (⟨(some 156), (.dry (.iaddr 1 (.t 145) (.t 147))), none⟩, 455, false),
 (⟨none, (.wet (.store 1 (.t 156) (.t 153))), none⟩, 2503, true),
 (⟨(some 157), (.dry (.iaddr 1 (.t 148) (.t 150))), none⟩, 8191, false),
 (⟨none, (.wet (.store 1 (.t 157) (.t 155))), none⟩, 16383, true)])
 (.reg [⟨(some 158), (.dry (.mov (.t 4))), none⟩,
 ⟨(some 159), (.dry (.bin .sub (.t 158) (.k (.int .i64 2)))), none⟩,
 ⟨(some 4), (.dry (.mov (.t 159))), none⟩]))))
 .skip))
 (.seq (.reg [⟨(some 160), (.dry (.mov (.t 4))), none⟩,
 ⟨(some 161), (.dry (.bin .gtr (.t 160) (.k (.int .i64 0)))), none⟩])
 (.cond (.t 161)
 (.reg [⟨(some 162), (.dry (.mov (.t 0))), none⟩,
 ⟨(some 163), (.dry (.mov (.t 12))), none⟩,
 ⟨(some 164), (.dry (.bin .add (.k (.int .u32 48)) (.t 163))), none⟩,
 ⟨(some 165), (.dry (.conv .u8 (.t 164))), none⟩,
 ⟨(some 166), (.dry (.iaddr 1 (.t 162) (.k (.int .i64 0)))), none⟩,
 ⟨none, (.wet (.store 1 (.t 166) (.t 165))), none⟩])
 .skip))))))) }

/-- bellcrank/num.Fits -/
def e242 : EFunc := { own := none, res := [(.tmp 4)], ntmps := 13, pure := false, body :=
 (.seq (.reg [⟨(some 4), (.dry (.mov (.k (.bool false)))), none⟩])
 (.seq (.seq (.reg [⟨(some 5), (.dry (.mov (.t 0))), none⟩])
 (.block 0
 (.seq (.reg [⟨(some 7), (.dry (.eq (.prim .i) false (.t 5) (.k (.int .i64 127)))), none⟩,
 ⟨(some 6), (.dry (.mov (.t 7))), none⟩])
 (.cond (.t 6)
 (.seq (.reg [⟨(some 8), (.dry (.mov (.t 1))), none⟩,
 ⟨(some 9), (.dry (.bin .shr (.t 8) (.k (.int .u64 32)))), none⟩,
 ⟨(some 10), (.dry (.eq (.prim .i) false (.t 9) (.k (.int .u64 0)))), none⟩,
 ⟨(some 4), (.dry (.mov (.t 10))), none⟩])
 .ret)
 (.seq (.reg [⟨(some 12), (.dry (.eq (.prim .i) false (.t 5) (.k (.int .i64 126)))), none⟩,
 ⟨(some 11), (.dry (.mov (.t 12))), none⟩])
 (.cond (.t 11)
 (.seq (.reg [⟨(some 4), (.dry (.mov (.k (.bool true)))), none⟩])
 .ret)
 .skip))))))
 (.seq (.reg [⟨(some 4), (.dry (.mov (.k (.bool false)))), none⟩])
 .ret))) }

/-- bellcrank/num.two -/
def e250 : EFunc := { own := none, res := [(.tmp 8), (.tmp 9)], ntmps := 109, pure := false, body :=
 (.seq (.reg [⟨(some 4), (.wet (.box 4 (.t 0))), none⟩,
 ⟨(some 8), (.dry (.mov (.k (.int .u64 0)))), none⟩,
 ⟨(some 9), (.dry (.mov (.k (.int .i64 0)))), none⟩])
 (.seq (.reg [⟨(some 15), (.dry (.mov (.t 2))), none⟩,
 ⟨(some 16), (.dry (.conv .u32 (.t 15))), none⟩,
 ⟨(some 17), (.dry (.mov (.t 3))), none⟩,
 ⟨(some 18), (.dry (.conv .u32 (.t 17))), none⟩,
 ⟨(some 10), (.dry (.mov (.t 16))), none⟩,
 ⟨(some 11), (.dry (.mov (.t 18))), none⟩])
 (.seq (.reg [⟨(some 19), (.dry (.faddr 3 1 false (.t 4))), none⟩,
 ⟨(some 20), (.wet (.load 1 false (.t 19))), none⟩,
 ⟨(some 21), (.dry (.eq (.prim .i) false (.t 20) (.k (.int .i64 126)))), none⟩,
 ⟨(some 12), (.dry (.mov (.t 21))), none⟩])
 (.seq (.block 0
 (.seq (.reg [⟨(some 23), (.dry (.faddr 2 1 false (.t 4))), none⟩,
 ⟨(some 24), (.wet (.load 1 false (.t 23))), none⟩,
 ⟨(some 25), (.dry (.eq (.prim .i) false (.t 24) (.k (.int .i64 1)))), none⟩,
 ⟨(some 26), (.dry (.mov (.t 25))), none⟩,
 ⟨(some 27), (.dry (.mov (.t 12))), (some (26, true))⟩,
 ⟨(some 28), (.dry (.pick (.t 26) (.t 27) (.k (.bool false)))), none⟩,
 ⟨(some 22), (.dry (.mov (.t 28))), none⟩])
 (.cond (.t 22)
 (.seq (.reg [⟨(some 29), (.dry (.mov (.t 2))), none⟩,
 ⟨(some 30), (.dry (.mov (.t 3))), none⟩,
 ⟨(some 31), (.dry (.mov (.t 2))), none⟩,
 ⟨(some 32), (.dry (.conv .i64 (.t 31))), none⟩,
 ⟨(some 33), (.dry (.mov (.t 3))), none⟩,
 ⟨(some 34), (.dry (.conv .i64 (.t 33))), none⟩,
 ⟨(some 35), (.call (.k (.fn 269 [] [])) [(.t 29), (.t 30), (.t 32), (.t 34)]), none⟩,
 ⟨(some 36), (.dry (.mov (.t 1))), none⟩,
 ⟨(some 37), (.dry (.iaddr 1 (.t 35) (.t 36))), none⟩,
 ⟨(some 38), (.wet (.load 1 false (.t 37))), none⟩,
 ⟨(some 39), (.call (.k (.fn 244 [] [])) [(.t 38)]), none⟩,
 ⟨(some 8), (.dry (.mov (.t 39))), none⟩,
 ⟨(some 9), (.dry (.mov (.k (.int .i64 0)))), none⟩])
 .ret)
 (.seq (.reg [⟨(some 41), (.dry (.faddr 2 1 false (.t 4))), none⟩,
 ⟨(some 42), (.wet (.load 1 false (.t 41))), none⟩,
 ⟨(some 43), (.dry (.eq (.prim .i) false (.t 42) (.k (.int .i64 1)))), none⟩,
 ⟨(some 40), (.dry (.mov (.t 43))), none⟩])
 (.cond (.t 40)
 (.seq (.reg [⟨(some 44), (.dry (.mov (.t 10))), none⟩,
 ⟨(some 45), (.dry (.mov (.t 11))), none⟩,
 ⟨(some 46), (.dry (.mov (.t 10))), none⟩,
 ⟨(some 47), (.dry (.conv .i32 (.t 46))), none⟩,
 ⟨(some 48), (.dry (.mov (.t 11))), none⟩,
 ⟨(some 49), (.dry (.conv .i32 (.t 48))), none⟩,
 ⟨(some 50), (.call (.k (.fn 270 [] [])) [(.t 44), (.t 45), (.t 47), (.t 49)]), none⟩,
 ⟨(some 51), (.dry (.mov (.t 1))), none⟩,
 ⟨(some 52), (.dry (.iaddr 1 (.t 50) (.t 51))), none⟩,
 ⟨(some 53), (.wet (.load 1 false (.t 52))), none⟩,
 ⟨(some 54), (.call (.k (.fn 244 [] [])) [(.t 53)]), none⟩,
 ⟨(some 8), (.dry (.mov (.t 54))), none⟩,
 ⟨(some 9), (.dry (.mov (.k (.int .i64 0)))), none⟩])
 .ret)
 (.seq (.reg [⟨(some 56), (.dry (.mov (.t 1))), none⟩,
 ⟨(some 57), (.call (.k (.fn 193 [] [])) [(.t 56)]), none⟩,
 ⟨(some 58), (.dry (.mov (.t 57))), none⟩,
 ⟨(some 59), (.dry (.mov (.t 12))), (some (58, true))⟩,
 ⟨(some 60), (.dry (.pick (.t 58) (.t 59) (.k (.bool false)))), none⟩,
 ⟨(some 55), (.dry (.mov (.t 60))), none⟩])
 (.cond (.t 55)
 (.seq (.reg [⟨(some 61), (.dry (.mov (.t 1))), none⟩,
 ⟨(some 62), (.dry (.bin .sub (.t 61) (.k (.int .i64 3)))), none⟩,
 ⟨(some 63), (.dry (.mov (.t 2))), none⟩,
 ⟨(some 64), (.dry (.mov (.t 3))), none⟩,
 ⟨(some 65), (.dry (.mov (.t 2))), none⟩,
 ⟨(some 66), (.dry (.conv .i64 (.t 65))), none⟩,
 ⟨(some 67), (.dry (.mov (.t 3))), none⟩,
 ⟨(some 68), (.dry (.conv .i64 (.t 67))), none⟩,
 ⟨(some 69), (.call (.k (.fn 271 [] [])) [(.t 62), (.t 63), (.t 64), (.t 66), (.t 68)]), none⟩,
 ⟨(some 70), (.dry (.extract (.t 69) 0)), none⟩,
 ⟨(some 71), (.dry (.extract (.t 69) 1)), none⟩,
 ⟨(some 8), (.dry (.mov (.t 70))), none⟩,
 ⟨(some 9), (.dry (.mov (.t 71))), none⟩])
 .ret)
 (.seq (.reg [⟨(some 73), (.dry (.mov (.t 1))), none⟩,
 ⟨(some 74), (.call (.k (.fn 193 [] [])) [(.t 73)]), none⟩,
 ⟨(some 72), (.dry (.mov (.t 74))), none⟩])
 (.cond (.t 72)
 (.seq (.reg [⟨(some 76), (.dry (.mov (.t 1))), none⟩,
 ⟨(some 77), (.dry (.bin .sub (.t 76) (.k (.int .i64 3)))), none⟩,
 ⟨(some 78), (.dry (.mov (.t 10))), none⟩,
 ⟨(some 79), (.dry (.mov (.t 11))), none⟩,
 ⟨(some 80), (.dry (.mov (.t 10))), none⟩,
 ⟨(some 81), (.dry (.conv .i32 (.t 80))), none⟩,
 ⟨(some 82), (.dry (.mov (.t 11))), none⟩,
 ⟨(some 83), (.dry (.conv .i32 (.t 82))), none⟩,
 ⟨(some 84), (.call (.k (.fn 272 [] [])) [(.t 77), (.t 78), (.t 79), (.t 81), (.t 83)]), none⟩,
 ⟨(some 75), (.dry (.mov (.t 84))), none⟩,
 ⟨(some 85), (.dry (.extract (.t 75) 0)), none⟩,
 ⟨(some 86), (.dry (.extract (.t 75) 1)), none⟩,
 ⟨(some 13), (.dry (.mov (.t 85))), none⟩,
 ⟨(some 14), (.dry (.mov (.t 86))), none⟩])
 (.seq (.reg [⟨(some 87), (.dry (.mov (.t 13))), none⟩,
 ⟨(some 88), (.dry (.conv .u64 (.t 87))), none⟩,
 ⟨(some 89), (.dry (.mov (.t 14))), none⟩,
 ⟨(some 8), (.dry (.mov (.t 88))), none⟩,
 ⟨(some 9), (.dry (.mov (.t 89))), none⟩])
 .ret))
 (.seq (.reg [⟨(some 91), (.dry (.mov (.t 12))), none⟩,
 ⟨(some 90), (.dry (.mov (.t 91))), none⟩])
 (.cond (.t 90)
 (.seq (.reg [⟨(some 92), (.dry (.mov (.t 2))), none⟩,
 ⟨(some 93), (.dry (.mov (.t 3))), none⟩,
 ⟨(some 94), (.dry (.mov (.t 2))), none⟩,
 ⟨(some 95), (.dry (.conv .i64 (.t 94))), none⟩,
 ⟨(some 96), (.call (.k (.fn 273 [] [])) [(.t 92), (.t 93), (.t 95), (.k (.int .i64 64))]), none⟩,
 ⟨(some 97), (.dry (.mov (.t 1))), none⟩,
 ⟨(some 98), (.dry (.iaddr 1 (.t 96) (.t 97))), none⟩,
 ⟨(some 99), (.wet (.load 1 false (.t 98))), none⟩,
 ⟨(some 8), (.dry (.mov (.t 99))), none⟩,
 ⟨(some 9), (.dry (.mov (.k (.int .i64 0)))), none⟩])
 .ret)
 .skip)))))))))))
 (.seq (.reg [⟨(some 100), (.dry (.mov (.t 10))), none⟩,
 ⟨(some 101), (.dry (.mov (.t 11))), none⟩,
 ⟨(some 102), (.dry (.mov (.t 10))), none⟩,
 ⟨(some 103), (.dry (.conv .i32 (.t 102))), none⟩,
 ⟨(some 104), (.call (.k (.fn 274 [] [])) [(.t 100), (.t 101), (.t 103), (.k (.int .i64 32))]), none⟩,
 ⟨(some 105), (.dry (.mov (.t 1))), none⟩,
 ⟨(some 106), (.dry (.iaddr 1 (.t 104) (.t 105))), none⟩,
 ⟨(some 107), (.wet (.load 1 false (.t 106))), none⟩,
 ⟨(some 108), (.dry (.conv .u64 (.t 107))), none⟩,
 ⟨(some 8), (.dry (.mov (.t 108))), none⟩,
 ⟨(some 9), (.dry (.mov (.k (.int .i64 0)))), none⟩])
 .ret))))) }

/-- internal/strconv.log10Pow2 -/
def e256 : EFunc := { own := none, res := [(.tmp 2)], ntmps := 6, pure := false, body :=
 (.seq (.reg [⟨(some 2), (.dry (.mov (.k (.int .i64 0)))), none⟩])
 (.seq (.reg [⟨(some 3), (.dry (.mov (.t 0))), none⟩,
 ⟨(some 4), (.dry (.bin .mul (.t 3) (.k (.int .i64 78913)))), none⟩,
 ⟨(some 5), (.dry (.bin .shr (.t 4) (.k (.int .u64 18)))), none⟩,
 ⟨(some 2), (.dry (.mov (.t 5))), none⟩])
 .ret)) }

/-- internal/strconv.bool2[int] -/
def e257 : EFunc := { own := none, res := [(.tmp 2)], ntmps := 4, pure := false, body :=
 (.seq (.reg [⟨(some 2), (.dry (.mov (.k (.int .i64 0)))), none⟩])
 (.seq (.seq (.reg [⟨(some 3), (.dry (.mov (.t 0))), none⟩])
 (.cond (.t 3)
 (.seq (.reg [⟨(some 2), (.dry (.mov (.k (.int .i64 1)))), none⟩])
 .ret)
 .skip))
 (.seq (.reg [⟨(some 2), (.dry (.mov (.k (.int .i64 0)))), none⟩])
 .ret))) }

/-- bellcrank/num.arithmetic[uint32,int32] -/
def e274 : EFunc := { own := none, res := [(.tmp 8)], ntmps := 62, pure := false, body :=
 (.seq (.reg [⟨(some 8), (.dry (.mov (.k .nils))), none⟩])
 (.seq (.reg [⟨(some 10), (.dry (.mov (.t 1))), none⟩,
 ⟨(some 11), (.dry (.conv .i64 (.t 10))), none⟩,
 ⟨(some 12), (.dry (.mov (.t 3))), none⟩,
 ⟨(some 13), (.dry (.bin .sub (.t 12) (.k (.int .i64 1)))), none⟩,
 ⟨(some 14), (.dry (.bin .and (.t 11) (.t 13))), none⟩,
 ⟨(some 9), (.dry (.mov (.t 14))), none⟩])
 (.seq (.draw [(⟨(some 15), (.dry (.mov (.t 0))), none⟩, 0, false),
 (⟨(some 16), (.dry (.mov (.t 1))), none⟩, 0, false),
 (⟨(some 17), (.dry (.bin .add (.t 15) (.t 16))), none⟩, 3, false),
 (⟨(some 18), (.dry (.mov (.t 0))), none⟩, 0, false),
 (⟨(some 19), (.dry (.mov (.t 1))), none⟩, 0, false),
 (⟨(some 20), (.dry (.bin .sub (.t 18) (.t 19))), none⟩, 24, false),
 (⟨(some 21), (.dry (.mov (.t 0))), none⟩, 0, false),
 (⟨(some 22), (.dry (.mov (.t 1))), none⟩, 0, false),
 (⟨(some 23), (.dry (.bin .mul (.t 21) (.t 22))), none⟩, 192, false),
 (⟨(some 24), (.dry (.mov (.t 0))), none⟩, 0, false),
 (⟨(some 25), (.dry (.mov (.t 1))), none⟩, 0, false),
 (⟨(some 26), (.dry (.bin .and (.t 24) (.t 25))), none⟩, 1536, false),
 (⟨(some 27), (.dry (.mov (.t 0))), none⟩, 0, false),
 (⟨(some 28), (.dry (.mov (.t 1))), none⟩, 0, false),
 (⟨(some 29), (.dry (.bin .or (.t 27) (.t 28))), none⟩, 12288, false),
 (⟨(some 30), (.dry (.mov (.t 0))), none⟩, 0, false),
 (⟨(some 31), (.dry (.mov (.t 1))), none⟩, 0, false),
 (⟨(some 32), (.dry (.bin .xor (.t 30) (.t 31))), none⟩, 98304, false),
 (⟨(some 33), (.dry (.mov (.t 0))), none⟩, 0, false),
 (⟨(some 34), (.dry (.mov (.t 9))), none⟩, 0, false),
 (⟨(some 35), (.dry (.bin .shl (.t 33) (.t 34))), none⟩, 786432, false),
 (⟨(some 36), (.dry (.mov (.t 2))), none⟩, 0, false),
 (⟨(some 37), (.dry (.mov (.t 9))), none⟩, 0, false),
 (⟨(some 38), (.dry (.bin .shr (.t 36) (.t 37))), none⟩, 6291456, false),
 (⟨(some 39), (.dry (.conv .u32 (.t 38))), none⟩, 14680064, false),
 (⟨(some 40), (.dry (.mov (.t 0))), none⟩, 0, false),
 (⟨(some 41), (.dry (.mov (.t 9))), none⟩, 0, false),
 (⟨(some 42), (.dry (.bin .shr (.t 40) (.t 41))), none⟩, 100663296, false),
 (⟨(some 43), (.dry (.mov (.t 0))), none⟩, 0, false),
 (⟨(some 44), (.dry (.mov (.t 9))), none⟩, 0, false),
 (⟨(some 45), (.dry (.bin .shl (.t 43) (.t 44))), none⟩, 805306368, false),
 (⟨(some 46), (.dry (.mov (.t 0))), none⟩, 0, false),
 (⟨(some 47), (.dry (.mov (.t 3))), none⟩, 0, false),
 (⟨(some 48), (.dry (.mov (.t 9))), none⟩, 0, false),
 (⟨(some 49), (.dry (.bin .sub (.t 47) (.t 48))), none⟩, 12884901888, false),
 (⟨(some 50), (.dry (.bin .shr (.t 46) (.t 49))), none⟩, 32212254720, false),
 (⟨(some 51), (.dry (.bin .or (.t 45) (.t 50))), none⟩, 68451041280, false),
 (⟨(some 52), (.dry (.mov (.t 0))), none⟩, 0, false),
 (⟨(some 53), (.dry (.mov (.t 9))), none⟩, 0, false),
 (⟨(some 54), (.dry (.bin .shr (.t 52) (.t 53))), none⟩, 412316860416, false),
 (⟨(some 55), (.dry (.mov (.t 0))), none⟩, 0, false),
 (⟨(some 56), (.dry (.mov (.t 3))), none⟩, 0, false),
 (⟨(some 57), (.dry (.mov (.t 9))), none⟩, 0, false),
 (⟨(some 58), (.dry (.bin .sub (.t 56) (.t 57))), none⟩, 6597069766656, false),
 (⟨(some 59), (.dry (.bin .shl (.t 55) (.t 58))), none⟩, 16492674416640, false),
 (⟨(some 60), (.dry (.bin .or (.t 54) (.t 59))), none⟩, 35046933135360, false),
 (⟨(some 61), (.wet (.bsl 1 15 [(.int .u32 0), (.int .u32 0), (.int .u32 0), (.int .u32 0), (.int .u32 0), (.int .u32 0), (.int .u32 0), (.int .u32 0), (.int .u32 0), (.int .u32 0), (.int .u32 0), (.int .u32 0), (.int .u32 0), (.int .u32 0), (.int .u32 0)] [(0, (.t 17)), (1, (.t 20)), (2, (.t 23)), (3, (.k (.int .u32 0))), (4, (.k (.int .u32 0))), (5, (.k (.int .u32 0))), (6, (.k (.int .u32 0))), (7, (.t 26)), (8, (.t 29)), (9, (.t 32)), (10, (.t 35)), (11, (.t 39)), (12, (.t 42)), (13, (.t 51)), (14, (.t 60))])), none⟩, 70368744177663, true),
 (⟨(some 8), (.dry (.mov (.t 61))), none⟩, 140737488355327, false)])
 .ret))) }

def tbl : Tr EFunc := (.nd (.nd (.nd (.nd (.nd (.nd (.nd .lf none (.nd .lf (some e191) .lf)) none (.nd (.nd .lf (some e159) .lf) (some e95) .lf)) none (.nd (.nd (.nd .lf (some e143) .lf) (some e79) .lf) (some e47) .lf)) none (.nd (.nd (.nd (.nd .lf (some e135) .lf) none .lf) (some e39) .lf) (some e23) (.nd (.nd .lf (some e87) (.nd .lf (some e215) .lf)) none .lf))) none (.nd (.nd (.nd (.nd (.nd .lf (some e131) .lf) none .lf) none (.nd .lf none (.nd .lf (some e227) .lf))) none (.nd (.nd (.nd .lf (some e147) .lf) (some e83) (.nd .lf (some e211) .lf)) none (.nd (.nd .lf (some e179) .lf) none .lf))) none (.nd (.nd (.nd (.nd .lf (some e139) .lf) none .lf) (some e43) .lf) none (.nd (.nd .lf (some e91) .lf) none (.nd (.nd .lf (some e187) .lf) none .lf))))) none (.nd (.nd (.nd (.nd (.nd (.nd (.nd .lf (some e257) .lf) none .lf) none (.nd .lf (some e193) .lf)) none (.nd .lf (some e97) (.nd .lf (some e225) .lf))) none (.nd (.nd (.nd .lf (some e145) .lf) (some e81) .lf) none .lf)) (some e9) (.nd (.nd (.nd (.nd .lf (some e137) .lf) none .lf) (some e41) .lf) none (.nd (.nd (.nd .lf (some e153) .lf) (some e89) .lf) none (.nd (.nd .lf (some e185) .lf) none .lf)))) none (.nd (.nd (.nd (.nd (.nd .lf (some e133) .lf) none (.nd .lf (some e197) .lf)) (some e37) (.nd (.nd .lf (some e165) .lf) (some e101) (.nd .lf (some e229) .lf))) (some e21) (.nd (.nd (.nd .lf (some e149) .lf) (some e85) .lf) none (.nd (.nd .lf (some e181) .lf) none .lf))) (some e13) (.nd (.nd (.nd (.nd .lf (some e141) .lf) (some e77) .lf) (some e45) (.nd .lf (some e109) .lf)) none (.nd (.nd (.nd .lf (some e157) .lf) (some e93) .lf) none .lf))))) none (.nd (.nd (.nd (.nd (.nd (.nd (.nd (.nd .lf (some e256) .lf) none .lf) none (.nd .lf (some e192) .lf)) none (.nd .lf (some e96) .lf)) none (.nd (.nd (.nd .lf (some e144) .lf) (some e80) .lf) (some e48) .lf)) none (.nd (.nd (.nd (.nd .lf (some e136) .lf) none .lf) (some e40) .lf) none (.nd (.nd (.nd .lf (some e152) .lf) (some e88) .lf) none (.nd (.nd .lf (some e184) .lf) none .lf)))) (some e4) (.nd (.nd (.nd (.nd (.nd .lf (some e132) .lf) none (.nd .lf (some e196) .lf)) (some e36) (.nd (.nd .lf (some e164) .lf) (some e100) (.nd .lf (some e228) .lf))) none (.nd (.nd (.nd .lf (some e148) .lf) (some e84) (.nd .lf (some e212) .lf)) none (.nd (.nd .lf (some e180) .lf) none .lf))) (some e12) (.nd (.nd (.nd (.nd .lf (some e140) .lf) none .lf) (some e44) (.nd .lf (some e108) .lf)) none (.nd (.nd (.nd .lf (some e156) .lf) (some e92) .lf) none (.nd (.nd .lf (some e188) .lf) none .lf))))) none (.nd (.nd (.nd (.nd (.nd (.nd .lf (some e130) .lf) none .lf) none .lf) none (.nd (.nd (.nd (.nd .lf (some e274) .lf) none .lf) (some e82) .lf) none (.nd .lf none (.nd .lf (some e242) .lf)))) none (.nd (.nd (.nd (.nd .lf (some e138) .lf) none .lf) (some e42) (.nd .lf (some e106) .lf)) (some e26) (.nd (.nd (.nd .lf (some e154) .lf) (some e90) .lf) none (.nd (.nd .lf (some e186) .lf) none (.nd .lf (some e250) .lf))))) none (.nd (.nd (.nd (.nd (.nd .lf (some e134) .lf) none (.nd .lf (some e198) .lf)) (some e38) (.nd .lf (some e102) (.nd .lf (some e230) .lf))) (some e22) (.nd (.nd (.nd .lf (some e150) .lf) (some e86) (.nd .lf (some e214) .lf)) none (.nd (.nd .lf (some e182) .lf) none .lf))) (some e14) (.nd (.nd (.nd (.nd .lf (some e142) .lf) (some e78) .lf) (some e46) (.nd .lf (some e110) .lf)) none (.nd (.nd (.nd .lf (some e158) .lf) (some e94) .lf) none (.nd (.nd .lf (some e190) .lf) none .lf)))))))

end Go.Ev.Tab
