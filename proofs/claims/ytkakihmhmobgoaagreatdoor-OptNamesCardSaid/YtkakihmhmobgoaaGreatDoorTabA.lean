/- The evaluator's code of the functions that the claim's way takes, and the table of them: printed by a program; the kernel compares it with the given program's code. -/
import Derived.Test.YtkakihmhmobgoaaGreatDoorXevZj
namespace Go.Ev.Tab
/-- bellcrank/bellcranklaw16.OptNames -/
def e4 : EFunc := { own := none, res := [(.tmp 2)], ntmps := 31, pure := false, body :=
 (.seq (.reg [⟨(some 2), (.dry (.mov (.k (.bool false)))), none⟩])
 (.seq (.reg [⟨(some 6), (.dry (.mov (.t 0))), none⟩,
 ⟨(some 7), (.call (.k (.fn 13 [] [])) [(.t 6)]), none⟩,
 ⟨(some 8), (.dry (.mov (.t 0))), none⟩,
 ⟨(some 9), (.call (.k (.fn 14 [] [])) [(.t 8)]), none⟩,
 ⟨(some 3), (.dry (.mov (.t 7))), none⟩,
 ⟨(some 4), (.dry (.mov (.t 9))), none⟩])
 (.seq (.seq (.reg [⟨(some 10), (.dry (.mov (.t 3))), none⟩,
 ⟨(some 11), (.dry (.len (.t 10))), none⟩,
 ⟨(some 12), (.dry (.mov (.t 4))), none⟩,
 ⟨(some 13), (.dry (.len (.t 12))), none⟩,
 ⟨(some 14), (.dry (.eq (.prim .i) true (.t 11) (.t 13))), none⟩])
 (.cond (.t 14)
 (.seq (.reg [⟨(some 2), (.dry (.mov (.k (.bool false)))), none⟩])
 .ret)
 .skip))
 (.seq (.seq (.reg [⟨(some 15), (.dry (.mov (.t 3))), none⟩,
 ⟨(some 16), (.dry (.len (.t 15))), none⟩,
 ⟨(some 17), (.dry (.mov (.k (.int .i64 0)))), none⟩])
 (.block 0
 (.loop
 (.seq (.reg [⟨(some 18), (.dry (.bin .lss (.t 17) (.t 16))), none⟩])
 (.seq (.cond (.t 18)
 .skip
 (.exit 0))
 (.seq (.block 1
 (.seq (.reg [⟨(some 19), (.dry (.mov (.t 17))), none⟩,
 ⟨(some 5), (.dry (.mov (.t 19))), none⟩])
 (.seq (.draw [(⟨(some 20), (.dry (.mov (.t 3))), none⟩, 0, false),
 (⟨(some 21), (.dry (.mov (.t 5))), none⟩, 0, false),
 (⟨(some 22), (.dry (.iaddr 1 (.t 20) (.t 21))), none⟩, 3, false),
 (⟨(some 23), (.wet (.load 1 false (.t 22))), none⟩, 7, false),
 (⟨(some 24), (.dry (.mov (.t 4))), none⟩, 0, false),
 (⟨(some 25), (.dry (.mov (.t 5))), none⟩, 0, false),
 (⟨(some 26), (.dry (.iaddr 1 (.t 24) (.t 25))), none⟩, 48, false),
 (⟨(some 27), (.wet (.load 1 false (.t 26))), none⟩, 112, false),
 (⟨(some 28), (.dry (.eq (.prim .s) true (.t 23) (.t 27))), none⟩, 255, false)])
 (.cond (.t 28)
 (.seq (.reg [⟨(some 2), (.dry (.mov (.k (.bool false)))), none⟩])
 .ret)
 .skip))))
 (.reg [⟨(some 29), (.dry (.bin .add (.t 17) (.k (.int .i64 1)))), none⟩,
 ⟨(some 17), (.dry (.mov (.t 29))), none⟩])))))))
 (.seq (.reg [⟨(some 30), (.call (.k (.fn 12 [] [])) []), none⟩,
 ⟨(some 2), (.dry (.mov (.t 30))), none⟩])
 .ret))))) }

/-- bellcrank/opt.Run -/
def e9 : EFunc := { own := none, res := [(.cell 4 6 true), (.tmp 5)], ntmps := 57, pure := false, body :=
 (.seq (.reg [⟨(some 2), (.wet (.box 6 (.t 0))), none⟩,
 ⟨(some 4), (.wet (.alloc 61 6 [.nils, (.int .i64 0), .nils, .nils, (.bool false), .nils])), none⟩,
 ⟨(some 5), (.dry (.mov (.k (.int .i64 0)))), none⟩])
 (.seq (.seq (.reg [⟨(some 13), (.wet (.load 6 true (.t 2))), none⟩,
 ⟨(some 14), (.call (.k (.fn 21 [] [])) [(.t 13)]), none⟩,
 ⟨(some 15), (.dry (.not (.t 14))), none⟩])
 (.cond (.t 15)
 (.seq (.reg [⟨(some 16), (.dry (.build [.nils, (.int .i64 0), .nils, .nils, (.bool false), .nils] [])), none⟩,
 ⟨none, (.wet (.store 6 (.t 4) (.t 16))), none⟩,
 ⟨(some 5), (.dry (.mov (.k (.int .i64 6)))), none⟩])
 .ret)
 .skip))
 (.seq (.reg [⟨(some 17), (.dry (.faddr 0 5 true (.t 2))), none⟩,
 ⟨(some 18), (.wet (.load 5 true (.t 17))), none⟩,
 ⟨(some 19), (.dry (.build [.nils, (.int .i64 0), .nils, .nils, (.bool false), .nils] [(0, 5, (.t 18))])), none⟩,
 ⟨(some 6), (.wet (.alloc 61 6 [.nils, (.int .i64 0), .nils, .nils, (.bool false), .nils])), none⟩,
 ⟨none, (.wet (.store 6 (.t 6) (.t 19))), none⟩])
 (.seq (.seq (.reg [⟨(some 20), (.dry (.faddr 5 1 false (.t 2))), none⟩,
 ⟨(some 21), (.wet (.load 1 false (.t 20))), none⟩,
 ⟨(some 22), (.dry (.len (.t 21))), none⟩,
 ⟨(some 23), (.dry (.mov (.k (.int .i64 0)))), none⟩])
 (.block 0
 (.loop
 (.seq (.reg [⟨(some 24), (.dry (.bin .lss (.t 23) (.t 22))), none⟩])
 (.seq (.cond (.t 24)
 .skip
 (.exit 0))
 (.seq (.block 1
 (.seq (.reg [⟨(some 25), (.dry (.iaddr 4 (.t 21) (.t 23))), none⟩,
 ⟨(some 26), (.wet (.load 4 true (.t 25))), none⟩,
 ⟨(some 8), (.wet (.alloc 121 4 [.nils, .nils, .nils, .nils])), none⟩,
 ⟨none, (.wet (.store 4 (.t 8) (.t 26))), none⟩])
 (.seq (.reg [⟨(some 27), (.wet (.load 4 true (.t 8))), none⟩,
 ⟨(some 28), (.call (.k (.fn 22 [] [])) [(.t 27), (.k .nils)]), none⟩,
 ⟨none, (.wet (.store 4 (.t 8) (.t 28))), none⟩])
 (.seq (.seq (.reg [⟨(some 29), (.dry (.mov (.t 1))), none⟩,
 ⟨(some 30), (.call (.k (.fn 23 [] [])) [(.t 29)]), none⟩,
 ⟨(some 31), (.dry (.len (.t 30))), none⟩,
 ⟨(some 32), (.dry (.mov (.k (.int .i64 0)))), none⟩])
 (.block 2
 (.loop
 (.seq (.reg [⟨(some 33), (.dry (.bin .lss (.t 32) (.t 31))), none⟩])
 (.seq (.cond (.t 33)
 .skip
 (.exit 2))
 (.seq (.block 3
 (.seq (.reg [⟨(some 34), (.dry (.iaddr 3 (.t 30) (.t 32))), none⟩,
 ⟨(some 35), (.wet (.load 3 true (.t 34))), none⟩,
 ⟨(some 10), (.wet (.alloc 155 3 [(.int .i64 0), (.str []), .nilf])), none⟩,
 ⟨none, (.wet (.store 3 (.t 10) (.t 35))), none⟩])
 (.seq (.reg [⟨(some 37), (.dry (.faddr 2 1 false (.t 10))), none⟩,
 ⟨(some 38), (.wet (.load 1 false (.t 37))), none⟩,
 ⟨(some 39), (.dry (.faddr 0 5 true (.t 2))), none⟩,
 ⟨(some 40), (.wet (.load 5 true (.t 39))), none⟩,
 ⟨(some 41), (.wet (.load 4 true (.t 8))), none⟩,
 ⟨(some 42), (.call (.t 38) [(.t 40), (.t 41)]), none⟩,
 ⟨(some 36), (.dry (.mov (.t 42))), none⟩,
 ⟨(some 43), (.dry (.extract (.t 36) 0)), none⟩,
 ⟨(some 44), (.dry (.extract (.t 36) 1)), none⟩,
 ⟨(some 11), (.wet (.alloc 121 4 [.nils, .nils, .nils, .nils])), none⟩,
 ⟨none, (.wet (.store 4 (.t 11) (.t 43))), none⟩,
 ⟨(some 12), (.dry (.mov (.t 44))), none⟩])
 (.seq (.reg [⟨(some 45), (.dry (.mov (.t 12))), none⟩,
 ⟨(some 46), (.dry (.eq (.prim .i) false (.t 45) (.k (.int .i64 0)))), none⟩])
 (.cond (.t 46)
 (.reg [⟨(some 47), (.wet (.load 4 true (.t 11))), none⟩,
 ⟨none, (.wet (.store 4 (.t 8) (.t 47))), none⟩])
 .skip)))))
 (.reg [⟨(some 48), (.dry (.bin .add (.t 32) (.k (.int .i64 1)))), none⟩,
 ⟨(some 32), (.dry (.mov (.t 48))), none⟩])))))))
 (.reg [⟨(some 49), (.dry (.faddr 5 1 false (.t 6))), none⟩,
 ⟨(some 50), (.wet (.load 1 false (.t 49))), none⟩,
 ⟨(some 51), (.wet (.load 4 true (.t 8))), none⟩,
 ⟨(some 52), (.wet (.bsl 4 1 [.nils, .nils, .nils, .nils] [(0, (.t 51))])), none⟩,
 ⟨(some 53), (.wet (.append 120 4 96 (.t 50) (.t 52))), none⟩,
 ⟨(some 54), (.dry (.faddr 5 1 false (.t 6))), none⟩,
 ⟨none, (.wet (.store 1 (.t 54) (.t 53))), none⟩])))))
 (.reg [⟨(some 55), (.dry (.bin .add (.t 23) (.k (.int .i64 1)))), none⟩,
 ⟨(some 23), (.dry (.mov (.t 55))), none⟩])))))))
 (.seq (.reg [⟨(some 56), (.wet (.load 6 true (.t 6))), none⟩,
 ⟨none, (.wet (.store 6 (.t 4) (.t 56))), none⟩,
 ⟨(some 5), (.dry (.mov (.k (.int .i64 0)))), none⟩])
 .ret))))) }

/-- bellcrank/bellcranklaw16.alive -/
def e12 : EFunc := { own := none, res := [(.tmp 0)], ntmps := 56, pure := false, body :=
 (.seq (.reg [⟨(some 0), (.dry (.mov (.k (.bool false)))), none⟩])
 (.seq (.reg [⟨(some 5), (.call (.k (.fn 26 [] [])) []), none⟩,
 ⟨(some 6), (.call (.k (.fn 9 [] [])) [(.t 5), (.k (.int .i64 31))]), none⟩,
 ⟨(some 4), (.dry (.mov (.t 6))), none⟩,
 ⟨(some 7), (.dry (.extract (.t 4) 0)), none⟩,
 ⟨(some 8), (.dry (.extract (.t 4) 1)), none⟩,
 ⟨(some 1), (.wet (.alloc 61 6 [.nils, (.int .i64 0), .nils, .nils, (.bool false), .nils])), none⟩,
 ⟨none, (.wet (.store 6 (.t 1) (.t 7))), none⟩,
 ⟨(some 2), (.dry (.mov (.t 8))), none⟩])
 (.seq (.reg [⟨(some 9), (.call (.k (.fn 13 [] [])) [(.k (.int .i64 18))]), none⟩,
 ⟨(some 3), (.dry (.mov (.t 9))), none⟩])
 (.seq (.reg [⟨(some 10), (.dry (.mov (.t 2))), none⟩,
 ⟨(some 11), (.dry (.eq (.prim .i) false (.t 10) (.k (.int .i64 0)))), none⟩,
 ⟨(some 12), (.dry (.mov (.t 11))), none⟩,
 ⟨(some 13), (.dry (.faddr 5 1 false (.t 1))), (some (12, true))⟩,
 ⟨(some 14), (.wet (.load 1 false (.t 13))), (some (12, true))⟩,
 ⟨(some 15), (.dry (.len (.t 14))), (some (12, true))⟩,
 ⟨(some 16), (.dry (.eq (.prim .i) false (.t 15) (.k (.int .i64 1)))), (some (12, true))⟩,
 ⟨(some 17), (.dry (.pick (.t 12) (.t 16) (.k (.bool false)))), none⟩,
 ⟨(some 18), (.dry (.mov (.t 17))), none⟩,
 ⟨(some 19), (.dry (.faddr 5 1 false (.t 1))), (some (18, true))⟩,
 ⟨(some 20), (.wet (.load 1 false (.t 19))), (some (18, true))⟩,
 ⟨(some 21), (.dry (.iaddr 4 (.t 20) (.k (.int .i64 0)))), (some (18, true))⟩,
 ⟨(some 22), (.dry (.faddr 3 1 false (.t 21))), (some (18, true))⟩,
 ⟨(some 23), (.wet (.load 1 false (.t 22))), (some (18, true))⟩,
 ⟨(some 24), (.dry (.len (.t 23))), (some (18, true))⟩,
 ⟨(some 25), (.dry (.eq (.prim .i) false (.t 24) (.k (.int .i64 1)))), (some (18, true))⟩,
 ⟨(some 26), (.dry (.pick (.t 18) (.t 25) (.k (.bool false)))), none⟩,
 ⟨(some 27), (.dry (.mov (.t 26))), none⟩,
 ⟨(some 28), (.dry (.faddr 5 1 false (.t 1))), (some (27, true))⟩,
 ⟨(some 29), (.wet (.load 1 false (.t 28))), (some (27, true))⟩,
 ⟨(some 30), (.dry (.iaddr 4 (.t 29) (.k (.int .i64 0)))), (some (27, true))⟩,
 ⟨(some 31), (.dry (.faddr 3 1 false (.t 30))), (some (27, true))⟩,
 ⟨(some 32), (.wet (.load 1 false (.t 31))), (some (27, true))⟩,
 ⟨(some 33), (.dry (.iaddr 6 (.t 32) (.k (.int .i64 0)))), (some (27, true))⟩,
 ⟨(some 34), (.dry (.faddr 1 1 false (.t 33))), (some (27, true))⟩,
 ⟨(some 35), (.wet (.load 1 false (.t 34))), (some (27, true))⟩,
 ⟨(some 36), (.dry (.len (.t 35))), (some (27, true))⟩,
 ⟨(some 37), (.dry (.eq (.prim .i) false (.t 36) (.k (.int .i64 2)))), (some (27, true))⟩,
 ⟨(some 38), (.dry (.pick (.t 27) (.t 37) (.k (.bool false)))), none⟩,
 ⟨(some 39), (.dry (.mov (.t 38))), none⟩,
 ⟨(some 40), (.dry (.mov (.t 3))), (some (39, true))⟩,
 ⟨(some 41), (.dry (.len (.t 40))), (some (39, true))⟩,
 ⟨(some 42), (.dry (.eq (.prim .i) false (.t 41) (.k (.int .i64 2)))), (some (39, true))⟩,
 ⟨(some 43), (.dry (.pick (.t 39) (.t 42) (.k (.bool false)))), none⟩,
 ⟨(some 44), (.dry (.mov (.t 43))), none⟩,
 ⟨(some 45), (.dry (.mov (.t 3))), (some (44, true))⟩,
 ⟨(some 46), (.dry (.iaddr 1 (.t 45) (.k (.int .i64 0)))), (some (44, true))⟩,
 ⟨(some 47), (.wet (.load 1 false (.t 46))), (some (44, true))⟩,
 ⟨(some 48), (.dry (.eq (.prim .s) false (.t 47) (.k (.str [103, 118, 110])))), (some (44, true))⟩,
 ⟨(some 49), (.dry (.pick (.t 44) (.t 48) (.k (.bool false)))), none⟩,
 ⟨(some 50), (.dry (.mov (.t 49))), none⟩,
 ⟨(some 51), (.dry (.mov (.t 3))), (some (50, true))⟩,
 ⟨(some 52), (.dry (.iaddr 1 (.t 51) (.k (.int .i64 1)))), (some (50, true))⟩,
 ⟨(some 53), (.wet (.load 1 false (.t 52))), (some (50, true))⟩,
 ⟨(some 54), (.dry (.eq (.prim .s) false (.t 53) (.k (.str [100, 99, 101])))), (some (50, true))⟩,
 ⟨(some 55), (.dry (.pick (.t 50) (.t 54) (.k (.bool false)))), none⟩,
 ⟨(some 0), (.dry (.mov (.t 55))), none⟩])
 .ret)))) }

/-- bellcrank/opt.Names -/
def e13 : EFunc := { own := none, res := [(.tmp 2)], ntmps := 20, pure := false, body :=
 (.seq (.reg [⟨(some 2), (.dry (.mov (.k .nils))), none⟩])
 (.seq (.reg [⟨(some 3), (.dry (.mov (.k .nils))), none⟩])
 (.seq (.seq (.reg [⟨(some 6), (.dry (.mov (.t 0))), none⟩,
 ⟨(some 7), (.call (.k (.fn 23 [] [])) [(.t 6)]), none⟩,
 ⟨(some 8), (.dry (.len (.t 7))), none⟩,
 ⟨(some 9), (.dry (.mov (.k (.int .i64 0)))), none⟩])
 (.block 0
 (.loop
 (.seq (.reg [⟨(some 10), (.dry (.bin .lss (.t 9) (.t 8))), none⟩])
 (.seq (.cond (.t 10)
 .skip
 (.exit 0))
 (.seq (.block 1
 (.seq (.reg [⟨(some 11), (.dry (.iaddr 3 (.t 7) (.t 9))), none⟩,
 ⟨(some 12), (.wet (.load 3 true (.t 11))), none⟩,
 ⟨(some 5), (.wet (.alloc 155 3 [(.int .i64 0), (.str []), .nilf])), none⟩,
 ⟨none, (.wet (.store 3 (.t 5) (.t 12))), none⟩])
 (.reg [⟨(some 13), (.dry (.mov (.t 3))), none⟩,
 ⟨(some 14), (.dry (.faddr 1 1 false (.t 5))), none⟩,
 ⟨(some 15), (.wet (.load 1 false (.t 14))), none⟩,
 ⟨(some 16), (.wet (.bsl 1 1 [(.str [])] [(0, (.t 15))])), none⟩,
 ⟨(some 17), (.wet (.append 20 1 16 (.t 13) (.t 16))), none⟩,
 ⟨(some 3), (.dry (.mov (.t 17))), none⟩])))
 (.reg [⟨(some 18), (.dry (.bin .add (.t 9) (.k (.int .i64 1)))), none⟩,
 ⟨(some 9), (.dry (.mov (.t 18))), none⟩])))))))
 (.seq (.reg [⟨(some 19), (.dry (.mov (.t 3))), none⟩,
 ⟨(some 2), (.dry (.mov (.t 19))), none⟩])
 .ret)))) }

/-- bellcrank/bellcrankref16.Names -/
def e14 : EFunc := { own := none, res := [(.tmp 2)], ntmps := 24, pure := false, body :=
 (.seq (.reg [⟨(some 2), (.dry (.mov (.k .nils))), none⟩])
 (.seq (.reg [⟨(some 6), (.wet (.bsl 1 5 [(.str []), (.str []), (.str []), (.str []), (.str [])] [(0, (.k (.str [115, 99, 99, 112]))), (1, (.k (.str [103, 118, 110]))), (2, (.k (.str [98, 99, 101]))), (3, (.k (.str [108, 105, 99, 109]))), (4, (.k (.str [100, 99, 101])))])), none⟩,
 ⟨(some 3), (.dry (.mov (.t 6))), none⟩])
 (.seq (.reg [⟨(some 4), (.dry (.mov (.k .nils))), none⟩])
 (.seq (.seq (.reg [⟨(some 5), (.dry (.mov (.k (.int .i64 0)))), none⟩])
 (.block 0
 (.loop
 (.seq (.seq (.reg [⟨(some 7), (.dry (.mov (.t 5))), none⟩,
 ⟨(some 8), (.dry (.bin .lss (.t 7) (.k (.int .i64 5)))), none⟩])
 (.cond (.t 8)
 .skip
 (.exit 0)))
 (.seq (.block 1
 (.seq (.reg [⟨(some 11), (.dry (.mov (.t 0))), none⟩,
 ⟨(some 12), (.dry (.mov (.t 5))), none⟩,
 ⟨(some 13), (.dry (.bin .shr (.t 11) (.t 12))), none⟩,
 ⟨(some 14), (.dry (.bin .and (.t 13) (.k (.int .i64 1)))), none⟩,
 ⟨(some 15), (.dry (.eq (.prim .i) false (.t 14) (.k (.int .i64 1)))), none⟩])
 (.cond (.t 15)
 (.reg [⟨(some 16), (.dry (.mov (.t 4))), none⟩,
 ⟨(some 17), (.dry (.mov (.t 3))), none⟩,
 ⟨(some 18), (.dry (.mov (.t 5))), none⟩,
 ⟨(some 19), (.dry (.iaddr 1 (.t 17) (.t 18))), none⟩,
 ⟨(some 20), (.wet (.load 1 false (.t 19))), none⟩,
 ⟨(some 21), (.wet (.bsl 1 1 [(.str [])] [(0, (.t 20))])), none⟩,
 ⟨(some 22), (.wet (.append 20 1 16 (.t 16) (.t 21))), none⟩,
 ⟨(some 4), (.dry (.mov (.t 22))), none⟩])
 .skip)))
 (.reg [⟨(some 9), (.dry (.mov (.t 5))), none⟩,
 ⟨(some 10), (.dry (.bin .add (.t 9) (.k (.int .i64 1)))), none⟩,
 ⟨(some 5), (.dry (.mov (.t 10))), none⟩]))))))
 (.seq (.reg [⟨(some 23), (.dry (.mov (.t 4))), none⟩,
 ⟨(some 2), (.dry (.mov (.t 23))), none⟩])
 .ret))))) }

/-- bellcrank/eval.Right -/
def e21 : EFunc := { own := none, res := [(.tmp 2)], ntmps := 66, pure := false, body :=
 (.seq (.reg [⟨(some 1), (.wet (.box 6 (.t 0))), none⟩,
 ⟨(some 2), (.dry (.mov (.k (.bool false)))), none⟩])
 (.seq (.seq (.reg [⟨(some 6), (.dry (.faddr 0 5 true (.t 1))), none⟩,
 ⟨(some 7), (.wet (.load 5 true (.t 6))), none⟩,
 ⟨(some 8), (.call (.k (.fn 36 [] [])) [(.t 7)]), none⟩,
 ⟨(some 9), (.dry (.not (.t 8))), none⟩,
 ⟨(some 10), (.dry (.mov (.t 9))), none⟩,
 ⟨(some 11), (.dry (.faddr 5 1 false (.t 1))), (some (10, false))⟩,
 ⟨(some 12), (.wet (.load 1 false (.t 11))), (some (10, false))⟩,
 ⟨(some 13), (.dry (.len (.t 12))), (some (10, false))⟩,
 ⟨(some 14), (.dry (.faddr 0 5 true (.t 1))), (some (10, false))⟩,
 ⟨(some 15), (.dry (.faddr 1 1 false (.t 14))), (some (10, false))⟩,
 ⟨(some 16), (.wet (.load 1 false (.t 15))), (some (10, false))⟩,
 ⟨(some 17), (.dry (.bin .add (.t 13) (.t 16))), (some (10, false))⟩,
 ⟨(some 18), (.dry (.faddr 0 5 true (.t 1))), (some (10, false))⟩,
 ⟨(some 19), (.dry (.faddr 0 1 false (.t 18))), (some (10, false))⟩,
 ⟨(some 20), (.wet (.load 1 false (.t 19))), (some (10, false))⟩,
 ⟨(some 21), (.dry (.len (.t 20))), (some (10, false))⟩,
 ⟨(some 22), (.dry (.eq (.prim .i) true (.t 17) (.t 21))), (some (10, false))⟩,
 ⟨(some 23), (.dry (.pick (.t 10) (.k (.bool true)) (.t 22))), none⟩])
 (.cond (.t 23)
 (.seq (.reg [⟨(some 2), (.dry (.mov (.k (.bool false)))), none⟩])
 .ret)
 .skip))
 (.seq (.seq (.reg [⟨(some 24), (.dry (.faddr 5 1 false (.t 1))), none⟩,
 ⟨(some 25), (.wet (.load 1 false (.t 24))), none⟩,
 ⟨(some 26), (.dry (.len (.t 25))), none⟩,
 ⟨(some 27), (.dry (.mov (.k (.int .i64 0)))), none⟩])
 (.block 0
 (.loop
 (.seq (.reg [⟨(some 28), (.dry (.bin .lss (.t 27) (.t 26))), none⟩])
 (.seq (.cond (.t 28)
 .skip
 (.exit 0))
 (.seq (.block 1
 (.seq (.reg [⟨(some 29), (.dry (.mov (.t 27))), none⟩,
 ⟨(some 30), (.dry (.iaddr 4 (.t 25) (.t 27))), none⟩,
 ⟨(some 31), (.wet (.load 4 true (.t 30))), none⟩,
 ⟨(some 4), (.wet (.alloc 121 4 [.nils, .nils, .nils, .nils])), none⟩,
 ⟨(some 3), (.dry (.mov (.t 29))), none⟩,
 ⟨none, (.wet (.store 4 (.t 4) (.t 31))), none⟩])
 (.seq (.reg [⟨(some 32), (.dry (.faddr 0 5 true (.t 1))), none⟩,
 ⟨(some 33), (.dry (.faddr 0 1 false (.t 32))), none⟩,
 ⟨(some 34), (.wet (.load 1 false (.t 33))), none⟩,
 ⟨(some 35), (.dry (.faddr 0 5 true (.t 1))), none⟩,
 ⟨(some 36), (.dry (.faddr 1 1 false (.t 35))), none⟩,
 ⟨(some 37), (.wet (.load 1 false (.t 36))), none⟩,
 ⟨(some 38), (.dry (.mov (.t 3))), none⟩,
 ⟨(some 39), (.dry (.bin .add (.t 37) (.t 38))), none⟩,
 ⟨(some 40), (.dry (.iaddr 2 (.t 34) (.t 39))), none⟩,
 ⟨(some 41), (.wet (.load 2 true (.t 40))), none⟩,
 ⟨(some 5), (.wet (.alloc 115 2 [.nils, .nils])), none⟩,
 ⟨none, (.wet (.store 2 (.t 5) (.t 41))), none⟩])
 (.seq (.reg [⟨(some 42), (.dry (.faddr 0 2 true (.t 4))), none⟩,
 ⟨(some 43), (.dry (.faddr 0 1 false (.t 42))), none⟩,
 ⟨(some 44), (.wet (.load 1 false (.t 43))), none⟩,
 ⟨(some 45), (.dry (.faddr 0 1 false (.t 5))), none⟩,
 ⟨(some 46), (.wet (.load 1 false (.t 45))), none⟩,
 ⟨(some 47), (.call (.k (.fn 37 [] [])) [(.t 44), (.t 46)]), none⟩,
 ⟨(some 48), (.dry (.not (.t 47))), none⟩,
 ⟨(some 49), (.dry (.mov (.t 48))), none⟩,
 ⟨(some 50), (.dry (.faddr 0 2 true (.t 4))), (some (49, false))⟩,
 ⟨(some 51), (.dry (.faddr 1 1 false (.t 50))), (some (49, false))⟩,
 ⟨(some 52), (.wet (.load 1 false (.t 51))), (some (49, false))⟩,
 ⟨(some 53), (.dry (.faddr 1 1 false (.t 5))), (some (49, false))⟩,
 ⟨(some 54), (.wet (.load 1 false (.t 53))), (some (49, false))⟩,
 ⟨(some 55), (.call (.k (.fn 37 [] [])) [(.t 52), (.t 54)]), (some (49, false))⟩,
 ⟨(some 56), (.dry (.not (.t 55))), (some (49, false))⟩,
 ⟨(some 57), (.dry (.pick (.t 49) (.k (.bool true)) (.t 56))), none⟩,
 ⟨(some 58), (.dry (.mov (.t 57))), none⟩,
 ⟨(some 59), (.dry (.faddr 0 5 true (.t 1))), (some (58, false))⟩,
 ⟨(some 60), (.wet (.load 5 true (.t 59))), (some (58, false))⟩,
 ⟨(some 61), (.wet (.load 4 true (.t 4))), (some (58, false))⟩,
 ⟨(some 62), (.call (.k (.fn 38 [] [])) [(.t 60), (.t 61)]), (some (58, false))⟩,
 ⟨(some 63), (.dry (.not (.t 62))), (some (58, false))⟩,
 ⟨(some 64), (.dry (.pick (.t 58) (.k (.bool true)) (.t 63))), none⟩])
 (.cond (.t 64)
 (.seq (.reg [⟨(some 2), (.dry (.mov (.k (.bool false)))), none⟩])
 .ret)
 .skip)))))
 (.reg [⟨(some 65), (.dry (.bin .add (.t 27) (.k (.int .i64 1)))), none⟩,
 ⟨(some 27), (.dry (.mov (.t 65))), none⟩])))))))
 (.seq (.reg [⟨(some 2), (.dry (.mov (.k (.bool true)))), none⟩])
 .ret)))) }

/-- bellcrank/ssa.Replace -/
def e22 : EFunc := { own := none, res := [(.cell 4 4 true)], ntmps := 120, pure := false, body :=
 (.seq (.reg [⟨(some 2), (.wet (.box 4 (.t 0))), none⟩,
 ⟨(some 3), (.wet (.box 1 (.t 1))), none⟩,
 ⟨(some 4), (.wet (.alloc 121 4 [.nils, .nils, .nils, .nils])), none⟩])
 (.seq (.seq (.reg [⟨(some 15), (.wet (.load 4 true (.t 2))), none⟩,
 ⟨(some 16), (.call (.k (.fn 39 [] [])) [(.t 15)]), none⟩,
 ⟨(some 17), (.dry (.not (.t 16))), none⟩])
 (.cond (.t 17)
 (.seq (.reg [⟨(some 18), (.dry (.build [.nils, .nils, .nils, .nils] [])), none⟩,
 ⟨none, (.wet (.store 4 (.t 4) (.t 18))), none⟩])
 .ret)
 .skip))
 (.seq (.reg [⟨(some 19), (.dry (.mkfn 40 [] [(.t 3)])), none⟩,
 ⟨(some 5), (.wet (.alloc 1 1 [.nilf])), none⟩,
 ⟨none, (.wet (.store 1 (.t 5) (.t 19))), none⟩])
 (.seq (.reg [⟨(some 20), (.dry (.mkfn 41 [] [(.t 5)])), none⟩,
 ⟨(some 6), (.dry (.mov (.t 20))), none⟩])
 (.seq (.draw [(⟨(some 21), (.dry (.faddr 0 2 true (.t 2))), none⟩, 0, false),
 (⟨(some 22), (.dry (.faddr 0 1 false (.t 21))), none⟩, 1, false),
 (⟨(some 23), (.wet (.load 1 false (.t 22))), none⟩, 3, false),
 (⟨(some 24), (.call (.k (.fn 42 [] [])) [(.t 23)]), none⟩, 7, false),
 (⟨(some 25), (.dry (.faddr 0 2 true (.t 2))), none⟩, 0, false),
 (⟨(some 26), (.dry (.faddr 1 1 false (.t 25))), none⟩, 16, false),
 (⟨(some 27), (.wet (.load 1 false (.t 26))), none⟩, 48, false),
 (⟨(some 28), (.call (.k (.fn 42 [] [])) [(.t 27)]), none⟩, 127, false),
 (⟨(some 29), (.dry (.build [.nils, .nils] [(0, 1, (.t 24)), (1, 1, (.t 28))])), none⟩, 255, false),
 (⟨(some 30), (.dry (.faddr 2 1 false (.t 2))), none⟩, 0, false),
 (⟨(some 31), (.wet (.load 1 false (.t 30))), none⟩, 512, false),
 (⟨(some 32), (.call (.k (.fn 42 [] [])) [(.t 31)]), none⟩, 1791, false),
 (⟨(some 33), (.dry (.build [.nils, .nils, .nils, .nils] [(0, 2, (.t 29)), (2, 1, (.t 32))])), none⟩, 4095, false),
 (⟨(some 7), (.wet (.alloc 121 4 [.nils, .nils, .nils, .nils])), none⟩, 0, false),
 (⟨none, (.wet (.store 4 (.t 7) (.t 33))), none⟩, 16383, true)])
 (.seq (.seq (.reg [⟨(some 34), (.dry (.faddr 3 1 false (.t 2))), none⟩,
 ⟨(some 35), (.wet (.load 1 false (.t 34))), none⟩,
 ⟨(some 36), (.dry (.len (.t 35))), none⟩,
 ⟨(some 37), (.dry (.mov (.k (.int .i64 0)))), none⟩])
 (.block 0
 (.loop
 (.seq (.reg [⟨(some 38), (.dry (.bin .lss (.t 37) (.t 36))), none⟩])
 (.seq (.cond (.t 38)
 .skip
 (.exit 0))
 (.seq (.block 1
 (.seq (.reg [⟨(some 39), (.dry (.iaddr 6 (.t 35) (.t 37))), none⟩,
 ⟨(some 40), (.wet (.load 6 true (.t 39))), none⟩,
 ⟨(some 9), (.wet (.alloc 137 6 [.nils, .nils, (.int .i64 0), (.int .i64 0), .nils, .nils])), none⟩,
 ⟨none, (.wet (.store 6 (.t 9) (.t 40))), none⟩])
 (.seq (.draw [(⟨(some 41), (.dry (.faddr 0 1 false (.t 9))), none⟩, 0, false),
 (⟨(some 42), (.wet (.load 1 false (.t 41))), none⟩, 1, false),
 (⟨(some 43), (.call (.k (.fn 42 [] [])) [(.t 42)]), none⟩, 3, false),
 (⟨(some 44), (.dry (.faddr 2 4 true (.t 9))), none⟩, 0, false),
 (⟨(some 45), (.wet (.load 4 true (.t 44))), none⟩, 8, false),
 (⟨(some 46), (.dry (.build [.nils, .nils, (.int .i64 0), (.int .i64 0), .nils, .nils] [(0, 1, (.t 43)), (2, 4, (.t 45))])), none⟩, 31, false),
 (⟨(some 10), (.wet (.alloc 137 6 [.nils, .nils, (.int .i64 0), (.int .i64 0), .nils, .nils])), none⟩, 0, false),
 (⟨none, (.wet (.store 6 (.t 10) (.t 46))), none⟩, 127, true)])
 (.seq (.seq (.reg [⟨(some 47), (.dry (.faddr 1 1 false (.t 9))), none⟩,
 ⟨(some 48), (.wet (.load 1 false (.t 47))), none⟩,
 ⟨(some 49), (.dry (.len (.t 48))), none⟩,
 ⟨(some 50), (.dry (.mov (.k (.int .i64 0)))), none⟩])
 (.block 2
 (.loop
 (.seq (.reg [⟨(some 51), (.dry (.bin .lss (.t 50) (.t 49))), none⟩])
 (.seq (.cond (.t 51)
 .skip
 (.exit 2))
 (.seq (.block 3
 (.seq (.reg [⟨(some 52), (.dry (.iaddr 4 (.t 48) (.t 50))), none⟩,
 ⟨(some 53), (.wet (.load 4 true (.t 52))), none⟩,
 ⟨(some 12), (.wet (.alloc 143 4 [(.int .i64 0), (.int .u64 0), .nils, .nils])), none⟩,
 ⟨none, (.wet (.store 4 (.t 12) (.t 53))), none⟩])
 (.seq (.draw [(⟨(some 54), (.dry (.mov (.t 6))), none⟩, 0, false),
 (⟨(some 55), (.dry (.faddr 2 1 false (.t 12))), none⟩, 0, false),
 (⟨(some 56), (.wet (.load 1 false (.t 55))), none⟩, 2, false),
 (⟨(some 57), (.call (.t 54) [(.t 56)]), none⟩, 7, false),
 (⟨(some 58), (.dry (.faddr 3 1 false (.t 12))), none⟩, 0, false),
 (⟨(some 59), (.wet (.load 1 false (.t 58))), none⟩, 16, false),
 (⟨(some 60), (.call (.k (.fn 42 [] [])) [(.t 59)]), none⟩, 63, true),
 (⟨(some 61), (.dry (.faddr 2 1 false (.t 12))), none⟩, 63, false),
 (⟨none, (.wet (.store 1 (.t 61) (.t 57))), none⟩, 255, true),
 (⟨(some 62), (.dry (.faddr 3 1 false (.t 12))), none⟩, 511, false),
 (⟨none, (.wet (.store 1 (.t 62) (.t 60))), none⟩, 1023, true)])
 (.reg [⟨(some 63), (.dry (.faddr 1 1 false (.t 10))), none⟩,
 ⟨(some 64), (.wet (.load 1 false (.t 63))), none⟩,
 ⟨(some 65), (.wet (.load 4 true (.t 12))), none⟩,
 ⟨(some 66), (.wet (.bsl 4 1 [(.int .i64 0), (.int .u64 0), .nils, .nils] [(0, (.t 65))])), none⟩,
 ⟨(some 67), (.wet (.append 142 4 64 (.t 64) (.t 66))), none⟩,
 ⟨(some 68), (.dry (.faddr 1 1 false (.t 10))), none⟩,
 ⟨none, (.wet (.store 1 (.t 68) (.t 67))), none⟩]))))
 (.reg [⟨(some 69), (.dry (.bin .add (.t 50) (.k (.int .i64 1)))), none⟩,
 ⟨(some 50), (.dry (.mov (.t 69))), none⟩])))))))
 (.seq (.seq (.reg [⟨(some 70), (.dry (.faddr 2 4 true (.t 9))), none⟩,
 ⟨(some 71), (.wet (.load 4 true (.t 70))), none⟩,
 ⟨(some 72), (.call (.k (.fn 43 [] [])) [(.t 71)]), none⟩])
 (.cond (.t 72)
 (.reg [⟨(some 73), (.wet (.load 1 false (.t 5))), none⟩,
 ⟨(some 74), (.dry (.faddr 2 4 true (.t 9))), none⟩,
 ⟨(some 75), (.dry (.faddr 1 1 false (.t 74))), none⟩,
 ⟨(some 76), (.wet (.load 1 false (.t 75))), none⟩,
 ⟨(some 77), (.call (.t 73) [(.t 76)]), none⟩,
 ⟨(some 78), (.dry (.faddr 2 4 true (.t 10))), none⟩,
 ⟨(some 79), (.dry (.faddr 1 1 false (.t 78))), none⟩,
 ⟨none, (.wet (.store 1 (.t 79) (.t 77))), none⟩])
 .skip))
 (.seq (.reg [⟨(some 80), (.dry (.mov (.t 6))), none⟩,
 ⟨(some 81), (.dry (.faddr 2 4 true (.t 9))), none⟩,
 ⟨(some 82), (.dry (.faddr 3 1 false (.t 81))), none⟩,
 ⟨(some 83), (.wet (.load 1 false (.t 82))), none⟩,
 ⟨(some 84), (.call (.t 80) [(.t 83)]), none⟩,
 ⟨(some 85), (.dry (.faddr 2 4 true (.t 10))), none⟩,
 ⟨(some 86), (.dry (.faddr 3 1 false (.t 85))), none⟩,
 ⟨none, (.wet (.store 1 (.t 86) (.t 84))), none⟩,
 ⟨(some 87), (.dry (.faddr 2 4 true (.t 10))), none⟩,
 ⟨(some 88), (.dry (.faddr 2 1 false (.t 87))), none⟩,
 ⟨none, (.wet (.store 1 (.t 88) (.k .nils))), none⟩])
 (.seq (.seq (.reg [⟨(some 89), (.dry (.faddr 2 4 true (.t 9))), none⟩,
 ⟨(some 90), (.dry (.faddr 2 1 false (.t 89))), none⟩,
 ⟨(some 91), (.wet (.load 1 false (.t 90))), none⟩,
 ⟨(some 92), (.dry (.len (.t 91))), none⟩,
 ⟨(some 93), (.dry (.mov (.k (.int .i64 0)))), none⟩])
 (.block 4
 (.loop
 (.seq (.reg [⟨(some 94), (.dry (.bin .lss (.t 93) (.t 92))), none⟩])
 (.seq (.cond (.t 94)
 .skip
 (.exit 4))
 (.seq (.block 5
 (.seq (.reg [⟨(some 95), (.dry (.iaddr 2 (.t 91) (.t 93))), none⟩,
 ⟨(some 96), (.wet (.load 2 true (.t 95))), none⟩,
 ⟨(some 14), (.wet (.alloc 191 2 [(.int .i64 0), .nils])), none⟩,
 ⟨none, (.wet (.store 2 (.t 14) (.t 96))), none⟩])
 (.draw [(⟨(some 97), (.dry (.faddr 2 4 true (.t 10))), none⟩, 0, false),
 (⟨(some 98), (.dry (.faddr 2 1 false (.t 97))), none⟩, 1, false),
 (⟨(some 99), (.wet (.load 1 false (.t 98))), none⟩, 3, false),
 (⟨(some 100), (.dry (.faddr 0 1 false (.t 14))), none⟩, 0, false),
 (⟨(some 101), (.wet (.load 1 false (.t 100))), none⟩, 8, false),
 (⟨(some 102), (.dry (.mov (.t 6))), none⟩, 0, false),
 (⟨(some 103), (.dry (.faddr 1 1 false (.t 14))), none⟩, 0, false),
 (⟨(some 104), (.wet (.load 1 false (.t 103))), none⟩, 64, false),
 (⟨(some 105), (.call (.t 102) [(.t 104)]), none⟩, 224, false),
 (⟨(some 106), (.dry (.build [(.int .i64 0), .nils] [(0, 1, (.t 101)), (1, 1, (.t 105))])), none⟩, 504, false),
 (⟨(some 107), (.wet (.bsl 2 1 [(.int .i64 0), .nils] [(0, (.t 106))])), none⟩, 1016, false),
 (⟨(some 108), (.wet (.append 190 2 32 (.t 99) (.t 107))), none⟩, 2047, true),
 (⟨(some 109), (.dry (.faddr 2 4 true (.t 10))), none⟩, 4095, false),
 (⟨(some 110), (.dry (.faddr 2 1 false (.t 109))), none⟩, 8191, false),
 (⟨none, (.wet (.store 1 (.t 110) (.t 108))), none⟩, 16383, true)])))
 (.reg [⟨(some 111), (.dry (.bin .add (.t 93) (.k (.int .i64 1)))), none⟩,
 ⟨(some 93), (.dry (.mov (.t 111))), none⟩])))))))
 (.reg [⟨(some 112), (.dry (.faddr 3 1 false (.t 7))), none⟩,
 ⟨(some 113), (.wet (.load 1 false (.t 112))), none⟩,
 ⟨(some 114), (.wet (.load 6 true (.t 10))), none⟩,
 ⟨(some 115), (.wet (.bsl 6 1 [.nils, .nils, (.int .i64 0), (.int .i64 0), .nils, .nils] [(0, (.t 114))])), none⟩,
 ⟨(some 116), (.wet (.append 136 6 112 (.t 113) (.t 115))), none⟩,
 ⟨(some 117), (.dry (.faddr 3 1 false (.t 7))), none⟩,
 ⟨none, (.wet (.store 1 (.t 117) (.t 116))), none⟩]))))))))
 (.reg [⟨(some 118), (.dry (.bin .add (.t 37) (.k (.int .i64 1)))), none⟩,
 ⟨(some 37), (.dry (.mov (.t 118))), none⟩])))))))
 (.seq (.reg [⟨(some 119), (.wet (.load 4 true (.t 7))), none⟩,
 ⟨none, (.wet (.store 4 (.t 4) (.t 119))), none⟩])
 .ret))))))) }

/-- bellcrank/opt.passes -/
def e23 : EFunc := { own := none, res := [(.tmp 2)], ntmps := 28, pure := false, body :=
 (.seq (.reg [⟨(some 2), (.dry (.mov (.k .nils))), none⟩])
 (.seq (.reg [⟨(some 3), (.dry (.mov (.k .nils))), none⟩])
 (.seq (.seq (.reg [⟨(some 6), (.dry (.build [(.int .i64 0), (.str []), .nilf] [(0, 1, (.k (.int .i64 1))), (1, 1, (.k (.str [115, 99, 99, 112]))), (2, 1, (.k (.fn 44 [] [])))])), none⟩,
 ⟨(some 7), (.dry (.build [(.int .i64 0), (.str []), .nilf] [(0, 1, (.k (.int .i64 2))), (1, 1, (.k (.str [103, 118, 110]))), (2, 1, (.k (.fn 45 [] [])))])), none⟩,
 ⟨(some 8), (.dry (.build [(.int .i64 0), (.str []), .nilf] [(0, 1, (.k (.int .i64 4))), (1, 1, (.k (.str [98, 99, 101]))), (2, 1, (.k (.fn 46 [] [])))])), none⟩,
 ⟨(some 9), (.dry (.build [(.int .i64 0), (.str []), .nilf] [(0, 1, (.k (.int .i64 8))), (1, 1, (.k (.str [108, 105, 99, 109]))), (2, 1, (.k (.fn 47 [] [])))])), none⟩,
 ⟨(some 10), (.dry (.build [(.int .i64 0), (.str []), .nilf] [(0, 1, (.k (.int .i64 16))), (1, 1, (.k (.str [100, 99, 101]))), (2, 1, (.k (.fn 48 [] [])))])), none⟩,
 ⟨(some 11), (.wet (.bsl 3 5 [(.int .i64 0), (.str []), .nilf, (.int .i64 0), (.str []), .nilf, (.int .i64 0), (.str []), .nilf, (.int .i64 0), (.str []), .nilf, (.int .i64 0), (.str []), .nilf] [(0, (.t 6)), (3, (.t 7)), (6, (.t 8)), (9, (.t 9)), (12, (.t 10))])), none⟩,
 ⟨(some 12), (.dry (.len (.t 11))), none⟩,
 ⟨(some 13), (.dry (.mov (.k (.int .i64 0)))), none⟩])
 (.block 0
 (.loop
 (.seq (.reg [⟨(some 14), (.dry (.bin .lss (.t 13) (.t 12))), none⟩])
 (.seq (.cond (.t 14)
 .skip
 (.exit 0))
 (.seq (.block 1
 (.seq (.reg [⟨(some 15), (.dry (.iaddr 3 (.t 11) (.t 13))), none⟩,
 ⟨(some 16), (.wet (.load 3 true (.t 15))), none⟩,
 ⟨(some 5), (.wet (.alloc 155 3 [(.int .i64 0), (.str []), .nilf])), none⟩,
 ⟨none, (.wet (.store 3 (.t 5) (.t 16))), none⟩])
 (.seq (.reg [⟨(some 17), (.dry (.mov (.t 0))), none⟩,
 ⟨(some 18), (.dry (.faddr 0 1 false (.t 5))), none⟩,
 ⟨(some 19), (.wet (.load 1 false (.t 18))), none⟩,
 ⟨(some 20), (.dry (.bin .and (.t 17) (.t 19))), none⟩,
 ⟨(some 21), (.dry (.eq (.prim .i) true (.t 20) (.k (.int .i64 0)))), none⟩])
 (.cond (.t 21)
 (.reg [⟨(some 22), (.dry (.mov (.t 3))), none⟩,
 ⟨(some 23), (.wet (.load 3 true (.t 5))), none⟩,
 ⟨(some 24), (.wet (.bsl 3 1 [(.int .i64 0), (.str []), .nilf] [(0, (.t 23))])), none⟩,
 ⟨(some 25), (.wet (.append 154 3 32 (.t 22) (.t 24))), none⟩,
 ⟨(some 3), (.dry (.mov (.t 25))), none⟩])
 .skip))))
 (.reg [⟨(some 26), (.dry (.bin .add (.t 13) (.k (.int .i64 1)))), none⟩,
 ⟨(some 13), (.dry (.mov (.t 26))), none⟩])))))))
 (.seq (.reg [⟨(some 27), (.dry (.mov (.t 3))), none⟩,
 ⟨(some 2), (.dry (.mov (.t 27))), none⟩])
 .ret)))) }

/-- bellcrank/bellcranklaw16.small -/
def e26 : EFunc := { own := none, res := [(.cell 0 6 true)], ntmps := 29, pure := false, body :=
 (.seq (.reg [⟨(some 0), (.wet (.alloc 61 6 [.nils, (.int .i64 0), .nils, .nils, (.bool false), .nils])), none⟩])
 (.seq (.reg [⟨(some 4), (.wet (.bsl 1 1 [(.int .i64 0)] [(0, (.k (.int .i64 127)))])), none⟩,
 ⟨(some 5), (.dry (.build [.nils, .nils] [(1, 1, (.t 4))])), none⟩,
 ⟨(some 1), (.wet (.alloc 115 2 [.nils, .nils])), none⟩,
 ⟨none, (.wet (.store 2 (.t 1) (.t 5))), none⟩])
 (.seq (.reg [⟨(some 6), (.dry (.build [(.int .i64 0), (.int .u64 0), .nils, .nils] [(0, 1, (.k (.int .i64 258)))])), none⟩,
 ⟨(some 7), (.wet (.bsl 1 1 [(.int .i64 0)] [(0, (.k (.int .i64 0)))])), none⟩,
 ⟨(some 8), (.dry (.build [(.int .i64 0), (.int .u64 0), .nils, .nils] [(0, 1, (.k (.int .i64 256))), (1, 1, (.k (.int .u64 2))), (3, 1, (.t 7))])), none⟩,
 ⟨(some 9), (.wet (.bsl 1 1 [(.int .i64 0)] [(0, (.k (.int .i64 1)))])), none⟩,
 ⟨(some 10), (.dry (.build [(.int .i64 0), (.int .u64 0), .nils, .nils] [(0, 1, (.k (.int .i64 256))), (1, 1, (.k (.int .u64 3))), (3, 1, (.t 9))])), none⟩,
 ⟨(some 11), (.wet (.bsl 1 2 [(.int .i64 0), (.int .i64 0)] [(0, (.k (.int .i64 0))), (1, (.k (.int .i64 1)))])), none⟩,
 ⟨(some 12), (.wet (.bsl 1 1 [(.int .i64 0)] [(0, (.k (.int .i64 2)))])), none⟩,
 ⟨(some 13), (.dry (.build [(.int .i64 0), (.int .u64 0), .nils, .nils] [(0, 1, (.k (.int .i64 106))), (2, 1, (.t 11)), (3, 1, (.t 12))])), none⟩,
 ⟨(some 14), (.wet (.bsl 4 4 [(.int .i64 0), (.int .u64 0), .nils, .nils, (.int .i64 0), (.int .u64 0), .nils, .nils, (.int .i64 0), (.int .u64 0), .nils, .nils, (.int .i64 0), (.int .u64 0), .nils, .nils] [(0, (.t 6)), (4, (.t 8)), (8, (.t 10)), (12, (.t 13))])), none⟩,
 ⟨(some 2), (.dry (.mov (.t 14))), none⟩])
 (.seq (.reg [⟨(some 15), (.wet (.load 2 true (.t 1))), none⟩,
 ⟨(some 16), (.wet (.bsl 1 3 [(.int .i64 0), (.int .i64 0), (.int .i64 0)] [(0, (.k (.int .i64 127))), (1, (.k (.int .i64 127))), (2, (.k (.int .i64 127)))])), none⟩,
 ⟨(some 17), (.dry (.mov (.t 2))), none⟩,
 ⟨(some 18), (.wet (.bsl 1 1 [(.int .i64 0)] [(0, (.k (.int .i64 2)))])), none⟩,
 ⟨(some 19), (.dry (.build [(.int .i64 0), (.int .i64 0), .nils, .nils] [(0, 1, (.k (.int .i64 4))), (3, 1, (.t 18))])), none⟩,
 ⟨(some 20), (.dry (.build [.nils, .nils, (.int .i64 0), (.int .i64 0), .nils, .nils] [(1, 1, (.t 17)), (2, 4, (.t 19))])), none⟩,
 ⟨(some 21), (.wet (.bsl 6 1 [.nils, .nils, (.int .i64 0), (.int .i64 0), .nils, .nils] [(0, (.t 20))])), none⟩,
 ⟨(some 22), (.dry (.build [.nils, .nils, .nils, .nils] [(0, 2, (.t 15)), (2, 1, (.t 16)), (3, 1, (.t 21))])), none⟩,
 ⟨(some 3), (.wet (.alloc 121 4 [.nils, .nils, .nils, .nils])), none⟩,
 ⟨none, (.wet (.store 4 (.t 3) (.t 22))), none⟩])
 (.seq (.reg [⟨(some 23), (.wet (.load 2 true (.t 1))), none⟩,
 ⟨(some 24), (.wet (.bsl 2 1 [.nils, .nils] [(0, (.t 23))])), none⟩,
 ⟨(some 25), (.dry (.build [.nils, (.int .i64 0), .nils, .nils, (.bool false)] [(0, 1, (.t 24))])), none⟩,
 ⟨(some 26), (.wet (.load 4 true (.t 3))), none⟩,
 ⟨(some 27), (.wet (.bsl 4 1 [.nils, .nils, .nils, .nils] [(0, (.t 26))])), none⟩,
 ⟨(some 28), (.dry (.build [.nils, (.int .i64 0), .nils, .nils, (.bool false), .nils] [(0, 5, (.t 25)), (5, 1, (.t 27))])), none⟩,
 ⟨none, (.wet (.store 6 (.t 0) (.t 28))), none⟩])
 .ret))))) }

/-- bellcrank/ssa.EnvRight -/
def e36 : EFunc := { own := none, res := [(.tmp 2)], ntmps := 38, pure := false, body :=
 (.seq (.reg [⟨(some 1), (.wet (.box 5 (.t 0))), none⟩,
 ⟨(some 2), (.dry (.mov (.k (.bool false)))), none⟩])
 (.seq (.seq (.reg [⟨(some 3), (.dry (.faddr 1 1 false (.t 1))), none⟩,
 ⟨(some 4), (.wet (.load 1 false (.t 3))), none⟩,
 ⟨(some 5), (.dry (.bin .lss (.t 4) (.k (.int .i64 0)))), none⟩,
 ⟨(some 6), (.dry (.mov (.t 5))), none⟩,
 ⟨(some 7), (.dry (.faddr 1 1 false (.t 1))), (some (6, false))⟩,
 ⟨(some 8), (.wet (.load 1 false (.t 7))), (some (6, false))⟩,
 ⟨(some 9), (.dry (.faddr 0 1 false (.t 1))), (some (6, false))⟩,
 ⟨(some 10), (.wet (.load 1 false (.t 9))), (some (6, false))⟩,
 ⟨(some 11), (.dry (.len (.t 10))), (some (6, false))⟩,
 ⟨(some 12), (.dry (.bin .gtr (.t 8) (.t 11))), (some (6, false))⟩,
 ⟨(some 13), (.dry (.pick (.t 6) (.k (.bool true)) (.t 12))), none⟩,
 ⟨(some 14), (.dry (.mov (.t 13))), none⟩,
 ⟨(some 15), (.dry (.faddr 0 1 false (.t 1))), (some (14, false))⟩,
 ⟨(some 16), (.wet (.load 1 false (.t 15))), (some (14, false))⟩,
 ⟨(some 17), (.dry (.len (.t 16))), (some (14, false))⟩,
 ⟨(some 18), (.dry (.bin .gtr (.t 17) (.k (.int .i64 64)))), (some (14, false))⟩,
 ⟨(some 19), (.dry (.pick (.t 14) (.k (.bool true)) (.t 18))), none⟩,
 ⟨(some 20), (.dry (.mov (.t 19))), none⟩,
 ⟨(some 21), (.dry (.faddr 3 1 false (.t 1))), (some (20, false))⟩,
 ⟨(some 22), (.wet (.load 1 false (.t 21))), (some (20, false))⟩,
 ⟨(some 23), (.dry (.len (.t 22))), (some (20, false))⟩,
 ⟨(some 24), (.dry (.faddr 2 1 false (.t 1))), (some (20, false))⟩,
 ⟨(some 25), (.wet (.load 1 false (.t 24))), (some (20, false))⟩,
 ⟨(some 26), (.dry (.len (.t 25))), (some (20, false))⟩,
 ⟨(some 27), (.dry (.eq (.prim .i) true (.t 23) (.t 26))), (some (20, false))⟩,
 ⟨(some 28), (.dry (.pick (.t 20) (.k (.bool true)) (.t 27))), none⟩])
 (.cond (.t 28)
 (.seq (.reg [⟨(some 2), (.dry (.mov (.k (.bool false)))), none⟩])
 .ret)
 .skip))
 (.seq (.reg [⟨(some 29), (.dry (.faddr 2 1 false (.t 1))), none⟩,
 ⟨(some 30), (.wet (.load 1 false (.t 29))), none⟩,
 ⟨(some 31), (.call (.k (.fn 77 [] [])) [(.k (.int .i64 32)), (.t 30)]), none⟩,
 ⟨(some 32), (.dry (.mov (.t 31))), none⟩,
 ⟨(some 33), (.dry (.faddr 0 1 false (.t 1))), (some (32, true))⟩,
 ⟨(some 34), (.wet (.load 1 false (.t 33))), (some (32, true))⟩,
 ⟨(some 35), (.call (.k (.fn 78 [] [])) [(.t 34), (.k (.fn 79 [] []))]), (some (32, true))⟩,
 ⟨(some 36), (.dry (.not (.t 35))), (some (32, true))⟩,
 ⟨(some 37), (.dry (.pick (.t 32) (.t 36) (.k (.bool false)))), none⟩,
 ⟨(some 2), (.dry (.mov (.t 37))), none⟩])
 .ret))) }

/-- slices.Equal[[]int,int] -/
def e37 : EFunc := { own := none, res := [(.tmp 4)], ntmps := 26, pure := false, body :=
 (.seq (.reg [⟨(some 4), (.dry (.mov (.k (.bool false)))), none⟩])
 (.seq (.seq (.reg [⟨(some 6), (.dry (.mov (.t 0))), none⟩,
 ⟨(some 7), (.dry (.len (.t 6))), none⟩,
 ⟨(some 8), (.dry (.mov (.t 1))), none⟩,
 ⟨(some 9), (.dry (.len (.t 8))), none⟩,
 ⟨(some 10), (.dry (.eq (.prim .i) true (.t 7) (.t 9))), none⟩])
 (.cond (.t 10)
 (.seq (.reg [⟨(some 4), (.dry (.mov (.k (.bool false)))), none⟩])
 .ret)
 .skip))
 (.seq (.seq (.reg [⟨(some 11), (.dry (.mov (.t 0))), none⟩,
 ⟨(some 12), (.dry (.len (.t 11))), none⟩,
 ⟨(some 13), (.dry (.mov (.k (.int .i64 0)))), none⟩])
 (.block 0
 (.loop
 (.seq (.reg [⟨(some 14), (.dry (.bin .lss (.t 13) (.t 12))), none⟩])
 (.seq (.cond (.t 14)
 .skip
 (.exit 0))
 (.seq (.block 1
 (.seq (.reg [⟨(some 15), (.dry (.mov (.t 13))), none⟩,
 ⟨(some 5), (.dry (.mov (.t 15))), none⟩])
 (.seq (.draw [(⟨(some 16), (.dry (.mov (.t 0))), none⟩, 0, false),
 (⟨(some 17), (.dry (.mov (.t 5))), none⟩, 0, false),
 (⟨(some 18), (.dry (.iaddr 1 (.t 16) (.t 17))), none⟩, 3, false),
 (⟨(some 19), (.wet (.load 1 false (.t 18))), none⟩, 7, false),
 (⟨(some 20), (.dry (.mov (.t 1))), none⟩, 0, false),
 (⟨(some 21), (.dry (.mov (.t 5))), none⟩, 0, false),
 (⟨(some 22), (.dry (.iaddr 1 (.t 20) (.t 21))), none⟩, 48, false),
 (⟨(some 23), (.wet (.load 1 false (.t 22))), none⟩, 112, false),
 (⟨(some 24), (.dry (.eq (.prim .i) true (.t 19) (.t 23))), none⟩, 255, false)])
 (.cond (.t 24)
 (.seq (.reg [⟨(some 4), (.dry (.mov (.k (.bool false)))), none⟩])
 .ret)
 .skip))))
 (.reg [⟨(some 25), (.dry (.bin .add (.t 13) (.k (.int .i64 1)))), none⟩,
 ⟨(some 13), (.dry (.mov (.t 25))), none⟩])))))))
 (.seq (.reg [⟨(some 4), (.dry (.mov (.k (.bool true)))), none⟩])
 .ret)))) }

/-- bellcrank/ssa.Check -/
def e38 : EFunc := { own := none, res := [(.tmp 4)], ntmps := 82, pure := false, body :=
 (.seq (.reg [⟨(some 2), (.wet (.box 5 (.t 0))), none⟩,
 ⟨(some 3), (.wet (.box 4 (.t 1))), none⟩,
 ⟨(some 4), (.dry (.mov (.k (.bool false)))), none⟩])
 (.seq (.seq (.reg [⟨(some 10), (.wet (.load 5 true (.t 2))), none⟩,
 ⟨(some 11), (.call (.k (.fn 36 [] [])) [(.t 10)]), none⟩,
 ⟨(some 12), (.dry (.not (.t 11))), none⟩,
 ⟨(some 13), (.dry (.mov (.t 12))), none⟩,
 ⟨(some 14), (.wet (.load 4 true (.t 3))), (some (13, false))⟩,
 ⟨(some 15), (.call (.k (.fn 39 [] [])) [(.t 14)]), (some (13, false))⟩,
 ⟨(some 16), (.dry (.not (.t 15))), (some (13, false))⟩,
 ⟨(some 17), (.dry (.pick (.t 13) (.k (.bool true)) (.t 16))), none⟩,
 ⟨(some 18), (.dry (.mov (.t 17))), none⟩,
 ⟨(some 19), (.dry (.faddr 3 1 false (.t 3))), (some (18, false))⟩,
 ⟨(some 20), (.wet (.load 1 false (.t 19))), (some (18, false))⟩,
 ⟨(some 21), (.dry (.len (.t 20))), (some (18, false))⟩,
 ⟨(some 22), (.dry (.bin .gtr (.t 21) (.k (.int .i64 256)))), (some (18, false))⟩,
 ⟨(some 23), (.dry (.pick (.t 18) (.k (.bool true)) (.t 22))), none⟩,
 ⟨(some 24), (.dry (.mov (.t 23))), none⟩,
 ⟨(some 25), (.dry (.faddr 2 1 false (.t 3))), (some (24, false))⟩,
 ⟨(some 26), (.wet (.load 1 false (.t 25))), (some (24, false))⟩,
 ⟨(some 27), (.call (.k (.fn 77 [] [])) [(.k (.int .i64 2048)), (.t 26)]), (some (24, false))⟩,
 ⟨(some 28), (.dry (.not (.t 27))), (some (24, false))⟩,
 ⟨(some 29), (.dry (.pick (.t 24) (.k (.bool true)) (.t 28))), none⟩,
 ⟨(some 30), (.dry (.mov (.t 29))), none⟩,
 ⟨(some 31), (.dry (.faddr 0 2 true (.t 3))), (some (30, false))⟩,
 ⟨(some 32), (.wet (.load 2 true (.t 31))), (some (30, false))⟩,
 ⟨(some 33), (.call (.k (.fn 80 [] [])) [(.t 32)]), (some (30, false))⟩,
 ⟨(some 34), (.dry (.not (.t 33))), (some (30, false))⟩,
 ⟨(some 35), (.dry (.pick (.t 30) (.k (.bool true)) (.t 34))), none⟩])
 (.cond (.t 35)
 (.seq (.reg [⟨(some 4), (.dry (.mov (.k (.bool false)))), none⟩])
 .ret)
 .skip))
 (.seq (.reg [⟨(some 36), (.wet (.load 5 true (.t 2))), none⟩,
 ⟨(some 37), (.wet (.load 4 true (.t 3))), none⟩,
 ⟨(some 38), (.dry (.build [.nils, (.int .i64 0), .nils, .nils, (.bool false), .nils, .nils, .nils, .nils, .nils, .nils] [(0, 5, (.t 36)), (5, 4, (.t 37))])), none⟩,
 ⟨(some 39), (.wet (.box 11 (.t 38))), none⟩,
 ⟨(some 5), (.dry (.mov (.t 39))), none⟩])
 (.seq (.seq (.reg [⟨(some 40), (.dry (.faddr 3 1 false (.t 3))), none⟩,
 ⟨(some 41), (.wet (.load 1 false (.t 40))), none⟩,
 ⟨(some 42), (.call (.k (.fn 81 [] [])) [(.t 41), (.k (.fn 82 [] []))]), none⟩,
 ⟨(some 43), (.dry (.mov (.t 42))), none⟩,
 ⟨(some 44), (.dry (.mov (.t 5))), (some (43, false))⟩,
 ⟨(some 45), (.call (.k (.fn 83 [] [])) [(.t 44)]), (some (43, false))⟩,
 ⟨(some 46), (.dry (.not (.t 45))), (some (43, false))⟩,
 ⟨(some 47), (.dry (.pick (.t 43) (.k (.bool true)) (.t 46))), none⟩,
 ⟨(some 48), (.dry (.mov (.t 47))), none⟩,
 ⟨(some 49), (.dry (.mov (.t 5))), (some (48, false))⟩,
 ⟨(some 50), (.call (.k (.fn 84 [] [])) [(.t 49)]), (some (48, false))⟩,
 ⟨(some 51), (.dry (.not (.t 50))), (some (48, false))⟩,
 ⟨(some 52), (.dry (.pick (.t 48) (.k (.bool true)) (.t 51))), none⟩])
 (.cond (.t 52)
 (.seq (.reg [⟨(some 4), (.dry (.mov (.k (.bool false)))), none⟩])
 .ret)
 .skip))
 (.seq (.seq (.reg [⟨(some 53), (.dry (.faddr 3 1 false (.t 3))), none⟩,
 ⟨(some 54), (.wet (.load 1 false (.t 53))), none⟩,
 ⟨(some 55), (.dry (.len (.t 54))), none⟩,
 ⟨(some 56), (.dry (.mov (.k (.int .i64 0)))), none⟩])
 (.block 0
 (.loop
 (.seq (.reg [⟨(some 57), (.dry (.bin .lss (.t 56) (.t 55))), none⟩])
 (.seq (.cond (.t 57)
 .skip
 (.exit 0))
 (.seq (.block 1
 (.seq (.reg [⟨(some 58), (.dry (.mov (.t 56))), none⟩,
 ⟨(some 59), (.dry (.iaddr 6 (.t 54) (.t 56))), none⟩,
 ⟨(some 60), (.wet (.load 6 true (.t 59))), none⟩,
 ⟨(some 7), (.wet (.alloc 137 6 [.nils, .nils, (.int .i64 0), (.int .i64 0), .nils, .nils])), none⟩,
 ⟨(some 6), (.dry (.mov (.t 58))), none⟩,
 ⟨none, (.wet (.store 6 (.t 7) (.t 60))), none⟩])
 (.seq (.seq (.reg [⟨(some 61), (.dry (.faddr 1 1 false (.t 7))), none⟩,
 ⟨(some 62), (.wet (.load 1 false (.t 61))), none⟩,
 ⟨(some 63), (.dry (.len (.t 62))), none⟩,
 ⟨(some 64), (.dry (.mov (.k (.int .i64 0)))), none⟩])
 (.block 2
 (.loop
 (.seq (.reg [⟨(some 65), (.dry (.bin .lss (.t 64) (.t 63))), none⟩])
 (.seq (.cond (.t 65)
 .skip
 (.exit 2))
 (.seq (.block 3
 (.seq (.reg [⟨(some 66), (.dry (.mov (.t 64))), none⟩,
 ⟨(some 67), (.dry (.iaddr 4 (.t 62) (.t 64))), none⟩,
 ⟨(some 68), (.wet (.load 4 true (.t 67))), none⟩,
 ⟨(some 9), (.wet (.alloc 143 4 [(.int .i64 0), (.int .u64 0), .nils, .nils])), none⟩,
 ⟨(some 8), (.dry (.mov (.t 66))), none⟩,
 ⟨none, (.wet (.store 4 (.t 9) (.t 68))), none⟩])
 (.seq (.reg [⟨(some 69), (.dry (.mov (.t 5))), none⟩,
 ⟨(some 70), (.dry (.mov (.t 6))), none⟩,
 ⟨(some 71), (.dry (.mov (.t 8))), none⟩,
 ⟨(some 72), (.wet (.load 4 true (.t 9))), none⟩,
 ⟨(some 73), (.call (.k (.fn 85 [] [])) [(.t 69), (.t 70), (.t 71), (.t 72)]), none⟩,
 ⟨(some 74), (.dry (.not (.t 73))), none⟩])
 (.cond (.t 74)
 (.seq (.reg [⟨(some 4), (.dry (.mov (.k (.bool false)))), none⟩])
 .ret)
 .skip))))
 (.reg [⟨(some 75), (.dry (.bin .add (.t 64) (.k (.int .i64 1)))), none⟩,
 ⟨(some 64), (.dry (.mov (.t 75))), none⟩])))))))
 (.seq (.reg [⟨(some 76), (.dry (.mov (.t 5))), none⟩,
 ⟨(some 77), (.dry (.mov (.t 6))), none⟩,
 ⟨(some 78), (.wet (.load 6 true (.t 7))), none⟩,
 ⟨(some 79), (.call (.k (.fn 86 [] [])) [(.t 76), (.t 77), (.t 78)]), none⟩,
 ⟨(some 80), (.dry (.not (.t 79))), none⟩])
 (.cond (.t 80)
 (.seq (.reg [⟨(some 4), (.dry (.mov (.k (.bool false)))), none⟩])
 .ret)
 .skip)))))
 (.reg [⟨(some 81), (.dry (.bin .add (.t 56) (.k (.int .i64 1)))), none⟩,
 ⟨(some 56), (.dry (.mov (.t 81))), none⟩])))))))
 (.seq (.reg [⟨(some 4), (.dry (.mov (.k (.bool true)))), none⟩])
 .ret)))))) }

/-- bellcrank/ssa.small -/
def e39 : EFunc := { own := none, res := [(.tmp 2)], ntmps := 88, pure := false, body :=
 (.seq (.reg [⟨(some 1), (.wet (.box 4 (.t 0))), none⟩,
 ⟨(some 2), (.dry (.mov (.k (.bool false)))), none⟩])
 (.seq (.seq (.reg [⟨(some 10), (.dry (.faddr 2 1 false (.t 1))), none⟩,
 ⟨(some 11), (.wet (.load 1 false (.t 10))), none⟩,
 ⟨(some 12), (.dry (.faddr 0 2 true (.t 1))), none⟩,
 ⟨(some 13), (.dry (.faddr 0 1 false (.t 12))), none⟩,
 ⟨(some 14), (.wet (.load 1 false (.t 13))), none⟩,
 ⟨(some 15), (.dry (.faddr 0 2 true (.t 1))), none⟩,
 ⟨(some 16), (.dry (.faddr 1 1 false (.t 15))), none⟩,
 ⟨(some 17), (.wet (.load 1 false (.t 16))), none⟩,
 ⟨(some 18), (.wet (.bsl 1 3 [.nils, .nils, .nils] [(0, (.t 11)), (1, (.t 14)), (2, (.t 17))])), none⟩,
 ⟨(some 19), (.call (.k (.fn 87 [] [])) [(.t 18)]), none⟩,
 ⟨(some 20), (.dry (.not (.t 19))), none⟩,
 ⟨(some 21), (.dry (.mov (.t 20))), none⟩,
 ⟨(some 22), (.dry (.faddr 3 1 false (.t 1))), (some (21, false))⟩,
 ⟨(some 23), (.wet (.load 1 false (.t 22))), (some (21, false))⟩,
 ⟨(some 24), (.dry (.len (.t 23))), (some (21, false))⟩,
 ⟨(some 25), (.dry (.bin .gtr (.t 24) (.k (.int .i64 4096)))), (some (21, false))⟩,
 ⟨(some 26), (.dry (.pick (.t 21) (.k (.bool true)) (.t 25))), none⟩])
 (.cond (.t 26)
 (.seq (.reg [⟨(some 2), (.dry (.mov (.k (.bool false)))), none⟩])
 .ret)
 .skip))
 (.seq (.reg [⟨(some 3), (.dry (.mov (.k (.int .i64 4096)))), none⟩])
 (.seq (.seq (.reg [⟨(some 27), (.dry (.faddr 3 1 false (.t 1))), none⟩,
 ⟨(some 28), (.wet (.load 1 false (.t 27))), none⟩,
 ⟨(some 29), (.dry (.len (.t 28))), none⟩,
 ⟨(some 30), (.dry (.mov (.k (.int .i64 0)))), none⟩])
 (.block 0
 (.loop
 (.seq (.reg [⟨(some 31), (.dry (.bin .lss (.t 30) (.t 29))), none⟩])
 (.seq (.cond (.t 31)
 .skip
 (.exit 0))
 (.seq (.block 1
 (.seq (.reg [⟨(some 32), (.dry (.iaddr 6 (.t 28) (.t 30))), none⟩,
 ⟨(some 33), (.wet (.load 6 true (.t 32))), none⟩,
 ⟨(some 5), (.wet (.alloc 137 6 [.nils, .nils, (.int .i64 0), (.int .i64 0), .nils, .nils])), none⟩,
 ⟨none, (.wet (.store 6 (.t 5) (.t 33))), none⟩])
 (.seq (.reg [⟨(some 34), (.dry (.mov (.t 3))), none⟩,
 ⟨(some 35), (.dry (.faddr 1 1 false (.t 5))), none⟩,
 ⟨(some 36), (.wet (.load 1 false (.t 35))), none⟩,
 ⟨(some 37), (.dry (.len (.t 36))), none⟩,
 ⟨(some 38), (.dry (.bin .sub (.t 34) (.t 37))), none⟩,
 ⟨(some 3), (.dry (.mov (.t 38))), none⟩])
 (.seq (.seq (.reg [⟨(some 39), (.dry (.mov (.t 3))), none⟩,
 ⟨(some 40), (.dry (.bin .lss (.t 39) (.k (.int .i64 0)))), none⟩,
 ⟨(some 41), (.dry (.mov (.t 40))), none⟩,
 ⟨(some 42), (.dry (.faddr 0 1 false (.t 5))), (some (41, false))⟩,
 ⟨(some 43), (.wet (.load 1 false (.t 42))), (some (41, false))⟩,
 ⟨(some 44), (.dry (.faddr 2 4 true (.t 5))), (some (41, false))⟩,
 ⟨(some 45), (.dry (.faddr 3 1 false (.t 44))), (some (41, false))⟩,
 ⟨(some 46), (.wet (.load 1 false (.t 45))), (some (41, false))⟩,
 ⟨(some 47), (.wet (.bsl 1 2 [.nils, .nils] [(0, (.t 43)), (1, (.t 46))])), (some (41, false))⟩,
 ⟨(some 48), (.call (.k (.fn 87 [] [])) [(.t 47)]), (some (41, false))⟩,
 ⟨(some 49), (.dry (.not (.t 48))), (some (41, false))⟩,
 ⟨(some 50), (.dry (.pick (.t 41) (.k (.bool true)) (.t 49))), none⟩,
 ⟨(some 51), (.dry (.mov (.t 50))), none⟩,
 ⟨(some 52), (.dry (.faddr 2 4 true (.t 5))), (some (51, false))⟩,
 ⟨(some 53), (.dry (.faddr 2 1 false (.t 52))), (some (51, false))⟩,
 ⟨(some 54), (.wet (.load 1 false (.t 53))), (some (51, false))⟩,
 ⟨(some 55), (.dry (.len (.t 54))), (some (51, false))⟩,
 ⟨(some 56), (.dry (.bin .gtr (.t 55) (.k (.int .i64 4096)))), (some (51, false))⟩,
 ⟨(some 57), (.dry (.pick (.t 51) (.k (.bool true)) (.t 56))), none⟩])
 (.cond (.t 57)
 (.seq (.reg [⟨(some 2), (.dry (.mov (.k (.bool false)))), none⟩])
 .ret)
 .skip))
 (.seq (.seq (.reg [⟨(some 58), (.dry (.faddr 1 1 false (.t 5))), none⟩,
 ⟨(some 59), (.wet (.load 1 false (.t 58))), none⟩,
 ⟨(some 60), (.dry (.len (.t 59))), none⟩,
 ⟨(some 61), (.dry (.mov (.k (.int .i64 0)))), none⟩])
 (.block 2
 (.loop
 (.seq (.reg [⟨(some 62), (.dry (.bin .lss (.t 61) (.t 60))), none⟩])
 (.seq (.cond (.t 62)
 .skip
 (.exit 2))
 (.seq (.block 3
 (.seq (.reg [⟨(some 63), (.dry (.iaddr 4 (.t 59) (.t 61))), none⟩,
 ⟨(some 64), (.wet (.load 4 true (.t 63))), none⟩,
 ⟨(some 7), (.wet (.alloc 143 4 [(.int .i64 0), (.int .u64 0), .nils, .nils])), none⟩,
 ⟨none, (.wet (.store 4 (.t 7) (.t 64))), none⟩])
 (.seq (.reg [⟨(some 65), (.dry (.faddr 2 1 false (.t 7))), none⟩,
 ⟨(some 66), (.wet (.load 1 false (.t 65))), none⟩,
 ⟨(some 67), (.dry (.faddr 3 1 false (.t 7))), none⟩,
 ⟨(some 68), (.wet (.load 1 false (.t 67))), none⟩,
 ⟨(some 69), (.wet (.bsl 1 2 [.nils, .nils] [(0, (.t 66)), (1, (.t 68))])), none⟩,
 ⟨(some 70), (.call (.k (.fn 87 [] [])) [(.t 69)]), none⟩,
 ⟨(some 71), (.dry (.not (.t 70))), none⟩])
 (.cond (.t 71)
 (.seq (.reg [⟨(some 2), (.dry (.mov (.k (.bool false)))), none⟩])
 .ret)
 .skip))))
 (.reg [⟨(some 72), (.dry (.bin .add (.t 61) (.k (.int .i64 1)))), none⟩,
 ⟨(some 61), (.dry (.mov (.t 72))), none⟩])))))))
 (.seq (.reg [⟨(some 73), (.dry (.faddr 2 4 true (.t 5))), none⟩,
 ⟨(some 74), (.dry (.faddr 2 1 false (.t 73))), none⟩,
 ⟨(some 75), (.wet (.load 1 false (.t 74))), none⟩,
 ⟨(some 76), (.dry (.len (.t 75))), none⟩,
 ⟨(some 77), (.dry (.mov (.k (.int .i64 0)))), none⟩])
 (.block 4
 (.loop
 (.seq (.reg [⟨(some 78), (.dry (.bin .lss (.t 77) (.t 76))), none⟩])
 (.seq (.cond (.t 78)
 .skip
 (.exit 4))
 (.seq (.block 5
 (.seq (.reg [⟨(some 79), (.dry (.iaddr 2 (.t 75) (.t 77))), none⟩,
 ⟨(some 80), (.wet (.load 2 true (.t 79))), none⟩,
 ⟨(some 9), (.wet (.alloc 191 2 [(.int .i64 0), .nils])), none⟩,
 ⟨none, (.wet (.store 2 (.t 9) (.t 80))), none⟩])
 (.seq (.reg [⟨(some 81), (.dry (.faddr 1 1 false (.t 9))), none⟩,
 ⟨(some 82), (.wet (.load 1 false (.t 81))), none⟩,
 ⟨(some 83), (.wet (.bsl 1 1 [.nils] [(0, (.t 82))])), none⟩,
 ⟨(some 84), (.call (.k (.fn 87 [] [])) [(.t 83)]), none⟩,
 ⟨(some 85), (.dry (.not (.t 84))), none⟩])
 (.cond (.t 85)
 (.seq (.reg [⟨(some 2), (.dry (.mov (.k (.bool false)))), none⟩])
 .ret)
 .skip))))
 (.reg [⟨(some 86), (.dry (.bin .add (.t 77) (.k (.int .i64 1)))), none⟩,
 ⟨(some 77), (.dry (.mov (.t 86))), none⟩]))))))))))))
 (.reg [⟨(some 87), (.dry (.bin .add (.t 30) (.k (.int .i64 1)))), none⟩,
 ⟨(some 30), (.dry (.mov (.t 87))), none⟩])))))))
 (.seq (.reg [⟨(some 2), (.dry (.mov (.k (.bool true)))), none⟩])
 .ret))))) }

/-- bellcrank/ssa.Replace$1 -/
def e40 : EFunc := { own := none, res := [(.tmp 3)], ntmps := 17, pure := false, body :=
 (.seq (.reg [⟨(some 3), (.dry (.mov (.k (.int .i64 0)))), none⟩])
 (.seq (.seq (.reg [⟨(some 4), (.dry (.mov (.t 0))), none⟩,
 ⟨(some 5), (.dry (.bin .geq (.t 4) (.k (.int .i64 0)))), none⟩,
 ⟨(some 6), (.dry (.mov (.t 5))), none⟩,
 ⟨(some 7), (.dry (.mov (.t 0))), (some (6, true))⟩,
 ⟨(some 8), (.wet (.load 1 false (.t 1))), (some (6, true))⟩,
 ⟨(some 9), (.dry (.len (.t 8))), (some (6, true))⟩,
 ⟨(some 10), (.dry (.bin .lss (.t 7) (.t 9))), (some (6, true))⟩,
 ⟨(some 11), (.dry (.pick (.t 6) (.t 10) (.k (.bool false)))), none⟩])
 (.cond (.t 11)
 (.seq (.reg [⟨(some 12), (.wet (.load 1 false (.t 1))), none⟩,
 ⟨(some 13), (.dry (.mov (.t 0))), none⟩,
 ⟨(some 14), (.dry (.iaddr 1 (.t 12) (.t 13))), none⟩,
 ⟨(some 15), (.wet (.load 1 false (.t 14))), none⟩,
 ⟨(some 3), (.dry (.mov (.t 15))), none⟩])
 .ret)
 .skip))
 (.seq (.reg [⟨(some 16), (.dry (.mov (.t 0))), none⟩,
 ⟨(some 3), (.dry (.mov (.t 16))), none⟩])
 .ret))) }

/-- bellcrank/ssa.Replace$2 -/
def e41 : EFunc := { own := none, res := [(.tmp 3)], ntmps := 21, pure := false, body :=
 (.seq (.reg [⟨(some 3), (.dry (.mov (.k .nils))), none⟩])
 (.seq (.reg [⟨(some 4), (.dry (.mov (.k .nils))), none⟩])
 (.seq (.seq (.reg [⟨(some 7), (.dry (.mov (.t 0))), none⟩,
 ⟨(some 8), (.dry (.len (.t 7))), none⟩,
 ⟨(some 9), (.dry (.mov (.k (.int .i64 0)))), none⟩])
 (.block 0
 (.loop
 (.seq (.reg [⟨(some 10), (.dry (.bin .lss (.t 9) (.t 8))), none⟩])
 (.seq (.cond (.t 10)
 .skip
 (.exit 0))
 (.seq (.block 1
 (.seq (.reg [⟨(some 11), (.dry (.iaddr 1 (.t 7) (.t 9))), none⟩,
 ⟨(some 12), (.wet (.load 1 false (.t 11))), none⟩,
 ⟨(some 6), (.dry (.mov (.t 12))), none⟩])
 (.reg [⟨(some 13), (.dry (.mov (.t 4))), none⟩,
 ⟨(some 14), (.wet (.load 1 false (.t 1))), none⟩,
 ⟨(some 15), (.dry (.mov (.t 6))), none⟩,
 ⟨(some 16), (.call (.t 14) [(.t 15)]), none⟩,
 ⟨(some 17), (.wet (.bsl 1 1 [(.int .i64 0)] [(0, (.t 16))])), none⟩,
 ⟨(some 18), (.wet (.append 8 1 8 (.t 13) (.t 17))), none⟩,
 ⟨(some 4), (.dry (.mov (.t 18))), none⟩])))
 (.reg [⟨(some 19), (.dry (.bin .add (.t 9) (.k (.int .i64 1)))), none⟩,
 ⟨(some 9), (.dry (.mov (.t 19))), none⟩])))))))
 (.seq (.reg [⟨(some 20), (.dry (.mov (.t 4))), none⟩,
 ⟨(some 3), (.dry (.mov (.t 20))), none⟩])
 .ret)))) }

/-- slices.Clone[[]int,int] -/
def e42 : EFunc := { own := none, res := [(.tmp 2)], ntmps := 8, pure := false, body :=
 (.seq (.reg [⟨(some 2), (.dry (.mov (.k .nils))), none⟩])
 (.seq (.seq (.reg [⟨(some 3), (.dry (.mov (.t 0))), none⟩,
 ⟨(some 4), (.dry (.eq (.ref .s) false (.t 3) (.k .nils))), none⟩])
 (.cond (.t 4)
 (.seq (.reg [⟨(some 2), (.dry (.mov (.k .nils))), none⟩])
 .ret)
 .skip))
 (.seq (.reg [⟨(some 5), (.wet (.bsl 1 0 [] [])), none⟩,
 ⟨(some 6), (.dry (.mov (.t 0))), none⟩,
 ⟨(some 7), (.wet (.append 8 1 8 (.t 5) (.t 6))), none⟩,
 ⟨(some 2), (.dry (.mov (.t 7))), none⟩])
 .ret))) }

/-- bellcrank/ssa.branches -/
def e43 : EFunc := { own := none, res := [(.tmp 2)], ntmps := 11, pure := false, body :=
 (.seq (.reg [⟨(some 1), (.wet (.box 4 (.t 0))), none⟩,
 ⟨(some 2), (.dry (.mov (.k (.bool false)))), none⟩])
 (.seq (.reg [⟨(some 3), (.dry (.faddr 0 1 false (.t 1))), none⟩,
 ⟨(some 4), (.wet (.load 1 false (.t 3))), none⟩,
 ⟨(some 5), (.dry (.eq (.prim .i) false (.t 4) (.k (.int .i64 2)))), none⟩,
 ⟨(some 6), (.dry (.mov (.t 5))), none⟩,
 ⟨(some 7), (.dry (.faddr 0 1 false (.t 1))), (some (6, false))⟩,
 ⟨(some 8), (.wet (.load 1 false (.t 7))), (some (6, false))⟩,
 ⟨(some 9), (.dry (.eq (.prim .i) false (.t 8) (.k (.int .i64 3)))), (some (6, false))⟩,
 ⟨(some 10), (.dry (.pick (.t 6) (.k (.bool true)) (.t 9))), none⟩,
 ⟨(some 2), (.dry (.mov (.t 10))), none⟩])
 .ret)) }

/-- bellcrank/sccp.Run -/
def e44 : EFunc := { own := none, res := [(.cell 4 4 true), (.tmp 5)], ntmps := 87, pure := false, body :=
 (.seq (.reg [⟨(some 2), (.wet (.box 5 (.t 0))), none⟩,
 ⟨(some 3), (.wet (.box 4 (.t 1))), none⟩,
 ⟨(some 4), (.wet (.alloc 121 4 [.nils, .nils, .nils, .nils])), none⟩,
 ⟨(some 5), (.dry (.mov (.k (.int .i64 0)))), none⟩])
 (.seq (.seq (.reg [⟨(some 14), (.wet (.load 5 true (.t 2))), none⟩,
 ⟨(some 15), (.wet (.load 4 true (.t 3))), none⟩,
 ⟨(some 16), (.call (.k (.fn 38 [] [])) [(.t 14), (.t 15)]), none⟩,
 ⟨(some 17), (.dry (.not (.t 16))), none⟩])
 (.cond (.t 17)
 (.seq (.reg [⟨(some 18), (.dry (.build [.nils, .nils, .nils, .nils] [])), none⟩,
 ⟨none, (.wet (.store 4 (.t 4) (.t 18))), none⟩,
 ⟨(some 5), (.dry (.mov (.k (.int .i64 6)))), none⟩])
 .ret)
 .skip))
 (.seq (.reg [⟨(some 19), (.wet (.load 4 true (.t 3))), none⟩,
 ⟨(some 20), (.call (.k (.fn 88 [] [])) [(.t 19)]), none⟩,
 ⟨(some 6), (.dry (.mov (.t 20))), none⟩])
 (.seq (.reg [⟨(some 21), (.dry (.faddr 3 1 false (.t 3))), none⟩,
 ⟨(some 22), (.wet (.load 1 false (.t 21))), none⟩,
 ⟨(some 23), (.dry (.len (.t 22))), none⟩,
 ⟨(some 24), (.wet (.mksl 1 8 [(.int .i64 0)] (.t 23) (.t 23))), none⟩,
 ⟨(some 7), (.dry (.mov (.t 24))), none⟩])
 (.seq (.reg [⟨(some 8), (.dry (.mov (.k (.int .i64 0)))), none⟩])
 (.seq (.seq (.reg [⟨(some 25), (.dry (.mov (.t 6))), none⟩,
 ⟨(some 26), (.dry (.nilchk (.t 25))), none⟩,
 ⟨(some 27), (.dry (.faddr 5 1 false (.t 26))), none⟩,
 ⟨(some 28), (.wet (.load 1 false (.t 27))), none⟩,
 ⟨(some 29), (.dry (.len (.t 28))), none⟩,
 ⟨(some 30), (.dry (.mov (.k (.int .i64 0)))), none⟩])
 (.block 0
 (.loop
 (.seq (.reg [⟨(some 31), (.dry (.bin .lss (.t 30) (.t 29))), none⟩])
 (.seq (.cond (.t 31)
 .skip
 (.exit 0))
 (.seq (.block 1
 (.seq (.reg [⟨(some 32), (.dry (.mov (.t 30))), none⟩,
 ⟨(some 33), (.dry (.iaddr 1 (.t 28) (.t 30))), none⟩,
 ⟨(some 34), (.wet (.load 1 false (.t 33))), none⟩,
 ⟨(some 9), (.dry (.mov (.t 32))), none⟩,
 ⟨(some 10), (.dry (.mov (.t 34))), none⟩])
 (.seq (.reg [⟨(some 35), (.dry (.mov (.t 7))), none⟩,
 ⟨(some 36), (.dry (.mov (.t 9))), none⟩,
 ⟨(some 37), (.dry (.mov (.t 8))), none⟩,
 ⟨(some 38), (.dry (.iaddr 1 (.t 35) (.t 36))), none⟩,
 ⟨none, (.wet (.store 1 (.t 38) (.t 37))), none⟩])
 (.seq (.reg [⟨(some 39), (.dry (.mov (.t 10))), none⟩])
 (.cond (.t 39)
 (.reg [⟨(some 40), (.dry (.mov (.t 8))), none⟩,
 ⟨(some 41), (.dry (.bin .add (.t 40) (.k (.int .i64 1)))), none⟩,
 ⟨(some 8), (.dry (.mov (.t 41))), none⟩])
 .skip)))))
 (.reg [⟨(some 42), (.dry (.bin .add (.t 30) (.k (.int .i64 1)))), none⟩,
 ⟨(some 30), (.dry (.mov (.t 42))), none⟩])))))))
 (.seq (.draw [(⟨(some 43), (.dry (.faddr 0 2 true (.t 3))), none⟩, 0, false),
 (⟨(some 44), (.dry (.faddr 0 1 false (.t 43))), none⟩, 1, false),
 (⟨(some 45), (.wet (.load 1 false (.t 44))), none⟩, 3, false),
 (⟨(some 46), (.call (.k (.fn 42 [] [])) [(.t 45)]), none⟩, 7, false),
 (⟨(some 47), (.dry (.faddr 0 2 true (.t 3))), none⟩, 0, false),
 (⟨(some 48), (.dry (.faddr 1 1 false (.t 47))), none⟩, 16, false),
 (⟨(some 49), (.wet (.load 1 false (.t 48))), none⟩, 48, false),
 (⟨(some 50), (.call (.k (.fn 42 [] [])) [(.t 49)]), none⟩, 127, false),
 (⟨(some 51), (.dry (.build [.nils, .nils] [(0, 1, (.t 46)), (1, 1, (.t 50))])), none⟩, 255, false),
 (⟨(some 52), (.dry (.faddr 2 1 false (.t 3))), none⟩, 0, false),
 (⟨(some 53), (.wet (.load 1 false (.t 52))), none⟩, 512, false),
 (⟨(some 54), (.call (.k (.fn 42 [] [])) [(.t 53)]), none⟩, 1791, false),
 (⟨(some 55), (.dry (.build [.nils, .nils, .nils, .nils] [(0, 2, (.t 51)), (2, 1, (.t 54))])), none⟩, 4095, false),
 (⟨(some 11), (.wet (.alloc 121 4 [.nils, .nils, .nils, .nils])), none⟩, 0, false),
 (⟨none, (.wet (.store 4 (.t 11) (.t 55))), none⟩, 16383, true)])
 (.seq (.seq (.reg [⟨(some 56), (.dry (.faddr 3 1 false (.t 3))), none⟩,
 ⟨(some 57), (.wet (.load 1 false (.t 56))), none⟩,
 ⟨(some 58), (.dry (.len (.t 57))), none⟩,
 ⟨(some 59), (.dry (.mov (.k (.int .i64 0)))), none⟩])
 (.block 2
 (.loop
 (.seq (.reg [⟨(some 60), (.dry (.bin .lss (.t 59) (.t 58))), none⟩])
 (.seq (.cond (.t 60)
 .skip
 (.exit 2))
 (.seq (.block 3
 (.seq (.reg [⟨(some 61), (.dry (.mov (.t 59))), none⟩,
 ⟨(some 62), (.dry (.iaddr 6 (.t 57) (.t 59))), none⟩,
 ⟨(some 63), (.wet (.load 6 true (.t 62))), none⟩,
 ⟨(some 13), (.wet (.alloc 137 6 [.nils, .nils, (.int .i64 0), (.int .i64 0), .nils, .nils])), none⟩,
 ⟨(some 12), (.dry (.mov (.t 61))), none⟩,
 ⟨none, (.wet (.store 6 (.t 13) (.t 63))), none⟩])
 (.seq (.reg [⟨(some 64), (.dry (.mov (.t 6))), none⟩,
 ⟨(some 65), (.dry (.nilchk (.t 64))), none⟩,
 ⟨(some 66), (.dry (.faddr 5 1 false (.t 65))), none⟩,
 ⟨(some 67), (.wet (.load 1 false (.t 66))), none⟩,
 ⟨(some 68), (.dry (.mov (.t 12))), none⟩,
 ⟨(some 69), (.dry (.iaddr 1 (.t 67) (.t 68))), none⟩,
 ⟨(some 70), (.wet (.load 1 false (.t 69))), none⟩])
 (.cond (.t 70)
 (.draw [(⟨(some 71), (.dry (.faddr 3 1 false (.t 11))), none⟩, 0, false),
 (⟨(some 72), (.wet (.load 1 false (.t 71))), none⟩, 1, false),
 (⟨(some 73), (.dry (.mov (.t 6))), none⟩, 0, false),
 (⟨(some 74), (.wet (.load 6 true (.t 13))), none⟩, 0, false),
 (⟨(some 75), (.dry (.mov (.t 7))), none⟩, 0, false),
 (⟨(some 76), (.call (.k (.fn 89 [] [])) [(.t 73), (.t 74), (.t 75)]), none⟩, 28, false),
 (⟨(some 77), (.wet (.bsl 6 1 [.nils, .nils, (.int .i64 0), (.int .i64 0), .nils, .nils] [(0, (.t 76))])), none⟩, 60, false),
 (⟨(some 78), (.wet (.append 136 6 112 (.t 72) (.t 77))), none⟩, 127, true),
 (⟨(some 79), (.dry (.faddr 3 1 false (.t 11))), none⟩, 255, false),
 (⟨none, (.wet (.store 1 (.t 79) (.t 78))), none⟩, 511, true)])
 .skip))))
 (.reg [⟨(some 80), (.dry (.bin .add (.t 59) (.k (.int .i64 1)))), none⟩,
 ⟨(some 59), (.dry (.mov (.t 80))), none⟩])))))))
 (.seq (.seq (.reg [⟨(some 81), (.wet (.load 5 true (.t 2))), none⟩,
 ⟨(some 82), (.wet (.load 4 true (.t 11))), none⟩,
 ⟨(some 83), (.call (.k (.fn 38 [] [])) [(.t 81), (.t 82)]), none⟩,
 ⟨(some 84), (.dry (.not (.t 83))), none⟩])
 (.cond (.t 84)
 (.seq (.reg [⟨(some 85), (.dry (.build [.nils, .nils, .nils, .nils] [])), none⟩,
 ⟨none, (.wet (.store 4 (.t 4) (.t 85))), none⟩,
 ⟨(some 5), (.dry (.mov (.k (.int .i64 15)))), none⟩])
 .ret)
 .skip))
 (.seq (.reg [⟨(some 86), (.wet (.load 4 true (.t 11))), none⟩,
 ⟨none, (.wet (.store 4 (.t 4) (.t 86))), none⟩,
 ⟨(some 5), (.dry (.mov (.k (.int .i64 0)))), none⟩])
 .ret)))))))))) }

/-- bellcrank/gvn.Run -/
def e45 : EFunc := { own := none, res := [(.cell 4 4 true), (.tmp 5)], ntmps := 74, pure := false, body :=
 (.seq (.reg [⟨(some 2), (.wet (.box 5 (.t 0))), none⟩,
 ⟨(some 3), (.wet (.box 4 (.t 1))), none⟩,
 ⟨(some 4), (.wet (.alloc 121 4 [.nils, .nils, .nils, .nils])), none⟩,
 ⟨(some 5), (.dry (.mov (.k (.int .i64 0)))), none⟩])
 (.seq (.seq (.reg [⟨(some 17), (.wet (.load 5 true (.t 2))), none⟩,
 ⟨(some 18), (.wet (.load 4 true (.t 3))), none⟩,
 ⟨(some 19), (.call (.k (.fn 38 [] [])) [(.t 17), (.t 18)]), none⟩,
 ⟨(some 20), (.dry (.not (.t 19))), none⟩])
 (.cond (.t 20)
 (.seq (.reg [⟨(some 21), (.dry (.build [.nils, .nils, .nils, .nils] [])), none⟩,
 ⟨none, (.wet (.store 4 (.t 4) (.t 21))), none⟩,
 ⟨(some 5), (.dry (.mov (.k (.int .i64 6)))), none⟩])
 .ret)
 .skip))
 (.seq (.reg [⟨(some 22), (.wet (.load 4 true (.t 3))), none⟩,
 ⟨(some 23), (.call (.k (.fn 22 [] [])) [(.t 22), (.k .nils)]), none⟩,
 ⟨(some 6), (.wet (.alloc 121 4 [.nils, .nils, .nils, .nils])), none⟩,
 ⟨none, (.wet (.store 4 (.t 6) (.t 23))), none⟩])
 (.seq (.reg [⟨(some 25), (.wet (.load 4 true (.t 3))), none⟩,
 ⟨(some 26), (.call (.k (.fn 91 [] [])) [(.t 25)]), none⟩,
 ⟨(some 27), (.call (.k (.fn 90 [] [])) [(.t 26)]), none⟩,
 ⟨(some 24), (.dry (.mov (.t 27))), none⟩,
 ⟨(some 28), (.dry (.extract (.t 24) 0)), none⟩,
 ⟨(some 29), (.dry (.extract (.t 24) 1)), none⟩,
 ⟨(some 7), (.dry (.mov (.t 28))), none⟩,
 ⟨(some 8), (.dry (.mov (.t 29))), none⟩])
 (.seq (.reg [⟨(some 31), (.wet (.load 4 true (.t 3))), none⟩,
 ⟨(some 32), (.call (.k (.fn 91 [] [])) [(.t 31)]), none⟩,
 ⟨(some 33), (.call (.k (.fn 92 [] [])) [(.t 32)]), none⟩,
 ⟨(some 30), (.dry (.mov (.t 33))), none⟩,
 ⟨(some 34), (.dry (.extract (.t 30) 0)), none⟩,
 ⟨(some 35), (.dry (.extract (.t 30) 1)), none⟩,
 ⟨(some 9), (.wet (.alloc 1 1 [.nils])), none⟩,
 ⟨none, (.wet (.store 1 (.t 9) (.t 34))), none⟩,
 ⟨(some 10), (.dry (.mov (.t 35))), none⟩])
 (.seq (.reg [⟨(some 36), (.dry (.faddr 2 1 false (.t 3))), none⟩,
 ⟨(some 37), (.wet (.load 1 false (.t 36))), none⟩,
 ⟨(some 38), (.dry (.len (.t 37))), none⟩,
 ⟨(some 39), (.wet (.mksl 1 8 [(.int .i64 0)] (.t 38) (.t 38))), none⟩,
 ⟨(some 11), (.wet (.alloc 1 1 [.nils])), none⟩,
 ⟨none, (.wet (.store 1 (.t 11) (.t 39))), none⟩])
 (.seq (.seq (.reg [⟨(some 40), (.wet (.load 1 false (.t 11))), none⟩,
 ⟨(some 41), (.dry (.len (.t 40))), none⟩,
 ⟨(some 42), (.dry (.mov (.k (.int .i64 0)))), none⟩])
 (.block 0
 (.loop
 (.seq (.reg [⟨(some 43), (.dry (.bin .lss (.t 42) (.t 41))), none⟩])
 (.seq (.cond (.t 43)
 .skip
 (.exit 0))
 (.seq (.block 1
 (.seq (.reg [⟨(some 44), (.dry (.mov (.t 42))), none⟩,
 ⟨(some 12), (.dry (.mov (.t 44))), none⟩])
 (.reg [⟨(some 45), (.wet (.load 1 false (.t 11))), none⟩,
 ⟨(some 46), (.dry (.mov (.t 12))), none⟩,
 ⟨(some 47), (.dry (.mov (.t 12))), none⟩,
 ⟨(some 48), (.dry (.iaddr 1 (.t 45) (.t 46))), none⟩,
 ⟨none, (.wet (.store 1 (.t 48) (.t 47))), none⟩])))
 (.reg [⟨(some 49), (.dry (.bin .add (.t 42) (.k (.int .i64 1)))), none⟩,
 ⟨(some 42), (.dry (.mov (.t 49))), none⟩])))))))
 (.seq (.reg [⟨(some 50), (.wet .mkmap), none⟩,
 ⟨(some 13), (.wet (.alloc 1 1 [.nilm])), none⟩,
 ⟨none, (.wet (.store 1 (.t 13) (.t 50))), none⟩])
 (.seq (.seq (.reg [⟨(some 51), (.dry (.mov (.t 7))), none⟩,
 ⟨(some 52), (.dry (.len (.t 51))), none⟩,
 ⟨(some 53), (.dry (.mov (.k (.int .i64 0)))), none⟩])
 (.block 2
 (.loop
 (.seq (.reg [⟨(some 54), (.dry (.bin .lss (.t 53) (.t 52))), none⟩])
 (.seq (.cond (.t 54)
 .skip
 (.exit 2))
 (.seq (.block 3
 (.seq (.reg [⟨(some 55), (.dry (.iaddr 1 (.t 51) (.t 53))), none⟩,
 ⟨(some 56), (.wet (.load 1 false (.t 55))), none⟩,
 ⟨(some 15), (.wet (.alloc 1 1 [(.int .i64 0)])), none⟩,
 ⟨none, (.wet (.store 1 (.t 15) (.t 56))), none⟩])
 (.seq (.reg [⟨(some 57), (.dry (.faddr 3 1 false (.t 6))), none⟩,
 ⟨(some 58), (.wet (.load 1 false (.t 57))), none⟩,
 ⟨(some 59), (.wet (.load 1 false (.t 15))), none⟩,
 ⟨(some 60), (.dry (.iaddr 6 (.t 58) (.t 59))), none⟩,
 ⟨(some 16), (.dry (.mov (.t 60))), none⟩])
 (.reg [⟨(some 61), (.dry (.mov (.t 16))), none⟩,
 ⟨(some 62), (.dry (.mov (.t 16))), none⟩,
 ⟨(some 63), (.dry (.nilchk (.t 62))), none⟩,
 ⟨(some 64), (.dry (.faddr 1 1 false (.t 63))), none⟩,
 ⟨(some 65), (.wet (.load 1 false (.t 64))), none⟩,
 ⟨(some 66), (.dry (.mkfn 94 [] [(.t 11), (.t 3), (.t 13), (.t 9), (.t 15)])), none⟩,
 ⟨(some 67), (.call (.k (.fn 93 [] [])) [(.t 65), (.t 66)]), none⟩,
 ⟨(some 68), (.dry (.nilchk (.t 61))), none⟩,
 ⟨(some 69), (.dry (.faddr 1 1 false (.t 68))), none⟩,
 ⟨none, (.wet (.store 1 (.t 69) (.t 67))), none⟩]))))
 (.reg [⟨(some 70), (.dry (.bin .add (.t 53) (.k (.int .i64 1)))), none⟩,
 ⟨(some 53), (.dry (.mov (.t 70))), none⟩])))))))
 (.seq (.reg [⟨(some 71), (.wet (.load 4 true (.t 6))), none⟩,
 ⟨(some 72), (.wet (.load 1 false (.t 11))), none⟩,
 ⟨(some 73), (.call (.k (.fn 22 [] [])) [(.t 71), (.t 72)]), none⟩,
 ⟨none, (.wet (.store 4 (.t 4) (.t 73))), none⟩,
 ⟨(some 5), (.dry (.mov (.k (.int .i64 0)))), none⟩])
 .ret)))))))))) }

/-- bellcrank/bce.Run -/
def e46 : EFunc := { own := none, res := [(.cell 4 4 true), (.tmp 5)], ntmps := 55, pure := false, body :=
 (.seq (.reg [⟨(some 2), (.wet (.box 5 (.t 0))), none⟩,
 ⟨(some 3), (.wet (.box 4 (.t 1))), none⟩,
 ⟨(some 4), (.wet (.alloc 121 4 [.nils, .nils, .nils, .nils])), none⟩,
 ⟨(some 5), (.dry (.mov (.k (.int .i64 0)))), none⟩])
 (.seq (.seq (.reg [⟨(some 14), (.wet (.load 5 true (.t 2))), none⟩,
 ⟨(some 15), (.wet (.load 4 true (.t 3))), none⟩,
 ⟨(some 16), (.call (.k (.fn 38 [] [])) [(.t 14), (.t 15)]), none⟩,
 ⟨(some 17), (.dry (.not (.t 16))), none⟩])
 (.cond (.t 17)
 (.seq (.reg [⟨(some 18), (.dry (.build [.nils, .nils, .nils, .nils] [])), none⟩,
 ⟨none, (.wet (.store 4 (.t 4) (.t 18))), none⟩,
 ⟨(some 5), (.dry (.mov (.k (.int .i64 6)))), none⟩])
 .ret)
 .skip))
 (.seq (.reg [⟨(some 19), (.wet (.load 4 true (.t 3))), none⟩,
 ⟨(some 20), (.call (.k (.fn 22 [] [])) [(.t 19), (.k .nils)]), none⟩,
 ⟨(some 6), (.wet (.alloc 121 4 [.nils, .nils, .nils, .nils])), none⟩,
 ⟨none, (.wet (.store 4 (.t 6) (.t 20))), none⟩])
 (.seq (.reg [⟨(some 22), (.wet (.load 4 true (.t 3))), none⟩,
 ⟨(some 23), (.call (.k (.fn 91 [] [])) [(.t 22)]), none⟩,
 ⟨(some 24), (.call (.k (.fn 90 [] [])) [(.t 23)]), none⟩,
 ⟨(some 21), (.dry (.mov (.t 24))), none⟩,
 ⟨(some 25), (.dry (.extract (.t 21) 0)), none⟩,
 ⟨(some 26), (.dry (.extract (.t 21) 1)), none⟩,
 ⟨(some 7), (.dry (.mov (.t 25))), none⟩,
 ⟨(some 8), (.dry (.mov (.t 26))), none⟩])
 (.seq (.reg [⟨(some 28), (.wet (.load 4 true (.t 3))), none⟩,
 ⟨(some 29), (.call (.k (.fn 91 [] [])) [(.t 28)]), none⟩,
 ⟨(some 30), (.call (.k (.fn 92 [] [])) [(.t 29)]), none⟩,
 ⟨(some 27), (.dry (.mov (.t 30))), none⟩,
 ⟨(some 31), (.dry (.extract (.t 27) 0)), none⟩,
 ⟨(some 32), (.dry (.extract (.t 27) 1)), none⟩,
 ⟨(some 9), (.wet (.alloc 1 1 [.nils])), none⟩,
 ⟨none, (.wet (.store 1 (.t 9) (.t 31))), none⟩,
 ⟨(some 10), (.dry (.mov (.t 32))), none⟩])
 (.seq (.reg [⟨(some 33), (.wet .mkmap), none⟩,
 ⟨(some 11), (.wet (.alloc 1 1 [.nilm])), none⟩,
 ⟨none, (.wet (.store 1 (.t 11) (.t 33))), none⟩])
 (.seq (.seq (.reg [⟨(some 34), (.dry (.mov (.t 7))), none⟩,
 ⟨(some 35), (.dry (.len (.t 34))), none⟩,
 ⟨(some 36), (.dry (.mov (.k (.int .i64 0)))), none⟩])
 (.block 0
 (.loop
 (.seq (.reg [⟨(some 37), (.dry (.bin .lss (.t 36) (.t 35))), none⟩])
 (.seq (.cond (.t 37)
 .skip
 (.exit 0))
 (.seq (.block 1
 (.seq (.reg [⟨(some 38), (.dry (.iaddr 1 (.t 34) (.t 36))), none⟩,
 ⟨(some 39), (.wet (.load 1 false (.t 38))), none⟩,
 ⟨(some 13), (.wet (.alloc 1 1 [(.int .i64 0)])), none⟩,
 ⟨none, (.wet (.store 1 (.t 13) (.t 39))), none⟩])
 (.draw [(⟨(some 40), (.dry (.faddr 3 1 false (.t 6))), none⟩, 0, false),
 (⟨(some 41), (.wet (.load 1 false (.t 40))), none⟩, 1, false),
 (⟨(some 42), (.wet (.load 1 false (.t 13))), none⟩, 0, false),
 (⟨(some 43), (.dry (.faddr 3 1 false (.t 6))), none⟩, 0, false),
 (⟨(some 44), (.wet (.load 1 false (.t 43))), none⟩, 8, false),
 (⟨(some 45), (.wet (.load 1 false (.t 13))), none⟩, 0, false),
 (⟨(some 46), (.dry (.iaddr 6 (.t 44) (.t 45))), none⟩, 56, false),
 (⟨(some 47), (.dry (.faddr 1 1 false (.t 46))), none⟩, 120, false),
 (⟨(some 48), (.wet (.load 1 false (.t 47))), none⟩, 248, false),
 (⟨(some 49), (.dry (.mkfn 100 [] [(.t 13), (.t 9), (.t 11)])), none⟩, 0, false),
 (⟨(some 50), (.call (.k (.fn 93 [] [])) [(.t 48), (.t 49)]), none⟩, 1016, false),
 (⟨(some 51), (.dry (.iaddr 6 (.t 41) (.t 42))), none⟩, 2047, false),
 (⟨(some 52), (.dry (.faddr 1 1 false (.t 51))), none⟩, 4095, false),
 (⟨none, (.wet (.store 1 (.t 52) (.t 50))), none⟩, 8191, true)])))
 (.reg [⟨(some 53), (.dry (.bin .add (.t 36) (.k (.int .i64 1)))), none⟩,
 ⟨(some 36), (.dry (.mov (.t 53))), none⟩])))))))
 (.seq (.reg [⟨(some 54), (.wet (.load 4 true (.t 6))), none⟩,
 ⟨none, (.wet (.store 4 (.t 4) (.t 54))), none⟩,
 ⟨(some 5), (.dry (.mov (.k (.int .i64 0)))), none⟩])
 .ret)))))))) }

/-- bellcrank/licm.Run -/
def e47 : EFunc := { own := none, res := [(.cell 4 4 true), (.tmp 5)], ntmps := 121, pure := false, body :=
 (.seq (.reg [⟨(some 2), (.wet (.box 5 (.t 0))), none⟩,
 ⟨(some 3), (.wet (.box 4 (.t 1))), none⟩,
 ⟨(some 4), (.wet (.alloc 121 4 [.nils, .nils, .nils, .nils])), none⟩,
 ⟨(some 5), (.dry (.mov (.k (.int .i64 0)))), none⟩])
 (.scope
 (.seq (.seq (.reg [⟨(some 19), (.wet (.load 5 true (.t 2))), none⟩,
 ⟨(some 20), (.wet (.load 4 true (.t 3))), none⟩,
 ⟨(some 21), (.call (.k (.fn 38 [] [])) [(.t 19), (.t 20)]), none⟩,
 ⟨(some 22), (.dry (.not (.t 21))), none⟩])
 (.cond (.t 22)
 (.seq (.reg [⟨(some 23), (.dry (.build [.nils, .nils, .nils, .nils] [])), none⟩,
 ⟨none, (.wet (.store 4 (.t 4) (.t 23))), none⟩,
 ⟨(some 5), (.dry (.mov (.k (.int .i64 6)))), none⟩])
 .ret)
 .skip))
 (.seq (.reg [⟨(some 24), (.wet (.load 4 true (.t 3))), none⟩,
 ⟨(some 25), (.call (.k (.fn 22 [] [])) [(.t 24), (.k .nils)]), none⟩,
 ⟨(some 6), (.wet (.alloc 121 4 [.nils, .nils, .nils, .nils])), none⟩,
 ⟨none, (.wet (.store 4 (.t 6) (.t 25))), none⟩])
 (.seq (.reg [⟨(some 27), (.wet (.load 4 true (.t 6))), none⟩,
 ⟨(some 28), (.call (.k (.fn 91 [] [])) [(.t 27)]), none⟩,
 ⟨(some 29), (.call (.k (.fn 101 [] [])) [(.t 28)]), none⟩,
 ⟨(some 26), (.dry (.mov (.t 29))), none⟩,
 ⟨(some 30), (.dry (.extract (.t 26) 0)), none⟩,
 ⟨(some 31), (.dry (.extract (.t 26) 1)), none⟩,
 ⟨(some 7), (.dry (.mov (.t 30))), none⟩,
 ⟨(some 8), (.dry (.mov (.t 31))), none⟩])
 (.seq (.reg [⟨(some 32), (.wet (.load 4 true (.t 6))), none⟩,
 ⟨(some 33), (.call (.k (.fn 102 [] [])) [(.t 32)]), none⟩,
 ⟨(some 9), (.wet (.alloc 1 1 [.nils])), none⟩,
 ⟨none, (.wet (.store 1 (.t 9) (.t 33))), none⟩])
 (.seq (.label 0)
 (.block 0
 (.loop
 (.block 1
 (.seq (.seq (.reg [⟨(some 34), (.dry (.mov (.t 7))), none⟩,
 ⟨(some 35), (.dry (.len (.t 34))), none⟩,
 ⟨(some 36), (.dry (.mov (.k (.int .i64 0)))), none⟩])
 (.block 2
 (.loop
 (.seq (.reg [⟨(some 37), (.dry (.bin .lss (.t 36) (.t 35))), none⟩])
 (.seq (.cond (.t 37)
 .skip
 (.exit 2))
 (.seq (.block 3
 (.seq (.reg [⟨(some 38), (.dry (.iaddr 2 (.t 34) (.t 36))), none⟩,
 ⟨(some 39), (.wet (.load 2 true (.t 38))), none⟩,
 ⟨(some 11), (.wet (.alloc 315 2 [(.int .i64 0), .nils])), none⟩,
 ⟨none, (.wet (.store 2 (.t 11) (.t 39))), none⟩])
 (.seq (.reg [⟨(some 41), (.wet (.load 4 true (.t 6))), none⟩,
 ⟨(some 42), (.dry (.faddr 0 1 false (.t 11))), none⟩,
 ⟨(some 43), (.wet (.load 1 false (.t 42))), none⟩,
 ⟨(some 44), (.dry (.faddr 1 1 false (.t 11))), none⟩,
 ⟨(some 45), (.wet (.load 1 false (.t 44))), none⟩,
 ⟨(some 46), (.call (.k (.fn 103 [] [])) [(.t 41), (.t 43), (.t 45)]), none⟩,
 ⟨(some 40), (.dry (.mov (.t 46))), none⟩,
 ⟨(some 47), (.dry (.extract (.t 40) 0)), none⟩,
 ⟨(some 48), (.dry (.extract (.t 40) 1)), none⟩,
 ⟨(some 12), (.dry (.mov (.t 47))), none⟩,
 ⟨(some 13), (.dry (.mov (.t 48))), none⟩])
 (.seq (.seq (.reg [⟨(some 49), (.dry (.mov (.t 13))), none⟩,
 ⟨(some 50), (.dry (.not (.t 49))), none⟩])
 (.cond (.t 50)
 (.exit 3)
 .skip))
 (.seq (.reg [⟨(some 51), (.dry (.mkfn 104 [] [(.t 11), (.t 9)])), none⟩,
 ⟨(some 14), (.dry (.mov (.t 51))), none⟩])
 (.seq (.reg [⟨(some 52), (.dry (.faddr 1 1 false (.t 11))), none⟩,
 ⟨(some 53), (.wet (.load 1 false (.t 52))), none⟩,
 ⟨(some 54), (.dry (.len (.t 53))), none⟩,
 ⟨(some 55), (.dry (.mov (.k (.int .i64 0)))), none⟩])
 (.block 4
 (.loop
 (.seq (.reg [⟨(some 56), (.dry (.bin .lss (.t 55) (.t 54))), none⟩])
 (.seq (.cond (.t 56)
 .skip
 (.exit 4))
 (.seq (.block 5
 (.seq (.reg [⟨(some 57), (.dry (.iaddr 1 (.t 53) (.t 55))), none⟩,
 ⟨(some 58), (.wet (.load 1 false (.t 57))), none⟩,
 ⟨(some 16), (.dry (.mov (.t 58))), none⟩])
 (.seq (.reg [⟨(some 59), (.dry (.faddr 3 1 false (.t 6))), none⟩,
 ⟨(some 60), (.wet (.load 1 false (.t 59))), none⟩,
 ⟨(some 61), (.dry (.mov (.t 16))), none⟩,
 ⟨(some 62), (.dry (.iaddr 6 (.t 60) (.t 61))), none⟩,
 ⟨(some 63), (.dry (.faddr 1 1 false (.t 62))), none⟩,
 ⟨(some 64), (.wet (.load 1 false (.t 63))), none⟩,
 ⟨(some 65), (.dry (.len (.t 64))), none⟩,
 ⟨(some 66), (.dry (.mov (.k (.int .i64 0)))), none⟩])
 (.block 6
 (.loop
 (.seq (.reg [⟨(some 67), (.dry (.bin .lss (.t 66) (.t 65))), none⟩])
 (.seq (.cond (.t 67)
 .skip
 (.exit 6))
 (.seq (.block 7
 (.seq (.reg [⟨(some 68), (.dry (.mov (.t 66))), none⟩,
 ⟨(some 69), (.dry (.iaddr 4 (.t 64) (.t 66))), none⟩,
 ⟨(some 70), (.wet (.load 4 true (.t 69))), none⟩,
 ⟨(some 18), (.wet (.alloc 143 4 [(.int .i64 0), (.int .u64 0), .nils, .nils])), none⟩,
 ⟨(some 17), (.dry (.mov (.t 68))), none⟩,
 ⟨none, (.wet (.store 4 (.t 18) (.t 70))), none⟩])
 (.seq (.seq (.reg [⟨(some 71), (.dry (.faddr 0 1 false (.t 18))), none⟩,
 ⟨(some 72), (.wet (.load 1 false (.t 71))), none⟩,
 ⟨(some 73), (.call (.k (.fn 95 [] [])) [(.t 72)]), none⟩,
 ⟨(some 74), (.dry (.not (.t 73))), none⟩,
 ⟨(some 75), (.dry (.mov (.t 74))), none⟩,
 ⟨(some 76), (.dry (.faddr 2 1 false (.t 18))), (some (75, false))⟩,
 ⟨(some 77), (.wet (.load 1 false (.t 76))), (some (75, false))⟩,
 ⟨(some 78), (.dry (.mov (.t 14))), (some (75, false))⟩,
 ⟨(some 79), (.call (.k (.fn 106 [] [])) [(.t 77), (.t 78)]), (some (75, false))⟩,
 ⟨(some 80), (.dry (.pick (.t 75) (.k (.bool true)) (.t 79))), none⟩])
 (.cond (.t 80)
 (.exit 7)
 .skip))
 (.seq (.draw [(⟨(some 81), (.dry (.faddr 3 1 false (.t 6))), none⟩, 0, false),
 (⟨(some 82), (.wet (.load 1 false (.t 81))), none⟩, 1, false),
 (⟨(some 83), (.dry (.mov (.t 16))), none⟩, 0, false),
 (⟨(some 84), (.dry (.faddr 3 1 false (.t 6))), none⟩, 0, false),
 (⟨(some 85), (.wet (.load 1 false (.t 84))), none⟩, 8, false),
 (⟨(some 86), (.dry (.mov (.t 16))), none⟩, 0, false),
 (⟨(some 87), (.dry (.iaddr 6 (.t 85) (.t 86))), none⟩, 56, false),
 (⟨(some 88), (.dry (.faddr 1 1 false (.t 87))), none⟩, 120, false),
 (⟨(some 89), (.wet (.load 1 false (.t 88))), none⟩, 248, false),
 (⟨(some 90), (.dry (.mov (.t 17))), none⟩, 0, false),
 (⟨(some 91), (.dry (.mov (.t 17))), none⟩, 0, false),
 (⟨(some 92), (.dry (.bin .add (.t 91) (.k (.int .i64 1)))), none⟩, 1024, false),
 (⟨(some 93), (.call (.k (.fn 107 [] [])) [(.t 89), (.t 90), (.t 92)]), none⟩, 4088, false),
 (⟨(some 94), (.dry (.iaddr 6 (.t 82) (.t 83))), none⟩, 8191, false),
 (⟨(some 95), (.dry (.faddr 1 1 false (.t 94))), none⟩, 16383, false),
 (⟨none, (.wet (.store 1 (.t 95) (.t 93))), none⟩, 32767, true)])
 (.seq (.draw [(⟨(some 96), (.dry (.faddr 3 1 false (.t 6))), none⟩, 0, false),
 (⟨(some 97), (.wet (.load 1 false (.t 96))), none⟩, 1, false),
 (⟨(some 98), (.dry (.mov (.t 12))), none⟩, 0, false),
 (⟨(some 99), (.dry (.faddr 3 1 false (.t 6))), none⟩, 0, false),
 (⟨(some 100), (.wet (.load 1 false (.t 99))), none⟩, 8, false),
 (⟨(some 101), (.dry (.mov (.t 12))), none⟩, 0, false),
 (⟨(some 102), (.dry (.iaddr 6 (.t 100) (.t 101))), none⟩, 56, false),
 (⟨(some 103), (.dry (.faddr 1 1 false (.t 102))), none⟩, 120, false),
 (⟨(some 104), (.wet (.load 1 false (.t 103))), none⟩, 248, false),
 (⟨(some 105), (.wet (.load 4 true (.t 18))), none⟩, 0, false),
 (⟨(some 106), (.wet (.bsl 4 1 [(.int .i64 0), (.int .u64 0), .nils, .nils] [(0, (.t 105))])), none⟩, 512, false),
 (⟨(some 107), (.wet (.append 142 4 64 (.t 104) (.t 106))), none⟩, 2040, false),
 (⟨(some 108), (.dry (.iaddr 6 (.t 97) (.t 98))), none⟩, 4095, false),
 (⟨(some 109), (.dry (.faddr 1 1 false (.t 108))), none⟩, 8191, false),
 (⟨none, (.wet (.store 1 (.t 109) (.t 107))), none⟩, 16383, true)])
 (.seq (.draw [(⟨(some 110), (.wet (.load 1 false (.t 9))), none⟩, 0, false),
 (⟨(some 111), (.dry (.faddr 3 1 false (.t 18))), none⟩, 0, false),
 (⟨(some 112), (.wet (.load 1 false (.t 111))), none⟩, 2, false),
 (⟨(some 113), (.dry (.iaddr 1 (.t 112) (.k (.int .i64 0)))), none⟩, 6, false),
 (⟨(some 114), (.wet (.load 1 false (.t 113))), none⟩, 14, false),
 (⟨(some 115), (.dry (.mov (.t 12))), none⟩, 0, false),
 (⟨(some 116), (.dry (.iaddr 1 (.t 110) (.t 114))), none⟩, 63, false),
 (⟨none, (.wet (.store 1 (.t 116) (.t 115))), none⟩, 127, true)])
 (.exit 1)))))))
 (.reg [⟨(some 117), (.dry (.bin .add (.t 66) (.k (.int .i64 1)))), none⟩,
 ⟨(some 66), (.dry (.mov (.t 117))), none⟩])))))))))
 (.reg [⟨(some 118), (.dry (.bin .add (.t 55) (.k (.int .i64 1)))), none⟩,
 ⟨(some 55), (.dry (.mov (.t 118))), none⟩]))))))))))))
 (.reg [⟨(some 119), (.dry (.bin .add (.t 36) (.k (.int .i64 1)))), none⟩,
 ⟨(some 36), (.dry (.mov (.t 119))), none⟩])))))))
 (.seq (.reg [⟨(some 120), (.wet (.load 4 true (.t 6))), none⟩,
 ⟨none, (.wet (.store 4 (.t 4) (.t 120))), none⟩,
 ⟨(some 5), (.dry (.mov (.k (.int .i64 0)))), none⟩])
 .ret)))))))))))) }

/-- bellcrank/dce.Run -/
def e48 : EFunc := { own := none, res := [(.cell 4 4 true), (.tmp 5)], ntmps := 105, pure := false, body :=
 (.seq (.reg [⟨(some 2), (.wet (.box 5 (.t 0))), none⟩,
 ⟨(some 3), (.wet (.box 4 (.t 1))), none⟩,
 ⟨(some 4), (.wet (.alloc 121 4 [.nils, .nils, .nils, .nils])), none⟩,
 ⟨(some 5), (.dry (.mov (.k (.int .i64 0)))), none⟩])
 (.seq (.seq (.reg [⟨(some 15), (.wet (.load 5 true (.t 2))), none⟩,
 ⟨(some 16), (.wet (.load 4 true (.t 3))), none⟩,
 ⟨(some 17), (.call (.k (.fn 38 [] [])) [(.t 15), (.t 16)]), none⟩,
 ⟨(some 18), (.dry (.not (.t 17))), none⟩])
 (.cond (.t 18)
 (.seq (.reg [⟨(some 19), (.dry (.build [.nils, .nils, .nils, .nils] [])), none⟩,
 ⟨none, (.wet (.store 4 (.t 4) (.t 19))), none⟩,
 ⟨(some 5), (.dry (.mov (.k (.int .i64 6)))), none⟩])
 .ret)
 .skip))
 (.seq (.reg [⟨(some 20), (.wet (.load 4 true (.t 3))), none⟩,
 ⟨(some 21), (.call (.k (.fn 108 [] [])) [(.t 20)]), none⟩,
 ⟨(some 6), (.wet (.alloc 1 1 [.nils])), none⟩,
 ⟨none, (.wet (.store 1 (.t 6) (.t 21))), none⟩])
 (.seq (.reg [⟨(some 22), (.wet (.load 4 true (.t 3))), none⟩,
 ⟨(some 23), (.call (.k (.fn 22 [] [])) [(.t 22), (.k .nils)]), none⟩,
 ⟨(some 7), (.wet (.alloc 121 4 [.nils, .nils, .nils, .nils])), none⟩,
 ⟨none, (.wet (.store 4 (.t 7) (.t 23))), none⟩])
 (.seq (.seq (.reg [⟨(some 24), (.dry (.faddr 3 1 false (.t 7))), none⟩,
 ⟨(some 25), (.wet (.load 1 false (.t 24))), none⟩,
 ⟨(some 26), (.dry (.len (.t 25))), none⟩,
 ⟨(some 27), (.dry (.mov (.k (.int .i64 0)))), none⟩])
 (.block 0
 (.loop
 (.seq (.reg [⟨(some 28), (.dry (.bin .lss (.t 27) (.t 26))), none⟩])
 (.seq (.cond (.t 28)
 .skip
 (.exit 0))
 (.seq (.block 1
 (.seq (.reg [⟨(some 29), (.dry (.mov (.t 27))), none⟩,
 ⟨(some 8), (.dry (.mov (.t 29))), none⟩])
 (.seq (.reg [⟨(some 30), (.dry (.faddr 3 1 false (.t 7))), none⟩,
 ⟨(some 31), (.wet (.load 1 false (.t 30))), none⟩,
 ⟨(some 32), (.dry (.mov (.t 8))), none⟩,
 ⟨(some 33), (.dry (.iaddr 6 (.t 31) (.t 32))), none⟩,
 ⟨(some 9), (.dry (.mov (.t 33))), none⟩])
 (.seq (.reg [⟨(some 34), (.dry (.mov (.t 9))), none⟩,
 ⟨(some 35), (.dry (.mov (.t 9))), none⟩,
 ⟨(some 36), (.dry (.nilchk (.t 35))), none⟩,
 ⟨(some 37), (.dry (.faddr 1 1 false (.t 36))), none⟩,
 ⟨(some 38), (.wet (.load 1 false (.t 37))), none⟩,
 ⟨(some 39), (.dry (.mkfn 109 [] [(.t 6)])), none⟩,
 ⟨(some 40), (.call (.k (.fn 93 [] [])) [(.t 38), (.t 39)]), none⟩,
 ⟨(some 41), (.dry (.nilchk (.t 34))), none⟩,
 ⟨(some 42), (.dry (.faddr 1 1 false (.t 41))), none⟩,
 ⟨none, (.wet (.store 1 (.t 42) (.t 40))), none⟩])
 (.seq (.reg [⟨(some 43), (.dry (.mov (.t 9))), none⟩,
 ⟨(some 44), (.dry (.mov (.t 9))), none⟩,
 ⟨(some 45), (.dry (.nilchk (.t 44))), none⟩,
 ⟨(some 46), (.dry (.faddr 0 1 false (.t 45))), none⟩,
 ⟨(some 47), (.wet (.load 1 false (.t 46))), none⟩,
 ⟨(some 48), (.dry (.mkfn 111 [] [(.t 6)])), none⟩,
 ⟨(some 49), (.call (.k (.fn 110 [] [])) [(.t 47), (.t 48)]), none⟩,
 ⟨(some 50), (.dry (.nilchk (.t 43))), none⟩,
 ⟨(some 51), (.dry (.faddr 0 1 false (.t 50))), none⟩,
 ⟨none, (.wet (.store 1 (.t 51) (.t 49))), none⟩])
 (.seq (.reg [⟨(some 52), (.dry (.mov (.t 9))), none⟩,
 ⟨(some 53), (.dry (.nilchk (.t 52))), none⟩,
 ⟨(some 54), (.dry (.faddr 2 4 true (.t 53))), none⟩,
 ⟨(some 55), (.dry (.faddr 2 1 false (.t 54))), none⟩,
 ⟨(some 56), (.wet (.load 1 false (.t 55))), none⟩,
 ⟨(some 57), (.dry (.len (.t 56))), none⟩,
 ⟨(some 58), (.dry (.mov (.k (.int .i64 0)))), none⟩])
 (.block 2
 (.loop
 (.seq (.reg [⟨(some 59), (.dry (.bin .lss (.t 58) (.t 57))), none⟩])
 (.seq (.cond (.t 59)
 .skip
 (.exit 2))
 (.seq (.block 3
 (.seq (.reg [⟨(some 60), (.dry (.mov (.t 58))), none⟩,
 ⟨(some 10), (.dry (.mov (.t 60))), none⟩])
 (.seq (.reg [⟨(some 61), (.dry (.mov (.t 9))), none⟩,
 ⟨(some 62), (.dry (.nilchk (.t 61))), none⟩,
 ⟨(some 63), (.dry (.faddr 2 4 true (.t 62))), none⟩,
 ⟨(some 64), (.dry (.faddr 2 1 false (.t 63))), none⟩,
 ⟨(some 65), (.wet (.load 1 false (.t 64))), none⟩,
 ⟨(some 66), (.dry (.mov (.t 10))), none⟩,
 ⟨(some 67), (.dry (.iaddr 2 (.t 65) (.t 66))), none⟩,
 ⟨(some 11), (.dry (.mov (.t 67))), none⟩])
 (.seq (.reg [⟨(some 12), (.dry (.mov (.k .nils))), none⟩])
 (.seq (.seq (.draw [(⟨(some 68), (.dry (.faddr 3 1 false (.t 3))), none⟩, 0, false),
 (⟨(some 69), (.wet (.load 1 false (.t 68))), none⟩, 1, false),
 (⟨(some 70), (.dry (.mov (.t 11))), none⟩, 0, false),
 (⟨(some 71), (.dry (.nilchk (.t 70))), none⟩, 4, false),
 (⟨(some 72), (.dry (.faddr 0 1 false (.t 71))), none⟩, 12, false),
 (⟨(some 73), (.wet (.load 1 false (.t 72))), none⟩, 28, false),
 (⟨(some 74), (.dry (.iaddr 6 (.t 69) (.t 73))), none⟩, 63, false),
 (⟨(some 75), (.dry (.faddr 0 1 false (.t 74))), none⟩, 127, false),
 (⟨(some 76), (.wet (.load 1 false (.t 75))), none⟩, 255, true),
 (⟨(some 77), (.dry (.len (.t 76))), none⟩, 511, false),
 (⟨(some 78), (.dry (.mov (.k (.int .i64 0)))), none⟩, 0, false)])
 (.block 4
 (.loop
 (.seq (.reg [⟨(some 79), (.dry (.bin .lss (.t 78) (.t 77))), none⟩])
 (.seq (.cond (.t 79)
 .skip
 (.exit 4))
 (.seq (.block 5
 (.seq (.reg [⟨(some 80), (.dry (.mov (.t 78))), none⟩,
 ⟨(some 81), (.dry (.iaddr 1 (.t 76) (.t 78))), none⟩,
 ⟨(some 82), (.wet (.load 1 false (.t 81))), none⟩,
 ⟨(some 13), (.dry (.mov (.t 80))), none⟩,
 ⟨(some 14), (.dry (.mov (.t 82))), none⟩])
 (.seq (.reg [⟨(some 83), (.wet (.load 1 false (.t 6))), none⟩,
 ⟨(some 84), (.dry (.mov (.t 14))), none⟩,
 ⟨(some 85), (.dry (.iaddr 1 (.t 83) (.t 84))), none⟩,
 ⟨(some 86), (.wet (.load 1 false (.t 85))), none⟩])
 (.cond (.t 86)
 (.reg [⟨(some 87), (.dry (.mov (.t 12))), none⟩,
 ⟨(some 88), (.dry (.mov (.t 11))), none⟩,
 ⟨(some 89), (.dry (.nilchk (.t 88))), none⟩,
 ⟨(some 90), (.dry (.faddr 1 1 false (.t 89))), none⟩,
 ⟨(some 91), (.wet (.load 1 false (.t 90))), none⟩,
 ⟨(some 92), (.dry (.mov (.t 13))), none⟩,
 ⟨(some 93), (.dry (.iaddr 1 (.t 91) (.t 92))), none⟩,
 ⟨(some 94), (.wet (.load 1 false (.t 93))), none⟩,
 ⟨(some 95), (.wet (.bsl 1 1 [(.int .i64 0)] [(0, (.t 94))])), none⟩,
 ⟨(some 96), (.wet (.append 8 1 8 (.t 87) (.t 95))), none⟩,
 ⟨(some 12), (.dry (.mov (.t 96))), none⟩])
 .skip))))
 (.reg [⟨(some 97), (.dry (.bin .add (.t 78) (.k (.int .i64 1)))), none⟩,
 ⟨(some 78), (.dry (.mov (.t 97))), none⟩])))))))
 (.reg [⟨(some 98), (.dry (.mov (.t 11))), none⟩,
 ⟨(some 99), (.dry (.mov (.t 12))), none⟩,
 ⟨(some 100), (.dry (.nilchk (.t 98))), none⟩,
 ⟨(some 101), (.dry (.faddr 1 1 false (.t 100))), none⟩,
 ⟨none, (.wet (.store 1 (.t 101) (.t 99))), none⟩]))))))
 (.reg [⟨(some 102), (.dry (.bin .add (.t 58) (.k (.int .i64 1)))), none⟩,
 ⟨(some 58), (.dry (.mov (.t 102))), none⟩]))))))))))))
 (.reg [⟨(some 103), (.dry (.bin .add (.t 27) (.k (.int .i64 1)))), none⟩,
 ⟨(some 27), (.dry (.mov (.t 103))), none⟩])))))))
 (.seq (.reg [⟨(some 104), (.wet (.load 4 true (.t 7))), none⟩,
 ⟨none, (.wet (.store 4 (.t 4) (.t 104))), none⟩,
 ⟨(some 5), (.dry (.mov (.k (.int .i64 0)))), none⟩])
 .ret)))))) }

/-- bellcrank/ssa.kinds -/
def e77 : EFunc := { own := none, res := [(.tmp 4)], ntmps := 14, pure := false, body :=
 (.seq (.reg [⟨(some 4), (.dry (.mov (.k (.bool false)))), none⟩])
 (.seq (.reg [⟨(some 5), (.dry (.mov (.t 1))), none⟩,
 ⟨(some 6), (.dry (.len (.t 5))), none⟩,
 ⟨(some 7), (.dry (.mov (.t 0))), none⟩,
 ⟨(some 8), (.dry (.bin .leq (.t 6) (.t 7))), none⟩,
 ⟨(some 9), (.dry (.mov (.t 8))), none⟩,
 ⟨(some 10), (.dry (.mov (.t 1))), (some (9, true))⟩,
 ⟨(some 11), (.call (.k (.fn 106 [] [])) [(.t 10), (.k (.fn 130 [] []))]), (some (9, true))⟩,
 ⟨(some 12), (.dry (.not (.t 11))), (some (9, true))⟩,
 ⟨(some 13), (.dry (.pick (.t 9) (.t 12) (.k (.bool false)))), none⟩,
 ⟨(some 4), (.dry (.mov (.t 13))), none⟩])
 .ret)) }

/-- slices.ContainsFunc[[]bellcrank/api.Sig,bellcrank/api.Sig] -/
def e78 : EFunc := { own := none, res := [(.tmp 4)], ntmps := 9, pure := false, body :=
 (.seq (.reg [⟨(some 4), (.dry (.mov (.k (.bool false)))), none⟩])
 (.seq (.reg [⟨(some 5), (.dry (.mov (.t 0))), none⟩,
 ⟨(some 6), (.dry (.mov (.t 1))), none⟩,
 ⟨(some 7), (.call (.k (.fn 132 [] [])) [(.t 5), (.t 6)]), none⟩,
 ⟨(some 8), (.dry (.bin .geq (.t 7) (.k (.int .i64 0)))), none⟩,
 ⟨(some 4), (.dry (.mov (.t 8))), none⟩])
 .ret)) }

/-- bellcrank/ssa.EnvRight$1 -/
def e79 : EFunc := { own := none, res := [(.tmp 2)], ntmps := 6, pure := false, body :=
 (.seq (.reg [⟨(some 1), (.wet (.box 2 (.t 0))), none⟩,
 ⟨(some 2), (.dry (.mov (.k (.bool false)))), none⟩])
 (.seq (.reg [⟨(some 3), (.wet (.load 2 true (.t 1))), none⟩,
 ⟨(some 4), (.call (.k (.fn 80 [] [])) [(.t 3)]), none⟩,
 ⟨(some 5), (.dry (.not (.t 4))), none⟩,
 ⟨(some 2), (.dry (.mov (.t 5))), none⟩])
 .ret)) }

/-- bellcrank/ssa.sigRight -/
def e80 : EFunc := { own := none, res := [(.tmp 2)], ntmps := 11, pure := false, body :=
 (.seq (.reg [⟨(some 1), (.wet (.box 2 (.t 0))), none⟩,
 ⟨(some 2), (.dry (.mov (.k (.bool false)))), none⟩])
 (.seq (.reg [⟨(some 3), (.dry (.faddr 0 1 false (.t 1))), none⟩,
 ⟨(some 4), (.wet (.load 1 false (.t 3))), none⟩,
 ⟨(some 5), (.call (.k (.fn 77 [] [])) [(.k (.int .i64 8)), (.t 4)]), none⟩,
 ⟨(some 6), (.dry (.mov (.t 5))), none⟩,
 ⟨(some 7), (.dry (.faddr 1 1 false (.t 1))), (some (6, true))⟩,
 ⟨(some 8), (.wet (.load 1 false (.t 7))), (some (6, true))⟩,
 ⟨(some 9), (.call (.k (.fn 77 [] [])) [(.k (.int .i64 8)), (.t 8)]), (some (6, true))⟩,
 ⟨(some 10), (.dry (.pick (.t 6) (.t 9) (.k (.bool false)))), none⟩,
 ⟨(some 2), (.dry (.mov (.t 10))), none⟩])
 .ret)) }

/-- slices.ContainsFunc[[]bellcrank/api.Block,bellcrank/api.Block] -/
def e81 : EFunc := { own := none, res := [(.tmp 4)], ntmps := 9, pure := false, body :=
 (.seq (.reg [⟨(some 4), (.dry (.mov (.k (.bool false)))), none⟩])
 (.seq (.reg [⟨(some 5), (.dry (.mov (.t 0))), none⟩,
 ⟨(some 6), (.dry (.mov (.t 1))), none⟩,
 ⟨(some 7), (.call (.k (.fn 133 [] [])) [(.t 5), (.t 6)]), none⟩,
 ⟨(some 8), (.dry (.bin .geq (.t 7) (.k (.int .i64 0)))), none⟩,
 ⟨(some 4), (.dry (.mov (.t 8))), none⟩])
 .ret)) }

/-- bellcrank/ssa.Check$1 -/
def e82 : EFunc := { own := none, res := [(.tmp 2)], ntmps := 7, pure := false, body :=
 (.seq (.reg [⟨(some 1), (.wet (.box 6 (.t 0))), none⟩,
 ⟨(some 2), (.dry (.mov (.k (.bool false)))), none⟩])
 (.seq (.reg [⟨(some 3), (.dry (.faddr 0 1 false (.t 1))), none⟩,
 ⟨(some 4), (.wet (.load 1 false (.t 3))), none⟩,
 ⟨(some 5), (.dry (.len (.t 4))), none⟩,
 ⟨(some 6), (.dry (.bin .gtr (.t 5) (.k (.int .i64 256)))), none⟩,
 ⟨(some 2), (.dry (.mov (.t 6))), none⟩])
 .ret)) }

/-- (*bellcrank/ssa.checker).define -/
def e83 : EFunc := { own := none, res := [(.tmp 2)], ntmps := 53, pure := false, body :=
 (.seq (.reg [⟨(some 1), (.wet (.box 1 (.t 0))), none⟩,
 ⟨(some 2), (.dry (.mov (.k (.bool false)))), none⟩])
 (.seq (.draw [(⟨(some 8), (.wet (.load 1 false (.t 1))), none⟩, 0, false),
 (⟨(some 9), (.wet (.load 1 false (.t 1))), none⟩, 0, false),
 (⟨(some 10), (.dry (.nilchk (.t 9))), none⟩, 2, false),
 (⟨(some 11), (.dry (.faddr 5 4 true (.t 10))), none⟩, 6, false),
 (⟨(some 12), (.dry (.faddr 2 1 false (.t 11))), none⟩, 14, false),
 (⟨(some 13), (.wet (.load 1 false (.t 12))), none⟩, 30, false),
 (⟨(some 14), (.dry (.len (.t 13))), none⟩, 62, false),
 (⟨(some 15), (.wet (.mksl 3 24 [(.bool false), (.int .i64 0), (.int .i64 0)] (.t 14) (.t 14))), none⟩, 126, false),
 (⟨(some 16), (.dry (.nilchk (.t 8))), none⟩, 255, false),
 (⟨(some 17), (.dry (.faddr 9 1 false (.t 16))), none⟩, 511, false),
 (⟨none, (.wet (.store 1 (.t 17) (.t 15))), none⟩, 1023, true)])
 (.seq (.reg [⟨(some 18), (.dry (.mkfn 134 [] [(.t 1)])), none⟩,
 ⟨(some 3), (.dry (.mov (.t 18))), none⟩])
 (.seq (.seq (.reg [⟨(some 19), (.wet (.load 1 false (.t 1))), none⟩,
 ⟨(some 20), (.dry (.nilchk (.t 19))), none⟩,
 ⟨(some 21), (.dry (.faddr 5 4 true (.t 20))), none⟩,
 ⟨(some 22), (.dry (.faddr 3 1 false (.t 21))), none⟩,
 ⟨(some 23), (.wet (.load 1 false (.t 22))), none⟩,
 ⟨(some 24), (.dry (.len (.t 23))), none⟩,
 ⟨(some 25), (.dry (.mov (.k (.int .i64 0)))), none⟩])
 (.block 0
 (.loop
 (.seq (.reg [⟨(some 26), (.dry (.bin .lss (.t 25) (.t 24))), none⟩])
 (.seq (.cond (.t 26)
 .skip
 (.exit 0))
 (.seq (.block 1
 (.seq (.reg [⟨(some 27), (.dry (.mov (.t 25))), none⟩,
 ⟨(some 28), (.dry (.iaddr 6 (.t 23) (.t 25))), none⟩,
 ⟨(some 29), (.wet (.load 6 true (.t 28))), none⟩,
 ⟨(some 5), (.wet (.alloc 137 6 [.nils, .nils, (.int .i64 0), (.int .i64 0), .nils, .nils])), none⟩,
 ⟨(some 4), (.dry (.mov (.t 27))), none⟩,
 ⟨none, (.wet (.store 6 (.t 5) (.t 29))), none⟩])
 (.seq (.seq (.reg [⟨(some 30), (.dry (.mov (.t 3))), none⟩,
 ⟨(some 31), (.dry (.faddr 0 1 false (.t 5))), none⟩,
 ⟨(some 32), (.wet (.load 1 false (.t 31))), none⟩,
 ⟨(some 33), (.dry (.mov (.t 4))), none⟩,
 ⟨(some 34), (.call (.t 30) [(.t 32), (.t 33), (.k (.int .i64 (-1)))]), none⟩,
 ⟨(some 35), (.dry (.not (.t 34))), none⟩])
 (.cond (.t 35)
 (.seq (.reg [⟨(some 2), (.dry (.mov (.k (.bool false)))), none⟩])
 .ret)
 .skip))
 (.seq (.reg [⟨(some 36), (.dry (.faddr 1 1 false (.t 5))), none⟩,
 ⟨(some 37), (.wet (.load 1 false (.t 36))), none⟩,
 ⟨(some 38), (.dry (.len (.t 37))), none⟩,
 ⟨(some 39), (.dry (.mov (.k (.int .i64 0)))), none⟩])
 (.block 2
 (.loop
 (.seq (.reg [⟨(some 40), (.dry (.bin .lss (.t 39) (.t 38))), none⟩])
 (.seq (.cond (.t 40)
 .skip
 (.exit 2))
 (.seq (.block 3
 (.seq (.reg [⟨(some 41), (.dry (.mov (.t 39))), none⟩,
 ⟨(some 42), (.dry (.iaddr 4 (.t 37) (.t 39))), none⟩,
 ⟨(some 43), (.wet (.load 4 true (.t 42))), none⟩,
 ⟨(some 7), (.wet (.alloc 143 4 [(.int .i64 0), (.int .u64 0), .nils, .nils])), none⟩,
 ⟨(some 6), (.dry (.mov (.t 41))), none⟩,
 ⟨none, (.wet (.store 4 (.t 7) (.t 43))), none⟩])
 (.seq (.reg [⟨(some 44), (.dry (.mov (.t 3))), none⟩,
 ⟨(some 45), (.dry (.faddr 3 1 false (.t 7))), none⟩,
 ⟨(some 46), (.wet (.load 1 false (.t 45))), none⟩,
 ⟨(some 47), (.dry (.mov (.t 4))), none⟩,
 ⟨(some 48), (.dry (.mov (.t 6))), none⟩,
 ⟨(some 49), (.call (.t 44) [(.t 46), (.t 47), (.t 48)]), none⟩,
 ⟨(some 50), (.dry (.not (.t 49))), none⟩])
 (.cond (.t 50)
 (.seq (.reg [⟨(some 2), (.dry (.mov (.k (.bool false)))), none⟩])
 .ret)
 .skip))))
 (.reg [⟨(some 51), (.dry (.bin .add (.t 39) (.k (.int .i64 1)))), none⟩,
 ⟨(some 39), (.dry (.mov (.t 51))), none⟩]))))))))))
 (.reg [⟨(some 52), (.dry (.bin .add (.t 25) (.k (.int .i64 1)))), none⟩,
 ⟨(some 25), (.dry (.mov (.t 52))), none⟩])))))))
 (.seq (.reg [⟨(some 2), (.dry (.mov (.k (.bool true)))), none⟩])
 .ret))))) }

/-- (*bellcrank/ssa.checker).shape -/
def e84 : EFunc := { own := none, res := [(.tmp 2)], ntmps := 74, pure := false, body :=
 (.seq (.reg [⟨(some 2), (.dry (.mov (.k (.bool false)))), none⟩])
 (.seq (.reg [⟨(some 7), (.dry (.mov (.t 0))), none⟩,
 ⟨(some 8), (.dry (.nilchk (.t 7))), none⟩,
 ⟨(some 9), (.dry (.faddr 5 4 true (.t 8))), none⟩,
 ⟨(some 10), (.wet (.load 4 true (.t 9))), none⟩,
 ⟨(some 11), (.call (.k (.fn 91 [] [])) [(.t 10)]), none⟩,
 ⟨(some 3), (.dry (.mov (.t 11))), none⟩])
 (.seq (.reg [⟨(some 13), (.dry (.mov (.t 3))), none⟩,
 ⟨(some 14), (.call (.k (.fn 90 [] [])) [(.t 13)]), none⟩,
 ⟨(some 12), (.dry (.mov (.t 14))), none⟩,
 ⟨(some 15), (.dry (.extract (.t 12) 0)), none⟩,
 ⟨(some 16), (.dry (.extract (.t 12) 1)), none⟩,
 ⟨(some 4), (.dry (.mov (.t 15))), none⟩,
 ⟨(some 5), (.dry (.mov (.t 16))), none⟩])
 (.seq (.seq (.reg [⟨(some 17), (.dry (.mov (.t 5))), none⟩,
 ⟨(some 18), (.dry (.eq (.prim .i) true (.t 17) (.k (.int .i64 0)))), none⟩,
 ⟨(some 19), (.dry (.mov (.t 18))), none⟩,
 ⟨(some 20), (.dry (.mov (.t 4))), (some (19, false))⟩,
 ⟨(some 21), (.dry (.len (.t 20))), (some (19, false))⟩,
 ⟨(some 22), (.dry (.mov (.t 3))), (some (19, false))⟩,
 ⟨(some 23), (.dry (.len (.t 22))), (some (19, false))⟩,
 ⟨(some 24), (.dry (.eq (.prim .i) true (.t 21) (.t 23))), (some (19, false))⟩,
 ⟨(some 25), (.dry (.pick (.t 19) (.k (.bool true)) (.t 24))), none⟩,
 ⟨(some 26), (.dry (.mov (.t 25))), none⟩,
 ⟨(some 27), (.dry (.mov (.t 0))), (some (26, false))⟩,
 ⟨(some 28), (.dry (.nilchk (.t 27))), (some (26, false))⟩,
 ⟨(some 29), (.dry (.faddr 5 4 true (.t 28))), (some (26, false))⟩,
 ⟨(some 30), (.wet (.load 4 true (.t 29))), (some (26, false))⟩,
 ⟨(some 31), (.dry (.mov (.t 3))), (some (26, false))⟩,
 ⟨(some 32), (.call (.k (.fn 135 [] [])) [(.t 30), (.t 31)]), (some (26, false))⟩,
 ⟨(some 33), (.dry (.pick (.t 26) (.k (.bool true)) (.t 32))), none⟩])
 (.cond (.t 33)
 (.seq (.reg [⟨(some 2), (.dry (.mov (.k (.bool false)))), none⟩])
 .ret)
 .skip))
 (.seq (.reg [⟨(some 35), (.dry (.mov (.t 0))), none⟩,
 ⟨(some 36), (.dry (.mov (.t 3))), none⟩,
 ⟨(some 37), (.call (.k (.fn 92 [] [])) [(.t 36)]), none⟩,
 ⟨(some 34), (.dry (.mov (.t 37))), none⟩,
 ⟨(some 38), (.dry (.extract (.t 34) 0)), none⟩,
 ⟨(some 39), (.dry (.extract (.t 34) 1)), none⟩,
 ⟨(some 40), (.dry (.nilchk (.t 35))), none⟩,
 ⟨(some 41), (.dry (.faddr 10 1 false (.t 40))), none⟩,
 ⟨none, (.wet (.store 1 (.t 41) (.t 38))), none⟩])
 (.seq (.reg [⟨(some 42), (.dry (.mov (.t 0))), none⟩,
 ⟨(some 43), (.dry (.nilchk (.t 42))), none⟩,
 ⟨(some 44), (.dry (.faddr 5 4 true (.t 43))), none⟩,
 ⟨(some 45), (.dry (.faddr 3 1 false (.t 44))), none⟩,
 ⟨(some 46), (.wet (.load 1 false (.t 45))), none⟩,
 ⟨(some 47), (.dry (.iaddr 6 (.t 46) (.k (.int .i64 0)))), none⟩,
 ⟨(some 48), (.wet (.load 6 true (.t 47))), none⟩,
 ⟨(some 6), (.wet (.alloc 137 6 [.nils, .nils, (.int .i64 0), (.int .i64 0), .nils, .nils])), none⟩,
 ⟨none, (.wet (.store 6 (.t 6) (.t 48))), none⟩])
 (.seq (.draw [(⟨(some 49), (.dry (.mov (.t 0))), none⟩, 0, false),
 (⟨(some 50), (.dry (.faddr 0 1 false (.t 6))), none⟩, 0, false),
 (⟨(some 51), (.wet (.load 1 false (.t 50))), none⟩, 2, false),
 (⟨(some 52), (.call (.k (.fn 136 [] [])) [(.t 49), (.t 51)]), none⟩, 7, false),
 (⟨(some 53), (.dry (.mov (.t 0))), none⟩, 0, false),
 (⟨(some 54), (.dry (.nilchk (.t 53))), none⟩, 16, false),
 (⟨(some 55), (.dry (.faddr 5 4 true (.t 54))), none⟩, 48, false),
 (⟨(some 56), (.dry (.faddr 0 2 true (.t 55))), none⟩, 112, false),
 (⟨(some 57), (.dry (.faddr 0 1 false (.t 56))), none⟩, 240, false),
 (⟨(some 58), (.wet (.load 1 false (.t 57))), none⟩, 496, false),
 (⟨(some 59), (.call (.k (.fn 37 [] [])) [(.t 52), (.t 58)]), none⟩, 1023, true),
 (⟨(some 60), (.dry (.mov (.t 59))), none⟩, 2047, false),
 (⟨(some 61), (.dry (.faddr 1 1 false (.t 6))), (some (60, true))⟩, 4095, false),
 (⟨(some 62), (.wet (.load 1 false (.t 61))), (some (60, true))⟩, 8191, true),
 (⟨(some 63), (.dry (.len (.t 62))), (some (60, true))⟩, 16383, false),
 (⟨(some 64), (.dry (.bin .gtr (.t 63) (.k (.int .i64 0)))), (some (60, true))⟩, 32767, false),
 (⟨(some 65), (.dry (.pick (.t 60) (.t 64) (.k (.bool false)))), none⟩, 65535, false),
 (⟨(some 66), (.dry (.mov (.t 65))), none⟩, 131071, false),
 (⟨(some 67), (.dry (.faddr 1 1 false (.t 6))), (some (66, true))⟩, 262143, false),
 (⟨(some 68), (.wet (.load 1 false (.t 67))), (some (66, true))⟩, 524287, true),
 (⟨(some 69), (.dry (.iaddr 4 (.t 68) (.k (.int .i64 0)))), (some (66, true))⟩, 1048575, false),
 (⟨(some 70), (.dry (.faddr 0 1 false (.t 69))), (some (66, true))⟩, 2097151, false),
 (⟨(some 71), (.wet (.load 1 false (.t 70))), (some (66, true))⟩, 4194303, true),
 (⟨(some 72), (.dry (.eq (.prim .i) false (.t 71) (.k (.int .i64 258)))), (some (66, true))⟩, 8388607, false),
 (⟨(some 73), (.dry (.pick (.t 66) (.t 72) (.k (.bool false)))), none⟩, 16777215, false),
 (⟨(some 2), (.dry (.mov (.t 73))), none⟩, 33554431, false)])
 .ret))))))) }

/-- (*bellcrank/ssa.checker).ins -/
def e85 : EFunc := { own := none, res := [(.tmp 8)], ntmps := 68, pure := false, body :=
 (.seq (.reg [⟨(some 7), (.wet (.box 4 (.t 3))), none⟩,
 ⟨(some 8), (.dry (.mov (.k (.bool false)))), none⟩])
 (.seq (.reg [⟨(some 9), (.dry (.mov (.k (.int .i64 0)))), none⟩])
 (.seq (.seq (.reg [⟨(some 14), (.dry (.faddr 3 1 false (.t 7))), none⟩,
 ⟨(some 15), (.wet (.load 1 false (.t 14))), none⟩,
 ⟨(some 16), (.dry (.len (.t 15))), none⟩,
 ⟨(some 17), (.dry (.bin .gtr (.t 16) (.k (.int .i64 0)))), none⟩])
 (.cond (.t 17)
 (.draw [(⟨(some 18), (.dry (.mov (.t 0))), none⟩, 0, false),
 (⟨(some 19), (.dry (.nilchk (.t 18))), none⟩, 1, false),
 (⟨(some 20), (.dry (.faddr 5 4 true (.t 19))), none⟩, 3, false),
 (⟨(some 21), (.dry (.faddr 2 1 false (.t 20))), none⟩, 7, false),
 (⟨(some 22), (.wet (.load 1 false (.t 21))), none⟩, 15, false),
 (⟨(some 23), (.dry (.faddr 3 1 false (.t 7))), none⟩, 0, false),
 (⟨(some 24), (.wet (.load 1 false (.t 23))), none⟩, 32, false),
 (⟨(some 25), (.dry (.iaddr 1 (.t 24) (.k (.int .i64 0)))), none⟩, 96, false),
 (⟨(some 26), (.wet (.load 1 false (.t 25))), none⟩, 224, false),
 (⟨(some 27), (.dry (.iaddr 1 (.t 22) (.t 26))), none⟩, 511, false),
 (⟨(some 28), (.wet (.load 1 false (.t 27))), none⟩, 1023, true),
 (⟨(some 9), (.dry (.mov (.t 28))), none⟩, 2047, false)])
 .skip))
 (.seq (.draw [(⟨(some 30), (.dry (.mov (.t 0))), none⟩, 0, false),
 (⟨(some 31), (.dry (.nilchk (.t 30))), none⟩, 1, false),
 (⟨(some 32), (.dry (.faddr 0 5 true (.t 31))), none⟩, 3, false),
 (⟨(some 33), (.wet (.load 5 true (.t 32))), none⟩, 7, false),
 (⟨(some 34), (.dry (.faddr 0 1 false (.t 7))), none⟩, 0, false),
 (⟨(some 35), (.wet (.load 1 false (.t 34))), none⟩, 16, false),
 (⟨(some 36), (.dry (.faddr 1 1 false (.t 7))), none⟩, 0, false),
 (⟨(some 37), (.wet (.load 1 false (.t 36))), none⟩, 64, false),
 (⟨(some 38), (.dry (.mov (.t 9))), none⟩, 0, false),
 (⟨(some 39), (.call (.k (.fn 137 [] [])) [(.t 33), (.t 35), (.t 37), (.t 38)]), none⟩, 511, true),
 (⟨(some 29), (.dry (.mov (.t 39))), none⟩, 1023, false),
 (⟨(some 40), (.dry (.extract (.t 29) 0)), none⟩, 2047, false),
 (⟨(some 41), (.dry (.extract (.t 29) 1)), none⟩, 2047, false),
 (⟨(some 42), (.dry (.extract (.t 29) 2)), none⟩, 2047, false),
 (⟨(some 43), (.dry (.extract (.t 29) 3)), none⟩, 2047, false),
 (⟨(some 10), (.dry (.mov (.t 40))), none⟩, 4095, false),
 (⟨(some 11), (.dry (.mov (.t 41))), none⟩, 40959, false),
 (⟨(some 12), (.dry (.mov (.t 42))), none⟩, 114687, false),
 (⟨(some 13), (.dry (.mov (.t 43))), none⟩, 262143, false)])
 (.seq (.reg [⟨(some 44), (.dry (.mov (.t 13))), none⟩,
 ⟨(some 45), (.dry (.mov (.t 44))), none⟩,
 ⟨(some 46), (.dry (.faddr 1 1 false (.t 7))), (some (45, true))⟩,
 ⟨(some 47), (.wet (.load 1 false (.t 46))), (some (45, true))⟩,
 ⟨(some 48), (.dry (.mov (.t 12))), (some (45, true))⟩,
 ⟨(some 49), (.dry (.bin .leq (.t 47) (.t 48))), (some (45, true))⟩,
 ⟨(some 50), (.dry (.pick (.t 45) (.t 49) (.k (.bool false)))), none⟩,
 ⟨(some 51), (.dry (.mov (.t 50))), none⟩,
 ⟨(some 52), (.dry (.mov (.t 0))), (some (51, true))⟩,
 ⟨(some 53), (.dry (.faddr 3 1 false (.t 7))), (some (51, true))⟩,
 ⟨(some 54), (.wet (.load 1 false (.t 53))), (some (51, true))⟩,
 ⟨(some 55), (.call (.k (.fn 136 [] [])) [(.t 52), (.t 54)]), (some (51, true))⟩,
 ⟨(some 56), (.dry (.mov (.t 11))), (some (51, true))⟩,
 ⟨(some 57), (.call (.k (.fn 37 [] [])) [(.t 55), (.t 56)]), (some (51, true))⟩,
 ⟨(some 58), (.dry (.pick (.t 51) (.t 57) (.k (.bool false)))), none⟩,
 ⟨(some 59), (.dry (.mov (.t 58))), none⟩,
 ⟨(some 60), (.dry (.mov (.t 0))), (some (59, true))⟩,
 ⟨(some 61), (.dry (.mov (.t 1))), (some (59, true))⟩,
 ⟨(some 62), (.dry (.mov (.t 2))), (some (59, true))⟩,
 ⟨(some 63), (.dry (.faddr 2 1 false (.t 7))), (some (59, true))⟩,
 ⟨(some 64), (.wet (.load 1 false (.t 63))), (some (59, true))⟩,
 ⟨(some 65), (.dry (.mov (.t 10))), (some (59, true))⟩,
 ⟨(some 66), (.call (.k (.fn 138 [] [])) [(.t 60), (.t 61), (.t 62), (.t 64), (.t 65)]), (some (59, true))⟩,
 ⟨(some 67), (.dry (.pick (.t 59) (.t 66) (.k (.bool false)))), none⟩,
 ⟨(some 8), (.dry (.mov (.t 67))), none⟩])
 .ret))))) }

/-- (*bellcrank/ssa.checker).term -/
def e86 : EFunc := { own := none, res := [(.tmp 6)], ntmps := 105, pure := false, body :=
 (.seq (.reg [⟨(some 5), (.wet (.box 6 (.t 2))), none⟩,
 ⟨(some 6), (.dry (.mov (.k (.bool false)))), none⟩])
 (.seq (.draw [(⟨(some 14), (.dry (.faddr 2 4 true (.t 5))), none⟩, 0, false),
 (⟨(some 15), (.wet (.load 4 true (.t 14))), none⟩, 1, false),
 (⟨(some 16), (.dry (.faddr 1 1 false (.t 5))), none⟩, 0, false),
 (⟨(some 17), (.wet (.load 1 false (.t 16))), none⟩, 4, false),
 (⟨(some 18), (.dry (.len (.t 17))), none⟩, 12, false),
 (⟨(some 7), (.wet (.alloc 133 4 [(.int .i64 0), (.int .i64 0), .nils, .nils])), none⟩, 0, false),
 (⟨none, (.wet (.store 4 (.t 7) (.t 15))), none⟩, 35, false),
 (⟨(some 8), (.dry (.mov (.t 18))), none⟩, 127, false)])
 (.seq (.reg [⟨(some 9), (.dry (.mov (.k (.int .i64 0)))), none⟩,
 ⟨(some 10), (.dry (.mov (.k (.int .i64 0)))), none⟩])
 (.seq (.reg [⟨(some 11), (.dry (.mov (.k .nils))), none⟩])
 (.seq (.seq (.reg [⟨(some 19), (.dry (.faddr 0 1 false (.t 7))), none⟩,
 ⟨(some 20), (.wet (.load 1 false (.t 19))), none⟩])
 (.block 0
 (.seq (.reg [⟨(some 22), (.dry (.eq (.prim .i) false (.t 20) (.k (.int .i64 1)))), none⟩,
 ⟨(some 21), (.dry (.mov (.t 22))), none⟩])
 (.cond (.t 21)
 (.reg [⟨(some 9), (.dry (.mov (.k (.int .i64 1)))), none⟩,
 ⟨(some 10), (.dry (.mov (.k (.int .i64 1)))), none⟩])
 (.seq (.reg [⟨(some 24), (.dry (.eq (.prim .i) false (.t 20) (.k (.int .i64 2)))), none⟩,
 ⟨(some 23), (.dry (.mov (.t 24))), none⟩])
 (.cond (.t 23)
 (.reg [⟨(some 9), (.dry (.mov (.k (.int .i64 2)))), none⟩,
 ⟨(some 10), (.dry (.mov (.k (.int .i64 2)))), none⟩])
 (.seq (.reg [⟨(some 26), (.dry (.eq (.prim .i) false (.t 20) (.k (.int .i64 3)))), none⟩,
 ⟨(some 25), (.dry (.mov (.t 26))), none⟩])
 (.cond (.t 25)
 (.reg [⟨(some 9), (.dry (.mov (.k (.int .i64 1)))), none⟩,
 ⟨(some 10), (.dry (.mov (.k (.int .i64 65)))), none⟩])
 (.seq (.reg [⟨(some 28), (.dry (.eq (.prim .i) false (.t 20) (.k (.int .i64 4)))), none⟩,
 ⟨(some 27), (.dry (.mov (.t 28))), none⟩])
 (.cond (.t 27)
 (.reg [⟨(some 29), (.dry (.mov (.t 0))), none⟩,
 ⟨(some 30), (.dry (.nilchk (.t 29))), none⟩,
 ⟨(some 31), (.dry (.faddr 5 4 true (.t 30))), none⟩,
 ⟨(some 32), (.dry (.faddr 0 2 true (.t 31))), none⟩,
 ⟨(some 33), (.dry (.faddr 1 1 false (.t 32))), none⟩,
 ⟨(some 34), (.wet (.load 1 false (.t 33))), none⟩,
 ⟨(some 11), (.dry (.mov (.t 34))), none⟩])
 (.seq (.reg [⟨(some 36), (.dry (.eq (.prim .i) false (.t 20) (.k (.int .i64 5)))), none⟩,
 ⟨(some 35), (.dry (.mov (.t 36))), none⟩])
 (.cond (.t 35)
 .skip
 (.seq (.reg [⟨(some 6), (.dry (.mov (.k (.bool false)))), none⟩])
 .ret)))))))))))))
 (.seq (.seq (.reg [⟨(some 37), (.wet (.load 4 true (.t 7))), none⟩,
 ⟨(some 38), (.call (.k (.fn 43 [] [])) [(.t 37)]), none⟩])
 (.cond (.t 38)
 (.seq (.reg [⟨(some 39), (.dry (.mov (.t 0))), none⟩,
 ⟨(some 40), (.dry (.mov (.t 1))), none⟩,
 ⟨(some 41), (.dry (.mov (.t 8))), none⟩,
 ⟨(some 42), (.dry (.faddr 1 1 false (.t 7))), none⟩,
 ⟨(some 43), (.wet (.load 1 false (.t 42))), none⟩,
 ⟨(some 44), (.wet (.bsl 1 1 [(.int .i64 0)] [(0, (.t 43))])), none⟩,
 ⟨(some 45), (.wet (.bsl 1 1 [(.int .i64 0)] [(0, (.k (.int .i64 127)))])), none⟩,
 ⟨(some 46), (.call (.k (.fn 138 [] [])) [(.t 39), (.t 40), (.t 41), (.t 44), (.t 45)]), none⟩,
 ⟨(some 47), (.dry (.not (.t 46))), none⟩])
 (.cond (.t 47)
 (.seq (.reg [⟨(some 6), (.dry (.mov (.k (.bool false)))), none⟩])
 .ret)
 .skip))
 (.seq (.reg [⟨(some 48), (.dry (.faddr 1 1 false (.t 7))), none⟩,
 ⟨(some 49), (.wet (.load 1 false (.t 48))), none⟩,
 ⟨(some 50), (.dry (.eq (.prim .i) true (.t 49) (.k (.int .i64 0)))), none⟩])
 (.cond (.t 50)
 (.seq (.reg [⟨(some 6), (.dry (.mov (.k (.bool false)))), none⟩])
 .ret)
 .skip))))
 (.seq (.seq (.reg [⟨(some 51), (.dry (.faddr 2 1 false (.t 7))), none⟩,
 ⟨(some 52), (.wet (.load 1 false (.t 51))), none⟩,
 ⟨(some 53), (.dry (.len (.t 52))), none⟩,
 ⟨(some 54), (.dry (.mov (.t 9))), none⟩,
 ⟨(some 55), (.dry (.bin .lss (.t 53) (.t 54))), none⟩,
 ⟨(some 56), (.dry (.mov (.t 55))), none⟩,
 ⟨(some 57), (.dry (.faddr 2 1 false (.t 7))), (some (56, false))⟩,
 ⟨(some 58), (.wet (.load 1 false (.t 57))), (some (56, false))⟩,
 ⟨(some 59), (.dry (.len (.t 58))), (some (56, false))⟩,
 ⟨(some 60), (.dry (.mov (.t 10))), (some (56, false))⟩,
 ⟨(some 61), (.dry (.bin .gtr (.t 59) (.t 60))), (some (56, false))⟩,
 ⟨(some 62), (.dry (.pick (.t 56) (.k (.bool true)) (.t 61))), none⟩,
 ⟨(some 63), (.dry (.mov (.t 62))), none⟩,
 ⟨(some 64), (.dry (.mov (.t 0))), (some (63, false))⟩,
 ⟨(some 65), (.dry (.mov (.t 1))), (some (63, false))⟩,
 ⟨(some 66), (.dry (.mov (.t 8))), (some (63, false))⟩,
 ⟨(some 67), (.dry (.faddr 3 1 false (.t 7))), (some (63, false))⟩,
 ⟨(some 68), (.wet (.load 1 false (.t 67))), (some (63, false))⟩,
 ⟨(some 69), (.dry (.mov (.t 11))), (some (63, false))⟩,
 ⟨(some 70), (.call (.k (.fn 138 [] [])) [(.t 64), (.t 65), (.t 66), (.t 68), (.t 69)]), (some (63, false))⟩,
 ⟨(some 71), (.dry (.not (.t 70))), (some (63, false))⟩,
 ⟨(some 72), (.dry (.pick (.t 63) (.k (.bool true)) (.t 71))), none⟩])
 (.cond (.t 72)
 (.seq (.reg [⟨(some 6), (.dry (.mov (.k (.bool false)))), none⟩])
 .ret)
 .skip))
 (.seq (.seq (.reg [⟨(some 73), (.dry (.faddr 2 1 false (.t 7))), none⟩,
 ⟨(some 74), (.wet (.load 1 false (.t 73))), none⟩,
 ⟨(some 75), (.dry (.len (.t 74))), none⟩,
 ⟨(some 76), (.dry (.mov (.k (.int .i64 0)))), none⟩])
 (.block 1
 (.loop
 (.seq (.reg [⟨(some 77), (.dry (.bin .lss (.t 76) (.t 75))), none⟩])
 (.seq (.cond (.t 77)
 .skip
 (.exit 1))
 (.seq (.block 2
 (.seq (.reg [⟨(some 78), (.dry (.iaddr 2 (.t 74) (.t 76))), none⟩,
 ⟨(some 79), (.wet (.load 2 true (.t 78))), none⟩,
 ⟨(some 13), (.wet (.alloc 191 2 [(.int .i64 0), .nils])), none⟩,
 ⟨none, (.wet (.store 2 (.t 13) (.t 79))), none⟩])
 (.seq (.draw [(⟨(some 80), (.dry (.faddr 0 1 false (.t 13))), none⟩, 0, false),
 (⟨(some 81), (.wet (.load 1 false (.t 80))), none⟩, 1, true),
 (⟨(some 82), (.dry (.eq (.prim .i) false (.t 81) (.k (.int .i64 0)))), none⟩, 3, false),
 (⟨(some 83), (.dry (.mov (.t 82))), none⟩, 7, false),
 (⟨(some 84), (.dry (.mov (.t 0))), (some (83, false))⟩, 15, false),
 (⟨(some 85), (.dry (.mov (.t 1))), (some (83, false))⟩, 15, false),
 (⟨(some 86), (.dry (.mov (.t 8))), (some (83, false))⟩, 15, false),
 (⟨(some 87), (.dry (.faddr 1 1 false (.t 13))), (some (83, false))⟩, 15, false),
 (⟨(some 88), (.wet (.load 1 false (.t 87))), (some (83, false))⟩, 143, false),
 (⟨(some 89), (.dry (.mov (.t 0))), (some (83, false))⟩, 15, false),
 (⟨(some 90), (.dry (.mov (.t 0))), (some (83, false))⟩, 15, false),
 (⟨(some 91), (.dry (.nilchk (.t 90))), (some (83, false))⟩, 1039, false),
 (⟨(some 92), (.dry (.faddr 5 4 true (.t 91))), (some (83, false))⟩, 3087, false),
 (⟨(some 93), (.dry (.faddr 3 1 false (.t 92))), (some (83, false))⟩, 7183, false),
 (⟨(some 94), (.wet (.load 1 false (.t 93))), (some (83, false))⟩, 15375, false),
 (⟨(some 95), (.dry (.faddr 0 1 false (.t 13))), (some (83, false))⟩, 15, false),
 (⟨(some 96), (.wet (.load 1 false (.t 95))), (some (83, false))⟩, 32783, false),
 (⟨(some 97), (.dry (.iaddr 6 (.t 94) (.t 96))), (some (83, false))⟩, 130063, false),
 (⟨(some 98), (.dry (.faddr 0 1 false (.t 97))), (some (83, false))⟩, 261135, false),
 (⟨(some 99), (.wet (.load 1 false (.t 98))), (some (83, false))⟩, 523279, false),
 (⟨(some 100), (.call (.k (.fn 136 [] [])) [(.t 89), (.t 99)]), (some (83, false))⟩, 1048079, false),
 (⟨(some 101), (.call (.k (.fn 138 [] [])) [(.t 84), (.t 85), (.t 86), (.t 88), (.t 100)]), (some (83, false))⟩, 2097151, true),
 (⟨(some 102), (.dry (.not (.t 101))), (some (83, false))⟩, 4194303, false),
 (⟨(some 103), (.dry (.pick (.t 83) (.k (.bool true)) (.t 102))), none⟩, 8388607, false)])
 (.cond (.t 103)
 (.seq (.reg [⟨(some 6), (.dry (.mov (.k (.bool false)))), none⟩])
 .ret)
 .skip))))
 (.reg [⟨(some 104), (.dry (.bin .add (.t 76) (.k (.int .i64 1)))), none⟩,
 ⟨(some 76), (.dry (.mov (.t 104))), none⟩])))))))
 (.seq (.reg [⟨(some 6), (.dry (.mov (.k (.bool true)))), none⟩])
 .ret))))))))) }

/-- bellcrank/ssa.short -/
def e87 : EFunc := { own := none, res := [(.tmp 2)], ntmps := 6, pure := false, body :=
 (.seq (.reg [⟨(some 2), (.dry (.mov (.k (.bool false)))), none⟩])
 (.seq (.reg [⟨(some 3), (.dry (.mov (.t 0))), none⟩,
 ⟨(some 4), (.call (.k (.fn 139 [] [])) [(.t 3), (.k (.fn 140 [] []))]), none⟩,
 ⟨(some 5), (.dry (.not (.t 4))), none⟩,
 ⟨(some 2), (.dry (.mov (.t 5))), none⟩])
 .ret)) }

/-- bellcrank/sccp.solve -/
def e88 : EFunc := { own := none, res := [(.tmp 2)], ntmps := 138, pure := false, body :=
 (.seq (.reg [⟨(some 1), (.wet (.box 4 (.t 0))), none⟩,
 ⟨(some 2), (.dry (.mov (.k .nilp))), none⟩])
 (.seq (.draw [(⟨(some 14), (.wet (.load 4 true (.t 1))), none⟩, 0, false),
 (⟨(some 15), (.dry (.faddr 2 1 false (.t 1))), none⟩, 0, false),
 (⟨(some 16), (.wet (.load 1 false (.t 15))), none⟩, 2, false),
 (⟨(some 17), (.dry (.len (.t 16))), none⟩, 6, false),
 (⟨(some 18), (.wet (.mksl 2 16 [(.int .i64 0), (.int .u64 0)] (.t 17) (.t 17))), none⟩, 14, false),
 (⟨(some 19), (.dry (.faddr 3 1 false (.t 1))), none⟩, 0, false),
 (⟨(some 20), (.wet (.load 1 false (.t 19))), none⟩, 32, false),
 (⟨(some 21), (.dry (.len (.t 20))), none⟩, 96, false),
 (⟨(some 22), (.wet (.mksl 1 1 [(.bool false)] (.t 21) (.t 21))), none⟩, 224, false),
 (⟨(some 23), (.wet .mkmap), none⟩, 0, false),
 (⟨(some 24), (.dry (.build [.nils, .nils, .nils, .nils, .nils, .nils, .nilm, .nils] [(0, 4, (.t 14)), (4, 1, (.t 18)), (5, 1, (.t 22)), (6, 1, (.t 23))])), none⟩, 1023, false),
 (⟨(some 25), (.wet (.box 8 (.t 24))), none⟩, 2047, false),
 (⟨(some 3), (.wet (.alloc 1 1 [.nilp])), none⟩, 0, false),
 (⟨none, (.wet (.store 1 (.t 3) (.t 25))), none⟩, 8191, true)])
 (.seq (.reg [⟨(some 26), (.dry (.mkfn 141 [] [(.t 3)])), none⟩,
 ⟨(some 4), (.dry (.mov (.t 26))), none⟩])
 (.seq (.seq (.reg [⟨(some 27), (.dry (.faddr 3 1 false (.t 1))), none⟩,
 ⟨(some 28), (.wet (.load 1 false (.t 27))), none⟩,
 ⟨(some 29), (.dry (.len (.t 28))), none⟩,
 ⟨(some 30), (.dry (.mov (.k (.int .i64 0)))), none⟩])
 (.block 0
 (.loop
 (.seq (.reg [⟨(some 31), (.dry (.bin .lss (.t 30) (.t 29))), none⟩])
 (.seq (.cond (.t 31)
 .skip
 (.exit 0))
 (.seq (.block 1
 (.seq (.reg [⟨(some 32), (.dry (.mov (.t 30))), none⟩,
 ⟨(some 33), (.dry (.iaddr 6 (.t 28) (.t 30))), none⟩,
 ⟨(some 34), (.wet (.load 6 true (.t 33))), none⟩,
 ⟨(some 6), (.wet (.alloc 137 6 [.nils, .nils, (.int .i64 0), (.int .i64 0), .nils, .nils])), none⟩,
 ⟨(some 5), (.dry (.mov (.t 32))), none⟩,
 ⟨none, (.wet (.store 6 (.t 6) (.t 34))), none⟩])
 (.seq (.seq (.reg [⟨(some 35), (.dry (.faddr 1 1 false (.t 6))), none⟩,
 ⟨(some 36), (.wet (.load 1 false (.t 35))), none⟩,
 ⟨(some 37), (.dry (.len (.t 36))), none⟩,
 ⟨(some 38), (.dry (.mov (.k (.int .i64 0)))), none⟩])
 (.block 2
 (.loop
 (.seq (.reg [⟨(some 39), (.dry (.bin .lss (.t 38) (.t 37))), none⟩])
 (.seq (.cond (.t 39)
 .skip
 (.exit 2))
 (.seq (.block 3
 (.seq (.reg [⟨(some 40), (.dry (.iaddr 4 (.t 36) (.t 38))), none⟩,
 ⟨(some 41), (.wet (.load 4 true (.t 40))), none⟩,
 ⟨(some 8), (.wet (.alloc 143 4 [(.int .i64 0), (.int .u64 0), .nils, .nils])), none⟩,
 ⟨none, (.wet (.store 4 (.t 8) (.t 41))), none⟩])
 (.reg [⟨(some 42), (.dry (.mov (.t 4))), none⟩,
 ⟨(some 43), (.dry (.mov (.t 5))), none⟩,
 ⟨(some 44), (.dry (.faddr 2 1 false (.t 8))), none⟩,
 ⟨(some 45), (.wet (.load 1 false (.t 44))), none⟩,
 ⟨(some 46), (.call (.t 42) [(.t 43), (.t 45)]), none⟩])))
 (.reg [⟨(some 47), (.dry (.bin .add (.t 38) (.k (.int .i64 1)))), none⟩,
 ⟨(some 38), (.dry (.mov (.t 47))), none⟩])))))))
 (.seq (.seq (.reg [⟨(some 48), (.dry (.faddr 2 4 true (.t 6))), none⟩,
 ⟨(some 49), (.dry (.faddr 0 1 false (.t 48))), none⟩,
 ⟨(some 50), (.wet (.load 1 false (.t 49))), none⟩,
 ⟨(some 51), (.dry (.eq (.prim .i) false (.t 50) (.k (.int .i64 2)))), none⟩,
 ⟨(some 52), (.dry (.mov (.t 51))), none⟩,
 ⟨(some 53), (.dry (.faddr 2 4 true (.t 6))), (some (52, false))⟩,
 ⟨(some 54), (.dry (.faddr 0 1 false (.t 53))), (some (52, false))⟩,
 ⟨(some 55), (.wet (.load 1 false (.t 54))), (some (52, false))⟩,
 ⟨(some 56), (.dry (.eq (.prim .i) false (.t 55) (.k (.int .i64 3)))), (some (52, false))⟩,
 ⟨(some 57), (.dry (.pick (.t 52) (.k (.bool true)) (.t 56))), none⟩])
 (.cond (.t 57)
 (.reg [⟨(some 58), (.dry (.mov (.t 4))), none⟩,
 ⟨(some 59), (.dry (.mov (.t 5))), none⟩,
 ⟨(some 60), (.dry (.faddr 2 4 true (.t 6))), none⟩,
 ⟨(some 61), (.dry (.faddr 1 1 false (.t 60))), none⟩,
 ⟨(some 62), (.wet (.load 1 false (.t 61))), none⟩,
 ⟨(some 63), (.wet (.bsl 1 1 [(.int .i64 0)] [(0, (.t 62))])), none⟩,
 ⟨(some 64), (.call (.t 58) [(.t 59), (.t 63)]), none⟩])
 .skip))
 (.seq (.reg [⟨(some 65), (.dry (.faddr 2 4 true (.t 6))), none⟩,
 ⟨(some 66), (.dry (.faddr 2 1 false (.t 65))), none⟩,
 ⟨(some 67), (.wet (.load 1 false (.t 66))), none⟩,
 ⟨(some 68), (.dry (.len (.t 67))), none⟩,
 ⟨(some 69), (.dry (.mov (.k (.int .i64 0)))), none⟩])
 (.block 4
 (.loop
 (.seq (.reg [⟨(some 70), (.dry (.bin .lss (.t 69) (.t 68))), none⟩])
 (.seq (.cond (.t 70)
 .skip
 (.exit 4))
 (.seq (.block 5
 (.seq (.reg [⟨(some 71), (.dry (.iaddr 2 (.t 67) (.t 69))), none⟩,
 ⟨(some 72), (.wet (.load 2 true (.t 71))), none⟩,
 ⟨(some 10), (.wet (.alloc 191 2 [(.int .i64 0), .nils])), none⟩,
 ⟨none, (.wet (.store 2 (.t 10) (.t 72))), none⟩])
 (.reg [⟨(some 73), (.dry (.mov (.t 4))), none⟩,
 ⟨(some 74), (.dry (.mov (.t 5))), none⟩,
 ⟨(some 75), (.dry (.faddr 1 1 false (.t 10))), none⟩,
 ⟨(some 76), (.wet (.load 1 false (.t 75))), none⟩,
 ⟨(some 77), (.call (.t 73) [(.t 74), (.t 76)]), none⟩])))
 (.reg [⟨(some 78), (.dry (.bin .add (.t 69) (.k (.int .i64 1)))), none⟩,
 ⟨(some 69), (.dry (.mov (.t 78))), none⟩])))))))))))
 (.reg [⟨(some 79), (.dry (.bin .add (.t 30) (.k (.int .i64 1)))), none⟩,
 ⟨(some 30), (.dry (.mov (.t 79))), none⟩])))))))
 (.seq (.seq (.reg [⟨(some 80), (.dry (.faddr 3 1 false (.t 1))), none⟩,
 ⟨(some 81), (.wet (.load 1 false (.t 80))), none⟩,
 ⟨(some 82), (.dry (.iaddr 6 (.t 81) (.k (.int .i64 0)))), none⟩,
 ⟨(some 83), (.dry (.faddr 0 1 false (.t 82))), none⟩,
 ⟨(some 84), (.wet (.load 1 false (.t 83))), none⟩,
 ⟨(some 85), (.dry (.len (.t 84))), none⟩,
 ⟨(some 86), (.dry (.mov (.k (.int .i64 0)))), none⟩])
 (.block 6
 (.loop
 (.seq (.reg [⟨(some 87), (.dry (.bin .lss (.t 86) (.t 85))), none⟩])
 (.seq (.cond (.t 87)
 .skip
 (.exit 6))
 (.seq (.block 7
 (.seq (.reg [⟨(some 88), (.dry (.iaddr 1 (.t 84) (.t 86))), none⟩,
 ⟨(some 89), (.wet (.load 1 false (.t 88))), none⟩,
 ⟨(some 12), (.dry (.mov (.t 89))), none⟩])
 (.reg [⟨(some 90), (.wet (.load 1 false (.t 3))), none⟩,
 ⟨(some 91), (.dry (.nilchk (.t 90))), none⟩,
 ⟨(some 92), (.dry (.faddr 4 1 false (.t 91))), none⟩,
 ⟨(some 93), (.wet (.load 1 false (.t 92))), none⟩,
 ⟨(some 94), (.dry (.mov (.t 12))), none⟩,
 ⟨(some 95), (.dry (.build [(.int .i64 0), (.int .u64 0)] [(0, 1, (.k (.int .i64 2)))])), none⟩,
 ⟨(some 96), (.dry (.iaddr 2 (.t 93) (.t 94))), none⟩,
 ⟨none, (.wet (.store 2 (.t 96) (.t 95))), none⟩])))
 (.reg [⟨(some 97), (.dry (.bin .add (.t 86) (.k (.int .i64 1)))), none⟩,
 ⟨(some 86), (.dry (.mov (.t 97))), none⟩])))))))
 (.seq (.reg [⟨(some 98), (.wet (.load 1 false (.t 3))), none⟩,
 ⟨(some 99), (.dry (.nilchk (.t 98))), none⟩,
 ⟨(some 100), (.dry (.faddr 5 1 false (.t 99))), none⟩,
 ⟨(some 101), (.wet (.load 1 false (.t 100))), none⟩,
 ⟨(some 102), (.dry (.iaddr 1 (.t 101) (.k (.int .i64 0)))), none⟩,
 ⟨none, (.wet (.store 1 (.t 102) (.k (.bool true)))), none⟩])
 (.seq (.reg [⟨(some 103), (.wet (.load 1 false (.t 3))), none⟩,
 ⟨(some 104), (.wet (.bsl 1 1 [(.int .i64 0)] [(0, (.k (.int .i64 0)))])), none⟩,
 ⟨(some 105), (.dry (.nilchk (.t 103))), none⟩,
 ⟨(some 106), (.dry (.faddr 7 1 false (.t 105))), none⟩,
 ⟨none, (.wet (.store 1 (.t 106) (.t 104))), none⟩])
 (.seq (.block 8
 (.loop
 (.seq (.seq (.reg [⟨(some 107), (.wet (.load 1 false (.t 3))), none⟩,
 ⟨(some 108), (.dry (.nilchk (.t 107))), none⟩,
 ⟨(some 109), (.dry (.faddr 7 1 false (.t 108))), none⟩,
 ⟨(some 110), (.wet (.load 1 false (.t 109))), none⟩,
 ⟨(some 111), (.dry (.len (.t 110))), none⟩,
 ⟨(some 112), (.dry (.bin .gtr (.t 111) (.k (.int .i64 0)))), none⟩])
 (.cond (.t 112)
 .skip
 (.exit 8)))
 (.block 9
 (.seq (.reg [⟨(some 113), (.wet (.load 1 false (.t 3))), none⟩,
 ⟨(some 114), (.dry (.nilchk (.t 113))), none⟩,
 ⟨(some 115), (.dry (.faddr 7 1 false (.t 114))), none⟩,
 ⟨(some 116), (.wet (.load 1 false (.t 115))), none⟩,
 ⟨(some 117), (.dry (.iaddr 1 (.t 116) (.k (.int .i64 0)))), none⟩,
 ⟨(some 118), (.wet (.load 1 false (.t 117))), none⟩,
 ⟨(some 13), (.dry (.mov (.t 118))), none⟩])
 (.seq (.draw [(⟨(some 119), (.wet (.load 1 false (.t 3))), none⟩, 0, false),
 (⟨(some 120), (.wet (.load 1 false (.t 3))), none⟩, 0, false),
 (⟨(some 121), (.dry (.nilchk (.t 120))), none⟩, 2, false),
 (⟨(some 122), (.dry (.faddr 7 1 false (.t 121))), none⟩, 6, false),
 (⟨(some 123), (.wet (.load 1 false (.t 122))), none⟩, 14, false),
 (⟨(some 124), (.wet (.slice 1 (.t 123) (some (.k (.int .i64 1))) none)), none⟩, 30, false),
 (⟨(some 125), (.dry (.nilchk (.t 119))), none⟩, 63, false),
 (⟨(some 126), (.dry (.faddr 7 1 false (.t 125))), none⟩, 127, false),
 (⟨none, (.wet (.store 1 (.t 126) (.t 124))), none⟩, 255, true)])
 (.seq (.reg [⟨(some 127), (.wet (.load 1 false (.t 3))), none⟩,
 ⟨(some 128), (.dry (.nilchk (.t 127))), none⟩,
 ⟨(some 129), (.dry (.faddr 5 1 false (.t 128))), none⟩,
 ⟨(some 130), (.wet (.load 1 false (.t 129))), none⟩,
 ⟨(some 131), (.dry (.mov (.t 13))), none⟩,
 ⟨(some 132), (.dry (.iaddr 1 (.t 130) (.t 131))), none⟩,
 ⟨(some 133), (.wet (.load 1 false (.t 132))), none⟩])
 (.cond (.t 133)
 (.reg [⟨(some 134), (.wet (.load 1 false (.t 3))), none⟩,
 ⟨(some 135), (.dry (.mov (.t 13))), none⟩,
 ⟨(some 136), (.call (.k (.fn 142 [] [])) [(.t 134), (.t 135)]), none⟩])
 .skip))))))))
 (.seq (.reg [⟨(some 137), (.wet (.load 1 false (.t 3))), none⟩,
 ⟨(some 2), (.dry (.mov (.t 137))), none⟩])
 .ret))))))))) }

/-- (*bellcrank/sccp.solver).turn -/
def e89 : EFunc := { own := none, res := [(.cell 6 6 true)], ntmps := 131, pure := false, body :=
 (.seq (.reg [⟨(some 4), (.wet (.box 6 (.t 1))), none⟩,
 ⟨(some 6), (.wet (.alloc 137 6 [.nils, .nils, (.int .i64 0), (.int .i64 0), .nils, .nils])), none⟩])
 (.seq (.reg [⟨(some 7), (.wet (.alloc 137 6 [.nils, .nils, (.int .i64 0), (.int .i64 0), .nils, .nils])), none⟩])
 (.seq (.seq (.reg [⟨(some 15), (.dry (.faddr 0 1 false (.t 4))), none⟩,
 ⟨(some 16), (.wet (.load 1 false (.t 15))), none⟩,
 ⟨(some 17), (.dry (.len (.t 16))), none⟩,
 ⟨(some 18), (.dry (.mov (.k (.int .i64 0)))), none⟩])
 (.block 0
 (.loop
 (.seq (.reg [⟨(some 19), (.dry (.bin .lss (.t 18) (.t 17))), none⟩])
 (.seq (.cond (.t 19)
 .skip
 (.exit 0))
 (.seq (.block 1
 (.seq (.reg [⟨(some 20), (.dry (.iaddr 1 (.t 16) (.t 18))), none⟩,
 ⟨(some 21), (.wet (.load 1 false (.t 20))), none⟩,
 ⟨(some 9), (.dry (.mov (.t 21))), none⟩])
 (.seq (.reg [⟨(some 22), (.dry (.mov (.t 0))), none⟩,
 ⟨(some 23), (.dry (.mov (.t 9))), none⟩,
 ⟨(some 24), (.call (.k (.fn 143 [] [])) [(.t 22), (.t 23)]), none⟩])
 (.cond (.t 24)
 (.draw [(⟨(some 25), (.dry (.faddr 1 1 false (.t 7))), none⟩, 0, false),
 (⟨(some 26), (.wet (.load 1 false (.t 25))), none⟩, 1, false),
 (⟨(some 27), (.dry (.mov (.t 0))), none⟩, 0, false),
 (⟨(some 28), (.dry (.mov (.t 9))), none⟩, 0, false),
 (⟨(some 29), (.call (.k (.fn 144 [] [])) [(.t 27), (.t 28)]), none⟩, 12, false),
 (⟨(some 30), (.wet (.bsl 4 1 [(.int .i64 0), (.int .u64 0), .nils, .nils] [(0, (.t 29))])), none⟩, 28, false),
 (⟨(some 31), (.wet (.append 142 4 64 (.t 26) (.t 30))), none⟩, 63, true),
 (⟨(some 32), (.dry (.faddr 1 1 false (.t 7))), none⟩, 127, false),
 (⟨none, (.wet (.store 1 (.t 32) (.t 31))), none⟩, 255, true)])
 (.reg [⟨(some 33), (.dry (.faddr 0 1 false (.t 7))), none⟩,
 ⟨(some 34), (.wet (.load 1 false (.t 33))), none⟩,
 ⟨(some 35), (.dry (.mov (.t 9))), none⟩,
 ⟨(some 36), (.wet (.bsl 1 1 [(.int .i64 0)] [(0, (.t 35))])), none⟩,
 ⟨(some 37), (.wet (.append 8 1 8 (.t 34) (.t 36))), none⟩,
 ⟨(some 38), (.dry (.faddr 0 1 false (.t 7))), none⟩,
 ⟨none, (.wet (.store 1 (.t 38) (.t 37))), none⟩])))))
 (.reg [⟨(some 39), (.dry (.bin .add (.t 18) (.k (.int .i64 1)))), none⟩,
 ⟨(some 18), (.dry (.mov (.t 39))), none⟩])))))))
 (.seq (.seq (.reg [⟨(some 40), (.dry (.faddr 1 1 false (.t 4))), none⟩,
 ⟨(some 41), (.wet (.load 1 false (.t 40))), none⟩,
 ⟨(some 42), (.dry (.len (.t 41))), none⟩,
 ⟨(some 43), (.dry (.mov (.k (.int .i64 0)))), none⟩])
 (.block 2
 (.loop
 (.seq (.reg [⟨(some 44), (.dry (.bin .lss (.t 43) (.t 42))), none⟩])
 (.seq (.cond (.t 44)
 .skip
 (.exit 2))
 (.seq (.block 3
 (.seq (.reg [⟨(some 45), (.dry (.iaddr 4 (.t 41) (.t 43))), none⟩,
 ⟨(some 46), (.wet (.load 4 true (.t 45))), none⟩,
 ⟨(some 11), (.wet (.alloc 143 4 [(.int .i64 0), (.int .u64 0), .nils, .nils])), none⟩,
 ⟨none, (.wet (.store 4 (.t 11) (.t 46))), none⟩])
 (.seq (.seq (.reg [⟨(some 47), (.dry (.faddr 0 1 false (.t 11))), none⟩,
 ⟨(some 48), (.wet (.load 1 false (.t 47))), none⟩,
 ⟨(some 49), (.call (.k (.fn 95 [] [])) [(.t 48)]), none⟩,
 ⟨(some 50), (.dry (.mov (.t 49))), none⟩,
 ⟨(some 51), (.dry (.mov (.t 0))), (some (50, true))⟩,
 ⟨(some 52), (.dry (.faddr 3 1 false (.t 11))), (some (50, true))⟩,
 ⟨(some 53), (.wet (.load 1 false (.t 52))), (some (50, true))⟩,
 ⟨(some 54), (.dry (.iaddr 1 (.t 53) (.k (.int .i64 0)))), (some (50, true))⟩,
 ⟨(some 55), (.wet (.load 1 false (.t 54))), (some (50, true))⟩,
 ⟨(some 56), (.call (.k (.fn 143 [] [])) [(.t 51), (.t 55)]), (some (50, true))⟩,
 ⟨(some 57), (.dry (.pick (.t 50) (.t 56) (.k (.bool false)))), none⟩])
 (.cond (.t 57)
 (.reg [⟨(some 58), (.dry (.mov (.t 0))), none⟩,
 ⟨(some 59), (.dry (.faddr 3 1 false (.t 11))), none⟩,
 ⟨(some 60), (.wet (.load 1 false (.t 59))), none⟩,
 ⟨(some 61), (.dry (.iaddr 1 (.t 60) (.k (.int .i64 0)))), none⟩,
 ⟨(some 62), (.wet (.load 1 false (.t 61))), none⟩,
 ⟨(some 63), (.call (.k (.fn 144 [] [])) [(.t 58), (.t 62)]), none⟩,
 ⟨none, (.wet (.store 4 (.t 11) (.t 63))), none⟩])
 .skip))
 (.draw [(⟨(some 64), (.dry (.faddr 1 1 false (.t 7))), none⟩, 0, false),
 (⟨(some 65), (.wet (.load 1 false (.t 64))), none⟩, 1, false),
 (⟨(some 66), (.dry (.faddr 0 1 false (.t 11))), none⟩, 0, false),
 (⟨(some 67), (.wet (.load 1 false (.t 66))), none⟩, 4, false),
 (⟨(some 68), (.dry (.faddr 1 1 false (.t 11))), none⟩, 0, false),
 (⟨(some 69), (.wet (.load 1 false (.t 68))), none⟩, 16, false),
 (⟨(some 70), (.dry (.faddr 2 1 false (.t 11))), none⟩, 0, false),
 (⟨(some 71), (.wet (.load 1 false (.t 70))), none⟩, 64, false),
 (⟨(some 72), (.call (.k (.fn 42 [] [])) [(.t 71)]), none⟩, 192, false),
 (⟨(some 73), (.dry (.faddr 3 1 false (.t 11))), none⟩, 0, false),
 (⟨(some 74), (.wet (.load 1 false (.t 73))), none⟩, 512, false),
 (⟨(some 75), (.call (.k (.fn 42 [] [])) [(.t 74)]), none⟩, 1984, false),
 (⟨(some 76), (.dry (.build [(.int .i64 0), (.int .u64 0), .nils, .nils] [(0, 1, (.t 67)), (1, 1, (.t 69)), (2, 1, (.t 72)), (3, 1, (.t 75))])), none⟩, 4092, false),
 (⟨(some 77), (.wet (.bsl 4 1 [(.int .i64 0), (.int .u64 0), .nils, .nils] [(0, (.t 76))])), none⟩, 8188, false),
 (⟨(some 78), (.wet (.append 142 4 64 (.t 65) (.t 77))), none⟩, 16383, true),
 (⟨(some 79), (.dry (.faddr 1 1 false (.t 7))), none⟩, 32767, false),
 (⟨none, (.wet (.store 1 (.t 79) (.t 78))), none⟩, 65535, true)]))))
 (.reg [⟨(some 80), (.dry (.bin .add (.t 43) (.k (.int .i64 1)))), none⟩,
 ⟨(some 43), (.dry (.mov (.t 80))), none⟩])))))))
 (.seq (.reg [⟨(some 81), (.dry (.faddr 2 4 true (.t 4))), none⟩,
 ⟨(some 82), (.wet (.load 4 true (.t 81))), none⟩,
 ⟨(some 12), (.wet (.alloc 133 4 [(.int .i64 0), (.int .i64 0), .nils, .nils])), none⟩,
 ⟨none, (.wet (.store 4 (.t 12) (.t 82))), none⟩])
 (.seq (.draw [(⟨(some 83), (.dry (.faddr 0 1 false (.t 12))), none⟩, 0, false),
 (⟨(some 84), (.wet (.load 1 false (.t 83))), none⟩, 1, false),
 (⟨(some 85), (.dry (.faddr 1 1 false (.t 12))), none⟩, 0, false),
 (⟨(some 86), (.wet (.load 1 false (.t 85))), none⟩, 4, false),
 (⟨(some 87), (.dry (.faddr 3 1 false (.t 12))), none⟩, 0, false),
 (⟨(some 88), (.wet (.load 1 false (.t 87))), none⟩, 16, false),
 (⟨(some 89), (.call (.k (.fn 42 [] [])) [(.t 88)]), none⟩, 48, false),
 (⟨(some 90), (.dry (.build [(.int .i64 0), (.int .i64 0), .nils, .nils] [(0, 1, (.t 84)), (1, 1, (.t 86)), (3, 1, (.t 89))])), none⟩, 127, false),
 (⟨(some 91), (.dry (.faddr 2 4 true (.t 7))), none⟩, 255, false),
 (⟨none, (.wet (.store 4 (.t 91) (.t 90))), none⟩, 511, true)])
 (.seq (.seq (.reg [⟨(some 92), (.dry (.mov (.t 0))), none⟩,
 ⟨(some 93), (.wet (.load 4 true (.t 12))), none⟩,
 ⟨(some 94), (.call (.k (.fn 145 [] [])) [(.t 92), (.t 93)]), none⟩,
 ⟨(some 95), (.dry (.len (.t 94))), none⟩,
 ⟨(some 96), (.dry (.mov (.k (.int .i64 0)))), none⟩])
 (.block 4
 (.loop
 (.seq (.reg [⟨(some 97), (.dry (.bin .lss (.t 96) (.t 95))), none⟩])
 (.seq (.cond (.t 97)
 .skip
 (.exit 4))
 (.seq (.block 5
 (.seq (.reg [⟨(some 98), (.dry (.iaddr 2 (.t 94) (.t 96))), none⟩,
 ⟨(some 99), (.wet (.load 2 true (.t 98))), none⟩,
 ⟨(some 14), (.wet (.alloc 191 2 [(.int .i64 0), .nils])), none⟩,
 ⟨none, (.wet (.store 2 (.t 14) (.t 99))), none⟩])
 (.draw [(⟨(some 100), (.dry (.faddr 2 4 true (.t 7))), none⟩, 0, false),
 (⟨(some 101), (.dry (.faddr 2 1 false (.t 100))), none⟩, 1, false),
 (⟨(some 102), (.wet (.load 1 false (.t 101))), none⟩, 3, false),
 (⟨(some 103), (.dry (.mov (.t 0))), none⟩, 0, false),
 (⟨(some 104), (.wet (.load 2 true (.t 14))), none⟩, 0, false),
 (⟨(some 105), (.dry (.mov (.t 2))), none⟩, 0, false),
 (⟨(some 106), (.call (.k (.fn 146 [] [])) [(.t 103), (.t 104), (.t 105)]), none⟩, 56, false),
 (⟨(some 107), (.wet (.bsl 2 1 [(.int .i64 0), .nils] [(0, (.t 106))])), none⟩, 120, false),
 (⟨(some 108), (.wet (.append 190 2 32 (.t 102) (.t 107))), none⟩, 255, true),
 (⟨(some 109), (.dry (.faddr 2 4 true (.t 7))), none⟩, 511, false),
 (⟨(some 110), (.dry (.faddr 2 1 false (.t 109))), none⟩, 1023, false),
 (⟨none, (.wet (.store 1 (.t 110) (.t 108))), none⟩, 2047, true)])))
 (.reg [⟨(some 111), (.dry (.bin .add (.t 96) (.k (.int .i64 1)))), none⟩,
 ⟨(some 96), (.dry (.mov (.t 111))), none⟩])))))))
 (.seq (.seq (.reg [⟨(some 112), (.dry (.faddr 0 1 false (.t 12))), none⟩,
 ⟨(some 113), (.wet (.load 1 false (.t 112))), none⟩,
 ⟨(some 114), (.dry (.eq (.prim .i) false (.t 113) (.k (.int .i64 2)))), none⟩,
 ⟨(some 115), (.dry (.mov (.t 114))), none⟩,
 ⟨(some 116), (.dry (.faddr 0 1 false (.t 12))), (some (115, false))⟩,
 ⟨(some 117), (.wet (.load 1 false (.t 116))), (some (115, false))⟩,
 ⟨(some 118), (.dry (.eq (.prim .i) false (.t 117) (.k (.int .i64 3)))), (some (115, false))⟩,
 ⟨(some 119), (.dry (.pick (.t 115) (.k (.bool true)) (.t 118))), none⟩,
 ⟨(some 120), (.dry (.mov (.t 119))), none⟩,
 ⟨(some 121), (.dry (.mov (.t 0))), (some (120, true))⟩,
 ⟨(some 122), (.dry (.faddr 1 1 false (.t 12))), (some (120, true))⟩,
 ⟨(some 123), (.wet (.load 1 false (.t 122))), (some (120, true))⟩,
 ⟨(some 124), (.call (.k (.fn 143 [] [])) [(.t 121), (.t 123)]), (some (120, true))⟩,
 ⟨(some 125), (.dry (.pick (.t 120) (.t 124) (.k (.bool false)))), none⟩])
 (.cond (.t 125)
 (.reg [⟨(some 126), (.dry (.faddr 2 4 true (.t 7))), none⟩,
 ⟨(some 127), (.dry (.faddr 0 1 false (.t 126))), none⟩,
 ⟨none, (.wet (.store 1 (.t 127) (.k (.int .i64 1)))), none⟩,
 ⟨(some 128), (.dry (.faddr 2 4 true (.t 7))), none⟩,
 ⟨(some 129), (.dry (.faddr 1 1 false (.t 128))), none⟩,
 ⟨none, (.wet (.store 1 (.t 129) (.k (.int .i64 0)))), none⟩])
 .skip))
 (.seq (.reg [⟨(some 130), (.wet (.load 6 true (.t 7))), none⟩,
 ⟨none, (.wet (.store 6 (.t 6) (.t 130))), none⟩])
 .ret))))))))) }

/-- bellcrank/graph.Order -/
def e90 : EFunc := { own := none, res := [(.tmp 2), (.tmp 3)], ntmps := 9, pure := false, body :=
 (.seq (.reg [⟨(some 2), (.dry (.mov (.k .nils))), none⟩,
 ⟨(some 3), (.dry (.mov (.k (.int .i64 0)))), none⟩])
 (.seq (.seq (.reg [⟨(some 4), (.dry (.mov (.t 0))), none⟩,
 ⟨(some 5), (.call (.k (.fn 147 [] [])) [(.t 4)]), none⟩,
 ⟨(some 6), (.dry (.not (.t 5))), none⟩])
 (.cond (.t 6)
 (.seq (.reg [⟨(some 2), (.dry (.mov (.k .nils))), none⟩,
 ⟨(some 3), (.dry (.mov (.k (.int .i64 1)))), none⟩])
 .ret)
 .skip))
 (.seq (.reg [⟨(some 7), (.dry (.mov (.t 0))), none⟩,
 ⟨(some 8), (.call (.k (.fn 148 [] [])) [(.t 7)]), none⟩,
 ⟨(some 2), (.dry (.mov (.t 8))), none⟩,
 ⟨(some 3), (.dry (.mov (.k (.int .i64 0)))), none⟩])
 .ret))) }

/-- bellcrank/ssa.Succ -/
def e91 : EFunc := { own := none, res := [(.tmp 2)], ntmps := 39, pure := false, body :=
 (.seq (.reg [⟨(some 1), (.wet (.box 4 (.t 0))), none⟩,
 ⟨(some 2), (.dry (.mov (.k .nils))), none⟩])
 (.seq (.seq (.reg [⟨(some 9), (.wet (.load 4 true (.t 1))), none⟩,
 ⟨(some 10), (.call (.k (.fn 39 [] [])) [(.t 9)]), none⟩,
 ⟨(some 11), (.dry (.not (.t 10))), none⟩])
 (.cond (.t 11)
 (.seq (.reg [⟨(some 2), (.dry (.mov (.k .nils))), none⟩])
 .ret)
 .skip))
 (.seq (.reg [⟨(some 3), (.dry (.mov (.k .nils))), none⟩])
 (.seq (.seq (.reg [⟨(some 12), (.dry (.faddr 3 1 false (.t 1))), none⟩,
 ⟨(some 13), (.wet (.load 1 false (.t 12))), none⟩,
 ⟨(some 14), (.dry (.len (.t 13))), none⟩,
 ⟨(some 15), (.dry (.mov (.k (.int .i64 0)))), none⟩])
 (.block 0
 (.loop
 (.seq (.reg [⟨(some 16), (.dry (.bin .lss (.t 15) (.t 14))), none⟩])
 (.seq (.cond (.t 16)
 .skip
 (.exit 0))
 (.seq (.block 1
 (.seq (.reg [⟨(some 17), (.dry (.iaddr 6 (.t 13) (.t 15))), none⟩,
 ⟨(some 18), (.wet (.load 6 true (.t 17))), none⟩,
 ⟨(some 5), (.wet (.alloc 137 6 [.nils, .nils, (.int .i64 0), (.int .i64 0), .nils, .nils])), none⟩,
 ⟨none, (.wet (.store 6 (.t 5) (.t 18))), none⟩])
 (.seq (.reg [⟨(some 6), (.dry (.mov (.k .nils))), none⟩])
 (.seq (.seq (.reg [⟨(some 19), (.dry (.faddr 2 4 true (.t 5))), none⟩,
 ⟨(some 20), (.dry (.faddr 2 1 false (.t 19))), none⟩,
 ⟨(some 21), (.wet (.load 1 false (.t 20))), none⟩,
 ⟨(some 22), (.dry (.len (.t 21))), none⟩,
 ⟨(some 23), (.dry (.mov (.k (.int .i64 0)))), none⟩])
 (.block 2
 (.loop
 (.seq (.reg [⟨(some 24), (.dry (.bin .lss (.t 23) (.t 22))), none⟩])
 (.seq (.cond (.t 24)
 .skip
 (.exit 2))
 (.seq (.block 3
 (.seq (.reg [⟨(some 25), (.dry (.iaddr 2 (.t 21) (.t 23))), none⟩,
 ⟨(some 26), (.wet (.load 2 true (.t 25))), none⟩,
 ⟨(some 8), (.wet (.alloc 191 2 [(.int .i64 0), .nils])), none⟩,
 ⟨none, (.wet (.store 2 (.t 8) (.t 26))), none⟩])
 (.reg [⟨(some 27), (.dry (.mov (.t 6))), none⟩,
 ⟨(some 28), (.dry (.faddr 0 1 false (.t 8))), none⟩,
 ⟨(some 29), (.wet (.load 1 false (.t 28))), none⟩,
 ⟨(some 30), (.wet (.bsl 1 1 [(.int .i64 0)] [(0, (.t 29))])), none⟩,
 ⟨(some 31), (.wet (.append 8 1 8 (.t 27) (.t 30))), none⟩,
 ⟨(some 6), (.dry (.mov (.t 31))), none⟩])))
 (.reg [⟨(some 32), (.dry (.bin .add (.t 23) (.k (.int .i64 1)))), none⟩,
 ⟨(some 23), (.dry (.mov (.t 32))), none⟩])))))))
 (.reg [⟨(some 33), (.dry (.mov (.t 3))), none⟩,
 ⟨(some 34), (.dry (.mov (.t 6))), none⟩,
 ⟨(some 35), (.wet (.bsl 1 1 [.nils] [(0, (.t 34))])), none⟩,
 ⟨(some 36), (.wet (.append 48 1 24 (.t 33) (.t 35))), none⟩,
 ⟨(some 3), (.dry (.mov (.t 36))), none⟩])))))
 (.reg [⟨(some 37), (.dry (.bin .add (.t 15) (.k (.int .i64 1)))), none⟩,
 ⟨(some 15), (.dry (.mov (.t 37))), none⟩])))))))
 (.seq (.reg [⟨(some 38), (.dry (.mov (.t 3))), none⟩,
 ⟨(some 2), (.dry (.mov (.t 38))), none⟩])
 .ret))))) }

/-- bellcrank/graph.Nearest -/
def e92 : EFunc := { own := none, res := [(.tmp 2), (.tmp 3)], ntmps := 99, pure := false, body :=
 (.seq (.reg [⟨(some 2), (.dry (.mov (.k .nils))), none⟩,
 ⟨(some 3), (.dry (.mov (.k (.int .i64 0)))), none⟩])
 (.seq (.reg [⟨(some 19), (.dry (.mov (.t 0))), none⟩,
 ⟨(some 20), (.call (.k (.fn 149 [] [])) [(.t 19)]), none⟩,
 ⟨(some 18), (.dry (.mov (.t 20))), none⟩,
 ⟨(some 21), (.dry (.extract (.t 18) 0)), none⟩,
 ⟨(some 22), (.dry (.extract (.t 18) 1)), none⟩,
 ⟨(some 4), (.dry (.mov (.t 21))), none⟩,
 ⟨(some 5), (.dry (.mov (.t 22))), none⟩])
 (.seq (.seq (.reg [⟨(some 23), (.dry (.mov (.t 5))), none⟩,
 ⟨(some 24), (.dry (.eq (.prim .i) true (.t 23) (.k (.int .i64 0)))), none⟩])
 (.cond (.t 24)
 (.seq (.reg [⟨(some 25), (.dry (.mov (.t 5))), none⟩,
 ⟨(some 2), (.dry (.mov (.k .nils))), none⟩,
 ⟨(some 3), (.dry (.mov (.t 25))), none⟩])
 .ret)
 .skip))
 (.seq (.reg [⟨(some 26), (.dry (.mov (.t 0))), none⟩,
 ⟨(some 27), (.call (.k (.fn 148 [] [])) [(.t 26)]), none⟩,
 ⟨(some 6), (.dry (.mov (.t 27))), none⟩])
 (.seq (.reg [⟨(some 28), (.dry (.mov (.t 0))), none⟩,
 ⟨(some 29), (.dry (.len (.t 28))), none⟩,
 ⟨(some 30), (.wet (.mksl 1 8 [(.int .i64 0)] (.t 29) (.t 29))), none⟩,
 ⟨(some 7), (.wet (.alloc 1 1 [.nils])), none⟩,
 ⟨none, (.wet (.store 1 (.t 7) (.t 30))), none⟩])
 (.seq (.seq (.reg [⟨(some 31), (.dry (.mov (.t 6))), none⟩,
 ⟨(some 32), (.dry (.len (.t 31))), none⟩,
 ⟨(some 33), (.dry (.mov (.k (.int .i64 0)))), none⟩])
 (.block 0
 (.loop
 (.seq (.reg [⟨(some 34), (.dry (.bin .lss (.t 33) (.t 32))), none⟩])
 (.seq (.cond (.t 34)
 .skip
 (.exit 0))
 (.seq (.block 1
 (.seq (.reg [⟨(some 35), (.dry (.mov (.t 33))), none⟩,
 ⟨(some 36), (.dry (.iaddr 1 (.t 31) (.t 33))), none⟩,
 ⟨(some 37), (.wet (.load 1 false (.t 36))), none⟩,
 ⟨(some 8), (.dry (.mov (.t 35))), none⟩,
 ⟨(some 9), (.dry (.mov (.t 37))), none⟩])
 (.reg [⟨(some 38), (.wet (.load 1 false (.t 7))), none⟩,
 ⟨(some 39), (.dry (.mov (.t 9))), none⟩,
 ⟨(some 40), (.dry (.mov (.t 8))), none⟩,
 ⟨(some 41), (.dry (.iaddr 1 (.t 38) (.t 39))), none⟩,
 ⟨none, (.wet (.store 1 (.t 41) (.t 40))), none⟩])))
 (.reg [⟨(some 42), (.dry (.bin .add (.t 33) (.k (.int .i64 1)))), none⟩,
 ⟨(some 33), (.dry (.mov (.t 42))), none⟩])))))))
 (.seq (.reg [⟨(some 43), (.wet (.bsl 1 1 [(.int .i64 0)] [(0, (.k (.int .i64 (-1))))])), none⟩,
 ⟨(some 44), (.dry (.mov (.t 0))), none⟩,
 ⟨(some 45), (.dry (.len (.t 44))), none⟩,
 ⟨(some 46), (.call (.k (.fn 150 [] [])) [(.t 43), (.t 45)]), none⟩,
 ⟨(some 10), (.wet (.alloc 1 1 [.nils])), none⟩,
 ⟨none, (.wet (.store 1 (.t 10) (.t 46))), none⟩])
 (.seq (.reg [⟨(some 47), (.wet (.load 1 false (.t 10))), none⟩,
 ⟨(some 48), (.dry (.iaddr 1 (.t 47) (.k (.int .i64 0)))), none⟩,
 ⟨none, (.wet (.store 1 (.t 48) (.k (.int .i64 0)))), none⟩])
 (.seq (.reg [⟨(some 49), (.dry (.mkfn 151 [] [(.t 7), (.t 10)])), none⟩,
 ⟨(some 11), (.dry (.mov (.t 49))), none⟩])
 (.seq (.seq (.reg [⟨(some 12), (.dry (.mov (.k (.bool true)))), none⟩])
 (.block 2
 (.loop
 (.seq (.seq (.reg [⟨(some 50), (.dry (.mov (.t 12))), none⟩])
 (.cond (.t 50)
 .skip
 (.exit 2)))
 (.block 3
 (.seq (.reg [⟨(some 12), (.dry (.mov (.k (.bool false)))), none⟩])
 (.seq (.reg [⟨(some 51), (.dry (.mov (.t 6))), none⟩,
 ⟨(some 52), (.wet (.slice 1 (.t 51) (some (.k (.int .i64 1))) none)), none⟩,
 ⟨(some 53), (.dry (.len (.t 52))), none⟩,
 ⟨(some 54), (.dry (.mov (.k (.int .i64 0)))), none⟩])
 (.block 4
 (.loop
 (.seq (.reg [⟨(some 55), (.dry (.bin .lss (.t 54) (.t 53))), none⟩])
 (.seq (.cond (.t 55)
 .skip
 (.exit 4))
 (.seq (.block 5
 (.seq (.reg [⟨(some 56), (.dry (.iaddr 1 (.t 52) (.t 54))), none⟩,
 ⟨(some 57), (.wet (.load 1 false (.t 56))), none⟩,
 ⟨(some 14), (.dry (.mov (.t 57))), none⟩])
 (.seq (.reg [⟨(some 15), (.dry (.mov (.k (.int .i64 (-1))))), none⟩])
 (.seq (.seq (.reg [⟨(some 58), (.dry (.mov (.t 4))), none⟩,
 ⟨(some 59), (.dry (.mov (.t 14))), none⟩,
 ⟨(some 60), (.dry (.iaddr 1 (.t 58) (.t 59))), none⟩,
 ⟨(some 61), (.wet (.load 1 false (.t 60))), none⟩,
 ⟨(some 62), (.dry (.len (.t 61))), none⟩,
 ⟨(some 63), (.dry (.mov (.k (.int .i64 0)))), none⟩])
 (.block 6
 (.loop
 (.seq (.reg [⟨(some 64), (.dry (.bin .lss (.t 63) (.t 62))), none⟩])
 (.seq (.cond (.t 64)
 .skip
 (.exit 6))
 (.seq (.block 7
 (.seq (.reg [⟨(some 65), (.dry (.iaddr 1 (.t 61) (.t 63))), none⟩,
 ⟨(some 66), (.wet (.load 1 false (.t 65))), none⟩,
 ⟨(some 17), (.dry (.mov (.t 66))), none⟩])
 (.block 8
 (.seq (.reg [⟨(some 72), (.wet (.load 1 false (.t 10))), none⟩,
 ⟨(some 73), (.dry (.mov (.t 17))), none⟩,
 ⟨(some 74), (.dry (.iaddr 1 (.t 72) (.t 73))), none⟩,
 ⟨(some 75), (.wet (.load 1 false (.t 74))), none⟩,
 ⟨(some 76), (.dry (.bin .lss (.t 75) (.k (.int .i64 0)))), none⟩,
 ⟨(some 71), (.dry (.mov (.t 76))), none⟩])
 (.cond (.t 71)
 .skip
 (.seq (.reg [⟨(some 78), (.dry (.mov (.t 15))), none⟩,
 ⟨(some 79), (.dry (.bin .lss (.t 78) (.k (.int .i64 0)))), none⟩,
 ⟨(some 77), (.dry (.mov (.t 79))), none⟩])
 (.cond (.t 77)
 (.reg [⟨(some 80), (.dry (.mov (.t 17))), none⟩,
 ⟨(some 15), (.dry (.mov (.t 80))), none⟩])
 (.reg [⟨(some 67), (.dry (.mov (.t 11))), none⟩,
 ⟨(some 68), (.dry (.mov (.t 15))), none⟩,
 ⟨(some 69), (.dry (.mov (.t 17))), none⟩,
 ⟨(some 70), (.call (.t 67) [(.t 68), (.t 69)]), none⟩,
 ⟨(some 15), (.dry (.mov (.t 70))), none⟩]))))))))
 (.reg [⟨(some 81), (.dry (.bin .add (.t 63) (.k (.int .i64 1)))), none⟩,
 ⟨(some 63), (.dry (.mov (.t 81))), none⟩])))))))
 (.seq (.reg [⟨(some 82), (.dry (.mov (.t 12))), none⟩,
 ⟨(some 83), (.dry (.mov (.t 82))), none⟩,
 ⟨(some 84), (.wet (.load 1 false (.t 10))), (some (83, false))⟩,
 ⟨(some 85), (.dry (.mov (.t 14))), (some (83, false))⟩,
 ⟨(some 86), (.dry (.iaddr 1 (.t 84) (.t 85))), (some (83, false))⟩,
 ⟨(some 87), (.wet (.load 1 false (.t 86))), (some (83, false))⟩,
 ⟨(some 88), (.dry (.mov (.t 15))), (some (83, false))⟩,
 ⟨(some 89), (.dry (.eq (.prim .i) true (.t 87) (.t 88))), (some (83, false))⟩,
 ⟨(some 90), (.dry (.pick (.t 83) (.k (.bool true)) (.t 89))), none⟩,
 ⟨(some 12), (.dry (.mov (.t 90))), none⟩])
 (.reg [⟨(some 91), (.wet (.load 1 false (.t 10))), none⟩,
 ⟨(some 92), (.dry (.mov (.t 14))), none⟩,
 ⟨(some 93), (.dry (.mov (.t 15))), none⟩,
 ⟨(some 94), (.dry (.iaddr 1 (.t 91) (.t 92))), none⟩,
 ⟨none, (.wet (.store 1 (.t 94) (.t 93))), none⟩]))))))
 (.reg [⟨(some 95), (.dry (.bin .add (.t 54) (.k (.int .i64 1)))), none⟩,
 ⟨(some 54), (.dry (.mov (.t 95))), none⟩])))))))))))))
 (.seq (.reg [⟨(some 96), (.wet (.load 1 false (.t 10))), none⟩,
 ⟨(some 97), (.dry (.iaddr 1 (.t 96) (.k (.int .i64 0)))), none⟩,
 ⟨none, (.wet (.store 1 (.t 97) (.k (.int .i64 (-1))))), none⟩])
 (.seq (.reg [⟨(some 98), (.wet (.load 1 false (.t 10))), none⟩,
 ⟨(some 2), (.dry (.mov (.t 98))), none⟩,
 ⟨(some 3), (.dry (.mov (.k (.int .i64 0)))), none⟩])
 .ret)))))))))))) }

/-- slices.DeleteFunc[[]bellcrank/api.Ins,bellcrank/api.Ins] -/
def e93 : EFunc := { own := none, res := [(.tmp 4)], ntmps := 42, pure := false, body :=
 (.seq (.reg [⟨(some 4), (.dry (.mov (.k .nils))), none⟩])
 (.seq (.reg [⟨(some 8), (.dry (.mov (.t 0))), none⟩,
 ⟨(some 9), (.dry (.mov (.t 1))), none⟩,
 ⟨(some 10), (.call (.k (.fn 152 [] [])) [(.t 8), (.t 9)]), none⟩,
 ⟨(some 5), (.dry (.mov (.t 10))), none⟩])
 (.seq (.seq (.reg [⟨(some 11), (.dry (.mov (.t 5))), none⟩,
 ⟨(some 12), (.dry (.eq (.prim .i) false (.t 11) (.k (.int .i64 (-1))))), none⟩])
 (.cond (.t 12)
 (.seq (.reg [⟨(some 13), (.dry (.mov (.t 0))), none⟩,
 ⟨(some 4), (.dry (.mov (.t 13))), none⟩])
 .ret)
 .skip))
 (.seq (.seq (.reg [⟨(some 14), (.dry (.mov (.t 5))), none⟩,
 ⟨(some 15), (.dry (.bin .add (.t 14) (.k (.int .i64 1)))), none⟩,
 ⟨(some 6), (.dry (.mov (.t 15))), none⟩])
 (.block 0
 (.loop
 (.seq (.seq (.reg [⟨(some 16), (.dry (.mov (.t 6))), none⟩,
 ⟨(some 17), (.dry (.mov (.t 0))), none⟩,
 ⟨(some 18), (.dry (.len (.t 17))), none⟩,
 ⟨(some 19), (.dry (.bin .lss (.t 16) (.t 18))), none⟩])
 (.cond (.t 19)
 .skip
 (.exit 0)))
 (.seq (.block 1
 (.seq (.reg [⟨(some 22), (.dry (.mov (.t 0))), none⟩,
 ⟨(some 23), (.dry (.mov (.t 6))), none⟩,
 ⟨(some 24), (.dry (.iaddr 4 (.t 22) (.t 23))), none⟩,
 ⟨(some 25), (.wet (.load 4 true (.t 24))), none⟩,
 ⟨(some 7), (.wet (.alloc 143 4 [(.int .i64 0), (.int .u64 0), .nils, .nils])), none⟩,
 ⟨none, (.wet (.store 4 (.t 7) (.t 25))), none⟩])
 (.seq (.reg [⟨(some 26), (.dry (.mov (.t 1))), none⟩,
 ⟨(some 27), (.wet (.load 4 true (.t 7))), none⟩,
 ⟨(some 28), (.call (.t 26) [(.t 27)]), none⟩,
 ⟨(some 29), (.dry (.not (.t 28))), none⟩])
 (.cond (.t 29)
 (.seq (.reg [⟨(some 30), (.dry (.mov (.t 0))), none⟩,
 ⟨(some 31), (.dry (.mov (.t 5))), none⟩,
 ⟨(some 32), (.wet (.load 4 true (.t 7))), none⟩,
 ⟨(some 33), (.dry (.iaddr 4 (.t 30) (.t 31))), none⟩,
 ⟨none, (.wet (.store 4 (.t 33) (.t 32))), none⟩])
 (.reg [⟨(some 34), (.dry (.mov (.t 5))), none⟩,
 ⟨(some 35), (.dry (.bin .add (.t 34) (.k (.int .i64 1)))), none⟩,
 ⟨(some 5), (.dry (.mov (.t 35))), none⟩]))
 .skip))))
 (.reg [⟨(some 20), (.dry (.mov (.t 6))), none⟩,
 ⟨(some 21), (.dry (.bin .add (.t 20) (.k (.int .i64 1)))), none⟩,
 ⟨(some 6), (.dry (.mov (.t 21))), none⟩]))))))
 (.seq (.reg [⟨(some 36), (.dry (.mov (.t 0))), none⟩,
 ⟨(some 37), (.dry (.mov (.t 5))), none⟩,
 ⟨(some 38), (.wet (.slice 4 (.t 36) (some (.t 37)) none)), none⟩,
 ⟨none, (.wet (.clr 4 [(.int .i64 0), (.int .u64 0), .nils, .nils] (.t 38))), none⟩])
 (.seq (.reg [⟨(some 39), (.dry (.mov (.t 0))), none⟩,
 ⟨(some 40), (.dry (.mov (.t 5))), none⟩,
 ⟨(some 41), (.wet (.slice 4 (.t 39) none (some (.t 40)))), none⟩,
 ⟨(some 4), (.dry (.mov (.t 41))), none⟩])
 .ret)))))) }

/-- bellcrank/gvn.Run$1 -/
def e94 : EFunc := { own := none, res := [(.tmp 7)], ntmps := 76, pure := false, body :=
 (.seq (.reg [⟨(some 6), (.wet (.box 4 (.t 0))), none⟩,
 ⟨(some 7), (.dry (.mov (.k (.bool false)))), none⟩])
 (.seq (.seq (.reg [⟨(some 12), (.dry (.faddr 2 1 false (.t 6))), none⟩,
 ⟨(some 13), (.wet (.load 1 false (.t 12))), none⟩,
 ⟨(some 14), (.dry (.len (.t 13))), none⟩,
 ⟨(some 15), (.dry (.mov (.k (.int .i64 0)))), none⟩])
 (.block 0
 (.loop
 (.seq (.reg [⟨(some 16), (.dry (.bin .lss (.t 15) (.t 14))), none⟩])
 (.seq (.cond (.t 16)
 .skip
 (.exit 0))
 (.seq (.block 1
 (.seq (.reg [⟨(some 17), (.dry (.mov (.t 15))), none⟩,
 ⟨(some 18), (.dry (.iaddr 1 (.t 13) (.t 15))), none⟩,
 ⟨(some 19), (.wet (.load 1 false (.t 18))), none⟩,
 ⟨(some 8), (.dry (.mov (.t 17))), none⟩,
 ⟨(some 9), (.dry (.mov (.t 19))), none⟩])
 (.draw [(⟨(some 20), (.dry (.faddr 2 1 false (.t 6))), none⟩, 0, false),
 (⟨(some 21), (.wet (.load 1 false (.t 20))), none⟩, 1, false),
 (⟨(some 22), (.dry (.mov (.t 8))), none⟩, 0, false),
 (⟨(some 23), (.wet (.load 1 false (.t 1))), none⟩, 0, false),
 (⟨(some 24), (.dry (.mov (.t 9))), none⟩, 0, false),
 (⟨(some 25), (.dry (.iaddr 1 (.t 23) (.t 24))), none⟩, 24, false),
 (⟨(some 26), (.wet (.load 1 false (.t 25))), none⟩, 56, false),
 (⟨(some 27), (.dry (.iaddr 1 (.t 21) (.t 22))), none⟩, 127, false),
 (⟨none, (.wet (.store 1 (.t 27) (.t 26))), none⟩, 255, true)])))
 (.reg [⟨(some 28), (.dry (.bin .add (.t 15) (.k (.int .i64 1)))), none⟩,
 ⟨(some 15), (.dry (.mov (.t 28))), none⟩])))))))
 (.seq (.seq (.reg [⟨(some 29), (.dry (.faddr 0 1 false (.t 6))), none⟩,
 ⟨(some 30), (.wet (.load 1 false (.t 29))), none⟩,
 ⟨(some 31), (.call (.k (.fn 95 [] [])) [(.t 30)]), none⟩,
 ⟨(some 32), (.dry (.not (.t 31))), none⟩])
 (.cond (.t 32)
 (.seq (.reg [⟨(some 7), (.dry (.mov (.k (.bool false)))), none⟩])
 .ret)
 .skip))
 (.seq (.draw [(⟨(some 33), (.wet (.load 4 true (.t 6))), none⟩, 0, false),
 (⟨(some 34), (.dry (.faddr 2 1 false (.t 2))), none⟩, 0, false),
 (⟨(some 35), (.wet (.load 1 false (.t 34))), none⟩, 2, false),
 (⟨(some 36), (.dry (.faddr 3 1 false (.t 6))), none⟩, 0, false),
 (⟨(some 37), (.wet (.load 1 false (.t 36))), none⟩, 8, false),
 (⟨(some 38), (.dry (.iaddr 1 (.t 37) (.k (.int .i64 0)))), none⟩, 24, false),
 (⟨(some 39), (.wet (.load 1 false (.t 38))), none⟩, 56, false),
 (⟨(some 40), (.dry (.iaddr 1 (.t 35) (.t 39))), none⟩, 126, false),
 (⟨(some 41), (.wet (.load 1 false (.t 40))), none⟩, 254, false),
 (⟨(some 42), (.call (.k (.fn 96 [] [])) [(.t 33), (.t 41)]), none⟩, 511, true),
 (⟨(some 10), (.dry (.mov (.t 42))), none⟩, 1023, false)])
 (.seq (.reg [⟨(some 43), (.wet (.load 1 false (.t 3))), none⟩,
 ⟨(some 44), (.dry (.mov (.t 10))), none⟩,
 ⟨(some 45), (.wet (.lookup .s .nils false (.t 43) (.t 44))), none⟩,
 ⟨(some 46), (.dry (.mkfn 98 [] [(.t 4), (.t 5)])), none⟩,
 ⟨(some 47), (.call (.k (.fn 97 [] [])) [(.t 45), (.t 46)]), none⟩,
 ⟨(some 11), (.dry (.mov (.t 47))), none⟩])
 (.seq (.seq (.reg [⟨(some 48), (.dry (.mov (.t 11))), none⟩,
 ⟨(some 49), (.dry (.bin .geq (.t 48) (.k (.int .i64 0)))), none⟩])
 (.cond (.t 49)
 (.seq (.draw [(⟨(some 50), (.wet (.load 1 false (.t 1))), none⟩, 0, false),
 (⟨(some 51), (.dry (.faddr 3 1 false (.t 6))), none⟩, 0, false),
 (⟨(some 52), (.wet (.load 1 false (.t 51))), none⟩, 2, false),
 (⟨(some 53), (.dry (.iaddr 1 (.t 52) (.k (.int .i64 0)))), none⟩, 6, false),
 (⟨(some 54), (.wet (.load 1 false (.t 53))), none⟩, 14, false),
 (⟨(some 55), (.wet (.load 1 false (.t 3))), none⟩, 0, false),
 (⟨(some 56), (.dry (.mov (.t 10))), none⟩, 0, false),
 (⟨(some 57), (.wet (.lookup .s .nils false (.t 55) (.t 56))), none⟩, 96, false),
 (⟨(some 58), (.dry (.mov (.t 11))), none⟩, 0, false),
 (⟨(some 59), (.dry (.iaddr 2 (.t 57) (.t 58))), none⟩, 480, false),
 (⟨(some 60), (.dry (.faddr 0 1 false (.t 59))), none⟩, 992, false),
 (⟨(some 61), (.wet (.load 1 false (.t 60))), none⟩, 2016, false),
 (⟨(some 62), (.dry (.iaddr 1 (.t 50) (.t 54))), none⟩, 4095, false),
 (⟨none, (.wet (.store 1 (.t 62) (.t 61))), none⟩, 8191, true)])
 (.seq (.reg [⟨(some 7), (.dry (.mov (.k (.bool true)))), none⟩])
 .ret))
 .skip))
 (.seq (.draw [(⟨(some 63), (.wet (.load 1 false (.t 3))), none⟩, 0, false),
 (⟨(some 64), (.dry (.mov (.t 10))), none⟩, 0, false),
 (⟨(some 65), (.wet (.load 1 false (.t 3))), none⟩, 0, false),
 (⟨(some 66), (.dry (.mov (.t 10))), none⟩, 0, false),
 (⟨(some 67), (.wet (.lookup .s .nils false (.t 65) (.t 66))), none⟩, 12, false),
 (⟨(some 68), (.dry (.faddr 3 1 false (.t 6))), none⟩, 0, false),
 (⟨(some 69), (.wet (.load 1 false (.t 68))), none⟩, 32, false),
 (⟨(some 70), (.dry (.iaddr 1 (.t 69) (.k (.int .i64 0)))), none⟩, 96, false),
 (⟨(some 71), (.wet (.load 1 false (.t 70))), none⟩, 224, false),
 (⟨(some 72), (.wet (.load 1 false (.t 5))), none⟩, 0, false),
 (⟨(some 73), (.dry (.build [(.int .i64 0), (.int .i64 0)] [(0, 1, (.t 71)), (1, 1, (.t 72))])), none⟩, 992, false),
 (⟨(some 74), (.wet (.bsl 2 1 [(.int .i64 0), (.int .i64 0)] [(0, (.t 73))])), none⟩, 2016, false),
 (⟨(some 75), (.wet (.append 292 2 16 (.t 67) (.t 74))), none⟩, 4092, false),
 (⟨none, (.wet (.mapset .s (.t 63) (.t 64) (.t 75))), none⟩, 8191, true)])
 (.seq (.reg [⟨(some 7), (.dry (.mov (.k (.bool false)))), none⟩])
 .ret)))))))) }

/-- bellcrank/ssa.Pure -/
def e95 : EFunc := { own := none, res := [(.tmp 2)], ntmps := 9, pure := false, body :=
 (.seq (.reg [⟨(some 2), (.dry (.mov (.k (.bool false)))), none⟩])
 (.seq (.seq (.reg [⟨(some 3), (.dry (.mov (.t 0))), none⟩])
 (.block 0
 (.seq (.seq (.reg [⟨(some 5), (.dry (.eq (.prim .i) false (.t 3) (.k (.int .i64 256)))), none⟩,
 ⟨(some 4), (.dry (.mov (.t 5))), none⟩])
 (.cond (.t 4)
 .skip
 (.reg [⟨(some 6), (.dry (.eq (.prim .i) false (.t 3) (.k (.int .i64 27)))), none⟩,
 ⟨(some 4), (.dry (.mov (.t 6))), none⟩])))
 (.cond (.t 4)
 (.seq (.reg [⟨(some 2), (.dry (.mov (.k (.bool true)))), none⟩])
 .ret)
 .skip))))
 (.seq (.reg [⟨(some 7), (.dry (.mov (.t 0))), none⟩,
 ⟨(some 8), (.call (.k (.fn 153 [] [])) [(.t 7)]), none⟩,
 ⟨(some 2), (.dry (.mov (.t 8))), none⟩])
 .ret))) }

/-- bellcrank/gvn.key -/
def e96 : EFunc := { own := none, res := [(.tmp 4)], ntmps := 38, pure := false, body :=
 (.seq (.reg [⟨(some 2), (.wet (.box 4 (.t 0))), none⟩,
 ⟨(some 4), (.dry (.mov (.k (.str [])))), none⟩])
 (.seq (.reg [⟨(some 9), (.dry (.faddr 2 1 false (.t 2))), none⟩,
 ⟨(some 10), (.wet (.load 1 false (.t 9))), none⟩,
 ⟨(some 11), (.call (.k (.fn 42 [] [])) [(.t 10)]), none⟩,
 ⟨(some 5), (.dry (.mov (.t 11))), none⟩])
 (.seq (.seq (.reg [⟨(some 12), (.dry (.faddr 0 1 false (.t 2))), none⟩,
 ⟨(some 13), (.wet (.load 1 false (.t 12))), none⟩,
 ⟨(some 14), (.call (.k (.fn 154 [] [])) [(.t 13)]), none⟩])
 (.cond (.t 14)
 (.reg [⟨(some 15), (.dry (.mov (.t 5))), none⟩,
 ⟨(some 16), (.call (.k (.fn 155 [] [])) [(.t 15)]), none⟩])
 .skip))
 (.seq (.reg [⟨(some 6), (.wet (.alloc 437 2 [.nilp, .nils])), none⟩])
 (.seq (.seq (.reg [⟨(some 17), (.dry (.faddr 0 1 false (.t 2))), none⟩,
 ⟨(some 18), (.wet (.load 1 false (.t 17))), none⟩,
 ⟨(some 19), (.dry (.mov (.t 1))), none⟩,
 ⟨(some 20), (.wet (.bsl 1 2 [(.int .i64 0), (.int .i64 0)] [(0, (.t 18)), (1, (.t 19))])), none⟩,
 ⟨(some 21), (.dry (.mov (.t 5))), none⟩,
 ⟨(some 22), (.wet (.append 8 1 8 (.t 20) (.t 21))), none⟩,
 ⟨(some 23), (.dry (.len (.t 22))), none⟩,
 ⟨(some 24), (.dry (.mov (.k (.int .i64 0)))), none⟩])
 (.block 0
 (.loop
 (.seq (.reg [⟨(some 25), (.dry (.bin .lss (.t 24) (.t 23))), none⟩])
 (.seq (.cond (.t 25)
 .skip
 (.exit 0))
 (.seq (.block 1
 (.seq (.reg [⟨(some 26), (.dry (.iaddr 1 (.t 22) (.t 24))), none⟩,
 ⟨(some 27), (.wet (.load 1 false (.t 26))), none⟩,
 ⟨(some 8), (.dry (.mov (.t 27))), none⟩])
 (.reg [⟨(some 28), (.dry (.mov (.t 8))), none⟩,
 ⟨(some 29), (.call (.k (.fn 157 [] [])) [(.t 28)]), none⟩,
 ⟨(some 30), (.dry (.bin .add (.t 29) (.k (.str [32])))), none⟩,
 ⟨(some 31), (.call (.k (.fn 156 [] [])) [(.t 6), (.t 30)]), none⟩])))
 (.reg [⟨(some 32), (.dry (.bin .add (.t 24) (.k (.int .i64 1)))), none⟩,
 ⟨(some 24), (.dry (.mov (.t 32))), none⟩])))))))
 (.seq (.draw [(⟨(some 33), (.call (.k (.fn 158 [] [])) [(.t 6)]), none⟩, 0, false),
 (⟨(some 34), (.dry (.faddr 1 1 false (.t 2))), none⟩, 0, false),
 (⟨(some 35), (.wet (.load 1 false (.t 34))), none⟩, 2, false),
 (⟨(some 36), (.call (.k (.fn 159 [] [])) [(.t 35), (.k (.int .i64 10))]), none⟩, 7, true),
 (⟨(some 37), (.dry (.bin .add (.t 33) (.t 36))), none⟩, 15, false),
 (⟨(some 4), (.dry (.mov (.t 37))), none⟩, 31, false)])
 .ret)))))) }

/-- slices.IndexFunc[[]bellcrank/gvn.kept,bellcrank/gvn.kept] -/
def e97 : EFunc := { own := none, res := [(.tmp 4)], ntmps := 19, pure := false, body :=
 (.seq (.reg [⟨(some 4), (.dry (.mov (.k (.int .i64 0)))), none⟩])
 (.seq (.seq (.reg [⟨(some 6), (.dry (.mov (.t 0))), none⟩,
 ⟨(some 7), (.dry (.len (.t 6))), none⟩,
 ⟨(some 8), (.dry (.mov (.k (.int .i64 0)))), none⟩])
 (.block 0
 (.loop
 (.seq (.reg [⟨(some 9), (.dry (.bin .lss (.t 8) (.t 7))), none⟩])
 (.seq (.cond (.t 9)
 .skip
 (.exit 0))
 (.seq (.block 1
 (.seq (.reg [⟨(some 10), (.dry (.mov (.t 8))), none⟩,
 ⟨(some 5), (.dry (.mov (.t 10))), none⟩])
 (.seq (.reg [⟨(some 11), (.dry (.mov (.t 1))), none⟩,
 ⟨(some 12), (.dry (.mov (.t 0))), none⟩,
 ⟨(some 13), (.dry (.mov (.t 5))), none⟩,
 ⟨(some 14), (.dry (.iaddr 2 (.t 12) (.t 13))), none⟩,
 ⟨(some 15), (.wet (.load 2 true (.t 14))), none⟩,
 ⟨(some 16), (.call (.t 11) [(.t 15)]), none⟩])
 (.cond (.t 16)
 (.seq (.reg [⟨(some 17), (.dry (.mov (.t 5))), none⟩,
 ⟨(some 4), (.dry (.mov (.t 17))), none⟩])
 .ret)
 .skip))))
 (.reg [⟨(some 18), (.dry (.bin .add (.t 8) (.k (.int .i64 1)))), none⟩,
 ⟨(some 8), (.dry (.mov (.t 18))), none⟩])))))))
 (.seq (.reg [⟨(some 4), (.dry (.mov (.k (.int .i64 (-1))))), none⟩])
 .ret))) }

/-- bellcrank/bce.Run$1 -/
def e100 : EFunc := { own := none, res := [(.tmp 5)], ntmps := 40, pure := false, body :=
 (.seq (.reg [⟨(some 4), (.wet (.box 4 (.t 0))), none⟩,
 ⟨(some 5), (.dry (.mov (.k (.bool false)))), none⟩])
 (.seq (.seq (.reg [⟨(some 8), (.dry (.faddr 0 1 false (.t 4))), none⟩,
 ⟨(some 9), (.wet (.load 1 false (.t 8))), none⟩,
 ⟨(some 10), (.dry (.eq (.prim .i) true (.t 9) (.k (.int .i64 257)))), none⟩])
 (.cond (.t 10)
 (.seq (.reg [⟨(some 5), (.dry (.mov (.k (.bool false)))), none⟩])
 .ret)
 .skip))
 (.seq (.draw [(⟨(some 11), (.dry (.faddr 2 1 false (.t 4))), none⟩, 0, false),
 (⟨(some 12), (.wet (.load 1 false (.t 11))), none⟩, 1, false),
 (⟨(some 13), (.dry (.iaddr 1 (.t 12) (.k (.int .i64 0)))), none⟩, 3, false),
 (⟨(some 14), (.wet (.load 1 false (.t 13))), none⟩, 7, false),
 (⟨(some 15), (.wet (.load 1 false (.t 1))), none⟩, 0, false),
 (⟨(some 16), (.dry (.build [(.int .i64 0), (.int .i64 0)] [(0, 1, (.t 14)), (1, 1, (.t 15))])), none⟩, 31, false),
 (⟨(some 6), (.wet (.alloc 305 2 [(.int .i64 0), (.int .i64 0)])), none⟩, 0, false),
 (⟨none, (.wet (.store 2 (.t 6) (.t 16))), none⟩, 127, true)])
 (.seq (.seq (.reg [⟨(some 17), (.wet (.load 1 false (.t 1))), none⟩,
 ⟨(some 7), (.dry (.mov (.t 17))), none⟩])
 (.block 0
 (.loop
 (.seq (.seq (.reg [⟨(some 18), (.dry (.mov (.t 7))), none⟩,
 ⟨(some 19), (.dry (.bin .geq (.t 18) (.k (.int .i64 0)))), none⟩])
 (.cond (.t 19)
 .skip
 (.exit 0)))
 (.seq (.block 1
 (.seq (.draw [(⟨(some 24), (.wet (.load 1 false (.t 3))), none⟩, 0, false),
 (⟨(some 25), (.dry (.faddr 2 1 false (.t 4))), none⟩, 0, false),
 (⟨(some 26), (.wet (.load 1 false (.t 25))), none⟩, 2, false),
 (⟨(some 27), (.dry (.iaddr 1 (.t 26) (.k (.int .i64 0)))), none⟩, 6, false),
 (⟨(some 28), (.wet (.load 1 false (.t 27))), none⟩, 14, false),
 (⟨(some 29), (.dry (.mov (.t 7))), none⟩, 0, false),
 (⟨(some 30), (.dry (.build [(.int .i64 0), (.int .i64 0)] [(0, 1, (.t 28)), (1, 1, (.t 29))])), none⟩, 62, false),
 (⟨(some 31), .stuck, none⟩, 127, false),
 (⟨(some 32), (.dry (.faddr 1 1 false (.t 4))), none⟩, 0, false),
 (⟨(some 33), (.wet (.load 1 false (.t 32))), none⟩, 256, false),
 (⟨(some 34), (.dry (.bin .gtr (.t 31) (.t 33))), none⟩, 1023, false)])
 (.cond (.t 34)
 (.seq (.reg [⟨(some 5), (.dry (.mov (.k (.bool true)))), none⟩])
 .ret)
 .skip)))
 (.reg [⟨(some 20), (.wet (.load 1 false (.t 2))), none⟩,
 ⟨(some 21), (.dry (.mov (.t 7))), none⟩,
 ⟨(some 22), (.dry (.iaddr 1 (.t 20) (.t 21))), none⟩,
 ⟨(some 23), (.wet (.load 1 false (.t 22))), none⟩,
 ⟨(some 7), (.dry (.mov (.t 23))), none⟩]))))))
 (.seq (.reg [⟨(some 35), (.wet (.load 1 false (.t 3))), none⟩,
 ⟨(some 36), (.wet (.load 2 true (.t 6))), none⟩,
 ⟨(some 37), (.dry (.faddr 1 1 false (.t 4))), none⟩,
 ⟨(some 38), (.wet (.load 1 false (.t 37))), none⟩,
 ⟨(some 39), (.dry (.bin .add (.t 38) (.k (.int .u64 1)))), none⟩,
 ⟨none, .stuck, none⟩])
 (.seq (.reg [⟨(some 5), (.dry (.mov (.k (.bool false)))), none⟩])
 .ret)))))) }

/-- bellcrank/graph.Loops -/
def e101 : EFunc := { own := none, res := [(.tmp 2), (.tmp 3)], ntmps := 123, pure := false, body :=
 (.seq (.reg [⟨(some 2), (.dry (.mov (.k .nils))), none⟩,
 ⟨(some 3), (.dry (.mov (.k (.int .i64 0)))), none⟩])
 (.seq (.reg [⟨(some 19), (.dry (.mov (.t 0))), none⟩,
 ⟨(some 20), (.call (.k (.fn 92 [] [])) [(.t 19)]), none⟩,
 ⟨(some 18), (.dry (.mov (.t 20))), none⟩,
 ⟨(some 21), (.dry (.extract (.t 18) 0)), none⟩,
 ⟨(some 22), (.dry (.extract (.t 18) 1)), none⟩,
 ⟨(some 4), (.dry (.mov (.t 21))), none⟩,
 ⟨(some 5), (.dry (.mov (.t 22))), none⟩])
 (.seq (.seq (.reg [⟨(some 23), (.dry (.mov (.t 5))), none⟩,
 ⟨(some 24), (.dry (.eq (.prim .i) true (.t 23) (.k (.int .i64 0)))), none⟩])
 (.cond (.t 24)
 (.seq (.reg [⟨(some 25), (.dry (.mov (.t 5))), none⟩,
 ⟨(some 2), (.dry (.mov (.k .nils))), none⟩,
 ⟨(some 3), (.dry (.mov (.t 25))), none⟩])
 .ret)
 .skip))
 (.seq (.reg [⟨(some 27), (.dry (.mov (.t 0))), none⟩,
 ⟨(some 28), (.call (.k (.fn 149 [] [])) [(.t 27)]), none⟩,
 ⟨(some 26), (.dry (.mov (.t 28))), none⟩,
 ⟨(some 29), (.dry (.extract (.t 26) 0)), none⟩,
 ⟨(some 30), (.dry (.extract (.t 26) 1)), none⟩,
 ⟨(some 6), (.dry (.mov (.t 29))), none⟩,
 ⟨(some 7), (.dry (.mov (.t 30))), none⟩])
 (.seq (.reg [⟨(some 8), (.dry (.mov (.k .nils))), none⟩])
 (.seq (.seq (.reg [⟨(some 31), (.dry (.mov (.t 0))), none⟩,
 ⟨(some 32), (.dry (.len (.t 31))), none⟩,
 ⟨(some 33), (.dry (.mov (.k (.int .i64 0)))), none⟩])
 (.block 0
 (.loop
 (.seq (.reg [⟨(some 34), (.dry (.bin .lss (.t 33) (.t 32))), none⟩])
 (.seq (.cond (.t 34)
 .skip
 (.exit 0))
 (.seq (.block 1
 (.seq (.reg [⟨(some 35), (.dry (.mov (.t 33))), none⟩,
 ⟨(some 9), (.dry (.mov (.t 35))), none⟩])
 (.seq (.seq (.reg [⟨(some 36), (.dry (.mov (.t 9))), none⟩,
 ⟨(some 37), (.dry (.bin .gtr (.t 36) (.k (.int .i64 0)))), none⟩,
 ⟨(some 38), (.dry (.mov (.t 37))), none⟩,
 ⟨(some 39), (.dry (.mov (.t 4))), (some (38, true))⟩,
 ⟨(some 40), (.dry (.mov (.t 9))), (some (38, true))⟩,
 ⟨(some 41), (.dry (.iaddr 1 (.t 39) (.t 40))), (some (38, true))⟩,
 ⟨(some 42), (.wet (.load 1 false (.t 41))), (some (38, true))⟩,
 ⟨(some 43), (.dry (.bin .lss (.t 42) (.k (.int .i64 0)))), (some (38, true))⟩,
 ⟨(some 44), (.dry (.pick (.t 38) (.t 43) (.k (.bool false)))), none⟩])
 (.cond (.t 44)
 (.exit 1)
 .skip))
 (.seq (.reg [⟨(some 45), (.dry (.mov (.t 0))), none⟩,
 ⟨(some 46), (.dry (.len (.t 45))), none⟩,
 ⟨(some 47), (.wet (.mksl 1 1 [(.bool false)] (.t 46) (.t 46))), none⟩,
 ⟨(some 10), (.dry (.mov (.t 47))), none⟩])
 (.seq (.reg [⟨(some 11), (.dry (.mov (.k .nils))), none⟩])
 (.seq (.seq (.reg [⟨(some 48), (.dry (.mov (.t 6))), none⟩,
 ⟨(some 49), (.dry (.mov (.t 9))), none⟩,
 ⟨(some 50), (.dry (.iaddr 1 (.t 48) (.t 49))), none⟩,
 ⟨(some 51), (.wet (.load 1 false (.t 50))), none⟩,
 ⟨(some 52), (.dry (.len (.t 51))), none⟩,
 ⟨(some 53), (.dry (.mov (.k (.int .i64 0)))), none⟩])
 (.block 2
 (.loop
 (.seq (.reg [⟨(some 54), (.dry (.bin .lss (.t 53) (.t 52))), none⟩])
 (.seq (.cond (.t 54)
 .skip
 (.exit 2))
 (.seq (.block 3
 (.seq (.reg [⟨(some 55), (.dry (.iaddr 1 (.t 51) (.t 53))), none⟩,
 ⟨(some 56), (.wet (.load 1 false (.t 55))), none⟩,
 ⟨(some 13), (.dry (.mov (.t 56))), none⟩])
 (.seq (.reg [⟨(some 57), (.dry (.mov (.t 4))), none⟩,
 ⟨(some 58), (.dry (.mov (.t 9))), none⟩,
 ⟨(some 59), (.dry (.mov (.t 13))), none⟩,
 ⟨(some 60), (.call (.k (.fn 99 [] [])) [(.t 57), (.t 58), (.t 59)]), none⟩])
 (.cond (.t 60)
 (.reg [⟨(some 61), (.dry (.mov (.t 11))), none⟩,
 ⟨(some 62), (.dry (.mov (.t 13))), none⟩,
 ⟨(some 63), (.wet (.bsl 1 1 [(.int .i64 0)] [(0, (.t 62))])), none⟩,
 ⟨(some 64), (.wet (.append 8 1 8 (.t 61) (.t 63))), none⟩,
 ⟨(some 11), (.dry (.mov (.t 64))), none⟩])
 .skip))))
 (.reg [⟨(some 65), (.dry (.bin .add (.t 53) (.k (.int .i64 1)))), none⟩,
 ⟨(some 53), (.dry (.mov (.t 65))), none⟩])))))))
 (.seq (.seq (.reg [⟨(some 66), (.dry (.mov (.t 11))), none⟩,
 ⟨(some 67), (.dry (.len (.t 66))), none⟩,
 ⟨(some 68), (.dry (.eq (.prim .i) false (.t 67) (.k (.int .i64 0)))), none⟩])
 (.cond (.t 68)
 (.exit 1)
 .skip))
 (.seq (.reg [⟨(some 69), (.dry (.mov (.t 10))), none⟩,
 ⟨(some 70), (.dry (.mov (.t 9))), none⟩,
 ⟨(some 71), (.dry (.iaddr 1 (.t 69) (.t 70))), none⟩,
 ⟨none, (.wet (.store 1 (.t 71) (.k (.bool true)))), none⟩])
 (.seq (.block 4
 (.loop
 (.seq (.seq (.reg [⟨(some 72), (.dry (.mov (.t 11))), none⟩,
 ⟨(some 73), (.dry (.len (.t 72))), none⟩,
 ⟨(some 74), (.dry (.bin .gtr (.t 73) (.k (.int .i64 0)))), none⟩])
 (.cond (.t 74)
 .skip
 (.exit 4)))
 (.block 5
 (.seq (.reg [⟨(some 75), (.dry (.mov (.t 11))), none⟩,
 ⟨(some 76), (.dry (.mov (.t 11))), none⟩,
 ⟨(some 77), (.dry (.len (.t 76))), none⟩,
 ⟨(some 78), (.dry (.bin .sub (.t 77) (.k (.int .i64 1)))), none⟩,
 ⟨(some 79), (.dry (.iaddr 1 (.t 75) (.t 78))), none⟩,
 ⟨(some 80), (.wet (.load 1 false (.t 79))), none⟩,
 ⟨(some 14), (.dry (.mov (.t 80))), none⟩])
 (.seq (.reg [⟨(some 81), (.dry (.mov (.t 11))), none⟩,
 ⟨(some 82), (.dry (.mov (.t 11))), none⟩,
 ⟨(some 83), (.dry (.len (.t 82))), none⟩,
 ⟨(some 84), (.dry (.bin .sub (.t 83) (.k (.int .i64 1)))), none⟩,
 ⟨(some 85), (.wet (.slice 1 (.t 81) none (some (.t 84)))), none⟩,
 ⟨(some 11), (.dry (.mov (.t 85))), none⟩])
 (.seq (.reg [⟨(some 86), (.dry (.mov (.t 10))), none⟩,
 ⟨(some 87), (.dry (.mov (.t 14))), none⟩,
 ⟨(some 88), (.dry (.iaddr 1 (.t 86) (.t 87))), none⟩,
 ⟨(some 89), (.wet (.load 1 false (.t 88))), none⟩,
 ⟨(some 90), (.dry (.not (.t 89))), none⟩])
 (.cond (.t 90)
 (.seq (.reg [⟨(some 91), (.dry (.mov (.t 10))), none⟩,
 ⟨(some 92), (.dry (.mov (.t 14))), none⟩,
 ⟨(some 93), (.dry (.iaddr 1 (.t 91) (.t 92))), none⟩,
 ⟨none, (.wet (.store 1 (.t 93) (.k (.bool true)))), none⟩])
 (.reg [⟨(some 94), (.dry (.mov (.t 11))), none⟩,
 ⟨(some 95), (.dry (.mov (.t 6))), none⟩,
 ⟨(some 96), (.dry (.mov (.t 14))), none⟩,
 ⟨(some 97), (.dry (.iaddr 1 (.t 95) (.t 96))), none⟩,
 ⟨(some 98), (.wet (.load 1 false (.t 97))), none⟩,
 ⟨(some 99), (.wet (.append 8 1 8 (.t 94) (.t 98))), none⟩,
 ⟨(some 11), (.dry (.mov (.t 99))), none⟩]))
 .skip))))))))
 (.seq (.reg [⟨(some 100), (.dry (.mov (.t 9))), none⟩,
 ⟨(some 101), (.dry (.build [(.int .i64 0), .nils] [(0, 1, (.t 100))])), none⟩,
 ⟨(some 15), (.wet (.alloc 315 2 [(.int .i64 0), .nils])), none⟩,
 ⟨none, (.wet (.store 2 (.t 15) (.t 101))), none⟩])
 (.seq (.seq (.reg [⟨(some 102), (.dry (.mov (.t 10))), none⟩,
 ⟨(some 103), (.dry (.len (.t 102))), none⟩,
 ⟨(some 104), (.dry (.mov (.k (.int .i64 0)))), none⟩])
 (.block 6
 (.loop
 (.seq (.reg [⟨(some 105), (.dry (.bin .lss (.t 104) (.t 103))), none⟩])
 (.seq (.cond (.t 105)
 .skip
 (.exit 6))
 (.seq (.block 7
 (.seq (.reg [⟨(some 106), (.dry (.mov (.t 104))), none⟩,
 ⟨(some 107), (.dry (.iaddr 1 (.t 102) (.t 104))), none⟩,
 ⟨(some 108), (.wet (.load 1 false (.t 107))), none⟩,
 ⟨(some 16), (.dry (.mov (.t 106))), none⟩,
 ⟨(some 17), (.dry (.mov (.t 108))), none⟩])
 (.seq (.reg [⟨(some 109), (.dry (.mov (.t 17))), none⟩])
 (.cond (.t 109)
 (.reg [⟨(some 110), (.dry (.faddr 1 1 false (.t 15))), none⟩,
 ⟨(some 111), (.wet (.load 1 false (.t 110))), none⟩,
 ⟨(some 112), (.dry (.mov (.t 16))), none⟩,
 ⟨(some 113), (.wet (.bsl 1 1 [(.int .i64 0)] [(0, (.t 112))])), none⟩,
 ⟨(some 114), (.wet (.append 8 1 8 (.t 111) (.t 113))), none⟩,
 ⟨(some 115), (.dry (.faddr 1 1 false (.t 15))), none⟩,
 ⟨none, (.wet (.store 1 (.t 115) (.t 114))), none⟩])
 .skip))))
 (.reg [⟨(some 116), (.dry (.bin .add (.t 104) (.k (.int .i64 1)))), none⟩,
 ⟨(some 104), (.dry (.mov (.t 116))), none⟩])))))))
 (.reg [⟨(some 117), (.dry (.mov (.t 8))), none⟩,
 ⟨(some 118), (.wet (.load 2 true (.t 15))), none⟩,
 ⟨(some 119), (.wet (.bsl 2 1 [(.int .i64 0), .nils] [(0, (.t 118))])), none⟩,
 ⟨(some 120), (.wet (.append 314 2 32 (.t 117) (.t 119))), none⟩,
 ⟨(some 8), (.dry (.mov (.t 120))), none⟩]))))))))))))
 (.reg [⟨(some 121), (.dry (.bin .add (.t 33) (.k (.int .i64 1)))), none⟩,
 ⟨(some 33), (.dry (.mov (.t 121))), none⟩])))))))
 (.seq (.reg [⟨(some 122), (.dry (.mov (.t 8))), none⟩,
 ⟨(some 2), (.dry (.mov (.t 122))), none⟩,
 ⟨(some 3), (.dry (.mov (.k (.int .i64 0)))), none⟩])
 .ret))))))) }

/-- bellcrank/licm.homes -/
def e102 : EFunc := { own := none, res := [(.tmp 2)], ntmps := 58, pure := false, body :=
 (.seq (.reg [⟨(some 1), (.wet (.box 4 (.t 0))), none⟩,
 ⟨(some 2), (.dry (.mov (.k .nils))), none⟩])
 (.seq (.reg [⟨(some 12), (.dry (.faddr 2 1 false (.t 1))), none⟩,
 ⟨(some 13), (.wet (.load 1 false (.t 12))), none⟩,
 ⟨(some 14), (.dry (.len (.t 13))), none⟩,
 ⟨(some 15), (.wet (.mksl 1 8 [(.int .i64 0)] (.t 14) (.t 14))), none⟩,
 ⟨(some 3), (.dry (.mov (.t 15))), none⟩])
 (.seq (.seq (.reg [⟨(some 16), (.dry (.faddr 3 1 false (.t 1))), none⟩,
 ⟨(some 17), (.wet (.load 1 false (.t 16))), none⟩,
 ⟨(some 18), (.dry (.len (.t 17))), none⟩,
 ⟨(some 19), (.dry (.mov (.k (.int .i64 0)))), none⟩])
 (.block 0
 (.loop
 (.seq (.reg [⟨(some 20), (.dry (.bin .lss (.t 19) (.t 18))), none⟩])
 (.seq (.cond (.t 20)
 .skip
 (.exit 0))
 (.seq (.block 1
 (.seq (.reg [⟨(some 21), (.dry (.mov (.t 19))), none⟩,
 ⟨(some 22), (.dry (.iaddr 6 (.t 17) (.t 19))), none⟩,
 ⟨(some 23), (.wet (.load 6 true (.t 22))), none⟩,
 ⟨(some 5), (.wet (.alloc 137 6 [.nils, .nils, (.int .i64 0), (.int .i64 0), .nils, .nils])), none⟩,
 ⟨(some 4), (.dry (.mov (.t 21))), none⟩,
 ⟨none, (.wet (.store 6 (.t 5) (.t 23))), none⟩])
 (.seq (.seq (.reg [⟨(some 24), (.dry (.faddr 0 1 false (.t 5))), none⟩,
 ⟨(some 25), (.wet (.load 1 false (.t 24))), none⟩,
 ⟨(some 26), (.dry (.len (.t 25))), none⟩,
 ⟨(some 27), (.dry (.mov (.k (.int .i64 0)))), none⟩])
 (.block 2
 (.loop
 (.seq (.reg [⟨(some 28), (.dry (.bin .lss (.t 27) (.t 26))), none⟩])
 (.seq (.cond (.t 28)
 .skip
 (.exit 2))
 (.seq (.block 3
 (.seq (.reg [⟨(some 29), (.dry (.iaddr 1 (.t 25) (.t 27))), none⟩,
 ⟨(some 30), (.wet (.load 1 false (.t 29))), none⟩,
 ⟨(some 7), (.dry (.mov (.t 30))), none⟩])
 (.reg [⟨(some 31), (.dry (.mov (.t 3))), none⟩,
 ⟨(some 32), (.dry (.mov (.t 7))), none⟩,
 ⟨(some 33), (.dry (.mov (.t 4))), none⟩,
 ⟨(some 34), (.dry (.iaddr 1 (.t 31) (.t 32))), none⟩,
 ⟨none, (.wet (.store 1 (.t 34) (.t 33))), none⟩])))
 (.reg [⟨(some 35), (.dry (.bin .add (.t 27) (.k (.int .i64 1)))), none⟩,
 ⟨(some 27), (.dry (.mov (.t 35))), none⟩])))))))
 (.seq (.reg [⟨(some 36), (.dry (.faddr 1 1 false (.t 5))), none⟩,
 ⟨(some 37), (.wet (.load 1 false (.t 36))), none⟩,
 ⟨(some 38), (.dry (.len (.t 37))), none⟩,
 ⟨(some 39), (.dry (.mov (.k (.int .i64 0)))), none⟩])
 (.block 4
 (.loop
 (.seq (.reg [⟨(some 40), (.dry (.bin .lss (.t 39) (.t 38))), none⟩])
 (.seq (.cond (.t 40)
 .skip
 (.exit 4))
 (.seq (.block 5
 (.seq (.reg [⟨(some 41), (.dry (.iaddr 4 (.t 37) (.t 39))), none⟩,
 ⟨(some 42), (.wet (.load 4 true (.t 41))), none⟩,
 ⟨(some 9), (.wet (.alloc 143 4 [(.int .i64 0), (.int .u64 0), .nils, .nils])), none⟩,
 ⟨none, (.wet (.store 4 (.t 9) (.t 42))), none⟩])
 (.seq (.reg [⟨(some 43), (.dry (.faddr 3 1 false (.t 9))), none⟩,
 ⟨(some 44), (.wet (.load 1 false (.t 43))), none⟩,
 ⟨(some 45), (.dry (.len (.t 44))), none⟩,
 ⟨(some 46), (.dry (.mov (.k (.int .i64 0)))), none⟩])
 (.block 6
 (.loop
 (.seq (.reg [⟨(some 47), (.dry (.bin .lss (.t 46) (.t 45))), none⟩])
 (.seq (.cond (.t 47)
 .skip
 (.exit 6))
 (.seq (.block 7
 (.seq (.reg [⟨(some 48), (.dry (.iaddr 1 (.t 44) (.t 46))), none⟩,
 ⟨(some 49), (.wet (.load 1 false (.t 48))), none⟩,
 ⟨(some 11), (.dry (.mov (.t 49))), none⟩])
 (.reg [⟨(some 50), (.dry (.mov (.t 3))), none⟩,
 ⟨(some 51), (.dry (.mov (.t 11))), none⟩,
 ⟨(some 52), (.dry (.mov (.t 4))), none⟩,
 ⟨(some 53), (.dry (.iaddr 1 (.t 50) (.t 51))), none⟩,
 ⟨none, (.wet (.store 1 (.t 53) (.t 52))), none⟩])))
 (.reg [⟨(some 54), (.dry (.bin .add (.t 46) (.k (.int .i64 1)))), none⟩,
 ⟨(some 46), (.dry (.mov (.t 54))), none⟩])))))))))
 (.reg [⟨(some 55), (.dry (.bin .add (.t 39) (.k (.int .i64 1)))), none⟩,
 ⟨(some 39), (.dry (.mov (.t 55))), none⟩]))))))))))
 (.reg [⟨(some 56), (.dry (.bin .add (.t 19) (.k (.int .i64 1)))), none⟩,
 ⟨(some 19), (.dry (.mov (.t 56))), none⟩])))))))
 (.seq (.reg [⟨(some 57), (.dry (.mov (.t 3))), none⟩,
 ⟨(some 2), (.dry (.mov (.t 57))), none⟩])
 .ret)))) }

/-- slices.ContainsFunc[[]int,int] -/
def e106 : EFunc := { own := none, res := [(.tmp 4)], ntmps := 9, pure := false, body :=
 (.seq (.reg [⟨(some 4), (.dry (.mov (.k (.bool false)))), none⟩])
 (.seq (.reg [⟨(some 5), (.dry (.mov (.t 0))), none⟩,
 ⟨(some 6), (.dry (.mov (.t 1))), none⟩,
 ⟨(some 7), (.call (.k (.fn 164 [] [])) [(.t 5), (.t 6)]), none⟩,
 ⟨(some 8), (.dry (.bin .geq (.t 7) (.k (.int .i64 0)))), none⟩,
 ⟨(some 4), (.dry (.mov (.t 8))), none⟩])
 .ret)) }

/-- bellcrank/dce.needed -/
def e108 : EFunc := { own := none, res := [(.tmp 2)], ntmps := 149, pure := false, body :=
 (.seq (.reg [⟨(some 1), (.wet (.box 4 (.t 0))), none⟩,
 ⟨(some 2), (.dry (.mov (.k .nils))), none⟩])
 (.seq (.reg [⟨(some 18), (.dry (.faddr 2 1 false (.t 1))), none⟩,
 ⟨(some 19), (.wet (.load 1 false (.t 18))), none⟩,
 ⟨(some 20), (.dry (.len (.t 19))), none⟩,
 ⟨(some 21), (.wet (.mksl 1 1 [(.bool false)] (.t 20) (.t 20))), none⟩,
 ⟨(some 3), (.wet (.alloc 1 1 [.nils])), none⟩,
 ⟨none, (.wet (.store 1 (.t 3) (.t 21))), none⟩])
 (.seq (.reg [⟨(some 22), (.dry (.faddr 2 1 false (.t 1))), none⟩,
 ⟨(some 23), (.wet (.load 1 false (.t 22))), none⟩,
 ⟨(some 24), (.dry (.len (.t 23))), none⟩,
 ⟨(some 25), (.wet (.mksl 1 24 [.nils] (.t 24) (.t 24))), none⟩,
 ⟨(some 4), (.wet (.alloc 1 1 [.nils])), none⟩,
 ⟨none, (.wet (.store 1 (.t 4) (.t 25))), none⟩])
 (.seq (.seq (.reg [⟨(some 26), (.dry (.faddr 3 1 false (.t 1))), none⟩,
 ⟨(some 27), (.wet (.load 1 false (.t 26))), none⟩,
 ⟨(some 28), (.dry (.len (.t 27))), none⟩,
 ⟨(some 29), (.dry (.mov (.k (.int .i64 0)))), none⟩])
 (.block 0
 (.loop
 (.seq (.reg [⟨(some 30), (.dry (.bin .lss (.t 29) (.t 28))), none⟩])
 (.seq (.cond (.t 30)
 .skip
 (.exit 0))
 (.seq (.block 1
 (.seq (.reg [⟨(some 31), (.dry (.iaddr 6 (.t 27) (.t 29))), none⟩,
 ⟨(some 32), (.wet (.load 6 true (.t 31))), none⟩,
 ⟨(some 6), (.wet (.alloc 137 6 [.nils, .nils, (.int .i64 0), (.int .i64 0), .nils, .nils])), none⟩,
 ⟨none, (.wet (.store 6 (.t 6) (.t 32))), none⟩])
 (.seq (.seq (.reg [⟨(some 33), (.dry (.faddr 1 1 false (.t 6))), none⟩,
 ⟨(some 34), (.wet (.load 1 false (.t 33))), none⟩,
 ⟨(some 35), (.dry (.len (.t 34))), none⟩,
 ⟨(some 36), (.dry (.mov (.k (.int .i64 0)))), none⟩])
 (.block 2
 (.loop
 (.seq (.reg [⟨(some 37), (.dry (.bin .lss (.t 36) (.t 35))), none⟩])
 (.seq (.cond (.t 37)
 .skip
 (.exit 2))
 (.seq (.block 3
 (.seq (.reg [⟨(some 38), (.dry (.iaddr 4 (.t 34) (.t 36))), none⟩,
 ⟨(some 39), (.wet (.load 4 true (.t 38))), none⟩,
 ⟨(some 8), (.wet (.alloc 143 4 [(.int .i64 0), (.int .u64 0), .nils, .nils])), none⟩,
 ⟨none, (.wet (.store 4 (.t 8) (.t 39))), none⟩])
 (.seq (.reg [⟨(some 40), (.dry (.faddr 0 1 false (.t 8))), none⟩,
 ⟨(some 41), (.wet (.load 1 false (.t 40))), none⟩,
 ⟨(some 42), (.call (.k (.fn 95 [] [])) [(.t 41)]), none⟩])
 (.cond (.t 42)
 (.draw [(⟨(some 43), (.wet (.load 1 false (.t 4))), none⟩, 0, false),
 (⟨(some 44), (.dry (.faddr 3 1 false (.t 8))), none⟩, 0, false),
 (⟨(some 45), (.wet (.load 1 false (.t 44))), none⟩, 2, false),
 (⟨(some 46), (.dry (.iaddr 1 (.t 45) (.k (.int .i64 0)))), none⟩, 6, false),
 (⟨(some 47), (.wet (.load 1 false (.t 46))), none⟩, 14, false),
 (⟨(some 48), (.dry (.faddr 2 1 false (.t 8))), none⟩, 0, false),
 (⟨(some 49), (.wet (.load 1 false (.t 48))), none⟩, 32, false),
 (⟨(some 50), (.call (.k (.fn 42 [] [])) [(.t 49)]), none⟩, 96, false),
 (⟨(some 51), (.dry (.iaddr 1 (.t 43) (.t 47))), none⟩, 255, false),
 (⟨none, (.wet (.store 1 (.t 51) (.t 50))), none⟩, 511, true)])
 .skip))))
 (.reg [⟨(some 52), (.dry (.bin .add (.t 36) (.k (.int .i64 1)))), none⟩,
 ⟨(some 36), (.dry (.mov (.t 52))), none⟩])))))))
 (.seq (.reg [⟨(some 53), (.dry (.faddr 2 4 true (.t 6))), none⟩,
 ⟨(some 54), (.dry (.faddr 2 1 false (.t 53))), none⟩,
 ⟨(some 55), (.wet (.load 1 false (.t 54))), none⟩,
 ⟨(some 56), (.dry (.len (.t 55))), none⟩,
 ⟨(some 57), (.dry (.mov (.k (.int .i64 0)))), none⟩])
 (.block 4
 (.loop
 (.seq (.reg [⟨(some 58), (.dry (.bin .lss (.t 57) (.t 56))), none⟩])
 (.seq (.cond (.t 58)
 .skip
 (.exit 4))
 (.seq (.block 5
 (.seq (.reg [⟨(some 59), (.dry (.iaddr 2 (.t 55) (.t 57))), none⟩,
 ⟨(some 60), (.wet (.load 2 true (.t 59))), none⟩,
 ⟨(some 10), (.wet (.alloc 191 2 [(.int .i64 0), .nils])), none⟩,
 ⟨none, (.wet (.store 2 (.t 10) (.t 60))), none⟩])
 (.seq (.reg [⟨(some 61), (.dry (.faddr 3 1 false (.t 1))), none⟩,
 ⟨(some 62), (.wet (.load 1 false (.t 61))), none⟩,
 ⟨(some 63), (.dry (.faddr 0 1 false (.t 10))), none⟩,
 ⟨(some 64), (.wet (.load 1 false (.t 63))), none⟩,
 ⟨(some 65), (.dry (.iaddr 6 (.t 62) (.t 64))), none⟩,
 ⟨(some 66), (.dry (.faddr 0 1 false (.t 65))), none⟩,
 ⟨(some 67), (.wet (.load 1 false (.t 66))), none⟩,
 ⟨(some 68), (.dry (.len (.t 67))), none⟩,
 ⟨(some 69), (.dry (.mov (.k (.int .i64 0)))), none⟩])
 (.block 6
 (.loop
 (.seq (.reg [⟨(some 70), (.dry (.bin .lss (.t 69) (.t 68))), none⟩])
 (.seq (.cond (.t 70)
 .skip
 (.exit 6))
 (.seq (.block 7
 (.seq (.reg [⟨(some 71), (.dry (.mov (.t 69))), none⟩,
 ⟨(some 72), (.dry (.iaddr 1 (.t 67) (.t 69))), none⟩,
 ⟨(some 73), (.wet (.load 1 false (.t 72))), none⟩,
 ⟨(some 11), (.dry (.mov (.t 71))), none⟩,
 ⟨(some 12), (.dry (.mov (.t 73))), none⟩])
 (.draw [(⟨(some 74), (.wet (.load 1 false (.t 4))), none⟩, 0, false),
 (⟨(some 75), (.dry (.mov (.t 12))), none⟩, 0, false),
 (⟨(some 76), (.wet (.load 1 false (.t 4))), none⟩, 0, false),
 (⟨(some 77), (.dry (.mov (.t 12))), none⟩, 0, false),
 (⟨(some 78), (.dry (.iaddr 1 (.t 76) (.t 77))), none⟩, 12, false),
 (⟨(some 79), (.wet (.load 1 false (.t 78))), none⟩, 28, false),
 (⟨(some 80), (.dry (.faddr 1 1 false (.t 10))), none⟩, 0, false),
 (⟨(some 81), (.wet (.load 1 false (.t 80))), none⟩, 64, false),
 (⟨(some 82), (.dry (.mov (.t 11))), none⟩, 0, false),
 (⟨(some 83), (.dry (.iaddr 1 (.t 81) (.t 82))), none⟩, 448, false),
 (⟨(some 84), (.wet (.load 1 false (.t 83))), none⟩, 960, false),
 (⟨(some 85), (.wet (.bsl 1 1 [(.int .i64 0)] [(0, (.t 84))])), none⟩, 1984, false),
 (⟨(some 86), (.wet (.append 8 1 8 (.t 79) (.t 85))), none⟩, 4092, false),
 (⟨(some 87), (.dry (.iaddr 1 (.t 74) (.t 75))), none⟩, 8191, false),
 (⟨none, (.wet (.store 1 (.t 87) (.t 86))), none⟩, 16383, true)])))
 (.reg [⟨(some 88), (.dry (.bin .add (.t 69) (.k (.int .i64 1)))), none⟩,
 ⟨(some 69), (.dry (.mov (.t 88))), none⟩])))))))))
 (.reg [⟨(some 89), (.dry (.bin .add (.t 57) (.k (.int .i64 1)))), none⟩,
 ⟨(some 57), (.dry (.mov (.t 89))), none⟩]))))))))))
 (.reg [⟨(some 90), (.dry (.bin .add (.t 29) (.k (.int .i64 1)))), none⟩,
 ⟨(some 29), (.dry (.mov (.t 90))), none⟩])))))))
 (.seq (.reg [⟨(some 13), (.wet (.alloc 1 1 [.nilf])), none⟩])
 (.seq (.reg [⟨(some 91), (.dry (.mkfn 165 [] [(.t 3), (.t 13), (.t 4)])), none⟩,
 ⟨none, (.wet (.store 1 (.t 13) (.t 91))), none⟩])
 (.seq (.draw [(⟨(some 92), (.wet (.load 1 false (.t 13))), none⟩, 0, false),
 (⟨(some 93), (.dry (.faddr 3 1 false (.t 1))), none⟩, 0, false),
 (⟨(some 94), (.wet (.load 1 false (.t 93))), none⟩, 2, false),
 (⟨(some 95), (.dry (.iaddr 6 (.t 94) (.k (.int .i64 0)))), none⟩, 6, false),
 (⟨(some 96), (.dry (.faddr 0 1 false (.t 95))), none⟩, 14, false),
 (⟨(some 97), (.wet (.load 1 false (.t 96))), none⟩, 30, false),
 (⟨(some 98), (.call (.t 92) [(.t 97)]), none⟩, 63, true)])
 (.seq (.seq (.reg [⟨(some 99), (.dry (.faddr 3 1 false (.t 1))), none⟩,
 ⟨(some 100), (.wet (.load 1 false (.t 99))), none⟩,
 ⟨(some 101), (.dry (.len (.t 100))), none⟩,
 ⟨(some 102), (.dry (.mov (.k (.int .i64 0)))), none⟩])
 (.block 8
 (.loop
 (.seq (.reg [⟨(some 103), (.dry (.bin .lss (.t 102) (.t 101))), none⟩])
 (.seq (.cond (.t 103)
 .skip
 (.exit 8))
 (.seq (.block 9
 (.seq (.reg [⟨(some 104), (.dry (.iaddr 6 (.t 100) (.t 102))), none⟩,
 ⟨(some 105), (.wet (.load 6 true (.t 104))), none⟩,
 ⟨(some 15), (.wet (.alloc 137 6 [.nils, .nils, (.int .i64 0), (.int .i64 0), .nils, .nils])), none⟩,
 ⟨none, (.wet (.store 6 (.t 15) (.t 105))), none⟩])
 (.seq (.seq (.reg [⟨(some 106), (.dry (.faddr 1 1 false (.t 15))), none⟩,
 ⟨(some 107), (.wet (.load 1 false (.t 106))), none⟩,
 ⟨(some 108), (.dry (.len (.t 107))), none⟩,
 ⟨(some 109), (.dry (.mov (.k (.int .i64 0)))), none⟩])
 (.block 10
 (.loop
 (.seq (.reg [⟨(some 110), (.dry (.bin .lss (.t 109) (.t 108))), none⟩])
 (.seq (.cond (.t 110)
 .skip
 (.exit 10))
 (.seq (.block 11
 (.seq (.reg [⟨(some 111), (.dry (.iaddr 4 (.t 107) (.t 109))), none⟩,
 ⟨(some 112), (.wet (.load 4 true (.t 111))), none⟩,
 ⟨(some 17), (.wet (.alloc 143 4 [(.int .i64 0), (.int .u64 0), .nils, .nils])), none⟩,
 ⟨none, (.wet (.store 4 (.t 17) (.t 112))), none⟩])
 (.seq (.reg [⟨(some 113), (.dry (.faddr 0 1 false (.t 17))), none⟩,
 ⟨(some 114), (.wet (.load 1 false (.t 113))), none⟩,
 ⟨(some 115), (.call (.k (.fn 95 [] [])) [(.t 114)]), none⟩,
 ⟨(some 116), (.dry (.not (.t 115))), none⟩])
 (.cond (.t 116)
 (.seq (.reg [⟨(some 117), (.wet (.load 1 false (.t 13))), none⟩,
 ⟨(some 118), (.dry (.faddr 2 1 false (.t 17))), none⟩,
 ⟨(some 119), (.wet (.load 1 false (.t 118))), none⟩,
 ⟨(some 120), (.call (.t 117) [(.t 119)]), none⟩])
 (.reg [⟨(some 121), (.wet (.load 1 false (.t 13))), none⟩,
 ⟨(some 122), (.dry (.faddr 3 1 false (.t 17))), none⟩,
 ⟨(some 123), (.wet (.load 1 false (.t 122))), none⟩,
 ⟨(some 124), (.call (.t 121) [(.t 123)]), none⟩]))
 .skip))))
 (.reg [⟨(some 125), (.dry (.bin .add (.t 109) (.k (.int .i64 1)))), none⟩,
 ⟨(some 109), (.dry (.mov (.t 125))), none⟩])))))))
 (.seq (.reg [⟨(some 126), (.wet (.load 1 false (.t 13))), none⟩,
 ⟨(some 127), (.dry (.faddr 2 4 true (.t 15))), none⟩,
 ⟨(some 128), (.dry (.faddr 3 1 false (.t 127))), none⟩,
 ⟨(some 129), (.wet (.load 1 false (.t 128))), none⟩,
 ⟨(some 130), (.call (.t 126) [(.t 129)]), none⟩])
 (.seq (.reg [⟨(some 131), (.dry (.faddr 2 4 true (.t 15))), none⟩,
 ⟨(some 132), (.dry (.faddr 0 1 false (.t 131))), none⟩,
 ⟨(some 133), (.wet (.load 1 false (.t 132))), none⟩,
 ⟨(some 134), (.dry (.eq (.prim .i) false (.t 133) (.k (.int .i64 2)))), none⟩,
 ⟨(some 135), (.dry (.mov (.t 134))), none⟩,
 ⟨(some 136), (.dry (.faddr 2 4 true (.t 15))), (some (135, false))⟩,
 ⟨(some 137), (.dry (.faddr 0 1 false (.t 136))), (some (135, false))⟩,
 ⟨(some 138), (.wet (.load 1 false (.t 137))), (some (135, false))⟩,
 ⟨(some 139), (.dry (.eq (.prim .i) false (.t 138) (.k (.int .i64 3)))), (some (135, false))⟩,
 ⟨(some 140), (.dry (.pick (.t 135) (.k (.bool true)) (.t 139))), none⟩])
 (.cond (.t 140)
 (.reg [⟨(some 141), (.wet (.load 1 false (.t 13))), none⟩,
 ⟨(some 142), (.dry (.faddr 2 4 true (.t 15))), none⟩,
 ⟨(some 143), (.dry (.faddr 1 1 false (.t 142))), none⟩,
 ⟨(some 144), (.wet (.load 1 false (.t 143))), none⟩,
 ⟨(some 145), (.wet (.bsl 1 1 [(.int .i64 0)] [(0, (.t 144))])), none⟩,
 ⟨(some 146), (.call (.t 141) [(.t 145)]), none⟩])
 .skip))))))
 (.reg [⟨(some 147), (.dry (.bin .add (.t 102) (.k (.int .i64 1)))), none⟩,
 ⟨(some 102), (.dry (.mov (.t 147))), none⟩])))))))
 (.seq (.reg [⟨(some 148), (.wet (.load 1 false (.t 3))), none⟩,
 ⟨(some 2), (.dry (.mov (.t 148))), none⟩])
 .ret))))))))) }

/-- bellcrank/dce.Run$1 -/
def e109 : EFunc := { own := none, res := [(.tmp 3)], ntmps := 17, pure := false, body :=
 (.seq (.reg [⟨(some 2), (.wet (.box 4 (.t 0))), none⟩,
 ⟨(some 3), (.dry (.mov (.k (.bool false)))), none⟩])
 (.seq (.draw [(⟨(some 4), (.dry (.faddr 0 1 false (.t 2))), none⟩, 0, false),
 (⟨(some 5), (.wet (.load 1 false (.t 4))), none⟩, 1, true),
 (⟨(some 6), (.call (.k (.fn 95 [] [])) [(.t 5)]), none⟩, 3, true),
 (⟨(some 7), (.dry (.mov (.t 6))), none⟩, 7, false),
 (⟨(some 8), (.wet (.load 1 false (.t 1))), (some (7, true))⟩, 15, false),
 (⟨(some 9), (.dry (.faddr 3 1 false (.t 2))), (some (7, true))⟩, 15, false),
 (⟨(some 10), (.wet (.load 1 false (.t 9))), (some (7, true))⟩, 47, false),
 (⟨(some 11), (.dry (.iaddr 1 (.t 10) (.k (.int .i64 0)))), (some (7, true))⟩, 111, false),
 (⟨(some 12), (.wet (.load 1 false (.t 11))), (some (7, true))⟩, 239, false),
 (⟨(some 13), (.dry (.iaddr 1 (.t 8) (.t 12))), (some (7, true))⟩, 511, false),
 (⟨(some 14), (.wet (.load 1 false (.t 13))), (some (7, true))⟩, 1023, true),
 (⟨(some 15), (.dry (.not (.t 14))), (some (7, true))⟩, 2047, false),
 (⟨(some 16), (.dry (.pick (.t 7) (.t 15) (.k (.bool false)))), none⟩, 4095, false),
 (⟨(some 3), (.dry (.mov (.t 16))), none⟩, 8191, false)])
 .ret)) }

/-- slices.DeleteFunc[[]int,int] -/
def e110 : EFunc := { own := none, res := [(.tmp 4)], ntmps := 42, pure := false, body :=
 (.seq (.reg [⟨(some 4), (.dry (.mov (.k .nils))), none⟩])
 (.seq (.reg [⟨(some 8), (.dry (.mov (.t 0))), none⟩,
 ⟨(some 9), (.dry (.mov (.t 1))), none⟩,
 ⟨(some 10), (.call (.k (.fn 164 [] [])) [(.t 8), (.t 9)]), none⟩,
 ⟨(some 5), (.dry (.mov (.t 10))), none⟩])
 (.seq (.seq (.reg [⟨(some 11), (.dry (.mov (.t 5))), none⟩,
 ⟨(some 12), (.dry (.eq (.prim .i) false (.t 11) (.k (.int .i64 (-1))))), none⟩])
 (.cond (.t 12)
 (.seq (.reg [⟨(some 13), (.dry (.mov (.t 0))), none⟩,
 ⟨(some 4), (.dry (.mov (.t 13))), none⟩])
 .ret)
 .skip))
 (.seq (.seq (.reg [⟨(some 14), (.dry (.mov (.t 5))), none⟩,
 ⟨(some 15), (.dry (.bin .add (.t 14) (.k (.int .i64 1)))), none⟩,
 ⟨(some 6), (.dry (.mov (.t 15))), none⟩])
 (.block 0
 (.loop
 (.seq (.seq (.reg [⟨(some 16), (.dry (.mov (.t 6))), none⟩,
 ⟨(some 17), (.dry (.mov (.t 0))), none⟩,
 ⟨(some 18), (.dry (.len (.t 17))), none⟩,
 ⟨(some 19), (.dry (.bin .lss (.t 16) (.t 18))), none⟩])
 (.cond (.t 19)
 .skip
 (.exit 0)))
 (.seq (.block 1
 (.seq (.reg [⟨(some 22), (.dry (.mov (.t 0))), none⟩,
 ⟨(some 23), (.dry (.mov (.t 6))), none⟩,
 ⟨(some 24), (.dry (.iaddr 1 (.t 22) (.t 23))), none⟩,
 ⟨(some 25), (.wet (.load 1 false (.t 24))), none⟩,
 ⟨(some 7), (.dry (.mov (.t 25))), none⟩])
 (.seq (.reg [⟨(some 26), (.dry (.mov (.t 1))), none⟩,
 ⟨(some 27), (.dry (.mov (.t 7))), none⟩,
 ⟨(some 28), (.call (.t 26) [(.t 27)]), none⟩,
 ⟨(some 29), (.dry (.not (.t 28))), none⟩])
 (.cond (.t 29)
 (.seq (.reg [⟨(some 30), (.dry (.mov (.t 0))), none⟩,
 ⟨(some 31), (.dry (.mov (.t 5))), none⟩,
 ⟨(some 32), (.dry (.mov (.t 7))), none⟩,
 ⟨(some 33), (.dry (.iaddr 1 (.t 30) (.t 31))), none⟩,
 ⟨none, (.wet (.store 1 (.t 33) (.t 32))), none⟩])
 (.reg [⟨(some 34), (.dry (.mov (.t 5))), none⟩,
 ⟨(some 35), (.dry (.bin .add (.t 34) (.k (.int .i64 1)))), none⟩,
 ⟨(some 5), (.dry (.mov (.t 35))), none⟩]))
 .skip))))
 (.reg [⟨(some 20), (.dry (.mov (.t 6))), none⟩,
 ⟨(some 21), (.dry (.bin .add (.t 20) (.k (.int .i64 1)))), none⟩,
 ⟨(some 6), (.dry (.mov (.t 21))), none⟩]))))))
 (.seq (.reg [⟨(some 36), (.dry (.mov (.t 0))), none⟩,
 ⟨(some 37), (.dry (.mov (.t 5))), none⟩,
 ⟨(some 38), (.wet (.slice 1 (.t 36) (some (.t 37)) none)), none⟩,
 ⟨none, (.wet (.clr 1 [(.int .i64 0)] (.t 38))), none⟩])
 (.seq (.reg [⟨(some 39), (.dry (.mov (.t 0))), none⟩,
 ⟨(some 40), (.dry (.mov (.t 5))), none⟩,
 ⟨(some 41), (.wet (.slice 1 (.t 39) none (some (.t 40)))), none⟩,
 ⟨(some 4), (.dry (.mov (.t 41))), none⟩])
 .ret)))))) }

/-- bellcrank/ssa.kinds$1 -/
def e130 : EFunc := { own := none, res := [(.tmp 2)], ntmps := 6, pure := false, body :=
 (.seq (.reg [⟨(some 2), (.dry (.mov (.k (.bool false)))), none⟩])
 (.seq (.reg [⟨(some 3), (.dry (.mov (.t 0))), none⟩,
 ⟨(some 4), (.call (.k (.fn 131 [] [])) [(.t 3)]), none⟩,
 ⟨(some 5), (.dry (.not (.t 4))), none⟩,
 ⟨(some 2), (.dry (.mov (.t 5))), none⟩])
 .ret)) }

/-- bellcrank/ssa.isKind -/
def e131 : EFunc := { own := none, res := [(.tmp 2)], ntmps := 9, pure := false, body :=
 (.seq (.reg [⟨(some 2), (.dry (.mov (.k (.bool false)))), none⟩])
 (.seq (.reg [⟨(some 3), (.dry (.mov (.t 0))), none⟩,
 ⟨(some 4), (.dry (.eq (.prim .i) false (.t 3) (.k (.int .i64 127)))), none⟩,
 ⟨(some 5), (.dry (.mov (.t 4))), none⟩,
 ⟨(some 6), (.dry (.mov (.t 0))), (some (5, false))⟩,
 ⟨(some 7), (.dry (.eq (.prim .i) false (.t 6) (.k (.int .i64 126)))), (some (5, false))⟩,
 ⟨(some 8), (.dry (.pick (.t 5) (.k (.bool true)) (.t 7))), none⟩,
 ⟨(some 2), (.dry (.mov (.t 8))), none⟩])
 .ret)) }

/-- slices.IndexFunc[[]bellcrank/api.Sig,bellcrank/api.Sig] -/
def e132 : EFunc := { own := none, res := [(.tmp 4)], ntmps := 19, pure := false, body :=
 (.seq (.reg [⟨(some 4), (.dry (.mov (.k (.int .i64 0)))), none⟩])
 (.seq (.seq (.reg [⟨(some 6), (.dry (.mov (.t 0))), none⟩,
 ⟨(some 7), (.dry (.len (.t 6))), none⟩,
 ⟨(some 8), (.dry (.mov (.k (.int .i64 0)))), none⟩])
 (.block 0
 (.loop
 (.seq (.reg [⟨(some 9), (.dry (.bin .lss (.t 8) (.t 7))), none⟩])
 (.seq (.cond (.t 9)
 .skip
 (.exit 0))
 (.seq (.block 1
 (.seq (.reg [⟨(some 10), (.dry (.mov (.t 8))), none⟩,
 ⟨(some 5), (.dry (.mov (.t 10))), none⟩])
 (.seq (.reg [⟨(some 11), (.dry (.mov (.t 1))), none⟩,
 ⟨(some 12), (.dry (.mov (.t 0))), none⟩,
 ⟨(some 13), (.dry (.mov (.t 5))), none⟩,
 ⟨(some 14), (.dry (.iaddr 2 (.t 12) (.t 13))), none⟩,
 ⟨(some 15), (.wet (.load 2 true (.t 14))), none⟩,
 ⟨(some 16), (.call (.t 11) [(.t 15)]), none⟩])
 (.cond (.t 16)
 (.seq (.reg [⟨(some 17), (.dry (.mov (.t 5))), none⟩,
 ⟨(some 4), (.dry (.mov (.t 17))), none⟩])
 .ret)
 .skip))))
 (.reg [⟨(some 18), (.dry (.bin .add (.t 8) (.k (.int .i64 1)))), none⟩,
 ⟨(some 8), (.dry (.mov (.t 18))), none⟩])))))))
 (.seq (.reg [⟨(some 4), (.dry (.mov (.k (.int .i64 (-1))))), none⟩])
 .ret))) }

/-- slices.IndexFunc[[]bellcrank/api.Block,bellcrank/api.Block] -/
def e133 : EFunc := { own := none, res := [(.tmp 4)], ntmps := 19, pure := false, body :=
 (.seq (.reg [⟨(some 4), (.dry (.mov (.k (.int .i64 0)))), none⟩])
 (.seq (.seq (.reg [⟨(some 6), (.dry (.mov (.t 0))), none⟩,
 ⟨(some 7), (.dry (.len (.t 6))), none⟩,
 ⟨(some 8), (.dry (.mov (.k (.int .i64 0)))), none⟩])
 (.block 0
 (.loop
 (.seq (.reg [⟨(some 9), (.dry (.bin .lss (.t 8) (.t 7))), none⟩])
 (.seq (.cond (.t 9)
 .skip
 (.exit 0))
 (.seq (.block 1
 (.seq (.reg [⟨(some 10), (.dry (.mov (.t 8))), none⟩,
 ⟨(some 5), (.dry (.mov (.t 10))), none⟩])
 (.seq (.reg [⟨(some 11), (.dry (.mov (.t 1))), none⟩,
 ⟨(some 12), (.dry (.mov (.t 0))), none⟩,
 ⟨(some 13), (.dry (.mov (.t 5))), none⟩,
 ⟨(some 14), (.dry (.iaddr 6 (.t 12) (.t 13))), none⟩,
 ⟨(some 15), (.wet (.load 6 true (.t 14))), none⟩,
 ⟨(some 16), (.call (.t 11) [(.t 15)]), none⟩])
 (.cond (.t 16)
 (.seq (.reg [⟨(some 17), (.dry (.mov (.t 5))), none⟩,
 ⟨(some 4), (.dry (.mov (.t 17))), none⟩])
 .ret)
 .skip))))
 (.reg [⟨(some 18), (.dry (.bin .add (.t 8) (.k (.int .i64 1)))), none⟩,
 ⟨(some 8), (.dry (.mov (.t 18))), none⟩])))))))
 (.seq (.reg [⟨(some 4), (.dry (.mov (.k (.int .i64 (-1))))), none⟩])
 .ret))) }

/-- (*bellcrank/ssa.checker).define$1 -/
def e134 : EFunc := { own := none, res := [(.tmp 7)], ntmps := 47, pure := false, body :=
 (.seq (.reg [⟨(some 7), (.dry (.mov (.k (.bool false)))), none⟩])
 (.seq (.seq (.reg [⟨(some 10), (.dry (.mov (.t 0))), none⟩,
 ⟨(some 11), (.dry (.len (.t 10))), none⟩,
 ⟨(some 12), (.dry (.mov (.k (.int .i64 0)))), none⟩])
 (.block 0
 (.loop
 (.seq (.reg [⟨(some 13), (.dry (.bin .lss (.t 12) (.t 11))), none⟩])
 (.seq (.cond (.t 13)
 .skip
 (.exit 0))
 (.seq (.block 1
 (.seq (.reg [⟨(some 14), (.dry (.iaddr 1 (.t 10) (.t 12))), none⟩,
 ⟨(some 15), (.wet (.load 1 false (.t 14))), none⟩,
 ⟨(some 9), (.dry (.mov (.t 15))), none⟩])
 (.seq (.seq (.reg [⟨(some 16), (.dry (.mov (.t 9))), none⟩,
 ⟨(some 17), (.dry (.bin .lss (.t 16) (.k (.int .i64 0)))), none⟩,
 ⟨(some 18), (.dry (.mov (.t 17))), none⟩,
 ⟨(some 19), (.dry (.mov (.t 9))), (some (18, false))⟩,
 ⟨(some 20), (.wet (.load 1 false (.t 3))), (some (18, false))⟩,
 ⟨(some 21), (.dry (.nilchk (.t 20))), (some (18, false))⟩,
 ⟨(some 22), (.dry (.faddr 9 1 false (.t 21))), (some (18, false))⟩,
 ⟨(some 23), (.wet (.load 1 false (.t 22))), (some (18, false))⟩,
 ⟨(some 24), (.dry (.len (.t 23))), (some (18, false))⟩,
 ⟨(some 25), (.dry (.bin .geq (.t 19) (.t 24))), (some (18, false))⟩,
 ⟨(some 26), (.dry (.pick (.t 18) (.k (.bool true)) (.t 25))), none⟩,
 ⟨(some 27), (.dry (.mov (.t 26))), none⟩,
 ⟨(some 28), (.wet (.load 1 false (.t 3))), (some (27, false))⟩,
 ⟨(some 29), (.dry (.nilchk (.t 28))), (some (27, false))⟩,
 ⟨(some 30), (.dry (.faddr 9 1 false (.t 29))), (some (27, false))⟩,
 ⟨(some 31), (.wet (.load 1 false (.t 30))), (some (27, false))⟩,
 ⟨(some 32), (.dry (.mov (.t 9))), (some (27, false))⟩,
 ⟨(some 33), (.dry (.iaddr 3 (.t 31) (.t 32))), (some (27, false))⟩,
 ⟨(some 34), (.dry (.faddr 0 1 false (.t 33))), (some (27, false))⟩,
 ⟨(some 35), (.wet (.load 1 false (.t 34))), (some (27, false))⟩,
 ⟨(some 36), (.dry (.pick (.t 27) (.k (.bool true)) (.t 35))), none⟩])
 (.cond (.t 36)
 (.seq (.reg [⟨(some 7), (.dry (.mov (.k (.bool false)))), none⟩])
 .ret)
 .skip))
 (.reg [⟨(some 37), (.wet (.load 1 false (.t 3))), none⟩,
 ⟨(some 38), (.dry (.nilchk (.t 37))), none⟩,
 ⟨(some 39), (.dry (.faddr 9 1 false (.t 38))), none⟩,
 ⟨(some 40), (.wet (.load 1 false (.t 39))), none⟩,
 ⟨(some 41), (.dry (.mov (.t 9))), none⟩,
 ⟨(some 42), (.dry (.mov (.t 1))), none⟩,
 ⟨(some 43), (.dry (.mov (.t 2))), none⟩,
 ⟨(some 44), (.dry (.build [(.bool false), (.int .i64 0), (.int .i64 0)] [(0, 1, (.k (.bool true))), (1, 1, (.t 42)), (2, 1, (.t 43))])), none⟩,
 ⟨(some 45), (.dry (.iaddr 3 (.t 40) (.t 41))), none⟩,
 ⟨none, (.wet (.store 3 (.t 45) (.t 44))), none⟩]))))
 (.reg [⟨(some 46), (.dry (.bin .add (.t 12) (.k (.int .i64 1)))), none⟩,
 ⟨(some 12), (.dry (.mov (.t 46))), none⟩])))))))
 (.seq (.reg [⟨(some 7), (.dry (.mov (.k (.bool true)))), none⟩])
 .ret))) }

/-- bellcrank/ssa.rings -/
def e135 : EFunc := { own := none, res := [(.tmp 4)], ntmps := 28, pure := false, body :=
 (.seq (.reg [⟨(some 2), (.wet (.box 4 (.t 0))), none⟩,
 ⟨(some 3), (.wet (.box 1 (.t 1))), none⟩,
 ⟨(some 4), (.dry (.mov (.k (.bool false)))), none⟩])
 (.seq (.reg [⟨(some 8), (.wet (.load 1 false (.t 3))), none⟩,
 ⟨(some 9), (.dry (.len (.t 8))), none⟩,
 ⟨(some 10), (.wet (.mksl 1 8 [(.int .i64 0)] (.t 9) (.t 9))), none⟩,
 ⟨(some 5), (.wet (.alloc 1 1 [.nils])), none⟩,
 ⟨none, (.wet (.store 1 (.t 5) (.t 10))), none⟩])
 (.seq (.reg [⟨(some 6), (.wet (.alloc 1 1 [.nilf])), none⟩])
 (.seq (.reg [⟨(some 11), (.dry (.mkfn 179 [] [(.t 2), (.t 5), (.t 3), (.t 6)])), none⟩,
 ⟨none, (.wet (.store 1 (.t 6) (.t 11))), none⟩])
 (.seq (.seq (.reg [⟨(some 12), (.wet (.load 1 false (.t 3))), none⟩,
 ⟨(some 13), (.dry (.len (.t 12))), none⟩,
 ⟨(some 14), (.dry (.mov (.k (.int .i64 0)))), none⟩])
 (.block 0
 (.loop
 (.seq (.reg [⟨(some 15), (.dry (.bin .lss (.t 14) (.t 13))), none⟩])
 (.seq (.cond (.t 15)
 .skip
 (.exit 0))
 (.seq (.block 1
 (.seq (.reg [⟨(some 16), (.dry (.mov (.t 14))), none⟩,
 ⟨(some 7), (.dry (.mov (.t 16))), none⟩])
 (.seq (.reg [⟨(some 17), (.wet (.load 1 false (.t 5))), none⟩,
 ⟨(some 18), (.dry (.mov (.t 7))), none⟩,
 ⟨(some 19), (.dry (.iaddr 1 (.t 17) (.t 18))), none⟩,
 ⟨(some 20), (.wet (.load 1 false (.t 19))), none⟩,
 ⟨(some 21), (.dry (.eq (.prim .i) false (.t 20) (.k (.int .i64 0)))), none⟩,
 ⟨(some 22), (.dry (.mov (.t 21))), none⟩,
 ⟨(some 23), (.wet (.load 1 false (.t 6))), (some (22, true))⟩,
 ⟨(some 24), (.dry (.mov (.t 7))), (some (22, true))⟩,
 ⟨(some 25), (.call (.t 23) [(.t 24)]), (some (22, true))⟩,
 ⟨(some 26), (.dry (.pick (.t 22) (.t 25) (.k (.bool false)))), none⟩])
 (.cond (.t 26)
 (.seq (.reg [⟨(some 4), (.dry (.mov (.k (.bool true)))), none⟩])
 .ret)
 .skip))))
 (.reg [⟨(some 27), (.dry (.bin .add (.t 14) (.k (.int .i64 1)))), none⟩,
 ⟨(some 14), (.dry (.mov (.t 27))), none⟩])))))))
 (.seq (.reg [⟨(some 4), (.dry (.mov (.k (.bool false)))), none⟩])
 .ret)))))) }

/-- (*bellcrank/ssa.checker).types -/
def e136 : EFunc := { own := none, res := [(.tmp 4)], ntmps := 27, pure := false, body :=
 (.seq (.reg [⟨(some 4), (.dry (.mov (.k .nils))), none⟩])
 (.seq (.reg [⟨(some 5), (.dry (.mov (.k .nils))), none⟩])
 (.seq (.seq (.reg [⟨(some 8), (.dry (.mov (.t 1))), none⟩,
 ⟨(some 9), (.dry (.len (.t 8))), none⟩,
 ⟨(some 10), (.dry (.mov (.k (.int .i64 0)))), none⟩])
 (.block 0
 (.loop
 (.seq (.reg [⟨(some 11), (.dry (.bin .lss (.t 10) (.t 9))), none⟩])
 (.seq (.cond (.t 11)
 .skip
 (.exit 0))
 (.seq (.block 1
 (.seq (.reg [⟨(some 12), (.dry (.iaddr 1 (.t 8) (.t 10))), none⟩,
 ⟨(some 13), (.wet (.load 1 false (.t 12))), none⟩,
 ⟨(some 7), (.dry (.mov (.t 13))), none⟩])
 (.reg [⟨(some 14), (.dry (.mov (.t 5))), none⟩,
 ⟨(some 15), (.dry (.mov (.t 0))), none⟩,
 ⟨(some 16), (.dry (.nilchk (.t 15))), none⟩,
 ⟨(some 17), (.dry (.faddr 5 4 true (.t 16))), none⟩,
 ⟨(some 18), (.dry (.faddr 2 1 false (.t 17))), none⟩,
 ⟨(some 19), (.wet (.load 1 false (.t 18))), none⟩,
 ⟨(some 20), (.dry (.mov (.t 7))), none⟩,
 ⟨(some 21), (.dry (.iaddr 1 (.t 19) (.t 20))), none⟩,
 ⟨(some 22), (.wet (.load 1 false (.t 21))), none⟩,
 ⟨(some 23), (.wet (.bsl 1 1 [(.int .i64 0)] [(0, (.t 22))])), none⟩,
 ⟨(some 24), (.wet (.append 8 1 8 (.t 14) (.t 23))), none⟩,
 ⟨(some 5), (.dry (.mov (.t 24))), none⟩])))
 (.reg [⟨(some 25), (.dry (.bin .add (.t 10) (.k (.int .i64 1)))), none⟩,
 ⟨(some 10), (.dry (.mov (.t 25))), none⟩])))))))
 (.seq (.reg [⟨(some 26), (.dry (.mov (.t 5))), none⟩,
 ⟨(some 4), (.dry (.mov (.t 26))), none⟩])
 .ret)))) }

/-- bellcrank/ssa.form -/
def e137 : EFunc := { own := none, res := [(.tmp 8), (.tmp 9), (.tmp 10), (.tmp 11)], ntmps := 125, pure := false, body :=
 (.seq (.reg [⟨(some 4), (.wet (.box 5 (.t 0))), none⟩,
 ⟨(some 8), (.dry (.mov (.k .nils))), none⟩,
 ⟨(some 9), (.dry (.mov (.k .nils))), none⟩,
 ⟨(some 10), (.dry (.mov (.k (.int .u64 0)))), none⟩,
 ⟨(some 11), (.dry (.mov (.k (.bool false)))), none⟩])
 (.seq (.reg [⟨(some 21), (.wet (.bsl 1 1 [(.int .i64 0)] [(0, (.k (.int .i64 127)))])), none⟩,
 ⟨(some 12), (.dry (.mov (.t 21))), none⟩])
 (.seq (.seq (.reg [⟨(some 22), (.dry (.mov (.t 1))), none⟩])
 (.block 0
 (.seq (.reg [⟨(some 24), (.dry (.eq (.prim .i) false (.t 22) (.k (.int .i64 256)))), none⟩,
 ⟨(some 23), (.dry (.mov (.t 24))), none⟩])
 (.cond (.t 23)
 (.seq (.seq (.reg [⟨(some 25), (.dry (.mov (.t 3))), none⟩,
 ⟨(some 26), (.dry (.eq (.prim .i) false (.t 25) (.k (.int .i64 127)))), none⟩])
 (.cond (.t 26)
 (.seq (.reg [⟨(some 27), (.dry (.mov (.t 12))), none⟩,
 ⟨(some 8), (.dry (.mov (.k .nils))), none⟩,
 ⟨(some 9), (.dry (.mov (.t 27))), none⟩,
 ⟨(some 10), (.dry (.mov (.k (.int .u64 4294967295)))), none⟩,
 ⟨(some 11), (.dry (.mov (.k (.bool true)))), none⟩])
 .ret)
 .skip))
 (.seq (.reg [⟨(some 28), (.wet (.bsl 1 1 [(.int .i64 0)] [(0, (.k (.int .i64 126)))])), none⟩,
 ⟨(some 8), (.dry (.mov (.k .nils))), none⟩,
 ⟨(some 9), (.dry (.mov (.t 28))), none⟩,
 ⟨(some 10), (.dry (.mov (.k (.int .u64 18446744073709551615)))), none⟩,
 ⟨(some 11), (.dry (.mov (.k (.bool true)))), none⟩])
 .ret))
 (.seq (.reg [⟨(some 30), (.dry (.eq (.prim .i) false (.t 22) (.k (.int .i64 258)))), none⟩,
 ⟨(some 29), (.dry (.mov (.t 30))), none⟩])
 (.cond (.t 29)
 (.seq (.reg [⟨(some 8), (.dry (.mov (.k .nils))), none⟩,
 ⟨(some 9), (.dry (.mov (.k .nils))), none⟩,
 ⟨(some 10), (.dry (.mov (.k (.int .u64 0)))), none⟩,
 ⟨(some 11), (.dry (.mov (.k (.bool true)))), none⟩])
 .ret)
 (.seq (.reg [⟨(some 32), (.dry (.eq (.prim .i) false (.t 22) (.k (.int .i64 27)))), none⟩,
 ⟨(some 31), (.dry (.mov (.t 32))), none⟩])
 (.cond (.t 31)
 (.seq (.reg [⟨(some 33), (.dry (.mov (.t 3))), none⟩,
 ⟨(some 34), (.dry (.mov (.t 3))), none⟩,
 ⟨(some 35), (.wet (.bsl 1 3 [(.int .i64 0), (.int .i64 0), (.int .i64 0)] [(0, (.t 33)), (1, (.t 34)), (2, (.k (.int .i64 127)))])), none⟩,
 ⟨(some 36), (.dry (.mov (.t 3))), none⟩,
 ⟨(some 37), (.wet (.bsl 1 1 [(.int .i64 0)] [(0, (.t 36))])), none⟩,
 ⟨(some 8), (.dry (.mov (.t 35))), none⟩,
 ⟨(some 9), (.dry (.mov (.t 37))), none⟩,
 ⟨(some 10), (.dry (.mov (.k (.int .u64 0)))), none⟩,
 ⟨(some 11), (.dry (.mov (.k (.bool true)))), none⟩])
 .ret)
 (.seq (.reg [⟨(some 39), (.dry (.eq (.prim .i) false (.t 22) (.k (.int .i64 16)))), none⟩,
 ⟨(some 38), (.dry (.mov (.t 39))), none⟩])
 (.cond (.t 38)
 (.seq (.seq (.reg [⟨(some 40), (.dry (.mov (.t 2))), none⟩,
 ⟨(some 41), (.dry (.faddr 0 1 false (.t 4))), none⟩,
 ⟨(some 42), (.wet (.load 1 false (.t 41))), none⟩,
 ⟨(some 43), (.dry (.len (.t 42))), none⟩,
 ⟨(some 44), (.dry (.conv .u64 (.t 43))), none⟩,
 ⟨(some 45), (.dry (.bin .geq (.t 40) (.t 44))), none⟩])
 (.cond (.t 45)
 .ret
 .skip))
 (.seq (.draw [(⟨(some 46), (.dry (.faddr 0 1 false (.t 4))), none⟩, 0, false),
 (⟨(some 47), (.wet (.load 1 false (.t 46))), none⟩, 1, false),
 (⟨(some 48), (.dry (.mov (.t 2))), none⟩, 0, false),
 (⟨(some 49), (.dry (.iaddr 2 (.t 47) (.t 48))), none⟩, 7, false),
 (⟨(some 50), (.dry (.faddr 0 1 false (.t 49))), none⟩, 15, false),
 (⟨(some 51), (.wet (.load 1 false (.t 50))), none⟩, 31, false),
 (⟨(some 52), (.dry (.faddr 0 1 false (.t 4))), none⟩, 0, false),
 (⟨(some 53), (.wet (.load 1 false (.t 52))), none⟩, 64, false),
 (⟨(some 54), (.dry (.mov (.t 2))), none⟩, 0, false),
 (⟨(some 55), (.dry (.iaddr 2 (.t 53) (.t 54))), none⟩, 448, false),
 (⟨(some 56), (.dry (.faddr 1 1 false (.t 55))), none⟩, 960, false),
 (⟨(some 57), (.wet (.load 1 false (.t 56))), none⟩, 1984, false),
 (⟨(some 58), (.dry (.mov (.t 2))), none⟩, 0, false),
 (⟨(some 8), (.dry (.mov (.t 51))), none⟩, 63, false),
 (⟨(some 9), (.dry (.mov (.t 57))), none⟩, 12287, false),
 (⟨(some 10), (.dry (.mov (.t 58))), none⟩, 32767, false),
 (⟨(some 11), (.dry (.mov (.k (.bool true)))), none⟩, 65535, false)])
 .ret))
 (.seq (.seq (.reg [⟨(some 60), (.dry (.eq (.prim .i) false (.t 22) (.k (.int .i64 35)))), none⟩,
 ⟨(some 59), (.dry (.mov (.t 60))), none⟩])
 (.cond (.t 59)
 .skip
 (.reg [⟨(some 61), (.dry (.eq (.prim .i) false (.t 22) (.k (.int .i64 36)))), none⟩,
 ⟨(some 59), (.dry (.mov (.t 61))), none⟩])))
 (.cond (.t 59)
 (.seq (.seq (.reg [⟨(some 62), (.dry (.mov (.t 2))), none⟩,
 ⟨(some 63), (.dry (.faddr 2 1 false (.t 4))), none⟩,
 ⟨(some 64), (.wet (.load 1 false (.t 63))), none⟩,
 ⟨(some 65), (.dry (.len (.t 64))), none⟩,
 ⟨(some 66), (.dry (.conv .u64 (.t 65))), none⟩,
 ⟨(some 67), (.dry (.bin .geq (.t 62) (.t 66))), none⟩])
 (.cond (.t 67)
 .ret
 .skip))
 (.seq (.reg [⟨(some 68), (.dry (.faddr 2 1 false (.t 4))), none⟩,
 ⟨(some 69), (.wet (.load 1 false (.t 68))), none⟩,
 ⟨(some 70), (.dry (.mov (.t 2))), none⟩,
 ⟨(some 71), (.dry (.mov (.t 2))), none⟩,
 ⟨(some 72), (.dry (.bin .add (.t 71) (.k (.int .u64 1)))), none⟩,
 ⟨(some 73), (.wet (.slice 1 (.t 69) (some (.t 70)) (some (.t 72)))), none⟩,
 ⟨(some 13), (.dry (.mov (.t 73))), none⟩])
 (.seq (.seq (.reg [⟨(some 74), (.dry (.mov (.t 1))), none⟩,
 ⟨(some 75), (.dry (.eq (.prim .i) false (.t 74) (.k (.int .i64 35)))), none⟩])
 (.cond (.t 75)
 (.seq (.reg [⟨(some 76), (.dry (.mov (.t 13))), none⟩,
 ⟨(some 77), (.dry (.mov (.t 2))), none⟩,
 ⟨(some 8), (.dry (.mov (.k .nils))), none⟩,
 ⟨(some 9), (.dry (.mov (.t 76))), none⟩,
 ⟨(some 10), (.dry (.mov (.t 77))), none⟩,
 ⟨(some 11), (.dry (.mov (.k (.bool true)))), none⟩])
 .ret)
 .skip))
 (.seq (.draw [(⟨(some 78), (.dry (.mov (.t 13))), none⟩, 0, false),
 (⟨(some 79), (.dry (.mov (.t 2))), none⟩, 0, false),
 (⟨(some 80), (.dry (.faddr 3 1 false (.t 4))), none⟩, 0, false),
 (⟨(some 81), (.wet (.load 1 false (.t 80))), none⟩, 4, true),
 (⟨(some 82), (.dry (.mov (.t 2))), none⟩, 0, false),
 (⟨(some 83), (.dry (.iaddr 1 (.t 81) (.t 82))), none⟩, 28, false),
 (⟨(some 84), (.wet (.load 1 false (.t 83))), none⟩, 60, true),
 (⟨(some 8), (.dry (.mov (.t 78))), none⟩, 1, false),
 (⟨(some 9), (.dry (.mov (.k .nils))), none⟩, 129, false),
 (⟨(some 10), (.dry (.mov (.t 79))), none⟩, 387, false),
 (⟨(some 11), (.dry (.mov (.t 84))), none⟩, 1023, false)])
 .ret))))
 .skip))))))))))))
 (.seq (.seq (.reg [⟨(some 86), (.dry (.mov (.t 1))), none⟩,
 ⟨(some 87), (.call (.k (.fn 182 [] [])) [(.t 86)]), none⟩,
 ⟨(some 85), (.dry (.mov (.t 87))), none⟩,
 ⟨(some 88), (.dry (.extract (.t 85) 0)), none⟩,
 ⟨(some 89), (.dry (.extract (.t 85) 1)), none⟩,
 ⟨(some 90), (.dry (.extract (.t 85) 2)), none⟩,
 ⟨(some 14), (.dry (.mov (.t 88))), none⟩,
 ⟨(some 15), (.dry (.mov (.t 89))), none⟩,
 ⟨(some 16), (.dry (.mov (.t 90))), none⟩])
 (.seq (.reg [⟨(some 91), (.dry (.mov (.t 16))), none⟩])
 (.cond (.t 91)
 (.seq (.reg [⟨(some 92), (.dry (.mov (.t 14))), none⟩,
 ⟨(some 93), (.dry (.mov (.t 15))), none⟩,
 ⟨(some 94), (.wet (.bsl 1 1 [(.int .i64 0)] [(0, (.t 93))])), none⟩,
 ⟨(some 8), (.dry (.mov (.t 92))), none⟩,
 ⟨(some 9), (.dry (.mov (.t 94))), none⟩,
 ⟨(some 10), (.dry (.mov (.k (.int .u64 0)))), none⟩,
 ⟨(some 11), (.dry (.mov (.k (.bool true)))), none⟩])
 .ret)
 .skip)))
 (.seq (.seq (.reg [⟨(some 95), (.dry (.faddr 4 1 false (.t 4))), none⟩,
 ⟨(some 96), (.wet (.load 1 false (.t 95))), none⟩,
 ⟨(some 97), (.dry (.not (.t 96))), none⟩])
 (.cond (.t 97)
 .ret
 .skip))
 (.seq (.seq (.reg [⟨(some 98), (.dry (.mov (.t 1))), none⟩])
 (.block 1
 (.seq (.reg [⟨(some 100), (.dry (.eq (.prim .i) false (.t 98) (.k (.int .i64 257)))), none⟩,
 ⟨(some 99), (.dry (.mov (.t 100))), none⟩])
 (.cond (.t 99)
 (.seq (.reg [⟨(some 101), (.dry (.mov (.t 12))), none⟩,
 ⟨(some 8), (.dry (.mov (.t 101))), none⟩,
 ⟨(some 9), (.dry (.mov (.k .nils))), none⟩,
 ⟨(some 10), (.dry (.mov (.k (.int .u64 8589934592)))), none⟩,
 ⟨(some 11), (.dry (.mov (.k (.bool true)))), none⟩])
 .ret)
 (.seq (.reg [⟨(some 103), (.dry (.eq (.prim .i) false (.t 98) (.k (.int .i64 63)))), none⟩,
 ⟨(some 102), (.dry (.mov (.t 103))), none⟩])
 (.cond (.t 102)
 (.seq (.reg [⟨(some 104), (.dry (.mov (.t 12))), none⟩,
 ⟨(some 8), (.dry (.mov (.k .nils))), none⟩,
 ⟨(some 9), (.dry (.mov (.t 104))), none⟩,
 ⟨(some 10), (.dry (.mov (.k (.int .u64 0)))), none⟩,
 ⟨(some 11), (.dry (.mov (.k (.bool true)))), none⟩])
 .ret)
 (.seq (.reg [⟨(some 106), (.dry (.eq (.prim .i) false (.t 98) (.k (.int .i64 64)))), none⟩,
 ⟨(some 105), (.dry (.mov (.t 106))), none⟩])
 (.cond (.t 105)
 (.seq (.reg [⟨(some 107), (.dry (.mov (.t 12))), none⟩,
 ⟨(some 108), (.dry (.mov (.t 12))), none⟩,
 ⟨(some 8), (.dry (.mov (.t 107))), none⟩,
 ⟨(some 9), (.dry (.mov (.t 108))), none⟩,
 ⟨(some 10), (.dry (.mov (.k (.int .u64 0)))), none⟩,
 ⟨(some 11), (.dry (.mov (.k (.bool true)))), none⟩])
 .ret)
 .skip))))))))
 (.seq (.reg [⟨(some 110), (.dry (.mov (.t 1))), none⟩,
 ⟨(some 111), (.call (.k (.fn 183 [] [])) [(.t 110)]), none⟩,
 ⟨(some 109), (.dry (.mov (.t 111))), none⟩,
 ⟨(some 112), (.dry (.extract (.t 109) 0)), none⟩,
 ⟨(some 113), (.dry (.extract (.t 109) 1)), none⟩,
 ⟨(some 114), (.dry (.extract (.t 109) 2)), none⟩,
 ⟨(some 115), (.dry (.extract (.t 109) 3)), none⟩,
 ⟨(some 17), (.dry (.mov (.t 112))), none⟩,
 ⟨(some 18), (.dry (.mov (.t 113))), none⟩,
 ⟨(some 19), (.dry (.mov (.t 114))), none⟩,
 ⟨(some 20), (.dry (.mov (.t 115))), none⟩])
 (.seq (.block 2
 (.seq (.reg [⟨(some 117), (.dry (.mov (.t 19))), none⟩,
 ⟨(some 116), (.dry (.mov (.t 117))), none⟩])
 (.cond (.t 116)
 (.seq (.reg [⟨(some 118), (.dry (.mov (.t 17))), none⟩,
 ⟨(some 119), (.wet (.bsl 1 2 [(.int .i64 0), (.int .i64 0)] [(0, (.k (.int .i64 127))), (1, (.t 118))])), none⟩,
 ⟨(some 8), (.dry (.mov (.t 119))), none⟩,
 ⟨(some 9), (.dry (.mov (.k .nils))), none⟩,
 ⟨(some 10), (.dry (.mov (.k (.int .u64 4294967295)))), none⟩,
 ⟨(some 11), (.dry (.mov (.k (.bool true)))), none⟩])
 .ret)
 (.seq (.reg [⟨(some 121), (.dry (.mov (.t 20))), none⟩,
 ⟨(some 120), (.dry (.mov (.t 121))), none⟩])
 (.cond (.t 120)
 (.seq (.reg [⟨(some 122), (.dry (.mov (.t 12))), none⟩,
 ⟨(some 123), (.dry (.mov (.t 17))), none⟩,
 ⟨(some 124), (.wet (.bsl 1 1 [(.int .i64 0)] [(0, (.t 123))])), none⟩,
 ⟨(some 8), (.dry (.mov (.t 122))), none⟩,
 ⟨(some 9), (.dry (.mov (.t 124))), none⟩,
 ⟨(some 10), (.dry (.mov (.k (.int .u64 4294967295)))), none⟩,
 ⟨(some 11), (.dry (.mov (.k (.bool true)))), none⟩])
 .ret)
 .skip)))))
 .ret)))))))) }

/-- (*bellcrank/ssa.checker).asks -/
def e138 : EFunc := { own := none, res := [(.tmp 10)], ntmps := 15, pure := false, body :=
 (.seq (.reg [⟨(some 5), (.wet (.box 1 (.t 0))), none⟩,
 ⟨(some 6), (.wet (.box 1 (.t 1))), none⟩,
 ⟨(some 7), (.wet (.box 1 (.t 2))), none⟩,
 ⟨(some 10), (.dry (.mov (.k (.bool false)))), none⟩])
 (.seq (.reg [⟨(some 11), (.dry (.mov (.t 3))), none⟩,
 ⟨(some 12), (.dry (.mov (.t 4))), none⟩,
 ⟨(some 13), (.dry (.mkfn 185 [] [(.t 5), (.t 6), (.t 7)])), none⟩,
 ⟨(some 14), (.call (.k (.fn 184 [] [])) [(.t 11), (.t 12), (.t 13)]), none⟩,
 ⟨(some 10), (.dry (.mov (.t 14))), none⟩])
 .ret)) }

/-- slices.ContainsFunc[[][]int,[]int] -/
def e139 : EFunc := { own := none, res := [(.tmp 4)], ntmps := 9, pure := false, body :=
 (.seq (.reg [⟨(some 4), (.dry (.mov (.k (.bool false)))), none⟩])
 (.seq (.reg [⟨(some 5), (.dry (.mov (.t 0))), none⟩,
 ⟨(some 6), (.dry (.mov (.t 1))), none⟩,
 ⟨(some 7), (.call (.k (.fn 186 [] [])) [(.t 5), (.t 6)]), none⟩,
 ⟨(some 8), (.dry (.bin .geq (.t 7) (.k (.int .i64 0)))), none⟩,
 ⟨(some 4), (.dry (.mov (.t 8))), none⟩])
 .ret)) }

/-- bellcrank/ssa.short$1 -/
def e140 : EFunc := { own := none, res := [(.tmp 2)], ntmps := 6, pure := false, body :=
 (.seq (.reg [⟨(some 2), (.dry (.mov (.k (.bool false)))), none⟩])
 (.seq (.reg [⟨(some 3), (.dry (.mov (.t 0))), none⟩,
 ⟨(some 4), (.dry (.len (.t 3))), none⟩,
 ⟨(some 5), (.dry (.bin .gtr (.t 4) (.k (.int .i64 4096)))), none⟩,
 ⟨(some 2), (.dry (.mov (.t 5))), none⟩])
 .ret)) }

/-- bellcrank/sccp.solve$1 -/
def e141 : EFunc := { own := none, res := [], ntmps := 28, pure := false, body :=
 (.seq (.reg [⟨(some 7), (.dry (.mov (.t 1))), none⟩,
 ⟨(some 8), (.dry (.len (.t 7))), none⟩,
 ⟨(some 9), (.dry (.mov (.k (.int .i64 0)))), none⟩])
 (.block 0
 (.loop
 (.seq (.reg [⟨(some 10), (.dry (.bin .lss (.t 9) (.t 8))), none⟩])
 (.seq (.cond (.t 10)
 .skip
 (.exit 0))
 (.seq (.block 1
 (.seq (.reg [⟨(some 11), (.dry (.iaddr 1 (.t 7) (.t 9))), none⟩,
 ⟨(some 12), (.wet (.load 1 false (.t 11))), none⟩,
 ⟨(some 6), (.dry (.mov (.t 12))), none⟩])
 (.draw [(⟨(some 13), (.wet (.load 1 false (.t 2))), none⟩, 0, false),
 (⟨(some 14), (.dry (.nilchk (.t 13))), none⟩, 1, false),
 (⟨(some 15), (.dry (.faddr 6 1 false (.t 14))), none⟩, 3, false),
 (⟨(some 16), (.wet (.load 1 false (.t 15))), none⟩, 7, false),
 (⟨(some 17), (.dry (.mov (.t 6))), none⟩, 0, false),
 (⟨(some 18), (.wet (.load 1 false (.t 2))), none⟩, 0, false),
 (⟨(some 19), (.dry (.nilchk (.t 18))), none⟩, 32, false),
 (⟨(some 20), (.dry (.faddr 6 1 false (.t 19))), none⟩, 96, false),
 (⟨(some 21), (.wet (.load 1 false (.t 20))), none⟩, 224, false),
 (⟨(some 22), (.dry (.mov (.t 6))), none⟩, 0, false),
 (⟨(some 23), (.wet (.lookup .i .nils false (.t 21) (.t 22))), none⟩, 992, false),
 (⟨(some 24), (.dry (.mov (.t 0))), none⟩, 0, false),
 (⟨(some 25), (.wet (.bsl 1 1 [(.int .i64 0)] [(0, (.t 24))])), none⟩, 2048, false),
 (⟨(some 26), (.wet (.append 8 1 8 (.t 23) (.t 25))), none⟩, 8160, false),
 (⟨none, (.wet (.mapset .i (.t 16) (.t 17) (.t 26))), none⟩, 16383, true)])))
 (.reg [⟨(some 27), (.dry (.bin .add (.t 9) (.k (.int .i64 1)))), none⟩,
 ⟨(some 9), (.dry (.mov (.t 27))), none⟩]))))))) }

/-- (*bellcrank/sccp.solver).block -/
def e142 : EFunc := { own := none, res := [], ntmps := 113, pure := false, body :=
 (.seq (.reg [⟨(some 14), (.dry (.mov (.t 0))), none⟩,
 ⟨(some 15), (.dry (.nilchk (.t 14))), none⟩,
 ⟨(some 16), (.dry (.faddr 0 4 true (.t 15))), none⟩,
 ⟨(some 17), (.dry (.faddr 3 1 false (.t 16))), none⟩,
 ⟨(some 18), (.wet (.load 1 false (.t 17))), none⟩,
 ⟨(some 19), (.dry (.mov (.t 1))), none⟩,
 ⟨(some 20), (.dry (.iaddr 6 (.t 18) (.t 19))), none⟩,
 ⟨(some 21), (.wet (.load 6 true (.t 20))), none⟩,
 ⟨(some 4), (.wet (.alloc 137 6 [.nils, .nils, (.int .i64 0), (.int .i64 0), .nils, .nils])), none⟩,
 ⟨none, (.wet (.store 6 (.t 4) (.t 21))), none⟩])
 (.seq (.seq (.reg [⟨(some 22), (.dry (.faddr 1 1 false (.t 4))), none⟩,
 ⟨(some 23), (.wet (.load 1 false (.t 22))), none⟩,
 ⟨(some 24), (.dry (.len (.t 23))), none⟩,
 ⟨(some 25), (.dry (.mov (.k (.int .i64 0)))), none⟩])
 (.block 0
 (.loop
 (.seq (.reg [⟨(some 26), (.dry (.bin .lss (.t 25) (.t 24))), none⟩])
 (.seq (.cond (.t 26)
 .skip
 (.exit 0))
 (.seq (.block 1
 (.seq (.reg [⟨(some 27), (.dry (.iaddr 4 (.t 23) (.t 25))), none⟩,
 ⟨(some 28), (.wet (.load 4 true (.t 27))), none⟩,
 ⟨(some 6), (.wet (.alloc 143 4 [(.int .i64 0), (.int .u64 0), .nils, .nils])), none⟩,
 ⟨none, (.wet (.store 4 (.t 6) (.t 28))), none⟩])
 (.seq (.reg [⟨(some 29), (.dry (.mov (.t 0))), none⟩,
 ⟨(some 30), (.wet (.load 4 true (.t 6))), none⟩,
 ⟨(some 31), (.call (.k (.fn 187 [] [])) [(.t 29), (.t 30)]), none⟩,
 ⟨(some 7), (.wet (.alloc 411 2 [(.int .i64 0), (.int .u64 0)])), none⟩,
 ⟨none, (.wet (.store 2 (.t 7) (.t 31))), none⟩])
 (.seq (.reg [⟨(some 32), (.dry (.faddr 3 1 false (.t 6))), none⟩,
 ⟨(some 33), (.wet (.load 1 false (.t 32))), none⟩,
 ⟨(some 34), (.dry (.len (.t 33))), none⟩,
 ⟨(some 35), (.dry (.mov (.k (.int .i64 0)))), none⟩])
 (.block 2
 (.loop
 (.seq (.reg [⟨(some 36), (.dry (.bin .lss (.t 35) (.t 34))), none⟩])
 (.seq (.cond (.t 36)
 .skip
 (.exit 2))
 (.seq (.block 3
 (.seq (.reg [⟨(some 37), (.dry (.iaddr 1 (.t 33) (.t 35))), none⟩,
 ⟨(some 38), (.wet (.load 1 false (.t 37))), none⟩,
 ⟨(some 9), (.dry (.mov (.t 38))), none⟩])
 (.reg [⟨(some 39), (.dry (.mov (.t 0))), none⟩,
 ⟨(some 40), (.dry (.mov (.t 9))), none⟩,
 ⟨(some 41), (.wet (.load 2 true (.t 7))), none⟩,
 ⟨(some 42), (.call (.k (.fn 188 [] [])) [(.t 39), (.t 40), (.t 41)]), none⟩])))
 (.reg [⟨(some 43), (.dry (.bin .add (.t 35) (.k (.int .i64 1)))), none⟩,
 ⟨(some 35), (.dry (.mov (.t 43))), none⟩]))))))))))
 (.reg [⟨(some 44), (.dry (.bin .add (.t 25) (.k (.int .i64 1)))), none⟩,
 ⟨(some 25), (.dry (.mov (.t 44))), none⟩])))))))
 (.seq (.reg [⟨(some 45), (.dry (.mov (.t 0))), none⟩,
 ⟨(some 46), (.dry (.faddr 2 4 true (.t 4))), none⟩,
 ⟨(some 47), (.wet (.load 4 true (.t 46))), none⟩,
 ⟨(some 48), (.call (.k (.fn 145 [] [])) [(.t 45), (.t 47)]), none⟩,
 ⟨(some 49), (.dry (.len (.t 48))), none⟩,
 ⟨(some 50), (.dry (.mov (.k (.int .i64 0)))), none⟩])
 (.block 4
 (.loop
 (.seq (.reg [⟨(some 51), (.dry (.bin .lss (.t 50) (.t 49))), none⟩])
 (.seq (.cond (.t 51)
 .skip
 (.exit 4))
 (.seq (.block 5
 (.seq (.reg [⟨(some 52), (.dry (.iaddr 2 (.t 48) (.t 50))), none⟩,
 ⟨(some 53), (.wet (.load 2 true (.t 52))), none⟩,
 ⟨(some 11), (.wet (.alloc 191 2 [(.int .i64 0), .nils])), none⟩,
 ⟨none, (.wet (.store 2 (.t 11) (.t 53))), none⟩])
 (.seq (.seq (.draw [(⟨(some 54), (.dry (.mov (.t 0))), none⟩, 0, false),
 (⟨(some 55), (.dry (.nilchk (.t 54))), none⟩, 1, false),
 (⟨(some 56), (.dry (.faddr 5 1 false (.t 55))), none⟩, 3, false),
 (⟨(some 57), (.wet (.load 1 false (.t 56))), none⟩, 7, false),
 (⟨(some 58), (.dry (.faddr 0 1 false (.t 11))), none⟩, 0, false),
 (⟨(some 59), (.wet (.load 1 false (.t 58))), none⟩, 16, false),
 (⟨(some 60), (.dry (.iaddr 1 (.t 57) (.t 59))), none⟩, 63, false),
 (⟨(some 61), (.wet (.load 1 false (.t 60))), none⟩, 127, true),
 (⟨(some 62), (.dry (.not (.t 61))), none⟩, 255, false)])
 (.cond (.t 62)
 (.seq (.draw [(⟨(some 63), (.dry (.mov (.t 0))), none⟩, 0, false),
 (⟨(some 64), (.dry (.nilchk (.t 63))), none⟩, 1, false),
 (⟨(some 65), (.dry (.faddr 5 1 false (.t 64))), none⟩, 3, false),
 (⟨(some 66), (.wet (.load 1 false (.t 65))), none⟩, 7, false),
 (⟨(some 67), (.dry (.faddr 0 1 false (.t 11))), none⟩, 0, false),
 (⟨(some 68), (.wet (.load 1 false (.t 67))), none⟩, 16, false),
 (⟨(some 69), (.dry (.iaddr 1 (.t 66) (.t 68))), none⟩, 63, false),
 (⟨none, (.wet (.store 1 (.t 69) (.k (.bool true)))), none⟩, 127, true)])
 (.draw [(⟨(some 70), (.dry (.mov (.t 0))), none⟩, 0, false),
 (⟨(some 71), (.dry (.mov (.t 0))), none⟩, 0, false),
 (⟨(some 72), (.dry (.nilchk (.t 71))), none⟩, 2, false),
 (⟨(some 73), (.dry (.faddr 7 1 false (.t 72))), none⟩, 6, false),
 (⟨(some 74), (.wet (.load 1 false (.t 73))), none⟩, 14, false),
 (⟨(some 75), (.dry (.faddr 0 1 false (.t 11))), none⟩, 0, false),
 (⟨(some 76), (.wet (.load 1 false (.t 75))), none⟩, 32, false),
 (⟨(some 77), (.wet (.bsl 1 1 [(.int .i64 0)] [(0, (.t 76))])), none⟩, 96, false),
 (⟨(some 78), (.wet (.append 8 1 8 (.t 74) (.t 77))), none⟩, 254, true),
 (⟨(some 79), (.dry (.nilchk (.t 70))), none⟩, 511, false),
 (⟨(some 80), (.dry (.faddr 7 1 false (.t 79))), none⟩, 1023, false),
 (⟨none, (.wet (.store 1 (.t 80) (.t 78))), none⟩, 2047, true)]))
 .skip))
 (.seq (.draw [(⟨(some 81), (.dry (.mov (.t 0))), none⟩, 0, false),
 (⟨(some 82), (.dry (.nilchk (.t 81))), none⟩, 1, false),
 (⟨(some 83), (.dry (.faddr 0 4 true (.t 82))), none⟩, 3, false),
 (⟨(some 84), (.dry (.faddr 3 1 false (.t 83))), none⟩, 7, false),
 (⟨(some 85), (.wet (.load 1 false (.t 84))), none⟩, 15, false),
 (⟨(some 86), (.dry (.faddr 0 1 false (.t 11))), none⟩, 0, false),
 (⟨(some 87), (.wet (.load 1 false (.t 86))), none⟩, 32, false),
 (⟨(some 88), (.dry (.iaddr 6 (.t 85) (.t 87))), none⟩, 127, false),
 (⟨(some 89), (.dry (.faddr 0 1 false (.t 88))), none⟩, 255, false),
 (⟨(some 90), (.wet (.load 1 false (.t 89))), none⟩, 511, true),
 (⟨(some 91), (.dry (.len (.t 90))), none⟩, 1023, false),
 (⟨(some 92), (.dry (.mov (.k (.int .i64 0)))), none⟩, 0, false)])
 (.block 6
 (.loop
 (.seq (.reg [⟨(some 93), (.dry (.bin .lss (.t 92) (.t 91))), none⟩])
 (.seq (.cond (.t 93)
 .skip
 (.exit 6))
 (.seq (.block 7
 (.seq (.reg [⟨(some 94), (.dry (.mov (.t 92))), none⟩,
 ⟨(some 95), (.dry (.iaddr 1 (.t 90) (.t 92))), none⟩,
 ⟨(some 96), (.wet (.load 1 false (.t 95))), none⟩,
 ⟨(some 12), (.dry (.mov (.t 94))), none⟩,
 ⟨(some 13), (.dry (.mov (.t 96))), none⟩])
 (.draw [(⟨(some 97), (.dry (.mov (.t 0))), none⟩, 0, false),
 (⟨(some 98), (.dry (.mov (.t 13))), none⟩, 0, false),
 (⟨(some 99), (.dry (.mov (.t 0))), none⟩, 0, false),
 (⟨(some 100), (.dry (.nilchk (.t 99))), none⟩, 4, false),
 (⟨(some 101), (.dry (.faddr 4 1 false (.t 100))), none⟩, 12, false),
 (⟨(some 102), (.wet (.load 1 false (.t 101))), none⟩, 28, false),
 (⟨(some 103), (.dry (.faddr 1 1 false (.t 11))), none⟩, 0, false),
 (⟨(some 104), (.wet (.load 1 false (.t 103))), none⟩, 64, false),
 (⟨(some 105), (.dry (.mov (.t 12))), none⟩, 0, false),
 (⟨(some 106), (.dry (.iaddr 1 (.t 104) (.t 105))), none⟩, 448, false),
 (⟨(some 107), (.wet (.load 1 false (.t 106))), none⟩, 960, false),
 (⟨(some 108), (.dry (.iaddr 2 (.t 102) (.t 107))), none⟩, 2044, false),
 (⟨(some 109), (.wet (.load 2 true (.t 108))), none⟩, 4092, true),
 (⟨(some 110), (.call (.k (.fn 188 [] [])) [(.t 97), (.t 98), (.t 109)]), none⟩, 8191, true)])))
 (.reg [⟨(some 111), (.dry (.bin .add (.t 92) (.k (.int .i64 1)))), none⟩,
 ⟨(some 92), (.dry (.mov (.t 111))), none⟩]))))))))))
 (.reg [⟨(some 112), (.dry (.bin .add (.t 50) (.k (.int .i64 1)))), none⟩,
 ⟨(some 50), (.dry (.mov (.t 112))), none⟩]))))))))) }

/-- (*bellcrank/sccp.solver).is -/
def e143 : EFunc := { own := none, res := [(.tmp 4)], ntmps := 14, pure := false, body :=
 (.seq (.reg [⟨(some 4), (.dry (.mov (.k (.bool false)))), none⟩])
 (.seq (.reg [⟨(some 5), (.dry (.mov (.t 0))), none⟩,
 ⟨(some 6), (.dry (.nilchk (.t 5))), none⟩,
 ⟨(some 7), (.dry (.faddr 4 1 false (.t 6))), none⟩,
 ⟨(some 8), (.wet (.load 1 false (.t 7))), none⟩,
 ⟨(some 9), (.dry (.mov (.t 1))), none⟩,
 ⟨(some 10), (.dry (.iaddr 2 (.t 8) (.t 9))), none⟩,
 ⟨(some 11), (.dry (.faddr 0 1 false (.t 10))), none⟩,
 ⟨(some 12), (.wet (.load 1 false (.t 11))), none⟩,
 ⟨(some 13), (.dry (.eq (.prim .i) false (.t 12) (.k (.int .i64 1)))), none⟩,
 ⟨(some 4), (.dry (.mov (.t 13))), none⟩])
 .ret)) }

/-- (*bellcrank/sccp.solver).constant -/
def e144 : EFunc := { own := none, res := [(.cell 4 4 true)], ntmps := 16, pure := false, body :=
 (.seq (.reg [⟨(some 4), (.wet (.alloc 143 4 [(.int .i64 0), (.int .u64 0), .nils, .nils])), none⟩])
 (.seq (.reg [⟨(some 5), (.dry (.mov (.t 0))), none⟩,
 ⟨(some 6), (.dry (.nilchk (.t 5))), none⟩,
 ⟨(some 7), (.dry (.faddr 4 1 false (.t 6))), none⟩,
 ⟨(some 8), (.wet (.load 1 false (.t 7))), none⟩,
 ⟨(some 9), (.dry (.mov (.t 1))), none⟩,
 ⟨(some 10), (.dry (.iaddr 2 (.t 8) (.t 9))), none⟩,
 ⟨(some 11), (.dry (.faddr 1 1 false (.t 10))), none⟩,
 ⟨(some 12), (.wet (.load 1 false (.t 11))), none⟩,
 ⟨(some 13), (.dry (.mov (.t 1))), none⟩,
 ⟨(some 14), (.wet (.bsl 1 1 [(.int .i64 0)] [(0, (.t 13))])), none⟩,
 ⟨(some 15), (.dry (.build [(.int .i64 0), (.int .u64 0), .nils, .nils] [(0, 1, (.k (.int .i64 256))), (1, 1, (.t 12)), (3, 1, (.t 14))])), none⟩,
 ⟨none, (.wet (.store 4 (.t 4) (.t 15))), none⟩])
 .ret)) }

/-- (*bellcrank/sccp.solver).taken -/
def e145 : EFunc := { own := none, res := [(.tmp 4)], ntmps := 54, pure := false, body :=
 (.seq (.reg [⟨(some 3), (.wet (.box 4 (.t 1))), none⟩,
 ⟨(some 4), (.dry (.mov (.k .nils))), none⟩])
 (.seq (.seq (.reg [⟨(some 7), (.dry (.faddr 0 1 false (.t 3))), none⟩,
 ⟨(some 8), (.wet (.load 1 false (.t 7))), none⟩,
 ⟨(some 9), (.dry (.eq (.prim .i) true (.t 8) (.k (.int .i64 2)))), none⟩,
 ⟨(some 10), (.dry (.mov (.t 9))), none⟩,
 ⟨(some 11), (.dry (.faddr 0 1 false (.t 3))), (some (10, true))⟩,
 ⟨(some 12), (.wet (.load 1 false (.t 11))), (some (10, true))⟩,
 ⟨(some 13), (.dry (.eq (.prim .i) true (.t 12) (.k (.int .i64 3)))), (some (10, true))⟩,
 ⟨(some 14), (.dry (.pick (.t 10) (.t 13) (.k (.bool false)))), none⟩])
 (.cond (.t 14)
 (.seq (.reg [⟨(some 15), (.dry (.faddr 2 1 false (.t 3))), none⟩,
 ⟨(some 16), (.wet (.load 1 false (.t 15))), none⟩,
 ⟨(some 4), (.dry (.mov (.t 16))), none⟩])
 .ret)
 .skip))
 (.seq (.draw [(⟨(some 17), (.dry (.mov (.t 0))), none⟩, 0, false),
 (⟨(some 18), (.dry (.nilchk (.t 17))), none⟩, 1, false),
 (⟨(some 19), (.dry (.faddr 4 1 false (.t 18))), none⟩, 3, false),
 (⟨(some 20), (.wet (.load 1 false (.t 19))), none⟩, 7, false),
 (⟨(some 21), (.dry (.faddr 1 1 false (.t 3))), none⟩, 0, false),
 (⟨(some 22), (.wet (.load 1 false (.t 21))), none⟩, 16, false),
 (⟨(some 23), (.dry (.iaddr 2 (.t 20) (.t 22))), none⟩, 63, false),
 (⟨(some 24), (.wet (.load 2 true (.t 23))), none⟩, 127, false),
 (⟨(some 5), (.wet (.alloc 411 2 [(.int .i64 0), (.int .u64 0)])), none⟩, 0, false),
 (⟨none, (.wet (.store 2 (.t 5) (.t 24))), none⟩, 511, true)])
 (.seq (.reg [⟨(some 25), (.dry (.faddr 1 1 false (.t 5))), none⟩,
 ⟨(some 26), (.wet (.load 1 false (.t 25))), none⟩,
 ⟨(some 27), (.dry (.faddr 2 1 false (.t 3))), none⟩,
 ⟨(some 28), (.wet (.load 1 false (.t 27))), none⟩,
 ⟨(some 29), (.dry (.len (.t 28))), none⟩,
 ⟨(some 30), (.dry (.bin .sub (.t 29) (.k (.int .i64 1)))), none⟩,
 ⟨(some 31), (.dry (.conv .u64 (.t 30))), none⟩,
 ⟨(some 32), (.dry (.mm false [(.t 26), (.t 31)])), none⟩,
 ⟨(some 6), (.dry (.mov (.t 32))), none⟩])
 (.seq (.seq (.reg [⟨(some 33), (.dry (.faddr 0 1 false (.t 3))), none⟩,
 ⟨(some 34), (.wet (.load 1 false (.t 33))), none⟩,
 ⟨(some 35), (.dry (.eq (.prim .i) false (.t 34) (.k (.int .i64 2)))), none⟩])
 (.cond (.t 35)
 (.reg [⟨(some 36), (.dry (.faddr 1 1 false (.t 5))), none⟩,
 ⟨(some 37), (.wet (.load 1 false (.t 36))), none⟩,
 ⟨(some 38), (.dry (.mm false [(.t 37), (.k (.int .u64 1))])), none⟩,
 ⟨(some 39), (.dry (.bin .sub (.k (.int .u64 1)) (.t 38))), none⟩,
 ⟨(some 6), (.dry (.mov (.t 39))), none⟩])
 .skip))
 (.seq (.seq (.reg [⟨(some 40), (.dry (.faddr 0 1 false (.t 5))), none⟩,
 ⟨(some 41), (.wet (.load 1 false (.t 40))), none⟩])
 (.block 0
 (.seq (.reg [⟨(some 43), (.dry (.eq (.prim .i) false (.t 41) (.k (.int .i64 0)))), none⟩,
 ⟨(some 42), (.dry (.mov (.t 43))), none⟩])
 (.cond (.t 42)
 (.seq (.reg [⟨(some 4), (.dry (.mov (.k .nils))), none⟩])
 .ret)
 (.seq (.reg [⟨(some 45), (.dry (.eq (.prim .i) false (.t 41) (.k (.int .i64 1)))), none⟩,
 ⟨(some 44), (.dry (.mov (.t 45))), none⟩])
 (.cond (.t 44)
 (.seq (.reg [⟨(some 46), (.dry (.faddr 2 1 false (.t 3))), none⟩,
 ⟨(some 47), (.wet (.load 1 false (.t 46))), none⟩,
 ⟨(some 48), (.dry (.mov (.t 6))), none⟩,
 ⟨(some 49), (.dry (.mov (.t 6))), none⟩,
 ⟨(some 50), (.dry (.bin .add (.t 49) (.k (.int .u64 1)))), none⟩,
 ⟨(some 51), (.wet (.slice 2 (.t 47) (some (.t 48)) (some (.t 50)))), none⟩,
 ⟨(some 4), (.dry (.mov (.t 51))), none⟩])
 .ret)
 .skip))))))
 (.seq (.reg [⟨(some 52), (.dry (.faddr 2 1 false (.t 3))), none⟩,
 ⟨(some 53), (.wet (.load 1 false (.t 52))), none⟩,
 ⟨(some 4), (.dry (.mov (.t 53))), none⟩])
 .ret))))))) }

/-- bellcrank/graph.Right -/
def e147 : EFunc := { own := none, res := [(.tmp 2)], ntmps := 28, pure := false, body :=
 (.seq (.reg [⟨(some 1), (.wet (.box 1 (.t 0))), none⟩,
 ⟨(some 2), (.dry (.mov (.k (.bool false)))), none⟩])
 (.seq (.seq (.reg [⟨(some 5), (.wet (.load 1 false (.t 1))), none⟩,
 ⟨(some 6), (.dry (.len (.t 5))), none⟩,
 ⟨(some 7), (.dry (.eq (.prim .i) false (.t 6) (.k (.int .i64 0)))), none⟩,
 ⟨(some 8), (.dry (.mov (.t 7))), none⟩,
 ⟨(some 9), (.wet (.load 1 false (.t 1))), (some (8, false))⟩,
 ⟨(some 10), (.dry (.len (.t 9))), (some (8, false))⟩,
 ⟨(some 11), (.dry (.bin .gtr (.t 10) (.k (.int .i64 256)))), (some (8, false))⟩,
 ⟨(some 12), (.dry (.pick (.t 8) (.k (.bool true)) (.t 11))), none⟩])
 (.cond (.t 12)
 (.seq (.reg [⟨(some 2), (.dry (.mov (.k (.bool false)))), none⟩])
 .ret)
 .skip))
 (.seq (.seq (.reg [⟨(some 13), (.wet (.load 1 false (.t 1))), none⟩,
 ⟨(some 14), (.dry (.len (.t 13))), none⟩,
 ⟨(some 15), (.dry (.mov (.k (.int .i64 0)))), none⟩])
 (.block 0
 (.loop
 (.seq (.reg [⟨(some 16), (.dry (.bin .lss (.t 15) (.t 14))), none⟩])
 (.seq (.cond (.t 16)
 .skip
 (.exit 0))
 (.seq (.block 1
 (.seq (.reg [⟨(some 17), (.dry (.iaddr 1 (.t 13) (.t 15))), none⟩,
 ⟨(some 18), (.wet (.load 1 false (.t 17))), none⟩,
 ⟨(some 4), (.dry (.mov (.t 18))), none⟩])
 (.seq (.reg [⟨(some 19), (.dry (.mov (.t 4))), none⟩,
 ⟨(some 20), (.dry (.len (.t 19))), none⟩,
 ⟨(some 21), (.dry (.bin .gtr (.t 20) (.k (.int .i64 128)))), none⟩,
 ⟨(some 22), (.dry (.mov (.t 21))), none⟩,
 ⟨(some 23), (.dry (.mov (.t 4))), (some (22, false))⟩,
 ⟨(some 24), (.dry (.mkfn 189 [] [(.t 1)])), (some (22, false))⟩,
 ⟨(some 25), (.call (.k (.fn 106 [] [])) [(.t 23), (.t 24)]), (some (22, false))⟩,
 ⟨(some 26), (.dry (.pick (.t 22) (.k (.bool true)) (.t 25))), none⟩])
 (.cond (.t 26)
 (.seq (.reg [⟨(some 2), (.dry (.mov (.k (.bool false)))), none⟩])
 .ret)
 .skip))))
 (.reg [⟨(some 27), (.dry (.bin .add (.t 15) (.k (.int .i64 1)))), none⟩,
 ⟨(some 15), (.dry (.mov (.t 27))), none⟩])))))))
 (.seq (.reg [⟨(some 2), (.dry (.mov (.k (.bool true)))), none⟩])
 .ret)))) }

/-- bellcrank/graph.order -/
def e148 : EFunc := { own := none, res := [(.tmp 2)], ntmps := 77, pure := false, body :=
 (.seq (.reg [⟨(some 2), (.dry (.mov (.k .nils))), none⟩])
 (.scope
 (.seq (.reg [⟨(some 9), (.dry (.mov (.t 0))), none⟩,
 ⟨(some 10), (.dry (.len (.t 9))), none⟩,
 ⟨(some 11), (.wet (.mksl 1 1 [(.bool false)] (.t 10) (.t 10))), none⟩,
 ⟨(some 3), (.dry (.mov (.t 11))), none⟩])
 (.seq (.reg [⟨(some 12), (.dry (.mov (.t 0))), none⟩,
 ⟨(some 13), (.dry (.len (.t 12))), none⟩,
 ⟨(some 14), (.wet (.mksl 1 8 [(.int .i64 0)] (.t 13) (.t 13))), none⟩,
 ⟨(some 4), (.dry (.mov (.t 14))), none⟩])
 (.seq (.reg [⟨(some 15), (.dry (.mov (.t 3))), none⟩,
 ⟨(some 16), (.dry (.iaddr 1 (.t 15) (.k (.int .i64 0)))), none⟩,
 ⟨none, (.wet (.store 1 (.t 16) (.k (.bool true)))), none⟩])
 (.seq (.reg [⟨(some 17), (.wet (.bsl 1 1 [(.int .i64 0)] [(0, (.k (.int .i64 0)))])), none⟩,
 ⟨(some 5), (.dry (.mov (.t 17))), none⟩])
 (.seq (.reg [⟨(some 6), (.dry (.mov (.k .nils))), none⟩])
 (.seq (.label 0)
 (.seq (.block 0
 (.loop
 (.seq (.seq (.reg [⟨(some 18), (.dry (.mov (.t 5))), none⟩,
 ⟨(some 19), (.dry (.len (.t 18))), none⟩,
 ⟨(some 20), (.dry (.bin .gtr (.t 19) (.k (.int .i64 0)))), none⟩])
 (.cond (.t 20)
 .skip
 (.exit 0)))
 (.block 1
 (.seq (.reg [⟨(some 21), (.dry (.mov (.t 5))), none⟩,
 ⟨(some 22), (.dry (.mov (.t 5))), none⟩,
 ⟨(some 23), (.dry (.len (.t 22))), none⟩,
 ⟨(some 24), (.dry (.bin .sub (.t 23) (.k (.int .i64 1)))), none⟩,
 ⟨(some 25), (.dry (.iaddr 1 (.t 21) (.t 24))), none⟩,
 ⟨(some 26), (.wet (.load 1 false (.t 25))), none⟩,
 ⟨(some 7), (.dry (.mov (.t 26))), none⟩])
 (.seq (.block 2
 (.loop
 (.seq (.seq (.draw [(⟨(some 27), (.dry (.mov (.t 4))), none⟩, 0, false),
 (⟨(some 28), (.dry (.mov (.t 7))), none⟩, 0, false),
 (⟨(some 29), (.dry (.iaddr 1 (.t 27) (.t 28))), none⟩, 3, false),
 (⟨(some 30), (.wet (.load 1 false (.t 29))), none⟩, 7, false),
 (⟨(some 31), (.dry (.mov (.t 0))), none⟩, 0, false),
 (⟨(some 32), (.dry (.mov (.t 7))), none⟩, 0, false),
 (⟨(some 33), (.dry (.iaddr 1 (.t 31) (.t 32))), none⟩, 48, false),
 (⟨(some 34), (.wet (.load 1 false (.t 33))), none⟩, 112, false),
 (⟨(some 35), (.dry (.len (.t 34))), none⟩, 240, false),
 (⟨(some 36), (.dry (.bin .lss (.t 30) (.t 35))), none⟩, 511, false)])
 (.cond (.t 36)
 .skip
 (.exit 2)))
 (.block 3
 (.seq (.draw [(⟨(some 37), (.dry (.mov (.t 0))), none⟩, 0, false),
 (⟨(some 38), (.dry (.mov (.t 7))), none⟩, 0, false),
 (⟨(some 39), (.dry (.iaddr 1 (.t 37) (.t 38))), none⟩, 3, false),
 (⟨(some 40), (.wet (.load 1 false (.t 39))), none⟩, 7, false),
 (⟨(some 41), (.dry (.mov (.t 4))), none⟩, 0, false),
 (⟨(some 42), (.dry (.mov (.t 7))), none⟩, 0, false),
 (⟨(some 43), (.dry (.iaddr 1 (.t 41) (.t 42))), none⟩, 48, false),
 (⟨(some 44), (.wet (.load 1 false (.t 43))), none⟩, 112, false),
 (⟨(some 45), (.dry (.iaddr 1 (.t 40) (.t 44))), none⟩, 255, false),
 (⟨(some 46), (.wet (.load 1 false (.t 45))), none⟩, 511, true),
 (⟨(some 8), (.dry (.mov (.t 46))), none⟩, 1023, false)])
 (.seq (.reg [⟨(some 47), (.dry (.mov (.t 4))), none⟩,
 ⟨(some 48), (.dry (.mov (.t 7))), none⟩,
 ⟨(some 49), (.dry (.iaddr 1 (.t 47) (.t 48))), none⟩,
 ⟨(some 50), (.wet (.load 1 false (.t 49))), none⟩,
 ⟨(some 51), (.dry (.bin .add (.t 50) (.k (.int .i64 1)))), none⟩,
 ⟨(some 52), (.dry (.iaddr 1 (.t 47) (.t 48))), none⟩,
 ⟨none, (.wet (.store 1 (.t 52) (.t 51))), none⟩])
 (.seq (.reg [⟨(some 53), (.dry (.mov (.t 3))), none⟩,
 ⟨(some 54), (.dry (.mov (.t 8))), none⟩,
 ⟨(some 55), (.dry (.iaddr 1 (.t 53) (.t 54))), none⟩,
 ⟨(some 56), (.wet (.load 1 false (.t 55))), none⟩,
 ⟨(some 57), (.dry (.not (.t 56))), none⟩])
 (.cond (.t 57)
 (.seq (.reg [⟨(some 58), (.dry (.mov (.t 3))), none⟩,
 ⟨(some 59), (.dry (.mov (.t 8))), none⟩,
 ⟨(some 60), (.dry (.iaddr 1 (.t 58) (.t 59))), none⟩,
 ⟨none, (.wet (.store 1 (.t 60) (.k (.bool true)))), none⟩])
 (.seq (.reg [⟨(some 61), (.dry (.mov (.t 5))), none⟩,
 ⟨(some 62), (.dry (.mov (.t 8))), none⟩,
 ⟨(some 63), (.wet (.bsl 1 1 [(.int .i64 0)] [(0, (.t 62))])), none⟩,
 ⟨(some 64), (.wet (.append 8 1 8 (.t 61) (.t 63))), none⟩,
 ⟨(some 5), (.dry (.mov (.t 64))), none⟩])
 (.exit 1)))
 .skip))))))))
 (.seq (.reg [⟨(some 65), (.dry (.mov (.t 5))), none⟩,
 ⟨(some 66), (.dry (.mov (.t 5))), none⟩,
 ⟨(some 67), (.dry (.len (.t 66))), none⟩,
 ⟨(some 68), (.dry (.bin .sub (.t 67) (.k (.int .i64 1)))), none⟩,
 ⟨(some 69), (.wet (.slice 1 (.t 65) none (some (.t 68)))), none⟩,
 ⟨(some 5), (.dry (.mov (.t 69))), none⟩])
 (.reg [⟨(some 70), (.dry (.mov (.t 6))), none⟩,
 ⟨(some 71), (.dry (.mov (.t 7))), none⟩,
 ⟨(some 72), (.wet (.bsl 1 1 [(.int .i64 0)] [(0, (.t 71))])), none⟩,
 ⟨(some 73), (.wet (.append 8 1 8 (.t 70) (.t 72))), none⟩,
 ⟨(some 6), (.dry (.mov (.t 73))), none⟩]))))))))
 (.seq (.reg [⟨(some 74), (.dry (.mov (.t 6))), none⟩,
 ⟨(some 75), (.call (.k (.fn 190 [] [])) [(.t 74)]), none⟩])
 (.seq (.reg [⟨(some 76), (.dry (.mov (.t 6))), none⟩,
 ⟨(some 2), (.dry (.mov (.t 76))), none⟩])
 .ret))))))))))) }

/-- bellcrank/graph.From -/
def e149 : EFunc := { own := none, res := [(.tmp 2), (.tmp 3)], ntmps := 41, pure := false, body :=
 (.seq (.reg [⟨(some 2), (.dry (.mov (.k .nils))), none⟩,
 ⟨(some 3), (.dry (.mov (.k (.int .i64 0)))), none⟩])
 (.seq (.seq (.reg [⟨(some 9), (.dry (.mov (.t 0))), none⟩,
 ⟨(some 10), (.call (.k (.fn 147 [] [])) [(.t 9)]), none⟩,
 ⟨(some 11), (.dry (.not (.t 10))), none⟩])
 (.cond (.t 11)
 (.seq (.reg [⟨(some 2), (.dry (.mov (.k .nils))), none⟩,
 ⟨(some 3), (.dry (.mov (.k (.int .i64 1)))), none⟩])
 .ret)
 .skip))
 (.seq (.reg [⟨(some 12), (.dry (.mov (.t 0))), none⟩,
 ⟨(some 13), (.dry (.len (.t 12))), none⟩,
 ⟨(some 14), (.wet (.mksl 1 24 [.nils] (.t 13) (.t 13))), none⟩,
 ⟨(some 4), (.dry (.mov (.t 14))), none⟩])
 (.seq (.seq (.reg [⟨(some 15), (.dry (.mov (.t 0))), none⟩,
 ⟨(some 16), (.dry (.len (.t 15))), none⟩,
 ⟨(some 17), (.dry (.mov (.k (.int .i64 0)))), none⟩])
 (.block 0
 (.loop
 (.seq (.reg [⟨(some 18), (.dry (.bin .lss (.t 17) (.t 16))), none⟩])
 (.seq (.cond (.t 18)
 .skip
 (.exit 0))
 (.seq (.block 1
 (.seq (.reg [⟨(some 19), (.dry (.mov (.t 17))), none⟩,
 ⟨(some 20), (.dry (.iaddr 1 (.t 15) (.t 17))), none⟩,
 ⟨(some 21), (.wet (.load 1 false (.t 20))), none⟩,
 ⟨(some 5), (.dry (.mov (.t 19))), none⟩,
 ⟨(some 6), (.dry (.mov (.t 21))), none⟩])
 (.seq (.reg [⟨(some 22), (.dry (.mov (.t 6))), none⟩,
 ⟨(some 23), (.dry (.len (.t 22))), none⟩,
 ⟨(some 24), (.dry (.mov (.k (.int .i64 0)))), none⟩])
 (.block 2
 (.loop
 (.seq (.reg [⟨(some 25), (.dry (.bin .lss (.t 24) (.t 23))), none⟩])
 (.seq (.cond (.t 25)
 .skip
 (.exit 2))
 (.seq (.block 3
 (.seq (.reg [⟨(some 26), (.dry (.iaddr 1 (.t 22) (.t 24))), none⟩,
 ⟨(some 27), (.wet (.load 1 false (.t 26))), none⟩,
 ⟨(some 8), (.dry (.mov (.t 27))), none⟩])
 (.reg [⟨(some 28), (.dry (.mov (.t 4))), none⟩,
 ⟨(some 29), (.dry (.mov (.t 8))), none⟩,
 ⟨(some 30), (.dry (.mov (.t 4))), none⟩,
 ⟨(some 31), (.dry (.mov (.t 8))), none⟩,
 ⟨(some 32), (.dry (.iaddr 1 (.t 30) (.t 31))), none⟩,
 ⟨(some 33), (.wet (.load 1 false (.t 32))), none⟩,
 ⟨(some 34), (.dry (.mov (.t 5))), none⟩,
 ⟨(some 35), (.wet (.bsl 1 1 [(.int .i64 0)] [(0, (.t 34))])), none⟩,
 ⟨(some 36), (.wet (.append 8 1 8 (.t 33) (.t 35))), none⟩,
 ⟨(some 37), (.dry (.iaddr 1 (.t 28) (.t 29))), none⟩,
 ⟨none, (.wet (.store 1 (.t 37) (.t 36))), none⟩])))
 (.reg [⟨(some 38), (.dry (.bin .add (.t 24) (.k (.int .i64 1)))), none⟩,
 ⟨(some 24), (.dry (.mov (.t 38))), none⟩])))))))))
 (.reg [⟨(some 39), (.dry (.bin .add (.t 17) (.k (.int .i64 1)))), none⟩,
 ⟨(some 17), (.dry (.mov (.t 39))), none⟩])))))))
 (.seq (.reg [⟨(some 40), (.dry (.mov (.t 4))), none⟩,
 ⟨(some 2), (.dry (.mov (.t 40))), none⟩,
 ⟨(some 3), (.dry (.mov (.k (.int .i64 0)))), none⟩])
 .ret))))) }

/-- slices.Repeat[[]int,int] -/
def e150 : EFunc := { own := none, res := [(.tmp 4)], ntmps := 48, pure := false, body :=
 (.seq (.reg [⟨(some 4), (.dry (.mov (.k .nils))), none⟩])
 (.seq (.seq (.reg [⟨(some 9), (.dry (.mov (.t 1))), none⟩,
 ⟨(some 10), (.dry (.bin .lss (.t 9) (.k (.int .i64 0)))), none⟩])
 (.cond (.t 10)
 (.reg [⟨(some 11), (.dry (.mkifc 9 (.k (.str [99, 97, 110, 110, 111, 116, 32, 98, 101, 32, 110, 101, 103, 97, 116, 105, 118, 101])))), none⟩,
 ⟨none, (.panic (.t 11)), none⟩])
 .skip))
 (.seq (.reg [⟨(some 13), (.dry (.mov (.t 0))), none⟩,
 ⟨(some 14), (.dry (.len (.t 13))), none⟩,
 ⟨(some 15), (.dry (.conv .u64 (.t 14))), none⟩,
 ⟨(some 16), (.dry (.mov (.t 1))), none⟩,
 ⟨(some 17), (.dry (.conv .u64 (.t 16))), none⟩,
 ⟨(some 18), (.call (.k (.fn 191 [] [])) [(.t 15), (.t 17)]), none⟩,
 ⟨(some 12), (.dry (.mov (.t 18))), none⟩,
 ⟨(some 19), (.dry (.extract (.t 12) 0)), none⟩,
 ⟨(some 20), (.dry (.extract (.t 12) 1)), none⟩,
 ⟨(some 5), (.dry (.mov (.t 19))), none⟩,
 ⟨(some 6), (.dry (.mov (.t 20))), none⟩])
 (.seq (.seq (.reg [⟨(some 21), (.dry (.mov (.t 5))), none⟩,
 ⟨(some 22), (.dry (.bin .gtr (.t 21) (.k (.int .u64 0)))), none⟩,
 ⟨(some 23), (.dry (.mov (.t 22))), none⟩,
 ⟨(some 24), (.dry (.mov (.t 6))), (some (23, false))⟩,
 ⟨(some 25), (.dry (.bin .gtr (.t 24) (.k (.int .u64 9223372036854775807)))), (some (23, false))⟩,
 ⟨(some 26), (.dry (.pick (.t 23) (.k (.bool true)) (.t 25))), none⟩])
 (.cond (.t 26)
 (.reg [⟨(some 27), (.dry (.mkifc 9 (.k (.str [116, 104, 101, 32, 114, 101, 115, 117, 108, 116, 32, 111, 102, 32, 40, 108, 101, 110, 40, 120, 41, 32, 42, 32, 99, 111, 117, 110, 116, 41, 32, 111, 118, 101, 114, 102, 108, 111, 119, 115])))), none⟩,
 ⟨none, (.panic (.t 27)), none⟩])
 .skip))
 (.seq (.reg [⟨(some 28), (.dry (.mov (.t 6))), none⟩,
 ⟨(some 29), (.dry (.conv .i64 (.t 28))), none⟩,
 ⟨(some 30), (.wet (.mksl 1 8 [(.int .i64 0)] (.t 29) (.t 29))), none⟩,
 ⟨(some 7), (.dry (.mov (.t 30))), none⟩])
 (.seq (.reg [⟨(some 31), (.dry (.mov (.t 7))), none⟩,
 ⟨(some 32), (.dry (.mov (.t 0))), none⟩,
 ⟨(some 33), (.wet (.copy 1 (.t 31) (.t 32))), none⟩,
 ⟨(some 8), (.dry (.mov (.t 33))), none⟩])
 (.seq (.block 0
 (.loop
 (.seq (.seq (.reg [⟨(some 34), (.dry (.mov (.t 8))), none⟩,
 ⟨(some 35), (.dry (.mov (.t 7))), none⟩,
 ⟨(some 36), (.dry (.len (.t 35))), none⟩,
 ⟨(some 37), (.dry (.bin .lss (.t 34) (.t 36))), none⟩])
 (.cond (.t 37)
 .skip
 (.exit 0)))
 (.block 1
 (.draw [(⟨(some 38), (.dry (.mov (.t 8))), none⟩, 0, false),
 (⟨(some 39), (.dry (.mov (.t 7))), none⟩, 0, false),
 (⟨(some 40), (.dry (.mov (.t 8))), none⟩, 0, false),
 (⟨(some 41), (.wet (.slice 1 (.t 39) (some (.t 40)) none)), none⟩, 6, false),
 (⟨(some 42), (.dry (.mov (.t 7))), none⟩, 0, false),
 (⟨(some 43), (.dry (.mov (.t 8))), none⟩, 0, false),
 (⟨(some 44), (.wet (.slice 1 (.t 42) none (some (.t 43)))), none⟩, 48, false),
 (⟨(some 45), (.wet (.copy 1 (.t 41) (.t 44))), none⟩, 126, true),
 (⟨(some 46), (.dry (.bin .add (.t 38) (.t 45))), none⟩, 255, false),
 (⟨(some 8), (.dry (.mov (.t 46))), none⟩, 511, false)])))))
 (.seq (.reg [⟨(some 47), (.dry (.mov (.t 7))), none⟩,
 ⟨(some 4), (.dry (.mov (.t 47))), none⟩])
 .ret)))))))) }

/-- slices.IndexFunc[[]bellcrank/api.Ins,bellcrank/api.Ins] -/
def e152 : EFunc := { own := none, res := [(.tmp 4)], ntmps := 19, pure := false, body :=
 (.seq (.reg [⟨(some 4), (.dry (.mov (.k (.int .i64 0)))), none⟩])
 (.seq (.seq (.reg [⟨(some 6), (.dry (.mov (.t 0))), none⟩,
 ⟨(some 7), (.dry (.len (.t 6))), none⟩,
 ⟨(some 8), (.dry (.mov (.k (.int .i64 0)))), none⟩])
 (.block 0
 (.loop
 (.seq (.reg [⟨(some 9), (.dry (.bin .lss (.t 8) (.t 7))), none⟩])
 (.seq (.cond (.t 9)
 .skip
 (.exit 0))
 (.seq (.block 1
 (.seq (.reg [⟨(some 10), (.dry (.mov (.t 8))), none⟩,
 ⟨(some 5), (.dry (.mov (.t 10))), none⟩])
 (.seq (.reg [⟨(some 11), (.dry (.mov (.t 1))), none⟩,
 ⟨(some 12), (.dry (.mov (.t 0))), none⟩,
 ⟨(some 13), (.dry (.mov (.t 5))), none⟩,
 ⟨(some 14), (.dry (.iaddr 4 (.t 12) (.t 13))), none⟩,
 ⟨(some 15), (.wet (.load 4 true (.t 14))), none⟩,
 ⟨(some 16), (.call (.t 11) [(.t 15)]), none⟩])
 (.cond (.t 16)
 (.seq (.reg [⟨(some 17), (.dry (.mov (.t 5))), none⟩,
 ⟨(some 4), (.dry (.mov (.t 17))), none⟩])
 .ret)
 .skip))))
 (.reg [⟨(some 18), (.dry (.bin .add (.t 8) (.k (.int .i64 1)))), none⟩,
 ⟨(some 8), (.dry (.mov (.t 18))), none⟩])))))))
 (.seq (.reg [⟨(some 4), (.dry (.mov (.k (.int .i64 (-1))))), none⟩])
 .ret))) }

/-- bellcrank/num.Total -/
def e153 : EFunc := { own := none, res := [(.tmp 2)], ntmps := 23, pure := false, body :=
 (.seq (.reg [⟨(some 2), (.dry (.mov (.k (.bool false)))), none⟩])
 (.seq (.reg [⟨(some 7), (.dry (.mov (.t 0))), none⟩,
 ⟨(some 8), (.call (.k (.fn 192 [] [])) [(.t 7)]), none⟩,
 ⟨(some 6), (.dry (.mov (.t 8))), none⟩,
 ⟨(some 9), (.dry (.extract (.t 6) 0)), none⟩,
 ⟨(some 10), (.dry (.extract (.t 6) 1)), none⟩,
 ⟨(some 11), (.dry (.extract (.t 6) 2)), none⟩,
 ⟨(some 3), (.wet (.alloc 513 4 [(.int .i64 0), (.int .i64 0), (.int .i64 0), (.int .i64 0)])), none⟩,
 ⟨none, (.wet (.store 4 (.t 3) (.t 9))), none⟩,
 ⟨(some 4), (.dry (.mov (.t 10))), none⟩,
 ⟨(some 5), (.dry (.mov (.t 11))), none⟩])
 (.seq (.reg [⟨(some 12), (.dry (.mov (.t 5))), none⟩,
 ⟨(some 13), (.dry (.mov (.t 12))), none⟩,
 ⟨(some 14), (.dry (.faddr 2 1 false (.t 3))), (some (13, true))⟩,
 ⟨(some 15), (.wet (.load 1 false (.t 14))), (some (13, true))⟩,
 ⟨(some 16), (.dry (.eq (.prim .i) false (.t 15) (.k (.int .i64 3)))), (some (13, true))⟩,
 ⟨(some 17), (.dry (.mov (.t 16))), (some (13, true))⟩,
 ⟨(some 18), (.dry (.mov (.t 4))), (some (17, true))⟩,
 ⟨(some 19), (.call (.k (.fn 193 [] [])) [(.t 18)]), (some (17, true))⟩,
 ⟨(some 20), (.dry (.pick (.t 17) (.t 19) (.k (.bool false)))), (some (13, true))⟩,
 ⟨(some 21), (.dry (.not (.t 20))), (some (13, true))⟩,
 ⟨(some 22), (.dry (.pick (.t 13) (.t 21) (.k (.bool false)))), none⟩,
 ⟨(some 2), (.dry (.mov (.t 22))), none⟩])
 .ret))) }

/-- bellcrank/num.Commutes -/
def e154 : EFunc := { own := none, res := [(.tmp 2)], ntmps := 40, pure := false, body :=
 (.seq (.reg [⟨(some 2), (.dry (.mov (.k (.bool false)))), none⟩])
 (.seq (.reg [⟨(some 7), (.dry (.mov (.t 0))), none⟩,
 ⟨(some 8), (.call (.k (.fn 192 [] [])) [(.t 7)]), none⟩,
 ⟨(some 6), (.dry (.mov (.t 8))), none⟩,
 ⟨(some 9), (.dry (.extract (.t 6) 0)), none⟩,
 ⟨(some 10), (.dry (.extract (.t 6) 1)), none⟩,
 ⟨(some 11), (.dry (.extract (.t 6) 2)), none⟩,
 ⟨(some 3), (.wet (.alloc 513 4 [(.int .i64 0), (.int .i64 0), (.int .i64 0), (.int .i64 0)])), none⟩,
 ⟨none, (.wet (.store 4 (.t 3) (.t 9))), none⟩,
 ⟨(some 4), (.dry (.mov (.t 10))), none⟩,
 ⟨(some 5), (.dry (.mov (.t 11))), none⟩])
 (.seq (.block 0
 (.seq (.reg [⟨(some 13), (.dry (.mov (.t 5))), none⟩,
 ⟨(some 14), (.dry (.not (.t 13))), none⟩,
 ⟨(some 12), (.dry (.mov (.t 14))), none⟩])
 (.cond (.t 12)
 (.seq (.reg [⟨(some 2), (.dry (.mov (.k (.bool false)))), none⟩])
 .ret)
 (.seq (.reg [⟨(some 16), (.dry (.faddr 2 1 false (.t 3))), none⟩,
 ⟨(some 17), (.wet (.load 1 false (.t 16))), none⟩,
 ⟨(some 18), (.dry (.eq (.prim .i) false (.t 17) (.k (.int .i64 1)))), none⟩,
 ⟨(some 15), (.dry (.mov (.t 18))), none⟩])
 (.cond (.t 15)
 (.seq (.reg [⟨(some 19), (.dry (.mov (.t 4))), none⟩,
 ⟨(some 20), (.dry (.bin .lss (.t 19) (.k (.int .i64 2)))), none⟩,
 ⟨(some 2), (.dry (.mov (.t 20))), none⟩])
 .ret)
 .skip)))))
 (.seq (.reg [⟨(some 21), (.dry (.faddr 2 1 false (.t 3))), none⟩,
 ⟨(some 22), (.wet (.load 1 false (.t 21))), none⟩,
 ⟨(some 23), (.dry (.eq (.prim .i) false (.t 22) (.k (.int .i64 3)))), none⟩,
 ⟨(some 24), (.dry (.mov (.t 23))), none⟩,
 ⟨(some 25), (.dry (.mov (.t 4))), (some (24, true))⟩,
 ⟨(some 26), (.dry (.eq (.prim .i) false (.t 25) (.k (.int .i64 0)))), (some (24, true))⟩,
 ⟨(some 27), (.dry (.mov (.t 26))), (some (24, true))⟩,
 ⟨(some 28), (.dry (.mov (.t 4))), (some (27, false))⟩,
 ⟨(some 29), (.dry (.eq (.prim .i) false (.t 28) (.k (.int .i64 2)))), (some (27, false))⟩,
 ⟨(some 30), (.dry (.pick (.t 27) (.k (.bool true)) (.t 29))), (some (24, true))⟩,
 ⟨(some 31), (.dry (.mov (.t 30))), (some (24, true))⟩,
 ⟨(some 32), (.dry (.mov (.t 4))), (some (31, false))⟩,
 ⟨(some 33), (.dry (.bin .geq (.t 32) (.k (.int .i64 7)))), (some (31, false))⟩,
 ⟨(some 34), (.dry (.mov (.t 33))), (some (31, false))⟩,
 ⟨(some 35), (.dry (.mov (.t 4))), (some (34, true))⟩,
 ⟨(some 36), (.dry (.bin .leq (.t 35) (.k (.int .i64 9)))), (some (34, true))⟩,
 ⟨(some 37), (.dry (.pick (.t 34) (.t 36) (.k (.bool false)))), (some (31, false))⟩,
 ⟨(some 38), (.dry (.pick (.t 31) (.k (.bool true)) (.t 37))), (some (24, true))⟩,
 ⟨(some 39), (.dry (.pick (.t 24) (.t 38) (.k (.bool false)))), none⟩,
 ⟨(some 2), (.dry (.mov (.t 39))), none⟩])
 .ret)))) }

/-- (*strings.Builder).WriteString -/
def e156 : EFunc := { own := none, res := [(.tmp 4), (.tmp 5)], ntmps := 19, pure := false, body :=
 (.seq (.reg [⟨(some 4), (.dry (.mov (.k (.int .i64 0)))), none⟩,
 ⟨(some 5), (.dry (.mov (.k .nili))), none⟩])
 (.seq (.reg [⟨(some 6), (.dry (.mov (.t 0))), none⟩,
 ⟨(some 7), (.call (.k (.fn 196 [] [])) [(.t 6)]), none⟩])
 (.seq (.reg [⟨(some 8), (.dry (.mov (.t 0))), none⟩,
 ⟨(some 9), (.dry (.mov (.t 0))), none⟩,
 ⟨(some 10), (.dry (.nilchk (.t 9))), none⟩,
 ⟨(some 11), (.dry (.faddr 1 1 false (.t 10))), none⟩,
 ⟨(some 12), (.wet (.load 1 false (.t 11))), none⟩,
 ⟨(some 13), (.dry (.mov (.t 1))), none⟩,
 ⟨(some 14), (.wet (.append 12 1 1 (.t 12) (.t 13))), none⟩,
 ⟨(some 15), (.dry (.nilchk (.t 8))), none⟩,
 ⟨(some 16), (.dry (.faddr 1 1 false (.t 15))), none⟩,
 ⟨none, (.wet (.store 1 (.t 16) (.t 14))), none⟩])
 (.seq (.reg [⟨(some 17), (.dry (.mov (.t 1))), none⟩,
 ⟨(some 18), (.dry (.slen (.t 17))), none⟩,
 ⟨(some 4), (.dry (.mov (.t 18))), none⟩,
 ⟨(some 5), (.dry (.mov (.k .nili))), none⟩])
 .ret)))) }

/-- strconv.Itoa -/
def e157 : EFunc := { own := none, res := [(.tmp 2)], ntmps := 5, pure := false, body :=
 (.seq (.reg [⟨(some 2), (.dry (.mov (.k (.str [])))), none⟩])
 (.seq (.reg [⟨(some 3), (.dry (.mov (.t 0))), none⟩,
 ⟨(some 4), (.call (.k (.fn 197 [] [])) [(.t 3)]), none⟩,
 ⟨(some 2), (.dry (.mov (.t 4))), none⟩])
 .ret)) }

/-- (*strings.Builder).String -/
def e158 : EFunc := { own := (some (.text 5)), res := [], ntmps := 0, pure := false, body :=
 .skip }

/-- strconv.FormatUint -/
def e159 : EFunc := { own := none, res := [(.tmp 4)], ntmps := 8, pure := false, body :=
 (.seq (.reg [⟨(some 4), (.dry (.mov (.k (.str [])))), none⟩])
 (.seq (.reg [⟨(some 5), (.dry (.mov (.t 0))), none⟩,
 ⟨(some 6), (.dry (.mov (.t 1))), none⟩,
 ⟨(some 7), (.call (.k (.fn 198 [] [])) [(.t 5), (.t 6)]), none⟩,
 ⟨(some 4), (.dry (.mov (.t 7))), none⟩])
 .ret)) }

/-- slices.IndexFunc[[]int,int] -/
def e164 : EFunc := { own := none, res := [(.tmp 4)], ntmps := 19, pure := false, body :=
 (.seq (.reg [⟨(some 4), (.dry (.mov (.k (.int .i64 0)))), none⟩])
 (.seq (.seq (.reg [⟨(some 6), (.dry (.mov (.t 0))), none⟩,
 ⟨(some 7), (.dry (.len (.t 6))), none⟩,
 ⟨(some 8), (.dry (.mov (.k (.int .i64 0)))), none⟩])
 (.block 0
 (.loop
 (.seq (.reg [⟨(some 9), (.dry (.bin .lss (.t 8) (.t 7))), none⟩])
 (.seq (.cond (.t 9)
 .skip
 (.exit 0))
 (.seq (.block 1
 (.seq (.reg [⟨(some 10), (.dry (.mov (.t 8))), none⟩,
 ⟨(some 5), (.dry (.mov (.t 10))), none⟩])
 (.seq (.reg [⟨(some 11), (.dry (.mov (.t 1))), none⟩,
 ⟨(some 12), (.dry (.mov (.t 0))), none⟩,
 ⟨(some 13), (.dry (.mov (.t 5))), none⟩,
 ⟨(some 14), (.dry (.iaddr 1 (.t 12) (.t 13))), none⟩,
 ⟨(some 15), (.wet (.load 1 false (.t 14))), none⟩,
 ⟨(some 16), (.call (.t 11) [(.t 15)]), none⟩])
 (.cond (.t 16)
 (.seq (.reg [⟨(some 17), (.dry (.mov (.t 5))), none⟩,
 ⟨(some 4), (.dry (.mov (.t 17))), none⟩])
 .ret)
 .skip))))
 (.reg [⟨(some 18), (.dry (.bin .add (.t 8) (.k (.int .i64 1)))), none⟩,
 ⟨(some 8), (.dry (.mov (.t 18))), none⟩])))))))
 (.seq (.reg [⟨(some 4), (.dry (.mov (.k (.int .i64 (-1))))), none⟩])
 .ret))) }

/-- bellcrank/dce.needed$1 -/
def e165 : EFunc := { own := none, res := [], ntmps := 28, pure := false, body :=
 (.seq (.reg [⟨(some 7), (.dry (.mov (.t 0))), none⟩,
 ⟨(some 8), (.dry (.len (.t 7))), none⟩,
 ⟨(some 9), (.dry (.mov (.k (.int .i64 0)))), none⟩])
 (.block 0
 (.loop
 (.seq (.reg [⟨(some 10), (.dry (.bin .lss (.t 9) (.t 8))), none⟩])
 (.seq (.cond (.t 10)
 .skip
 (.exit 0))
 (.seq (.block 1
 (.seq (.reg [⟨(some 11), (.dry (.iaddr 1 (.t 7) (.t 9))), none⟩,
 ⟨(some 12), (.wet (.load 1 false (.t 11))), none⟩,
 ⟨(some 6), (.dry (.mov (.t 12))), none⟩])
 (.seq (.reg [⟨(some 13), (.wet (.load 1 false (.t 1))), none⟩,
 ⟨(some 14), (.dry (.mov (.t 6))), none⟩,
 ⟨(some 15), (.dry (.iaddr 1 (.t 13) (.t 14))), none⟩,
 ⟨(some 16), (.wet (.load 1 false (.t 15))), none⟩,
 ⟨(some 17), (.dry (.not (.t 16))), none⟩])
 (.cond (.t 17)
 (.seq (.reg [⟨(some 18), (.wet (.load 1 false (.t 1))), none⟩,
 ⟨(some 19), (.dry (.mov (.t 6))), none⟩,
 ⟨(some 20), (.dry (.iaddr 1 (.t 18) (.t 19))), none⟩,
 ⟨none, (.wet (.store 1 (.t 20) (.k (.bool true)))), none⟩])
 (.draw [(⟨(some 21), (.wet (.load 1 false (.t 2))), none⟩, 0, false),
 (⟨(some 22), (.wet (.load 1 false (.t 3))), none⟩, 0, false),
 (⟨(some 23), (.dry (.mov (.t 6))), none⟩, 0, false),
 (⟨(some 24), (.dry (.iaddr 1 (.t 22) (.t 23))), none⟩, 6, false),
 (⟨(some 25), (.wet (.load 1 false (.t 24))), none⟩, 14, false),
 (⟨(some 26), (.call (.t 21) [(.t 25)]), none⟩, 31, true)]))
 .skip))))
 (.reg [⟨(some 27), (.dry (.bin .add (.t 9) (.k (.int .i64 1)))), none⟩,
 ⟨(some 9), (.dry (.mov (.t 27))), none⟩]))))))) }

/-- bellcrank/ssa.rings$1 -/
def e179 : EFunc := { own := none, res := [(.tmp 6)], ntmps := 49, pure := false, body :=
 (.seq (.reg [⟨(some 6), (.dry (.mov (.k (.bool false)))), none⟩])
 (.seq (.seq (.reg [⟨(some 9), (.dry (.faddr 3 1 false (.t 1))), none⟩,
 ⟨(some 10), (.wet (.load 1 false (.t 9))), none⟩,
 ⟨(some 11), (.dry (.mov (.t 0))), none⟩,
 ⟨(some 12), (.dry (.iaddr 6 (.t 10) (.t 11))), none⟩,
 ⟨(some 13), (.dry (.faddr 1 1 false (.t 12))), none⟩,
 ⟨(some 14), (.wet (.load 1 false (.t 13))), none⟩,
 ⟨(some 15), (.call (.k (.fn 180 [] [])) [(.t 14), (.k (.fn 181 [] []))]), none⟩])
 (.cond (.t 15)
 (.seq (.reg [⟨(some 6), (.dry (.mov (.k (.bool false)))), none⟩])
 .ret)
 .skip))
 (.seq (.reg [⟨(some 16), (.wet (.load 1 false (.t 2))), none⟩,
 ⟨(some 17), (.dry (.mov (.t 0))), none⟩,
 ⟨(some 18), (.dry (.iaddr 1 (.t 16) (.t 17))), none⟩,
 ⟨none, (.wet (.store 1 (.t 18) (.k (.int .i64 1)))), none⟩])
 (.seq (.seq (.reg [⟨(some 19), (.wet (.load 1 false (.t 3))), none⟩,
 ⟨(some 20), (.dry (.mov (.t 0))), none⟩,
 ⟨(some 21), (.dry (.iaddr 1 (.t 19) (.t 20))), none⟩,
 ⟨(some 22), (.wet (.load 1 false (.t 21))), none⟩,
 ⟨(some 23), (.dry (.len (.t 22))), none⟩,
 ⟨(some 24), (.dry (.mov (.k (.int .i64 0)))), none⟩])
 (.block 0
 (.loop
 (.seq (.reg [⟨(some 25), (.dry (.bin .lss (.t 24) (.t 23))), none⟩])
 (.seq (.cond (.t 25)
 .skip
 (.exit 0))
 (.seq (.block 1
 (.seq (.reg [⟨(some 26), (.dry (.iaddr 1 (.t 22) (.t 24))), none⟩,
 ⟨(some 27), (.wet (.load 1 false (.t 26))), none⟩,
 ⟨(some 8), (.dry (.mov (.t 27))), none⟩])
 (.seq (.reg [⟨(some 28), (.wet (.load 1 false (.t 2))), none⟩,
 ⟨(some 29), (.dry (.mov (.t 8))), none⟩,
 ⟨(some 30), (.dry (.iaddr 1 (.t 28) (.t 29))), none⟩,
 ⟨(some 31), (.wet (.load 1 false (.t 30))), none⟩,
 ⟨(some 32), (.dry (.eq (.prim .i) false (.t 31) (.k (.int .i64 1)))), none⟩,
 ⟨(some 33), (.dry (.mov (.t 32))), none⟩,
 ⟨(some 34), (.wet (.load 1 false (.t 2))), (some (33, false))⟩,
 ⟨(some 35), (.dry (.mov (.t 8))), (some (33, false))⟩,
 ⟨(some 36), (.dry (.iaddr 1 (.t 34) (.t 35))), (some (33, false))⟩,
 ⟨(some 37), (.wet (.load 1 false (.t 36))), (some (33, false))⟩,
 ⟨(some 38), (.dry (.eq (.prim .i) false (.t 37) (.k (.int .i64 0)))), (some (33, false))⟩,
 ⟨(some 39), (.dry (.mov (.t 38))), (some (33, false))⟩,
 ⟨(some 40), (.wet (.load 1 false (.t 4))), (some (39, true))⟩,
 ⟨(some 41), (.dry (.mov (.t 8))), (some (39, true))⟩,
 ⟨(some 42), (.call (.t 40) [(.t 41)]), (some (39, true))⟩,
 ⟨(some 43), (.dry (.pick (.t 39) (.t 42) (.k (.bool false)))), (some (33, false))⟩,
 ⟨(some 44), (.dry (.pick (.t 33) (.k (.bool true)) (.t 43))), none⟩])
 (.cond (.t 44)
 (.seq (.reg [⟨(some 6), (.dry (.mov (.k (.bool true)))), none⟩])
 .ret)
 .skip))))
 (.reg [⟨(some 45), (.dry (.bin .add (.t 24) (.k (.int .i64 1)))), none⟩,
 ⟨(some 24), (.dry (.mov (.t 45))), none⟩])))))))
 (.seq (.reg [⟨(some 46), (.wet (.load 1 false (.t 2))), none⟩,
 ⟨(some 47), (.dry (.mov (.t 0))), none⟩,
 ⟨(some 48), (.dry (.iaddr 1 (.t 46) (.t 47))), none⟩,
 ⟨none, (.wet (.store 1 (.t 48) (.k (.int .i64 2)))), none⟩])
 (.seq (.reg [⟨(some 6), (.dry (.mov (.k (.bool false)))), none⟩])
 .ret)))))) }

/-- slices.ContainsFunc[[]bellcrank/api.Ins,bellcrank/api.Ins] -/
def e180 : EFunc := { own := none, res := [(.tmp 4)], ntmps := 9, pure := false, body :=
 (.seq (.reg [⟨(some 4), (.dry (.mov (.k (.bool false)))), none⟩])
 (.seq (.reg [⟨(some 5), (.dry (.mov (.t 0))), none⟩,
 ⟨(some 6), (.dry (.mov (.t 1))), none⟩,
 ⟨(some 7), (.call (.k (.fn 152 [] [])) [(.t 5), (.t 6)]), none⟩,
 ⟨(some 8), (.dry (.bin .geq (.t 7) (.k (.int .i64 0)))), none⟩,
 ⟨(some 4), (.dry (.mov (.t 8))), none⟩])
 .ret)) }

/-- bellcrank/ssa.rings$1$1 -/
def e181 : EFunc := { own := none, res := [(.tmp 2)], ntmps := 6, pure := false, body :=
 (.seq (.reg [⟨(some 1), (.wet (.box 4 (.t 0))), none⟩,
 ⟨(some 2), (.dry (.mov (.k (.bool false)))), none⟩])
 (.seq (.reg [⟨(some 3), (.dry (.faddr 0 1 false (.t 1))), none⟩,
 ⟨(some 4), (.wet (.load 1 false (.t 3))), none⟩,
 ⟨(some 5), (.dry (.eq (.prim .i) false (.t 4) (.k (.int .i64 258)))), none⟩,
 ⟨(some 2), (.dry (.mov (.t 5))), none⟩])
 .ret)) }

/-- bellcrank/num.Sig -/
def e182 : EFunc := { own := none, res := [(.tmp 2), (.tmp 3), (.tmp 4)], ntmps := 43, pure := false, body :=
 (.seq (.reg [⟨(some 2), (.dry (.mov (.k .nils))), none⟩,
 ⟨(some 3), (.dry (.mov (.k (.int .i64 0)))), none⟩,
 ⟨(some 4), (.dry (.mov (.k (.bool false)))), none⟩])
 (.seq (.reg [⟨(some 11), (.dry (.mov (.t 0))), none⟩,
 ⟨(some 12), (.call (.k (.fn 192 [] [])) [(.t 11)]), none⟩,
 ⟨(some 10), (.dry (.mov (.t 12))), none⟩,
 ⟨(some 13), (.dry (.extract (.t 10) 0)), none⟩,
 ⟨(some 14), (.dry (.extract (.t 10) 1)), none⟩,
 ⟨(some 15), (.dry (.extract (.t 10) 2)), none⟩,
 ⟨(some 5), (.wet (.alloc 513 4 [(.int .i64 0), (.int .i64 0), (.int .i64 0), (.int .i64 0)])), none⟩,
 ⟨none, (.wet (.store 4 (.t 5) (.t 13))), none⟩,
 ⟨(some 6), (.dry (.mov (.t 14))), none⟩,
 ⟨(some 7), (.dry (.mov (.t 15))), none⟩])
 (.seq (.seq (.reg [⟨(some 16), (.dry (.mov (.t 7))), none⟩,
 ⟨(some 17), (.dry (.not (.t 16))), none⟩])
 (.cond (.t 17)
 (.seq (.reg [⟨(some 2), (.dry (.mov (.k .nils))), none⟩,
 ⟨(some 3), (.dry (.mov (.k (.int .i64 0)))), none⟩,
 ⟨(some 4), (.dry (.mov (.k (.bool false)))), none⟩])
 .ret)
 .skip))
 (.seq (.draw [(⟨(some 18), (.dry (.faddr 3 1 false (.t 5))), none⟩, 0, false),
 (⟨(some 19), (.wet (.load 1 false (.t 18))), none⟩, 1, false),
 (⟨(some 20), (.wet (.bsl 1 1 [(.int .i64 0)] [(0, (.t 19))])), none⟩, 3, false),
 (⟨(some 21), (.dry (.faddr 3 1 false (.t 5))), none⟩, 0, false),
 (⟨(some 22), (.wet (.load 1 false (.t 21))), none⟩, 8, false),
 (⟨(some 8), (.dry (.mov (.t 20))), none⟩, 7, false),
 (⟨(some 9), (.dry (.mov (.t 22))), none⟩, 63, false)])
 (.seq (.seq (.reg [⟨(some 23), (.dry (.faddr 2 1 false (.t 5))), none⟩,
 ⟨(some 24), (.wet (.load 1 false (.t 23))), none⟩])
 (.block 0
 (.seq (.seq (.reg [⟨(some 26), (.dry (.eq (.prim .i) false (.t 24) (.k (.int .i64 1)))), none⟩,
 ⟨(some 25), (.dry (.mov (.t 26))), none⟩])
 (.cond (.t 25)
 .skip
 (.reg [⟨(some 27), (.dry (.eq (.prim .i) false (.t 24) (.k (.int .i64 3)))), none⟩,
 ⟨(some 25), (.dry (.mov (.t 27))), none⟩])))
 (.cond (.t 25)
 (.reg [⟨(some 28), (.dry (.mov (.t 8))), none⟩,
 ⟨(some 29), (.dry (.faddr 3 1 false (.t 5))), none⟩,
 ⟨(some 30), (.wet (.load 1 false (.t 29))), none⟩,
 ⟨(some 31), (.wet (.bsl 1 1 [(.int .i64 0)] [(0, (.t 30))])), none⟩,
 ⟨(some 32), (.wet (.append 8 1 8 (.t 28) (.t 31))), none⟩,
 ⟨(some 8), (.dry (.mov (.t 32))), none⟩])
 .skip))))
 (.seq (.seq (.reg [⟨(some 33), (.dry (.faddr 2 1 false (.t 5))), none⟩,
 ⟨(some 34), (.wet (.load 1 false (.t 33))), none⟩])
 (.block 1
 (.seq (.seq (.reg [⟨(some 36), (.dry (.eq (.prim .i) false (.t 34) (.k (.int .i64 0)))), none⟩,
 ⟨(some 35), (.dry (.mov (.t 36))), none⟩])
 (.cond (.t 35)
 .skip
 (.seq (.reg [⟨(some 37), (.dry (.eq (.prim .i) false (.t 34) (.k (.int .i64 1)))), none⟩,
 ⟨(some 35), (.dry (.mov (.t 37))), none⟩])
 (.cond (.t 35)
 .skip
 (.reg [⟨(some 38), (.dry (.eq (.prim .i) false (.t 34) (.k (.int .i64 4)))), none⟩,
 ⟨(some 35), (.dry (.mov (.t 38))), none⟩])))))
 (.cond (.t 35)
 (.reg [⟨(some 9), (.dry (.mov (.k (.int .i64 127)))), none⟩])
 (.seq (.reg [⟨(some 40), (.dry (.eq (.prim .i) false (.t 34) (.k (.int .i64 5)))), none⟩,
 ⟨(some 39), (.dry (.mov (.t 40))), none⟩])
 (.cond (.t 39)
 (.reg [⟨(some 9), (.dry (.mov (.k (.int .i64 126)))), none⟩])
 .skip))))))
 (.seq (.reg [⟨(some 41), (.dry (.mov (.t 8))), none⟩,
 ⟨(some 42), (.dry (.mov (.t 9))), none⟩,
 ⟨(some 2), (.dry (.mov (.t 41))), none⟩,
 ⟨(some 3), (.dry (.mov (.t 42))), none⟩,
 ⟨(some 4), (.dry (.mov (.k (.bool true)))), none⟩])
 .ret))))))) }

end Go.Ev.Tab
