/- The evaluator's code of the functions that the claim's way takes, and the table of them: printed by a program; the kernel compares it with the given program's code. -/
import Derived.Test.YtkalflplonnhmaaGreatDoorEvC
namespace Go.Ev.Tab
abbrev mv (d x : Nat) : EOper := ⟨some d, .dry (.mov (.t x)), none⟩
abbrev dr (d : Nat) (x : Dry) : EOper := ⟨some d, .dry x, none⟩
abbrev wt (d : Nat) (x : Wet) : EOper := ⟨some d, .wet x, none⟩
abbrev wn (x : Wet) : EOper := ⟨none, .wet x, none⟩
abbrev cl (d : Nat) (f : Eo) (x : List Eo) : EOper := ⟨some d, .call f x, none⟩
abbrev dg (d t : Nat) (b : Bool) (x : Dry) : EOper := ⟨some d, .dry x, some (t, b)⟩
abbrev wg (d t : Nat) (b : Bool) (x : Wet) : EOper := ⟨some d, .wet x, some (t, b)⟩
abbrev cg (d t : Nat) (b : Bool) (f : Eo) (x : List Eo) : EOper := ⟨some d, .call f x, some (t, b)⟩
abbrev ki (n : Int) : Eo := .k (.int .i64 n)
abbrev kf (f : Nat) : Eo := .k (.fn f [] [])
abbrev l1 (x : Nat) : Wet := .load 1 false (.t x)
abbrev fa (a x : Nat) : Dry := .faddr a 1 false (.t x)
abbrev ig (n : Int) : AV := .int .i64 n
/-- bellcrank/bellcranklaw18.LowerChecks -/
def e3 : EFunc := { own := none, res := [(.tmp 2)], ntmps := 35, pure := false, body :=
 (.seq (.reg [⟨(some 1), (.wet (.box 6 (.t 0))), none⟩,
 ⟨(some 2), (.dry (.mov (.k (.bool false)))), none⟩])
 (.seq (.seq (.reg [⟨(some 5), (.dry (.faddr 5 1 false (.t 1))), none⟩,
 ⟨(some 6), (.wet (.load 1 false (.t 5))), none⟩,
 ⟨(some 7), (.dry (.len (.t 6))), none⟩,
 ⟨(some 8), (.dry (.mov (.k (.int .i64 0)))), none⟩])
 (.block 0
 (.loop
 (.seq (.reg [⟨(some 9), (.dry (.bin .lss (.t 8) (.t 7))), none⟩])
 (.seq (.cond (.t 9)
 .skip
 (.exit 0))
 (.seq (.block 1
 (.seq (.reg [⟨(some 10), (.dry (.mov (.t 8))), none⟩,
 ⟨(some 11), (.dry (.iaddr 5 (.t 6) (.t 8))), none⟩,
 ⟨(some 12), (.wet (.load 5 true (.t 11))), none⟩,
 ⟨(some 4), (.wet (.alloc 71 5 [.nils, .nils, (.int .i64 0), .nils, .nils])), none⟩,
 ⟨(some 3), (.dry (.mov (.t 10))), none⟩,
 ⟨none, (.wet (.store 5 (.t 4) (.t 12))), none⟩])
 (.seq (.draw [(⟨(some 13), (.dry (.mov (.t 3))), none⟩, 0, false),
 (⟨(some 14), (.dry (.bin .lss (.t 13) (.k (.int .i64 40)))), none⟩, 1, false),
 (⟨(some 15), (.dry (.mov (.t 14))), none⟩, 3, false),
 (⟨(some 16), (.dry (.faddr 0 5 true (.t 1))), (some (15, true))⟩, 7, false),
 (⟨(some 17), (.wet (.load 5 true (.t 16))), (some (15, true))⟩, 15, false),
 (⟨(some 18), (.wet (.load 5 true (.t 4))), (some (15, true))⟩, 7, false),
 (⟨(some 19), (.call (.k (.fn 8 [] [])) [(.t 17), (.t 18)]), (some (15, true))⟩, 63, false),
 (⟨(some 20), (.dry (.faddr 0 5 true (.t 1))), (some (15, true))⟩, 7, false),
 (⟨(some 21), (.wet (.load 5 true (.t 20))), (some (15, true))⟩, 135, false),
 (⟨(some 22), (.wet (.load 5 true (.t 4))), (some (15, true))⟩, 7, false),
 (⟨(some 23), (.call (.k (.fn 9 [] [])) [(.t 21), (.t 22)]), (some (15, true))⟩, 1023, true),
 (⟨(some 24), (.dry (.eq (.prim .b) true (.t 19) (.t 23))), (some (15, true))⟩, 2047, false),
 (⟨(some 25), (.dry (.pick (.t 15) (.t 24) (.k (.bool false)))), none⟩, 4095, false)])
 (.cond (.t 25)
 (.seq (.reg [⟨(some 2), (.dry (.mov (.k (.bool false)))), none⟩])
 .ret)
 .skip))))
 (.reg [⟨(some 26), (.dry (.bin .add (.t 8) (.k (.int .i64 1)))), none⟩,
 ⟨(some 8), (.dry (.mov (.t 26))), none⟩])))))))
 (.seq (.draw [(⟨(some 27), (.wet (.load 6 true (.t 1))), none⟩, 0, false),
 (⟨(some 28), (.call (.k (.fn 10 [] [])) [(.t 27)]), none⟩, 1, false),
 (⟨(some 29), (.wet (.load 6 true (.t 1))), none⟩, 0, false),
 (⟨(some 30), (.call (.k (.fn 11 [] [])) [(.t 29)]), none⟩, 7, true),
 (⟨(some 31), (.dry (.eq (.prim .b) false (.t 28) (.t 30))), none⟩, 15, false),
 (⟨(some 32), (.dry (.mov (.t 31))), none⟩, 31, false),
 (⟨(some 33), (.call (.k (.fn 12 [] [])) []), (some (32, true))⟩, 63, true),
 (⟨(some 34), (.dry (.pick (.t 32) (.t 33) (.k (.bool false)))), none⟩, 127, false),
 (⟨(some 2), (.dry (.mov (.t 34))), none⟩, 255, false)])
 .ret))) }

/-- bellcrank/lower.Check -/
def e8 : EFunc := { own := none, res := [(.tmp 4)], ntmps := 82, pure := false, body :=
 (.seq (.reg [⟨(some 2), (.wet (.box 5 (.t 0))), none⟩,
 ⟨(some 3), (.wet (.box 5 (.t 1))), none⟩,
 ⟨(some 4), (.dry (.mov (.k (.bool false)))), none⟩])
 (.seq (.reg [⟨(some 7), (.dry (.faddr 4 1 false (.t 3))), none⟩,
 ⟨(some 8), (.wet (.load 1 false (.t 7))), none⟩,
 ⟨(some 9), (.dry (.len (.t 8))), none⟩,
 ⟨(some 5), (.dry (.mov (.t 9))), none⟩])
 (.seq (.block 0
 (.seq (.seq (.reg [⟨(some 11), (.wet (.load 5 true (.t 2))), none⟩,
 ⟨(some 12), (.call (.k (.fn 19 [] [])) [(.t 11)]), none⟩,
 ⟨(some 13), (.dry (.not (.t 12))), none⟩,
 ⟨(some 10), (.dry (.mov (.t 13))), none⟩])
 (.cond (.t 10)
 .skip
 (.reg [⟨(some 14), (.dry (.faddr 0 2 true (.t 3))), none⟩,
 ⟨(some 15), (.wet (.load 2 true (.t 14))), none⟩,
 ⟨(some 16), (.wet (.bsl 2 1 [.nils, .nils] [(0, (.t 15))])), none⟩,
 ⟨(some 17), (.dry (.build [.nils, (.int .i64 0), .nils, .nils, (.bool false)] [(0, 1, (.t 16))])), none⟩,
 ⟨(some 18), (.call (.k (.fn 19 [] [])) [(.t 17)]), none⟩,
 ⟨(some 19), (.dry (.not (.t 18))), none⟩,
 ⟨(some 10), (.dry (.mov (.t 19))), none⟩])))
 (.cond (.t 10)
 (.seq (.reg [⟨(some 4), (.dry (.mov (.k (.bool false)))), none⟩])
 .ret)
 (.seq (.seq (.reg [⟨(some 21), (.dry (.mov (.t 5))), none⟩,
 ⟨(some 22), (.dry (.eq (.prim .i) false (.t 21) (.k (.int .i64 0)))), none⟩,
 ⟨(some 23), (.dry (.mov (.t 22))), none⟩,
 ⟨(some 24), (.dry (.mov (.t 5))), (some (23, false))⟩,
 ⟨(some 25), (.dry (.bin .gtr (.t 24) (.k (.int .i64 4096)))), (some (23, false))⟩,
 ⟨(some 26), (.dry (.pick (.t 23) (.k (.bool true)) (.t 25))), none⟩,
 ⟨(some 20), (.dry (.mov (.t 26))), none⟩])
 (.cond (.t 20)
 .skip
 (.reg [⟨(some 27), (.dry (.faddr 2 1 false (.t 3))), none⟩,
 ⟨(some 28), (.wet (.load 1 false (.t 27))), none⟩,
 ⟨(some 29), (.dry (.bin .lss (.t 28) (.k (.int .i64 0)))), none⟩,
 ⟨(some 30), (.dry (.mov (.t 29))), none⟩,
 ⟨(some 31), (.dry (.faddr 2 1 false (.t 3))), (some (30, false))⟩,
 ⟨(some 32), (.wet (.load 1 false (.t 31))), (some (30, false))⟩,
 ⟨(some 33), (.dry (.bin .gtr (.t 32) (.k (.int .i64 4096)))), (some (30, false))⟩,
 ⟨(some 34), (.dry (.pick (.t 30) (.k (.bool true)) (.t 33))), none⟩,
 ⟨(some 20), (.dry (.mov (.t 34))), none⟩])))
 (.cond (.t 20)
 (.seq (.reg [⟨(some 4), (.dry (.mov (.k (.bool false)))), none⟩])
 .ret)
 (.seq (.seq (.reg [⟨(some 36), (.dry (.faddr 3 1 false (.t 3))), none⟩,
 ⟨(some 37), (.wet (.load 1 false (.t 36))), none⟩,
 ⟨(some 38), (.dry (.len (.t 37))), none⟩,
 ⟨(some 39), (.dry (.faddr 0 2 true (.t 3))), none⟩,
 ⟨(some 40), (.dry (.faddr 0 1 false (.t 39))), none⟩,
 ⟨(some 41), (.wet (.load 1 false (.t 40))), none⟩,
 ⟨(some 42), (.dry (.len (.t 41))), none⟩,
 ⟨(some 43), (.dry (.eq (.prim .i) true (.t 38) (.t 42))), none⟩,
 ⟨(some 35), (.dry (.mov (.t 43))), none⟩])
 (.cond (.t 35)
 .skip
 (.seq (.reg [⟨(some 44), (.dry (.faddr 2 1 false (.t 3))), none⟩,
 ⟨(some 45), (.wet (.load 1 false (.t 44))), none⟩,
 ⟨(some 46), (.dry (.faddr 3 1 false (.t 3))), none⟩,
 ⟨(some 47), (.wet (.load 1 false (.t 46))), none⟩,
 ⟨(some 48), (.call (.k (.fn 20 [] [])) [(.t 45), (.t 47)]), none⟩,
 ⟨(some 49), (.dry (.not (.t 48))), none⟩,
 ⟨(some 35), (.dry (.mov (.t 49))), none⟩])
 (.cond (.t 35)
 .skip
 (.reg [⟨(some 50), (.dry (.faddr 3 1 false (.t 3))), none⟩,
 ⟨(some 51), (.wet (.load 1 false (.t 50))), none⟩,
 ⟨(some 52), (.call (.k (.fn 21 [] [])) [(.t 51)]), none⟩,
 ⟨(some 53), (.dry (.not (.t 52))), none⟩,
 ⟨(some 35), (.dry (.mov (.t 53))), none⟩])))))
 (.cond (.t 35)
 (.seq (.reg [⟨(some 4), (.dry (.mov (.k (.bool false)))), none⟩])
 .ret)
 (.seq (.reg [⟨(some 55), (.dry (.faddr 4 1 false (.t 3))), none⟩,
 ⟨(some 56), (.wet (.load 1 false (.t 55))), none⟩,
 ⟨(some 57), (.dry (.mkfn 23 [] [(.t 2), (.t 3)])), none⟩,
 ⟨(some 58), (.call (.k (.fn 22 [] [])) [(.t 56), (.t 57)]), none⟩,
 ⟨(some 54), (.dry (.mov (.t 58))), none⟩])
 (.cond (.t 54)
 (.seq (.reg [⟨(some 4), (.dry (.mov (.k (.bool false)))), none⟩])
 .ret)
 .skip)))))))))
 (.seq (.reg [⟨(some 59), (.wet (.bsl 1 4 [(.int .i64 0), (.int .i64 0), (.int .i64 0), (.int .i64 0)] [(0, (.k (.int .i64 273))), (1, (.k (.int .i64 275))), (2, (.k (.int .i64 276))), (3, (.k (.int .i64 277)))])), none⟩,
 ⟨(some 6), (.dry (.mov (.t 59))), none⟩])
 (.seq (.reg [⟨(some 60), (.dry (.faddr 4 1 false (.t 3))), none⟩,
 ⟨(some 61), (.wet (.load 1 false (.t 60))), none⟩,
 ⟨(some 62), (.dry (.iaddr 5 (.t 61) (.k (.int .i64 0)))), none⟩,
 ⟨(some 63), (.dry (.faddr 0 1 false (.t 62))), none⟩,
 ⟨(some 64), (.wet (.load 1 false (.t 63))), none⟩,
 ⟨(some 65), (.dry (.eq (.prim .i) false (.t 64) (.k (.int .i64 258)))), none⟩,
 ⟨(some 66), (.dry (.mov (.t 65))), none⟩,
 ⟨(some 67), (.dry (.mov (.t 6))), (some (66, true))⟩,
 ⟨(some 68), (.dry (.faddr 4 1 false (.t 3))), (some (66, true))⟩,
 ⟨(some 69), (.wet (.load 1 false (.t 68))), (some (66, true))⟩,
 ⟨(some 70), (.dry (.mov (.t 5))), (some (66, true))⟩,
 ⟨(some 71), (.dry (.bin .sub (.t 70) (.k (.int .i64 1)))), (some (66, true))⟩,
 ⟨(some 72), (.dry (.iaddr 5 (.t 69) (.t 71))), (some (66, true))⟩,
 ⟨(some 73), (.dry (.faddr 0 1 false (.t 72))), (some (66, true))⟩,
 ⟨(some 74), (.wet (.load 1 false (.t 73))), (some (66, true))⟩,
 ⟨(some 75), (.call (.k (.fn 25 [] [])) [(.t 67), (.t 74)]), (some (66, true))⟩,
 ⟨(some 76), (.dry (.pick (.t 66) (.t 75) (.k (.bool false)))), none⟩,
 ⟨(some 77), (.dry (.mov (.t 76))), none⟩,
 ⟨(some 78), (.wet (.load 5 true (.t 3))), (some (77, true))⟩,
 ⟨(some 79), (.call (.k (.fn 26 [] [])) [(.t 78)]), (some (77, true))⟩,
 ⟨(some 80), (.dry (.not (.t 79))), (some (77, true))⟩,
 ⟨(some 81), (.dry (.pick (.t 77) (.t 80) (.k (.bool false)))), none⟩,
 ⟨(some 4), (.dry (.mov (.t 81))), none⟩])
 .ret))))) }

/-- bellcrank/bellcrankref18.Check -/
def e9 : EFunc := { own := none, res := [(.tmp 4)], ntmps := 106, pure := false, body :=
 (.seq (.reg [⟨(some 2), (.wet (.box 5 (.t 0))), none⟩,
 ⟨(some 3), (.wet (.box 5 (.t 1))), none⟩,
 ⟨(some 4), (.dry (.mov (.k (.bool false)))), none⟩])
 (.seq (.reg [⟨(some 8), (.dry (.faddr 4 1 false (.t 3))), none⟩,
 ⟨(some 9), (.wet (.load 1 false (.t 8))), none⟩,
 ⟨(some 10), (.dry (.len (.t 9))), none⟩,
 ⟨(some 5), (.dry (.mov (.t 10))), none⟩])
 (.seq (.seq (.reg [⟨(some 11), (.wet (.load 5 true (.t 2))), none⟩,
 ⟨(some 12), (.call (.k (.fn 27 [] [])) [(.t 11)]), none⟩,
 ⟨(some 13), (.dry (.not (.t 12))), none⟩,
 ⟨(some 14), (.dry (.mov (.t 13))), none⟩,
 ⟨(some 15), (.dry (.mov (.t 5))), (some (14, false))⟩,
 ⟨(some 16), (.dry (.bin .lss (.t 15) (.k (.int .i64 1)))), (some (14, false))⟩,
 ⟨(some 17), (.dry (.pick (.t 14) (.k (.bool true)) (.t 16))), none⟩,
 ⟨(some 18), (.dry (.mov (.t 17))), none⟩,
 ⟨(some 19), (.dry (.mov (.t 5))), (some (18, false))⟩,
 ⟨(some 20), (.dry (.bin .gtr (.t 19) (.k (.int .i64 4096)))), (some (18, false))⟩,
 ⟨(some 21), (.dry (.pick (.t 18) (.k (.bool true)) (.t 20))), none⟩,
 ⟨(some 22), (.dry (.mov (.t 21))), none⟩,
 ⟨(some 23), (.dry (.faddr 2 1 false (.t 3))), (some (22, false))⟩,
 ⟨(some 24), (.wet (.load 1 false (.t 23))), (some (22, false))⟩,
 ⟨(some 25), (.dry (.bin .lss (.t 24) (.k (.int .i64 0)))), (some (22, false))⟩,
 ⟨(some 26), (.dry (.pick (.t 22) (.k (.bool true)) (.t 25))), none⟩,
 ⟨(some 27), (.dry (.mov (.t 26))), none⟩,
 ⟨(some 28), (.dry (.faddr 2 1 false (.t 3))), (some (27, false))⟩,
 ⟨(some 29), (.wet (.load 1 false (.t 28))), (some (27, false))⟩,
 ⟨(some 30), (.dry (.bin .gtr (.t 29) (.k (.int .i64 4096)))), (some (27, false))⟩,
 ⟨(some 31), (.dry (.pick (.t 27) (.k (.bool true)) (.t 30))), none⟩,
 ⟨(some 32), (.dry (.mov (.t 31))), none⟩,
 ⟨(some 33), (.dry (.faddr 0 2 true (.t 3))), (some (32, false))⟩,
 ⟨(some 34), (.dry (.faddr 0 1 false (.t 33))), (some (32, false))⟩,
 ⟨(some 35), (.wet (.load 1 false (.t 34))), (some (32, false))⟩,
 ⟨(some 36), (.dry (.len (.t 35))), (some (32, false))⟩,
 ⟨(some 37), (.dry (.bin .gtr (.t 36) (.k (.int .i64 8)))), (some (32, false))⟩,
 ⟨(some 38), (.dry (.pick (.t 32) (.k (.bool true)) (.t 37))), none⟩,
 ⟨(some 39), (.dry (.mov (.t 38))), none⟩,
 ⟨(some 40), (.dry (.faddr 0 2 true (.t 3))), (some (39, false))⟩,
 ⟨(some 41), (.dry (.faddr 1 1 false (.t 40))), (some (39, false))⟩,
 ⟨(some 42), (.wet (.load 1 false (.t 41))), (some (39, false))⟩,
 ⟨(some 43), (.dry (.len (.t 42))), (some (39, false))⟩,
 ⟨(some 44), (.dry (.bin .gtr (.t 43) (.k (.int .i64 8)))), (some (39, false))⟩,
 ⟨(some 45), (.dry (.pick (.t 39) (.k (.bool true)) (.t 44))), none⟩,
 ⟨(some 46), (.dry (.mov (.t 45))), none⟩,
 ⟨(some 47), (.dry (.faddr 3 1 false (.t 3))), (some (46, false))⟩,
 ⟨(some 48), (.wet (.load 1 false (.t 47))), (some (46, false))⟩,
 ⟨(some 49), (.dry (.len (.t 48))), (some (46, false))⟩,
 ⟨(some 50), (.dry (.faddr 0 2 true (.t 3))), (some (46, false))⟩,
 ⟨(some 51), (.dry (.faddr 0 1 false (.t 50))), (some (46, false))⟩,
 ⟨(some 52), (.wet (.load 1 false (.t 51))), (some (46, false))⟩,
 ⟨(some 53), (.dry (.len (.t 52))), (some (46, false))⟩,
 ⟨(some 54), (.dry (.eq (.prim .i) true (.t 49) (.t 53))), (some (46, false))⟩,
 ⟨(some 55), (.dry (.pick (.t 46) (.k (.bool true)) (.t 54))), none⟩,
 ⟨(some 56), (.dry (.mov (.t 55))), none⟩,
 ⟨(some 57), (.dry (.faddr 3 1 false (.t 3))), (some (56, false))⟩,
 ⟨(some 58), (.wet (.load 1 false (.t 57))), (some (56, false))⟩,
 ⟨(some 59), (.dry (.faddr 2 1 false (.t 3))), (some (56, false))⟩,
 ⟨(some 60), (.wet (.load 1 false (.t 59))), (some (56, false))⟩,
 ⟨(some 61), (.call (.k (.fn 28 [] [])) [(.t 58), (.t 60), (.k (.bool true))]), (some (56, false))⟩,
 ⟨(some 62), (.dry (.not (.t 61))), (some (56, false))⟩,
 ⟨(some 63), (.dry (.pick (.t 56) (.k (.bool true)) (.t 62))), none⟩])
 (.cond (.t 63)
 (.seq (.reg [⟨(some 4), (.dry (.mov (.k (.bool false)))), none⟩])
 .ret)
 .skip))
 (.seq (.seq (.reg [⟨(some 64), (.dry (.faddr 0 2 true (.t 3))), none⟩,
 ⟨(some 65), (.wet (.load 2 true (.t 64))), none⟩,
 ⟨(some 66), (.wet (.bsl 2 1 [.nils, .nils] [(0, (.t 65))])), none⟩,
 ⟨(some 67), (.dry (.build [.nils, (.int .i64 0), .nils, .nils, (.bool false)] [(0, 1, (.t 66))])), none⟩,
 ⟨(some 68), (.call (.k (.fn 27 [] [])) [(.t 67)]), none⟩,
 ⟨(some 69), (.dry (.not (.t 68))), none⟩])
 (.cond (.t 69)
 (.seq (.reg [⟨(some 4), (.dry (.mov (.k (.bool false)))), none⟩])
 .ret)
 .skip))
 (.seq (.seq (.reg [⟨(some 6), (.dry (.mov (.k (.int .i64 0)))), none⟩])
 (.block 0
 (.loop
 (.seq (.seq (.reg [⟨(some 70), (.dry (.mov (.t 6))), none⟩,
 ⟨(some 71), (.dry (.mov (.t 5))), none⟩,
 ⟨(some 72), (.dry (.bin .lss (.t 70) (.t 71))), none⟩])
 (.cond (.t 72)
 .skip
 (.exit 0)))
 (.seq (.block 1
 (.seq (.reg [⟨(some 75), (.wet (.load 5 true (.t 2))), none⟩,
 ⟨(some 76), (.wet (.load 5 true (.t 3))), none⟩,
 ⟨(some 77), (.dry (.mov (.t 6))), none⟩,
 ⟨(some 78), (.call (.k (.fn 29 [] [])) [(.t 75), (.t 76), (.t 77)]), none⟩,
 ⟨(some 79), (.dry (.not (.t 78))), none⟩])
 (.cond (.t 79)
 (.seq (.reg [⟨(some 4), (.dry (.mov (.k (.bool false)))), none⟩])
 .ret)
 .skip)))
 (.reg [⟨(some 73), (.dry (.mov (.t 6))), none⟩,
 ⟨(some 74), (.dry (.bin .add (.t 73) (.k (.int .i64 1)))), none⟩,
 ⟨(some 6), (.dry (.mov (.t 74))), none⟩]))))))
 (.seq (.reg [⟨(some 80), (.dry (.faddr 4 1 false (.t 3))), none⟩,
 ⟨(some 81), (.wet (.load 1 false (.t 80))), none⟩,
 ⟨(some 82), (.dry (.mov (.t 5))), none⟩,
 ⟨(some 83), (.dry (.bin .sub (.t 82) (.k (.int .i64 1)))), none⟩,
 ⟨(some 84), (.dry (.iaddr 5 (.t 81) (.t 83))), none⟩,
 ⟨(some 85), (.dry (.faddr 0 1 false (.t 84))), none⟩,
 ⟨(some 86), (.wet (.load 1 false (.t 85))), none⟩,
 ⟨(some 7), (.dry (.mov (.t 86))), none⟩])
 (.seq (.reg [⟨(some 87), (.dry (.faddr 4 1 false (.t 3))), none⟩,
 ⟨(some 88), (.wet (.load 1 false (.t 87))), none⟩,
 ⟨(some 89), (.dry (.iaddr 5 (.t 88) (.k (.int .i64 0)))), none⟩,
 ⟨(some 90), (.dry (.faddr 0 1 false (.t 89))), none⟩,
 ⟨(some 91), (.wet (.load 1 false (.t 90))), none⟩,
 ⟨(some 92), (.dry (.eq (.prim .i) false (.t 91) (.k (.int .i64 258)))), none⟩,
 ⟨(some 93), (.dry (.mov (.t 92))), none⟩,
 ⟨(some 94), (.dry (.mov (.t 7))), (some (93, true))⟩,
 ⟨(some 95), (.call (.k (.fn 30 [] [])) [(.t 94)]), (some (93, true))⟩,
 ⟨(some 96), (.dry (.pick (.t 93) (.t 95) (.k (.bool false)))), none⟩,
 ⟨(some 97), (.dry (.mov (.t 96))), none⟩,
 ⟨(some 98), (.dry (.mov (.t 7))), (some (97, true))⟩,
 ⟨(some 99), (.dry (.eq (.prim .i) true (.t 98) (.k (.int .i64 274)))), (some (97, true))⟩,
 ⟨(some 100), (.dry (.pick (.t 97) (.t 99) (.k (.bool false)))), none⟩,
 ⟨(some 101), (.dry (.mov (.t 100))), none⟩,
 ⟨(some 102), (.wet (.load 5 true (.t 3))), (some (101, true))⟩,
 ⟨(some 103), (.call (.k (.fn 31 [] [])) [(.t 102)]), (some (101, true))⟩,
 ⟨(some 104), (.dry (.not (.t 103))), (some (101, true))⟩,
 ⟨(some 105), (.dry (.pick (.t 101) (.t 104) (.k (.bool false)))), none⟩,
 ⟨(some 4), (.dry (.mov (.t 105))), none⟩])
 .ret))))))) }

/-- bellcrank/lower.Right -/
def e10 : EFunc := { own := none, res := [(.tmp 2)], ntmps := 66, pure := false, body :=
 (.seq (.reg [⟨(some 1), (.wet (.box 6 (.t 0))), none⟩,
 ⟨(some 2), (.dry (.mov (.k (.bool false)))), none⟩])
 (.seq (.seq (.reg [⟨(some 6), (.dry (.faddr 0 5 true (.t 1))), none⟩,
 ⟨(some 7), (.wet (.load 5 true (.t 6))), none⟩,
 ⟨(some 8), (.call (.k (.fn 19 [] [])) [(.t 7)]), none⟩,
 ⟨(some 9), (.dry (.not (.t 8))), none⟩,
 ⟨(some 10), (.dry (.mov (.t 9))), none⟩,
 ⟨(some 11), (.dry (.faddr 5 1 false (.t 1))), (some (10, false))⟩,
 ⟨(some 12), (.wet (.load 1 false (.t 11))), (some (10, false))⟩,
 ⟨(some 13), (.dry (.len (.t 12))), (some (10, false))⟩,
 ⟨(some 14), (.dry (.faddr 0 5 true (.t 1))), (some (10, false))⟩,
 ⟨(some 15), (.dry (.faddr 1 1 false (.t 14))), (some (10, false))⟩,
 ⟨(some 16), (.wet (.load 1 false (.t 15))), (some (10, false))⟩,
 ⟨(some 17), (.dry (.bin .add (.t 13) (.t 16))), (some (10, false))⟩,
 ⟨(some 18), (.dry (.faddr 0 5 true (.t 1))), (some (10, false))⟩,
 ⟨(some 19), (.dry (.faddr 0 1 false (.t 18))), (some (10, false))⟩,
 ⟨(some 20), (.wet (.load 1 false (.t 19))), (some (10, false))⟩,
 ⟨(some 21), (.dry (.len (.t 20))), (some (10, false))⟩,
 ⟨(some 22), (.dry (.eq (.prim .i) true (.t 17) (.t 21))), (some (10, false))⟩,
 ⟨(some 23), (.dry (.pick (.t 10) (.k (.bool true)) (.t 22))), none⟩])
 (.cond (.t 23)
 (.seq (.reg [⟨(some 2), (.dry (.mov (.k (.bool false)))), none⟩])
 .ret)
 .skip))
 (.seq (.seq (.reg [⟨(some 24), (.dry (.faddr 5 1 false (.t 1))), none⟩,
 ⟨(some 25), (.wet (.load 1 false (.t 24))), none⟩,
 ⟨(some 26), (.dry (.len (.t 25))), none⟩,
 ⟨(some 27), (.dry (.mov (.k (.int .i64 0)))), none⟩])
 (.block 0
 (.loop
 (.seq (.reg [⟨(some 28), (.dry (.bin .lss (.t 27) (.t 26))), none⟩])
 (.seq (.cond (.t 28)
 .skip
 (.exit 0))
 (.seq (.block 1
 (.seq (.reg [⟨(some 29), (.dry (.mov (.t 27))), none⟩,
 ⟨(some 30), (.dry (.iaddr 5 (.t 25) (.t 27))), none⟩,
 ⟨(some 31), (.wet (.load 5 true (.t 30))), none⟩,
 ⟨(some 4), (.wet (.alloc 71 5 [.nils, .nils, (.int .i64 0), .nils, .nils])), none⟩,
 ⟨(some 3), (.dry (.mov (.t 29))), none⟩,
 ⟨none, (.wet (.store 5 (.t 4) (.t 31))), none⟩])
 (.seq (.reg [⟨(some 32), (.dry (.faddr 0 5 true (.t 1))), none⟩,
 ⟨(some 33), (.dry (.faddr 0 1 false (.t 32))), none⟩,
 ⟨(some 34), (.wet (.load 1 false (.t 33))), none⟩,
 ⟨(some 35), (.dry (.faddr 0 5 true (.t 1))), none⟩,
 ⟨(some 36), (.dry (.faddr 1 1 false (.t 35))), none⟩,
 ⟨(some 37), (.wet (.load 1 false (.t 36))), none⟩,
 ⟨(some 38), (.dry (.mov (.t 3))), none⟩,
 ⟨(some 39), (.dry (.bin .add (.t 37) (.t 38))), none⟩,
 ⟨(some 40), (.dry (.iaddr 2 (.t 34) (.t 39))), none⟩,
 ⟨(some 41), (.wet (.load 2 true (.t 40))), none⟩,
 ⟨(some 5), (.wet (.alloc 65 2 [.nils, .nils])), none⟩,
 ⟨none, (.wet (.store 2 (.t 5) (.t 41))), none⟩])
 (.seq (.reg [⟨(some 42), (.dry (.faddr 0 1 false (.t 5))), none⟩,
 ⟨(some 43), (.wet (.load 1 false (.t 42))), none⟩,
 ⟨(some 44), (.dry (.faddr 0 2 true (.t 4))), none⟩,
 ⟨(some 45), (.dry (.faddr 0 1 false (.t 44))), none⟩,
 ⟨(some 46), (.wet (.load 1 false (.t 45))), none⟩,
 ⟨(some 47), (.call (.k (.fn 32 [] [])) [(.t 43), (.t 46)]), none⟩,
 ⟨(some 48), (.dry (.not (.t 47))), none⟩,
 ⟨(some 49), (.dry (.mov (.t 48))), none⟩,
 ⟨(some 50), (.dry (.faddr 1 1 false (.t 5))), (some (49, false))⟩,
 ⟨(some 51), (.wet (.load 1 false (.t 50))), (some (49, false))⟩,
 ⟨(some 52), (.dry (.faddr 0 2 true (.t 4))), (some (49, false))⟩,
 ⟨(some 53), (.dry (.faddr 1 1 false (.t 52))), (some (49, false))⟩,
 ⟨(some 54), (.wet (.load 1 false (.t 53))), (some (49, false))⟩,
 ⟨(some 55), (.call (.k (.fn 32 [] [])) [(.t 51), (.t 54)]), (some (49, false))⟩,
 ⟨(some 56), (.dry (.not (.t 55))), (some (49, false))⟩,
 ⟨(some 57), (.dry (.pick (.t 49) (.k (.bool true)) (.t 56))), none⟩,
 ⟨(some 58), (.dry (.mov (.t 57))), none⟩,
 ⟨(some 59), (.dry (.faddr 0 5 true (.t 1))), (some (58, false))⟩,
 ⟨(some 60), (.wet (.load 5 true (.t 59))), (some (58, false))⟩,
 ⟨(some 61), (.wet (.load 5 true (.t 4))), (some (58, false))⟩,
 ⟨(some 62), (.call (.k (.fn 8 [] [])) [(.t 60), (.t 61)]), (some (58, false))⟩,
 ⟨(some 63), (.dry (.not (.t 62))), (some (58, false))⟩,
 ⟨(some 64), (.dry (.pick (.t 58) (.k (.bool true)) (.t 63))), none⟩])
 (.cond (.t 64)
 (.seq (.reg [⟨(some 2), (.dry (.mov (.k (.bool false)))), none⟩])
 .ret)
 .skip)))))
 (.reg [⟨(some 65), (.dry (.bin .add (.t 27) (.k (.int .i64 1)))), none⟩,
 ⟨(some 27), (.dry (.mov (.t 65))), none⟩])))))))
 (.seq (.reg [⟨(some 2), (.dry (.mov (.k (.bool true)))), none⟩])
 .ret)))) }

/-- bellcrank/bellcrankref18.Right -/
def e11 : EFunc := { own := none, res := [(.tmp 2)], ntmps := 58, pure := false, body :=
 (.seq (.reg [⟨(some 1), (.wet (.box 6 (.t 0))), none⟩,
 ⟨(some 2), (.dry (.mov (.k (.bool false)))), none⟩])
 (.seq (.seq (.reg [⟨(some 4), (.dry (.faddr 0 5 true (.t 1))), none⟩,
 ⟨(some 5), (.wet (.load 5 true (.t 4))), none⟩,
 ⟨(some 6), (.call (.k (.fn 27 [] [])) [(.t 5)]), none⟩,
 ⟨(some 7), (.dry (.not (.t 6))), none⟩,
 ⟨(some 8), (.dry (.mov (.t 7))), none⟩,
 ⟨(some 9), (.dry (.faddr 5 1 false (.t 1))), (some (8, false))⟩,
 ⟨(some 10), (.wet (.load 1 false (.t 9))), (some (8, false))⟩,
 ⟨(some 11), (.dry (.len (.t 10))), (some (8, false))⟩,
 ⟨(some 12), (.dry (.faddr 0 5 true (.t 1))), (some (8, false))⟩,
 ⟨(some 13), (.dry (.faddr 0 1 false (.t 12))), (some (8, false))⟩,
 ⟨(some 14), (.wet (.load 1 false (.t 13))), (some (8, false))⟩,
 ⟨(some 15), (.dry (.len (.t 14))), (some (8, false))⟩,
 ⟨(some 16), (.dry (.faddr 0 5 true (.t 1))), (some (8, false))⟩,
 ⟨(some 17), (.dry (.faddr 1 1 false (.t 16))), (some (8, false))⟩,
 ⟨(some 18), (.wet (.load 1 false (.t 17))), (some (8, false))⟩,
 ⟨(some 19), (.dry (.bin .sub (.t 15) (.t 18))), (some (8, false))⟩,
 ⟨(some 20), (.dry (.eq (.prim .i) true (.t 11) (.t 19))), (some (8, false))⟩,
 ⟨(some 21), (.dry (.pick (.t 8) (.k (.bool true)) (.t 20))), none⟩])
 (.cond (.t 21)
 (.seq (.reg [⟨(some 2), (.dry (.mov (.k (.bool false)))), none⟩])
 .ret)
 .skip))
 (.seq (.seq (.reg [⟨(some 3), (.dry (.mov (.k (.int .i64 0)))), none⟩])
 (.block 0
 (.loop
 (.seq (.seq (.reg [⟨(some 22), (.dry (.mov (.t 3))), none⟩,
 ⟨(some 23), (.dry (.faddr 5 1 false (.t 1))), none⟩,
 ⟨(some 24), (.wet (.load 1 false (.t 23))), none⟩,
 ⟨(some 25), (.dry (.len (.t 24))), none⟩,
 ⟨(some 26), (.dry (.bin .lss (.t 22) (.t 25))), none⟩])
 (.cond (.t 26)
 .skip
 (.exit 0)))
 (.seq (.block 1
 (.seq (.draw [(⟨(some 29), (.dry (.faddr 0 5 true (.t 1))), none⟩, 0, false),
 (⟨(some 30), (.wet (.load 5 true (.t 29))), none⟩, 1, false),
 (⟨(some 31), (.dry (.faddr 5 1 false (.t 1))), none⟩, 0, false),
 (⟨(some 32), (.wet (.load 1 false (.t 31))), none⟩, 4, false),
 (⟨(some 33), (.dry (.mov (.t 3))), none⟩, 0, false),
 (⟨(some 34), (.dry (.iaddr 5 (.t 32) (.t 33))), none⟩, 28, false),
 (⟨(some 35), (.wet (.load 5 true (.t 34))), none⟩, 60, false),
 (⟨(some 36), (.call (.k (.fn 9 [] [])) [(.t 30), (.t 35)]), none⟩, 127, true),
 (⟨(some 37), (.dry (.not (.t 36))), none⟩, 255, false),
 (⟨(some 38), (.dry (.mov (.t 37))), none⟩, 511, false),
 (⟨(some 39), (.dry (.faddr 5 1 false (.t 1))), (some (38, false))⟩, 1023, false),
 (⟨(some 40), (.wet (.load 1 false (.t 39))), (some (38, false))⟩, 2047, false),
 (⟨(some 41), (.dry (.mov (.t 3))), (some (38, false))⟩, 1023, false),
 (⟨(some 42), (.dry (.iaddr 5 (.t 40) (.t 41))), (some (38, false))⟩, 8191, false),
 (⟨(some 43), (.dry (.faddr 0 2 true (.t 42))), (some (38, false))⟩, 16383, false),
 (⟨(some 44), (.wet (.load 2 true (.t 43))), (some (38, false))⟩, 32767, false),
 (⟨(some 45), (.dry (.faddr 0 5 true (.t 1))), (some (38, false))⟩, 1023, false),
 (⟨(some 46), (.dry (.faddr 0 1 false (.t 45))), (some (38, false))⟩, 66559, false),
 (⟨(some 47), (.wet (.load 1 false (.t 46))), (some (38, false))⟩, 197631, false),
 (⟨(some 48), (.dry (.faddr 0 5 true (.t 1))), (some (38, false))⟩, 1023, false),
 (⟨(some 49), (.dry (.faddr 1 1 false (.t 48))), (some (38, false))⟩, 525311, false),
 (⟨(some 50), (.wet (.load 1 false (.t 49))), (some (38, false))⟩, 1573887, false),
 (⟨(some 51), (.dry (.mov (.t 3))), (some (38, false))⟩, 1023, false),
 (⟨(some 52), (.dry (.bin .add (.t 50) (.t 51))), (some (38, false))⟩, 7865343, false),
 (⟨(some 53), (.dry (.iaddr 2 (.t 47) (.t 52))), (some (38, false))⟩, 16712703, false),
 (⟨(some 54), (.wet (.load 2 true (.t 53))), (some (38, false))⟩, 33489919, false),
 (⟨(some 55), (.call (.k (.fn 33 [] [])) [(.t 44), (.t 54)]), (some (38, false))⟩, 67108863, true),
 (⟨(some 56), (.dry (.not (.t 55))), (some (38, false))⟩, 134217727, false),
 (⟨(some 57), (.dry (.pick (.t 38) (.k (.bool true)) (.t 56))), none⟩, 268435455, false)])
 (.cond (.t 57)
 (.seq (.reg [⟨(some 2), (.dry (.mov (.k (.bool false)))), none⟩])
 .ret)
 .skip)))
 (.reg [⟨(some 27), (.dry (.mov (.t 3))), none⟩,
 ⟨(some 28), (.dry (.bin .add (.t 27) (.k (.int .i64 1)))), none⟩,
 ⟨(some 3), (.dry (.mov (.t 28))), none⟩]))))))
 (.seq (.reg [⟨(some 2), (.dry (.mov (.k (.bool true)))), none⟩])
 .ret)))) }

/-- bellcrank/bellcranklaw18.alive -/
def e12 : EFunc := { own := none, res := [(.tmp 0)], ntmps := 50, pure := false, body :=
 (.seq (.reg [dr 0 (.mov (.k (.bool false)))])
 (.seq (.reg [cl 7 (kf 34) [],
 cl 8 (kf 17) [(.t 7)],
 mv 6 8,
 dr 9 (.extract (.t 6) 0),
 dr 10 (.extract (.t 6) 1),
 wt 1 (.alloc 61 6 [.nils, (ig 0), .nils, .nils, (.bool false), .nils]),
 wn (.store 6 (.t 1) (.t 9)),
 mv 2 10])
 (.seq (.seq (.reg [mv 11 2,
 dr 12 (.eq (.prim .i) true (.t 11) (ki 0)),
 mv 13 12,
 wg 14 13 false (.load 6 true (.t 1)),
 cg 15 13 false (kf 11) [(.t 14)],
 dg 16 13 false (.not (.t 15)),
 dr 17 (.pick (.t 13) (.k (.bool true)) (.t 16))])
 (.cond (.t 17)
 (.seq (.reg [dr 0 (.mov (.k (.bool false)))])
 .ret)
 .skip))
 (.seq (.reg [wt 19 (.load 6 true (.t 1)),
 dr 20 (.build [.nils, (ig 0), .nils, (ig 0), .nils, .nils] [(3, 1, (ki 1))]),
 cl 21 (kf 13) [(.t 19), (.t 20), (ki 0), (.k .nils)],
 mv 18 21,
 dr 22 (.extract (.t 18) 0),
 dr 23 (.extract (.t 18) 1),
 dr 24 (.extract (.t 18) 2),
 wt 4 (.alloc 85 6 [.nils, (ig 0), .nils, (ig 0), .nils, .nils]),
 mv 3 22,
 wn (.store 6 (.t 4) (.t 23)),
 mv 5 24])
 (.seq (.draw [(mv 25 5, 0, false),
 (dr 26 (.eq (.prim .i) false (.t 25) (ki 0)), 1, false),
 (mv 27 26, 3, false),
 (dg 28 27 true (.mov (.t 3)), 7, false),
 (wg 29 27 true (.bsl 1 1 [(.int .u64 0)] [(0, (.k (.int .u64 5)))]), 7, true),
 (cg 30 27 true (kf 15) [(.t 28), (.t 29)], 31, true),
 (dr 31 (.pick (.t 27) (.t 30) (.k (.bool false))), 63, false),
 (mv 32 31, 127, false),
 (dg 33 32 true (fa 3 4), 255, false),
 (wg 34 32 true (l1 33), 511, true),
 (dg 35 32 true (.eq (.prim .i) false (.t 34) (ki 0)), 1023, false),
 (dr 36 (.pick (.t 32) (.t 35) (.k (.bool false))), 2047, false),
 (mv 37 36, 4095, false),
 (wg 38 37 true (.load 6 true (.t 1)), 8191, true),
 (cg 39 37 true (kf 10) [(.t 38)], 16383, true),
 (dr 40 (.pick (.t 37) (.t 39) (.k (.bool false))), 32767, false),
 (mv 41 40, 65535, false),
 (dg 42 41 true (.faddr 0 5 true (.t 1)), 131071, false),
 (wg 43 41 true (.load 5 true (.t 42)), 262143, false),
 (dg 44 41 true (fa 5 1), 131071, false),
 (wg 45 41 true (l1 44), 655359, false),
 (dg 46 41 true (.iaddr 5 (.t 45) (ki 0)), 1703935, false),
 (wg 47 41 true (.load 5 true (.t 46)), 3801087, false),
 (cg 48 41 true (kf 8) [(.t 43), (.t 47)], 8388607, true),
 (dr 49 (.pick (.t 41) (.t 48) (.k (.bool false))), 16777215, false),
 (mv 0 49, 33554431, false)])
 .ret))))) }

/-- bellcrank/lower.Run -/
def e13 : EFunc := { own := none, res := [(.tmp 8), (.cell 9 6 true), (.tmp 10)], ntmps := 85, pure := false, body :=
 (.seq (.reg [wt 4 (.box 6 (.t 0)),
 wt 5 (.box 6 (.t 1)),
 dr 8 (.mov (.k .nils)),
 wt 9 (.alloc 85 6 [.nils, (ig 0), .nils, (ig 0), .nils, .nils]),
 dr 10 (.mov (ki 0))])
 (.seq (.reg [wt 15 (.load 6 true (.t 5)),
 wt 11 (.alloc 85 6 [.nils, (ig 0), .nils, (ig 0), .nils, .nils]),
 wn (.store 6 (.t 11) (.t 15))])
 (.seq (.draw [(dr 16 (fa 0 5), 0, false),
 (wt 17 (l1 16), 1, false),
 (cl 18 (kf 35) [(.t 17)], 3, false),
 (dr 19 (fa 2 5), 0, false),
 (wt 20 (l1 19), 8, false),
 (cl 21 (kf 36) [(.t 20)], 31, false),
 (dr 22 (fa 4 5), 0, false),
 (wt 23 (l1 22), 64, false),
 (cl 24 (kf 36) [(.t 23)], 255, false),
 (dr 25 (fa 5 5), 0, false),
 (wt 26 (l1 25), 512, false),
 (cl 27 (kf 36) [(.t 26)], 2047, true),
 (dr 28 (fa 0 11), 7, false),
 (wn (.store 1 (.t 28) (.t 18)), 8191, true),
 (dr 29 (fa 2 11), 16383, false),
 (wn (.store 1 (.t 29) (.t 21)), 32767, true),
 (dr 30 (fa 4 11), 65535, false),
 (wn (.store 1 (.t 30) (.t 24)), 131071, true),
 (dr 31 (fa 5 11), 262143, false),
 (wn (.store 1 (.t 31) (.t 27)), 524287, true)])
 (.seq (.block 0
 (.seq (.reg [dr 33 (.faddr 0 5 true (.t 4)),
 wt 34 (.load 5 true (.t 33)),
 wt 35 (.load 6 true (.t 5)),
 cl 36 (kf 37) [(.t 34), (.t 35)],
 dr 37 (.not (.t 36)),
 mv 38 37,
 wg 39 38 false (.load 6 true (.t 4)),
 cg 40 38 false (kf 10) [(.t 39)],
 dg 41 38 false (.not (.t 40)),
 dr 42 (.pick (.t 38) (.k (.bool true)) (.t 41)),
 mv 32 42])
 (.cond (.t 32)
 (.seq (.draw [(wt 43 (.load 6 true (.t 11)), 0, true),
 (dr 8 (.mov (.k .nils)), 0, false),
 (wn (.store 6 (.t 9) (.t 43)), 3, true),
 (dr 10 (.mov (ki 6)), 7, false)])
 .ret)
 (.seq (.reg [mv 45 2,
 dr 46 (.bin .lss (.t 45) (ki 0)),
 mv 47 46,
 dg 48 47 false (.mov (.t 2)),
 dg 49 47 false (.faddr 0 5 true (.t 4)),
 dg 50 47 false (fa 0 49),
 wg 51 47 false (l1 50),
 dg 52 47 false (.len (.t 51)),
 dg 53 47 false (.bin .geq (.t 48) (.t 52)),
 dr 54 (.pick (.t 47) (.k (.bool true)) (.t 53)),
 mv 55 54,
 dg 56 55 false (.faddr 0 5 true (.t 4)),
 dg 57 55 false (fa 0 56),
 wg 58 55 false (l1 57),
 dg 59 55 false (.mov (.t 2)),
 dg 60 55 false (.iaddr 2 (.t 58) (.t 59)),
 dg 61 55 false (fa 0 60),
 wg 62 55 false (l1 61),
 dg 63 55 false (.mov (.t 3)),
 cg 64 55 false (kf 38) [(.t 62), (.t 63), (kf 39)],
 dg 65 55 false (.not (.t 64)),
 dr 66 (.pick (.t 55) (.k (.bool true)) (.t 65)),
 mv 44 66])
 (.cond (.t 44)
 (.seq (.draw [(wt 67 (.load 6 true (.t 11)), 0, true),
 (dr 8 (.mov (.k .nils)), 0, false),
 (wn (.store 6 (.t 9) (.t 67)), 3, true),
 (dr 10 (.mov (ki 1)), 7, false)])
 .ret)
 .skip)))))
 (.seq (.reg [wt 68 (.load 6 true (.t 4)),
 wt 69 (.load 6 true (.t 11)),
 dr 70 (.build [.nils, (ig 0), .nils, .nils, (.bool false), .nils, .nils, (ig 0), .nils, (ig 0), .nils, .nils, (ig 0)] [(0, 6, (.t 68)), (6, 6, (.t 69))]),
 wt 71 (.box 13 (.t 70)),
 mv 12 71])
 (.seq (.reg [mv 73 12,
 mv 74 2,
 mv 75 3,
 cl 76 (kf 40) [(.t 73), (.t 74), (.t 75)],
 mv 72 76,
 dr 77 (.extract (.t 72) 0),
 dr 78 (.extract (.t 72) 1),
 mv 13 77,
 mv 14 78])
 (.seq (.draw [(mv 79 13, 0, false),
 (mv 80 12, 0, false),
 (dr 81 (.nilchk (.t 80)), 2, false),
 (dr 82 (.faddr 6 6 true (.t 81)), 6, false),
 (wt 83 (.load 6 true (.t 82)), 14, true),
 (mv 84 14, 0, false),
 (mv 8 79, 1, false),
 (wn (.store 6 (.t 9) (.t 83)), 95, true),
 (mv 10 84, 255, false)])
 .ret))))))) }

/-- bellcrank/bellcrankref06.Words -/
def e15 : EFunc := { own := none, res := [(.tmp 4)], ntmps := 26, pure := false, body :=
 (.seq (.reg [dr 4 (.mov (.k (.bool false)))])
 (.seq (.seq (.reg [mv 6 0,
 dr 7 (.len (.t 6)),
 mv 8 1,
 dr 9 (.len (.t 8)),
 dr 10 (.eq (.prim .i) true (.t 7) (.t 9))])
 (.cond (.t 10)
 (.seq (.reg [dr 4 (.mov (.k (.bool false)))])
 .ret)
 .skip))
 (.seq (.seq (.reg [dr 5 (.mov (ki 0))])
 (.block 0
 (.loop
 (.seq (.seq (.reg [mv 11 5,
 mv 12 0,
 dr 13 (.len (.t 12)),
 dr 14 (.bin .lss (.t 11) (.t 13))])
 (.cond (.t 14)
 .skip
 (.exit 0)))
 (.seq (.block 1
 (.seq (.draw [(mv 17 0, 0, false),
 (mv 18 5, 0, false),
 (dr 19 (.iaddr 1 (.t 17) (.t 18)), 3, false),
 (wt 20 (l1 19), 7, false),
 (mv 21 1, 0, false),
 (mv 22 5, 0, false),
 (dr 23 (.iaddr 1 (.t 21) (.t 22)), 48, false),
 (wt 24 (l1 23), 112, false),
 (dr 25 (.eq (.prim .i) true (.t 20) (.t 24)), 255, false)])
 (.cond (.t 25)
 (.seq (.reg [dr 4 (.mov (.k (.bool false)))])
 .ret)
 .skip)))
 (.reg [mv 15 5,
 dr 16 (.bin .add (.t 15) (ki 1)),
 mv 5 16]))))))
 (.seq (.reg [dr 4 (.mov (.k (.bool true)))])
 .ret)))) }

/-- bellcrank/lower.Lower -/
def e17 : EFunc := { own := none, res := [(.cell 2 6 true), (.tmp 3)], ntmps := 34, pure := false, body :=
 (.seq (.reg [⟨(some 1), (.wet (.box 6 (.t 0))), none⟩,
 ⟨(some 2), (.wet (.alloc 61 6 [.nils, (.int .i64 0), .nils, .nils, (.bool false), .nils])), none⟩,
 ⟨(some 3), (.dry (.mov (.k (.int .i64 0)))), none⟩])
 (.seq (.seq (.reg [⟨(some 7), (.wet (.load 6 true (.t 1))), none⟩,
 ⟨(some 8), (.call (.k (.fn 43 [] [])) [(.t 7)]), none⟩,
 ⟨(some 9), (.dry (.not (.t 8))), none⟩])
 (.cond (.t 9)
 (.seq (.reg [⟨(some 10), (.dry (.build [.nils, (.int .i64 0), .nils, .nils, (.bool false), .nils] [])), none⟩,
 ⟨none, (.wet (.store 6 (.t 2) (.t 10))), none⟩,
 ⟨(some 3), (.dry (.mov (.k (.int .i64 6)))), none⟩])
 .ret)
 .skip))
 (.seq (.reg [⟨(some 11), (.dry (.faddr 0 5 true (.t 1))), none⟩,
 ⟨(some 12), (.wet (.load 5 true (.t 11))), none⟩,
 ⟨(some 13), (.dry (.build [.nils, (.int .i64 0), .nils, .nils, (.bool false), .nils] [(0, 5, (.t 12))])), none⟩,
 ⟨(some 4), (.wet (.alloc 61 6 [.nils, (.int .i64 0), .nils, .nils, (.bool false), .nils])), none⟩,
 ⟨none, (.wet (.store 6 (.t 4) (.t 13))), none⟩])
 (.seq (.seq (.reg [⟨(some 14), (.dry (.faddr 5 1 false (.t 1))), none⟩,
 ⟨(some 15), (.wet (.load 1 false (.t 14))), none⟩,
 ⟨(some 16), (.dry (.len (.t 15))), none⟩,
 ⟨(some 17), (.dry (.mov (.k (.int .i64 0)))), none⟩])
 (.block 0
 (.loop
 (.seq (.reg [⟨(some 18), (.dry (.bin .lss (.t 17) (.t 16))), none⟩])
 (.seq (.cond (.t 18)
 .skip
 (.exit 0))
 (.seq (.block 1
 (.seq (.reg [⟨(some 19), (.dry (.iaddr 4 (.t 15) (.t 17))), none⟩,
 ⟨(some 20), (.wet (.load 4 true (.t 19))), none⟩,
 ⟨(some 6), (.wet (.alloc 189 4 [.nils, .nils, .nils, .nils])), none⟩,
 ⟨none, (.wet (.store 4 (.t 6) (.t 20))), none⟩])
 (.draw [(⟨(some 21), (.dry (.faddr 5 1 false (.t 4))), none⟩, 0, false),
 (⟨(some 22), (.wet (.load 1 false (.t 21))), none⟩, 1, false),
 (⟨(some 23), (.wet (.load 4 true (.t 6))), none⟩, 0, false),
 (⟨(some 24), (.call (.k (.fn 44 [] [])) [(.t 23)]), none⟩, 4, false),
 (⟨(some 25), (.wet (.bsl 5 1 [.nils, .nils, (.int .i64 0), .nils, .nils] [(0, (.t 24))])), none⟩, 12, false),
 (⟨(some 26), (.wet (.append 70 5 104 (.t 22) (.t 25))), none⟩, 31, true),
 (⟨(some 27), (.dry (.faddr 5 1 false (.t 4))), none⟩, 63, false),
 (⟨none, (.wet (.store 1 (.t 27) (.t 26))), none⟩, 127, true)])))
 (.reg [⟨(some 28), (.dry (.bin .add (.t 17) (.k (.int .i64 1)))), none⟩,
 ⟨(some 17), (.dry (.mov (.t 28))), none⟩])))))))
 (.seq (.seq (.reg [⟨(some 29), (.wet (.load 6 true (.t 4))), none⟩,
 ⟨(some 30), (.call (.k (.fn 10 [] [])) [(.t 29)]), none⟩,
 ⟨(some 31), (.dry (.not (.t 30))), none⟩])
 (.cond (.t 31)
 (.seq (.reg [⟨(some 32), (.dry (.build [.nils, (.int .i64 0), .nils, .nils, (.bool false), .nils] [])), none⟩,
 ⟨none, (.wet (.store 6 (.t 2) (.t 32))), none⟩,
 ⟨(some 3), (.dry (.mov (.k (.int .i64 15)))), none⟩])
 .ret)
 .skip))
 (.seq (.reg [⟨(some 33), (.wet (.load 6 true (.t 4))), none⟩,
 ⟨none, (.wet (.store 6 (.t 2) (.t 33))), none⟩,
 ⟨(some 3), (.dry (.mov (.k (.int .i64 0)))), none⟩])
 .ret)))))) }

/-- bellcrank/ssa.EnvRight -/
def e19 : EFunc := { own := none, res := [(.tmp 2)], ntmps := 38, pure := false, body :=
 (.seq (.reg [⟨(some 1), (.wet (.box 5 (.t 0))), none⟩,
 ⟨(some 2), (.dry (.mov (.k (.bool false)))), none⟩])
 (.seq (.seq (.reg [⟨(some 3), (.dry (.faddr 1 1 false (.t 1))), none⟩,
 ⟨(some 4), (.wet (.load 1 false (.t 3))), none⟩,
 ⟨(some 5), (.dry (.bin .lss (.t 4) (.k (.int .i64 0)))), none⟩,
 ⟨(some 6), (.dry (.mov (.t 5))), none⟩,
 ⟨(some 7), (.dry (.faddr 1 1 false (.t 1))), (some (6, false))⟩,
 ⟨(some 8), (.wet (.load 1 false (.t 7))), (some (6, false))⟩,
 ⟨(some 9), (.dry (.faddr 0 1 false (.t 1))), (some (6, false))⟩,
 ⟨(some 10), (.wet (.load 1 false (.t 9))), (some (6, false))⟩,
 ⟨(some 11), (.dry (.len (.t 10))), (some (6, false))⟩,
 ⟨(some 12), (.dry (.bin .gtr (.t 8) (.t 11))), (some (6, false))⟩,
 ⟨(some 13), (.dry (.pick (.t 6) (.k (.bool true)) (.t 12))), none⟩,
 ⟨(some 14), (.dry (.mov (.t 13))), none⟩,
 ⟨(some 15), (.dry (.faddr 0 1 false (.t 1))), (some (14, false))⟩,
 ⟨(some 16), (.wet (.load 1 false (.t 15))), (some (14, false))⟩,
 ⟨(some 17), (.dry (.len (.t 16))), (some (14, false))⟩,
 ⟨(some 18), (.dry (.bin .gtr (.t 17) (.k (.int .i64 64)))), (some (14, false))⟩,
 ⟨(some 19), (.dry (.pick (.t 14) (.k (.bool true)) (.t 18))), none⟩,
 ⟨(some 20), (.dry (.mov (.t 19))), none⟩,
 ⟨(some 21), (.dry (.faddr 3 1 false (.t 1))), (some (20, false))⟩,
 ⟨(some 22), (.wet (.load 1 false (.t 21))), (some (20, false))⟩,
 ⟨(some 23), (.dry (.len (.t 22))), (some (20, false))⟩,
 ⟨(some 24), (.dry (.faddr 2 1 false (.t 1))), (some (20, false))⟩,
 ⟨(some 25), (.wet (.load 1 false (.t 24))), (some (20, false))⟩,
 ⟨(some 26), (.dry (.len (.t 25))), (some (20, false))⟩,
 ⟨(some 27), (.dry (.eq (.prim .i) true (.t 23) (.t 26))), (some (20, false))⟩,
 ⟨(some 28), (.dry (.pick (.t 20) (.k (.bool true)) (.t 27))), none⟩])
 (.cond (.t 28)
 (.seq (.reg [⟨(some 2), (.dry (.mov (.k (.bool false)))), none⟩])
 .ret)
 .skip))
 (.seq (.reg [⟨(some 29), (.dry (.faddr 2 1 false (.t 1))), none⟩,
 ⟨(some 30), (.wet (.load 1 false (.t 29))), none⟩,
 ⟨(some 31), (.call (.k (.fn 47 [] [])) [(.k (.int .i64 32)), (.t 30)]), none⟩,
 ⟨(some 32), (.dry (.mov (.t 31))), none⟩,
 ⟨(some 33), (.dry (.faddr 0 1 false (.t 1))), (some (32, true))⟩,
 ⟨(some 34), (.wet (.load 1 false (.t 33))), (some (32, true))⟩,
 ⟨(some 35), (.call (.k (.fn 48 [] [])) [(.t 34), (.k (.fn 49 [] []))]), (some (32, true))⟩,
 ⟨(some 36), (.dry (.not (.t 35))), (some (32, true))⟩,
 ⟨(some 37), (.dry (.pick (.t 32) (.t 36) (.k (.bool false)))), none⟩,
 ⟨(some 2), (.dry (.mov (.t 37))), none⟩])
 .ret))) }

/-- bellcrank/lower.within -/
def e20 : EFunc := { own := none, res := [(.tmp 4)], ntmps := 9, pure := false, body :=
 (.seq (.reg [⟨(some 2), (.wet (.box 1 (.t 0))), none⟩,
 ⟨(some 4), (.dry (.mov (.k (.bool false)))), none⟩])
 (.seq (.reg [⟨(some 5), (.dry (.mov (.t 1))), none⟩,
 ⟨(some 6), (.dry (.mkfn 52 [] [(.t 2)])), none⟩,
 ⟨(some 7), (.call (.k (.fn 51 [] [])) [(.t 5), (.t 6)]), none⟩,
 ⟨(some 8), (.dry (.not (.t 7))), none⟩,
 ⟨(some 4), (.dry (.mov (.t 8))), none⟩])
 .ret)) }

/-- bellcrank/lower.unlike -/
def e21 : EFunc := { own := none, res := [(.tmp 2)], ntmps := 18, pure := false, body :=
 (.seq (.reg [⟨(some 2), (.dry (.mov (.k (.bool false)))), none⟩])
 (.seq (.seq (.reg [⟨(some 5), (.dry (.mov (.t 0))), none⟩,
 ⟨(some 6), (.dry (.len (.t 5))), none⟩,
 ⟨(some 7), (.dry (.mov (.k (.int .i64 0)))), none⟩])
 (.block 0
 (.loop
 (.seq (.reg [⟨(some 8), (.dry (.bin .lss (.t 7) (.t 6))), none⟩])
 (.seq (.cond (.t 8)
 .skip
 (.exit 0))
 (.seq (.block 1
 (.seq (.reg [⟨(some 9), (.dry (.mov (.t 7))), none⟩,
 ⟨(some 10), (.dry (.iaddr 1 (.t 5) (.t 7))), none⟩,
 ⟨(some 11), (.wet (.load 1 false (.t 10))), none⟩,
 ⟨(some 3), (.dry (.mov (.t 9))), none⟩,
 ⟨(some 4), (.dry (.mov (.t 11))), none⟩])
 (.seq (.reg [⟨(some 12), (.dry (.mov (.t 0))), none⟩,
 ⟨(some 13), (.dry (.mov (.t 3))), none⟩,
 ⟨(some 14), (.wet (.slice 1 (.t 12) none (some (.t 13)))), none⟩,
 ⟨(some 15), (.dry (.mov (.t 4))), none⟩,
 ⟨(some 16), (.call (.k (.fn 25 [] [])) [(.t 14), (.t 15)]), none⟩])
 (.cond (.t 16)
 (.seq (.reg [⟨(some 2), (.dry (.mov (.k (.bool false)))), none⟩])
 .ret)
 .skip))))
 (.reg [⟨(some 17), (.dry (.bin .add (.t 7) (.k (.int .i64 1)))), none⟩,
 ⟨(some 7), (.dry (.mov (.t 17))), none⟩])))))))
 (.seq (.reg [⟨(some 2), (.dry (.mov (.k (.bool true)))), none⟩])
 .ret))) }

/-- slices.ContainsFunc[[]bellcrank/api.Code,bellcrank/api.Code] -/
def e22 : EFunc := { own := none, res := [(.tmp 4)], ntmps := 9, pure := false, body :=
 (.seq (.reg [⟨(some 4), (.dry (.mov (.k (.bool false)))), none⟩])
 (.seq (.reg [⟨(some 5), (.dry (.mov (.t 0))), none⟩,
 ⟨(some 6), (.dry (.mov (.t 1))), none⟩,
 ⟨(some 7), (.call (.k (.fn 53 [] [])) [(.t 5), (.t 6)]), none⟩,
 ⟨(some 8), (.dry (.bin .geq (.t 7) (.k (.int .i64 0)))), none⟩,
 ⟨(some 4), (.dry (.mov (.t 8))), none⟩])
 .ret)) }

/-- bellcrank/lower.Check$1 -/
def e23 : EFunc := { own := none, res := [(.tmp 4)], ntmps := 10, pure := false, body :=
 (.seq (.reg [⟨(some 3), (.wet (.box 5 (.t 0))), none⟩,
 ⟨(some 4), (.dry (.mov (.k (.bool false)))), none⟩])
 (.seq (.reg [⟨(some 5), (.wet (.load 5 true (.t 1))), none⟩,
 ⟨(some 6), (.wet (.load 5 true (.t 2))), none⟩,
 ⟨(some 7), (.wet (.load 5 true (.t 3))), none⟩,
 ⟨(some 8), (.call (.k (.fn 24 [] [])) [(.t 5), (.t 6), (.t 7)]), none⟩,
 ⟨(some 9), (.dry (.not (.t 8))), none⟩,
 ⟨(some 4), (.dry (.mov (.t 9))), none⟩])
 .ret)) }

/-- bellcrank/lower.instruction -/
def e24 : EFunc := { own := none, res := [(.tmp 6)], ntmps := 89, pure := false, body :=
 (.seq (.reg [⟨(some 3), (.wet (.box 5 (.t 0))), none⟩,
 ⟨(some 4), (.wet (.box 5 (.t 1))), none⟩,
 ⟨(some 5), (.wet (.box 5 (.t 2))), none⟩,
 ⟨(some 6), (.dry (.mov (.k (.bool false)))), none⟩])
 (.seq (.reg [⟨(some 10), (.wet (.load 5 true (.t 3))), none⟩,
 ⟨(some 11), (.dry (.faddr 0 2 true (.t 4))), none⟩,
 ⟨(some 12), (.wet (.load 2 true (.t 11))), none⟩,
 ⟨(some 13), (.dry (.faddr 0 1 false (.t 5))), none⟩,
 ⟨(some 14), (.wet (.load 1 false (.t 13))), none⟩,
 ⟨(some 15), (.dry (.faddr 1 1 false (.t 5))), none⟩,
 ⟨(some 16), (.wet (.load 1 false (.t 15))), none⟩,
 ⟨(some 17), (.call (.k (.fn 54 [] [])) [(.t 10), (.t 12), (.t 14), (.t 16)]), none⟩,
 ⟨(some 9), (.dry (.mov (.t 17))), none⟩,
 ⟨(some 18), (.dry (.extract (.t 9) 0)), none⟩,
 ⟨(some 19), (.dry (.extract (.t 9) 1)), none⟩,
 ⟨(some 7), (.wet (.alloc 205 5 [.nils, .nils, (.int .u64 0), (.int .i64 0), (.int .i64 0)])), none⟩,
 ⟨none, (.wet (.store 5 (.t 7) (.t 18))), none⟩,
 ⟨(some 8), (.dry (.mov (.t 19))), none⟩])
 (.seq (.reg [⟨(some 20), (.dry (.mov (.t 8))), none⟩,
 ⟨(some 21), (.dry (.mov (.t 20))), none⟩,
 ⟨(some 22), (.dry (.faddr 1 1 false (.t 5))), (some (21, true))⟩,
 ⟨(some 23), (.wet (.load 1 false (.t 22))), (some (21, true))⟩,
 ⟨(some 24), (.dry (.faddr 2 1 false (.t 7))), (some (21, true))⟩,
 ⟨(some 25), (.wet (.load 1 false (.t 24))), (some (21, true))⟩,
 ⟨(some 26), (.dry (.bin .leq (.t 23) (.t 25))), (some (21, true))⟩,
 ⟨(some 27), (.dry (.pick (.t 21) (.t 26) (.k (.bool false)))), none⟩,
 ⟨(some 28), (.dry (.mov (.t 27))), none⟩,
 ⟨(some 29), (.dry (.faddr 2 1 false (.t 5))), (some (28, true))⟩,
 ⟨(some 30), (.wet (.load 1 false (.t 29))), (some (28, true))⟩,
 ⟨(some 31), (.dry (.len (.t 30))), (some (28, true))⟩,
 ⟨(some 32), (.dry (.faddr 0 1 false (.t 7))), (some (28, true))⟩,
 ⟨(some 33), (.wet (.load 1 false (.t 32))), (some (28, true))⟩,
 ⟨(some 34), (.dry (.len (.t 33))), (some (28, true))⟩,
 ⟨(some 35), (.dry (.eq (.prim .i) false (.t 31) (.t 34))), (some (28, true))⟩,
 ⟨(some 36), (.dry (.pick (.t 28) (.t 35) (.k (.bool false)))), none⟩,
 ⟨(some 37), (.dry (.mov (.t 36))), none⟩,
 ⟨(some 38), (.dry (.faddr 3 1 false (.t 5))), (some (37, true))⟩,
 ⟨(some 39), (.wet (.load 1 false (.t 38))), (some (37, true))⟩,
 ⟨(some 40), (.dry (.len (.t 39))), (some (37, true))⟩,
 ⟨(some 41), (.dry (.faddr 1 1 false (.t 7))), (some (37, true))⟩,
 ⟨(some 42), (.wet (.load 1 false (.t 41))), (some (37, true))⟩,
 ⟨(some 43), (.dry (.len (.t 42))), (some (37, true))⟩,
 ⟨(some 44), (.dry (.eq (.prim .i) false (.t 40) (.t 43))), (some (37, true))⟩,
 ⟨(some 45), (.dry (.pick (.t 37) (.t 44) (.k (.bool false)))), none⟩,
 ⟨(some 46), (.dry (.mov (.t 45))), none⟩,
 ⟨(some 47), (.dry (.faddr 4 1 false (.t 5))), (some (46, true))⟩,
 ⟨(some 48), (.wet (.load 1 false (.t 47))), (some (46, true))⟩,
 ⟨(some 49), (.dry (.len (.t 48))), (some (46, true))⟩,
 ⟨(some 50), (.dry (.faddr 3 1 false (.t 7))), (some (46, true))⟩,
 ⟨(some 51), (.wet (.load 1 false (.t 50))), (some (46, true))⟩,
 ⟨(some 52), (.dry (.bin .geq (.t 49) (.t 51))), (some (46, true))⟩,
 ⟨(some 53), (.dry (.pick (.t 46) (.t 52) (.k (.bool false)))), none⟩,
 ⟨(some 54), (.dry (.mov (.t 53))), none⟩,
 ⟨(some 55), (.dry (.faddr 4 1 false (.t 5))), (some (54, true))⟩,
 ⟨(some 56), (.wet (.load 1 false (.t 55))), (some (54, true))⟩,
 ⟨(some 57), (.dry (.len (.t 56))), (some (54, true))⟩,
 ⟨(some 58), (.dry (.faddr 4 1 false (.t 7))), (some (54, true))⟩,
 ⟨(some 59), (.wet (.load 1 false (.t 58))), (some (54, true))⟩,
 ⟨(some 60), (.dry (.bin .leq (.t 57) (.t 59))), (some (54, true))⟩,
 ⟨(some 61), (.dry (.pick (.t 54) (.t 60) (.k (.bool false)))), none⟩,
 ⟨(some 62), (.dry (.mov (.t 61))), none⟩,
 ⟨(some 63), (.dry (.faddr 2 1 false (.t 4))), (some (62, true))⟩,
 ⟨(some 64), (.wet (.load 1 false (.t 63))), (some (62, true))⟩,
 ⟨(some 65), (.dry (.faddr 2 1 false (.t 5))), (some (62, true))⟩,
 ⟨(some 66), (.wet (.load 1 false (.t 65))), (some (62, true))⟩,
 ⟨(some 67), (.call (.k (.fn 20 [] [])) [(.t 64), (.t 66)]), (some (62, true))⟩,
 ⟨(some 68), (.dry (.pick (.t 62) (.t 67) (.k (.bool false)))), none⟩,
 ⟨(some 69), (.dry (.mov (.t 68))), none⟩,
 ⟨(some 70), (.dry (.faddr 2 1 false (.t 4))), (some (69, true))⟩,
 ⟨(some 71), (.wet (.load 1 false (.t 70))), (some (69, true))⟩,
 ⟨(some 72), (.dry (.faddr 3 1 false (.t 5))), (some (69, true))⟩,
 ⟨(some 73), (.wet (.load 1 false (.t 72))), (some (69, true))⟩,
 ⟨(some 74), (.call (.k (.fn 20 [] [])) [(.t 71), (.t 73)]), (some (69, true))⟩,
 ⟨(some 75), (.dry (.pick (.t 69) (.t 74) (.k (.bool false)))), none⟩,
 ⟨(some 76), (.dry (.mov (.t 75))), none⟩,
 ⟨(some 77), (.dry (.faddr 3 1 false (.t 5))), (some (76, true))⟩,
 ⟨(some 78), (.wet (.load 1 false (.t 77))), (some (76, true))⟩,
 ⟨(some 79), (.call (.k (.fn 21 [] [])) [(.t 78)]), (some (76, true))⟩,
 ⟨(some 80), (.dry (.pick (.t 76) (.t 79) (.k (.bool false)))), none⟩,
 ⟨(some 81), (.dry (.mov (.t 80))), none⟩,
 ⟨(some 82), (.dry (.faddr 4 1 false (.t 4))), (some (81, true))⟩,
 ⟨(some 83), (.wet (.load 1 false (.t 82))), (some (81, true))⟩,
 ⟨(some 84), (.dry (.len (.t 83))), (some (81, true))⟩,
 ⟨(some 85), (.dry (.faddr 4 1 false (.t 5))), (some (81, true))⟩,
 ⟨(some 86), (.wet (.load 1 false (.t 85))), (some (81, true))⟩,
 ⟨(some 87), (.call (.k (.fn 20 [] [])) [(.t 84), (.t 86)]), (some (81, true))⟩,
 ⟨(some 88), (.dry (.pick (.t 81) (.t 87) (.k (.bool false)))), none⟩,
 ⟨(some 6), (.dry (.mov (.t 88))), none⟩])
 .ret))) }

/-- slices.Contains[[]int,int] -/
def e25 : EFunc := { own := none, res := [(.tmp 4)], ntmps := 9, pure := false, body :=
 (.seq (.reg [⟨(some 4), (.dry (.mov (.k (.bool false)))), none⟩])
 (.seq (.reg [⟨(some 5), (.dry (.mov (.t 0))), none⟩,
 ⟨(some 6), (.dry (.mov (.t 1))), none⟩,
 ⟨(some 7), (.call (.k (.fn 55 [] [])) [(.t 5), (.t 6)]), none⟩,
 ⟨(some 8), (.dry (.bin .geq (.t 7) (.k (.int .i64 0)))), none⟩,
 ⟨(some 4), (.dry (.mov (.t 8))), none⟩])
 .ret)) }

/-- bellcrank/lower.rings -/
def e26 : EFunc := { own := none, res := [(.tmp 2)], ntmps := 71, pure := false, body :=
 (.seq (.reg [⟨(some 1), (.wet (.box 5 (.t 0))), none⟩,
 ⟨(some 2), (.dry (.mov (.k (.bool false)))), none⟩])
 (.seq (.reg [⟨(some 10), (.dry (.faddr 4 1 false (.t 1))), none⟩,
 ⟨(some 11), (.wet (.load 1 false (.t 10))), none⟩,
 ⟨(some 12), (.dry (.len (.t 11))), none⟩,
 ⟨(some 13), (.wet (.mksl 1 8 [(.int .i64 0)] (.t 12) (.t 12))), none⟩,
 ⟨(some 3), (.wet (.alloc 1 1 [.nils])), none⟩,
 ⟨none, (.wet (.store 1 (.t 3) (.t 13))), none⟩])
 (.seq (.reg [⟨(some 4), (.wet (.alloc 1 1 [.nils])), none⟩])
 (.seq (.reg [⟨(some 14), (.dry (.mkfn 56 [] [(.t 3), (.t 1), (.t 4)])), none⟩,
 ⟨(some 5), (.dry (.mov (.t 14))), none⟩])
 (.seq (.seq (.reg [⟨(some 15), (.dry (.faddr 4 1 false (.t 1))), none⟩,
 ⟨(some 16), (.wet (.load 1 false (.t 15))), none⟩,
 ⟨(some 17), (.dry (.len (.t 16))), none⟩,
 ⟨(some 18), (.dry (.mov (.k (.int .i64 0)))), none⟩])
 (.block 0
 (.loop
 (.seq (.reg [⟨(some 19), (.dry (.bin .lss (.t 18) (.t 17))), none⟩])
 (.seq (.cond (.t 19)
 .skip
 (.exit 0))
 (.seq (.block 1
 (.seq (.reg [⟨(some 20), (.dry (.mov (.t 18))), none⟩,
 ⟨(some 6), (.dry (.mov (.t 20))), none⟩])
 (.seq (.reg [⟨(some 21), (.dry (.mov (.t 5))), none⟩,
 ⟨(some 22), (.dry (.mov (.t 6))), none⟩,
 ⟨(some 23), (.call (.t 21) [(.t 22)]), none⟩])
 (.block 2
 (.loop
 (.seq (.seq (.reg [⟨(some 24), (.wet (.load 1 false (.t 4))), none⟩,
 ⟨(some 25), (.dry (.len (.t 24))), none⟩,
 ⟨(some 26), (.dry (.bin .gtr (.t 25) (.k (.int .i64 0)))), none⟩])
 (.cond (.t 26)
 .skip
 (.exit 2)))
 (.block 3
 (.seq (.reg [⟨(some 27), (.wet (.load 1 false (.t 4))), none⟩,
 ⟨(some 28), (.wet (.load 1 false (.t 4))), none⟩,
 ⟨(some 29), (.dry (.len (.t 28))), none⟩,
 ⟨(some 30), (.dry (.bin .sub (.t 29) (.k (.int .i64 1)))), none⟩,
 ⟨(some 31), (.dry (.iaddr 1 (.t 27) (.t 30))), none⟩,
 ⟨(some 7), (.dry (.mov (.t 31))), none⟩])
 (.seq (.seq (.reg [⟨(some 32), (.dry (.mov (.t 7))), none⟩,
 ⟨(some 33), (.dry (.nilchk (.t 32))), none⟩,
 ⟨(some 34), (.wet (.load 1 false (.t 33))), none⟩,
 ⟨(some 35), (.dry (.len (.t 34))), none⟩,
 ⟨(some 36), (.dry (.eq (.prim .i) false (.t 35) (.k (.int .i64 1)))), none⟩])
 (.cond (.t 36)
 (.seq (.draw [(⟨(some 37), (.wet (.load 1 false (.t 3))), none⟩, 0, false),
 (⟨(some 38), (.dry (.mov (.t 7))), none⟩, 0, false),
 (⟨(some 39), (.dry (.nilchk (.t 38))), none⟩, 2, false),
 (⟨(some 40), (.wet (.load 1 false (.t 39))), none⟩, 6, false),
 (⟨(some 41), (.dry (.iaddr 1 (.t 40) (.k (.int .i64 0)))), none⟩, 14, false),
 (⟨(some 42), (.wet (.load 1 false (.t 41))), none⟩, 30, false),
 (⟨(some 43), (.dry (.iaddr 1 (.t 37) (.t 42))), none⟩, 63, false),
 (⟨none, (.wet (.store 1 (.t 43) (.k (.int .i64 2)))), none⟩, 127, true)])
 (.seq (.reg [⟨(some 44), (.wet (.load 1 false (.t 4))), none⟩,
 ⟨(some 45), (.wet (.load 1 false (.t 4))), none⟩,
 ⟨(some 46), (.dry (.len (.t 45))), none⟩,
 ⟨(some 47), (.dry (.bin .sub (.t 46) (.k (.int .i64 1)))), none⟩,
 ⟨(some 48), (.wet (.slice 1 (.t 44) none (some (.t 47)))), none⟩,
 ⟨none, (.wet (.store 1 (.t 4) (.t 48))), none⟩])
 (.exit 3)))
 .skip))
 (.seq (.reg [⟨(some 49), (.dry (.mov (.t 7))), none⟩,
 ⟨(some 50), (.dry (.nilchk (.t 49))), none⟩,
 ⟨(some 51), (.wet (.load 1 false (.t 50))), none⟩,
 ⟨(some 52), (.dry (.len (.t 51))), none⟩,
 ⟨(some 53), (.dry (.bin .sub (.t 52) (.k (.int .i64 1)))), none⟩,
 ⟨(some 8), (.dry (.mov (.t 53))), none⟩])
 (.seq (.reg [⟨(some 54), (.dry (.mov (.t 7))), none⟩,
 ⟨(some 55), (.dry (.nilchk (.t 54))), none⟩,
 ⟨(some 56), (.wet (.load 1 false (.t 55))), none⟩,
 ⟨(some 57), (.dry (.mov (.t 8))), none⟩,
 ⟨(some 58), (.dry (.iaddr 1 (.t 56) (.t 57))), none⟩,
 ⟨(some 59), (.wet (.load 1 false (.t 58))), none⟩,
 ⟨(some 9), (.dry (.mov (.t 59))), none⟩])
 (.seq (.reg [⟨(some 60), (.dry (.mov (.t 7))), none⟩,
 ⟨(some 61), (.dry (.mov (.t 7))), none⟩,
 ⟨(some 62), (.dry (.nilchk (.t 61))), none⟩,
 ⟨(some 63), (.wet (.load 1 false (.t 62))), none⟩,
 ⟨(some 64), (.dry (.mov (.t 8))), none⟩,
 ⟨(some 65), (.wet (.slice 1 (.t 63) none (some (.t 64)))), none⟩,
 ⟨(some 66), (.dry (.nilchk (.t 60))), none⟩,
 ⟨none, (.wet (.store 1 (.t 66) (.t 65))), none⟩])
 (.seq (.reg [⟨(some 67), (.dry (.mov (.t 5))), none⟩,
 ⟨(some 68), (.dry (.mov (.t 9))), none⟩,
 ⟨(some 69), (.call (.t 67) [(.t 68)]), none⟩])
 (.cond (.t 69)
 (.seq (.reg [⟨(some 2), (.dry (.mov (.k (.bool true)))), none⟩])
 .ret)
 .skip))))))))))))))
 (.reg [⟨(some 70), (.dry (.bin .add (.t 18) (.k (.int .i64 1)))), none⟩,
 ⟨(some 18), (.dry (.mov (.t 70))), none⟩])))))))
 (.seq (.reg [⟨(some 2), (.dry (.mov (.k (.bool false)))), none⟩])
 .ret)))))) }

/-- bellcrank/bellcrankref08.EnvRight -/
def e27 : EFunc := { own := none, res := [(.tmp 2)], ntmps := 50, pure := false, body :=
 (.seq (.reg [⟨(some 1), (.wet (.box 5 (.t 0))), none⟩,
 ⟨(some 2), (.dry (.mov (.k (.bool false)))), none⟩])
 (.seq (.seq (.reg [⟨(some 4), (.dry (.faddr 0 1 false (.t 1))), none⟩,
 ⟨(some 5), (.wet (.load 1 false (.t 4))), none⟩,
 ⟨(some 6), (.dry (.len (.t 5))), none⟩,
 ⟨(some 7), (.dry (.bin .gtr (.t 6) (.k (.int .i64 64)))), none⟩,
 ⟨(some 8), (.dry (.mov (.t 7))), none⟩,
 ⟨(some 9), (.dry (.faddr 1 1 false (.t 1))), (some (8, false))⟩,
 ⟨(some 10), (.wet (.load 1 false (.t 9))), (some (8, false))⟩,
 ⟨(some 11), (.dry (.bin .lss (.t 10) (.k (.int .i64 0)))), (some (8, false))⟩,
 ⟨(some 12), (.dry (.pick (.t 8) (.k (.bool true)) (.t 11))), none⟩,
 ⟨(some 13), (.dry (.mov (.t 12))), none⟩,
 ⟨(some 14), (.dry (.faddr 1 1 false (.t 1))), (some (13, false))⟩,
 ⟨(some 15), (.wet (.load 1 false (.t 14))), (some (13, false))⟩,
 ⟨(some 16), (.dry (.faddr 0 1 false (.t 1))), (some (13, false))⟩,
 ⟨(some 17), (.wet (.load 1 false (.t 16))), (some (13, false))⟩,
 ⟨(some 18), (.dry (.len (.t 17))), (some (13, false))⟩,
 ⟨(some 19), (.dry (.bin .gtr (.t 15) (.t 18))), (some (13, false))⟩,
 ⟨(some 20), (.dry (.pick (.t 13) (.k (.bool true)) (.t 19))), none⟩,
 ⟨(some 21), (.dry (.mov (.t 20))), none⟩,
 ⟨(some 22), (.dry (.faddr 2 1 false (.t 1))), (some (21, false))⟩,
 ⟨(some 23), (.wet (.load 1 false (.t 22))), (some (21, false))⟩,
 ⟨(some 24), (.call (.k (.fn 58 [] [])) [(.t 23), (.k (.int .i64 32))]), (some (21, false))⟩,
 ⟨(some 25), (.dry (.not (.t 24))), (some (21, false))⟩,
 ⟨(some 26), (.dry (.pick (.t 21) (.k (.bool true)) (.t 25))), none⟩,
 ⟨(some 27), (.dry (.mov (.t 26))), none⟩,
 ⟨(some 28), (.dry (.faddr 3 1 false (.t 1))), (some (27, false))⟩,
 ⟨(some 29), (.wet (.load 1 false (.t 28))), (some (27, false))⟩,
 ⟨(some 30), (.dry (.len (.t 29))), (some (27, false))⟩,
 ⟨(some 31), (.dry (.faddr 2 1 false (.t 1))), (some (27, false))⟩,
 ⟨(some 32), (.wet (.load 1 false (.t 31))), (some (27, false))⟩,
 ⟨(some 33), (.dry (.len (.t 32))), (some (27, false))⟩,
 ⟨(some 34), (.dry (.eq (.prim .i) true (.t 30) (.t 33))), (some (27, false))⟩,
 ⟨(some 35), (.dry (.pick (.t 27) (.k (.bool true)) (.t 34))), none⟩])
 (.cond (.t 35)
 (.seq (.reg [⟨(some 2), (.dry (.mov (.k (.bool false)))), none⟩])
 .ret)
 .skip))
 (.seq (.seq (.reg [⟨(some 3), (.dry (.mov (.k (.int .i64 0)))), none⟩])
 (.block 0
 (.loop
 (.seq (.seq (.reg [⟨(some 36), (.dry (.mov (.t 3))), none⟩,
 ⟨(some 37), (.dry (.faddr 0 1 false (.t 1))), none⟩,
 ⟨(some 38), (.wet (.load 1 false (.t 37))), none⟩,
 ⟨(some 39), (.dry (.len (.t 38))), none⟩,
 ⟨(some 40), (.dry (.bin .lss (.t 36) (.t 39))), none⟩])
 (.cond (.t 40)
 .skip
 (.exit 0)))
 (.seq (.block 1
 (.seq (.reg [⟨(some 43), (.dry (.faddr 0 1 false (.t 1))), none⟩,
 ⟨(some 44), (.wet (.load 1 false (.t 43))), none⟩,
 ⟨(some 45), (.dry (.mov (.t 3))), none⟩,
 ⟨(some 46), (.dry (.iaddr 2 (.t 44) (.t 45))), none⟩,
 ⟨(some 47), (.wet (.load 2 true (.t 46))), none⟩,
 ⟨(some 48), (.call (.k (.fn 59 [] [])) [(.t 47)]), none⟩,
 ⟨(some 49), (.dry (.not (.t 48))), none⟩])
 (.cond (.t 49)
 (.seq (.reg [⟨(some 2), (.dry (.mov (.k (.bool false)))), none⟩])
 .ret)
 .skip)))
 (.reg [⟨(some 41), (.dry (.mov (.t 3))), none⟩,
 ⟨(some 42), (.dry (.bin .add (.t 41) (.k (.int .i64 1)))), none⟩,
 ⟨(some 3), (.dry (.mov (.t 42))), none⟩]))))))
 (.seq (.reg [⟨(some 2), (.dry (.mov (.k (.bool true)))), none⟩])
 .ret)))) }

/-- bellcrank/bellcrankref18.places -/
def e28 : EFunc := { own := none, res := [(.tmp 6)], ntmps := 45, pure := false, body :=
 (.seq (.reg [⟨(some 6), (.dry (.mov (.k (.bool false)))), none⟩])
 (.seq (.seq (.reg [⟨(some 7), (.dry (.mov (.k (.int .i64 0)))), none⟩])
 (.block 0
 (.loop
 (.seq (.seq (.reg [⟨(some 9), (.dry (.mov (.t 7))), none⟩,
 ⟨(some 10), (.dry (.mov (.t 0))), none⟩,
 ⟨(some 11), (.dry (.len (.t 10))), none⟩,
 ⟨(some 12), (.dry (.bin .lss (.t 9) (.t 11))), none⟩])
 (.cond (.t 12)
 .skip
 (.exit 0)))
 (.seq (.block 1
 (.seq (.seq (.reg [⟨(some 15), (.dry (.mov (.t 0))), none⟩,
 ⟨(some 16), (.dry (.mov (.t 7))), none⟩,
 ⟨(some 17), (.dry (.iaddr 1 (.t 15) (.t 16))), none⟩,
 ⟨(some 18), (.wet (.load 1 false (.t 17))), none⟩,
 ⟨(some 19), (.dry (.bin .lss (.t 18) (.k (.int .i64 0)))), none⟩,
 ⟨(some 20), (.dry (.mov (.t 19))), none⟩,
 ⟨(some 21), (.dry (.mov (.t 0))), (some (20, false))⟩,
 ⟨(some 22), (.dry (.mov (.t 7))), (some (20, false))⟩,
 ⟨(some 23), (.dry (.iaddr 1 (.t 21) (.t 22))), (some (20, false))⟩,
 ⟨(some 24), (.wet (.load 1 false (.t 23))), (some (20, false))⟩,
 ⟨(some 25), (.dry (.mov (.t 1))), (some (20, false))⟩,
 ⟨(some 26), (.dry (.bin .geq (.t 24) (.t 25))), (some (20, false))⟩,
 ⟨(some 27), (.dry (.pick (.t 20) (.k (.bool true)) (.t 26))), none⟩])
 (.cond (.t 27)
 (.seq (.reg [⟨(some 6), (.dry (.mov (.k (.bool false)))), none⟩])
 .ret)
 .skip))
 (.seq (.reg [⟨(some 8), (.dry (.mov (.k (.int .i64 0)))), none⟩])
 (.block 2
 (.loop
 (.seq (.seq (.reg [⟨(some 28), (.dry (.mov (.t 8))), none⟩,
 ⟨(some 29), (.dry (.mov (.t 7))), none⟩,
 ⟨(some 30), (.dry (.bin .lss (.t 28) (.t 29))), none⟩,
 ⟨(some 31), (.dry (.mov (.t 30))), none⟩,
 ⟨(some 32), (.dry (.mov (.t 2))), (some (31, true))⟩,
 ⟨(some 33), (.dry (.pick (.t 31) (.t 32) (.k (.bool false)))), none⟩])
 (.cond (.t 33)
 .skip
 (.exit 2)))
 (.seq (.block 3
 (.seq (.draw [(⟨(some 36), (.dry (.mov (.t 0))), none⟩, 0, false),
 (⟨(some 37), (.dry (.mov (.t 8))), none⟩, 0, false),
 (⟨(some 38), (.dry (.iaddr 1 (.t 36) (.t 37))), none⟩, 3, false),
 (⟨(some 39), (.wet (.load 1 false (.t 38))), none⟩, 7, false),
 (⟨(some 40), (.dry (.mov (.t 0))), none⟩, 0, false),
 (⟨(some 41), (.dry (.mov (.t 7))), none⟩, 0, false),
 (⟨(some 42), (.dry (.iaddr 1 (.t 40) (.t 41))), none⟩, 48, false),
 (⟨(some 43), (.wet (.load 1 false (.t 42))), none⟩, 112, false),
 (⟨(some 44), (.dry (.eq (.prim .i) false (.t 39) (.t 43))), none⟩, 255, false)])
 (.cond (.t 44)
 (.seq (.reg [⟨(some 6), (.dry (.mov (.k (.bool false)))), none⟩])
 .ret)
 .skip)))
 (.reg [⟨(some 34), (.dry (.mov (.t 8))), none⟩,
 ⟨(some 35), (.dry (.bin .add (.t 34) (.k (.int .i64 1)))), none⟩,
 ⟨(some 8), (.dry (.mov (.t 35))), none⟩]))))))))
 (.reg [⟨(some 13), (.dry (.mov (.t 7))), none⟩,
 ⟨(some 14), (.dry (.bin .add (.t 13) (.k (.int .i64 1)))), none⟩,
 ⟨(some 7), (.dry (.mov (.t 14))), none⟩]))))))
 (.seq (.reg [⟨(some 6), (.dry (.mov (.k (.bool true)))), none⟩])
 .ret))) }

/-- bellcrank/bellcrankref18.code -/
def e29 : EFunc := { own := none, res := [(.tmp 6)], ntmps := 103, pure := false, body :=
 (.seq (.reg [⟨(some 3), (.wet (.box 5 (.t 0))), none⟩,
 ⟨(some 4), (.wet (.box 5 (.t 1))), none⟩,
 ⟨(some 6), (.dry (.mov (.k (.bool false)))), none⟩])
 (.seq (.reg [⟨(some 11), (.dry (.faddr 4 1 false (.t 4))), none⟩,
 ⟨(some 12), (.wet (.load 1 false (.t 11))), none⟩,
 ⟨(some 13), (.dry (.mov (.t 2))), none⟩,
 ⟨(some 14), (.dry (.iaddr 5 (.t 12) (.t 13))), none⟩,
 ⟨(some 15), (.wet (.load 5 true (.t 14))), none⟩,
 ⟨(some 7), (.wet (.alloc 129 5 [(.int .i64 0), (.int .u64 0), .nils, .nils, .nils])), none⟩,
 ⟨none, (.wet (.store 5 (.t 7) (.t 15))), none⟩])
 (.seq (.seq (.reg [⟨(some 16), (.dry (.faddr 2 1 false (.t 7))), none⟩,
 ⟨(some 17), (.wet (.load 1 false (.t 16))), none⟩,
 ⟨(some 18), (.dry (.len (.t 17))), none⟩,
 ⟨(some 19), (.dry (.bin .gtr (.t 18) (.k (.int .i64 8)))), none⟩,
 ⟨(some 20), (.dry (.mov (.t 19))), none⟩,
 ⟨(some 21), (.dry (.faddr 3 1 false (.t 7))), (some (20, false))⟩,
 ⟨(some 22), (.wet (.load 1 false (.t 21))), (some (20, false))⟩,
 ⟨(some 23), (.dry (.len (.t 22))), (some (20, false))⟩,
 ⟨(some 24), (.dry (.bin .gtr (.t 23) (.k (.int .i64 8)))), (some (20, false))⟩,
 ⟨(some 25), (.dry (.pick (.t 20) (.k (.bool true)) (.t 24))), none⟩,
 ⟨(some 26), (.dry (.mov (.t 25))), none⟩,
 ⟨(some 27), (.dry (.faddr 4 1 false (.t 7))), (some (26, false))⟩,
 ⟨(some 28), (.wet (.load 1 false (.t 27))), (some (26, false))⟩,
 ⟨(some 29), (.dry (.len (.t 28))), (some (26, false))⟩,
 ⟨(some 30), (.dry (.bin .gtr (.t 29) (.k (.int .i64 65)))), (some (26, false))⟩,
 ⟨(some 31), (.dry (.pick (.t 26) (.k (.bool true)) (.t 30))), none⟩])
 (.cond (.t 31)
 (.seq (.reg [⟨(some 6), (.dry (.mov (.k (.bool false)))), none⟩])
 .ret)
 .skip))
 (.seq (.reg [⟨(some 33), (.wet (.load 5 true (.t 3))), none⟩,
 ⟨(some 34), (.dry (.faddr 0 2 true (.t 4))), none⟩,
 ⟨(some 35), (.wet (.load 2 true (.t 34))), none⟩,
 ⟨(some 36), (.wet (.load 5 true (.t 7))), none⟩,
 ⟨(some 37), (.call (.k (.fn 60 [] [])) [(.t 33), (.t 35), (.t 36)]), none⟩,
 ⟨(some 32), (.dry (.mov (.t 37))), none⟩,
 ⟨(some 38), (.dry (.extract (.t 32) 0)), none⟩,
 ⟨(some 39), (.dry (.extract (.t 32) 1)), none⟩,
 ⟨(some 40), (.dry (.extract (.t 32) 2)), none⟩,
 ⟨(some 8), (.dry (.mov (.t 38))), none⟩,
 ⟨(some 9), (.dry (.mov (.t 39))), none⟩,
 ⟨(some 10), (.dry (.mov (.t 40))), none⟩])
 (.seq (.seq (.reg [⟨(some 41), (.dry (.mov (.t 10))), none⟩,
 ⟨(some 42), (.dry (.not (.t 41))), none⟩,
 ⟨(some 43), (.dry (.mov (.t 42))), none⟩,
 ⟨(some 44), (.dry (.mov (.t 8))), (some (43, false))⟩,
 ⟨(some 45), (.dry (.len (.t 44))), (some (43, false))⟩,
 ⟨(some 46), (.dry (.faddr 2 1 false (.t 7))), (some (43, false))⟩,
 ⟨(some 47), (.wet (.load 1 false (.t 46))), (some (43, false))⟩,
 ⟨(some 48), (.dry (.len (.t 47))), (some (43, false))⟩,
 ⟨(some 49), (.dry (.eq (.prim .i) true (.t 45) (.t 48))), (some (43, false))⟩,
 ⟨(some 50), (.dry (.pick (.t 43) (.k (.bool true)) (.t 49))), none⟩,
 ⟨(some 51), (.dry (.mov (.t 50))), none⟩,
 ⟨(some 52), (.dry (.mov (.t 9))), (some (51, false))⟩,
 ⟨(some 53), (.dry (.len (.t 52))), (some (51, false))⟩,
 ⟨(some 54), (.dry (.faddr 3 1 false (.t 7))), (some (51, false))⟩,
 ⟨(some 55), (.wet (.load 1 false (.t 54))), (some (51, false))⟩,
 ⟨(some 56), (.dry (.len (.t 55))), (some (51, false))⟩,
 ⟨(some 57), (.dry (.eq (.prim .i) true (.t 53) (.t 56))), (some (51, false))⟩,
 ⟨(some 58), (.dry (.pick (.t 51) (.k (.bool true)) (.t 57))), none⟩,
 ⟨(some 59), (.dry (.mov (.t 58))), none⟩,
 ⟨(some 60), (.dry (.faddr 2 1 false (.t 7))), (some (59, false))⟩,
 ⟨(some 61), (.wet (.load 1 false (.t 60))), (some (59, false))⟩,
 ⟨(some 62), (.dry (.faddr 2 1 false (.t 4))), (some (59, false))⟩,
 ⟨(some 63), (.wet (.load 1 false (.t 62))), (some (59, false))⟩,
 ⟨(some 64), (.call (.k (.fn 28 [] [])) [(.t 61), (.t 63), (.k (.bool false))]), (some (59, false))⟩,
 ⟨(some 65), (.dry (.not (.t 64))), (some (59, false))⟩,
 ⟨(some 66), (.dry (.pick (.t 59) (.k (.bool true)) (.t 65))), none⟩,
 ⟨(some 67), (.dry (.mov (.t 66))), none⟩,
 ⟨(some 68), (.dry (.faddr 3 1 false (.t 7))), (some (67, false))⟩,
 ⟨(some 69), (.wet (.load 1 false (.t 68))), (some (67, false))⟩,
 ⟨(some 70), (.dry (.faddr 2 1 false (.t 4))), (some (67, false))⟩,
 ⟨(some 71), (.wet (.load 1 false (.t 70))), (some (67, false))⟩,
 ⟨(some 72), (.call (.k (.fn 28 [] [])) [(.t 69), (.t 71), (.k (.bool true))]), (some (67, false))⟩,
 ⟨(some 73), (.dry (.not (.t 72))), (some (67, false))⟩,
 ⟨(some 74), (.dry (.pick (.t 67) (.k (.bool true)) (.t 73))), none⟩,
 ⟨(some 75), (.dry (.mov (.t 74))), none⟩,
 ⟨(some 76), (.dry (.faddr 4 1 false (.t 7))), (some (75, false))⟩,
 ⟨(some 77), (.wet (.load 1 false (.t 76))), (some (75, false))⟩,
 ⟨(some 78), (.dry (.faddr 4 1 false (.t 4))), (some (75, false))⟩,
 ⟨(some 79), (.wet (.load 1 false (.t 78))), (some (75, false))⟩,
 ⟨(some 80), (.dry (.len (.t 79))), (some (75, false))⟩,
 ⟨(some 81), (.call (.k (.fn 28 [] [])) [(.t 77), (.t 80), (.k (.bool false))]), (some (75, false))⟩,
 ⟨(some 82), (.dry (.not (.t 81))), (some (75, false))⟩,
 ⟨(some 83), (.dry (.pick (.t 75) (.k (.bool true)) (.t 82))), none⟩])
 (.cond (.t 83)
 (.seq (.reg [⟨(some 6), (.dry (.mov (.k (.bool false)))), none⟩])
 .ret)
 .skip))
 (.seq (.seq (.reg [⟨(some 84), (.dry (.faddr 0 1 false (.t 7))), none⟩,
 ⟨(some 85), (.wet (.load 1 false (.t 84))), none⟩])
 (.block 0
 (.seq (.seq (.reg [⟨(some 87), (.dry (.eq (.prim .i) false (.t 85) (.k (.int .i64 273)))), none⟩,
 ⟨(some 86), (.dry (.mov (.t 87))), none⟩])
 (.cond (.t 86)
 .skip
 (.reg [⟨(some 88), (.dry (.eq (.prim .i) false (.t 85) (.k (.int .i64 274)))), none⟩,
 ⟨(some 86), (.dry (.mov (.t 88))), none⟩])))
 (.cond (.t 86)
 (.seq (.reg [⟨(some 89), (.dry (.faddr 4 1 false (.t 7))), none⟩,
 ⟨(some 90), (.wet (.load 1 false (.t 89))), none⟩,
 ⟨(some 91), (.dry (.len (.t 90))), none⟩,
 ⟨(some 92), (.dry (.eq (.prim .i) false (.t 91) (.k (.int .i64 1)))), none⟩,
 ⟨(some 6), (.dry (.mov (.t 92))), none⟩])
 .ret)
 (.seq (.reg [⟨(some 94), (.dry (.eq (.prim .i) false (.t 85) (.k (.int .i64 275)))), none⟩,
 ⟨(some 93), (.dry (.mov (.t 94))), none⟩])
 (.cond (.t 93)
 (.seq (.reg [⟨(some 95), (.dry (.faddr 4 1 false (.t 7))), none⟩,
 ⟨(some 96), (.wet (.load 1 false (.t 95))), none⟩,
 ⟨(some 97), (.dry (.len (.t 96))), none⟩,
 ⟨(some 98), (.dry (.bin .geq (.t 97) (.k (.int .i64 1)))), none⟩,
 ⟨(some 6), (.dry (.mov (.t 98))), none⟩])
 .ret)
 .skip))))))
 (.seq (.reg [⟨(some 99), (.dry (.faddr 4 1 false (.t 7))), none⟩,
 ⟨(some 100), (.wet (.load 1 false (.t 99))), none⟩,
 ⟨(some 101), (.dry (.len (.t 100))), none⟩,
 ⟨(some 102), (.dry (.eq (.prim .i) false (.t 101) (.k (.int .i64 0)))), none⟩,
 ⟨(some 6), (.dry (.mov (.t 102))), none⟩])
 .ret))))))) }

/-- bellcrank/bellcrankref18.Goes -/
def e30 : EFunc := { own := none, res := [(.tmp 2)], ntmps := 9, pure := false, body :=
 (.seq (.reg [⟨(some 2), (.dry (.mov (.k (.bool false)))), none⟩])
 (.seq (.reg [⟨(some 3), (.dry (.mov (.t 0))), none⟩,
 ⟨(some 4), (.dry (.bin .geq (.t 3) (.k (.int .i64 273)))), none⟩,
 ⟨(some 5), (.dry (.mov (.t 4))), none⟩,
 ⟨(some 6), (.dry (.mov (.t 0))), (some (5, true))⟩,
 ⟨(some 7), (.dry (.bin .leq (.t 6) (.k (.int .i64 277)))), (some (5, true))⟩,
 ⟨(some 8), (.dry (.pick (.t 5) (.t 7) (.k (.bool false)))), none⟩,
 ⟨(some 2), (.dry (.mov (.t 8))), none⟩])
 .ret)) }

/-- bellcrank/bellcrankref18.circles -/
def e31 : EFunc := { own := none, res := [(.tmp 2)], ntmps := 73, pure := false, body :=
 (.seq (.reg [⟨(some 1), (.wet (.box 5 (.t 0))), none⟩,
 ⟨(some 2), (.dry (.mov (.k (.bool false)))), none⟩])
 (.seq (.reg [⟨(some 10), (.dry (.faddr 4 1 false (.t 1))), none⟩,
 ⟨(some 11), (.wet (.load 1 false (.t 10))), none⟩,
 ⟨(some 12), (.dry (.len (.t 11))), none⟩,
 ⟨(some 13), (.wet (.mksl 1 1 [(.bool false)] (.t 12) (.t 12))), none⟩,
 ⟨(some 3), (.dry (.mov (.t 13))), none⟩])
 (.seq (.seq (.reg [⟨(some 4), (.dry (.mov (.k (.bool true)))), none⟩])
 (.block 0
 (.loop
 (.seq (.seq (.reg [⟨(some 14), (.dry (.mov (.t 4))), none⟩])
 (.cond (.t 14)
 .skip
 (.exit 0)))
 (.block 1
 (.seq (.reg [⟨(some 4), (.dry (.mov (.k (.bool false)))), none⟩])
 (.seq (.reg [⟨(some 15), (.dry (.faddr 4 1 false (.t 1))), none⟩,
 ⟨(some 16), (.wet (.load 1 false (.t 15))), none⟩,
 ⟨(some 17), (.dry (.len (.t 16))), none⟩,
 ⟨(some 18), (.dry (.bin .sub (.t 17) (.k (.int .i64 1)))), none⟩,
 ⟨(some 5), (.dry (.mov (.t 18))), none⟩])
 (.block 2
 (.loop
 (.seq (.seq (.reg [⟨(some 19), (.dry (.mov (.t 5))), none⟩,
 ⟨(some 20), (.dry (.bin .geq (.t 19) (.k (.int .i64 0)))), none⟩])
 (.cond (.t 20)
 .skip
 (.exit 2)))
 (.seq (.block 3
 (.seq (.reg [⟨(some 6), (.dry (.mov (.k (.bool false)))), none⟩])
 (.seq (.seq (.reg [⟨(some 23), (.dry (.faddr 4 1 false (.t 1))), none⟩,
 ⟨(some 24), (.wet (.load 1 false (.t 23))), none⟩,
 ⟨(some 25), (.dry (.mov (.t 5))), none⟩,
 ⟨(some 26), (.dry (.iaddr 5 (.t 24) (.t 25))), none⟩,
 ⟨(some 27), (.dry (.faddr 0 1 false (.t 26))), none⟩,
 ⟨(some 28), (.wet (.load 1 false (.t 27))), none⟩,
 ⟨(some 29), (.dry (.eq (.prim .i) true (.t 28) (.k (.int .i64 258)))), none⟩])
 (.cond (.t 29)
 (.seq (.reg [⟨(some 30), (.wet (.load 5 true (.t 1))), none⟩,
 ⟨(some 31), (.dry (.mov (.t 5))), none⟩,
 ⟨(some 32), (.call (.k (.fn 61 [] [])) [(.t 30), (.t 31)]), none⟩,
 ⟨(some 7), (.dry (.mov (.t 32))), none⟩])
 (.seq (.reg [⟨(some 8), (.dry (.mov (.k (.int .i64 0)))), none⟩])
 (.block 4
 (.loop
 (.seq (.seq (.reg [⟨(some 33), (.dry (.mov (.t 8))), none⟩,
 ⟨(some 34), (.dry (.mov (.t 7))), none⟩,
 ⟨(some 35), (.dry (.len (.t 34))), none⟩,
 ⟨(some 36), (.dry (.bin .lss (.t 33) (.t 35))), none⟩])
 (.cond (.t 36)
 .skip
 (.exit 4)))
 (.seq (.block 5
 (.reg [⟨(some 39), (.dry (.mov (.t 6))), none⟩,
 ⟨(some 40), (.dry (.mov (.t 39))), none⟩,
 ⟨(some 41), (.dry (.mov (.t 3))), (some (40, false))⟩,
 ⟨(some 42), (.dry (.mov (.t 7))), (some (40, false))⟩,
 ⟨(some 43), (.dry (.mov (.t 8))), (some (40, false))⟩,
 ⟨(some 44), (.dry (.iaddr 1 (.t 42) (.t 43))), (some (40, false))⟩,
 ⟨(some 45), (.wet (.load 1 false (.t 44))), (some (40, false))⟩,
 ⟨(some 46), (.dry (.iaddr 1 (.t 41) (.t 45))), (some (40, false))⟩,
 ⟨(some 47), (.wet (.load 1 false (.t 46))), (some (40, false))⟩,
 ⟨(some 48), (.dry (.not (.t 47))), (some (40, false))⟩,
 ⟨(some 49), (.dry (.pick (.t 40) (.k (.bool true)) (.t 48))), none⟩,
 ⟨(some 6), (.dry (.mov (.t 49))), none⟩]))
 (.reg [⟨(some 37), (.dry (.mov (.t 8))), none⟩,
 ⟨(some 38), (.dry (.bin .add (.t 37) (.k (.int .i64 1)))), none⟩,
 ⟨(some 8), (.dry (.mov (.t 38))), none⟩])))))))
 .skip))
 (.seq (.reg [⟨(some 50), (.dry (.mov (.t 6))), none⟩,
 ⟨(some 51), (.dry (.not (.t 50))), none⟩,
 ⟨(some 52), (.dry (.mov (.t 51))), none⟩,
 ⟨(some 53), (.dry (.mov (.t 3))), (some (52, true))⟩,
 ⟨(some 54), (.dry (.mov (.t 5))), (some (52, true))⟩,
 ⟨(some 55), (.dry (.iaddr 1 (.t 53) (.t 54))), (some (52, true))⟩,
 ⟨(some 56), (.wet (.load 1 false (.t 55))), (some (52, true))⟩,
 ⟨(some 57), (.dry (.not (.t 56))), (some (52, true))⟩,
 ⟨(some 58), (.dry (.pick (.t 52) (.t 57) (.k (.bool false)))), none⟩])
 (.cond (.t 58)
 (.reg [⟨(some 59), (.dry (.mov (.t 3))), none⟩,
 ⟨(some 60), (.dry (.mov (.t 5))), none⟩,
 ⟨(some 61), (.dry (.iaddr 1 (.t 59) (.t 60))), none⟩,
 ⟨none, (.wet (.store 1 (.t 61) (.k (.bool true)))), none⟩,
 ⟨(some 4), (.dry (.mov (.k (.bool true)))), none⟩])
 .skip)))))
 (.reg [⟨(some 21), (.dry (.mov (.t 5))), none⟩,
 ⟨(some 22), (.dry (.bin .sub (.t 21) (.k (.int .i64 1)))), none⟩,
 ⟨(some 5), (.dry (.mov (.t 22))), none⟩]))))))))))))
 (.seq (.seq (.reg [⟨(some 9), (.dry (.mov (.k (.int .i64 0)))), none⟩])
 (.block 6
 (.loop
 (.seq (.seq (.reg [⟨(some 62), (.dry (.mov (.t 9))), none⟩,
 ⟨(some 63), (.dry (.mov (.t 3))), none⟩,
 ⟨(some 64), (.dry (.len (.t 63))), none⟩,
 ⟨(some 65), (.dry (.bin .lss (.t 62) (.t 64))), none⟩])
 (.cond (.t 65)
 .skip
 (.exit 6)))
 (.seq (.block 7
 (.seq (.reg [⟨(some 68), (.dry (.mov (.t 3))), none⟩,
 ⟨(some 69), (.dry (.mov (.t 9))), none⟩,
 ⟨(some 70), (.dry (.iaddr 1 (.t 68) (.t 69))), none⟩,
 ⟨(some 71), (.wet (.load 1 false (.t 70))), none⟩,
 ⟨(some 72), (.dry (.not (.t 71))), none⟩])
 (.cond (.t 72)
 (.seq (.reg [⟨(some 2), (.dry (.mov (.k (.bool true)))), none⟩])
 .ret)
 .skip)))
 (.reg [⟨(some 66), (.dry (.mov (.t 9))), none⟩,
 ⟨(some 67), (.dry (.bin .add (.t 66) (.k (.int .i64 1)))), none⟩,
 ⟨(some 9), (.dry (.mov (.t 67))), none⟩]))))))
 (.seq (.reg [⟨(some 2), (.dry (.mov (.k (.bool false)))), none⟩])
 .ret))))) }

/-- slices.Equal[[]int,int] -/
def e32 : EFunc := { own := none, res := [(.tmp 4)], ntmps := 26, pure := false, body :=
 (.seq (.reg [⟨(some 4), (.dry (.mov (.k (.bool false)))), none⟩])
 (.seq (.seq (.reg [⟨(some 6), (.dry (.mov (.t 0))), none⟩,
 ⟨(some 7), (.dry (.len (.t 6))), none⟩,
 ⟨(some 8), (.dry (.mov (.t 1))), none⟩,
 ⟨(some 9), (.dry (.len (.t 8))), none⟩,
 ⟨(some 10), (.dry (.eq (.prim .i) true (.t 7) (.t 9))), none⟩])
 (.cond (.t 10)
 (.seq (.reg [⟨(some 4), (.dry (.mov (.k (.bool false)))), none⟩])
 .ret)
 .skip))
 (.seq (.seq (.reg [⟨(some 11), (.dry (.mov (.t 0))), none⟩,
 ⟨(some 12), (.dry (.len (.t 11))), none⟩,
 ⟨(some 13), (.dry (.mov (.k (.int .i64 0)))), none⟩])
 (.block 0
 (.loop
 (.seq (.reg [⟨(some 14), (.dry (.bin .lss (.t 13) (.t 12))), none⟩])
 (.seq (.cond (.t 14)
 .skip
 (.exit 0))
 (.seq (.block 1
 (.seq (.reg [⟨(some 15), (.dry (.mov (.t 13))), none⟩,
 ⟨(some 5), (.dry (.mov (.t 15))), none⟩])
 (.seq (.draw [(⟨(some 16), (.dry (.mov (.t 0))), none⟩, 0, false),
 (⟨(some 17), (.dry (.mov (.t 5))), none⟩, 0, false),
 (⟨(some 18), (.dry (.iaddr 1 (.t 16) (.t 17))), none⟩, 3, false),
 (⟨(some 19), (.wet (.load 1 false (.t 18))), none⟩, 7, false),
 (⟨(some 20), (.dry (.mov (.t 1))), none⟩, 0, false),
 (⟨(some 21), (.dry (.mov (.t 5))), none⟩, 0, false),
 (⟨(some 22), (.dry (.iaddr 1 (.t 20) (.t 21))), none⟩, 48, false),
 (⟨(some 23), (.wet (.load 1 false (.t 22))), none⟩, 112, false),
 (⟨(some 24), (.dry (.eq (.prim .i) true (.t 19) (.t 23))), none⟩, 255, false)])
 (.cond (.t 24)
 (.seq (.reg [⟨(some 4), (.dry (.mov (.k (.bool false)))), none⟩])
 .ret)
 .skip))))
 (.reg [⟨(some 25), (.dry (.bin .add (.t 13) (.k (.int .i64 1)))), none⟩,
 ⟨(some 13), (.dry (.mov (.t 25))), none⟩])))))))
 (.seq (.reg [⟨(some 4), (.dry (.mov (.k (.bool true)))), none⟩])
 .ret)))) }

/-- bellcrank/bellcrankref04.SameSig -/
def e33 : EFunc := { own := none, res := [(.tmp 4)], ntmps := 17, pure := false, body :=
 (.seq (.reg [⟨(some 2), (.wet (.box 2 (.t 0))), none⟩,
 ⟨(some 3), (.wet (.box 2 (.t 1))), none⟩,
 ⟨(some 4), (.dry (.mov (.k (.bool false)))), none⟩])
 (.seq (.reg [⟨(some 5), (.dry (.faddr 0 1 false (.t 2))), none⟩,
 ⟨(some 6), (.wet (.load 1 false (.t 5))), none⟩,
 ⟨(some 7), (.dry (.faddr 0 1 false (.t 3))), none⟩,
 ⟨(some 8), (.wet (.load 1 false (.t 7))), none⟩,
 ⟨(some 9), (.call (.k (.fn 62 [] [])) [(.t 6), (.t 8)]), none⟩,
 ⟨(some 10), (.dry (.mov (.t 9))), none⟩,
 ⟨(some 11), (.dry (.faddr 1 1 false (.t 2))), (some (10, true))⟩,
 ⟨(some 12), (.wet (.load 1 false (.t 11))), (some (10, true))⟩,
 ⟨(some 13), (.dry (.faddr 1 1 false (.t 3))), (some (10, true))⟩,
 ⟨(some 14), (.wet (.load 1 false (.t 13))), (some (10, true))⟩,
 ⟨(some 15), (.call (.k (.fn 62 [] [])) [(.t 12), (.t 14)]), (some (10, true))⟩,
 ⟨(some 16), (.dry (.pick (.t 10) (.t 15) (.k (.bool false)))), none⟩,
 ⟨(some 4), (.dry (.mov (.t 16))), none⟩])
 .ret)) }

/-- bellcrank/bellcranklaw18.small -/
def e34 : EFunc := { own := none, res := [(.cell 0 6 true)], ntmps := 20, pure := false, body :=
 (.seq (.reg [wt 0 (.alloc 111 6 [.nils, (ig 0), .nils, .nils, (.bool false), .nils])])
 (.seq (.reg [wt 2 (.bsl 1 1 [(ig 0)] [(0, (ki 127))]),
 dr 3 (.build [.nils, .nils] [(1, 1, (.t 2))]),
 wt 1 (.alloc 65 2 [.nils, .nils]),
 wn (.store 2 (.t 1) (.t 3))])
 (.seq (.reg [wt 4 (.load 2 true (.t 1)),
 wt 5 (.bsl 2 1 [.nils, .nils] [(0, (.t 4))]),
 dr 6 (.build [.nils, (ig 0), .nils, .nils, (.bool false)] [(0, 1, (.t 5))]),
 wt 7 (.load 2 true (.t 1)),
 wt 8 (.bsl 1 1 [(ig 0)] [(0, (ki 127))]),
 dr 9 (.build [(ig 0), (.int .u64 0), .nils, .nils] [(0, 1, (ki 258))]),
 wt 10 (.bsl 1 1 [(ig 0)] [(0, (ki 0))]),
 dr 11 (.build [(ig 0), (.int .u64 0), .nils, .nils] [(0, 1, (ki 256)), (1, 1, (.k (.int .u64 5))), (3, 1, (.t 10))]),
 wt 12 (.bsl 4 2 [(ig 0), (.int .u64 0), .nils, .nils, (ig 0), (.int .u64 0), .nils, .nils] [(0, (.t 9)), (4, (.t 11))]),
 wt 13 (.bsl 1 1 [(ig 0)] [(0, (ki 0))]),
 dr 14 (.build [(ig 0), (ig 0), .nils, .nils] [(0, 1, (ki 4)), (3, 1, (.t 13))]),
 dr 15 (.build [.nils, .nils, (ig 0), (ig 0), .nils, .nils] [(1, 1, (.t 12)), (2, 4, (.t 14))]),
 wt 16 (.bsl 6 1 [.nils, .nils, (ig 0), (ig 0), .nils, .nils] [(0, (.t 15))]),
 dr 17 (.build [.nils, .nils, .nils, .nils] [(0, 2, (.t 7)), (2, 1, (.t 8)), (3, 1, (.t 16))]),
 wt 18 (.bsl 4 1 [.nils, .nils, .nils, .nils] [(0, (.t 17))]),
 dr 19 (.build [.nils, (ig 0), .nils, .nils, (.bool false), .nils] [(0, 5, (.t 6)), (5, 1, (.t 18))]),
 wn (.store 6 (.t 0) (.t 19))])
 .ret))) }

/-- slices.Clone[[]byte,byte] -/
def e35 : EFunc := { own := none, res := [(.tmp 2)], ntmps := 8, pure := false, body :=
 (.seq (.reg [dr 2 (.mov (.k .nils))])
 (.seq (.seq (.reg [mv 3 0,
 dr 4 (.eq (.ref .s) false (.t 3) (.k .nils))])
 (.cond (.t 4)
 (.seq (.reg [dr 2 (.mov (.k .nils))])
 .ret)
 .skip))
 (.seq (.reg [wt 5 (.bsl 1 0 [] []),
 mv 6 0,
 wt 7 (.append 12 1 1 (.t 5) (.t 6)),
 mv 2 7])
 .ret))) }

/-- slices.Clone[[]uint64,uint64] -/
def e36 : EFunc := { own := none, res := [(.tmp 2)], ntmps := 8, pure := false, body :=
 (.seq (.reg [dr 2 (.mov (.k .nils))])
 (.seq (.seq (.reg [mv 3 0,
 dr 4 (.eq (.ref .s) false (.t 3) (.k .nils))])
 (.cond (.t 4)
 (.seq (.reg [dr 2 (.mov (.k .nils))])
 .ret)
 .skip))
 (.seq (.reg [wt 5 (.bsl 1 0 [] []),
 mv 6 0,
 wt 7 (.append 124 1 8 (.t 5) (.t 6)),
 mv 2 7])
 .ret))) }

/-- bellcrank/eval.Fits -/
def e37 : EFunc := { own := none, res := [(.tmp 4)], ntmps := 58, pure := false, body :=
 (.seq (.reg [wt 2 (.box 5 (.t 0)),
 wt 3 (.box 6 (.t 1)),
 dr 4 (.mov (.k (.bool false)))])
 (.seq (.block 0
 (.seq (.seq (.reg [wt 6 (.load 5 true (.t 2)),
 cl 7 (kf 19) [(.t 6)],
 dr 8 (.not (.t 7)),
 mv 5 8])
 (.cond (.t 5)
 .skip
 (.reg [dr 9 (fa 2 2),
 wt 10 (l1 9),
 dr 11 (fa 2 3),
 wt 12 (l1 11),
 cl 13 (kf 38) [(.t 10), (.t 12), (kf 39)],
 dr 14 (.not (.t 13)),
 mv 5 14])))
 (.cond (.t 5)
 (.seq (.reg [dr 4 (.mov (.k (.bool false)))])
 .ret)
 (.seq (.seq (.reg [dr 16 (fa 0 3),
 wt 17 (l1 16),
 dr 18 (.len (.t 17)),
 dr 19 (.bin .rem (.t 18) (ki 256)),
 dr 20 (.eq (.prim .i) true (.t 19) (ki 0)),
 mv 15 20])
 (.cond (.t 15)
 .skip
 (.seq (.reg [dr 21 (fa 1 3),
 wt 22 (l1 21),
 dr 23 (fa 0 3),
 wt 24 (l1 23),
 dr 25 (.len (.t 24)),
 dr 26 (.bin .lss (.t 22) (.t 25)),
 mv 15 26])
 (.cond (.t 15)
 .skip
 (.seq (.reg [dr 27 (fa 1 3),
 wt 28 (l1 27),
 dr 29 (.bin .gtr (.t 28) (ki 4096)),
 mv 15 29])
 (.cond (.t 15)
 .skip
 (.reg [dr 30 (fa 4 2),
 wt 31 (l1 30),
 dr 32 (.not (.t 31)),
 mv 33 32,
 dg 34 33 true (fa 1 3),
 wg 35 33 true (l1 34),
 dg 36 33 true (.bin .gtr (.t 35) (ki 0)),
 dr 37 (.pick (.t 33) (.t 36) (.k (.bool false))),
 mv 15 37])))))))
 (.cond (.t 15)
 (.seq (.reg [dr 4 (.mov (.k (.bool false)))])
 .ret)
 .skip)))))
 (.seq (.reg [dr 38 (fa 3 3),
 wt 39 (l1 38),
 dr 40 (.bin .geq (.t 39) (ki 0)),
 mv 41 40,
 dg 42 41 true (fa 3 3),
 wg 43 41 true (l1 42),
 dg 44 41 true (.bin .leq (.t 43) (ki 1024)),
 dr 45 (.pick (.t 41) (.t 44) (.k (.bool false))),
 mv 46 45,
 dg 47 46 true (fa 4 3),
 wg 48 46 true (l1 47),
 dg 49 46 true (.len (.t 48)),
 dg 50 46 true (.bin .leq (.t 49) (ki 4096)),
 dr 51 (.pick (.t 46) (.t 50) (.k (.bool false))),
 mv 52 51,
 dg 53 52 true (fa 5 3),
 wg 54 52 true (l1 53),
 dg 55 52 true (.len (.t 54)),
 dg 56 52 true (.bin .leq (.t 55) (ki 4096)),
 dr 57 (.pick (.t 52) (.t 56) (.k (.bool false))),
 mv 4 57])
 .ret))) }

/-- slices.EqualFunc[[]int,[]uint64,int,uint64] -/
def e38 : EFunc := { own := none, res := [(.tmp 6)], ntmps := 32, pure := false, body :=
 (.seq (.reg [dr 6 (.mov (.k (.bool false)))])
 (.seq (.seq (.reg [mv 10 0,
 dr 11 (.len (.t 10)),
 mv 12 1,
 dr 13 (.len (.t 12)),
 dr 14 (.eq (.prim .i) true (.t 11) (.t 13))])
 (.cond (.t 14)
 (.seq (.reg [dr 6 (.mov (.k (.bool false)))])
 .ret)
 .skip))
 (.seq (.seq (.reg [mv 15 0,
 dr 16 (.len (.t 15)),
 dr 17 (.mov (ki 0))])
 (.block 0
 (.loop
 (.seq (.reg [dr 18 (.bin .lss (.t 17) (.t 16))])
 (.seq (.cond (.t 18)
 .skip
 (.exit 0))
 (.seq (.block 1
 (.seq (.reg [mv 19 17,
 dr 20 (.iaddr 1 (.t 15) (.t 17)),
 wt 21 (l1 20),
 mv 7 19,
 mv 8 21])
 (.seq (.reg [mv 22 1,
 mv 23 7,
 dr 24 (.iaddr 1 (.t 22) (.t 23)),
 wt 25 (l1 24),
 mv 9 25])
 (.seq (.reg [mv 26 2,
 mv 27 8,
 mv 28 9,
 cl 29 (.t 26) [(.t 27), (.t 28)],
 dr 30 (.not (.t 29))])
 (.cond (.t 30)
 (.seq (.reg [dr 6 (.mov (.k (.bool false)))])
 .ret)
 .skip)))))
 (.reg [dr 31 (.bin .add (.t 17) (ki 1)),
 mv 17 31])))))))
 (.seq (.reg [dr 6 (.mov (.k (.bool true)))])
 .ret)))) }

/-- (*bellcrank/lower.machine).run -/
def e40 : EFunc := { own := none, res := [(.cell 6 1 false), (.cell 7 1 false)], ntmps := 13, pure := false, body :=
 (.seq (.reg [wt 6 (.alloc 1 1 [.nils]),
 wt 7 (.alloc 1 1 [(ig 0)])])
 (.seq (.reg [dr 8 (.mkfn 63 [] [(.t 6), (.t 7)]),
 ⟨none, (.defer (.t 8) []), none⟩])
 (.seq (.reg [mv 9 0,
 mv 10 1,
 mv 11 2,
 cl 12 (kf 64) [(.t 9), (.t 10), (.t 11)],
 wn (.store 1 (.t 6) (.t 12)),
 wn (.store 1 (.t 7) (ki 0))])
 .ret))) }

/-- bellcrank/eval.Right -/
def e43 : EFunc := { own := none, res := [(.tmp 2)], ntmps := 66, pure := false, body :=
 (.seq (.reg [wt 1 (.box 6 (.t 0)),
 dr 2 (.mov (.k (.bool false)))])
 (.seq (.seq (.reg [dr 6 (.faddr 0 5 true (.t 1)),
 wt 7 (.load 5 true (.t 6)),
 cl 8 (kf 19) [(.t 7)],
 dr 9 (.not (.t 8)),
 mv 10 9,
 dg 11 10 false (fa 5 1),
 wg 12 10 false (l1 11),
 dg 13 10 false (.len (.t 12)),
 dg 14 10 false (.faddr 0 5 true (.t 1)),
 dg 15 10 false (fa 1 14),
 wg 16 10 false (l1 15),
 dg 17 10 false (.bin .add (.t 13) (.t 16)),
 dg 18 10 false (.faddr 0 5 true (.t 1)),
 dg 19 10 false (fa 0 18),
 wg 20 10 false (l1 19),
 dg 21 10 false (.len (.t 20)),
 dg 22 10 false (.eq (.prim .i) true (.t 17) (.t 21)),
 dr 23 (.pick (.t 10) (.k (.bool true)) (.t 22))])
 (.cond (.t 23)
 (.seq (.reg [dr 2 (.mov (.k (.bool false)))])
 .ret)
 .skip))
 (.seq (.seq (.reg [dr 24 (fa 5 1),
 wt 25 (l1 24),
 dr 26 (.len (.t 25)),
 dr 27 (.mov (ki 0))])
 (.block 0
 (.loop
 (.seq (.reg [dr 28 (.bin .lss (.t 27) (.t 26))])
 (.seq (.cond (.t 28)
 .skip
 (.exit 0))
 (.seq (.block 1
 (.seq (.reg [mv 29 27,
 dr 30 (.iaddr 4 (.t 25) (.t 27)),
 wt 31 (.load 4 true (.t 30)),
 wt 4 (.alloc 189 4 [.nils, .nils, .nils, .nils]),
 mv 3 29,
 wn (.store 4 (.t 4) (.t 31))])
 (.seq (.reg [dr 32 (.faddr 0 5 true (.t 1)),
 dr 33 (fa 0 32),
 wt 34 (l1 33),
 dr 35 (.faddr 0 5 true (.t 1)),
 dr 36 (fa 1 35),
 wt 37 (l1 36),
 mv 38 3,
 dr 39 (.bin .add (.t 37) (.t 38)),
 dr 40 (.iaddr 2 (.t 34) (.t 39)),
 wt 41 (.load 2 true (.t 40)),
 wt 5 (.alloc 65 2 [.nils, .nils]),
 wn (.store 2 (.t 5) (.t 41))])
 (.seq (.reg [dr 42 (.faddr 0 2 true (.t 4)),
 dr 43 (fa 0 42),
 wt 44 (l1 43),
 dr 45 (fa 0 5),
 wt 46 (l1 45),
 cl 47 (kf 32) [(.t 44), (.t 46)],
 dr 48 (.not (.t 47)),
 mv 49 48,
 dg 50 49 false (.faddr 0 2 true (.t 4)),
 dg 51 49 false (fa 1 50),
 wg 52 49 false (l1 51),
 dg 53 49 false (fa 1 5),
 wg 54 49 false (l1 53),
 cg 55 49 false (kf 32) [(.t 52), (.t 54)],
 dg 56 49 false (.not (.t 55)),
 dr 57 (.pick (.t 49) (.k (.bool true)) (.t 56)),
 mv 58 57,
 dg 59 58 false (.faddr 0 5 true (.t 1)),
 wg 60 58 false (.load 5 true (.t 59)),
 wg 61 58 false (.load 4 true (.t 4)),
 cg 62 58 false (kf 69) [(.t 60), (.t 61)],
 dg 63 58 false (.not (.t 62)),
 dr 64 (.pick (.t 58) (.k (.bool true)) (.t 63))])
 (.cond (.t 64)
 (.seq (.reg [dr 2 (.mov (.k (.bool false)))])
 .ret)
 .skip)))))
 (.reg [dr 65 (.bin .add (.t 27) (ki 1)),
 mv 27 65])))))))
 (.seq (.reg [dr 2 (.mov (.k (.bool true)))])
 .ret)))) }

/-- bellcrank/lower.row -/
def e44 : EFunc := { own := none, res := [(.cell 2 5 true)], ntmps := 126, pure := false, body :=
 (.seq (.reg [wt 1 (.box 4 (.t 0)),
 wt 2 (.alloc 71 5 [.nils, .nils, (ig 0), .nils, .nils])])
 (.seq (.draw [(wt 12 (.load 4 true (.t 1)), 0, false),
 (dr 13 (fa 2 1), 0, false),
 (wt 14 (l1 13), 2, false),
 (dr 15 (.len (.t 14)), 6, false),
 (dr 16 (.bin .add (.t 15) (ki 1)), 14, false),
 (dr 17 (fa 3 1), 0, false),
 (wt 18 (l1 17), 32, false),
 (dr 19 (.iaddr 6 (.t 18) (ki 0)), 96, false),
 (dr 20 (fa 0 19), 224, false),
 (wt 21 (l1 20), 480, false),
 (cl 22 (kf 70) [(.t 21)], 992, false),
 (dr 23 (.build [.nils, .nils, (ig 0), .nils, .nils] [(2, 1, (.t 16)), (3, 1, (.t 22))]), 2046, false),
 (dr 24 (.build [.nils, .nils, .nils, .nils, .nils, .nils, (ig 0), .nils, .nils, .nils, .nils, .nils] [(0, 4, (.t 12)), (4, 5, (.t 23))]), 4095, false),
 (wt 25 (.box 12 (.t 24)), 8191, true),
 (mv 3 25, 16383, false)])
 (.seq (.draw [(mv 26 3, 0, false),
 (dr 27 (.faddr 0 2 true (.t 1)), 0, false),
 (dr 28 (fa 0 27), 2, false),
 (wt 29 (l1 28), 6, false),
 (cl 30 (kf 70) [(.t 29)], 14, false),
 (dr 31 (.faddr 0 2 true (.t 1)), 0, false),
 (dr 32 (fa 1 31), 32, false),
 (wt 33 (l1 32), 96, false),
 (cl 34 (kf 70) [(.t 33)], 254, true),
 (dr 35 (.build [.nils, .nils] [(0, 1, (.t 30)), (1, 1, (.t 34))]), 510, false),
 (dr 36 (.nilchk (.t 26)), 1023, false),
 (dr 37 (.faddr 4 5 true (.t 36)), 2047, false),
 (dr 38 (.faddr 0 2 true (.t 37)), 4095, false),
 (wn (.store 2 (.t 38) (.t 35)), 8191, true)])
 (.seq (.seq (.reg [dr 39 (fa 3 1),
 wt 40 (l1 39),
 dr 41 (.len (.t 40)),
 dr 42 (.mov (ki 0))])
 (.block 0
 (.loop
 (.seq (.reg [dr 43 (.bin .lss (.t 42) (.t 41))])
 (.seq (.cond (.t 43)
 .skip
 (.exit 0))
 (.seq (.block 1
 (.seq (.reg [dr 44 (.iaddr 6 (.t 40) (.t 42)),
 wt 45 (.load 6 true (.t 44)),
 wt 5 (.alloc 237 6 [.nils, .nils, (ig 0), (ig 0), .nils, .nils]),
 wn (.store 6 (.t 5) (.t 45))])
 (.seq (.draw [(mv 46 3, 0, false),
 (mv 47 3, 0, false),
 (dr 48 (.nilchk (.t 47)), 2, false),
 (dr 49 (fa 9 48), 6, false),
 (wt 50 (l1 49), 14, false),
 (mv 51 3, 0, false),
 (dr 52 (.nilchk (.t 51)), 32, false),
 (dr 53 (.faddr 4 5 true (.t 52)), 96, false),
 (dr 54 (fa 4 53), 224, false),
 (wt 55 (l1 54), 480, false),
 (dr 56 (.len (.t 55)), 992, false),
 (wt 57 (.bsl 1 1 [(ig 0)] [(0, (.t 56))]), 2016, false),
 (wt 58 (.append 8 1 8 (.t 50) (.t 57)), 4094, true),
 (dr 59 (.nilchk (.t 46)), 8191, false),
 (dr 60 (fa 9 59), 16383, false),
 (wn (.store 1 (.t 60) (.t 58)), 32767, true)])
 (.seq (.seq (.reg [dr 61 (fa 1 5),
 wt 62 (l1 61),
 dr 63 (.len (.t 62)),
 dr 64 (.mov (ki 0))])
 (.block 2
 (.loop
 (.seq (.reg [dr 65 (.bin .lss (.t 64) (.t 63))])
 (.seq (.cond (.t 65)
 .skip
 (.exit 2))
 (.seq (.block 3
 (.seq (.reg [dr 66 (.iaddr 4 (.t 62) (.t 64)),
 wt 67 (.load 4 true (.t 66)),
 wt 7 (.alloc 225 4 [(ig 0), (.int .u64 0), .nils, .nils]),
 wn (.store 4 (.t 7) (.t 67))])
 (.reg [mv 68 3,
 dr 69 (fa 0 7),
 wt 70 (l1 69),
 dr 71 (fa 1 7),
 wt 72 (l1 71),
 dr 73 (fa 2 7),
 wt 74 (l1 73),
 dr 75 (fa 3 7),
 wt 76 (l1 75),
 cl 77 (kf 71) [(.t 68), (.t 70), (.t 72), (.t 74), (.t 76), (ki 0)]])))
 (.reg [dr 78 (.bin .add (.t 64) (ki 1)),
 mv 64 78])))))))
 (.reg [mv 79 3,
 dr 80 (.faddr 2 4 true (.t 5)),
 wt 81 (.load 4 true (.t 80)),
 cl 82 (kf 72) [(.t 79), (.t 81)]])))))
 (.reg [dr 83 (.bin .add (.t 42) (ki 1)),
 mv 42 83])))))))
 (.seq (.seq (.reg [mv 84 3,
 dr 85 (.nilchk (.t 84)),
 dr 86 (fa 11 85),
 wt 87 (l1 86),
 dr 88 (.len (.t 87)),
 dr 89 (.mov (ki 0))])
 (.block 4
 (.loop
 (.seq (.reg [dr 90 (.bin .lss (.t 89) (.t 88))])
 (.seq (.cond (.t 90)
 .skip
 (.exit 4))
 (.seq (.block 5
 (.seq (.reg [dr 91 (.iaddr 1 (.t 87) (.t 89)),
 wt 92 (l1 91),
 mv 9 92])
 (.reg [mv 93 9,
 cl 94 (.t 93) []])))
 (.reg [dr 95 (.bin .add (.t 89) (ki 1)),
 mv 89 95])))))))
 (.seq (.seq (.reg [mv 96 3,
 dr 97 (.nilchk (.t 96)),
 dr 98 (fa 10 97),
 wt 99 (l1 98),
 dr 100 (.len (.t 99)),
 dr 101 (.mov (ki 0))])
 (.block 6
 (.loop
 (.seq (.reg [dr 102 (.bin .lss (.t 101) (.t 100))])
 (.seq (.cond (.t 102)
 .skip
 (.exit 6))
 (.seq (.block 7
 (.seq (.reg [dr 103 (.iaddr 3 (.t 99) (.t 101)),
 wt 104 (.load 3 true (.t 103)),
 wt 11 (.alloc 277 3 [(ig 0), (ig 0), .nilf]),
 wn (.store 3 (.t 11) (.t 104))])
 (.draw [(mv 105 3, 0, false),
 (dr 106 (.nilchk (.t 105)), 1, false),
 (dr 107 (.faddr 4 5 true (.t 106)), 3, false),
 (dr 108 (fa 4 107), 7, false),
 (wt 109 (l1 108), 15, false),
 (dr 110 (fa 0 11), 0, false),
 (wt 111 (l1 110), 32, false),
 (dr 112 (.iaddr 5 (.t 109) (.t 111)), 127, false),
 (dr 113 (fa 4 112), 255, false),
 (wt 114 (l1 113), 511, false),
 (dr 115 (fa 1 11), 0, false),
 (wt 116 (l1 115), 1024, false),
 (dr 117 (fa 2 11), 0, false),
 (wt 118 (l1 117), 4096, false),
 (cl 119 (.t 118) [], 12288, false),
 (dr 120 (.iaddr 1 (.t 114) (.t 116)), 32767, false),
 (wn (.store 1 (.t 120) (.t 119)), 65535, true)])))
 (.reg [dr 121 (.bin .add (.t 101) (ki 1)),
 mv 101 121])))))))
 (.seq (.reg [mv 122 3,
 dr 123 (.nilchk (.t 122)),
 dr 124 (.faddr 4 5 true (.t 123)),
 wt 125 (.load 5 true (.t 124)),
 wn (.store 5 (.t 2) (.t 125))])
 .ret))))))) }

/-- bellcrank/ssa.kinds -/
def e47 : EFunc := { own := none, res := [(.tmp 4)], ntmps := 14, pure := false, body :=
 (.seq (.reg [⟨(some 4), (.dry (.mov (.k (.bool false)))), none⟩])
 (.seq (.reg [⟨(some 5), (.dry (.mov (.t 1))), none⟩,
 ⟨(some 6), (.dry (.len (.t 5))), none⟩,
 ⟨(some 7), (.dry (.mov (.t 0))), none⟩,
 ⟨(some 8), (.dry (.bin .leq (.t 6) (.t 7))), none⟩,
 ⟨(some 9), (.dry (.mov (.t 8))), none⟩,
 ⟨(some 10), (.dry (.mov (.t 1))), (some (9, true))⟩,
 ⟨(some 11), (.call (.k (.fn 51 [] [])) [(.t 10), (.k (.fn 77 [] []))]), (some (9, true))⟩,
 ⟨(some 12), (.dry (.not (.t 11))), (some (9, true))⟩,
 ⟨(some 13), (.dry (.pick (.t 9) (.t 12) (.k (.bool false)))), none⟩,
 ⟨(some 4), (.dry (.mov (.t 13))), none⟩])
 .ret)) }

/-- slices.ContainsFunc[[]bellcrank/api.Sig,bellcrank/api.Sig] -/
def e48 : EFunc := { own := none, res := [(.tmp 4)], ntmps := 9, pure := false, body :=
 (.seq (.reg [⟨(some 4), (.dry (.mov (.k (.bool false)))), none⟩])
 (.seq (.reg [⟨(some 5), (.dry (.mov (.t 0))), none⟩,
 ⟨(some 6), (.dry (.mov (.t 1))), none⟩,
 ⟨(some 7), (.call (.k (.fn 79 [] [])) [(.t 5), (.t 6)]), none⟩,
 ⟨(some 8), (.dry (.bin .geq (.t 7) (.k (.int .i64 0)))), none⟩,
 ⟨(some 4), (.dry (.mov (.t 8))), none⟩])
 .ret)) }

/-- bellcrank/ssa.EnvRight$1 -/
def e49 : EFunc := { own := none, res := [(.tmp 2)], ntmps := 6, pure := false, body :=
 (.seq (.reg [⟨(some 1), (.wet (.box 2 (.t 0))), none⟩,
 ⟨(some 2), (.dry (.mov (.k (.bool false)))), none⟩])
 (.seq (.reg [⟨(some 3), (.wet (.load 2 true (.t 1))), none⟩,
 ⟨(some 4), (.call (.k (.fn 50 [] [])) [(.t 3)]), none⟩,
 ⟨(some 5), (.dry (.not (.t 4))), none⟩,
 ⟨(some 2), (.dry (.mov (.t 5))), none⟩])
 .ret)) }

/-- bellcrank/ssa.sigRight -/
def e50 : EFunc := { own := none, res := [(.tmp 2)], ntmps := 11, pure := false, body :=
 (.seq (.reg [⟨(some 1), (.wet (.box 2 (.t 0))), none⟩,
 ⟨(some 2), (.dry (.mov (.k (.bool false)))), none⟩])
 (.seq (.reg [⟨(some 3), (.dry (.faddr 0 1 false (.t 1))), none⟩,
 ⟨(some 4), (.wet (.load 1 false (.t 3))), none⟩,
 ⟨(some 5), (.call (.k (.fn 47 [] [])) [(.k (.int .i64 8)), (.t 4)]), none⟩,
 ⟨(some 6), (.dry (.mov (.t 5))), none⟩,
 ⟨(some 7), (.dry (.faddr 1 1 false (.t 1))), (some (6, true))⟩,
 ⟨(some 8), (.wet (.load 1 false (.t 7))), (some (6, true))⟩,
 ⟨(some 9), (.call (.k (.fn 47 [] [])) [(.k (.int .i64 8)), (.t 8)]), (some (6, true))⟩,
 ⟨(some 10), (.dry (.pick (.t 6) (.t 9) (.k (.bool false)))), none⟩,
 ⟨(some 2), (.dry (.mov (.t 10))), none⟩])
 .ret)) }

/-- slices.ContainsFunc[[]int,int] -/
def e51 : EFunc := { own := none, res := [(.tmp 4)], ntmps := 9, pure := false, body :=
 (.seq (.reg [⟨(some 4), (.dry (.mov (.k (.bool false)))), none⟩])
 (.seq (.reg [⟨(some 5), (.dry (.mov (.t 0))), none⟩,
 ⟨(some 6), (.dry (.mov (.t 1))), none⟩,
 ⟨(some 7), (.call (.k (.fn 80 [] [])) [(.t 5), (.t 6)]), none⟩,
 ⟨(some 8), (.dry (.bin .geq (.t 7) (.k (.int .i64 0)))), none⟩,
 ⟨(some 4), (.dry (.mov (.t 8))), none⟩])
 .ret)) }

/-- bellcrank/lower.within$1 -/
def e52 : EFunc := { own := none, res := [(.tmp 3)], ntmps := 11, pure := false, body :=
 (.seq (.reg [⟨(some 3), (.dry (.mov (.k (.bool false)))), none⟩])
 (.seq (.reg [⟨(some 4), (.dry (.mov (.t 0))), none⟩,
 ⟨(some 5), (.dry (.bin .lss (.t 4) (.k (.int .i64 0)))), none⟩,
 ⟨(some 6), (.dry (.mov (.t 5))), none⟩,
 ⟨(some 7), (.dry (.mov (.t 0))), (some (6, false))⟩,
 ⟨(some 8), (.wet (.load 1 false (.t 1))), (some (6, false))⟩,
 ⟨(some 9), (.dry (.bin .geq (.t 7) (.t 8))), (some (6, false))⟩,
 ⟨(some 10), (.dry (.pick (.t 6) (.k (.bool true)) (.t 9))), none⟩,
 ⟨(some 3), (.dry (.mov (.t 10))), none⟩])
 .ret)) }

/-- slices.IndexFunc[[]bellcrank/api.Code,bellcrank/api.Code] -/
def e53 : EFunc := { own := none, res := [(.tmp 4)], ntmps := 19, pure := false, body :=
 (.seq (.reg [⟨(some 4), (.dry (.mov (.k (.int .i64 0)))), none⟩])
 (.seq (.seq (.reg [⟨(some 6), (.dry (.mov (.t 0))), none⟩,
 ⟨(some 7), (.dry (.len (.t 6))), none⟩,
 ⟨(some 8), (.dry (.mov (.k (.int .i64 0)))), none⟩])
 (.block 0
 (.loop
 (.seq (.reg [⟨(some 9), (.dry (.bin .lss (.t 8) (.t 7))), none⟩])
 (.seq (.cond (.t 9)
 .skip
 (.exit 0))
 (.seq (.block 1
 (.seq (.reg [⟨(some 10), (.dry (.mov (.t 8))), none⟩,
 ⟨(some 5), (.dry (.mov (.t 10))), none⟩])
 (.seq (.reg [⟨(some 11), (.dry (.mov (.t 1))), none⟩,
 ⟨(some 12), (.dry (.mov (.t 0))), none⟩,
 ⟨(some 13), (.dry (.mov (.t 5))), none⟩,
 ⟨(some 14), (.dry (.iaddr 5 (.t 12) (.t 13))), none⟩,
 ⟨(some 15), (.wet (.load 5 true (.t 14))), none⟩,
 ⟨(some 16), (.call (.t 11) [(.t 15)]), none⟩])
 (.cond (.t 16)
 (.seq (.reg [⟨(some 17), (.dry (.mov (.t 5))), none⟩,
 ⟨(some 4), (.dry (.mov (.t 17))), none⟩])
 .ret)
 .skip))))
 (.reg [⟨(some 18), (.dry (.bin .add (.t 8) (.k (.int .i64 1)))), none⟩,
 ⟨(some 8), (.dry (.mov (.t 18))), none⟩])))))))
 (.seq (.reg [⟨(some 4), (.dry (.mov (.k (.int .i64 (-1))))), none⟩])
 .ret))) }

/-- bellcrank/lower.shapeOf -/
def e54 : EFunc := { own := none, res := [(.cell 8 5 true), (.tmp 9)], ntmps := 120, pure := false, body :=
 (.seq (.reg [⟨(some 4), (.wet (.box 5 (.t 0))), none⟩,
 ⟨(some 5), (.wet (.box 2 (.t 1))), none⟩,
 ⟨(some 8), (.wet (.alloc 205 5 [.nils, .nils, (.int .u64 0), (.int .i64 0), (.int .i64 0)])), none⟩,
 ⟨(some 9), (.dry (.mov (.k (.bool false)))), none⟩])
 (.seq (.reg [⟨(some 15), (.wet (.bsl 1 1 [(.int .i64 0)] [(0, (.k (.int .i64 127)))])), none⟩,
 ⟨(some 10), (.dry (.mov (.t 15))), none⟩])
 (.seq (.seq (.reg [⟨(some 16), (.dry (.mov (.t 2))), none⟩])
 (.block 0
 (.seq (.reg [⟨(some 18), (.dry (.eq (.prim .i) false (.t 16) (.k (.int .i64 256)))), none⟩,
 ⟨(some 17), (.dry (.mov (.t 18))), none⟩])
 (.cond (.t 17)
 (.seq (.reg [⟨(some 19), (.wet (.bsl 1 1 [(.int .i64 0)] [(0, (.k (.int .i64 0)))])), none⟩,
 ⟨(some 20), (.dry (.build [.nils, .nils, (.int .u64 0), (.int .i64 0), (.int .i64 0)] [(1, 1, (.t 19)), (2, 1, (.k (.int .u64 18446744073709551615)))])), none⟩,
 ⟨none, (.wet (.store 5 (.t 8) (.t 20))), none⟩,
 ⟨(some 9), (.dry (.mov (.k (.bool true)))), none⟩])
 .ret)
 (.seq (.reg [⟨(some 22), (.dry (.eq (.prim .i) false (.t 16) (.k (.int .i64 272)))), none⟩,
 ⟨(some 21), (.dry (.mov (.t 22))), none⟩])
 (.cond (.t 21)
 (.seq (.reg [⟨(some 23), (.wet (.bsl 1 1 [(.int .i64 0)] [(0, (.k (.int .i64 0)))])), none⟩,
 ⟨(some 24), (.wet (.bsl 1 1 [(.int .i64 0)] [(0, (.k (.int .i64 0)))])), none⟩,
 ⟨(some 25), (.dry (.build [.nils, .nils, (.int .u64 0), (.int .i64 0), (.int .i64 0)] [(0, 1, (.t 23)), (1, 1, (.t 24))])), none⟩,
 ⟨none, (.wet (.store 5 (.t 8) (.t 25))), none⟩,
 ⟨(some 9), (.dry (.mov (.k (.bool true)))), none⟩])
 .ret)
 (.seq (.reg [⟨(some 27), (.dry (.eq (.prim .i) false (.t 16) (.k (.int .i64 273)))), none⟩,
 ⟨(some 26), (.dry (.mov (.t 27))), none⟩])
 (.cond (.t 26)
 (.seq (.reg [⟨(some 28), (.dry (.build [.nils, .nils, (.int .u64 0), (.int .i64 0), (.int .i64 0)] [(3, 1, (.k (.int .i64 1))), (4, 1, (.k (.int .i64 1)))])), none⟩,
 ⟨none, (.wet (.store 5 (.t 8) (.t 28))), none⟩,
 ⟨(some 9), (.dry (.mov (.k (.bool true)))), none⟩])
 .ret)
 (.seq (.reg [⟨(some 30), (.dry (.eq (.prim .i) false (.t 16) (.k (.int .i64 274)))), none⟩,
 ⟨(some 29), (.dry (.mov (.t 30))), none⟩])
 (.cond (.t 29)
 (.seq (.reg [⟨(some 31), (.dry (.mov (.t 10))), none⟩,
 ⟨(some 32), (.dry (.build [.nils, .nils, (.int .u64 0), (.int .i64 0), (.int .i64 0)] [(0, 1, (.t 31)), (3, 1, (.k (.int .i64 1))), (4, 1, (.k (.int .i64 1)))])), none⟩,
 ⟨none, (.wet (.store 5 (.t 8) (.t 32))), none⟩,
 ⟨(some 9), (.dry (.mov (.k (.bool true)))), none⟩])
 .ret)
 (.seq (.reg [⟨(some 34), (.dry (.eq (.prim .i) false (.t 16) (.k (.int .i64 275)))), none⟩,
 ⟨(some 33), (.dry (.mov (.t 34))), none⟩])
 (.cond (.t 33)
 (.seq (.reg [⟨(some 35), (.dry (.mov (.t 10))), none⟩,
 ⟨(some 36), (.dry (.build [.nils, .nils, (.int .u64 0), (.int .i64 0), (.int .i64 0)] [(0, 1, (.t 35)), (3, 1, (.k (.int .i64 1))), (4, 1, (.k (.int .i64 65)))])), none⟩,
 ⟨none, (.wet (.store 5 (.t 8) (.t 36))), none⟩,
 ⟨(some 9), (.dry (.mov (.k (.bool true)))), none⟩])
 .ret)
 (.seq (.reg [⟨(some 38), (.dry (.eq (.prim .i) false (.t 16) (.k (.int .i64 276)))), none⟩,
 ⟨(some 37), (.dry (.mov (.t 38))), none⟩])
 (.cond (.t 37)
 (.seq (.reg [⟨(some 39), (.dry (.faddr 1 1 false (.t 5))), none⟩,
 ⟨(some 40), (.wet (.load 1 false (.t 39))), none⟩,
 ⟨(some 41), (.dry (.build [.nils, .nils, (.int .u64 0), (.int .i64 0), (.int .i64 0)] [(0, 1, (.t 40))])), none⟩,
 ⟨none, (.wet (.store 5 (.t 8) (.t 41))), none⟩,
 ⟨(some 9), (.dry (.mov (.k (.bool true)))), none⟩])
 .ret)
 (.seq (.seq (.reg [⟨(some 43), (.dry (.eq (.prim .i) false (.t 16) (.k (.int .i64 277)))), none⟩,
 ⟨(some 42), (.dry (.mov (.t 43))), none⟩])
 (.cond (.t 42)
 .skip
 (.reg [⟨(some 44), (.dry (.eq (.prim .i) false (.t 16) (.k (.int .i64 258)))), none⟩,
 ⟨(some 42), (.dry (.mov (.t 44))), none⟩])))
 (.cond (.t 42)
 (.seq (.reg [⟨(some 45), (.dry (.build [.nils, .nils, (.int .u64 0), (.int .i64 0), (.int .i64 0)] [])), none⟩,
 ⟨none, (.wet (.store 5 (.t 8) (.t 45))), none⟩,
 ⟨(some 9), (.dry (.mov (.k (.bool true)))), none⟩])
 .ret)
 (.seq (.reg [⟨(some 47), (.dry (.eq (.prim .i) false (.t 16) (.k (.int .i64 27)))), none⟩,
 ⟨(some 46), (.dry (.mov (.t 47))), none⟩])
 (.cond (.t 46)
 (.seq (.reg [⟨(some 48), (.wet (.bsl 1 3 [(.int .i64 0), (.int .i64 0), (.int .i64 0)] [(0, (.k (.int .i64 0))), (1, (.k (.int .i64 0))), (2, (.k (.int .i64 127)))])), none⟩,
 ⟨(some 49), (.wet (.bsl 1 1 [(.int .i64 0)] [(0, (.k (.int .i64 0)))])), none⟩,
 ⟨(some 50), (.dry (.build [.nils, .nils, (.int .u64 0), (.int .i64 0), (.int .i64 0)] [(0, 1, (.t 48)), (1, 1, (.t 49))])), none⟩,
 ⟨none, (.wet (.store 5 (.t 8) (.t 50))), none⟩,
 ⟨(some 9), (.dry (.mov (.k (.bool true)))), none⟩])
 .ret)
 (.seq (.reg [⟨(some 52), (.dry (.eq (.prim .i) false (.t 16) (.k (.int .i64 16)))), none⟩,
 ⟨(some 51), (.dry (.mov (.t 52))), none⟩])
 (.cond (.t 51)
 (.seq (.seq (.reg [⟨(some 53), (.dry (.mov (.t 3))), none⟩,
 ⟨(some 54), (.dry (.faddr 0 1 false (.t 4))), none⟩,
 ⟨(some 55), (.wet (.load 1 false (.t 54))), none⟩,
 ⟨(some 56), (.dry (.len (.t 55))), none⟩,
 ⟨(some 57), (.dry (.conv .u64 (.t 56))), none⟩,
 ⟨(some 58), (.dry (.bin .lss (.t 53) (.t 57))), none⟩])
 (.cond (.t 58)
 (.seq (.draw [(⟨(some 59), (.dry (.faddr 0 1 false (.t 4))), none⟩, 0, false),
 (⟨(some 60), (.wet (.load 1 false (.t 59))), none⟩, 1, false),
 (⟨(some 61), (.dry (.mov (.t 3))), none⟩, 0, false),
 (⟨(some 62), (.dry (.iaddr 2 (.t 60) (.t 61))), none⟩, 7, false),
 (⟨(some 63), (.dry (.faddr 0 1 false (.t 62))), none⟩, 15, false),
 (⟨(some 64), (.wet (.load 1 false (.t 63))), none⟩, 31, false),
 (⟨(some 65), (.dry (.faddr 0 1 false (.t 4))), none⟩, 0, false),
 (⟨(some 66), (.wet (.load 1 false (.t 65))), none⟩, 64, false),
 (⟨(some 67), (.dry (.mov (.t 3))), none⟩, 0, false),
 (⟨(some 68), (.dry (.iaddr 2 (.t 66) (.t 67))), none⟩, 448, false),
 (⟨(some 69), (.dry (.faddr 1 1 false (.t 68))), none⟩, 960, false),
 (⟨(some 70), (.wet (.load 1 false (.t 69))), none⟩, 1984, false),
 (⟨(some 71), (.dry (.mov (.t 3))), none⟩, 0, false),
 (⟨(some 72), (.dry (.build [.nils, .nils, (.int .u64 0), (.int .i64 0), (.int .i64 0)] [(0, 1, (.t 64)), (1, 1, (.t 70)), (2, 1, (.t 71))])), none⟩, 8191, false),
 (⟨none, (.wet (.store 5 (.t 8) (.t 72))), none⟩, 16383, true),
 (⟨(some 9), (.dry (.mov (.k (.bool true)))), none⟩, 32767, false)])
 .ret)
 .skip))
 (.seq (.reg [⟨(some 73), (.dry (.build [.nils, .nils, (.int .u64 0), (.int .i64 0), (.int .i64 0)] [])), none⟩,
 ⟨none, (.wet (.store 5 (.t 8) (.t 73))), none⟩,
 ⟨(some 9), (.dry (.mov (.k (.bool false)))), none⟩])
 .ret))
 (.seq (.seq (.reg [⟨(some 75), (.dry (.eq (.prim .i) false (.t 16) (.k (.int .i64 35)))), none⟩,
 ⟨(some 74), (.dry (.mov (.t 75))), none⟩])
 (.cond (.t 74)
 .skip
 (.reg [⟨(some 76), (.dry (.eq (.prim .i) false (.t 16) (.k (.int .i64 36)))), none⟩,
 ⟨(some 74), (.dry (.mov (.t 76))), none⟩])))
 (.cond (.t 74)
 (.seq (.seq (.reg [⟨(some 77), (.dry (.mov (.t 3))), none⟩,
 ⟨(some 78), (.dry (.faddr 2 1 false (.t 4))), none⟩,
 ⟨(some 79), (.wet (.load 1 false (.t 78))), none⟩,
 ⟨(some 80), (.dry (.len (.t 79))), none⟩,
 ⟨(some 81), (.dry (.conv .u64 (.t 80))), none⟩,
 ⟨(some 82), (.dry (.bin .geq (.t 77) (.t 81))), none⟩])
 (.cond (.t 82)
 (.seq (.reg [⟨(some 83), (.dry (.build [.nils, .nils, (.int .u64 0), (.int .i64 0), (.int .i64 0)] [])), none⟩,
 ⟨none, (.wet (.store 5 (.t 8) (.t 83))), none⟩,
 ⟨(some 9), (.dry (.mov (.k (.bool false)))), none⟩])
 .ret)
 .skip))
 (.seq (.reg [⟨(some 84), (.dry (.faddr 2 1 false (.t 4))), none⟩,
 ⟨(some 85), (.wet (.load 1 false (.t 84))), none⟩,
 ⟨(some 86), (.dry (.mov (.t 3))), none⟩,
 ⟨(some 87), (.dry (.iaddr 1 (.t 85) (.t 86))), none⟩,
 ⟨(some 88), (.wet (.load 1 false (.t 87))), none⟩,
 ⟨(some 89), (.wet (.bsl 1 1 [(.int .i64 0)] [(0, (.t 88))])), none⟩,
 ⟨(some 11), (.dry (.mov (.t 89))), none⟩])
 (.seq (.seq (.reg [⟨(some 90), (.dry (.mov (.t 2))), none⟩,
 ⟨(some 91), (.dry (.eq (.prim .i) false (.t 90) (.k (.int .i64 35)))), none⟩])
 (.cond (.t 91)
 (.seq (.reg [⟨(some 92), (.dry (.mov (.t 11))), none⟩,
 ⟨(some 93), (.dry (.mov (.t 3))), none⟩,
 ⟨(some 94), (.dry (.build [.nils, .nils, (.int .u64 0), (.int .i64 0), (.int .i64 0)] [(1, 1, (.t 92)), (2, 1, (.t 93))])), none⟩,
 ⟨none, (.wet (.store 5 (.t 8) (.t 94))), none⟩,
 ⟨(some 9), (.dry (.mov (.k (.bool true)))), none⟩])
 .ret)
 .skip))
 (.seq (.draw [(⟨(some 95), (.dry (.mov (.t 11))), none⟩, 0, false),
 (⟨(some 96), (.dry (.mov (.t 3))), none⟩, 0, false),
 (⟨(some 97), (.dry (.build [.nils, .nils, (.int .u64 0), (.int .i64 0), (.int .i64 0)] [(0, 1, (.t 95)), (2, 1, (.t 96))])), none⟩, 3, false),
 (⟨(some 98), (.dry (.faddr 3 1 false (.t 4))), none⟩, 0, false),
 (⟨(some 99), (.wet (.load 1 false (.t 98))), none⟩, 8, false),
 (⟨(some 100), (.dry (.mov (.t 3))), none⟩, 0, false),
 (⟨(some 101), (.dry (.iaddr 1 (.t 99) (.t 100))), none⟩, 56, false),
 (⟨(some 102), (.wet (.load 1 false (.t 101))), none⟩, 120, false),
 (⟨none, (.wet (.store 5 (.t 8) (.t 97))), none⟩, 7, false),
 (⟨(some 9), (.dry (.mov (.t 102))), none⟩, 511, false)])
 .ret))))
 .skip))))))))))))))))))))))
 (.seq (.seq (.reg [⟨(some 104), (.dry (.mov (.t 2))), none⟩,
 ⟨(some 105), (.call (.k (.fn 81 [] [])) [(.t 104)]), none⟩,
 ⟨(some 103), (.dry (.mov (.t 105))), none⟩,
 ⟨(some 106), (.dry (.extract (.t 103) 0)), none⟩,
 ⟨(some 107), (.dry (.extract (.t 103) 1)), none⟩,
 ⟨(some 108), (.dry (.extract (.t 103) 2)), none⟩,
 ⟨(some 12), (.dry (.mov (.t 106))), none⟩,
 ⟨(some 13), (.dry (.mov (.t 107))), none⟩,
 ⟨(some 14), (.dry (.mov (.t 108))), none⟩])
 (.seq (.reg [⟨(some 109), (.dry (.mov (.t 14))), none⟩])
 (.cond (.t 109)
 (.seq (.reg [⟨(some 110), (.dry (.mov (.t 12))), none⟩,
 ⟨(some 111), (.dry (.mov (.t 13))), none⟩,
 ⟨(some 112), (.wet (.bsl 1 1 [(.int .i64 0)] [(0, (.t 111))])), none⟩,
 ⟨(some 113), (.dry (.build [.nils, .nils, (.int .u64 0), (.int .i64 0), (.int .i64 0)] [(0, 1, (.t 110)), (1, 1, (.t 112))])), none⟩,
 ⟨none, (.wet (.store 5 (.t 8) (.t 113))), none⟩,
 ⟨(some 9), (.dry (.mov (.k (.bool true)))), none⟩])
 .ret)
 .skip)))
 (.seq (.reg [⟨(some 114), (.dry (.mov (.t 2))), none⟩,
 ⟨(some 115), (.dry (.faddr 4 1 false (.t 4))), none⟩,
 ⟨(some 116), (.wet (.load 1 false (.t 115))), none⟩,
 ⟨(some 117), (.call (.k (.fn 82 [] [])) [(.t 114), (.t 116)]), none⟩,
 ⟨(some 118), (.dry (.extract (.t 117) 0)), none⟩,
 ⟨(some 119), (.dry (.extract (.t 117) 1)), none⟩,
 ⟨none, (.wet (.store 5 (.t 8) (.t 118))), none⟩,
 ⟨(some 9), (.dry (.mov (.t 119))), none⟩])
 .ret))))) }

/-- slices.Index[[]int,int] -/
def e55 : EFunc := { own := none, res := [(.tmp 4)], ntmps := 19, pure := false, body :=
 (.seq (.reg [⟨(some 4), (.dry (.mov (.k (.int .i64 0)))), none⟩])
 (.seq (.seq (.reg [⟨(some 6), (.dry (.mov (.t 0))), none⟩,
 ⟨(some 7), (.dry (.len (.t 6))), none⟩,
 ⟨(some 8), (.dry (.mov (.k (.int .i64 0)))), none⟩])
 (.block 0
 (.loop
 (.seq (.reg [⟨(some 9), (.dry (.bin .lss (.t 8) (.t 7))), none⟩])
 (.seq (.cond (.t 9)
 .skip
 (.exit 0))
 (.seq (.block 1
 (.seq (.reg [⟨(some 10), (.dry (.mov (.t 8))), none⟩,
 ⟨(some 5), (.dry (.mov (.t 10))), none⟩])
 (.seq (.reg [⟨(some 11), (.dry (.mov (.t 1))), none⟩,
 ⟨(some 12), (.dry (.mov (.t 0))), none⟩,
 ⟨(some 13), (.dry (.mov (.t 5))), none⟩,
 ⟨(some 14), (.dry (.iaddr 1 (.t 12) (.t 13))), none⟩,
 ⟨(some 15), (.wet (.load 1 false (.t 14))), none⟩,
 ⟨(some 16), (.dry (.eq (.prim .i) false (.t 11) (.t 15))), none⟩])
 (.cond (.t 16)
 (.seq (.reg [⟨(some 17), (.dry (.mov (.t 5))), none⟩,
 ⟨(some 4), (.dry (.mov (.t 17))), none⟩])
 .ret)
 .skip))))
 (.reg [⟨(some 18), (.dry (.bin .add (.t 8) (.k (.int .i64 1)))), none⟩,
 ⟨(some 8), (.dry (.mov (.t 18))), none⟩])))))))
 (.seq (.reg [⟨(some 4), (.dry (.mov (.k (.int .i64 (-1))))), none⟩])
 .ret))) }

/-- bellcrank/lower.rings$1 -/
def e56 : EFunc := { own := none, res := [(.tmp 5)], ntmps := 38, pure := false, body :=
 (.seq (.reg [⟨(some 5), (.dry (.mov (.k (.bool false)))), none⟩])
 (.seq (.seq (.reg [⟨(some 7), (.wet (.load 1 false (.t 1))), none⟩,
 ⟨(some 8), (.dry (.mov (.t 0))), none⟩,
 ⟨(some 9), (.dry (.iaddr 1 (.t 7) (.t 8))), none⟩,
 ⟨(some 10), (.wet (.load 1 false (.t 9))), none⟩,
 ⟨(some 11), (.dry (.eq (.prim .i) false (.t 10) (.k (.int .i64 0)))), none⟩])
 (.cond (.t 11)
 (.seq (.reg [⟨(some 12), (.wet (.load 1 false (.t 1))), none⟩,
 ⟨(some 13), (.dry (.mov (.t 0))), none⟩,
 ⟨(some 14), (.dry (.iaddr 1 (.t 12) (.t 13))), none⟩,
 ⟨none, (.wet (.store 1 (.t 14) (.k (.int .i64 1)))), none⟩])
 (.seq (.reg [⟨(some 15), (.dry (.mov (.t 0))), none⟩,
 ⟨(some 16), (.wet (.bsl 1 1 [(.int .i64 0)] [(0, (.t 15))])), none⟩,
 ⟨(some 6), (.dry (.mov (.t 16))), none⟩])
 (.seq (.seq (.reg [⟨(some 17), (.dry (.faddr 4 1 false (.t 2))), none⟩,
 ⟨(some 18), (.wet (.load 1 false (.t 17))), none⟩,
 ⟨(some 19), (.dry (.mov (.t 0))), none⟩,
 ⟨(some 20), (.dry (.iaddr 5 (.t 18) (.t 19))), none⟩,
 ⟨(some 21), (.dry (.faddr 0 1 false (.t 20))), none⟩,
 ⟨(some 22), (.wet (.load 1 false (.t 21))), none⟩,
 ⟨(some 23), (.dry (.eq (.prim .i) true (.t 22) (.k (.int .i64 258)))), none⟩])
 (.cond (.t 23)
 (.reg [⟨(some 24), (.dry (.mov (.t 6))), none⟩,
 ⟨(some 25), (.wet (.load 5 true (.t 2))), none⟩,
 ⟨(some 26), (.dry (.mov (.t 0))), none⟩,
 ⟨(some 27), (.call (.k (.fn 57 [] [])) [(.t 25), (.t 26)]), none⟩,
 ⟨(some 28), (.wet (.append 8 1 8 (.t 24) (.t 27))), none⟩,
 ⟨(some 6), (.dry (.mov (.t 28))), none⟩])
 .skip))
 (.seq (.reg [⟨(some 29), (.wet (.load 1 false (.t 3))), none⟩,
 ⟨(some 30), (.dry (.mov (.t 6))), none⟩,
 ⟨(some 31), (.wet (.bsl 1 1 [.nils] [(0, (.t 30))])), none⟩,
 ⟨(some 32), (.wet (.append 48 1 24 (.t 29) (.t 31))), none⟩,
 ⟨none, (.wet (.store 1 (.t 3) (.t 32))), none⟩])
 (.seq (.reg [⟨(some 5), (.dry (.mov (.k (.bool false)))), none⟩])
 .ret)))))
 .skip))
 (.seq (.reg [⟨(some 33), (.wet (.load 1 false (.t 1))), none⟩,
 ⟨(some 34), (.dry (.mov (.t 0))), none⟩,
 ⟨(some 35), (.dry (.iaddr 1 (.t 33) (.t 34))), none⟩,
 ⟨(some 36), (.wet (.load 1 false (.t 35))), none⟩,
 ⟨(some 37), (.dry (.eq (.prim .i) false (.t 36) (.k (.int .i64 1)))), none⟩,
 ⟨(some 5), (.dry (.mov (.t 37))), none⟩])
 .ret))) }

/-- bellcrank/lower.next -/
def e57 : EFunc := { own := none, res := [(.tmp 4)], ntmps := 33, pure := false, body :=
 (.seq (.reg [⟨(some 2), (.wet (.box 5 (.t 0))), none⟩,
 ⟨(some 4), (.dry (.mov (.k .nils))), none⟩])
 (.seq (.reg [⟨(some 6), (.dry (.faddr 4 1 false (.t 2))), none⟩,
 ⟨(some 7), (.wet (.load 1 false (.t 6))), none⟩,
 ⟨(some 8), (.dry (.mov (.t 1))), none⟩,
 ⟨(some 9), (.dry (.iaddr 5 (.t 7) (.t 8))), none⟩,
 ⟨(some 10), (.wet (.load 5 true (.t 9))), none⟩,
 ⟨(some 5), (.wet (.alloc 129 5 [(.int .i64 0), (.int .u64 0), .nils, .nils, .nils])), none⟩,
 ⟨none, (.wet (.store 5 (.t 5) (.t 10))), none⟩])
 (.seq (.seq (.reg [⟨(some 11), (.dry (.faddr 0 1 false (.t 5))), none⟩,
 ⟨(some 12), (.wet (.load 1 false (.t 11))), none⟩])
 (.block 0
 (.seq (.seq (.reg [⟨(some 14), (.dry (.eq (.prim .i) false (.t 12) (.k (.int .i64 276)))), none⟩,
 ⟨(some 13), (.dry (.mov (.t 14))), none⟩])
 (.cond (.t 13)
 .skip
 (.reg [⟨(some 15), (.dry (.eq (.prim .i) false (.t 12) (.k (.int .i64 277)))), none⟩,
 ⟨(some 13), (.dry (.mov (.t 15))), none⟩])))
 (.cond (.t 13)
 (.seq (.reg [⟨(some 4), (.dry (.mov (.k .nils))), none⟩])
 .ret)
 (.seq (.seq (.reg [⟨(some 17), (.dry (.eq (.prim .i) false (.t 12) (.k (.int .i64 273)))), none⟩,
 ⟨(some 16), (.dry (.mov (.t 17))), none⟩])
 (.cond (.t 16)
 .skip
 (.reg [⟨(some 18), (.dry (.eq (.prim .i) false (.t 12) (.k (.int .i64 275)))), none⟩,
 ⟨(some 16), (.dry (.mov (.t 18))), none⟩])))
 (.cond (.t 16)
 (.seq (.reg [⟨(some 19), (.dry (.faddr 4 1 false (.t 5))), none⟩,
 ⟨(some 20), (.wet (.load 1 false (.t 19))), none⟩,
 ⟨(some 4), (.dry (.mov (.t 20))), none⟩])
 .ret)
 (.seq (.reg [⟨(some 22), (.dry (.eq (.prim .i) false (.t 12) (.k (.int .i64 274)))), none⟩,
 ⟨(some 21), (.dry (.mov (.t 22))), none⟩])
 (.cond (.t 21)
 (.seq (.reg [⟨(some 23), (.dry (.mov (.t 1))), none⟩,
 ⟨(some 24), (.dry (.bin .add (.t 23) (.k (.int .i64 1)))), none⟩,
 ⟨(some 25), (.dry (.faddr 4 1 false (.t 5))), none⟩,
 ⟨(some 26), (.wet (.load 1 false (.t 25))), none⟩,
 ⟨(some 27), (.dry (.iaddr 1 (.t 26) (.k (.int .i64 0)))), none⟩,
 ⟨(some 28), (.wet (.load 1 false (.t 27))), none⟩,
 ⟨(some 29), (.wet (.bsl 1 2 [(.int .i64 0), (.int .i64 0)] [(0, (.t 24)), (1, (.t 28))])), none⟩,
 ⟨(some 4), (.dry (.mov (.t 29))), none⟩])
 .ret)
 .skip))))))))
 (.seq (.reg [⟨(some 30), (.dry (.mov (.t 1))), none⟩,
 ⟨(some 31), (.dry (.bin .add (.t 30) (.k (.int .i64 1)))), none⟩,
 ⟨(some 32), (.wet (.bsl 1 1 [(.int .i64 0)] [(0, (.t 31))])), none⟩,
 ⟨(some 4), (.dry (.mov (.t 32))), none⟩])
 .ret)))) }

/-- bellcrank/bellcrankref08.kinds -/
def e58 : EFunc := { own := none, res := [(.tmp 4)], ntmps := 22, pure := false, body :=
 (.seq (.reg [⟨(some 4), (.dry (.mov (.k (.bool false)))), none⟩])
 (.seq (.seq (.reg [⟨(some 6), (.dry (.mov (.t 0))), none⟩,
 ⟨(some 7), (.dry (.len (.t 6))), none⟩,
 ⟨(some 8), (.dry (.mov (.t 1))), none⟩,
 ⟨(some 9), (.dry (.bin .gtr (.t 7) (.t 8))), none⟩])
 (.cond (.t 9)
 (.seq (.reg [⟨(some 4), (.dry (.mov (.k (.bool false)))), none⟩])
 .ret)
 .skip))
 (.seq (.seq (.reg [⟨(some 5), (.dry (.mov (.k (.int .i64 0)))), none⟩])
 (.block 0
 (.loop
 (.seq (.seq (.reg [⟨(some 10), (.dry (.mov (.t 5))), none⟩,
 ⟨(some 11), (.dry (.mov (.t 0))), none⟩,
 ⟨(some 12), (.dry (.len (.t 11))), none⟩,
 ⟨(some 13), (.dry (.bin .lss (.t 10) (.t 12))), none⟩])
 (.cond (.t 13)
 .skip
 (.exit 0)))
 (.seq (.block 1
 (.seq (.reg [⟨(some 16), (.dry (.mov (.t 0))), none⟩,
 ⟨(some 17), (.dry (.mov (.t 5))), none⟩,
 ⟨(some 18), (.dry (.iaddr 1 (.t 16) (.t 17))), none⟩,
 ⟨(some 19), (.wet (.load 1 false (.t 18))), none⟩,
 ⟨(some 20), (.call (.k (.fn 83 [] [])) [(.t 19)]), none⟩,
 ⟨(some 21), (.dry (.not (.t 20))), none⟩])
 (.cond (.t 21)
 (.seq (.reg [⟨(some 4), (.dry (.mov (.k (.bool false)))), none⟩])
 .ret)
 .skip)))
 (.reg [⟨(some 14), (.dry (.mov (.t 5))), none⟩,
 ⟨(some 15), (.dry (.bin .add (.t 14) (.k (.int .i64 1)))), none⟩,
 ⟨(some 5), (.dry (.mov (.t 15))), none⟩]))))))
 (.seq (.reg [⟨(some 4), (.dry (.mov (.k (.bool true)))), none⟩])
 .ret)))) }

/-- bellcrank/bellcrankref08.sig -/
def e59 : EFunc := { own := none, res := [(.tmp 2)], ntmps := 11, pure := false, body :=
 (.seq (.reg [⟨(some 1), (.wet (.box 2 (.t 0))), none⟩,
 ⟨(some 2), (.dry (.mov (.k (.bool false)))), none⟩])
 (.seq (.reg [⟨(some 3), (.dry (.faddr 0 1 false (.t 1))), none⟩,
 ⟨(some 4), (.wet (.load 1 false (.t 3))), none⟩,
 ⟨(some 5), (.call (.k (.fn 58 [] [])) [(.t 4), (.k (.int .i64 8))]), none⟩,
 ⟨(some 6), (.dry (.mov (.t 5))), none⟩,
 ⟨(some 7), (.dry (.faddr 1 1 false (.t 1))), (some (6, true))⟩,
 ⟨(some 8), (.wet (.load 1 false (.t 7))), (some (6, true))⟩,
 ⟨(some 9), (.call (.k (.fn 58 [] [])) [(.t 8), (.k (.int .i64 8))]), (some (6, true))⟩,
 ⟨(some 10), (.dry (.pick (.t 6) (.t 9) (.k (.bool false)))), none⟩,
 ⟨(some 2), (.dry (.mov (.t 10))), none⟩])
 .ret)) }

/-- bellcrank/bellcrankref18.Form -/
def e60 : EFunc := { own := none, res := [(.tmp 6), (.tmp 7), (.tmp 8)], ntmps := 58, pure := false, body :=
 (.seq (.reg [⟨(some 3), (.wet (.box 5 (.t 0))), none⟩,
 ⟨(some 4), (.wet (.box 2 (.t 1))), none⟩,
 ⟨(some 5), (.wet (.box 5 (.t 2))), none⟩,
 ⟨(some 6), (.dry (.mov (.k .nils))), none⟩,
 ⟨(some 7), (.dry (.mov (.k .nils))), none⟩,
 ⟨(some 8), (.dry (.mov (.k (.bool false)))), none⟩])
 (.seq (.seq (.reg [⟨(some 9), (.dry (.faddr 0 1 false (.t 5))), none⟩,
 ⟨(some 10), (.wet (.load 1 false (.t 9))), none⟩])
 (.block 0
 (.seq (.reg [⟨(some 12), (.dry (.eq (.prim .i) false (.t 10) (.k (.int .i64 272)))), none⟩,
 ⟨(some 11), (.dry (.mov (.t 12))), none⟩])
 (.cond (.t 11)
 (.seq (.draw [(⟨(some 13), (.wet (.bsl 1 1 [(.int .i64 0)] [(0, (.k (.int .i64 0)))])), none⟩, 0, false),
 (⟨(some 14), (.wet (.bsl 1 1 [(.int .i64 0)] [(0, (.k (.int .i64 0)))])), none⟩, 0, false),
 (⟨(some 15), (.dry (.faddr 1 1 false (.t 5))), none⟩, 0, false),
 (⟨(some 16), (.wet (.load 1 false (.t 15))), none⟩, 4, false),
 (⟨(some 17), (.dry (.eq (.prim .i) false (.t 16) (.k (.int .u64 0)))), none⟩, 12, false),
 (⟨(some 6), (.dry (.mov (.t 13))), none⟩, 1, false),
 (⟨(some 7), (.dry (.mov (.t 14))), none⟩, 35, false),
 (⟨(some 8), (.dry (.mov (.t 17))), none⟩, 127, false)])
 .ret)
 (.seq (.seq (.reg [⟨(some 19), (.dry (.eq (.prim .i) false (.t 10) (.k (.int .i64 273)))), none⟩,
 ⟨(some 18), (.dry (.mov (.t 19))), none⟩])
 (.cond (.t 18)
 .skip
 (.reg [⟨(some 20), (.dry (.eq (.prim .i) false (.t 10) (.k (.int .i64 277)))), none⟩,
 ⟨(some 18), (.dry (.mov (.t 20))), none⟩])))
 (.cond (.t 18)
 (.seq (.draw [(⟨(some 21), (.dry (.faddr 1 1 false (.t 5))), none⟩, 0, false),
 (⟨(some 22), (.wet (.load 1 false (.t 21))), none⟩, 1, true),
 (⟨(some 23), (.dry (.eq (.prim .i) false (.t 22) (.k (.int .u64 0)))), none⟩, 3, false),
 (⟨(some 6), (.dry (.mov (.k .nils))), none⟩, 0, false),
 (⟨(some 7), (.dry (.mov (.k .nils))), none⟩, 8, false),
 (⟨(some 8), (.dry (.mov (.t 23))), none⟩, 31, false)])
 .ret)
 (.seq (.seq (.reg [⟨(some 25), (.dry (.eq (.prim .i) false (.t 10) (.k (.int .i64 274)))), none⟩,
 ⟨(some 24), (.dry (.mov (.t 25))), none⟩])
 (.cond (.t 24)
 .skip
 (.reg [⟨(some 26), (.dry (.eq (.prim .i) false (.t 10) (.k (.int .i64 275)))), none⟩,
 ⟨(some 24), (.dry (.mov (.t 26))), none⟩])))
 (.cond (.t 24)
 (.seq (.draw [(⟨(some 27), (.wet (.bsl 1 1 [(.int .i64 0)] [(0, (.k (.int .i64 127)))])), none⟩, 0, false),
 (⟨(some 28), (.dry (.faddr 1 1 false (.t 5))), none⟩, 0, false),
 (⟨(some 29), (.wet (.load 1 false (.t 28))), none⟩, 2, false),
 (⟨(some 30), (.dry (.eq (.prim .i) false (.t 29) (.k (.int .u64 0)))), none⟩, 6, false),
 (⟨(some 6), (.dry (.mov (.t 27))), none⟩, 1, false),
 (⟨(some 7), (.dry (.mov (.k .nils))), none⟩, 17, false),
 (⟨(some 8), (.dry (.mov (.t 30))), none⟩, 63, false)])
 .ret)
 (.seq (.reg [⟨(some 32), (.dry (.eq (.prim .i) false (.t 10) (.k (.int .i64 276)))), none⟩,
 ⟨(some 31), (.dry (.mov (.t 32))), none⟩])
 (.cond (.t 31)
 (.seq (.draw [(⟨(some 33), (.dry (.faddr 1 1 false (.t 4))), none⟩, 0, false),
 (⟨(some 34), (.wet (.load 1 false (.t 33))), none⟩, 1, false),
 (⟨(some 35), (.dry (.faddr 1 1 false (.t 5))), none⟩, 0, false),
 (⟨(some 36), (.wet (.load 1 false (.t 35))), none⟩, 4, false),
 (⟨(some 37), (.dry (.eq (.prim .i) false (.t 36) (.k (.int .u64 0)))), none⟩, 12, false),
 (⟨(some 6), (.dry (.mov (.t 34))), none⟩, 3, false),
 (⟨(some 7), (.dry (.mov (.k .nils))), none⟩, 35, false),
 (⟨(some 8), (.dry (.mov (.t 37))), none⟩, 127, false)])
 .ret)
 (.seq (.reg [⟨(some 39), (.dry (.eq (.prim .i) false (.t 10) (.k (.int .i64 27)))), none⟩,
 ⟨(some 38), (.dry (.mov (.t 39))), none⟩])
 (.cond (.t 38)
 (.seq (.draw [(⟨(some 40), (.wet (.bsl 1 3 [(.int .i64 0), (.int .i64 0), (.int .i64 0)] [(0, (.k (.int .i64 0))), (1, (.k (.int .i64 0))), (2, (.k (.int .i64 127)))])), none⟩, 0, false),
 (⟨(some 41), (.wet (.bsl 1 1 [(.int .i64 0)] [(0, (.k (.int .i64 0)))])), none⟩, 0, false),
 (⟨(some 42), (.dry (.faddr 1 1 false (.t 5))), none⟩, 0, false),
 (⟨(some 43), (.wet (.load 1 false (.t 42))), none⟩, 4, false),
 (⟨(some 44), (.dry (.eq (.prim .i) false (.t 43) (.k (.int .u64 0)))), none⟩, 12, false),
 (⟨(some 6), (.dry (.mov (.t 40))), none⟩, 1, false),
 (⟨(some 7), (.dry (.mov (.t 41))), none⟩, 35, false),
 (⟨(some 8), (.dry (.mov (.t 44))), none⟩, 127, false)])
 .ret)
 (.seq (.reg [⟨(some 46), (.dry (.eq (.prim .i) false (.t 10) (.k (.int .i64 256)))), none⟩,
 ⟨(some 45), (.dry (.mov (.t 46))), none⟩])
 (.cond (.t 45)
 (.seq (.reg [⟨(some 47), (.wet (.bsl 1 1 [(.int .i64 0)] [(0, (.k (.int .i64 0)))])), none⟩,
 ⟨(some 6), (.dry (.mov (.k .nils))), none⟩,
 ⟨(some 7), (.dry (.mov (.t 47))), none⟩,
 ⟨(some 8), (.dry (.mov (.k (.bool true)))), none⟩])
 .ret)
 .skip))))))))))))))
 (.seq (.reg [⟨(some 48), (.wet (.load 5 true (.t 3))), none⟩,
 ⟨(some 49), (.dry (.faddr 0 1 false (.t 5))), none⟩,
 ⟨(some 50), (.wet (.load 1 false (.t 49))), none⟩,
 ⟨(some 51), (.dry (.faddr 1 1 false (.t 5))), none⟩,
 ⟨(some 52), (.wet (.load 1 false (.t 51))), none⟩,
 ⟨(some 53), (.dry (.build [(.int .i64 0), (.int .u64 0), .nils, .nils] [(0, 1, (.t 50)), (1, 1, (.t 52))])), none⟩,
 ⟨(some 54), (.call (.k (.fn 84 [] [])) [(.t 48), (.t 53), (.k (.int .i64 0))]), none⟩,
 ⟨(some 55), (.dry (.extract (.t 54) 0)), none⟩,
 ⟨(some 56), (.dry (.extract (.t 54) 1)), none⟩,
 ⟨(some 57), (.dry (.extract (.t 54) 2)), none⟩,
 ⟨(some 6), (.dry (.mov (.t 55))), none⟩,
 ⟨(some 7), (.dry (.mov (.t 56))), none⟩,
 ⟨(some 8), (.dry (.mov (.t 57))), none⟩])
 .ret))) }

/-- bellcrank/bellcrankref18.Next -/
def e61 : EFunc := { own := none, res := [(.tmp 4)], ntmps := 33, pure := false, body :=
 (.seq (.reg [⟨(some 2), (.wet (.box 5 (.t 0))), none⟩,
 ⟨(some 4), (.dry (.mov (.k .nils))), none⟩])
 (.seq (.reg [⟨(some 6), (.dry (.faddr 4 1 false (.t 2))), none⟩,
 ⟨(some 7), (.wet (.load 1 false (.t 6))), none⟩,
 ⟨(some 8), (.dry (.mov (.t 1))), none⟩,
 ⟨(some 9), (.dry (.iaddr 5 (.t 7) (.t 8))), none⟩,
 ⟨(some 10), (.wet (.load 5 true (.t 9))), none⟩,
 ⟨(some 5), (.wet (.alloc 129 5 [(.int .i64 0), (.int .u64 0), .nils, .nils, .nils])), none⟩,
 ⟨none, (.wet (.store 5 (.t 5) (.t 10))), none⟩])
 (.seq (.seq (.reg [⟨(some 11), (.dry (.faddr 0 1 false (.t 5))), none⟩,
 ⟨(some 12), (.wet (.load 1 false (.t 11))), none⟩])
 (.block 0
 (.seq (.seq (.reg [⟨(some 14), (.dry (.eq (.prim .i) false (.t 12) (.k (.int .i64 276)))), none⟩,
 ⟨(some 13), (.dry (.mov (.t 14))), none⟩])
 (.cond (.t 13)
 .skip
 (.reg [⟨(some 15), (.dry (.eq (.prim .i) false (.t 12) (.k (.int .i64 277)))), none⟩,
 ⟨(some 13), (.dry (.mov (.t 15))), none⟩])))
 (.cond (.t 13)
 (.seq (.reg [⟨(some 4), (.dry (.mov (.k .nils))), none⟩])
 .ret)
 (.seq (.seq (.reg [⟨(some 17), (.dry (.eq (.prim .i) false (.t 12) (.k (.int .i64 273)))), none⟩,
 ⟨(some 16), (.dry (.mov (.t 17))), none⟩])
 (.cond (.t 16)
 .skip
 (.reg [⟨(some 18), (.dry (.eq (.prim .i) false (.t 12) (.k (.int .i64 275)))), none⟩,
 ⟨(some 16), (.dry (.mov (.t 18))), none⟩])))
 (.cond (.t 16)
 (.seq (.reg [⟨(some 19), (.dry (.faddr 4 1 false (.t 5))), none⟩,
 ⟨(some 20), (.wet (.load 1 false (.t 19))), none⟩,
 ⟨(some 4), (.dry (.mov (.t 20))), none⟩])
 .ret)
 (.seq (.reg [⟨(some 22), (.dry (.eq (.prim .i) false (.t 12) (.k (.int .i64 274)))), none⟩,
 ⟨(some 21), (.dry (.mov (.t 22))), none⟩])
 (.cond (.t 21)
 (.seq (.reg [⟨(some 23), (.dry (.mov (.t 1))), none⟩,
 ⟨(some 24), (.dry (.bin .add (.t 23) (.k (.int .i64 1)))), none⟩,
 ⟨(some 25), (.dry (.faddr 4 1 false (.t 5))), none⟩,
 ⟨(some 26), (.wet (.load 1 false (.t 25))), none⟩,
 ⟨(some 27), (.dry (.iaddr 1 (.t 26) (.k (.int .i64 0)))), none⟩,
 ⟨(some 28), (.wet (.load 1 false (.t 27))), none⟩,
 ⟨(some 29), (.wet (.bsl 1 2 [(.int .i64 0), (.int .i64 0)] [(0, (.t 24)), (1, (.t 28))])), none⟩,
 ⟨(some 4), (.dry (.mov (.t 29))), none⟩])
 .ret)
 .skip))))))))
 (.seq (.reg [⟨(some 30), (.dry (.mov (.t 1))), none⟩,
 ⟨(some 31), (.dry (.bin .add (.t 30) (.k (.int .i64 1)))), none⟩,
 ⟨(some 32), (.wet (.bsl 1 1 [(.int .i64 0)] [(0, (.t 31))])), none⟩,
 ⟨(some 4), (.dry (.mov (.t 32))), none⟩])
 .ret)))) }

/-- bellcrank/bellcrankref04.Ints -/
def e62 : EFunc := { own := none, res := [(.tmp 4)], ntmps := 26, pure := false, body :=
 (.seq (.reg [⟨(some 4), (.dry (.mov (.k (.bool false)))), none⟩])
 (.seq (.seq (.reg [⟨(some 6), (.dry (.mov (.t 0))), none⟩,
 ⟨(some 7), (.dry (.len (.t 6))), none⟩,
 ⟨(some 8), (.dry (.mov (.t 1))), none⟩,
 ⟨(some 9), (.dry (.len (.t 8))), none⟩,
 ⟨(some 10), (.dry (.eq (.prim .i) true (.t 7) (.t 9))), none⟩])
 (.cond (.t 10)
 (.seq (.reg [⟨(some 4), (.dry (.mov (.k (.bool false)))), none⟩])
 .ret)
 .skip))
 (.seq (.seq (.reg [⟨(some 5), (.dry (.mov (.k (.int .i64 0)))), none⟩])
 (.block 0
 (.loop
 (.seq (.seq (.reg [⟨(some 11), (.dry (.mov (.t 5))), none⟩,
 ⟨(some 12), (.dry (.mov (.t 0))), none⟩,
 ⟨(some 13), (.dry (.len (.t 12))), none⟩,
 ⟨(some 14), (.dry (.bin .lss (.t 11) (.t 13))), none⟩])
 (.cond (.t 14)
 .skip
 (.exit 0)))
 (.seq (.block 1
 (.seq (.draw [(⟨(some 17), (.dry (.mov (.t 0))), none⟩, 0, false),
 (⟨(some 18), (.dry (.mov (.t 5))), none⟩, 0, false),
 (⟨(some 19), (.dry (.iaddr 1 (.t 17) (.t 18))), none⟩, 3, false),
 (⟨(some 20), (.wet (.load 1 false (.t 19))), none⟩, 7, false),
 (⟨(some 21), (.dry (.mov (.t 1))), none⟩, 0, false),
 (⟨(some 22), (.dry (.mov (.t 5))), none⟩, 0, false),
 (⟨(some 23), (.dry (.iaddr 1 (.t 21) (.t 22))), none⟩, 48, false),
 (⟨(some 24), (.wet (.load 1 false (.t 23))), none⟩, 112, false),
 (⟨(some 25), (.dry (.eq (.prim .i) true (.t 20) (.t 24))), none⟩, 255, false)])
 (.cond (.t 25)
 (.seq (.reg [⟨(some 4), (.dry (.mov (.k (.bool false)))), none⟩])
 .ret)
 .skip)))
 (.reg [⟨(some 15), (.dry (.mov (.t 5))), none⟩,
 ⟨(some 16), (.dry (.bin .add (.t 15) (.k (.int .i64 1)))), none⟩,
 ⟨(some 5), (.dry (.mov (.t 16))), none⟩]))))))
 (.seq (.reg [⟨(some 4), (.dry (.mov (.k (.bool true)))), none⟩])
 .ret)))) }

/-- (*bellcrank/lower.machine).run$1 -/
def e63 : EFunc := { own := none, res := [], ntmps := 9, pure := false, body :=
 (.seq (.reg [⟨(some 3), .recover, none⟩,
 mv 2 3])
 (.seq (.reg [mv 4 2,
 dr 5 (.eq .ifc true (.t 4) (.k .nili))])
 (.cond (.t 5)
 (.draw [(mv 6 2, 0, false),
 (dr 7 (.assert 120 (.t 6)), 1, false),
 (dr 8 (.fld 0 1 false (.t 7)), 3, false),
 (wn (.store 1 (.t 0) (.k .nils)), 0, true),
 (wn (.store 1 (.t 1) (.t 8)), 15, true)])
 .skip))) }

/-- (*bellcrank/lower.machine).call -/
def e64 : EFunc := { own := none, res := [(.tmp 6)], ntmps := 166, pure := false, body :=
 (.seq (.reg [dr 6 (.mov (.k .nils))])
 (.seq (.reg [mv 20 0,
 dr 21 (.nilchk (.t 20)),
 dr 22 (.faddr 0 6 true (.t 21)),
 dr 23 (.faddr 0 5 true (.t 22)),
 dr 24 (fa 0 23),
 wt 25 (l1 24),
 mv 26 1,
 dr 27 (.iaddr 2 (.t 25) (.t 26)),
 dr 28 (fa 0 27),
 wt 29 (l1 28),
 mv 30 2,
 cl 31 (kf 85) [(.t 29), (.t 30)],
 mv 2 31])
 (.seq (.seq (.reg [mv 32 1,
 mv 33 0,
 dr 34 (.nilchk (.t 33)),
 dr 35 (.faddr 0 6 true (.t 34)),
 dr 36 (.faddr 0 5 true (.t 35)),
 dr 37 (fa 1 36),
 wt 38 (l1 37),
 dr 39 (.bin .lss (.t 32) (.t 38))])
 (.cond (.t 39)
 (.seq (.reg [mv 40 0,
 mv 41 1,
 mv 42 2,
 cl 43 (kf 86) [(.t 40), (.t 41), (.t 42)],
 mv 6 43])
 .ret)
 .skip))
 (.seq (.reg [mv 44 0,
 dr 45 (.nilchk (.t 44)),
 dr 46 (fa 12 45),
 wt 47 (l1 46),
 dr 48 (.bin .lss (.t 47) (ki 16)),
 cl 49 (kf 87) [(.t 48), (ki 37)]])
 (.seq (.reg [mv 50 0,
 dr 51 (.nilchk (.t 50)),
 dr 52 (fa 12 51),
 wt 53 (l1 52),
 dr 54 (.bin .add (.t 53) (ki 1)),
 dr 55 (.nilchk (.t 50)),
 dr 56 (fa 12 55),
 wn (.store 1 (.t 56) (.t 54))])
 (.seq (.draw [(mv 57 0, 0, false),
 (dr 58 (.nilchk (.t 57)), 1, false),
 (dr 59 (.faddr 0 6 true (.t 58)), 3, false),
 (dr 60 (fa 5 59), 7, false),
 (wt 61 (l1 60), 15, false),
 (mv 62 1, 0, false),
 (mv 63 0, 0, false),
 (dr 64 (.nilchk (.t 63)), 64, false),
 (dr 65 (.faddr 0 6 true (.t 64)), 192, false),
 (dr 66 (.faddr 0 5 true (.t 65)), 448, false),
 (dr 67 (fa 1 66), 960, false),
 (wt 68 (l1 67), 1984, false),
 (dr 69 (.bin .sub (.t 62) (.t 68)), 4064, false),
 (dr 70 (.iaddr 5 (.t 61) (.t 69)), 8191, false),
 (wt 71 (.load 5 true (.t 70)), 16383, false),
 (wt 7 (.alloc 71 5 [.nils, .nils, (ig 0), .nils, .nils]), 0, false),
 (wn (.store 5 (.t 7) (.t 71)), 65535, true)])
 (.seq (.reg [dr 72 (fa 2 7),
 wt 73 (l1 72),
 wt 74 (.mksl 1 8 [(.int .u64 0)] (.t 73) (.t 73)),
 mv 8 74])
 (.seq (.seq (.reg [dr 75 (fa 3 7),
 wt 76 (l1 75),
 dr 77 (.len (.t 76)),
 dr 78 (.mov (ki 0))])
 (.block 0
 (.loop
 (.seq (.reg [dr 79 (.bin .lss (.t 78) (.t 77))])
 (.seq (.cond (.t 79)
 .skip
 (.exit 0))
 (.seq (.block 1
 (.seq (.reg [mv 80 78,
 dr 81 (.iaddr 1 (.t 76) (.t 78)),
 wt 82 (l1 81),
 mv 9 80,
 mv 10 82])
 (.reg [mv 83 8,
 mv 84 10,
 mv 85 2,
 mv 86 9,
 dr 87 (.iaddr 1 (.t 85) (.t 86)),
 wt 88 (l1 87),
 dr 89 (.iaddr 1 (.t 83) (.t 84)),
 wn (.store 1 (.t 89) (.t 88))])))
 (.reg [dr 90 (.bin .add (.t 78) (ki 1)),
 mv 78 90])))))))
 (.seq (.reg [dr 11 (.mov (ki 0))])
 (.seq (.block 2
 (.loop
 (.seq (.seq (.reg [mv 91 11,
 dr 92 (.bin .geq (.t 91) (ki 0))])
 (.cond (.t 92)
 .skip
 (.exit 2)))
 (.block 3
 (.seq (.reg [dr 93 (fa 4 7),
 wt 94 (l1 93),
 mv 95 11,
 dr 96 (.iaddr 5 (.t 94) (.t 95)),
 wt 97 (.load 5 true (.t 96)),
 wt 12 (.alloc 129 5 [(ig 0), (.int .u64 0), .nils, .nils, .nils]),
 wn (.store 5 (.t 12) (.t 97))])
 (.seq (.reg [dr 13 (.mov (.k .nils))])
 (.seq (.seq (.reg [dr 98 (fa 2 12),
 wt 99 (l1 98),
 dr 100 (.len (.t 99)),
 dr 101 (.mov (ki 0))])
 (.block 4
 (.loop
 (.seq (.reg [dr 102 (.bin .lss (.t 101) (.t 100))])
 (.seq (.cond (.t 102)
 .skip
 (.exit 4))
 (.seq (.block 5
 (.seq (.reg [dr 103 (.iaddr 1 (.t 99) (.t 101)),
 wt 104 (l1 103),
 mv 15 104])
 (.reg [mv 105 13,
 mv 106 8,
 mv 107 15,
 dr 108 (.iaddr 1 (.t 106) (.t 107)),
 wt 109 (l1 108),
 wt 110 (.bsl 1 1 [(.int .u64 0)] [(0, (.t 109))]),
 wt 111 (.append 124 1 8 (.t 105) (.t 110)),
 mv 13 111])))
 (.reg [dr 112 (.bin .add (.t 101) (ki 1)),
 mv 101 112])))))))
 (.seq (.draw [(mv 114 0, 0, false),
 (dr 115 (.nilchk (.t 114)), 1, false),
 (dr 116 (.faddr 0 6 true (.t 115)), 3, false),
 (dr 117 (.faddr 0 5 true (.t 116)), 7, false),
 (wt 118 (.load 5 true (.t 117)), 15, false),
 (dr 119 (.faddr 0 2 true (.t 7)), 0, false),
 (wt 120 (.load 2 true (.t 119)), 32, false),
 (dr 121 (fa 0 12), 0, false),
 (wt 122 (l1 121), 128, false),
 (dr 123 (fa 1 12), 0, false),
 (wt 124 (l1 123), 512, false),
 (cl 125 (kf 54) [(.t 118), (.t 120), (.t 122), (.t 124)], 2047, false),
 (mv 113 125, 4095, false),
 (dr 126 (.extract (.t 113) 0), 8191, false),
 (dr 127 (.extract (.t 113) 1), 8191, false),
 (wt 16 (.alloc 205 5 [.nils, .nils, (.int .u64 0), (ig 0), (ig 0)]), 0, false),
 (wn (.store 5 (.t 16) (.t 126)), 49151, true),
 (mv 17 127, 131071, false)])
 (.seq (.reg [dr 128 (fa 0 16),
 wt 129 (l1 128),
 mv 130 13,
 cl 131 (kf 85) [(.t 129), (.t 130)],
 mv 13 131])
 (.seq (.seq (.reg [dr 132 (fa 0 12),
 wt 133 (l1 132),
 dr 134 (.eq (.prim .i) false (.t 133) (ki 276))])
 (.cond (.t 134)
 (.seq (.reg [mv 135 0,
 dr 136 (.nilchk (.t 135)),
 dr 137 (fa 12 136),
 wt 138 (l1 137),
 dr 139 (.bin .sub (.t 138) (ki 1)),
 dr 140 (.nilchk (.t 135)),
 dr 141 (fa 12 140),
 wn (.store 1 (.t 141) (.t 139))])
 (.seq (.reg [mv 142 13,
 mv 6 142])
 .ret))
 .skip))
 (.seq (.seq (.reg [mv 143 0,
 wt 144 (.load 5 true (.t 12)),
 mv 145 13,
 cl 146 (kf 88) [(.t 143), (.t 144), (.t 145)],
 dr 147 (.len (.t 146)),
 dr 148 (.mov (ki 0))])
 (.block 6
 (.loop
 (.seq (.reg [dr 149 (.bin .lss (.t 148) (.t 147))])
 (.seq (.cond (.t 149)
 .skip
 (.exit 6))
 (.seq (.block 7
 (.seq (.reg [mv 150 148,
 dr 151 (.iaddr 1 (.t 146) (.t 148)),
 wt 152 (l1 151),
 mv 18 150,
 mv 19 152])
 (.reg [mv 153 8,
 dr 154 (fa 3 12),
 wt 155 (l1 154),
 mv 156 18,
 dr 157 (.iaddr 1 (.t 155) (.t 156)),
 wt 158 (l1 157),
 mv 159 19,
 dr 160 (.iaddr 1 (.t 153) (.t 158)),
 wn (.store 1 (.t 160) (.t 159))])))
 (.reg [dr 161 (.bin .add (.t 148) (ki 1)),
 mv 148 161])))))))
 (.reg [wt 162 (.load 5 true (.t 12)),
 mv 163 13,
 mv 164 11,
 cl 165 (kf 89) [(.t 162), (.t 163), (.t 164)],
 mv 11 165]))))))))))))
 (.seq (.reg [dr 6 (.mov (.k .nils))])
 .ret))))))))))) }

/-- bellcrank/ssa.Check -/
def e69 : EFunc := { own := none, res := [(.tmp 4)], ntmps := 82, pure := false, body :=
 (.seq (.reg [wt 2 (.box 5 (.t 0)),
 wt 3 (.box 4 (.t 1)),
 dr 4 (.mov (.k (.bool false)))])
 (.seq (.seq (.reg [wt 10 (.load 5 true (.t 2)),
 cl 11 (kf 19) [(.t 10)],
 dr 12 (.not (.t 11)),
 mv 13 12,
 wg 14 13 false (.load 4 true (.t 3)),
 cg 15 13 false (kf 95) [(.t 14)],
 dg 16 13 false (.not (.t 15)),
 dr 17 (.pick (.t 13) (.k (.bool true)) (.t 16)),
 mv 18 17,
 dg 19 18 false (fa 3 3),
 wg 20 18 false (l1 19),
 dg 21 18 false (.len (.t 20)),
 dg 22 18 false (.bin .gtr (.t 21) (ki 256)),
 dr 23 (.pick (.t 18) (.k (.bool true)) (.t 22)),
 mv 24 23,
 dg 25 24 false (fa 2 3),
 wg 26 24 false (l1 25),
 cg 27 24 false (kf 47) [(ki 2048), (.t 26)],
 dg 28 24 false (.not (.t 27)),
 dr 29 (.pick (.t 24) (.k (.bool true)) (.t 28)),
 mv 30 29,
 dg 31 30 false (.faddr 0 2 true (.t 3)),
 wg 32 30 false (.load 2 true (.t 31)),
 cg 33 30 false (kf 50) [(.t 32)],
 dg 34 30 false (.not (.t 33)),
 dr 35 (.pick (.t 30) (.k (.bool true)) (.t 34))])
 (.cond (.t 35)
 (.seq (.reg [dr 4 (.mov (.k (.bool false)))])
 .ret)
 .skip))
 (.seq (.reg [wt 36 (.load 5 true (.t 2)),
 wt 37 (.load 4 true (.t 3)),
 dr 38 (.build [.nils, (ig 0), .nils, .nils, (.bool false), .nils, .nils, .nils, .nils, .nils, .nils] [(0, 5, (.t 36)), (5, 4, (.t 37))]),
 wt 39 (.box 11 (.t 38)),
 mv 5 39])
 (.seq (.seq (.reg [dr 40 (fa 3 3),
 wt 41 (l1 40),
 cl 42 (kf 96) [(.t 41), (kf 97)],
 mv 43 42,
 dg 44 43 false (.mov (.t 5)),
 cg 45 43 false (kf 98) [(.t 44)],
 dg 46 43 false (.not (.t 45)),
 dr 47 (.pick (.t 43) (.k (.bool true)) (.t 46)),
 mv 48 47,
 dg 49 48 false (.mov (.t 5)),
 cg 50 48 false (kf 99) [(.t 49)],
 dg 51 48 false (.not (.t 50)),
 dr 52 (.pick (.t 48) (.k (.bool true)) (.t 51))])
 (.cond (.t 52)
 (.seq (.reg [dr 4 (.mov (.k (.bool false)))])
 .ret)
 .skip))
 (.seq (.seq (.reg [dr 53 (fa 3 3),
 wt 54 (l1 53),
 dr 55 (.len (.t 54)),
 dr 56 (.mov (ki 0))])
 (.block 0
 (.loop
 (.seq (.reg [dr 57 (.bin .lss (.t 56) (.t 55))])
 (.seq (.cond (.t 57)
 .skip
 (.exit 0))
 (.seq (.block 1
 (.seq (.reg [mv 58 56,
 dr 59 (.iaddr 6 (.t 54) (.t 56)),
 wt 60 (.load 6 true (.t 59)),
 wt 7 (.alloc 237 6 [.nils, .nils, (ig 0), (ig 0), .nils, .nils]),
 mv 6 58,
 wn (.store 6 (.t 7) (.t 60))])
 (.seq (.seq (.reg [dr 61 (fa 1 7),
 wt 62 (l1 61),
 dr 63 (.len (.t 62)),
 dr 64 (.mov (ki 0))])
 (.block 2
 (.loop
 (.seq (.reg [dr 65 (.bin .lss (.t 64) (.t 63))])
 (.seq (.cond (.t 65)
 .skip
 (.exit 2))
 (.seq (.block 3
 (.seq (.reg [mv 66 64,
 dr 67 (.iaddr 4 (.t 62) (.t 64)),
 wt 68 (.load 4 true (.t 67)),
 wt 9 (.alloc 225 4 [(ig 0), (.int .u64 0), .nils, .nils]),
 mv 8 66,
 wn (.store 4 (.t 9) (.t 68))])
 (.seq (.reg [mv 69 5,
 mv 70 6,
 mv 71 8,
 wt 72 (.load 4 true (.t 9)),
 cl 73 (kf 100) [(.t 69), (.t 70), (.t 71), (.t 72)],
 dr 74 (.not (.t 73))])
 (.cond (.t 74)
 (.seq (.reg [dr 4 (.mov (.k (.bool false)))])
 .ret)
 .skip))))
 (.reg [dr 75 (.bin .add (.t 64) (ki 1)),
 mv 64 75])))))))
 (.seq (.reg [mv 76 5,
 mv 77 6,
 wt 78 (.load 6 true (.t 7)),
 cl 79 (kf 101) [(.t 76), (.t 77), (.t 78)],
 dr 80 (.not (.t 79))])
 (.cond (.t 80)
 (.seq (.reg [dr 4 (.mov (.k (.bool false)))])
 .ret)
 .skip)))))
 (.reg [dr 81 (.bin .add (.t 56) (ki 1)),
 mv 56 81])))))))
 (.seq (.reg [dr 4 (.mov (.k (.bool true)))])
 .ret)))))) }

/-- slices.Clone[[]int,int] -/
def e70 : EFunc := { own := none, res := [(.tmp 2)], ntmps := 8, pure := false, body :=
 (.seq (.reg [dr 2 (.mov (.k .nils))])
 (.seq (.seq (.reg [mv 3 0,
 dr 4 (.eq (.ref .s) false (.t 3) (.k .nils))])
 (.cond (.t 4)
 (.seq (.reg [dr 2 (.mov (.k .nils))])
 .ret)
 .skip))
 (.seq (.reg [wt 5 (.bsl 1 0 [] []),
 mv 6 0,
 wt 7 (.append 8 1 8 (.t 5) (.t 6)),
 mv 2 7])
 .ret))) }

/-- (*bellcrank/lower.writer).put -/
def e71 : EFunc := { own := none, res := [(.tmp 12)], ntmps := 40, pure := false, body :=
 (.seq (.reg [dr 12 (.mov (ki 0))])
 (.seq (.draw [(mv 13 0, 0, false),
 (mv 14 0, 0, false),
 (dr 15 (.nilchk (.t 14)), 2, false),
 (dr 16 (.faddr 4 5 true (.t 15)), 6, false),
 (dr 17 (fa 4 16), 14, false),
 (wt 18 (l1 17), 30, false),
 (mv 19 1, 0, false),
 (mv 20 2, 0, false),
 (mv 21 3, 0, false),
 (cl 22 (kf 70) [(.t 21)], 256, false),
 (mv 23 4, 0, false),
 (cl 24 (kf 70) [(.t 23)], 1792, false),
 (mv 25 5, 0, false),
 (wt 26 (.mksl 1 8 [(ig 0)] (.t 25) (.t 25)), 4096, false),
 (dr 27 (.build [(ig 0), (.int .u64 0), .nils, .nils, .nils] [(0, 1, (.t 19)), (1, 1, (.t 20)), (2, 1, (.t 22)), (3, 1, (.t 24)), (4, 1, (.t 26))]), 16320, false),
 (wt 28 (.bsl 5 1 [(ig 0), (.int .u64 0), .nils, .nils, .nils] [(0, (.t 27))]), 32704, false),
 (wt 29 (.append 128 5 88 (.t 18) (.t 28)), 65534, true),
 (dr 30 (.nilchk (.t 13)), 131071, false),
 (dr 31 (.faddr 4 5 true (.t 30)), 262143, false),
 (dr 32 (fa 4 31), 524287, false),
 (wn (.store 1 (.t 32) (.t 29)), 1048575, true)])
 (.seq (.reg [mv 33 0,
 dr 34 (.nilchk (.t 33)),
 dr 35 (.faddr 4 5 true (.t 34)),
 dr 36 (fa 4 35),
 wt 37 (l1 36),
 dr 38 (.len (.t 37)),
 dr 39 (.bin .sub (.t 38) (ki 1)),
 mv 12 39])
 .ret))) }

/-- (*bellcrank/lower.writer).end -/
def e72 : EFunc := { own := none, res := [], ntmps := 72, pure := false, body :=
 (.seq (.reg [wt 3 (.box 4 (.t 1))])
 (.seq (.reg [dr 7 (fa 0 3),
 wt 8 (l1 7)])
 (.block 0
 (.seq (.reg [dr 10 (.eq (.prim .i) false (.t 8) (ki 1)),
 mv 9 10])
 (.cond (.t 9)
 (.reg [mv 11 0,
 dr 12 (fa 2 3),
 wt 13 (l1 12),
 dr 14 (.iaddr 2 (.t 13) (ki 0)),
 wt 15 (.load 2 true (.t 14)),
 cl 16 (kf 102) [(.t 11), (.t 15)]])
 (.seq (.reg [dr 18 (.eq (.prim .i) false (.t 8) (ki 2)),
 mv 17 18])
 (.cond (.t 17)
 (.seq (.draw [(mv 19 0, 0, false),
 (mv 20 0, 0, false),
 (dr 21 (fa 1 3), 0, false),
 (wt 22 (l1 21), 4, false),
 (wt 23 (.bsl 1 1 [(ig 0)] [(0, (.t 22))]), 12, false),
 (cl 24 (kf 71) [(.t 20), (ki 274), (.k (.int .u64 0)), (.t 23), (.k .nils), (ki 1)], 30, false),
 (dr 25 (fa 2 3), 0, false),
 (wt 26 (l1 25), 64, false),
 (dr 27 (.iaddr 2 (.t 26) (ki 0)), 192, false),
 (wt 28 (.load 2 true (.t 27)), 448, false),
 (cl 29 (kf 103) [(.t 19), (.t 24), (ki 0), (.t 28)], 1023, true)])
 (.draw [(mv 30 0, 0, false),
 (mv 31 0, 0, false),
 (cl 32 (kf 71) [(.t 31), (ki 273), (.k (.int .u64 0)), (.k .nils), (.k .nils), (ki 1)], 2, false),
 (dr 33 (fa 2 3), 0, false),
 (wt 34 (l1 33), 8, false),
 (dr 35 (.iaddr 2 (.t 34) (ki 1)), 24, false),
 (wt 36 (.load 2 true (.t 35)), 56, false),
 (cl 37 (kf 103) [(.t 30), (.t 32), (ki 0), (.t 36)], 127, true)]))
 (.seq (.reg [dr 39 (.eq (.prim .i) false (.t 8) (ki 3)),
 mv 38 39])
 (.cond (.t 38)
 (.seq (.reg [mv 40 0,
 dr 41 (fa 1 3),
 wt 42 (l1 41),
 wt 43 (.bsl 1 1 [(ig 0)] [(0, (.t 42))]),
 dr 44 (fa 2 3),
 wt 45 (l1 44),
 dr 46 (.len (.t 45)),
 cl 47 (kf 71) [(.t 40), (ki 275), (.k (.int .u64 0)), (.t 43), (.k .nils), (.t 46)],
 mv 4 47])
 (.seq (.reg [dr 48 (fa 2 3),
 wt 49 (l1 48),
 dr 50 (.len (.t 49)),
 dr 51 (.mov (ki 0))])
 (.block 1
 (.loop
 (.seq (.reg [dr 52 (.bin .lss (.t 51) (.t 50))])
 (.seq (.cond (.t 52)
 .skip
 (.exit 1))
 (.seq (.block 2
 (.seq (.reg [mv 53 51,
 dr 54 (.iaddr 2 (.t 49) (.t 51)),
 wt 55 (.load 2 true (.t 54)),
 wt 6 (.alloc 289 2 [(ig 0), .nils]),
 mv 5 53,
 wn (.store 2 (.t 6) (.t 55))])
 (.reg [mv 56 0,
 mv 57 4,
 mv 58 5,
 wt 59 (.load 2 true (.t 6)),
 cl 60 (kf 103) [(.t 56), (.t 57), (.t 58), (.t 59)]])))
 (.reg [dr 61 (.bin .add (.t 51) (ki 1)),
 mv 51 61]))))))))
 (.seq (.reg [dr 63 (.eq (.prim .i) false (.t 8) (ki 4)),
 mv 62 63])
 (.cond (.t 62)
 (.reg [mv 64 0,
 dr 65 (fa 3 3),
 wt 66 (l1 65),
 cl 67 (kf 71) [(.t 64), (ki 276), (.k (.int .u64 0)), (.t 66), (.k .nils), (ki 0)]])
 (.seq (.reg [dr 69 (.eq (.prim .i) false (.t 8) (ki 5)),
 mv 68 69])
 (.cond (.t 68)
 (.reg [mv 70 0,
 cl 71 (kf 71) [(.t 70), (ki 277), (.k (.int .u64 0)), (.k .nils), (.k .nils), (ki 0)]])
 .skip))))))))))))) }

/-- bellcrank/ssa.kinds$1 -/
def e77 : EFunc := { own := none, res := [(.tmp 2)], ntmps := 6, pure := false, body :=
 (.seq (.reg [⟨(some 2), (.dry (.mov (.k (.bool false)))), none⟩])
 (.seq (.reg [⟨(some 3), (.dry (.mov (.t 0))), none⟩,
 ⟨(some 4), (.call (.k (.fn 78 [] [])) [(.t 3)]), none⟩,
 ⟨(some 5), (.dry (.not (.t 4))), none⟩,
 ⟨(some 2), (.dry (.mov (.t 5))), none⟩])
 .ret)) }

/-- bellcrank/ssa.isKind -/
def e78 : EFunc := { own := none, res := [(.tmp 2)], ntmps := 9, pure := false, body :=
 (.seq (.reg [⟨(some 2), (.dry (.mov (.k (.bool false)))), none⟩])
 (.seq (.reg [⟨(some 3), (.dry (.mov (.t 0))), none⟩,
 ⟨(some 4), (.dry (.eq (.prim .i) false (.t 3) (.k (.int .i64 127)))), none⟩,
 ⟨(some 5), (.dry (.mov (.t 4))), none⟩,
 ⟨(some 6), (.dry (.mov (.t 0))), (some (5, false))⟩,
 ⟨(some 7), (.dry (.eq (.prim .i) false (.t 6) (.k (.int .i64 126)))), (some (5, false))⟩,
 ⟨(some 8), (.dry (.pick (.t 5) (.k (.bool true)) (.t 7))), none⟩,
 ⟨(some 2), (.dry (.mov (.t 8))), none⟩])
 .ret)) }

/-- slices.IndexFunc[[]bellcrank/api.Sig,bellcrank/api.Sig] -/
def e79 : EFunc := { own := none, res := [(.tmp 4)], ntmps := 19, pure := false, body :=
 (.seq (.reg [⟨(some 4), (.dry (.mov (.k (.int .i64 0)))), none⟩])
 (.seq (.seq (.reg [⟨(some 6), (.dry (.mov (.t 0))), none⟩,
 ⟨(some 7), (.dry (.len (.t 6))), none⟩,
 ⟨(some 8), (.dry (.mov (.k (.int .i64 0)))), none⟩])
 (.block 0
 (.loop
 (.seq (.reg [⟨(some 9), (.dry (.bin .lss (.t 8) (.t 7))), none⟩])
 (.seq (.cond (.t 9)
 .skip
 (.exit 0))
 (.seq (.block 1
 (.seq (.reg [⟨(some 10), (.dry (.mov (.t 8))), none⟩,
 ⟨(some 5), (.dry (.mov (.t 10))), none⟩])
 (.seq (.reg [⟨(some 11), (.dry (.mov (.t 1))), none⟩,
 ⟨(some 12), (.dry (.mov (.t 0))), none⟩,
 ⟨(some 13), (.dry (.mov (.t 5))), none⟩,
 ⟨(some 14), (.dry (.iaddr 2 (.t 12) (.t 13))), none⟩,
 ⟨(some 15), (.wet (.load 2 true (.t 14))), none⟩,
 ⟨(some 16), (.call (.t 11) [(.t 15)]), none⟩])
 (.cond (.t 16)
 (.seq (.reg [⟨(some 17), (.dry (.mov (.t 5))), none⟩,
 ⟨(some 4), (.dry (.mov (.t 17))), none⟩])
 .ret)
 .skip))))
 (.reg [⟨(some 18), (.dry (.bin .add (.t 8) (.k (.int .i64 1)))), none⟩,
 ⟨(some 8), (.dry (.mov (.t 18))), none⟩])))))))
 (.seq (.reg [⟨(some 4), (.dry (.mov (.k (.int .i64 (-1))))), none⟩])
 .ret))) }

/-- slices.IndexFunc[[]int,int] -/
def e80 : EFunc := { own := none, res := [(.tmp 4)], ntmps := 19, pure := false, body :=
 (.seq (.reg [⟨(some 4), (.dry (.mov (.k (.int .i64 0)))), none⟩])
 (.seq (.seq (.reg [⟨(some 6), (.dry (.mov (.t 0))), none⟩,
 ⟨(some 7), (.dry (.len (.t 6))), none⟩,
 ⟨(some 8), (.dry (.mov (.k (.int .i64 0)))), none⟩])
 (.block 0
 (.loop
 (.seq (.reg [⟨(some 9), (.dry (.bin .lss (.t 8) (.t 7))), none⟩])
 (.seq (.cond (.t 9)
 .skip
 (.exit 0))
 (.seq (.block 1
 (.seq (.reg [⟨(some 10), (.dry (.mov (.t 8))), none⟩,
 ⟨(some 5), (.dry (.mov (.t 10))), none⟩])
 (.seq (.reg [⟨(some 11), (.dry (.mov (.t 1))), none⟩,
 ⟨(some 12), (.dry (.mov (.t 0))), none⟩,
 ⟨(some 13), (.dry (.mov (.t 5))), none⟩,
 ⟨(some 14), (.dry (.iaddr 1 (.t 12) (.t 13))), none⟩,
 ⟨(some 15), (.wet (.load 1 false (.t 14))), none⟩,
 ⟨(some 16), (.call (.t 11) [(.t 15)]), none⟩])
 (.cond (.t 16)
 (.seq (.reg [⟨(some 17), (.dry (.mov (.t 5))), none⟩,
 ⟨(some 4), (.dry (.mov (.t 17))), none⟩])
 .ret)
 .skip))))
 (.reg [⟨(some 18), (.dry (.bin .add (.t 8) (.k (.int .i64 1)))), none⟩,
 ⟨(some 8), (.dry (.mov (.t 18))), none⟩])))))))
 (.seq (.reg [⟨(some 4), (.dry (.mov (.k (.int .i64 (-1))))), none⟩])
 .ret))) }

/-- bellcrank/num.Sig -/
def e81 : EFunc := { own := none, res := [(.tmp 2), (.tmp 3), (.tmp 4)], ntmps := 43, pure := false, body :=
 (.seq (.reg [⟨(some 2), (.dry (.mov (.k .nils))), none⟩,
 ⟨(some 3), (.dry (.mov (.k (.int .i64 0)))), none⟩,
 ⟨(some 4), (.dry (.mov (.k (.bool false)))), none⟩])
 (.seq (.reg [⟨(some 11), (.dry (.mov (.t 0))), none⟩,
 ⟨(some 12), (.call (.k (.fn 117 [] [])) [(.t 11)]), none⟩,
 ⟨(some 10), (.dry (.mov (.t 12))), none⟩,
 ⟨(some 13), (.dry (.extract (.t 10) 0)), none⟩,
 ⟨(some 14), (.dry (.extract (.t 10) 1)), none⟩,
 ⟨(some 15), (.dry (.extract (.t 10) 2)), none⟩,
 ⟨(some 5), (.wet (.alloc 383 4 [(.int .i64 0), (.int .i64 0), (.int .i64 0), (.int .i64 0)])), none⟩,
 ⟨none, (.wet (.store 4 (.t 5) (.t 13))), none⟩,
 ⟨(some 6), (.dry (.mov (.t 14))), none⟩,
 ⟨(some 7), (.dry (.mov (.t 15))), none⟩])
 (.seq (.seq (.reg [⟨(some 16), (.dry (.mov (.t 7))), none⟩,
 ⟨(some 17), (.dry (.not (.t 16))), none⟩])
 (.cond (.t 17)
 (.seq (.reg [⟨(some 2), (.dry (.mov (.k .nils))), none⟩,
 ⟨(some 3), (.dry (.mov (.k (.int .i64 0)))), none⟩,
 ⟨(some 4), (.dry (.mov (.k (.bool false)))), none⟩])
 .ret)
 .skip))
 (.seq (.draw [(⟨(some 18), (.dry (.faddr 3 1 false (.t 5))), none⟩, 0, false),
 (⟨(some 19), (.wet (.load 1 false (.t 18))), none⟩, 1, false),
 (⟨(some 20), (.wet (.bsl 1 1 [(.int .i64 0)] [(0, (.t 19))])), none⟩, 3, false),
 (⟨(some 21), (.dry (.faddr 3 1 false (.t 5))), none⟩, 0, false),
 (⟨(some 22), (.wet (.load 1 false (.t 21))), none⟩, 8, false),
 (⟨(some 8), (.dry (.mov (.t 20))), none⟩, 7, false),
 (⟨(some 9), (.dry (.mov (.t 22))), none⟩, 63, false)])
 (.seq (.seq (.reg [⟨(some 23), (.dry (.faddr 2 1 false (.t 5))), none⟩,
 ⟨(some 24), (.wet (.load 1 false (.t 23))), none⟩])
 (.block 0
 (.seq (.seq (.reg [⟨(some 26), (.dry (.eq (.prim .i) false (.t 24) (.k (.int .i64 1)))), none⟩,
 ⟨(some 25), (.dry (.mov (.t 26))), none⟩])
 (.cond (.t 25)
 .skip
 (.reg [⟨(some 27), (.dry (.eq (.prim .i) false (.t 24) (.k (.int .i64 3)))), none⟩,
 ⟨(some 25), (.dry (.mov (.t 27))), none⟩])))
 (.cond (.t 25)
 (.reg [⟨(some 28), (.dry (.mov (.t 8))), none⟩,
 ⟨(some 29), (.dry (.faddr 3 1 false (.t 5))), none⟩,
 ⟨(some 30), (.wet (.load 1 false (.t 29))), none⟩,
 ⟨(some 31), (.wet (.bsl 1 1 [(.int .i64 0)] [(0, (.t 30))])), none⟩,
 ⟨(some 32), (.wet (.append 8 1 8 (.t 28) (.t 31))), none⟩,
 ⟨(some 8), (.dry (.mov (.t 32))), none⟩])
 .skip))))
 (.seq (.seq (.reg [⟨(some 33), (.dry (.faddr 2 1 false (.t 5))), none⟩,
 ⟨(some 34), (.wet (.load 1 false (.t 33))), none⟩])
 (.block 1
 (.seq (.seq (.reg [⟨(some 36), (.dry (.eq (.prim .i) false (.t 34) (.k (.int .i64 0)))), none⟩,
 ⟨(some 35), (.dry (.mov (.t 36))), none⟩])
 (.cond (.t 35)
 .skip
 (.seq (.reg [⟨(some 37), (.dry (.eq (.prim .i) false (.t 34) (.k (.int .i64 1)))), none⟩,
 ⟨(some 35), (.dry (.mov (.t 37))), none⟩])
 (.cond (.t 35)
 .skip
 (.reg [⟨(some 38), (.dry (.eq (.prim .i) false (.t 34) (.k (.int .i64 4)))), none⟩,
 ⟨(some 35), (.dry (.mov (.t 38))), none⟩])))))
 (.cond (.t 35)
 (.reg [⟨(some 9), (.dry (.mov (.k (.int .i64 127)))), none⟩])
 (.seq (.reg [⟨(some 40), (.dry (.eq (.prim .i) false (.t 34) (.k (.int .i64 5)))), none⟩,
 ⟨(some 39), (.dry (.mov (.t 40))), none⟩])
 (.cond (.t 39)
 (.reg [⟨(some 9), (.dry (.mov (.k (.int .i64 126)))), none⟩])
 .skip))))))
 (.seq (.reg [⟨(some 41), (.dry (.mov (.t 8))), none⟩,
 ⟨(some 42), (.dry (.mov (.t 9))), none⟩,
 ⟨(some 2), (.dry (.mov (.t 41))), none⟩,
 ⟨(some 3), (.dry (.mov (.t 42))), none⟩,
 ⟨(some 4), (.dry (.mov (.k (.bool true)))), none⟩])
 .ret))))))) }

/-- bellcrank/lower.memory -/
def e82 : EFunc := { own := none, res := [(.cell 4 5 true), (.tmp 5)], ntmps := 52, pure := false, body :=
 (.seq (.reg [⟨(some 4), (.wet (.alloc 205 5 [.nils, .nils, (.int .u64 0), (.int .i64 0), (.int .i64 0)])), none⟩,
 ⟨(some 5), (.dry (.mov (.k (.bool false)))), none⟩])
 (.seq (.reg [⟨(some 11), (.wet (.bsl 1 1 [(.int .i64 0)] [(0, (.k (.int .i64 127)))])), none⟩,
 ⟨(some 6), (.dry (.mov (.t 11))), none⟩])
 (.seq (.reg [⟨(some 13), (.dry (.mov (.t 0))), none⟩,
 ⟨(some 14), (.call (.k (.fn 118 [] [])) [(.t 13)]), none⟩,
 ⟨(some 12), (.dry (.mov (.t 14))), none⟩,
 ⟨(some 15), (.dry (.extract (.t 12) 0)), none⟩,
 ⟨(some 16), (.dry (.extract (.t 12) 1)), none⟩,
 ⟨(some 17), (.dry (.extract (.t 12) 2)), none⟩,
 ⟨(some 18), (.dry (.extract (.t 12) 3)), none⟩,
 ⟨(some 7), (.dry (.mov (.t 15))), none⟩,
 ⟨(some 8), (.dry (.mov (.t 16))), none⟩,
 ⟨(some 9), (.dry (.mov (.t 17))), none⟩,
 ⟨(some 10), (.dry (.mov (.t 18))), none⟩])
 (.seq (.block 0
 (.seq (.reg [⟨(some 20), (.dry (.mov (.t 0))), none⟩,
 ⟨(some 21), (.dry (.eq (.prim .i) false (.t 20) (.k (.int .i64 257)))), none⟩,
 ⟨(some 19), (.dry (.mov (.t 21))), none⟩])
 (.cond (.t 19)
 (.seq (.reg [⟨(some 22), (.dry (.mov (.t 6))), none⟩,
 ⟨(some 23), (.dry (.build [.nils, .nils, (.int .u64 0), (.int .i64 0), (.int .i64 0)] [(0, 1, (.t 22)), (2, 1, (.k (.int .u64 8589934592)))])), none⟩,
 ⟨(some 24), (.dry (.mov (.t 1))), none⟩,
 ⟨none, (.wet (.store 5 (.t 4) (.t 23))), none⟩,
 ⟨(some 5), (.dry (.mov (.t 24))), none⟩])
 .ret)
 (.seq (.reg [⟨(some 26), (.dry (.mov (.t 0))), none⟩,
 ⟨(some 27), (.dry (.eq (.prim .i) false (.t 26) (.k (.int .i64 63)))), none⟩,
 ⟨(some 25), (.dry (.mov (.t 27))), none⟩])
 (.cond (.t 25)
 (.seq (.reg [⟨(some 28), (.dry (.mov (.t 6))), none⟩,
 ⟨(some 29), (.dry (.build [.nils, .nils, (.int .u64 0), (.int .i64 0), (.int .i64 0)] [(1, 1, (.t 28))])), none⟩,
 ⟨(some 30), (.dry (.mov (.t 1))), none⟩,
 ⟨none, (.wet (.store 5 (.t 4) (.t 29))), none⟩,
 ⟨(some 5), (.dry (.mov (.t 30))), none⟩])
 .ret)
 (.seq (.reg [⟨(some 32), (.dry (.mov (.t 0))), none⟩,
 ⟨(some 33), (.dry (.eq (.prim .i) false (.t 32) (.k (.int .i64 64)))), none⟩,
 ⟨(some 31), (.dry (.mov (.t 33))), none⟩])
 (.cond (.t 31)
 (.seq (.reg [⟨(some 34), (.dry (.mov (.t 6))), none⟩,
 ⟨(some 35), (.dry (.mov (.t 6))), none⟩,
 ⟨(some 36), (.dry (.build [.nils, .nils, (.int .u64 0), (.int .i64 0), (.int .i64 0)] [(0, 1, (.t 34)), (1, 1, (.t 35))])), none⟩,
 ⟨(some 37), (.dry (.mov (.t 1))), none⟩,
 ⟨none, (.wet (.store 5 (.t 4) (.t 36))), none⟩,
 ⟨(some 5), (.dry (.mov (.t 37))), none⟩])
 .ret)
 (.seq (.reg [⟨(some 39), (.dry (.mov (.t 9))), none⟩,
 ⟨(some 38), (.dry (.mov (.t 39))), none⟩])
 (.cond (.t 38)
 (.seq (.reg [⟨(some 40), (.dry (.mov (.t 7))), none⟩,
 ⟨(some 41), (.wet (.bsl 1 2 [(.int .i64 0), (.int .i64 0)] [(0, (.k (.int .i64 127))), (1, (.t 40))])), none⟩,
 ⟨(some 42), (.dry (.build [.nils, .nils, (.int .u64 0), (.int .i64 0), (.int .i64 0)] [(0, 1, (.t 41)), (2, 1, (.k (.int .u64 4294967295)))])), none⟩,
 ⟨(some 43), (.dry (.mov (.t 1))), none⟩,
 ⟨none, (.wet (.store 5 (.t 4) (.t 42))), none⟩,
 ⟨(some 5), (.dry (.mov (.t 43))), none⟩])
 .ret)
 (.seq (.reg [⟨(some 45), (.dry (.mov (.t 10))), none⟩,
 ⟨(some 44), (.dry (.mov (.t 45))), none⟩])
 (.cond (.t 44)
 (.seq (.reg [⟨(some 46), (.dry (.mov (.t 6))), none⟩,
 ⟨(some 47), (.dry (.mov (.t 7))), none⟩,
 ⟨(some 48), (.wet (.bsl 1 1 [(.int .i64 0)] [(0, (.t 47))])), none⟩,
 ⟨(some 49), (.dry (.build [.nils, .nils, (.int .u64 0), (.int .i64 0), (.int .i64 0)] [(0, 1, (.t 46)), (1, 1, (.t 48)), (2, 1, (.k (.int .u64 4294967295)))])), none⟩,
 ⟨(some 50), (.dry (.mov (.t 1))), none⟩,
 ⟨none, (.wet (.store 5 (.t 4) (.t 49))), none⟩,
 ⟨(some 5), (.dry (.mov (.t 50))), none⟩])
 .ret)
 .skip)))))))))))
 (.seq (.reg [⟨(some 51), (.dry (.build [.nils, .nils, (.int .u64 0), (.int .i64 0), (.int .i64 0)] [])), none⟩,
 ⟨none, (.wet (.store 5 (.t 4) (.t 51))), none⟩,
 ⟨(some 5), (.dry (.mov (.k (.bool false)))), none⟩])
 .ret))))) }

/-- bellcrank/bellcrankref08.kind -/
def e83 : EFunc := { own := none, res := [(.tmp 2)], ntmps := 9, pure := false, body :=
 (.seq (.reg [⟨(some 2), (.dry (.mov (.k (.bool false)))), none⟩])
 (.seq (.reg [⟨(some 3), (.dry (.mov (.t 0))), none⟩,
 ⟨(some 4), (.dry (.eq (.prim .i) false (.t 3) (.k (.int .i64 127)))), none⟩,
 ⟨(some 5), (.dry (.mov (.t 4))), none⟩,
 ⟨(some 6), (.dry (.mov (.t 0))), (some (5, false))⟩,
 ⟨(some 7), (.dry (.eq (.prim .i) false (.t 6) (.k (.int .i64 126)))), (some (5, false))⟩,
 ⟨(some 8), (.dry (.pick (.t 5) (.k (.bool true)) (.t 7))), none⟩,
 ⟨(some 2), (.dry (.mov (.t 8))), none⟩])
 .ret)) }

/-- bellcrank/bellcrankref08.Form -/
def e84 : EFunc := { own := none, res := [(.tmp 6), (.tmp 7), (.tmp 8)], ntmps := 175, pure := false, body :=
 (.seq (.reg [⟨(some 3), (.wet (.box 5 (.t 0))), none⟩,
 ⟨(some 4), (.wet (.box 4 (.t 1))), none⟩,
 ⟨(some 6), (.dry (.mov (.k .nils))), none⟩,
 ⟨(some 7), (.dry (.mov (.k .nils))), none⟩,
 ⟨(some 8), (.dry (.mov (.k (.bool false)))), none⟩])
 (.seq (.reg [⟨(some 18), (.dry (.faddr 0 1 false (.t 4))), none⟩,
 ⟨(some 19), (.wet (.load 1 false (.t 18))), none⟩,
 ⟨(some 20), (.call (.k (.fn 119 [] [])) [(.t 19)]), none⟩,
 ⟨(some 17), (.dry (.mov (.t 20))), none⟩,
 ⟨(some 21), (.dry (.extract (.t 17) 0)), none⟩,
 ⟨(some 22), (.dry (.extract (.t 17) 1)), none⟩,
 ⟨(some 23), (.dry (.extract (.t 17) 2)), none⟩,
 ⟨(some 9), (.dry (.mov (.t 21))), none⟩,
 ⟨(some 10), (.dry (.mov (.t 22))), none⟩,
 ⟨(some 11), (.dry (.mov (.t 23))), none⟩])
 (.seq (.reg [⟨(some 25), (.dry (.faddr 0 1 false (.t 4))), none⟩,
 ⟨(some 26), (.wet (.load 1 false (.t 25))), none⟩,
 ⟨(some 27), (.call (.k (.fn 120 [] [])) [(.t 26)]), none⟩,
 ⟨(some 24), (.dry (.mov (.t 27))), none⟩,
 ⟨(some 28), (.dry (.extract (.t 24) 0)), none⟩,
 ⟨(some 29), (.dry (.extract (.t 24) 1)), none⟩,
 ⟨(some 30), (.dry (.extract (.t 24) 2)), none⟩,
 ⟨(some 31), (.dry (.extract (.t 24) 3)), none⟩,
 ⟨(some 12), (.dry (.mov (.t 28))), none⟩,
 ⟨(some 13), (.dry (.mov (.t 29))), none⟩,
 ⟨(some 14), (.dry (.mov (.t 30))), none⟩,
 ⟨(some 15), (.dry (.mov (.t 31))), none⟩])
 (.seq (.block 0
 (.seq (.reg [⟨(some 33), (.dry (.faddr 0 1 false (.t 4))), none⟩,
 ⟨(some 34), (.wet (.load 1 false (.t 33))), none⟩,
 ⟨(some 35), (.dry (.eq (.prim .i) false (.t 34) (.k (.int .i64 256)))), none⟩,
 ⟨(some 32), (.dry (.mov (.t 35))), none⟩])
 (.cond (.t 32)
 (.seq (.reg [⟨(some 36), (.dry (.mov (.t 2))), none⟩,
 ⟨(some 37), (.wet (.bsl 1 1 [(.int .i64 0)] [(0, (.t 36))])), none⟩,
 ⟨(some 38), (.dry (.mov (.t 2))), none⟩,
 ⟨(some 39), (.dry (.faddr 1 1 false (.t 4))), none⟩,
 ⟨(some 40), (.wet (.load 1 false (.t 39))), none⟩,
 ⟨(some 41), (.call (.k (.fn 91 [] [])) [(.t 38), (.t 40)]), none⟩,
 ⟨(some 6), (.dry (.mov (.k .nils))), none⟩,
 ⟨(some 7), (.dry (.mov (.t 37))), none⟩,
 ⟨(some 8), (.dry (.mov (.t 41))), none⟩])
 .ret)
 (.seq (.reg [⟨(some 43), (.dry (.faddr 0 1 false (.t 4))), none⟩,
 ⟨(some 44), (.wet (.load 1 false (.t 43))), none⟩,
 ⟨(some 45), (.dry (.eq (.prim .i) false (.t 44) (.k (.int .i64 258)))), none⟩,
 ⟨(some 42), (.dry (.mov (.t 45))), none⟩])
 (.cond (.t 42)
 (.seq (.draw [(⟨(some 46), (.dry (.faddr 1 1 false (.t 4))), none⟩, 0, false),
 (⟨(some 47), (.wet (.load 1 false (.t 46))), none⟩, 1, true),
 (⟨(some 48), (.dry (.eq (.prim .i) false (.t 47) (.k (.int .u64 0)))), none⟩, 3, false),
 (⟨(some 6), (.dry (.mov (.k .nils))), none⟩, 0, false),
 (⟨(some 7), (.dry (.mov (.k .nils))), none⟩, 8, false),
 (⟨(some 8), (.dry (.mov (.t 48))), none⟩, 31, false)])
 .ret)
 (.seq (.reg [⟨(some 50), (.dry (.mov (.t 11))), none⟩,
 ⟨(some 49), (.dry (.mov (.t 50))), none⟩])
 (.cond (.t 49)
 (.seq (.draw [(⟨(some 51), (.dry (.mov (.t 9))), none⟩, 0, false),
 (⟨(some 52), (.dry (.mov (.t 10))), none⟩, 0, false),
 (⟨(some 53), (.wet (.bsl 1 1 [(.int .i64 0)] [(0, (.t 52))])), none⟩, 2, false),
 (⟨(some 54), (.dry (.faddr 1 1 false (.t 4))), none⟩, 0, false),
 (⟨(some 55), (.wet (.load 1 false (.t 54))), none⟩, 8, false),
 (⟨(some 56), (.dry (.eq (.prim .i) false (.t 55) (.k (.int .u64 0)))), none⟩, 24, false),
 (⟨(some 6), (.dry (.mov (.t 51))), none⟩, 1, false),
 (⟨(some 7), (.dry (.mov (.t 53))), none⟩, 71, false),
 (⟨(some 8), (.dry (.mov (.t 56))), none⟩, 255, false)])
 .ret)
 (.seq (.reg [⟨(some 58), (.dry (.faddr 0 1 false (.t 4))), none⟩,
 ⟨(some 59), (.wet (.load 1 false (.t 58))), none⟩,
 ⟨(some 60), (.dry (.eq (.prim .i) false (.t 59) (.k (.int .i64 27)))), none⟩,
 ⟨(some 57), (.dry (.mov (.t 60))), none⟩])
 (.cond (.t 57)
 (.seq (.draw [(⟨(some 61), (.dry (.mov (.t 2))), none⟩, 0, false),
 (⟨(some 62), (.dry (.mov (.t 2))), none⟩, 0, false),
 (⟨(some 63), (.wet (.bsl 1 3 [(.int .i64 0), (.int .i64 0), (.int .i64 0)] [(0, (.t 61)), (1, (.t 62)), (2, (.k (.int .i64 127)))])), none⟩, 3, false),
 (⟨(some 64), (.dry (.mov (.t 2))), none⟩, 0, false),
 (⟨(some 65), (.wet (.bsl 1 1 [(.int .i64 0)] [(0, (.t 64))])), none⟩, 8, false),
 (⟨(some 66), (.dry (.faddr 1 1 false (.t 4))), none⟩, 0, false),
 (⟨(some 67), (.wet (.load 1 false (.t 66))), none⟩, 32, false),
 (⟨(some 68), (.dry (.eq (.prim .i) false (.t 67) (.k (.int .u64 0)))), none⟩, 96, false),
 (⟨(some 6), (.dry (.mov (.t 63))), none⟩, 7, false),
 (⟨(some 7), (.dry (.mov (.t 65))), none⟩, 287, false),
 (⟨(some 8), (.dry (.mov (.t 68))), none⟩, 1023, false)])
 .ret)
 (.seq (.reg [⟨(some 70), (.dry (.faddr 0 1 false (.t 4))), none⟩,
 ⟨(some 71), (.wet (.load 1 false (.t 70))), none⟩,
 ⟨(some 72), (.dry (.eq (.prim .i) false (.t 71) (.k (.int .i64 35)))), none⟩,
 ⟨(some 73), (.dry (.mov (.t 72))), none⟩,
 ⟨(some 74), (.dry (.faddr 0 1 false (.t 4))), (some (73, false))⟩,
 ⟨(some 75), (.wet (.load 1 false (.t 74))), (some (73, false))⟩,
 ⟨(some 76), (.dry (.eq (.prim .i) false (.t 75) (.k (.int .i64 36)))), (some (73, false))⟩,
 ⟨(some 77), (.dry (.pick (.t 73) (.k (.bool true)) (.t 76))), none⟩,
 ⟨(some 69), (.dry (.mov (.t 77))), none⟩])
 (.cond (.t 69)
 (.seq (.seq (.reg [⟨(some 78), (.dry (.faddr 1 1 false (.t 4))), none⟩,
 ⟨(some 79), (.wet (.load 1 false (.t 78))), none⟩,
 ⟨(some 80), (.dry (.faddr 2 1 false (.t 3))), none⟩,
 ⟨(some 81), (.wet (.load 1 false (.t 80))), none⟩,
 ⟨(some 82), (.dry (.len (.t 81))), none⟩,
 ⟨(some 83), (.dry (.conv .u64 (.t 82))), none⟩,
 ⟨(some 84), (.dry (.bin .geq (.t 79) (.t 83))), none⟩])
 (.cond (.t 84)
 (.seq (.reg [⟨(some 6), (.dry (.mov (.k .nils))), none⟩,
 ⟨(some 7), (.dry (.mov (.k .nils))), none⟩,
 ⟨(some 8), (.dry (.mov (.k (.bool false)))), none⟩])
 .ret)
 .skip))
 (.seq (.reg [⟨(some 85), (.dry (.faddr 2 1 false (.t 3))), none⟩,
 ⟨(some 86), (.wet (.load 1 false (.t 85))), none⟩,
 ⟨(some 87), (.dry (.faddr 1 1 false (.t 4))), none⟩,
 ⟨(some 88), (.wet (.load 1 false (.t 87))), none⟩,
 ⟨(some 89), (.dry (.iaddr 1 (.t 86) (.t 88))), none⟩,
 ⟨(some 90), (.wet (.load 1 false (.t 89))), none⟩,
 ⟨(some 91), (.wet (.bsl 1 1 [(.int .i64 0)] [(0, (.t 90))])), none⟩,
 ⟨(some 16), (.dry (.mov (.t 91))), none⟩])
 (.seq (.seq (.reg [⟨(some 92), (.dry (.faddr 0 1 false (.t 4))), none⟩,
 ⟨(some 93), (.wet (.load 1 false (.t 92))), none⟩,
 ⟨(some 94), (.dry (.eq (.prim .i) false (.t 93) (.k (.int .i64 35)))), none⟩])
 (.cond (.t 94)
 (.seq (.reg [⟨(some 95), (.dry (.mov (.t 16))), none⟩,
 ⟨(some 6), (.dry (.mov (.k .nils))), none⟩,
 ⟨(some 7), (.dry (.mov (.t 95))), none⟩,
 ⟨(some 8), (.dry (.mov (.k (.bool true)))), none⟩])
 .ret)
 .skip))
 (.seq (.draw [(⟨(some 96), (.dry (.mov (.t 16))), none⟩, 0, false),
 (⟨(some 97), (.dry (.faddr 3 1 false (.t 3))), none⟩, 0, false),
 (⟨(some 98), (.wet (.load 1 false (.t 97))), none⟩, 2, false),
 (⟨(some 99), (.dry (.faddr 1 1 false (.t 4))), none⟩, 0, false),
 (⟨(some 100), (.wet (.load 1 false (.t 99))), none⟩, 8, false),
 (⟨(some 101), (.dry (.iaddr 1 (.t 98) (.t 100))), none⟩, 30, false),
 (⟨(some 102), (.wet (.load 1 false (.t 101))), none⟩, 62, true),
 (⟨(some 6), (.dry (.mov (.t 96))), none⟩, 1, false),
 (⟨(some 7), (.dry (.mov (.k .nils))), none⟩, 129, false),
 (⟨(some 8), (.dry (.mov (.t 102))), none⟩, 511, false)])
 .ret))))
 (.seq (.reg [⟨(some 104), (.dry (.faddr 0 1 false (.t 4))), none⟩,
 ⟨(some 105), (.wet (.load 1 false (.t 104))), none⟩,
 ⟨(some 106), (.dry (.eq (.prim .i) false (.t 105) (.k (.int .i64 16)))), none⟩,
 ⟨(some 103), (.dry (.mov (.t 106))), none⟩])
 (.cond (.t 103)
 (.seq (.seq (.reg [⟨(some 107), (.dry (.faddr 1 1 false (.t 4))), none⟩,
 ⟨(some 108), (.wet (.load 1 false (.t 107))), none⟩,
 ⟨(some 109), (.dry (.faddr 0 1 false (.t 3))), none⟩,
 ⟨(some 110), (.wet (.load 1 false (.t 109))), none⟩,
 ⟨(some 111), (.dry (.len (.t 110))), none⟩,
 ⟨(some 112), (.dry (.conv .u64 (.t 111))), none⟩,
 ⟨(some 113), (.dry (.bin .geq (.t 108) (.t 112))), none⟩])
 (.cond (.t 113)
 (.seq (.reg [⟨(some 6), (.dry (.mov (.k .nils))), none⟩,
 ⟨(some 7), (.dry (.mov (.k .nils))), none⟩,
 ⟨(some 8), (.dry (.mov (.k (.bool false)))), none⟩])
 .ret)
 .skip))
 (.seq (.draw [(⟨(some 114), (.dry (.faddr 0 1 false (.t 3))), none⟩, 0, false),
 (⟨(some 115), (.wet (.load 1 false (.t 114))), none⟩, 1, false),
 (⟨(some 116), (.dry (.faddr 1 1 false (.t 4))), none⟩, 0, false),
 (⟨(some 117), (.wet (.load 1 false (.t 116))), none⟩, 4, false),
 (⟨(some 118), (.dry (.iaddr 2 (.t 115) (.t 117))), none⟩, 15, false),
 (⟨(some 119), (.dry (.faddr 0 1 false (.t 118))), none⟩, 31, false),
 (⟨(some 120), (.wet (.load 1 false (.t 119))), none⟩, 63, false),
 (⟨(some 121), (.dry (.faddr 0 1 false (.t 3))), none⟩, 0, false),
 (⟨(some 122), (.wet (.load 1 false (.t 121))), none⟩, 128, false),
 (⟨(some 123), (.dry (.faddr 1 1 false (.t 4))), none⟩, 0, false),
 (⟨(some 124), (.wet (.load 1 false (.t 123))), none⟩, 512, false),
 (⟨(some 125), (.dry (.iaddr 2 (.t 122) (.t 124))), none⟩, 1920, false),
 (⟨(some 126), (.dry (.faddr 1 1 false (.t 125))), none⟩, 3968, false),
 (⟨(some 127), (.wet (.load 1 false (.t 126))), none⟩, 8064, false),
 (⟨(some 6), (.dry (.mov (.t 120))), none⟩, 127, false),
 (⟨(some 7), (.dry (.mov (.t 127))), none⟩, 32767, false),
 (⟨(some 8), (.dry (.mov (.k (.bool true)))), none⟩, 65535, false)])
 .ret))
 (.seq (.reg [⟨(some 129), (.dry (.faddr 4 1 false (.t 3))), none⟩,
 ⟨(some 130), (.wet (.load 1 false (.t 129))), none⟩,
 ⟨(some 131), (.dry (.not (.t 130))), none⟩,
 ⟨(some 128), (.dry (.mov (.t 131))), none⟩])
 (.cond (.t 128)
 (.seq (.reg [⟨(some 6), (.dry (.mov (.k .nils))), none⟩,
 ⟨(some 7), (.dry (.mov (.k .nils))), none⟩,
 ⟨(some 8), (.dry (.mov (.k (.bool false)))), none⟩])
 .ret)
 (.seq (.reg [⟨(some 133), (.dry (.faddr 0 1 false (.t 4))), none⟩,
 ⟨(some 134), (.wet (.load 1 false (.t 133))), none⟩,
 ⟨(some 135), (.dry (.eq (.prim .i) false (.t 134) (.k (.int .i64 257)))), none⟩,
 ⟨(some 132), (.dry (.mov (.t 135))), none⟩])
 (.cond (.t 132)
 (.seq (.draw [(⟨(some 136), (.wet (.bsl 1 1 [(.int .i64 0)] [(0, (.k (.int .i64 127)))])), none⟩, 0, false),
 (⟨(some 137), (.dry (.faddr 1 1 false (.t 4))), none⟩, 0, false),
 (⟨(some 138), (.wet (.load 1 false (.t 137))), none⟩, 2, false),
 (⟨(some 139), (.dry (.bin .leq (.t 138) (.k (.int .u64 8589934592)))), none⟩, 6, false),
 (⟨(some 6), (.dry (.mov (.t 136))), none⟩, 1, false),
 (⟨(some 7), (.dry (.mov (.k .nils))), none⟩, 17, false),
 (⟨(some 8), (.dry (.mov (.t 139))), none⟩, 63, false)])
 .ret)
 (.seq (.reg [⟨(some 141), (.dry (.mov (.t 15))), none⟩,
 ⟨(some 142), (.dry (.mov (.t 141))), none⟩,
 ⟨(some 143), (.dry (.mov (.t 14))), (some (142, true))⟩,
 ⟨(some 144), (.dry (.pick (.t 142) (.t 143) (.k (.bool false)))), none⟩,
 ⟨(some 140), (.dry (.mov (.t 144))), none⟩])
 (.cond (.t 140)
 (.seq (.draw [(⟨(some 145), (.dry (.mov (.t 12))), none⟩, 0, false),
 (⟨(some 146), (.wet (.bsl 1 2 [(.int .i64 0), (.int .i64 0)] [(0, (.k (.int .i64 127))), (1, (.t 145))])), none⟩, 1, false),
 (⟨(some 147), (.dry (.faddr 1 1 false (.t 4))), none⟩, 0, false),
 (⟨(some 148), (.wet (.load 1 false (.t 147))), none⟩, 4, false),
 (⟨(some 149), (.dry (.bin .lss (.t 148) (.k (.int .u64 4294967296)))), none⟩, 12, false),
 (⟨(some 6), (.dry (.mov (.t 146))), none⟩, 3, false),
 (⟨(some 7), (.dry (.mov (.k .nils))), none⟩, 35, false),
 (⟨(some 8), (.dry (.mov (.t 149))), none⟩, 127, false)])
 .ret)
 (.seq (.reg [⟨(some 151), (.dry (.mov (.t 15))), none⟩,
 ⟨(some 150), (.dry (.mov (.t 151))), none⟩])
 (.cond (.t 150)
 (.seq (.draw [(⟨(some 152), (.wet (.bsl 1 1 [(.int .i64 0)] [(0, (.k (.int .i64 127)))])), none⟩, 0, false),
 (⟨(some 153), (.dry (.mov (.t 12))), none⟩, 0, false),
 (⟨(some 154), (.wet (.bsl 1 1 [(.int .i64 0)] [(0, (.t 153))])), none⟩, 2, false),
 (⟨(some 155), (.dry (.faddr 1 1 false (.t 4))), none⟩, 0, false),
 (⟨(some 156), (.wet (.load 1 false (.t 155))), none⟩, 8, false),
 (⟨(some 157), (.dry (.bin .lss (.t 156) (.k (.int .u64 4294967296)))), none⟩, 24, false),
 (⟨(some 6), (.dry (.mov (.t 152))), none⟩, 1, false),
 (⟨(some 7), (.dry (.mov (.t 154))), none⟩, 71, false),
 (⟨(some 8), (.dry (.mov (.t 157))), none⟩, 255, false)])
 .ret)
 (.seq (.reg [⟨(some 159), (.dry (.faddr 0 1 false (.t 4))), none⟩,
 ⟨(some 160), (.wet (.load 1 false (.t 159))), none⟩,
 ⟨(some 161), (.dry (.eq (.prim .i) false (.t 160) (.k (.int .i64 63)))), none⟩,
 ⟨(some 158), (.dry (.mov (.t 161))), none⟩])
 (.cond (.t 158)
 (.seq (.draw [(⟨(some 162), (.wet (.bsl 1 1 [(.int .i64 0)] [(0, (.k (.int .i64 127)))])), none⟩, 0, false),
 (⟨(some 163), (.dry (.faddr 1 1 false (.t 4))), none⟩, 0, false),
 (⟨(some 164), (.wet (.load 1 false (.t 163))), none⟩, 2, false),
 (⟨(some 165), (.dry (.eq (.prim .i) false (.t 164) (.k (.int .u64 0)))), none⟩, 6, false),
 (⟨(some 6), (.dry (.mov (.k .nils))), none⟩, 0, false),
 (⟨(some 7), (.dry (.mov (.t 162))), none⟩, 17, false),
 (⟨(some 8), (.dry (.mov (.t 165))), none⟩, 63, false)])
 .ret)
 (.seq (.reg [⟨(some 167), (.dry (.faddr 0 1 false (.t 4))), none⟩,
 ⟨(some 168), (.wet (.load 1 false (.t 167))), none⟩,
 ⟨(some 169), (.dry (.eq (.prim .i) false (.t 168) (.k (.int .i64 64)))), none⟩,
 ⟨(some 166), (.dry (.mov (.t 169))), none⟩])
 (.cond (.t 166)
 (.seq (.draw [(⟨(some 170), (.wet (.bsl 1 1 [(.int .i64 0)] [(0, (.k (.int .i64 127)))])), none⟩, 0, false),
 (⟨(some 171), (.wet (.bsl 1 1 [(.int .i64 0)] [(0, (.k (.int .i64 127)))])), none⟩, 0, false),
 (⟨(some 172), (.dry (.faddr 1 1 false (.t 4))), none⟩, 0, false),
 (⟨(some 173), (.wet (.load 1 false (.t 172))), none⟩, 4, false),
 (⟨(some 174), (.dry (.eq (.prim .i) false (.t 173) (.k (.int .u64 0)))), none⟩, 12, false),
 (⟨(some 6), (.dry (.mov (.t 170))), none⟩, 1, false),
 (⟨(some 7), (.dry (.mov (.t 171))), none⟩, 35, false),
 (⟨(some 8), (.dry (.mov (.t 174))), none⟩, 127, false)])
 .ret)
 .skip)))))))))))))))))))))))))
 (.seq (.reg [⟨(some 6), (.dry (.mov (.k .nils))), none⟩,
 ⟨(some 7), (.dry (.mov (.k .nils))), none⟩,
 ⟨(some 8), (.dry (.mov (.k (.bool false)))), none⟩])
 .ret))))) }

/-- bellcrank/lower.fit -/
def e85 : EFunc := { own := none, res := [(.tmp 4)], ntmps := 30, pure := false, body :=
 (.seq (.reg [dr 4 (.mov (.k .nils))])
 (.seq (.reg [mv 8 1,
 cl 9 (kf 36) [(.t 8)],
 mv 5 9])
 (.seq (.seq (.reg [mv 10 0,
 dr 11 (.len (.t 10)),
 dr 12 (.mov (ki 0))])
 (.block 0
 (.loop
 (.seq (.reg [dr 13 (.bin .lss (.t 12) (.t 11))])
 (.seq (.cond (.t 13)
 .skip
 (.exit 0))
 (.seq (.block 1
 (.seq (.reg [mv 14 12,
 dr 15 (.iaddr 1 (.t 10) (.t 12)),
 wt 16 (l1 15),
 mv 6 14,
 mv 7 16])
 (.seq (.reg [mv 17 7,
 dr 18 (.eq (.prim .i) false (.t 17) (ki 127))])
 (.cond (.t 18)
 (.reg [mv 19 5,
 mv 20 6,
 mv 21 5,
 mv 22 6,
 dr 23 (.iaddr 1 (.t 21) (.t 22)),
 wt 24 (l1 23),
 dr 25 (.conv .u32 (.t 24)),
 dr 26 (.conv .u64 (.t 25)),
 dr 27 (.iaddr 1 (.t 19) (.t 20)),
 wn (.store 1 (.t 27) (.t 26))])
 .skip))))
 (.reg [dr 28 (.bin .add (.t 12) (ki 1)),
 mv 12 28])))))))
 (.seq (.reg [mv 29 5,
 mv 4 29])
 .ret)))) }

/-- bellcrank/lower.needs -/
def e87 : EFunc := { own := none, res := [], ntmps := 9, pure := false, body :=
 (.seq (.reg [mv 4 0,
 dr 5 (.not (.t 4))])
 (.cond (.t 5)
 (.reg [mv 6 1,
 dr 7 (.build [(ig 0)] [(0, 1, (.t 6))]),
 dr 8 (.mkifc 120 (.t 7)),
 ⟨none, (.panic (.t 8)), none⟩])
 .skip)) }

/-- (*bellcrank/lower.machine).does -/
def e88 : EFunc := { own := none, res := [(.tmp 6)], ntmps := 104, pure := false, body :=
 (.seq (.reg [wt 4 (.box 5 (.t 1)),
 dr 6 (.mov (.k .nils))])
 (.seq (.seq (.reg [dr 7 (fa 0 4),
 wt 8 (l1 7)])
 (.block 0
 (.seq (.seq (.reg [dr 10 (.eq (.prim .i) false (.t 8) (ki 273)),
 mv 9 10])
 (.cond (.t 9)
 .skip
 (.seq (.reg [dr 11 (.eq (.prim .i) false (.t 8) (ki 274)),
 mv 9 11])
 (.cond (.t 9)
 .skip
 (.reg [dr 12 (.eq (.prim .i) false (.t 8) (ki 275)),
 mv 9 12])))))
 (.cond (.t 9)
 (.seq (.reg [dr 6 (.mov (.k .nils))])
 .ret)
 (.seq (.reg [dr 14 (.eq (.prim .i) false (.t 8) (ki 277)),
 mv 13 14])
 (.cond (.t 13)
 (.reg [cl 15 (kf 87) [(.k (.bool false)), (ki 32)]])
 (.seq (.reg [dr 17 (.eq (.prim .i) false (.t 8) (ki 258)),
 mv 16 17])
 (.cond (.t 16)
 (.seq (.reg [mv 18 0,
 dr 19 (.nilchk (.t 18)),
 dr 20 (.faddr 6 6 true (.t 19)),
 dr 21 (fa 3 20),
 wt 22 (l1 21),
 dr 23 (.bin .gtr (.t 22) (ki 0)),
 cl 24 (kf 87) [(.t 23), (ki 36)]])
 (.seq (.reg [mv 25 0,
 dr 26 (.nilchk (.t 25)),
 dr 27 (.faddr 6 6 true (.t 26)),
 dr 28 (fa 3 27),
 wt 29 (l1 28),
 dr 30 (.bin .sub (.t 29) (ki 1)),
 dr 31 (.nilchk (.t 25)),
 dr 32 (.faddr 6 6 true (.t 31)),
 dr 33 (fa 3 32),
 wn (.store 1 (.t 33) (.t 30))])
 (.seq (.reg [dr 6 (.mov (.k .nils))])
 .ret)))
 (.seq (.reg [dr 35 (.eq (.prim .i) false (.t 8) (ki 256)),
 mv 34 35])
 (.cond (.t 34)
 (.seq (.reg [dr 36 (fa 1 4),
 wt 37 (l1 36),
 wt 38 (.bsl 1 1 [(.int .u64 0)] [(0, (.t 37))]),
 mv 6 38])
 .ret)
 (.seq (.reg [dr 40 (.eq (.prim .i) false (.t 8) (ki 272)),
 mv 39 40])
 (.cond (.t 39)
 (.seq (.reg [mv 41 2,
 mv 6 41])
 .ret)
 (.seq (.reg [dr 43 (.eq (.prim .i) false (.t 8) (ki 257)),
 mv 42 43])
 (.cond (.t 42)
 (.seq (.draw [(mv 44 0, 0, false),
 (dr 45 (.nilchk (.t 44)), 1, false),
 (dr 46 (.faddr 6 6 true (.t 45)), 3, false),
 (dr 47 (fa 0 46), 7, false),
 (wt 48 (l1 47), 15, false),
 (mv 49 2, 0, false),
 (dr 50 (.iaddr 1 (.t 49) (ki 0)), 32, false),
 (wt 51 (l1 50), 96, false),
 (dr 52 (fa 1 4), 0, false),
 (wt 53 (l1 52), 256, false),
 (cl 54 (kf 121) [(.t 48), (.t 51), (.t 53)], 1023, true),
 (cl 55 (kf 87) [(.t 54), (ki 35)], 2047, true)])
 (.seq (.reg [dr 6 (.mov (.k .nils))])
 .ret))
 (.seq (.reg [dr 57 (.eq (.prim .i) false (.t 8) (ki 16)),
 mv 56 57])
 (.cond (.t 56)
 (.seq (.reg [mv 58 0,
 dr 59 (fa 1 4),
 wt 60 (l1 59),
 dr 61 (.conv .i64 (.t 60)),
 mv 62 2,
 cl 63 (kf 64) [(.t 58), (.t 61), (.t 62)],
 mv 6 63])
 .ret)
 (.seq (.reg [dr 65 (.eq (.prim .i) false (.t 8) (ki 27)),
 mv 64 65])
 (.cond (.t 64)
 (.seq (.seq (.reg [mv 66 2,
 dr 67 (.iaddr 1 (.t 66) (ki 2)),
 wt 68 (l1 67),
 dr 69 (.eq (.prim .i) true (.t 68) (.k (.int .u64 0)))])
 (.cond (.t 69)
 (.seq (.reg [mv 70 2,
 wt 71 (.slice 1 (.t 70) none (some (ki 1))),
 mv 6 71])
 .ret)
 .skip))
 (.seq (.reg [mv 72 2,
 wt 73 (.slice 1 (.t 72) (some (ki 1)) (some (ki 2))),
 mv 6 73])
 .ret))
 (.seq (.reg [dr 75 (.eq (.prim .i) false (.t 8) (ki 35)),
 mv 74 75])
 (.cond (.t 74)
 (.seq (.draw [(mv 76 0, 0, false),
 (dr 77 (.nilchk (.t 76)), 1, false),
 (dr 78 (.faddr 6 6 true (.t 77)), 3, false),
 (dr 79 (fa 2 78), 7, false),
 (wt 80 (l1 79), 15, false),
 (dr 81 (fa 1 4), 0, false),
 (wt 82 (l1 81), 32, false),
 (dr 83 (fa 1 4), 0, false),
 (wt 84 (l1 83), 128, false),
 (dr 85 (.bin .add (.t 84) (.k (.int .u64 1))), 384, false),
 (wt 86 (.slice 1 (.t 80) (some (.t 82)) (some (.t 85))), 1023, true),
 (mv 6 86, 2047, false)])
 .ret)
 (.seq (.reg [dr 88 (.eq (.prim .i) false (.t 8) (ki 36)),
 mv 87 88])
 (.cond (.t 87)
 (.seq (.draw [(mv 89 0, 0, false),
 (dr 90 (.nilchk (.t 89)), 1, false),
 (dr 91 (.faddr 6 6 true (.t 90)), 3, false),
 (dr 92 (fa 2 91), 7, false),
 (wt 93 (l1 92), 15, false),
 (dr 94 (fa 1 4), 0, false),
 (wt 95 (l1 94), 32, false),
 (mv 96 2, 0, false),
 (dr 97 (.iaddr 1 (.t 96) (ki 0)), 128, false),
 (wt 98 (l1 97), 384, false),
 (dr 99 (.iaddr 1 (.t 93) (.t 95)), 1023, false),
 (wn (.store 1 (.t 99) (.t 98)), 2047, true)])
 (.seq (.reg [dr 6 (.mov (.k .nils))])
 .ret))
 .skip))))))))))))))))))))))
 (.seq (.reg [mv 100 0,
 wt 101 (.load 5 true (.t 4)),
 mv 102 2,
 cl 103 (kf 122) [(.t 100), (.t 101), (.t 102)],
 mv 6 103])
 .ret))) }

/-- bellcrank/lower.way -/
def e89 : EFunc := { own := none, res := [(.tmp 6)], ntmps := 42, pure := false, body :=
 (.seq (.reg [wt 3 (.box 5 (.t 0)),
 dr 6 (.mov (ki 0))])
 (.seq (.seq (.reg [dr 7 (fa 0 3),
 wt 8 (l1 7)])
 (.block 0
 (.seq (.reg [dr 10 (.eq (.prim .i) false (.t 8) (ki 273)),
 mv 9 10])
 (.cond (.t 9)
 (.seq (.reg [dr 11 (fa 4 3),
 wt 12 (l1 11),
 dr 13 (.iaddr 1 (.t 12) (ki 0)),
 wt 14 (l1 13),
 mv 6 14])
 .ret)
 (.seq (.reg [dr 16 (.eq (.prim .i) false (.t 8) (ki 274)),
 mv 15 16])
 (.cond (.t 15)
 (.seq (.reg [mv 17 1,
 dr 18 (.iaddr 1 (.t 17) (ki 0)),
 wt 19 (l1 18),
 dr 20 (.eq (.prim .i) true (.t 19) (.k (.int .u64 0)))])
 (.cond (.t 20)
 (.seq (.reg [dr 21 (fa 4 3),
 wt 22 (l1 21),
 dr 23 (.iaddr 1 (.t 22) (ki 0)),
 wt 24 (l1 23),
 mv 6 24])
 .ret)
 .skip))
 (.seq (.reg [dr 26 (.eq (.prim .i) false (.t 8) (ki 275)),
 mv 25 26])
 (.cond (.t 25)
 (.seq (.draw [(dr 27 (fa 4 3), 0, false),
 (wt 28 (l1 27), 1, false),
 (mv 29 1, 0, false),
 (dr 30 (.iaddr 1 (.t 29) (ki 0)), 4, false),
 (wt 31 (l1 30), 12, false),
 (dr 32 (fa 4 3), 0, false),
 (wt 33 (l1 32), 32, false),
 (dr 34 (.len (.t 33)), 96, false),
 (dr 35 (.bin .sub (.t 34) (ki 1)), 224, false),
 (dr 36 (.conv .u64 (.t 35)), 480, false),
 (dr 37 (.mm false [(.t 31), (.t 36)]), 1020, false),
 (dr 38 (.iaddr 1 (.t 28) (.t 37)), 2047, false),
 (wt 39 (l1 38), 4095, true),
 (mv 6 39, 8191, false)])
 .ret)
 .skip))))))))
 (.seq (.reg [mv 40 2,
 dr 41 (.bin .add (.t 40) (ki 1)),
 mv 6 41])
 .ret))) }

/-- bellcrank/bellcrankref02.Fits -/
def e91 : EFunc := { own := none, res := [(.tmp 4)], ntmps := 15, pure := false, body :=
 (.seq (.reg [⟨(some 4), (.dry (.mov (.k (.bool false)))), none⟩])
 (.seq (.reg [⟨(some 5), (.dry (.mov (.t 0))), none⟩,
 ⟨(some 6), (.dry (.eq (.prim .i) false (.t 5) (.k (.int .i64 126)))), none⟩,
 ⟨(some 7), (.dry (.mov (.t 6))), none⟩,
 ⟨(some 8), (.dry (.mov (.t 0))), (some (7, false))⟩,
 ⟨(some 9), (.dry (.eq (.prim .i) false (.t 8) (.k (.int .i64 127)))), (some (7, false))⟩,
 ⟨(some 10), (.dry (.mov (.t 9))), (some (7, false))⟩,
 ⟨(some 11), (.dry (.mov (.t 1))), (some (10, true))⟩,
 ⟨(some 12), (.dry (.bin .lss (.t 11) (.k (.int .u64 4294967296)))), (some (10, true))⟩,
 ⟨(some 13), (.dry (.pick (.t 10) (.t 12) (.k (.bool false)))), (some (7, false))⟩,
 ⟨(some 14), (.dry (.pick (.t 7) (.k (.bool true)) (.t 13))), none⟩,
 ⟨(some 4), (.dry (.mov (.t 14))), none⟩])
 .ret)) }

/-- bellcrank/ssa.small -/
def e95 : EFunc := { own := none, res := [(.tmp 2)], ntmps := 88, pure := false, body :=
 (.seq (.reg [wt 1 (.box 4 (.t 0)),
 dr 2 (.mov (.k (.bool false)))])
 (.seq (.seq (.reg [dr 10 (fa 2 1),
 wt 11 (l1 10),
 dr 12 (.faddr 0 2 true (.t 1)),
 dr 13 (fa 0 12),
 wt 14 (l1 13),
 dr 15 (.faddr 0 2 true (.t 1)),
 dr 16 (fa 1 15),
 wt 17 (l1 16),
 wt 18 (.bsl 1 3 [.nils, .nils, .nils] [(0, (.t 11)), (1, (.t 14)), (2, (.t 17))]),
 cl 19 (kf 125) [(.t 18)],
 dr 20 (.not (.t 19)),
 mv 21 20,
 dg 22 21 false (fa 3 1),
 wg 23 21 false (l1 22),
 dg 24 21 false (.len (.t 23)),
 dg 25 21 false (.bin .gtr (.t 24) (ki 4096)),
 dr 26 (.pick (.t 21) (.k (.bool true)) (.t 25))])
 (.cond (.t 26)
 (.seq (.reg [dr 2 (.mov (.k (.bool false)))])
 .ret)
 .skip))
 (.seq (.reg [dr 3 (.mov (ki 4096))])
 (.seq (.seq (.reg [dr 27 (fa 3 1),
 wt 28 (l1 27),
 dr 29 (.len (.t 28)),
 dr 30 (.mov (ki 0))])
 (.block 0
 (.loop
 (.seq (.reg [dr 31 (.bin .lss (.t 30) (.t 29))])
 (.seq (.cond (.t 31)
 .skip
 (.exit 0))
 (.seq (.block 1
 (.seq (.reg [dr 32 (.iaddr 6 (.t 28) (.t 30)),
 wt 33 (.load 6 true (.t 32)),
 wt 5 (.alloc 237 6 [.nils, .nils, (ig 0), (ig 0), .nils, .nils]),
 wn (.store 6 (.t 5) (.t 33))])
 (.seq (.reg [mv 34 3,
 dr 35 (fa 1 5),
 wt 36 (l1 35),
 dr 37 (.len (.t 36)),
 dr 38 (.bin .sub (.t 34) (.t 37)),
 mv 3 38])
 (.seq (.seq (.reg [mv 39 3,
 dr 40 (.bin .lss (.t 39) (ki 0)),
 mv 41 40,
 dg 42 41 false (fa 0 5),
 wg 43 41 false (l1 42),
 dg 44 41 false (.faddr 2 4 true (.t 5)),
 dg 45 41 false (fa 3 44),
 wg 46 41 false (l1 45),
 wg 47 41 false (.bsl 1 2 [.nils, .nils] [(0, (.t 43)), (1, (.t 46))]),
 cg 48 41 false (kf 125) [(.t 47)],
 dg 49 41 false (.not (.t 48)),
 dr 50 (.pick (.t 41) (.k (.bool true)) (.t 49)),
 mv 51 50,
 dg 52 51 false (.faddr 2 4 true (.t 5)),
 dg 53 51 false (fa 2 52),
 wg 54 51 false (l1 53),
 dg 55 51 false (.len (.t 54)),
 dg 56 51 false (.bin .gtr (.t 55) (ki 4096)),
 dr 57 (.pick (.t 51) (.k (.bool true)) (.t 56))])
 (.cond (.t 57)
 (.seq (.reg [dr 2 (.mov (.k (.bool false)))])
 .ret)
 .skip))
 (.seq (.seq (.reg [dr 58 (fa 1 5),
 wt 59 (l1 58),
 dr 60 (.len (.t 59)),
 dr 61 (.mov (ki 0))])
 (.block 2
 (.loop
 (.seq (.reg [dr 62 (.bin .lss (.t 61) (.t 60))])
 (.seq (.cond (.t 62)
 .skip
 (.exit 2))
 (.seq (.block 3
 (.seq (.reg [dr 63 (.iaddr 4 (.t 59) (.t 61)),
 wt 64 (.load 4 true (.t 63)),
 wt 7 (.alloc 225 4 [(ig 0), (.int .u64 0), .nils, .nils]),
 wn (.store 4 (.t 7) (.t 64))])
 (.seq (.reg [dr 65 (fa 2 7),
 wt 66 (l1 65),
 dr 67 (fa 3 7),
 wt 68 (l1 67),
 wt 69 (.bsl 1 2 [.nils, .nils] [(0, (.t 66)), (1, (.t 68))]),
 cl 70 (kf 125) [(.t 69)],
 dr 71 (.not (.t 70))])
 (.cond (.t 71)
 (.seq (.reg [dr 2 (.mov (.k (.bool false)))])
 .ret)
 .skip))))
 (.reg [dr 72 (.bin .add (.t 61) (ki 1)),
 mv 61 72])))))))
 (.seq (.reg [dr 73 (.faddr 2 4 true (.t 5)),
 dr 74 (fa 2 73),
 wt 75 (l1 74),
 dr 76 (.len (.t 75)),
 dr 77 (.mov (ki 0))])
 (.block 4
 (.loop
 (.seq (.reg [dr 78 (.bin .lss (.t 77) (.t 76))])
 (.seq (.cond (.t 78)
 .skip
 (.exit 4))
 (.seq (.block 5
 (.seq (.reg [dr 79 (.iaddr 2 (.t 75) (.t 77)),
 wt 80 (.load 2 true (.t 79)),
 wt 9 (.alloc 289 2 [(ig 0), .nils]),
 wn (.store 2 (.t 9) (.t 80))])
 (.seq (.reg [dr 81 (fa 1 9),
 wt 82 (l1 81),
 wt 83 (.bsl 1 1 [.nils] [(0, (.t 82))]),
 cl 84 (kf 125) [(.t 83)],
 dr 85 (.not (.t 84))])
 (.cond (.t 85)
 (.seq (.reg [dr 2 (.mov (.k (.bool false)))])
 .ret)
 .skip))))
 (.reg [dr 86 (.bin .add (.t 77) (ki 1)),
 mv 77 86]))))))))))))
 (.reg [dr 87 (.bin .add (.t 30) (ki 1)),
 mv 30 87])))))))
 (.seq (.reg [dr 2 (.mov (.k (.bool true)))])
 .ret))))) }

/-- slices.ContainsFunc[[]bellcrank/api.Block,bellcrank/api.Block] -/
def e96 : EFunc := { own := none, res := [(.tmp 4)], ntmps := 9, pure := false, body :=
 (.seq (.reg [dr 4 (.mov (.k (.bool false)))])
 (.seq (.reg [mv 5 0,
 mv 6 1,
 cl 7 (kf 126) [(.t 5), (.t 6)],
 dr 8 (.bin .geq (.t 7) (ki 0)),
 mv 4 8])
 .ret)) }

/-- bellcrank/ssa.Check$1 -/
def e97 : EFunc := { own := none, res := [(.tmp 2)], ntmps := 7, pure := false, body :=
 (.seq (.reg [wt 1 (.box 6 (.t 0)),
 dr 2 (.mov (.k (.bool false)))])
 (.seq (.reg [dr 3 (fa 0 1),
 wt 4 (l1 3),
 dr 5 (.len (.t 4)),
 dr 6 (.bin .gtr (.t 5) (ki 256)),
 mv 2 6])
 .ret)) }

/-- (*bellcrank/ssa.checker).define -/
def e98 : EFunc := { own := none, res := [(.tmp 2)], ntmps := 53, pure := false, body :=
 (.seq (.reg [wt 1 (.box 1 (.t 0)),
 dr 2 (.mov (.k (.bool false)))])
 (.seq (.draw [(wt 8 (l1 1), 0, false),
 (wt 9 (l1 1), 0, false),
 (dr 10 (.nilchk (.t 9)), 2, false),
 (dr 11 (.faddr 5 4 true (.t 10)), 6, false),
 (dr 12 (fa 2 11), 14, false),
 (wt 13 (l1 12), 30, false),
 (dr 14 (.len (.t 13)), 62, false),
 (wt 15 (.mksl 3 24 [(.bool false), (ig 0), (ig 0)] (.t 14) (.t 14)), 126, false),
 (dr 16 (.nilchk (.t 8)), 255, false),
 (dr 17 (fa 9 16), 511, false),
 (wn (.store 1 (.t 17) (.t 15)), 1023, true)])
 (.seq (.reg [dr 18 (.mkfn 127 [] [(.t 1)]),
 mv 3 18])
 (.seq (.seq (.reg [wt 19 (l1 1),
 dr 20 (.nilchk (.t 19)),
 dr 21 (.faddr 5 4 true (.t 20)),
 dr 22 (fa 3 21),
 wt 23 (l1 22),
 dr 24 (.len (.t 23)),
 dr 25 (.mov (ki 0))])
 (.block 0
 (.loop
 (.seq (.reg [dr 26 (.bin .lss (.t 25) (.t 24))])
 (.seq (.cond (.t 26)
 .skip
 (.exit 0))
 (.seq (.block 1
 (.seq (.reg [mv 27 25,
 dr 28 (.iaddr 6 (.t 23) (.t 25)),
 wt 29 (.load 6 true (.t 28)),
 wt 5 (.alloc 237 6 [.nils, .nils, (ig 0), (ig 0), .nils, .nils]),
 mv 4 27,
 wn (.store 6 (.t 5) (.t 29))])
 (.seq (.seq (.reg [mv 30 3,
 dr 31 (fa 0 5),
 wt 32 (l1 31),
 mv 33 4,
 cl 34 (.t 30) [(.t 32), (.t 33), (ki (-1))],
 dr 35 (.not (.t 34))])
 (.cond (.t 35)
 (.seq (.reg [dr 2 (.mov (.k (.bool false)))])
 .ret)
 .skip))
 (.seq (.reg [dr 36 (fa 1 5),
 wt 37 (l1 36),
 dr 38 (.len (.t 37)),
 dr 39 (.mov (ki 0))])
 (.block 2
 (.loop
 (.seq (.reg [dr 40 (.bin .lss (.t 39) (.t 38))])
 (.seq (.cond (.t 40)
 .skip
 (.exit 2))
 (.seq (.block 3
 (.seq (.reg [mv 41 39,
 dr 42 (.iaddr 4 (.t 37) (.t 39)),
 wt 43 (.load 4 true (.t 42)),
 wt 7 (.alloc 225 4 [(ig 0), (.int .u64 0), .nils, .nils]),
 mv 6 41,
 wn (.store 4 (.t 7) (.t 43))])
 (.seq (.reg [mv 44 3,
 dr 45 (fa 3 7),
 wt 46 (l1 45),
 mv 47 4,
 mv 48 6,
 cl 49 (.t 44) [(.t 46), (.t 47), (.t 48)],
 dr 50 (.not (.t 49))])
 (.cond (.t 50)
 (.seq (.reg [dr 2 (.mov (.k (.bool false)))])
 .ret)
 .skip))))
 (.reg [dr 51 (.bin .add (.t 39) (ki 1)),
 mv 39 51]))))))))))
 (.reg [dr 52 (.bin .add (.t 25) (ki 1)),
 mv 25 52])))))))
 (.seq (.reg [dr 2 (.mov (.k (.bool true)))])
 .ret))))) }

/-- (*bellcrank/ssa.checker).shape -/
def e99 : EFunc := { own := none, res := [(.tmp 2)], ntmps := 74, pure := false, body :=
 (.seq (.reg [dr 2 (.mov (.k (.bool false)))])
 (.seq (.reg [mv 7 0,
 dr 8 (.nilchk (.t 7)),
 dr 9 (.faddr 5 4 true (.t 8)),
 wt 10 (.load 4 true (.t 9)),
 cl 11 (kf 128) [(.t 10)],
 mv 3 11])
 (.seq (.reg [mv 13 3,
 cl 14 (kf 129) [(.t 13)],
 mv 12 14,
 dr 15 (.extract (.t 12) 0),
 dr 16 (.extract (.t 12) 1),
 mv 4 15,
 mv 5 16])
 (.seq (.seq (.reg [mv 17 5,
 dr 18 (.eq (.prim .i) true (.t 17) (ki 0)),
 mv 19 18,
 dg 20 19 false (.mov (.t 4)),
 dg 21 19 false (.len (.t 20)),
 dg 22 19 false (.mov (.t 3)),
 dg 23 19 false (.len (.t 22)),
 dg 24 19 false (.eq (.prim .i) true (.t 21) (.t 23)),
 dr 25 (.pick (.t 19) (.k (.bool true)) (.t 24)),
 mv 26 25,
 dg 27 26 false (.mov (.t 0)),
 dg 28 26 false (.nilchk (.t 27)),
 dg 29 26 false (.faddr 5 4 true (.t 28)),
 wg 30 26 false (.load 4 true (.t 29)),
 dg 31 26 false (.mov (.t 3)),
 cg 32 26 false (kf 130) [(.t 30), (.t 31)],
 dr 33 (.pick (.t 26) (.k (.bool true)) (.t 32))])
 (.cond (.t 33)
 (.seq (.reg [dr 2 (.mov (.k (.bool false)))])
 .ret)
 .skip))
 (.seq (.reg [mv 35 0,
 mv 36 3,
 cl 37 (kf 131) [(.t 36)],
 mv 34 37,
 dr 38 (.extract (.t 34) 0),
 dr 39 (.extract (.t 34) 1),
 dr 40 (.nilchk (.t 35)),
 dr 41 (fa 10 40),
 wn (.store 1 (.t 41) (.t 38))])
 (.seq (.reg [mv 42 0,
 dr 43 (.nilchk (.t 42)),
 dr 44 (.faddr 5 4 true (.t 43)),
 dr 45 (fa 3 44),
 wt 46 (l1 45),
 dr 47 (.iaddr 6 (.t 46) (ki 0)),
 wt 48 (.load 6 true (.t 47)),
 wt 6 (.alloc 237 6 [.nils, .nils, (ig 0), (ig 0), .nils, .nils]),
 wn (.store 6 (.t 6) (.t 48))])
 (.seq (.draw [(mv 49 0, 0, false),
 (dr 50 (fa 0 6), 0, false),
 (wt 51 (l1 50), 2, false),
 (cl 52 (kf 132) [(.t 49), (.t 51)], 7, false),
 (mv 53 0, 0, false),
 (dr 54 (.nilchk (.t 53)), 16, false),
 (dr 55 (.faddr 5 4 true (.t 54)), 48, false),
 (dr 56 (.faddr 0 2 true (.t 55)), 112, false),
 (dr 57 (fa 0 56), 240, false),
 (wt 58 (l1 57), 496, false),
 (cl 59 (kf 32) [(.t 52), (.t 58)], 1023, true),
 (mv 60 59, 2047, false),
 (dg 61 60 true (fa 1 6), 4095, false),
 (wg 62 60 true (l1 61), 8191, true),
 (dg 63 60 true (.len (.t 62)), 16383, false),
 (dg 64 60 true (.bin .gtr (.t 63) (ki 0)), 32767, false),
 (dr 65 (.pick (.t 60) (.t 64) (.k (.bool false))), 65535, false),
 (mv 66 65, 131071, false),
 (dg 67 66 true (fa 1 6), 262143, false),
 (wg 68 66 true (l1 67), 524287, true),
 (dg 69 66 true (.iaddr 4 (.t 68) (ki 0)), 1048575, false),
 (dg 70 66 true (fa 0 69), 2097151, false),
 (wg 71 66 true (l1 70), 4194303, true),
 (dg 72 66 true (.eq (.prim .i) false (.t 71) (ki 258)), 8388607, false),
 (dr 73 (.pick (.t 66) (.t 72) (.k (.bool false))), 16777215, false),
 (mv 2 73, 33554431, false)])
 .ret))))))) }

/-- (*bellcrank/ssa.checker).ins -/
def e100 : EFunc := { own := none, res := [(.tmp 8)], ntmps := 68, pure := false, body :=
 (.seq (.reg [wt 7 (.box 4 (.t 3)),
 dr 8 (.mov (.k (.bool false)))])
 (.seq (.reg [dr 9 (.mov (ki 0))])
 (.seq (.seq (.reg [dr 14 (fa 3 7),
 wt 15 (l1 14),
 dr 16 (.len (.t 15)),
 dr 17 (.bin .gtr (.t 16) (ki 0))])
 (.cond (.t 17)
 (.draw [(mv 18 0, 0, false),
 (dr 19 (.nilchk (.t 18)), 1, false),
 (dr 20 (.faddr 5 4 true (.t 19)), 3, false),
 (dr 21 (fa 2 20), 7, false),
 (wt 22 (l1 21), 15, false),
 (dr 23 (fa 3 7), 0, false),
 (wt 24 (l1 23), 32, false),
 (dr 25 (.iaddr 1 (.t 24) (ki 0)), 96, false),
 (wt 26 (l1 25), 224, false),
 (dr 27 (.iaddr 1 (.t 22) (.t 26)), 511, false),
 (wt 28 (l1 27), 1023, true),
 (mv 9 28, 2047, false)])
 .skip))
 (.seq (.draw [(mv 30 0, 0, false),
 (dr 31 (.nilchk (.t 30)), 1, false),
 (dr 32 (.faddr 0 5 true (.t 31)), 3, false),
 (wt 33 (.load 5 true (.t 32)), 7, false),
 (dr 34 (fa 0 7), 0, false),
 (wt 35 (l1 34), 16, false),
 (dr 36 (fa 1 7), 0, false),
 (wt 37 (l1 36), 64, false),
 (mv 38 9, 0, false),
 (cl 39 (kf 133) [(.t 33), (.t 35), (.t 37), (.t 38)], 511, true),
 (mv 29 39, 1023, false),
 (dr 40 (.extract (.t 29) 0), 2047, false),
 (dr 41 (.extract (.t 29) 1), 2047, false),
 (dr 42 (.extract (.t 29) 2), 2047, false),
 (dr 43 (.extract (.t 29) 3), 2047, false),
 (mv 10 40, 4095, false),
 (mv 11 41, 40959, false),
 (mv 12 42, 114687, false),
 (mv 13 43, 262143, false)])
 (.seq (.reg [mv 44 13,
 mv 45 44,
 dg 46 45 true (fa 1 7),
 wg 47 45 true (l1 46),
 dg 48 45 true (.mov (.t 12)),
 dg 49 45 true (.bin .leq (.t 47) (.t 48)),
 dr 50 (.pick (.t 45) (.t 49) (.k (.bool false))),
 mv 51 50,
 dg 52 51 true (.mov (.t 0)),
 dg 53 51 true (fa 3 7),
 wg 54 51 true (l1 53),
 cg 55 51 true (kf 132) [(.t 52), (.t 54)],
 dg 56 51 true (.mov (.t 11)),
 cg 57 51 true (kf 32) [(.t 55), (.t 56)],
 dr 58 (.pick (.t 51) (.t 57) (.k (.bool false))),
 mv 59 58,
 dg 60 59 true (.mov (.t 0)),
 dg 61 59 true (.mov (.t 1)),
 dg 62 59 true (.mov (.t 2)),
 dg 63 59 true (fa 2 7),
 wg 64 59 true (l1 63),
 dg 65 59 true (.mov (.t 10)),
 cg 66 59 true (kf 134) [(.t 60), (.t 61), (.t 62), (.t 64), (.t 65)],
 dr 67 (.pick (.t 59) (.t 66) (.k (.bool false))),
 mv 8 67])
 .ret))))) }

/-- (*bellcrank/ssa.checker).term -/
def e101 : EFunc := { own := none, res := [(.tmp 6)], ntmps := 105, pure := false, body :=
 (.seq (.reg [wt 5 (.box 6 (.t 2)),
 dr 6 (.mov (.k (.bool false)))])
 (.seq (.draw [(dr 14 (.faddr 2 4 true (.t 5)), 0, false),
 (wt 15 (.load 4 true (.t 14)), 1, false),
 (dr 16 (fa 1 5), 0, false),
 (wt 17 (l1 16), 4, false),
 (dr 18 (.len (.t 17)), 12, false),
 (wt 7 (.alloc 233 4 [(ig 0), (ig 0), .nils, .nils]), 0, false),
 (wn (.store 4 (.t 7) (.t 15)), 35, false),
 (mv 8 18, 127, false)])
 (.seq (.reg [dr 9 (.mov (ki 0)),
 dr 10 (.mov (ki 0))])
 (.seq (.reg [dr 11 (.mov (.k .nils))])
 (.seq (.seq (.reg [dr 19 (fa 0 7),
 wt 20 (l1 19)])
 (.block 0
 (.seq (.reg [dr 22 (.eq (.prim .i) false (.t 20) (ki 1)),
 mv 21 22])
 (.cond (.t 21)
 (.reg [dr 9 (.mov (ki 1)),
 dr 10 (.mov (ki 1))])
 (.seq (.reg [dr 24 (.eq (.prim .i) false (.t 20) (ki 2)),
 mv 23 24])
 (.cond (.t 23)
 (.reg [dr 9 (.mov (ki 2)),
 dr 10 (.mov (ki 2))])
 (.seq (.reg [dr 26 (.eq (.prim .i) false (.t 20) (ki 3)),
 mv 25 26])
 (.cond (.t 25)
 (.reg [dr 9 (.mov (ki 1)),
 dr 10 (.mov (ki 65))])
 (.seq (.reg [dr 28 (.eq (.prim .i) false (.t 20) (ki 4)),
 mv 27 28])
 (.cond (.t 27)
 (.reg [mv 29 0,
 dr 30 (.nilchk (.t 29)),
 dr 31 (.faddr 5 4 true (.t 30)),
 dr 32 (.faddr 0 2 true (.t 31)),
 dr 33 (fa 1 32),
 wt 34 (l1 33),
 mv 11 34])
 (.seq (.reg [dr 36 (.eq (.prim .i) false (.t 20) (ki 5)),
 mv 35 36])
 (.cond (.t 35)
 .skip
 (.seq (.reg [dr 6 (.mov (.k (.bool false)))])
 .ret)))))))))))))
 (.seq (.seq (.reg [wt 37 (.load 4 true (.t 7)),
 cl 38 (kf 135) [(.t 37)]])
 (.cond (.t 38)
 (.seq (.reg [mv 39 0,
 mv 40 1,
 mv 41 8,
 dr 42 (fa 1 7),
 wt 43 (l1 42),
 wt 44 (.bsl 1 1 [(ig 0)] [(0, (.t 43))]),
 wt 45 (.bsl 1 1 [(ig 0)] [(0, (ki 127))]),
 cl 46 (kf 134) [(.t 39), (.t 40), (.t 41), (.t 44), (.t 45)],
 dr 47 (.not (.t 46))])
 (.cond (.t 47)
 (.seq (.reg [dr 6 (.mov (.k (.bool false)))])
 .ret)
 .skip))
 (.seq (.reg [dr 48 (fa 1 7),
 wt 49 (l1 48),
 dr 50 (.eq (.prim .i) true (.t 49) (ki 0))])
 (.cond (.t 50)
 (.seq (.reg [dr 6 (.mov (.k (.bool false)))])
 .ret)
 .skip))))
 (.seq (.seq (.reg [dr 51 (fa 2 7),
 wt 52 (l1 51),
 dr 53 (.len (.t 52)),
 mv 54 9,
 dr 55 (.bin .lss (.t 53) (.t 54)),
 mv 56 55,
 dg 57 56 false (fa 2 7),
 wg 58 56 false (l1 57),
 dg 59 56 false (.len (.t 58)),
 dg 60 56 false (.mov (.t 10)),
 dg 61 56 false (.bin .gtr (.t 59) (.t 60)),
 dr 62 (.pick (.t 56) (.k (.bool true)) (.t 61)),
 mv 63 62,
 dg 64 63 false (.mov (.t 0)),
 dg 65 63 false (.mov (.t 1)),
 dg 66 63 false (.mov (.t 8)),
 dg 67 63 false (fa 3 7),
 wg 68 63 false (l1 67),
 dg 69 63 false (.mov (.t 11)),
 cg 70 63 false (kf 134) [(.t 64), (.t 65), (.t 66), (.t 68), (.t 69)],
 dg 71 63 false (.not (.t 70)),
 dr 72 (.pick (.t 63) (.k (.bool true)) (.t 71))])
 (.cond (.t 72)
 (.seq (.reg [dr 6 (.mov (.k (.bool false)))])
 .ret)
 .skip))
 (.seq (.seq (.reg [dr 73 (fa 2 7),
 wt 74 (l1 73),
 dr 75 (.len (.t 74)),
 dr 76 (.mov (ki 0))])
 (.block 1
 (.loop
 (.seq (.reg [dr 77 (.bin .lss (.t 76) (.t 75))])
 (.seq (.cond (.t 77)
 .skip
 (.exit 1))
 (.seq (.block 2
 (.seq (.reg [dr 78 (.iaddr 2 (.t 74) (.t 76)),
 wt 79 (.load 2 true (.t 78)),
 wt 13 (.alloc 289 2 [(ig 0), .nils]),
 wn (.store 2 (.t 13) (.t 79))])
 (.seq (.draw [(dr 80 (fa 0 13), 0, false),
 (wt 81 (l1 80), 1, true),
 (dr 82 (.eq (.prim .i) false (.t 81) (ki 0)), 3, false),
 (mv 83 82, 7, false),
 (dg 84 83 false (.mov (.t 0)), 15, false),
 (dg 85 83 false (.mov (.t 1)), 15, false),
 (dg 86 83 false (.mov (.t 8)), 15, false),
 (dg 87 83 false (fa 1 13), 15, false),
 (wg 88 83 false (l1 87), 143, false),
 (dg 89 83 false (.mov (.t 0)), 15, false),
 (dg 90 83 false (.mov (.t 0)), 15, false),
 (dg 91 83 false (.nilchk (.t 90)), 1039, false),
 (dg 92 83 false (.faddr 5 4 true (.t 91)), 3087, false),
 (dg 93 83 false (fa 3 92), 7183, false),
 (wg 94 83 false (l1 93), 15375, false),
 (dg 95 83 false (fa 0 13), 15, false),
 (wg 96 83 false (l1 95), 32783, false),
 (dg 97 83 false (.iaddr 6 (.t 94) (.t 96)), 130063, false),
 (dg 98 83 false (fa 0 97), 261135, false),
 (wg 99 83 false (l1 98), 523279, false),
 (cg 100 83 false (kf 132) [(.t 89), (.t 99)], 1048079, false),
 (cg 101 83 false (kf 134) [(.t 84), (.t 85), (.t 86), (.t 88), (.t 100)], 2097151, true),
 (dg 102 83 false (.not (.t 101)), 4194303, false),
 (dr 103 (.pick (.t 83) (.k (.bool true)) (.t 102)), 8388607, false)])
 (.cond (.t 103)
 (.seq (.reg [dr 6 (.mov (.k (.bool false)))])
 .ret)
 .skip))))
 (.reg [dr 104 (.bin .add (.t 76) (ki 1)),
 mv 76 104])))))))
 (.seq (.reg [dr 6 (.mov (.k (.bool true)))])
 .ret))))))))) }

/-- bellcrank/num.find -/
def e117 : EFunc := { own := none, res := [(.cell 2 4 true), (.tmp 3), (.tmp 4)], ntmps := 33, pure := false, body :=
 (.seq (.reg [⟨(some 2), (.wet (.alloc 383 4 [(.int .i64 0), (.int .i64 0), (.int .i64 0), (.int .i64 0)])), none⟩,
 ⟨(some 3), (.dry (.mov (.k (.int .i64 0)))), none⟩,
 ⟨(some 4), (.dry (.mov (.k (.bool false)))), none⟩])
 (.seq (.seq (.reg [⟨(some 7), (.call (.k (.fn 145 [] [])) []), none⟩,
 ⟨(some 8), (.dry (.len (.t 7))), none⟩,
 ⟨(some 9), (.dry (.mov (.k (.int .i64 0)))), none⟩])
 (.block 0
 (.loop
 (.seq (.reg [⟨(some 10), (.dry (.bin .lss (.t 9) (.t 8))), none⟩])
 (.seq (.cond (.t 10)
 .skip
 (.exit 0))
 (.seq (.block 1
 (.seq (.reg [⟨(some 11), (.dry (.iaddr 4 (.t 7) (.t 9))), none⟩,
 ⟨(some 12), (.wet (.load 4 true (.t 11))), none⟩,
 ⟨(some 6), (.wet (.alloc 383 4 [(.int .i64 0), (.int .i64 0), (.int .i64 0), (.int .i64 0)])), none⟩,
 ⟨none, (.wet (.store 4 (.t 6) (.t 12))), none⟩])
 (.seq (.reg [⟨(some 13), (.dry (.mov (.t 0))), none⟩,
 ⟨(some 14), (.dry (.faddr 0 1 false (.t 6))), none⟩,
 ⟨(some 15), (.wet (.load 1 false (.t 14))), none⟩,
 ⟨(some 16), (.dry (.bin .geq (.t 13) (.t 15))), none⟩,
 ⟨(some 17), (.dry (.mov (.t 16))), none⟩,
 ⟨(some 18), (.dry (.mov (.t 0))), (some (17, true))⟩,
 ⟨(some 19), (.dry (.faddr 0 1 false (.t 6))), (some (17, true))⟩,
 ⟨(some 20), (.wet (.load 1 false (.t 19))), (some (17, true))⟩,
 ⟨(some 21), (.dry (.bin .sub (.t 18) (.t 20))), (some (17, true))⟩,
 ⟨(some 22), (.dry (.faddr 1 1 false (.t 6))), (some (17, true))⟩,
 ⟨(some 23), (.wet (.load 1 false (.t 22))), (some (17, true))⟩,
 ⟨(some 24), (.dry (.bin .lss (.t 21) (.t 23))), (some (17, true))⟩,
 ⟨(some 25), (.dry (.pick (.t 17) (.t 24) (.k (.bool false)))), none⟩])
 (.cond (.t 25)
 (.seq (.draw [(⟨(some 26), (.wet (.load 4 true (.t 6))), none⟩, 0, false),
 (⟨(some 27), (.dry (.mov (.t 0))), none⟩, 0, false),
 (⟨(some 28), (.dry (.faddr 0 1 false (.t 6))), none⟩, 0, false),
 (⟨(some 29), (.wet (.load 1 false (.t 28))), none⟩, 4, false),
 (⟨(some 30), (.dry (.bin .sub (.t 27) (.t 29))), none⟩, 14, false),
 (⟨none, (.wet (.store 4 (.t 2) (.t 26))), none⟩, 1, false),
 (⟨(some 3), (.dry (.mov (.t 30))), none⟩, 63, false),
 (⟨(some 4), (.dry (.mov (.k (.bool true)))), none⟩, 127, false)])
 .ret)
 .skip))))
 (.reg [⟨(some 31), (.dry (.bin .add (.t 9) (.k (.int .i64 1)))), none⟩,
 ⟨(some 9), (.dry (.mov (.t 31))), none⟩])))))))
 (.seq (.reg [⟨(some 32), (.dry (.build [(.int .i64 0), (.int .i64 0), (.int .i64 0), (.int .i64 0)] [])), none⟩,
 ⟨none, (.wet (.store 4 (.t 2) (.t 32))), none⟩,
 ⟨(some 3), (.dry (.mov (.k (.int .i64 0)))), none⟩,
 ⟨(some 4), (.dry (.mov (.k (.bool false)))), none⟩])
 .ret))) }

/-- bellcrank/mem.Access -/
def e118 : EFunc := { own := none, res := [(.tmp 2), (.tmp 3), (.tmp 4), (.tmp 5)], ntmps := 20, pure := false, body :=
 (.seq (.reg [⟨(some 2), (.dry (.mov (.k (.int .i64 0)))), none⟩,
 ⟨(some 3), (.dry (.mov (.k (.int .i64 0)))), none⟩,
 ⟨(some 4), (.dry (.mov (.k (.bool false)))), none⟩,
 ⟨(some 5), (.dry (.mov (.k (.bool false)))), none⟩])
 (.seq (.reg [⟨(some 8), (.call (.k (.fn 146 [] [])) []), none⟩,
 ⟨(some 9), (.dry (.mov (.t 0))), none⟩,
 ⟨(some 10), (.wet (.lookup .i (.agg [(.int .i64 0), (.int .i64 0), (.bool false), (.bool false)]) true (.t 8) (.t 9))), none⟩,
 ⟨(some 7), (.dry (.mov (.t 10))), none⟩,
 ⟨(some 11), (.dry (.extract (.t 7) 0)), none⟩,
 ⟨(some 12), (.dry (.extract (.t 7) 1)), none⟩,
 ⟨(some 6), (.wet (.alloc 453 4 [(.int .i64 0), (.int .i64 0), (.bool false), (.bool false)])), none⟩,
 ⟨none, (.wet (.store 4 (.t 6) (.t 11))), none⟩,
 ⟨(some 5), (.dry (.mov (.t 12))), none⟩])
 (.seq (.draw [(⟨(some 13), (.dry (.faddr 0 1 false (.t 6))), none⟩, 0, false),
 (⟨(some 14), (.wet (.load 1 false (.t 13))), none⟩, 1, false),
 (⟨(some 15), (.dry (.faddr 1 1 false (.t 6))), none⟩, 0, false),
 (⟨(some 16), (.wet (.load 1 false (.t 15))), none⟩, 4, false),
 (⟨(some 17), (.dry (.faddr 2 1 false (.t 6))), none⟩, 0, false),
 (⟨(some 18), (.wet (.load 1 false (.t 17))), none⟩, 16, false),
 (⟨(some 19), (.dry (.mov (.t 5))), none⟩, 0, false),
 (⟨(some 2), (.dry (.mov (.t 14))), none⟩, 3, false),
 (⟨(some 3), (.dry (.mov (.t 16))), none⟩, 143, false),
 (⟨(some 4), (.dry (.mov (.t 18))), none⟩, 447, false),
 (⟨(some 5), (.dry (.mov (.t 19))), none⟩, 1023, false)])
 .ret))) }

/-- bellcrank/bellcrankref02.Sig -/
def e119 : EFunc := { own := none, res := [(.tmp 2), (.tmp 3), (.tmp 4)], ntmps := 34, pure := false, body :=
 (.seq (.reg [⟨(some 2), (.dry (.mov (.k .nils))), none⟩,
 ⟨(some 3), (.dry (.mov (.k (.int .i64 0)))), none⟩,
 ⟨(some 4), (.dry (.mov (.k (.bool false)))), none⟩])
 (.seq (.reg [⟨(some 8), (.dry (.mov (.t 0))), none⟩,
 ⟨(some 9), (.call (.k (.fn 147 [] [])) [(.t 8)]), none⟩,
 ⟨(some 5), (.dry (.mov (.t 9))), none⟩])
 (.seq (.seq (.reg [⟨(some 10), (.dry (.mov (.t 5))), none⟩,
 ⟨(some 11), (.dry (.eq (.prim .i) false (.t 10) (.k (.int .i64 0)))), none⟩])
 (.cond (.t 11)
 (.seq (.reg [⟨(some 2), (.dry (.mov (.k .nils))), none⟩,
 ⟨(some 3), (.dry (.mov (.k (.int .i64 0)))), none⟩,
 ⟨(some 4), (.dry (.mov (.k (.bool false)))), none⟩])
 .ret)
 .skip))
 (.seq (.reg [⟨(some 12), (.dry (.mov (.t 5))), none⟩,
 ⟨(some 13), (.dry (.mov (.t 5))), none⟩,
 ⟨(some 14), (.wet (.bsl 1 2 [(.int .i64 0), (.int .i64 0)] [(0, (.t 12)), (1, (.t 13))])), none⟩,
 ⟨(some 6), (.dry (.mov (.t 14))), none⟩])
 (.seq (.seq (.reg [⟨(some 15), (.dry (.mov (.t 0))), none⟩,
 ⟨(some 16), (.call (.k (.fn 148 [] [])) [(.t 15)]), none⟩])
 (.cond (.t 16)
 (.reg [⟨(some 17), (.dry (.mov (.t 6))), none⟩,
 ⟨(some 18), (.wet (.slice 1 (.t 17) none (some (.k (.int .i64 1))))), none⟩,
 ⟨(some 6), (.dry (.mov (.t 18))), none⟩])
 .skip))
 (.seq (.reg [⟨(some 19), (.dry (.mov (.t 5))), none⟩,
 ⟨(some 7), (.dry (.mov (.t 19))), none⟩])
 (.seq (.seq (.reg [⟨(some 20), (.dry (.mov (.t 0))), none⟩,
 ⟨(some 21), (.call (.k (.fn 149 [] [])) [(.t 20), (.k (.int .i64 69)), (.k (.int .i64 90))]), none⟩,
 ⟨(some 22), (.dry (.mov (.t 21))), none⟩,
 ⟨(some 23), (.dry (.mov (.t 0))), (some (22, false))⟩,
 ⟨(some 24), (.dry (.eq (.prim .i) false (.t 23) (.k (.int .i64 167)))), (some (22, false))⟩,
 ⟨(some 25), (.dry (.pick (.t 22) (.k (.bool true)) (.t 24))), none⟩])
 (.cond (.t 25)
 (.reg [⟨(some 7), (.dry (.mov (.k (.int .i64 127)))), none⟩])
 .skip))
 (.seq (.seq (.reg [⟨(some 26), (.dry (.mov (.t 0))), none⟩,
 ⟨(some 27), (.dry (.eq (.prim .i) false (.t 26) (.k (.int .i64 172)))), none⟩,
 ⟨(some 28), (.dry (.mov (.t 27))), none⟩,
 ⟨(some 29), (.dry (.mov (.t 0))), (some (28, false))⟩,
 ⟨(some 30), (.dry (.eq (.prim .i) false (.t 29) (.k (.int .i64 173)))), (some (28, false))⟩,
 ⟨(some 31), (.dry (.pick (.t 28) (.k (.bool true)) (.t 30))), none⟩])
 (.cond (.t 31)
 (.reg [⟨(some 7), (.dry (.mov (.k (.int .i64 126)))), none⟩])
 .skip))
 (.seq (.reg [⟨(some 32), (.dry (.mov (.t 6))), none⟩,
 ⟨(some 33), (.dry (.mov (.t 7))), none⟩,
 ⟨(some 2), (.dry (.mov (.t 32))), none⟩,
 ⟨(some 3), (.dry (.mov (.t 33))), none⟩,
 ⟨(some 4), (.dry (.mov (.k (.bool true)))), none⟩])
 .ret))))))))) }

/-- bellcrank/bellcrankref03.Access -/
def e120 : EFunc := { own := none, res := [(.tmp 2), (.tmp 3), (.tmp 4), (.tmp 5)], ntmps := 51, pure := false, body :=
 (.seq (.reg [⟨(some 2), (.dry (.mov (.k (.int .i64 0)))), none⟩,
 ⟨(some 3), (.dry (.mov (.k (.int .i64 0)))), none⟩,
 ⟨(some 4), (.dry (.mov (.k (.bool false)))), none⟩,
 ⟨(some 5), (.dry (.mov (.k (.bool false)))), none⟩])
 (.seq (.reg [⟨(some 6), (.dry (.mov (.k (.int .i64 0)))), none⟩])
 (.seq (.seq (.reg [⟨(some 8), (.dry (.mov (.t 0))), none⟩])
 (.block 0
 (.seq (.seq (.reg [⟨(some 10), (.dry (.eq (.prim .i) false (.t 8) (.k (.int .i64 40)))), none⟩,
 ⟨(some 9), (.dry (.mov (.t 10))), none⟩])
 (.cond (.t 9)
 .skip
 (.seq (.reg [⟨(some 11), (.dry (.eq (.prim .i) false (.t 8) (.k (.int .i64 44)))), none⟩,
 ⟨(some 9), (.dry (.mov (.t 11))), none⟩])
 (.cond (.t 9)
 .skip
 (.seq (.reg [⟨(some 12), (.dry (.eq (.prim .i) false (.t 8) (.k (.int .i64 45)))), none⟩,
 ⟨(some 9), (.dry (.mov (.t 12))), none⟩])
 (.cond (.t 9)
 .skip
 (.seq (.reg [⟨(some 13), (.dry (.eq (.prim .i) false (.t 8) (.k (.int .i64 46)))), none⟩,
 ⟨(some 9), (.dry (.mov (.t 13))), none⟩])
 (.cond (.t 9)
 .skip
 (.seq (.reg [⟨(some 14), (.dry (.eq (.prim .i) false (.t 8) (.k (.int .i64 47)))), none⟩,
 ⟨(some 9), (.dry (.mov (.t 14))), none⟩])
 (.cond (.t 9)
 .skip
 (.seq (.reg [⟨(some 15), (.dry (.eq (.prim .i) false (.t 8) (.k (.int .i64 54)))), none⟩,
 ⟨(some 9), (.dry (.mov (.t 15))), none⟩])
 (.cond (.t 9)
 .skip
 (.seq (.reg [⟨(some 16), (.dry (.eq (.prim .i) false (.t 8) (.k (.int .i64 58)))), none⟩,
 ⟨(some 9), (.dry (.mov (.t 16))), none⟩])
 (.cond (.t 9)
 .skip
 (.reg [⟨(some 17), (.dry (.eq (.prim .i) false (.t 8) (.k (.int .i64 59)))), none⟩,
 ⟨(some 9), (.dry (.mov (.t 17))), none⟩])))))))))))))))
 (.cond (.t 9)
 (.reg [⟨(some 6), (.dry (.mov (.k (.int .i64 127)))), none⟩])
 (.seq (.seq (.reg [⟨(some 19), (.dry (.eq (.prim .i) false (.t 8) (.k (.int .i64 41)))), none⟩,
 ⟨(some 18), (.dry (.mov (.t 19))), none⟩])
 (.cond (.t 18)
 .skip
 (.seq (.reg [⟨(some 20), (.dry (.eq (.prim .i) false (.t 8) (.k (.int .i64 48)))), none⟩,
 ⟨(some 18), (.dry (.mov (.t 20))), none⟩])
 (.cond (.t 18)
 .skip
 (.seq (.reg [⟨(some 21), (.dry (.eq (.prim .i) false (.t 8) (.k (.int .i64 49)))), none⟩,
 ⟨(some 18), (.dry (.mov (.t 21))), none⟩])
 (.cond (.t 18)
 .skip
 (.seq (.reg [⟨(some 22), (.dry (.eq (.prim .i) false (.t 8) (.k (.int .i64 50)))), none⟩,
 ⟨(some 18), (.dry (.mov (.t 22))), none⟩])
 (.cond (.t 18)
 .skip
 (.seq (.reg [⟨(some 23), (.dry (.eq (.prim .i) false (.t 8) (.k (.int .i64 51)))), none⟩,
 ⟨(some 18), (.dry (.mov (.t 23))), none⟩])
 (.cond (.t 18)
 .skip
 (.seq (.reg [⟨(some 24), (.dry (.eq (.prim .i) false (.t 8) (.k (.int .i64 52)))), none⟩,
 ⟨(some 18), (.dry (.mov (.t 24))), none⟩])
 (.cond (.t 18)
 .skip
 (.seq (.reg [⟨(some 25), (.dry (.eq (.prim .i) false (.t 8) (.k (.int .i64 53)))), none⟩,
 ⟨(some 18), (.dry (.mov (.t 25))), none⟩])
 (.cond (.t 18)
 .skip
 (.seq (.reg [⟨(some 26), (.dry (.eq (.prim .i) false (.t 8) (.k (.int .i64 55)))), none⟩,
 ⟨(some 18), (.dry (.mov (.t 26))), none⟩])
 (.cond (.t 18)
 .skip
 (.seq (.reg [⟨(some 27), (.dry (.eq (.prim .i) false (.t 8) (.k (.int .i64 60)))), none⟩,
 ⟨(some 18), (.dry (.mov (.t 27))), none⟩])
 (.cond (.t 18)
 .skip
 (.seq (.reg [⟨(some 28), (.dry (.eq (.prim .i) false (.t 8) (.k (.int .i64 61)))), none⟩,
 ⟨(some 18), (.dry (.mov (.t 28))), none⟩])
 (.cond (.t 18)
 .skip
 (.reg [⟨(some 29), (.dry (.eq (.prim .i) false (.t 8) (.k (.int .i64 62)))), none⟩,
 ⟨(some 18), (.dry (.mov (.t 29))), none⟩])))))))))))))))))))))
 (.cond (.t 18)
 (.reg [⟨(some 6), (.dry (.mov (.k (.int .i64 126)))), none⟩])
 (.seq (.reg [⟨(some 2), (.dry (.mov (.k (.int .i64 0)))), none⟩,
 ⟨(some 3), (.dry (.mov (.k (.int .i64 0)))), none⟩,
 ⟨(some 4), (.dry (.mov (.k (.bool false)))), none⟩,
 ⟨(some 5), (.dry (.mov (.k (.bool false)))), none⟩])
 .ret)))))))
 (.seq (.reg [⟨(some 7), (.dry (.mov (.k (.int .i64 1)))), none⟩])
 (.seq (.seq (.reg [⟨(some 30), (.dry (.mov (.t 0))), none⟩])
 (.block 1
 (.seq (.seq (.reg [⟨(some 32), (.dry (.eq (.prim .i) false (.t 30) (.k (.int .i64 40)))), none⟩,
 ⟨(some 31), (.dry (.mov (.t 32))), none⟩])
 (.cond (.t 31)
 .skip
 (.seq (.reg [⟨(some 33), (.dry (.eq (.prim .i) false (.t 30) (.k (.int .i64 54)))), none⟩,
 ⟨(some 31), (.dry (.mov (.t 33))), none⟩])
 (.cond (.t 31)
 .skip
 (.seq (.reg [⟨(some 34), (.dry (.eq (.prim .i) false (.t 30) (.k (.int .i64 52)))), none⟩,
 ⟨(some 31), (.dry (.mov (.t 34))), none⟩])
 (.cond (.t 31)
 .skip
 (.seq (.reg [⟨(some 35), (.dry (.eq (.prim .i) false (.t 30) (.k (.int .i64 53)))), none⟩,
 ⟨(some 31), (.dry (.mov (.t 35))), none⟩])
 (.cond (.t 31)
 .skip
 (.reg [⟨(some 36), (.dry (.eq (.prim .i) false (.t 30) (.k (.int .i64 62)))), none⟩,
 ⟨(some 31), (.dry (.mov (.t 36))), none⟩])))))))))
 (.cond (.t 31)
 (.reg [⟨(some 7), (.dry (.mov (.k (.int .i64 4)))), none⟩])
 (.seq (.seq (.reg [⟨(some 38), (.dry (.eq (.prim .i) false (.t 30) (.k (.int .i64 41)))), none⟩,
 ⟨(some 37), (.dry (.mov (.t 38))), none⟩])
 (.cond (.t 37)
 .skip
 (.reg [⟨(some 39), (.dry (.eq (.prim .i) false (.t 30) (.k (.int .i64 55)))), none⟩,
 ⟨(some 37), (.dry (.mov (.t 39))), none⟩])))
 (.cond (.t 37)
 (.reg [⟨(some 7), (.dry (.mov (.k (.int .i64 8)))), none⟩])
 (.seq (.seq (.reg [⟨(some 41), (.dry (.eq (.prim .i) false (.t 30) (.k (.int .i64 46)))), none⟩,
 ⟨(some 40), (.dry (.mov (.t 41))), none⟩])
 (.cond (.t 40)
 .skip
 (.seq (.reg [⟨(some 42), (.dry (.eq (.prim .i) false (.t 30) (.k (.int .i64 47)))), none⟩,
 ⟨(some 40), (.dry (.mov (.t 42))), none⟩])
 (.cond (.t 40)
 .skip
 (.seq (.reg [⟨(some 43), (.dry (.eq (.prim .i) false (.t 30) (.k (.int .i64 50)))), none⟩,
 ⟨(some 40), (.dry (.mov (.t 43))), none⟩])
 (.cond (.t 40)
 .skip
 (.seq (.reg [⟨(some 44), (.dry (.eq (.prim .i) false (.t 30) (.k (.int .i64 51)))), none⟩,
 ⟨(some 40), (.dry (.mov (.t 44))), none⟩])
 (.cond (.t 40)
 .skip
 (.seq (.reg [⟨(some 45), (.dry (.eq (.prim .i) false (.t 30) (.k (.int .i64 59)))), none⟩,
 ⟨(some 40), (.dry (.mov (.t 45))), none⟩])
 (.cond (.t 40)
 .skip
 (.reg [⟨(some 46), (.dry (.eq (.prim .i) false (.t 30) (.k (.int .i64 61)))), none⟩,
 ⟨(some 40), (.dry (.mov (.t 46))), none⟩])))))))))))
 (.cond (.t 40)
 (.reg [⟨(some 7), (.dry (.mov (.k (.int .i64 2)))), none⟩])
 .skip))))))))
 (.seq (.reg [⟨(some 47), (.dry (.mov (.t 6))), none⟩,
 ⟨(some 48), (.dry (.mov (.t 7))), none⟩,
 ⟨(some 49), (.dry (.mov (.t 0))), none⟩,
 ⟨(some 50), (.dry (.bin .geq (.t 49) (.k (.int .i64 54)))), none⟩,
 ⟨(some 2), (.dry (.mov (.t 47))), none⟩,
 ⟨(some 3), (.dry (.mov (.t 48))), none⟩,
 ⟨(some 4), (.dry (.mov (.t 50))), none⟩,
 ⟨(some 5), (.dry (.mov (.k (.bool true)))), none⟩])
 .ret)))))) }

/-- bellcrank/ssa.short -/
def e125 : EFunc := { own := none, res := [(.tmp 2)], ntmps := 6, pure := false, body :=
 (.seq (.reg [dr 2 (.mov (.k (.bool false)))])
 (.seq (.reg [mv 3 0,
 cl 4 (kf 159) [(.t 3), (kf 160)],
 dr 5 (.not (.t 4)),
 mv 2 5])
 .ret)) }

/-- slices.IndexFunc[[]bellcrank/api.Block,bellcrank/api.Block] -/
def e126 : EFunc := { own := none, res := [(.tmp 4)], ntmps := 19, pure := false, body :=
 (.seq (.reg [dr 4 (.mov (ki 0))])
 (.seq (.seq (.reg [mv 6 0,
 dr 7 (.len (.t 6)),
 dr 8 (.mov (ki 0))])
 (.block 0
 (.loop
 (.seq (.reg [dr 9 (.bin .lss (.t 8) (.t 7))])
 (.seq (.cond (.t 9)
 .skip
 (.exit 0))
 (.seq (.block 1
 (.seq (.reg [mv 10 8,
 mv 5 10])
 (.seq (.reg [mv 11 1,
 mv 12 0,
 mv 13 5,
 dr 14 (.iaddr 6 (.t 12) (.t 13)),
 wt 15 (.load 6 true (.t 14)),
 cl 16 (.t 11) [(.t 15)]])
 (.cond (.t 16)
 (.seq (.reg [mv 17 5,
 mv 4 17])
 .ret)
 .skip))))
 (.reg [dr 18 (.bin .add (.t 8) (ki 1)),
 mv 8 18])))))))
 (.seq (.reg [dr 4 (.mov (ki (-1)))])
 .ret))) }

/-- (*bellcrank/ssa.checker).define$1 -/
def e127 : EFunc := { own := none, res := [(.tmp 7)], ntmps := 47, pure := false, body :=
 (.seq (.reg [dr 7 (.mov (.k (.bool false)))])
 (.seq (.seq (.reg [mv 10 0,
 dr 11 (.len (.t 10)),
 dr 12 (.mov (ki 0))])
 (.block 0
 (.loop
 (.seq (.reg [dr 13 (.bin .lss (.t 12) (.t 11))])
 (.seq (.cond (.t 13)
 .skip
 (.exit 0))
 (.seq (.block 1
 (.seq (.reg [dr 14 (.iaddr 1 (.t 10) (.t 12)),
 wt 15 (l1 14),
 mv 9 15])
 (.seq (.seq (.reg [mv 16 9,
 dr 17 (.bin .lss (.t 16) (ki 0)),
 mv 18 17,
 dg 19 18 false (.mov (.t 9)),
 wg 20 18 false (l1 3),
 dg 21 18 false (.nilchk (.t 20)),
 dg 22 18 false (fa 9 21),
 wg 23 18 false (l1 22),
 dg 24 18 false (.len (.t 23)),
 dg 25 18 false (.bin .geq (.t 19) (.t 24)),
 dr 26 (.pick (.t 18) (.k (.bool true)) (.t 25)),
 mv 27 26,
 wg 28 27 false (l1 3),
 dg 29 27 false (.nilchk (.t 28)),
 dg 30 27 false (fa 9 29),
 wg 31 27 false (l1 30),
 dg 32 27 false (.mov (.t 9)),
 dg 33 27 false (.iaddr 3 (.t 31) (.t 32)),
 dg 34 27 false (fa 0 33),
 wg 35 27 false (l1 34),
 dr 36 (.pick (.t 27) (.k (.bool true)) (.t 35))])
 (.cond (.t 36)
 (.seq (.reg [dr 7 (.mov (.k (.bool false)))])
 .ret)
 .skip))
 (.reg [wt 37 (l1 3),
 dr 38 (.nilchk (.t 37)),
 dr 39 (fa 9 38),
 wt 40 (l1 39),
 mv 41 9,
 mv 42 1,
 mv 43 2,
 dr 44 (.build [(.bool false), (ig 0), (ig 0)] [(0, 1, (.k (.bool true))), (1, 1, (.t 42)), (2, 1, (.t 43))]),
 dr 45 (.iaddr 3 (.t 40) (.t 41)),
 wn (.store 3 (.t 45) (.t 44))]))))
 (.reg [dr 46 (.bin .add (.t 12) (ki 1)),
 mv 12 46])))))))
 (.seq (.reg [dr 7 (.mov (.k (.bool true)))])
 .ret))) }

/-- bellcrank/ssa.Succ -/
def e128 : EFunc := { own := none, res := [(.tmp 2)], ntmps := 39, pure := false, body :=
 (.seq (.reg [wt 1 (.box 4 (.t 0)),
 dr 2 (.mov (.k .nils))])
 (.seq (.seq (.reg [wt 9 (.load 4 true (.t 1)),
 cl 10 (kf 95) [(.t 9)],
 dr 11 (.not (.t 10))])
 (.cond (.t 11)
 (.seq (.reg [dr 2 (.mov (.k .nils))])
 .ret)
 .skip))
 (.seq (.reg [dr 3 (.mov (.k .nils))])
 (.seq (.seq (.reg [dr 12 (fa 3 1),
 wt 13 (l1 12),
 dr 14 (.len (.t 13)),
 dr 15 (.mov (ki 0))])
 (.block 0
 (.loop
 (.seq (.reg [dr 16 (.bin .lss (.t 15) (.t 14))])
 (.seq (.cond (.t 16)
 .skip
 (.exit 0))
 (.seq (.block 1
 (.seq (.reg [dr 17 (.iaddr 6 (.t 13) (.t 15)),
 wt 18 (.load 6 true (.t 17)),
 wt 5 (.alloc 237 6 [.nils, .nils, (ig 0), (ig 0), .nils, .nils]),
 wn (.store 6 (.t 5) (.t 18))])
 (.seq (.reg [dr 6 (.mov (.k .nils))])
 (.seq (.seq (.reg [dr 19 (.faddr 2 4 true (.t 5)),
 dr 20 (fa 2 19),
 wt 21 (l1 20),
 dr 22 (.len (.t 21)),
 dr 23 (.mov (ki 0))])
 (.block 2
 (.loop
 (.seq (.reg [dr 24 (.bin .lss (.t 23) (.t 22))])
 (.seq (.cond (.t 24)
 .skip
 (.exit 2))
 (.seq (.block 3
 (.seq (.reg [dr 25 (.iaddr 2 (.t 21) (.t 23)),
 wt 26 (.load 2 true (.t 25)),
 wt 8 (.alloc 289 2 [(ig 0), .nils]),
 wn (.store 2 (.t 8) (.t 26))])
 (.reg [mv 27 6,
 dr 28 (fa 0 8),
 wt 29 (l1 28),
 wt 30 (.bsl 1 1 [(ig 0)] [(0, (.t 29))]),
 wt 31 (.append 8 1 8 (.t 27) (.t 30)),
 mv 6 31])))
 (.reg [dr 32 (.bin .add (.t 23) (ki 1)),
 mv 23 32])))))))
 (.reg [mv 33 3,
 mv 34 6,
 wt 35 (.bsl 1 1 [.nils] [(0, (.t 34))]),
 wt 36 (.append 48 1 24 (.t 33) (.t 35)),
 mv 3 36])))))
 (.reg [dr 37 (.bin .add (.t 15) (ki 1)),
 mv 15 37])))))))
 (.seq (.reg [mv 38 3,
 mv 2 38])
 .ret))))) }

/-- bellcrank/graph.Order -/
def e129 : EFunc := { own := none, res := [(.tmp 2), (.tmp 3)], ntmps := 9, pure := false, body :=
 (.seq (.reg [dr 2 (.mov (.k .nils)),
 dr 3 (.mov (ki 0))])
 (.seq (.seq (.reg [mv 4 0,
 cl 5 (kf 161) [(.t 4)],
 dr 6 (.not (.t 5))])
 (.cond (.t 6)
 (.seq (.reg [dr 2 (.mov (.k .nils)),
 dr 3 (.mov (ki 1))])
 .ret)
 .skip))
 (.seq (.reg [mv 7 0,
 cl 8 (kf 162) [(.t 7)],
 mv 2 8,
 dr 3 (.mov (ki 0))])
 .ret))) }

/-- bellcrank/ssa.rings -/
def e130 : EFunc := { own := none, res := [(.tmp 4)], ntmps := 28, pure := false, body :=
 (.seq (.reg [wt 2 (.box 4 (.t 0)),
 wt 3 (.box 1 (.t 1)),
 dr 4 (.mov (.k (.bool false)))])
 (.seq (.reg [wt 8 (l1 3),
 dr 9 (.len (.t 8)),
 wt 10 (.mksl 1 8 [(ig 0)] (.t 9) (.t 9)),
 wt 5 (.alloc 1 1 [.nils]),
 wn (.store 1 (.t 5) (.t 10))])
 (.seq (.reg [wt 6 (.alloc 1 1 [.nilf])])
 (.seq (.reg [dr 11 (.mkfn 163 [] [(.t 2), (.t 5), (.t 3), (.t 6)]),
 wn (.store 1 (.t 6) (.t 11))])
 (.seq (.seq (.reg [wt 12 (l1 3),
 dr 13 (.len (.t 12)),
 dr 14 (.mov (ki 0))])
 (.block 0
 (.loop
 (.seq (.reg [dr 15 (.bin .lss (.t 14) (.t 13))])
 (.seq (.cond (.t 15)
 .skip
 (.exit 0))
 (.seq (.block 1
 (.seq (.reg [mv 16 14,
 mv 7 16])
 (.seq (.reg [wt 17 (l1 5),
 mv 18 7,
 dr 19 (.iaddr 1 (.t 17) (.t 18)),
 wt 20 (l1 19),
 dr 21 (.eq (.prim .i) false (.t 20) (ki 0)),
 mv 22 21,
 wg 23 22 true (l1 6),
 dg 24 22 true (.mov (.t 7)),
 cg 25 22 true (.t 23) [(.t 24)],
 dr 26 (.pick (.t 22) (.t 25) (.k (.bool false)))])
 (.cond (.t 26)
 (.seq (.reg [dr 4 (.mov (.k (.bool true)))])
 .ret)
 .skip))))
 (.reg [dr 27 (.bin .add (.t 14) (ki 1)),
 mv 14 27])))))))
 (.seq (.reg [dr 4 (.mov (.k (.bool false)))])
 .ret)))))) }

/-- bellcrank/graph.Nearest -/
def e131 : EFunc := { own := none, res := [(.tmp 2), (.tmp 3)], ntmps := 99, pure := false, body :=
 (.seq (.reg [dr 2 (.mov (.k .nils)),
 dr 3 (.mov (ki 0))])
 (.seq (.reg [mv 19 0,
 cl 20 (kf 166) [(.t 19)],
 mv 18 20,
 dr 21 (.extract (.t 18) 0),
 dr 22 (.extract (.t 18) 1),
 mv 4 21,
 mv 5 22])
 (.seq (.seq (.reg [mv 23 5,
 dr 24 (.eq (.prim .i) true (.t 23) (ki 0))])
 (.cond (.t 24)
 (.seq (.reg [mv 25 5,
 dr 2 (.mov (.k .nils)),
 mv 3 25])
 .ret)
 .skip))
 (.seq (.reg [mv 26 0,
 cl 27 (kf 162) [(.t 26)],
 mv 6 27])
 (.seq (.reg [mv 28 0,
 dr 29 (.len (.t 28)),
 wt 30 (.mksl 1 8 [(ig 0)] (.t 29) (.t 29)),
 wt 7 (.alloc 1 1 [.nils]),
 wn (.store 1 (.t 7) (.t 30))])
 (.seq (.seq (.reg [mv 31 6,
 dr 32 (.len (.t 31)),
 dr 33 (.mov (ki 0))])
 (.block 0
 (.loop
 (.seq (.reg [dr 34 (.bin .lss (.t 33) (.t 32))])
 (.seq (.cond (.t 34)
 .skip
 (.exit 0))
 (.seq (.block 1
 (.seq (.reg [mv 35 33,
 dr 36 (.iaddr 1 (.t 31) (.t 33)),
 wt 37 (l1 36),
 mv 8 35,
 mv 9 37])
 (.reg [wt 38 (l1 7),
 mv 39 9,
 mv 40 8,
 dr 41 (.iaddr 1 (.t 38) (.t 39)),
 wn (.store 1 (.t 41) (.t 40))])))
 (.reg [dr 42 (.bin .add (.t 33) (ki 1)),
 mv 33 42])))))))
 (.seq (.reg [wt 43 (.bsl 1 1 [(ig 0)] [(0, (ki (-1)))]),
 mv 44 0,
 dr 45 (.len (.t 44)),
 cl 46 (kf 167) [(.t 43), (.t 45)],
 wt 10 (.alloc 1 1 [.nils]),
 wn (.store 1 (.t 10) (.t 46))])
 (.seq (.reg [wt 47 (l1 10),
 dr 48 (.iaddr 1 (.t 47) (ki 0)),
 wn (.store 1 (.t 48) (ki 0))])
 (.seq (.reg [dr 49 (.mkfn 168 [] [(.t 7), (.t 10)]),
 mv 11 49])
 (.seq (.seq (.reg [dr 12 (.mov (.k (.bool true)))])
 (.block 2
 (.loop
 (.seq (.seq (.reg [mv 50 12])
 (.cond (.t 50)
 .skip
 (.exit 2)))
 (.block 3
 (.seq (.reg [dr 12 (.mov (.k (.bool false)))])
 (.seq (.reg [mv 51 6,
 wt 52 (.slice 1 (.t 51) (some (ki 1)) none),
 dr 53 (.len (.t 52)),
 dr 54 (.mov (ki 0))])
 (.block 4
 (.loop
 (.seq (.reg [dr 55 (.bin .lss (.t 54) (.t 53))])
 (.seq (.cond (.t 55)
 .skip
 (.exit 4))
 (.seq (.block 5
 (.seq (.reg [dr 56 (.iaddr 1 (.t 52) (.t 54)),
 wt 57 (l1 56),
 mv 14 57])
 (.seq (.reg [dr 15 (.mov (ki (-1)))])
 (.seq (.seq (.reg [mv 58 4,
 mv 59 14,
 dr 60 (.iaddr 1 (.t 58) (.t 59)),
 wt 61 (l1 60),
 dr 62 (.len (.t 61)),
 dr 63 (.mov (ki 0))])
 (.block 6
 (.loop
 (.seq (.reg [dr 64 (.bin .lss (.t 63) (.t 62))])
 (.seq (.cond (.t 64)
 .skip
 (.exit 6))
 (.seq (.block 7
 (.seq (.reg [dr 65 (.iaddr 1 (.t 61) (.t 63)),
 wt 66 (l1 65),
 mv 17 66])
 (.block 8
 (.seq (.reg [wt 72 (l1 10),
 mv 73 17,
 dr 74 (.iaddr 1 (.t 72) (.t 73)),
 wt 75 (l1 74),
 dr 76 (.bin .lss (.t 75) (ki 0)),
 mv 71 76])
 (.cond (.t 71)
 .skip
 (.seq (.reg [mv 78 15,
 dr 79 (.bin .lss (.t 78) (ki 0)),
 mv 77 79])
 (.cond (.t 77)
 (.reg [mv 80 17,
 mv 15 80])
 (.reg [mv 67 11,
 mv 68 15,
 mv 69 17,
 cl 70 (.t 67) [(.t 68), (.t 69)],
 mv 15 70]))))))))
 (.reg [dr 81 (.bin .add (.t 63) (ki 1)),
 mv 63 81])))))))
 (.seq (.reg [mv 82 12,
 mv 83 82,
 wg 84 83 false (l1 10),
 dg 85 83 false (.mov (.t 14)),
 dg 86 83 false (.iaddr 1 (.t 84) (.t 85)),
 wg 87 83 false (l1 86),
 dg 88 83 false (.mov (.t 15)),
 dg 89 83 false (.eq (.prim .i) true (.t 87) (.t 88)),
 dr 90 (.pick (.t 83) (.k (.bool true)) (.t 89)),
 mv 12 90])
 (.reg [wt 91 (l1 10),
 mv 92 14,
 mv 93 15,
 dr 94 (.iaddr 1 (.t 91) (.t 92)),
 wn (.store 1 (.t 94) (.t 93))]))))))
 (.reg [dr 95 (.bin .add (.t 54) (ki 1)),
 mv 54 95])))))))))))))
 (.seq (.reg [wt 96 (l1 10),
 dr 97 (.iaddr 1 (.t 96) (ki 0)),
 wn (.store 1 (.t 97) (ki (-1)))])
 (.seq (.reg [wt 98 (l1 10),
 mv 2 98,
 dr 3 (.mov (ki 0))])
 .ret)))))))))))) }

/-- (*bellcrank/ssa.checker).types -/
def e132 : EFunc := { own := none, res := [(.tmp 4)], ntmps := 27, pure := false, body :=
 (.seq (.reg [dr 4 (.mov (.k .nils))])
 (.seq (.reg [dr 5 (.mov (.k .nils))])
 (.seq (.seq (.reg [mv 8 1,
 dr 9 (.len (.t 8)),
 dr 10 (.mov (ki 0))])
 (.block 0
 (.loop
 (.seq (.reg [dr 11 (.bin .lss (.t 10) (.t 9))])
 (.seq (.cond (.t 11)
 .skip
 (.exit 0))
 (.seq (.block 1
 (.seq (.reg [dr 12 (.iaddr 1 (.t 8) (.t 10)),
 wt 13 (l1 12),
 mv 7 13])
 (.reg [mv 14 5,
 mv 15 0,
 dr 16 (.nilchk (.t 15)),
 dr 17 (.faddr 5 4 true (.t 16)),
 dr 18 (fa 2 17),
 wt 19 (l1 18),
 mv 20 7,
 dr 21 (.iaddr 1 (.t 19) (.t 20)),
 wt 22 (l1 21),
 wt 23 (.bsl 1 1 [(ig 0)] [(0, (.t 22))]),
 wt 24 (.append 8 1 8 (.t 14) (.t 23)),
 mv 5 24])))
 (.reg [dr 25 (.bin .add (.t 10) (ki 1)),
 mv 10 25])))))))
 (.seq (.reg [mv 26 5,
 mv 4 26])
 .ret)))) }

/-- bellcrank/ssa.form -/
def e133 : EFunc := { own := none, res := [(.tmp 8), (.tmp 9), (.tmp 10), (.tmp 11)], ntmps := 125, pure := false, body :=
 (.seq (.reg [wt 4 (.box 5 (.t 0)),
 dr 8 (.mov (.k .nils)),
 dr 9 (.mov (.k .nils)),
 dr 10 (.mov (.k (.int .u64 0))),
 dr 11 (.mov (.k (.bool false)))])
 (.seq (.reg [wt 21 (.bsl 1 1 [(ig 0)] [(0, (ki 127))]),
 mv 12 21])
 (.seq (.seq (.reg [mv 22 1])
 (.block 0
 (.seq (.reg [dr 24 (.eq (.prim .i) false (.t 22) (ki 256)),
 mv 23 24])
 (.cond (.t 23)
 (.seq (.seq (.reg [mv 25 3,
 dr 26 (.eq (.prim .i) false (.t 25) (ki 127))])
 (.cond (.t 26)
 (.seq (.reg [mv 27 12,
 dr 8 (.mov (.k .nils)),
 mv 9 27,
 dr 10 (.mov (.k (.int .u64 4294967295))),
 dr 11 (.mov (.k (.bool true)))])
 .ret)
 .skip))
 (.seq (.reg [wt 28 (.bsl 1 1 [(ig 0)] [(0, (ki 126))]),
 dr 8 (.mov (.k .nils)),
 mv 9 28,
 dr 10 (.mov (.k (.int .u64 18446744073709551615))),
 dr 11 (.mov (.k (.bool true)))])
 .ret))
 (.seq (.reg [dr 30 (.eq (.prim .i) false (.t 22) (ki 258)),
 mv 29 30])
 (.cond (.t 29)
 (.seq (.reg [dr 8 (.mov (.k .nils)),
 dr 9 (.mov (.k .nils)),
 dr 10 (.mov (.k (.int .u64 0))),
 dr 11 (.mov (.k (.bool true)))])
 .ret)
 (.seq (.reg [dr 32 (.eq (.prim .i) false (.t 22) (ki 27)),
 mv 31 32])
 (.cond (.t 31)
 (.seq (.reg [mv 33 3,
 mv 34 3,
 wt 35 (.bsl 1 3 [(ig 0), (ig 0), (ig 0)] [(0, (.t 33)), (1, (.t 34)), (2, (ki 127))]),
 mv 36 3,
 wt 37 (.bsl 1 1 [(ig 0)] [(0, (.t 36))]),
 mv 8 35,
 mv 9 37,
 dr 10 (.mov (.k (.int .u64 0))),
 dr 11 (.mov (.k (.bool true)))])
 .ret)
 (.seq (.reg [dr 39 (.eq (.prim .i) false (.t 22) (ki 16)),
 mv 38 39])
 (.cond (.t 38)
 (.seq (.seq (.reg [mv 40 2,
 dr 41 (fa 0 4),
 wt 42 (l1 41),
 dr 43 (.len (.t 42)),
 dr 44 (.conv .u64 (.t 43)),
 dr 45 (.bin .geq (.t 40) (.t 44))])
 (.cond (.t 45)
 .ret
 .skip))
 (.seq (.draw [(dr 46 (fa 0 4), 0, false),
 (wt 47 (l1 46), 1, false),
 (mv 48 2, 0, false),
 (dr 49 (.iaddr 2 (.t 47) (.t 48)), 7, false),
 (dr 50 (fa 0 49), 15, false),
 (wt 51 (l1 50), 31, false),
 (dr 52 (fa 0 4), 0, false),
 (wt 53 (l1 52), 64, false),
 (mv 54 2, 0, false),
 (dr 55 (.iaddr 2 (.t 53) (.t 54)), 448, false),
 (dr 56 (fa 1 55), 960, false),
 (wt 57 (l1 56), 1984, false),
 (mv 58 2, 0, false),
 (mv 8 51, 63, false),
 (mv 9 57, 12287, false),
 (mv 10 58, 32767, false),
 (dr 11 (.mov (.k (.bool true))), 65535, false)])
 .ret))
 (.seq (.seq (.reg [dr 60 (.eq (.prim .i) false (.t 22) (ki 35)),
 mv 59 60])
 (.cond (.t 59)
 .skip
 (.reg [dr 61 (.eq (.prim .i) false (.t 22) (ki 36)),
 mv 59 61])))
 (.cond (.t 59)
 (.seq (.seq (.reg [mv 62 2,
 dr 63 (fa 2 4),
 wt 64 (l1 63),
 dr 65 (.len (.t 64)),
 dr 66 (.conv .u64 (.t 65)),
 dr 67 (.bin .geq (.t 62) (.t 66))])
 (.cond (.t 67)
 .ret
 .skip))
 (.seq (.reg [dr 68 (fa 2 4),
 wt 69 (l1 68),
 mv 70 2,
 mv 71 2,
 dr 72 (.bin .add (.t 71) (.k (.int .u64 1))),
 wt 73 (.slice 1 (.t 69) (some (.t 70)) (some (.t 72))),
 mv 13 73])
 (.seq (.seq (.reg [mv 74 1,
 dr 75 (.eq (.prim .i) false (.t 74) (ki 35))])
 (.cond (.t 75)
 (.seq (.reg [mv 76 13,
 mv 77 2,
 dr 8 (.mov (.k .nils)),
 mv 9 76,
 mv 10 77,
 dr 11 (.mov (.k (.bool true)))])
 .ret)
 .skip))
 (.seq (.draw [(mv 78 13, 0, false),
 (mv 79 2, 0, false),
 (dr 80 (fa 3 4), 0, false),
 (wt 81 (l1 80), 4, true),
 (mv 82 2, 0, false),
 (dr 83 (.iaddr 1 (.t 81) (.t 82)), 28, false),
 (wt 84 (l1 83), 60, true),
 (mv 8 78, 1, false),
 (dr 9 (.mov (.k .nils)), 129, false),
 (mv 10 79, 387, false),
 (mv 11 84, 1023, false)])
 .ret))))
 .skip))))))))))))
 (.seq (.seq (.reg [mv 86 1,
 cl 87 (kf 81) [(.t 86)],
 mv 85 87,
 dr 88 (.extract (.t 85) 0),
 dr 89 (.extract (.t 85) 1),
 dr 90 (.extract (.t 85) 2),
 mv 14 88,
 mv 15 89,
 mv 16 90])
 (.seq (.reg [mv 91 16])
 (.cond (.t 91)
 (.seq (.reg [mv 92 14,
 mv 93 15,
 wt 94 (.bsl 1 1 [(ig 0)] [(0, (.t 93))]),
 mv 8 92,
 mv 9 94,
 dr 10 (.mov (.k (.int .u64 0))),
 dr 11 (.mov (.k (.bool true)))])
 .ret)
 .skip)))
 (.seq (.seq (.reg [dr 95 (fa 4 4),
 wt 96 (l1 95),
 dr 97 (.not (.t 96))])
 (.cond (.t 97)
 .ret
 .skip))
 (.seq (.seq (.reg [mv 98 1])
 (.block 1
 (.seq (.reg [dr 100 (.eq (.prim .i) false (.t 98) (ki 257)),
 mv 99 100])
 (.cond (.t 99)
 (.seq (.reg [mv 101 12,
 mv 8 101,
 dr 9 (.mov (.k .nils)),
 dr 10 (.mov (.k (.int .u64 8589934592))),
 dr 11 (.mov (.k (.bool true)))])
 .ret)
 (.seq (.reg [dr 103 (.eq (.prim .i) false (.t 98) (ki 63)),
 mv 102 103])
 (.cond (.t 102)
 (.seq (.reg [mv 104 12,
 dr 8 (.mov (.k .nils)),
 mv 9 104,
 dr 10 (.mov (.k (.int .u64 0))),
 dr 11 (.mov (.k (.bool true)))])
 .ret)
 (.seq (.reg [dr 106 (.eq (.prim .i) false (.t 98) (ki 64)),
 mv 105 106])
 (.cond (.t 105)
 (.seq (.reg [mv 107 12,
 mv 108 12,
 mv 8 107,
 mv 9 108,
 dr 10 (.mov (.k (.int .u64 0))),
 dr 11 (.mov (.k (.bool true)))])
 .ret)
 .skip))))))))
 (.seq (.reg [mv 110 1,
 cl 111 (kf 118) [(.t 110)],
 mv 109 111,
 dr 112 (.extract (.t 109) 0),
 dr 113 (.extract (.t 109) 1),
 dr 114 (.extract (.t 109) 2),
 dr 115 (.extract (.t 109) 3),
 mv 17 112,
 mv 18 113,
 mv 19 114,
 mv 20 115])
 (.seq (.block 2
 (.seq (.reg [mv 117 19,
 mv 116 117])
 (.cond (.t 116)
 (.seq (.reg [mv 118 17,
 wt 119 (.bsl 1 2 [(ig 0), (ig 0)] [(0, (ki 127)), (1, (.t 118))]),
 mv 8 119,
 dr 9 (.mov (.k .nils)),
 dr 10 (.mov (.k (.int .u64 4294967295))),
 dr 11 (.mov (.k (.bool true)))])
 .ret)
 (.seq (.reg [mv 121 20,
 mv 120 121])
 (.cond (.t 120)
 (.seq (.reg [mv 122 12,
 mv 123 17,
 wt 124 (.bsl 1 1 [(ig 0)] [(0, (.t 123))]),
 mv 8 122,
 mv 9 124,
 dr 10 (.mov (.k (.int .u64 4294967295))),
 dr 11 (.mov (.k (.bool true)))])
 .ret)
 .skip)))))
 .ret)))))))) }

/-- (*bellcrank/ssa.checker).asks -/
def e134 : EFunc := { own := none, res := [(.tmp 10)], ntmps := 15, pure := false, body :=
 (.seq (.reg [wt 5 (.box 1 (.t 0)),
 wt 6 (.box 1 (.t 1)),
 wt 7 (.box 1 (.t 2)),
 dr 10 (.mov (.k (.bool false)))])
 (.seq (.reg [mv 11 3,
 mv 12 4,
 dr 13 (.mkfn 170 [] [(.t 5), (.t 6), (.t 7)]),
 cl 14 (kf 169) [(.t 11), (.t 12), (.t 13)],
 mv 10 14])
 .ret)) }

/-- bellcrank/ssa.branches -/
def e135 : EFunc := { own := none, res := [(.tmp 2)], ntmps := 11, pure := false, body :=
 (.seq (.reg [wt 1 (.box 4 (.t 0)),
 dr 2 (.mov (.k (.bool false)))])
 (.seq (.reg [dr 3 (fa 0 1),
 wt 4 (l1 3),
 dr 5 (.eq (.prim .i) false (.t 4) (ki 2)),
 mv 6 5,
 dg 7 6 false (fa 0 1),
 wg 8 6 false (l1 7),
 dg 9 6 false (.eq (.prim .i) false (.t 8) (ki 3)),
 dr 10 (.pick (.t 6) (.k (.bool true)) (.t 9)),
 mv 2 10])
 .ret)) }

/-- bellcrank/num.groups -/
def e145 : EFunc := { own := none, res := [(.tmp 0)], ntmps := 14, pure := false, body :=
 (.seq (.reg [dr 0 (.mov (.k .nils))])
 (.seq (.reg [dr 1 (.build [(ig 0), (ig 0), (ig 0), (ig 0)] [(0, 1, (ki 69)), (1, 1, (ki 1)), (2, 1, (ki 0)), (3, 1, (ki 127))]),
 dr 2 (.build [(ig 0), (ig 0), (ig 0), (ig 0)] [(0, 1, (ki 70)), (1, 1, (ki 10)), (2, 1, (ki 1)), (3, 1, (ki 127))]),
 dr 3 (.build [(ig 0), (ig 0), (ig 0), (ig 0)] [(0, 1, (ki 80)), (1, 1, (ki 1)), (2, 1, (ki 0)), (3, 1, (ki 126))]),
 dr 4 (.build [(ig 0), (ig 0), (ig 0), (ig 0)] [(0, 1, (ki 81)), (1, 1, (ki 10)), (2, 1, (ki 1)), (3, 1, (ki 126))]),
 dr 5 (.build [(ig 0), (ig 0), (ig 0), (ig 0)] [(0, 1, (ki 103)), (1, 1, (ki 3)), (2, 1, (ki 2)), (3, 1, (ki 127))]),
 dr 6 (.build [(ig 0), (ig 0), (ig 0), (ig 0)] [(0, 1, (ki 106)), (1, 1, (ki 15)), (2, 1, (ki 3)), (3, 1, (ki 127))]),
 dr 7 (.build [(ig 0), (ig 0), (ig 0), (ig 0)] [(0, 1, (ki 121)), (1, 1, (ki 3)), (2, 1, (ki 2)), (3, 1, (ki 126))]),
 dr 8 (.build [(ig 0), (ig 0), (ig 0), (ig 0)] [(0, 1, (ki 124)), (1, 1, (ki 15)), (2, 1, (ki 3)), (3, 1, (ki 126))]),
 dr 9 (.build [(ig 0), (ig 0), (ig 0), (ig 0)] [(0, 1, (ki 167)), (1, 1, (ki 1)), (2, 1, (ki 4)), (3, 1, (ki 126))]),
 dr 10 (.build [(ig 0), (ig 0), (ig 0), (ig 0)] [(0, 1, (ki 172)), (1, 1, (ki 2)), (2, 1, (ki 5)), (3, 1, (ki 127))]),
 dr 11 (.build [(ig 0), (ig 0), (ig 0), (ig 0)] [(0, 1, (ki 192)), (1, 1, (ki 2)), (2, 1, (ki 6)), (3, 1, (ki 127))]),
 dr 12 (.build [(ig 0), (ig 0), (ig 0), (ig 0)] [(0, 1, (ki 194)), (1, 1, (ki 3)), (2, 1, (ki 6)), (3, 1, (ki 126))]),
 wt 13 (.bsl 4 12 [(ig 0), (ig 0), (ig 0), (ig 0), (ig 0), (ig 0), (ig 0), (ig 0), (ig 0), (ig 0), (ig 0), (ig 0), (ig 0), (ig 0), (ig 0), (ig 0), (ig 0), (ig 0), (ig 0), (ig 0), (ig 0), (ig 0), (ig 0), (ig 0), (ig 0), (ig 0), (ig 0), (ig 0), (ig 0), (ig 0), (ig 0), (ig 0), (ig 0), (ig 0), (ig 0), (ig 0), (ig 0), (ig 0), (ig 0), (ig 0), (ig 0), (ig 0), (ig 0), (ig 0), (ig 0), (ig 0), (ig 0), (ig 0)] [(0, (.t 1)), (4, (.t 2)), (8, (.t 3)), (12, (.t 4)), (16, (.t 5)), (20, (.t 6)), (24, (.t 7)), (28, (.t 8)), (32, (.t 9)), (36, (.t 10)), (40, (.t 11)), (44, (.t 12))]),
 mv 0 13])
 .ret)) }

/-- bellcrank/mem.accesses -/
def e146 : EFunc := { own := none, res := [(.tmp 0)], ntmps := 43, pure := false, body :=
 (.seq (.reg [⟨(some 0), (.dry (.mov (.k .nilm))), none⟩])
 (.seq (.reg [⟨(some 1), (.dry (.mov (.k (.int .i64 127)))), none⟩,
 ⟨(some 2), (.dry (.mov (.k (.int .i64 126)))), none⟩])
 (.seq (.reg [⟨(some 3), (.wet .mkmap), none⟩,
 ⟨(some 4), (.dry (.mov (.t 1))), none⟩,
 ⟨(some 5), (.dry (.build [(.int .i64 0), (.int .i64 0), (.bool false), (.bool false)] [(0, 1, (.t 4)), (1, 1, (.k (.int .i64 4))), (2, 1, (.k (.bool false))), (3, 1, (.k (.bool false)))])), none⟩,
 ⟨none, (.wet (.mapset .i (.t 3) (.k (.int .i64 40)) (.t 5))), none⟩,
 ⟨(some 6), (.dry (.mov (.t 2))), none⟩,
 ⟨(some 7), (.dry (.build [(.int .i64 0), (.int .i64 0), (.bool false), (.bool false)] [(0, 1, (.t 6)), (1, 1, (.k (.int .i64 8))), (2, 1, (.k (.bool false))), (3, 1, (.k (.bool false)))])), none⟩,
 ⟨none, (.wet (.mapset .i (.t 3) (.k (.int .i64 41)) (.t 7))), none⟩,
 ⟨(some 8), (.dry (.mov (.t 1))), none⟩,
 ⟨(some 9), (.dry (.build [(.int .i64 0), (.int .i64 0), (.bool false), (.bool false)] [(0, 1, (.t 8)), (1, 1, (.k (.int .i64 1))), (2, 1, (.k (.bool false))), (3, 1, (.k (.bool true)))])), none⟩,
 ⟨none, (.wet (.mapset .i (.t 3) (.k (.int .i64 44)) (.t 9))), none⟩,
 ⟨(some 10), (.dry (.mov (.t 1))), none⟩,
 ⟨(some 11), (.dry (.build [(.int .i64 0), (.int .i64 0), (.bool false), (.bool false)] [(0, 1, (.t 10)), (1, 1, (.k (.int .i64 1))), (2, 1, (.k (.bool false))), (3, 1, (.k (.bool false)))])), none⟩,
 ⟨none, (.wet (.mapset .i (.t 3) (.k (.int .i64 45)) (.t 11))), none⟩,
 ⟨(some 12), (.dry (.mov (.t 1))), none⟩,
 ⟨(some 13), (.dry (.build [(.int .i64 0), (.int .i64 0), (.bool false), (.bool false)] [(0, 1, (.t 12)), (1, 1, (.k (.int .i64 2))), (2, 1, (.k (.bool false))), (3, 1, (.k (.bool true)))])), none⟩,
 ⟨none, (.wet (.mapset .i (.t 3) (.k (.int .i64 46)) (.t 13))), none⟩,
 ⟨(some 14), (.dry (.mov (.t 1))), none⟩,
 ⟨(some 15), (.dry (.build [(.int .i64 0), (.int .i64 0), (.bool false), (.bool false)] [(0, 1, (.t 14)), (1, 1, (.k (.int .i64 2))), (2, 1, (.k (.bool false))), (3, 1, (.k (.bool false)))])), none⟩,
 ⟨none, (.wet (.mapset .i (.t 3) (.k (.int .i64 47)) (.t 15))), none⟩,
 ⟨(some 16), (.dry (.mov (.t 2))), none⟩,
 ⟨(some 17), (.dry (.build [(.int .i64 0), (.int .i64 0), (.bool false), (.bool false)] [(0, 1, (.t 16)), (1, 1, (.k (.int .i64 1))), (2, 1, (.k (.bool false))), (3, 1, (.k (.bool true)))])), none⟩,
 ⟨none, (.wet (.mapset .i (.t 3) (.k (.int .i64 48)) (.t 17))), none⟩,
 ⟨(some 18), (.dry (.mov (.t 2))), none⟩,
 ⟨(some 19), (.dry (.build [(.int .i64 0), (.int .i64 0), (.bool false), (.bool false)] [(0, 1, (.t 18)), (1, 1, (.k (.int .i64 1))), (2, 1, (.k (.bool false))), (3, 1, (.k (.bool false)))])), none⟩,
 ⟨none, (.wet (.mapset .i (.t 3) (.k (.int .i64 49)) (.t 19))), none⟩,
 ⟨(some 20), (.dry (.mov (.t 2))), none⟩,
 ⟨(some 21), (.dry (.build [(.int .i64 0), (.int .i64 0), (.bool false), (.bool false)] [(0, 1, (.t 20)), (1, 1, (.k (.int .i64 2))), (2, 1, (.k (.bool false))), (3, 1, (.k (.bool true)))])), none⟩,
 ⟨none, (.wet (.mapset .i (.t 3) (.k (.int .i64 50)) (.t 21))), none⟩,
 ⟨(some 22), (.dry (.mov (.t 2))), none⟩,
 ⟨(some 23), (.dry (.build [(.int .i64 0), (.int .i64 0), (.bool false), (.bool false)] [(0, 1, (.t 22)), (1, 1, (.k (.int .i64 2))), (2, 1, (.k (.bool false))), (3, 1, (.k (.bool false)))])), none⟩,
 ⟨none, (.wet (.mapset .i (.t 3) (.k (.int .i64 51)) (.t 23))), none⟩,
 ⟨(some 24), (.dry (.mov (.t 2))), none⟩,
 ⟨(some 25), (.dry (.build [(.int .i64 0), (.int .i64 0), (.bool false), (.bool false)] [(0, 1, (.t 24)), (1, 1, (.k (.int .i64 4))), (2, 1, (.k (.bool false))), (3, 1, (.k (.bool true)))])), none⟩,
 ⟨none, (.wet (.mapset .i (.t 3) (.k (.int .i64 52)) (.t 25))), none⟩,
 ⟨(some 26), (.dry (.mov (.t 2))), none⟩,
 ⟨(some 27), (.dry (.build [(.int .i64 0), (.int .i64 0), (.bool false), (.bool false)] [(0, 1, (.t 26)), (1, 1, (.k (.int .i64 4))), (2, 1, (.k (.bool false))), (3, 1, (.k (.bool false)))])), none⟩,
 ⟨none, (.wet (.mapset .i (.t 3) (.k (.int .i64 53)) (.t 27))), none⟩,
 ⟨(some 28), (.dry (.mov (.t 1))), none⟩,
 ⟨(some 29), (.dry (.build [(.int .i64 0), (.int .i64 0), (.bool false), (.bool false)] [(0, 1, (.t 28)), (1, 1, (.k (.int .i64 4))), (2, 1, (.k (.bool true))), (3, 1, (.k (.bool false)))])), none⟩,
 ⟨none, (.wet (.mapset .i (.t 3) (.k (.int .i64 54)) (.t 29))), none⟩,
 ⟨(some 30), (.dry (.mov (.t 2))), none⟩,
 ⟨(some 31), (.dry (.build [(.int .i64 0), (.int .i64 0), (.bool false), (.bool false)] [(0, 1, (.t 30)), (1, 1, (.k (.int .i64 8))), (2, 1, (.k (.bool true))), (3, 1, (.k (.bool false)))])), none⟩,
 ⟨none, (.wet (.mapset .i (.t 3) (.k (.int .i64 55)) (.t 31))), none⟩,
 ⟨(some 32), (.dry (.mov (.t 1))), none⟩,
 ⟨(some 33), (.dry (.build [(.int .i64 0), (.int .i64 0), (.bool false), (.bool false)] [(0, 1, (.t 32)), (1, 1, (.k (.int .i64 1))), (2, 1, (.k (.bool true))), (3, 1, (.k (.bool false)))])), none⟩,
 ⟨none, (.wet (.mapset .i (.t 3) (.k (.int .i64 58)) (.t 33))), none⟩,
 ⟨(some 34), (.dry (.mov (.t 1))), none⟩,
 ⟨(some 35), (.dry (.build [(.int .i64 0), (.int .i64 0), (.bool false), (.bool false)] [(0, 1, (.t 34)), (1, 1, (.k (.int .i64 2))), (2, 1, (.k (.bool true))), (3, 1, (.k (.bool false)))])), none⟩,
 ⟨none, (.wet (.mapset .i (.t 3) (.k (.int .i64 59)) (.t 35))), none⟩,
 ⟨(some 36), (.dry (.mov (.t 2))), none⟩,
 ⟨(some 37), (.dry (.build [(.int .i64 0), (.int .i64 0), (.bool false), (.bool false)] [(0, 1, (.t 36)), (1, 1, (.k (.int .i64 1))), (2, 1, (.k (.bool true))), (3, 1, (.k (.bool false)))])), none⟩,
 ⟨none, (.wet (.mapset .i (.t 3) (.k (.int .i64 60)) (.t 37))), none⟩,
 ⟨(some 38), (.dry (.mov (.t 2))), none⟩,
 ⟨(some 39), (.dry (.build [(.int .i64 0), (.int .i64 0), (.bool false), (.bool false)] [(0, 1, (.t 38)), (1, 1, (.k (.int .i64 2))), (2, 1, (.k (.bool true))), (3, 1, (.k (.bool false)))])), none⟩,
 ⟨none, (.wet (.mapset .i (.t 3) (.k (.int .i64 61)) (.t 39))), none⟩,
 ⟨(some 40), (.dry (.mov (.t 2))), none⟩,
 ⟨(some 41), (.dry (.build [(.int .i64 0), (.int .i64 0), (.bool false), (.bool false)] [(0, 1, (.t 40)), (1, 1, (.k (.int .i64 4))), (2, 1, (.k (.bool true))), (3, 1, (.k (.bool false)))])), none⟩,
 ⟨none, (.wet (.mapset .i (.t 3) (.k (.int .i64 62)) (.t 41))), none⟩,
 ⟨(some 42), (.dry (.mov (.t 3))), none⟩,
 ⟨(some 0), (.dry (.mov (.t 42))), none⟩])
 .ret))) }

/-- bellcrank/bellcrankref02.Of -/
def e147 : EFunc := { own := none, res := [(.tmp 2)], ntmps := 39, pure := false, body :=
 (.seq (.reg [⟨(some 2), (.dry (.mov (.k (.int .i64 0)))), none⟩])
 (.seq (.seq (.reg [⟨(some 3), (.dry (.mov (.t 0))), none⟩,
 ⟨(some 4), (.call (.k (.fn 149 [] [])) [(.t 3), (.k (.int .i64 69)), (.k (.int .i64 79))]), none⟩,
 ⟨(some 5), (.dry (.mov (.t 4))), none⟩,
 ⟨(some 6), (.dry (.mov (.t 0))), (some (5, false))⟩,
 ⟨(some 7), (.call (.k (.fn 149 [] [])) [(.t 6), (.k (.int .i64 103)), (.k (.int .i64 120))]), (some (5, false))⟩,
 ⟨(some 8), (.dry (.pick (.t 5) (.k (.bool true)) (.t 7))), none⟩,
 ⟨(some 9), (.dry (.mov (.t 8))), none⟩,
 ⟨(some 10), (.dry (.mov (.t 0))), (some (9, false))⟩,
 ⟨(some 11), (.dry (.eq (.prim .i) false (.t 10) (.k (.int .i64 172)))), (some (9, false))⟩,
 ⟨(some 12), (.dry (.pick (.t 9) (.k (.bool true)) (.t 11))), none⟩,
 ⟨(some 13), (.dry (.mov (.t 12))), none⟩,
 ⟨(some 14), (.dry (.mov (.t 0))), (some (13, false))⟩,
 ⟨(some 15), (.dry (.eq (.prim .i) false (.t 14) (.k (.int .i64 173)))), (some (13, false))⟩,
 ⟨(some 16), (.dry (.pick (.t 13) (.k (.bool true)) (.t 15))), none⟩,
 ⟨(some 17), (.dry (.mov (.t 16))), none⟩,
 ⟨(some 18), (.dry (.mov (.t 0))), (some (17, false))⟩,
 ⟨(some 19), (.dry (.eq (.prim .i) false (.t 18) (.k (.int .i64 192)))), (some (17, false))⟩,
 ⟨(some 20), (.dry (.pick (.t 17) (.k (.bool true)) (.t 19))), none⟩,
 ⟨(some 21), (.dry (.mov (.t 20))), none⟩,
 ⟨(some 22), (.dry (.mov (.t 0))), (some (21, false))⟩,
 ⟨(some 23), (.dry (.eq (.prim .i) false (.t 22) (.k (.int .i64 193)))), (some (21, false))⟩,
 ⟨(some 24), (.dry (.pick (.t 21) (.k (.bool true)) (.t 23))), none⟩])
 (.cond (.t 24)
 (.seq (.reg [⟨(some 2), (.dry (.mov (.k (.int .i64 127)))), none⟩])
 .ret)
 .skip))
 (.seq (.seq (.reg [⟨(some 25), (.dry (.mov (.t 0))), none⟩,
 ⟨(some 26), (.call (.k (.fn 149 [] [])) [(.t 25), (.k (.int .i64 80)), (.k (.int .i64 90))]), none⟩,
 ⟨(some 27), (.dry (.mov (.t 26))), none⟩,
 ⟨(some 28), (.dry (.mov (.t 0))), (some (27, false))⟩,
 ⟨(some 29), (.call (.k (.fn 149 [] [])) [(.t 28), (.k (.int .i64 121)), (.k (.int .i64 138))]), (some (27, false))⟩,
 ⟨(some 30), (.dry (.pick (.t 27) (.k (.bool true)) (.t 29))), none⟩,
 ⟨(some 31), (.dry (.mov (.t 30))), none⟩,
 ⟨(some 32), (.dry (.mov (.t 0))), (some (31, false))⟩,
 ⟨(some 33), (.dry (.eq (.prim .i) false (.t 32) (.k (.int .i64 167)))), (some (31, false))⟩,
 ⟨(some 34), (.dry (.pick (.t 31) (.k (.bool true)) (.t 33))), none⟩,
 ⟨(some 35), (.dry (.mov (.t 34))), none⟩,
 ⟨(some 36), (.dry (.mov (.t 0))), (some (35, false))⟩,
 ⟨(some 37), (.call (.k (.fn 149 [] [])) [(.t 36), (.k (.int .i64 194)), (.k (.int .i64 196))]), (some (35, false))⟩,
 ⟨(some 38), (.dry (.pick (.t 35) (.k (.bool true)) (.t 37))), none⟩])
 (.cond (.t 38)
 (.seq (.reg [⟨(some 2), (.dry (.mov (.k (.int .i64 126)))), none⟩])
 .ret)
 .skip))
 (.seq (.reg [⟨(some 2), (.dry (.mov (.k (.int .i64 0)))), none⟩])
 .ret)))) }

/-- bellcrank/bellcrankref02.Unary -/
def e148 : EFunc := { own := none, res := [(.tmp 2)], ntmps := 21, pure := false, body :=
 (.seq (.reg [⟨(some 2), (.dry (.mov (.k (.bool false)))), none⟩])
 (.seq (.reg [⟨(some 3), (.dry (.mov (.t 0))), none⟩,
 ⟨(some 4), (.dry (.eq (.prim .i) false (.t 3) (.k (.int .i64 69)))), none⟩,
 ⟨(some 5), (.dry (.mov (.t 4))), none⟩,
 ⟨(some 6), (.dry (.mov (.t 0))), (some (5, false))⟩,
 ⟨(some 7), (.dry (.eq (.prim .i) false (.t 6) (.k (.int .i64 80)))), (some (5, false))⟩,
 ⟨(some 8), (.dry (.pick (.t 5) (.k (.bool true)) (.t 7))), none⟩,
 ⟨(some 9), (.dry (.mov (.t 8))), none⟩,
 ⟨(some 10), (.dry (.mov (.t 0))), (some (9, false))⟩,
 ⟨(some 11), (.call (.k (.fn 149 [] [])) [(.t 10), (.k (.int .i64 103)), (.k (.int .i64 105))]), (some (9, false))⟩,
 ⟨(some 12), (.dry (.pick (.t 9) (.k (.bool true)) (.t 11))), none⟩,
 ⟨(some 13), (.dry (.mov (.t 12))), none⟩,
 ⟨(some 14), (.dry (.mov (.t 0))), (some (13, false))⟩,
 ⟨(some 15), (.call (.k (.fn 149 [] [])) [(.t 14), (.k (.int .i64 121)), (.k (.int .i64 123))]), (some (13, false))⟩,
 ⟨(some 16), (.dry (.pick (.t 13) (.k (.bool true)) (.t 15))), none⟩,
 ⟨(some 17), (.dry (.mov (.t 16))), none⟩,
 ⟨(some 18), (.dry (.mov (.t 0))), (some (17, false))⟩,
 ⟨(some 19), (.dry (.bin .geq (.t 18) (.k (.int .i64 167)))), (some (17, false))⟩,
 ⟨(some 20), (.dry (.pick (.t 17) (.k (.bool true)) (.t 19))), none⟩,
 ⟨(some 2), (.dry (.mov (.t 20))), none⟩])
 .ret)) }

/-- bellcrank/bellcrankref02.in -/
def e149 : EFunc := { own := none, res := [(.tmp 6)], ntmps := 15, pure := false, body :=
 (.seq (.reg [⟨(some 6), (.dry (.mov (.k (.bool false)))), none⟩])
 (.seq (.reg [⟨(some 7), (.dry (.mov (.t 0))), none⟩,
 ⟨(some 8), (.dry (.mov (.t 1))), none⟩,
 ⟨(some 9), (.dry (.bin .geq (.t 7) (.t 8))), none⟩,
 ⟨(some 10), (.dry (.mov (.t 9))), none⟩,
 ⟨(some 11), (.dry (.mov (.t 0))), (some (10, true))⟩,
 ⟨(some 12), (.dry (.mov (.t 2))), (some (10, true))⟩,
 ⟨(some 13), (.dry (.bin .leq (.t 11) (.t 12))), (some (10, true))⟩,
 ⟨(some 14), (.dry (.pick (.t 10) (.t 13) (.k (.bool false)))), none⟩,
 ⟨(some 6), (.dry (.mov (.t 14))), none⟩])
 .ret)) }

/-- slices.ContainsFunc[[][]int,[]int] -/
def e159 : EFunc := { own := none, res := [(.tmp 4)], ntmps := 9, pure := false, body :=
 (.seq (.reg [dr 4 (.mov (.k (.bool false)))])
 (.seq (.reg [mv 5 0,
 mv 6 1,
 cl 7 (kf 201) [(.t 5), (.t 6)],
 dr 8 (.bin .geq (.t 7) (ki 0)),
 mv 4 8])
 .ret)) }

/-- bellcrank/ssa.short$1 -/
def e160 : EFunc := { own := none, res := [(.tmp 2)], ntmps := 6, pure := false, body :=
 (.seq (.reg [dr 2 (.mov (.k (.bool false)))])
 (.seq (.reg [mv 3 0,
 dr 4 (.len (.t 3)),
 dr 5 (.bin .gtr (.t 4) (ki 4096)),
 mv 2 5])
 .ret)) }

/-- bellcrank/graph.Right -/
def e161 : EFunc := { own := none, res := [(.tmp 2)], ntmps := 28, pure := false, body :=
 (.seq (.reg [wt 1 (.box 1 (.t 0)),
 dr 2 (.mov (.k (.bool false)))])
 (.seq (.seq (.reg [wt 5 (l1 1),
 dr 6 (.len (.t 5)),
 dr 7 (.eq (.prim .i) false (.t 6) (ki 0)),
 mv 8 7,
 wg 9 8 false (l1 1),
 dg 10 8 false (.len (.t 9)),
 dg 11 8 false (.bin .gtr (.t 10) (ki 256)),
 dr 12 (.pick (.t 8) (.k (.bool true)) (.t 11))])
 (.cond (.t 12)
 (.seq (.reg [dr 2 (.mov (.k (.bool false)))])
 .ret)
 .skip))
 (.seq (.seq (.reg [wt 13 (l1 1),
 dr 14 (.len (.t 13)),
 dr 15 (.mov (ki 0))])
 (.block 0
 (.loop
 (.seq (.reg [dr 16 (.bin .lss (.t 15) (.t 14))])
 (.seq (.cond (.t 16)
 .skip
 (.exit 0))
 (.seq (.block 1
 (.seq (.reg [dr 17 (.iaddr 1 (.t 13) (.t 15)),
 wt 18 (l1 17),
 mv 4 18])
 (.seq (.reg [mv 19 4,
 dr 20 (.len (.t 19)),
 dr 21 (.bin .gtr (.t 20) (ki 128)),
 mv 22 21,
 dg 23 22 false (.mov (.t 4)),
 dg 24 22 false (.mkfn 202 [] [(.t 1)]),
 cg 25 22 false (kf 51) [(.t 23), (.t 24)],
 dr 26 (.pick (.t 22) (.k (.bool true)) (.t 25))])
 (.cond (.t 26)
 (.seq (.reg [dr 2 (.mov (.k (.bool false)))])
 .ret)
 .skip))))
 (.reg [dr 27 (.bin .add (.t 15) (ki 1)),
 mv 15 27])))))))
 (.seq (.reg [dr 2 (.mov (.k (.bool true)))])
 .ret)))) }

/-- bellcrank/graph.order -/
def e162 : EFunc := { own := none, res := [(.tmp 2)], ntmps := 77, pure := false, body :=
 (.seq (.reg [dr 2 (.mov (.k .nils))])
 (.scope
 (.seq (.reg [mv 9 0,
 dr 10 (.len (.t 9)),
 wt 11 (.mksl 1 1 [(.bool false)] (.t 10) (.t 10)),
 mv 3 11])
 (.seq (.reg [mv 12 0,
 dr 13 (.len (.t 12)),
 wt 14 (.mksl 1 8 [(ig 0)] (.t 13) (.t 13)),
 mv 4 14])
 (.seq (.reg [mv 15 3,
 dr 16 (.iaddr 1 (.t 15) (ki 0)),
 wn (.store 1 (.t 16) (.k (.bool true)))])
 (.seq (.reg [wt 17 (.bsl 1 1 [(ig 0)] [(0, (ki 0))]),
 mv 5 17])
 (.seq (.reg [dr 6 (.mov (.k .nils))])
 (.seq (.label 0)
 (.seq (.block 0
 (.loop
 (.seq (.seq (.reg [mv 18 5,
 dr 19 (.len (.t 18)),
 dr 20 (.bin .gtr (.t 19) (ki 0))])
 (.cond (.t 20)
 .skip
 (.exit 0)))
 (.block 1
 (.seq (.reg [mv 21 5,
 mv 22 5,
 dr 23 (.len (.t 22)),
 dr 24 (.bin .sub (.t 23) (ki 1)),
 dr 25 (.iaddr 1 (.t 21) (.t 24)),
 wt 26 (l1 25),
 mv 7 26])
 (.seq (.block 2
 (.loop
 (.seq (.seq (.draw [(mv 27 4, 0, false),
 (mv 28 7, 0, false),
 (dr 29 (.iaddr 1 (.t 27) (.t 28)), 3, false),
 (wt 30 (l1 29), 7, false),
 (mv 31 0, 0, false),
 (mv 32 7, 0, false),
 (dr 33 (.iaddr 1 (.t 31) (.t 32)), 48, false),
 (wt 34 (l1 33), 112, false),
 (dr 35 (.len (.t 34)), 240, false),
 (dr 36 (.bin .lss (.t 30) (.t 35)), 511, false)])
 (.cond (.t 36)
 .skip
 (.exit 2)))
 (.block 3
 (.seq (.draw [(mv 37 0, 0, false),
 (mv 38 7, 0, false),
 (dr 39 (.iaddr 1 (.t 37) (.t 38)), 3, false),
 (wt 40 (l1 39), 7, false),
 (mv 41 4, 0, false),
 (mv 42 7, 0, false),
 (dr 43 (.iaddr 1 (.t 41) (.t 42)), 48, false),
 (wt 44 (l1 43), 112, false),
 (dr 45 (.iaddr 1 (.t 40) (.t 44)), 255, false),
 (wt 46 (l1 45), 511, true),
 (mv 8 46, 1023, false)])
 (.seq (.reg [mv 47 4,
 mv 48 7,
 dr 49 (.iaddr 1 (.t 47) (.t 48)),
 wt 50 (l1 49),
 dr 51 (.bin .add (.t 50) (ki 1)),
 dr 52 (.iaddr 1 (.t 47) (.t 48)),
 wn (.store 1 (.t 52) (.t 51))])
 (.seq (.reg [mv 53 3,
 mv 54 8,
 dr 55 (.iaddr 1 (.t 53) (.t 54)),
 wt 56 (l1 55),
 dr 57 (.not (.t 56))])
 (.cond (.t 57)
 (.seq (.reg [mv 58 3,
 mv 59 8,
 dr 60 (.iaddr 1 (.t 58) (.t 59)),
 wn (.store 1 (.t 60) (.k (.bool true)))])
 (.seq (.reg [mv 61 5,
 mv 62 8,
 wt 63 (.bsl 1 1 [(ig 0)] [(0, (.t 62))]),
 wt 64 (.append 8 1 8 (.t 61) (.t 63)),
 mv 5 64])
 (.exit 1)))
 .skip))))))))
 (.seq (.reg [mv 65 5,
 mv 66 5,
 dr 67 (.len (.t 66)),
 dr 68 (.bin .sub (.t 67) (ki 1)),
 wt 69 (.slice 1 (.t 65) none (some (.t 68))),
 mv 5 69])
 (.reg [mv 70 6,
 mv 71 7,
 wt 72 (.bsl 1 1 [(ig 0)] [(0, (.t 71))]),
 wt 73 (.append 8 1 8 (.t 70) (.t 72)),
 mv 6 73]))))))))
 (.seq (.reg [mv 74 6,
 cl 75 (kf 203) [(.t 74)]])
 (.seq (.reg [mv 76 6,
 mv 2 76])
 .ret))))))))))) }

/-- bellcrank/ssa.rings$1 -/
def e163 : EFunc := { own := none, res := [(.tmp 6)], ntmps := 49, pure := false, body :=
 (.seq (.reg [dr 6 (.mov (.k (.bool false)))])
 (.seq (.seq (.reg [dr 9 (fa 3 1),
 wt 10 (l1 9),
 mv 11 0,
 dr 12 (.iaddr 6 (.t 10) (.t 11)),
 dr 13 (fa 1 12),
 wt 14 (l1 13),
 cl 15 (kf 164) [(.t 14), (kf 165)]])
 (.cond (.t 15)
 (.seq (.reg [dr 6 (.mov (.k (.bool false)))])
 .ret)
 .skip))
 (.seq (.reg [wt 16 (l1 2),
 mv 17 0,
 dr 18 (.iaddr 1 (.t 16) (.t 17)),
 wn (.store 1 (.t 18) (ki 1))])
 (.seq (.seq (.reg [wt 19 (l1 3),
 mv 20 0,
 dr 21 (.iaddr 1 (.t 19) (.t 20)),
 wt 22 (l1 21),
 dr 23 (.len (.t 22)),
 dr 24 (.mov (ki 0))])
 (.block 0
 (.loop
 (.seq (.reg [dr 25 (.bin .lss (.t 24) (.t 23))])
 (.seq (.cond (.t 25)
 .skip
 (.exit 0))
 (.seq (.block 1
 (.seq (.reg [dr 26 (.iaddr 1 (.t 22) (.t 24)),
 wt 27 (l1 26),
 mv 8 27])
 (.seq (.reg [wt 28 (l1 2),
 mv 29 8,
 dr 30 (.iaddr 1 (.t 28) (.t 29)),
 wt 31 (l1 30),
 dr 32 (.eq (.prim .i) false (.t 31) (ki 1)),
 mv 33 32,
 wg 34 33 false (l1 2),
 dg 35 33 false (.mov (.t 8)),
 dg 36 33 false (.iaddr 1 (.t 34) (.t 35)),
 wg 37 33 false (l1 36),
 dg 38 33 false (.eq (.prim .i) false (.t 37) (ki 0)),
 dg 39 33 false (.mov (.t 38)),
 wg 40 39 true (l1 4),
 dg 41 39 true (.mov (.t 8)),
 cg 42 39 true (.t 40) [(.t 41)],
 dg 43 33 false (.pick (.t 39) (.t 42) (.k (.bool false))),
 dr 44 (.pick (.t 33) (.k (.bool true)) (.t 43))])
 (.cond (.t 44)
 (.seq (.reg [dr 6 (.mov (.k (.bool true)))])
 .ret)
 .skip))))
 (.reg [dr 45 (.bin .add (.t 24) (ki 1)),
 mv 24 45])))))))
 (.seq (.reg [wt 46 (l1 2),
 mv 47 0,
 dr 48 (.iaddr 1 (.t 46) (.t 47)),
 wn (.store 1 (.t 48) (ki 2))])
 (.seq (.reg [dr 6 (.mov (.k (.bool false)))])
 .ret)))))) }

/-- slices.ContainsFunc[[]bellcrank/api.Ins,bellcrank/api.Ins] -/
def e164 : EFunc := { own := none, res := [(.tmp 4)], ntmps := 9, pure := false, body :=
 (.seq (.reg [dr 4 (.mov (.k (.bool false)))])
 (.seq (.reg [mv 5 0,
 mv 6 1,
 cl 7 (kf 204) [(.t 5), (.t 6)],
 dr 8 (.bin .geq (.t 7) (ki 0)),
 mv 4 8])
 .ret)) }

/-- bellcrank/ssa.rings$1$1 -/
def e165 : EFunc := { own := none, res := [(.tmp 2)], ntmps := 6, pure := false, body :=
 (.seq (.reg [wt 1 (.box 4 (.t 0)),
 dr 2 (.mov (.k (.bool false)))])
 (.seq (.reg [dr 3 (fa 0 1),
 wt 4 (l1 3),
 dr 5 (.eq (.prim .i) false (.t 4) (ki 258)),
 mv 2 5])
 .ret)) }

/-- bellcrank/graph.From -/
def e166 : EFunc := { own := none, res := [(.tmp 2), (.tmp 3)], ntmps := 41, pure := false, body :=
 (.seq (.reg [dr 2 (.mov (.k .nils)),
 dr 3 (.mov (ki 0))])
 (.seq (.seq (.reg [mv 9 0,
 cl 10 (kf 161) [(.t 9)],
 dr 11 (.not (.t 10))])
 (.cond (.t 11)
 (.seq (.reg [dr 2 (.mov (.k .nils)),
 dr 3 (.mov (ki 1))])
 .ret)
 .skip))
 (.seq (.reg [mv 12 0,
 dr 13 (.len (.t 12)),
 wt 14 (.mksl 1 24 [.nils] (.t 13) (.t 13)),
 mv 4 14])
 (.seq (.seq (.reg [mv 15 0,
 dr 16 (.len (.t 15)),
 dr 17 (.mov (ki 0))])
 (.block 0
 (.loop
 (.seq (.reg [dr 18 (.bin .lss (.t 17) (.t 16))])
 (.seq (.cond (.t 18)
 .skip
 (.exit 0))
 (.seq (.block 1
 (.seq (.reg [mv 19 17,
 dr 20 (.iaddr 1 (.t 15) (.t 17)),
 wt 21 (l1 20),
 mv 5 19,
 mv 6 21])
 (.seq (.reg [mv 22 6,
 dr 23 (.len (.t 22)),
 dr 24 (.mov (ki 0))])
 (.block 2
 (.loop
 (.seq (.reg [dr 25 (.bin .lss (.t 24) (.t 23))])
 (.seq (.cond (.t 25)
 .skip
 (.exit 2))
 (.seq (.block 3
 (.seq (.reg [dr 26 (.iaddr 1 (.t 22) (.t 24)),
 wt 27 (l1 26),
 mv 8 27])
 (.reg [mv 28 4,
 mv 29 8,
 mv 30 4,
 mv 31 8,
 dr 32 (.iaddr 1 (.t 30) (.t 31)),
 wt 33 (l1 32),
 mv 34 5,
 wt 35 (.bsl 1 1 [(ig 0)] [(0, (.t 34))]),
 wt 36 (.append 8 1 8 (.t 33) (.t 35)),
 dr 37 (.iaddr 1 (.t 28) (.t 29)),
 wn (.store 1 (.t 37) (.t 36))])))
 (.reg [dr 38 (.bin .add (.t 24) (ki 1)),
 mv 24 38])))))))))
 (.reg [dr 39 (.bin .add (.t 17) (ki 1)),
 mv 17 39])))))))
 (.seq (.reg [mv 40 4,
 mv 2 40,
 dr 3 (.mov (ki 0))])
 .ret))))) }

/-- slices.Repeat[[]int,int] -/
def e167 : EFunc := { own := none, res := [(.tmp 4)], ntmps := 48, pure := false, body :=
 (.seq (.reg [dr 4 (.mov (.k .nils))])
 (.seq (.seq (.reg [mv 9 1,
 dr 10 (.bin .lss (.t 9) (ki 0))])
 (.cond (.t 10)
 (.reg [dr 11 (.mkifc 9 (.k (.str [99, 97, 110, 110, 111, 116, 32, 98, 101, 32, 110, 101, 103, 97, 116, 105, 118, 101]))),
 ⟨none, (.panic (.t 11)), none⟩])
 .skip))
 (.seq (.reg [mv 13 0,
 dr 14 (.len (.t 13)),
 dr 15 (.conv .u64 (.t 14)),
 mv 16 1,
 dr 17 (.conv .u64 (.t 16)),
 cl 18 (kf 205) [(.t 15), (.t 17)],
 mv 12 18,
 dr 19 (.extract (.t 12) 0),
 dr 20 (.extract (.t 12) 1),
 mv 5 19,
 mv 6 20])
 (.seq (.seq (.reg [mv 21 5,
 dr 22 (.bin .gtr (.t 21) (.k (.int .u64 0))),
 mv 23 22,
 dg 24 23 false (.mov (.t 6)),
 dg 25 23 false (.bin .gtr (.t 24) (.k (.int .u64 9223372036854775807))),
 dr 26 (.pick (.t 23) (.k (.bool true)) (.t 25))])
 (.cond (.t 26)
 (.reg [dr 27 (.mkifc 9 (.k (.str [116, 104, 101, 32, 114, 101, 115, 117, 108, 116, 32, 111, 102, 32, 40, 108, 101, 110, 40, 120, 41, 32, 42, 32, 99, 111, 117, 110, 116, 41, 32, 111, 118, 101, 114, 102, 108, 111, 119, 115]))),
 ⟨none, (.panic (.t 27)), none⟩])
 .skip))
 (.seq (.reg [mv 28 6,
 dr 29 (.conv .i64 (.t 28)),
 wt 30 (.mksl 1 8 [(ig 0)] (.t 29) (.t 29)),
 mv 7 30])
 (.seq (.reg [mv 31 7,
 mv 32 0,
 wt 33 (.copy 1 (.t 31) (.t 32)),
 mv 8 33])
 (.seq (.block 0
 (.loop
 (.seq (.seq (.reg [mv 34 8,
 mv 35 7,
 dr 36 (.len (.t 35)),
 dr 37 (.bin .lss (.t 34) (.t 36))])
 (.cond (.t 37)
 .skip
 (.exit 0)))
 (.block 1
 (.draw [(mv 38 8, 0, false),
 (mv 39 7, 0, false),
 (mv 40 8, 0, false),
 (wt 41 (.slice 1 (.t 39) (some (.t 40)) none), 6, false),
 (mv 42 7, 0, false),
 (mv 43 8, 0, false),
 (wt 44 (.slice 1 (.t 42) none (some (.t 43))), 48, false),
 (wt 45 (.copy 1 (.t 41) (.t 44)), 126, true),
 (dr 46 (.bin .add (.t 38) (.t 45)), 255, false),
 (mv 8 46, 511, false)])))))
 (.seq (.reg [mv 47 7,
 mv 4 47])
 .ret)))))))) }

/-- slices.EqualFunc[[]int,[]int,int,int] -/
def e169 : EFunc := { own := none, res := [(.tmp 6)], ntmps := 32, pure := false, body :=
 (.seq (.reg [dr 6 (.mov (.k (.bool false)))])
 (.seq (.seq (.reg [mv 10 0,
 dr 11 (.len (.t 10)),
 mv 12 1,
 dr 13 (.len (.t 12)),
 dr 14 (.eq (.prim .i) true (.t 11) (.t 13))])
 (.cond (.t 14)
 (.seq (.reg [dr 6 (.mov (.k (.bool false)))])
 .ret)
 .skip))
 (.seq (.seq (.reg [mv 15 0,
 dr 16 (.len (.t 15)),
 dr 17 (.mov (ki 0))])
 (.block 0
 (.loop
 (.seq (.reg [dr 18 (.bin .lss (.t 17) (.t 16))])
 (.seq (.cond (.t 18)
 .skip
 (.exit 0))
 (.seq (.block 1
 (.seq (.reg [mv 19 17,
 dr 20 (.iaddr 1 (.t 15) (.t 17)),
 wt 21 (l1 20),
 mv 7 19,
 mv 8 21])
 (.seq (.reg [mv 22 1,
 mv 23 7,
 dr 24 (.iaddr 1 (.t 22) (.t 23)),
 wt 25 (l1 24),
 mv 9 25])
 (.seq (.reg [mv 26 2,
 mv 27 8,
 mv 28 9,
 cl 29 (.t 26) [(.t 27), (.t 28)],
 dr 30 (.not (.t 29))])
 (.cond (.t 30)
 (.seq (.reg [dr 6 (.mov (.k (.bool false)))])
 .ret)
 .skip)))))
 (.reg [dr 31 (.bin .add (.t 17) (ki 1)),
 mv 17 31])))))))
 (.seq (.reg [dr 6 (.mov (.k (.bool true)))])
 .ret)))) }

/-- (*bellcrank/ssa.checker).asks$1 -/
def e170 : EFunc := { own := none, res := [(.tmp 7)], ntmps := 66, pure := false, body :=
 (.seq (.reg [dr 7 (.mov (.k (.bool false)))])
 (.seq (.seq (.reg [mv 9 0,
 dr 10 (.bin .lss (.t 9) (ki 0)),
 mv 11 10,
 dg 12 11 false (.mov (.t 0)),
 wg 13 11 false (l1 2),
 dg 14 11 false (.nilchk (.t 13)),
 dg 15 11 false (fa 9 14),
 wg 16 11 false (l1 15),
 dg 17 11 false (.len (.t 16)),
 dg 18 11 false (.bin .geq (.t 12) (.t 17)),
 dr 19 (.pick (.t 11) (.k (.bool true)) (.t 18)),
 mv 20 19,
 wg 21 20 false (l1 2),
 dg 22 20 false (.nilchk (.t 21)),
 dg 23 20 false (.faddr 5 4 true (.t 22)),
 dg 24 20 false (fa 2 23),
 wg 25 20 false (l1 24),
 dg 26 20 false (.mov (.t 0)),
 dg 27 20 false (.iaddr 1 (.t 25) (.t 26)),
 wg 28 20 false (l1 27),
 dg 29 20 false (.mov (.t 1)),
 dg 30 20 false (.eq (.prim .i) true (.t 28) (.t 29)),
 dr 31 (.pick (.t 20) (.k (.bool true)) (.t 30)),
 mv 32 31,
 wg 33 32 false (l1 2),
 dg 34 32 false (.nilchk (.t 33)),
 dg 35 32 false (fa 9 34),
 wg 36 32 false (l1 35),
 dg 37 32 false (.mov (.t 0)),
 dg 38 32 false (.iaddr 3 (.t 36) (.t 37)),
 dg 39 32 false (fa 0 38),
 wg 40 32 false (l1 39),
 dg 41 32 false (.not (.t 40)),
 dr 42 (.pick (.t 32) (.k (.bool true)) (.t 41))])
 (.cond (.t 42)
 (.seq (.reg [dr 7 (.mov (.k (.bool false)))])
 .ret)
 .skip))
 (.seq (.reg [wt 43 (l1 2),
 dr 44 (.nilchk (.t 43)),
 dr 45 (fa 9 44),
 wt 46 (l1 45),
 mv 47 0,
 dr 48 (.iaddr 3 (.t 46) (.t 47)),
 wt 49 (.load 3 true (.t 48)),
 wt 8 (.alloc 405 3 [(.bool false), (ig 0), (ig 0)]),
 wn (.store 3 (.t 8) (.t 49))])
 (.seq (.seq (.reg [dr 50 (fa 1 8),
 wt 51 (l1 50),
 wt 52 (l1 3),
 dr 53 (.eq (.prim .i) false (.t 51) (.t 52))])
 (.cond (.t 53)
 (.seq (.reg [dr 54 (fa 2 8),
 wt 55 (l1 54),
 wt 56 (l1 4),
 dr 57 (.bin .lss (.t 55) (.t 56)),
 mv 7 57])
 .ret)
 .skip))
 (.seq (.draw [(wt 58 (l1 2), 0, false),
 (dr 59 (.nilchk (.t 58)), 1, false),
 (dr 60 (fa 10 59), 3, false),
 (wt 61 (l1 60), 7, false),
 (dr 62 (fa 1 8), 0, false),
 (wt 63 (l1 62), 16, false),
 (wt 64 (l1 3), 0, false),
 (cl 65 (kf 171) [(.t 61), (.t 63), (.t 64)], 127, true),
 (mv 7 65, 255, false)])
 .ret))))) }

/-- slices.IndexFunc[[][]int,[]int] -/
def e201 : EFunc := { own := none, res := [(.tmp 4)], ntmps := 19, pure := false, body :=
 (.seq (.reg [dr 4 (.mov (ki 0))])
 (.seq (.seq (.reg [mv 6 0,
 dr 7 (.len (.t 6)),
 dr 8 (.mov (ki 0))])
 (.block 0
 (.loop
 (.seq (.reg [dr 9 (.bin .lss (.t 8) (.t 7))])
 (.seq (.cond (.t 9)
 .skip
 (.exit 0))
 (.seq (.block 1
 (.seq (.reg [mv 10 8,
 mv 5 10])
 (.seq (.reg [mv 11 1,
 mv 12 0,
 mv 13 5,
 dr 14 (.iaddr 1 (.t 12) (.t 13)),
 wt 15 (l1 14),
 cl 16 (.t 11) [(.t 15)]])
 (.cond (.t 16)
 (.seq (.reg [mv 17 5,
 mv 4 17])
 .ret)
 .skip))))
 (.reg [dr 18 (.bin .add (.t 8) (ki 1)),
 mv 8 18])))))))
 (.seq (.reg [dr 4 (.mov (ki (-1)))])
 .ret))) }

/-- slices.Reverse[[]int,int] -/
def e203 : EFunc := { own := none, res := [], ntmps := 28, pure := false, body :=
 (.seq (.reg [mv 4 0,
 dr 5 (.len (.t 4)),
 dr 6 (.bin .sub (.t 5) (ki 1)),
 dr 2 (.mov (ki 0)),
 mv 3 6])
 (.block 0
 (.loop
 (.seq (.seq (.reg [mv 7 2,
 mv 8 3,
 dr 9 (.bin .lss (.t 7) (.t 8))])
 (.cond (.t 9)
 .skip
 (.exit 0)))
 (.seq (.block 1
 (.draw [(mv 14 0, 0, false),
 (mv 15 2, 0, false),
 (mv 16 0, 0, false),
 (mv 17 3, 0, false),
 (mv 18 0, 0, false),
 (mv 19 3, 0, false),
 (dr 20 (.iaddr 1 (.t 18) (.t 19)), 48, false),
 (wt 21 (l1 20), 112, false),
 (mv 22 0, 0, false),
 (mv 23 2, 0, false),
 (dr 24 (.iaddr 1 (.t 22) (.t 23)), 768, false),
 (wt 25 (l1 24), 1792, false),
 (dr 26 (.iaddr 1 (.t 14) (.t 15)), 4083, false),
 (wn (.store 1 (.t 26) (.t 21)), 8179, true),
 (dr 27 (.iaddr 1 (.t 16) (.t 17)), 16383, false),
 (wn (.store 1 (.t 27) (.t 25)), 32767, true)]))
 (.reg [mv 10 2,
 dr 11 (.bin .add (.t 10) (ki 1)),
 mv 12 3,
 dr 13 (.bin .sub (.t 12) (ki 1)),
 mv 2 11,
 mv 3 13])))))) }

/-- slices.IndexFunc[[]bellcrank/api.Ins,bellcrank/api.Ins] -/
def e204 : EFunc := { own := none, res := [(.tmp 4)], ntmps := 19, pure := false, body :=
 (.seq (.reg [dr 4 (.mov (ki 0))])
 (.seq (.seq (.reg [mv 6 0,
 dr 7 (.len (.t 6)),
 dr 8 (.mov (ki 0))])
 (.block 0
 (.loop
 (.seq (.reg [dr 9 (.bin .lss (.t 8) (.t 7))])
 (.seq (.cond (.t 9)
 .skip
 (.exit 0))
 (.seq (.block 1
 (.seq (.reg [mv 10 8,
 mv 5 10])
 (.seq (.reg [mv 11 1,
 mv 12 0,
 mv 13 5,
 dr 14 (.iaddr 4 (.t 12) (.t 13)),
 wt 15 (.load 4 true (.t 14)),
 cl 16 (.t 11) [(.t 15)]])
 (.cond (.t 16)
 (.seq (.reg [mv 17 5,
 mv 4 17])
 .ret)
 .skip))))
 (.reg [dr 18 (.bin .add (.t 8) (ki 1)),
 mv 8 18])))))))
 (.seq (.reg [dr 4 (.mov (ki (-1)))])
 .ret))) }

/-- math/bits.Mul -/
def e205 : EFunc := { own := none, res := [(.tmp 4), (.tmp 5)], ntmps := 30, pure := false, body :=
 (.seq (.reg [dr 4 (.mov (.k (.int .u64 0))),
 dr 5 (.mov (.k (.int .u64 0)))])
 (.seq (.cond (.k (.bool false))
 (.seq (.reg [mv 11 0,
 dr 12 (.conv .u32 (.t 11)),
 mv 13 1,
 dr 14 (.conv .u32 (.t 13)),
 cl 15 (kf 225) [(.t 12), (.t 14)],
 mv 10 15,
 dr 16 (.extract (.t 10) 0),
 dr 17 (.extract (.t 10) 1),
 mv 6 16,
 mv 7 17])
 (.seq (.reg [mv 18 6,
 dr 19 (.conv .u64 (.t 18)),
 mv 20 7,
 dr 21 (.conv .u64 (.t 20)),
 mv 4 19,
 mv 5 21])
 .ret))
 .skip)
 (.seq (.reg [mv 23 0,
 mv 24 1,
 cl 25 (kf 226) [(.t 23), (.t 24)],
 mv 22 25,
 dr 26 (.extract (.t 22) 0),
 dr 27 (.extract (.t 22) 1),
 mv 8 26,
 mv 9 27])
 (.seq (.reg [mv 28 8,
 mv 29 9,
 mv 4 28,
 mv 5 29])
 .ret)))) }

/-- math/bits.Mul64 -/
def e226 : EFunc := { own := none, res := [(.tmp 4), (.tmp 5)], ntmps := 51, pure := false, body :=
 (.seq (.reg [dr 4 (.mov (.k (.int .u64 0))),
 dr 5 (.mov (.k (.int .u64 0)))])
 (.seq (.reg [mv 14 0,
 dr 15 (.bin .and (.t 14) (.k (.int .u64 4294967295))),
 mv 6 15])
 (.seq (.reg [mv 16 0,
 dr 17 (.bin .shr (.t 16) (.k (.int .u64 32))),
 mv 7 17])
 (.seq (.reg [mv 18 1,
 dr 19 (.bin .and (.t 18) (.k (.int .u64 4294967295))),
 mv 8 19])
 (.seq (.reg [mv 20 1,
 dr 21 (.bin .shr (.t 20) (.k (.int .u64 32))),
 mv 9 21])
 (.seq (.reg [mv 22 6,
 mv 23 8,
 dr 24 (.bin .mul (.t 22) (.t 23)),
 mv 10 24])
 (.seq (.reg [mv 25 7,
 mv 26 8,
 dr 27 (.bin .mul (.t 25) (.t 26)),
 mv 28 10,
 dr 29 (.bin .shr (.t 28) (.k (.int .u64 32))),
 dr 30 (.bin .add (.t 27) (.t 29)),
 mv 11 30])
 (.seq (.reg [mv 31 11,
 dr 32 (.bin .and (.t 31) (.k (.int .u64 4294967295))),
 mv 12 32])
 (.seq (.reg [mv 33 11,
 dr 34 (.bin .shr (.t 33) (.k (.int .u64 32))),
 mv 13 34])
 (.seq (.reg [mv 35 12,
 mv 36 6,
 mv 37 9,
 dr 38 (.bin .mul (.t 36) (.t 37)),
 dr 39 (.bin .add (.t 35) (.t 38)),
 mv 12 39])
 (.seq (.reg [mv 40 7,
 mv 41 9,
 dr 42 (.bin .mul (.t 40) (.t 41)),
 mv 43 13,
 dr 44 (.bin .add (.t 42) (.t 43)),
 mv 45 12,
 dr 46 (.bin .shr (.t 45) (.k (.int .u64 32))),
 dr 47 (.bin .add (.t 44) (.t 46)),
 mv 4 47])
 (.seq (.reg [mv 48 0,
 mv 49 1,
 dr 50 (.bin .mul (.t 48) (.t 49)),
 mv 5 50])
 .ret)))))))))))) }

def tbl : Tr EFunc := (.nd (.nd (.nd (.nd (.nd (.nd (.nd (.nd .lf (some e127) .lf) (some e63) .lf) (some e31) (.nd (.nd .lf (some e159) .lf) (some e95) .lf)) (some e15) (.nd (.nd .lf (some e79) .lf) (some e47) .lf)) none (.nd (.nd (.nd (.nd .lf (some e135) .lf) (some e71) .lf) none (.nd (.nd .lf (some e167) .lf) none .lf)) (some e23) (.nd (.nd .lf (some e87) .lf) (some e55) (.nd .lf (some e119) .lf)))) (some e3) (.nd (.nd (.nd (.nd (.nd .lf (some e131) .lf) none .lf) (some e35) (.nd (.nd .lf (some e163) .lf) (some e99) .lf)) (some e19) (.nd (.nd (.nd .lf (some e147) .lf) (some e83) .lf) (some e51) .lf)) (some e11) (.nd (.nd (.nd .lf none (.nd .lf (some e203) .lf)) (some e43) .lf) (some e27) (.nd (.nd .lf (some e91) .lf) (some e59) .lf)))) none (.nd (.nd (.nd (.nd (.nd (.nd .lf (some e129) .lf) none .lf) (some e33) (.nd (.nd .lf (some e161) .lf) (some e97) .lf)) (some e17) (.nd (.nd (.nd .lf (some e145) .lf) (some e81) .lf) (some e49) .lf)) (some e9) (.nd (.nd (.nd .lf none (.nd .lf (some e201) .lf)) none (.nd (.nd .lf (some e169) .lf) none .lf)) (some e25) (.nd (.nd .lf (some e89) .lf) (some e57) .lf))) none (.nd (.nd (.nd (.nd (.nd .lf (some e133) .lf) (some e69) .lf) (some e37) (.nd (.nd .lf (some e165) .lf) (some e101) .lf)) (some e21) (.nd (.nd (.nd .lf (some e149) .lf) (some e85) .lf) (some e53) (.nd .lf (some e117) .lf))) (some e13) (.nd (.nd (.nd .lf (some e77) (.nd .lf (some e205) .lf)) none .lf) (some e29) (.nd .lf (some e61) (.nd .lf (some e125) .lf)))))) none (.nd (.nd (.nd (.nd (.nd (.nd (.nd .lf (some e128) .lf) (some e64) .lf) (some e32) (.nd (.nd .lf (some e160) .lf) (some e96) .lf)) none (.nd (.nd .lf (some e80) .lf) (some e48) .lf)) (some e8) (.nd (.nd (.nd .lf (some e72) .lf) (some e40) .lf) (some e24) (.nd (.nd .lf (some e88) .lf) (some e56) (.nd .lf (some e120) .lf)))) none (.nd (.nd (.nd (.nd (.nd .lf (some e132) .lf) none .lf) (some e36) (.nd (.nd .lf (some e164) .lf) (some e100) .lf)) (some e20) (.nd (.nd (.nd .lf (some e148) .lf) (some e84) .lf) (some e52) .lf)) (some e12) (.nd (.nd (.nd .lf none (.nd .lf (some e204) .lf)) (some e44) .lf) (some e28) (.nd .lf (some e60) .lf)))) none (.nd (.nd (.nd (.nd (.nd (.nd .lf (some e130) .lf) none .lf) (some e34) (.nd (.nd .lf (some e162) .lf) (some e98) (.nd .lf (some e226) .lf))) none (.nd (.nd (.nd .lf (some e146) .lf) (some e82) .lf) (some e50) .lf)) (some e10) (.nd (.nd .lf none (.nd (.nd .lf (some e170) .lf) none .lf)) (some e26) (.nd .lf (some e58) .lf))) none (.nd (.nd (.nd (.nd (.nd .lf (some e134) .lf) (some e70) .lf) (some e38) (.nd (.nd .lf (some e166) .lf) none .lf)) (some e22) (.nd .lf (some e54) (.nd .lf (some e118) .lf))) none (.nd (.nd (.nd .lf (some e78) .lf) none .lf) (some e30) (.nd .lf (some e62) (.nd .lf (some e126) .lf)))))))

end Go.Ev.Tab
