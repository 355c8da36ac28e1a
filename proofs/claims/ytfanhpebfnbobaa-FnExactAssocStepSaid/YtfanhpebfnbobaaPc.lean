import Derived.Test.YtfanhpebfnbobaaChecked
import Derived.Test.YtfanhpebfnbobaaEngC
namespace Go.Cap
open Go Go.Proofs
set_option maxRecDepth 100000
-- 8 laws.FnExactAssocStep
def pc8 : PC := .seq (.rg [(none, .bx 2 (.t 0)),
 (none, .bx 3 (.t 1)),
 (none, .mv 4 (.c (.b false))),
 (none, .kp [2, 3])])
 (.seq (.rg [(none, .mv 5 (.c (.n .i64 1048576))),
 (none, .kp [2, 3, 5])])
 (.seq (.rg [(none, .ld 17 (some 14) (.t 2)),
 (none, .mv 18 (.t 5)),
 (none, .ca (some 19) 20 [.t 17, .t 18]),
 (none, .mv 5 (.t 19)),
 (none, .kp [2, 3, 5])])
 (.seq (.seq (.rg [(none, .mv 20 (.t 5)),
 (none, .bi 21 .lss (.t 20) (.c (.n .i64 0))),
 (none, .kp [2, 3, 5, 21])])
 (.ite (.t 21) (.seq (.rg [(none, .mv 4 (.c (.b true))),
 (none, .kp [4])])
 (.rt))
 (.sk)))
 (.seq (.rg [(none, .ld 22 (some 4) (.t 3)),
 (none, .mv 23 (.t 5)),
 (none, .ca (some 24) 21 [.t 22, .t 23]),
 (none, .mv 5 (.t 24)),
 (none, .kp [2, 3, 5])])
 (.seq (.seq (.rg [(none, .mv 25 (.t 5)),
 (none, .bi 26 .lss (.t 25) (.c (.n .i64 0))),
 (none, .kp [2, 3, 26])])
 (.ite (.t 26) (.seq (.rg [(none, .mv 4 (.c (.b true))),
 (none, .kp [4])])
 (.rt))
 (.sk)))
 (.seq (.dr [[], [0], [], [0, 1, 2], [0, 1, 2, 3], [0, 1, 2, 3, 4], [0, 1, 2, 3, 4, 5], [0, 1, 2, 3, 4, 5], [], [0, 1, 2, 3, 4, 5, 6, 8], [0, 1, 2, 3, 4, 5, 6, 7, 8, 9]]
 (.q 0 (none, .ld 28 (some 14) (.t 2))
 (.q 2 (none, .ld 30 (some 4) (.t 3))
 (.alt 1 (none, .ca (some 29) 23 [.t 28]) [false, true]
 (.alt 3 (none, .ca (some 31) 24 [.t 30]) [false, false]
 (.alt 4 (none, .ca (some 32) 22 [.t 29, .t 31]) [false, false]
 (.q 5 (none, .mv 27 (.t 32))
 (.q 6 (none, .ex 33 (.t 27) 0)
 (.q 7 (none, .ex 34 (.t 27) 1)
 (.alt 8 (none, .al 6 [.n .i64 0, .n .i64 0, .n .i64 0, .b false, .n .i64 0, .n .i64 0, .n .i64 0, .nil, .n .i64 0, .n .i64 0, .n .i64 0, .n .i64 0, .nil, .n .i64 0]) [true, true, true, true, true]
 (.alt 9 (none, .st 14 (.t 6) (.t 33)) [false, false, false, false, true]
 (.q 10 (none, .mv 7 (.t 34))
 (.done))
 (.stop))
 (.stop)))))
 (.alt 8 (none, .al 6 [.n .i64 0, .n .i64 0, .n .i64 0, .b false, .n .i64 0, .n .i64 0, .n .i64 0, .nil, .n .i64 0, .n .i64 0, .n .i64 0, .n .i64 0, .nil, .n .i64 0]) [true, true]
 (.alt 4 (none, .ca (some 32) 22 [.t 29, .t 31]) [false, false]
 (.q 5 (none, .mv 27 (.t 32))
 (.q 6 (none, .ex 33 (.t 27) 0)
 (.q 7 (none, .ex 34 (.t 27) 1)
 (.alt 9 (none, .st 14 (.t 6) (.t 33)) [false, false, false, false, true]
 (.q 10 (none, .mv 7 (.t 34))
 (.done))
 (.stop)))))
 (.stop))
 (.stop)))
 (.alt 8 (none, .al 6 [.n .i64 0, .n .i64 0, .n .i64 0, .b false, .n .i64 0, .n .i64 0, .n .i64 0, .nil, .n .i64 0, .n .i64 0, .n .i64 0, .n .i64 0, .nil, .n .i64 0]) [true, true]
 (.alt 3 (none, .ca (some 31) 24 [.t 30]) [false, false]
 (.alt 4 (none, .ca (some 32) 22 [.t 29, .t 31]) [false, false]
 (.q 5 (none, .mv 27 (.t 32))
 (.q 6 (none, .ex 33 (.t 27) 0)
 (.q 7 (none, .ex 34 (.t 27) 1)
 (.alt 9 (none, .st 14 (.t 6) (.t 33)) [false, false, false, false, true]
 (.q 10 (none, .mv 7 (.t 34))
 (.done))
 (.stop)))))
 (.stop))
 (.stop))
 (.stop)))
 (.alt 8 (none, .al 6 [.n .i64 0, .n .i64 0, .n .i64 0, .b false, .n .i64 0, .n .i64 0, .n .i64 0, .nil, .n .i64 0, .n .i64 0, .n .i64 0, .n .i64 0, .nil, .n .i64 0]) [true, true]
 (.alt 1 (none, .ca (some 29) 23 [.t 28]) [false, true]
 (.alt 3 (none, .ca (some 31) 24 [.t 30]) [false, false]
 (.alt 4 (none, .ca (some 32) 22 [.t 29, .t 31]) [false, false]
 (.q 5 (none, .mv 27 (.t 32))
 (.q 6 (none, .ex 33 (.t 27) 0)
 (.q 7 (none, .ex 34 (.t 27) 1)
 (.alt 9 (none, .st 14 (.t 6) (.t 33)) [false, false, false, false, true]
 (.q 10 (none, .mv 7 (.t 34))
 (.done))
 (.stop)))))
 (.stop))
 (.stop))
 (.stop))
 (.stop))))) [2, 3, 6, 7])
 (.seq (.rg [(none, .ld 35 (some 14) (.t 2)),
 (none, .ca (some 36) 23 [.t 35]),
 (none, .al 8 [.n .i64 0, .n .i64 0, .n .i64 0, .b false, .n .i64 0, .n .i64 0, .n .i64 0, .nil, .n .i64 0, .n .i64 0, .n .i64 0, .n .i64 0, .nil, .n .i64 0]),
 (none, .st 14 (.t 8) (.t 36)),
 (none, .kp [2, 3, 6, 7, 8])])
 (.seq (.rg [(none, .ld 37 (some 4) (.t 3)),
 (none, .ca (some 38) 24 [.t 37]),
 (none, .al 9 [.n .i64 0, .n .i64 0, .n .i64 0, .nil]),
 (none, .st 4 (.t 9) (.t 38)),
 (none, .kp [2, 3, 6, 7, 8, 9])])
 (.seq (.rg [(none, .ld 40 (some 14) (.t 8)),
 (none, .ld 41 (some 4) (.t 9)),
 (none, .ca (some 42) 25 [.t 40, .t 41]),
 (none, .mv 39 (.t 42)),
 (none, .ex 43 (.t 39) 0),
 (none, .ex 44 (.t 39) 1),
 (none, .al 10 [.n .i64 0, .n .i64 0, .n .i64 0, .b false, .n .i64 0, .n .i64 0, .n .i64 0, .nil, .n .i64 0, .n .i64 0, .n .i64 0, .n .i64 0, .nil, .n .i64 0]),
 (none, .st 14 (.t 10) (.t 43)),
 (none, .mv 11 (.t 44)),
 (none, .kp [2, 3, 6, 7, 8, 9, 10, 11])])
 (.seq (.seq (.rg [(none, .ld 45 (some 14) (.t 10)),
 (none, .ld 46 (some 14) (.t 6)),
 (none, .ca (some 47) 26 [.t 45, .t 46]),
 (none, .un 48 .not (.t 47)),
 (none, .mv 49 (.t 48)),
 (some (49, false), .mv 50 (.t 11)),
 (some (49, false), .mv 51 (.t 7)),
 (some (49, false), .ca (some 52) 27 [.t 50, .t 51]),
 (some (49, false), .un 53 .not (.t 52)),
 (none, .pk 54 (.t 49) (.c (.b true)) (.t 53)),
 (none, .kp [2, 3, 6, 7, 8, 9, 10, 11, 54])])
 (.ite (.t 54) (.seq (.rg [(none, .mv 4 (.c (.b false))),
 (none, .kp [4])])
 (.rt))
 (.sk)))
 (.seq (.seq (.dr [[], [], [1], [0, 1, 2], [0, 1, 2, 3]]
 (.q 0 (none, .ld 55 (some 14) (.t 8))
 (.q 1 (none, .ld 56 (some 14) (.t 2))
 (.alt 2 (none, .ca (some 57) 23 [.t 56]) [true, false]
 (.alt 3 (none, .ca (some 58) 26 [.t 55, .t 57]) [false, false]
 (.q 4 (none, .un 59 .not (.t 58))
 (.done))
 (.stop))
 (.stop)))) [2, 3, 6, 7, 8, 9, 10, 11, 59])
 (.ite (.t 59) (.seq (.rg [(none, .mv 4 (.c (.b false))),
 (none, .kp [4])])
 (.rt))
 (.sk)))
 (.seq (.seq (.dr [[], [], [1], [0, 1, 2], [0, 1, 2, 3]]
 (.q 0 (none, .ld 60 (some 4) (.t 9))
 (.q 1 (none, .ld 61 (some 4) (.t 3))
 (.alt 2 (none, .ca (some 62) 24 [.t 61]) [true, false]
 (.alt 3 (none, .ca (some 63) 28 [.t 60, .t 62]) [false, false]
 (.q 4 (none, .un 64 .not (.t 63))
 (.done))
 (.stop))
 (.stop)))) [2, 3, 6, 7, 8, 9, 10, 11, 64])
 (.ite (.t 64) (.seq (.rg [(none, .mv 4 (.c (.b false))),
 (none, .kp [4])])
 (.rt))
 (.sk)))
 (.seq (.rg [(none, .mv 12 (.c (.n .i64 1))),
 (none, .kp [2, 3, 6, 7, 8, 9, 10, 11, 12])])
 (.seq (.rg [(none, .ld 65 (some 14) (.t 8)),
 (none, .mv 66 (.t 12)),
 (none, .ca (some 67) 29 [.t 65, .t 66]),
 (none, .mv 12 (.t 67)),
 (none, .kp [2, 3, 6, 7, 9, 10, 11, 12])])
 (.seq (.rg [(none, .ld 68 (some 4) (.t 9)),
 (none, .mv 69 (.t 12)),
 (none, .ca (some 70) 30 [.t 68, .t 69]),
 (none, .mv 12 (.t 70)),
 (none, .kp [2, 3, 6, 7, 10, 11, 12])])
 (.seq (.seq (.rg [(none, .mv 71 (.t 12)),
 (none, .bi 72 .lss (.t 71) (.c (.n .i64 0))),
 (none, .mv 73 (.t 72)),
 (some (73, false), .ld 74 (some 14) (.t 10)),
 (some (73, false), .ld 75 (some 14) (.t 6)),
 (some (73, false), .ca (some 76) 26 [.t 74, .t 75]),
 (some (73, false), .un 77 .not (.t 76)),
 (none, .pk 78 (.t 73) (.c (.b true)) (.t 77)),
 (none, .mv 79 (.t 78)),
 (some (79, false), .mv 80 (.t 11)),
 (some (79, false), .mv 81 (.t 7)),
 (some (79, false), .ca (some 82) 27 [.t 80, .t 81]),
 (some (79, false), .un 83 .not (.t 82)),
 (none, .pk 84 (.t 79) (.c (.b true)) (.t 83)),
 (none, .kp [2, 3, 6, 7, 10, 11, 84])])
 (.ite (.t 84) (.seq (.rg [(none, .mv 4 (.c (.b false))),
 (none, .kp [4])])
 (.rt))
 (.sk)))
 (.seq (.rg [(none, .mv 13 (.c (.n .i64 1))),
 (none, .kp [2, 3, 6, 7, 10, 11, 13])])
 (.seq (.rg [(none, .ld 85 (some 14) (.t 10)),
 (none, .mv 86 (.t 13)),
 (none, .ca (some 87) 29 [.t 85, .t 86]),
 (none, .mv 13 (.t 87)),
 (none, .kp [2, 3, 6, 7, 10, 11, 13])])
 (.seq (.rg [(none, .mv 88 (.t 11)),
 (none, .mv 89 (.t 13)),
 (none, .ca (some 90) 31 [.t 88, .t 89]),
 (none, .mv 13 (.t 90)),
 (none, .kp [2, 3, 6, 7, 10, 11, 13])])
 (.seq (.rg [(none, .mv 14 (.c (.n .i64 1))),
 (none, .kp [2, 3, 6, 7, 10, 11, 13, 14])])
 (.seq (.rg [(none, .ld 91 (some 14) (.t 10)),
 (none, .mv 92 (.t 14)),
 (none, .ca (some 93) 32 [.t 91, .t 92]),
 (none, .mv 14 (.t 93)),
 (none, .kp [2, 3, 6, 7, 10, 11, 13, 14])])
 (.seq (.seq (.rg [(none, .mv 94 (.t 14)),
 (none, .bi 95 .lss (.t 94) (.c (.n .i64 0))),
 (none, .kp [2, 3, 6, 7, 10, 11, 13, 14, 95])])
 (.ite (.t 95) (.seq (.rg [(none, .mv 4 (.c (.b false))),
 (none, .kp [4])])
 (.rt))
 (.sk)))
 (.seq (.rg [(none, .mv 96 (.t 11)),
 (none, .mv 97 (.t 14)),
 (none, .ca (some 98) 33 [.t 96, .t 97]),
 (none, .mv 14 (.t 98)),
 (none, .kp [2, 3, 6, 7, 10, 11, 13, 14])])
 (.seq (.seq (.rg [(none, .mv 99 (.t 14)),
 (none, .bi 100 .lss (.t 99) (.c (.n .i64 0))),
 (none, .kp [2, 3, 6, 7, 10, 11, 13, 14, 100])])
 (.ite (.t 100) (.seq (.rg [(none, .mv 4 (.c (.b false))),
 (none, .kp [4])])
 (.rt))
 (.sk)))
 (.seq (.seq (.rg [(none, .mv 101 (.t 14)),
 (none, .mv 102 (.t 13)),
 (none, .bi 103 .neq (.t 101) (.t 102)),
 (none, .kp [2, 3, 6, 7, 10, 11, 13, 103])])
 (.ite (.t 103) (.seq (.rg [(none, .mv 4 (.c (.b false))),
 (none, .kp [4])])
 (.rt))
 (.sk)))
 (.seq (.dr [[], [0], [], [0, 1, 2], [0, 1, 2, 3], [0, 1, 2, 3, 4], [0, 1, 2, 3, 4, 5], [0, 1, 2, 3, 4, 5], [], [0, 1, 2, 3, 4, 5, 6, 8], [0, 1, 2, 3, 4, 5, 6, 7, 8, 9]]
 (.q 0 (none, .ld 105 (some 14) (.t 2))
 (.q 2 (none, .ld 107 (some 4) (.t 3))
 (.alt 1 (none, .ca (some 106) 23 [.t 105]) [false, true]
 (.alt 3 (none, .ca (some 108) 24 [.t 107]) [false, false]
 (.alt 4 (none, .ca (some 109) 25 [.t 106, .t 108]) [false, false]
 (.q 5 (none, .mv 104 (.t 109))
 (.q 6 (none, .ex 110 (.t 104) 0)
 (.q 7 (none, .ex 111 (.t 104) 1)
 (.alt 8 (none, .al 15 [.n .i64 0, .n .i64 0, .n .i64 0, .b false, .n .i64 0, .n .i64 0, .n .i64 0, .nil, .n .i64 0, .n .i64 0, .n .i64 0, .n .i64 0, .nil, .n .i64 0]) [true, true, true, true, true]
 (.alt 9 (none, .st 14 (.t 15) (.t 110)) [false, false, false, false, true]
 (.q 10 (none, .mv 16 (.t 111))
 (.done))
 (.stop))
 (.stop)))))
 (.alt 8 (none, .al 15 [.n .i64 0, .n .i64 0, .n .i64 0, .b false, .n .i64 0, .n .i64 0, .n .i64 0, .nil, .n .i64 0, .n .i64 0, .n .i64 0, .n .i64 0, .nil, .n .i64 0]) [true, true]
 (.alt 4 (none, .ca (some 109) 25 [.t 106, .t 108]) [false, false]
 (.q 5 (none, .mv 104 (.t 109))
 (.q 6 (none, .ex 110 (.t 104) 0)
 (.q 7 (none, .ex 111 (.t 104) 1)
 (.alt 9 (none, .st 14 (.t 15) (.t 110)) [false, false, false, false, true]
 (.q 10 (none, .mv 16 (.t 111))
 (.done))
 (.stop)))))
 (.stop))
 (.stop)))
 (.alt 8 (none, .al 15 [.n .i64 0, .n .i64 0, .n .i64 0, .b false, .n .i64 0, .n .i64 0, .n .i64 0, .nil, .n .i64 0, .n .i64 0, .n .i64 0, .n .i64 0, .nil, .n .i64 0]) [true, true]
 (.alt 3 (none, .ca (some 108) 24 [.t 107]) [false, false]
 (.alt 4 (none, .ca (some 109) 25 [.t 106, .t 108]) [false, false]
 (.q 5 (none, .mv 104 (.t 109))
 (.q 6 (none, .ex 110 (.t 104) 0)
 (.q 7 (none, .ex 111 (.t 104) 1)
 (.alt 9 (none, .st 14 (.t 15) (.t 110)) [false, false, false, false, true]
 (.q 10 (none, .mv 16 (.t 111))
 (.done))
 (.stop)))))
 (.stop))
 (.stop))
 (.stop)))
 (.alt 8 (none, .al 15 [.n .i64 0, .n .i64 0, .n .i64 0, .b false, .n .i64 0, .n .i64 0, .n .i64 0, .nil, .n .i64 0, .n .i64 0, .n .i64 0, .n .i64 0, .nil, .n .i64 0]) [true, true]
 (.alt 1 (none, .ca (some 106) 23 [.t 105]) [false, true]
 (.alt 3 (none, .ca (some 108) 24 [.t 107]) [false, false]
 (.alt 4 (none, .ca (some 109) 25 [.t 106, .t 108]) [false, false]
 (.q 5 (none, .mv 104 (.t 109))
 (.q 6 (none, .ex 110 (.t 104) 0)
 (.q 7 (none, .ex 111 (.t 104) 1)
 (.alt 9 (none, .st 14 (.t 15) (.t 110)) [false, false, false, false, true]
 (.q 10 (none, .mv 16 (.t 111))
 (.done))
 (.stop)))))
 (.stop))
 (.stop))
 (.stop))
 (.stop))))) [6, 7, 10, 11, 13, 15, 16])
 (.seq (.seq (.rg [(none, .ld 112 (some 14) (.t 15)),
 (none, .ld 113 (some 14) (.t 6)),
 (none, .ca (some 114) 26 [.t 112, .t 113]),
 (none, .un 115 .not (.t 114)),
 (none, .mv 116 (.t 115)),
 (some (116, false), .mv 117 (.t 16)),
 (some (116, false), .mv 118 (.t 7)),
 (some (116, false), .ca (some 119) 27 [.t 117, .t 118]),
 (some (116, false), .un 120 .not (.t 119)),
 (none, .pk 121 (.t 116) (.c (.b true)) (.t 120)),
 (none, .kp [10, 11, 13, 121])])
 (.ite (.t 121) (.seq (.rg [(none, .mv 4 (.c (.b false))),
 (none, .kp [4])])
 (.rt))
 (.sk)))
 (.seq (.rg [(none, .mv 14 (.c (.n .i64 1))),
 (none, .kp [10, 11, 13, 14])])
 (.seq (.rg [(none, .ld 122 (some 14) (.t 10)),
 (none, .mv 123 (.t 14)),
 (none, .ca (some 124) 32 [.t 122, .t 123]),
 (none, .mv 14 (.t 124)),
 (none, .kp [11, 13, 14])])
 (.seq (.seq (.rg [(none, .mv 125 (.t 14)),
 (none, .bi 126 .lss (.t 125) (.c (.n .i64 0))),
 (none, .kp [11, 13, 14, 126])])
 (.ite (.t 126) (.seq (.rg [(none, .mv 4 (.c (.b false))),
 (none, .kp [4])])
 (.rt))
 (.sk)))
 (.seq (.rg [(none, .mv 127 (.t 11)),
 (none, .mv 128 (.t 14)),
 (none, .ca (some 129) 33 [.t 127, .t 128]),
 (none, .mv 14 (.t 129)),
 (none, .kp [13, 14])])
 (.seq (.seq (.rg [(none, .mv 130 (.t 14)),
 (none, .bi 131 .lss (.t 130) (.c (.n .i64 0))),
 (none, .kp [13, 14, 131])])
 (.ite (.t 131) (.seq (.rg [(none, .mv 4 (.c (.b false))),
 (none, .kp [4])])
 (.rt))
 (.sk)))
 (.seq (.seq (.rg [(none, .mv 132 (.t 14)),
 (none, .mv 133 (.t 13)),
 (none, .bi 134 .neq (.t 132) (.t 133)),
 (none, .kp [134])])
 (.ite (.t 134) (.seq (.rg [(none, .mv 4 (.c (.b false))),
 (none, .kp [4])])
 (.rt))
 (.sk)))
 (.seq (.rg [(none, .mv 4 (.c (.b true))),
 (none, .kp [4])])
 (.rt)))))))))))))))))))))))))))))))))))
theorem mr8 : MrT Try.prog 8 pc8 [.t 4] 135 := fun hn h => spec_of_run (fn := Try.f8) (by kernel_rfl) rfl (by kernel_rfl) (by kernel_rfl) hn h
theorem mk8 : MkT Try.prog 8 pc8 [.t 4] 135 := mr8.k
theorem mw8 : MwT Try.prog 8 pc8 [.t 4] 135 := mr8.w
-- 20 laws.szAssoc
def pc20 : PC := .seq (.rg [(none, .bx 2 (.t 0)),
 (none, .mv 4 (.c (.n .i64 0))),
 (none, .kp [1, 2])])
 (.seq (.rg [(none, .fa 5 4 (.t 2)),
 (none, .ld 6 (some 5) (.t 5)),
 (none, .mv 7 (.t 1)),
 (none, .ca (some 8) 55 [.t 6, .t 7]),
 (none, .mv 1 (.t 8)),
 (none, .kp [1, 2])])
 (.seq (.seq (.rg [(none, .mv 9 (.t 1)),
 (none, .bi 10 .lss (.t 9) (.c (.n .i64 0))),
 (none, .kp [1, 2, 10])])
 (.ite (.t 10) (.seq (.rg [(none, .mv 4 (.c (.n .i64 (-1)))),
 (none, .kp [4])])
 (.rt))
 (.sk)))
 (.seq (.rg [(none, .fa 11 9 (.t 2)),
 (none, .ld 12 (some 5) (.t 11)),
 (none, .mv 13 (.t 1)),
 (none, .ca (some 14) 55 [.t 12, .t 13]),
 (none, .mv 1 (.t 14)),
 (none, .kp [1])])
 (.seq (.seq (.rg [(none, .mv 15 (.t 1)),
 (none, .bi 16 .lss (.t 15) (.c (.n .i64 0))),
 (none, .kp [1, 16])])
 (.ite (.t 16) (.seq (.rg [(none, .mv 4 (.c (.n .i64 (-1)))),
 (none, .kp [4])])
 (.rt))
 (.sk)))
 (.seq (.rg [(none, .mv 17 (.t 1)),
 (none, .mv 4 (.t 17)),
 (none, .kp [4])])
 (.rt))))))
theorem mr20 : MrT Try.prog 20 pc20 [.t 4] 18 := fun hn h => spec_of_run (fn := Try.f20) (by kernel_rfl) rfl (by kernel_rfl) (by kernel_rfl) hn h
theorem mk20 : MkT Try.prog 20 pc20 [.t 4] 18 := mr20.k
theorem mw20 : MwT Try.prog 20 pc20 [.t 4] 18 := mr20.w
-- 21 laws.szPacket
def pc21 : PC := .seq (.rg [(none, .bx 2 (.t 0)),
 (none, .mv 4 (.c (.n .i64 0))),
 (none, .kp [1, 2])])
 (.seq (.rg [(none, .fa 5 3 (.t 2)),
 (none, .ld 6 none (.t 5)),
 (none, .mv 7 (.t 1)),
 (none, .ca (some 8) 56 [.t 6, .t 7]),
 (none, .mv 1 (.t 8)),
 (none, .kp [1])])
 (.seq (.seq (.rg [(none, .mv 9 (.t 1)),
 (none, .bi 10 .lss (.t 9) (.c (.n .i64 0))),
 (none, .kp [1, 10])])
 (.ite (.t 10) (.seq (.rg [(none, .mv 4 (.c (.n .i64 (-1)))),
 (none, .kp [4])])
 (.rt))
 (.sk)))
 (.seq (.rg [(none, .mv 11 (.t 1)),
 (none, .mv 4 (.t 11)),
 (none, .kp [4])])
 (.rt))))
theorem mr21 : MrT Try.prog 21 pc21 [.t 4] 12 := fun hn h => spec_of_run (fn := Try.f21) (by kernel_rfl) rfl (by kernel_rfl) (by kernel_rfl) hn h
theorem mk21 : MkT Try.prog 21 pc21 [.t 4] 12 := mr21.k
theorem mw21 : MwT Try.prog 21 pc21 [.t 4] 12 := mr21.w
-- 22 spec.AssocStep
def pc22l0 : PC := .seq (.seq (.rg [(none, .mv 59 (.t 10)),
 (none, .mv 60 (.t 8)),
 (none, .ln 61 (.t 60)),
 (none, .bi 62 .lss (.t 59) (.t 61)),
 (none, .kp [2, 4, 7, 8, 9, 10, 62])])
 (.ite (.t 62) (.sk)
 (.ex 0)))
 (.seq (.blk 1 (.seq (.rg [(none, .mv 65 (.t 8)),
 (none, .mv 66 (.t 10)),
 (none, .ia 67 1 (.t 65) (.t 66)),
 (none, .ld 68 none (.t 67)),
 (none, .kp [2, 4, 7, 8, 9, 10, 68])])
 (.ite (.t 68) (.rg [(none, .mv 69 (.t 9)),
 (none, .mv 70 (.t 10)),
 (none, .bs 71 1 1 [.n .i64 0] [(0, .t 70)]),
 (none, .ap 72 1 8 (.t 69) (.t 71)),
 (none, .mv 9 (.t 72)),
 (none, .kp [2, 4, 7, 8, 9, 10])])
 (.sk))))
 (.rg [(none, .mv 63 (.t 10)),
 (none, .bi 64 .add (.t 63) (.c (.n .i64 1))),
 (none, .mv 10 (.t 64)),
 (none, .kp [2, 4, 7, 8, 9, 10])]))
def pc22 : PC := .seq (.rg [(none, .bx 2 (.t 0)),
 (none, .bx 3 (.t 1)),
 (none, .al 4 [.n .i64 0, .n .i64 0, .n .i64 0, .b false, .n .i64 0, .n .i64 0, .n .i64 0, .nil, .n .i64 0, .n .i64 0, .n .i64 0, .n .i64 0, .nil, .n .i64 0]),
 (none, .mv 5 (.c .nil)),
 (none, .kp [2, 3, 4])])
 (.seq (.rg [(none, .fa 11 0 (.t 3)),
 (none, .ld 12 none (.t 11)),
 (none, .fa 13 1 (.t 2)),
 (none, .ld 14 none (.t 13)),
 (none, .bi 15 .eql (.t 12) (.t 14)),
 (none, .mv 16 (.t 15)),
 (some (16, true), .fa 17 1 (.t 3)),
 (some (16, true), .ld 18 none (.t 17)),
 (some (16, true), .fa 19 0 (.t 2)),
 (some (16, true), .ld 20 none (.t 19)),
 (some (16, true), .bi 21 .eql (.t 18) (.t 20)),
 (none, .pk 22 (.t 16) (.t 21) (.c (.b false))),
 (none, .mv 6 (.t 22)),
 (none, .kp [2, 3, 4, 6])])
 (.seq (.seq (.rg [(none, .ld 23 (some 14) (.t 2)),
 (none, .ca (some 24) 57 [.t 23]),
 (none, .un 25 .not (.t 24)),
 (none, .mv 26 (.t 25)),
 (some (26, false), .ld 27 (some 4) (.t 3)),
 (some (26, false), .ca (some 28) 58 [.t 27]),
 (some (26, false), .un 29 .not (.t 28)),
 (none, .pk 30 (.t 26) (.c (.b true)) (.t 29)),
 (none, .mv 31 (.t 30)),
 (some (31, false), .mv 32 (.t 6)),
 (some (31, false), .un 33 .not (.t 32)),
 (some (31, false), .mv 34 (.t 33)),
 (some (34, true), .fa 35 0 (.t 3)),
 (some (34, true), .ld 36 none (.t 35)),
 (some (34, true), .fa 37 0 (.t 2)),
 (some (34, true), .ld 38 none (.t 37)),
 (some (34, true), .bi 39 .neq (.t 36) (.t 38)),
 (some (34, true), .mv 40 (.t 39)),
 (some (40, false), .fa 41 1 (.t 3)),
 (some (40, false), .ld 42 none (.t 41)),
 (some (40, false), .fa 43 1 (.t 2)),
 (some (40, false), .ld 44 none (.t 43)),
 (some (40, false), .bi 45 .neq (.t 42) (.t 44)),
 (some (34, true), .pk 46 (.t 40) (.c (.b true)) (.t 45)),
 (some (31, false), .pk 47 (.t 34) (.t 46) (.c (.b false))),
 (none, .pk 48 (.t 31) (.c (.b true)) (.t 47)),
 (none, .kp [2, 3, 4, 6, 48])])
 (.ite (.t 48) (.seq (.rg [(none, .bd 49 [.n .i64 0, .n .i64 0, .n .i64 0, .b false, .n .i64 0, .n .i64 0, .n .i64 0, .nil, .n .i64 0, .n .i64 0, .n .i64 0, .n .i64 0, .nil, .n .i64 0] []),
 (none, .bs 50 1 0 [.n .i64 0] []),
 (none, .st 14 (.t 4) (.t 49)),
 (none, .mv 5 (.t 50)),
 (none, .kp [4, 5])])
 (.rt))
 (.sk)))
 (.seq (.rg [(none, .ld 52 (some 14) (.t 2)),
 (none, .mv 53 (.t 6)),
 (none, .ld 54 (some 4) (.t 3)),
 (none, .ca (some 55) 59 [.t 52, .t 53, .t 54]),
 (none, .mv 51 (.t 55)),
 (none, .ex 56 (.t 51) 0),
 (none, .ex 57 (.t 51) 1),
 (none, .al 7 [.n .i64 0, .n .i64 0, .n .i64 0, .b false, .n .i64 0, .n .i64 0, .n .i64 0, .nil, .n .i64 0, .n .i64 0, .n .i64 0, .n .i64 0, .nil, .n .i64 0]),
 (none, .st 14 (.t 7) (.t 56)),
 (none, .mv 8 (.t 57)),
 (none, .kp [2, 4, 7, 8])])
 (.seq (.rg [(none, .bs 58 1 0 [.n .i64 0] []),
 (none, .mv 9 (.t 58)),
 (none, .kp [2, 4, 7, 8, 9])])
 (.seq (.seq (.rg [(none, .mv 10 (.c (.n .i64 1))),
 (none, .kp [2, 4, 7, 8, 9, 10])])
 (.blk 0 (.lp pc22l0)))
 (.seq (.seq (.rg [(none, .mv 73 (.t 9)),
 (none, .ln 74 (.t 73)),
 (none, .bi 75 .gtr (.t 74) (.c (.n .i64 0))),
 (none, .kp [2, 4, 7, 9, 75])])
 (.ite (.t 75) (.seq (.rg [(none, .ld 76 (some 14) (.t 2)),
 (none, .ca (some 77) 60 [.t 76]),
 (none, .mv 78 (.t 9)),
 (none, .st 14 (.t 4) (.t 77)),
 (none, .mv 5 (.t 78)),
 (none, .kp [4, 5])])
 (.rt))
 (.sk)))
 (.seq (.rg [(none, .ld 79 (some 14) (.t 7)),
 (none, .ca (some 80) 60 [.t 79]),
 (none, .mv 81 (.t 9)),
 (none, .st 14 (.t 4) (.t 80)),
 (none, .mv 5 (.t 81)),
 (none, .kp [4, 5])])
 (.rt))))))))
theorem mr22 : MrT Try.prog 22 pc22 [.c 4 (some 14), .t 5] 82 := fun hn h => spec_of_run (fn := Try.f22) (by kernel_rfl) rfl (by kernel_rfl) (by kernel_rfl) hn h
theorem mk22 : MkT Try.prog 22 pc22 [.c 4 (some 14), .t 5] 82 := mr22.k
theorem mw22 : MwT Try.prog 22 pc22 [.c 4 (some 14), .t 5] 82 := mr22.w
-- 23 laws.toAssoc
def pc23 : PC := .seq (.rg [(none, .bx 1 (.t 0)),
 (none, .al 2 [.n .i64 0, .n .i64 0, .n .i64 0, .b false, .n .i64 0, .n .i64 0, .n .i64 0, .nil, .n .i64 0, .n .i64 0, .n .i64 0, .n .i64 0, .nil, .n .i64 0]),
 (none, .kp [1, 2])])
 (.seq (.rg [(none, .al 3 [.n .i64 0, .n .i64 0, .n .i64 0, .b false, .n .i64 0, .n .i64 0, .n .i64 0, .nil, .n .i64 0, .n .i64 0, .n .i64 0, .n .i64 0, .nil, .n .i64 0]),
 (none, .kp [1, 2, 3])])
 (.seq (.rg [(none, .fa 4 0 (.t 1)),
 (none, .ld 5 none (.t 4)),
 (none, .fa 6 0 (.t 3)),
 (none, .st 1 (.t 6) (.t 5)),
 (none, .kp [1, 2, 3])])
 (.seq (.rg [(none, .fa 7 1 (.t 1)),
 (none, .ld 8 none (.t 7)),
 (none, .fa 9 1 (.t 3)),
 (none, .st 1 (.t 9) (.t 8)),
 (none, .kp [1, 2, 3])])
 (.seq (.rg [(none, .fa 10 2 (.t 1)),
 (none, .ld 11 none (.t 10)),
 (none, .fa 12 2 (.t 3)),
 (none, .st 1 (.t 12) (.t 11)),
 (none, .kp [1, 2, 3])])
 (.seq (.rg [(none, .fa 13 3 (.t 1)),
 (none, .ld 14 none (.t 13)),
 (none, .fa 15 3 (.t 3)),
 (none, .st 1 (.t 15) (.t 14)),
 (none, .kp [1, 2, 3])])
 (.seq (.rg [(none, .fa 16 4 (.t 1)),
 (none, .ld 17 (some 5) (.t 16)),
 (none, .ca (some 18) 61 [.t 17]),
 (none, .fa 19 4 (.t 3)),
 (none, .st 5 (.t 19) (.t 18)),
 (none, .kp [1, 2, 3])])
 (.seq (.rg [(none, .fa 20 9 (.t 1)),
 (none, .ld 21 (some 5) (.t 20)),
 (none, .ca (some 22) 61 [.t 21]),
 (none, .fa 23 9 (.t 3)),
 (none, .st 5 (.t 23) (.t 22)),
 (none, .kp [2, 3])])
 (.seq (.rg [(none, .ld 24 (some 14) (.t 3)),
 (none, .st 14 (.t 2) (.t 24)),
 (none, .kp [2])])
 (.rt)))))))))
theorem mr23 : MrT Try.prog 23 pc23 [.c 2 (some 14)] 25 := fun hn h => spec_of_run (fn := Try.f23) (by kernel_rfl) rfl (by kernel_rfl) (by kernel_rfl) hn h
theorem mk23 : MkT Try.prog 23 pc23 [.c 2 (some 14)] 25 := mr23.k
theorem mw23 : MwT Try.prog 23 pc23 [.c 2 (some 14)] 25 := mr23.w
-- 24 laws.toPacket
def pc24 : PC := .seq (.rg [(none, .bx 1 (.t 0)),
 (none, .al 2 [.n .i64 0, .n .i64 0, .n .i64 0, .nil]),
 (none, .kp [1, 2])])
 (.seq (.rg [(none, .al 3 [.n .i64 0, .n .i64 0, .n .i64 0, .nil]),
 (none, .kp [1, 2, 3])])
 (.seq (.rg [(none, .fa 4 0 (.t 1)),
 (none, .ld 5 none (.t 4)),
 (none, .fa 6 0 (.t 3)),
 (none, .st 1 (.t 6) (.t 5)),
 (none, .kp [1, 2, 3])])
 (.seq (.rg [(none, .fa 7 1 (.t 1)),
 (none, .ld 8 none (.t 7)),
 (none, .fa 9 1 (.t 3)),
 (none, .st 1 (.t 9) (.t 8)),
 (none, .kp [1, 2, 3])])
 (.seq (.rg [(none, .fa 10 2 (.t 1)),
 (none, .ld 11 none (.t 10)),
 (none, .fa 12 2 (.t 3)),
 (none, .st 1 (.t 12) (.t 11)),
 (none, .kp [1, 2, 3])])
 (.seq (.rg [(none, .fa 13 3 (.t 1)),
 (none, .ld 14 none (.t 13)),
 (none, .ca (some 15) 62 [.t 14]),
 (none, .fa 16 3 (.t 3)),
 (none, .st 1 (.t 16) (.t 15)),
 (none, .kp [2, 3])])
 (.seq (.rg [(none, .ld 17 (some 4) (.t 3)),
 (none, .st 4 (.t 2) (.t 17)),
 (none, .kp [2])])
 (.rt)))))))
theorem mr24 : MrT Try.prog 24 pc24 [.c 2 (some 4)] 18 := fun hn h => spec_of_run (fn := Try.f24) (by kernel_rfl) rfl (by kernel_rfl) (by kernel_rfl) hn h
theorem mk24 : MkT Try.prog 24 pc24 [.c 2 (some 4)] 18 := mr24.k
theorem mw24 : MwT Try.prog 24 pc24 [.c 2 (some 4)] 18 := mr24.w
-- 25 impl.AssocStep
def pc25l0 : PC := .seq (.rg [(none, .bi 72 .lss (.t 71) (.t 70)),
 (none, .kp [2, 3, 4, 6, 7, 8, 69, 70, 71, 72])])
 (.seq (.ite (.t 72) (.sk)
 (.ex 0))
 (.seq (.blk 1 (.seq (.rg [(none, .ia 73 3 (.t 69) (.t 71)),
 (none, .ld 74 (some 3) (.t 73)),
 (none, .al 10 [.n .i64 0, .n .i64 0, .s []]),
 (none, .st 3 (.t 10) (.t 74)),
 (none, .kp [2, 3, 4, 6, 7, 8, 10, 69, 70, 71])])
 (.seq (.rg [(none, .fa 75 0 (.t 10)),
 (none, .ld 76 none (.t 75)),
 (none, .bi 77 .eql (.t 76) (.c (.n .i64 1))),
 (none, .kp [2, 3, 4, 6, 7, 8, 69, 70, 71, 77])])
 (.ite (.t 77) (.rg [(none, .mv 8 (.c (.n .i64 0))),
 (none, .kp [2, 3, 4, 6, 7, 8, 69, 70, 71])])
 (.sk)))))
 (.rg [(none, .bi 78 .add (.t 71) (.c (.n .i64 1))),
 (none, .mv 71 (.t 78)),
 (none, .kp [2, 3, 4, 6, 7, 8, 69, 70, 71])])))
def pc25l1 : PC := .seq (.rg [(none, .bi 90 .lss (.t 89) (.t 88)),
 (none, .kp [2, 4, 6, 7, 11, 87, 88, 89, 90])])
 (.seq (.ite (.t 90) (.sk)
 (.ex 2))
 (.seq (.blk 3 (.seq (.rg [(none, .ia 91 3 (.t 87) (.t 89)),
 (none, .ld 92 (some 3) (.t 91)),
 (none, .al 13 [.n .i64 0, .n .i64 0, .s []]),
 (none, .st 3 (.t 13) (.t 92)),
 (none, .kp [2, 4, 6, 7, 11, 13, 87, 88, 89])])
 (.seq (.rg [(none, .ld 93 (some 3) (.t 13)),
 (none, .mv 94 (.t 6)),
 (none, .ca (some 95) 67 [.t 11, .t 93, .t 94]),
 (none, .mv 14 (.t 95)),
 (none, .kp [2, 4, 6, 7, 11, 14, 87, 88, 89])])
 (.seq (.rg [(none, .mv 96 (.t 14)),
 (none, .bi 97 .neq (.t 96) (.c (.n .i64 0))),
 (none, .kp [2, 4, 6, 7, 11, 14, 87, 88, 89, 97])])
 (.ite (.t 97) (.rg [(none, .mv 98 (.t 14)),
 (none, .iA 99 12 1 (.t 7) (.t 98)),
 (none, .st 1 (.t 99) (.c (.b true))),
 (none, .kp [2, 4, 6, 7, 11, 87, 88, 89])])
 (.sk))))))
 (.rg [(none, .bi 100 .add (.t 89) (.c (.n .i64 1))),
 (none, .mv 89 (.t 100)),
 (none, .kp [2, 4, 6, 7, 11, 87, 88, 89])])))
def pc25l2 : PC := .seq (.rg [(none, .bi 104 .lss (.t 103) (.c (.n .i64 12))),
 (none, .kp [2, 4, 11, 15, 102, 103, 104])])
 (.seq (.ite (.t 104) (.sk)
 (.ex 4))
 (.seq (.blk 5 (.seq (.rg [(none, .mv 105 (.t 103)),
 (none, .iv 106 12 (.t 102) (.t 103)),
 (none, .mv 16 (.t 105)),
 (none, .mv 17 (.t 106)),
 (none, .kp [2, 4, 11, 15, 16, 17, 102, 103])])
 (.seq (.rg [(none, .mv 107 (.t 17)),
 (none, .kp [2, 4, 11, 15, 16, 102, 103, 107])])
 (.ite (.t 107) (.rg [(none, .mv 108 (.t 15)),
 (none, .mv 109 (.t 16)),
 (none, .bs 110 1 1 [.n .i64 0] [(0, .t 109)]),
 (none, .ap 111 1 8 (.t 108) (.t 110)),
 (none, .mv 15 (.t 111)),
 (none, .kp [2, 4, 11, 15, 102, 103])])
 (.sk)))))
 (.rg [(none, .bi 112 .add (.t 103) (.c (.n .i64 1))),
 (none, .mv 103 (.t 112)),
 (none, .kp [2, 4, 11, 15, 102, 103])])))
def pc25 : PC := .seq (.rg [(none, .bx 2 (.t 0)),
 (none, .bx 3 (.t 1)),
 (none, .al 4 [.n .i64 0, .n .i64 0, .n .i64 0, .b false, .n .i64 0, .n .i64 0, .n .i64 0, .nil, .n .i64 0, .n .i64 0, .n .i64 0, .n .i64 0, .nil, .n .i64 0]),
 (none, .mv 5 (.c .nil)),
 (none, .kp [2, 3, 4])])
 (.seq (.seq (.rg [(none, .ld 18 (some 14) (.t 2)),
 (none, .ca (some 19) 63 [.t 18]),
 (none, .un 20 .not (.t 19)),
 (none, .mv 21 (.t 20)),
 (some (21, false), .ld 22 (some 4) (.t 3)),
 (some (21, false), .ca (some 23) 64 [.t 22]),
 (some (21, false), .un 24 .not (.t 23)),
 (none, .pk 25 (.t 21) (.c (.b true)) (.t 24)),
 (none, .kp [2, 3, 4, 25])])
 (.ite (.t 25) (.seq (.rg [(none, .bd 26 [.n .i64 0, .n .i64 0, .n .i64 0, .b false, .n .i64 0, .n .i64 0, .n .i64 0, .nil, .n .i64 0, .n .i64 0, .n .i64 0, .n .i64 0, .nil, .n .i64 0] []),
 (none, .st 14 (.t 4) (.t 26)),
 (none, .mv 5 (.c .nil)),
 (none, .kp [4, 5])])
 (.rt))
 (.sk)))
 (.seq (.rg [(none, .fa 27 0 (.t 3)),
 (none, .ld 28 none (.t 27)),
 (none, .fa 29 1 (.t 2)),
 (none, .ld 30 none (.t 29)),
 (none, .bi 31 .eql (.t 28) (.t 30)),
 (none, .mv 32 (.t 31)),
 (some (32, true), .fa 33 1 (.t 3)),
 (some (32, true), .ld 34 none (.t 33)),
 (some (32, true), .fa 35 0 (.t 2)),
 (some (32, true), .ld 36 none (.t 35)),
 (some (32, true), .bi 37 .eql (.t 34) (.t 36)),
 (none, .pk 38 (.t 32) (.t 37) (.c (.b false))),
 (none, .mv 6 (.t 38)),
 (none, .kp [2, 3, 4, 6])])
 (.seq (.seq (.rg [(none, .mv 39 (.t 6)),
 (none, .un 40 .not (.t 39)),
 (none, .mv 41 (.t 40)),
 (some (41, true), .fa 42 0 (.t 3)),
 (some (41, true), .ld 43 none (.t 42)),
 (some (41, true), .fa 44 0 (.t 2)),
 (some (41, true), .ld 45 none (.t 44)),
 (some (41, true), .bi 46 .neq (.t 43) (.t 45)),
 (some (41, true), .mv 47 (.t 46)),
 (some (47, false), .fa 48 1 (.t 3)),
 (some (47, false), .ld 49 none (.t 48)),
 (some (47, false), .fa 50 1 (.t 2)),
 (some (47, false), .ld 51 none (.t 50)),
 (some (47, false), .bi 52 .neq (.t 49) (.t 51)),
 (some (41, true), .pk 53 (.t 47) (.c (.b true)) (.t 52)),
 (none, .pk 54 (.t 41) (.t 53) (.c (.b false))),
 (none, .kp [2, 3, 4, 6, 54])])
 (.ite (.t 54) (.seq (.rg [(none, .bd 55 [.n .i64 0, .n .i64 0, .n .i64 0, .b false, .n .i64 0, .n .i64 0, .n .i64 0, .nil, .n .i64 0, .n .i64 0, .n .i64 0, .n .i64 0, .nil, .n .i64 0] []),
 (none, .st 14 (.t 4) (.t 55)),
 (none, .mv 5 (.c .nil)),
 (none, .kp [4, 5])])
 (.rt))
 (.sk)))
 (.seq (.rg [(none, .bd 56 [.b false, .b false, .b false, .b false, .b false, .b false, .b false, .b false, .b false, .b false, .b false, .b false] []),
 (none, .al 7 [.b false, .b false, .b false, .b false, .b false, .b false, .b false, .b false, .b false, .b false, .b false, .b false]),
 (none, .st 12 (.t 7) (.t 56)),
 (none, .kp [2, 3, 4, 6, 7])])
 (.seq (.rg [(none, .ld 57 (some 4) (.t 3)),
 (none, .ca (some 58) 65 [.t 57]),
 (none, .un 59 .not (.t 58)),
 (none, .iA 60 12 1 (.t 7) (.c (.n .i64 1))),
 (none, .st 1 (.t 60) (.t 59)),
 (none, .kp [2, 3, 4, 6, 7])])
 (.seq (.rg [(none, .fa 61 9 (.t 2)),
 (none, .fa 62 0 (.t 61)),
 (none, .ld 63 none (.t 62)),
 (none, .mv 8 (.t 63)),
 (none, .kp [2, 3, 4, 6, 7, 8])])
 (.seq (.seq (.rg [(none, .mv 64 (.t 6)),
 (none, .kp [2, 3, 4, 6, 7, 8, 64])])
 (.ite (.t 64) (.rg [(none, .fa 65 4 (.t 2)),
 (none, .fa 66 0 (.t 65)),
 (none, .ld 67 none (.t 66)),
 (none, .mv 8 (.t 67)),
 (none, .kp [2, 3, 4, 6, 7, 8])])
 (.sk)))
 (.seq (.seq (.rg [(none, .fa 68 3 (.t 3)),
 (none, .ld 69 none (.t 68)),
 (none, .ln 70 (.t 69)),
 (none, .mv 71 (.c (.n .i64 0))),
 (none, .kp [2, 3, 4, 6, 7, 8, 69, 70, 71])])
 (.blk 0 (.lp pc25l0)))
 (.seq (.rg [(none, .fa 79 2 (.t 3)),
 (none, .ld 80 none (.t 79)),
 (none, .mv 81 (.t 8)),
 (none, .bi 82 .neq (.t 80) (.t 81)),
 (none, .iA 83 12 1 (.t 7) (.c (.n .i64 2))),
 (none, .st 1 (.t 83) (.t 82)),
 (none, .kp [2, 3, 4, 6, 7])])
 (.seq (.rg [(none, .ld 84 (some 14) (.t 2)),
 (none, .ca (some 85) 66 [.t 84]),
 (none, .al 11 [.n .i64 0, .n .i64 0, .n .i64 0, .b false, .n .i64 0, .n .i64 0, .n .i64 0, .nil, .n .i64 0, .n .i64 0, .n .i64 0, .n .i64 0, .nil, .n .i64 0]),
 (none, .st 14 (.t 11) (.t 85)),
 (none, .kp [2, 3, 4, 6, 7, 11])])
 (.seq (.seq (.rg [(none, .fa 86 3 (.t 3)),
 (none, .ld 87 none (.t 86)),
 (none, .ln 88 (.t 87)),
 (none, .mv 89 (.c (.n .i64 0))),
 (none, .kp [2, 4, 6, 7, 11, 87, 88, 89])])
 (.blk 2 (.lp pc25l1)))
 (.seq (.rg [(none, .bs 101 1 0 [.n .i64 0] []),
 (none, .mv 15 (.t 101)),
 (none, .kp [2, 4, 7, 11, 15])])
 (.seq (.seq (.rg [(none, .ld 102 (some 12) (.t 7)),
 (none, .mv 103 (.c (.n .i64 0))),
 (none, .kp [2, 4, 11, 15, 102, 103])])
 (.blk 4 (.lp pc25l2)))
 (.seq (.seq (.rg [(none, .mv 113 (.t 15)),
 (none, .ln 114 (.t 113)),
 (none, .bi 115 .gtr (.t 114) (.c (.n .i64 0))),
 (none, .kp [2, 4, 11, 15, 115])])
 (.ite (.t 115) (.seq (.rg [(none, .ld 116 (some 14) (.t 2)),
 (none, .ca (some 117) 66 [.t 116]),
 (none, .mv 118 (.t 15)),
 (none, .st 14 (.t 4) (.t 117)),
 (none, .mv 5 (.t 118)),
 (none, .kp [4, 5])])
 (.rt))
 (.sk)))
 (.seq (.rg [(none, .ld 119 (some 14) (.t 11)),
 (none, .st 14 (.t 4) (.t 119)),
 (none, .mv 5 (.c .nil)),
 (none, .kp [4, 5])])
 (.rt))))))))))))))))
theorem mr25 : MrT Try.prog 25 pc25 [.c 4 (some 14), .t 5] 120 := fun hn h => spec_of_run (fn := Try.f25) (by kernel_rfl) rfl (by kernel_rfl) (by kernel_rfl) hn h
theorem mk25 : MkT Try.prog 25 pc25 [.c 4 (some 14), .t 5] 120 := mr25.k
theorem mw25 : MwT Try.prog 25 pc25 [.c 4 (some 14), .t 5] 120 := mr25.w
-- 26 laws.eqAssoc
def pc26 : PC := .seq (.rg [(none, .bx 2 (.t 0)),
 (none, .bx 3 (.t 1)),
 (none, .mv 4 (.c (.b false))),
 (none, .kp [2, 3])])
 (.seq (.seq (.rg [(none, .fa 5 0 (.t 2)),
 (none, .ld 6 none (.t 5)),
 (none, .fa 7 0 (.t 3)),
 (none, .ld 8 none (.t 7)),
 (none, .bi 9 .neq (.t 6) (.t 8)),
 (none, .kp [2, 3, 9])])
 (.ite (.t 9) (.seq (.rg [(none, .mv 4 (.c (.b false))),
 (none, .kp [4])])
 (.rt))
 (.sk)))
 (.seq (.seq (.rg [(none, .fa 10 1 (.t 2)),
 (none, .ld 11 none (.t 10)),
 (none, .fa 12 1 (.t 3)),
 (none, .ld 13 none (.t 12)),
 (none, .bi 14 .neq (.t 11) (.t 13)),
 (none, .kp [2, 3, 14])])
 (.ite (.t 14) (.seq (.rg [(none, .mv 4 (.c (.b false))),
 (none, .kp [4])])
 (.rt))
 (.sk)))
 (.seq (.seq (.rg [(none, .fa 15 2 (.t 2)),
 (none, .ld 16 none (.t 15)),
 (none, .fa 17 2 (.t 3)),
 (none, .ld 18 none (.t 17)),
 (none, .bi 19 .neq (.t 16) (.t 18)),
 (none, .kp [2, 3, 19])])
 (.ite (.t 19) (.seq (.rg [(none, .mv 4 (.c (.b false))),
 (none, .kp [4])])
 (.rt))
 (.sk)))
 (.seq (.seq (.rg [(none, .fa 20 3 (.t 2)),
 (none, .ld 21 none (.t 20)),
 (none, .fa 22 3 (.t 3)),
 (none, .ld 23 none (.t 22)),
 (none, .bb 24 true (.t 21) (.t 23)),
 (none, .kp [2, 3, 24])])
 (.ite (.t 24) (.seq (.rg [(none, .mv 4 (.c (.b false))),
 (none, .kp [4])])
 (.rt))
 (.sk)))
 (.seq (.seq (.rg [(none, .fa 25 4 (.t 2)),
 (none, .ld 26 (some 5) (.t 25)),
 (none, .fa 27 4 (.t 3)),
 (none, .ld 28 (some 5) (.t 27)),
 (none, .ca (some 29) 68 [.t 26, .t 28]),
 (none, .un 30 .not (.t 29)),
 (none, .kp [2, 3, 30])])
 (.ite (.t 30) (.seq (.rg [(none, .mv 4 (.c (.b false))),
 (none, .kp [4])])
 (.rt))
 (.sk)))
 (.seq (.seq (.rg [(none, .fa 31 9 (.t 2)),
 (none, .ld 32 (some 5) (.t 31)),
 (none, .fa 33 9 (.t 3)),
 (none, .ld 34 (some 5) (.t 33)),
 (none, .ca (some 35) 68 [.t 32, .t 34]),
 (none, .un 36 .not (.t 35)),
 (none, .kp [36])])
 (.ite (.t 36) (.seq (.rg [(none, .mv 4 (.c (.b false))),
 (none, .kp [4])])
 (.rt))
 (.sk)))
 (.seq (.rg [(none, .mv 4 (.c (.b true))),
 (none, .kp [4])])
 (.rt))))))))
theorem mr26 : MrT Try.prog 26 pc26 [.t 4] 37 := fun hn h => spec_of_run (fn := Try.f26) (by kernel_rfl) rfl (by kernel_rfl) (by kernel_rfl) hn h
theorem mk26 : MkT Try.prog 26 pc26 [.t 4] 37 := mr26.k
theorem mw26 : MwT Try.prog 26 pc26 [.t 4] 37 := mr26.w
-- 27 laws.eqIntS
def pc27l0 : PC := .seq (.seq (.rg [(none, .mv 11 (.t 5)),
 (none, .mv 12 (.t 0)),
 (none, .ln 13 (.t 12)),
 (none, .bi 14 .lss (.t 11) (.t 13)),
 (none, .kp [0, 1, 5, 14])])
 (.ite (.t 14) (.sk)
 (.ex 0)))
 (.seq (.blk 1 (.seq (.dr [[], [], [0, 1], [0, 1, 2], [], [], [4, 5], [4, 5, 6], [0, 1, 2, 3, 4, 5, 6, 7]]
 (.q 0 (none, .mv 17 (.t 0))
 (.q 1 (none, .mv 18 (.t 5))
 (.q 2 (none, .ia 19 1 (.t 17) (.t 18))
 (.q 3 (none, .ld 20 none (.t 19))
 (.q 4 (none, .mv 21 (.t 1))
 (.q 5 (none, .mv 22 (.t 5))
 (.q 6 (none, .ia 23 1 (.t 21) (.t 22))
 (.q 7 (none, .ld 24 none (.t 23))
 (.q 8 (none, .bi 25 .neq (.t 20) (.t 24))
 (.done)))))))))) [0, 1, 5, 25])
 (.ite (.t 25) (.seq (.rg [(none, .mv 4 (.c (.b false))),
 (none, .kp [4])])
 (.rt))
 (.sk))))
 (.rg [(none, .mv 15 (.t 5)),
 (none, .bi 16 .add (.t 15) (.c (.n .i64 1))),
 (none, .mv 5 (.t 16)),
 (none, .kp [0, 1, 5])]))
def pc27 : PC := .seq (.rg [(none, .mv 4 (.c (.b false))),
 (none, .kp [0, 1])])
 (.seq (.seq (.rg [(none, .mv 6 (.t 0)),
 (none, .ln 7 (.t 6)),
 (none, .mv 8 (.t 1)),
 (none, .ln 9 (.t 8)),
 (none, .bi 10 .neq (.t 7) (.t 9)),
 (none, .kp [0, 1, 10])])
 (.ite (.t 10) (.seq (.rg [(none, .mv 4 (.c (.b false))),
 (none, .kp [4])])
 (.rt))
 (.sk)))
 (.seq (.seq (.rg [(none, .mv 5 (.c (.n .i64 0))),
 (none, .kp [0, 1, 5])])
 (.blk 0 (.lp pc27l0)))
 (.seq (.rg [(none, .mv 4 (.c (.b true))),
 (none, .kp [4])])
 (.rt))))
theorem mr27 : MrT Try.prog 27 pc27 [.t 4] 26 := fun hn h => spec_of_run (fn := Try.f27) (by kernel_rfl) rfl (by kernel_rfl) (by kernel_rfl) hn h
theorem mk27 : MkT Try.prog 27 pc27 [.t 4] 26 := mr27.k
theorem mw27 : MwT Try.prog 27 pc27 [.t 4] 26 := mr27.w
-- 28 laws.eqPacket
def pc28 : PC := .seq (.rg [(none, .bx 2 (.t 0)),
 (none, .bx 3 (.t 1)),
 (none, .mv 4 (.c (.b false))),
 (none, .kp [2, 3])])
 (.seq (.seq (.rg [(none, .fa 5 0 (.t 2)),
 (none, .ld 6 none (.t 5)),
 (none, .fa 7 0 (.t 3)),
 (none, .ld 8 none (.t 7)),
 (none, .bi 9 .neq (.t 6) (.t 8)),
 (none, .kp [2, 3, 9])])
 (.ite (.t 9) (.seq (.rg [(none, .mv 4 (.c (.b false))),
 (none, .kp [4])])
 (.rt))
 (.sk)))
 (.seq (.seq (.rg [(none, .fa 10 1 (.t 2)),
 (none, .ld 11 none (.t 10)),
 (none, .fa 12 1 (.t 3)),
 (none, .ld 13 none (.t 12)),
 (none, .bi 14 .neq (.t 11) (.t 13)),
 (none, .kp [2, 3, 14])])
 (.ite (.t 14) (.seq (.rg [(none, .mv 4 (.c (.b false))),
 (none, .kp [4])])
 (.rt))
 (.sk)))
 (.seq (.seq (.rg [(none, .fa 15 2 (.t 2)),
 (none, .ld 16 none (.t 15)),
 (none, .fa 17 2 (.t 3)),
 (none, .ld 18 none (.t 17)),
 (none, .bi 19 .neq (.t 16) (.t 18)),
 (none, .kp [2, 3, 19])])
 (.ite (.t 19) (.seq (.rg [(none, .mv 4 (.c (.b false))),
 (none, .kp [4])])
 (.rt))
 (.sk)))
 (.seq (.seq (.rg [(none, .fa 20 3 (.t 2)),
 (none, .ld 21 none (.t 20)),
 (none, .fa 22 3 (.t 3)),
 (none, .ld 23 none (.t 22)),
 (none, .ca (some 24) 69 [.t 21, .t 23]),
 (none, .un 25 .not (.t 24)),
 (none, .kp [25])])
 (.ite (.t 25) (.seq (.rg [(none, .mv 4 (.c (.b false))),
 (none, .kp [4])])
 (.rt))
 (.sk)))
 (.seq (.rg [(none, .mv 4 (.c (.b true))),
 (none, .kp [4])])
 (.rt))))))
theorem mr28 : MrT Try.prog 28 pc28 [.t 4] 26 := fun hn h => spec_of_run (fn := Try.f28) (by kernel_rfl) rfl (by kernel_rfl) (by kernel_rfl) hn h
theorem mk28 : MkT Try.prog 28 pc28 [.t 4] 26 := mr28.k
theorem mw28 : MwT Try.prog 28 pc28 [.t 4] 26 := mr28.w
-- 29 laws.markAssoc
def pc29 : PC := .seq (.rg [(none, .bx 2 (.t 0)),
 (none, .mv 4 (.c (.n .i64 0))),
 (none, .kp [1, 2])])
 (.seq (.rg [(none, .fa 5 4 (.t 2)),
 (none, .ld 6 (some 5) (.t 5)),
 (none, .mv 7 (.t 1)),
 (none, .ca (some 8) 70 [.t 6, .t 7]),
 (none, .mv 1 (.t 8)),
 (none, .kp [1, 2])])
 (.seq (.rg [(none, .fa 9 9 (.t 2)),
 (none, .ld 10 (some 5) (.t 9)),
 (none, .mv 11 (.t 1)),
 (none, .ca (some 12) 70 [.t 10, .t 11]),
 (none, .mv 1 (.t 12)),
 (none, .kp [1])])
 (.seq (.rg [(none, .mv 13 (.t 1)),
 (none, .mv 4 (.t 13)),
 (none, .kp [4])])
 (.rt))))
theorem mr29 : MrT Try.prog 29 pc29 [.t 4] 14 := fun hn h => spec_of_run (fn := Try.f29) (by kernel_rfl) rfl (by kernel_rfl) (by kernel_rfl) hn h
theorem mk29 : MkT Try.prog 29 pc29 [.t 4] 14 := mr29.k
theorem mw29 : MwT Try.prog 29 pc29 [.t 4] 14 := mr29.w
-- 30 laws.markPacket
def pc30 : PC := .seq (.rg [(none, .bx 2 (.t 0)),
 (none, .mv 4 (.c (.n .i64 0))),
 (none, .kp [1, 2])])
 (.seq (.rg [(none, .fa 5 3 (.t 2)),
 (none, .ld 6 none (.t 5)),
 (none, .mv 7 (.t 1)),
 (none, .ca (some 8) 71 [.t 6, .t 7]),
 (none, .mv 1 (.t 8)),
 (none, .kp [1])])
 (.seq (.rg [(none, .mv 9 (.t 1)),
 (none, .mv 4 (.t 9)),
 (none, .kp [4])])
 (.rt)))
theorem mr30 : MrT Try.prog 30 pc30 [.t 4] 10 := fun hn h => spec_of_run (fn := Try.f30) (by kernel_rfl) rfl (by kernel_rfl) (by kernel_rfl) hn h
theorem mk30 : MkT Try.prog 30 pc30 [.t 4] 10 := mr30.k
theorem mw30 : MwT Try.prog 30 pc30 [.t 4] 10 := mr30.w
-- 31 laws.markIntS
def pc31l0 : PC := .seq (.seq (.rg [(none, .mv 6 (.t 5)),
 (none, .mv 7 (.t 0)),
 (none, .ln 8 (.t 7)),
 (none, .bi 9 .lss (.t 6) (.t 8)),
 (none, .kp [0, 1, 5, 9])])
 (.ite (.t 9) (.sk)
 (.ex 0)))
 (.seq (.blk 1 (.seq (.rg [(none, .mv 12 (.t 0)),
 (none, .mv 13 (.t 5)),
 (none, .mv 14 (.t 1)),
 (none, .ia 15 1 (.t 12) (.t 13)),
 (none, .st 1 (.t 15) (.t 14)),
 (none, .kp [0, 1, 5])])
 (.rg [(none, .mv 16 (.t 1)),
 (none, .bi 17 .add (.t 16) (.c (.n .i64 1))),
 (none, .mv 1 (.t 17)),
 (none, .kp [0, 1, 5])])))
 (.rg [(none, .mv 10 (.t 5)),
 (none, .bi 11 .add (.t 10) (.c (.n .i64 1))),
 (none, .mv 5 (.t 11)),
 (none, .kp [0, 1, 5])]))
def pc31 : PC := .seq (.rg [(none, .mv 4 (.c (.n .i64 0))),
 (none, .kp [0, 1])])
 (.seq (.seq (.rg [(none, .mv 5 (.c (.n .i64 0))),
 (none, .kp [0, 1, 5])])
 (.blk 0 (.lp pc31l0)))
 (.seq (.rg [(none, .mv 18 (.t 1)),
 (none, .mv 4 (.t 18)),
 (none, .kp [4])])
 (.rt)))
theorem mr31 : MrT Try.prog 31 pc31 [.t 4] 19 := fun hn h => spec_of_run (fn := Try.f31) (by kernel_rfl) rfl (by kernel_rfl) (by kernel_rfl) hn h
theorem mk31 : MkT Try.prog 31 pc31 [.t 4] 19 := mr31.k
theorem mw31 : MwT Try.prog 31 pc31 [.t 4] 19 := mr31.w
-- 32 laws.heldAssoc
def pc32 : PC := .seq (.rg [(none, .bx 2 (.t 0)),
 (none, .mv 4 (.c (.n .i64 0))),
 (none, .kp [1, 2])])
 (.seq (.rg [(none, .fa 5 4 (.t 2)),
 (none, .ld 6 (some 5) (.t 5)),
 (none, .mv 7 (.t 1)),
 (none, .ca (some 8) 72 [.t 6, .t 7]),
 (none, .mv 1 (.t 8)),
 (none, .kp [1, 2])])
 (.seq (.seq (.rg [(none, .mv 9 (.t 1)),
 (none, .bi 10 .lss (.t 9) (.c (.n .i64 0))),
 (none, .kp [1, 2, 10])])
 (.ite (.t 10) (.seq (.rg [(none, .mv 4 (.c (.n .i64 (-1)))),
 (none, .kp [4])])
 (.rt))
 (.sk)))
 (.seq (.rg [(none, .fa 11 9 (.t 2)),
 (none, .ld 12 (some 5) (.t 11)),
 (none, .mv 13 (.t 1)),
 (none, .ca (some 14) 72 [.t 12, .t 13]),
 (none, .mv 1 (.t 14)),
 (none, .kp [1])])
 (.seq (.seq (.rg [(none, .mv 15 (.t 1)),
 (none, .bi 16 .lss (.t 15) (.c (.n .i64 0))),
 (none, .kp [1, 16])])
 (.ite (.t 16) (.seq (.rg [(none, .mv 4 (.c (.n .i64 (-1)))),
 (none, .kp [4])])
 (.rt))
 (.sk)))
 (.seq (.rg [(none, .mv 17 (.t 1)),
 (none, .mv 4 (.t 17)),
 (none, .kp [4])])
 (.rt))))))
theorem mr32 : MrT Try.prog 32 pc32 [.t 4] 18 := fun hn h => spec_of_run (fn := Try.f32) (by kernel_rfl) rfl (by kernel_rfl) (by kernel_rfl) hn h
theorem mk32 : MkT Try.prog 32 pc32 [.t 4] 18 := mr32.k
theorem mw32 : MwT Try.prog 32 pc32 [.t 4] 18 := mr32.w
-- 33 laws.heldIntS
def pc33l0 : PC := .seq (.seq (.rg [(none, .mv 6 (.t 5)),
 (none, .mv 7 (.t 0)),
 (none, .ln 8 (.t 7)),
 (none, .bi 9 .lss (.t 6) (.t 8)),
 (none, .kp [0, 1, 5, 9])])
 (.ite (.t 9) (.sk)
 (.ex 0)))
 (.seq (.blk 1 (.seq (.seq (.rg [(none, .mv 12 (.t 0)),
 (none, .mv 13 (.t 5)),
 (none, .ia 14 1 (.t 12) (.t 13)),
 (none, .ld 15 none (.t 14)),
 (none, .mv 16 (.t 1)),
 (none, .bi 17 .neq (.t 15) (.t 16)),
 (none, .kp [0, 1, 5, 17])])
 (.ite (.t 17) (.seq (.rg [(none, .mv 4 (.c (.n .i64 (-1)))),
 (none, .kp [4])])
 (.rt))
 (.sk)))
 (.rg [(none, .mv 18 (.t 1)),
 (none, .bi 19 .add (.t 18) (.c (.n .i64 1))),
 (none, .mv 1 (.t 19)),
 (none, .kp [0, 1, 5])])))
 (.rg [(none, .mv 10 (.t 5)),
 (none, .bi 11 .add (.t 10) (.c (.n .i64 1))),
 (none, .mv 5 (.t 11)),
 (none, .kp [0, 1, 5])]))
def pc33 : PC := .seq (.rg [(none, .mv 4 (.c (.n .i64 0))),
 (none, .kp [0, 1])])
 (.seq (.seq (.rg [(none, .mv 5 (.c (.n .i64 0))),
 (none, .kp [0, 1, 5])])
 (.blk 0 (.lp pc33l0)))
 (.seq (.rg [(none, .mv 20 (.t 1)),
 (none, .mv 4 (.t 20)),
 (none, .kp [4])])
 (.rt)))
theorem mr33 : MrT Try.prog 33 pc33 [.t 4] 21 := fun hn h => spec_of_run (fn := Try.f33) (by kernel_rfl) rfl (by kernel_rfl) (by kernel_rfl) hn h
theorem mk33 : MkT Try.prog 33 pc33 [.t 4] 21 := mr33.k
theorem mw33 : MwT Try.prog 33 pc33 [.t 4] 21 := mr33.w
-- 52 impl.SideValid
def pc52l0 : PC := .seq (.rg [(none, .bi 74 .lss (.t 73) (.t 72)),
 (none, .kp [1, 71, 72, 73, 74])])
 (.seq (.ite (.t 74) (.sk)
 (.ex 0))
 (.seq (.blk 1 (.seq (.rg [(none, .mv 75 (.t 73)),
 (none, .ia 76 7 (.t 71) (.t 73)),
 (none, .ld 77 (some 7) (.t 76)),
 (none, .al 4 [.n .i64 0, .n .i64 0, .n .i64 0, .b false, .b false, .b false, .s []]),
 (none, .mv 3 (.t 75)),
 (none, .st 7 (.t 4) (.t 77)),
 (none, .kp [1, 3, 4, 71, 72, 73])])
 (.seq (.dr [[], [0], [0, 1], [0, 1, 2], [0, 1, 2, 3], [0, 1, 2, 3, 4], [0, 1, 2, 3], [0, 1, 2, 3, 6], [0, 1, 2, 3], [0, 1, 2, 3, 6, 7, 8], [0, 1, 2, 3, 4, 5, 6, 7, 8, 9], [0, 1, 2, 3, 4, 5, 6, 7, 8, 9, 10], [0, 1, 2, 3, 4, 5, 6, 7, 8, 9, 10, 11], [0, 1, 2, 3, 4, 5, 6, 7, 8, 9, 10, 11, 12], [0, 1, 2, 3, 4, 5, 6, 7, 8, 9, 10, 11, 12, 13], [0, 1, 2, 3, 4, 5, 6, 7, 8, 9, 10, 11, 12], [0, 1, 2, 3, 4, 5, 6, 7, 8, 9, 10, 11, 12, 15], [0, 1, 2, 3, 4, 5, 6, 7, 8, 9, 10, 11, 12, 13, 14, 15, 16], [0, 1, 2, 3, 4, 5, 6, 7, 8, 9, 10, 11, 12, 13, 14, 15, 16, 17], [0, 1, 2, 3, 4, 5, 6, 7, 8, 9, 10, 11, 12, 13, 14, 15, 16, 17, 18], [0, 1, 2, 3, 4, 5, 6, 7, 8, 9, 10, 11, 12, 13, 14, 15, 16, 17, 18, 19], [0, 1, 2, 3, 4, 5, 6, 7, 8, 9, 10, 11, 12, 13, 14, 15, 16, 17, 18, 19, 20], [0, 1, 2, 3, 4, 5, 6, 7, 8, 9, 10, 11, 12, 13, 14, 15, 16, 17, 18, 19], [0, 1, 2, 3, 4, 5, 6, 7, 8, 9, 10, 11, 12, 13, 14, 15, 16, 17, 18, 19, 20, 21, 22], [0, 1, 2, 3, 4, 5, 6, 7, 8, 9, 10, 11, 12, 13, 14, 15, 16, 17, 18, 19], [0, 1, 2, 3, 4, 5, 6, 7, 8, 9, 10, 11, 12, 13, 14, 15, 16, 17, 18, 19, 20, 21, 22, 23, 24], [0, 1, 2, 3, 4, 5, 6, 7, 8, 9, 10, 11, 12, 13, 14, 15, 16, 17, 18, 19, 20, 21, 22, 23, 24, 25], [0, 1, 2, 3, 4, 5, 6, 7, 8, 9, 10, 11, 12, 13, 14, 15, 16, 17, 18, 19, 20, 21, 22, 23, 24, 25, 26]]
 (.q 0 (none, .ld 78 (some 7) (.t 4))
 (.alt 1 (none, .ca (some 79) 110 [.t 78]) [false]
 (.q 2 (none, .un 80 .not (.t 79))
 (.q 3 (none, .mv 81 (.t 80))
 (.q 4 (some (81, false), .fa 82 0 (.t 4))
 (.q 5 (some (81, false), .ld 83 none (.t 82))
 (.q 6 (some (81, false), .fa 84 2 (.t 1))
 (.q 7 (some (81, false), .ld 85 none (.t 84))
 (.q 8 (some (81, false), .mv 86 (.t 3))
 (.alt 9 (some (81, false), .ca (some 87) 111 [.t 85, .t 86]) [false, false, false, true, true, false, false, false]
 (.q 10 (some (81, false), .bi 88 .neq (.t 83) (.t 87))
 (.q 11 (none, .pk 89 (.t 81) (.c (.b true)) (.t 88))
 (.q 12 (none, .mv 90 (.t 89))
 (.q 13 (some (90, false), .fa 91 1 (.t 4))
 (.q 14 (some (90, false), .ld 92 none (.t 91))
 (.q 15 (some (90, false), .fa 93 1 (.t 1))
 (.q 16 (some (90, false), .ld 94 none (.t 93))
 (.q 17 (some (90, false), .bi 95 .geq (.t 92) (.t 94))
 (.q 18 (none, .pk 96 (.t 90) (.c (.b true)) (.t 95))
 (.q 19 (none, .mv 97 (.t 96))
 (.q 20 (some (97, false), .fa 98 3 (.t 1))
 (.q 21 (some (97, false), .ld 99 none (.t 98))
 (.q 22 (some (97, false), .mv 100 (.t 3))
 (.q 23 (some (97, false), .sc 101 7 (.t 99) none (some (.t 100)))
 (.q 24 (some (97, false), .ld 102 (some 7) (.t 4))
 (.alt 25 (some (97, false), .ca (some 103) 112 [.t 101, .t 102]) [false, false, false, false, false, false, false, false, false, false, false, false, false, false, false, false, false, false, false, false, false, false, false]
 (.q 26 (some (97, false), .un 104 .not (.t 103))
 (.q 27 (none, .pk 105 (.t 97) (.c (.b true)) (.t 104))
 (.done)))
 (.stop)))))))))))))))))
 (.stop)))))))))
 (.stop))) [1, 71, 72, 73, 105])
 (.ite (.t 105) (.seq (.rg [(none, .mv 2 (.c (.b false))),
 (none, .kp [2])])
 (.rt))
 (.sk)))))
 (.rg [(none, .bi 106 .add (.t 73) (.c (.n .i64 1))),
 (none, .mv 73 (.t 106)),
 (none, .kp [1, 71, 72, 73])])))
def pc52 : PC := .seq (.rg [(none, .bx 1 (.t 0)),
 (none, .mv 2 (.c (.b false))),
 (none, .kp [1])])
 (.seq (.seq (.rg [(none, .fa 5 0 (.t 1)),
 (none, .ld 6 none (.t 5)),
 (none, .bi 7 .eql (.t 6) (.c (.n .i64 0))),
 (none, .kp [1, 7])])
 (.ite (.t 7) (.seq (.rg [(none, .fa 8 1 (.t 1)),
 (none, .ld 9 none (.t 8)),
 (none, .bi 10 .eql (.t 9) (.c (.n .i64 0))),
 (none, .mv 11 (.t 10)),
 (some (11, true), .fa 12 2 (.t 1)),
 (some (11, true), .ld 13 none (.t 12)),
 (some (11, true), .bi 14 .eql (.t 13) (.c (.n .i64 0))),
 (none, .pk 15 (.t 11) (.t 14) (.c (.b false))),
 (none, .mv 16 (.t 15)),
 (some (16, true), .fa 17 3 (.t 1)),
 (some (16, true), .ld 18 none (.t 17)),
 (some (16, true), .ln 19 (.t 18)),
 (some (16, true), .bi 20 .eql (.t 19) (.c (.n .i64 0))),
 (none, .pk 21 (.t 16) (.t 20) (.c (.b false))),
 (none, .mv 22 (.t 21)),
 (some (22, true), .fa 23 4 (.t 1)),
 (some (22, true), .ld 24 none (.t 23)),
 (some (22, true), .bi 25 .eql (.t 24) (.c (.n .i64 0))),
 (none, .pk 26 (.t 22) (.t 25) (.c (.b false))),
 (none, .mv 2 (.t 26)),
 (none, .kp [2])])
 (.rt))
 (.sk)))
 (.seq (.seq (.rg [(none, .fa 27 0 (.t 1)),
 (none, .ld 28 none (.t 27)),
 (none, .bi 29 .lss (.t 28) (.c (.n .i64 1))),
 (none, .mv 30 (.t 29)),
 (some (30, false), .fa 31 0 (.t 1)),
 (some (30, false), .ld 32 none (.t 31)),
 (some (30, false), .bi 33 .gtr (.t 32) (.c (.n .i64 4294967295))),
 (none, .pk 34 (.t 30) (.c (.b true)) (.t 33)),
 (none, .mv 35 (.t 34)),
 (some (35, false), .fa 36 1 (.t 1)),
 (some (35, false), .ld 37 none (.t 36)),
 (some (35, false), .bi 38 .lss (.t 37) (.c (.n .i64 1))),
 (none, .pk 39 (.t 35) (.c (.b true)) (.t 38)),
 (none, .mv 40 (.t 39)),
 (some (40, false), .fa 41 1 (.t 1)),
 (some (40, false), .ld 42 none (.t 41)),
 (some (40, false), .bi 43 .gtr (.t 42) (.c (.n .i64 4))),
 (none, .pk 44 (.t 40) (.c (.b true)) (.t 43)),
 (none, .mv 45 (.t 44)),
 (some (45, false), .fa 46 2 (.t 1)),
 (some (45, false), .ld 47 none (.t 46)),
 (some (45, false), .ca (some 48) 109 [.t 47]),
 (some (45, false), .un 49 .not (.t 48)),
 (none, .pk 50 (.t 45) (.c (.b true)) (.t 49)),
 (none, .mv 51 (.t 50)),
 (some (51, false), .fa 52 3 (.t 1)),
 (some (51, false), .ld 53 none (.t 52)),
 (some (51, false), .ln 54 (.t 53)),
 (some (51, false), .bi 55 .gtr (.t 54) (.c (.n .i64 12))),
 (none, .pk 56 (.t 51) (.c (.b true)) (.t 55)),
 (none, .mv 57 (.t 56)),
 (some (57, false), .fa 58 4 (.t 1)),
 (some (57, false), .ld 59 none (.t 58)),
 (some (57, false), .bi 60 .lss (.t 59) (.c (.n .i64 0))),
 (none, .pk 61 (.t 57) (.c (.b true)) (.t 60)),
 (none, .mv 62 (.t 61)),
 (some (62, false), .fa 63 4 (.t 1)),
 (some (62, false), .ld 64 none (.t 63)),
 (some (62, false), .fa 65 3 (.t 1)),
 (some (62, false), .ld 66 none (.t 65)),
 (some (62, false), .ln 67 (.t 66)),
 (some (62, false), .bi 68 .gtr (.t 64) (.t 67)),
 (none, .pk 69 (.t 62) (.c (.b true)) (.t 68)),
 (none, .kp [1, 69])])
 (.ite (.t 69) (.seq (.rg [(none, .mv 2 (.c (.b false))),
 (none, .kp [2])])
 (.rt))
 (.sk)))
 (.seq (.seq (.rg [(none, .fa 70 3 (.t 1)),
 (none, .ld 71 none (.t 70)),
 (none, .ln 72 (.t 71)),
 (none, .mv 73 (.c (.n .i64 0))),
 (none, .kp [1, 71, 72, 73])])
 (.blk 0 (.lp pc52l0)))
 (.seq (.rg [(none, .mv 2 (.c (.b true))),
 (none, .kp [2])])
 (.rt)))))
theorem mr52 : MrT Try.prog 52 pc52 [.t 2] 107 := fun hn h => spec_of_run (fn := Try.f52) (by kernel_rfl) rfl (by kernel_rfl) (by kernel_rfl) hn h
theorem mk52 : MkT Try.prog 52 pc52 [.t 2] 107 := mr52.k
theorem mw52 : MwT Try.prog 52 pc52 [.t 2] 107 := mr52.w
-- 55 laws.szSide
def pc55 : PC := .seq (.rg [(none, .bx 2 (.t 0)),
 (none, .mv 4 (.c (.n .i64 0))),
 (none, .kp [1, 2])])
 (.seq (.rg [(none, .fa 5 3 (.t 2)),
 (none, .ld 6 none (.t 5)),
 (none, .mv 7 (.t 1)),
 (none, .ca (some 8) 114 [.t 6, .t 7]),
 (none, .mv 1 (.t 8)),
 (none, .kp [1])])
 (.seq (.seq (.rg [(none, .mv 9 (.t 1)),
 (none, .bi 10 .lss (.t 9) (.c (.n .i64 0))),
 (none, .kp [1, 10])])
 (.ite (.t 10) (.seq (.rg [(none, .mv 4 (.c (.n .i64 (-1)))),
 (none, .kp [4])])
 (.rt))
 (.sk)))
 (.seq (.rg [(none, .mv 11 (.t 1)),
 (none, .mv 4 (.t 11)),
 (none, .kp [4])])
 (.rt))))
theorem mr55 : MrT Try.prog 55 pc55 [.t 4] 12 := fun hn h => spec_of_run (fn := Try.f55) (by kernel_rfl) rfl (by kernel_rfl) (by kernel_rfl) hn h
theorem mk55 : MkT Try.prog 55 pc55 [.t 4] 12 := mr55.k
theorem mw55 : MwT Try.prog 55 pc55 [.t 4] 12 := mr55.w
-- 56 laws.szChunkS
def pc56l0 : PC := .seq (.seq (.rg [(none, .mv 12 (.t 5)),
 (none, .mv 13 (.t 0)),
 (none, .ln 14 (.t 13)),
 (none, .bi 15 .lss (.t 12) (.t 14)),
 (none, .kp [0, 1, 5, 15])])
 (.ite (.t 15) (.sk)
 (.ex 0)))
 (.seq (.blk 1 (.seq (.rg [(none, .mv 18 (.t 0)),
 (none, .mv 19 (.t 5)),
 (none, .ia 20 3 (.t 18) (.t 19)),
 (none, .ld 21 (some 3) (.t 20)),
 (none, .mv 22 (.t 1)),
 (none, .ca (some 23) 115 [.t 21, .t 22]),
 (none, .mv 1 (.t 23)),
 (none, .kp [0, 1, 5])])
 (.seq (.rg [(none, .mv 24 (.t 1)),
 (none, .bi 25 .lss (.t 24) (.c (.n .i64 0))),
 (none, .kp [0, 1, 5, 25])])
 (.ite (.t 25) (.seq (.rg [(none, .mv 4 (.c (.n .i64 (-1)))),
 (none, .kp [4])])
 (.rt))
 (.sk)))))
 (.rg [(none, .mv 16 (.t 5)),
 (none, .bi 17 .add (.t 16) (.c (.n .i64 1))),
 (none, .mv 5 (.t 17)),
 (none, .kp [0, 1, 5])]))
def pc56 : PC := .seq (.rg [(none, .mv 4 (.c (.n .i64 0))),
 (none, .kp [0, 1])])
 (.seq (.rg [(none, .mv 6 (.t 1)),
 (none, .mv 7 (.t 0)),
 (none, .ln 8 (.t 7)),
 (none, .bi 9 .sub (.t 6) (.t 8)),
 (none, .mv 1 (.t 9)),
 (none, .kp [0, 1])])
 (.seq (.seq (.rg [(none, .mv 10 (.t 1)),
 (none, .bi 11 .lss (.t 10) (.c (.n .i64 0))),
 (none, .kp [0, 1, 11])])
 (.ite (.t 11) (.seq (.rg [(none, .mv 4 (.c (.n .i64 (-1)))),
 (none, .kp [4])])
 (.rt))
 (.sk)))
 (.seq (.seq (.rg [(none, .mv 5 (.c (.n .i64 0))),
 (none, .kp [0, 1, 5])])
 (.blk 0 (.lp pc56l0)))
 (.seq (.rg [(none, .mv 26 (.t 1)),
 (none, .mv 4 (.t 26)),
 (none, .kp [4])])
 (.rt)))))
theorem mr56 : MrT Try.prog 56 pc56 [.t 4] 27 := fun hn h => spec_of_run (fn := Try.f56) (by kernel_rfl) rfl (by kernel_rfl) (by kernel_rfl) hn h
theorem mk56 : MkT Try.prog 56 pc56 [.t 4] 27 := mr56.k
theorem mw56 : MwT Try.prog 56 pc56 [.t 4] 27 := mr56.w
-- 57 spec.AssocValid
def pc57 : PC := .seq (.rg [(none, .bx 1 (.t 0)),
 (none, .mv 2 (.c (.b false))),
 (none, .kp [1])])
 (.seq (.seq (.rg [(none, .fa 3 0 (.t 1)),
 (none, .ld 4 none (.t 3)),
 (none, .ca (some 5) 116 [.t 4, .c (.n .i64 1), .c (.n .i64 65535)]),
 (none, .un 6 .not (.t 5)),
 (none, .mv 7 (.t 6)),
 (some (7, false), .fa 8 1 (.t 1)),
 (some (7, false), .ld 9 none (.t 8)),
 (some (7, false), .ca (some 10) 116 [.t 9, .c (.n .i64 1), .c (.n .i64 65535)]),
 (some (7, false), .un 11 .not (.t 10)),
 (none, .pk 12 (.t 7) (.c (.b true)) (.t 11)),
 (none, .mv 13 (.t 12)),
 (some (13, false), .fa 14 0 (.t 1)),
 (some (13, false), .ld 15 none (.t 14)),
 (some (13, false), .fa 16 1 (.t 1)),
 (some (13, false), .ld 17 none (.t 16)),
 (some (13, false), .bi 18 .eql (.t 15) (.t 17)),
 (none, .pk 19 (.t 13) (.c (.b true)) (.t 18)),
 (none, .mv 20 (.t 19)),
 (some (20, false), .fa 21 2 (.t 1)),
 (some (20, false), .ld 22 none (.t 21)),
 (some (20, false), .ca (some 23) 116 [.t 22, .c (.n .i64 0), .c (.n .i64 7)]),
 (some (20, false), .un 24 .not (.t 23)),
 (none, .pk 25 (.t 20) (.c (.b true)) (.t 24)),
 (none, .mv 26 (.t 25)),
 (some (26, false), .fa 27 4 (.t 1)),
 (some (26, false), .ld 28 (some 5) (.t 27)),
 (some (26, false), .ca (some 29) 117 [.t 28]),
 (some (26, false), .un 30 .not (.t 29)),
 (none, .pk 31 (.t 26) (.c (.b true)) (.t 30)),
 (none, .mv 32 (.t 31)),
 (some (32, false), .fa 33 9 (.t 1)),
 (some (32, false), .ld 34 (some 5) (.t 33)),
 (some (32, false), .ca (some 35) 117 [.t 34]),
 (some (32, false), .un 36 .not (.t 35)),
 (none, .pk 37 (.t 32) (.c (.b true)) (.t 36)),
 (none, .kp [1, 37])])
 (.ite (.t 37) (.seq (.rg [(none, .mv 2 (.c (.b false))),
 (none, .kp [2])])
 (.rt))
 (.sk)))
 (.seq (.seq (.rg [(none, .fa 38 4 (.t 1)),
 (none, .fa 39 0 (.t 38)),
 (none, .ld 40 none (.t 39)),
 (none, .bi 41 .gtr (.t 40) (.c (.n .i64 0))),
 (none, .fa 42 2 (.t 1)),
 (none, .ld 43 none (.t 42)),
 (none, .bi 44 .geq (.t 43) (.c (.n .i64 1))),
 (none, .bb 45 true (.t 41) (.t 44)),
 (none, .mv 46 (.t 45)),
 (some (46, false), .fa 47 2 (.t 1)),
 (some (46, false), .ld 48 none (.t 47)),
 (some (46, false), .bi 49 .neq (.t 48) (.c (.n .i64 7))),
 (some (46, false), .mv 50 (.t 49)),
 (some (50, true), .fa 51 9 (.t 1)),
 (some (50, true), .fa 52 0 (.t 51)),
 (some (50, true), .ld 53 none (.t 52)),
 (some (50, true), .bi 54 .gtr (.t 53) (.c (.n .i64 0))),
 (some (50, true), .fa 55 2 (.t 1)),
 (some (50, true), .ld 56 none (.t 55)),
 (some (50, true), .bi 57 .geq (.t 56) (.c (.n .i64 2))),
 (some (50, true), .bb 58 true (.t 54) (.t 57)),
 (some (46, false), .pk 59 (.t 50) (.t 58) (.c (.b false))),
 (none, .pk 60 (.t 46) (.c (.b true)) (.t 59)),
 (none, .kp [1, 60])])
 (.ite (.t 60) (.seq (.rg [(none, .mv 2 (.c (.b false))),
 (none, .kp [2])])
 (.rt))
 (.sk)))
 (.seq (.seq (.rg [(none, .fa 61 2 (.t 1)),
 (none, .ld 62 none (.t 61)),
 (none, .ca (some 63) 118 [.t 62]),
 (none, .un 64 .not (.t 63)),
 (none, .mv 65 (.t 64)),
 (some (65, true), .fa 66 4 (.t 1)),
 (some (65, true), .fa 67 3 (.t 66)),
 (some (65, true), .ld 68 none (.t 67)),
 (some (65, true), .ln 69 (.t 68)),
 (some (65, true), .fa 70 9 (.t 1)),
 (some (65, true), .fa 71 3 (.t 70)),
 (some (65, true), .ld 72 none (.t 71)),
 (some (65, true), .ln 73 (.t 72)),
 (some (65, true), .bi 74 .add (.t 69) (.t 73)),
 (some (65, true), .bi 75 .gtr (.t 74) (.c (.n .i64 0))),
 (none, .pk 76 (.t 65) (.t 75) (.c (.b false))),
 (none, .kp [1, 76])])
 (.ite (.t 76) (.seq (.rg [(none, .mv 2 (.c (.b false))),
 (none, .kp [2])])
 (.rt))
 (.sk)))
 (.seq (.rg [(none, .fa 77 3 (.t 1)),
 (none, .ld 78 none (.t 77)),
 (none, .un 79 .not (.t 78)),
 (none, .mv 80 (.t 79)),
 (some (80, false), .fa 81 2 (.t 1)),
 (some (80, false), .ld 82 none (.t 81)),
 (some (80, false), .bi 83 .geq (.t 82) (.c (.n .i64 5))),
 (none, .pk 84 (.t 80) (.c (.b true)) (.t 83)),
 (none, .mv 2 (.t 84)),
 (none, .kp [2])])
 (.rt)))))
theorem mr57 : MrT Try.prog 57 pc57 [.t 2] 85 := fun hn h => spec_of_run (fn := Try.f57) (by kernel_rfl) rfl (by kernel_rfl) (by kernel_rfl) hn h
theorem mk57 : MkT Try.prog 57 pc57 [.t 2] 85 := mr57.k
theorem mw57 : MwT Try.prog 57 pc57 [.t 2] 85 := mr57.w
-- 58 spec.PacketValid
def pc58l0 : PC := .seq (.seq (.rg [(none, .mv 4 (.t 3)),
 (none, .fa 5 3 (.t 1)),
 (none, .ld 6 none (.t 5)),
 (none, .ln 7 (.t 6)),
 (none, .bi 8 .lss (.t 4) (.t 7)),
 (none, .kp [1, 3, 8])])
 (.ite (.t 8) (.sk)
 (.ex 0)))
 (.seq (.blk 1 (.seq (.rg [(none, .fa 11 3 (.t 1)),
 (none, .ld 12 none (.t 11)),
 (none, .mv 13 (.t 3)),
 (none, .ia 14 3 (.t 12) (.t 13)),
 (none, .ld 15 (some 3) (.t 14)),
 (none, .ca (some 16) 119 [.t 15]),
 (none, .un 17 .not (.t 16)),
 (none, .kp [1, 3, 17])])
 (.ite (.t 17) (.seq (.rg [(none, .mv 2 (.c (.b false))),
 (none, .kp [2])])
 (.rt))
 (.sk))))
 (.rg [(none, .mv 9 (.t 3)),
 (none, .bi 10 .add (.t 9) (.c (.n .i64 1))),
 (none, .mv 3 (.t 10)),
 (none, .kp [1, 3])]))
def pc58 : PC := .seq (.rg [(none, .bx 1 (.t 0)),
 (none, .mv 2 (.c (.b false))),
 (none, .kp [1])])
 (.seq (.seq (.rg [(none, .mv 3 (.c (.n .i64 0))),
 (none, .kp [1, 3])])
 (.blk 0 (.lp pc58l0)))
 (.seq (.rg [(none, .fa 18 0 (.t 1)),
 (none, .ld 19 none (.t 18)),
 (none, .ca (some 20) 116 [.t 19, .c (.n .i64 1), .c (.n .i64 65535)]),
 (none, .mv 21 (.t 20)),
 (some (21, true), .fa 22 1 (.t 1)),
 (some (21, true), .ld 23 none (.t 22)),
 (some (21, true), .ca (some 24) 116 [.t 23, .c (.n .i64 1), .c (.n .i64 65535)]),
 (none, .pk 25 (.t 21) (.t 24) (.c (.b false))),
 (none, .mv 26 (.t 25)),
 (some (26, true), .fa 27 0 (.t 1)),
 (some (26, true), .ld 28 none (.t 27)),
 (some (26, true), .fa 29 1 (.t 1)),
 (some (26, true), .ld 30 none (.t 29)),
 (some (26, true), .bi 31 .neq (.t 28) (.t 30)),
 (none, .pk 32 (.t 26) (.t 31) (.c (.b false))),
 (none, .mv 33 (.t 32)),
 (some (33, true), .fa 34 2 (.t 1)),
 (some (33, true), .ld 35 none (.t 34)),
 (some (33, true), .ca (some 36) 116 [.t 35, .c (.n .i64 0), .c (.n .i64 4294967295)]),
 (none, .pk 37 (.t 33) (.t 36) (.c (.b false))),
 (none, .mv 38 (.t 37)),
 (some (38, true), .fa 39 3 (.t 1)),
 (some (38, true), .ld 40 none (.t 39)),
 (some (38, true), .ln 41 (.t 40)),
 (some (38, true), .ca (some 42) 116 [.t 41, .c (.n .i64 1), .c (.n .i64 4)]),
 (none, .pk 43 (.t 38) (.t 42) (.c (.b false))),
 (none, .mv 2 (.t 43)),
 (none, .kp [2])])
 (.rt)))
theorem mr58 : MrT Try.prog 58 pc58 [.t 2] 44 := fun hn h => spec_of_run (fn := Try.f58) (by kernel_rfl) rfl (by kernel_rfl) (by kernel_rfl) hn h
theorem mk58 : MkT Try.prog 58 pc58 [.t 2] 44 := mr58.k
theorem mw58 : MwT Try.prog 58 pc58 [.t 2] 44 := mr58.w
-- 59 spec.l31Step
def pc59l0 : PC := .seq (.seq (.rg [(none, .mv 29 (.t 10)),
 (none, .fa 30 3 (.t 5)),
 (none, .ld 31 none (.t 30)),
 (none, .ln 32 (.t 31)),
 (none, .bi 33 .lss (.t 29) (.t 32)),
 (none, .kp [1, 5, 6, 8, 9, 10, 33])])
 (.ite (.t 33) (.sk)
 (.ex 0)))
 (.seq (.blk 1 (.seq (.dr [[], [], [], [2], [], [2, 3, 4], [2, 3, 4, 5], [0, 1, 2, 3, 4, 5, 6], [0, 1, 2, 3, 4, 5, 6, 7], [0, 1, 2, 3, 4, 5, 6, 7, 8], [0, 1, 2, 3, 4, 5, 6, 7, 8], [], [0, 1, 2, 3, 4, 5, 6, 7, 8, 9, 11], [0, 1, 2, 3, 4, 5, 6, 7, 8, 9, 10, 11, 12]]
 (.q 0 (none, .ld 37 (some 14) (.t 9))
 (.q 1 (none, .mv 38 (.t 1))
 (.q 2 (none, .fa 39 3 (.t 5))
 (.q 3 (none, .ld 40 none (.t 39))
 (.q 4 (none, .mv 41 (.t 10))
 (.q 5 (none, .ia 42 3 (.t 40) (.t 41))
 (.q 6 (none, .ld 43 (some 3) (.t 42))
 (.alt 7 (none, .ca (some 44) 122 [.t 37, .t 38, .t 43]) [false, false, false, false, false, false, false]
 (.q 8 (none, .mv 36 (.t 44))
 (.q 9 (none, .ex 45 (.t 36) 0)
 (.q 10 (none, .ex 46 (.t 36) 1)
 (.alt 11 (none, .al 11 [.n .i64 0, .n .i64 0, .n .i64 0, .b false, .n .i64 0, .n .i64 0, .n .i64 0, .nil, .n .i64 0, .n .i64 0, .n .i64 0, .n .i64 0, .nil, .n .i64 0]) [true, true, true, true, true, true, true, true, true, true]
 (.alt 12 (none, .st 14 (.t 11) (.t 45)) [false, false, false, false, false, false, false, false, false, true]
 (.q 13 (none, .mv 12 (.t 46))
 (.done))
 (.stop))
 (.stop)))))
 (.alt 11 (none, .al 11 [.n .i64 0, .n .i64 0, .n .i64 0, .b false, .n .i64 0, .n .i64 0, .n .i64 0, .nil, .n .i64 0, .n .i64 0, .n .i64 0, .n .i64 0, .nil, .n .i64 0]) [true, true, true, true, true, true, true]
 (.alt 7 (none, .ca (some 44) 122 [.t 37, .t 38, .t 43]) [false, false, false, false, false, false, false]
 (.q 8 (none, .mv 36 (.t 44))
 (.q 9 (none, .ex 45 (.t 36) 0)
 (.q 10 (none, .ex 46 (.t 36) 1)
 (.alt 12 (none, .st 14 (.t 11) (.t 45)) [false, false, false, false, false, false, false, false, false, true]
 (.q 13 (none, .mv 12 (.t 46))
 (.done))
 (.stop)))))
 (.stop))
 (.stop)))))))))) [1, 5, 6, 8, 9, 10, 11, 12])
 (.seq (.rg [(none, .mv 47 (.t 8)),
 (none, .mv 48 (.t 12)),
 (none, .ia 49 1 (.t 47) (.t 48)),
 (none, .st 1 (.t 49) (.c (.b true))),
 (none, .kp [1, 5, 6, 8, 9, 10, 11])])
 (.rg [(none, .ld 50 (some 14) (.t 11)),
 (none, .st 14 (.t 9) (.t 50)),
 (none, .kp [1, 5, 6, 8, 9, 10])]))))
 (.rg [(none, .mv 34 (.t 10)),
 (none, .bi 35 .add (.t 34) (.c (.n .i64 1))),
 (none, .mv 10 (.t 35)),
 (none, .kp [1, 5, 6, 8, 9, 10])]))
def pc59 : PC := .seq (.rg [(none, .bx 3 (.t 0)),
 (none, .bx 5 (.t 2)),
 (none, .al 6 [.n .i64 0, .n .i64 0, .n .i64 0, .b false, .n .i64 0, .n .i64 0, .n .i64 0, .nil, .n .i64 0, .n .i64 0, .n .i64 0, .n .i64 0, .nil, .n .i64 0]),
 (none, .mv 7 (.c .nil)),
 (none, .kp [1, 3, 5, 6])])
 (.seq (.rg [(none, .mk 13 1 1 [.b false] (.c (.n .i64 12))),
 (none, .mv 8 (.t 13)),
 (none, .kp [1, 3, 5, 6, 8])])
 (.seq (.rg [(none, .mv 14 (.t 8)),
 (none, .ld 15 (some 4) (.t 5)),
 (none, .ca (some 16) 120 [.t 15]),
 (none, .un 17 .not (.t 16)),
 (none, .ia 18 1 (.t 14) (.c (.n .i64 1))),
 (none, .st 1 (.t 18) (.t 17)),
 (none, .kp [1, 3, 5, 6, 8])])
 (.seq (.dr [[], [], [1], [], [], [], [3, 4, 5], [1, 2, 3, 4, 5, 6], [0, 1, 2, 3, 4, 5, 6, 7], [0, 1, 2, 3, 4, 5, 6, 7, 8]]
 (.q 0 (none, .mv 19 (.t 8))
 (.q 1 (none, .fa 20 2 (.t 5))
 (.q 2 (none, .ld 21 none (.t 20))
 (.q 3 (none, .ld 22 (some 14) (.t 3))
 (.q 4 (none, .mv 23 (.t 1))
 (.q 5 (none, .ld 24 (some 4) (.t 5))
 (.alt 6 (none, .ca (some 25) 121 [.t 22, .t 23, .t 24]) [true, true, true, false, false, false]
 (.q 7 (none, .bi 26 .neq (.t 21) (.t 25))
 (.q 8 (none, .ia 27 1 (.t 19) (.c (.n .i64 2)))
 (.alt 9 (none, .st 1 (.t 27) (.t 26)) [false, false, false, false, false, false, false, false]
 (.done)
 (.stop))))
 (.stop)))))))) [1, 3, 5, 6, 8])
 (.seq (.rg [(none, .ld 28 (some 14) (.t 3)),
 (none, .al 9 [.n .i64 0, .n .i64 0, .n .i64 0, .b false, .n .i64 0, .n .i64 0, .n .i64 0, .nil, .n .i64 0, .n .i64 0, .n .i64 0, .n .i64 0, .nil, .n .i64 0]),
 (none, .st 14 (.t 9) (.t 28)),
 (none, .kp [1, 5, 6, 8, 9])])
 (.seq (.seq (.rg [(none, .mv 10 (.c (.n .i64 0))),
 (none, .kp [1, 5, 6, 8, 9, 10])])
 (.blk 0 (.lp pc59l0)))
 (.seq (.rg [(none, .ld 51 (some 14) (.t 9)),
 (none, .mv 52 (.t 8)),
 (none, .st 14 (.t 6) (.t 51)),
 (none, .mv 7 (.t 52)),
 (none, .kp [6, 7])])
 (.rt)))))))
theorem mr59 : MrT Try.prog 59 pc59 [.c 6 (some 14), .t 7] 53 := fun hn h => spec_of_run (fn := Try.f59) (by kernel_rfl) rfl (by kernel_rfl) (by kernel_rfl) hn h
theorem mk59 : MkT Try.prog 59 pc59 [.c 6 (some 14), .t 7] 53 := mr59.k
theorem mw59 : MwT Try.prog 59 pc59 [.c 6 (some 14), .t 7] 53 := mr59.w
-- 60 spec.l31Copy
def pc60 : PC := .seq (.rg [(none, .bx 1 (.t 0)),
 (none, .al 2 [.n .i64 0, .n .i64 0, .n .i64 0, .b false, .n .i64 0, .n .i64 0, .n .i64 0, .nil, .n .i64 0, .n .i64 0, .n .i64 0, .n .i64 0, .nil, .n .i64 0]),
 (none, .kp [1, 2])])
 (.seq (.rg [(none, .fa 3 4 (.t 1)),
 (none, .ld 4 (some 5) (.t 3)),
 (none, .ca (some 5) 123 [.t 4]),
 (none, .fa 6 4 (.t 1)),
 (none, .st 5 (.t 6) (.t 5)),
 (none, .kp [1, 2])])
 (.seq (.rg [(none, .fa 7 9 (.t 1)),
 (none, .ld 8 (some 5) (.t 7)),
 (none, .ca (some 9) 123 [.t 8]),
 (none, .fa 10 9 (.t 1)),
 (none, .st 5 (.t 10) (.t 9)),
 (none, .kp [1, 2])])
 (.seq (.rg [(none, .ld 11 (some 14) (.t 1)),
 (none, .st 14 (.t 2) (.t 11)),
 (none, .kp [2])])
 (.rt))))
theorem mr60 : MrT Try.prog 60 pc60 [.c 2 (some 14)] 12 := fun hn h => spec_of_run (fn := Try.f60) (by kernel_rfl) rfl (by kernel_rfl) (by kernel_rfl) hn h
theorem mk60 : MkT Try.prog 60 pc60 [.c 2 (some 14)] 12 := mr60.k
theorem mw60 : MwT Try.prog 60 pc60 [.c 2 (some 14)] 12 := mr60.w
-- 61 laws.toSide
def pc61 : PC := .seq (.rg [(none, .bx 1 (.t 0)),
 (none, .al 2 [.n .i64 0, .n .i64 0, .n .i64 0, .nil, .n .i64 0]),
 (none, .kp [1, 2])])
 (.seq (.rg [(none, .al 3 [.n .i64 0, .n .i64 0, .n .i64 0, .nil, .n .i64 0]),
 (none, .kp [1, 2, 3])])
 (.seq (.rg [(none, .fa 4 0 (.t 1)),
 (none, .ld 5 none (.t 4)),
 (none, .fa 6 0 (.t 3)),
 (none, .st 1 (.t 6) (.t 5)),
 (none, .kp [1, 2, 3])])
 (.seq (.rg [(none, .fa 7 1 (.t 1)),
 (none, .ld 8 none (.t 7)),
 (none, .fa 9 1 (.t 3)),
 (none, .st 1 (.t 9) (.t 8)),
 (none, .kp [1, 2, 3])])
 (.seq (.rg [(none, .fa 10 2 (.t 1)),
 (none, .ld 11 none (.t 10)),
 (none, .fa 12 2 (.t 3)),
 (none, .st 1 (.t 12) (.t 11)),
 (none, .kp [1, 2, 3])])
 (.seq (.rg [(none, .fa 13 3 (.t 1)),
 (none, .ld 14 none (.t 13)),
 (none, .ca (some 15) 124 [.t 14]),
 (none, .fa 16 3 (.t 3)),
 (none, .st 1 (.t 16) (.t 15)),
 (none, .kp [1, 2, 3])])
 (.seq (.rg [(none, .fa 17 4 (.t 1)),
 (none, .ld 18 none (.t 17)),
 (none, .fa 19 4 (.t 3)),
 (none, .st 1 (.t 19) (.t 18)),
 (none, .kp [2, 3])])
 (.seq (.rg [(none, .ld 20 (some 5) (.t 3)),
 (none, .st 5 (.t 2) (.t 20)),
 (none, .kp [2])])
 (.rt))))))))
theorem mr61 : MrT Try.prog 61 pc61 [.c 2 (some 5)] 21 := fun hn h => spec_of_run (fn := Try.f61) (by kernel_rfl) rfl (by kernel_rfl) (by kernel_rfl) hn h
theorem mk61 : MkT Try.prog 61 pc61 [.c 2 (some 5)] 21 := mr61.k
theorem mw61 : MwT Try.prog 61 pc61 [.c 2 (some 5)] 21 := mr61.w
-- 62 laws.toChunkS
def pc62l0 : PC := .seq (.seq (.rg [(none, .mv 8 (.t 4)),
 (none, .mv 9 (.t 0)),
 (none, .ln 10 (.t 9)),
 (none, .bi 11 .lss (.t 8) (.t 10)),
 (none, .kp [0, 3, 4, 11])])
 (.ite (.t 11) (.sk)
 (.ex 0)))
 (.seq (.blk 1 (.rg [(none, .mv 14 (.t 3)),
 (none, .mv 15 (.t 4)),
 (none, .mv 16 (.t 0)),
 (none, .mv 17 (.t 4)),
 (none, .ia 18 3 (.t 16) (.t 17)),
 (none, .ld 19 (some 3) (.t 18)),
 (none, .ca (some 20) 125 [.t 19]),
 (none, .ia 21 3 (.t 14) (.t 15)),
 (none, .st 3 (.t 21) (.t 20)),
 (none, .kp [0, 3, 4])]))
 (.rg [(none, .mv 12 (.t 4)),
 (none, .bi 13 .add (.t 12) (.c (.n .i64 1))),
 (none, .mv 4 (.t 13)),
 (none, .kp [0, 3, 4])]))
def pc62 : PC := .seq (.rg [(none, .mv 2 (.c .nil)),
 (none, .kp [0])])
 (.seq (.rg [(none, .mv 5 (.t 0)),
 (none, .ln 6 (.t 5)),
 (none, .mk 7 3 32 [.n .i64 0, .n .i64 0, .s []] (.t 6)),
 (none, .mv 3 (.t 7)),
 (none, .kp [0, 3])])
 (.seq (.seq (.rg [(none, .mv 4 (.c (.n .i64 0))),
 (none, .kp [0, 3, 4])])
 (.blk 0 (.lp pc62l0)))
 (.seq (.rg [(none, .mv 22 (.t 3)),
 (none, .mv 2 (.t 22)),
 (none, .kp [2])])
 (.rt))))
theorem mr62 : MrT Try.prog 62 pc62 [.t 2] 23 := fun hn h => spec_of_run (fn := Try.f62) (by kernel_rfl) rfl (by kernel_rfl) (by kernel_rfl) hn h
theorem mk62 : MkT Try.prog 62 pc62 [.t 2] 23 := mr62.k
theorem mw62 : MwT Try.prog 62 pc62 [.t 2] 23 := mr62.w
-- 63 impl.AssocValid
def pc63 : PC := .seq (.rg [(none, .bx 1 (.t 0)),
 (none, .mv 2 (.c (.b false))),
 (none, .kp [1])])
 (.seq (.seq (.rg [(none, .fa 3 0 (.t 1)),
 (none, .ld 4 none (.t 3)),
 (none, .bi 5 .lss (.t 4) (.c (.n .i64 1))),
 (none, .mv 6 (.t 5)),
 (some (6, false), .fa 7 0 (.t 1)),
 (some (6, false), .ld 8 none (.t 7)),
 (some (6, false), .bi 9 .gtr (.t 8) (.c (.n .i64 65535))),
 (none, .pk 10 (.t 6) (.c (.b true)) (.t 9)),
 (none, .mv 11 (.t 10)),
 (some (11, false), .fa 12 1 (.t 1)),
 (some (11, false), .ld 13 none (.t 12)),
 (some (11, false), .bi 14 .lss (.t 13) (.c (.n .i64 1))),
 (none, .pk 15 (.t 11) (.c (.b true)) (.t 14)),
 (none, .mv 16 (.t 15)),
 (some (16, false), .fa 17 1 (.t 1)),
 (some (16, false), .ld 18 none (.t 17)),
 (some (16, false), .bi 19 .gtr (.t 18) (.c (.n .i64 65535))),
 (none, .pk 20 (.t 16) (.c (.b true)) (.t 19)),
 (none, .mv 21 (.t 20)),
 (some (21, false), .fa 22 0 (.t 1)),
 (some (21, false), .ld 23 none (.t 22)),
 (some (21, false), .fa 24 1 (.t 1)),
 (some (21, false), .ld 25 none (.t 24)),
 (some (21, false), .bi 26 .eql (.t 23) (.t 25)),
 (none, .pk 27 (.t 21) (.c (.b true)) (.t 26)),
 (none, .mv 28 (.t 27)),
 (some (28, false), .fa 29 2 (.t 1)),
 (some (28, false), .ld 30 none (.t 29)),
 (some (28, false), .bi 31 .lss (.t 30) (.c (.n .i64 0))),
 (none, .pk 32 (.t 28) (.c (.b true)) (.t 31)),
 (none, .mv 33 (.t 32)),
 (some (33, false), .fa 34 2 (.t 1)),
 (some (33, false), .ld 35 none (.t 34)),
 (some (33, false), .bi 36 .gtr (.t 35) (.c (.n .i64 7))),
 (none, .pk 37 (.t 33) (.c (.b true)) (.t 36)),
 (none, .mv 38 (.t 37)),
 (some (38, false), .fa 39 4 (.t 1)),
 (some (38, false), .ld 40 (some 5) (.t 39)),
 (some (38, false), .ca (some 41) 52 [.t 40]),
 (some (38, false), .un 42 .not (.t 41)),
 (none, .pk 43 (.t 38) (.c (.b true)) (.t 42)),
 (none, .mv 44 (.t 43)),
 (some (44, false), .fa 45 9 (.t 1)),
 (some (44, false), .ld 46 (some 5) (.t 45)),
 (some (44, false), .ca (some 47) 52 [.t 46]),
 (some (44, false), .un 48 .not (.t 47)),
 (none, .pk 49 (.t 44) (.c (.b true)) (.t 48)),
 (none, .kp [1, 49])])
 (.ite (.t 49) (.seq (.rg [(none, .mv 2 (.c (.b false))),
 (none, .kp [2])])
 (.rt))
 (.sk)))
 (.seq (.seq (.rg [(none, .fa 50 4 (.t 1)),
 (none, .fa 51 0 (.t 50)),
 (none, .ld 52 none (.t 51)),
 (none, .bi 53 .gtr (.t 52) (.c (.n .i64 0))),
 (none, .fa 54 2 (.t 1)),
 (none, .ld 55 none (.t 54)),
 (none, .bi 56 .geq (.t 55) (.c (.n .i64 1))),
 (none, .bb 57 true (.t 53) (.t 56)),
 (none, .mv 58 (.t 57)),
 (some (58, false), .fa 59 2 (.t 1)),
 (some (58, false), .ld 60 none (.t 59)),
 (some (58, false), .bi 61 .neq (.t 60) (.c (.n .i64 7))),
 (some (58, false), .mv 62 (.t 61)),
 (some (62, true), .fa 63 9 (.t 1)),
 (some (62, true), .fa 64 0 (.t 63)),
 (some (62, true), .ld 65 none (.t 64)),
 (some (62, true), .bi 66 .gtr (.t 65) (.c (.n .i64 0))),
 (some (62, true), .fa 67 2 (.t 1)),
 (some (62, true), .ld 68 none (.t 67)),
 (some (62, true), .bi 69 .geq (.t 68) (.c (.n .i64 2))),
 (some (62, true), .bb 70 true (.t 66) (.t 69)),
 (some (58, false), .pk 71 (.t 62) (.t 70) (.c (.b false))),
 (none, .pk 72 (.t 58) (.c (.b true)) (.t 71)),
 (none, .kp [1, 72])])
 (.ite (.t 72) (.seq (.rg [(none, .mv 2 (.c (.b false))),
 (none, .kp [2])])
 (.rt))
 (.sk)))
 (.seq (.seq (.rg [(none, .fa 73 2 (.t 1)),
 (none, .ld 74 none (.t 73)),
 (none, .bi 75 .lss (.t 74) (.c (.n .i64 3))),
 (none, .mv 76 (.t 75)),
 (some (76, true), .fa 77 4 (.t 1)),
 (some (76, true), .fa 78 3 (.t 77)),
 (some (76, true), .ld 79 none (.t 78)),
 (some (76, true), .ln 80 (.t 79)),
 (some (76, true), .fa 81 9 (.t 1)),
 (some (76, true), .fa 82 3 (.t 81)),
 (some (76, true), .ld 83 none (.t 82)),
 (some (76, true), .ln 84 (.t 83)),
 (some (76, true), .bi 85 .add (.t 80) (.t 84)),
 (some (76, true), .bi 86 .gtr (.t 85) (.c (.n .i64 0))),
 (none, .pk 87 (.t 76) (.t 86) (.c (.b false))),
 (none, .kp [1, 87])])
 (.ite (.t 87) (.seq (.rg [(none, .mv 2 (.c (.b false))),
 (none, .kp [2])])
 (.rt))
 (.sk)))
 (.seq (.rg [(none, .fa 88 3 (.t 1)),
 (none, .ld 89 none (.t 88)),
 (none, .un 90 .not (.t 89)),
 (none, .mv 91 (.t 90)),
 (some (91, false), .fa 92 2 (.t 1)),
 (some (91, false), .ld 93 none (.t 92)),
 (some (91, false), .bi 94 .geq (.t 93) (.c (.n .i64 5))),
 (none, .pk 95 (.t 91) (.c (.b true)) (.t 94)),
 (none, .mv 2 (.t 95)),
 (none, .kp [2])])
 (.rt)))))
theorem mr63 : MrT Try.prog 63 pc63 [.t 2] 96 := fun hn h => spec_of_run (fn := Try.f63) (by kernel_rfl) rfl (by kernel_rfl) (by kernel_rfl) hn h
theorem mk63 : MkT Try.prog 63 pc63 [.t 2] 96 := mr63.k
theorem mw63 : MwT Try.prog 63 pc63 [.t 2] 96 := mr63.w
-- 64 impl.PacketValid
def pc64l0 : PC := .seq (.rg [(none, .bi 56 .lss (.t 55) (.t 54)),
 (none, .kp [53, 54, 55, 56])])
 (.seq (.ite (.t 56) (.sk)
 (.ex 0))
 (.seq (.blk 1 (.seq (.rg [(none, .ia 57 3 (.t 53) (.t 55)),
 (none, .ld 58 (some 3) (.t 57)),
 (none, .al 4 [.n .i64 0, .n .i64 0, .s []]),
 (none, .st 3 (.t 4) (.t 58)),
 (none, .kp [4, 53, 54, 55])])
 (.seq (.rg [(none, .ld 59 (some 3) (.t 4)),
 (none, .ca (some 60) 126 [.t 59]),
 (none, .un 61 .not (.t 60)),
 (none, .kp [53, 54, 55, 61])])
 (.ite (.t 61) (.seq (.rg [(none, .mv 2 (.c (.b false))),
 (none, .kp [2])])
 (.rt))
 (.sk)))))
 (.rg [(none, .bi 62 .add (.t 55) (.c (.n .i64 1))),
 (none, .mv 55 (.t 62)),
 (none, .kp [53, 54, 55])])))
def pc64 : PC := .seq (.rg [(none, .bx 1 (.t 0)),
 (none, .mv 2 (.c (.b false))),
 (none, .kp [1])])
 (.seq (.seq (.rg [(none, .fa 5 0 (.t 1)),
 (none, .ld 6 none (.t 5)),
 (none, .bi 7 .lss (.t 6) (.c (.n .i64 1))),
 (none, .mv 8 (.t 7)),
 (some (8, false), .fa 9 0 (.t 1)),
 (some (8, false), .ld 10 none (.t 9)),
 (some (8, false), .bi 11 .gtr (.t 10) (.c (.n .i64 65535))),
 (none, .pk 12 (.t 8) (.c (.b true)) (.t 11)),
 (none, .mv 13 (.t 12)),
 (some (13, false), .fa 14 1 (.t 1)),
 (some (13, false), .ld 15 none (.t 14)),
 (some (13, false), .bi 16 .lss (.t 15) (.c (.n .i64 1))),
 (none, .pk 17 (.t 13) (.c (.b true)) (.t 16)),
 (none, .mv 18 (.t 17)),
 (some (18, false), .fa 19 1 (.t 1)),
 (some (18, false), .ld 20 none (.t 19)),
 (some (18, false), .bi 21 .gtr (.t 20) (.c (.n .i64 65535))),
 (none, .pk 22 (.t 18) (.c (.b true)) (.t 21)),
 (none, .mv 23 (.t 22)),
 (some (23, false), .fa 24 0 (.t 1)),
 (some (23, false), .ld 25 none (.t 24)),
 (some (23, false), .fa 26 1 (.t 1)),
 (some (23, false), .ld 27 none (.t 26)),
 (some (23, false), .bi 28 .eql (.t 25) (.t 27)),
 (none, .pk 29 (.t 23) (.c (.b true)) (.t 28)),
 (none, .mv 30 (.t 29)),
 (some (30, false), .fa 31 2 (.t 1)),
 (some (30, false), .ld 32 none (.t 31)),
 (some (30, false), .bi 33 .lss (.t 32) (.c (.n .i64 0))),
 (none, .pk 34 (.t 30) (.c (.b true)) (.t 33)),
 (none, .mv 35 (.t 34)),
 (some (35, false), .fa 36 2 (.t 1)),
 (some (35, false), .ld 37 none (.t 36)),
 (some (35, false), .bi 38 .gtr (.t 37) (.c (.n .i64 4294967295))),
 (none, .pk 39 (.t 35) (.c (.b true)) (.t 38)),
 (none, .mv 40 (.t 39)),
 (some (40, false), .fa 41 3 (.t 1)),
 (some (40, false), .ld 42 none (.t 41)),
 (some (40, false), .ln 43 (.t 42)),
 (some (40, false), .bi 44 .lss (.t 43) (.c (.n .i64 1))),
 (none, .pk 45 (.t 40) (.c (.b true)) (.t 44)),
 (none, .mv 46 (.t 45)),
 (some (46, false), .fa 47 3 (.t 1)),
 (some (46, false), .ld 48 none (.t 47)),
 (some (46, false), .ln 49 (.t 48)),
 (some (46, false), .bi 50 .gtr (.t 49) (.c (.n .i64 4))),
 (none, .pk 51 (.t 46) (.c (.b true)) (.t 50)),
 (none, .kp [1, 51])])
 (.ite (.t 51) (.seq (.rg [(none, .mv 2 (.c (.b false))),
 (none, .kp [2])])
 (.rt))
 (.sk)))
 (.seq (.seq (.rg [(none, .fa 52 3 (.t 1)),
 (none, .ld 53 none (.t 52)),
 (none, .ln 54 (.t 53)),
 (none, .mv 55 (.c (.n .i64 0))),
 (none, .kp [53, 54, 55])])
 (.blk 0 (.lp pc64l0)))
 (.seq (.rg [(none, .mv 2 (.c (.b true))),
 (none, .kp [2])])
 (.rt))))
theorem mr64 : MrT Try.prog 64 pc64 [.t 2] 63 := fun hn h => spec_of_run (fn := Try.f64) (by kernel_rfl) rfl (by kernel_rfl) (by kernel_rfl) hn h
theorem mk64 : MkT Try.prog 64 pc64 [.t 2] 63 := mr64.k
theorem mw64 : MwT Try.prog 64 pc64 [.t 2] 63 := mr64.w
-- 65 impl.PacketAlone
def pc65l0 : PC := .seq (.rg [(none, .bi 16 .lss (.t 15) (.t 14)),
 (none, .kp [13, 14, 15, 16])])
 (.seq (.ite (.t 16) (.sk)
 (.ex 0))
 (.seq (.blk 1 (.seq (.rg [(none, .ia 17 3 (.t 13) (.t 15)),
 (none, .ld 18 (some 3) (.t 17)),
 (none, .al 4 [.n .i64 0, .n .i64 0, .s []]),
 (none, .st 3 (.t 4) (.t 18)),
 (none, .kp [4, 13, 14, 15])])
 (.seq (.rg [(none, .fa 19 0 (.t 4)),
 (none, .ld 20 none (.t 19)),
 (none, .bi 21 .eql (.t 20) (.c (.n .i64 1))),
 (none, .mv 22 (.t 21)),
 (some (22, false), .fa 23 0 (.t 4)),
 (some (22, false), .ld 24 none (.t 23)),
 (some (22, false), .bi 25 .eql (.t 24) (.c (.n .i64 2))),
 (none, .pk 26 (.t 22) (.c (.b true)) (.t 25)),
 (none, .mv 27 (.t 26)),
 (some (27, false), .fa 28 0 (.t 4)),
 (some (27, false), .ld 29 none (.t 28)),
 (some (27, false), .bi 30 .eql (.t 29) (.c (.n .i64 14))),
 (none, .pk 31 (.t 27) (.c (.b true)) (.t 30)),
 (none, .kp [13, 14, 15, 31])])
 (.ite (.t 31) (.seq (.rg [(none, .mv 2 (.c (.b false))),
 (none, .kp [2])])
 (.rt))
 (.sk)))))
 (.rg [(none, .bi 32 .add (.t 15) (.c (.n .i64 1))),
 (none, .mv 15 (.t 32)),
 (none, .kp [13, 14, 15])])))
def pc65 : PC := .seq (.rg [(none, .bx 1 (.t 0)),
 (none, .mv 2 (.c (.b false))),
 (none, .kp [1])])
 (.seq (.seq (.rg [(none, .ld 5 (some 4) (.t 1)),
 (none, .ca (some 6) 64 [.t 5]),
 (none, .un 7 .not (.t 6)),
 (none, .kp [1, 7])])
 (.ite (.t 7) (.seq (.rg [(none, .mv 2 (.c (.b false))),
 (none, .kp [2])])
 (.rt))
 (.sk)))
 (.seq (.seq (.rg [(none, .fa 8 3 (.t 1)),
 (none, .ld 9 none (.t 8)),
 (none, .ln 10 (.t 9)),
 (none, .bi 11 .eql (.t 10) (.c (.n .i64 1))),
 (none, .kp [1, 11])])
 (.ite (.t 11) (.seq (.rg [(none, .mv 2 (.c (.b true))),
 (none, .kp [2])])
 (.rt))
 (.sk)))
 (.seq (.seq (.rg [(none, .fa 12 3 (.t 1)),
 (none, .ld 13 none (.t 12)),
 (none, .ln 14 (.t 13)),
 (none, .mv 15 (.c (.n .i64 0))),
 (none, .kp [13, 14, 15])])
 (.blk 0 (.lp pc65l0)))
 (.seq (.rg [(none, .mv 2 (.c (.b true))),
 (none, .kp [2])])
 (.rt)))))
theorem mr65 : MrT Try.prog 65 pc65 [.t 2] 33 := fun hn h => spec_of_run (fn := Try.f65) (by kernel_rfl) rfl (by kernel_rfl) (by kernel_rfl) hn h
theorem mk65 : MkT Try.prog 65 pc65 [.t 2] 33 := mr65.k
theorem mw65 : MwT Try.prog 65 pc65 [.t 2] 33 := mr65.w
-- 66 impl.copyAssoc
def pc66 : PC := .seq (.rg [(none, .bx 1 (.t 0)),
 (none, .al 2 [.n .i64 0, .n .i64 0, .n .i64 0, .b false, .n .i64 0, .n .i64 0, .n .i64 0, .nil, .n .i64 0, .n .i64 0, .n .i64 0, .n .i64 0, .nil, .n .i64 0]),
 (none, .kp [1, 2])])
 (.seq (.rg [(none, .bs 3 7 0 [.n .i64 0, .n .i64 0, .n .i64 0, .b false, .b false, .b false, .s []] []),
 (none, .fa 4 4 (.t 1)),
 (none, .fa 5 3 (.t 4)),
 (none, .ld 6 none (.t 5)),
 (none, .ap 7 7 48 (.t 3) (.t 6)),
 (none, .fa 8 4 (.t 1)),
 (none, .fa 9 3 (.t 8)),
 (none, .st 1 (.t 9) (.t 7)),
 (none, .kp [1, 2])])
 (.seq (.rg [(none, .bs 10 7 0 [.n .i64 0, .n .i64 0, .n .i64 0, .b false, .b false, .b false, .s []] []),
 (none, .fa 11 9 (.t 1)),
 (none, .fa 12 3 (.t 11)),
 (none, .ld 13 none (.t 12)),
 (none, .ap 14 7 48 (.t 10) (.t 13)),
 (none, .fa 15 9 (.t 1)),
 (none, .fa 16 3 (.t 15)),
 (none, .st 1 (.t 16) (.t 14)),
 (none, .kp [1, 2])])
 (.seq (.rg [(none, .ld 17 (some 14) (.t 1)),
 (none, .st 14 (.t 2) (.t 17)),
 (none, .kp [2])])
 (.rt))))
theorem mr66 : MrT Try.prog 66 pc66 [.c 2 (some 14)] 18 := fun hn h => spec_of_run (fn := Try.f66) (by kernel_rfl) rfl (by kernel_rfl) (by kernel_rfl) hn h
theorem mk66 : MkT Try.prog 66 pc66 [.c 2 (some 14)] 18 := mr66.k
theorem mw66 : MwT Try.prog 66 pc66 [.c 2 (some 14)] 18 := mr66.w
-- 67 (*impl.Assoc).handle
def pc67 : PC := .seq (.rg [(none, .bx 4 (.t 1)),
 (none, .mv 6 (.c (.n .i64 0))),
 (none, .kp [0, 2, 4])])
 (.seq (.dr [[], [0], [0, 1], [], [3], [3, 4], [0, 1, 2], [0, 1, 2, 3, 4, 5, 6]]
 (.q 0 (none, .mv 10 (.t 0))
 (.q 1 (none, .nc 11 (.t 10))
 (.q 2 (none, .fa 12 4 (.t 11))
 (.q 3 (none, .mv 13 (.t 0))
 (.q 4 (none, .nc 14 (.t 13))
 (.q 5 (none, .fa 15 9 (.t 14))
 (.q 6 (none, .mv 7 (.t 12))
 (.q 7 (none, .mv 8 (.t 15))
 (.done))))))))) [0, 2, 4, 7, 8])
 (.seq (.seq (.rg [(none, .mv 16 (.t 2)),
 (none, .kp [0, 2, 4, 7, 8, 16])])
 (.ite (.t 16) (.dr [[], [0], [0, 1], [], [3], [3, 4], [0, 1, 2], [0, 1, 2, 3, 4, 5, 6]]
 (.q 0 (none, .mv 17 (.t 0))
 (.q 1 (none, .nc 18 (.t 17))
 (.q 2 (none, .fa 19 9 (.t 18))
 (.q 3 (none, .mv 20 (.t 0))
 (.q 4 (none, .nc 21 (.t 20))
 (.q 5 (none, .fa 22 4 (.t 21))
 (.q 6 (none, .mv 7 (.t 19))
 (.q 7 (none, .mv 8 (.t 22))
 (.done))))))))) [0, 2, 4, 7, 8])
 (.sk)))
 (.seq (.rg [(none, .mv 23 (.t 2)),
 (none, .mv 24 (.t 0)),
 (none, .nc 25 (.t 24)),
 (none, .fa 26 3 (.t 25)),
 (none, .ld 27 none (.t 26)),
 (none, .bb 28 false (.t 23) (.t 27)),
 (none, .mv 9 (.t 28)),
 (none, .kp [0, 2, 4, 7, 8, 9])])
 (.seq (.seq (.rg [(none, .fa 29 0 (.t 4)),
 (none, .ld 30 none (.t 29)),
 (none, .kp [0, 2, 4, 7, 8, 9, 30])])
 (.blk 0 (.seq (.seq (.rg [(none, .bi 32 .eql (.t 30) (.c (.n .i64 1))),
 (none, .mv 31 (.t 32)),
 (none, .kp [0, 2, 4, 7, 8, 9, 30, 31])])
 (.ite (.t 31) (.sk)
 (.rg [(none, .bi 33 .eql (.t 30) (.c (.n .i64 2))),
 (none, .mv 31 (.t 33)),
 (none, .kp [0, 2, 4, 7, 8, 9, 30, 31])])))
 (.ite (.t 31) (.seq (.rg [(none, .mv 34 (.t 0)),
 (none, .ld 35 (some 3) (.t 4)),
 (none, .mv 36 (.t 2)),
 (none, .mv 37 (.t 7)),
 (none, .ca (some 38) 127 [.t 34, .t 35, .t 36, .t 37]),
 (none, .mv 6 (.t 38)),
 (none, .kp [6])])
 (.rt))
 (.seq (.rg [(none, .bi 40 .eql (.t 30) (.c (.n .i64 0))),
 (none, .mv 39 (.t 40)),
 (none, .kp [0, 2, 4, 7, 8, 9, 30, 39])])
 (.ite (.t 39) (.seq (.rg [(none, .mv 41 (.t 0)),
 (none, .nc 42 (.t 41)),
 (none, .fa 43 2 (.t 42)),
 (none, .ld 44 none (.t 43)),
 (none, .bi 45 .eql (.t 44) (.c (.n .i64 4))),
 (none, .mv 46 (.t 45)),
 (some (46, false), .mv 47 (.t 0)),
 (some (46, false), .nc 48 (.t 47)),
 (some (46, false), .fa 49 2 (.t 48)),
 (some (46, false), .ld 50 none (.t 49)),
 (some (46, false), .bi 51 .eql (.t 50) (.c (.n .i64 3))),
 (some (46, false), .mv 52 (.t 51)),
 (some (52, true), .mv 53 (.t 2)),
 (some (52, true), .un 54 .not (.t 53)),
 (some (46, false), .pk 55 (.t 52) (.t 54) (.c (.b false))),
 (none, .pk 56 (.t 46) (.c (.b true)) (.t 55)),
 (none, .mv 57 (.t 56)),
 (some (57, false), .mv 58 (.t 0)),
 (some (57, false), .nc 59 (.t 58)),
 (some (57, false), .fa 60 2 (.t 59)),
 (some (57, false), .ld 61 none (.t 60)),
 (some (57, false), .bi 62 .eql (.t 61) (.c (.n .i64 5))),
 (some (57, false), .mv 63 (.t 62)),
 (some (63, true), .mv 64 (.t 9)),
 (some (63, true), .un 65 .not (.t 64)),
 (some (57, false), .pk 66 (.t 63) (.t 65) (.c (.b false))),
 (none, .pk 67 (.t 57) (.c (.b true)) (.t 66)),
 (none, .kp [0, 4, 7, 67])])
 (.ite (.t 67) (.seq (.rg [(none, .mv 68 (.t 0)),
 (none, .ld 69 (some 3) (.t 4)),
 (none, .mv 70 (.t 7)),
 (none, .ca (some 71) 128 [.t 68, .t 69, .t 70]),
 (none, .mv 6 (.t 71)),
 (none, .kp [6])])
 (.rt))
 (.sk)))
 (.seq (.rg [(none, .bi 73 .eql (.t 30) (.c (.n .i64 3))),
 (none, .mv 72 (.t 73)),
 (none, .kp [0, 2, 4, 7, 8, 9, 30, 72])])
 (.ite (.t 72) (.seq (.rg [(none, .mv 74 (.t 0)),
 (none, .nc 75 (.t 74)),
 (none, .fa 76 2 (.t 75)),
 (none, .ld 77 none (.t 76)),
 (none, .bi 78 .eql (.t 77) (.c (.n .i64 4))),
 (none, .mv 79 (.t 78)),
 (some (79, false), .mv 80 (.t 0)),
 (some (79, false), .nc 81 (.t 80)),
 (some (79, false), .fa 82 2 (.t 81)),
 (some (79, false), .ld 83 none (.t 82)),
 (some (79, false), .bi 84 .eql (.t 83) (.c (.n .i64 5))),
 (none, .pk 85 (.t 79) (.c (.b true)) (.t 84)),
 (none, .kp [4, 8, 85])])
 (.ite (.t 85) (.seq (.rg [(none, .ld 86 (some 3) (.t 4)),
 (none, .mv 87 (.t 8)),
 (none, .ca (some 88) 129 [.t 86, .t 87]),
 (none, .mv 6 (.t 88)),
 (none, .kp [6])])
 (.rt))
 (.sk)))
 (.seq (.rg [(none, .bi 90 .eql (.t 30) (.c (.n .i64 10))),
 (none, .mv 89 (.t 90)),
 (none, .kp [0, 2, 7, 9, 30, 89])])
 (.ite (.t 89) (.seq (.rg [(none, .mv 91 (.t 2)),
 (none, .un 92 .not (.t 91)),
 (none, .mv 93 (.t 92)),
 (some (93, true), .mv 94 (.t 0)),
 (some (93, true), .nc 95 (.t 94)),
 (some (93, true), .fa 96 2 (.t 95)),
 (some (93, true), .ld 97 none (.t 96)),
 (some (93, true), .bi 98 .geq (.t 97) (.c (.n .i64 2))),
 (none, .pk 99 (.t 93) (.t 98) (.c (.b false))),
 (none, .mv 100 (.t 99)),
 (some (100, true), .mv 101 (.t 0)),
 (some (100, true), .nc 102 (.t 101)),
 (some (100, true), .fa 103 2 (.t 102)),
 (some (100, true), .ld 104 none (.t 103)),
 (some (100, true), .bi 105 .leq (.t 104) (.c (.n .i64 4))),
 (none, .pk 106 (.t 100) (.t 105) (.c (.b false))),
 (none, .kp [0, 106])])
 (.ite (.t 106) (.seq (.seq (.rg [(none, .mv 107 (.t 0)),
 (none, .nc 108 (.t 107)),
 (none, .fa 109 2 (.t 108)),
 (none, .ld 110 none (.t 109)),
 (none, .bi 111 .eql (.t 110) (.c (.n .i64 2))),
 (none, .kp [0, 111])])
 (.ite (.t 111) (.rg [(none, .mv 112 (.t 0)),
 (none, .nc 113 (.t 112)),
 (none, .fa 114 2 (.t 113)),
 (none, .st 1 (.t 114) (.c (.n .i64 3))),
 (none, .kp [])])
 (.sk)))
 (.seq (.rg [(none, .mv 6 (.c (.n .i64 0))),
 (none, .kp [6])])
 (.rt)))
 (.sk)))
 (.seq (.rg [(none, .bi 116 .eql (.t 30) (.c (.n .i64 11))),
 (none, .mv 115 (.t 116)),
 (none, .kp [0, 2, 7, 9, 30, 115])])
 (.ite (.t 115) (.seq (.rg [(none, .mv 117 (.t 2)),
 (none, .mv 118 (.t 117)),
 (some (118, true), .mv 119 (.t 0)),
 (some (118, true), .nc 120 (.t 119)),
 (some (118, true), .fa 121 2 (.t 120)),
 (some (118, true), .ld 122 none (.t 121)),
 (some (118, true), .bi 123 .eql (.t 122) (.c (.n .i64 3))),
 (some (118, true), .mv 124 (.t 123)),
 (some (124, false), .mv 125 (.t 0)),
 (some (124, false), .nc 126 (.t 125)),
 (some (124, false), .fa 127 2 (.t 126)),
 (some (124, false), .ld 128 none (.t 127)),
 (some (124, false), .bi 129 .eql (.t 128) (.c (.n .i64 4))),
 (some (118, true), .pk 130 (.t 124) (.c (.b true)) (.t 129)),
 (none, .pk 131 (.t 118) (.t 130) (.c (.b false))),
 (none, .kp [0, 131])])
 (.ite (.t 131) (.seq (.rg [(none, .mv 132 (.t 0)),
 (none, .nc 133 (.t 132)),
 (none, .fa 134 2 (.t 133)),
 (none, .st 1 (.t 134) (.c (.n .i64 4))),
 (none, .kp [])])
 (.seq (.rg [(none, .mv 6 (.c (.n .i64 0))),
 (none, .kp [6])])
 (.rt)))
 (.sk)))
 (.seq (.seq (.rg [(none, .bi 136 .eql (.t 30) (.c (.n .i64 4))),
 (none, .mv 135 (.t 136)),
 (none, .kp [0, 2, 7, 9, 30, 135])])
 (.ite (.t 135) (.sk)
 (.seq (.rg [(none, .bi 137 .eql (.t 30) (.c (.n .i64 5))),
 (none, .mv 135 (.t 137)),
 (none, .kp [0, 2, 7, 9, 30, 135])])
 (.ite (.t 135) (.sk)
 (.rg [(none, .bi 138 .eql (.t 30) (.c (.n .i64 9))),
 (none, .mv 135 (.t 138)),
 (none, .kp [0, 2, 7, 9, 30, 135])])))))
 (.ite (.t 135) (.seq (.rg [(none, .mv 139 (.t 0)),
 (none, .nc 140 (.t 139)),
 (none, .fa 141 2 (.t 140)),
 (none, .ld 142 none (.t 141)),
 (none, .bi 143 .geq (.t 142) (.c (.n .i64 3))),
 (none, .mv 144 (.t 143)),
 (some (144, true), .mv 145 (.t 0)),
 (some (144, true), .nc 146 (.t 145)),
 (some (144, true), .fa 147 2 (.t 146)),
 (some (144, true), .ld 148 none (.t 147)),
 (some (144, true), .bi 149 .leq (.t 148) (.c (.n .i64 6))),
 (none, .pk 150 (.t 144) (.t 149) (.c (.b false))),
 (none, .kp [150])])
 (.ite (.t 150) (.seq (.rg [(none, .mv 6 (.c (.n .i64 0))),
 (none, .kp [6])])
 (.rt))
 (.sk)))
 (.seq (.rg [(none, .bi 152 .eql (.t 30) (.c (.n .i64 6))),
 (none, .mv 151 (.t 152)),
 (none, .kp [0, 2, 7, 9, 30, 151])])
 (.ite (.t 151) (.seq (.rg [(none, .mv 153 (.t 0)),
 (none, .nc 154 (.t 153)),
 (none, .fa 155 2 (.t 154)),
 (none, .ld 156 none (.t 155)),
 (none, .bi 157 .geq (.t 156) (.c (.n .i64 1))),
 (none, .mv 158 (.t 157)),
 (some (158, true), .mv 159 (.t 0)),
 (some (158, true), .nc 160 (.t 159)),
 (some (158, true), .fa 161 2 (.t 160)),
 (some (158, true), .ld 162 none (.t 161)),
 (some (158, true), .bi 163 .leq (.t 162) (.c (.n .i64 6))),
 (none, .pk 164 (.t 158) (.t 163) (.c (.b false))),
 (none, .kp [0, 164])])
 (.ite (.t 164) (.seq (.rg [(none, .mv 165 (.t 0)),
 (none, .nc 166 (.t 165)),
 (none, .fa 167 2 (.t 166)),
 (none, .st 1 (.t 167) (.c (.n .i64 7))),
 (none, .kp [])])
 (.seq (.rg [(none, .mv 6 (.c (.n .i64 0))),
 (none, .kp [6])])
 (.rt)))
 (.sk)))
 (.seq (.rg [(none, .bi 169 .eql (.t 30) (.c (.n .i64 7))),
 (none, .mv 168 (.t 169)),
 (none, .kp [0, 2, 7, 9, 30, 168])])
 (.ite (.t 168) (.seq (.seq (.rg [(none, .mv 170 (.t 0)),
 (none, .nc 171 (.t 170)),
 (none, .fa 172 2 (.t 171)),
 (none, .ld 173 none (.t 172)),
 (none, .bi 174 .eql (.t 173) (.c (.n .i64 4))),
 (none, .kp [0, 2, 7, 9, 174])])
 (.ite (.t 174) (.seq (.seq (.dr [[], [0], [0, 1], [0, 1, 2], [], [4], [4, 5], [4, 5, 6], [4, 5, 6, 7], [0, 1, 2, 3, 4, 5, 6, 7, 8]]
 (.q 0 (none, .mv 175 (.t 7))
 (.q 1 (none, .nc 176 (.t 175))
 (.q 2 (none, .fa 177 4 (.t 176))
 (.q 3 (none, .ld 178 none (.t 177))
 (.q 4 (none, .mv 179 (.t 7))
 (.q 5 (none, .nc 180 (.t 179))
 (.q 6 (none, .fa 181 3 (.t 180))
 (.q 7 (none, .ld 182 none (.t 181))
 (.q 8 (none, .ln 183 (.t 182))
 (.q 9 (none, .bi 184 .neq (.t 178) (.t 183))
 (.done))))))))))) [0, 2, 184])
 (.ite (.t 184) (.seq (.rg [(none, .mv 6 (.c (.n .i64 10))),
 (none, .kp [6])])
 (.rt))
 (.sk)))
 (.seq (.rg [(none, .mv 185 (.t 0)),
 (none, .mv 186 (.t 0)),
 (none, .mv 187 (.t 2)),
 (none, .nc 188 (.t 185)),
 (none, .fa 189 2 (.t 188)),
 (none, .st 1 (.t 189) (.c (.n .i64 5))),
 (none, .nc 190 (.t 186)),
 (none, .fa 191 3 (.t 190)),
 (none, .st 1 (.t 191) (.t 187)),
 (none, .kp [])])
 (.seq (.rg [(none, .mv 6 (.c (.n .i64 0))),
 (none, .kp [6])])
 (.rt))))
 (.sk)))
 (.seq (.rg [(none, .mv 192 (.t 0)),
 (none, .nc 193 (.t 192)),
 (none, .fa 194 2 (.t 193)),
 (none, .ld 195 none (.t 194)),
 (none, .bi 196 .eql (.t 195) (.c (.n .i64 5))),
 (none, .mv 197 (.t 196)),
 (some (197, false), .mv 198 (.t 0)),
 (some (197, false), .nc 199 (.t 198)),
 (some (197, false), .fa 200 2 (.t 199)),
 (some (197, false), .ld 201 none (.t 200)),
 (some (197, false), .bi 202 .eql (.t 201) (.c (.n .i64 6))),
 (none, .pk 203 (.t 197) (.c (.b true)) (.t 202)),
 (none, .mv 204 (.t 203)),
 (some (204, true), .mv 205 (.t 9)),
 (none, .pk 206 (.t 204) (.t 205) (.c (.b false))),
 (none, .kp [206])])
 (.ite (.t 206) (.seq (.rg [(none, .mv 6 (.c (.n .i64 0))),
 (none, .kp [6])])
 (.rt))
 (.sk))))
 (.seq (.rg [(none, .bi 208 .eql (.t 30) (.c (.n .i64 8))),
 (none, .mv 207 (.t 208)),
 (none, .kp [0, 7, 9, 30, 207])])
 (.ite (.t 207) (.seq (.seq (.rg [(none, .mv 209 (.t 0)),
 (none, .nc 210 (.t 209)),
 (none, .fa 211 2 (.t 210)),
 (none, .ld 212 none (.t 211)),
 (none, .bi 213 .eql (.t 212) (.c (.n .i64 5))),
 (none, .mv 214 (.t 213)),
 (some (214, true), .mv 215 (.t 9)),
 (some (214, true), .un 216 .not (.t 215)),
 (none, .pk 217 (.t 214) (.t 216) (.c (.b false))),
 (none, .kp [0, 7, 9, 217])])
 (.ite (.t 217) (.seq (.seq (.dr [[], [0], [0, 1], [0, 1, 2], [], [4], [4, 5], [4, 5, 6], [4, 5, 6, 7], [0, 1, 2, 3, 4, 5, 6, 7, 8]]
 (.q 0 (none, .mv 218 (.t 7))
 (.q 1 (none, .nc 219 (.t 218))
 (.q 2 (none, .fa 220 4 (.t 219))
 (.q 3 (none, .ld 221 none (.t 220))
 (.q 4 (none, .mv 222 (.t 7))
 (.q 5 (none, .nc 223 (.t 222))
 (.q 6 (none, .fa 224 3 (.t 223))
 (.q 7 (none, .ld 225 none (.t 224))
 (.q 8 (none, .ln 226 (.t 225))
 (.q 9 (none, .bi 227 .neq (.t 221) (.t 226))
 (.done))))))))))) [0, 227])
 (.ite (.t 227) (.seq (.rg [(none, .mv 6 (.c (.n .i64 10))),
 (none, .kp [6])])
 (.rt))
 (.sk)))
 (.seq (.rg [(none, .mv 228 (.t 0)),
 (none, .nc 229 (.t 228)),
 (none, .fa 230 2 (.t 229)),
 (none, .st 1 (.t 230) (.c (.n .i64 6))),
 (none, .kp [])])
 (.seq (.rg [(none, .mv 6 (.c (.n .i64 0))),
 (none, .kp [6])])
 (.rt))))
 (.sk)))
 (.seq (.rg [(none, .mv 231 (.t 0)),
 (none, .nc 232 (.t 231)),
 (none, .fa 233 2 (.t 232)),
 (none, .ld 234 none (.t 233)),
 (none, .bi 235 .eql (.t 234) (.c (.n .i64 6))),
 (none, .mv 236 (.t 235)),
 (some (236, true), .mv 237 (.t 9)),
 (some (236, true), .un 238 .not (.t 237)),
 (none, .pk 239 (.t 236) (.t 238) (.c (.b false))),
 (none, .kp [239])])
 (.ite (.t 239) (.seq (.rg [(none, .mv 6 (.c (.n .i64 0))),
 (none, .kp [6])])
 (.rt))
 (.sk))))
 (.seq (.rg [(none, .bi 241 .eql (.t 30) (.c (.n .i64 14))),
 (none, .mv 240 (.t 241)),
 (none, .kp [0, 9, 240])])
 (.ite (.t 240) (.seq (.rg [(none, .mv 242 (.t 0)),
 (none, .nc 243 (.t 242)),
 (none, .fa 244 2 (.t 243)),
 (none, .ld 245 none (.t 244)),
 (none, .bi 246 .eql (.t 245) (.c (.n .i64 6))),
 (none, .mv 247 (.t 246)),
 (some (247, true), .mv 248 (.t 9)),
 (none, .pk 249 (.t 247) (.t 248) (.c (.b false))),
 (none, .kp [0, 249])])
 (.ite (.t 249) (.seq (.rg [(none, .mv 250 (.t 0)),
 (none, .nc 251 (.t 250)),
 (none, .fa 252 2 (.t 251)),
 (none, .st 1 (.t 252) (.c (.n .i64 7))),
 (none, .kp [])])
 (.seq (.rg [(none, .mv 6 (.c (.n .i64 0))),
 (none, .kp [6])])
 (.rt)))
 (.sk)))
 (.sk)))))))))))))))))))))))
 (.seq (.rg [(none, .mv 6 (.c (.n .i64 3))),
 (none, .kp [6])])
 (.rt))))))
theorem mr67 : MrT Try.prog 67 pc67 [.t 6] 253 := fun hn h => spec_of_run (fn := Try.f67) (by kernel_rfl) rfl (by kernel_rfl) (by kernel_rfl) hn h
theorem mk67 : MkT Try.prog 67 pc67 [.t 6] 253 := mr67.k
theorem mw67 : MwT Try.prog 67 pc67 [.t 6] 253 := mr67.w
-- 68 laws.eqSide
def pc68 : PC := .seq (.rg [(none, .bx 2 (.t 0)),
 (none, .bx 3 (.t 1)),
 (none, .mv 4 (.c (.b false))),
 (none, .kp [2, 3])])
 (.seq (.seq (.rg [(none, .fa 5 0 (.t 2)),
 (none, .ld 6 none (.t 5)),
 (none, .fa 7 0 (.t 3)),
 (none, .ld 8 none (.t 7)),
 (none, .bi 9 .neq (.t 6) (.t 8)),
 (none, .kp [2, 3, 9])])
 (.ite (.t 9) (.seq (.rg [(none, .mv 4 (.c (.b false))),
 (none, .kp [4])])
 (.rt))
 (.sk)))
 (.seq (.seq (.rg [(none, .fa 10 1 (.t 2)),
 (none, .ld 11 none (.t 10)),
 (none, .fa 12 1 (.t 3)),
 (none, .ld 13 none (.t 12)),
 (none, .bi 14 .neq (.t 11) (.t 13)),
 (none, .kp [2, 3, 14])])
 (.ite (.t 14) (.seq (.rg [(none, .mv 4 (.c (.b false))),
 (none, .kp [4])])
 (.rt))
 (.sk)))
 (.seq (.seq (.rg [(none, .fa 15 2 (.t 2)),
 (none, .ld 16 none (.t 15)),
 (none, .fa 17 2 (.t 3)),
 (none, .ld 18 none (.t 17)),
 (none, .bi 19 .neq (.t 16) (.t 18)),
 (none, .kp [2, 3, 19])])
 (.ite (.t 19) (.seq (.rg [(none, .mv 4 (.c (.b false))),
 (none, .kp [4])])
 (.rt))
 (.sk)))
 (.seq (.seq (.rg [(none, .fa 20 3 (.t 2)),
 (none, .ld 21 none (.t 20)),
 (none, .fa 22 3 (.t 3)),
 (none, .ld 23 none (.t 22)),
 (none, .ca (some 24) 130 [.t 21, .t 23]),
 (none, .un 25 .not (.t 24)),
 (none, .kp [2, 3, 25])])
 (.ite (.t 25) (.seq (.rg [(none, .mv 4 (.c (.b false))),
 (none, .kp [4])])
 (.rt))
 (.sk)))
 (.seq (.seq (.rg [(none, .fa 26 4 (.t 2)),
 (none, .ld 27 none (.t 26)),
 (none, .fa 28 4 (.t 3)),
 (none, .ld 29 none (.t 28)),
 (none, .bi 30 .neq (.t 27) (.t 29)),
 (none, .kp [30])])
 (.ite (.t 30) (.seq (.rg [(none, .mv 4 (.c (.b false))),
 (none, .kp [4])])
 (.rt))
 (.sk)))
 (.seq (.rg [(none, .mv 4 (.c (.b true))),
 (none, .kp [4])])
 (.rt)))))))
theorem mr68 : MrT Try.prog 68 pc68 [.t 4] 31 := fun hn h => spec_of_run (fn := Try.f68) (by kernel_rfl) rfl (by kernel_rfl) (by kernel_rfl) hn h
theorem mk68 : MkT Try.prog 68 pc68 [.t 4] 31 := mr68.k
theorem mw68 : MwT Try.prog 68 pc68 [.t 4] 31 := mr68.w
-- 69 laws.eqChunkS
def pc69l0 : PC := .seq (.seq (.rg [(none, .mv 11 (.t 5)),
 (none, .mv 12 (.t 0)),
 (none, .ln 13 (.t 12)),
 (none, .bi 14 .lss (.t 11) (.t 13)),
 (none, .kp [0, 1, 5, 14])])
 (.ite (.t 14) (.sk)
 (.ex 0)))
 (.seq (.blk 1 (.seq (.dr [[], [], [0, 1], [0, 1, 2], [], [], [4, 5], [4, 5, 6], [0, 1, 2, 3, 4, 5, 6, 7], [0, 1, 2, 3, 4, 5, 6, 7, 8]]
 (.q 0 (none, .mv 17 (.t 0))
 (.q 1 (none, .mv 18 (.t 5))
 (.q 2 (none, .ia 19 3 (.t 17) (.t 18))
 (.q 3 (none, .ld 20 (some 3) (.t 19))
 (.q 4 (none, .mv 21 (.t 1))
 (.q 5 (none, .mv 22 (.t 5))
 (.q 6 (none, .ia 23 3 (.t 21) (.t 22))
 (.q 7 (none, .ld 24 (some 3) (.t 23))
 (.alt 8 (none, .ca (some 25) 131 [.t 20, .t 24]) [false, false, false, false, false, false, false, false]
 (.q 9 (none, .un 26 .not (.t 25))
 (.done))
 (.stop)))))))))) [0, 1, 5, 26])
 (.ite (.t 26) (.seq (.rg [(none, .mv 4 (.c (.b false))),
 (none, .kp [4])])
 (.rt))
 (.sk))))
 (.rg [(none, .mv 15 (.t 5)),
 (none, .bi 16 .add (.t 15) (.c (.n .i64 1))),
 (none, .mv 5 (.t 16)),
 (none, .kp [0, 1, 5])]))
def pc69 : PC := .seq (.rg [(none, .mv 4 (.c (.b false))),
 (none, .kp [0, 1])])
 (.seq (.seq (.rg [(none, .mv 6 (.t 0)),
 (none, .ln 7 (.t 6)),
 (none, .mv 8 (.t 1)),
 (none, .ln 9 (.t 8)),
 (none, .bi 10 .neq (.t 7) (.t 9)),
 (none, .kp [0, 1, 10])])
 (.ite (.t 10) (.seq (.rg [(none, .mv 4 (.c (.b false))),
 (none, .kp [4])])
 (.rt))
 (.sk)))
 (.seq (.seq (.rg [(none, .mv 5 (.c (.n .i64 0))),
 (none, .kp [0, 1, 5])])
 (.blk 0 (.lp pc69l0)))
 (.seq (.rg [(none, .mv 4 (.c (.b true))),
 (none, .kp [4])])
 (.rt))))
theorem mr69 : MrT Try.prog 69 pc69 [.t 4] 27 := fun hn h => spec_of_run (fn := Try.f69) (by kernel_rfl) rfl (by kernel_rfl) (by kernel_rfl) hn h
theorem mk69 : MkT Try.prog 69 pc69 [.t 4] 27 := mr69.k
theorem mw69 : MwT Try.prog 69 pc69 [.t 4] 27 := mr69.w
-- 70 laws.markSide
def pc70 : PC := .seq (.rg [(none, .bx 2 (.t 0)),
 (none, .mv 4 (.c (.n .i64 0))),
 (none, .kp [1, 2])])
 (.seq (.rg [(none, .fa 5 3 (.t 2)),
 (none, .ld 6 none (.t 5)),
 (none, .mv 7 (.t 1)),
 (none, .ca (some 8) 132 [.t 6, .t 7]),
 (none, .mv 1 (.t 8)),
 (none, .kp [1])])
 (.seq (.rg [(none, .mv 9 (.t 1)),
 (none, .mv 4 (.t 9)),
 (none, .kp [4])])
 (.rt)))
theorem mr70 : MrT Try.prog 70 pc70 [.t 4] 10 := fun hn h => spec_of_run (fn := Try.f70) (by kernel_rfl) rfl (by kernel_rfl) (by kernel_rfl) hn h
theorem mk70 : MkT Try.prog 70 pc70 [.t 4] 10 := mr70.k
theorem mw70 : MwT Try.prog 70 pc70 [.t 4] 10 := mr70.w
-- 71 laws.markChunkS
def pc71l0 : PC := .seq (.seq (.rg [(none, .mv 6 (.t 5)),
 (none, .mv 7 (.t 0)),
 (none, .ln 8 (.t 7)),
 (none, .bi 9 .lss (.t 6) (.t 8)),
 (none, .kp [0, 1, 5, 9])])
 (.ite (.t 9) (.sk)
 (.ex 0)))
 (.seq (.blk 1 (.seq (.rg [(none, .mv 12 (.t 0)),
 (none, .mv 13 (.t 5)),
 (none, .mv 14 (.t 1)),
 (none, .ia 15 3 (.t 12) (.t 13)),
 (none, .fa 16 0 (.t 15)),
 (none, .st 1 (.t 16) (.t 14)),
 (none, .kp [0, 1, 5])])
 (.seq (.rg [(none, .mv 17 (.t 1)),
 (none, .bi 18 .add (.t 17) (.c (.n .i64 1))),
 (none, .mv 1 (.t 18)),
 (none, .kp [0, 1, 5])])
 (.seq (.rg [(none, .mv 19 (.t 0)),
 (none, .mv 20 (.t 5)),
 (none, .mv 21 (.t 1)),
 (none, .ia 22 3 (.t 19) (.t 20)),
 (none, .fa 23 1 (.t 22)),
 (none, .st 1 (.t 23) (.t 21)),
 (none, .kp [0, 1, 5])])
 (.seq (.rg [(none, .mv 24 (.t 1)),
 (none, .bi 25 .add (.t 24) (.c (.n .i64 1))),
 (none, .mv 1 (.t 25)),
 (none, .kp [0, 1, 5])])
 (.seq (.rg [(none, .mv 26 (.t 0)),
 (none, .mv 27 (.t 5)),
 (none, .mv 28 (.t 1)),
 (none, .ca (some 29) 133 [.t 28]),
 (none, .ia 30 3 (.t 26) (.t 27)),
 (none, .fa 31 2 (.t 30)),
 (none, .st 1 (.t 31) (.t 29)),
 (none, .kp [0, 1, 5])])
 (.rg [(none, .mv 32 (.t 1)),
 (none, .bi 33 .add (.t 32) (.c (.n .i64 1))),
 (none, .mv 1 (.t 33)),
 (none, .kp [0, 1, 5])])))))))
 (.rg [(none, .mv 10 (.t 5)),
 (none, .bi 11 .add (.t 10) (.c (.n .i64 1))),
 (none, .mv 5 (.t 11)),
 (none, .kp [0, 1, 5])]))
def pc71 : PC := .seq (.rg [(none, .mv 4 (.c (.n .i64 0))),
 (none, .kp [0, 1])])
 (.seq (.seq (.rg [(none, .mv 5 (.c (.n .i64 0))),
 (none, .kp [0, 1, 5])])
 (.blk 0 (.lp pc71l0)))
 (.seq (.rg [(none, .mv 34 (.t 1)),
 (none, .mv 4 (.t 34)),
 (none, .kp [4])])
 (.rt)))
theorem mr71 : MrT Try.prog 71 pc71 [.t 4] 35 := fun hn h => spec_of_run (fn := Try.f71) (by kernel_rfl) rfl (by kernel_rfl) (by kernel_rfl) hn h
theorem mk71 : MkT Try.prog 71 pc71 [.t 4] 35 := mr71.k
theorem mw71 : MwT Try.prog 71 pc71 [.t 4] 35 := mr71.w
-- 72 laws.heldSide
def pc72 : PC := .seq (.rg [(none, .bx 2 (.t 0)),
 (none, .mv 4 (.c (.n .i64 0))),
 (none, .kp [1, 2])])
 (.seq (.rg [(none, .fa 5 3 (.t 2)),
 (none, .ld 6 none (.t 5)),
 (none, .mv 7 (.t 1)),
 (none, .ca (some 8) 134 [.t 6, .t 7]),
 (none, .mv 1 (.t 8)),
 (none, .kp [1])])
 (.seq (.seq (.rg [(none, .mv 9 (.t 1)),
 (none, .bi 10 .lss (.t 9) (.c (.n .i64 0))),
 (none, .kp [1, 10])])
 (.ite (.t 10) (.seq (.rg [(none, .mv 4 (.c (.n .i64 (-1)))),
 (none, .kp [4])])
 (.rt))
 (.sk)))
 (.seq (.rg [(none, .mv 11 (.t 1)),
 (none, .mv 4 (.t 11)),
 (none, .kp [4])])
 (.rt))))
theorem mr72 : MrT Try.prog 72 pc72 [.t 4] 12 := fun hn h => spec_of_run (fn := Try.f72) (by kernel_rfl) rfl (by kernel_rfl) (by kernel_rfl) hn h
theorem mk72 : MkT Try.prog 72 pc72 [.t 4] 12 := mr72.k
theorem mw72 : MwT Try.prog 72 pc72 [.t 4] 12 := mr72.w
-- 107 impl.InitGet
def pc107 : PC := .seq (.rg [(none, .bx 1 (.t 0)),
 (none, .al 2 [.n .i64 0, .n .i64 0, .n .i64 0, .n .i64 0]),
 (none, .mv 3 (.c (.b false))),
 (none, .kp [1, 2])])
 (.seq (.seq (.rg [(none, .fa 5 0 (.t 1)),
 (none, .ld 6 none (.t 5)),
 (none, .bi 7 .neq (.t 6) (.c (.n .i64 1))),
 (none, .mv 8 (.t 7)),
 (some (8, true), .fa 9 0 (.t 1)),
 (some (8, true), .ld 10 none (.t 9)),
 (some (8, true), .bi 11 .neq (.t 10) (.c (.n .i64 2))),
 (none, .pk 12 (.t 8) (.t 11) (.c (.b false))),
 (none, .mv 13 (.t 12)),
 (some (13, false), .fa 14 1 (.t 1)),
 (some (13, false), .ld 15 none (.t 14)),
 (some (13, false), .bi 16 .neq (.t 15) (.c (.n .i64 0))),
 (none, .pk 17 (.t 13) (.c (.b true)) (.t 16)),
 (none, .mv 18 (.t 17)),
 (some (18, false), .fa 19 2 (.t 1)),
 (some (18, false), .ld 20 none (.t 19)),
 (some (18, false), .lS 21 (.t 20)),
 (some (18, false), .bi 22 .neq (.t 21) (.c (.n .i64 10))),
 (none, .pk 23 (.t 18) (.c (.b true)) (.t 22)),
 (none, .kp [1, 2, 23])])
 (.ite (.t 23) (.seq (.rg [(none, .bd 24 [.n .i64 0, .n .i64 0, .n .i64 0, .n .i64 0] []),
 (none, .st 4 (.t 2) (.t 24)),
 (none, .mv 3 (.c (.b false))),
 (none, .kp [2, 3])])
 (.rt))
 (.sk)))
 (.seq (.rg [(none, .bd 25 [.n .i64 0, .n .i64 0, .n .i64 0, .n .i64 0] []),
 (none, .al 4 [.n .i64 0, .n .i64 0, .n .i64 0, .n .i64 0]),
 (none, .st 4 (.t 4) (.t 25)),
 (none, .kp [1, 2, 4])])
 (.seq (.rg [(none, .fa 27 2 (.t 1)),
 (none, .ld 28 none (.t 27)),
 (none, .ca (some 29) 156 [.t 28, .c (.n .i64 0)]),
 (none, .mv 26 (.t 29)),
 (none, .ex 30 (.t 26) 0),
 (none, .ex 31 (.t 26) 1),
 (none, .fa 32 0 (.t 4)),
 (none, .st 1 (.t 32) (.t 30)),
 (none, .kp [1, 2, 4])])
 (.seq (.rg [(none, .fa 34 2 (.t 1)),
 (none, .ld 35 none (.t 34)),
 (none, .ca (some 36) 157 [.t 35, .c (.n .i64 4)]),
 (none, .mv 33 (.t 36)),
 (none, .ex 37 (.t 33) 0),
 (none, .ex 38 (.t 33) 1),
 (none, .fa 39 1 (.t 4)),
 (none, .st 1 (.t 39) (.t 37)),
 (none, .kp [1, 2, 4])])
 (.seq (.rg [(none, .fa 41 2 (.t 1)),
 (none, .ld 42 none (.t 41)),
 (none, .ca (some 43) 157 [.t 42, .c (.n .i64 6)]),
 (none, .mv 40 (.t 43)),
 (none, .ex 44 (.t 40) 0),
 (none, .ex 45 (.t 40) 1),
 (none, .fa 46 2 (.t 4)),
 (none, .st 1 (.t 46) (.t 44)),
 (none, .kp [1, 2, 4])])
 (.seq (.rg [(none, .fa 48 2 (.t 1)),
 (none, .ld 49 none (.t 48)),
 (none, .ca (some 50) 157 [.t 49, .c (.n .i64 8)]),
 (none, .mv 47 (.t 50)),
 (none, .ex 51 (.t 47) 0),
 (none, .ex 52 (.t 47) 1),
 (none, .fa 53 3 (.t 4)),
 (none, .st 1 (.t 53) (.t 51)),
 (none, .kp [2, 4])])
 (.seq (.seq (.rg [(none, .ld 54 (some 4) (.t 4)),
 (none, .ca (some 55) 108 [.t 54]),
 (none, .un 56 .not (.t 55)),
 (none, .kp [2, 4, 56])])
 (.ite (.t 56) (.seq (.rg [(none, .bd 57 [.n .i64 0, .n .i64 0, .n .i64 0, .n .i64 0] []),
 (none, .st 4 (.t 2) (.t 57)),
 (none, .mv 3 (.c (.b false))),
 (none, .kp [2, 3])])
 (.rt))
 (.sk)))
 (.seq (.rg [(none, .ld 58 (some 4) (.t 4)),
 (none, .st 4 (.t 2) (.t 58)),
 (none, .mv 3 (.c (.b true))),
 (none, .kp [2, 3])])
 (.rt)))))))))
theorem mr107 : MrT Try.prog 107 pc107 [.c 2 (some 4), .t 3] 59 := fun hn h => spec_of_run (fn := Try.f107) (by kernel_rfl) rfl (by kernel_rfl) (by kernel_rfl) hn h
theorem mk107 : MkT Try.prog 107 pc107 [.c 2 (some 4), .t 3] 59 := mr107.k
theorem mw107 : MwT Try.prog 107 pc107 [.c 2 (some 4), .t 3] 59 := mr107.w
-- 108 impl.initOk
def pc108 : PC := .seq (.rg [(none, .bx 1 (.t 0)),
 (none, .mv 2 (.c (.b false))),
 (none, .kp [1])])
 (.seq (.rg [(none, .fa 3 0 (.t 1)),
 (none, .ld 4 none (.t 3)),
 (none, .bi 5 .geq (.t 4) (.c (.n .i64 1))),
 (none, .mv 6 (.t 5)),
 (some (6, true), .fa 7 0 (.t 1)),
 (some (6, true), .ld 8 none (.t 7)),
 (some (6, true), .bi 9 .leq (.t 8) (.c (.n .i64 4294967295))),
 (none, .pk 10 (.t 6) (.t 9) (.c (.b false))),
 (none, .mv 11 (.t 10)),
 (some (11, true), .fa 12 1 (.t 1)),
 (some (11, true), .ld 13 none (.t 12)),
 (some (11, true), .ca (some 14) 109 [.t 13]),
 (none, .pk 15 (.t 11) (.t 14) (.c (.b false))),
 (none, .mv 16 (.t 15)),
 (some (16, true), .fa 17 2 (.t 1)),
 (some (16, true), .ld 18 none (.t 17)),
 (some (16, true), .bi 19 .geq (.t 18) (.c (.n .i64 1))),
 (none, .pk 20 (.t 16) (.t 19) (.c (.b false))),
 (none, .mv 21 (.t 20)),
 (some (21, true), .fa 22 2 (.t 1)),
 (some (21, true), .ld 23 none (.t 22)),
 (some (21, true), .bi 24 .leq (.t 23) (.c (.n .i64 4))),
 (none, .pk 25 (.t 21) (.t 24) (.c (.b false))),
 (none, .mv 26 (.t 25)),
 (some (26, true), .fa 27 3 (.t 1)),
 (some (26, true), .ld 28 none (.t 27)),
 (some (26, true), .ca (some 29) 109 [.t 28]),
 (none, .pk 30 (.t 26) (.t 29) (.c (.b false))),
 (none, .mv 2 (.t 30)),
 (none, .kp [2])])
 (.rt))
theorem mr108 : MrT Try.prog 108 pc108 [.t 2] 31 := fun hn h => spec_of_run (fn := Try.f108) (by kernel_rfl) rfl (by kernel_rfl) (by kernel_rfl) hn h
theorem mk108 : MkT Try.prog 108 pc108 [.t 2] 31 := mr108.k
theorem mw108 : MwT Try.prog 108 pc108 [.t 2] 31 := mr108.w
-- 109 impl.serialOk
def pc109 : PC := .seq (.rg [(none, .mv 2 (.c (.b false))),
 (none, .kp [0])])
 (.seq (.rg [(none, .mv 3 (.t 0)),
 (none, .bi 4 .geq (.t 3) (.c (.n .i64 0))),
 (none, .mv 5 (.t 4)),
 (some (5, true), .mv 6 (.t 0)),
 (some (5, true), .bi 7 .lss (.t 6) (.c (.n .i64 65536))),
 (none, .pk 8 (.t 5) (.t 7) (.c (.b false))),
 (none, .mv 2 (.t 8)),
 (none, .kp [2])])
 (.rt))
theorem mr109 : MrT Try.prog 109 pc109 [.t 2] 9 := fun hn h => spec_of_run (fn := Try.f109) (by kernel_rfl) rfl (by kernel_rfl) (by kernel_rfl) hn h
theorem mk109 : MkT Try.prog 109 pc109 [.t 2] 9 := mr109.k
theorem mw109 : MwT Try.prog 109 pc109 [.t 2] 9 := mr109.w
-- 110 impl.dataOk
def pc110 : PC := .seq (.rg [(none, .bx 1 (.t 0)),
 (none, .mv 2 (.c (.b false))),
 (none, .kp [1])])
 (.seq (.rg [(none, .fa 3 0 (.t 1)),
 (none, .ld 4 none (.t 3)),
 (none, .ca (some 5) 109 [.t 4]),
 (none, .mv 6 (.t 5)),
 (some (6, true), .fa 7 1 (.t 1)),
 (some (6, true), .ld 8 none (.t 7)),
 (some (6, true), .ca (some 9) 109 [.t 8]),
 (none, .pk 10 (.t 6) (.t 9) (.c (.b false))),
 (none, .mv 11 (.t 10)),
 (some (11, true), .fa 12 2 (.t 1)),
 (some (11, true), .ld 13 none (.t 12)),
 (some (11, true), .ca (some 14) 109 [.t 13]),
 (none, .pk 15 (.t 11) (.t 14) (.c (.b false))),
 (none, .mv 16 (.t 15)),
 (some (16, true), .fa 17 6 (.t 1)),
 (some (16, true), .ld 18 none (.t 17)),
 (some (16, true), .lS 19 (.t 18)),
 (some (16, true), .bi 20 .geq (.t 19) (.c (.n .i64 1))),
 (none, .pk 21 (.t 16) (.t 20) (.c (.b false))),
 (none, .mv 22 (.t 21)),
 (some (22, true), .fa 23 6 (.t 1)),
 (some (22, true), .ld 24 none (.t 23)),
 (some (22, true), .lS 25 (.t 24)),
 (some (22, true), .bi 26 .leq (.t 25) (.c (.n .i64 20))),
 (none, .pk 27 (.t 22) (.t 26) (.c (.b false))),
 (none, .mv 2 (.t 27)),
 (none, .kp [2])])
 (.rt))
theorem mr110 : MrT Try.prog 110 pc110 [.t 2] 28 := fun hn h => spec_of_run (fn := Try.f110) (by kernel_rfl) rfl (by kernel_rfl) (by kernel_rfl) hn h
theorem mk110 : MkT Try.prog 110 pc110 [.t 2] 28 := mr110.k
theorem mw110 : MwT Try.prog 110 pc110 [.t 2] 28 := mr110.w
-- 111 impl.SerialAdd
def pc111 : PC := .seq (.rg [(none, .mv 4 (.c (.n .i64 0))),
 (none, .kp [0, 1])])
 (.seq (.seq (.rg [(none, .mv 5 (.t 0)),
 (none, .ca (some 6) 109 [.t 5]),
 (none, .un 7 .not (.t 6)),
 (none, .kp [0, 1, 7])])
 (.ite (.t 7) (.seq (.rg [(none, .mv 4 (.c (.n .i64 (-1)))),
 (none, .kp [4])])
 (.rt))
 (.sk)))
 (.seq (.rg [(none, .mv 8 (.t 0)),
 (none, .mv 9 (.t 1)),
 (none, .bi 10 .rem (.t 9) (.c (.n .i64 65536))),
 (none, .bi 11 .add (.t 8) (.t 10)),
 (none, .bi 12 .rem (.t 11) (.c (.n .i64 65536))),
 (none, .bi 13 .add (.t 12) (.c (.n .i64 65536))),
 (none, .bi 14 .rem (.t 13) (.c (.n .i64 65536))),
 (none, .mv 4 (.t 14)),
 (none, .kp [4])])
 (.rt)))
theorem mr111 : MrT Try.prog 111 pc111 [.t 4] 15 := fun hn h => spec_of_run (fn := Try.f111) (by kernel_rfl) rfl (by kernel_rfl) (by kernel_rfl) hn h
theorem mk111 : MkT Try.prog 111 pc111 [.t 4] 15 := mr111.k
theorem mw111 : MwT Try.prog 111 pc111 [.t 4] 15 := mr111.w
-- 112 impl.mayFollow
def pc112l0 : PC := .seq (.rg [(none, .bi 42 .lss (.t 41) (.t 40)),
 (none, .kp [3, 5, 39, 40, 41, 42])])
 (.seq (.ite (.t 42) (.sk)
 (.ex 0))
 (.seq (.blk 1 (.seq (.rg [(none, .ia 43 7 (.t 39) (.t 41)),
 (none, .ld 44 (some 7) (.t 43)),
 (none, .al 7 [.n .i64 0, .n .i64 0, .n .i64 0, .b false, .b false, .b false, .s []]),
 (none, .st 7 (.t 7) (.t 44)),
 (none, .kp [3, 5, 7, 39, 40, 41])])
 (.seq (.rg [(none, .fa 45 3 (.t 7)),
 (none, .ld 46 none (.t 45)),
 (none, .mv 47 (.t 46)),
 (some (47, true), .fa 48 5 (.t 7)),
 (some (47, true), .ld 49 none (.t 48)),
 (some (47, true), .un 50 .not (.t 49)),
 (none, .pk 51 (.t 47) (.t 50) (.c (.b false))),
 (none, .mv 52 (.t 51)),
 (some (52, true), .fa 53 1 (.t 7)),
 (some (52, true), .ld 54 none (.t 53)),
 (some (52, true), .fa 55 1 (.t 3)),
 (some (52, true), .ld 56 none (.t 55)),
 (some (52, true), .bi 57 .eql (.t 54) (.t 56)),
 (none, .pk 58 (.t 52) (.t 57) (.c (.b false))),
 (none, .kp [3, 5, 39, 40, 41, 58])])
 (.ite (.t 58) (.rg [(none, .mv 59 (.t 5)),
 (none, .bi 60 .add (.t 59) (.c (.n .i64 1))),
 (none, .mv 5 (.t 60)),
 (none, .kp [3, 5, 39, 40, 41])])
 (.sk)))))
 (.rg [(none, .bi 61 .add (.t 41) (.c (.n .i64 1))),
 (none, .mv 41 (.t 61)),
 (none, .kp [3, 5, 39, 40, 41])])))
def pc112 : PC := .seq (.rg [(none, .bx 3 (.t 1)),
 (none, .mv 4 (.c (.b false))),
 (none, .kp [0, 3])])
 (.seq (.seq (.rg [(none, .mv 8 (.t 0)),
 (none, .ln 9 (.t 8)),
 (none, .bi 10 .gtr (.t 9) (.c (.n .i64 0))),
 (none, .mv 11 (.t 10)),
 (some (11, true), .mv 12 (.t 0)),
 (some (11, true), .mv 13 (.t 0)),
 (some (11, true), .ln 14 (.t 13)),
 (some (11, true), .bi 15 .sub (.t 14) (.c (.n .i64 1))),
 (some (11, true), .ia 16 7 (.t 12) (.t 15)),
 (some (11, true), .fa 17 4 (.t 16)),
 (some (11, true), .ld 18 none (.t 17)),
 (some (11, true), .un 19 .not (.t 18)),
 (none, .pk 20 (.t 11) (.t 19) (.c (.b false))),
 (none, .kp [0, 3, 20])])
 (.ite (.t 20) (.seq (.dr [[], [0], [0, 1], [0, 1, 2], [0, 1, 2, 3], [0, 1, 2, 3], [0, 1, 2, 3], [0, 1, 2, 3, 6], [0, 1, 2, 3, 6, 7], [0, 1, 2, 3, 5, 6, 7, 8], [0, 1, 2, 3, 5, 6, 7, 8, 9], [0, 1, 2, 3, 4, 5, 6, 7, 8, 9, 10], [0, 1, 2, 3, 4, 5, 6, 7, 8, 9, 10, 11], [0, 1, 2, 3, 4, 5, 6, 7, 8, 9, 10, 11, 12]]
 (.q 0 (none, .fa 21 3 (.t 3))
 (.q 1 (none, .ld 22 none (.t 21))
 (.q 2 (none, .un 23 .not (.t 22))
 (.q 3 (none, .mv 24 (.t 23))
 (.q 4 (some (24, true), .ld 25 (some 7) (.t 3))
 (.q 5 (some (24, true), .mv 26 (.t 0))
 (.q 6 (some (24, true), .mv 27 (.t 0))
 (.q 7 (some (24, true), .ln 28 (.t 27))
 (.q 8 (some (24, true), .bi 29 .sub (.t 28) (.c (.n .i64 1)))
 (.q 9 (some (24, true), .ia 30 7 (.t 26) (.t 29))
 (.q 10 (some (24, true), .ld 31 (some 7) (.t 30))
 (.alt 11 (some (24, true), .ca (some 32) 159 [.t 25, .t 31]) [false, false, false, false, false, false, false, false, false, false, false]
 (.q 12 (none, .pk 33 (.t 24) (.t 32) (.c (.b false)))
 (.q 13 (none, .mv 4 (.t 33))
 (.done)))
 (.stop))))))))))))) [4])
 (.rt))
 (.sk)))
 (.seq (.seq (.rg [(none, .fa 34 3 (.t 3)),
 (none, .ld 35 none (.t 34)),
 (none, .un 36 .not (.t 35)),
 (none, .kp [0, 3, 36])])
 (.ite (.t 36) (.seq (.rg [(none, .mv 4 (.c (.b false))),
 (none, .kp [4])])
 (.rt))
 (.sk)))
 (.seq (.seq (.rg [(none, .fa 37 5 (.t 3)),
 (none, .ld 38 none (.t 37)),
 (none, .kp [0, 3, 38])])
 (.ite (.t 38) (.seq (.rg [(none, .mv 4 (.c (.b true))),
 (none, .kp [4])])
 (.rt))
 (.sk)))
 (.seq (.rg [(none, .mv 5 (.c (.n .i64 0))),
 (none, .kp [0, 3, 5])])
 (.seq (.seq (.rg [(none, .mv 39 (.t 0)),
 (none, .ln 40 (.t 39)),
 (none, .mv 41 (.c (.n .i64 0))),
 (none, .kp [3, 5, 39, 40, 41])])
 (.blk 0 (.lp pc112l0)))
 (.seq (.rg [(none, .fa 62 2 (.t 3)),
 (none, .ld 63 none (.t 62)),
 (none, .mv 64 (.t 5)),
 (none, .bi 65 .eql (.t 63) (.t 64)),
 (none, .mv 4 (.t 65)),
 (none, .kp [4])])
 (.rt)))))))
theorem mr112 : MrT Try.prog 112 pc112 [.t 4] 66 := fun hn h => spec_of_run (fn := Try.f112) (by kernel_rfl) rfl (by kernel_rfl) (by kernel_rfl) hn h
theorem mk112 : MkT Try.prog 112 pc112 [.t 4] 66 := mr112.k
theorem mw112 : MwT Try.prog 112 pc112 [.t 4] 66 := mr112.w
-- 114 laws.szDataS
def pc114l0 : PC := .seq (.seq (.rg [(none, .mv 12 (.t 5)),
 (none, .mv 13 (.t 0)),
 (none, .ln 14 (.t 13)),
 (none, .bi 15 .lss (.t 12) (.t 14)),
 (none, .kp [0, 1, 5, 15])])
 (.ite (.t 15) (.sk)
 (.ex 0)))
 (.seq (.blk 1 (.seq (.rg [(none, .mv 18 (.t 0)),
 (none, .mv 19 (.t 5)),
 (none, .ia 20 7 (.t 18) (.t 19)),
 (none, .ld 21 (some 7) (.t 20)),
 (none, .mv 22 (.t 1)),
 (none, .ca (some 23) 161 [.t 21, .t 22]),
 (none, .mv 1 (.t 23)),
 (none, .kp [0, 1, 5])])
 (.seq (.rg [(none, .mv 24 (.t 1)),
 (none, .bi 25 .lss (.t 24) (.c (.n .i64 0))),
 (none, .kp [0, 1, 5, 25])])
 (.ite (.t 25) (.seq (.rg [(none, .mv 4 (.c (.n .i64 (-1)))),
 (none, .kp [4])])
 (.rt))
 (.sk)))))
 (.rg [(none, .mv 16 (.t 5)),
 (none, .bi 17 .add (.t 16) (.c (.n .i64 1))),
 (none, .mv 5 (.t 17)),
 (none, .kp [0, 1, 5])]))
def pc114 : PC := .seq (.rg [(none, .mv 4 (.c (.n .i64 0))),
 (none, .kp [0, 1])])
 (.seq (.rg [(none, .mv 6 (.t 1)),
 (none, .mv 7 (.t 0)),
 (none, .ln 8 (.t 7)),
 (none, .bi 9 .sub (.t 6) (.t 8)),
 (none, .mv 1 (.t 9)),
 (none, .kp [0, 1])])
 (.seq (.seq (.rg [(none, .mv 10 (.t 1)),
 (none, .bi 11 .lss (.t 10) (.c (.n .i64 0))),
 (none, .kp [0, 1, 11])])
 (.ite (.t 11) (.seq (.rg [(none, .mv 4 (.c (.n .i64 (-1)))),
 (none, .kp [4])])
 (.rt))
 (.sk)))
 (.seq (.seq (.rg [(none, .mv 5 (.c (.n .i64 0))),
 (none, .kp [0, 1, 5])])
 (.blk 0 (.lp pc114l0)))
 (.seq (.rg [(none, .mv 26 (.t 1)),
 (none, .mv 4 (.t 26)),
 (none, .kp [4])])
 (.rt)))))
theorem mr114 : MrT Try.prog 114 pc114 [.t 4] 27 := fun hn h => spec_of_run (fn := Try.f114) (by kernel_rfl) rfl (by kernel_rfl) (by kernel_rfl) hn h
theorem mk114 : MkT Try.prog 114 pc114 [.t 4] 27 := mr114.k
theorem mw114 : MwT Try.prog 114 pc114 [.t 4] 27 := mr114.w
-- 115 laws.szChunk
def pc115 : PC := .seq (.rg [(none, .bx 2 (.t 0)),
 (none, .mv 4 (.c (.n .i64 0))),
 (none, .kp [1, 2])])
 (.seq (.rg [(none, .mv 5 (.t 1)),
 (none, .fa 6 2 (.t 2)),
 (none, .ld 7 none (.t 6)),
 (none, .lS 8 (.t 7)),
 (none, .bi 9 .sub (.t 5) (.t 8)),
 (none, .mv 1 (.t 9)),
 (none, .kp [1])])
 (.seq (.seq (.rg [(none, .mv 10 (.t 1)),
 (none, .bi 11 .lss (.t 10) (.c (.n .i64 0))),
 (none, .kp [1, 11])])
 (.ite (.t 11) (.seq (.rg [(none, .mv 4 (.c (.n .i64 (-1)))),
 (none, .kp [4])])
 (.rt))
 (.sk)))
 (.seq (.rg [(none, .mv 12 (.t 1)),
 (none, .mv 4 (.t 12)),
 (none, .kp [4])])
 (.rt))))
theorem mr115 : MrT Try.prog 115 pc115 [.t 4] 13 := fun hn h => spec_of_run (fn := Try.f115) (by kernel_rfl) rfl (by kernel_rfl) (by kernel_rfl) hn h
theorem mk115 : MkT Try.prog 115 pc115 [.t 4] 13 := mr115.k
theorem mw115 : MwT Try.prog 115 pc115 [.t 4] 13 := mr115.w
-- 116 spec.l6In
def pc116 : PC := .seq (.rg [(none, .mv 6 (.c (.b false))),
 (none, .kp [0, 1, 2])])
 (.seq (.rg [(none, .mv 7 (.t 0)),
 (none, .mv 8 (.t 1)),
 (none, .bi 9 .geq (.t 7) (.t 8)),
 (none, .mv 10 (.t 9)),
 (some (10, true), .mv 11 (.t 0)),
 (some (10, true), .mv 12 (.t 2)),
 (some (10, true), .bi 13 .leq (.t 11) (.t 12)),
 (none, .pk 14 (.t 10) (.t 13) (.c (.b false))),
 (none, .mv 6 (.t 14)),
 (none, .kp [6])])
 (.rt))
theorem mr116 : MrT Try.prog 116 pc116 [.t 6] 15 := fun hn h => spec_of_run (fn := Try.f116) (by kernel_rfl) rfl (by kernel_rfl) (by kernel_rfl) hn h
theorem mk116 : MkT Try.prog 116 pc116 [.t 6] 15 := mr116.k
theorem mw116 : MwT Try.prog 116 pc116 [.t 6] 15 := mr116.w
-- 117 spec.SideValid
def pc117l0 : PC := .seq (.seq (.rg [(none, .mv 27 (.t 3)),
 (none, .fa 28 3 (.t 1)),
 (none, .ld 29 none (.t 28)),
 (none, .ln 30 (.t 29)),
 (none, .bi 31 .lss (.t 27) (.t 30)),
 (none, .kp [1, 3, 31])])
 (.ite (.t 31) (.sk)
 (.ex 0)))
 (.seq (.blk 1 (.seq (.rg [(none, .fa 34 3 (.t 1)),
 (none, .ld 35 none (.t 34)),
 (none, .mv 36 (.t 3)),
 (none, .ia 37 7 (.t 35) (.t 36)),
 (none, .ld 38 (some 7) (.t 37)),
 (none, .al 4 [.n .i64 0, .n .i64 0, .n .i64 0, .b false, .b false, .b false, .s []]),
 (none, .st 7 (.t 4) (.t 38)),
 (none, .kp [1, 3, 4])])
 (.seq (.dr [[], [0], [0, 1], [0, 1, 2], [0, 1, 2, 3], [0, 1, 2, 3, 4], [0, 1, 2, 3], [0, 1, 2, 3, 6], [0, 1, 2, 3], [0, 1, 2, 3, 6, 7, 8], [0, 1, 2, 3, 4, 5, 6, 7, 8, 9], [0, 1, 2, 3, 4, 5, 6, 7, 8, 9, 10], [0, 1, 2, 3, 4, 5, 6, 7, 8, 9, 10, 11], [0, 1, 2, 3, 4, 5, 6, 7, 8, 9, 10, 11, 12], [0, 1, 2, 3, 4, 5, 6, 7, 8, 9, 10, 11, 12, 13], [0, 1, 2, 3, 4, 5, 6, 7, 8, 9, 10, 11, 12], [0, 1, 2, 3, 4, 5, 6, 7, 8, 9, 10, 11, 12, 15], [0, 1, 2, 3, 4, 5, 6, 7, 8, 9, 10, 11, 12, 13, 14, 15, 16], [0, 1, 2, 3, 4, 5, 6, 7, 8, 9, 10, 11, 12, 13, 14, 15, 16, 17], [0, 1, 2, 3, 4, 5, 6, 7, 8, 9, 10, 11, 12, 13, 14, 15, 16, 17, 18], [0, 1, 2, 3, 4, 5, 6, 7, 8, 9, 10, 11, 12, 13, 14, 15, 16, 17, 18, 19], [0, 1, 2, 3, 4, 5, 6, 7, 8, 9, 10, 11, 12, 13, 14, 15, 16, 17, 18, 19, 20], [0, 1, 2, 3, 4, 5, 6, 7, 8, 9, 10, 11, 12, 13, 14, 15, 16, 17, 18, 19], [0, 1, 2, 3, 4, 5, 6, 7, 8, 9, 10, 11, 12, 13, 14, 15, 16, 17, 18, 19, 20, 21, 22], [0, 1, 2, 3, 4, 5, 6, 7, 8, 9, 10, 11, 12, 13, 14, 15, 16, 17, 18, 19], [0, 1, 2, 3, 4, 5, 6, 7, 8, 9, 10, 11, 12, 13, 14, 15, 16, 17, 18, 19, 20, 21, 22, 23, 24], [0, 1, 2, 3, 4, 5, 6, 7, 8, 9, 10, 11, 12, 13, 14, 15, 16, 17, 18, 19, 20, 21, 22, 23, 24, 25], [0, 1, 2, 3, 4, 5, 6, 7, 8, 9, 10, 11, 12, 13, 14, 15, 16, 17, 18, 19, 20, 21, 22, 23, 24, 25, 26]]
 (.q 0 (none, .ld 39 (some 7) (.t 4))
 (.alt 1 (none, .ca (some 40) 140 [.t 39]) [false]
 (.q 2 (none, .un 41 .not (.t 40))
 (.q 3 (none, .mv 42 (.t 41))
 (.q 4 (some (42, false), .fa 43 0 (.t 4))
 (.q 5 (some (42, false), .ld 44 none (.t 43))
 (.q 6 (some (42, false), .fa 45 2 (.t 1))
 (.q 7 (some (42, false), .ld 46 none (.t 45))
 (.q 8 (some (42, false), .mv 47 (.t 3))
 (.alt 9 (some (42, false), .ca (some 48) 139 [.t 46, .t 47]) [false, false, false, true, true, false, false, false]
 (.q 10 (some (42, false), .bi 49 .neq (.t 44) (.t 48))
 (.q 11 (none, .pk 50 (.t 42) (.c (.b true)) (.t 49))
 (.q 12 (none, .mv 51 (.t 50))
 (.q 13 (some (51, false), .fa 52 1 (.t 4))
 (.q 14 (some (51, false), .ld 53 none (.t 52))
 (.q 15 (some (51, false), .fa 54 1 (.t 1))
 (.q 16 (some (51, false), .ld 55 none (.t 54))
 (.q 17 (some (51, false), .bi 56 .geq (.t 53) (.t 55))
 (.q 18 (none, .pk 57 (.t 51) (.c (.b true)) (.t 56))
 (.q 19 (none, .mv 58 (.t 57))
 (.q 20 (some (58, false), .fa 59 3 (.t 1))
 (.q 21 (some (58, false), .ld 60 none (.t 59))
 (.q 22 (some (58, false), .mv 61 (.t 3))
 (.q 23 (some (58, false), .sc 62 7 (.t 60) none (some (.t 61)))
 (.q 24 (some (58, false), .ld 63 (some 7) (.t 4))
 (.alt 25 (some (58, false), .ca (some 64) 162 [.t 62, .t 63]) [false, false, false, false, false, false, false, false, false, false, false, false, false, false, false, false, false, false, false, false, false, false, false]
 (.q 26 (some (58, false), .un 65 .not (.t 64))
 (.q 27 (none, .pk 66 (.t 58) (.c (.b true)) (.t 65))
 (.done)))
 (.stop)))))))))))))))))
 (.stop)))))))))
 (.stop))) [1, 3, 66])
 (.ite (.t 66) (.seq (.rg [(none, .mv 2 (.c (.b false))),
 (none, .kp [2])])
 (.rt))
 (.sk)))))
 (.rg [(none, .mv 32 (.t 3)),
 (none, .bi 33 .add (.t 32) (.c (.n .i64 1))),
 (none, .mv 3 (.t 33)),
 (none, .kp [1, 3])]))
def pc117 : PC := .seq (.rg [(none, .bx 1 (.t 0)),
 (none, .mv 2 (.c (.b false))),
 (none, .kp [1])])
 (.seq (.seq (.rg [(none, .fa 5 0 (.t 1)),
 (none, .ld 6 none (.t 5)),
 (none, .bi 7 .eql (.t 6) (.c (.n .i64 0))),
 (none, .kp [1, 7])])
 (.ite (.t 7) (.seq (.rg [(none, .fa 8 1 (.t 1)),
 (none, .ld 9 none (.t 8)),
 (none, .bi 10 .eql (.t 9) (.c (.n .i64 0))),
 (none, .mv 11 (.t 10)),
 (some (11, true), .fa 12 2 (.t 1)),
 (some (11, true), .ld 13 none (.t 12)),
 (some (11, true), .bi 14 .eql (.t 13) (.c (.n .i64 0))),
 (none, .pk 15 (.t 11) (.t 14) (.c (.b false))),
 (none, .mv 16 (.t 15)),
 (some (16, true), .fa 17 3 (.t 1)),
 (some (16, true), .ld 18 none (.t 17)),
 (some (16, true), .ln 19 (.t 18)),
 (some (16, true), .bi 20 .eql (.t 19) (.c (.n .i64 0))),
 (none, .pk 21 (.t 16) (.t 20) (.c (.b false))),
 (none, .mv 22 (.t 21)),
 (some (22, true), .fa 23 4 (.t 1)),
 (some (22, true), .ld 24 none (.t 23)),
 (some (22, true), .bi 25 .eql (.t 24) (.c (.n .i64 0))),
 (none, .pk 26 (.t 22) (.t 25) (.c (.b false))),
 (none, .mv 2 (.t 26)),
 (none, .kp [2])])
 (.rt))
 (.sk)))
 (.seq (.seq (.rg [(none, .mv 3 (.c (.n .i64 0))),
 (none, .kp [1, 3])])
 (.blk 0 (.lp pc117l0)))
 (.seq (.rg [(none, .fa 67 0 (.t 1)),
 (none, .ld 68 none (.t 67)),
 (none, .ca (some 69) 116 [.t 68, .c (.n .i64 1), .c (.n .i64 4294967295)]),
 (none, .mv 70 (.t 69)),
 (some (70, true), .fa 71 1 (.t 1)),
 (some (70, true), .ld 72 none (.t 71)),
 (some (70, true), .ca (some 73) 116 [.t 72, .c (.n .i64 1), .c (.n .i64 4)]),
 (none, .pk 74 (.t 70) (.t 73) (.c (.b false))),
 (none, .mv 75 (.t 74)),
 (some (75, true), .fa 76 2 (.t 1)),
 (some (75, true), .ld 77 none (.t 76)),
 (some (75, true), .ca (some 78) 163 [.t 77]),
 (none, .pk 79 (.t 75) (.t 78) (.c (.b false))),
 (none, .mv 80 (.t 79)),
 (some (80, true), .fa 81 3 (.t 1)),
 (some (80, true), .ld 82 none (.t 81)),
 (some (80, true), .ln 83 (.t 82)),
 (some (80, true), .bi 84 .leq (.t 83) (.c (.n .i64 12))),
 (none, .pk 85 (.t 80) (.t 84) (.c (.b false))),
 (none, .mv 86 (.t 85)),
 (some (86, true), .fa 87 4 (.t 1)),
 (some (86, true), .ld 88 none (.t 87)),
 (some (86, true), .fa 89 3 (.t 1)),
 (some (86, true), .ld 90 none (.t 89)),
 (some (86, true), .ln 91 (.t 90)),
 (some (86, true), .ca (some 92) 116 [.t 88, .c (.n .i64 0), .t 91]),
 (none, .pk 93 (.t 86) (.t 92) (.c (.b false))),
 (none, .mv 2 (.t 93)),
 (none, .kp [2])])
 (.rt))))
theorem mr117 : MrT Try.prog 117 pc117 [.t 2] 94 := fun hn h => spec_of_run (fn := Try.f117) (by kernel_rfl) rfl (by kernel_rfl) (by kernel_rfl) hn h
theorem mk117 : MkT Try.prog 117 pc117 [.t 2] 94 := mr117.k
theorem mw117 : MwT Try.prog 117 pc117 [.t 2] 94 := mr117.w
-- 118 spec.l31Open
def pc118 : PC := .seq (.rg [(none, .mv 2 (.c (.b false))),
 (none, .kp [0])])
 (.seq (.rg [(none, .mv 3 (.t 0)),
 (none, .ca (some 4) 116 [.t 3, .c (.n .i64 3), .c (.n .i64 7)]),
 (none, .mv 2 (.t 4)),
 (none, .kp [2])])
 (.rt))
theorem mr118 : MrT Try.prog 118 pc118 [.t 2] 5 := fun hn h => spec_of_run (fn := Try.f118) (by kernel_rfl) rfl (by kernel_rfl) (by kernel_rfl) hn h
theorem mk118 : MkT Try.prog 118 pc118 [.t 2] 5 := mr118.k
theorem mw118 : MwT Try.prog 118 pc118 [.t 2] 5 := mr118.w
-- 119 spec.ChunkValid
def pc119 : PC := .seq (.rg [(none, .bx 1 (.t 0)),
 (none, .mv 2 (.c (.b false))),
 (none, .kp [1])])
 (.seq (.rg [(none, .fa 3 0 (.t 1)),
 (none, .ld 4 none (.t 3)),
 (none, .ca (some 5) 116 [.t 4, .c (.n .i64 0), .c (.n .i64 255)]),
 (none, .mv 6 (.t 5)),
 (some (6, true), .fa 7 1 (.t 1)),
 (some (6, true), .ld 8 none (.t 7)),
 (some (6, true), .ca (some 9) 116 [.t 8, .c (.n .i64 0), .c (.n .i64 255)]),
 (none, .pk 10 (.t 6) (.t 9) (.c (.b false))),
 (none, .mv 11 (.t 10)),
 (some (11, true), .fa 12 2 (.t 1)),
 (some (11, true), .ld 13 none (.t 12)),
 (some (11, true), .lS 14 (.t 13)),
 (some (11, true), .bi 15 .leq (.t 14) (.c (.n .i64 60))),
 (none, .pk 16 (.t 11) (.t 15) (.c (.b false))),
 (none, .mv 2 (.t 16)),
 (none, .kp [2])])
 (.rt))
theorem mr119 : MrT Try.prog 119 pc119 [.t 2] 17 := fun hn h => spec_of_run (fn := Try.f119) (by kernel_rfl) rfl (by kernel_rfl) (by kernel_rfl) hn h
theorem mk119 : MkT Try.prog 119 pc119 [.t 2] 17 := mr119.k
theorem mw119 : MwT Try.prog 119 pc119 [.t 2] 17 := mr119.w
-- 120 spec.PacketAlone
def pc120l0 : PC := .seq (.seq (.rg [(none, .mv 4 (.t 3)),
 (none, .fa 5 3 (.t 1)),
 (none, .ld 6 none (.t 5)),
 (none, .ln 7 (.t 6)),
 (none, .bi 8 .lss (.t 4) (.t 7)),
 (none, .kp [1, 3, 8])])
 (.ite (.t 8) (.sk)
 (.ex 0)))
 (.seq (.blk 1 (.seq (.rg [(none, .fa 11 3 (.t 1)),
 (none, .ld 12 none (.t 11)),
 (none, .mv 13 (.t 3)),
 (none, .ia 14 3 (.t 12) (.t 13)),
 (none, .fa 15 0 (.t 14)),
 (none, .ld 16 none (.t 15)),
 (none, .ca (some 17) 164 [.t 16]),
 (none, .mv 18 (.t 17)),
 (some (18, true), .fa 19 3 (.t 1)),
 (some (18, true), .ld 20 none (.t 19)),
 (some (18, true), .ln 21 (.t 20)),
 (some (18, true), .bi 22 .gtr (.t 21) (.c (.n .i64 1))),
 (none, .pk 23 (.t 18) (.t 22) (.c (.b false))),
 (none, .kp [1, 3, 23])])
 (.ite (.t 23) (.seq (.rg [(none, .mv 2 (.c (.b false))),
 (none, .kp [2])])
 (.rt))
 (.sk))))
 (.rg [(none, .mv 9 (.t 3)),
 (none, .bi 10 .add (.t 9) (.c (.n .i64 1))),
 (none, .mv 3 (.t 10)),
 (none, .kp [1, 3])]))
def pc120 : PC := .seq (.rg [(none, .bx 1 (.t 0)),
 (none, .mv 2 (.c (.b false))),
 (none, .kp [1])])
 (.seq (.seq (.rg [(none, .mv 3 (.c (.n .i64 0))),
 (none, .kp [1, 3])])
 (.blk 0 (.lp pc120l0)))
 (.seq (.rg [(none, .ld 24 (some 4) (.t 1)),
 (none, .ca (some 25) 58 [.t 24]),
 (none, .mv 2 (.t 25)),
 (none, .kp [2])])
 (.rt)))
theorem mr120 : MrT Try.prog 120 pc120 [.t 2] 26 := fun hn h => spec_of_run (fn := Try.f120) (by kernel_rfl) rfl (by kernel_rfl) (by kernel_rfl) hn h
theorem mk120 : MkT Try.prog 120 pc120 [.t 2] 26 := mr120.k
theorem mw120 : MwT Try.prog 120 pc120 [.t 2] 26 := mr120.w
-- 121 spec.l31Tag
def pc121l0 : PC := .seq (.seq (.rg [(none, .mv 10 (.t 7)),
 (none, .fa 11 3 (.t 5)),
 (none, .ld 12 none (.t 11)),
 (none, .ln 13 (.t 12)),
 (none, .bi 14 .lss (.t 10) (.t 13)),
 (none, .kp [1, 3, 5, 7, 14])])
 (.ite (.t 14) (.sk)
 (.ex 0)))
 (.seq (.blk 1 (.seq (.rg [(none, .fa 17 3 (.t 5)),
 (none, .ld 18 none (.t 17)),
 (none, .mv 19 (.t 7)),
 (none, .ia 20 3 (.t 18) (.t 19)),
 (none, .fa 21 0 (.t 20)),
 (none, .ld 22 none (.t 21)),
 (none, .bi 23 .eql (.t 22) (.c (.n .i64 1))),
 (none, .kp [1, 3, 5, 7, 23])])
 (.ite (.t 23) (.seq (.rg [(none, .mv 6 (.c (.n .i64 0))),
 (none, .kp [6])])
 (.rt))
 (.sk))))
 (.rg [(none, .mv 15 (.t 7)),
 (none, .bi 16 .add (.t 15) (.c (.n .i64 1))),
 (none, .mv 7 (.t 16)),
 (none, .kp [1, 3, 5, 7])]))
def pc121 : PC := .seq (.rg [(none, .bx 3 (.t 0)),
 (none, .bx 5 (.t 2)),
 (none, .mv 6 (.c (.n .i64 0))),
 (none, .kp [1, 3, 5])])
 (.seq (.seq (.rg [(none, .mv 7 (.c (.n .i64 0))),
 (none, .kp [1, 3, 5, 7])])
 (.blk 0 (.lp pc121l0)))
 (.seq (.rg [(none, .ld 25 (some 14) (.t 3)),
 (none, .mv 26 (.t 1)),
 (none, .ca (some 27) 165 [.t 25, .t 26]),
 (none, .mv 24 (.t 27)),
 (none, .ex 28 (.t 24) 0),
 (none, .ex 29 (.t 24) 1),
 (none, .al 8 [.n .i64 0, .n .i64 0, .n .i64 0, .nil, .n .i64 0]),
 (none, .al 9 [.n .i64 0, .n .i64 0, .n .i64 0, .nil, .n .i64 0]),
 (none, .st 5 (.t 8) (.t 28)),
 (none, .st 5 (.t 9) (.t 29)),
 (none, .kp [9])])
 (.seq (.rg [(none, .fa 30 0 (.t 9)),
 (none, .ld 31 none (.t 30)),
 (none, .mv 6 (.t 31)),
 (none, .kp [6])])
 (.rt))))
theorem mr121 : MrT Try.prog 121 pc121 [.t 6] 32 := fun hn h => spec_of_run (fn := Try.f121) (by kernel_rfl) rfl (by kernel_rfl) (by kernel_rfl) hn h
theorem mk121 : MkT Try.prog 121 pc121 [.t 6] 32 := mr121.k
theorem mw121 : MwT Try.prog 121 pc121 [.t 6] 32 := mr121.w
-- 122 spec.l31Chunk
def pc122 : PC := .seq (.rg [(none, .bx 3 (.t 0)),
 (none, .bx 5 (.t 2)),
 (none, .al 6 [.n .i64 0, .n .i64 0, .n .i64 0, .b false, .n .i64 0, .n .i64 0, .n .i64 0, .nil, .n .i64 0, .n .i64 0, .n .i64 0, .n .i64 0, .nil, .n .i64 0]),
 (none, .mv 7 (.c (.n .i64 0))),
 (none, .kp [1, 3, 5, 6])])
 (.seq (.seq (.rg [(none, .fa 8 0 (.t 5)),
 (none, .ld 9 none (.t 8)),
 (none, .kp [1, 3, 5, 6, 9])])
 (.blk 0 (.seq (.seq (.rg [(none, .bi 11 .eql (.t 9) (.c (.n .i64 1))),
 (none, .mv 10 (.t 11)),
 (none, .kp [1, 3, 5, 6, 9, 10])])
 (.ite (.t 10) (.sk)
 (.rg [(none, .bi 12 .eql (.t 9) (.c (.n .i64 2))),
 (none, .mv 10 (.t 12)),
 (none, .kp [1, 3, 5, 6, 9, 10])])))
 (.ite (.t 10) (.seq (.rg [(none, .ld 13 (some 14) (.t 3)),
 (none, .mv 14 (.t 1)),
 (none, .ld 15 (some 3) (.t 5)),
 (none, .ca (some 16) 166 [.t 13, .t 14, .t 15]),
 (none, .ex 17 (.t 16) 0),
 (none, .ex 18 (.t 16) 1),
 (none, .st 14 (.t 6) (.t 17)),
 (none, .mv 7 (.t 18)),
 (none, .kp [6, 7])])
 (.rt))
 (.seq (.rg [(none, .bi 20 .eql (.t 9) (.c (.n .i64 0))),
 (none, .mv 19 (.t 20)),
 (none, .kp [1, 3, 5, 6, 9, 19])])
 (.ite (.t 19) (.seq (.rg [(none, .ld 21 (some 14) (.t 3)),
 (none, .mv 22 (.t 1)),
 (none, .ld 23 (some 3) (.t 5)),
 (none, .ca (some 24) 167 [.t 21, .t 22, .t 23]),
 (none, .ex 25 (.t 24) 0),
 (none, .ex 26 (.t 24) 1),
 (none, .st 14 (.t 6) (.t 25)),
 (none, .mv 7 (.t 26)),
 (none, .kp [6, 7])])
 (.rt))
 (.seq (.rg [(none, .bi 28 .eql (.t 9) (.c (.n .i64 3))),
 (none, .mv 27 (.t 28)),
 (none, .kp [1, 3, 5, 6, 9, 27])])
 (.ite (.t 27) (.seq (.rg [(none, .ld 29 (some 14) (.t 3)),
 (none, .mv 30 (.t 1)),
 (none, .ld 31 (some 3) (.t 5)),
 (none, .ca (some 32) 168 [.t 29, .t 30, .t 31]),
 (none, .ex 33 (.t 32) 0),
 (none, .ex 34 (.t 32) 1),
 (none, .st 14 (.t 6) (.t 33)),
 (none, .mv 7 (.t 34)),
 (none, .kp [6, 7])])
 (.rt))
 (.seq (.seq (.rg [(none, .bi 36 .eql (.t 9) (.c (.n .i64 6))),
 (none, .mv 35 (.t 36)),
 (none, .kp [1, 3, 5, 6, 9, 35])])
 (.ite (.t 35) (.sk)
 (.seq (.rg [(none, .bi 37 .eql (.t 9) (.c (.n .i64 7))),
 (none, .mv 35 (.t 37)),
 (none, .kp [1, 3, 5, 6, 9, 35])])
 (.ite (.t 35) (.sk)
 (.seq (.rg [(none, .bi 38 .eql (.t 9) (.c (.n .i64 8))),
 (none, .mv 35 (.t 38)),
 (none, .kp [1, 3, 5, 6, 9, 35])])
 (.ite (.t 35) (.sk)
 (.rg [(none, .bi 39 .eql (.t 9) (.c (.n .i64 14))),
 (none, .mv 35 (.t 39)),
 (none, .kp [1, 3, 5, 6, 35])])))))))
 (.ite (.t 35) (.seq (.rg [(none, .ld 40 (some 14) (.t 3)),
 (none, .mv 41 (.t 1)),
 (none, .fa 42 0 (.t 5)),
 (none, .ld 43 none (.t 42)),
 (none, .ca (some 44) 169 [.t 40, .t 41, .t 43]),
 (none, .ex 45 (.t 44) 0),
 (none, .ex 46 (.t 44) 1),
 (none, .st 14 (.t 6) (.t 45)),
 (none, .mv 7 (.t 46)),
 (none, .kp [6, 7])])
 (.rt))
 (.sk)))))))))))
 (.seq (.rg [(none, .ld 47 (some 14) (.t 3)),
 (none, .mv 48 (.t 1)),
 (none, .fa 49 0 (.t 5)),
 (none, .ld 50 none (.t 49)),
 (none, .ca (some 51) 170 [.t 47, .t 48, .t 50]),
 (none, .ex 52 (.t 51) 0),
 (none, .ex 53 (.t 51) 1),
 (none, .st 14 (.t 6) (.t 52)),
 (none, .mv 7 (.t 53)),
 (none, .kp [6, 7])])
 (.rt)))
theorem mr122 : MrT Try.prog 122 pc122 [.c 6 (some 14), .t 7] 54 := fun hn h => spec_of_run (fn := Try.f122) (by kernel_rfl) rfl (by kernel_rfl) (by kernel_rfl) hn h
theorem mk122 : MkT Try.prog 122 pc122 [.c 6 (some 14), .t 7] 54 := mr122.k
theorem mw122 : MwT Try.prog 122 pc122 [.c 6 (some 14), .t 7] 54 := mr122.w
-- 123 spec.l31Side2
def pc123 : PC := .seq (.rg [(none, .bx 1 (.t 0)),
 (none, .al 2 [.n .i64 0, .n .i64 0, .n .i64 0, .nil, .n .i64 0]),
 (none, .kp [1, 2])])
 (.seq (.rg [(none, .bs 3 7 0 [.n .i64 0, .n .i64 0, .n .i64 0, .b false, .b false, .b false, .s []] []),
 (none, .fa 4 3 (.t 1)),
 (none, .ld 5 none (.t 4)),
 (none, .ap 6 7 48 (.t 3) (.t 5)),
 (none, .fa 7 3 (.t 1)),
 (none, .st 1 (.t 7) (.t 6)),
 (none, .kp [1, 2])])
 (.seq (.rg [(none, .ld 8 (some 5) (.t 1)),
 (none, .st 5 (.t 2) (.t 8)),
 (none, .kp [2])])
 (.rt)))
theorem mr123 : MrT Try.prog 123 pc123 [.c 2 (some 5)] 9 := fun hn h => spec_of_run (fn := Try.f123) (by kernel_rfl) rfl (by kernel_rfl) (by kernel_rfl) hn h
theorem mk123 : MkT Try.prog 123 pc123 [.c 2 (some 5)] 9 := mr123.k
theorem mw123 : MwT Try.prog 123 pc123 [.c 2 (some 5)] 9 := mr123.w
-- 124 laws.toDataS
def pc124l0 : PC := .seq (.seq (.rg [(none, .mv 8 (.t 4)),
 (none, .mv 9 (.t 0)),
 (none, .ln 10 (.t 9)),
 (none, .bi 11 .lss (.t 8) (.t 10)),
 (none, .kp [0, 3, 4, 11])])
 (.ite (.t 11) (.sk)
 (.ex 0)))
 (.seq (.blk 1 (.rg [(none, .mv 14 (.t 3)),
 (none, .mv 15 (.t 4)),
 (none, .mv 16 (.t 0)),
 (none, .mv 17 (.t 4)),
 (none, .ia 18 7 (.t 16) (.t 17)),
 (none, .ld 19 (some 7) (.t 18)),
 (none, .ca (some 20) 171 [.t 19]),
 (none, .ia 21 7 (.t 14) (.t 15)),
 (none, .st 7 (.t 21) (.t 20)),
 (none, .kp [0, 3, 4])]))
 (.rg [(none, .mv 12 (.t 4)),
 (none, .bi 13 .add (.t 12) (.c (.n .i64 1))),
 (none, .mv 4 (.t 13)),
 (none, .kp [0, 3, 4])]))
def pc124 : PC := .seq (.rg [(none, .mv 2 (.c .nil)),
 (none, .kp [0])])
 (.seq (.rg [(none, .mv 5 (.t 0)),
 (none, .ln 6 (.t 5)),
 (none, .mk 7 7 48 [.n .i64 0, .n .i64 0, .n .i64 0, .b false, .b false, .b false, .s []] (.t 6)),
 (none, .mv 3 (.t 7)),
 (none, .kp [0, 3])])
 (.seq (.seq (.rg [(none, .mv 4 (.c (.n .i64 0))),
 (none, .kp [0, 3, 4])])
 (.blk 0 (.lp pc124l0)))
 (.seq (.rg [(none, .mv 22 (.t 3)),
 (none, .mv 2 (.t 22)),
 (none, .kp [2])])
 (.rt))))
theorem mr124 : MrT Try.prog 124 pc124 [.t 2] 23 := fun hn h => spec_of_run (fn := Try.f124) (by kernel_rfl) rfl (by kernel_rfl) (by kernel_rfl) hn h
theorem mk124 : MkT Try.prog 124 pc124 [.t 2] 23 := mr124.k
theorem mw124 : MwT Try.prog 124 pc124 [.t 2] 23 := mr124.w
-- 125 laws.toChunk
def pc125 : PC := .seq (.rg [(none, .bx 1 (.t 0)),
 (none, .al 2 [.n .i64 0, .n .i64 0, .s []]),
 (none, .kp [1, 2])])
 (.seq (.rg [(none, .al 3 [.n .i64 0, .n .i64 0, .s []]),
 (none, .kp [1, 2, 3])])
 (.seq (.rg [(none, .fa 4 0 (.t 1)),
 (none, .ld 5 none (.t 4)),
 (none, .fa 6 0 (.t 3)),
 (none, .st 1 (.t 6) (.t 5)),
 (none, .kp [1, 2, 3])])
 (.seq (.rg [(none, .fa 7 1 (.t 1)),
 (none, .ld 8 none (.t 7)),
 (none, .fa 9 1 (.t 3)),
 (none, .st 1 (.t 9) (.t 8)),
 (none, .kp [1, 2, 3])])
 (.seq (.rg [(none, .fa 10 2 (.t 1)),
 (none, .ld 11 none (.t 10)),
 (none, .fa 12 2 (.t 3)),
 (none, .st 1 (.t 12) (.t 11)),
 (none, .kp [2, 3])])
 (.seq (.rg [(none, .ld 13 (some 3) (.t 3)),
 (none, .st 3 (.t 2) (.t 13)),
 (none, .kp [2])])
 (.rt))))))
theorem mr125 : MrT Try.prog 125 pc125 [.c 2 (some 3)] 14 := fun hn h => spec_of_run (fn := Try.f125) (by kernel_rfl) rfl (by kernel_rfl) (by kernel_rfl) hn h
theorem mk125 : MkT Try.prog 125 pc125 [.c 2 (some 3)] 14 := mr125.k
theorem mw125 : MwT Try.prog 125 pc125 [.c 2 (some 3)] 14 := mr125.w
-- 126 impl.ChunkValid
def pc126 : PC := .seq (.rg [(none, .bx 1 (.t 0)),
 (none, .mv 2 (.c (.b false))),
 (none, .kp [1])])
 (.seq (.rg [(none, .fa 3 0 (.t 1)),
 (none, .ld 4 none (.t 3)),
 (none, .bi 5 .geq (.t 4) (.c (.n .i64 0))),
 (none, .mv 6 (.t 5)),
 (some (6, true), .fa 7 0 (.t 1)),
 (some (6, true), .ld 8 none (.t 7)),
 (some (6, true), .bi 9 .leq (.t 8) (.c (.n .i64 255))),
 (none, .pk 10 (.t 6) (.t 9) (.c (.b false))),
 (none, .mv 11 (.t 10)),
 (some (11, true), .fa 12 1 (.t 1)),
 (some (11, true), .ld 13 none (.t 12)),
 (some (11, true), .bi 14 .geq (.t 13) (.c (.n .i64 0))),
 (none, .pk 15 (.t 11) (.t 14) (.c (.b false))),
 (none, .mv 16 (.t 15)),
 (some (16, true), .fa 17 1 (.t 1)),
 (some (16, true), .ld 18 none (.t 17)),
 (some (16, true), .bi 19 .leq (.t 18) (.c (.n .i64 255))),
 (none, .pk 20 (.t 16) (.t 19) (.c (.b false))),
 (none, .mv 21 (.t 20)),
 (some (21, true), .fa 22 2 (.t 1)),
 (some (21, true), .ld 23 none (.t 22)),
 (some (21, true), .lS 24 (.t 23)),
 (some (21, true), .bi 25 .leq (.t 24) (.c (.n .i64 60))),
 (none, .pk 26 (.t 21) (.t 25) (.c (.b false))),
 (none, .mv 2 (.t 26)),
 (none, .kp [2])])
 (.rt))
theorem mr126 : MrT Try.prog 126 pc126 [.t 2] 27 := fun hn h => spec_of_run (fn := Try.f126) (by kernel_rfl) rfl (by kernel_rfl) (by kernel_rfl) hn h
theorem mk126 : MkT Try.prog 126 pc126 [.t 2] 27 := mr126.k
theorem mw126 : MwT Try.prog 126 pc126 [.t 2] 27 := mr126.w
-- 127 (*impl.Assoc).greet
def pc127 : PC := .seq (.rg [(none, .bx 5 (.t 1)),
 (none, .mv 8 (.c (.n .i64 0))),
 (none, .kp [0, 2, 3, 5])])
 (.seq (.seq (.rg [(none, .mv 13 (.t 2)),
 (none, .fa 14 0 (.t 5)),
 (none, .ld 15 none (.t 14)),
 (none, .bi 16 .eql (.t 15) (.c (.n .i64 2))),
 (none, .bb 17 true (.t 13) (.t 16)),
 (none, .kp [0, 2, 3, 5, 17])])
 (.ite (.t 17) (.seq (.rg [(none, .mv 8 (.c (.n .i64 3))),
 (none, .kp [8])])
 (.rt))
 (.sk)))
 (.seq (.rg [(none, .mv 9 (.c (.n .i64 0))),
 (none, .mv 10 (.c (.n .i64 2))),
 (none, .kp [0, 2, 3, 5, 9, 10])])
 (.seq (.seq (.rg [(none, .mv 18 (.t 2)),
 (none, .kp [0, 3, 5, 9, 10, 18])])
 (.ite (.t 18) (.rg [(none, .mv 9 (.c (.n .i64 1))),
 (none, .kp [0, 3, 5, 9, 10])])
 (.sk)))
 (.seq (.seq (.rg [(none, .mv 19 (.t 0)),
 (none, .nc 20 (.t 19)),
 (none, .fa 21 2 (.t 20)),
 (none, .ld 22 none (.t 21)),
 (none, .mv 23 (.t 9)),
 (none, .bi 24 .lss (.t 22) (.t 23)),
 (none, .mv 25 (.t 24)),
 (some (25, false), .mv 26 (.t 0)),
 (some (25, false), .nc 27 (.t 26)),
 (some (25, false), .fa 28 2 (.t 27)),
 (some (25, false), .ld 29 none (.t 28)),
 (some (25, false), .mv 30 (.t 10)),
 (some (25, false), .bi 31 .gtr (.t 29) (.t 30)),
 (none, .pk 32 (.t 25) (.c (.b true)) (.t 31)),
 (none, .kp [0, 3, 5, 9, 32])])
 (.ite (.t 32) (.seq (.rg [(none, .mv 8 (.c (.n .i64 3))),
 (none, .kp [8])])
 (.rt))
 (.sk)))
 (.seq (.rg [(none, .ld 34 (some 3) (.t 5)),
 (none, .ca (some 35) 107 [.t 34]),
 (none, .mv 33 (.t 35)),
 (none, .ex 36 (.t 33) 0),
 (none, .ex 37 (.t 33) 1),
 (none, .al 11 [.n .i64 0, .n .i64 0, .n .i64 0, .n .i64 0]),
 (none, .st 4 (.t 11) (.t 36)),
 (none, .mv 12 (.t 37)),
 (none, .kp [0, 3, 9, 11, 12])])
 (.seq (.seq (.rg [(none, .mv 38 (.t 12)),
 (none, .un 39 .not (.t 38)),
 (none, .kp [0, 3, 9, 11, 39])])
 (.ite (.t 39) (.seq (.rg [(none, .mv 8 (.c (.n .i64 4))),
 (none, .kp [8])])
 (.rt))
 (.sk)))
 (.seq (.seq (.rg [(none, .mv 40 (.t 0)),
 (none, .nc 41 (.t 40)),
 (none, .fa 42 2 (.t 41)),
 (none, .ld 43 none (.t 42)),
 (none, .mv 44 (.t 9)),
 (none, .bi 45 .eql (.t 43) (.t 44)),
 (none, .kp [0, 3, 11, 45])])
 (.ite (.t 45) (.seq (.rg [(none, .mv 46 (.t 0)),
 (none, .nc 47 (.t 46)),
 (none, .fa 48 2 (.t 47)),
 (none, .ld 49 none (.t 48)),
 (none, .bi 50 .add (.t 49) (.c (.n .i64 1))),
 (none, .nc 51 (.t 46)),
 (none, .fa 52 2 (.t 51)),
 (none, .st 1 (.t 52) (.t 50)),
 (none, .kp [3, 11])])
 (.seq (.dr [[], [], [], [], [3], [], [5], [], [7], [0, 3, 4], [0, 3, 4, 9], [0, 3, 4, 9, 10], [0, 1, 3, 4, 5, 6, 9, 10, 11], [0, 1, 3, 4, 5, 6, 9, 10, 11, 12], [0, 1, 3, 4, 5, 6, 9, 10, 11, 12, 13], [0, 1, 2, 3, 4, 5, 6, 7, 8, 9, 10, 11, 12, 13, 14], [0, 1, 2, 3, 4, 5, 6, 7, 8, 9, 10, 11, 12, 13, 14, 15], [0, 1, 2, 3, 4, 5, 6, 7, 8, 9, 10, 11, 12, 13, 14, 15, 16]]
 (.q 0 (none, .mv 53 (.t 3))
 (.q 1 (none, .mv 54 (.t 3))
 (.q 2 (none, .mv 55 (.t 3))
 (.q 3 (none, .fa 56 0 (.t 11))
 (.q 4 (none, .ld 57 none (.t 56))
 (.q 5 (none, .fa 58 2 (.t 11))
 (.q 6 (none, .ld 59 none (.t 58))
 (.q 7 (none, .fa 60 3 (.t 11))
 (.q 8 (none, .ld 61 none (.t 60))
 (.q 9 (none, .nc 62 (.t 53))
 (.q 10 (none, .fa 63 0 (.t 62))
 (.alt 11 (none, .st 1 (.t 63) (.t 57)) [false, true, true, false, false, true, true, true, true, false, false]
 (.q 12 (none, .nc 64 (.t 54))
 (.q 13 (none, .fa 65 1 (.t 64))
 (.alt 14 (none, .st 1 (.t 65) (.t 59)) [false, false, true, false, false, false, false, true, true, false, false, false, false]
 (.q 15 (none, .nc 66 (.t 55))
 (.q 16 (none, .fa 67 2 (.t 66))
 (.alt 17 (none, .st 1 (.t 67) (.t 61)) [false, false, false, false, false, false, false, false, false, false, false, false, false, false, false]
 (.done)
 (.stop))))
 (.stop))))
 (.stop))))))))))))) [])
 (.seq (.rg [(none, .mv 8 (.c (.n .i64 0))),
 (none, .kp [8])])
 (.rt))))
 (.sk)))
 (.seq (.seq (.dr [[], [0], [], [2], [2, 3], [2, 3, 4], [0, 1, 2, 3, 4, 5], [0, 1, 2, 3, 4, 5, 6], [0, 1, 2, 3, 4, 5, 6, 7], [0, 1, 2, 3, 4, 5, 6, 7, 8], [0, 1, 2, 3, 4, 5, 6, 7], [0, 1, 2, 3, 4, 5, 6, 7, 10], [0, 1, 2, 3, 4, 5, 6, 7, 10, 11], [0, 1, 2, 3, 4, 5, 6, 7, 10, 11, 12], [0, 1, 2, 3, 4, 5, 6, 7, 8, 9, 10, 11, 12, 13], [0, 1, 2, 3, 4, 5, 6, 7, 8, 9, 10, 11, 12, 13, 14], [0, 1, 2, 3, 4, 5, 6, 7, 8, 9, 10, 11, 12, 13, 14, 15], [0, 1, 2, 3, 4, 5, 6, 7, 8, 9, 10, 11, 12, 13, 14, 15, 16], [0, 1, 2, 3, 4, 5, 6, 7, 8, 9, 10, 11, 12, 13, 14, 15, 16, 17], [0, 1, 2, 3, 4, 5, 6, 7, 8, 9, 10, 11, 12, 13, 14, 15, 16], [0, 1, 2, 3, 4, 5, 6, 7, 8, 9, 10, 11, 12, 13, 14, 15, 16, 19], [0, 1, 2, 3, 4, 5, 6, 7, 8, 9, 10, 11, 12, 13, 14, 15, 16, 19, 20], [0, 1, 2, 3, 4, 5, 6, 7, 8, 9, 10, 11, 12, 13, 14, 15, 16, 19, 20, 21], [0, 1, 2, 3, 4, 5, 6, 7, 8, 9, 10, 11, 12, 13, 14, 15, 16, 17, 18, 19, 20, 21, 22], [0, 1, 2, 3, 4, 5, 6, 7, 8, 9, 10, 11, 12, 13, 14, 15, 16, 17, 18, 19, 20, 21, 22, 23]]
 (.q 0 (none, .fa 68 0 (.t 11))
 (.q 1 (none, .ld 69 none (.t 68))
 (.q 2 (none, .mv 70 (.t 3))
 (.q 3 (none, .nc 71 (.t 70))
 (.q 4 (none, .fa 72 0 (.t 71))
 (.q 5 (none, .ld 73 none (.t 72))
 (.q 6 (none, .bi 74 .neq (.t 69) (.t 73))
 (.q 7 (none, .mv 75 (.t 74))
 (.q 8 (some (75, false), .fa 76 2 (.t 11))
 (.q 9 (some (75, false), .ld 77 none (.t 76))
 (.q 10 (some (75, false), .mv 78 (.t 3))
 (.q 11 (some (75, false), .nc 79 (.t 78))
 (.q 12 (some (75, false), .fa 80 1 (.t 79))
 (.q 13 (some (75, false), .ld 81 none (.t 80))
 (.q 14 (some (75, false), .bi 82 .neq (.t 77) (.t 81))
 (.q 15 (none, .pk 83 (.t 75) (.c (.b true)) (.t 82))
 (.q 16 (none, .mv 84 (.t 83))
 (.q 17 (some (84, false), .fa 85 3 (.t 11))
 (.q 18 (some (84, false), .ld 86 none (.t 85))
 (.q 19 (some (84, false), .mv 87 (.t 3))
 (.q 20 (some (84, false), .nc 88 (.t 87))
 (.q 21 (some (84, false), .fa 89 2 (.t 88))
 (.q 22 (some (84, false), .ld 90 none (.t 89))
 (.q 23 (some (84, false), .bi 91 .neq (.t 86) (.t 90))
 (.q 24 (none, .pk 92 (.t 84) (.c (.b true)) (.t 91))
 (.done)))))))))))))))))))))))))) [92])
 (.ite (.t 92) (.seq (.rg [(none, .mv 8 (.c (.n .i64 7))),
 (none, .kp [8])])
 (.rt))
 (.sk)))
 (.seq (.rg [(none, .mv 8 (.c (.n .i64 0))),
 (none, .kp [8])])
 (.rt))))))))))
theorem mr127 : MrT Try.prog 127 pc127 [.t 8] 93 := fun hn h => spec_of_run (fn := Try.f127) (by kernel_rfl) rfl (by kernel_rfl) (by kernel_rfl) hn h
theorem mk127 : MkT Try.prog 127 pc127 [.t 8] 93 := mr127.k
theorem mw127 : MwT Try.prog 127 pc127 [.t 8] 93 := mr127.w
-- 128 (*impl.Assoc).take
def pc128 : PC := .seq (.rg [(none, .bx 4 (.t 1)),
 (none, .mv 6 (.c (.n .i64 0))),
 (none, .kp [0, 2, 4])])
 (.seq (.rg [(none, .ld 11 (some 3) (.t 4)),
 (none, .ca (some 12) 172 [.t 11]),
 (none, .mv 10 (.t 12)),
 (none, .ex 13 (.t 10) 0),
 (none, .ex 14 (.t 10) 1),
 (none, .al 7 [.n .i64 0, .n .i64 0, .n .i64 0, .b false, .b false, .b false, .s []]),
 (none, .st 7 (.t 7) (.t 13)),
 (none, .mv 8 (.t 14)),
 (none, .kp [0, 2, 7, 8])])
 (.seq (.seq (.rg [(none, .mv 15 (.t 8)),
 (none, .un 16 .not (.t 15)),
 (none, .kp [0, 2, 7, 16])])
 (.ite (.t 16) (.seq (.rg [(none, .mv 6 (.c (.n .i64 4))),
 (none, .kp [6])])
 (.rt))
 (.sk)))
 (.seq (.dr [[], [0], [], [2], [2, 3], [2, 3, 4], [0, 1, 2, 3, 4, 5], [0, 1, 2, 3, 4, 5, 6], [0, 1, 2, 3, 4, 5, 6, 7], [0, 1, 2, 3, 4, 5, 6, 7, 8]]
 (.q 0 (none, .fa 17 0 (.t 7))
 (.q 1 (none, .ld 18 none (.t 17))
 (.q 2 (none, .mv 19 (.t 2))
 (.q 3 (none, .nc 20 (.t 19))
 (.q 4 (none, .fa 21 2 (.t 20))
 (.q 5 (none, .ld 22 none (.t 21))
 (.q 6 (none, .bi 23 .sub (.t 18) (.t 22))
 (.q 7 (none, .bi 24 .add (.t 23) (.c (.n .i64 65536)))
 (.q 8 (none, .bi 25 .rem (.t 24) (.c (.n .i64 65536)))
 (.q 9 (none, .mv 9 (.t 25))
 (.done))))))))))) [0, 2, 7, 9])
 (.seq (.seq (.rg [(none, .mv 26 (.t 9)),
 (none, .mv 27 (.t 2)),
 (none, .nc 28 (.t 27)),
 (none, .fa 29 3 (.t 28)),
 (none, .ld 30 none (.t 29)),
 (none, .ln 31 (.t 30)),
 (none, .bi 32 .lss (.t 26) (.t 31)),
 (none, .kp [0, 2, 7, 9, 32])])
 (.ite (.t 32) (.seq (.seq (.dr [[], [0], [0, 1], [0, 1, 2], [], [0, 1, 2, 3, 4], [0, 1, 2, 3, 4, 5], [], [0, 1, 2, 3, 4, 5, 6, 7]]
 (.q 0 (none, .mv 33 (.t 2))
 (.q 1 (none, .nc 34 (.t 33))
 (.q 2 (none, .fa 35 3 (.t 34))
 (.q 3 (none, .ld 36 none (.t 35))
 (.q 4 (none, .mv 37 (.t 9))
 (.q 5 (none, .ia 38 7 (.t 36) (.t 37))
 (.q 6 (none, .ld 39 (some 7) (.t 38))
 (.q 7 (none, .ld 40 (some 7) (.t 7))
 (.q 8 (none, .eqs 41 true [.n .i64 0, .n .i64 0, .n .i64 0, .b false, .b false, .b false, .s []] (.t 39) (.t 40))
 (.done)))))))))) [41])
 (.ite (.t 41) (.seq (.rg [(none, .mv 6 (.c (.n .i64 7))),
 (none, .kp [6])])
 (.rt))
 (.sk)))
 (.seq (.rg [(none, .mv 6 (.c (.n .i64 0))),
 (none, .kp [6])])
 (.rt)))
 (.sk)))
 (.seq (.blk 0 (.seq (.rg [(none, .mv 43 (.t 0)),
 (none, .nc 44 (.t 43)),
 (none, .fa 45 2 (.t 44)),
 (none, .ld 46 none (.t 45)),
 (none, .bi 47 .eql (.t 46) (.c (.n .i64 5))),
 (none, .mv 42 (.t 47)),
 (none, .kp [2, 7, 9, 42])])
 (.ite (.t 42) (.seq (.rg [(none, .mv 6 (.c (.n .i64 3))),
 (none, .kp [6])])
 (.rt))
 (.seq (.dr [[], [0], [], [2], [2, 3], [2, 3, 4], [0, 1, 2, 3, 4, 5], [0, 1, 2, 3, 4, 5, 6]]
 (.q 0 (none, .fa 49 1 (.t 7))
 (.q 1 (none, .ld 50 none (.t 49))
 (.q 2 (none, .mv 51 (.t 2))
 (.q 3 (none, .nc 52 (.t 51))
 (.q 4 (none, .fa 53 1 (.t 52))
 (.q 5 (none, .ld 54 none (.t 53))
 (.q 6 (none, .bi 55 .geq (.t 50) (.t 54))
 (.q 7 (none, .mv 48 (.t 55))
 (.done))))))))) [2, 7, 9, 48])
 (.ite (.t 48) (.seq (.rg [(none, .mv 6 (.c (.n .i64 5))),
 (none, .kp [6])])
 (.rt))
 (.seq (.rg [(none, .mv 57 (.t 9)),
 (none, .mv 58 (.t 2)),
 (none, .nc 59 (.t 58)),
 (none, .fa 60 3 (.t 59)),
 (none, .ld 61 none (.t 60)),
 (none, .ln 62 (.t 61)),
 (none, .bi 63 .gtr (.t 57) (.t 62)),
 (none, .mv 56 (.t 63)),
 (none, .kp [2, 7, 56])])
 (.ite (.t 56) (.seq (.rg [(none, .mv 6 (.c (.n .i64 6))),
 (none, .kp [6])])
 (.rt))
 (.seq (.dr [[], [0], [0, 1], [0, 1, 2], [], [0, 1, 2, 3, 4], [0, 1, 2, 3, 4, 5], [0, 1, 2, 3, 4, 5, 6]]
 (.q 0 (none, .mv 65 (.t 2))
 (.q 1 (none, .nc 66 (.t 65))
 (.q 2 (none, .fa 67 3 (.t 66))
 (.q 3 (none, .ld 68 none (.t 67))
 (.q 4 (none, .ld 69 (some 7) (.t 7))
 (.alt 5 (none, .ca (some 70) 112 [.t 68, .t 69]) [false, false, false, false, false]
 (.q 6 (none, .un 71 .not (.t 70))
 (.q 7 (none, .mv 64 (.t 71))
 (.done)))
 (.stop))))))) [2, 7, 64])
 (.ite (.t 64) (.seq (.rg [(none, .mv 6 (.c (.n .i64 8))),
 (none, .kp [6])])
 (.rt))
 (.seq (.rg [(none, .mv 73 (.t 2)),
 (none, .nc 74 (.t 73)),
 (none, .fa 75 3 (.t 74)),
 (none, .ld 76 none (.t 75)),
 (none, .ln 77 (.t 76)),
 (none, .bi 78 .geq (.t 77) (.c (.n .i64 12))),
 (none, .mv 72 (.t 78)),
 (none, .kp [2, 7, 72])])
 (.ite (.t 72) (.seq (.rg [(none, .mv 6 (.c (.n .i64 11))),
 (none, .kp [6])])
 (.rt))
 (.sk))))))))))))
 (.seq (.dr [[], [], [1], [1, 2], [1, 2, 3], [], [5], [1, 2, 3, 4, 5, 6], [0, 1, 2, 3, 4, 5, 6, 7], [0, 1, 2, 3, 4, 5, 6, 7, 8], [0, 1, 2, 3, 4, 5, 6, 7, 8, 9]]
 (.q 0 (none, .mv 79 (.t 2))
 (.q 1 (none, .mv 80 (.t 2))
 (.q 2 (none, .nc 81 (.t 80))
 (.q 3 (none, .fa 82 3 (.t 81))
 (.q 4 (none, .ld 83 none (.t 82))
 (.q 5 (none, .ld 84 (some 7) (.t 7))
 (.alt 6 (none, .bs 85 7 1 [.n .i64 0, .n .i64 0, .n .i64 0, .b false, .b false, .b false, .s []] [(0, .t 84)]) [true, true, true, true, true, false]
 (.alt 7 (none, .ap 86 7 48 (.t 83) (.t 85)) [true, false, false, false, false, false]
 (.q 8 (none, .nc 87 (.t 79))
 (.q 9 (none, .fa 88 3 (.t 87))
 (.alt 10 (none, .st 1 (.t 88) (.t 86)) [false, false, false, false, false, false, false, false]
 (.done)
 (.stop))))
 (.stop))
 (.stop)))))))) [])
 (.seq (.rg [(none, .mv 6 (.c (.n .i64 0))),
 (none, .kp [6])])
 (.rt))))))))
theorem mr128 : MrT Try.prog 128 pc128 [.t 6] 89 := fun hn h => spec_of_run (fn := Try.f128) (by kernel_rfl) rfl (by kernel_rfl) (by kernel_rfl) hn h
theorem mk128 : MkT Try.prog 128 pc128 [.t 6] 89 := mr128.k
theorem mw128 : MwT Try.prog 128 pc128 [.t 6] 89 := mr128.w
-- 129 impl.acknowledge
def pc129 : PC := .seq (.rg [(none, .bx 2 (.t 0)),
 (none, .mv 4 (.c (.n .i64 0))),
 (none, .kp [1, 2])])
 (.seq (.rg [(none, .ld 10 (some 3) (.t 2)),
 (none, .ca (some 11) 173 [.t 10]),
 (none, .mv 9 (.t 11)),
 (none, .ex 12 (.t 9) 0),
 (none, .ex 13 (.t 9) 1),
 (none, .al 5 [.n .i64 0, .nil]),
 (none, .st 2 (.t 5) (.t 12)),
 (none, .mv 6 (.t 13)),
 (none, .kp [1, 5, 6])])
 (.seq (.seq (.rg [(none, .mv 14 (.t 6)),
 (none, .un 15 .not (.t 14)),
 (none, .kp [1, 5, 15])])
 (.ite (.t 15) (.seq (.rg [(none, .mv 4 (.c (.n .i64 4))),
 (none, .kp [4])])
 (.rt))
 (.sk)))
 (.seq (.dr [[], [0], [0, 1], [0, 1, 2], [0, 1, 2, 3], [], [5], [0, 1, 2, 3, 4, 5, 6], [0, 1, 2, 3, 4, 5, 6, 7]]
 (.q 0 (none, .mv 16 (.t 1))
 (.q 1 (none, .nc 17 (.t 16))
 (.q 2 (none, .fa 18 2 (.t 17))
 (.q 3 (none, .ld 19 none (.t 18))
 (.q 5 (none, .fa 21 0 (.t 5))
 (.q 6 (none, .ld 22 none (.t 21))
 (.alt 4 (none, .ca (some 20) 111 [.t 19, .c (.n .i64 (-1))]) [false, false, false, false, true, true]
 (.alt 7 (none, .ca (some 23) 174 [.t 20, .t 22]) [false, false, false, false, false, false]
 (.q 8 (none, .mv 7 (.t 23))
 (.done))
 (.stop))
 (.stop)))))))) [1, 5, 7])
 (.seq (.seq (.rg [(none, .mv 24 (.t 7)),
 (none, .bi 25 .lss (.t 24) (.c (.n .i64 0))),
 (none, .mv 26 (.t 25)),
 (some (26, false), .mv 27 (.t 7)),
 (some (26, false), .mv 28 (.t 1)),
 (some (26, false), .nc 29 (.t 28)),
 (some (26, false), .fa 30 3 (.t 29)),
 (some (26, false), .ld 31 none (.t 30)),
 (some (26, false), .ln 32 (.t 31)),
 (some (26, false), .bi 33 .gtr (.t 27) (.t 32)),
 (none, .pk 34 (.t 26) (.c (.b true)) (.t 33)),
 (none, .kp [1, 5, 7, 34])])
 (.ite (.t 34) (.seq (.rg [(none, .mv 4 (.c (.n .i64 9))),
 (none, .kp [4])])
 (.rt))
 (.sk)))
 (.seq (.seq (.rg [(none, .fa 35 1 (.t 5)),
 (none, .ld 36 none (.t 35)),
 (none, .ln 37 (.t 36)),
 (none, .mv 8 (.t 37)),
 (none, .kp [1, 5, 7, 8])])
 (.seq (.dr [[], [0], [0, 1], [0, 1, 2], [0, 1, 2], [0, 1, 2, 4], [0, 1, 2], [0, 1, 2, 6], [0, 1, 2, 4, 5, 6, 7], [0, 1, 2, 4, 5, 6, 7, 8], [0, 1, 2, 4, 5, 6, 7, 8, 9], [0, 1, 2, 3, 4, 5, 6, 7, 8, 9, 10], [0, 1, 2], [0, 1, 2, 12], [0, 1, 2, 12, 13], [0, 1, 2, 12, 13, 14], [0, 1, 2, 12, 13, 14, 15], [0, 1, 2, 3, 4, 5, 6, 7, 8, 9, 10, 11, 12, 13, 14, 15, 16], [0, 1, 2, 3, 4, 5, 6, 7, 8, 9, 10, 11, 12, 13, 14, 15, 16, 17]]
 (.q 0 (none, .mv 38 (.t 8))
 (.q 1 (none, .bi 39 .gtr (.t 38) (.c (.n .i64 0)))
 (.q 2 (none, .mv 40 (.t 39))
 (.q 3 (some (40, true), .mv 41 (.t 7))
 (.q 4 (some (40, true), .fa 42 1 (.t 5))
 (.q 5 (some (40, true), .ld 43 none (.t 42))
 (.q 6 (some (40, true), .mv 44 (.t 8))
 (.q 7 (some (40, true), .bi 45 .sub (.t 44) (.c (.n .i64 1)))
 (.q 8 (some (40, true), .ia 46 2 (.t 43) (.t 45))
 (.q 9 (some (40, true), .fa 47 1 (.t 46))
 (.q 10 (some (40, true), .ld 48 none (.t 47))
 (.q 11 (some (40, true), .bi 49 .add (.t 41) (.t 48))
 (.q 12 (some (40, true), .mv 50 (.t 1))
 (.q 13 (some (40, true), .nc 51 (.t 50))
 (.q 14 (some (40, true), .fa 52 3 (.t 51))
 (.q 15 (some (40, true), .ld 53 none (.t 52))
 (.q 16 (some (40, true), .ln 54 (.t 53))
 (.q 17 (some (40, true), .bi 55 .gtr (.t 49) (.t 54))
 (.q 18 (none, .pk 56 (.t 40) (.t 55) (.c (.b false)))
 (.done)))))))))))))))))))) [1, 7, 56])
 (.ite (.t 56) (.seq (.rg [(none, .mv 4 (.c (.n .i64 9))),
 (none, .kp [4])])
 (.rt))
 (.sk))))
 (.seq (.rg [(none, .mv 57 (.t 1)),
 (none, .mv 58 (.t 1)),
 (none, .nc 59 (.t 58)),
 (none, .fa 60 4 (.t 59)),
 (none, .ld 61 none (.t 60)),
 (none, .mv 62 (.t 7)),
 (none, .mx 63 (.t 61) (.t 62)),
 (none, .nc 64 (.t 57)),
 (none, .fa 65 4 (.t 64)),
 (none, .st 1 (.t 65) (.t 63)),
 (none, .kp [])])
 (.seq (.rg [(none, .mv 4 (.c (.n .i64 0))),
 (none, .kp [4])])
 (.rt))))))))
theorem mr129 : MrT Try.prog 129 pc129 [.t 4] 66 := fun hn h => spec_of_run (fn := Try.f129) (by kernel_rfl) rfl (by kernel_rfl) (by kernel_rfl) hn h
theorem mk129 : MkT Try.prog 129 pc129 [.t 4] 66 := mr129.k
theorem mw129 : MwT Try.prog 129 pc129 [.t 4] 66 := mr129.w
-- 130 laws.eqDataS
def pc130l0 : PC := .seq (.seq (.rg [(none, .mv 11 (.t 5)),
 (none, .mv 12 (.t 0)),
 (none, .ln 13 (.t 12)),
 (none, .bi 14 .lss (.t 11) (.t 13)),
 (none, .kp [0, 1, 5, 14])])
 (.ite (.t 14) (.sk)
 (.ex 0)))
 (.seq (.blk 1 (.seq (.dr [[], [], [0, 1], [0, 1, 2], [], [], [4, 5], [4, 5, 6], [0, 1, 2, 3, 4, 5, 6, 7], [0, 1, 2, 3, 4, 5, 6, 7, 8]]
 (.q 0 (none, .mv 17 (.t 0))
 (.q 1 (none, .mv 18 (.t 5))
 (.q 2 (none, .ia 19 7 (.t 17) (.t 18))
 (.q 3 (none, .ld 20 (some 7) (.t 19))
 (.q 4 (none, .mv 21 (.t 1))
 (.q 5 (none, .mv 22 (.t 5))
 (.q 6 (none, .ia 23 7 (.t 21) (.t 22))
 (.q 7 (none, .ld 24 (some 7) (.t 23))
 (.alt 8 (none, .ca (some 25) 175 [.t 20, .t 24]) [false, false, false, false, false, false, false, false]
 (.q 9 (none, .un 26 .not (.t 25))
 (.done))
 (.stop)))))))))) [0, 1, 5, 26])
 (.ite (.t 26) (.seq (.rg [(none, .mv 4 (.c (.b false))),
 (none, .kp [4])])
 (.rt))
 (.sk))))
 (.rg [(none, .mv 15 (.t 5)),
 (none, .bi 16 .add (.t 15) (.c (.n .i64 1))),
 (none, .mv 5 (.t 16)),
 (none, .kp [0, 1, 5])]))
def pc130 : PC := .seq (.rg [(none, .mv 4 (.c (.b false))),
 (none, .kp [0, 1])])
 (.seq (.seq (.rg [(none, .mv 6 (.t 0)),
 (none, .ln 7 (.t 6)),
 (none, .mv 8 (.t 1)),
 (none, .ln 9 (.t 8)),
 (none, .bi 10 .neq (.t 7) (.t 9)),
 (none, .kp [0, 1, 10])])
 (.ite (.t 10) (.seq (.rg [(none, .mv 4 (.c (.b false))),
 (none, .kp [4])])
 (.rt))
 (.sk)))
 (.seq (.seq (.rg [(none, .mv 5 (.c (.n .i64 0))),
 (none, .kp [0, 1, 5])])
 (.blk 0 (.lp pc130l0)))
 (.seq (.rg [(none, .mv 4 (.c (.b true))),
 (none, .kp [4])])
 (.rt))))
theorem mr130 : MrT Try.prog 130 pc130 [.t 4] 27 := fun hn h => spec_of_run (fn := Try.f130) (by kernel_rfl) rfl (by kernel_rfl) (by kernel_rfl) hn h
theorem mk130 : MkT Try.prog 130 pc130 [.t 4] 27 := mr130.k
theorem mw130 : MwT Try.prog 130 pc130 [.t 4] 27 := mr130.w
-- 131 laws.eqChunk
def pc131 : PC := .seq (.rg [(none, .bx 2 (.t 0)),
 (none, .bx 3 (.t 1)),
 (none, .mv 4 (.c (.b false))),
 (none, .kp [2, 3])])
 (.seq (.seq (.rg [(none, .fa 5 0 (.t 2)),
 (none, .ld 6 none (.t 5)),
 (none, .fa 7 0 (.t 3)),
 (none, .ld 8 none (.t 7)),
 (none, .bi 9 .neq (.t 6) (.t 8)),
 (none, .kp [2, 3, 9])])
 (.ite (.t 9) (.seq (.rg [(none, .mv 4 (.c (.b false))),
 (none, .kp [4])])
 (.rt))
 (.sk)))
 (.seq (.seq (.rg [(none, .fa 10 1 (.t 2)),
 (none, .ld 11 none (.t 10)),
 (none, .fa 12 1 (.t 3)),
 (none, .ld 13 none (.t 12)),
 (none, .bi 14 .neq (.t 11) (.t 13)),
 (none, .kp [2, 3, 14])])
 (.ite (.t 14) (.seq (.rg [(none, .mv 4 (.c (.b false))),
 (none, .kp [4])])
 (.rt))
 (.sk)))
 (.seq (.seq (.rg [(none, .fa 15 2 (.t 2)),
 (none, .ld 16 none (.t 15)),
 (none, .fa 17 2 (.t 3)),
 (none, .ld 18 none (.t 17)),
 (none, .bi 19 .neq (.t 16) (.t 18)),
 (none, .kp [19])])
 (.ite (.t 19) (.seq (.rg [(none, .mv 4 (.c (.b false))),
 (none, .kp [4])])
 (.rt))
 (.sk)))
 (.seq (.rg [(none, .mv 4 (.c (.b true))),
 (none, .kp [4])])
 (.rt)))))
theorem mr131 : MrT Try.prog 131 pc131 [.t 4] 20 := fun hn h => spec_of_run (fn := Try.f131) (by kernel_rfl) rfl (by kernel_rfl) (by kernel_rfl) hn h
theorem mk131 : MkT Try.prog 131 pc131 [.t 4] 20 := mr131.k
theorem mw131 : MwT Try.prog 131 pc131 [.t 4] 20 := mr131.w
-- 132 laws.markDataS
def pc132l0 : PC := .seq (.seq (.rg [(none, .mv 6 (.t 5)),
 (none, .mv 7 (.t 0)),
 (none, .ln 8 (.t 7)),
 (none, .bi 9 .lss (.t 6) (.t 8)),
 (none, .kp [0, 1, 5, 9])])
 (.ite (.t 9) (.sk)
 (.ex 0)))
 (.seq (.blk 1 (.seq (.rg [(none, .mv 12 (.t 0)),
 (none, .mv 13 (.t 5)),
 (none, .mv 14 (.t 1)),
 (none, .ia 15 7 (.t 12) (.t 13)),
 (none, .fa 16 0 (.t 15)),
 (none, .st 1 (.t 16) (.t 14)),
 (none, .kp [0, 1, 5])])
 (.seq (.rg [(none, .mv 17 (.t 1)),
 (none, .bi 18 .add (.t 17) (.c (.n .i64 1))),
 (none, .mv 1 (.t 18)),
 (none, .kp [0, 1, 5])])
 (.seq (.rg [(none, .mv 19 (.t 0)),
 (none, .mv 20 (.t 5)),
 (none, .mv 21 (.t 1)),
 (none, .ia 22 7 (.t 19) (.t 20)),
 (none, .fa 23 1 (.t 22)),
 (none, .st 1 (.t 23) (.t 21)),
 (none, .kp [0, 1, 5])])
 (.seq (.rg [(none, .mv 24 (.t 1)),
 (none, .bi 25 .add (.t 24) (.c (.n .i64 1))),
 (none, .mv 1 (.t 25)),
 (none, .kp [0, 1, 5])])
 (.seq (.rg [(none, .mv 26 (.t 0)),
 (none, .mv 27 (.t 5)),
 (none, .mv 28 (.t 1)),
 (none, .ia 29 7 (.t 26) (.t 27)),
 (none, .fa 30 2 (.t 29)),
 (none, .st 1 (.t 30) (.t 28)),
 (none, .kp [0, 1, 5])])
 (.seq (.rg [(none, .mv 31 (.t 1)),
 (none, .bi 32 .add (.t 31) (.c (.n .i64 1))),
 (none, .mv 1 (.t 32)),
 (none, .kp [0, 1, 5])])
 (.seq (.rg [(none, .mv 33 (.t 0)),
 (none, .mv 34 (.t 5)),
 (none, .mv 35 (.t 1)),
 (none, .bi 36 .rem (.t 35) (.c (.n .i64 3))),
 (none, .bi 37 .eql (.t 36) (.c (.n .i64 0))),
 (none, .ia 38 7 (.t 33) (.t 34)),
 (none, .fa 39 3 (.t 38)),
 (none, .st 1 (.t 39) (.t 37)),
 (none, .kp [0, 1, 5])])
 (.seq (.rg [(none, .mv 40 (.t 1)),
 (none, .bi 41 .add (.t 40) (.c (.n .i64 1))),
 (none, .mv 1 (.t 41)),
 (none, .kp [0, 1, 5])])
 (.seq (.rg [(none, .mv 42 (.t 0)),
 (none, .mv 43 (.t 5)),
 (none, .mv 44 (.t 1)),
 (none, .bi 45 .rem (.t 44) (.c (.n .i64 3))),
 (none, .bi 46 .eql (.t 45) (.c (.n .i64 0))),
 (none, .ia 47 7 (.t 42) (.t 43)),
 (none, .fa 48 4 (.t 47)),
 (none, .st 1 (.t 48) (.t 46)),
 (none, .kp [0, 1, 5])])
 (.seq (.rg [(none, .mv 49 (.t 1)),
 (none, .bi 50 .add (.t 49) (.c (.n .i64 1))),
 (none, .mv 1 (.t 50)),
 (none, .kp [0, 1, 5])])
 (.seq (.rg [(none, .mv 51 (.t 0)),
 (none, .mv 52 (.t 5)),
 (none, .mv 53 (.t 1)),
 (none, .bi 54 .rem (.t 53) (.c (.n .i64 3))),
 (none, .bi 55 .eql (.t 54) (.c (.n .i64 0))),
 (none, .ia 56 7 (.t 51) (.t 52)),
 (none, .fa 57 5 (.t 56)),
 (none, .st 1 (.t 57) (.t 55)),
 (none, .kp [0, 1, 5])])
 (.seq (.rg [(none, .mv 58 (.t 1)),
 (none, .bi 59 .add (.t 58) (.c (.n .i64 1))),
 (none, .mv 1 (.t 59)),
 (none, .kp [0, 1, 5])])
 (.seq (.rg [(none, .mv 60 (.t 0)),
 (none, .mv 61 (.t 5)),
 (none, .mv 62 (.t 1)),
 (none, .ca (some 63) 133 [.t 62]),
 (none, .ia 64 7 (.t 60) (.t 61)),
 (none, .fa 65 6 (.t 64)),
 (none, .st 1 (.t 65) (.t 63)),
 (none, .kp [0, 1, 5])])
 (.rg [(none, .mv 66 (.t 1)),
 (none, .bi 67 .add (.t 66) (.c (.n .i64 1))),
 (none, .mv 1 (.t 67)),
 (none, .kp [0, 1, 5])])))))))))))))))
 (.rg [(none, .mv 10 (.t 5)),
 (none, .bi 11 .add (.t 10) (.c (.n .i64 1))),
 (none, .mv 5 (.t 11)),
 (none, .kp [0, 1, 5])]))
def pc132 : PC := .seq (.rg [(none, .mv 4 (.c (.n .i64 0))),
 (none, .kp [0, 1])])
 (.seq (.seq (.rg [(none, .mv 5 (.c (.n .i64 0))),
 (none, .kp [0, 1, 5])])
 (.blk 0 (.lp pc132l0)))
 (.seq (.rg [(none, .mv 68 (.t 1)),
 (none, .mv 4 (.t 68)),
 (none, .kp [4])])
 (.rt)))
theorem mr132 : MrT Try.prog 132 pc132 [.t 4] 69 := fun hn h => spec_of_run (fn := Try.f132) (by kernel_rfl) rfl (by kernel_rfl) (by kernel_rfl) hn h
theorem mk132 : MkT Try.prog 132 pc132 [.t 4] 69 := mr132.k
theorem mw132 : MwT Try.prog 132 pc132 [.t 4] 69 := mr132.w
-- 133 laws.markText
def pc133l0 : PC := .seq (.seq (.rg [(none, .mv 6 (.t 0)),
 (none, .bi 7 .gtr (.t 6) (.c (.n .i64 0))),
 (none, .kp [0, 3, 7])])
 (.ite (.t 7) (.sk)
 (.ex 0)))
 (.blk 1 (.seq (.rg [(none, .mv 8 (.t 0)),
 (none, .bi 9 .rem (.t 8) (.c (.n .i64 10))),
 (none, .bi 10 .add (.c (.n .i64 48)) (.t 9)),
 (none, .cv 11 .u8 (.t 10)),
 (none, .bs 12 1 1 [.n .u8 0] [(0, .t 11)]),
 (none, .cs 13 (.t 12)),
 (none, .mv 14 (.t 3)),
 (none, .bi 15 .add (.t 13) (.t 14)),
 (none, .mv 3 (.t 15)),
 (none, .kp [0, 3])])
 (.rg [(none, .mv 16 (.t 0)),
 (none, .bi 17 .quo (.t 16) (.c (.n .i64 10))),
 (none, .mv 0 (.t 17)),
 (none, .kp [0, 3])])))
def pc133 : PC := .seq (.rg [(none, .mv 2 (.c (.s []))),
 (none, .kp [0])])
 (.seq (.seq (.rg [(none, .mv 4 (.t 0)),
 (none, .bi 5 .leq (.t 4) (.c (.n .i64 0))),
 (none, .kp [0, 5])])
 (.ite (.t 5) (.seq (.rg [(none, .mv 2 (.c (.s [109, 48]))),
 (none, .kp [2])])
 (.rt))
 (.sk)))
 (.seq (.rg [(none, .mv 3 (.c (.s []))),
 (none, .kp [0, 3])])
 (.seq (.blk 0 (.lp pc133l0))
 (.seq (.rg [(none, .mv 18 (.t 3)),
 (none, .bi 19 .add (.c (.s [109])) (.t 18)),
 (none, .mv 2 (.t 19)),
 (none, .kp [2])])
 (.rt)))))
theorem mr133 : MrT Try.prog 133 pc133 [.t 2] 20 := fun hn h => spec_of_run (fn := Try.f133) (by kernel_rfl) rfl (by kernel_rfl) (by kernel_rfl) hn h
theorem mk133 : MkT Try.prog 133 pc133 [.t 2] 20 := mr133.k
theorem mw133 : MwT Try.prog 133 pc133 [.t 2] 20 := mr133.w
-- 134 laws.heldDataS
def pc134l0 : PC := .seq (.seq (.rg [(none, .mv 6 (.t 5)),
 (none, .mv 7 (.t 0)),
 (none, .ln 8 (.t 7)),
 (none, .bi 9 .lss (.t 6) (.t 8)),
 (none, .kp [0, 1, 5, 9])])
 (.ite (.t 9) (.sk)
 (.ex 0)))
 (.seq (.blk 1 (.seq (.seq (.rg [(none, .mv 12 (.t 0)),
 (none, .mv 13 (.t 5)),
 (none, .ia 14 7 (.t 12) (.t 13)),
 (none, .fa 15 0 (.t 14)),
 (none, .ld 16 none (.t 15)),
 (none, .mv 17 (.t 1)),
 (none, .bi 18 .neq (.t 16) (.t 17)),
 (none, .kp [0, 1, 5, 18])])
 (.ite (.t 18) (.seq (.rg [(none, .mv 4 (.c (.n .i64 (-1)))),
 (none, .kp [4])])
 (.rt))
 (.sk)))
 (.seq (.rg [(none, .mv 19 (.t 1)),
 (none, .bi 20 .add (.t 19) (.c (.n .i64 1))),
 (none, .mv 1 (.t 20)),
 (none, .kp [0, 1, 5])])
 (.seq (.seq (.rg [(none, .mv 21 (.t 0)),
 (none, .mv 22 (.t 5)),
 (none, .ia 23 7 (.t 21) (.t 22)),
 (none, .fa 24 1 (.t 23)),
 (none, .ld 25 none (.t 24)),
 (none, .mv 26 (.t 1)),
 (none, .bi 27 .neq (.t 25) (.t 26)),
 (none, .kp [0, 1, 5, 27])])
 (.ite (.t 27) (.seq (.rg [(none, .mv 4 (.c (.n .i64 (-1)))),
 (none, .kp [4])])
 (.rt))
 (.sk)))
 (.seq (.rg [(none, .mv 28 (.t 1)),
 (none, .bi 29 .add (.t 28) (.c (.n .i64 1))),
 (none, .mv 1 (.t 29)),
 (none, .kp [0, 1, 5])])
 (.seq (.seq (.rg [(none, .mv 30 (.t 0)),
 (none, .mv 31 (.t 5)),
 (none, .ia 32 7 (.t 30) (.t 31)),
 (none, .fa 33 2 (.t 32)),
 (none, .ld 34 none (.t 33)),
 (none, .mv 35 (.t 1)),
 (none, .bi 36 .neq (.t 34) (.t 35)),
 (none, .kp [0, 1, 5, 36])])
 (.ite (.t 36) (.seq (.rg [(none, .mv 4 (.c (.n .i64 (-1)))),
 (none, .kp [4])])
 (.rt))
 (.sk)))
 (.seq (.rg [(none, .mv 37 (.t 1)),
 (none, .bi 38 .add (.t 37) (.c (.n .i64 1))),
 (none, .mv 1 (.t 38)),
 (none, .kp [0, 1, 5])])
 (.seq (.seq (.rg [(none, .mv 39 (.t 0)),
 (none, .mv 40 (.t 5)),
 (none, .ia 41 7 (.t 39) (.t 40)),
 (none, .fa 42 3 (.t 41)),
 (none, .ld 43 none (.t 42)),
 (none, .mv 44 (.t 1)),
 (none, .bi 45 .rem (.t 44) (.c (.n .i64 3))),
 (none, .bi 46 .eql (.t 45) (.c (.n .i64 0))),
 (none, .bb 47 true (.t 43) (.t 46)),
 (none, .kp [0, 1, 5, 47])])
 (.ite (.t 47) (.seq (.rg [(none, .mv 4 (.c (.n .i64 (-1)))),
 (none, .kp [4])])
 (.rt))
 (.sk)))
 (.seq (.rg [(none, .mv 48 (.t 1)),
 (none, .bi 49 .add (.t 48) (.c (.n .i64 1))),
 (none, .mv 1 (.t 49)),
 (none, .kp [0, 1, 5])])
 (.seq (.seq (.rg [(none, .mv 50 (.t 0)),
 (none, .mv 51 (.t 5)),
 (none, .ia 52 7 (.t 50) (.t 51)),
 (none, .fa 53 4 (.t 52)),
 (none, .ld 54 none (.t 53)),
 (none, .mv 55 (.t 1)),
 (none, .bi 56 .rem (.t 55) (.c (.n .i64 3))),
 (none, .bi 57 .eql (.t 56) (.c (.n .i64 0))),
 (none, .bb 58 true (.t 54) (.t 57)),
 (none, .kp [0, 1, 5, 58])])
 (.ite (.t 58) (.seq (.rg [(none, .mv 4 (.c (.n .i64 (-1)))),
 (none, .kp [4])])
 (.rt))
 (.sk)))
 (.seq (.rg [(none, .mv 59 (.t 1)),
 (none, .bi 60 .add (.t 59) (.c (.n .i64 1))),
 (none, .mv 1 (.t 60)),
 (none, .kp [0, 1, 5])])
 (.seq (.seq (.rg [(none, .mv 61 (.t 0)),
 (none, .mv 62 (.t 5)),
 (none, .ia 63 7 (.t 61) (.t 62)),
 (none, .fa 64 5 (.t 63)),
 (none, .ld 65 none (.t 64)),
 (none, .mv 66 (.t 1)),
 (none, .bi 67 .rem (.t 66) (.c (.n .i64 3))),
 (none, .bi 68 .eql (.t 67) (.c (.n .i64 0))),
 (none, .bb 69 true (.t 65) (.t 68)),
 (none, .kp [0, 1, 5, 69])])
 (.ite (.t 69) (.seq (.rg [(none, .mv 4 (.c (.n .i64 (-1)))),
 (none, .kp [4])])
 (.rt))
 (.sk)))
 (.seq (.rg [(none, .mv 70 (.t 1)),
 (none, .bi 71 .add (.t 70) (.c (.n .i64 1))),
 (none, .mv 1 (.t 71)),
 (none, .kp [0, 1, 5])])
 (.seq (.seq (.dr [[], [], [0, 1], [0, 1, 2], [0, 1, 2, 3], [], [5], [0, 1, 2, 3, 4, 5, 6]]
 (.q 0 (none, .mv 72 (.t 0))
 (.q 1 (none, .mv 73 (.t 5))
 (.q 2 (none, .ia 74 7 (.t 72) (.t 73))
 (.q 3 (none, .fa 75 6 (.t 74))
 (.q 4 (none, .ld 76 none (.t 75))
 (.q 5 (none, .mv 77 (.t 1))
 (.alt 6 (none, .ca (some 78) 133 [.t 77]) [true, true, true, true, true, false]
 (.q 7 (none, .bi 79 .neq (.t 76) (.t 78))
 (.done))
 (.stop)))))))) [0, 1, 5, 79])
 (.ite (.t 79) (.seq (.rg [(none, .mv 4 (.c (.n .i64 (-1)))),
 (none, .kp [4])])
 (.rt))
 (.sk)))
 (.rg [(none, .mv 80 (.t 1)),
 (none, .bi 81 .add (.t 80) (.c (.n .i64 1))),
 (none, .mv 1 (.t 81)),
 (none, .kp [0, 1, 5])])))))))))))))))
 (.rg [(none, .mv 10 (.t 5)),
 (none, .bi 11 .add (.t 10) (.c (.n .i64 1))),
 (none, .mv 5 (.t 11)),
 (none, .kp [0, 1, 5])]))
def pc134 : PC := .seq (.rg [(none, .mv 4 (.c (.n .i64 0))),
 (none, .kp [0, 1])])
 (.seq (.seq (.rg [(none, .mv 5 (.c (.n .i64 0))),
 (none, .kp [0, 1, 5])])
 (.blk 0 (.lp pc134l0)))
 (.seq (.rg [(none, .mv 82 (.t 1)),
 (none, .mv 4 (.t 82)),
 (none, .kp [4])])
 (.rt)))
theorem mr134 : MrT Try.prog 134 pc134 [.t 4] 83 := fun hn h => spec_of_run (fn := Try.f134) (by kernel_rfl) rfl (by kernel_rfl) (by kernel_rfl) hn h
theorem mk134 : MkT Try.prog 134 pc134 [.t 4] 83 := mr134.k
theorem mw134 : MwT Try.prog 134 pc134 [.t 4] 83 := mr134.w
-- 136 spec.l12Init
def pc136 : PC := .seq (.rg [(none, .bx 1 (.t 0)),
 (none, .mv 2 (.c (.b false))),
 (none, .kp [1])])
 (.seq (.rg [(none, .fa 3 0 (.t 1)),
 (none, .ld 4 none (.t 3)),
 (none, .ca (some 5) 116 [.t 4, .c (.n .i64 1), .c (.n .i64 4294967295)]),
 (none, .mv 6 (.t 5)),
 (some (6, true), .fa 7 1 (.t 1)),
 (some (6, true), .ld 8 none (.t 7)),
 (some (6, true), .ca (some 9) 116 [.t 8, .c (.n .i64 0), .c (.n .i64 65535)]),
 (none, .pk 10 (.t 6) (.t 9) (.c (.b false))),
 (none, .mv 11 (.t 10)),
 (some (11, true), .fa 12 2 (.t 1)),
 (some (11, true), .ld 13 none (.t 12)),
 (some (11, true), .ca (some 14) 116 [.t 13, .c (.n .i64 1), .c (.n .i64 4)]),
 (none, .pk 15 (.t 11) (.t 14) (.c (.b false))),
 (none, .mv 16 (.t 15)),
 (some (16, true), .fa 17 3 (.t 1)),
 (some (16, true), .ld 18 none (.t 17)),
 (some (16, true), .ca (some 19) 163 [.t 18]),
 (none, .pk 20 (.t 16) (.t 19) (.c (.b false))),
 (none, .mv 2 (.t 20)),
 (none, .kp [2])])
 (.rt))
theorem mr136 : MrT Try.prog 136 pc136 [.t 2] 21 := fun hn h => spec_of_run (fn := Try.f136) (by kernel_rfl) rfl (by kernel_rfl) (by kernel_rfl) hn h
theorem mk136 : MkT Try.prog 136 pc136 [.t 2] 21 := mr136.k
theorem mw136 : MwT Try.prog 136 pc136 [.t 2] 21 := mr136.w
-- 138 spec.l31Ssn
def pc138l0 : PC := .seq (.seq (.rg [(none, .mv 7 (.t 6)),
 (none, .mv 8 (.t 0)),
 (none, .ln 9 (.t 8)),
 (none, .bi 10 .lss (.t 7) (.t 9)),
 (none, .kp [0, 1, 5, 6, 10])])
 (.ite (.t 10) (.sk)
 (.ex 0)))
 (.seq (.blk 1 (.seq (.rg [(none, .mv 13 (.t 0)),
 (none, .mv 14 (.t 6)),
 (none, .ia 15 7 (.t 13) (.t 14)),
 (none, .fa 16 3 (.t 15)),
 (none, .ld 17 none (.t 16)),
 (none, .mv 18 (.t 17)),
 (some (18, true), .mv 19 (.t 0)),
 (some (18, true), .mv 20 (.t 6)),
 (some (18, true), .ia 21 7 (.t 19) (.t 20)),
 (some (18, true), .fa 22 5 (.t 21)),
 (some (18, true), .ld 23 none (.t 22)),
 (some (18, true), .un 24 .not (.t 23)),
 (none, .pk 25 (.t 18) (.t 24) (.c (.b false))),
 (none, .mv 26 (.t 25)),
 (some (26, true), .mv 27 (.t 0)),
 (some (26, true), .mv 28 (.t 6)),
 (some (26, true), .ia 29 7 (.t 27) (.t 28)),
 (some (26, true), .fa 30 1 (.t 29)),
 (some (26, true), .ld 31 none (.t 30)),
 (some (26, true), .mv 32 (.t 1)),
 (some (26, true), .bi 33 .eql (.t 31) (.t 32)),
 (none, .pk 34 (.t 26) (.t 33) (.c (.b false))),
 (none, .kp [0, 1, 5, 6, 34])])
 (.ite (.t 34) (.rg [(none, .mv 35 (.t 5)),
 (none, .bi 36 .add (.t 35) (.c (.n .i64 1))),
 (none, .mv 5 (.t 36)),
 (none, .kp [0, 1, 5, 6])])
 (.sk))))
 (.rg [(none, .mv 11 (.t 6)),
 (none, .bi 12 .add (.t 11) (.c (.n .i64 1))),
 (none, .mv 6 (.t 12)),
 (none, .kp [0, 1, 5, 6])]))
def pc138 : PC := .seq (.rg [(none, .mv 4 (.c (.n .i64 0))),
 (none, .kp [0, 1])])
 (.seq (.rg [(none, .mv 5 (.c (.n .i64 0))),
 (none, .kp [0, 1, 5])])
 (.seq (.seq (.rg [(none, .mv 6 (.c (.n .i64 0))),
 (none, .kp [0, 1, 5, 6])])
 (.blk 0 (.lp pc138l0)))
 (.seq (.rg [(none, .mv 37 (.t 5)),
 (none, .mv 4 (.t 37)),
 (none, .kp [4])])
 (.rt))))
theorem mr138 : MrT Try.prog 138 pc138 [.t 4] 38 := fun hn h => spec_of_run (fn := Try.f138) (by kernel_rfl) rfl (by kernel_rfl) (by kernel_rfl) hn h
theorem mk138 : MkT Try.prog 138 pc138 [.t 4] 38 := mr138.k
theorem mw138 : MwT Try.prog 138 pc138 [.t 4] 38 := mr138.w
-- 139 spec.l3Add
def pc139 : PC := .seq (.rg [(none, .mv 4 (.c (.n .i64 0))),
 (none, .kp [0, 1])])
 (.seq (.rg [(none, .mv 5 (.t 0)),
 (none, .mv 6 (.t 1)),
 (none, .bi 7 .rem (.t 6) (.c (.n .i64 65536))),
 (none, .bi 8 .add (.t 5) (.t 7)),
 (none, .bi 9 .add (.t 8) (.c (.n .i64 65536))),
 (none, .bi 10 .rem (.t 9) (.c (.n .i64 65536))),
 (none, .mv 4 (.t 10)),
 (none, .kp [4])])
 (.rt))
theorem mr139 : MrT Try.prog 139 pc139 [.t 4] 11 := fun hn h => spec_of_run (fn := Try.f139) (by kernel_rfl) rfl (by kernel_rfl) (by kernel_rfl) hn h
theorem mk139 : MkT Try.prog 139 pc139 [.t 4] 11 := mr139.k
theorem mw139 : MwT Try.prog 139 pc139 [.t 4] 11 := mr139.w
-- 140 spec.l12Data
def pc140 : PC := .seq (.rg [(none, .bx 1 (.t 0)),
 (none, .mv 2 (.c (.b false))),
 (none, .kp [1])])
 (.seq (.rg [(none, .fa 3 0 (.t 1)),
 (none, .ld 4 none (.t 3)),
 (none, .ca (some 5) 163 [.t 4]),
 (none, .mv 6 (.t 5)),
 (some (6, true), .fa 7 1 (.t 1)),
 (some (6, true), .ld 8 none (.t 7)),
 (some (6, true), .ca (some 9) 163 [.t 8]),
 (none, .pk 10 (.t 6) (.t 9) (.c (.b false))),
 (none, .mv 11 (.t 10)),
 (some (11, true), .fa 12 2 (.t 1)),
 (some (11, true), .ld 13 none (.t 12)),
 (some (11, true), .ca (some 14) 163 [.t 13]),
 (none, .pk 15 (.t 11) (.t 14) (.c (.b false))),
 (none, .mv 16 (.t 15)),
 (some (16, true), .fa 17 6 (.t 1)),
 (some (16, true), .ld 18 none (.t 17)),
 (some (16, true), .lS 19 (.t 18)),
 (some (16, true), .ca (some 20) 116 [.t 19, .c (.n .i64 1), .c (.n .i64 20)]),
 (none, .pk 21 (.t 16) (.t 20) (.c (.b false))),
 (none, .mv 2 (.t 21)),
 (none, .kp [2])])
 (.rt))
theorem mr140 : MrT Try.prog 140 pc140 [.t 2] 22 := fun hn h => spec_of_run (fn := Try.f140) (by kernel_rfl) rfl (by kernel_rfl) (by kernel_rfl) hn h
theorem mk140 : MkT Try.prog 140 pc140 [.t 2] 22 := mr140.k
theorem mw140 : MwT Try.prog 140 pc140 [.t 2] 22 := mr140.w
-- 143 spec.l12Sack
def pc143l0 : PC := .seq (.seq (.rg [(none, .mv 6 (.t 4)),
 (none, .fa 7 1 (.t 1)),
 (none, .ld 8 none (.t 7)),
 (none, .ln 9 (.t 8)),
 (none, .bi 10 .lss (.t 6) (.t 9)),
 (none, .kp [1, 3, 4, 10])])
 (.ite (.t 10) (.sk)
 (.ex 0)))
 (.seq (.blk 1 (.seq (.rg [(none, .fa 13 1 (.t 1)),
 (none, .ld 14 none (.t 13)),
 (none, .mv 15 (.t 4)),
 (none, .ia 16 2 (.t 14) (.t 15)),
 (none, .ld 17 (some 2) (.t 16)),
 (none, .al 5 [.n .i64 0, .n .i64 0]),
 (none, .st 2 (.t 5) (.t 17)),
 (none, .kp [1, 3, 4, 5])])
 (.seq (.seq (.rg [(none, .fa 18 0 (.t 5)),
 (none, .ld 19 none (.t 18)),
 (none, .mv 20 (.t 3)),
 (none, .bi 21 .add (.t 20) (.c (.n .i64 2))),
 (none, .bi 22 .lss (.t 19) (.t 21)),
 (none, .mv 23 (.t 22)),
 (some (23, false), .fa 24 1 (.t 5)),
 (some (23, false), .ld 25 none (.t 24)),
 (some (23, false), .fa 26 0 (.t 5)),
 (some (23, false), .ld 27 none (.t 26)),
 (some (23, false), .bi 28 .lss (.t 25) (.t 27)),
 (none, .pk 29 (.t 23) (.c (.b true)) (.t 28)),
 (none, .mv 30 (.t 29)),
 (some (30, false), .fa 31 1 (.t 5)),
 (some (30, false), .ld 32 none (.t 31)),
 (some (30, false), .bi 33 .gtr (.t 32) (.c (.n .i64 16))),
 (none, .pk 34 (.t 30) (.c (.b true)) (.t 33)),
 (none, .kp [1, 4, 5, 34])])
 (.ite (.t 34) (.seq (.rg [(none, .mv 2 (.c (.b false))),
 (none, .kp [2])])
 (.rt))
 (.sk)))
 (.rg [(none, .fa 35 1 (.t 5)),
 (none, .ld 36 none (.t 35)),
 (none, .mv 3 (.t 36)),
 (none, .kp [1, 3, 4])]))))
 (.rg [(none, .mv 11 (.t 4)),
 (none, .bi 12 .add (.t 11) (.c (.n .i64 1))),
 (none, .mv 4 (.t 12)),
 (none, .kp [1, 3, 4])]))
def pc143 : PC := .seq (.rg [(none, .bx 1 (.t 0)),
 (none, .mv 2 (.c (.b false))),
 (none, .kp [1])])
 (.seq (.rg [(none, .mv 3 (.c (.n .i64 0))),
 (none, .kp [1, 3])])
 (.seq (.seq (.rg [(none, .mv 4 (.c (.n .i64 0))),
 (none, .kp [1, 3, 4])])
 (.blk 0 (.lp pc143l0)))
 (.seq (.rg [(none, .fa 37 0 (.t 1)),
 (none, .ld 38 none (.t 37)),
 (none, .ca (some 39) 163 [.t 38]),
 (none, .mv 40 (.t 39)),
 (some (40, true), .fa 41 1 (.t 1)),
 (some (40, true), .ld 42 none (.t 41)),
 (some (40, true), .ln 43 (.t 42)),
 (some (40, true), .bi 44 .leq (.t 43) (.c (.n .i64 8))),
 (none, .pk 45 (.t 40) (.t 44) (.c (.b false))),
 (none, .mv 2 (.t 45)),
 (none, .kp [2])])
 (.rt))))
theorem mr143 : MrT Try.prog 143 pc143 [.t 2] 46 := fun hn h => spec_of_run (fn := Try.f143) (by kernel_rfl) rfl (by kernel_rfl) (by kernel_rfl) hn h
theorem mk143 : MkT Try.prog 143 pc143 [.t 2] 46 := mr143.k
theorem mw143 : MwT Try.prog 143 pc143 [.t 2] 46 := mr143.w
-- 145 impl.sackOk
def pc145l0 : PC := .seq (.rg [(none, .bi 20 .lss (.t 19) (.t 18)),
 (none, .kp [3, 17, 18, 19, 20])])
 (.seq (.ite (.t 20) (.sk)
 (.ex 0))
 (.seq (.blk 1 (.seq (.rg [(none, .ia 21 2 (.t 17) (.t 19)),
 (none, .ld 22 (some 2) (.t 21)),
 (none, .al 5 [.n .i64 0, .n .i64 0]),
 (none, .st 2 (.t 5) (.t 22)),
 (none, .kp [3, 5, 17, 18, 19])])
 (.seq (.seq (.rg [(none, .fa 23 0 (.t 5)),
 (none, .ld 24 none (.t 23)),
 (none, .mv 25 (.t 3)),
 (none, .bi 26 .lss (.t 24) (.t 25)),
 (none, .mv 27 (.t 26)),
 (some (27, false), .fa 28 0 (.t 5)),
 (some (27, false), .ld 29 none (.t 28)),
 (some (27, false), .fa 30 1 (.t 5)),
 (some (27, false), .ld 31 none (.t 30)),
 (some (27, false), .bi 32 .gtr (.t 29) (.t 31)),
 (none, .pk 33 (.t 27) (.c (.b true)) (.t 32)),
 (none, .mv 34 (.t 33)),
 (some (34, false), .fa 35 1 (.t 5)),
 (some (34, false), .ld 36 none (.t 35)),
 (some (34, false), .bi 37 .gtr (.t 36) (.c (.n .i64 16))),
 (none, .pk 38 (.t 34) (.c (.b true)) (.t 37)),
 (none, .kp [5, 17, 18, 19, 38])])
 (.ite (.t 38) (.seq (.rg [(none, .mv 2 (.c (.b false))),
 (none, .kp [2])])
 (.rt))
 (.sk)))
 (.rg [(none, .fa 39 1 (.t 5)),
 (none, .ld 40 none (.t 39)),
 (none, .bi 41 .add (.t 40) (.c (.n .i64 2))),
 (none, .mv 3 (.t 41)),
 (none, .kp [3, 17, 18, 19])]))))
 (.rg [(none, .bi 42 .add (.t 19) (.c (.n .i64 1))),
 (none, .mv 19 (.t 42)),
 (none, .kp [3, 17, 18, 19])])))
def pc145 : PC := .seq (.rg [(none, .bx 1 (.t 0)),
 (none, .mv 2 (.c (.b false))),
 (none, .kp [1])])
 (.seq (.seq (.rg [(none, .fa 6 0 (.t 1)),
 (none, .ld 7 none (.t 6)),
 (none, .ca (some 8) 109 [.t 7]),
 (none, .un 9 .not (.t 8)),
 (none, .mv 10 (.t 9)),
 (some (10, false), .fa 11 1 (.t 1)),
 (some (10, false), .ld 12 none (.t 11)),
 (some (10, false), .ln 13 (.t 12)),
 (some (10, false), .bi 14 .gtr (.t 13) (.c (.n .i64 8))),
 (none, .pk 15 (.t 10) (.c (.b true)) (.t 14)),
 (none, .kp [1, 15])])
 (.ite (.t 15) (.seq (.rg [(none, .mv 2 (.c (.b false))),
 (none, .kp [2])])
 (.rt))
 (.sk)))
 (.seq (.rg [(none, .mv 3 (.c (.n .i64 2))),
 (none, .kp [1, 3])])
 (.seq (.seq (.rg [(none, .fa 16 1 (.t 1)),
 (none, .ld 17 none (.t 16)),
 (none, .ln 18 (.t 17)),
 (none, .mv 19 (.c (.n .i64 0))),
 (none, .kp [3, 17, 18, 19])])
 (.blk 0 (.lp pc145l0)))
 (.seq (.rg [(none, .mv 2 (.c (.b true))),
 (none, .kp [2])])
 (.rt)))))
theorem mr145 : MrT Try.prog 145 pc145 [.t 2] 43 := fun hn h => spec_of_run (fn := Try.f145) (by kernel_rfl) rfl (by kernel_rfl) (by kernel_rfl) hn h
theorem mk145 : MkT Try.prog 145 pc145 [.t 2] 43 := mr145.k
theorem mw145 : MwT Try.prog 145 pc145 [.t 2] 43 := mr145.w
-- 156 impl.LongGet
def pc156 : PC := .seq (.rg [(none, .mv 4 (.c (.n .i64 0))),
 (none, .mv 5 (.c (.b false))),
 (none, .kp [0, 1])])
 (.seq (.seq (.rg [(none, .mv 6 (.t 1)),
 (none, .bi 7 .lss (.t 6) (.c (.n .i64 0))),
 (none, .mv 8 (.t 7)),
 (some (8, false), .mv 9 (.t 1)),
 (some (8, false), .mv 10 (.t 0)),
 (some (8, false), .lS 11 (.t 10)),
 (some (8, false), .bi 12 .sub (.t 11) (.c (.n .i64 4))),
 (some (8, false), .bi 13 .gtr (.t 9) (.t 12)),
 (none, .pk 14 (.t 8) (.c (.b true)) (.t 13)),
 (none, .kp [0, 1, 14])])
 (.ite (.t 14) (.seq (.rg [(none, .mv 4 (.c (.n .i64 0))),
 (none, .mv 5 (.c (.b false))),
 (none, .kp [4, 5])])
 (.rt))
 (.sk)))
 (.seq (.dr [[], [], [0, 1], [0, 1, 2], [0, 1, 2, 3], [], [], [6], [5, 6, 7], [5, 6, 7, 8], [5, 6, 7, 8, 9], [0, 1, 2, 3, 4, 5, 6, 7, 8, 9, 10], [], [], [13], [12, 13, 14], [12, 13, 14, 15], [12, 13, 14, 15, 16], [0, 1, 2, 3, 4, 5, 6, 7, 8, 9, 10, 11, 12, 13, 14, 15, 16, 17], [], [], [20], [19, 20, 21], [19, 20, 21, 22], [0, 1, 2, 3, 4, 5, 6, 7, 8, 9, 10, 11, 12, 13, 14, 15, 16, 17, 18, 19, 20, 21, 22, 23], [0, 1, 2, 3, 4, 5, 6, 7, 8, 9, 10, 11, 12, 13, 14, 15, 16, 17, 18, 19, 20, 21, 22, 23, 24], [0, 1, 2, 3, 4, 5, 6, 7, 8, 9, 10, 11, 12, 13, 14, 15, 16, 17, 18, 19, 20, 21, 22, 23, 24, 25]]
 (.q 0 (none, .mv 15 (.t 0))
 (.q 1 (none, .mv 16 (.t 1))
 (.q 2 (none, .ix 17 (.t 15) (.t 16))
 (.q 3 (none, .cv 18 .i64 (.t 17))
 (.q 4 (none, .bi 19 .shl (.t 18) (.c (.n .u64 24)))
 (.q 5 (none, .mv 20 (.t 0))
 (.q 6 (none, .mv 21 (.t 1))
 (.q 7 (none, .bi 22 .add (.t 21) (.c (.n .i64 1)))
 (.q 8 (none, .ix 23 (.t 20) (.t 22))
 (.q 9 (none, .cv 24 .i64 (.t 23))
 (.q 10 (none, .bi 25 .shl (.t 24) (.c (.n .u64 16)))
 (.q 11 (none, .bi 26 .or (.t 19) (.t 25))
 (.q 12 (none, .mv 27 (.t 0))
 (.q 13 (none, .mv 28 (.t 1))
 (.q 14 (none, .bi 29 .add (.t 28) (.c (.n .i64 2)))
 (.q 15 (none, .ix 30 (.t 27) (.t 29))
 (.q 16 (none, .cv 31 .i64 (.t 30))
 (.q 17 (none, .bi 32 .shl (.t 31) (.c (.n .u64 8)))
 (.q 18 (none, .bi 33 .or (.t 26) (.t 32))
 (.q 19 (none, .mv 34 (.t 0))
 (.q 20 (none, .mv 35 (.t 1))
 (.q 21 (none, .bi 36 .add (.t 35) (.c (.n .i64 3)))
 (.q 22 (none, .ix 37 (.t 34) (.t 36))
 (.q 23 (none, .cv 38 .i64 (.t 37))
 (.q 24 (none, .bi 39 .or (.t 33) (.t 38))
 (.q 25 (none, .mv 4 (.t 39))
 (.q 26 (none, .mv 5 (.c (.b true)))
 (.done)))))))))))))))))))))))))))) [4, 5])
 (.rt)))
theorem mr156 : MrT Try.prog 156 pc156 [.t 4, .t 5] 40 := fun hn h => spec_of_run (fn := Try.f156) (by kernel_rfl) rfl (by kernel_rfl) (by kernel_rfl) hn h
theorem mk156 : MkT Try.prog 156 pc156 [.t 4, .t 5] 40 := mr156.k
theorem mw156 : MwT Try.prog 156 pc156 [.t 4, .t 5] 40 := mr156.w
-- 157 impl.WordGet
def pc157 : PC := .seq (.rg [(none, .mv 4 (.c (.n .i64 0))),
 (none, .mv 5 (.c (.b false))),
 (none, .kp [0, 1])])
 (.seq (.seq (.rg [(none, .mv 6 (.t 1)),
 (none, .bi 7 .lss (.t 6) (.c (.n .i64 0))),
 (none, .mv 8 (.t 7)),
 (some (8, false), .mv 9 (.t 1)),
 (some (8, false), .mv 10 (.t 0)),
 (some (8, false), .lS 11 (.t 10)),
 (some (8, false), .bi 12 .sub (.t 11) (.c (.n .i64 2))),
 (some (8, false), .bi 13 .gtr (.t 9) (.t 12)),
 (none, .pk 14 (.t 8) (.c (.b true)) (.t 13)),
 (none, .kp [0, 1, 14])])
 (.ite (.t 14) (.seq (.rg [(none, .mv 4 (.c (.n .i64 0))),
 (none, .mv 5 (.c (.b false))),
 (none, .kp [4, 5])])
 (.rt))
 (.sk)))
 (.seq (.dr [[], [], [0, 1], [0, 1, 2], [0, 1, 2, 3], [], [], [6], [5, 6, 7], [5, 6, 7, 8], [0, 1, 2, 3, 4, 5, 6, 7, 8, 9], [0, 1, 2, 3, 4, 5, 6, 7, 8, 9, 10], [0, 1, 2, 3, 4, 5, 6, 7, 8, 9, 10, 11]]
 (.q 0 (none, .mv 15 (.t 0))
 (.q 1 (none, .mv 16 (.t 1))
 (.q 2 (none, .ix 17 (.t 15) (.t 16))
 (.q 3 (none, .cv 18 .i64 (.t 17))
 (.q 4 (none, .bi 19 .shl (.t 18) (.c (.n .u64 8)))
 (.q 5 (none, .mv 20 (.t 0))
 (.q 6 (none, .mv 21 (.t 1))
 (.q 7 (none, .bi 22 .add (.t 21) (.c (.n .i64 1)))
 (.q 8 (none, .ix 23 (.t 20) (.t 22))
 (.q 9 (none, .cv 24 .i64 (.t 23))
 (.q 10 (none, .bi 25 .or (.t 19) (.t 24))
 (.q 11 (none, .mv 4 (.t 25))
 (.q 12 (none, .mv 5 (.c (.b true)))
 (.done)))))))))))))) [4, 5])
 (.rt)))
theorem mr157 : MrT Try.prog 157 pc157 [.t 4, .t 5] 26 := fun hn h => spec_of_run (fn := Try.f157) (by kernel_rfl) rfl (by kernel_rfl) (by kernel_rfl) hn h
theorem mk157 : MkT Try.prog 157 pc157 [.t 4, .t 5] 26 := mr157.k
theorem mw157 : MwT Try.prog 157 pc157 [.t 4, .t 5] 26 := mr157.w
-- 159 impl.likeParts
def pc159 : PC := .seq (.rg [(none, .bx 2 (.t 0)),
 (none, .bx 3 (.t 1)),
 (none, .mv 4 (.c (.b false))),
 (none, .kp [2, 3])])
 (.seq (.rg [(none, .fa 5 1 (.t 2)),
 (none, .ld 6 none (.t 5)),
 (none, .fa 7 1 (.t 3)),
 (none, .ld 8 none (.t 7)),
 (none, .bi 9 .eql (.t 6) (.t 8)),
 (none, .mv 10 (.t 9)),
 (some (10, true), .fa 11 2 (.t 2)),
 (some (10, true), .ld 12 none (.t 11)),
 (some (10, true), .fa 13 2 (.t 3)),
 (some (10, true), .ld 14 none (.t 13)),
 (some (10, true), .bi 15 .eql (.t 12) (.t 14)),
 (none, .pk 16 (.t 10) (.t 15) (.c (.b false))),
 (none, .mv 17 (.t 16)),
 (some (17, true), .fa 18 5 (.t 2)),
 (some (17, true), .ld 19 none (.t 18)),
 (some (17, true), .fa 20 5 (.t 3)),
 (some (17, true), .ld 21 none (.t 20)),
 (some (17, true), .bb 22 false (.t 19) (.t 21)),
 (none, .pk 23 (.t 17) (.t 22) (.c (.b false))),
 (none, .mv 4 (.t 23)),
 (none, .kp [4])])
 (.rt))
theorem mr159 : MrT Try.prog 159 pc159 [.t 4] 24 := fun hn h => spec_of_run (fn := Try.f159) (by kernel_rfl) rfl (by kernel_rfl) (by kernel_rfl) hn h
theorem mk159 : MkT Try.prog 159 pc159 [.t 4] 24 := mr159.k
theorem mw159 : MwT Try.prog 159 pc159 [.t 4] 24 := mr159.w
-- 161 laws.szData
def pc161 : PC := .seq (.rg [(none, .bx 2 (.t 0)),
 (none, .mv 4 (.c (.n .i64 0))),
 (none, .kp [1, 2])])
 (.seq (.rg [(none, .mv 5 (.t 1)),
 (none, .fa 6 6 (.t 2)),
 (none, .ld 7 none (.t 6)),
 (none, .lS 8 (.t 7)),
 (none, .bi 9 .sub (.t 5) (.t 8)),
 (none, .mv 1 (.t 9)),
 (none, .kp [1])])
 (.seq (.seq (.rg [(none, .mv 10 (.t 1)),
 (none, .bi 11 .lss (.t 10) (.c (.n .i64 0))),
 (none, .kp [1, 11])])
 (.ite (.t 11) (.seq (.rg [(none, .mv 4 (.c (.n .i64 (-1)))),
 (none, .kp [4])])
 (.rt))
 (.sk)))
 (.seq (.rg [(none, .mv 12 (.t 1)),
 (none, .mv 4 (.t 12)),
 (none, .kp [4])])
 (.rt))))
theorem mr161 : MrT Try.prog 161 pc161 [.t 4] 13 := fun hn h => spec_of_run (fn := Try.f161) (by kernel_rfl) rfl (by kernel_rfl) (by kernel_rfl) hn h
theorem mk161 : MkT Try.prog 161 pc161 [.t 4] 13 := mr161.k
theorem mw161 : MwT Try.prog 161 pc161 [.t 4] 13 := mr161.w
-- 162 spec.l31Follows
def pc162 : PC := .seq (.rg [(none, .bx 3 (.t 1)),
 (none, .mv 4 (.c (.b false))),
 (none, .kp [0, 3])])
 (.seq (.rg [(none, .mv 6 (.t 0)),
 (none, .ln 7 (.t 6)),
 (none, .mv 5 (.t 7)),
 (none, .kp [0, 3, 5])])
 (.seq (.seq (.rg [(none, .mv 8 (.t 5)),
 (none, .bi 9 .gtr (.t 8) (.c (.n .i64 0))),
 (none, .mv 10 (.t 9)),
 (some (10, true), .mv 11 (.t 0)),
 (some (10, true), .mv 12 (.t 5)),
 (some (10, true), .bi 13 .sub (.t 12) (.c (.n .i64 1))),
 (some (10, true), .ia 14 7 (.t 11) (.t 13)),
 (some (10, true), .fa 15 4 (.t 14)),
 (some (10, true), .ld 16 none (.t 15)),
 (some (10, true), .un 17 .not (.t 16)),
 (none, .pk 18 (.t 10) (.t 17) (.c (.b false))),
 (none, .kp [0, 3, 5, 18])])
 (.ite (.t 18) (.seq (.dr [[], [0], [0, 1], [0, 1, 2], [0, 1, 2, 3], [0, 1, 2, 3], [0, 1, 2, 3, 5], [0, 1, 2, 3, 4, 5, 6], [0, 1, 2, 3, 4, 5, 6, 7], [0, 1, 2, 3], [0, 1, 2, 3, 4, 5, 6, 7, 8, 9], [0, 1, 2, 3, 4, 5, 6, 7, 8, 9, 10], [0, 1, 2, 3, 4, 5, 6, 7, 8, 9, 10, 11]]
 (.q 0 (none, .fa 19 3 (.t 3))
 (.q 1 (none, .ld 20 none (.t 19))
 (.q 2 (none, .un 21 .not (.t 20))
 (.q 3 (none, .mv 22 (.t 21))
 (.q 4 (some (22, true), .mv 23 (.t 0))
 (.q 5 (some (22, true), .mv 24 (.t 5))
 (.q 6 (some (22, true), .bi 25 .sub (.t 24) (.c (.n .i64 1)))
 (.q 7 (some (22, true), .ia 26 7 (.t 23) (.t 25))
 (.q 8 (some (22, true), .ld 27 (some 7) (.t 26))
 (.q 9 (some (22, true), .ld 28 (some 7) (.t 3))
 (.alt 10 (some (22, true), .ca (some 29) 177 [.t 27, .t 28]) [false, false, false, false, false, false, false, false, false, false]
 (.q 11 (none, .pk 30 (.t 22) (.t 29) (.c (.b false)))
 (.q 12 (none, .mv 4 (.t 30))
 (.done)))
 (.stop)))))))))))) [4])
 (.rt))
 (.sk)))
 (.seq (.dr [[], [0], [0, 1], [0, 1, 2], [0, 1, 2, 3], [0, 1, 2, 3, 4], [0, 1, 2, 3, 4, 5], [0, 1, 2, 3, 4, 5, 6], [0, 1, 2, 3, 4, 5], [0, 1, 2, 3, 4, 5], [0, 1, 2, 3, 4, 5, 9], [0, 1, 2, 3, 4, 5, 8, 9, 10], [0, 1, 2, 3, 4, 5, 6, 7, 8, 9, 10, 11], [0, 1, 2, 3, 4, 5, 6, 7, 8, 9, 10, 11, 12], [0, 1, 2, 3, 4, 5, 6, 7, 8, 9, 10, 11, 12, 13], [0, 1, 2, 3, 4, 5, 6, 7, 8, 9, 10, 11, 12, 13, 14]]
 (.q 0 (none, .fa 31 3 (.t 3))
 (.q 1 (none, .ld 32 none (.t 31))
 (.q 2 (none, .mv 33 (.t 32))
 (.q 3 (some (33, true), .fa 34 5 (.t 3))
 (.q 4 (some (33, true), .ld 35 none (.t 34))
 (.q 5 (some (33, true), .mv 36 (.t 35))
 (.q 6 (some (36, false), .fa 37 2 (.t 3))
 (.q 7 (some (36, false), .ld 38 none (.t 37))
 (.q 8 (some (36, false), .mv 39 (.t 0))
 (.q 9 (some (36, false), .fa 40 1 (.t 3))
 (.q 10 (some (36, false), .ld 41 none (.t 40))
 (.alt 11 (some (36, false), .ca (some 42) 138 [.t 39, .t 41]) [false, false, false, false, false, false, true, true, false, false, false]
 (.q 12 (some (36, false), .bi 43 .eql (.t 38) (.t 42))
 (.q 13 (some (33, true), .pk 44 (.t 36) (.c (.b true)) (.t 43))
 (.q 14 (none, .pk 45 (.t 33) (.t 44) (.c (.b false)))
 (.q 15 (none, .mv 4 (.t 45))
 (.done)))))
 (.stop))))))))))))) [4])
 (.rt))))
theorem mr162 : MrT Try.prog 162 pc162 [.t 4] 46 := fun hn h => spec_of_run (fn := Try.f162) (by kernel_rfl) rfl (by kernel_rfl) (by kernel_rfl) hn h
theorem mk162 : MkT Try.prog 162 pc162 [.t 4] 46 := mr162.k
theorem mw162 : MwT Try.prog 162 pc162 [.t 4] 46 := mr162.w
-- 163 spec.l3Ok
def pc163 : PC := .seq (.rg [(none, .mv 2 (.c (.b false))),
 (none, .kp [0])])
 (.seq (.rg [(none, .mv 3 (.t 0)),
 (none, .ca (some 4) 116 [.t 3, .c (.n .i64 0), .c (.n .i64 65535)]),
 (none, .mv 2 (.t 4)),
 (none, .kp [2])])
 (.rt))
theorem mr163 : MrT Try.prog 163 pc163 [.t 2] 5 := fun hn h => spec_of_run (fn := Try.f163) (by kernel_rfl) rfl (by kernel_rfl) (by kernel_rfl) hn h
theorem mk163 : MkT Try.prog 163 pc163 [.t 2] 5 := mr163.k
theorem mw163 : MwT Try.prog 163 pc163 [.t 2] 5 := mr163.w
-- 164 spec.l13Alone
def pc164 : PC := .seq (.rg [(none, .mv 2 (.c (.b false))),
 (none, .kp [0])])
 (.seq (.rg [(none, .mv 3 (.t 0)),
 (none, .bi 4 .eql (.t 3) (.c (.n .i64 1))),
 (none, .mv 5 (.t 4)),
 (some (5, false), .mv 6 (.t 0)),
 (some (5, false), .bi 7 .eql (.t 6) (.c (.n .i64 2))),
 (none, .pk 8 (.t 5) (.c (.b true)) (.t 7)),
 (none, .mv 9 (.t 8)),
 (some (9, false), .mv 10 (.t 0)),
 (some (9, false), .bi 11 .eql (.t 10) (.c (.n .i64 14))),
 (none, .pk 12 (.t 9) (.c (.b true)) (.t 11)),
 (none, .mv 2 (.t 12)),
 (none, .kp [2])])
 (.rt))
theorem mr164 : MrT Try.prog 164 pc164 [.t 2] 13 := fun hn h => spec_of_run (fn := Try.f164) (by kernel_rfl) rfl (by kernel_rfl) (by kernel_rfl) hn h
theorem mk164 : MkT Try.prog 164 pc164 [.t 2] 13 := mr164.k
theorem mw164 : MwT Try.prog 164 pc164 [.t 2] 13 := mr164.w
-- 165 spec.l31Side
def pc165 : PC := .seq (.rg [(none, .bx 2 (.t 0)),
 (none, .al 4 [.n .i64 0, .n .i64 0, .n .i64 0, .nil, .n .i64 0]),
 (none, .al 5 [.n .i64 0, .n .i64 0, .n .i64 0, .nil, .n .i64 0]),
 (none, .kp [1, 2, 4, 5])])
 (.seq (.seq (.rg [(none, .mv 6 (.t 1)),
 (none, .kp [2, 4, 5, 6])])
 (.ite (.t 6) (.seq (.dr [[], [0], [], [2], [0, 1], [0, 1, 2, 3, 4]]
 (.q 0 (none, .fa 7 9 (.t 2))
 (.q 1 (none, .ld 8 (some 5) (.t 7))
 (.q 2 (none, .fa 9 4 (.t 2))
 (.q 3 (none, .ld 10 (some 5) (.t 9))
 (.alt 4 (none, .st 5 (.t 4) (.t 8)) [false, false, true, true]
 (.alt 5 (none, .st 5 (.t 5) (.t 10)) [false, false, false, false]
 (.done)
 (.stop))
 (.stop)))))) [4, 5])
 (.rt))
 (.sk)))
 (.seq (.dr [[], [0], [], [2], [0, 1], [0, 1, 2, 3, 4]]
 (.q 0 (none, .fa 11 4 (.t 2))
 (.q 1 (none, .ld 12 (some 5) (.t 11))
 (.q 2 (none, .fa 13 9 (.t 2))
 (.q 3 (none, .ld 14 (some 5) (.t 13))
 (.alt 4 (none, .st 5 (.t 4) (.t 12)) [false, false, true, true]
 (.alt 5 (none, .st 5 (.t 5) (.t 14)) [false, false, false, false]
 (.done)
 (.stop))
 (.stop)))))) [4, 5])
 (.rt)))
theorem mr165 : MrT Try.prog 165 pc165 [.c 4 (some 5), .c 5 (some 5)] 15 := fun hn h => spec_of_run (fn := Try.f165) (by kernel_rfl) rfl (by kernel_rfl) (by kernel_rfl) hn h
theorem mk165 : MkT Try.prog 165 pc165 [.c 4 (some 5), .c 5 (some 5)] 15 := mr165.k
theorem mw165 : MwT Try.prog 165 pc165 [.c 4 (some 5), .c 5 (some 5)] 15 := mr165.w
-- 166 spec.l31Init
def pc166 : PC := .seq (.rg [(none, .bx 3 (.t 0)),
 (none, .bx 5 (.t 2)),
 (none, .al 6 [.n .i64 0, .n .i64 0, .n .i64 0, .b false, .n .i64 0, .n .i64 0, .n .i64 0, .nil, .n .i64 0, .n .i64 0, .n .i64 0, .n .i64 0, .nil, .n .i64 0]),
 (none, .mv 7 (.c (.n .i64 0))),
 (none, .kp [1, 3, 5, 6])])
 (.seq (.rg [(none, .ld 15 (some 3) (.t 5)),
 (none, .ca (some 16) 178 [.t 15]),
 (none, .mv 14 (.t 16)),
 (none, .ex 17 (.t 14) 0),
 (none, .ex 18 (.t 14) 1),
 (none, .al 8 [.n .i64 0, .n .i64 0, .n .i64 0, .n .i64 0]),
 (none, .st 4 (.t 8) (.t 17)),
 (none, .mv 9 (.t 18)),
 (none, .kp [1, 3, 5, 6, 8, 9])])
 (.seq (.rg [(none, .fa 19 2 (.t 3)),
 (none, .ld 20 none (.t 19)),
 (none, .bi 21 .eql (.t 20) (.c (.n .i64 0))),
 (none, .mv 22 (.t 21)),
 (some (22, true), .mv 23 (.t 1)),
 (some (22, true), .un 24 .not (.t 23)),
 (none, .pk 25 (.t 22) (.t 24) (.c (.b false))),
 (none, .mv 26 (.t 25)),
 (some (26, true), .fa 27 0 (.t 5)),
 (some (26, true), .ld 28 none (.t 27)),
 (some (26, true), .bi 29 .eql (.t 28) (.c (.n .i64 1))),
 (none, .pk 30 (.t 26) (.t 29) (.c (.b false))),
 (none, .mv 31 (.t 30)),
 (some (31, false), .fa 32 2 (.t 3)),
 (some (31, false), .ld 33 none (.t 32)),
 (some (31, false), .bi 34 .eql (.t 33) (.c (.n .i64 1))),
 (some (31, false), .mv 35 (.t 34)),
 (some (35, true), .mv 36 (.t 1)),
 (some (31, false), .pk 37 (.t 35) (.t 36) (.c (.b false))),
 (some (31, false), .mv 38 (.t 37)),
 (some (38, true), .fa 39 0 (.t 5)),
 (some (38, true), .ld 40 none (.t 39)),
 (some (38, true), .bi 41 .eql (.t 40) (.c (.n .i64 2))),
 (some (31, false), .pk 42 (.t 38) (.t 41) (.c (.b false))),
 (none, .pk 43 (.t 31) (.c (.b true)) (.t 42)),
 (none, .mv 10 (.t 43)),
 (none, .kp [1, 3, 5, 6, 8, 9, 10])])
 (.seq (.rg [(none, .fa 44 2 (.t 3)),
 (none, .ld 45 none (.t 44)),
 (none, .ca (some 46) 116 [.t 45, .c (.n .i64 1), .c (.n .i64 2)]),
 (none, .mv 47 (.t 46)),
 (some (47, true), .mv 48 (.t 1)),
 (some (47, true), .un 49 .not (.t 48)),
 (none, .pk 50 (.t 47) (.t 49) (.c (.b false))),
 (none, .mv 51 (.t 50)),
 (some (51, true), .fa 52 0 (.t 5)),
 (some (51, true), .ld 53 none (.t 52)),
 (some (51, true), .bi 54 .eql (.t 53) (.c (.n .i64 1))),
 (none, .pk 55 (.t 51) (.t 54) (.c (.b false))),
 (none, .mv 56 (.t 55)),
 (some (56, false), .fa 57 2 (.t 3)),
 (some (56, false), .ld 58 none (.t 57)),
 (some (56, false), .bi 59 .eql (.t 58) (.c (.n .i64 2))),
 (some (56, false), .mv 60 (.t 59)),
 (some (60, true), .mv 61 (.t 1)),
 (some (56, false), .pk 62 (.t 60) (.t 61) (.c (.b false))),
 (some (56, false), .mv 63 (.t 62)),
 (some (63, true), .fa 64 0 (.t 5)),
 (some (63, true), .ld 65 none (.t 64)),
 (some (63, true), .bi 66 .eql (.t 65) (.c (.n .i64 2))),
 (some (56, false), .pk 67 (.t 63) (.t 66) (.c (.b false))),
 (none, .pk 68 (.t 56) (.c (.b true)) (.t 67)),
 (none, .mv 11 (.t 68)),
 (none, .kp [1, 3, 6, 8, 9, 10, 11])])
 (.seq (.rg [(none, .ld 70 (some 14) (.t 3)),
 (none, .mv 71 (.t 1)),
 (none, .ca (some 72) 165 [.t 70, .t 71]),
 (none, .mv 69 (.t 72)),
 (none, .ex 73 (.t 69) 0),
 (none, .ex 74 (.t 69) 1),
 (none, .al 12 [.n .i64 0, .n .i64 0, .n .i64 0, .nil, .n .i64 0]),
 (none, .al 13 [.n .i64 0, .n .i64 0, .n .i64 0, .nil, .n .i64 0]),
 (none, .st 5 (.t 12) (.t 73)),
 (none, .st 5 (.t 13) (.t 74)),
 (none, .kp [1, 3, 6, 8, 9, 10, 11, 12])])
 (.seq (.blk 0 (.seq (.rg [(none, .mv 76 (.t 10)),
 (none, .un 77 .not (.t 76)),
 (none, .mv 78 (.t 77)),
 (some (78, true), .mv 79 (.t 11)),
 (some (78, true), .un 80 .not (.t 79)),
 (none, .pk 81 (.t 78) (.t 80) (.c (.b false))),
 (none, .mv 75 (.t 81)),
 (none, .kp [1, 3, 6, 8, 9, 11, 12, 75])])
 (.ite (.t 75) (.seq (.rg [(none, .ld 82 (some 14) (.t 3)),
 (none, .st 14 (.t 6) (.t 82)),
 (none, .mv 7 (.c (.n .i64 3))),
 (none, .kp [6, 7])])
 (.rt))
 (.seq (.rg [(none, .mv 84 (.t 9)),
 (none, .un 85 .not (.t 84)),
 (none, .mv 83 (.t 85)),
 (none, .kp [1, 3, 6, 8, 11, 12, 83])])
 (.ite (.t 83) (.seq (.rg [(none, .ld 86 (some 14) (.t 3)),
 (none, .st 14 (.t 6) (.t 86)),
 (none, .mv 7 (.c (.n .i64 4))),
 (none, .kp [6, 7])])
 (.rt))
 (.seq (.rg [(none, .mv 88 (.t 11)),
 (none, .mv 89 (.t 88)),
 (some (89, true), .fa 90 0 (.t 8)),
 (some (89, true), .ld 91 none (.t 90)),
 (some (89, true), .fa 92 0 (.t 12)),
 (some (89, true), .ld 93 none (.t 92)),
 (some (89, true), .bi 94 .neq (.t 91) (.t 93)),
 (some (89, true), .mv 95 (.t 94)),
 (some (95, false), .fa 96 2 (.t 8)),
 (some (95, false), .ld 97 none (.t 96)),
 (some (95, false), .fa 98 1 (.t 12)),
 (some (95, false), .ld 99 none (.t 98)),
 (some (95, false), .bi 100 .neq (.t 97) (.t 99)),
 (some (89, true), .pk 101 (.t 95) (.c (.b true)) (.t 100)),
 (some (89, true), .mv 102 (.t 101)),
 (some (102, false), .fa 103 3 (.t 8)),
 (some (102, false), .ld 104 none (.t 103)),
 (some (102, false), .fa 105 2 (.t 12)),
 (some (102, false), .ld 106 none (.t 105)),
 (some (102, false), .bi 107 .neq (.t 104) (.t 106)),
 (some (89, true), .pk 108 (.t 102) (.c (.b true)) (.t 107)),
 (none, .pk 109 (.t 89) (.t 108) (.c (.b false))),
 (none, .mv 87 (.t 109)),
 (none, .kp [1, 3, 6, 8, 11, 87])])
 (.ite (.t 87) (.seq (.rg [(none, .ld 110 (some 14) (.t 3)),
 (none, .st 14 (.t 6) (.t 110)),
 (none, .mv 7 (.c (.n .i64 7))),
 (none, .kp [6, 7])])
 (.rt))
 (.seq (.rg [(none, .mv 112 (.t 11)),
 (none, .mv 111 (.t 112)),
 (none, .kp [1, 3, 6, 8, 111])])
 (.ite (.t 111) (.seq (.rg [(none, .ld 113 (some 14) (.t 3)),
 (none, .st 14 (.t 6) (.t 113)),
 (none, .mv 7 (.c (.n .i64 0))),
 (none, .kp [6, 7])])
 (.rt))
 (.sk))))))))))
 (.seq (.rg [(none, .fa 114 2 (.t 3)),
 (none, .ld 115 none (.t 114)),
 (none, .bi 116 .add (.t 115) (.c (.n .i64 1))),
 (none, .fa 117 2 (.t 3)),
 (none, .st 1 (.t 117) (.t 116)),
 (none, .kp [1, 3, 6, 8])])
 (.seq (.rg [(none, .ld 118 (some 14) (.t 3)),
 (none, .mv 119 (.t 1)),
 (none, .fa 120 0 (.t 8)),
 (none, .ld 121 none (.t 120)),
 (none, .fa 122 2 (.t 8)),
 (none, .ld 123 none (.t 122)),
 (none, .fa 124 3 (.t 8)),
 (none, .ld 125 none (.t 124)),
 (none, .bs 126 7 0 [.n .i64 0, .n .i64 0, .n .i64 0, .b false, .b false, .b false, .s []] []),
 (none, .bd 127 [.n .i64 0, .n .i64 0, .n .i64 0, .nil, .n .i64 0] [(0, 1, .t 121), (1, 1, .t 123), (2, 1, .t 125), (3, 1, .t 126)]),
 (none, .ca (some 128) 179 [.t 118, .t 119, .t 127]),
 (none, .st 14 (.t 6) (.t 128)),
 (none, .mv 7 (.c (.n .i64 0))),
 (none, .kp [6, 7])])
 (.rt))))))))
theorem mr166 : MrT Try.prog 166 pc166 [.c 6 (some 14), .t 7] 129 := fun hn h => spec_of_run (fn := Try.f166) (by kernel_rfl) rfl (by kernel_rfl) (by kernel_rfl) hn h
theorem mk166 : MkT Try.prog 166 pc166 [.c 6 (some 14), .t 7] 129 := mr166.k
theorem mw166 : MwT Try.prog 166 pc166 [.c 6 (some 14), .t 7] 129 := mr166.w
-- 167 spec.l31Data
def pc167 : PC := .seq (.rg [(none, .bx 3 (.t 0)),
 (none, .bx 5 (.t 2)),
 (none, .al 6 [.n .i64 0, .n .i64 0, .n .i64 0, .b false, .n .i64 0, .n .i64 0, .n .i64 0, .nil, .n .i64 0, .n .i64 0, .n .i64 0, .n .i64 0, .nil, .n .i64 0]),
 (none, .mv 7 (.c (.n .i64 0))),
 (none, .kp [1, 3, 5, 6])])
 (.seq (.rg [(none, .ld 17 (some 3) (.t 5)),
 (none, .ca (some 18) 180 [.t 17]),
 (none, .mv 16 (.t 18)),
 (none, .ex 19 (.t 16) 0),
 (none, .ex 20 (.t 16) 1),
 (none, .al 8 [.n .i64 0, .n .i64 0, .n .i64 0, .b false, .b false, .b false, .s []]),
 (none, .st 7 (.t 8) (.t 19)),
 (none, .mv 9 (.t 20)),
 (none, .kp [1, 3, 6, 8, 9])])
 (.seq (.rg [(none, .ld 22 (some 14) (.t 3)),
 (none, .mv 23 (.t 1)),
 (none, .ca (some 24) 165 [.t 22, .t 23]),
 (none, .mv 21 (.t 24)),
 (none, .ex 25 (.t 21) 0),
 (none, .ex 26 (.t 21) 1),
 (none, .al 10 [.n .i64 0, .n .i64 0, .n .i64 0, .nil, .n .i64 0]),
 (none, .al 11 [.n .i64 0, .n .i64 0, .n .i64 0, .nil, .n .i64 0]),
 (none, .st 5 (.t 10) (.t 25)),
 (none, .st 5 (.t 11) (.t 26)),
 (none, .kp [1, 3, 6, 8, 9, 10])])
 (.seq (.rg [(none, .fa 27 3 (.t 10)),
 (none, .ld 28 none (.t 27)),
 (none, .ln 29 (.t 28)),
 (none, .mv 12 (.t 29)),
 (none, .kp [1, 3, 6, 8, 9, 10, 12])])
 (.seq (.rg [(none, .mv 13 (.c (.n .i64 0))),
 (none, .kp [1, 3, 6, 8, 9, 10, 12, 13])])
 (.seq (.seq (.rg [(none, .mv 30 (.t 9)),
 (none, .kp [1, 3, 6, 8, 9, 10, 12, 13, 30])])
 (.ite (.t 30) (.rg [(none, .fa 31 0 (.t 8)),
 (none, .ld 32 none (.t 31)),
 (none, .fa 33 2 (.t 10)),
 (none, .ld 34 none (.t 33)),
 (none, .un 35 .neg (.t 34)),
 (none, .ca (some 36) 139 [.t 32, .t 35]),
 (none, .mv 13 (.t 36)),
 (none, .kp [1, 3, 6, 8, 9, 10, 12, 13])])
 (.sk)))
 (.seq (.rg [(none, .fa 37 2 (.t 3)),
 (none, .ld 38 none (.t 37)),
 (none, .bi 39 .eql (.t 38) (.c (.n .i64 4))),
 (none, .mv 40 (.t 39)),
 (some (40, false), .fa 41 2 (.t 3)),
 (some (40, false), .ld 42 none (.t 41)),
 (some (40, false), .bi 43 .eql (.t 42) (.c (.n .i64 3))),
 (some (40, false), .mv 44 (.t 43)),
 (some (44, true), .mv 45 (.t 1)),
 (some (44, true), .un 46 .not (.t 45)),
 (some (40, false), .pk 47 (.t 44) (.t 46) (.c (.b false))),
 (none, .pk 48 (.t 40) (.c (.b true)) (.t 47)),
 (none, .mv 14 (.t 48)),
 (none, .kp [1, 3, 6, 8, 9, 10, 12, 13, 14])])
 (.seq (.rg [(none, .mv 49 (.t 14)),
 (none, .mv 50 (.t 49)),
 (some (50, false), .fa 51 2 (.t 3)),
 (some (50, false), .ld 52 none (.t 51)),
 (some (50, false), .bi 53 .eql (.t 52) (.c (.n .i64 5))),
 (some (50, false), .mv 54 (.t 53)),
 (some (54, true), .mv 55 (.t 1)),
 (some (54, true), .fa 56 3 (.t 3)),
 (some (54, true), .ld 57 none (.t 56)),
 (some (54, true), .bb 58 true (.t 55) (.t 57)),
 (some (50, false), .pk 59 (.t 54) (.t 58) (.c (.b false))),
 (none, .pk 60 (.t 50) (.c (.b true)) (.t 59)),
 (none, .mv 15 (.t 60)),
 (none, .kp [1, 3, 6, 8, 9, 10, 12, 13, 14, 15])])
 (.seq (.blk 0 (.seq (.rg [(none, .mv 62 (.t 15)),
 (none, .un 63 .not (.t 62)),
 (none, .mv 61 (.t 63)),
 (none, .kp [1, 3, 6, 8, 9, 10, 12, 13, 14, 61])])
 (.ite (.t 61) (.seq (.rg [(none, .ld 64 (some 14) (.t 3)),
 (none, .st 14 (.t 6) (.t 64)),
 (none, .mv 7 (.c (.n .i64 3))),
 (none, .kp [6, 7])])
 (.rt))
 (.seq (.rg [(none, .mv 66 (.t 9)),
 (none, .un 67 .not (.t 66)),
 (none, .mv 65 (.t 67)),
 (none, .kp [1, 3, 6, 8, 10, 12, 13, 14, 65])])
 (.ite (.t 65) (.seq (.rg [(none, .ld 68 (some 14) (.t 3)),
 (none, .st 14 (.t 6) (.t 68)),
 (none, .mv 7 (.c (.n .i64 4))),
 (none, .kp [6, 7])])
 (.rt))
 (.seq (.dr [[], [], [0, 1], [0, 1, 2], [0, 1, 2, 3], [0, 1, 2, 3, 4], [0, 1, 2, 3], [0, 1, 2, 3, 4, 5, 6], [0, 1, 2, 3, 4, 5, 6, 7], [0, 1, 2, 3], [0, 1, 2, 3, 4, 5, 6, 7, 8, 9], [0, 1, 2, 3, 4, 5, 6, 7, 8, 9, 10], [0, 1, 2, 3, 4, 5, 6, 7, 8, 9, 10, 11]]
 (.q 0 (none, .mv 70 (.t 13))
 (.q 1 (none, .mv 71 (.t 12))
 (.q 2 (none, .bi 72 .lss (.t 70) (.t 71))
 (.q 3 (none, .mv 73 (.t 72))
 (.q 4 (some (73, true), .fa 74 3 (.t 10))
 (.q 5 (some (73, true), .ld 75 none (.t 74))
 (.q 6 (some (73, true), .mv 76 (.t 13))
 (.q 7 (some (73, true), .ia 77 7 (.t 75) (.t 76))
 (.q 8 (some (73, true), .ld 78 (some 7) (.t 77))
 (.q 9 (some (73, true), .ld 79 (some 7) (.t 8))
 (.q 10 (some (73, true), .eqs 80 true [.n .i64 0, .n .i64 0, .n .i64 0, .b false, .b false, .b false, .s []] (.t 78) (.t 79))
 (.q 11 (none, .pk 81 (.t 73) (.t 80) (.c (.b false)))
 (.q 12 (none, .mv 69 (.t 81))
 (.done)))))))))))))) [1, 3, 6, 8, 10, 12, 13, 14, 69])
 (.ite (.t 69) (.seq (.rg [(none, .ld 82 (some 14) (.t 3)),
 (none, .st 14 (.t 6) (.t 82)),
 (none, .mv 7 (.c (.n .i64 7))),
 (none, .kp [6, 7])])
 (.rt))
 (.seq (.rg [(none, .mv 84 (.t 13)),
 (none, .mv 85 (.t 12)),
 (none, .bi 86 .lss (.t 84) (.t 85)),
 (none, .mv 83 (.t 86)),
 (none, .kp [1, 3, 6, 8, 10, 12, 13, 14, 83])])
 (.ite (.t 83) (.seq (.rg [(none, .ld 87 (some 14) (.t 3)),
 (none, .st 14 (.t 6) (.t 87)),
 (none, .mv 7 (.c (.n .i64 0))),
 (none, .kp [6, 7])])
 (.rt))
 (.seq (.rg [(none, .mv 89 (.t 14)),
 (none, .un 90 .not (.t 89)),
 (none, .mv 88 (.t 90)),
 (none, .kp [1, 3, 6, 8, 10, 12, 13, 88])])
 (.ite (.t 88) (.seq (.rg [(none, .ld 91 (some 14) (.t 3)),
 (none, .st 14 (.t 6) (.t 91)),
 (none, .mv 7 (.c (.n .i64 3))),
 (none, .kp [6, 7])])
 (.rt))
 (.seq (.rg [(none, .fa 93 1 (.t 8)),
 (none, .ld 94 none (.t 93)),
 (none, .fa 95 1 (.t 10)),
 (none, .ld 96 none (.t 95)),
 (none, .bi 97 .geq (.t 94) (.t 96)),
 (none, .mv 92 (.t 97)),
 (none, .kp [1, 3, 6, 8, 10, 12, 13, 92])])
 (.ite (.t 92) (.seq (.rg [(none, .ld 98 (some 14) (.t 3)),
 (none, .st 14 (.t 6) (.t 98)),
 (none, .mv 7 (.c (.n .i64 5))),
 (none, .kp [6, 7])])
 (.rt))
 (.seq (.rg [(none, .mv 100 (.t 13)),
 (none, .mv 101 (.t 12)),
 (none, .bi 102 .gtr (.t 100) (.t 101)),
 (none, .mv 99 (.t 102)),
 (none, .kp [1, 3, 6, 8, 10, 12, 99])])
 (.ite (.t 99) (.seq (.rg [(none, .ld 103 (some 14) (.t 3)),
 (none, .st 14 (.t 6) (.t 103)),
 (none, .mv 7 (.c (.n .i64 6))),
 (none, .kp [6, 7])])
 (.rt))
 (.seq (.rg [(none, .fa 105 3 (.t 10)),
 (none, .ld 106 none (.t 105)),
 (none, .ld 107 (some 7) (.t 8)),
 (none, .ca (some 108) 162 [.t 106, .t 107]),
 (none, .un 109 .not (.t 108)),
 (none, .mv 104 (.t 109)),
 (none, .kp [1, 3, 6, 8, 10, 12, 104])])
 (.ite (.t 104) (.seq (.rg [(none, .ld 110 (some 14) (.t 3)),
 (none, .st 14 (.t 6) (.t 110)),
 (none, .mv 7 (.c (.n .i64 8))),
 (none, .kp [6, 7])])
 (.rt))
 (.seq (.rg [(none, .mv 112 (.t 12)),
 (none, .bi 113 .geq (.t 112) (.c (.n .i64 12))),
 (none, .mv 111 (.t 113)),
 (none, .kp [1, 3, 6, 8, 10, 111])])
 (.ite (.t 111) (.seq (.rg [(none, .ld 114 (some 14) (.t 3)),
 (none, .st 14 (.t 6) (.t 114)),
 (none, .mv 7 (.c (.n .i64 11))),
 (none, .kp [6, 7])])
 (.rt))
 (.sk))))))))))))))))))))
 (.seq (.dr [[], [], [1], [0, 1, 2], [], [4], [0, 1, 2, 3, 4, 5], [0, 1, 2, 3, 4, 5, 6], [0, 1, 2, 3, 4, 5, 6, 7]]
 (.q 1 (none, .fa 116 3 (.t 10))
 (.q 2 (none, .ld 117 none (.t 116))
 (.q 4 (none, .ld 119 (some 7) (.t 8))
 (.alt 0 (none, .bs 115 7 0 [.n .i64 0, .n .i64 0, .n .i64 0, .b false, .b false, .b false, .s []] []) [true, true, true]
 (.alt 3 (none, .ap 118 7 48 (.t 115) (.t 117)) [false, false, true]
 (.alt 5 (none, .bs 120 7 1 [.n .i64 0, .n .i64 0, .n .i64 0, .b false, .b false, .b false, .s []] [(0, .t 119)]) [true, true, false]
 (.alt 6 (none, .ap 121 7 48 (.t 118) (.t 120)) [false, false, false]
 (.q 7 (none, .fa 122 3 (.t 10))
 (.alt 8 (none, .st 1 (.t 122) (.t 121)) [false, false, false, false]
 (.done)
 (.stop)))
 (.stop))
 (.stop))
 (.alt 5 (none, .bs 120 7 1 [.n .i64 0, .n .i64 0, .n .i64 0, .b false, .b false, .b false, .s []] [(0, .t 119)]) [true, true, false]
 (.alt 3 (none, .ap 118 7 48 (.t 115) (.t 117)) [false, false, true]
 (.alt 6 (none, .ap 121 7 48 (.t 118) (.t 120)) [false, false, false]
 (.q 7 (none, .fa 122 3 (.t 10))
 (.alt 8 (none, .st 1 (.t 122) (.t 121)) [false, false, false, false]
 (.done)
 (.stop)))
 (.stop))
 (.stop))
 (.stop)))
 (.alt 5 (none, .bs 120 7 1 [.n .i64 0, .n .i64 0, .n .i64 0, .b false, .b false, .b false, .s []] [(0, .t 119)]) [true, true, false]
 (.alt 0 (none, .bs 115 7 0 [.n .i64 0, .n .i64 0, .n .i64 0, .b false, .b false, .b false, .s []] []) [true, true, true]
 (.alt 3 (none, .ap 118 7 48 (.t 115) (.t 117)) [false, false, true]
 (.alt 6 (none, .ap 121 7 48 (.t 118) (.t 120)) [false, false, false]
 (.q 7 (none, .fa 122 3 (.t 10))
 (.alt 8 (none, .st 1 (.t 122) (.t 121)) [false, false, false, false]
 (.done)
 (.stop)))
 (.stop))
 (.stop))
 (.stop))
 (.stop)))))) [1, 3, 6, 10])
 (.seq (.rg [(none, .ld 123 (some 14) (.t 3)),
 (none, .mv 124 (.t 1)),
 (none, .ld 125 (some 5) (.t 10)),
 (none, .ca (some 126) 179 [.t 123, .t 124, .t 125]),
 (none, .st 14 (.t 6) (.t 126)),
 (none, .mv 7 (.c (.n .i64 0))),
 (none, .kp [6, 7])])
 (.rt)))))))))))
theorem mr167 : MrT Try.prog 167 pc167 [.c 6 (some 14), .t 7] 127 := fun hn h => spec_of_run (fn := Try.f167) (by kernel_rfl) rfl (by kernel_rfl) (by kernel_rfl) hn h
theorem mk167 : MkT Try.prog 167 pc167 [.c 6 (some 14), .t 7] 127 := mr167.k
theorem mw167 : MwT Try.prog 167 pc167 [.c 6 (some 14), .t 7] 127 := mr167.w
-- 168 spec.l31Sack
def pc168 : PC := .seq (.rg [(none, .bx 3 (.t 0)),
 (none, .bx 5 (.t 2)),
 (none, .al 6 [.n .i64 0, .n .i64 0, .n .i64 0, .b false, .n .i64 0, .n .i64 0, .n .i64 0, .nil, .n .i64 0, .n .i64 0, .n .i64 0, .n .i64 0, .nil, .n .i64 0]),
 (none, .mv 7 (.c (.n .i64 0))),
 (none, .kp [1, 3, 5, 6])])
 (.seq (.rg [(none, .ld 15 (some 3) (.t 5)),
 (none, .ca (some 16) 181 [.t 15]),
 (none, .mv 14 (.t 16)),
 (none, .ex 17 (.t 14) 0),
 (none, .ex 18 (.t 14) 1),
 (none, .al 8 [.n .i64 0, .nil]),
 (none, .st 2 (.t 8) (.t 17)),
 (none, .mv 9 (.t 18)),
 (none, .kp [1, 3, 6, 8, 9])])
 (.seq (.rg [(none, .ld 20 (some 14) (.t 3)),
 (none, .mv 21 (.t 1)),
 (none, .ca (some 22) 165 [.t 20, .t 21]),
 (none, .mv 19 (.t 22)),
 (none, .ex 23 (.t 19) 0),
 (none, .ex 24 (.t 19) 1),
 (none, .al 10 [.n .i64 0, .n .i64 0, .n .i64 0, .nil, .n .i64 0]),
 (none, .al 11 [.n .i64 0, .n .i64 0, .n .i64 0, .nil, .n .i64 0]),
 (none, .st 5 (.t 10) (.t 23)),
 (none, .st 5 (.t 11) (.t 24)),
 (none, .kp [1, 3, 6, 8, 9, 11])])
 (.seq (.blk 0 (.seq (.rg [(none, .fa 26 2 (.t 3)),
 (none, .ld 27 none (.t 26)),
 (none, .ca (some 28) 116 [.t 27, .c (.n .i64 4), .c (.n .i64 5)]),
 (none, .un 29 .not (.t 28)),
 (none, .mv 25 (.t 29)),
 (none, .kp [1, 3, 6, 8, 9, 11, 25])])
 (.ite (.t 25) (.seq (.rg [(none, .ld 30 (some 14) (.t 3)),
 (none, .st 14 (.t 6) (.t 30)),
 (none, .mv 7 (.c (.n .i64 3))),
 (none, .kp [6, 7])])
 (.rt))
 (.seq (.rg [(none, .mv 32 (.t 9)),
 (none, .un 33 .not (.t 32)),
 (none, .mv 31 (.t 33)),
 (none, .kp [1, 3, 6, 8, 11, 31])])
 (.ite (.t 31) (.seq (.rg [(none, .ld 34 (some 14) (.t 3)),
 (none, .st 14 (.t 6) (.t 34)),
 (none, .mv 7 (.c (.n .i64 4))),
 (none, .kp [6, 7])])
 (.rt))
 (.sk))))))
 (.seq (.dr [[], [0], [0, 1], [], [3], [0, 1, 2, 3, 4], [0, 1, 2, 3, 4, 5]]
 (.q 0 (none, .fa 35 2 (.t 11))
 (.q 1 (none, .ld 36 none (.t 35))
 (.q 3 (none, .fa 38 0 (.t 8))
 (.q 4 (none, .ld 39 none (.t 38))
 (.alt 2 (none, .ca (some 37) 139 [.t 36, .c (.n .i64 (-1))]) [false, false, true, true]
 (.alt 5 (none, .ca (some 40) 182 [.t 37, .t 39]) [false, false, false, false]
 (.q 6 (none, .mv 12 (.t 40))
 (.done))
 (.stop))
 (.stop)))))) [1, 3, 6, 8, 11, 12])
 (.seq (.rg [(none, .mv 41 (.t 12)),
 (none, .mv 13 (.t 41)),
 (none, .kp [1, 3, 6, 8, 11, 12, 13])])
 (.seq (.seq (.rg [(none, .fa 42 1 (.t 8)),
 (none, .ld 43 none (.t 42)),
 (none, .ln 44 (.t 43)),
 (none, .bi 45 .gtr (.t 44) (.c (.n .i64 0))),
 (none, .kp [1, 3, 6, 8, 11, 12, 13, 45])])
 (.ite (.t 45) (.rg [(none, .mv 46 (.t 12)),
 (none, .fa 47 1 (.t 8)),
 (none, .ld 48 none (.t 47)),
 (none, .fa 49 1 (.t 8)),
 (none, .ld 50 none (.t 49)),
 (none, .ln 51 (.t 50)),
 (none, .bi 52 .sub (.t 51) (.c (.n .i64 1))),
 (none, .ia 53 2 (.t 48) (.t 52)),
 (none, .fa 54 1 (.t 53)),
 (none, .ld 55 none (.t 54)),
 (none, .bi 56 .add (.t 46) (.t 55)),
 (none, .mv 13 (.t 56)),
 (none, .kp [1, 3, 6, 11, 12, 13])])
 (.sk)))
 (.seq (.seq (.rg [(none, .mv 57 (.t 12)),
 (none, .fa 58 3 (.t 11)),
 (none, .ld 59 none (.t 58)),
 (none, .ln 60 (.t 59)),
 (none, .ca (some 61) 116 [.t 57, .c (.n .i64 0), .t 60]),
 (none, .un 62 .not (.t 61)),
 (none, .mv 63 (.t 62)),
 (some (63, false), .mv 64 (.t 13)),
 (some (63, false), .fa 65 3 (.t 11)),
 (some (63, false), .ld 66 none (.t 65)),
 (some (63, false), .ln 67 (.t 66)),
 (some (63, false), .bi 68 .gtr (.t 64) (.t 67)),
 (none, .pk 69 (.t 63) (.c (.b true)) (.t 68)),
 (none, .kp [1, 3, 6, 11, 12, 69])])
 (.ite (.t 69) (.seq (.rg [(none, .ld 70 (some 14) (.t 3)),
 (none, .st 14 (.t 6) (.t 70)),
 (none, .mv 7 (.c (.n .i64 9))),
 (none, .kp [6, 7])])
 (.rt))
 (.sk)))
 (.seq (.rg [(none, .fa 71 4 (.t 11)),
 (none, .ld 72 none (.t 71)),
 (none, .mv 73 (.t 12)),
 (none, .mx 74 (.t 72) (.t 73)),
 (none, .fa 75 4 (.t 11)),
 (none, .st 1 (.t 75) (.t 74)),
 (none, .kp [1, 3, 6, 11])])
 (.seq (.rg [(none, .ld 76 (some 14) (.t 3)),
 (none, .mv 77 (.t 1)),
 (none, .un 78 .not (.t 77)),
 (none, .ld 79 (some 5) (.t 11)),
 (none, .ca (some 80) 179 [.t 76, .t 78, .t 79]),
 (none, .st 14 (.t 6) (.t 80)),
 (none, .mv 7 (.c (.n .i64 0))),
 (none, .kp [6, 7])])
 (.rt))))))))))
theorem mr168 : MrT Try.prog 168 pc168 [.c 6 (some 14), .t 7] 81 := fun hn h => spec_of_run (fn := Try.f168) (by kernel_rfl) rfl (by kernel_rfl) (by kernel_rfl) hn h
theorem mk168 : MkT Try.prog 168 pc168 [.c 6 (some 14), .t 7] 81 := mr168.k
theorem mw168 : MwT Try.prog 168 pc168 [.c 6 (some 14), .t 7] 81 := mr168.w
-- 169 spec.l31End
def pc169 : PC := .seq (.rg [(none, .bx 3 (.t 0)),
 (none, .al 6 [.n .i64 0, .n .i64 0, .n .i64 0, .b false, .n .i64 0, .n .i64 0, .n .i64 0, .nil, .n .i64 0, .n .i64 0, .n .i64 0, .n .i64 0, .nil, .n .i64 0]),
 (none, .mv 7 (.c (.n .i64 0))),
 (none, .kp [1, 2, 3, 6])])
 (.seq (.rg [(none, .ld 12 (some 14) (.t 3)),
 (none, .mv 13 (.t 1)),
 (none, .ca (some 14) 165 [.t 12, .t 13]),
 (none, .mv 11 (.t 14)),
 (none, .ex 15 (.t 11) 0),
 (none, .ex 16 (.t 11) 1),
 (none, .al 8 [.n .i64 0, .n .i64 0, .n .i64 0, .nil, .n .i64 0]),
 (none, .al 9 [.n .i64 0, .n .i64 0, .n .i64 0, .nil, .n .i64 0]),
 (none, .st 5 (.t 8) (.t 15)),
 (none, .st 5 (.t 9) (.t 16)),
 (none, .kp [1, 2, 3, 6, 8])])
 (.seq (.rg [(none, .fa 17 4 (.t 8)),
 (none, .ld 18 none (.t 17)),
 (none, .fa 19 3 (.t 8)),
 (none, .ld 20 none (.t 19)),
 (none, .ln 21 (.t 20)),
 (none, .bi 22 .eql (.t 18) (.t 21)),
 (none, .mv 10 (.t 22)),
 (none, .kp [1, 2, 3, 6, 10])])
 (.seq (.blk 0 (.seq (.rg [(none, .mv 25 (.t 2)),
 (none, .bi 26 .eql (.t 25) (.c (.n .i64 6))),
 (none, .mv 27 (.t 26)),
 (some (27, true), .fa 28 2 (.t 3)),
 (some (27, true), .ld 29 none (.t 28)),
 (some (27, true), .ca (some 30) 116 [.t 29, .c (.n .i64 1), .c (.n .i64 6)]),
 (none, .pk 31 (.t 27) (.t 30) (.c (.b false))),
 (none, .mv 24 (.t 31)),
 (none, .kp [1, 2, 3, 6, 10, 24])])
 (.ite (.t 24) (.rg [(none, .fa 32 2 (.t 3)),
 (none, .st 1 (.t 32) (.c (.n .i64 7))),
 (none, .kp [3, 6])])
 (.seq (.rg [(none, .mv 34 (.t 2)),
 (none, .bi 35 .eql (.t 34) (.c (.n .i64 7))),
 (none, .mv 36 (.t 35)),
 (some (36, true), .fa 37 2 (.t 3)),
 (some (36, true), .ld 38 none (.t 37)),
 (some (36, true), .bi 39 .eql (.t 38) (.c (.n .i64 4))),
 (none, .pk 40 (.t 36) (.t 39) (.c (.b false))),
 (none, .mv 41 (.t 40)),
 (some (41, true), .mv 42 (.t 10)),
 (some (41, true), .un 43 .not (.t 42)),
 (none, .pk 44 (.t 41) (.t 43) (.c (.b false))),
 (none, .mv 33 (.t 44)),
 (none, .kp [1, 2, 3, 6, 10, 33])])
 (.ite (.t 33) (.seq (.rg [(none, .ld 45 (some 14) (.t 3)),
 (none, .st 14 (.t 6) (.t 45)),
 (none, .mv 7 (.c (.n .i64 10))),
 (none, .kp [6, 7])])
 (.rt))
 (.seq (.rg [(none, .mv 47 (.t 2)),
 (none, .bi 48 .eql (.t 47) (.c (.n .i64 7))),
 (none, .mv 49 (.t 48)),
 (some (49, true), .fa 50 2 (.t 3)),
 (some (49, true), .ld 51 none (.t 50)),
 (some (49, true), .bi 52 .eql (.t 51) (.c (.n .i64 4))),
 (none, .pk 53 (.t 49) (.t 52) (.c (.b false))),
 (none, .mv 46 (.t 53)),
 (none, .kp [1, 2, 3, 6, 10, 46])])
 (.ite (.t 46) (.seq (.rg [(none, .fa 54 2 (.t 3)),
 (none, .st 1 (.t 54) (.c (.n .i64 5))),
 (none, .kp [1, 3, 6])])
 (.rg [(none, .mv 55 (.t 1)),
 (none, .fa 56 3 (.t 3)),
 (none, .st 1 (.t 56) (.t 55)),
 (none, .kp [3, 6])]))
 (.seq (.rg [(none, .mv 58 (.t 2)),
 (none, .bi 59 .eql (.t 58) (.c (.n .i64 7))),
 (none, .mv 60 (.t 59)),
 (some (60, true), .fa 61 2 (.t 3)),
 (some (60, true), .ld 62 none (.t 61)),
 (some (60, true), .ca (some 63) 116 [.t 62, .c (.n .i64 5), .c (.n .i64 6)]),
 (none, .pk 64 (.t 60) (.t 63) (.c (.b false))),
 (none, .mv 65 (.t 64)),
 (some (65, true), .mv 66 (.t 1)),
 (some (65, true), .fa 67 3 (.t 3)),
 (some (65, true), .ld 68 none (.t 67)),
 (some (65, true), .bb 69 false (.t 66) (.t 68)),
 (none, .pk 70 (.t 65) (.t 69) (.c (.b false))),
 (none, .mv 57 (.t 70)),
 (none, .kp [1, 2, 3, 6, 10, 57])])
 (.ite (.t 57) (.sk)
 (.seq (.rg [(none, .mv 72 (.t 2)),
 (none, .bi 73 .eql (.t 72) (.c (.n .i64 8))),
 (none, .mv 74 (.t 73)),
 (some (74, true), .fa 75 2 (.t 3)),
 (some (74, true), .ld 76 none (.t 75)),
 (some (74, true), .bi 77 .eql (.t 76) (.c (.n .i64 5))),
 (none, .pk 78 (.t 74) (.t 77) (.c (.b false))),
 (none, .mv 79 (.t 78)),
 (some (79, true), .mv 80 (.t 1)),
 (some (79, true), .fa 81 3 (.t 3)),
 (some (79, true), .ld 82 none (.t 81)),
 (some (79, true), .bb 83 true (.t 80) (.t 82)),
 (none, .pk 84 (.t 79) (.t 83) (.c (.b false))),
 (none, .mv 85 (.t 84)),
 (some (85, true), .mv 86 (.t 10)),
 (some (85, true), .un 87 .not (.t 86)),
 (none, .pk 88 (.t 85) (.t 87) (.c (.b false))),
 (none, .mv 71 (.t 88)),
 (none, .kp [1, 2, 3, 6, 71])])
 (.ite (.t 71) (.seq (.rg [(none, .ld 89 (some 14) (.t 3)),
 (none, .st 14 (.t 6) (.t 89)),
 (none, .mv 7 (.c (.n .i64 10))),
 (none, .kp [6, 7])])
 (.rt))
 (.seq (.rg [(none, .mv 91 (.t 2)),
 (none, .bi 92 .eql (.t 91) (.c (.n .i64 8))),
 (none, .mv 93 (.t 92)),
 (some (93, true), .fa 94 2 (.t 3)),
 (some (93, true), .ld 95 none (.t 94)),
 (some (93, true), .ca (some 96) 116 [.t 95, .c (.n .i64 5), .c (.n .i64 6)]),
 (none, .pk 97 (.t 93) (.t 96) (.c (.b false))),
 (none, .mv 98 (.t 97)),
 (some (98, true), .mv 99 (.t 1)),
 (some (98, true), .fa 100 3 (.t 3)),
 (some (98, true), .ld 101 none (.t 100)),
 (some (98, true), .bb 102 true (.t 99) (.t 101)),
 (none, .pk 103 (.t 98) (.t 102) (.c (.b false))),
 (none, .mv 90 (.t 103)),
 (none, .kp [1, 2, 3, 6, 90])])
 (.ite (.t 90) (.rg [(none, .fa 104 2 (.t 3)),
 (none, .st 1 (.t 104) (.c (.n .i64 6))),
 (none, .kp [3, 6])])
 (.seq (.rg [(none, .mv 106 (.t 2)),
 (none, .bi 107 .eql (.t 106) (.c (.n .i64 14))),
 (none, .mv 108 (.t 107)),
 (some (108, true), .fa 109 2 (.t 3)),
 (some (108, true), .ld 110 none (.t 109)),
 (some (108, true), .bi 111 .eql (.t 110) (.c (.n .i64 6))),
 (none, .pk 112 (.t 108) (.t 111) (.c (.b false))),
 (none, .mv 113 (.t 112)),
 (some (113, true), .mv 114 (.t 1)),
 (some (113, true), .fa 115 3 (.t 3)),
 (some (113, true), .ld 116 none (.t 115)),
 (some (113, true), .bb 117 false (.t 114) (.t 116)),
 (none, .pk 118 (.t 113) (.t 117) (.c (.b false))),
 (none, .mv 105 (.t 118)),
 (none, .kp [3, 6, 105])])
 (.ite (.t 105) (.rg [(none, .fa 119 2 (.t 3)),
 (none, .st 1 (.t 119) (.c (.n .i64 7))),
 (none, .kp [3, 6])])
 (.seq (.rg [(none, .ld 23 (some 14) (.t 3)),
 (none, .st 14 (.t 6) (.t 23)),
 (none, .mv 7 (.c (.n .i64 3))),
 (none, .kp [6, 7])])
 (.rt)))))))))))))))))
 (.seq (.rg [(none, .ld 120 (some 14) (.t 3)),
 (none, .st 14 (.t 6) (.t 120)),
 (none, .mv 7 (.c (.n .i64 0))),
 (none, .kp [6, 7])])
 (.rt)))))
theorem mr169 : MrT Try.prog 169 pc169 [.c 6 (some 14), .t 7] 121 := fun hn h => spec_of_run (fn := Try.f169) (by kernel_rfl) rfl (by kernel_rfl) (by kernel_rfl) hn h
theorem mk169 : MkT Try.prog 169 pc169 [.c 6 (some 14), .t 7] 121 := mr169.k
theorem mw169 : MwT Try.prog 169 pc169 [.c 6 (some 14), .t 7] 121 := mr169.w
-- 170 spec.l31Cookie
def pc170 : PC := .seq (.rg [(none, .bx 3 (.t 0)),
 (none, .al 6 [.n .i64 0, .n .i64 0, .n .i64 0, .b false, .n .i64 0, .n .i64 0, .n .i64 0, .nil, .n .i64 0, .n .i64 0, .n .i64 0, .n .i64 0, .nil, .n .i64 0]),
 (none, .mv 7 (.c (.n .i64 0))),
 (none, .kp [1, 2, 3, 6])])
 (.seq (.blk 0 (.seq (.rg [(none, .mv 10 (.t 2)),
 (none, .bi 11 .eql (.t 10) (.c (.n .i64 10))),
 (none, .mv 12 (.t 11)),
 (some (12, true), .mv 13 (.t 1)),
 (some (12, true), .un 14 .not (.t 13)),
 (none, .pk 15 (.t 12) (.t 14) (.c (.b false))),
 (none, .mv 16 (.t 15)),
 (some (16, true), .fa 17 2 (.t 3)),
 (some (16, true), .ld 18 none (.t 17)),
 (some (16, true), .ca (some 19) 116 [.t 18, .c (.n .i64 2), .c (.n .i64 4)]),
 (none, .pk 20 (.t 16) (.t 19) (.c (.b false))),
 (none, .mv 9 (.t 20)),
 (none, .kp [1, 2, 3, 6, 9])])
 (.ite (.t 9) (.rg [(none, .fa 21 2 (.t 3)),
 (none, .ld 22 none (.t 21)),
 (none, .mx 23 (.t 22) (.c (.n .i64 3))),
 (none, .fa 24 2 (.t 3)),
 (none, .st 1 (.t 24) (.t 23)),
 (none, .kp [3, 6])])
 (.seq (.rg [(none, .mv 26 (.t 2)),
 (none, .bi 27 .eql (.t 26) (.c (.n .i64 11))),
 (none, .mv 28 (.t 27)),
 (some (28, true), .mv 29 (.t 1)),
 (none, .pk 30 (.t 28) (.t 29) (.c (.b false))),
 (none, .mv 31 (.t 30)),
 (some (31, true), .fa 32 2 (.t 3)),
 (some (31, true), .ld 33 none (.t 32)),
 (some (31, true), .ca (some 34) 116 [.t 33, .c (.n .i64 3), .c (.n .i64 4)]),
 (none, .pk 35 (.t 31) (.t 34) (.c (.b false))),
 (none, .mv 25 (.t 35)),
 (none, .kp [2, 3, 6, 25])])
 (.ite (.t 25) (.rg [(none, .fa 36 2 (.t 3)),
 (none, .st 1 (.t 36) (.c (.n .i64 4))),
 (none, .kp [3, 6])])
 (.seq (.rg [(none, .mv 38 (.t 2)),
 (none, .bi 39 .eql (.t 38) (.c (.n .i64 4))),
 (none, .mv 40 (.t 39)),
 (some (40, false), .mv 41 (.t 2)),
 (some (40, false), .bi 42 .eql (.t 41) (.c (.n .i64 5))),
 (none, .pk 43 (.t 40) (.c (.b true)) (.t 42)),
 (none, .mv 44 (.t 43)),
 (some (44, false), .mv 45 (.t 2)),
 (some (44, false), .bi 46 .eql (.t 45) (.c (.n .i64 9))),
 (none, .pk 47 (.t 44) (.c (.b true)) (.t 46)),
 (none, .mv 48 (.t 47)),
 (some (48, true), .fa 49 2 (.t 3)),
 (some (48, true), .ld 50 none (.t 49)),
 (some (48, true), .ca (some 51) 116 [.t 50, .c (.n .i64 3), .c (.n .i64 6)]),
 (none, .pk 52 (.t 48) (.t 51) (.c (.b false))),
 (none, .mv 37 (.t 52)),
 (none, .kp [3, 6, 37])])
 (.ite (.t 37) (.sk)
 (.seq (.rg [(none, .ld 8 (some 14) (.t 3)),
 (none, .st 14 (.t 6) (.t 8)),
 (none, .mv 7 (.c (.n .i64 3))),
 (none, .kp [6, 7])])
 (.rt)))))))))
 (.seq (.rg [(none, .ld 53 (some 14) (.t 3)),
 (none, .st 14 (.t 6) (.t 53)),
 (none, .mv 7 (.c (.n .i64 0))),
 (none, .kp [6, 7])])
 (.rt)))
theorem mr170 : MrT Try.prog 170 pc170 [.c 6 (some 14), .t 7] 54 := fun hn h => spec_of_run (fn := Try.f170) (by kernel_rfl) rfl (by kernel_rfl) (by kernel_rfl) hn h
theorem mk170 : MkT Try.prog 170 pc170 [.c 6 (some 14), .t 7] 54 := mr170.k
theorem mw170 : MwT Try.prog 170 pc170 [.c 6 (some 14), .t 7] 54 := mr170.w
-- 171 laws.toData
def pc171 : PC := .seq (.rg [(none, .bx 1 (.t 0)),
 (none, .al 2 [.n .i64 0, .n .i64 0, .n .i64 0, .b false, .b false, .b false, .s []]),
 (none, .kp [1, 2])])
 (.seq (.rg [(none, .al 3 [.n .i64 0, .n .i64 0, .n .i64 0, .b false, .b false, .b false, .s []]),
 (none, .kp [1, 2, 3])])
 (.seq (.rg [(none, .fa 4 0 (.t 1)),
 (none, .ld 5 none (.t 4)),
 (none, .fa 6 0 (.t 3)),
 (none, .st 1 (.t 6) (.t 5)),
 (none, .kp [1, 2, 3])])
 (.seq (.rg [(none, .fa 7 1 (.t 1)),
 (none, .ld 8 none (.t 7)),
 (none, .fa 9 1 (.t 3)),
 (none, .st 1 (.t 9) (.t 8)),
 (none, .kp [1, 2, 3])])
 (.seq (.rg [(none, .fa 10 2 (.t 1)),
 (none, .ld 11 none (.t 10)),
 (none, .fa 12 2 (.t 3)),
 (none, .st 1 (.t 12) (.t 11)),
 (none, .kp [1, 2, 3])])
 (.seq (.rg [(none, .fa 13 3 (.t 1)),
 (none, .ld 14 none (.t 13)),
 (none, .fa 15 3 (.t 3)),
 (none, .st 1 (.t 15) (.t 14)),
 (none, .kp [1, 2, 3])])
 (.seq (.rg [(none, .fa 16 4 (.t 1)),
 (none, .ld 17 none (.t 16)),
 (none, .fa 18 4 (.t 3)),
 (none, .st 1 (.t 18) (.t 17)),
 (none, .kp [1, 2, 3])])
 (.seq (.rg [(none, .fa 19 5 (.t 1)),
 (none, .ld 20 none (.t 19)),
 (none, .fa 21 5 (.t 3)),
 (none, .st 1 (.t 21) (.t 20)),
 (none, .kp [1, 2, 3])])
 (.seq (.rg [(none, .fa 22 6 (.t 1)),
 (none, .ld 23 none (.t 22)),
 (none, .fa 24 6 (.t 3)),
 (none, .st 1 (.t 24) (.t 23)),
 (none, .kp [2, 3])])
 (.seq (.rg [(none, .ld 25 (some 7) (.t 3)),
 (none, .st 7 (.t 2) (.t 25)),
 (none, .kp [2])])
 (.rt))))))))))
theorem mr171 : MrT Try.prog 171 pc171 [.c 2 (some 7)] 26 := fun hn h => spec_of_run (fn := Try.f171) (by kernel_rfl) rfl (by kernel_rfl) (by kernel_rfl) hn h
theorem mk171 : MkT Try.prog 171 pc171 [.c 2 (some 7)] 26 := mr171.k
theorem mw171 : MwT Try.prog 171 pc171 [.c 2 (some 7)] 26 := mr171.w
-- 172 impl.DataGet
def pc172 : PC := .seq (.rg [(none, .bx 1 (.t 0)),
 (none, .al 2 [.n .i64 0, .n .i64 0, .n .i64 0, .b false, .b false, .b false, .s []]),
 (none, .mv 3 (.c (.b false))),
 (none, .kp [1, 2])])
 (.seq (.seq (.rg [(none, .fa 5 0 (.t 1)),
 (none, .ld 6 none (.t 5)),
 (none, .bi 7 .neq (.t 6) (.c (.n .i64 0))),
 (none, .mv 8 (.t 7)),
 (some (8, false), .fa 9 1 (.t 1)),
 (some (8, false), .ld 10 none (.t 9)),
 (some (8, false), .bi 11 .lss (.t 10) (.c (.n .i64 0))),
 (none, .pk 12 (.t 8) (.c (.b true)) (.t 11)),
 (none, .mv 13 (.t 12)),
 (some (13, false), .fa 14 1 (.t 1)),
 (some (13, false), .ld 15 none (.t 14)),
 (some (13, false), .bi 16 .gtr (.t 15) (.c (.n .i64 7))),
 (none, .pk 17 (.t 13) (.c (.b true)) (.t 16)),
 (none, .mv 18 (.t 17)),
 (some (18, false), .fa 19 2 (.t 1)),
 (some (18, false), .ld 20 none (.t 19)),
 (some (18, false), .lS 21 (.t 20)),
 (some (18, false), .bi 22 .lss (.t 21) (.c (.n .i64 6))),
 (none, .pk 23 (.t 18) (.c (.b true)) (.t 22)),
 (none, .kp [1, 2, 23])])
 (.ite (.t 23) (.seq (.rg [(none, .bd 24 [.n .i64 0, .n .i64 0, .n .i64 0, .b false, .b false, .b false, .s []] []),
 (none, .st 7 (.t 2) (.t 24)),
 (none, .mv 3 (.c (.b false))),
 (none, .kp [2, 3])])
 (.rt))
 (.sk)))
 (.seq (.dr [[], [0], [0, 1], [0, 1, 2], [], [4], [4, 5], [4, 5, 6], [], [8], [8, 9], [8, 9, 10], [], [12], [12, 13], [0, 1, 2, 3, 4, 5, 6, 7, 8, 9, 10, 11, 12, 13, 14], [], [0, 1, 2, 3, 4, 5, 6, 7, 8, 9, 10, 11, 12, 13, 14, 15, 16]]
 (.q 0 (none, .fa 25 1 (.t 1))
 (.q 1 (none, .ld 26 none (.t 25))
 (.q 2 (none, .bi 27 .and (.t 26) (.c (.n .i64 2)))
 (.q 3 (none, .bi 28 .neq (.t 27) (.c (.n .i64 0)))
 (.q 4 (none, .fa 29 1 (.t 1))
 (.q 5 (none, .ld 30 none (.t 29))
 (.q 6 (none, .bi 31 .and (.t 30) (.c (.n .i64 1)))
 (.q 7 (none, .bi 32 .neq (.t 31) (.c (.n .i64 0)))
 (.q 8 (none, .fa 33 1 (.t 1))
 (.q 9 (none, .ld 34 none (.t 33))
 (.q 10 (none, .bi 35 .and (.t 34) (.c (.n .i64 4)))
 (.q 11 (none, .bi 36 .neq (.t 35) (.c (.n .i64 0)))
 (.q 12 (none, .fa 37 2 (.t 1))
 (.q 13 (none, .ld 38 none (.t 37))
 (.q 14 (none, .sS 39 (.t 38) (some (.c (.n .i64 6))) none)
 (.q 15 (none, .bd 40 [.n .i64 0, .n .i64 0, .n .i64 0, .b false, .b false, .b false, .s []] [(3, 1, .t 28), (4, 1, .t 32), (5, 1, .t 36), (6, 1, .t 39)])
 (.alt 16 (none, .al 4 [.n .i64 0, .n .i64 0, .n .i64 0, .b false, .b false, .b false, .s []]) [true, true, true, true, true, true, true, true, true, true, true, true, true, true, true, true]
 (.alt 17 (none, .st 7 (.t 4) (.t 40)) [false, false, false, false, false, false, false, false, false, false, false, false, false, false, false, false]
 (.done)
 (.stop))
 (.stop)))))))))))))))))) [1, 2, 4])
 (.seq (.rg [(none, .fa 42 2 (.t 1)),
 (none, .ld 43 none (.t 42)),
 (none, .ca (some 44) 157 [.t 43, .c (.n .i64 0)]),
 (none, .mv 41 (.t 44)),
 (none, .ex 45 (.t 41) 0),
 (none, .ex 46 (.t 41) 1),
 (none, .fa 47 0 (.t 4)),
 (none, .st 1 (.t 47) (.t 45)),
 (none, .kp [1, 2, 4])])
 (.seq (.rg [(none, .fa 49 2 (.t 1)),
 (none, .ld 50 none (.t 49)),
 (none, .ca (some 51) 157 [.t 50, .c (.n .i64 2)]),
 (none, .mv 48 (.t 51)),
 (none, .ex 52 (.t 48) 0),
 (none, .ex 53 (.t 48) 1),
 (none, .fa 54 1 (.t 4)),
 (none, .st 1 (.t 54) (.t 52)),
 (none, .kp [1, 2, 4])])
 (.seq (.rg [(none, .fa 56 2 (.t 1)),
 (none, .ld 57 none (.t 56)),
 (none, .ca (some 58) 157 [.t 57, .c (.n .i64 4)]),
 (none, .mv 55 (.t 58)),
 (none, .ex 59 (.t 55) 0),
 (none, .ex 60 (.t 55) 1),
 (none, .fa 61 2 (.t 4)),
 (none, .st 1 (.t 61) (.t 59)),
 (none, .kp [2, 4])])
 (.seq (.seq (.rg [(none, .ld 62 (some 7) (.t 4)),
 (none, .ca (some 63) 110 [.t 62]),
 (none, .un 64 .not (.t 63)),
 (none, .kp [2, 4, 64])])
 (.ite (.t 64) (.seq (.rg [(none, .bd 65 [.n .i64 0, .n .i64 0, .n .i64 0, .b false, .b false, .b false, .s []] []),
 (none, .st 7 (.t 2) (.t 65)),
 (none, .mv 3 (.c (.b false))),
 (none, .kp [2, 3])])
 (.rt))
 (.sk)))
 (.seq (.rg [(none, .ld 66 (some 7) (.t 4)),
 (none, .st 7 (.t 2) (.t 66)),
 (none, .mv 3 (.c (.b true))),
 (none, .kp [2, 3])])
 (.rt))))))))
theorem mr172 : MrT Try.prog 172 pc172 [.c 2 (some 7), .t 3] 67 := fun hn h => spec_of_run (fn := Try.f172) (by kernel_rfl) rfl (by kernel_rfl) (by kernel_rfl) hn h
theorem mk172 : MkT Try.prog 172 pc172 [.c 2 (some 7), .t 3] 67 := mr172.k
theorem mw172 : MwT Try.prog 172 pc172 [.c 2 (some 7), .t 3] 67 := mr172.w
-- 173 impl.SackGet
def pc173l0 : PC := .seq (.seq (.rg [(none, .mv 31 (.t 5)),
 (none, .fa 32 2 (.t 1)),
 (none, .ld 33 none (.t 32)),
 (none, .lS 34 (.t 33)),
 (none, .bi 35 .lss (.t 31) (.t 34)),
 (none, .kp [1, 2, 4, 5, 35])])
 (.ite (.t 35) (.sk)
 (.ex 0)))
 (.seq (.blk 1 (.seq (.rg [(none, .bd 38 [.n .i64 0, .n .i64 0] []),
 (none, .al 6 [.n .i64 0, .n .i64 0]),
 (none, .st 2 (.t 6) (.t 38)),
 (none, .kp [1, 2, 4, 5, 6])])
 (.seq (.rg [(none, .fa 40 2 (.t 1)),
 (none, .ld 41 none (.t 40)),
 (none, .mv 42 (.t 5)),
 (none, .ca (some 43) 157 [.t 41, .t 42]),
 (none, .mv 39 (.t 43)),
 (none, .ex 44 (.t 39) 0),
 (none, .ex 45 (.t 39) 1),
 (none, .fa 46 0 (.t 6)),
 (none, .st 1 (.t 46) (.t 44)),
 (none, .kp [1, 2, 4, 5, 6])])
 (.seq (.rg [(none, .fa 48 2 (.t 1)),
 (none, .ld 49 none (.t 48)),
 (none, .mv 50 (.t 5)),
 (none, .bi 51 .add (.t 50) (.c (.n .i64 2))),
 (none, .ca (some 52) 157 [.t 49, .t 51]),
 (none, .mv 47 (.t 52)),
 (none, .ex 53 (.t 47) 0),
 (none, .ex 54 (.t 47) 1),
 (none, .fa 55 1 (.t 6)),
 (none, .st 1 (.t 55) (.t 53)),
 (none, .kp [1, 2, 4, 5, 6])])
 (.rg [(none, .fa 56 1 (.t 4)),
 (none, .ld 57 none (.t 56)),
 (none, .ld 58 (some 2) (.t 6)),
 (none, .bs 59 2 1 [.n .i64 0, .n .i64 0] [(0, .t 58)]),
 (none, .ap 60 2 16 (.t 57) (.t 59)),
 (none, .fa 61 1 (.t 4)),
 (none, .st 1 (.t 61) (.t 60)),
 (none, .kp [1, 2, 4, 5])])))))
 (.rg [(none, .mv 36 (.t 5)),
 (none, .bi 37 .add (.t 36) (.c (.n .i64 4))),
 (none, .mv 5 (.t 37)),
 (none, .kp [1, 2, 4, 5])]))
def pc173 : PC := .seq (.rg [(none, .bx 1 (.t 0)),
 (none, .al 2 [.n .i64 0, .nil]),
 (none, .mv 3 (.c (.b false))),
 (none, .kp [1, 2])])
 (.seq (.seq (.rg [(none, .fa 7 0 (.t 1)),
 (none, .ld 8 none (.t 7)),
 (none, .bi 9 .neq (.t 8) (.c (.n .i64 3))),
 (none, .mv 10 (.t 9)),
 (some (10, false), .fa 11 1 (.t 1)),
 (some (10, false), .ld 12 none (.t 11)),
 (some (10, false), .bi 13 .neq (.t 12) (.c (.n .i64 0))),
 (none, .pk 14 (.t 10) (.c (.b true)) (.t 13)),
 (none, .mv 15 (.t 14)),
 (some (15, false), .fa 16 2 (.t 1)),
 (some (15, false), .ld 17 none (.t 16)),
 (some (15, false), .lS 18 (.t 17)),
 (some (15, false), .bi 19 .rem (.t 18) (.c (.n .i64 4))),
 (some (15, false), .bi 20 .neq (.t 19) (.c (.n .i64 2))),
 (none, .pk 21 (.t 15) (.c (.b true)) (.t 20)),
 (none, .kp [1, 2, 21])])
 (.ite (.t 21) (.seq (.rg [(none, .bd 22 [.n .i64 0, .nil] []),
 (none, .st 2 (.t 2) (.t 22)),
 (none, .mv 3 (.c (.b false))),
 (none, .kp [2, 3])])
 (.rt))
 (.sk)))
 (.seq (.rg [(none, .bd 23 [.n .i64 0, .nil] []),
 (none, .al 4 [.n .i64 0, .nil]),
 (none, .st 2 (.t 4) (.t 23)),
 (none, .kp [1, 2, 4])])
 (.seq (.rg [(none, .fa 25 2 (.t 1)),
 (none, .ld 26 none (.t 25)),
 (none, .ca (some 27) 157 [.t 26, .c (.n .i64 0)]),
 (none, .mv 24 (.t 27)),
 (none, .ex 28 (.t 24) 0),
 (none, .ex 29 (.t 24) 1),
 (none, .fa 30 0 (.t 4)),
 (none, .st 1 (.t 30) (.t 28)),
 (none, .kp [1, 2, 4])])
 (.seq (.seq (.rg [(none, .mv 5 (.c (.n .i64 2))),
 (none, .kp [1, 2, 4, 5])])
 (.blk 0 (.lp pc173l0)))
 (.seq (.seq (.rg [(none, .ld 62 (some 2) (.t 4)),
 (none, .ca (some 63) 145 [.t 62]),
 (none, .un 64 .not (.t 63)),
 (none, .kp [2, 4, 64])])
 (.ite (.t 64) (.seq (.rg [(none, .bd 65 [.n .i64 0, .nil] []),
 (none, .st 2 (.t 2) (.t 65)),
 (none, .mv 3 (.c (.b false))),
 (none, .kp [2, 3])])
 (.rt))
 (.sk)))
 (.seq (.rg [(none, .ld 66 (some 2) (.t 4)),
 (none, .st 2 (.t 2) (.t 66)),
 (none, .mv 3 (.c (.b true))),
 (none, .kp [2, 3])])
 (.rt)))))))
theorem mr173 : MrT Try.prog 173 pc173 [.c 2 (some 2), .t 3] 67 := fun hn h => spec_of_run (fn := Try.f173) (by kernel_rfl) rfl (by kernel_rfl) (by kernel_rfl) hn h
theorem mk173 : MkT Try.prog 173 pc173 [.c 2 (some 2), .t 3] 67 := mr173.k
theorem mw173 : MwT Try.prog 173 pc173 [.c 2 (some 2), .t 3] 67 := mr173.w
-- 174 impl.SerialDiff
def pc174 : PC := .seq (.rg [(none, .mv 4 (.c (.n .i64 0))),
 (none, .kp [0, 1])])
 (.seq (.seq (.rg [(none, .mv 6 (.t 0)),
 (none, .ca (some 7) 109 [.t 6]),
 (none, .un 8 .not (.t 7)),
 (none, .mv 9 (.t 8)),
 (some (9, false), .mv 10 (.t 1)),
 (some (9, false), .ca (some 11) 109 [.t 10]),
 (some (9, false), .un 12 .not (.t 11)),
 (none, .pk 13 (.t 9) (.c (.b true)) (.t 12)),
 (none, .kp [0, 1, 13])])
 (.ite (.t 13) (.seq (.rg [(none, .mv 4 (.c (.n .i64 (-65536)))),
 (none, .kp [4])])
 (.rt))
 (.sk)))
 (.seq (.rg [(none, .mv 14 (.t 1)),
 (none, .mv 15 (.t 0)),
 (none, .bi 16 .sub (.t 14) (.t 15)),
 (none, .bi 17 .add (.t 16) (.c (.n .i64 65536))),
 (none, .bi 18 .rem (.t 17) (.c (.n .i64 65536))),
 (none, .mv 5 (.t 18)),
 (none, .kp [5])])
 (.seq (.seq (.rg [(none, .mv 19 (.t 5)),
 (none, .bi 20 .gtr (.t 19) (.c (.n .i64 32768))),
 (none, .kp [5, 20])])
 (.ite (.t 20) (.rg [(none, .mv 21 (.t 5)),
 (none, .bi 22 .sub (.t 21) (.c (.n .i64 65536))),
 (none, .mv 5 (.t 22)),
 (none, .kp [5])])
 (.sk)))
 (.seq (.rg [(none, .mv 23 (.t 5)),
 (none, .mv 4 (.t 23)),
 (none, .kp [4])])
 (.rt)))))
theorem mr174 : MrT Try.prog 174 pc174 [.t 4] 24 := fun hn h => spec_of_run (fn := Try.f174) (by kernel_rfl) rfl (by kernel_rfl) (by kernel_rfl) hn h
theorem mk174 : MkT Try.prog 174 pc174 [.t 4] 24 := mr174.k
theorem mw174 : MwT Try.prog 174 pc174 [.t 4] 24 := mr174.w
-- 175 laws.eqData
def pc175 : PC := .seq (.rg [(none, .bx 2 (.t 0)),
 (none, .bx 3 (.t 1)),
 (none, .mv 4 (.c (.b false))),
 (none, .kp [2, 3])])
 (.seq (.seq (.rg [(none, .fa 5 0 (.t 2)),
 (none, .ld 6 none (.t 5)),
 (none, .fa 7 0 (.t 3)),
 (none, .ld 8 none (.t 7)),
 (none, .bi 9 .neq (.t 6) (.t 8)),
 (none, .kp [2, 3, 9])])
 (.ite (.t 9) (.seq (.rg [(none, .mv 4 (.c (.b false))),
 (none, .kp [4])])
 (.rt))
 (.sk)))
 (.seq (.seq (.rg [(none, .fa 10 1 (.t 2)),
 (none, .ld 11 none (.t 10)),
 (none, .fa 12 1 (.t 3)),
 (none, .ld 13 none (.t 12)),
 (none, .bi 14 .neq (.t 11) (.t 13)),
 (none, .kp [2, 3, 14])])
 (.ite (.t 14) (.seq (.rg [(none, .mv 4 (.c (.b false))),
 (none, .kp [4])])
 (.rt))
 (.sk)))
 (.seq (.seq (.rg [(none, .fa 15 2 (.t 2)),
 (none, .ld 16 none (.t 15)),
 (none, .fa 17 2 (.t 3)),
 (none, .ld 18 none (.t 17)),
 (none, .bi 19 .neq (.t 16) (.t 18)),
 (none, .kp [2, 3, 19])])
 (.ite (.t 19) (.seq (.rg [(none, .mv 4 (.c (.b false))),
 (none, .kp [4])])
 (.rt))
 (.sk)))
 (.seq (.seq (.rg [(none, .fa 20 3 (.t 2)),
 (none, .ld 21 none (.t 20)),
 (none, .fa 22 3 (.t 3)),
 (none, .ld 23 none (.t 22)),
 (none, .bb 24 true (.t 21) (.t 23)),
 (none, .kp [2, 3, 24])])
 (.ite (.t 24) (.seq (.rg [(none, .mv 4 (.c (.b false))),
 (none, .kp [4])])
 (.rt))
 (.sk)))
 (.seq (.seq (.rg [(none, .fa 25 4 (.t 2)),
 (none, .ld 26 none (.t 25)),
 (none, .fa 27 4 (.t 3)),
 (none, .ld 28 none (.t 27)),
 (none, .bb 29 true (.t 26) (.t 28)),
 (none, .kp [2, 3, 29])])
 (.ite (.t 29) (.seq (.rg [(none, .mv 4 (.c (.b false))),
 (none, .kp [4])])
 (.rt))
 (.sk)))
 (.seq (.seq (.rg [(none, .fa 30 5 (.t 2)),
 (none, .ld 31 none (.t 30)),
 (none, .fa 32 5 (.t 3)),
 (none, .ld 33 none (.t 32)),
 (none, .bb 34 true (.t 31) (.t 33)),
 (none, .kp [2, 3, 34])])
 (.ite (.t 34) (.seq (.rg [(none, .mv 4 (.c (.b false))),
 (none, .kp [4])])
 (.rt))
 (.sk)))
 (.seq (.seq (.rg [(none, .fa 35 6 (.t 2)),
 (none, .ld 36 none (.t 35)),
 (none, .fa 37 6 (.t 3)),
 (none, .ld 38 none (.t 37)),
 (none, .bi 39 .neq (.t 36) (.t 38)),
 (none, .kp [39])])
 (.ite (.t 39) (.seq (.rg [(none, .mv 4 (.c (.b false))),
 (none, .kp [4])])
 (.rt))
 (.sk)))
 (.seq (.rg [(none, .mv 4 (.c (.b true))),
 (none, .kp [4])])
 (.rt)))))))))
theorem mr175 : MrT Try.prog 175 pc175 [.t 4] 40 := fun hn h => spec_of_run (fn := Try.f175) (by kernel_rfl) rfl (by kernel_rfl) (by kernel_rfl) hn h
theorem mk175 : MkT Try.prog 175 pc175 [.t 4] 40 := mr175.k
theorem mw175 : MwT Try.prog 175 pc175 [.t 4] 40 := mr175.w
-- 177 spec.l22Same
def pc177 : PC := .seq (.rg [(none, .bx 2 (.t 0)),
 (none, .bx 3 (.t 1)),
 (none, .mv 4 (.c (.b false))),
 (none, .kp [2, 3])])
 (.seq (.rg [(none, .fa 5 1 (.t 2)),
 (none, .ld 6 none (.t 5)),
 (none, .fa 7 1 (.t 3)),
 (none, .ld 8 none (.t 7)),
 (none, .bi 9 .eql (.t 6) (.t 8)),
 (none, .mv 10 (.t 9)),
 (some (10, true), .fa 11 2 (.t 2)),
 (some (10, true), .ld 12 none (.t 11)),
 (some (10, true), .fa 13 2 (.t 3)),
 (some (10, true), .ld 14 none (.t 13)),
 (some (10, true), .bi 15 .eql (.t 12) (.t 14)),
 (none, .pk 16 (.t 10) (.t 15) (.c (.b false))),
 (none, .mv 17 (.t 16)),
 (some (17, true), .fa 18 5 (.t 2)),
 (some (17, true), .ld 19 none (.t 18)),
 (some (17, true), .fa 20 5 (.t 3)),
 (some (17, true), .ld 21 none (.t 20)),
 (some (17, true), .bb 22 false (.t 19) (.t 21)),
 (none, .pk 23 (.t 17) (.t 22) (.c (.b false))),
 (none, .mv 4 (.t 23)),
 (none, .kp [4])])
 (.rt))
theorem mr177 : MrT Try.prog 177 pc177 [.t 4] 24 := fun hn h => spec_of_run (fn := Try.f177) (by kernel_rfl) rfl (by kernel_rfl) (by kernel_rfl) hn h
theorem mk177 : MkT Try.prog 177 pc177 [.t 4] 24 := mr177.k
theorem mw177 : MwT Try.prog 177 pc177 [.t 4] 24 := mr177.w
-- 178 spec.InitGet
def pc178 : PC := .seq (.rg [(none, .bx 1 (.t 0)),
 (none, .al 2 [.n .i64 0, .n .i64 0, .n .i64 0, .n .i64 0]),
 (none, .mv 3 (.c (.b false))),
 (none, .kp [1, 2])])
 (.seq (.seq (.rg [(none, .fa 5 0 (.t 1)),
 (none, .ld 6 none (.t 5)),
 (none, .bi 7 .neq (.t 6) (.c (.n .i64 1))),
 (none, .mv 8 (.t 7)),
 (some (8, true), .fa 9 0 (.t 1)),
 (some (8, true), .ld 10 none (.t 9)),
 (some (8, true), .bi 11 .neq (.t 10) (.c (.n .i64 2))),
 (none, .pk 12 (.t 8) (.t 11) (.c (.b false))),
 (none, .mv 13 (.t 12)),
 (some (13, false), .fa 14 1 (.t 1)),
 (some (13, false), .ld 15 none (.t 14)),
 (some (13, false), .bi 16 .neq (.t 15) (.c (.n .i64 0))),
 (none, .pk 17 (.t 13) (.c (.b true)) (.t 16)),
 (none, .mv 18 (.t 17)),
 (some (18, false), .fa 19 2 (.t 1)),
 (some (18, false), .ld 20 none (.t 19)),
 (some (18, false), .lS 21 (.t 20)),
 (some (18, false), .bi 22 .neq (.t 21) (.c (.n .i64 10))),
 (none, .pk 23 (.t 18) (.c (.b true)) (.t 22)),
 (none, .kp [1, 2, 23])])
 (.ite (.t 23) (.seq (.rg [(none, .bd 24 [.n .i64 0, .n .i64 0, .n .i64 0, .n .i64 0] []),
 (none, .st 4 (.t 2) (.t 24)),
 (none, .mv 3 (.c (.b false))),
 (none, .kp [2, 3])])
 (.rt))
 (.sk)))
 (.seq (.dr [[], [0], [0, 1], [0, 1, 2], [], [4], [0, 1, 2, 4, 5], [0, 1, 2, 3, 4, 5, 6], [], [8], [0, 1, 2, 4, 5, 6, 8, 9], [], [11], [0, 1, 2, 4, 5, 6, 8, 9, 10, 11, 12], [], [14], [0, 1, 2, 4, 5, 6, 8, 9, 10, 11, 12, 13, 14, 15], [0, 1, 2, 3, 4, 5, 6, 7, 8, 9, 10, 11, 12, 13, 14, 15, 16], [], [0, 1, 2, 3, 4, 5, 6, 7, 8, 9, 10, 11, 12, 13, 14, 15, 16, 17, 18]]
 (.q 0 (none, .fa 25 2 (.t 1))
 (.q 1 (none, .ld 26 none (.t 25))
 (.q 4 (none, .fa 29 2 (.t 1))
 (.q 5 (none, .ld 30 none (.t 29))
 (.q 8 (none, .fa 33 2 (.t 1))
 (.q 9 (none, .ld 34 none (.t 33))
 (.q 11 (none, .fa 36 2 (.t 1))
 (.q 12 (none, .ld 37 none (.t 36))
 (.q 14 (none, .fa 39 2 (.t 1))
 (.q 15 (none, .ld 40 none (.t 39))
 (.alt 2 (none, .ca (some 27) 183 [.t 26, .c (.n .i64 0)]) [false, false, true, true, true, true, true, true, true, true]
 (.q 3 (none, .bi 28 .mul (.c (.n .i64 65536)) (.t 27))
 (.alt 6 (none, .ca (some 31) 183 [.t 30, .c (.n .i64 2)]) [false, false, false, false, true, true, true, true, true, true, true]
 (.q 7 (none, .bi 32 .add (.t 28) (.t 31))
 (.alt 10 (none, .ca (some 35) 183 [.t 34, .c (.n .i64 4)]) [false, false, false, false, false, false, true, true, true, true, true, true]
 (.alt 13 (none, .ca (some 38) 183 [.t 37, .c (.n .i64 6)]) [false, false, false, false, false, false, false, false, true, true, true, true]
 (.alt 16 (none, .ca (some 41) 183 [.t 40, .c (.n .i64 8)]) [false, false, false, false, false, false, false, false, false, false, true, true]
 (.q 17 (none, .bd 42 [.n .i64 0, .n .i64 0, .n .i64 0, .n .i64 0] [(0, 1, .t 32), (1, 1, .t 35), (2, 1, .t 38), (3, 1, .t 41)])
 (.alt 18 (none, .al 4 [.n .i64 0, .n .i64 0, .n .i64 0, .n .i64 0]) [true, true, true, true, true, true, true, true, true, true, true, true, true]
 (.alt 19 (none, .st 4 (.t 4) (.t 42)) [false, false, false, false, false, false, false, false, false, false, false, false, false]
 (.done)
 (.stop))
 (.stop)))
 (.alt 18 (none, .al 4 [.n .i64 0, .n .i64 0, .n .i64 0, .n .i64 0]) [true, true, true, true, true, true, true, true, true, true, true, true]
 (.alt 16 (none, .ca (some 41) 183 [.t 40, .c (.n .i64 8)]) [false, false, false, false, false, false, false, false, false, false, true, true]
 (.q 17 (none, .bd 42 [.n .i64 0, .n .i64 0, .n .i64 0, .n .i64 0] [(0, 1, .t 32), (1, 1, .t 35), (2, 1, .t 38), (3, 1, .t 41)])
 (.alt 19 (none, .st 4 (.t 4) (.t 42)) [false, false, false, false, false, false, false, false, false, false, false, false, false]
 (.done)
 (.stop)))
 (.stop))
 (.stop)))
 (.alt 18 (none, .al 4 [.n .i64 0, .n .i64 0, .n .i64 0, .n .i64 0]) [true, true, true, true, true, true, true, true, true, true, true, true]
 (.alt 13 (none, .ca (some 38) 183 [.t 37, .c (.n .i64 6)]) [false, false, false, false, false, false, false, false, true, true, true, true]
 (.alt 16 (none, .ca (some 41) 183 [.t 40, .c (.n .i64 8)]) [false, false, false, false, false, false, false, false, false, false, true, true]
 (.q 17 (none, .bd 42 [.n .i64 0, .n .i64 0, .n .i64 0, .n .i64 0] [(0, 1, .t 32), (1, 1, .t 35), (2, 1, .t 38), (3, 1, .t 41)])
 (.alt 19 (none, .st 4 (.t 4) (.t 42)) [false, false, false, false, false, false, false, false, false, false, false, false, false]
 (.done)
 (.stop)))
 (.stop))
 (.stop))
 (.stop)))
 (.alt 18 (none, .al 4 [.n .i64 0, .n .i64 0, .n .i64 0, .n .i64 0]) [true, true, true, true, true, true, true, true, true, true, true, true]
 (.alt 10 (none, .ca (some 35) 183 [.t 34, .c (.n .i64 4)]) [false, false, false, false, false, false, true, true, true, true, true, true]
 (.alt 13 (none, .ca (some 38) 183 [.t 37, .c (.n .i64 6)]) [false, false, false, false, false, false, false, false, true, true, true, true]
 (.alt 16 (none, .ca (some 41) 183 [.t 40, .c (.n .i64 8)]) [false, false, false, false, false, false, false, false, false, false, true, true]
 (.q 17 (none, .bd 42 [.n .i64 0, .n .i64 0, .n .i64 0, .n .i64 0] [(0, 1, .t 32), (1, 1, .t 35), (2, 1, .t 38), (3, 1, .t 41)])
 (.alt 19 (none, .st 4 (.t 4) (.t 42)) [false, false, false, false, false, false, false, false, false, false, false, false, false]
 (.done)
 (.stop)))
 (.stop))
 (.stop))
 (.stop))
 (.stop))))
 (.alt 18 (none, .al 4 [.n .i64 0, .n .i64 0, .n .i64 0, .n .i64 0]) [true, true, true, true, true, true, true, true, true, true, true]
 (.alt 6 (none, .ca (some 31) 183 [.t 30, .c (.n .i64 2)]) [false, false, false, false, true, true, true, true, true, true, true]
 (.q 7 (none, .bi 32 .add (.t 28) (.t 31))
 (.alt 10 (none, .ca (some 35) 183 [.t 34, .c (.n .i64 4)]) [false, false, false, false, false, false, true, true, true, true, true, true]
 (.alt 13 (none, .ca (some 38) 183 [.t 37, .c (.n .i64 6)]) [false, false, false, false, false, false, false, false, true, true, true, true]
 (.alt 16 (none, .ca (some 41) 183 [.t 40, .c (.n .i64 8)]) [false, false, false, false, false, false, false, false, false, false, true, true]
 (.q 17 (none, .bd 42 [.n .i64 0, .n .i64 0, .n .i64 0, .n .i64 0] [(0, 1, .t 32), (1, 1, .t 35), (2, 1, .t 38), (3, 1, .t 41)])
 (.alt 19 (none, .st 4 (.t 4) (.t 42)) [false, false, false, false, false, false, false, false, false, false, false, false, false]
 (.done)
 (.stop)))
 (.stop))
 (.stop))
 (.stop)))
 (.stop))
 (.stop))))
 (.alt 18 (none, .al 4 [.n .i64 0, .n .i64 0, .n .i64 0, .n .i64 0]) [true, true, true, true, true, true, true, true, true, true]
 (.alt 2 (none, .ca (some 27) 183 [.t 26, .c (.n .i64 0)]) [false, false, true, true, true, true, true, true, true, true]
 (.q 3 (none, .bi 28 .mul (.c (.n .i64 65536)) (.t 27))
 (.alt 6 (none, .ca (some 31) 183 [.t 30, .c (.n .i64 2)]) [false, false, false, false, true, true, true, true, true, true, true]
 (.q 7 (none, .bi 32 .add (.t 28) (.t 31))
 (.alt 10 (none, .ca (some 35) 183 [.t 34, .c (.n .i64 4)]) [false, false, false, false, false, false, true, true, true, true, true, true]
 (.alt 13 (none, .ca (some 38) 183 [.t 37, .c (.n .i64 6)]) [false, false, false, false, false, false, false, false, true, true, true, true]
 (.alt 16 (none, .ca (some 41) 183 [.t 40, .c (.n .i64 8)]) [false, false, false, false, false, false, false, false, false, false, true, true]
 (.q 17 (none, .bd 42 [.n .i64 0, .n .i64 0, .n .i64 0, .n .i64 0] [(0, 1, .t 32), (1, 1, .t 35), (2, 1, .t 38), (3, 1, .t 41)])
 (.alt 19 (none, .st 4 (.t 4) (.t 42)) [false, false, false, false, false, false, false, false, false, false, false, false, false]
 (.done)
 (.stop)))
 (.stop))
 (.stop))
 (.stop)))
 (.stop)))
 (.stop))
 (.stop))))))))))))) [2, 4])
 (.seq (.seq (.rg [(none, .ld 43 (some 4) (.t 4)),
 (none, .ca (some 44) 136 [.t 43]),
 (none, .un 45 .not (.t 44)),
 (none, .kp [2, 4, 45])])
 (.ite (.t 45) (.seq (.rg [(none, .bd 46 [.n .i64 0, .n .i64 0, .n .i64 0, .n .i64 0] []),
 (none, .st 4 (.t 2) (.t 46)),
 (none, .mv 3 (.c (.b false))),
 (none, .kp [2, 3])])
 (.rt))
 (.sk)))
 (.seq (.rg [(none, .ld 47 (some 4) (.t 4)),
 (none, .st 4 (.t 2) (.t 47)),
 (none, .mv 3 (.c (.b true))),
 (none, .kp [2, 3])])
 (.rt)))))
theorem mr178 : MrT Try.prog 178 pc178 [.c 2 (some 4), .t 3] 48 := fun hn h => spec_of_run (fn := Try.f178) (by kernel_rfl) rfl (by kernel_rfl) (by kernel_rfl) hn h
theorem mk178 : MkT Try.prog 178 pc178 [.c 2 (some 4), .t 3] 48 := mr178.k
theorem mw178 : MwT Try.prog 178 pc178 [.c 2 (some 4), .t 3] 48 := mr178.w
-- 179 spec.l31With
def pc179 : PC := .seq (.rg [(none, .bx 3 (.t 0)),
 (none, .bx 5 (.t 2)),
 (none, .al 6 [.n .i64 0, .n .i64 0, .n .i64 0, .b false, .n .i64 0, .n .i64 0, .n .i64 0, .nil, .n .i64 0, .n .i64 0, .n .i64 0, .n .i64 0, .nil, .n .i64 0]),
 (none, .kp [1, 3, 5, 6])])
 (.seq (.seq (.rg [(none, .mv 7 (.t 1)),
 (none, .kp [3, 5, 6, 7])])
 (.ite (.t 7) (.rg [(none, .ld 8 (some 5) (.t 5)),
 (none, .fa 9 9 (.t 3)),
 (none, .st 5 (.t 9) (.t 8)),
 (none, .kp [3, 6])])
 (.rg [(none, .ld 10 (some 5) (.t 5)),
 (none, .fa 11 4 (.t 3)),
 (none, .st 5 (.t 11) (.t 10)),
 (none, .kp [3, 6])])))
 (.seq (.rg [(none, .ld 12 (some 14) (.t 3)),
 (none, .st 14 (.t 6) (.t 12)),
 (none, .kp [6])])
 (.rt)))
theorem mr179 : MrT Try.prog 179 pc179 [.c 6 (some 14)] 13 := fun hn h => spec_of_run (fn := Try.f179) (by kernel_rfl) rfl (by kernel_rfl) (by kernel_rfl) hn h
theorem mk179 : MkT Try.prog 179 pc179 [.c 6 (some 14)] 13 := mr179.k
theorem mw179 : MwT Try.prog 179 pc179 [.c 6 (some 14)] 13 := mr179.w
-- 180 spec.DataGet
def pc180 : PC := .seq (.rg [(none, .bx 1 (.t 0)),
 (none, .al 2 [.n .i64 0, .n .i64 0, .n .i64 0, .b false, .b false, .b false, .s []]),
 (none, .mv 3 (.c (.b false))),
 (none, .kp [1, 2])])
 (.seq (.seq (.rg [(none, .fa 5 0 (.t 1)),
 (none, .ld 6 none (.t 5)),
 (none, .bi 7 .neq (.t 6) (.c (.n .i64 0))),
 (none, .mv 8 (.t 7)),
 (some (8, false), .fa 9 1 (.t 1)),
 (some (8, false), .ld 10 none (.t 9)),
 (some (8, false), .ca (some 11) 116 [.t 10, .c (.n .i64 0), .c (.n .i64 7)]),
 (some (8, false), .un 12 .not (.t 11)),
 (none, .pk 13 (.t 8) (.c (.b true)) (.t 12)),
 (none, .mv 14 (.t 13)),
 (some (14, false), .fa 15 2 (.t 1)),
 (some (14, false), .ld 16 none (.t 15)),
 (some (14, false), .lS 17 (.t 16)),
 (some (14, false), .bi 18 .lss (.t 17) (.c (.n .i64 6))),
 (none, .pk 19 (.t 14) (.c (.b true)) (.t 18)),
 (none, .kp [1, 2, 19])])
 (.ite (.t 19) (.seq (.rg [(none, .bd 20 [.n .i64 0, .n .i64 0, .n .i64 0, .b false, .b false, .b false, .s []] []),
 (none, .st 7 (.t 2) (.t 20)),
 (none, .mv 3 (.c (.b false))),
 (none, .kp [2, 3])])
 (.rt))
 (.sk)))
 (.seq (.dr [[], [0], [0, 1], [], [3], [0, 1, 2, 3, 4], [], [6], [0, 1, 2, 3, 4, 5, 6, 7], [], [9], [9, 10], [0, 1, 2, 3, 4, 5, 6, 7, 8, 9, 10, 11], [], [0, 1, 2, 3, 4, 5, 6, 7, 8, 9, 10, 11, 12, 13]]
 (.q 0 (none, .fa 21 2 (.t 1))
 (.q 1 (none, .ld 22 none (.t 21))
 (.q 3 (none, .fa 24 2 (.t 1))
 (.q 4 (none, .ld 25 none (.t 24))
 (.q 6 (none, .fa 27 2 (.t 1))
 (.q 7 (none, .ld 28 none (.t 27))
 (.q 9 (none, .fa 30 2 (.t 1))
 (.q 10 (none, .ld 31 none (.t 30))
 (.q 11 (none, .sS 32 (.t 31) (some (.c (.n .i64 6))) none)
 (.alt 2 (none, .ca (some 23) 183 [.t 22, .c (.n .i64 0)]) [false, false, true, true, true, true, true, true, true]
 (.alt 5 (none, .ca (some 26) 183 [.t 25, .c (.n .i64 2)]) [false, false, false, false, true, true, true, true, true]
 (.alt 8 (none, .ca (some 29) 183 [.t 28, .c (.n .i64 4)]) [false, false, false, false, false, false, true, true, true]
 (.q 12 (none, .bd 33 [.n .i64 0, .n .i64 0, .n .i64 0, .b false, .b false, .b false, .s []] [(0, 1, .t 23), (1, 1, .t 26), (2, 1, .t 29), (6, 1, .t 32)])
 (.alt 13 (none, .al 4 [.n .i64 0, .n .i64 0, .n .i64 0, .b false, .b false, .b false, .s []]) [true, true, true, true, true, true, true, true, true, true]
 (.alt 14 (none, .st 7 (.t 4) (.t 33)) [false, false, false, false, false, false, false, false, false, false]
 (.done)
 (.stop))
 (.stop)))
 (.alt 13 (none, .al 4 [.n .i64 0, .n .i64 0, .n .i64 0, .b false, .b false, .b false, .s []]) [true, true, true, true, true, true, true, true, true]
 (.alt 8 (none, .ca (some 29) 183 [.t 28, .c (.n .i64 4)]) [false, false, false, false, false, false, true, true, true]
 (.q 12 (none, .bd 33 [.n .i64 0, .n .i64 0, .n .i64 0, .b false, .b false, .b false, .s []] [(0, 1, .t 23), (1, 1, .t 26), (2, 1, .t 29), (6, 1, .t 32)])
 (.alt 14 (none, .st 7 (.t 4) (.t 33)) [false, false, false, false, false, false, false, false, false, false]
 (.done)
 (.stop)))
 (.stop))
 (.stop)))
 (.alt 13 (none, .al 4 [.n .i64 0, .n .i64 0, .n .i64 0, .b false, .b false, .b false, .s []]) [true, true, true, true, true, true, true, true, true]
 (.alt 5 (none, .ca (some 26) 183 [.t 25, .c (.n .i64 2)]) [false, false, false, false, true, true, true, true, true]
 (.alt 8 (none, .ca (some 29) 183 [.t 28, .c (.n .i64 4)]) [false, false, false, false, false, false, true, true, true]
 (.q 12 (none, .bd 33 [.n .i64 0, .n .i64 0, .n .i64 0, .b false, .b false, .b false, .s []] [(0, 1, .t 23), (1, 1, .t 26), (2, 1, .t 29), (6, 1, .t 32)])
 (.alt 14 (none, .st 7 (.t 4) (.t 33)) [false, false, false, false, false, false, false, false, false, false]
 (.done)
 (.stop)))
 (.stop))
 (.stop))
 (.stop)))
 (.alt 13 (none, .al 4 [.n .i64 0, .n .i64 0, .n .i64 0, .b false, .b false, .b false, .s []]) [true, true, true, true, true, true, true, true, true]
 (.alt 2 (none, .ca (some 23) 183 [.t 22, .c (.n .i64 0)]) [false, false, true, true, true, true, true, true, true]
 (.alt 5 (none, .ca (some 26) 183 [.t 25, .c (.n .i64 2)]) [false, false, false, false, true, true, true, true, true]
 (.alt 8 (none, .ca (some 29) 183 [.t 28, .c (.n .i64 4)]) [false, false, false, false, false, false, true, true, true]
 (.q 12 (none, .bd 33 [.n .i64 0, .n .i64 0, .n .i64 0, .b false, .b false, .b false, .s []] [(0, 1, .t 23), (1, 1, .t 26), (2, 1, .t 29), (6, 1, .t 32)])
 (.alt 14 (none, .st 7 (.t 4) (.t 33)) [false, false, false, false, false, false, false, false, false, false]
 (.done)
 (.stop)))
 (.stop))
 (.stop))
 (.stop))
 (.stop)))))))))))) [1, 2, 4])
 (.seq (.rg [(none, .fa 34 1 (.t 1)),
 (none, .ld 35 none (.t 34)),
 (none, .bi 36 .rem (.t 35) (.c (.n .i64 2))),
 (none, .bi 37 .eql (.t 36) (.c (.n .i64 1))),
 (none, .fa 38 4 (.t 4)),
 (none, .st 1 (.t 38) (.t 37)),
 (none, .kp [1, 2, 4])])
 (.seq (.rg [(none, .fa 39 1 (.t 1)),
 (none, .ld 40 none (.t 39)),
 (none, .bi 41 .quo (.t 40) (.c (.n .i64 2))),
 (none, .bi 42 .rem (.t 41) (.c (.n .i64 2))),
 (none, .bi 43 .eql (.t 42) (.c (.n .i64 1))),
 (none, .fa 44 3 (.t 4)),
 (none, .st 1 (.t 44) (.t 43)),
 (none, .kp [1, 2, 4])])
 (.seq (.rg [(none, .fa 45 1 (.t 1)),
 (none, .ld 46 none (.t 45)),
 (none, .bi 47 .quo (.t 46) (.c (.n .i64 4))),
 (none, .bi 48 .eql (.t 47) (.c (.n .i64 1))),
 (none, .fa 49 5 (.t 4)),
 (none, .st 1 (.t 49) (.t 48)),
 (none, .kp [2, 4])])
 (.seq (.seq (.rg [(none, .ld 50 (some 7) (.t 4)),
 (none, .ca (some 51) 140 [.t 50]),
 (none, .un 52 .not (.t 51)),
 (none, .kp [2, 4, 52])])
 (.ite (.t 52) (.seq (.rg [(none, .bd 53 [.n .i64 0, .n .i64 0, .n .i64 0, .b false, .b false, .b false, .s []] []),
 (none, .st 7 (.t 2) (.t 53)),
 (none, .mv 3 (.c (.b false))),
 (none, .kp [2, 3])])
 (.rt))
 (.sk)))
 (.seq (.rg [(none, .ld 54 (some 7) (.t 4)),
 (none, .st 7 (.t 2) (.t 54)),
 (none, .mv 3 (.c (.b true))),
 (none, .kp [2, 3])])
 (.rt))))))))
theorem mr180 : MrT Try.prog 180 pc180 [.c 2 (some 7), .t 3] 55 := fun hn h => spec_of_run (fn := Try.f180) (by kernel_rfl) rfl (by kernel_rfl) (by kernel_rfl) hn h
theorem mk180 : MkT Try.prog 180 pc180 [.c 2 (some 7), .t 3] 55 := mr180.k
theorem mw180 : MwT Try.prog 180 pc180 [.c 2 (some 7), .t 3] 55 := mr180.w
-- 181 spec.SackGet
def pc181l0 : PC := .seq (.seq (.rg [(none, .mv 27 (.t 5)),
 (none, .fa 28 2 (.t 1)),
 (none, .ld 29 none (.t 28)),
 (none, .lS 30 (.t 29)),
 (none, .bi 31 .lss (.t 27) (.t 30)),
 (none, .kp [1, 2, 4, 5, 31])])
 (.ite (.t 31) (.sk)
 (.ex 0)))
 (.seq (.blk 1 (.dr [[], [0], [], [2], [], [2, 3, 4], [], [6], [], [8], [2, 3, 4, 5, 6, 7, 8, 9], [2, 3, 4, 5, 6, 7, 8, 9, 10], [2, 3, 4, 5, 6, 7, 8, 9, 10, 11], [0, 1, 2, 3, 4, 5, 6, 7, 8, 9, 10, 11, 12], [0, 1, 2, 3, 4, 5, 6, 7, 8, 9, 10, 11, 12, 13], [0, 1, 2, 3, 4, 5, 6, 7, 8, 9, 10, 11, 12, 13, 14]]
 (.q 0 (none, .fa 34 1 (.t 4))
 (.q 1 (none, .ld 35 none (.t 34))
 (.q 2 (none, .fa 36 2 (.t 1))
 (.q 3 (none, .ld 37 none (.t 36))
 (.q 4 (none, .mv 38 (.t 5))
 (.q 6 (none, .fa 40 2 (.t 1))
 (.q 7 (none, .ld 41 none (.t 40))
 (.q 8 (none, .mv 42 (.t 5))
 (.q 9 (none, .bi 43 .add (.t 42) (.c (.n .i64 2)))
 (.alt 5 (none, .ca (some 39) 183 [.t 37, .t 38]) [true, true, false, false, false, true, true, true, true]
 (.alt 10 (none, .ca (some 44) 183 [.t 41, .t 43]) [true, true, false, false, false, false, false, false, false]
 (.q 11 (none, .bd 45 [.n .i64 0, .n .i64 0] [(0, 1, .t 39), (1, 1, .t 44)])
 (.alt 12 (none, .bs 46 2 1 [.n .i64 0, .n .i64 0] [(0, .t 45)]) [true, true, false, false, false, false, false, false, false, false]
 (.alt 13 (none, .ap 47 2 16 (.t 35) (.t 46)) [false, false, false, false, false, false, false, false, false, false]
 (.q 14 (none, .fa 48 1 (.t 4))
 (.alt 15 (none, .st 1 (.t 48) (.t 47)) [false, false, false, false, false, false, false, false, false, false, false]
 (.done)
 (.stop)))
 (.stop))
 (.stop)))
 (.stop))
 (.stop))))))))))) [1, 2, 4, 5]))
 (.rg [(none, .mv 32 (.t 5)),
 (none, .bi 33 .add (.t 32) (.c (.n .i64 4))),
 (none, .mv 5 (.t 33)),
 (none, .kp [1, 2, 4, 5])]))
def pc181 : PC := .seq (.rg [(none, .bx 1 (.t 0)),
 (none, .al 2 [.n .i64 0, .nil]),
 (none, .mv 3 (.c (.b false))),
 (none, .kp [1, 2])])
 (.seq (.seq (.rg [(none, .fa 6 0 (.t 1)),
 (none, .ld 7 none (.t 6)),
 (none, .bi 8 .neq (.t 7) (.c (.n .i64 3))),
 (none, .mv 9 (.t 8)),
 (some (9, false), .fa 10 1 (.t 1)),
 (some (9, false), .ld 11 none (.t 10)),
 (some (9, false), .bi 12 .neq (.t 11) (.c (.n .i64 0))),
 (none, .pk 13 (.t 9) (.c (.b true)) (.t 12)),
 (none, .mv 14 (.t 13)),
 (some (14, false), .fa 15 2 (.t 1)),
 (some (14, false), .ld 16 none (.t 15)),
 (some (14, false), .lS 17 (.t 16)),
 (some (14, false), .bi 18 .rem (.t 17) (.c (.n .i64 4))),
 (some (14, false), .bi 19 .neq (.t 18) (.c (.n .i64 2))),
 (none, .pk 20 (.t 14) (.c (.b true)) (.t 19)),
 (none, .kp [1, 2, 20])])
 (.ite (.t 20) (.seq (.rg [(none, .bd 21 [.n .i64 0, .nil] []),
 (none, .st 2 (.t 2) (.t 21)),
 (none, .mv 3 (.c (.b false))),
 (none, .kp [2, 3])])
 (.rt))
 (.sk)))
 (.seq (.rg [(none, .fa 22 2 (.t 1)),
 (none, .ld 23 none (.t 22)),
 (none, .ca (some 24) 183 [.t 23, .c (.n .i64 0)]),
 (none, .bs 25 2 0 [.n .i64 0, .n .i64 0] []),
 (none, .bd 26 [.n .i64 0, .nil] [(0, 1, .t 24), (1, 1, .t 25)]),
 (none, .al 4 [.n .i64 0, .nil]),
 (none, .st 2 (.t 4) (.t 26)),
 (none, .kp [1, 2, 4])])
 (.seq (.seq (.rg [(none, .mv 5 (.c (.n .i64 2))),
 (none, .kp [1, 2, 4, 5])])
 (.blk 0 (.lp pc181l0)))
 (.seq (.seq (.rg [(none, .ld 49 (some 2) (.t 4)),
 (none, .ca (some 50) 143 [.t 49]),
 (none, .un 51 .not (.t 50)),
 (none, .kp [2, 4, 51])])
 (.ite (.t 51) (.seq (.rg [(none, .bd 52 [.n .i64 0, .nil] []),
 (none, .st 2 (.t 2) (.t 52)),
 (none, .mv 3 (.c (.b false))),
 (none, .kp [2, 3])])
 (.rt))
 (.sk)))
 (.seq (.rg [(none, .ld 53 (some 2) (.t 4)),
 (none, .st 2 (.t 2) (.t 53)),
 (none, .mv 3 (.c (.b true))),
 (none, .kp [2, 3])])
 (.rt))))))
theorem mr181 : MrT Try.prog 181 pc181 [.c 2 (some 2), .t 3] 54 := fun hn h => spec_of_run (fn := Try.f181) (by kernel_rfl) rfl (by kernel_rfl) (by kernel_rfl) hn h
theorem mk181 : MkT Try.prog 181 pc181 [.c 2 (some 2), .t 3] 54 := mr181.k
theorem mw181 : MwT Try.prog 181 pc181 [.c 2 (some 2), .t 3] 54 := mr181.w
-- 182 spec.l3Diff
def pc182 : PC := .seq (.rg [(none, .mv 4 (.c (.n .i64 0))),
 (none, .kp [0, 1])])
 (.seq (.rg [(none, .mv 6 (.t 1)),
 (none, .mv 7 (.t 0)),
 (none, .un 8 .neg (.t 7)),
 (none, .ca (some 9) 139 [.t 6, .t 8]),
 (none, .mv 5 (.t 9)),
 (none, .kp [5])])
 (.seq (.seq (.rg [(none, .mv 10 (.t 5)),
 (none, .bi 11 .gtr (.t 10) (.c (.n .i64 32768))),
 (none, .kp [5, 11])])
 (.ite (.t 11) (.rg [(none, .mv 12 (.t 5)),
 (none, .bi 13 .sub (.t 12) (.c (.n .i64 65536))),
 (none, .mv 5 (.t 13)),
 (none, .kp [5])])
 (.sk)))
 (.seq (.rg [(none, .mv 14 (.t 5)),
 (none, .mv 4 (.t 14)),
 (none, .kp [4])])
 (.rt))))
theorem mr182 : MrT Try.prog 182 pc182 [.t 4] 15 := fun hn h => spec_of_run (fn := Try.f182) (by kernel_rfl) rfl (by kernel_rfl) (by kernel_rfl) hn h
theorem mk182 : MkT Try.prog 182 pc182 [.t 4] 15 := mr182.k
theorem mw182 : MwT Try.prog 182 pc182 [.t 4] 15 := mr182.w
-- 183 spec.l1At
def pc183 : PC := .seq (.rg [(none, .mv 4 (.c (.n .i64 0))),
 (none, .kp [0, 1])])
 (.seq (.dr [[], [], [0, 1], [0, 1, 2], [0, 1, 2, 3], [], [], [6], [5, 6, 7], [5, 6, 7, 8], [0, 1, 2, 3, 4, 5, 6, 7, 8, 9], [0, 1, 2, 3, 4, 5, 6, 7, 8, 9, 10]]
 (.q 0 (none, .mv 5 (.t 0))
 (.q 1 (none, .mv 6 (.t 1))
 (.q 2 (none, .ix 7 (.t 5) (.t 6))
 (.q 3 (none, .cv 8 .i64 (.t 7))
 (.q 4 (none, .bi 9 .mul (.c (.n .i64 256)) (.t 8))
 (.q 5 (none, .mv 10 (.t 0))
 (.q 6 (none, .mv 11 (.t 1))
 (.q 7 (none, .bi 12 .add (.t 11) (.c (.n .i64 1)))
 (.q 8 (none, .ix 13 (.t 10) (.t 12))
 (.q 9 (none, .cv 14 .i64 (.t 13))
 (.q 10 (none, .bi 15 .add (.t 9) (.t 14))
 (.q 11 (none, .mv 4 (.t 15))
 (.done))))))))))))) [4])
 (.rt))
theorem mr183 : MrT Try.prog 183 pc183 [.t 4] 16 := fun hn h => spec_of_run (fn := Try.f183) (by kernel_rfl) rfl (by kernel_rfl) (by kernel_rfl) hn h
theorem mk183 : MkT Try.prog 183 pc183 [.t 4] 16 := mr183.k
theorem mw183 : MwT Try.prog 183 pc183 [.t 4] 16 := mr183.w
end Go.Cap
