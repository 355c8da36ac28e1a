import Derived.Test.YtghpfcefecedcaaChecked
import Derived.Test.YtghpfcefecedcaaEngC
namespace Go.Cap
open Go Go.Proofs
set_option maxRecDepth 100000
-- 3 laws.FnAsmBytes
def pc3 : PC := .seq (.rg [(none, .mv 2 (.c (.b false))),
 (none, .kp [0])])
 (.seq (.seq (.rg [(none, .mv 11 (.t 0)),
 (none, .ln 12 (.t 11)),
 (none, .bi 13 .gtr (.t 12) (.c (.n .i64 1048576))),
 (none, .kp [0, 13])])
 (.ite (.t 13) (.seq (.rg [(none, .mv 2 (.c (.b true))),
 (none, .kp [2])])
 (.rt))
 (.sk)))
 (.seq (.rg [(none, .mv 15 (.t 0)),
 (none, .ca (some 16) 13 [.t 15]),
 (none, .mv 14 (.t 16)),
 (none, .ex 17 (.t 14) 0),
 (none, .ex 18 (.t 14) 1),
 (none, .al 3 [.nil, .nil]),
 (none, .al 4 [.n .i64 0, .n .i64 0, .n .i64 0, .b false, .b false, .b false, .s []]),
 (none, .st 2 (.t 3) (.t 17)),
 (none, .st 7 (.t 4) (.t 18)),
 (none, .kp [3, 4])])
 (.seq (.rg [(none, .ld 20 (some 2) (.t 3)),
 (none, .ld 21 (some 7) (.t 4)),
 (none, .ca (some 22) 14 [.t 20, .t 21]),
 (none, .mv 19 (.t 22)),
 (none, .ex 23 (.t 19) 0),
 (none, .ex 24 (.t 19) 1),
 (none, .ex 25 (.t 19) 2),
 (none, .al 5 [.nil, .nil]),
 (none, .st 2 (.t 5) (.t 23)),
 (none, .mv 6 (.t 24)),
 (none, .mv 7 (.t 25)),
 (none, .kp [3, 4, 5, 6, 7])])
 (.seq (.rg [(none, .ld 27 (some 2) (.t 3)),
 (none, .ld 28 (some 7) (.t 4)),
 (none, .ca (some 29) 15 [.t 27, .t 28]),
 (none, .mv 26 (.t 29)),
 (none, .ex 30 (.t 26) 0),
 (none, .ex 31 (.t 26) 1),
 (none, .ex 32 (.t 26) 2),
 (none, .al 8 [.nil, .nil]),
 (none, .st 2 (.t 8) (.t 30)),
 (none, .mv 9 (.t 31)),
 (none, .mv 10 (.t 32)),
 (none, .kp [3, 4, 5, 6, 7, 8, 9, 10])])
 (.seq (.seq (.rg [(none, .mv 33 (.t 7)),
 (none, .mv 34 (.t 10)),
 (none, .bi 35 .neq (.t 33) (.t 34)),
 (none, .mv 36 (.t 35)),
 (some (36, false), .ld 37 (some 2) (.t 5)),
 (some (36, false), .ld 38 (some 2) (.t 8)),
 (some (36, false), .ca (some 39) 16 [.t 37, .t 38]),
 (some (36, false), .un 40 .not (.t 39)),
 (none, .pk 41 (.t 36) (.c (.b true)) (.t 40)),
 (none, .mv 42 (.t 41)),
 (some (42, false), .mv 43 (.t 6)),
 (some (42, false), .mv 44 (.t 9)),
 (some (42, false), .ca (some 45) 17 [.t 43, .t 44]),
 (some (42, false), .un 46 .not (.t 45)),
 (none, .pk 47 (.t 42) (.c (.b true)) (.t 46)),
 (none, .mv 48 (.t 47)),
 (some (48, false), .mv 49 (.t 7)),
 (some (48, false), .bi 50 .neq (.t 49) (.c (.n .i64 0))),
 (none, .pk 51 (.t 48) (.c (.b true)) (.t 50)),
 (none, .kp [3, 4, 5, 6, 7, 8, 9, 10, 51])])
 (.ite (.t 51) (.seq (.rg [(none, .mv 52 (.t 7)),
 (none, .mv 53 (.t 10)),
 (none, .bi 54 .eql (.t 52) (.t 53)),
 (none, .mv 55 (.t 54)),
 (some (55, true), .ld 56 (some 2) (.t 5)),
 (some (55, true), .ld 57 (some 2) (.t 8)),
 (some (55, true), .ca (some 58) 16 [.t 56, .t 57]),
 (none, .pk 59 (.t 55) (.t 58) (.c (.b false))),
 (none, .mv 60 (.t 59)),
 (some (60, true), .mv 61 (.t 6)),
 (some (60, true), .mv 62 (.t 9)),
 (some (60, true), .ca (some 63) 17 [.t 61, .t 62]),
 (none, .pk 64 (.t 60) (.t 63) (.c (.b false))),
 (none, .mv 2 (.t 64)),
 (none, .kp [2])])
 (.rt))
 (.sk)))
 (.seq (.dr [[], [0], [], [0, 1, 2], [], [4], [0, 1, 2, 3, 4, 5], [], [7], [7, 8], [0, 1, 2, 3, 4, 5, 6, 7, 8, 9], [0, 1, 2, 3, 4, 5, 6, 7, 8, 9, 10], [0, 1, 2, 3, 4, 5, 6, 7, 8, 9, 10, 11]]
 (.q 0 (none, .fa 65 1 (.t 5))
 (.q 1 (none, .ld 66 none (.t 65))
 (.q 2 (none, .mv 67 (.t 6))
 (.q 4 (none, .fa 69 1 (.t 3))
 (.q 5 (none, .ld 70 none (.t 69))
 (.q 7 (none, .fa 72 6 (.t 4))
 (.q 8 (none, .ld 73 none (.t 72))
 (.q 9 (none, .lS 74 (.t 73))
 (.alt 3 (none, .ca (some 68) 18 [.t 66, .t 67]) [false, false, false, true, true, true, true, true]
 (.alt 6 (none, .ca (some 71) 18 [.t 70, .c .nil]) [false, false, false, false, false, true, true, true]
 (.q 10 (none, .bi 75 .add (.t 71) (.t 74))
 (.q 11 (none, .bi 76 .eql (.t 68) (.t 75))
 (.q 12 (none, .mv 2 (.t 76))
 (.done))))
 (.stop))
 (.stop)))))))))) [2])
 (.rt)))))))
theorem mr3 : MrT Try.prog 3 pc3 [.t 2] 77 := fun hn h => spec_of_run (fn := Try.f3) (by kernel_rfl) rfl (by kernel_rfl) (by kernel_rfl) hn h
theorem mk3 : MkT Try.prog 3 pc3 [.t 2] 77 := mr3.k
theorem mw3 : MwT Try.prog 3 pc3 [.t 2] 77 := mr3.w
-- 13 spec.DrawAsmAdd
def pc13 : PC := .seq (.rg [(none, .al 2 [.nil, .nil]),
 (none, .al 3 [.n .i64 0, .n .i64 0, .n .i64 0, .b false, .b false, .b false, .s []]),
 (none, .kp [0, 2, 3])])
 (.seq (.rg [(none, .mv 9 (.t 0)),
 (none, .ca (some 10) 67 [.t 9]),
 (none, .mv 4 (.t 10)),
 (none, .kp [2, 3, 4])])
 (.seq (.rg [(none, .mv 11 (.t 4)),
 (none, .ca (some 12) 68 [.t 11]),
 (none, .al 5 [.nil, .nil]),
 (none, .st 2 (.t 5) (.t 12)),
 (none, .kp [2, 3, 4, 5])])
 (.seq (.rg [(none, .fa 13 1 (.t 5)),
 (none, .ld 14 none (.t 13)),
 (none, .ln 15 (.t 14)),
 (none, .mv 6 (.t 15)),
 (none, .kp [2, 3, 4, 5, 6])])
 (.seq (.seq (.rg [(none, .mv 16 (.t 6)),
 (none, .bi 17 .gtr (.t 16) (.c (.n .i64 0))),
 (none, .mv 18 (.t 17)),
 (some (18, true), .mv 19 (.t 4)),
 (some (18, true), .ca (some 20) 69 [.t 19, .c (.n .i64 3)]),
 (some (18, true), .bi 21 .gtr (.t 20) (.c (.n .i64 0))),
 (none, .pk 22 (.t 18) (.t 21) (.c (.b false))),
 (none, .mv 23 (.t 22)),
 (some (23, true), .fa 24 1 (.t 5)),
 (some (23, true), .ld 25 none (.t 24)),
 (some (23, true), .mv 26 (.t 6)),
 (some (23, true), .bi 27 .sub (.t 26) (.c (.n .i64 1))),
 (some (23, true), .ia 28 7 (.t 25) (.t 27)),
 (some (23, true), .ld 29 (some 7) (.t 28)),
 (some (23, true), .ca (some 30) 70 [.t 29]),
 (none, .pk 31 (.t 23) (.t 30) (.c (.b false))),
 (none, .kp [2, 3, 4, 5, 6, 31])])
 (.ite (.t 31) (.seq (.dr [[], [0], [], [], [2, 3], [0, 1, 2, 3, 4], [0, 1, 2, 3, 4, 5], [], [0, 1, 2, 3, 4, 5, 6, 7]]
 (.q 0 (none, .fa 32 1 (.t 5))
 (.q 1 (none, .ld 33 none (.t 32))
 (.q 2 (none, .mv 34 (.t 4))
 (.q 3 (none, .mv 35 (.t 6))
 (.alt 4 (none, .ca (some 36) 69 [.t 34, .t 35]) [true, true, false, false]
 (.q 5 (none, .ia 37 7 (.t 33) (.t 36))
 (.q 6 (none, .ld 38 (some 7) (.t 37))
 (.alt 7 (none, .al 7 [.n .i64 0, .n .i64 0, .n .i64 0, .b false, .b false, .b false, .s []]) [true, true, true, true, true, true]
 (.alt 8 (none, .st 7 (.t 7) (.t 38)) [false, false, false, false, false, false]
 (.done)
 (.stop))
 (.stop))))
 (.alt 7 (none, .al 7 [.n .i64 0, .n .i64 0, .n .i64 0, .b false, .b false, .b false, .s []]) [true, true, true, true]
 (.alt 4 (none, .ca (some 36) 69 [.t 34, .t 35]) [true, true, false, false]
 (.q 5 (none, .ia 37 7 (.t 33) (.t 36))
 (.q 6 (none, .ld 38 (some 7) (.t 37))
 (.alt 8 (none, .st 7 (.t 7) (.t 38)) [false, false, false, false, false, false]
 (.done)
 (.stop))))
 (.stop))
 (.stop))))))) [2, 3, 4, 5, 7])
 (.seq (.dr [[], [0], [], [2], [2, 3], [0, 1, 2, 3, 4], [0, 1, 2, 3, 4, 5], [0, 1, 2, 3, 4, 5, 6]]
 (.q 0 (none, .fa 39 0 (.t 7))
 (.q 1 (none, .ld 40 none (.t 39))
 (.q 2 (none, .mv 41 (.t 4))
 (.alt 3 (none, .ca (some 42) 69 [.t 41, .c (.n .i64 3)]) [true, true, false]
 (.q 4 (none, .bi 43 .sub (.t 42) (.c (.n .i64 1)))
 (.alt 5 (none, .ca (some 44) 71 [.t 40, .t 43]) [false, false, false, false]
 (.q 6 (none, .fa 45 0 (.t 7))
 (.alt 7 (none, .st 1 (.t 45) (.t 44)) [false, false, false, false, false]
 (.done)
 (.stop)))
 (.stop)))
 (.stop))))) [2, 3, 4, 5, 7])
 (.seq (.rg [(none, .mv 46 (.t 4)),
 (none, .ca (some 47) 69 [.t 46, .c (.n .i64 3)]),
 (none, .bi 48 .eql (.t 47) (.c (.n .i64 0))),
 (none, .fa 49 3 (.t 7)),
 (none, .st 1 (.t 49) (.t 48)),
 (none, .kp [2, 3, 4, 5, 7])])
 (.seq (.rg [(none, .mv 50 (.t 4)),
 (none, .ca (some 51) 69 [.t 50, .c (.n .i64 2)]),
 (none, .bi 52 .eql (.t 51) (.c (.n .i64 0))),
 (none, .fa 53 4 (.t 7)),
 (none, .st 1 (.t 53) (.t 52)),
 (none, .kp [2, 3, 5, 7])])
 (.seq (.dr [[], [], [0], [0, 1, 2]]
 (.q 0 (none, .ld 54 (some 2) (.t 5))
 (.q 1 (none, .ld 55 (some 7) (.t 7))
 (.alt 2 (none, .st 2 (.t 2) (.t 54)) [false, true]
 (.alt 3 (none, .st 7 (.t 3) (.t 55)) [false, false]
 (.done)
 (.stop))
 (.stop)))) [2, 3])
 (.rt))))))
 (.sk)))
 (.seq (.rg [(none, .mv 56 (.t 4)),
 (none, .ca (some 57) 72 [.t 56]),
 (none, .al 8 [.n .i64 0, .n .i64 0, .n .i64 0, .b false, .b false, .b false, .s []]),
 (none, .st 7 (.t 8) (.t 57)),
 (none, .kp [2, 3, 4, 5, 8])])
 (.seq (.seq (.rg [(none, .mv 58 (.t 4)),
 (none, .ca (some 59) 69 [.t 58, .c (.n .i64 2)]),
 (none, .bi 60 .eql (.t 59) (.c (.n .i64 0))),
 (none, .kp [2, 3, 4, 5, 8, 60])])
 (.ite (.t 60) (.seq (.rg [(none, .fa 61 3 (.t 8)),
 (none, .st 1 (.t 61) (.c (.b true))),
 (none, .kp [2, 3, 4, 5, 8])])
 (.seq (.rg [(none, .fa 62 4 (.t 8)),
 (none, .st 1 (.t 62) (.c (.b true))),
 (none, .kp [2, 3, 4, 5, 8])])
 (.seq (.rg [(none, .fa 63 1 (.t 8)),
 (none, .st 1 (.t 63) (.c (.n .i64 0))),
 (none, .kp [2, 3, 4, 5, 8])])
 (.seq (.rg [(none, .fa 64 0 (.t 5)),
 (none, .ld 65 none (.t 64)),
 (none, .ln 66 (.t 65)),
 (none, .bi 67 .gtr (.t 66) (.c (.n .i64 0))),
 (none, .mv 68 (.t 67)),
 (some (68, true), .fa 69 0 (.t 5)),
 (some (68, true), .ld 70 none (.t 69)),
 (some (68, true), .ia 71 1 (.t 70) (.c (.n .i64 0))),
 (some (68, true), .ld 72 none (.t 71)),
 (some (68, true), .ca (some 73) 73 [.t 72]),
 (none, .pk 74 (.t 68) (.t 73) (.c (.b false))),
 (none, .kp [2, 3, 4, 5, 8, 74])])
 (.ite (.t 74) (.dr [[], [0], [0, 1], [0, 1, 2], [], [4], [0, 1, 2, 3, 4, 5], [0, 1, 2, 3, 4, 5, 6], [0, 1, 2, 3, 4, 5, 6, 7]]
 (.q 0 (none, .fa 75 0 (.t 5))
 (.q 1 (none, .ld 76 none (.t 75))
 (.q 2 (none, .ia 77 1 (.t 76) (.c (.n .i64 0)))
 (.q 3 (none, .ld 78 none (.t 77))
 (.q 4 (none, .mv 79 (.t 4))
 (.alt 5 (none, .ca (some 80) 69 [.t 79, .c (.n .i64 2)]) [true, true, true, true, false]
 (.alt 6 (none, .ca (some 81) 71 [.t 78, .t 80]) [false, false, false, false, false]
 (.q 7 (none, .fa 82 2 (.t 8))
 (.alt 8 (none, .st 1 (.t 82) (.t 81)) [false, false, false, false, false, false]
 (.done)
 (.stop)))
 (.stop))
 (.stop))))))) [2, 3, 5, 8])
 (.sk))))))
 (.sk)))
 (.seq (.dr [[], [], [0], [0, 1, 2]]
 (.q 0 (none, .ld 83 (some 2) (.t 5))
 (.q 1 (none, .ld 84 (some 7) (.t 8))
 (.alt 2 (none, .st 2 (.t 2) (.t 83)) [false, true]
 (.alt 3 (none, .st 7 (.t 3) (.t 84)) [false, false]
 (.done)
 (.stop))
 (.stop)))) [2, 3])
 (.rt))))))))
theorem mr13 : MrT Try.prog 13 pc13 [.c 2 (some 2), .c 3 (some 7)] 85 := fun hn h => spec_of_run (fn := Try.f13) (by kernel_rfl) rfl (by kernel_rfl) (by kernel_rfl) hn h
theorem mk13 : MkT Try.prog 13 pc13 [.c 2 (some 2), .c 3 (some 7)] 85 := mr13.k
theorem mw13 : MwT Try.prog 13 pc13 [.c 2 (some 2), .c 3 (some 7)] 85 := mr13.w
-- 14 impl.AsmAdd
def pc14l0 : PC := .seq (.rg [(none, .bi 87 .lss (.t 86) (.t 85)),
 (none, .kp [4, 7, 8, 11, 12, 84, 85, 86, 87])])
 (.seq (.ite (.t 87) (.sk)
 (.ex 2))
 (.seq (.blk 3 (.seq (.rg [(none, .ia 88 1 (.t 84) (.t 86)),
 (none, .ld 89 none (.t 88)),
 (none, .mv 14 (.t 89)),
 (none, .kp [4, 7, 8, 11, 12, 14, 84, 85, 86])])
 (.seq (.dr [[], [0], [], [2], [], [2, 3, 4], [2, 3, 4, 5], [2, 3, 4, 5, 6], [0, 1, 2, 3, 4, 5, 6, 7], [0, 1, 2, 3, 4, 5, 6, 7, 8], [0, 1, 2, 3, 4, 5, 6, 7, 8, 9]]
 (.q 0 (none, .fa 90 3 (.t 11))
 (.q 1 (none, .ld 91 none (.t 90))
 (.q 2 (none, .fa 92 1 (.t 7))
 (.q 3 (none, .ld 93 none (.t 92))
 (.q 4 (none, .mv 94 (.t 14))
 (.q 5 (none, .ia 95 7 (.t 93) (.t 94))
 (.q 6 (none, .fa 96 6 (.t 95))
 (.q 7 (none, .ld 97 none (.t 96))
 (.q 8 (none, .bi 98 .add (.t 91) (.t 97))
 (.q 9 (none, .fa 99 3 (.t 11))
 (.alt 10 (none, .st 1 (.t 99) (.t 98)) [false, false, false, false, false, false, false, false, false, false]
 (.done)
 (.stop)))))))))))) [4, 7, 8, 11, 12, 14, 84, 85, 86])
 (.rg [(none, .mv 100 (.t 14)),
 (none, .iA 101 13 1 (.t 12) (.t 100)),
 (none, .st 1 (.t 101) (.c (.b true))),
 (none, .kp [4, 7, 8, 11, 12, 84, 85, 86])]))))
 (.rg [(none, .bi 102 .add (.t 86) (.c (.n .i64 1))),
 (none, .mv 86 (.t 102)),
 (none, .kp [4, 7, 8, 11, 12, 84, 85, 86])])))
def pc14l1 : PC := .seq (.rg [(none, .bi 108 .lss (.t 107) (.t 106)),
 (none, .kp [4, 7, 8, 11, 12, 15, 105, 106, 107, 108])])
 (.seq (.ite (.t 108) (.sk)
 (.ex 4))
 (.seq (.blk 5 (.seq (.rg [(none, .mv 109 (.t 107)),
 (none, .ia 110 7 (.t 105) (.t 107)),
 (none, .ld 111 (some 7) (.t 110)),
 (none, .al 17 [.n .i64 0, .n .i64 0, .n .i64 0, .b false, .b false, .b false, .s []]),
 (none, .mv 16 (.t 109)),
 (none, .st 7 (.t 17) (.t 111)),
 (none, .kp [4, 7, 8, 11, 12, 15, 16, 17, 105, 106, 107])])
 (.seq (.rg [(none, .mv 112 (.t 16)),
 (none, .iA 113 13 1 (.t 12) (.t 112)),
 (none, .ld 114 none (.t 113)),
 (none, .un 115 .not (.t 114)),
 (none, .kp [4, 7, 8, 11, 12, 15, 17, 105, 106, 107, 115])])
 (.ite (.t 115) (.rg [(none, .mv 116 (.t 15)),
 (none, .ld 117 (some 7) (.t 17)),
 (none, .bs 118 7 1 [.n .i64 0, .n .i64 0, .n .i64 0, .b false, .b false, .b false, .s []] [(0, .t 117)]),
 (none, .ap 119 7 48 (.t 116) (.t 118)),
 (none, .mv 15 (.t 119)),
 (none, .kp [4, 7, 8, 11, 12, 15, 105, 106, 107])])
 (.sk)))))
 (.rg [(none, .bi 120 .add (.t 107) (.c (.n .i64 1))),
 (none, .mv 107 (.t 120)),
 (none, .kp [4, 7, 8, 11, 12, 15, 105, 106, 107])])))
def pc14l2 : PC := .blk 1 (.seq (.rg [(none, .ld 63 (some 2) (.t 7)),
 (none, .ca (some 64) 77 [.t 63]),
 (none, .mv 9 (.t 64)),
 (none, .kp [4, 7, 8, 9])])
 (.seq (.seq (.rg [(none, .mv 65 (.t 9)),
 (none, .eqn 66 false (.t 65)),
 (none, .kp [4, 7, 8, 9, 66])])
 (.ite (.t 66) (.seq (.rg [(none, .ld 67 (some 2) (.t 7)),
 (none, .mv 68 (.t 8)),
 (none, .st 2 (.t 4) (.t 67)),
 (none, .mv 5 (.t 68)),
 (none, .mv 6 (.c (.n .i64 0))),
 (none, .kp [4, 5, 6])])
 (.rt))
 (.sk)))
 (.seq (.dr [[], [0], [], [2], [2, 3], [0, 1, 2, 3, 4], [0, 1, 2, 3, 4, 5], [], [0, 1, 2, 3, 4, 5, 6, 7]]
 (.q 0 (none, .fa 69 1 (.t 7))
 (.q 1 (none, .ld 70 none (.t 69))
 (.q 2 (none, .mv 71 (.t 9))
 (.q 3 (none, .ia 72 1 (.t 71) (.c (.n .i64 0)))
 (.q 4 (none, .ld 73 none (.t 72))
 (.q 5 (none, .ia 74 7 (.t 70) (.t 73))
 (.q 6 (none, .ld 75 (some 7) (.t 74))
 (.alt 7 (none, .al 10 [.n .i64 0, .n .i64 0, .n .i64 0, .b false, .b false, .b false, .s []]) [true, true, true, true, true, true, true]
 (.alt 8 (none, .st 7 (.t 10) (.t 75)) [false, false, false, false, false, false, false]
 (.done)
 (.stop))
 (.stop))))))))) [4, 7, 8, 9, 10])
 (.seq (.rg [(none, .fa 76 1 (.t 10)),
 (none, .ld 77 none (.t 76)),
 (none, .fa 78 2 (.t 10)),
 (none, .ld 79 none (.t 78)),
 (none, .fa 80 5 (.t 10)),
 (none, .ld 81 none (.t 80)),
 (none, .bd 82 [.n .i64 0, .n .i64 0, .b false, .s []] [(0, 1, .t 77), (1, 1, .t 79), (2, 1, .t 81)]),
 (none, .al 11 [.n .i64 0, .n .i64 0, .b false, .s []]),
 (none, .st 4 (.t 11) (.t 82)),
 (none, .kp [4, 7, 8, 9, 11])])
 (.seq (.rg [(none, .bd 83 [.b false, .b false, .b false, .b false, .b false, .b false, .b false, .b false, .b false, .b false, .b false, .b false, .b false] []),
 (none, .al 12 [.b false, .b false, .b false, .b false, .b false, .b false, .b false, .b false, .b false, .b false, .b false, .b false, .b false]),
 (none, .st 13 (.t 12) (.t 83)),
 (none, .kp [4, 7, 8, 9, 11, 12])])
 (.seq (.seq (.rg [(none, .mv 84 (.t 9)),
 (none, .ln 85 (.t 84)),
 (none, .mv 86 (.c (.n .i64 0))),
 (none, .kp [4, 7, 8, 11, 12, 84, 85, 86])])
 (.blk 2 (.lp pc14l0)))
 (.seq (.rg [(none, .bs 103 7 0 [.n .i64 0, .n .i64 0, .n .i64 0, .b false, .b false, .b false, .s []] []),
 (none, .mv 15 (.t 103)),
 (none, .kp [4, 7, 8, 11, 12, 15])])
 (.seq (.seq (.rg [(none, .fa 104 1 (.t 7)),
 (none, .ld 105 none (.t 104)),
 (none, .ln 106 (.t 105)),
 (none, .mv 107 (.c (.n .i64 0))),
 (none, .kp [4, 7, 8, 11, 12, 15, 105, 106, 107])])
 (.blk 4 (.lp pc14l1)))
 (.seq (.rg [(none, .mv 121 (.t 15)),
 (none, .fa 122 1 (.t 7)),
 (none, .st 1 (.t 122) (.t 121)),
 (none, .kp [4, 7, 8, 11])])
 (.seq (.seq (.rg [(none, .fa 123 2 (.t 11)),
 (none, .ld 124 none (.t 123)),
 (none, .un 125 .not (.t 124)),
 (none, .kp [4, 7, 8, 11, 125])])
 (.ite (.t 125) (.dr [[], [0], [], [2], [], [4], [], [6], [4, 5, 6, 7], [4, 5, 6, 7, 8], [4, 5, 6, 7, 8, 9], [0, 1, 2, 3, 4, 5, 6, 7, 8, 9, 10], [0, 1, 2, 3, 4, 5, 6, 7, 8, 9, 10, 11]]
 (.q 0 (none, .fa 126 0 (.t 7))
 (.q 1 (none, .ld 127 none (.t 126))
 (.q 2 (none, .fa 128 0 (.t 11))
 (.q 3 (none, .ld 129 none (.t 128))
 (.q 4 (none, .fa 130 0 (.t 7))
 (.q 5 (none, .ld 131 none (.t 130))
 (.q 6 (none, .fa 132 0 (.t 11))
 (.q 7 (none, .ld 133 none (.t 132))
 (.q 8 (none, .ia 134 1 (.t 131) (.t 133))
 (.q 9 (none, .ld 135 none (.t 134))
 (.alt 10 (none, .ca (some 136) 78 [.t 135, .c (.n .i64 1)]) [true, true, true, true, false, false, false, false, false, false]
 (.q 11 (none, .ia 137 1 (.t 127) (.t 129))
 (.alt 12 (none, .st 1 (.t 137) (.t 136)) [false, false, false, false, false, false, false, false, false, false, false]
 (.done)
 (.stop)))
 (.stop)))))))))))) [4, 7, 8, 11])
 (.sk)))
 (.rg [(none, .mv 138 (.t 8)),
 (none, .ld 139 (some 4) (.t 11)),
 (none, .bs 140 4 1 [.n .i64 0, .n .i64 0, .b false, .s []] [(0, .t 139)]),
 (none, .ap 141 4 40 (.t 138) (.t 140)),
 (none, .mv 8 (.t 141)),
 (none, .kp [4, 7, 8])])))))))))))
def pc14 : PC := .seq (.rg [(none, .bx 2 (.t 0)),
 (none, .bx 3 (.t 1)),
 (none, .al 4 [.nil, .nil]),
 (none, .mv 5 (.c .nil)),
 (none, .mv 6 (.c (.n .i64 0))),
 (none, .kp [2, 3, 4])])
 (.seq (.seq (.rg [(none, .ld 18 (some 2) (.t 2)),
 (none, .ca (some 19) 74 [.t 18]),
 (none, .un 20 .not (.t 19)),
 (none, .mv 21 (.t 20)),
 (some (21, false), .ld 22 (some 7) (.t 3)),
 (some (21, false), .ca (some 23) 75 [.t 22]),
 (some (21, false), .un 24 .not (.t 23)),
 (none, .pk 25 (.t 21) (.c (.b true)) (.t 24)),
 (none, .mv 26 (.t 25)),
 (some (26, false), .fa 27 1 (.t 3)),
 (some (26, false), .ld 28 none (.t 27)),
 (some (26, false), .fa 29 0 (.t 2)),
 (some (26, false), .ld 30 none (.t 29)),
 (some (26, false), .ln 31 (.t 30)),
 (some (26, false), .bi 32 .geq (.t 28) (.t 31)),
 (none, .pk 33 (.t 26) (.c (.b true)) (.t 32)),
 (none, .kp [2, 3, 4, 33])])
 (.ite (.t 33) (.seq (.rg [(none, .bd 34 [.nil, .nil] []),
 (none, .st 2 (.t 4) (.t 34)),
 (none, .mv 5 (.c .nil)),
 (none, .mv 6 (.c (.n .i64 3))),
 (none, .kp [4, 5, 6])])
 (.rt))
 (.sk)))
 (.seq (.dr [[], [], [1], [0, 1, 2], [], [], [5], [0, 1, 2, 3, 4, 5, 6], [0, 1, 2, 3, 4, 5, 6, 7], [], [0, 1, 2, 3, 4, 5, 6, 7, 8, 9]]
 (.q 1 (none, .fa 36 0 (.t 2))
 (.q 2 (none, .ld 37 none (.t 36))
 (.q 5 (none, .fa 40 1 (.t 2))
 (.q 6 (none, .ld 41 none (.t 40))
 (.alt 0 (none, .bs 35 1 0 [.n .i64 0] []) [true, true, true, true]
 (.alt 3 (none, .ap 38 1 8 (.t 35) (.t 37)) [false, false, true, true]
 (.alt 4 (none, .bs 39 7 0 [.n .i64 0, .n .i64 0, .n .i64 0, .b false, .b false, .b false, .s []] []) [true, true, true, true]
 (.alt 7 (none, .ap 42 7 48 (.t 39) (.t 41)) [false, false, false, false]
 (.q 8 (none, .bd 43 [.nil, .nil] [(0, 1, .t 38), (1, 1, .t 42)])
 (.alt 9 (none, .al 7 [.nil, .nil]) [true, true, true, true, true]
 (.alt 10 (none, .st 2 (.t 7) (.t 43)) [false, false, false, false, false]
 (.done)
 (.stop))
 (.stop)))
 (.alt 9 (none, .al 7 [.nil, .nil]) [true, true, true, true]
 (.alt 7 (none, .ap 42 7 48 (.t 39) (.t 41)) [false, false, false, false]
 (.q 8 (none, .bd 43 [.nil, .nil] [(0, 1, .t 38), (1, 1, .t 42)])
 (.alt 10 (none, .st 2 (.t 7) (.t 43)) [false, false, false, false, false]
 (.done)
 (.stop)))
 (.stop))
 (.stop)))
 (.alt 9 (none, .al 7 [.nil, .nil]) [true, true, true, true]
 (.alt 4 (none, .bs 39 7 0 [.n .i64 0, .n .i64 0, .n .i64 0, .b false, .b false, .b false, .s []] []) [true, true, true, true]
 (.alt 7 (none, .ap 42 7 48 (.t 39) (.t 41)) [false, false, false, false]
 (.q 8 (none, .bd 43 [.nil, .nil] [(0, 1, .t 38), (1, 1, .t 42)])
 (.alt 10 (none, .st 2 (.t 7) (.t 43)) [false, false, false, false, false]
 (.done)
 (.stop)))
 (.stop))
 (.stop))
 (.stop)))
 (.alt 4 (none, .bs 39 7 0 [.n .i64 0, .n .i64 0, .n .i64 0, .b false, .b false, .b false, .s []] []) [true, true, true, true]
 (.alt 3 (none, .ap 38 1 8 (.t 35) (.t 37)) [false, false, true, true]
 (.alt 7 (none, .ap 42 7 48 (.t 39) (.t 41)) [false, false, false, false]
 (.q 8 (none, .bd 43 [.nil, .nil] [(0, 1, .t 38), (1, 1, .t 42)])
 (.alt 9 (none, .al 7 [.nil, .nil]) [true, true, true, true, true]
 (.alt 10 (none, .st 2 (.t 7) (.t 43)) [false, false, false, false, false]
 (.done)
 (.stop))
 (.stop)))
 (.alt 9 (none, .al 7 [.nil, .nil]) [true, true, true, true]
 (.alt 7 (none, .ap 42 7 48 (.t 39) (.t 41)) [false, false, false, false]
 (.q 8 (none, .bd 43 [.nil, .nil] [(0, 1, .t 38), (1, 1, .t 42)])
 (.alt 10 (none, .st 2 (.t 7) (.t 43)) [false, false, false, false, false]
 (.done)
 (.stop)))
 (.stop))
 (.stop)))
 (.alt 9 (none, .al 7 [.nil, .nil]) [true, true, true, true]
 (.alt 3 (none, .ap 38 1 8 (.t 35) (.t 37)) [false, false, true, true]
 (.alt 7 (none, .ap 42 7 48 (.t 39) (.t 41)) [false, false, false, false]
 (.q 8 (none, .bd 43 [.nil, .nil] [(0, 1, .t 38), (1, 1, .t 42)])
 (.alt 10 (none, .st 2 (.t 7) (.t 43)) [false, false, false, false, false]
 (.done)
 (.stop)))
 (.stop))
 (.stop))
 (.stop)))
 (.alt 9 (none, .al 7 [.nil, .nil]) [true, true, true, true]
 (.alt 3 (none, .ap 38 1 8 (.t 35) (.t 37)) [false, false, true, true]
 (.alt 4 (none, .bs 39 7 0 [.n .i64 0, .n .i64 0, .n .i64 0, .b false, .b false, .b false, .s []] []) [true, true, true, true]
 (.alt 7 (none, .ap 42 7 48 (.t 39) (.t 41)) [false, false, false, false]
 (.q 8 (none, .bd 43 [.nil, .nil] [(0, 1, .t 38), (1, 1, .t 42)])
 (.alt 10 (none, .st 2 (.t 7) (.t 43)) [false, false, false, false, false]
 (.done)
 (.stop)))
 (.stop))
 (.stop))
 (.alt 4 (none, .bs 39 7 0 [.n .i64 0, .n .i64 0, .n .i64 0, .b false, .b false, .b false, .s []] []) [true, true, true, true]
 (.alt 3 (none, .ap 38 1 8 (.t 35) (.t 37)) [false, false, true, true]
 (.alt 7 (none, .ap 42 7 48 (.t 39) (.t 41)) [false, false, false, false]
 (.q 8 (none, .bd 43 [.nil, .nil] [(0, 1, .t 38), (1, 1, .t 42)])
 (.alt 10 (none, .st 2 (.t 7) (.t 43)) [false, false, false, false, false]
 (.done)
 (.stop)))
 (.stop))
 (.stop))
 (.stop)))
 (.stop))))
 (.alt 4 (none, .bs 39 7 0 [.n .i64 0, .n .i64 0, .n .i64 0, .b false, .b false, .b false, .s []] []) [true, true, true, true]
 (.alt 0 (none, .bs 35 1 0 [.n .i64 0] []) [true, true, true, true]
 (.alt 3 (none, .ap 38 1 8 (.t 35) (.t 37)) [false, false, true, true]
 (.alt 7 (none, .ap 42 7 48 (.t 39) (.t 41)) [false, false, false, false]
 (.q 8 (none, .bd 43 [.nil, .nil] [(0, 1, .t 38), (1, 1, .t 42)])
 (.alt 9 (none, .al 7 [.nil, .nil]) [true, true, true, true, true]
 (.alt 10 (none, .st 2 (.t 7) (.t 43)) [false, false, false, false, false]
 (.done)
 (.stop))
 (.stop)))
 (.alt 9 (none, .al 7 [.nil, .nil]) [true, true, true, true]
 (.alt 7 (none, .ap 42 7 48 (.t 39) (.t 41)) [false, false, false, false]
 (.q 8 (none, .bd 43 [.nil, .nil] [(0, 1, .t 38), (1, 1, .t 42)])
 (.alt 10 (none, .st 2 (.t 7) (.t 43)) [false, false, false, false, false]
 (.done)
 (.stop)))
 (.stop))
 (.stop)))
 (.alt 9 (none, .al 7 [.nil, .nil]) [true, true, true, true]
 (.alt 3 (none, .ap 38 1 8 (.t 35) (.t 37)) [false, false, true, true]
 (.alt 7 (none, .ap 42 7 48 (.t 39) (.t 41)) [false, false, false, false]
 (.q 8 (none, .bd 43 [.nil, .nil] [(0, 1, .t 38), (1, 1, .t 42)])
 (.alt 10 (none, .st 2 (.t 7) (.t 43)) [false, false, false, false, false]
 (.done)
 (.stop)))
 (.stop))
 (.stop))
 (.stop)))
 (.alt 9 (none, .al 7 [.nil, .nil]) [true, true, true, true]
 (.alt 0 (none, .bs 35 1 0 [.n .i64 0] []) [true, true, true, true]
 (.alt 3 (none, .ap 38 1 8 (.t 35) (.t 37)) [false, false, true, true]
 (.alt 7 (none, .ap 42 7 48 (.t 39) (.t 41)) [false, false, false, false]
 (.q 8 (none, .bd 43 [.nil, .nil] [(0, 1, .t 38), (1, 1, .t 42)])
 (.alt 10 (none, .st 2 (.t 7) (.t 43)) [false, false, false, false, false]
 (.done)
 (.stop)))
 (.stop))
 (.stop))
 (.stop))
 (.stop)))
 (.alt 9 (none, .al 7 [.nil, .nil]) [true, true, true, true]
 (.alt 0 (none, .bs 35 1 0 [.n .i64 0] []) [true, true, true, true]
 (.alt 3 (none, .ap 38 1 8 (.t 35) (.t 37)) [false, false, true, true]
 (.alt 4 (none, .bs 39 7 0 [.n .i64 0, .n .i64 0, .n .i64 0, .b false, .b false, .b false, .s []] []) [true, true, true, true]
 (.alt 7 (none, .ap 42 7 48 (.t 39) (.t 41)) [false, false, false, false]
 (.q 8 (none, .bd 43 [.nil, .nil] [(0, 1, .t 38), (1, 1, .t 42)])
 (.alt 10 (none, .st 2 (.t 7) (.t 43)) [false, false, false, false, false]
 (.done)
 (.stop)))
 (.stop))
 (.stop))
 (.alt 4 (none, .bs 39 7 0 [.n .i64 0, .n .i64 0, .n .i64 0, .b false, .b false, .b false, .s []] []) [true, true, true, true]
 (.alt 3 (none, .ap 38 1 8 (.t 35) (.t 37)) [false, false, true, true]
 (.alt 7 (none, .ap 42 7 48 (.t 39) (.t 41)) [false, false, false, false]
 (.q 8 (none, .bd 43 [.nil, .nil] [(0, 1, .t 38), (1, 1, .t 42)])
 (.alt 10 (none, .st 2 (.t 7) (.t 43)) [false, false, false, false, false]
 (.done)
 (.stop)))
 (.stop))
 (.stop))
 (.stop)))
 (.alt 4 (none, .bs 39 7 0 [.n .i64 0, .n .i64 0, .n .i64 0, .b false, .b false, .b false, .s []] []) [true, true, true, true]
 (.alt 0 (none, .bs 35 1 0 [.n .i64 0] []) [true, true, true, true]
 (.alt 3 (none, .ap 38 1 8 (.t 35) (.t 37)) [false, false, true, true]
 (.alt 7 (none, .ap 42 7 48 (.t 39) (.t 41)) [false, false, false, false]
 (.q 8 (none, .bd 43 [.nil, .nil] [(0, 1, .t 38), (1, 1, .t 42)])
 (.alt 10 (none, .st 2 (.t 7) (.t 43)) [false, false, false, false, false]
 (.done)
 (.stop)))
 (.stop))
 (.stop))
 (.stop))
 (.stop)))
 (.stop)))))))) [3, 4, 7])
 (.seq (.seq (.rg [(none, .fa 44 1 (.t 7)),
 (none, .ld 45 none (.t 44)),
 (none, .fa 46 0 (.t 3)),
 (none, .ld 47 none (.t 46)),
 (none, .ca (some 48) 76 [.t 45, .t 47]),
 (none, .bi 49 .geq (.t 48) (.c (.n .i64 0))),
 (none, .kp [3, 4, 7, 49])])
 (.ite (.t 49) (.seq (.rg [(none, .ld 50 (some 2) (.t 7)),
 (none, .st 2 (.t 4) (.t 50)),
 (none, .mv 5 (.c .nil)),
 (none, .mv 6 (.c (.n .i64 1))),
 (none, .kp [4, 5, 6])])
 (.rt))
 (.sk)))
 (.seq (.seq (.rg [(none, .fa 51 1 (.t 7)),
 (none, .ld 52 none (.t 51)),
 (none, .ln 53 (.t 52)),
 (none, .bi 54 .geq (.t 53) (.c (.n .i64 12))),
 (none, .kp [3, 4, 7, 54])])
 (.ite (.t 54) (.seq (.rg [(none, .ld 55 (some 2) (.t 7)),
 (none, .st 2 (.t 4) (.t 55)),
 (none, .mv 5 (.c .nil)),
 (none, .mv 6 (.c (.n .i64 2))),
 (none, .kp [4, 5, 6])])
 (.rt))
 (.sk)))
 (.seq (.rg [(none, .fa 56 1 (.t 7)),
 (none, .ld 57 none (.t 56)),
 (none, .ld 58 (some 7) (.t 3)),
 (none, .bs 59 7 1 [.n .i64 0, .n .i64 0, .n .i64 0, .b false, .b false, .b false, .s []] [(0, .t 58)]),
 (none, .ap 60 7 48 (.t 57) (.t 59)),
 (none, .fa 61 1 (.t 7)),
 (none, .st 1 (.t 61) (.t 60)),
 (none, .kp [4, 7])])
 (.seq (.rg [(none, .bs 62 4 0 [.n .i64 0, .n .i64 0, .b false, .s []] []),
 (none, .mv 8 (.t 62)),
 (none, .kp [4, 7, 8])])
 (.blk 0 (.lp pc14l2))))))))
theorem mr14 : MrT Try.prog 14 pc14 [.c 4 (some 2), .t 5, .t 6] 142 := fun hn h => spec_of_run (fn := Try.f14) (by kernel_rfl) rfl (by kernel_rfl) (by kernel_rfl) hn h
theorem mk14 : MkT Try.prog 14 pc14 [.c 4 (some 2), .t 5, .t 6] 142 := mr14.k
theorem mw14 : MwT Try.prog 14 pc14 [.c 4 (some 2), .t 5, .t 6] 142 := mr14.w
-- 15 spec.AsmAdd
def pc15l0 : PC := .seq (.seq (.rg [(none, .mv 64 (.t 9)),
 (none, .ln 65 (.t 64)),
 (none, .bi 66 .gtr (.t 65) (.c (.n .i64 0))),
 (none, .kp [4, 7, 8, 9, 66])])
 (.ite (.t 66) (.sk)
 (.ex 1)))
 (.blk 2 (.seq (.rg [(none, .ld 68 (some 2) (.t 7)),
 (none, .mv 69 (.t 9)),
 (none, .ca (some 70) 82 [.t 68, .t 69]),
 (none, .mv 67 (.t 70)),
 (none, .ex 71 (.t 67) 0),
 (none, .ex 72 (.t 67) 1),
 (none, .al 10 [.nil, .nil]),
 (none, .al 11 [.n .i64 0, .n .i64 0, .b false, .s []]),
 (none, .st 2 (.t 10) (.t 71)),
 (none, .st 4 (.t 11) (.t 72)),
 (none, .kp [4, 7, 8, 10, 11])])
 (.seq (.rg [(none, .ld 73 (some 2) (.t 10)),
 (none, .st 2 (.t 7) (.t 73)),
 (none, .kp [4, 7, 8, 11])])
 (.seq (.rg [(none, .mv 74 (.t 8)),
 (none, .ld 75 (some 4) (.t 11)),
 (none, .bs 76 4 1 [.n .i64 0, .n .i64 0, .b false, .s []] [(0, .t 75)]),
 (none, .ap 77 4 40 (.t 74) (.t 76)),
 (none, .mv 8 (.t 77)),
 (none, .kp [4, 7, 8])])
 (.rg [(none, .ld 78 (some 2) (.t 7)),
 (none, .ca (some 79) 81 [.t 78]),
 (none, .mv 9 (.t 79)),
 (none, .kp [4, 7, 8, 9])])))))
def pc15 : PC := .seq (.rg [(none, .bx 2 (.t 0)),
 (none, .bx 3 (.t 1)),
 (none, .al 4 [.nil, .nil]),
 (none, .mv 5 (.c .nil)),
 (none, .mv 6 (.c (.n .i64 0))),
 (none, .kp [2, 3, 4])])
 (.seq (.seq (.rg [(none, .ld 12 (some 2) (.t 2)),
 (none, .ca (some 13) 79 [.t 12]),
 (none, .un 14 .not (.t 13)),
 (none, .mv 15 (.t 14)),
 (some (15, false), .ld 16 (some 7) (.t 3)),
 (some (15, false), .ca (some 17) 70 [.t 16]),
 (some (15, false), .un 18 .not (.t 17)),
 (none, .pk 19 (.t 15) (.c (.b true)) (.t 18)),
 (none, .mv 20 (.t 19)),
 (some (20, false), .fa 21 1 (.t 3)),
 (some (20, false), .ld 22 none (.t 21)),
 (some (20, false), .fa 23 0 (.t 2)),
 (some (20, false), .ld 24 none (.t 23)),
 (some (20, false), .ln 25 (.t 24)),
 (some (20, false), .bi 26 .geq (.t 22) (.t 25)),
 (none, .pk 27 (.t 20) (.c (.b true)) (.t 26)),
 (none, .kp [2, 3, 4, 27])])
 (.ite (.t 27) (.seq (.rg [(none, .bd 28 [.nil, .nil] []),
 (none, .bs 29 4 0 [.n .i64 0, .n .i64 0, .b false, .s []] []),
 (none, .st 2 (.t 4) (.t 28)),
 (none, .mv 5 (.t 29)),
 (none, .mv 6 (.c (.n .i64 3))),
 (none, .kp [4, 5, 6])])
 (.rt))
 (.sk)))
 (.seq (.dr [[], [], [1], [0, 1, 2], [], [], [5], [0, 1, 2, 3, 4, 5, 6], [0, 1, 2, 3, 4, 5, 6, 7], [], [0, 1, 2, 3, 4, 5, 6, 7, 8, 9]]
 (.q 1 (none, .fa 31 0 (.t 2))
 (.q 2 (none, .ld 32 none (.t 31))
 (.q 5 (none, .fa 35 1 (.t 2))
 (.q 6 (none, .ld 36 none (.t 35))
 (.alt 0 (none, .bs 30 1 0 [.n .i64 0] []) [true, true, true, true]
 (.alt 3 (none, .ap 33 1 8 (.t 30) (.t 32)) [false, false, true, true]
 (.alt 4 (none, .bs 34 7 0 [.n .i64 0, .n .i64 0, .n .i64 0, .b false, .b false, .b false, .s []] []) [true, true, true, true]
 (.alt 7 (none, .ap 37 7 48 (.t 34) (.t 36)) [false, false, false, false]
 (.q 8 (none, .bd 38 [.nil, .nil] [(0, 1, .t 33), (1, 1, .t 37)])
 (.alt 9 (none, .al 7 [.nil, .nil]) [true, true, true, true, true]
 (.alt 10 (none, .st 2 (.t 7) (.t 38)) [false, false, false, false, false]
 (.done)
 (.stop))
 (.stop)))
 (.alt 9 (none, .al 7 [.nil, .nil]) [true, true, true, true]
 (.alt 7 (none, .ap 37 7 48 (.t 34) (.t 36)) [false, false, false, false]
 (.q 8 (none, .bd 38 [.nil, .nil] [(0, 1, .t 33), (1, 1, .t 37)])
 (.alt 10 (none, .st 2 (.t 7) (.t 38)) [false, false, false, false, false]
 (.done)
 (.stop)))
 (.stop))
 (.stop)))
 (.alt 9 (none, .al 7 [.nil, .nil]) [true, true, true, true]
 (.alt 4 (none, .bs 34 7 0 [.n .i64 0, .n .i64 0, .n .i64 0, .b false, .b false, .b false, .s []] []) [true, true, true, true]
 (.alt 7 (none, .ap 37 7 48 (.t 34) (.t 36)) [false, false, false, false]
 (.q 8 (none, .bd 38 [.nil, .nil] [(0, 1, .t 33), (1, 1, .t 37)])
 (.alt 10 (none, .st 2 (.t 7) (.t 38)) [false, false, false, false, false]
 (.done)
 (.stop)))
 (.stop))
 (.stop))
 (.stop)))
 (.alt 4 (none, .bs 34 7 0 [.n .i64 0, .n .i64 0, .n .i64 0, .b false, .b false, .b false, .s []] []) [true, true, true, true]
 (.alt 3 (none, .ap 33 1 8 (.t 30) (.t 32)) [false, false, true, true]
 (.alt 7 (none, .ap 37 7 48 (.t 34) (.t 36)) [false, false, false, false]
 (.q 8 (none, .bd 38 [.nil, .nil] [(0, 1, .t 33), (1, 1, .t 37)])
 (.alt 9 (none, .al 7 [.nil, .nil]) [true, true, true, true, true]
 (.alt 10 (none, .st 2 (.t 7) (.t 38)) [false, false, false, false, false]
 (.done)
 (.stop))
 (.stop)))
 (.alt 9 (none, .al 7 [.nil, .nil]) [true, true, true, true]
 (.alt 7 (none, .ap 37 7 48 (.t 34) (.t 36)) [false, false, false, false]
 (.q 8 (none, .bd 38 [.nil, .nil] [(0, 1, .t 33), (1, 1, .t 37)])
 (.alt 10 (none, .st 2 (.t 7) (.t 38)) [false, false, false, false, false]
 (.done)
 (.stop)))
 (.stop))
 (.stop)))
 (.alt 9 (none, .al 7 [.nil, .nil]) [true, true, true, true]
 (.alt 3 (none, .ap 33 1 8 (.t 30) (.t 32)) [false, false, true, true]
 (.alt 7 (none, .ap 37 7 48 (.t 34) (.t 36)) [false, false, false, false]
 (.q 8 (none, .bd 38 [.nil, .nil] [(0, 1, .t 33), (1, 1, .t 37)])
 (.alt 10 (none, .st 2 (.t 7) (.t 38)) [false, false, false, false, false]
 (.done)
 (.stop)))
 (.stop))
 (.stop))
 (.stop)))
 (.alt 9 (none, .al 7 [.nil, .nil]) [true, true, true, true]
 (.alt 3 (none, .ap 33 1 8 (.t 30) (.t 32)) [false, false, true, true]
 (.alt 4 (none, .bs 34 7 0 [.n .i64 0, .n .i64 0, .n .i64 0, .b false, .b false, .b false, .s []] []) [true, true, true, true]
 (.alt 7 (none, .ap 37 7 48 (.t 34) (.t 36)) [false, false, false, false]
 (.q 8 (none, .bd 38 [.nil, .nil] [(0, 1, .t 33), (1, 1, .t 37)])
 (.alt 10 (none, .st 2 (.t 7) (.t 38)) [false, false, false, false, false]
 (.done)
 (.stop)))
 (.stop))
 (.stop))
 (.alt 4 (none, .bs 34 7 0 [.n .i64 0, .n .i64 0, .n .i64 0, .b false, .b false, .b false, .s []] []) [true, true, true, true]
 (.alt 3 (none, .ap 33 1 8 (.t 30) (.t 32)) [false, false, true, true]
 (.alt 7 (none, .ap 37 7 48 (.t 34) (.t 36)) [false, false, false, false]
 (.q 8 (none, .bd 38 [.nil, .nil] [(0, 1, .t 33), (1, 1, .t 37)])
 (.alt 10 (none, .st 2 (.t 7) (.t 38)) [false, false, false, false, false]
 (.done)
 (.stop)))
 (.stop))
 (.stop))
 (.stop)))
 (.stop))))
 (.alt 4 (none, .bs 34 7 0 [.n .i64 0, .n .i64 0, .n .i64 0, .b false, .b false, .b false, .s []] []) [true, true, true, true]
 (.alt 0 (none, .bs 30 1 0 [.n .i64 0] []) [true, true, true, true]
 (.alt 3 (none, .ap 33 1 8 (.t 30) (.t 32)) [false, false, true, true]
 (.alt 7 (none, .ap 37 7 48 (.t 34) (.t 36)) [false, false, false, false]
 (.q 8 (none, .bd 38 [.nil, .nil] [(0, 1, .t 33), (1, 1, .t 37)])
 (.alt 9 (none, .al 7 [.nil, .nil]) [true, true, true, true, true]
 (.alt 10 (none, .st 2 (.t 7) (.t 38)) [false, false, false, false, false]
 (.done)
 (.stop))
 (.stop)))
 (.alt 9 (none, .al 7 [.nil, .nil]) [true, true, true, true]
 (.alt 7 (none, .ap 37 7 48 (.t 34) (.t 36)) [false, false, false, false]
 (.q 8 (none, .bd 38 [.nil, .nil] [(0, 1, .t 33), (1, 1, .t 37)])
 (.alt 10 (none, .st 2 (.t 7) (.t 38)) [false, false, false, false, false]
 (.done)
 (.stop)))
 (.stop))
 (.stop)))
 (.alt 9 (none, .al 7 [.nil, .nil]) [true, true, true, true]
 (.alt 3 (none, .ap 33 1 8 (.t 30) (.t 32)) [false, false, true, true]
 (.alt 7 (none, .ap 37 7 48 (.t 34) (.t 36)) [false, false, false, false]
 (.q 8 (none, .bd 38 [.nil, .nil] [(0, 1, .t 33), (1, 1, .t 37)])
 (.alt 10 (none, .st 2 (.t 7) (.t 38)) [false, false, false, false, false]
 (.done)
 (.stop)))
 (.stop))
 (.stop))
 (.stop)))
 (.alt 9 (none, .al 7 [.nil, .nil]) [true, true, true, true]
 (.alt 0 (none, .bs 30 1 0 [.n .i64 0] []) [true, true, true, true]
 (.alt 3 (none, .ap 33 1 8 (.t 30) (.t 32)) [false, false, true, true]
 (.alt 7 (none, .ap 37 7 48 (.t 34) (.t 36)) [false, false, false, false]
 (.q 8 (none, .bd 38 [.nil, .nil] [(0, 1, .t 33), (1, 1, .t 37)])
 (.alt 10 (none, .st 2 (.t 7) (.t 38)) [false, false, false, false, false]
 (.done)
 (.stop)))
 (.stop))
 (.stop))
 (.stop))
 (.stop)))
 (.alt 9 (none, .al 7 [.nil, .nil]) [true, true, true, true]
 (.alt 0 (none, .bs 30 1 0 [.n .i64 0] []) [true, true, true, true]
 (.alt 3 (none, .ap 33 1 8 (.t 30) (.t 32)) [false, false, true, true]
 (.alt 4 (none, .bs 34 7 0 [.n .i64 0, .n .i64 0, .n .i64 0, .b false, .b false, .b false, .s []] []) [true, true, true, true]
 (.alt 7 (none, .ap 37 7 48 (.t 34) (.t 36)) [false, false, false, false]
 (.q 8 (none, .bd 38 [.nil, .nil] [(0, 1, .t 33), (1, 1, .t 37)])
 (.alt 10 (none, .st 2 (.t 7) (.t 38)) [false, false, false, false, false]
 (.done)
 (.stop)))
 (.stop))
 (.stop))
 (.alt 4 (none, .bs 34 7 0 [.n .i64 0, .n .i64 0, .n .i64 0, .b false, .b false, .b false, .s []] []) [true, true, true, true]
 (.alt 3 (none, .ap 33 1 8 (.t 30) (.t 32)) [false, false, true, true]
 (.alt 7 (none, .ap 37 7 48 (.t 34) (.t 36)) [false, false, false, false]
 (.q 8 (none, .bd 38 [.nil, .nil] [(0, 1, .t 33), (1, 1, .t 37)])
 (.alt 10 (none, .st 2 (.t 7) (.t 38)) [false, false, false, false, false]
 (.done)
 (.stop)))
 (.stop))
 (.stop))
 (.stop)))
 (.alt 4 (none, .bs 34 7 0 [.n .i64 0, .n .i64 0, .n .i64 0, .b false, .b false, .b false, .s []] []) [true, true, true, true]
 (.alt 0 (none, .bs 30 1 0 [.n .i64 0] []) [true, true, true, true]
 (.alt 3 (none, .ap 33 1 8 (.t 30) (.t 32)) [false, false, true, true]
 (.alt 7 (none, .ap 37 7 48 (.t 34) (.t 36)) [false, false, false, false]
 (.q 8 (none, .bd 38 [.nil, .nil] [(0, 1, .t 33), (1, 1, .t 37)])
 (.alt 10 (none, .st 2 (.t 7) (.t 38)) [false, false, false, false, false]
 (.done)
 (.stop)))
 (.stop))
 (.stop))
 (.stop))
 (.stop)))
 (.stop)))))))) [2, 3, 4, 7])
 (.seq (.blk 0 (.seq (.rg [(none, .fa 40 1 (.t 2)),
 (none, .ld 41 none (.t 40)),
 (none, .fa 42 0 (.t 3)),
 (none, .ld 43 none (.t 42)),
 (none, .ca (some 44) 80 [.t 41, .t 43]),
 (none, .bi 45 .geq (.t 44) (.c (.n .i64 0))),
 (none, .mv 39 (.t 45)),
 (none, .kp [2, 3, 4, 7, 39])])
 (.ite (.t 39) (.seq (.rg [(none, .ld 46 (some 2) (.t 7)),
 (none, .bs 47 4 0 [.n .i64 0, .n .i64 0, .b false, .s []] []),
 (none, .st 2 (.t 4) (.t 46)),
 (none, .mv 5 (.t 47)),
 (none, .mv 6 (.c (.n .i64 1))),
 (none, .kp [4, 5, 6])])
 (.rt))
 (.seq (.rg [(none, .fa 49 1 (.t 2)),
 (none, .ld 50 none (.t 49)),
 (none, .ln 51 (.t 50)),
 (none, .bi 52 .geq (.t 51) (.c (.n .i64 12))),
 (none, .mv 48 (.t 52)),
 (none, .kp [3, 4, 7, 48])])
 (.ite (.t 48) (.seq (.rg [(none, .ld 53 (some 2) (.t 7)),
 (none, .bs 54 4 0 [.n .i64 0, .n .i64 0, .b false, .s []] []),
 (none, .st 2 (.t 4) (.t 53)),
 (none, .mv 5 (.t 54)),
 (none, .mv 6 (.c (.n .i64 2))),
 (none, .kp [4, 5, 6])])
 (.rt))
 (.sk))))))
 (.seq (.rg [(none, .fa 55 1 (.t 7)),
 (none, .ld 56 none (.t 55)),
 (none, .ld 57 (some 7) (.t 3)),
 (none, .bs 58 7 1 [.n .i64 0, .n .i64 0, .n .i64 0, .b false, .b false, .b false, .s []] [(0, .t 57)]),
 (none, .ap 59 7 48 (.t 56) (.t 58)),
 (none, .fa 60 1 (.t 7)),
 (none, .st 1 (.t 60) (.t 59)),
 (none, .kp [4, 7])])
 (.seq (.rg [(none, .bs 61 4 0 [.n .i64 0, .n .i64 0, .b false, .s []] []),
 (none, .mv 8 (.t 61)),
 (none, .kp [4, 7, 8])])
 (.seq (.rg [(none, .ld 62 (some 2) (.t 7)),
 (none, .ca (some 63) 81 [.t 62]),
 (none, .mv 9 (.t 63)),
 (none, .kp [4, 7, 8, 9])])
 (.seq (.blk 1 (.lp pc15l0))
 (.seq (.rg [(none, .ld 80 (some 2) (.t 7)),
 (none, .mv 81 (.t 8)),
 (none, .st 2 (.t 4) (.t 80)),
 (none, .mv 5 (.t 81)),
 (none, .mv 6 (.c (.n .i64 0))),
 (none, .kp [4, 5, 6])])
 (.rt)))))))))
theorem mr15 : MrT Try.prog 15 pc15 [.c 4 (some 2), .t 5, .t 6] 82 := fun hn h => spec_of_run (fn := Try.f15) (by kernel_rfl) rfl (by kernel_rfl) (by kernel_rfl) hn h
theorem mk15 : MkT Try.prog 15 pc15 [.c 4 (some 2), .t 5, .t 6] 82 := mr15.k
theorem mw15 : MwT Try.prog 15 pc15 [.c 4 (some 2), .t 5, .t 6] 82 := mr15.w
-- 16 laws.sameAsm
def pc16 : PC := .seq (.rg [(none, .bx 2 (.t 0)),
 (none, .bx 3 (.t 1)),
 (none, .mv 4 (.c (.b false))),
 (none, .kp [2, 3])])
 (.seq (.rg [(none, .fa 5 0 (.t 2)),
 (none, .ld 6 none (.t 5)),
 (none, .fa 7 0 (.t 3)),
 (none, .ld 8 none (.t 7)),
 (none, .ca (some 9) 83 [.t 6, .t 8]),
 (none, .mv 10 (.t 9)),
 (some (10, true), .fa 11 1 (.t 2)),
 (some (10, true), .ld 12 none (.t 11)),
 (some (10, true), .fa 13 1 (.t 3)),
 (some (10, true), .ld 14 none (.t 13)),
 (some (10, true), .ca (some 15) 84 [.t 12, .t 14]),
 (none, .pk 16 (.t 10) (.t 15) (.c (.b false))),
 (none, .mv 4 (.t 16)),
 (none, .kp [4])])
 (.rt))
theorem mr16 : MrT Try.prog 16 pc16 [.t 4] 17 := fun hn h => spec_of_run (fn := Try.f16) (by kernel_rfl) rfl (by kernel_rfl) (by kernel_rfl) hn h
theorem mk16 : MkT Try.prog 16 pc16 [.t 4] 17 := mr16.k
theorem mw16 : MwT Try.prog 16 pc16 [.t 4] 17 := mr16.w
-- 17 laws.sameMessages
def pc17l0 : PC := .seq (.seq (.rg [(none, .mv 11 (.t 5)),
 (none, .mv 12 (.t 0)),
 (none, .ln 13 (.t 12)),
 (none, .bi 14 .lss (.t 11) (.t 13)),
 (none, .kp [0, 1, 5, 14])])
 (.ite (.t 14) (.sk)
 (.ex 0)))
 (.seq (.blk 1 (.seq (.dr [[], [], [0, 1], [0, 1, 2], [], [], [4, 5], [4, 5, 6], [0, 1, 2, 3, 4, 5, 6, 7]]
 (.q 0 (none, .mv 17 (.t 0))
 (.q 1 (none, .mv 18 (.t 5))
 (.q 2 (none, .ia 19 4 (.t 17) (.t 18))
 (.q 3 (none, .ld 20 (some 4) (.t 19))
 (.q 4 (none, .mv 21 (.t 1))
 (.q 5 (none, .mv 22 (.t 5))
 (.q 6 (none, .ia 23 4 (.t 21) (.t 22))
 (.q 7 (none, .ld 24 (some 4) (.t 23))
 (.q 8 (none, .eqs 25 true [.n .i64 0, .n .i64 0, .b false, .s []] (.t 20) (.t 24))
 (.done)))))))))) [0, 1, 5, 25])
 (.ite (.t 25) (.seq (.rg [(none, .mv 4 (.c (.b false))),
 (none, .kp [4])])
 (.rt))
 (.sk))))
 (.rg [(none, .mv 15 (.t 5)),
 (none, .bi 16 .add (.t 15) (.c (.n .i64 1))),
 (none, .mv 5 (.t 16)),
 (none, .kp [0, 1, 5])]))
def pc17 : PC := .seq (.rg [(none, .mv 4 (.c (.b false))),
 (none, .kp [0, 1])])
 (.seq (.seq (.rg [(none, .mv 6 (.t 0)),
 (none, .ln 7 (.t 6)),
 (none, .mv 8 (.t 1)),
 (none, .ln 9 (.t 8)),
 (none, .bi 10 .neq (.t 7) (.t 9)),
 (none, .kp [0, 1, 10])])
 (.ite (.t 10) (.seq (.rg [(none, .mv 4 (.c (.b false))),
 (none, .kp [4])])
 (.rt))
 (.sk)))
 (.seq (.seq (.rg [(none, .mv 5 (.c (.n .i64 0))),
 (none, .kp [0, 1, 5])])
 (.blk 0 (.lp pc17l0)))
 (.seq (.rg [(none, .mv 4 (.c (.b true))),
 (none, .kp [4])])
 (.rt))))
theorem mr17 : MrT Try.prog 17 pc17 [.t 4] 26 := fun hn h => spec_of_run (fn := Try.f17) (by kernel_rfl) rfl (by kernel_rfl) (by kernel_rfl) hn h
theorem mk17 : MkT Try.prog 17 pc17 [.t 4] 26 := mr17.k
theorem mw17 : MwT Try.prog 17 pc17 [.t 4] 26 := mr17.w
-- 18 laws.bytesOf
def pc18l0 : PC := .seq (.seq (.rg [(none, .mv 8 (.t 6)),
 (none, .mv 9 (.t 0)),
 (none, .ln 10 (.t 9)),
 (none, .bi 11 .lss (.t 8) (.t 10)),
 (none, .kp [0, 1, 5, 6, 11])])
 (.ite (.t 11) (.sk)
 (.ex 0)))
 (.seq (.blk 1 (.rg [(none, .mv 14 (.t 5)),
 (none, .mv 15 (.t 0)),
 (none, .mv 16 (.t 6)),
 (none, .ia 17 7 (.t 15) (.t 16)),
 (none, .fa 18 6 (.t 17)),
 (none, .ld 19 none (.t 18)),
 (none, .lS 20 (.t 19)),
 (none, .bi 21 .add (.t 14) (.t 20)),
 (none, .mv 5 (.t 21)),
 (none, .kp [0, 1, 5, 6])]))
 (.rg [(none, .mv 12 (.t 6)),
 (none, .bi 13 .add (.t 12) (.c (.n .i64 1))),
 (none, .mv 6 (.t 13)),
 (none, .kp [0, 1, 5, 6])]))
def pc18l1 : PC := .seq (.seq (.rg [(none, .mv 22 (.t 7)),
 (none, .mv 23 (.t 1)),
 (none, .ln 24 (.t 23)),
 (none, .bi 25 .lss (.t 22) (.t 24)),
 (none, .kp [1, 5, 7, 25])])
 (.ite (.t 25) (.sk)
 (.ex 2)))
 (.seq (.blk 3 (.rg [(none, .mv 28 (.t 5)),
 (none, .mv 29 (.t 1)),
 (none, .mv 30 (.t 7)),
 (none, .ia 31 4 (.t 29) (.t 30)),
 (none, .fa 32 3 (.t 31)),
 (none, .ld 33 none (.t 32)),
 (none, .lS 34 (.t 33)),
 (none, .bi 35 .add (.t 28) (.t 34)),
 (none, .mv 5 (.t 35)),
 (none, .kp [1, 5, 7])]))
 (.rg [(none, .mv 26 (.t 7)),
 (none, .bi 27 .add (.t 26) (.c (.n .i64 1))),
 (none, .mv 7 (.t 27)),
 (none, .kp [1, 5, 7])]))
def pc18 : PC := .seq (.rg [(none, .mv 4 (.c (.n .i64 0))),
 (none, .kp [0, 1])])
 (.seq (.rg [(none, .mv 5 (.c (.n .i64 0))),
 (none, .kp [0, 1, 5])])
 (.seq (.seq (.rg [(none, .mv 6 (.c (.n .i64 0))),
 (none, .kp [0, 1, 5, 6])])
 (.blk 0 (.lp pc18l0)))
 (.seq (.seq (.rg [(none, .mv 7 (.c (.n .i64 0))),
 (none, .kp [1, 5, 7])])
 (.blk 2 (.lp pc18l1)))
 (.seq (.rg [(none, .mv 36 (.t 5)),
 (none, .mv 4 (.t 36)),
 (none, .kp [4])])
 (.rt)))))
theorem mr18 : MrT Try.prog 18 pc18 [.t 4] 37 := fun hn h => spec_of_run (fn := Try.f18) (by kernel_rfl) rfl (by kernel_rfl) (by kernel_rfl) hn h
theorem mk18 : MkT Try.prog 18 pc18 [.t 4] 37 := mr18.k
theorem mw18 : MwT Try.prog 18 pc18 [.t 4] 37 := mr18.w
-- 67 spec.l6Open
def pc67 : PC := .seq (.rg [(none, .mv 2 .j),
 (none, .kp [0])])
 (.seq (.seq (.rg [(none, .mv 3 (.t 0)),
 (none, .ln 4 (.t 3)),
 (none, .bi 5 .gtr (.t 4) (.c (.n .i64 2000))),
 (none, .kp [0, 5])])
 (.ite (.t 5) (.rg [(none, .mv 6 (.t 0)),
 (none, .sc 7 1 (.t 6) none (some (.c (.n .i64 2000)))),
 (none, .mv 0 (.t 7)),
 (none, .kp [0])])
 (.sk)))
 (.seq (.rg [(none, .mv 8 (.t 0)),
 (none, .bd 9 [.nil, .n .i64 0] [(0, 1, .t 8)]),
 (none, .bx 10 (.t 9)),
 (none, .mv 2 (.t 10)),
 (none, .kp [2])])
 (.rt)))
theorem mr67 : MrT Try.prog 67 pc67 [.t 2] 11 := fun hn h => spec_of_run (fn := Try.f67) (by kernel_rfl) rfl (by kernel_rfl) (by kernel_rfl) hn h
theorem mk67 : MkT Try.prog 67 pc67 [.t 2] 11 := mr67.k
theorem mw67 : MwT Try.prog 67 pc67 [.t 2] 11 := mr67.w
-- 68 spec.l92Asm
def pc68l0 : PC := .seq (.seq (.rg [(none, .mv 20 (.t 7)),
 (none, .mv 21 (.t 6)),
 (none, .ln 22 (.t 21)),
 (none, .bi 23 .lss (.t 20) (.t 22)),
 (none, .kp [0, 2, 4, 6, 7, 23])])
 (.ite (.t 23) (.sk)
 (.ex 0)))
 (.seq (.blk 1 (.seq (.rg [(none, .mv 26 (.t 0)),
 (none, .ca (some 27) 69 [.t 26, .c (.n .i64 3)]),
 (none, .bi 28 .gtr (.t 27) (.c (.n .i64 0))),
 (none, .kp [0, 2, 4, 6, 7, 28])])
 (.ite (.t 28) (.dr [[], [], [], [1, 2], [1, 2, 3], [0, 1, 2, 3, 4], [0, 1, 2, 3, 4, 5], [0, 1, 2, 3, 4, 5, 6], [0, 1, 2, 3, 4, 5, 6], [0, 1, 2, 3, 4, 5, 6], [0, 1, 2, 3, 4, 5, 6, 7]]
 (.q 0 (none, .ld 30 (some 2) (.t 4))
 (.q 1 (none, .mv 31 (.t 6))
 (.q 2 (none, .mv 32 (.t 7))
 (.q 3 (none, .ia 33 7 (.t 31) (.t 32))
 (.q 4 (none, .ld 34 (some 7) (.t 33))
 (.alt 5 (none, .ca (some 35) 15 [.t 30, .t 34]) [false, false, false, false, false]
 (.q 6 (none, .mv 29 (.t 35))
 (.q 7 (none, .ex 36 (.t 29) 0)
 (.q 8 (none, .ex 37 (.t 29) 1)
 (.q 9 (none, .ex 38 (.t 29) 2)
 (.alt 10 (none, .st 2 (.t 4) (.t 36)) [false, false, false, false, false, false, false, true, true]
 (.done)
 (.stop))))))
 (.stop))))))) [0, 2, 4, 6, 7])
 (.sk))))
 (.rg [(none, .mv 24 (.t 7)),
 (none, .bi 25 .add (.t 24) (.c (.n .i64 1))),
 (none, .mv 7 (.t 25)),
 (none, .kp [0, 2, 4, 6, 7])]))
def pc68 : PC := .seq (.rg [(none, .al 2 [.nil, .nil]),
 (none, .kp [0, 2])])
 (.seq (.rg [(none, .mv 8 (.t 0)),
 (none, .ca (some 9) 151 [.t 8]),
 (none, .al 3 [.n .i64 0, .n .i64 0, .n .i64 0, .n .i64 0, .n .i64 0, .n .i64 0, .n .i64 0, .n .i64 0, .n .i64 0, .n .i64 0, .n .i64 0, .nil]),
 (none, .st 12 (.t 3) (.t 9)),
 (none, .kp [0, 2, 3])])
 (.seq (.rg [(none, .fa 11 2 (.t 3)),
 (none, .fa 12 2 (.t 11)),
 (none, .ld 13 none (.t 12)),
 (none, .ca (some 14) 152 [.t 13]),
 (none, .mv 10 (.t 14)),
 (none, .ex 15 (.t 10) 0),
 (none, .ex 16 (.t 10) 1),
 (none, .al 4 [.nil, .nil]),
 (none, .st 2 (.t 4) (.t 15)),
 (none, .mv 5 (.t 16)),
 (none, .kp [0, 2, 3, 4])])
 (.seq (.rg [(none, .mv 17 (.t 0)),
 (none, .ld 18 (some 12) (.t 3)),
 (none, .ca (some 19) 153 [.t 17, .t 18]),
 (none, .mv 6 (.t 19)),
 (none, .kp [0, 2, 4, 6])])
 (.seq (.seq (.rg [(none, .mv 7 (.c (.n .i64 0))),
 (none, .kp [0, 2, 4, 6, 7])])
 (.blk 0 (.lp pc68l0)))
 (.seq (.seq (.rg [(none, .mv 39 (.t 0)),
 (none, .ca (some 40) 69 [.t 39, .c (.n .i64 20)]),
 (none, .kp [0, 2, 4, 40])])
 (.blk 2 (.seq (.rg [(none, .bi 42 .eql (.t 40) (.c (.n .i64 0))),
 (none, .mv 41 (.t 42)),
 (none, .kp [0, 2, 4, 40, 41])])
 (.ite (.t 41) (.dr [[], [0], [], [2], [2, 3], [0, 1, 2, 3, 4], [0, 1, 2, 3, 4, 5], [0, 1, 2, 3, 4, 5, 6]]
 (.q 0 (none, .fa 43 1 (.t 4))
 (.q 1 (none, .ld 44 none (.t 43))
 (.q 2 (none, .mv 45 (.t 0))
 (.alt 3 (none, .ca (some 46) 72 [.t 45]) [true, true, false]
 (.alt 4 (none, .bs 47 7 1 [.n .i64 0, .n .i64 0, .n .i64 0, .b false, .b false, .b false, .s []] [(0, .t 46)]) [true, true, false]
 (.alt 5 (none, .ap 48 7 48 (.t 44) (.t 47)) [false, false, false]
 (.q 6 (none, .fa 49 1 (.t 4))
 (.alt 7 (none, .st 1 (.t 49) (.t 48)) [false, false, false, false]
 (.done)
 (.stop)))
 (.stop))
 (.stop))
 (.stop))))) [2, 4])
 (.seq (.rg [(none, .bi 51 .eql (.t 40) (.c (.n .i64 1))),
 (none, .mv 50 (.t 51)),
 (none, .kp [0, 2, 4, 40, 50])])
 (.ite (.t 50) (.dr [[], [0], [], [2], [2, 3], [0, 1, 2, 3, 4], [0, 1, 2, 3, 4, 5], [0, 1, 2, 3, 4, 5, 6]]
 (.q 0 (none, .fa 52 0 (.t 4))
 (.q 1 (none, .ld 53 none (.t 52))
 (.q 2 (none, .mv 54 (.t 0))
 (.alt 3 (none, .ca (some 55) 154 [.t 54]) [true, true, false]
 (.alt 4 (none, .bs 56 1 1 [.n .i64 0] [(0, .t 55)]) [true, true, false]
 (.alt 5 (none, .ap 57 1 8 (.t 53) (.t 56)) [false, false, false]
 (.q 6 (none, .fa 58 0 (.t 4))
 (.alt 7 (none, .st 1 (.t 58) (.t 57)) [false, false, false, false]
 (.done)
 (.stop)))
 (.stop))
 (.stop))
 (.stop))))) [2, 4])
 (.seq (.rg [(none, .bi 60 .eql (.t 40) (.c (.n .i64 2))),
 (none, .mv 59 (.t 60)),
 (none, .kp [2, 4, 59])])
 (.ite (.t 59) (.rg [(none, .fa 61 1 (.t 4)),
 (none, .ld 62 none (.t 61)),
 (none, .fa 63 1 (.t 4)),
 (none, .ld 64 none (.t 63)),
 (none, .ap 65 7 48 (.t 62) (.t 64)),
 (none, .fa 66 1 (.t 4)),
 (none, .st 1 (.t 66) (.t 65)),
 (none, .kp [2, 4])])
 (.sk)))))))))
 (.seq (.rg [(none, .ld 67 (some 2) (.t 4)),
 (none, .st 2 (.t 2) (.t 67)),
 (none, .kp [2])])
 (.rt)))))))
theorem mr68 : MrT Try.prog 68 pc68 [.c 2 (some 2)] 68 := fun hn h => spec_of_run (fn := Try.f68) (by kernel_rfl) rfl (by kernel_rfl) (by kernel_rfl) hn h
theorem mk68 : MkT Try.prog 68 pc68 [.c 2 (some 2)] 68 := mr68.k
theorem mw68 : MwT Try.prog 68 pc68 [.c 2 (some 2)] 68 := mr68.w
-- 69 (*spec.l6Rd).pick
def pc69 : PC := .seq (.rg [(none, .mv 4 (.c (.n .i64 0))),
 (none, .kp [0, 1])])
 (.seq (.rg [(none, .mv 7 (.t 0)),
 (none, .mv 8 (.t 0)),
 (none, .nc 9 (.t 8)),
 (none, .fa 10 1 (.t 9)),
 (none, .ld 11 none (.t 10)),
 (none, .bi 12 .add (.t 11) (.c (.n .i64 1))),
 (none, .nc 13 (.t 7)),
 (none, .fa 14 1 (.t 13)),
 (none, .st 1 (.t 14) (.t 12)),
 (none, .kp [0, 1])])
 (.seq (.seq (.rg [(none, .mv 15 (.t 1)),
 (none, .bi 16 .lss (.t 15) (.c (.n .i64 1))),
 (none, .mv 17 (.t 16)),
 (some (17, false), .mv 18 (.t 0)),
 (some (17, false), .nc 19 (.t 18)),
 (some (17, false), .fa 20 0 (.t 19)),
 (some (17, false), .ld 21 none (.t 20)),
 (some (17, false), .ln 22 (.t 21)),
 (some (17, false), .bi 23 .eql (.t 22) (.c (.n .i64 0))),
 (none, .pk 24 (.t 17) (.c (.b true)) (.t 23)),
 (none, .kp [0, 1, 24])])
 (.ite (.t 24) (.seq (.rg [(none, .mv 4 (.c (.n .i64 0))),
 (none, .kp [4])])
 (.rt))
 (.sk)))
 (.seq (.rg [(none, .mv 25 (.t 0)),
 (none, .nc 26 (.t 25)),
 (none, .fa 27 1 (.t 26)),
 (none, .ld 28 none (.t 27)),
 (none, .bi 29 .sub (.t 28) (.c (.n .i64 1))),
 (none, .mv 5 (.t 29)),
 (none, .kp [0, 1, 5])])
 (.seq (.seq (.rg [(none, .mv 30 (.t 5)),
 (none, .mv 31 (.t 0)),
 (none, .nc 32 (.t 31)),
 (none, .fa 33 0 (.t 32)),
 (none, .ld 34 none (.t 33)),
 (none, .ln 35 (.t 34)),
 (none, .bi 36 .lss (.t 30) (.t 35)),
 (none, .kp [0, 1, 5, 36])])
 (.ite (.t 36) (.seq (.rg [(none, .mv 37 (.t 0)),
 (none, .nc 38 (.t 37)),
 (none, .fa 39 0 (.t 38)),
 (none, .ld 40 none (.t 39)),
 (none, .mv 41 (.t 5)),
 (none, .ia 42 1 (.t 40) (.t 41)),
 (none, .ld 43 none (.t 42)),
 (none, .cv 44 .i64 (.t 43)),
 (none, .mv 45 (.t 1)),
 (none, .bi 46 .rem (.t 44) (.t 45)),
 (none, .mv 4 (.t 46)),
 (none, .kp [4])])
 (.rt))
 (.sk)))
 (.seq (.dr [[], [0], [0, 1], [0, 1, 2], [], [], [5], [5, 6], [5, 6, 7], [5, 6, 7, 8], [4, 5, 6, 7, 8, 9], [0, 1, 2, 3, 4, 5, 6, 7, 8, 9, 10], [0, 1, 2, 3, 4, 5, 6, 7, 8, 9, 10, 11], [0, 1, 2, 3, 4, 5, 6, 7, 8, 9, 10, 11, 12], [0, 1, 2, 3, 4, 5, 6, 7, 8, 9, 10, 11, 12, 13], [], [15], [15, 16], [15, 16, 17], [], [19], [19, 20], [], [22], [22, 23], [22, 23, 24], [22, 23, 24, 25], [19, 20, 21, 22, 23, 24, 25, 26], [15, 16, 17, 18, 19, 20, 21, 22, 23, 24, 25, 26, 27], [15, 16, 17, 18, 19, 20, 21, 22, 23, 24, 25, 26, 27, 28], [15, 16, 17, 18, 19, 20, 21, 22, 23, 24, 25, 26, 27, 28, 29], [15, 16, 17, 18, 19, 20, 21, 22, 23, 24, 25, 26, 27, 28, 29, 30], [0, 1, 2, 3, 4, 5, 6, 7, 8, 9, 10, 11, 12, 13, 14, 15, 16, 17, 18, 19, 20, 21, 22, 23, 24, 25, 26, 27, 28, 29, 30, 31], [], [33], [0, 1, 2, 3, 4, 5, 6, 7, 8, 9, 10, 11, 12, 13, 14, 15, 16, 17, 18, 19, 20, 21, 22, 23, 24, 25, 26, 27, 28, 29, 30, 31, 32, 33, 34], [], [], [37], [37, 38], [37, 38, 39], [37, 38, 39, 40], [36, 37, 38, 39, 40, 41], [36, 37, 38, 39, 40, 41, 42], [0, 1, 2, 3, 4, 5, 6, 7, 8, 9, 10, 11, 12, 13, 14, 15, 16, 17, 18, 19, 20, 21, 22, 23, 24, 25, 26, 27, 28, 29, 30, 31, 32, 33, 34, 35, 36, 37, 38, 39, 40, 41, 42, 43], [0, 1, 2, 3, 4, 5, 6, 7, 8, 9, 10, 11, 12, 13, 14, 15, 16, 17, 18, 19, 20, 21, 22, 23, 24, 25, 26, 27, 28, 29, 30, 31, 32, 33, 34, 35, 36, 37, 38, 39, 40, 41, 42, 43, 44]]
 (.q 0 (none, .mv 47 (.t 0))
 (.q 1 (none, .nc 48 (.t 47))
 (.q 2 (none, .fa 49 0 (.t 48))
 (.q 3 (none, .ld 50 none (.t 49))
 (.q 4 (none, .mv 51 (.t 5))
 (.q 5 (none, .mv 52 (.t 0))
 (.q 6 (none, .nc 53 (.t 52))
 (.q 7 (none, .fa 54 0 (.t 53))
 (.q 8 (none, .ld 55 none (.t 54))
 (.q 9 (none, .ln 56 (.t 55))
 (.q 10 (none, .bi 57 .rem (.t 51) (.t 56))
 (.q 11 (none, .ia 58 1 (.t 50) (.t 57))
 (.q 12 (none, .ld 59 none (.t 58))
 (.q 13 (none, .cv 60 .i64 (.t 59))
 (.q 14 (none, .bi 61 .mul (.t 60) (.c (.n .i64 131)))
 (.q 15 (none, .mv 62 (.t 0))
 (.q 16 (none, .nc 63 (.t 62))
 (.q 17 (none, .fa 64 0 (.t 63))
 (.q 18 (none, .ld 65 none (.t 64))
 (.q 19 (none, .mv 66 (.t 5))
 (.q 20 (none, .bi 67 .mul (.t 66) (.c (.n .i64 7)))
 (.q 21 (none, .bi 68 .add (.t 67) (.c (.n .i64 3)))
 (.q 22 (none, .mv 69 (.t 0))
 (.q 23 (none, .nc 70 (.t 69))
 (.q 24 (none, .fa 71 0 (.t 70))
 (.q 25 (none, .ld 72 none (.t 71))
 (.q 26 (none, .ln 73 (.t 72))
 (.q 27 (none, .bi 74 .rem (.t 68) (.t 73))
 (.q 28 (none, .ia 75 1 (.t 65) (.t 74))
 (.q 29 (none, .ld 76 none (.t 75))
 (.q 30 (none, .cv 77 .i64 (.t 76))
 (.q 31 (none, .bi 78 .mul (.t 77) (.c (.n .i64 1117)))
 (.q 32 (none, .bi 79 .add (.t 61) (.t 78))
 (.q 33 (none, .mv 80 (.t 5))
 (.q 34 (none, .bi 81 .mul (.t 80) (.c (.n .i64 29)))
 (.q 35 (none, .bi 82 .add (.t 79) (.t 81))
 (.q 36 (none, .mv 83 (.t 5))
 (.q 37 (none, .mv 84 (.t 0))
 (.q 38 (none, .nc 85 (.t 84))
 (.q 39 (none, .fa 86 0 (.t 85))
 (.q 40 (none, .ld 87 none (.t 86))
 (.q 41 (none, .ln 88 (.t 87))
 (.q 42 (none, .bi 89 .quo (.t 83) (.t 88))
 (.q 43 (none, .bi 90 .mul (.t 89) (.c (.n .i64 53)))
 (.q 44 (none, .bi 91 .add (.t 82) (.t 90))
 (.q 45 (none, .mv 6 (.t 91))
 (.done))))))))))))))))))))))))))))))))))))))))))))))) [1, 6])
 (.seq (.rg [(none, .mv 92 (.t 6)),
 (none, .mv 93 (.t 6)),
 (none, .bi 94 .quo (.t 93) (.c (.n .i64 64))),
 (none, .bi 95 .xor (.t 92) (.t 94)),
 (none, .mv 6 (.t 95)),
 (none, .kp [1, 6])])
 (.seq (.rg [(none, .mv 96 (.t 6)),
 (none, .mv 97 (.t 1)),
 (none, .bi 98 .rem (.t 96) (.t 97)),
 (none, .mv 4 (.t 98)),
 (none, .kp [4])])
 (.rt))))))))
theorem mr69 : MrT Try.prog 69 pc69 [.t 4] 99 := fun hn h => spec_of_run (fn := Try.f69) (by kernel_rfl) rfl (by kernel_rfl) (by kernel_rfl) hn h
theorem mk69 : MkT Try.prog 69 pc69 [.t 4] 99 := mr69.k
theorem mw69 : MwT Try.prog 69 pc69 [.t 4] 99 := mr69.w
-- 70 spec.l12Data
def pc70 : PC := .seq (.rg [(none, .bx 1 (.t 0)),
 (none, .mv 2 (.c (.b false))),
 (none, .kp [1])])
 (.seq (.rg [(none, .fa 3 0 (.t 1)),
 (none, .ld 4 none (.t 3)),
 (none, .ca (some 5) 73 [.t 4]),
 (none, .mv 6 (.t 5)),
 (some (6, true), .fa 7 1 (.t 1)),
 (some (6, true), .ld 8 none (.t 7)),
 (some (6, true), .ca (some 9) 73 [.t 8]),
 (none, .pk 10 (.t 6) (.t 9) (.c (.b false))),
 (none, .mv 11 (.t 10)),
 (some (11, true), .fa 12 2 (.t 1)),
 (some (11, true), .ld 13 none (.t 12)),
 (some (11, true), .ca (some 14) 73 [.t 13]),
 (none, .pk 15 (.t 11) (.t 14) (.c (.b false))),
 (none, .mv 16 (.t 15)),
 (some (16, true), .fa 17 6 (.t 1)),
 (some (16, true), .ld 18 none (.t 17)),
 (some (16, true), .lS 19 (.t 18)),
 (some (16, true), .ca (some 20) 125 [.t 19, .c (.n .i64 1), .c (.n .i64 20)]),
 (none, .pk 21 (.t 16) (.t 20) (.c (.b false))),
 (none, .mv 2 (.t 21)),
 (none, .kp [2])])
 (.rt))
theorem mr70 : MrT Try.prog 70 pc70 [.t 2] 22 := fun hn h => spec_of_run (fn := Try.f70) (by kernel_rfl) rfl (by kernel_rfl) (by kernel_rfl) hn h
theorem mk70 : MkT Try.prog 70 pc70 [.t 2] 22 := mr70.k
theorem mw70 : MwT Try.prog 70 pc70 [.t 2] 22 := mr70.w
-- 71 spec.l3Add
def pc71 : PC := .seq (.rg [(none, .mv 4 (.c (.n .i64 0))),
 (none, .kp [0, 1])])
 (.seq (.rg [(none, .mv 5 (.t 0)),
 (none, .mv 6 (.t 1)),
 (none, .bi 7 .rem (.t 6) (.c (.n .i64 65536))),
 (none, .bi 8 .add (.t 5) (.t 7)),
 (none, .bi 9 .add (.t 8) (.c (.n .i64 65536))),
 (none, .bi 10 .rem (.t 9) (.c (.n .i64 65536))),
 (none, .mv 4 (.t 10)),
 (none, .kp [4])])
 (.rt))
theorem mr71 : MrT Try.prog 71 pc71 [.t 4] 11 := fun hn h => spec_of_run (fn := Try.f71) (by kernel_rfl) rfl (by kernel_rfl) (by kernel_rfl) hn h
theorem mk71 : MkT Try.prog 71 pc71 [.t 4] 11 := mr71.k
theorem mw71 : MwT Try.prog 71 pc71 [.t 4] 11 := mr71.w
-- 72 spec.l91Part
def pc72 : PC := .seq (.rg [(none, .al 2 [.n .i64 0, .n .i64 0, .n .i64 0, .b false, .b false, .b false, .s []]),
 (none, .kp [0, 2])])
 (.seq (.rg [(none, .mv 4 (.t 0)),
 (none, .ca (some 5) 155 [.t 4]),
 (none, .mv 6 (.t 0)),
 (none, .ca (some 7) 69 [.t 6, .c (.n .i64 3)]),
 (none, .mv 8 (.t 0)),
 (none, .ca (some 9) 69 [.t 8, .c (.n .i64 4)]),
 (none, .mv 10 (.t 0)),
 (none, .ca (some 11) 156 [.t 10, .c (.n .i64 6)]),
 (none, .bi 12 .add (.t 11) (.c (.s [116]))),
 (none, .bd 13 [.n .i64 0, .n .i64 0, .n .i64 0, .b false, .b false, .b false, .s []] [(0, 1, .t 5), (1, 1, .t 7), (2, 1, .t 9), (6, 1, .t 12)]),
 (none, .al 3 [.n .i64 0, .n .i64 0, .n .i64 0, .b false, .b false, .b false, .s []]),
 (none, .st 7 (.t 3) (.t 13)),
 (none, .kp [0, 2, 3])])
 (.seq (.rg [(none, .mv 14 (.t 0)),
 (none, .ca (some 15) 69 [.t 14, .c (.n .i64 2)]),
 (none, .bi 16 .eql (.t 15) (.c (.n .i64 0))),
 (none, .fa 17 3 (.t 3)),
 (none, .st 1 (.t 17) (.t 16)),
 (none, .kp [0, 2, 3])])
 (.seq (.rg [(none, .mv 18 (.t 0)),
 (none, .ca (some 19) 69 [.t 18, .c (.n .i64 2)]),
 (none, .bi 20 .eql (.t 19) (.c (.n .i64 0))),
 (none, .fa 21 4 (.t 3)),
 (none, .st 1 (.t 21) (.t 20)),
 (none, .kp [0, 2, 3])])
 (.seq (.rg [(none, .mv 22 (.t 0)),
 (none, .ca (some 23) 69 [.t 22, .c (.n .i64 4)]),
 (none, .bi 24 .eql (.t 23) (.c (.n .i64 0))),
 (none, .fa 25 5 (.t 3)),
 (none, .st 1 (.t 25) (.t 24)),
 (none, .kp [0, 2, 3])])
 (.seq (.seq (.rg [(none, .mv 26 (.t 0)),
 (none, .ca (some 27) 69 [.t 26, .c (.n .i64 20)]),
 (none, .kp [0, 2, 3, 27])])
 (.blk 0 (.seq (.rg [(none, .bi 29 .eql (.t 27) (.c (.n .i64 0))),
 (none, .mv 28 (.t 29)),
 (none, .kp [0, 2, 3, 27, 28])])
 (.ite (.t 28) (.rg [(none, .mv 30 (.t 0)),
 (none, .ca (some 31) 69 [.t 30, .c (.n .i64 3)]),
 (none, .bi 32 .add (.c (.n .i64 19)) (.t 31)),
 (none, .ca (some 33) 157 [.c (.s [121]), .t 32]),
 (none, .fa 34 6 (.t 3)),
 (none, .st 1 (.t 34) (.t 33)),
 (none, .kp [2, 3])])
 (.seq (.rg [(none, .bi 36 .eql (.t 27) (.c (.n .i64 1))),
 (none, .mv 35 (.t 36)),
 (none, .kp [0, 2, 3, 27, 35])])
 (.ite (.t 35) (.rg [(none, .fa 37 6 (.t 3)),
 (none, .st 1 (.t 37) (.c (.s []))),
 (none, .kp [2, 3])])
 (.seq (.rg [(none, .bi 39 .eql (.t 27) (.c (.n .i64 2))),
 (none, .mv 38 (.t 39)),
 (none, .kp [0, 2, 3, 27, 38])])
 (.ite (.t 38) (.rg [(none, .mv 40 (.t 0)),
 (none, .ca (some 41) 154 [.t 40]),
 (none, .fa 42 0 (.t 3)),
 (none, .st 1 (.t 42) (.t 41)),
 (none, .kp [2, 3])])
 (.seq (.rg [(none, .bi 44 .eql (.t 27) (.c (.n .i64 3))),
 (none, .mv 43 (.t 44)),
 (none, .kp [0, 2, 3, 27, 43])])
 (.ite (.t 43) (.rg [(none, .mv 45 (.t 0)),
 (none, .ca (some 46) 154 [.t 45]),
 (none, .fa 47 1 (.t 3)),
 (none, .st 1 (.t 47) (.t 46)),
 (none, .kp [2, 3])])
 (.seq (.rg [(none, .bi 49 .eql (.t 27) (.c (.n .i64 4))),
 (none, .mv 48 (.t 49)),
 (none, .kp [0, 2, 3, 48])])
 (.ite (.t 48) (.rg [(none, .mv 50 (.t 0)),
 (none, .ca (some 51) 154 [.t 50]),
 (none, .fa 52 2 (.t 3)),
 (none, .st 1 (.t 52) (.t 51)),
 (none, .kp [2, 3])])
 (.sk)))))))))))))
 (.seq (.rg [(none, .ld 53 (some 7) (.t 3)),
 (none, .st 7 (.t 2) (.t 53)),
 (none, .kp [2])])
 (.rt)))))))
theorem mr72 : MrT Try.prog 72 pc72 [.c 2 (some 7)] 54 := fun hn h => spec_of_run (fn := Try.f72) (by kernel_rfl) rfl (by kernel_rfl) (by kernel_rfl) hn h
theorem mk72 : MkT Try.prog 72 pc72 [.c 2 (some 7)] 54 := mr72.k
theorem mw72 : MwT Try.prog 72 pc72 [.c 2 (some 7)] 54 := mr72.w
-- 73 spec.l3Ok
def pc73 : PC := .seq (.rg [(none, .mv 2 (.c (.b false))),
 (none, .kp [0])])
 (.seq (.rg [(none, .mv 3 (.t 0)),
 (none, .ca (some 4) 125 [.t 3, .c (.n .i64 0), .c (.n .i64 65535)]),
 (none, .mv 2 (.t 4)),
 (none, .kp [2])])
 (.rt))
theorem mr73 : MrT Try.prog 73 pc73 [.t 2] 5 := fun hn h => spec_of_run (fn := Try.f73) (by kernel_rfl) rfl (by kernel_rfl) (by kernel_rfl) hn h
theorem mk73 : MkT Try.prog 73 pc73 [.t 2] 5 := mr73.k
theorem mw73 : MwT Try.prog 73 pc73 [.t 2] 5 := mr73.w
-- 74 impl.AsmValid
def pc74l0 : PC := .seq (.rg [(none, .bi 27 .lss (.t 26) (.t 25)),
 (none, .kp [1, 24, 25, 26, 27])])
 (.seq (.ite (.t 27) (.sk)
 (.ex 0))
 (.seq (.blk 1 (.seq (.rg [(none, .ia 28 1 (.t 24) (.t 26)),
 (none, .ld 29 none (.t 28)),
 (none, .mv 4 (.t 29)),
 (none, .kp [1, 4, 24, 25, 26])])
 (.seq (.rg [(none, .mv 30 (.t 4)),
 (none, .ca (some 31) 158 [.t 30]),
 (none, .un 32 .not (.t 31)),
 (none, .kp [1, 24, 25, 26, 32])])
 (.ite (.t 32) (.seq (.rg [(none, .mv 2 (.c (.b false))),
 (none, .kp [2])])
 (.rt))
 (.sk)))))
 (.rg [(none, .bi 33 .add (.t 26) (.c (.n .i64 1))),
 (none, .mv 26 (.t 33)),
 (none, .kp [1, 24, 25, 26])])))
def pc74l1 : PC := .seq (.rg [(none, .bi 38 .lss (.t 37) (.t 36)),
 (none, .kp [1, 35, 36, 37, 38])])
 (.seq (.ite (.t 38) (.sk)
 (.ex 2))
 (.seq (.blk 3 (.seq (.rg [(none, .mv 39 (.t 37)),
 (none, .ia 40 7 (.t 35) (.t 37)),
 (none, .ld 41 (some 7) (.t 40)),
 (none, .al 6 [.n .i64 0, .n .i64 0, .n .i64 0, .b false, .b false, .b false, .s []]),
 (none, .mv 5 (.t 39)),
 (none, .st 7 (.t 6) (.t 41)),
 (none, .kp [1, 5, 6, 35, 36, 37])])
 (.seq (.dr [[], [0], [0, 1], [0, 1, 2], [0, 1, 2, 3], [0, 1, 2, 3, 4], [0, 1, 2, 3], [0, 1, 2, 3, 6], [0, 1, 2, 3, 6, 7], [0, 1, 2, 3, 4, 5, 6, 7, 8], [0, 1, 2, 3, 4, 5, 6, 7, 8, 9], [0, 1, 2, 3, 4, 5, 6, 7, 8, 9, 10], [0, 1, 2, 3, 4, 5, 6, 7, 8, 9, 10, 11], [0, 1, 2, 3, 4, 5, 6, 7, 8, 9, 10, 11, 12], [0, 1, 2, 3, 4, 5, 6, 7, 8, 9, 10, 11], [0, 1, 2, 3, 4, 5, 6, 7, 8, 9, 10, 11, 12, 13, 14], [0, 1, 2, 3, 4, 5, 6, 7, 8, 9, 10, 11], [0, 1, 2, 3, 4, 5, 6, 7, 8, 9, 10, 11, 16], [0, 1, 2, 3, 4, 5, 6, 7, 8, 9, 10, 11, 12, 13, 14, 15, 16, 17], [0, 1, 2, 3, 4, 5, 6, 7, 8, 9, 10, 11, 12, 13, 14, 15, 16, 17, 18], [0, 1, 2, 3, 4, 5, 6, 7, 8, 9, 10, 11, 12, 13, 14, 15, 16, 17, 18, 19]]
 (.q 0 (none, .ld 42 (some 7) (.t 6))
 (.alt 1 (none, .ca (some 43) 75 [.t 42]) [false]
 (.q 2 (none, .un 44 .not (.t 43))
 (.q 3 (none, .mv 45 (.t 44))
 (.q 4 (some (45, false), .fa 46 1 (.t 6))
 (.q 5 (some (45, false), .ld 47 none (.t 46))
 (.q 6 (some (45, false), .fa 48 0 (.t 1))
 (.q 7 (some (45, false), .ld 49 none (.t 48))
 (.q 8 (some (45, false), .ln 50 (.t 49))
 (.q 9 (some (45, false), .bi 51 .geq (.t 47) (.t 50))
 (.q 10 (none, .pk 52 (.t 45) (.c (.b true)) (.t 51))
 (.q 11 (none, .mv 53 (.t 52))
 (.q 12 (some (53, false), .fa 54 1 (.t 1))
 (.q 13 (some (53, false), .ld 55 none (.t 54))
 (.q 14 (some (53, false), .mv 56 (.t 5))
 (.q 15 (some (53, false), .sc 57 7 (.t 55) none (some (.t 56)))
 (.q 16 (some (53, false), .fa 58 0 (.t 6))
 (.q 17 (some (53, false), .ld 59 none (.t 58))
 (.alt 18 (some (53, false), .ca (some 60) 76 [.t 57, .t 59]) [false, false, false, false, false, false, false, false, false, false, false, false, false, false, false, false, false]
 (.q 19 (some (53, false), .bi 61 .geq (.t 60) (.c (.n .i64 0)))
 (.q 20 (none, .pk 62 (.t 53) (.c (.b true)) (.t 61))
 (.done)))
 (.stop))))))))))))))))))
 (.stop))) [1, 35, 36, 37, 62])
 (.ite (.t 62) (.seq (.rg [(none, .mv 2 (.c (.b false))),
 (none, .kp [2])])
 (.rt))
 (.sk)))))
 (.rg [(none, .bi 63 .add (.t 37) (.c (.n .i64 1))),
 (none, .mv 37 (.t 63)),
 (none, .kp [1, 35, 36, 37])])))
def pc74 : PC := .seq (.rg [(none, .bx 1 (.t 0)),
 (none, .mv 2 (.c (.b false))),
 (none, .kp [1])])
 (.seq (.seq (.rg [(none, .fa 7 0 (.t 1)),
 (none, .ld 8 none (.t 7)),
 (none, .ln 9 (.t 8)),
 (none, .bi 10 .lss (.t 9) (.c (.n .i64 1))),
 (none, .mv 11 (.t 10)),
 (some (11, false), .fa 12 0 (.t 1)),
 (some (11, false), .ld 13 none (.t 12)),
 (some (11, false), .ln 14 (.t 13)),
 (some (11, false), .bi 15 .gtr (.t 14) (.c (.n .i64 4))),
 (none, .pk 16 (.t 11) (.c (.b true)) (.t 15)),
 (none, .mv 17 (.t 16)),
 (some (17, false), .fa 18 1 (.t 1)),
 (some (17, false), .ld 19 none (.t 18)),
 (some (17, false), .ln 20 (.t 19)),
 (some (17, false), .bi 21 .gtr (.t 20) (.c (.n .i64 12))),
 (none, .pk 22 (.t 17) (.c (.b true)) (.t 21)),
 (none, .kp [1, 22])])
 (.ite (.t 22) (.seq (.rg [(none, .mv 2 (.c (.b false))),
 (none, .kp [2])])
 (.rt))
 (.sk)))
 (.seq (.seq (.rg [(none, .fa 23 0 (.t 1)),
 (none, .ld 24 none (.t 23)),
 (none, .ln 25 (.t 24)),
 (none, .mv 26 (.c (.n .i64 0))),
 (none, .kp [1, 24, 25, 26])])
 (.blk 0 (.lp pc74l0)))
 (.seq (.seq (.rg [(none, .fa 34 1 (.t 1)),
 (none, .ld 35 none (.t 34)),
 (none, .ln 36 (.t 35)),
 (none, .mv 37 (.c (.n .i64 0))),
 (none, .kp [1, 35, 36, 37])])
 (.blk 2 (.lp pc74l1)))
 (.seq (.rg [(none, .mv 2 (.c (.b true))),
 (none, .kp [2])])
 (.rt)))))
theorem mr74 : MrT Try.prog 74 pc74 [.t 2] 64 := fun hn h => spec_of_run (fn := Try.f74) (by kernel_rfl) rfl (by kernel_rfl) (by kernel_rfl) hn h
theorem mk74 : MkT Try.prog 74 pc74 [.t 2] 64 := mr74.k
theorem mw74 : MwT Try.prog 74 pc74 [.t 2] 64 := mr74.w
-- 75 impl.dataOk
def pc75 : PC := .seq (.rg [(none, .bx 1 (.t 0)),
 (none, .mv 2 (.c (.b false))),
 (none, .kp [1])])
 (.seq (.rg [(none, .fa 3 0 (.t 1)),
 (none, .ld 4 none (.t 3)),
 (none, .ca (some 5) 158 [.t 4]),
 (none, .mv 6 (.t 5)),
 (some (6, true), .fa 7 1 (.t 1)),
 (some (6, true), .ld 8 none (.t 7)),
 (some (6, true), .ca (some 9) 158 [.t 8]),
 (none, .pk 10 (.t 6) (.t 9) (.c (.b false))),
 (none, .mv 11 (.t 10)),
 (some (11, true), .fa 12 2 (.t 1)),
 (some (11, true), .ld 13 none (.t 12)),
 (some (11, true), .ca (some 14) 158 [.t 13]),
 (none, .pk 15 (.t 11) (.t 14) (.c (.b false))),
 (none, .mv 16 (.t 15)),
 (some (16, true), .fa 17 6 (.t 1)),
 (some (16, true), .ld 18 none (.t 17)),
 (some (16, true), .lS 19 (.t 18)),
 (some (16, true), .bi 20 .geq (.t 19) (.c (.n .i64 1))),
 (none, .pk 21 (.t 16) (.t 20) (.c (.b false))),
 (none, .mv 22 (.t 21)),
 (some (22, true), .fa 23 6 (.t 1)),
 (some (22, true), .ld 24 none (.t 23)),
 (some (22, true), .lS 25 (.t 24)),
 (some (22, true), .bi 26 .leq (.t 25) (.c (.n .i64 20))),
 (none, .pk 27 (.t 22) (.t 26) (.c (.b false))),
 (none, .mv 2 (.t 27)),
 (none, .kp [2])])
 (.rt))
theorem mr75 : MrT Try.prog 75 pc75 [.t 2] 28 := fun hn h => spec_of_run (fn := Try.f75) (by kernel_rfl) rfl (by kernel_rfl) (by kernel_rfl) hn h
theorem mk75 : MkT Try.prog 75 pc75 [.t 2] 28 := mr75.k
theorem mw75 : MwT Try.prog 75 pc75 [.t 2] 28 := mr75.w
-- 76 impl.partAt
def pc76l0 : PC := .seq (.rg [(none, .bi 10 .lss (.t 9) (.t 8)),
 (none, .kp [1, 7, 8, 9, 10])])
 (.seq (.ite (.t 10) (.sk)
 (.ex 0))
 (.seq (.blk 1 (.seq (.rg [(none, .mv 11 (.t 9)),
 (none, .ia 12 7 (.t 7) (.t 9)),
 (none, .ld 13 (some 7) (.t 12)),
 (none, .al 6 [.n .i64 0, .n .i64 0, .n .i64 0, .b false, .b false, .b false, .s []]),
 (none, .mv 5 (.t 11)),
 (none, .st 7 (.t 6) (.t 13)),
 (none, .kp [1, 5, 6, 7, 8, 9])])
 (.seq (.rg [(none, .fa 14 0 (.t 6)),
 (none, .ld 15 none (.t 14)),
 (none, .mv 16 (.t 1)),
 (none, .bi 17 .eql (.t 15) (.t 16)),
 (none, .kp [1, 5, 7, 8, 9, 17])])
 (.ite (.t 17) (.seq (.rg [(none, .mv 18 (.t 5)),
 (none, .mv 4 (.t 18)),
 (none, .kp [4])])
 (.rt))
 (.sk)))))
 (.rg [(none, .bi 19 .add (.t 9) (.c (.n .i64 1))),
 (none, .mv 9 (.t 19)),
 (none, .kp [1, 7, 8, 9])])))
def pc76 : PC := .seq (.rg [(none, .mv 4 (.c (.n .i64 0))),
 (none, .kp [0, 1])])
 (.seq (.seq (.rg [(none, .mv 7 (.t 0)),
 (none, .ln 8 (.t 7)),
 (none, .mv 9 (.c (.n .i64 0))),
 (none, .kp [1, 7, 8, 9])])
 (.blk 0 (.lp pc76l0)))
 (.seq (.rg [(none, .mv 4 (.c (.n .i64 (-1)))),
 (none, .kp [4])])
 (.rt)))
theorem mr76 : MrT Try.prog 76 pc76 [.t 4] 20 := fun hn h => spec_of_run (fn := Try.f76) (by kernel_rfl) rfl (by kernel_rfl) (by kernel_rfl) hn h
theorem mk76 : MkT Try.prog 76 pc76 [.t 4] 20 := mr76.k
theorem mw76 : MwT Try.prog 76 pc76 [.t 4] 20 := mr76.w
-- 77 impl.dueIn
def pc77l0 : PC := .seq (.rg [(none, .bi 10 .lss (.t 9) (.t 8)),
 (none, .kp [1, 7, 8, 9, 10])])
 (.seq (.ite (.t 10) (.sk)
 (.ex 0))
 (.seq (.blk 1 (.seq (.rg [(none, .mv 11 (.t 9)),
 (none, .ia 12 7 (.t 7) (.t 9)),
 (none, .ld 13 (some 7) (.t 12)),
 (none, .al 4 [.n .i64 0, .n .i64 0, .n .i64 0, .b false, .b false, .b false, .s []]),
 (none, .mv 3 (.t 11)),
 (none, .st 7 (.t 4) (.t 13)),
 (none, .kp [1, 3, 4, 7, 8, 9])])
 (.seq (.dr [[], [0], [0, 1], [0, 1, 2], [0, 1, 2, 3], [0, 1, 2, 3, 4], [0, 1, 2, 3, 4, 5], [0, 1, 2, 3, 4, 5, 6], [0, 1, 2, 3, 4, 5], [0, 1, 2, 3, 4, 5, 8], [0, 1, 2, 3, 4, 5], [0, 1, 2, 3, 4, 5, 10], [0, 1, 2, 3, 4, 5, 8, 9, 10, 11], [0, 1, 2, 3, 4, 5, 8, 9, 10, 11, 12], [0, 1, 2, 3, 4, 5, 6, 7, 8, 9, 10, 11, 12, 13], [0, 1, 2, 3, 4, 5, 6, 7, 8, 9, 10, 11, 12, 13, 14], [0, 1, 2, 3, 4, 5, 6, 7, 8, 9, 10, 11, 12, 13, 14, 15]]
 (.q 0 (none, .fa 14 3 (.t 4))
 (.q 1 (none, .ld 15 none (.t 14))
 (.q 2 (none, .mv 16 (.t 15))
 (.q 3 (some (16, true), .fa 17 5 (.t 4))
 (.q 4 (some (16, true), .ld 18 none (.t 17))
 (.q 5 (some (16, true), .mv 19 (.t 18))
 (.q 6 (some (19, false), .fa 20 2 (.t 4))
 (.q 7 (some (19, false), .ld 21 none (.t 20))
 (.q 8 (some (19, false), .fa 22 0 (.t 1))
 (.q 9 (some (19, false), .ld 23 none (.t 22))
 (.q 10 (some (19, false), .fa 24 1 (.t 4))
 (.q 11 (some (19, false), .ld 25 none (.t 24))
 (.q 12 (some (19, false), .ia 26 1 (.t 23) (.t 25))
 (.q 13 (some (19, false), .ld 27 none (.t 26))
 (.q 14 (some (19, false), .bi 28 .eql (.t 21) (.t 27))
 (.q 15 (some (16, true), .pk 29 (.t 19) (.c (.b true)) (.t 28))
 (.q 16 (none, .pk 30 (.t 16) (.t 29) (.c (.b false)))
 (.done)))))))))))))))))) [1, 3, 7, 8, 9, 30])
 (.ite (.t 30) (.seq (.rg [(none, .fa 31 1 (.t 1)),
 (none, .ld 32 none (.t 31)),
 (none, .mv 33 (.t 3)),
 (none, .ca (some 34) 159 [.t 32, .t 33]),
 (none, .mv 5 (.t 34)),
 (none, .kp [1, 5, 7, 8, 9])])
 (.seq (.rg [(none, .mv 35 (.t 5)),
 (none, .eqn 36 true (.t 35)),
 (none, .kp [1, 5, 7, 8, 9, 36])])
 (.ite (.t 36) (.seq (.rg [(none, .mv 37 (.t 5)),
 (none, .mv 2 (.t 37)),
 (none, .kp [2])])
 (.rt))
 (.sk))))
 (.sk)))))
 (.rg [(none, .bi 38 .add (.t 9) (.c (.n .i64 1))),
 (none, .mv 9 (.t 38)),
 (none, .kp [1, 7, 8, 9])])))
def pc77 : PC := .seq (.rg [(none, .bx 1 (.t 0)),
 (none, .mv 2 (.c .nil)),
 (none, .kp [1])])
 (.seq (.seq (.rg [(none, .fa 6 1 (.t 1)),
 (none, .ld 7 none (.t 6)),
 (none, .ln 8 (.t 7)),
 (none, .mv 9 (.c (.n .i64 0))),
 (none, .kp [1, 7, 8, 9])])
 (.blk 0 (.lp pc77l0)))
 (.seq (.rg [(none, .mv 2 (.c .nil)),
 (none, .kp [2])])
 (.rt)))
theorem mr77 : MrT Try.prog 77 pc77 [.t 2] 39 := fun hn h => spec_of_run (fn := Try.f77) (by kernel_rfl) rfl (by kernel_rfl) (by kernel_rfl) hn h
theorem mk77 : MkT Try.prog 77 pc77 [.t 2] 39 := mr77.k
theorem mw77 : MwT Try.prog 77 pc77 [.t 2] 39 := mr77.w
-- 78 impl.SerialAdd
def pc78 : PC := .seq (.rg [(none, .mv 4 (.c (.n .i64 0))),
 (none, .kp [0, 1])])
 (.seq (.seq (.rg [(none, .mv 5 (.t 0)),
 (none, .ca (some 6) 158 [.t 5]),
 (none, .un 7 .not (.t 6)),
 (none, .kp [0, 1, 7])])
 (.ite (.t 7) (.seq (.rg [(none, .mv 4 (.c (.n .i64 (-1)))),
 (none, .kp [4])])
 (.rt))
 (.sk)))
 (.seq (.rg [(none, .mv 8 (.t 0)),
 (none, .mv 9 (.t 1)),
 (none, .bi 10 .rem (.t 9) (.c (.n .i64 65536))),
 (none, .bi 11 .add (.t 8) (.t 10)),
 (none, .bi 12 .rem (.t 11) (.c (.n .i64 65536))),
 (none, .bi 13 .add (.t 12) (.c (.n .i64 65536))),
 (none, .bi 14 .rem (.t 13) (.c (.n .i64 65536))),
 (none, .mv 4 (.t 14)),
 (none, .kp [4])])
 (.rt)))
theorem mr78 : MrT Try.prog 78 pc78 [.t 4] 15 := fun hn h => spec_of_run (fn := Try.f78) (by kernel_rfl) rfl (by kernel_rfl) (by kernel_rfl) hn h
theorem mk78 : MkT Try.prog 78 pc78 [.t 4] 15 := mr78.k
theorem mw78 : MwT Try.prog 78 pc78 [.t 4] 15 := mr78.w
-- 79 spec.AsmValid
def pc79l0 : PC := .seq (.seq (.rg [(none, .mv 5 (.t 3)),
 (none, .fa 6 0 (.t 1)),
 (none, .ld 7 none (.t 6)),
 (none, .ln 8 (.t 7)),
 (none, .bi 9 .lss (.t 5) (.t 8)),
 (none, .kp [1, 3, 9])])
 (.ite (.t 9) (.sk)
 (.ex 0)))
 (.seq (.blk 1 (.seq (.rg [(none, .fa 12 0 (.t 1)),
 (none, .ld 13 none (.t 12)),
 (none, .mv 14 (.t 3)),
 (none, .ia 15 1 (.t 13) (.t 14)),
 (none, .ld 16 none (.t 15)),
 (none, .ca (some 17) 73 [.t 16]),
 (none, .un 18 .not (.t 17)),
 (none, .kp [1, 3, 18])])
 (.ite (.t 18) (.seq (.rg [(none, .mv 2 (.c (.b false))),
 (none, .kp [2])])
 (.rt))
 (.sk))))
 (.rg [(none, .mv 10 (.t 3)),
 (none, .bi 11 .add (.t 10) (.c (.n .i64 1))),
 (none, .mv 3 (.t 11)),
 (none, .kp [1, 3])]))
def pc79l1 : PC := .seq (.seq (.rg [(none, .mv 19 (.t 4)),
 (none, .fa 20 1 (.t 1)),
 (none, .ld 21 none (.t 20)),
 (none, .ln 22 (.t 21)),
 (none, .bi 23 .lss (.t 19) (.t 22)),
 (none, .kp [1, 4, 23])])
 (.ite (.t 23) (.sk)
 (.ex 2)))
 (.seq (.blk 3 (.seq (.dr [[], [0], [], [0, 1, 2], [0, 1, 2, 3], [0, 1, 2, 3, 4], [0, 1, 2, 3, 4, 5], [0, 1, 2, 3, 4, 5, 6], [0, 1, 2, 3, 4, 5, 6, 7], [0, 1, 2, 3, 4, 5, 6, 7, 8], [0, 1, 2, 3, 4, 5, 6, 7], [0, 1, 2, 3, 4, 5, 6, 7, 8, 9, 10], [0, 1, 2, 3, 4, 5, 6, 7, 8, 9, 10, 11], [0, 1, 2, 3, 4, 5, 6, 7, 8, 9, 10, 11, 12], [0, 1, 2, 3, 4, 5, 6, 7], [0, 1, 2, 3, 4, 5, 6, 7, 14], [0, 1, 2, 3, 4, 5, 6, 7, 14, 15], [0, 1, 2, 3, 4, 5, 6, 7, 8, 9, 10, 11, 12, 13, 14, 15, 16], [0, 1, 2, 3, 4, 5, 6, 7, 8, 9, 10, 11, 12, 13, 14, 15, 16, 17], [0, 1, 2, 3, 4, 5, 6, 7, 8, 9, 10, 11, 12, 13, 14, 15, 16, 17, 18], [0, 1, 2, 3, 4, 5, 6, 7, 8, 9, 10, 11, 12, 13, 14, 15, 16, 17, 18, 19], [0, 1, 2, 3, 4, 5, 6, 7, 8, 9, 10, 11, 12, 13, 14, 15, 16, 17, 18, 19, 20], [0, 1, 2, 3, 4, 5, 6, 7, 8, 9, 10, 11, 12, 13, 14, 15, 16, 17, 18, 19], [0, 1, 2, 3, 4, 5, 6, 7, 8, 9, 10, 11, 12, 13, 14, 15, 16, 17, 18, 19, 22], [0, 1, 2, 3, 4, 5, 6, 7, 8, 9, 10, 11, 12, 13, 14, 15, 16, 17, 18, 19], [0, 1, 2, 3, 4, 5, 6, 7, 8, 9, 10, 11, 12, 13, 14, 15, 16, 17, 18, 19, 22, 23, 24], [0, 1, 2, 3, 4, 5, 6, 7, 8, 9, 10, 11, 12, 13, 14, 15, 16, 17, 18, 19, 22, 23, 24, 25], [0, 1, 2, 3, 4, 5, 6, 7, 8, 9, 10, 11, 12, 13, 14, 15, 16, 17, 18, 19, 22, 23, 24, 25, 26], [0, 1, 2, 3, 4, 5, 6, 7, 8, 9, 10, 11, 12, 13, 14, 15, 16, 17, 18, 19, 20, 21, 22, 23, 24, 25, 26, 27], [0, 1, 2, 3, 4, 5, 6, 7, 8, 9, 10, 11, 12, 13, 14, 15, 16, 17, 18, 19], [0, 1, 2, 3, 4, 5, 6, 7, 8, 9, 10, 11, 12, 13, 14, 15, 16, 17, 18, 19, 20, 21, 22, 23, 24, 25, 26, 27, 28, 29], [0, 1, 2, 3, 4, 5, 6, 7, 8, 9, 10, 11, 12, 13, 14, 15, 16, 17, 18, 19, 20, 21, 22, 23, 24, 25, 26, 27, 28, 29, 30]]
 (.q 0 (none, .fa 26 1 (.t 1))
 (.q 1 (none, .ld 27 none (.t 26))
 (.q 2 (none, .mv 28 (.t 4))
 (.q 3 (none, .ia 29 7 (.t 27) (.t 28))
 (.q 4 (none, .ld 30 (some 7) (.t 29))
 (.alt 5 (none, .ca (some 31) 70 [.t 30]) [false, false, false, false, false]
 (.q 6 (none, .un 32 .not (.t 31))
 (.q 7 (none, .mv 33 (.t 32))
 (.q 8 (some (33, false), .fa 34 1 (.t 1))
 (.q 9 (some (33, false), .ld 35 none (.t 34))
 (.q 10 (some (33, false), .mv 36 (.t 4))
 (.q 11 (some (33, false), .ia 37 7 (.t 35) (.t 36))
 (.q 12 (some (33, false), .fa 38 1 (.t 37))
 (.q 13 (some (33, false), .ld 39 none (.t 38))
 (.q 14 (some (33, false), .fa 40 0 (.t 1))
 (.q 15 (some (33, false), .ld 41 none (.t 40))
 (.q 16 (some (33, false), .ln 42 (.t 41))
 (.q 17 (some (33, false), .bi 43 .geq (.t 39) (.t 42))
 (.q 18 (none, .pk 44 (.t 33) (.c (.b true)) (.t 43))
 (.q 19 (none, .mv 45 (.t 44))
 (.q 20 (some (45, false), .fa 46 1 (.t 1))
 (.q 21 (some (45, false), .ld 47 none (.t 46))
 (.q 22 (some (45, false), .fa 48 1 (.t 1))
 (.q 23 (some (45, false), .ld 49 none (.t 48))
 (.q 24 (some (45, false), .mv 50 (.t 4))
 (.q 25 (some (45, false), .ia 51 7 (.t 49) (.t 50))
 (.q 26 (some (45, false), .fa 52 0 (.t 51))
 (.q 27 (some (45, false), .ld 53 none (.t 52))
 (.q 29 (some (45, false), .mv 55 (.t 4))
 (.alt 28 (some (45, false), .ca (some 54) 80 [.t 47, .t 53]) [false, false, false, false, false, false, false, false, false, false, false, false, false, false, false, false, false, false, false, false, false, false, false, false, false, false, false, true]
 (.q 30 (some (45, false), .bi 56 .lss (.t 54) (.t 55))
 (.q 31 (none, .pk 57 (.t 45) (.c (.b true)) (.t 56))
 (.done)))
 (.stop)))))))))))))))))))))))))
 (.stop))))))) [1, 4, 57])
 (.ite (.t 57) (.seq (.rg [(none, .mv 2 (.c (.b false))),
 (none, .kp [2])])
 (.rt))
 (.sk))))
 (.rg [(none, .mv 24 (.t 4)),
 (none, .bi 25 .add (.t 24) (.c (.n .i64 1))),
 (none, .mv 4 (.t 25)),
 (none, .kp [1, 4])]))
def pc79 : PC := .seq (.rg [(none, .bx 1 (.t 0)),
 (none, .mv 2 (.c (.b false))),
 (none, .kp [1])])
 (.seq (.seq (.rg [(none, .mv 3 (.c (.n .i64 0))),
 (none, .kp [1, 3])])
 (.blk 0 (.lp pc79l0)))
 (.seq (.seq (.rg [(none, .mv 4 (.c (.n .i64 0))),
 (none, .kp [1, 4])])
 (.blk 2 (.lp pc79l1)))
 (.seq (.rg [(none, .fa 58 0 (.t 1)),
 (none, .ld 59 none (.t 58)),
 (none, .ln 60 (.t 59)),
 (none, .ca (some 61) 125 [.t 60, .c (.n .i64 1), .c (.n .i64 4)]),
 (none, .mv 62 (.t 61)),
 (some (62, true), .fa 63 1 (.t 1)),
 (some (62, true), .ld 64 none (.t 63)),
 (some (62, true), .ln 65 (.t 64)),
 (some (62, true), .bi 66 .leq (.t 65) (.c (.n .i64 12))),
 (none, .pk 67 (.t 62) (.t 66) (.c (.b false))),
 (none, .mv 2 (.t 67)),
 (none, .kp [2])])
 (.rt))))
theorem mr79 : MrT Try.prog 79 pc79 [.t 2] 68 := fun hn h => spec_of_run (fn := Try.f79) (by kernel_rfl) rfl (by kernel_rfl) (by kernel_rfl) hn h
theorem mk79 : MkT Try.prog 79 pc79 [.t 2] 68 := mr79.k
theorem mw79 : MwT Try.prog 79 pc79 [.t 2] 68 := mr79.w
-- 80 spec.l22At
def pc80l0 : PC := .seq (.seq (.rg [(none, .mv 6 (.t 5)),
 (none, .mv 7 (.t 0)),
 (none, .ln 8 (.t 7)),
 (none, .bi 9 .lss (.t 6) (.t 8)),
 (none, .kp [0, 1, 5, 9])])
 (.ite (.t 9) (.sk)
 (.ex 0)))
 (.seq (.blk 1 (.seq (.rg [(none, .mv 12 (.t 0)),
 (none, .mv 13 (.t 5)),
 (none, .ia 14 7 (.t 12) (.t 13)),
 (none, .fa 15 0 (.t 14)),
 (none, .ld 16 none (.t 15)),
 (none, .mv 17 (.t 1)),
 (none, .bi 18 .eql (.t 16) (.t 17)),
 (none, .kp [0, 1, 5, 18])])
 (.ite (.t 18) (.seq (.rg [(none, .mv 19 (.t 5)),
 (none, .mv 4 (.t 19)),
 (none, .kp [4])])
 (.rt))
 (.sk))))
 (.rg [(none, .mv 10 (.t 5)),
 (none, .bi 11 .add (.t 10) (.c (.n .i64 1))),
 (none, .mv 5 (.t 11)),
 (none, .kp [0, 1, 5])]))
def pc80 : PC := .seq (.rg [(none, .mv 4 (.c (.n .i64 0))),
 (none, .kp [0, 1])])
 (.seq (.seq (.rg [(none, .mv 5 (.c (.n .i64 0))),
 (none, .kp [0, 1, 5])])
 (.blk 0 (.lp pc80l0)))
 (.seq (.rg [(none, .mv 4 (.c (.n .i64 (-1)))),
 (none, .kp [4])])
 (.rt)))
theorem mr80 : MrT Try.prog 80 pc80 [.t 4] 20 := fun hn h => spec_of_run (fn := Try.f80) (by kernel_rfl) rfl (by kernel_rfl) (by kernel_rfl) hn h
theorem mk80 : MkT Try.prog 80 pc80 [.t 4] 20 := mr80.k
theorem mw80 : MwT Try.prog 80 pc80 [.t 4] 20 := mr80.w
-- 81 spec.l22Find
def pc81l0 : PC := .seq (.seq (.rg [(none, .mv 6 (.t 3)),
 (none, .fa 7 1 (.t 1)),
 (none, .ld 8 none (.t 7)),
 (none, .ln 9 (.t 8)),
 (none, .bi 10 .lss (.t 6) (.t 9)),
 (none, .kp [1, 3, 10])])
 (.ite (.t 10) (.sk)
 (.ex 0)))
 (.seq (.blk 1 (.seq (.rg [(none, .fa 13 1 (.t 1)),
 (none, .ld 14 none (.t 13)),
 (none, .mv 15 (.t 3)),
 (none, .ia 16 7 (.t 14) (.t 15)),
 (none, .ld 17 (some 7) (.t 16)),
 (none, .al 4 [.n .i64 0, .n .i64 0, .n .i64 0, .b false, .b false, .b false, .s []]),
 (none, .st 7 (.t 4) (.t 17)),
 (none, .kp [1, 3, 4])])
 (.seq (.dr [[], [0], [0, 1], [0, 1, 2], [0, 1, 2, 3], [0, 1, 2, 3, 4], [0, 1, 2, 3, 4, 5], [0, 1, 2, 3, 4, 5, 6], [0, 1, 2, 3, 4, 5], [0, 1, 2, 3, 4, 5, 8], [0, 1, 2, 3, 4, 5], [0, 1, 2, 3, 4, 5, 10], [0, 1, 2, 3, 4, 5, 8, 9, 10, 11], [0, 1, 2, 3, 4, 5, 8, 9, 10, 11, 12], [0, 1, 2, 3, 4, 5, 6, 7, 8, 9, 10, 11, 12, 13], [0, 1, 2, 3, 4, 5, 6, 7, 8, 9, 10, 11, 12, 13, 14], [0, 1, 2, 3, 4, 5, 6, 7, 8, 9, 10, 11, 12, 13, 14, 15]]
 (.q 0 (none, .fa 18 3 (.t 4))
 (.q 1 (none, .ld 19 none (.t 18))
 (.q 2 (none, .mv 20 (.t 19))
 (.q 3 (some (20, true), .fa 21 5 (.t 4))
 (.q 4 (some (20, true), .ld 22 none (.t 21))
 (.q 5 (some (20, true), .mv 23 (.t 22))
 (.q 6 (some (23, false), .fa 24 2 (.t 4))
 (.q 7 (some (23, false), .ld 25 none (.t 24))
 (.q 8 (some (23, false), .fa 26 0 (.t 1))
 (.q 9 (some (23, false), .ld 27 none (.t 26))
 (.q 10 (some (23, false), .fa 28 1 (.t 4))
 (.q 11 (some (23, false), .ld 29 none (.t 28))
 (.q 12 (some (23, false), .ia 30 1 (.t 27) (.t 29))
 (.q 13 (some (23, false), .ld 31 none (.t 30))
 (.q 14 (some (23, false), .bi 32 .eql (.t 25) (.t 31))
 (.q 15 (some (20, true), .pk 33 (.t 23) (.c (.b true)) (.t 32))
 (.q 16 (none, .pk 34 (.t 20) (.t 33) (.c (.b false)))
 (.done)))))))))))))))))) [1, 3, 34])
 (.ite (.t 34) (.seq (.rg [(none, .fa 35 1 (.t 1)),
 (none, .ld 36 none (.t 35)),
 (none, .mv 37 (.t 3)),
 (none, .ca (some 38) 160 [.t 36, .t 37]),
 (none, .mv 5 (.t 38)),
 (none, .kp [1, 3, 5])])
 (.seq (.rg [(none, .mv 39 (.t 5)),
 (none, .ln 40 (.t 39)),
 (none, .bi 41 .gtr (.t 40) (.c (.n .i64 0))),
 (none, .kp [1, 3, 5, 41])])
 (.ite (.t 41) (.seq (.rg [(none, .mv 42 (.t 5)),
 (none, .mv 2 (.t 42)),
 (none, .kp [2])])
 (.rt))
 (.sk))))
 (.sk)))))
 (.rg [(none, .mv 11 (.t 3)),
 (none, .bi 12 .add (.t 11) (.c (.n .i64 1))),
 (none, .mv 3 (.t 12)),
 (none, .kp [1, 3])]))
def pc81 : PC := .seq (.rg [(none, .bx 1 (.t 0)),
 (none, .mv 2 (.c .nil)),
 (none, .kp [1])])
 (.seq (.seq (.rg [(none, .mv 3 (.c (.n .i64 0))),
 (none, .kp [1, 3])])
 (.blk 0 (.lp pc81l0)))
 (.seq (.rg [(none, .bs 43 1 0 [.n .i64 0] []),
 (none, .mv 2 (.t 43)),
 (none, .kp [2])])
 (.rt)))
theorem mr81 : MrT Try.prog 81 pc81 [.t 2] 44 := fun hn h => spec_of_run (fn := Try.f81) (by kernel_rfl) rfl (by kernel_rfl) (by kernel_rfl) hn h
theorem mk81 : MkT Try.prog 81 pc81 [.t 2] 44 := mr81.k
theorem mw81 : MwT Try.prog 81 pc81 [.t 2] 44 := mr81.w
-- 82 spec.l22Take
def pc82l0 : PC := .seq (.seq (.rg [(none, .mv 25 (.t 8)),
 (none, .mv 26 (.t 1)),
 (none, .ln 27 (.t 26)),
 (none, .bi 28 .lss (.t 25) (.t 27)),
 (none, .kp [1, 2, 4, 5, 6, 7, 8, 28])])
 (.ite (.t 28) (.sk)
 (.ex 0)))
 (.seq (.blk 1 (.dr [[], [0], [], [2], [], [], [4, 5], [4, 5, 6], [2, 3, 4, 5, 6, 7], [2, 3, 4, 5, 6, 7, 8], [2, 3, 4, 5, 6, 7, 8, 9], [0, 1, 2, 3, 4, 5, 6, 7, 8, 9, 10], [0, 1, 2, 3, 4, 5, 6, 7, 8, 9, 10, 11], [0, 1, 2, 3, 4, 5, 6, 7, 8, 9, 10, 11, 12]]
 (.q 0 (none, .fa 31 3 (.t 7))
 (.q 1 (none, .ld 32 none (.t 31))
 (.q 2 (none, .fa 33 1 (.t 2))
 (.q 3 (none, .ld 34 none (.t 33))
 (.q 4 (none, .mv 35 (.t 1))
 (.q 5 (none, .mv 36 (.t 8))
 (.q 6 (none, .ia 37 1 (.t 35) (.t 36))
 (.q 7 (none, .ld 38 none (.t 37))
 (.q 8 (none, .ia 39 7 (.t 34) (.t 38))
 (.q 9 (none, .fa 40 6 (.t 39))
 (.q 10 (none, .ld 41 none (.t 40))
 (.q 11 (none, .bi 42 .add (.t 32) (.t 41))
 (.q 12 (none, .fa 43 3 (.t 7))
 (.alt 13 (none, .st 1 (.t 43) (.t 42)) [false, false, false, false, false, false, false, false, false, false, false, false, false]
 (.done)
 (.stop))))))))))))))) [1, 2, 4, 5, 6, 7, 8]))
 (.rg [(none, .mv 29 (.t 8)),
 (none, .bi 30 .add (.t 29) (.c (.n .i64 1))),
 (none, .mv 8 (.t 30)),
 (none, .kp [1, 2, 4, 5, 6, 7, 8])]))
def pc82l1 : PC := .seq (.seq (.rg [(none, .mv 50 (.t 10)),
 (none, .fa 51 1 (.t 2)),
 (none, .ld 52 none (.t 51)),
 (none, .ln 53 (.t 52)),
 (none, .bi 54 .lss (.t 50) (.t 53)),
 (none, .kp [1, 2, 4, 5, 6, 7, 9, 10, 54])])
 (.ite (.t 54) (.sk)
 (.ex 2)))
 (.seq (.blk 3 (.seq (.rg [(none, .mv 57 (.t 1)),
 (none, .mv 58 (.t 10)),
 (none, .ca (some 59) 161 [.t 57, .t 58]),
 (none, .un 60 .not (.t 59)),
 (none, .kp [1, 2, 4, 5, 6, 7, 9, 10, 60])])
 (.ite (.t 60) (.dr [[], [0], [], [2], [], [2, 3, 4], [2, 3, 4, 5], [2, 3, 4, 5, 6], [0, 1, 2, 3, 4, 5, 6, 7], [0, 1, 2, 3, 4, 5, 6, 7, 8], [0, 1, 2, 3, 4, 5, 6, 7, 8, 9]]
 (.q 0 (none, .fa 61 1 (.t 9))
 (.q 1 (none, .ld 62 none (.t 61))
 (.q 2 (none, .fa 63 1 (.t 2))
 (.q 3 (none, .ld 64 none (.t 63))
 (.q 4 (none, .mv 65 (.t 10))
 (.q 5 (none, .ia 66 7 (.t 64) (.t 65))
 (.q 6 (none, .ld 67 (some 7) (.t 66))
 (.alt 7 (none, .bs 68 7 1 [.n .i64 0, .n .i64 0, .n .i64 0, .b false, .b false, .b false, .s []] [(0, .t 67)]) [true, true, false, false, false, false, false]
 (.alt 8 (none, .ap 69 7 48 (.t 62) (.t 68)) [false, false, false, false, false, false, false]
 (.q 9 (none, .fa 70 1 (.t 9))
 (.alt 10 (none, .st 1 (.t 70) (.t 69)) [false, false, false, false, false, false, false, false]
 (.done)
 (.stop)))
 (.stop))
 (.stop))))))))) [1, 2, 4, 5, 6, 7, 9, 10])
 (.sk))))
 (.rg [(none, .mv 55 (.t 10)),
 (none, .bi 56 .add (.t 55) (.c (.n .i64 1))),
 (none, .mv 10 (.t 56)),
 (none, .kp [1, 2, 4, 5, 6, 7, 9, 10])]))
def pc82 : PC := .seq (.rg [(none, .bx 2 (.t 0)),
 (none, .al 4 [.nil, .nil]),
 (none, .al 5 [.n .i64 0, .n .i64 0, .b false, .s []]),
 (none, .kp [1, 2, 4, 5])])
 (.seq (.dr [[], [0], [], [2], [2, 3], [0, 1, 2, 3, 4], [0, 1, 2, 3, 4, 5], [], [0, 1, 2, 3, 4, 5, 6, 7]]
 (.q 0 (none, .fa 11 1 (.t 2))
 (.q 1 (none, .ld 12 none (.t 11))
 (.q 2 (none, .mv 13 (.t 1))
 (.q 3 (none, .ia 14 1 (.t 13) (.c (.n .i64 0)))
 (.q 4 (none, .ld 15 none (.t 14))
 (.q 5 (none, .ia 16 7 (.t 12) (.t 15))
 (.q 6 (none, .ld 17 (some 7) (.t 16))
 (.alt 7 (none, .al 6 [.n .i64 0, .n .i64 0, .n .i64 0, .b false, .b false, .b false, .s []]) [true, true, true, true, true, true, true]
 (.alt 8 (none, .st 7 (.t 6) (.t 17)) [false, false, false, false, false, false, false]
 (.done)
 (.stop))
 (.stop))))))))) [1, 2, 4, 5, 6])
 (.seq (.rg [(none, .fa 18 1 (.t 6)),
 (none, .ld 19 none (.t 18)),
 (none, .fa 20 2 (.t 6)),
 (none, .ld 21 none (.t 20)),
 (none, .fa 22 5 (.t 6)),
 (none, .ld 23 none (.t 22)),
 (none, .bd 24 [.n .i64 0, .n .i64 0, .b false, .s []] [(0, 1, .t 19), (1, 1, .t 21), (2, 1, .t 23)]),
 (none, .al 7 [.n .i64 0, .n .i64 0, .b false, .s []]),
 (none, .st 4 (.t 7) (.t 24)),
 (none, .kp [1, 2, 4, 5, 6, 7])])
 (.seq (.seq (.rg [(none, .mv 8 (.c (.n .i64 0))),
 (none, .kp [1, 2, 4, 5, 6, 7, 8])])
 (.blk 0 (.lp pc82l0)))
 (.seq (.rg [(none, .bs 44 1 0 [.n .i64 0] []),
 (none, .fa 45 0 (.t 2)),
 (none, .ld 46 none (.t 45)),
 (none, .ap 47 1 8 (.t 44) (.t 46)),
 (none, .bs 48 7 0 [.n .i64 0, .n .i64 0, .n .i64 0, .b false, .b false, .b false, .s []] []),
 (none, .bd 49 [.nil, .nil] [(0, 1, .t 47), (1, 1, .t 48)]),
 (none, .al 9 [.nil, .nil]),
 (none, .st 2 (.t 9) (.t 49)),
 (none, .kp [1, 2, 4, 5, 6, 7, 9])])
 (.seq (.seq (.rg [(none, .mv 10 (.c (.n .i64 0))),
 (none, .kp [1, 2, 4, 5, 6, 7, 9, 10])])
 (.blk 2 (.lp pc82l1)))
 (.seq (.seq (.rg [(none, .fa 71 5 (.t 6)),
 (none, .ld 72 none (.t 71)),
 (none, .un 73 .not (.t 72)),
 (none, .kp [4, 5, 6, 7, 9, 73])])
 (.ite (.t 73) (.dr [[], [0], [], [2], [], [4], [4, 5], [0, 1, 2, 3, 4, 5, 6], [0, 1, 2, 3, 4, 5, 6, 7]]
 (.q 0 (none, .fa 74 0 (.t 9))
 (.q 1 (none, .ld 75 none (.t 74))
 (.q 2 (none, .fa 76 1 (.t 6))
 (.q 3 (none, .ld 77 none (.t 76))
 (.q 4 (none, .fa 78 2 (.t 6))
 (.q 5 (none, .ld 79 none (.t 78))
 (.alt 6 (none, .ca (some 80) 71 [.t 79, .c (.n .i64 1)]) [true, true, true, true, false, false]
 (.q 7 (none, .ia 81 1 (.t 75) (.t 77))
 (.alt 8 (none, .st 1 (.t 81) (.t 80)) [false, false, false, false, false, false, false]
 (.done)
 (.stop)))
 (.stop)))))))) [4, 5, 7, 9])
 (.sk)))
 (.seq (.dr [[], [], [0], [0, 1, 2]]
 (.q 0 (none, .ld 82 (some 2) (.t 9))
 (.q 1 (none, .ld 83 (some 4) (.t 7))
 (.alt 2 (none, .st 2 (.t 4) (.t 82)) [false, true]
 (.alt 3 (none, .st 4 (.t 5) (.t 83)) [false, false]
 (.done)
 (.stop))
 (.stop)))) [4, 5])
 (.rt))))))))
theorem mr82 : MrT Try.prog 82 pc82 [.c 4 (some 2), .c 5 (some 4)] 84 := fun hn h => spec_of_run (fn := Try.f82) (by kernel_rfl) rfl (by kernel_rfl) (by kernel_rfl) hn h
theorem mk82 : MkT Try.prog 82 pc82 [.c 4 (some 2), .c 5 (some 4)] 84 := mr82.k
theorem mw82 : MwT Try.prog 82 pc82 [.c 4 (some 2), .c 5 (some 4)] 84 := mr82.w
-- 83 laws.sameInts
def pc83l0 : PC := .seq (.seq (.rg [(none, .mv 11 (.t 5)),
 (none, .mv 12 (.t 0)),
 (none, .ln 13 (.t 12)),
 (none, .bi 14 .lss (.t 11) (.t 13)),
 (none, .kp [0, 1, 5, 14])])
 (.ite (.t 14) (.sk)
 (.ex 0)))
 (.seq (.blk 1 (.seq (.dr [[], [], [0, 1], [0, 1, 2], [], [], [4, 5], [4, 5, 6], [0, 1, 2, 3, 4, 5, 6, 7]]
 (.q 0 (none, .mv 17 (.t 0))
 (.q 1 (none, .mv 18 (.t 5))
 (.q 2 (none, .ia 19 1 (.t 17) (.t 18))
 (.q 3 (none, .ld 20 none (.t 19))
 (.q 4 (none, .mv 21 (.t 1))
 (.q 5 (none, .mv 22 (.t 5))
 (.q 6 (none, .ia 23 1 (.t 21) (.t 22))
 (.q 7 (none, .ld 24 none (.t 23))
 (.q 8 (none, .bi 25 .neq (.t 20) (.t 24))
 (.done)))))))))) [0, 1, 5, 25])
 (.ite (.t 25) (.seq (.rg [(none, .mv 4 (.c (.b false))),
 (none, .kp [4])])
 (.rt))
 (.sk))))
 (.rg [(none, .mv 15 (.t 5)),
 (none, .bi 16 .add (.t 15) (.c (.n .i64 1))),
 (none, .mv 5 (.t 16)),
 (none, .kp [0, 1, 5])]))
def pc83 : PC := .seq (.rg [(none, .mv 4 (.c (.b false))),
 (none, .kp [0, 1])])
 (.seq (.seq (.rg [(none, .mv 6 (.t 0)),
 (none, .ln 7 (.t 6)),
 (none, .mv 8 (.t 1)),
 (none, .ln 9 (.t 8)),
 (none, .bi 10 .neq (.t 7) (.t 9)),
 (none, .kp [0, 1, 10])])
 (.ite (.t 10) (.seq (.rg [(none, .mv 4 (.c (.b false))),
 (none, .kp [4])])
 (.rt))
 (.sk)))
 (.seq (.seq (.rg [(none, .mv 5 (.c (.n .i64 0))),
 (none, .kp [0, 1, 5])])
 (.blk 0 (.lp pc83l0)))
 (.seq (.rg [(none, .mv 4 (.c (.b true))),
 (none, .kp [4])])
 (.rt))))
theorem mr83 : MrT Try.prog 83 pc83 [.t 4] 26 := fun hn h => spec_of_run (fn := Try.f83) (by kernel_rfl) rfl (by kernel_rfl) (by kernel_rfl) hn h
theorem mk83 : MkT Try.prog 83 pc83 [.t 4] 26 := mr83.k
theorem mw83 : MwT Try.prog 83 pc83 [.t 4] 26 := mr83.w
-- 84 laws.sameParts
def pc84l0 : PC := .seq (.seq (.rg [(none, .mv 11 (.t 5)),
 (none, .mv 12 (.t 0)),
 (none, .ln 13 (.t 12)),
 (none, .bi 14 .lss (.t 11) (.t 13)),
 (none, .kp [0, 1, 5, 14])])
 (.ite (.t 14) (.sk)
 (.ex 0)))
 (.seq (.blk 1 (.seq (.dr [[], [], [0, 1], [0, 1, 2], [], [], [4, 5], [4, 5, 6], [0, 1, 2, 3, 4, 5, 6, 7]]
 (.q 0 (none, .mv 17 (.t 0))
 (.q 1 (none, .mv 18 (.t 5))
 (.q 2 (none, .ia 19 7 (.t 17) (.t 18))
 (.q 3 (none, .ld 20 (some 7) (.t 19))
 (.q 4 (none, .mv 21 (.t 1))
 (.q 5 (none, .mv 22 (.t 5))
 (.q 6 (none, .ia 23 7 (.t 21) (.t 22))
 (.q 7 (none, .ld 24 (some 7) (.t 23))
 (.q 8 (none, .eqs 25 true [.n .i64 0, .n .i64 0, .n .i64 0, .b false, .b false, .b false, .s []] (.t 20) (.t 24))
 (.done)))))))))) [0, 1, 5, 25])
 (.ite (.t 25) (.seq (.rg [(none, .mv 4 (.c (.b false))),
 (none, .kp [4])])
 (.rt))
 (.sk))))
 (.rg [(none, .mv 15 (.t 5)),
 (none, .bi 16 .add (.t 15) (.c (.n .i64 1))),
 (none, .mv 5 (.t 16)),
 (none, .kp [0, 1, 5])]))
def pc84 : PC := .seq (.rg [(none, .mv 4 (.c (.b false))),
 (none, .kp [0, 1])])
 (.seq (.seq (.rg [(none, .mv 6 (.t 0)),
 (none, .ln 7 (.t 6)),
 (none, .mv 8 (.t 1)),
 (none, .ln 9 (.t 8)),
 (none, .bi 10 .neq (.t 7) (.t 9)),
 (none, .kp [0, 1, 10])])
 (.ite (.t 10) (.seq (.rg [(none, .mv 4 (.c (.b false))),
 (none, .kp [4])])
 (.rt))
 (.sk)))
 (.seq (.seq (.rg [(none, .mv 5 (.c (.n .i64 0))),
 (none, .kp [0, 1, 5])])
 (.blk 0 (.lp pc84l0)))
 (.seq (.rg [(none, .mv 4 (.c (.b true))),
 (none, .kp [4])])
 (.rt))))
theorem mr84 : MrT Try.prog 84 pc84 [.t 4] 26 := fun hn h => spec_of_run (fn := Try.f84) (by kernel_rfl) rfl (by kernel_rfl) (by kernel_rfl) hn h
theorem mk84 : MkT Try.prog 84 pc84 [.t 4] 26 := mr84.k
theorem mw84 : MwT Try.prog 84 pc84 [.t 4] 26 := mr84.w
-- 92 spec.TalkValid
def pc92l0 : PC := .seq (.seq (.rg [(none, .mv 42 (.t 5)),
 (none, .fa 43 11 (.t 1)),
 (none, .ld 44 none (.t 43)),
 (none, .ln 45 (.t 44)),
 (none, .bi 46 .lss (.t 42) (.t 45)),
 (none, .kp [1, 3, 4, 5, 46])])
 (.ite (.t 46) (.sk)
 (.ex 0)))
 (.seq (.blk 1 (.seq (.rg [(none, .fa 49 11 (.t 1)),
 (none, .ld 50 none (.t 49)),
 (none, .mv 51 (.t 5)),
 (none, .ia 52 4 (.t 50) (.t 51)),
 (none, .ld 53 (some 4) (.t 52)),
 (none, .al 6 [.b false, .n .i64 0, .b false, .s []]),
 (none, .st 4 (.t 6) (.t 53)),
 (none, .kp [1, 3, 4, 5, 6])])
 (.seq (.seq (.rg [(none, .fa 54 3 (.t 6)),
 (none, .ld 55 none (.t 54)),
 (none, .lS 56 (.t 55)),
 (none, .ca (some 57) 125 [.t 56, .c (.n .i64 1), .c (.n .i64 60)]),
 (none, .un 58 .not (.t 57)),
 (none, .mv 59 (.t 58)),
 (some (59, false), .fa 60 0 (.t 6)),
 (some (59, false), .ld 61 none (.t 60)),
 (some (59, false), .mv 62 (.t 61)),
 (some (62, true), .fa 63 1 (.t 6)),
 (some (62, true), .ld 64 none (.t 63)),
 (some (62, true), .fa 65 6 (.t 1)),
 (some (62, true), .fa 66 2 (.t 65)),
 (some (62, true), .ld 67 none (.t 66)),
 (some (62, true), .bi 68 .sub (.t 67) (.c (.n .i64 1))),
 (some (62, true), .ca (some 69) 125 [.t 64, .c (.n .i64 0), .t 68]),
 (some (62, true), .un 70 .not (.t 69)),
 (some (59, false), .pk 71 (.t 62) (.t 70) (.c (.b false))),
 (none, .pk 72 (.t 59) (.c (.b true)) (.t 71)),
 (none, .mv 73 (.t 72)),
 (some (73, false), .fa 74 0 (.t 6)),
 (some (73, false), .ld 75 none (.t 74)),
 (some (73, false), .un 76 .not (.t 75)),
 (some (73, false), .mv 77 (.t 76)),
 (some (77, true), .fa 78 1 (.t 6)),
 (some (77, true), .ld 79 none (.t 78)),
 (some (77, true), .fa 80 2 (.t 1)),
 (some (77, true), .fa 81 2 (.t 80)),
 (some (77, true), .ld 82 none (.t 81)),
 (some (77, true), .bi 83 .sub (.t 82) (.c (.n .i64 1))),
 (some (77, true), .ca (some 84) 125 [.t 79, .c (.n .i64 0), .t 83]),
 (some (77, true), .un 85 .not (.t 84)),
 (some (73, false), .pk 86 (.t 77) (.t 85) (.c (.b false))),
 (none, .pk 87 (.t 73) (.c (.b true)) (.t 86)),
 (none, .kp [1, 3, 4, 5, 6, 87])])
 (.ite (.t 87) (.seq (.rg [(none, .mv 2 (.c (.b false))),
 (none, .kp [2])])
 (.rt))
 (.sk)))
 (.seq (.rg [(none, .fa 88 0 (.t 6)),
 (none, .ld 89 none (.t 88)),
 (none, .kp [1, 3, 4, 5, 6, 89])])
 (.ite (.t 89) (.rg [(none, .mv 90 (.t 4)),
 (none, .fa 91 3 (.t 6)),
 (none, .ld 92 none (.t 91)),
 (none, .fa 93 10 (.t 1)),
 (none, .ld 94 none (.t 93)),
 (none, .ca (some 95) 95 [.t 92, .t 94]),
 (none, .bi 96 .add (.t 90) (.t 95)),
 (none, .mv 4 (.t 96)),
 (none, .kp [1, 3, 4, 5])])
 (.rg [(none, .mv 97 (.t 3)),
 (none, .fa 98 3 (.t 6)),
 (none, .ld 99 none (.t 98)),
 (none, .fa 100 10 (.t 1)),
 (none, .ld 101 none (.t 100)),
 (none, .ca (some 102) 95 [.t 99, .t 101]),
 (none, .bi 103 .add (.t 97) (.t 102)),
 (none, .mv 3 (.t 103)),
 (none, .kp [1, 3, 4, 5])]))))))
 (.rg [(none, .mv 47 (.t 5)),
 (none, .bi 48 .add (.t 47) (.c (.n .i64 1))),
 (none, .mv 5 (.t 48)),
 (none, .kp [1, 3, 4, 5])]))
def pc92 : PC := .seq (.rg [(none, .bx 1 (.t 0)),
 (none, .mv 2 (.c (.b false))),
 (none, .kp [1])])
 (.seq (.seq (.rg [(none, .fa 7 0 (.t 1)),
 (none, .ld 8 none (.t 7)),
 (none, .ca (some 9) 125 [.t 8, .c (.n .i64 1), .c (.n .i64 65535)]),
 (none, .un 10 .not (.t 9)),
 (none, .mv 11 (.t 10)),
 (some (11, false), .fa 12 1 (.t 1)),
 (some (11, false), .ld 13 none (.t 12)),
 (some (11, false), .ca (some 14) 125 [.t 13, .c (.n .i64 1), .c (.n .i64 65535)]),
 (some (11, false), .un 15 .not (.t 14)),
 (none, .pk 16 (.t 11) (.c (.b true)) (.t 15)),
 (none, .mv 17 (.t 16)),
 (some (17, false), .fa 18 0 (.t 1)),
 (some (17, false), .ld 19 none (.t 18)),
 (some (17, false), .fa 20 1 (.t 1)),
 (some (17, false), .ld 21 none (.t 20)),
 (some (17, false), .bi 22 .eql (.t 19) (.t 21)),
 (none, .pk 23 (.t 17) (.c (.b true)) (.t 22)),
 (none, .mv 24 (.t 23)),
 (some (24, false), .fa 25 2 (.t 1)),
 (some (24, false), .ld 26 (some 4) (.t 25)),
 (some (24, false), .ca (some 27) 164 [.t 26]),
 (some (24, false), .un 28 .not (.t 27)),
 (none, .pk 29 (.t 24) (.c (.b true)) (.t 28)),
 (none, .mv 30 (.t 29)),
 (some (30, false), .fa 31 6 (.t 1)),
 (some (30, false), .ld 32 (some 4) (.t 31)),
 (some (30, false), .ca (some 33) 164 [.t 32]),
 (some (30, false), .un 34 .not (.t 33)),
 (none, .pk 35 (.t 30) (.c (.b true)) (.t 34)),
 (none, .mv 36 (.t 35)),
 (some (36, false), .fa 37 10 (.t 1)),
 (some (36, false), .ld 38 none (.t 37)),
 (some (36, false), .ca (some 39) 125 [.t 38, .c (.n .i64 1), .c (.n .i64 20)]),
 (some (36, false), .un 40 .not (.t 39)),
 (none, .pk 41 (.t 36) (.c (.b true)) (.t 40)),
 (none, .kp [1, 41])])
 (.ite (.t 41) (.seq (.rg [(none, .mv 2 (.c (.b false))),
 (none, .kp [2])])
 (.rt))
 (.sk)))
 (.seq (.rg [(none, .mv 3 (.c (.n .i64 0))),
 (none, .kp [1, 3])])
 (.seq (.rg [(none, .mv 4 (.c (.n .i64 0))),
 (none, .kp [1, 3, 4])])
 (.seq (.seq (.rg [(none, .mv 5 (.c (.n .i64 0))),
 (none, .kp [1, 3, 4, 5])])
 (.blk 0 (.lp pc92l0)))
 (.seq (.rg [(none, .fa 104 11 (.t 1)),
 (none, .ld 105 none (.t 104)),
 (none, .ln 106 (.t 105)),
 (none, .bi 107 .leq (.t 106) (.c (.n .i64 4))),
 (none, .mv 108 (.t 107)),
 (some (108, true), .mv 109 (.t 3)),
 (some (108, true), .bi 110 .leq (.t 109) (.c (.n .i64 12))),
 (none, .pk 111 (.t 108) (.t 110) (.c (.b false))),
 (none, .mv 112 (.t 111)),
 (some (112, true), .mv 113 (.t 4)),
 (some (112, true), .bi 114 .leq (.t 113) (.c (.n .i64 12))),
 (none, .pk 115 (.t 112) (.t 114) (.c (.b false))),
 (none, .mv 2 (.t 115)),
 (none, .kp [2])])
 (.rt))))))
theorem mr92 : MrT Try.prog 92 pc92 [.t 2] 116 := fun hn h => spec_of_run (fn := Try.f92) (by kernel_rfl) rfl (by kernel_rfl) (by kernel_rfl) hn h
theorem mk92 : MkT Try.prog 92 pc92 [.t 2] 116 := mr92.k
theorem mw92 : MwT Try.prog 92 pc92 [.t 2] 116 := mr92.w
-- 94 spec.l41Parts
def pc94l0 : PC := .seq (.seq (.rg [(none, .mv 40 (.t 10)),
 (none, .fa 41 3 (.t 8)),
 (none, .ld 42 none (.t 41)),
 (none, .lS 43 (.t 42)),
 (none, .bi 44 .lss (.t 40) (.t 43)),
 (none, .mv 45 (.t 44)),
 (some (45, true), .fa 46 0 (.t 8)),
 (some (45, true), .ld 47 none (.t 46)),
 (some (45, true), .mv 48 (.t 1)),
 (some (45, true), .bb 49 false (.t 47) (.t 48)),
 (none, .pk 50 (.t 45) (.t 49) (.c (.b false))),
 (none, .kp [1, 2, 5, 6, 7, 8, 9, 10, 50])])
 (.ite (.t 50) (.sk)
 (.ex 2)))
 (.seq (.blk 3 (.seq (.rg [(none, .mv 55 (.t 10)),
 (none, .fa 56 10 (.t 2)),
 (none, .ld 57 none (.t 56)),
 (none, .bi 58 .add (.t 55) (.t 57)),
 (none, .fa 59 3 (.t 8)),
 (none, .ld 60 none (.t 59)),
 (none, .lS 61 (.t 60)),
 (none, .mn 62 (.t 58) (.t 61)),
 (none, .mv 11 (.t 62)),
 (none, .kp [1, 2, 5, 6, 7, 8, 9, 10, 11])])
 (.seq (.dr [[], [], [1], [0, 1, 2], [], [4], [], [], [7], [], [9], [], [], [9, 10, 11, 12], [0, 1, 2, 3, 4, 5, 6, 7, 8, 9, 10, 11, 12, 13], [], [0, 1, 2, 3, 4, 5, 6, 7, 8, 9, 10, 11, 12, 13, 14, 15]]
 (.q 0 (none, .mv 63 (.t 5))
 (.q 1 (none, .mv 64 (.t 6))
 (.q 2 (none, .ln 65 (.t 64))
 (.q 4 (none, .fa 67 1 (.t 8))
 (.q 5 (none, .ld 68 none (.t 67))
 (.q 6 (none, .mv 69 (.t 9))
 (.q 7 (none, .fa 70 2 (.t 8))
 (.q 8 (none, .ld 71 none (.t 70))
 (.q 9 (none, .fa 72 3 (.t 8))
 (.q 10 (none, .ld 73 none (.t 72))
 (.q 11 (none, .mv 74 (.t 10))
 (.q 12 (none, .mv 75 (.t 11))
 (.q 13 (none, .sS 76 (.t 73) (some (.t 74)) (some (.t 75)))
 (.alt 3 (none, .ca (some 66) 71 [.t 63, .t 65]) [false, false, false, true, true, true, true, true, true, true, true, true, true]
 (.q 14 (none, .bd 77 [.n .i64 0, .n .i64 0, .n .i64 0, .b false, .b false, .b false, .s []] [(0, 1, .t 66), (1, 1, .t 68), (2, 1, .t 69), (5, 1, .t 71), (6, 1, .t 76)])
 (.alt 15 (none, .al 12 [.n .i64 0, .n .i64 0, .n .i64 0, .b false, .b false, .b false, .s []]) [true, true, true, true, true, true, true, true, true, true, true, true, true, true]
 (.alt 16 (none, .st 7 (.t 12) (.t 77)) [false, false, false, false, false, false, false, false, false, false, false, false, false, false]
 (.done)
 (.stop))
 (.stop)))
 (.alt 15 (none, .al 12 [.n .i64 0, .n .i64 0, .n .i64 0, .b false, .b false, .b false, .s []]) [true, true, true, true, true, true, true, true, true, true, true, true, true]
 (.alt 3 (none, .ca (some 66) 71 [.t 63, .t 65]) [false, false, false, true, true, true, true, true, true, true, true, true, true]
 (.q 14 (none, .bd 77 [.n .i64 0, .n .i64 0, .n .i64 0, .b false, .b false, .b false, .s []] [(0, 1, .t 66), (1, 1, .t 68), (2, 1, .t 69), (5, 1, .t 71), (6, 1, .t 76)])
 (.alt 16 (none, .st 7 (.t 12) (.t 77)) [false, false, false, false, false, false, false, false, false, false, false, false, false, false]
 (.done)
 (.stop)))
 (.stop))
 (.stop)))))))))))))))) [1, 2, 5, 6, 7, 8, 9, 10, 11, 12])
 (.seq (.rg [(none, .mv 78 (.t 10)),
 (none, .bi 79 .eql (.t 78) (.c (.n .i64 0))),
 (none, .fa 80 3 (.t 12)),
 (none, .st 1 (.t 80) (.t 79)),
 (none, .kp [1, 2, 5, 6, 7, 8, 9, 10, 11, 12])])
 (.seq (.rg [(none, .mv 81 (.t 11)),
 (none, .fa 82 3 (.t 8)),
 (none, .ld 83 none (.t 82)),
 (none, .lS 84 (.t 83)),
 (none, .bi 85 .eql (.t 81) (.t 84)),
 (none, .fa 86 4 (.t 12)),
 (none, .st 1 (.t 86) (.t 85)),
 (none, .kp [1, 2, 5, 6, 7, 8, 9, 10, 12])])
 (.rg [(none, .mv 87 (.t 6)),
 (none, .ld 88 (some 7) (.t 12)),
 (none, .bs 89 7 1 [.n .i64 0, .n .i64 0, .n .i64 0, .b false, .b false, .b false, .s []] [(0, .t 88)]),
 (none, .ap 90 7 48 (.t 87) (.t 89)),
 (none, .mv 6 (.t 90)),
 (none, .kp [1, 2, 5, 6, 7, 8, 9, 10])]))))))
 (.rg [(none, .mv 51 (.t 10)),
 (none, .fa 52 10 (.t 2)),
 (none, .ld 53 none (.t 52)),
 (none, .bi 54 .add (.t 51) (.t 53)),
 (none, .mv 10 (.t 54)),
 (none, .kp [1, 2, 5, 6, 7, 8, 9, 10])]))
def pc94l1 : PC := .seq (.seq (.rg [(none, .mv 21 (.t 7)),
 (none, .fa 22 11 (.t 2)),
 (none, .ld 23 none (.t 22)),
 (none, .ln 24 (.t 23)),
 (none, .bi 25 .lss (.t 21) (.t 24)),
 (none, .kp [1, 2, 5, 6, 7, 25])])
 (.ite (.t 25) (.sk)
 (.ex 0)))
 (.seq (.blk 1 (.seq (.rg [(none, .fa 28 11 (.t 2)),
 (none, .ld 29 none (.t 28)),
 (none, .mv 30 (.t 7)),
 (none, .ia 31 4 (.t 29) (.t 30)),
 (none, .ld 32 (some 4) (.t 31)),
 (none, .al 8 [.b false, .n .i64 0, .b false, .s []]),
 (none, .st 4 (.t 8) (.t 32)),
 (none, .kp [1, 2, 5, 6, 7, 8])])
 (.seq (.rg [(none, .mv 9 (.c (.n .i64 0))),
 (none, .kp [1, 2, 5, 6, 7, 8, 9])])
 (.seq (.seq (.rg [(none, .fa 33 2 (.t 8)),
 (none, .ld 34 none (.t 33)),
 (none, .un 35 .not (.t 34)),
 (none, .kp [1, 2, 5, 6, 7, 8, 9, 35])])
 (.ite (.t 35) (.rg [(none, .mv 36 (.t 6)),
 (none, .fa 37 1 (.t 8)),
 (none, .ld 38 none (.t 37)),
 (none, .ca (some 39) 166 [.t 36, .t 38]),
 (none, .mv 9 (.t 39)),
 (none, .kp [1, 2, 5, 6, 7, 8, 9])])
 (.sk)))
 (.seq (.rg [(none, .mv 10 (.c (.n .i64 0))),
 (none, .kp [1, 2, 5, 6, 7, 8, 9, 10])])
 (.blk 2 (.lp pc94l0)))))))
 (.rg [(none, .mv 26 (.t 7)),
 (none, .bi 27 .add (.t 26) (.c (.n .i64 1))),
 (none, .mv 7 (.t 27)),
 (none, .kp [1, 2, 5, 6, 7])]))
def pc94 : PC := .seq (.rg [(none, .bx 2 (.t 0)),
 (none, .mv 4 (.c .nil)),
 (none, .kp [1, 2])])
 (.seq (.rg [(none, .fa 13 2 (.t 2)),
 (none, .fa 14 3 (.t 13)),
 (none, .ld 15 none (.t 14)),
 (none, .mv 5 (.t 15)),
 (none, .kp [1, 2, 5])])
 (.seq (.seq (.rg [(none, .mv 16 (.t 1)),
 (none, .kp [1, 2, 5, 16])])
 (.ite (.t 16) (.rg [(none, .fa 17 6 (.t 2)),
 (none, .fa 18 3 (.t 17)),
 (none, .ld 19 none (.t 18)),
 (none, .mv 5 (.t 19)),
 (none, .kp [1, 2, 5])])
 (.sk)))
 (.seq (.rg [(none, .bs 20 7 0 [.n .i64 0, .n .i64 0, .n .i64 0, .b false, .b false, .b false, .s []] []),
 (none, .mv 6 (.t 20)),
 (none, .kp [1, 2, 5, 6])])
 (.seq (.seq (.rg [(none, .mv 7 (.c (.n .i64 0))),
 (none, .kp [1, 2, 5, 6, 7])])
 (.blk 0 (.lp pc94l1)))
 (.seq (.rg [(none, .mv 91 (.t 6)),
 (none, .mv 4 (.t 91)),
 (none, .kp [4])])
 (.rt))))))
theorem mr94 : MrT Try.prog 94 pc94 [.t 4] 92 := fun hn h => spec_of_run (fn := Try.f94) (by kernel_rfl) rfl (by kernel_rfl) (by kernel_rfl) hn h
theorem mk94 : MkT Try.prog 94 pc94 [.t 4] 92 := mr94.k
theorem mw94 : MwT Try.prog 94 pc94 [.t 4] 92 := mr94.w
-- 95 spec.l41Many
def pc95 : PC := .seq (.rg [(none, .mv 4 (.c (.n .i64 0))),
 (none, .kp [0, 1])])
 (.seq (.rg [(none, .mv 5 (.t 0)),
 (none, .lS 6 (.t 5)),
 (none, .mv 7 (.t 1)),
 (none, .bi 8 .add (.t 6) (.t 7)),
 (none, .bi 9 .sub (.t 8) (.c (.n .i64 1))),
 (none, .mv 10 (.t 1)),
 (none, .bi 11 .quo (.t 9) (.t 10)),
 (none, .mv 4 (.t 11)),
 (none, .kp [4])])
 (.rt))
theorem mr95 : MrT Try.prog 95 pc95 [.t 4] 12 := fun hn h => spec_of_run (fn := Try.f95) (by kernel_rfl) rfl (by kernel_rfl) (by kernel_rfl) hn h
theorem mk95 : MkT Try.prog 95 pc95 [.t 4] 12 := mr95.k
theorem mw95 : MwT Try.prog 95 pc95 [.t 4] 12 := mr95.w
-- 125 spec.l6In
def pc125 : PC := .seq (.rg [(none, .mv 6 (.c (.b false))),
 (none, .kp [0, 1, 2])])
 (.seq (.rg [(none, .mv 7 (.t 0)),
 (none, .mv 8 (.t 1)),
 (none, .bi 9 .geq (.t 7) (.t 8)),
 (none, .mv 10 (.t 9)),
 (some (10, true), .mv 11 (.t 0)),
 (some (10, true), .mv 12 (.t 2)),
 (some (10, true), .bi 13 .leq (.t 11) (.t 12)),
 (none, .pk 14 (.t 10) (.t 13) (.c (.b false))),
 (none, .mv 6 (.t 14)),
 (none, .kp [6])])
 (.rt))
theorem mr125 : MrT Try.prog 125 pc125 [.t 6] 15 := fun hn h => spec_of_run (fn := Try.f125) (by kernel_rfl) rfl (by kernel_rfl) (by kernel_rfl) hn h
theorem mk125 : MkT Try.prog 125 pc125 [.t 6] 15 := mr125.k
theorem mw125 : MwT Try.prog 125 pc125 [.t 6] 15 := mr125.w
-- 151 spec.l92Talk
def pc151l0 : PC := .seq (.seq (.rg [(none, .mv 39 (.t 5)),
 (none, .mv 40 (.t 4)),
 (none, .bi 41 .lss (.t 39) (.t 40)),
 (none, .kp [0, 2, 3, 4, 5, 41])])
 (.ite (.t 41) (.sk)
 (.ex 0)))
 (.seq (.blk 1 (.seq (.rg [(none, .mv 44 (.t 0)),
 (none, .bs 45 1 6 [.s []] [(0, .c (.s [104, 101, 108, 108, 111])), (1, .c (.s [120])), (2, .c (.s [116, 111, 32, 116, 104, 101, 32, 111, 116, 104, 101, 114, 32, 115, 105, 100, 101])), (3, .c (.s [97, 98])), (4, .c (.s [102, 111, 117, 114])), (5, .c (.s [48, 49, 50, 51, 52, 53, 54, 55, 56, 57]))]),
 (none, .ca (some 46) 201 [.t 44, .t 45]),
 (none, .bd 47 [.b false, .n .i64 0, .b false, .s []] [(3, 1, .t 46)]),
 (none, .al 6 [.b false, .n .i64 0, .b false, .s []]),
 (none, .st 4 (.t 6) (.t 47)),
 (none, .kp [0, 2, 3, 4, 5, 6])])
 (.seq (.rg [(none, .mv 48 (.t 0)),
 (none, .ca (some 49) 69 [.t 48, .c (.n .i64 2)]),
 (none, .bi 50 .eql (.t 49) (.c (.n .i64 0))),
 (none, .fa 51 0 (.t 6)),
 (none, .st 1 (.t 51) (.t 50)),
 (none, .kp [0, 2, 3, 4, 5, 6])])
 (.seq (.rg [(none, .mv 52 (.t 0)),
 (none, .ca (some 53) 69 [.t 52, .c (.n .i64 3)]),
 (none, .bi 54 .eql (.t 53) (.c (.n .i64 0))),
 (none, .fa 55 2 (.t 6)),
 (none, .st 1 (.t 55) (.t 54)),
 (none, .kp [0, 2, 3, 4, 5, 6])])
 (.seq (.rg [(none, .fa 56 2 (.t 3)),
 (none, .fa 57 2 (.t 56)),
 (none, .ld 58 none (.t 57)),
 (none, .mv 7 (.t 58)),
 (none, .kp [0, 2, 3, 4, 5, 6, 7])])
 (.seq (.seq (.rg [(none, .fa 59 0 (.t 6)),
 (none, .ld 60 none (.t 59)),
 (none, .kp [0, 2, 3, 4, 5, 6, 7, 60])])
 (.ite (.t 60) (.rg [(none, .fa 61 6 (.t 3)),
 (none, .fa 62 2 (.t 61)),
 (none, .ld 63 none (.t 62)),
 (none, .mv 7 (.t 63)),
 (none, .kp [0, 2, 3, 4, 5, 6, 7])])
 (.sk)))
 (.seq (.rg [(none, .mv 64 (.t 0)),
 (none, .mv 65 (.t 7)),
 (none, .ca (some 66) 69 [.t 64, .t 65]),
 (none, .fa 67 1 (.t 6)),
 (none, .st 1 (.t 67) (.t 66)),
 (none, .kp [0, 2, 3, 4, 5, 6])])
 (.seq (.rg [(none, .fa 68 11 (.t 3)),
 (none, .ld 69 none (.t 68)),
 (none, .ld 70 (some 4) (.t 6)),
 (none, .bs 71 4 1 [.b false, .n .i64 0, .b false, .s []] [(0, .t 70)]),
 (none, .ap 72 4 40 (.t 69) (.t 71)),
 (none, .fa 73 11 (.t 3)),
 (none, .st 1 (.t 73) (.t 72)),
 (none, .kp [0, 2, 3, 4, 5])])
 (.seq (.rg [(none, .ld 74 (some 12) (.t 3)),
 (none, .ca (some 75) 92 [.t 74]),
 (none, .un 76 .not (.t 75)),
 (none, .kp [0, 2, 3, 4, 5, 76])])
 (.ite (.t 76) (.rg [(none, .fa 77 11 (.t 3)),
 (none, .ld 78 none (.t 77)),
 (none, .fa 79 11 (.t 3)),
 (none, .ld 80 none (.t 79)),
 (none, .ln 81 (.t 80)),
 (none, .bi 82 .sub (.t 81) (.c (.n .i64 1))),
 (none, .sc 83 4 (.t 78) none (some (.t 82))),
 (none, .fa 84 11 (.t 3)),
 (none, .st 1 (.t 84) (.t 83)),
 (none, .kp [0, 2, 3, 4, 5])])
 (.sk)))))))))))
 (.rg [(none, .mv 42 (.t 5)),
 (none, .bi 43 .add (.t 42) (.c (.n .i64 1))),
 (none, .mv 5 (.t 43)),
 (none, .kp [0, 2, 3, 4, 5])]))
def pc151 : PC := .seq (.rg [(none, .al 2 [.n .i64 0, .n .i64 0, .n .i64 0, .n .i64 0, .n .i64 0, .n .i64 0, .n .i64 0, .n .i64 0, .n .i64 0, .n .i64 0, .n .i64 0, .nil]),
 (none, .kp [0, 2])])
 (.seq (.rg [(none, .mv 8 (.t 0)),
 (none, .ca (some 9) 69 [.t 8, .c (.n .i64 5)]),
 (none, .bi 10 .add (.c (.n .i64 1)) (.t 9)),
 (none, .mv 11 (.t 0)),
 (none, .ca (some 12) 69 [.t 11, .c (.n .i64 5)]),
 (none, .bi 13 .add (.c (.n .i64 6)) (.t 12)),
 (none, .mv 14 (.t 0)),
 (none, .ca (some 15) 69 [.t 14, .c (.n .i64 99)]),
 (none, .bi 16 .add (.c (.n .i64 1)) (.t 15)),
 (none, .mv 17 (.t 0)),
 (none, .ca (some 18) 69 [.t 17, .c (.n .i64 4)]),
 (none, .bi 19 .add (.c (.n .i64 1)) (.t 18)),
 (none, .mv 20 (.t 0)),
 (none, .ca (some 21) 155 [.t 20]),
 (none, .bd 22 [.n .i64 0, .n .i64 0, .n .i64 0, .n .i64 0] [(0, 1, .t 16), (1, 1, .c (.n .i64 1000)), (2, 1, .t 19), (3, 1, .t 21)]),
 (none, .mv 23 (.t 0)),
 (none, .ca (some 24) 69 [.t 23, .c (.n .i64 99)]),
 (none, .bi 25 .add (.c (.n .i64 100)) (.t 24)),
 (none, .mv 26 (.t 0)),
 (none, .ca (some 27) 69 [.t 26, .c (.n .i64 4)]),
 (none, .bi 28 .add (.c (.n .i64 1)) (.t 27)),
 (none, .mv 29 (.t 0)),
 (none, .ca (some 30) 155 [.t 29]),
 (none, .bd 31 [.n .i64 0, .n .i64 0, .n .i64 0, .n .i64 0] [(0, 1, .t 25), (1, 1, .c (.n .i64 1000)), (2, 1, .t 28), (3, 1, .t 30)]),
 (none, .mv 32 (.t 0)),
 (none, .ca (some 33) 69 [.t 32, .c (.n .i64 8)]),
 (none, .bi 34 .add (.c (.n .i64 2)) (.t 33)),
 (none, .bs 35 4 0 [.b false, .n .i64 0, .b false, .s []] []),
 (none, .bd 36 [.n .i64 0, .n .i64 0, .n .i64 0, .n .i64 0, .n .i64 0, .n .i64 0, .n .i64 0, .n .i64 0, .n .i64 0, .n .i64 0, .n .i64 0, .nil] [(0, 1, .t 10), (1, 1, .t 13), (2, 4, .t 22), (6, 4, .t 31), (10, 1, .t 34), (11, 1, .t 35)]),
 (none, .al 3 [.n .i64 0, .n .i64 0, .n .i64 0, .n .i64 0, .n .i64 0, .n .i64 0, .n .i64 0, .n .i64 0, .n .i64 0, .n .i64 0, .n .i64 0, .nil]),
 (none, .st 12 (.t 3) (.t 36)),
 (none, .kp [0, 2, 3])])
 (.seq (.rg [(none, .mv 37 (.t 0)),
 (none, .ca (some 38) 69 [.t 37, .c (.n .i64 5)]),
 (none, .mv 4 (.t 38)),
 (none, .kp [0, 2, 3, 4])])
 (.seq (.seq (.rg [(none, .mv 5 (.c (.n .i64 0))),
 (none, .kp [0, 2, 3, 4, 5])])
 (.blk 0 (.lp pc151l0)))
 (.seq (.rg [(none, .ld 85 (some 12) (.t 3)),
 (none, .st 12 (.t 2) (.t 85)),
 (none, .kp [2])])
 (.rt)))))
theorem mr151 : MrT Try.prog 151 pc151 [.c 2 (some 12)] 86 := fun hn h => spec_of_run (fn := Try.f151) (by kernel_rfl) rfl (by kernel_rfl) (by kernel_rfl) hn h
theorem mk151 : MkT Try.prog 151 pc151 [.c 2 (some 12)] 86 := mr151.k
theorem mw151 : MwT Try.prog 151 pc151 [.c 2 (some 12)] 86 := mr151.w
-- 152 spec.AsmNew
def pc152 : PC := .seq (.rg [(none, .al 2 [.nil, .nil]),
 (none, .mv 3 (.c (.b false))),
 (none, .kp [0, 2])])
 (.seq (.seq (.rg [(none, .mv 4 (.t 0)),
 (none, .ca (some 5) 125 [.t 4, .c (.n .i64 1), .c (.n .i64 4)]),
 (none, .un 6 .not (.t 5)),
 (none, .kp [0, 2, 6])])
 (.ite (.t 6) (.seq (.rg [(none, .bd 7 [.nil, .nil] []),
 (none, .st 2 (.t 2) (.t 7)),
 (none, .mv 3 (.c (.b false))),
 (none, .kp [2, 3])])
 (.rt))
 (.sk)))
 (.seq (.rg [(none, .mv 8 (.t 0)),
 (none, .mk 9 1 8 [.n .i64 0] (.t 8)),
 (none, .bs 10 7 0 [.n .i64 0, .n .i64 0, .n .i64 0, .b false, .b false, .b false, .s []] []),
 (none, .bd 11 [.nil, .nil] [(0, 1, .t 9), (1, 1, .t 10)]),
 (none, .st 2 (.t 2) (.t 11)),
 (none, .mv 3 (.c (.b true))),
 (none, .kp [2, 3])])
 (.rt)))
theorem mr152 : MrT Try.prog 152 pc152 [.c 2 (some 2), .t 3] 12 := fun hn h => spec_of_run (fn := Try.f152) (by kernel_rfl) rfl (by kernel_rfl) (by kernel_rfl) hn h
theorem mk152 : MkT Try.prog 152 pc152 [.c 2 (some 2), .t 3] 12 := mr152.k
theorem mw152 : MwT Try.prog 152 pc152 [.c 2 (some 2), .t 3] 12 := mr152.w
-- 153 spec.l92Parts
def pc153l0 : PC := .seq (.seq (.rg [(none, .mv 19 (.t 7)),
 (none, .mv 20 (.t 6)),
 (none, .bi 21 .lss (.t 19) (.t 20)),
 (none, .kp [0, 5, 6, 7, 21])])
 (.ite (.t 21) (.sk)
 (.ex 0)))
 (.seq (.blk 1 (.seq (.rg [(none, .mv 24 (.t 0)),
 (none, .mv 25 (.t 5)),
 (none, .ln 26 (.t 25)),
 (none, .ca (some 27) 69 [.t 24, .t 26]),
 (none, .mv 8 (.t 27)),
 (none, .kp [0, 5, 6, 7, 8])])
 (.seq (.rg [(none, .mv 28 (.t 0)),
 (none, .mv 29 (.t 5)),
 (none, .ln 30 (.t 29)),
 (none, .ca (some 31) 69 [.t 28, .t 30]),
 (none, .mv 9 (.t 31)),
 (none, .kp [0, 5, 6, 7, 8, 9])])
 (.seq (.rg [(none, .mv 32 (.t 5)),
 (none, .mv 33 (.t 8)),
 (none, .ia 34 7 (.t 32) (.t 33)),
 (none, .ld 35 (some 7) (.t 34)),
 (none, .al 10 [.n .i64 0, .n .i64 0, .n .i64 0, .b false, .b false, .b false, .s []]),
 (none, .st 7 (.t 10) (.t 35)),
 (none, .kp [0, 5, 6, 7, 8, 9, 10])])
 (.seq (.rg [(none, .mv 36 (.t 5)),
 (none, .mv 37 (.t 8)),
 (none, .mv 38 (.t 5)),
 (none, .mv 39 (.t 9)),
 (none, .ia 40 7 (.t 38) (.t 39)),
 (none, .ld 41 (some 7) (.t 40)),
 (none, .ia 42 7 (.t 36) (.t 37)),
 (none, .st 7 (.t 42) (.t 41)),
 (none, .kp [0, 5, 6, 7, 9, 10])])
 (.rg [(none, .mv 43 (.t 5)),
 (none, .mv 44 (.t 9)),
 (none, .ld 45 (some 7) (.t 10)),
 (none, .ia 46 7 (.t 43) (.t 44)),
 (none, .st 7 (.t 46) (.t 45)),
 (none, .kp [0, 5, 6, 7])]))))))
 (.rg [(none, .mv 22 (.t 7)),
 (none, .bi 23 .add (.t 22) (.c (.n .i64 1))),
 (none, .mv 7 (.t 23)),
 (none, .kp [0, 5, 6, 7])]))
def pc153 : PC := .seq (.rg [(none, .bx 3 (.t 1)),
 (none, .mv 4 (.c .nil)),
 (none, .kp [0, 3])])
 (.seq (.rg [(none, .ld 11 (some 12) (.t 3)),
 (none, .ca (some 12) 202 [.t 11, .c (.b false)]),
 (none, .mv 5 (.t 12)),
 (none, .kp [0, 5])])
 (.seq (.seq (.rg [(none, .mv 13 (.t 5)),
 (none, .ln 14 (.t 13)),
 (none, .bi 15 .eql (.t 14) (.c (.n .i64 0))),
 (none, .kp [0, 5, 15])])
 (.ite (.t 15) (.seq (.rg [(none, .mv 16 (.t 5)),
 (none, .mv 4 (.t 16)),
 (none, .kp [4])])
 (.rt))
 (.sk)))
 (.seq (.rg [(none, .mv 17 (.t 0)),
 (none, .ca (some 18) 69 [.t 17, .c (.n .i64 8)]),
 (none, .mv 6 (.t 18)),
 (none, .kp [0, 5, 6])])
 (.seq (.seq (.rg [(none, .mv 7 (.c (.n .i64 0))),
 (none, .kp [0, 5, 6, 7])])
 (.blk 0 (.lp pc153l0)))
 (.seq (.seq (.rg [(none, .mv 47 (.t 0)),
 (none, .ca (some 48) 69 [.t 47, .c (.n .i64 4)]),
 (none, .kp [0, 5, 48])])
 (.blk 2 (.seq (.rg [(none, .bi 50 .eql (.t 48) (.c (.n .i64 0))),
 (none, .mv 49 (.t 50)),
 (none, .kp [0, 5, 48, 49])])
 (.ite (.t 49) (.seq (.rg [(none, .mv 51 (.t 5)),
 (none, .mv 52 (.t 5)),
 (none, .mv 53 (.t 0)),
 (none, .mv 54 (.t 5)),
 (none, .ln 55 (.t 54)),
 (none, .ca (some 56) 69 [.t 53, .t 55]),
 (none, .ia 57 7 (.t 52) (.t 56)),
 (none, .ld 58 (some 7) (.t 57)),
 (none, .bs 59 7 1 [.n .i64 0, .n .i64 0, .n .i64 0, .b false, .b false, .b false, .s []] [(0, .t 58)]),
 (none, .ap 60 7 48 (.t 51) (.t 59)),
 (none, .mv 4 (.t 60)),
 (none, .kp [4])])
 (.rt))
 (.seq (.rg [(none, .bi 62 .eql (.t 48) (.c (.n .i64 1))),
 (none, .mv 61 (.t 62)),
 (none, .kp [0, 5, 61])])
 (.ite (.t 61) (.seq (.rg [(none, .mv 63 (.t 5)),
 (none, .mv 64 (.t 0)),
 (none, .mv 65 (.t 5)),
 (none, .ln 66 (.t 65)),
 (none, .ca (some 67) 69 [.t 64, .t 66]),
 (none, .sc 68 7 (.t 63) none (some (.t 67))),
 (none, .mv 4 (.t 68)),
 (none, .kp [4])])
 (.rt))
 (.sk)))))))
 (.seq (.rg [(none, .mv 69 (.t 5)),
 (none, .mv 4 (.t 69)),
 (none, .kp [4])])
 (.rt)))))))
theorem mr153 : MrT Try.prog 153 pc153 [.t 4] 70 := fun hn h => spec_of_run (fn := Try.f153) (by kernel_rfl) rfl (by kernel_rfl) (by kernel_rfl) hn h
theorem mk153 : MkT Try.prog 153 pc153 [.t 4] 70 := mr153.k
theorem mw153 : MwT Try.prog 153 pc153 [.t 4] 70 := mr153.w
-- 154 spec.l91Word
def pc154 : PC := .seq (.rg [(none, .mv 2 (.c (.n .i64 0))),
 (none, .kp [0])])
 (.seq (.seq (.rg [(none, .mv 3 (.t 0)),
 (none, .ca (some 4) 69 [.t 3, .c (.n .i64 12)]),
 (none, .kp [0, 4])])
 (.blk 0 (.seq (.rg [(none, .bi 6 .eql (.t 4) (.c (.n .i64 0))),
 (none, .mv 5 (.t 6)),
 (none, .kp [0, 4, 5])])
 (.ite (.t 5) (.seq (.rg [(none, .bs 7 1 6 [.n .i64 0] [(0, .c (.n .i64 (-1))), (1, .c (.n .i64 0)), (2, .c (.n .i64 65535)), (3, .c (.n .i64 65536)), (4, .c (.n .i64 256)), (5, .c (.n .i64 255))]),
 (none, .mv 8 (.t 0)),
 (none, .ca (some 9) 69 [.t 8, .c (.n .i64 6)]),
 (none, .ia 10 1 (.t 7) (.t 9)),
 (none, .ld 11 none (.t 10)),
 (none, .mv 2 (.t 11)),
 (none, .kp [2])])
 (.rt))
 (.seq (.seq (.rg [(none, .bi 13 .eql (.t 4) (.c (.n .i64 1))),
 (none, .mv 12 (.t 13)),
 (none, .kp [0, 4, 12])])
 (.ite (.t 12) (.sk)
 (.rg [(none, .bi 14 .eql (.t 4) (.c (.n .i64 2))),
 (none, .mv 12 (.t 14)),
 (none, .kp [0, 4, 12])])))
 (.ite (.t 12) (.seq (.rg [(none, .mv 15 (.t 0)),
 (none, .ca (some 16) 69 [.t 15, .c (.n .i64 6)]),
 (none, .bi 17 .add (.c (.n .i64 65530)) (.t 16)),
 (none, .mv 2 (.t 17)),
 (none, .kp [2])])
 (.rt))
 (.seq (.rg [(none, .bi 19 .eql (.t 4) (.c (.n .i64 3))),
 (none, .mv 18 (.t 19)),
 (none, .kp [0, 18])])
 (.ite (.t 18) (.seq (.rg [(none, .mv 20 (.t 0)),
 (none, .ca (some 21) 69 [.t 20, .c (.n .i64 256)]),
 (none, .bi 22 .mul (.c (.n .i64 256)) (.t 21)),
 (none, .mv 23 (.t 0)),
 (none, .ca (some 24) 69 [.t 23, .c (.n .i64 256)]),
 (none, .bi 25 .add (.t 22) (.t 24)),
 (none, .mv 2 (.t 25)),
 (none, .kp [2])])
 (.rt))
 (.sk)))))))))
 (.seq (.rg [(none, .mv 26 (.t 0)),
 (none, .ca (some 27) 69 [.t 26, .c (.n .i64 20)]),
 (none, .mv 2 (.t 27)),
 (none, .kp [2])])
 (.rt)))
theorem mr154 : MrT Try.prog 154 pc154 [.t 2] 28 := fun hn h => spec_of_run (fn := Try.f154) (by kernel_rfl) rfl (by kernel_rfl) (by kernel_rfl) hn h
theorem mk154 : MkT Try.prog 154 pc154 [.t 2] 28 := mr154.k
theorem mw154 : MwT Try.prog 154 pc154 [.t 2] 28 := mr154.w
-- 155 spec.l91Good
def pc155 : PC := .seq (.rg [(none, .mv 2 (.c (.n .i64 0))),
 (none, .kp [0])])
 (.seq (.rg [(none, .mv 3 (.t 0)),
 (none, .ca (some 4) 154 [.t 3]),
 (none, .mx 5 (.t 4) (.c (.n .i64 0))),
 (none, .mn 6 (.t 5) (.c (.n .i64 65535))),
 (none, .mv 2 (.t 6)),
 (none, .kp [2])])
 (.rt))
theorem mr155 : MrT Try.prog 155 pc155 [.t 2] 7 := fun hn h => spec_of_run (fn := Try.f155) (by kernel_rfl) rfl (by kernel_rfl) (by kernel_rfl) hn h
theorem mk155 : MkT Try.prog 155 pc155 [.t 2] 7 := mr155.k
theorem mw155 : MwT Try.prog 155 pc155 [.t 2] 7 := mr155.w
-- 156 spec.l91Bytes
def pc156l0 : PC := .seq (.seq (.rg [(none, .mv 13 (.t 7)),
 (none, .mv 14 (.t 6)),
 (none, .bi 15 .lss (.t 13) (.t 14)),
 (none, .kp [0, 5, 6, 7, 15])])
 (.ite (.t 15) (.sk)
 (.ex 0)))
 (.seq (.blk 1 (.rg [(none, .mv 18 (.t 5)),
 (none, .mv 19 (.t 0)),
 (none, .ca (some 20) 69 [.t 19, .c (.n .i64 16)]),
 (none, .mv 21 (.t 0)),
 (none, .ca (some 22) 69 [.t 21, .c (.n .i64 18)]),
 (none, .bi 23 .mul (.t 20) (.t 22)),
 (none, .cv 24 .u8 (.t 23)),
 (none, .bs 25 1 1 [.n .u8 0] [(0, .t 24)]),
 (none, .ap 26 1 1 (.t 18) (.t 25)),
 (none, .mv 5 (.t 26)),
 (none, .kp [0, 5, 6, 7])]))
 (.rg [(none, .mv 16 (.t 7)),
 (none, .bi 17 .add (.t 16) (.c (.n .i64 1))),
 (none, .mv 7 (.t 17)),
 (none, .kp [0, 5, 6, 7])]))
def pc156 : PC := .seq (.rg [(none, .mv 4 (.c (.s []))),
 (none, .kp [0, 1])])
 (.seq (.rg [(none, .bs 8 1 0 [.n .u8 0] []),
 (none, .mv 5 (.t 8)),
 (none, .kp [0, 1, 5])])
 (.seq (.rg [(none, .mv 9 (.t 0)),
 (none, .mv 10 (.t 1)),
 (none, .bi 11 .add (.t 10) (.c (.n .i64 1))),
 (none, .ca (some 12) 69 [.t 9, .t 11]),
 (none, .mv 6 (.t 12)),
 (none, .kp [0, 5, 6])])
 (.seq (.seq (.rg [(none, .mv 7 (.c (.n .i64 0))),
 (none, .kp [0, 5, 6, 7])])
 (.blk 0 (.lp pc156l0)))
 (.seq (.rg [(none, .mv 27 (.t 5)),
 (none, .cs 28 (.t 27)),
 (none, .mv 4 (.t 28)),
 (none, .kp [4])])
 (.rt)))))
theorem mr156 : MrT Try.prog 156 pc156 [.t 4] 29 := fun hn h => spec_of_run (fn := Try.f156) (by kernel_rfl) rfl (by kernel_rfl) (by kernel_rfl) hn h
theorem mk156 : MkT Try.prog 156 pc156 [.t 4] 29 := mr156.k
theorem mw156 : MwT Try.prog 156 pc156 [.t 4] 29 := mr156.w
-- 157 spec.l6Many
def pc157l0 : PC := .seq (.seq (.rg [(none, .mv 6 (.t 1)),
 (none, .bi 7 .gtr (.t 6) (.c (.n .i64 0))),
 (none, .kp [0, 1, 5, 7])])
 (.ite (.t 7) (.sk)
 (.ex 0)))
 (.blk 1 (.seq (.seq (.rg [(none, .mv 8 (.t 1)),
 (none, .bi 9 .rem (.t 8) (.c (.n .i64 2))),
 (none, .bi 10 .eql (.t 9) (.c (.n .i64 1))),
 (none, .kp [0, 1, 5, 10])])
 (.ite (.t 10) (.rg [(none, .mv 11 (.t 5)),
 (none, .mv 12 (.t 0)),
 (none, .bi 13 .add (.t 11) (.t 12)),
 (none, .mv 5 (.t 13)),
 (none, .kp [0, 1, 5])])
 (.sk)))
 (.seq (.rg [(none, .mv 14 (.t 0)),
 (none, .mv 15 (.t 0)),
 (none, .bi 16 .add (.t 14) (.t 15)),
 (none, .mv 0 (.t 16)),
 (none, .kp [0, 1, 5])])
 (.rg [(none, .mv 17 (.t 1)),
 (none, .bi 18 .quo (.t 17) (.c (.n .i64 2))),
 (none, .mv 1 (.t 18)),
 (none, .kp [0, 1, 5])]))))
def pc157 : PC := .seq (.rg [(none, .mv 4 (.c (.s []))),
 (none, .kp [0, 1])])
 (.seq (.rg [(none, .mv 5 (.c (.s []))),
 (none, .kp [0, 1, 5])])
 (.seq (.blk 0 (.lp pc157l0))
 (.seq (.rg [(none, .mv 19 (.t 5)),
 (none, .mv 4 (.t 19)),
 (none, .kp [4])])
 (.rt))))
theorem mr157 : MrT Try.prog 157 pc157 [.t 4] 20 := fun hn h => spec_of_run (fn := Try.f157) (by kernel_rfl) rfl (by kernel_rfl) (by kernel_rfl) hn h
theorem mk157 : MkT Try.prog 157 pc157 [.t 4] 20 := mr157.k
theorem mw157 : MwT Try.prog 157 pc157 [.t 4] 20 := mr157.w
-- 158 impl.serialOk
def pc158 : PC := .seq (.rg [(none, .mv 2 (.c (.b false))),
 (none, .kp [0])])
 (.seq (.rg [(none, .mv 3 (.t 0)),
 (none, .bi 4 .geq (.t 3) (.c (.n .i64 0))),
 (none, .mv 5 (.t 4)),
 (some (5, true), .mv 6 (.t 0)),
 (some (5, true), .bi 7 .lss (.t 6) (.c (.n .i64 65536))),
 (none, .pk 8 (.t 5) (.t 7) (.c (.b false))),
 (none, .mv 2 (.t 8)),
 (none, .kp [2])])
 (.rt))
theorem mr158 : MrT Try.prog 158 pc158 [.t 2] 9 := fun hn h => spec_of_run (fn := Try.f158) (by kernel_rfl) rfl (by kernel_rfl) (by kernel_rfl) hn h
theorem mk158 : MkT Try.prog 158 pc158 [.t 2] 9 := mr158.k
theorem mw158 : MwT Try.prog 158 pc158 [.t 2] 9 := mr158.w
-- 159 impl.chainOf
def pc159l0 : PC := .seq (.seq (.rg [(none, .mv 15 (.t 0)),
 (none, .mv 16 (.t 1)),
 (none, .ia 17 7 (.t 15) (.t 16)),
 (none, .fa 18 4 (.t 17)),
 (none, .ld 19 none (.t 18)),
 (none, .un 20 .not (.t 19)),
 (none, .kp [0, 1, 5, 20])])
 (.ite (.t 20) (.sk)
 (.ex 0)))
 (.blk 1 (.seq (.rg [(none, .mv 21 (.t 0)),
 (none, .mv 22 (.t 0)),
 (none, .mv 23 (.t 1)),
 (none, .ia 24 7 (.t 22) (.t 23)),
 (none, .fa 25 0 (.t 24)),
 (none, .ld 26 none (.t 25)),
 (none, .ca (some 27) 78 [.t 26, .c (.n .i64 1)]),
 (none, .ca (some 28) 76 [.t 21, .t 27]),
 (none, .mv 6 (.t 28)),
 (none, .kp [0, 1, 5, 6])])
 (.seq (.seq (.dr [[], [0], [0, 1], [0, 1, 2], [0, 1, 2], [0, 1, 2, 3, 4], [0, 1, 2, 3, 4, 5], [0, 1, 2, 3, 4, 5, 6], [0, 1, 2, 3, 4, 5, 6, 7], [0, 1, 2, 3, 4, 5, 6, 7, 8], [0, 1, 2, 3, 4, 5, 6, 7, 8, 9], [0, 1, 2, 3, 4, 5, 6, 7, 8, 9], [0, 1, 2, 3, 4, 5, 6, 7, 8, 9, 10, 11], [0, 1, 2, 3, 4, 5, 6, 7, 8, 9, 10, 11, 12], [0, 1, 2, 3, 4, 5, 6, 7, 8, 9], [0, 1, 2, 3, 4, 5, 6, 7, 8, 9], [0, 1, 2, 3, 4, 5, 6, 7, 8, 9, 14, 15], [0, 1, 2, 3, 4, 5, 6, 7, 8, 9, 14, 15, 16], [0, 1, 2, 3, 4, 5, 6, 7, 8, 9, 10, 11, 12, 13, 14, 15, 16, 17], [0, 1, 2, 3, 4, 5, 6, 7, 8, 9, 10, 11, 12, 13, 14, 15, 16, 17, 18], [0, 1, 2, 3, 4, 5, 6, 7, 8, 9, 10, 11, 12, 13, 14, 15, 16, 17, 18, 19]]
 (.q 0 (none, .mv 29 (.t 6))
 (.q 1 (none, .bi 30 .lss (.t 29) (.c (.n .i64 0)))
 (.q 2 (none, .mv 31 (.t 30))
 (.q 3 (some (31, false), .mv 32 (.t 0))
 (.q 4 (some (31, false), .mv 33 (.t 6))
 (.q 5 (some (31, false), .ia 34 7 (.t 32) (.t 33))
 (.q 6 (some (31, false), .fa 35 3 (.t 34))
 (.q 7 (some (31, false), .ld 36 none (.t 35))
 (.q 8 (none, .pk 37 (.t 31) (.c (.b true)) (.t 36))
 (.q 9 (none, .mv 38 (.t 37))
 (.q 10 (some (38, false), .mv 39 (.t 0))
 (.q 11 (some (38, false), .mv 40 (.t 6))
 (.q 12 (some (38, false), .ia 41 7 (.t 39) (.t 40))
 (.q 13 (some (38, false), .ld 42 (some 7) (.t 41))
 (.q 14 (some (38, false), .mv 43 (.t 0))
 (.q 15 (some (38, false), .mv 44 (.t 1))
 (.q 16 (some (38, false), .ia 45 7 (.t 43) (.t 44))
 (.q 17 (some (38, false), .ld 46 (some 7) (.t 45))
 (.alt 18 (some (38, false), .ca (some 47) 203 [.t 42, .t 46]) [false, false, false, false, false, false, false, false, false, false, false, false, false, false, false, false, false, false]
 (.q 19 (some (38, false), .un 48 .not (.t 47))
 (.q 20 (none, .pk 49 (.t 38) (.c (.b true)) (.t 48))
 (.done)))
 (.stop)))))))))))))))))))) [0, 5, 6, 49])
 (.ite (.t 49) (.seq (.rg [(none, .mv 4 (.c .nil)),
 (none, .kp [4])])
 (.rt))
 (.sk)))
 (.seq (.rg [(none, .mv 50 (.t 5)),
 (none, .mv 51 (.t 6)),
 (none, .bs 52 1 1 [.n .i64 0] [(0, .t 51)]),
 (none, .ap 53 1 8 (.t 50) (.t 52)),
 (none, .mv 5 (.t 53)),
 (none, .kp [0, 5, 6])])
 (.rg [(none, .mv 54 (.t 6)),
 (none, .mv 1 (.t 54)),
 (none, .kp [0, 1, 5])])))))
def pc159 : PC := .seq (.rg [(none, .mv 4 (.c .nil)),
 (none, .kp [0, 1])])
 (.seq (.seq (.rg [(none, .mv 7 (.t 0)),
 (none, .mv 8 (.t 1)),
 (none, .ia 9 7 (.t 7) (.t 8)),
 (none, .fa 10 3 (.t 9)),
 (none, .ld 11 none (.t 10)),
 (none, .un 12 .not (.t 11)),
 (none, .kp [0, 1, 12])])
 (.ite (.t 12) (.seq (.rg [(none, .mv 4 (.c .nil)),
 (none, .kp [4])])
 (.rt))
 (.sk)))
 (.seq (.rg [(none, .mv 13 (.t 1)),
 (none, .bs 14 1 1 [.n .i64 0] [(0, .t 13)]),
 (none, .mv 5 (.t 14)),
 (none, .kp [0, 1, 5])])
 (.seq (.blk 0 (.lp pc159l0))
 (.seq (.rg [(none, .mv 55 (.t 5)),
 (none, .mv 4 (.t 55)),
 (none, .kp [4])])
 (.rt)))))
theorem mr159 : MrT Try.prog 159 pc159 [.t 4] 56 := fun hn h => spec_of_run (fn := Try.f159) (by kernel_rfl) rfl (by kernel_rfl) (by kernel_rfl) hn h
theorem mk159 : MkT Try.prog 159 pc159 [.t 4] 56 := mr159.k
theorem mw159 : MwT Try.prog 159 pc159 [.t 4] 56 := mr159.w
-- 160 spec.l22Chain
def pc160l0 : PC := .seq (.seq (.rg [(none, .mv 9 (.t 0)),
 (none, .mv 10 (.t 1)),
 (none, .ia 11 7 (.t 9) (.t 10)),
 (none, .fa 12 4 (.t 11)),
 (none, .ld 13 none (.t 12)),
 (none, .un 14 .not (.t 13)),
 (none, .kp [0, 1, 5, 14])])
 (.ite (.t 14) (.sk)
 (.ex 0)))
 (.blk 1 (.seq (.rg [(none, .mv 15 (.t 0)),
 (none, .mv 16 (.t 0)),
 (none, .mv 17 (.t 1)),
 (none, .ia 18 7 (.t 16) (.t 17)),
 (none, .fa 19 0 (.t 18)),
 (none, .ld 20 none (.t 19)),
 (none, .ca (some 21) 71 [.t 20, .c (.n .i64 1)]),
 (none, .ca (some 22) 80 [.t 15, .t 21]),
 (none, .mv 6 (.t 22)),
 (none, .kp [0, 1, 5, 6])])
 (.seq (.seq (.dr [[], [0], [0, 1], [0, 1, 2], [0, 1, 2], [0, 1, 2, 3, 4], [0, 1, 2, 3, 4, 5], [0, 1, 2, 3, 4, 5, 6], [0, 1, 2, 3, 4, 5, 6, 7], [0, 1, 2, 3, 4, 5, 6, 7, 8], [0, 1, 2, 3, 4, 5, 6, 7, 8, 9], [0, 1, 2, 3, 4, 5, 6, 7, 8, 9], [0, 1, 2, 3, 4, 5, 6, 7, 8, 9, 10, 11], [0, 1, 2, 3, 4, 5, 6, 7, 8, 9, 10, 11, 12], [0, 1, 2, 3, 4, 5, 6, 7, 8, 9], [0, 1, 2, 3, 4, 5, 6, 7, 8, 9], [0, 1, 2, 3, 4, 5, 6, 7, 8, 9, 14, 15], [0, 1, 2, 3, 4, 5, 6, 7, 8, 9, 14, 15, 16], [0, 1, 2, 3, 4, 5, 6, 7, 8, 9, 10, 11, 12, 13, 14, 15, 16, 17], [0, 1, 2, 3, 4, 5, 6, 7, 8, 9, 10, 11, 12, 13, 14, 15, 16, 17, 18], [0, 1, 2, 3, 4, 5, 6, 7, 8, 9, 10, 11, 12, 13, 14, 15, 16, 17, 18, 19], [0, 1, 2, 3, 4, 5, 6, 7, 8, 9, 10, 11, 12, 13, 14, 15, 16, 17, 18, 19, 20], [0, 1, 2, 3, 4, 5, 6, 7, 8, 9, 10, 11, 12, 13, 14, 15, 16, 17, 18, 19, 20, 21], [0, 1, 2, 3, 4, 5, 6, 7, 8, 9, 10, 11, 12, 13, 14, 15, 16, 17, 18, 19, 20, 21, 22], [0, 1, 2, 3, 4, 5, 6, 7, 8, 9, 10, 11, 12, 13, 14, 15, 16, 17, 18, 19, 20, 21, 22, 23], [0, 1, 2, 3, 4, 5, 6, 7, 8, 9, 10, 11, 12, 13, 14, 15, 16, 17, 18, 19, 20, 21, 22, 23, 24]]
 (.q 0 (none, .mv 23 (.t 6))
 (.q 1 (none, .bi 24 .lss (.t 23) (.c (.n .i64 0)))
 (.q 2 (none, .mv 25 (.t 24))
 (.q 3 (some (25, false), .mv 26 (.t 0))
 (.q 4 (some (25, false), .mv 27 (.t 6))
 (.q 5 (some (25, false), .ia 28 7 (.t 26) (.t 27))
 (.q 6 (some (25, false), .fa 29 3 (.t 28))
 (.q 7 (some (25, false), .ld 30 none (.t 29))
 (.q 8 (none, .pk 31 (.t 25) (.c (.b true)) (.t 30))
 (.q 9 (none, .mv 32 (.t 31))
 (.q 10 (some (32, false), .mv 33 (.t 0))
 (.q 11 (some (32, false), .mv 34 (.t 1))
 (.q 12 (some (32, false), .ia 35 7 (.t 33) (.t 34))
 (.q 13 (some (32, false), .ld 36 (some 7) (.t 35))
 (.q 14 (some (32, false), .mv 37 (.t 0))
 (.q 15 (some (32, false), .mv 38 (.t 6))
 (.q 16 (some (32, false), .ia 39 7 (.t 37) (.t 38))
 (.q 17 (some (32, false), .ld 40 (some 7) (.t 39))
 (.alt 18 (some (32, false), .ca (some 41) 204 [.t 36, .t 40]) [false, false, false, false, false, false, false, false, false, false, false, false, false, false, false, false, false, false]
 (.q 19 (some (32, false), .un 42 .not (.t 41))
 (.q 20 (none, .pk 43 (.t 32) (.c (.b true)) (.t 42))
 (.q 21 (none, .mv 44 (.t 43))
 (.q 22 (some (44, false), .mv 45 (.t 5))
 (.q 23 (some (44, false), .ln 46 (.t 45))
 (.q 24 (some (44, false), .bi 47 .gtr (.t 46) (.c (.n .i64 12)))
 (.q 25 (none, .pk 48 (.t 44) (.c (.b true)) (.t 47))
 (.done))))))))
 (.stop)))))))))))))))))))) [0, 5, 6, 48])
 (.ite (.t 48) (.seq (.rg [(none, .bs 49 1 0 [.n .i64 0] []),
 (none, .mv 4 (.t 49)),
 (none, .kp [4])])
 (.rt))
 (.sk)))
 (.seq (.rg [(none, .mv 50 (.t 5)),
 (none, .mv 51 (.t 6)),
 (none, .bs 52 1 1 [.n .i64 0] [(0, .t 51)]),
 (none, .ap 53 1 8 (.t 50) (.t 52)),
 (none, .mv 5 (.t 53)),
 (none, .kp [0, 5, 6])])
 (.rg [(none, .mv 54 (.t 6)),
 (none, .mv 1 (.t 54)),
 (none, .kp [0, 1, 5])])))))
def pc160 : PC := .seq (.rg [(none, .mv 4 (.c .nil)),
 (none, .kp [0, 1])])
 (.seq (.rg [(none, .mv 7 (.t 1)),
 (none, .bs 8 1 1 [.n .i64 0] [(0, .t 7)]),
 (none, .mv 5 (.t 8)),
 (none, .kp [0, 1, 5])])
 (.seq (.blk 0 (.lp pc160l0))
 (.seq (.rg [(none, .mv 55 (.t 5)),
 (none, .mv 4 (.t 55)),
 (none, .kp [4])])
 (.rt))))
theorem mr160 : MrT Try.prog 160 pc160 [.t 4] 56 := fun hn h => spec_of_run (fn := Try.f160) (by kernel_rfl) rfl (by kernel_rfl) (by kernel_rfl) hn h
theorem mk160 : MkT Try.prog 160 pc160 [.t 4] 56 := mr160.k
theorem mw160 : MwT Try.prog 160 pc160 [.t 4] 56 := mr160.w
-- 161 spec.l21Has
def pc161l0 : PC := .seq (.seq (.rg [(none, .mv 6 (.t 5)),
 (none, .mv 7 (.t 0)),
 (none, .ln 8 (.t 7)),
 (none, .bi 9 .lss (.t 6) (.t 8)),
 (none, .kp [0, 1, 5, 9])])
 (.ite (.t 9) (.sk)
 (.ex 0)))
 (.seq (.blk 1 (.seq (.rg [(none, .mv 12 (.t 0)),
 (none, .mv 13 (.t 5)),
 (none, .ia 14 1 (.t 12) (.t 13)),
 (none, .ld 15 none (.t 14)),
 (none, .mv 16 (.t 1)),
 (none, .bi 17 .eql (.t 15) (.t 16)),
 (none, .kp [0, 1, 5, 17])])
 (.ite (.t 17) (.seq (.rg [(none, .mv 4 (.c (.b true))),
 (none, .kp [4])])
 (.rt))
 (.sk))))
 (.rg [(none, .mv 10 (.t 5)),
 (none, .bi 11 .add (.t 10) (.c (.n .i64 1))),
 (none, .mv 5 (.t 11)),
 (none, .kp [0, 1, 5])]))
def pc161 : PC := .seq (.rg [(none, .mv 4 (.c (.b false))),
 (none, .kp [0, 1])])
 (.seq (.seq (.rg [(none, .mv 5 (.c (.n .i64 0))),
 (none, .kp [0, 1, 5])])
 (.blk 0 (.lp pc161l0)))
 (.seq (.rg [(none, .mv 4 (.c (.b false))),
 (none, .kp [4])])
 (.rt)))
theorem mr161 : MrT Try.prog 161 pc161 [.t 4] 18 := fun hn h => spec_of_run (fn := Try.f161) (by kernel_rfl) rfl (by kernel_rfl) (by kernel_rfl) hn h
theorem mk161 : MkT Try.prog 161 pc161 [.t 4] 18 := mr161.k
theorem mw161 : MwT Try.prog 161 pc161 [.t 4] 18 := mr161.w
-- 164 spec.l12Init
def pc164 : PC := .seq (.rg [(none, .bx 1 (.t 0)),
 (none, .mv 2 (.c (.b false))),
 (none, .kp [1])])
 (.seq (.rg [(none, .fa 3 0 (.t 1)),
 (none, .ld 4 none (.t 3)),
 (none, .ca (some 5) 125 [.t 4, .c (.n .i64 1), .c (.n .i64 4294967295)]),
 (none, .mv 6 (.t 5)),
 (some (6, true), .fa 7 1 (.t 1)),
 (some (6, true), .ld 8 none (.t 7)),
 (some (6, true), .ca (some 9) 125 [.t 8, .c (.n .i64 0), .c (.n .i64 65535)]),
 (none, .pk 10 (.t 6) (.t 9) (.c (.b false))),
 (none, .mv 11 (.t 10)),
 (some (11, true), .fa 12 2 (.t 1)),
 (some (11, true), .ld 13 none (.t 12)),
 (some (11, true), .ca (some 14) 125 [.t 13, .c (.n .i64 1), .c (.n .i64 4)]),
 (none, .pk 15 (.t 11) (.t 14) (.c (.b false))),
 (none, .mv 16 (.t 15)),
 (some (16, true), .fa 17 3 (.t 1)),
 (some (16, true), .ld 18 none (.t 17)),
 (some (16, true), .ca (some 19) 73 [.t 18]),
 (none, .pk 20 (.t 16) (.t 19) (.c (.b false))),
 (none, .mv 2 (.t 20)),
 (none, .kp [2])])
 (.rt))
theorem mr164 : MrT Try.prog 164 pc164 [.t 2] 21 := fun hn h => spec_of_run (fn := Try.f164) (by kernel_rfl) rfl (by kernel_rfl) (by kernel_rfl) hn h
theorem mk164 : MkT Try.prog 164 pc164 [.t 2] 21 := mr164.k
theorem mw164 : MwT Try.prog 164 pc164 [.t 2] 21 := mr164.w
-- 166 spec.l31Ssn
def pc166l0 : PC := .seq (.seq (.rg [(none, .mv 7 (.t 6)),
 (none, .mv 8 (.t 0)),
 (none, .ln 9 (.t 8)),
 (none, .bi 10 .lss (.t 7) (.t 9)),
 (none, .kp [0, 1, 5, 6, 10])])
 (.ite (.t 10) (.sk)
 (.ex 0)))
 (.seq (.blk 1 (.seq (.rg [(none, .mv 13 (.t 0)),
 (none, .mv 14 (.t 6)),
 (none, .ia 15 7 (.t 13) (.t 14)),
 (none, .fa 16 3 (.t 15)),
 (none, .ld 17 none (.t 16)),
 (none, .mv 18 (.t 17)),
 (some (18, true), .mv 19 (.t 0)),
 (some (18, true), .mv 20 (.t 6)),
 (some (18, true), .ia 21 7 (.t 19) (.t 20)),
 (some (18, true), .fa 22 5 (.t 21)),
 (some (18, true), .ld 23 none (.t 22)),
 (some (18, true), .un 24 .not (.t 23)),
 (none, .pk 25 (.t 18) (.t 24) (.c (.b false))),
 (none, .mv 26 (.t 25)),
 (some (26, true), .mv 27 (.t 0)),
 (some (26, true), .mv 28 (.t 6)),
 (some (26, true), .ia 29 7 (.t 27) (.t 28)),
 (some (26, true), .fa 30 1 (.t 29)),
 (some (26, true), .ld 31 none (.t 30)),
 (some (26, true), .mv 32 (.t 1)),
 (some (26, true), .bi 33 .eql (.t 31) (.t 32)),
 (none, .pk 34 (.t 26) (.t 33) (.c (.b false))),
 (none, .kp [0, 1, 5, 6, 34])])
 (.ite (.t 34) (.rg [(none, .mv 35 (.t 5)),
 (none, .bi 36 .add (.t 35) (.c (.n .i64 1))),
 (none, .mv 5 (.t 36)),
 (none, .kp [0, 1, 5, 6])])
 (.sk))))
 (.rg [(none, .mv 11 (.t 6)),
 (none, .bi 12 .add (.t 11) (.c (.n .i64 1))),
 (none, .mv 6 (.t 12)),
 (none, .kp [0, 1, 5, 6])]))
def pc166 : PC := .seq (.rg [(none, .mv 4 (.c (.n .i64 0))),
 (none, .kp [0, 1])])
 (.seq (.rg [(none, .mv 5 (.c (.n .i64 0))),
 (none, .kp [0, 1, 5])])
 (.seq (.seq (.rg [(none, .mv 6 (.c (.n .i64 0))),
 (none, .kp [0, 1, 5, 6])])
 (.blk 0 (.lp pc166l0)))
 (.seq (.rg [(none, .mv 37 (.t 5)),
 (none, .mv 4 (.t 37)),
 (none, .kp [4])])
 (.rt))))
theorem mr166 : MrT Try.prog 166 pc166 [.t 4] 38 := fun hn h => spec_of_run (fn := Try.f166) (by kernel_rfl) rfl (by kernel_rfl) (by kernel_rfl) hn h
theorem mk166 : MkT Try.prog 166 pc166 [.t 4] 38 := mr166.k
theorem mw166 : MwT Try.prog 166 pc166 [.t 4] 38 := mr166.w
-- 201 (*spec.l6Rd).of
def pc201 : PC := .seq (.rg [(none, .mv 4 (.c (.s []))),
 (none, .kp [0, 1])])
 (.seq (.rg [(none, .mv 5 (.t 1)),
 (none, .mv 6 (.t 0)),
 (none, .mv 7 (.t 1)),
 (none, .ln 8 (.t 7)),
 (none, .ca (some 9) 69 [.t 6, .t 8]),
 (none, .ia 10 1 (.t 5) (.t 9)),
 (none, .ld 11 none (.t 10)),
 (none, .mv 4 (.t 11)),
 (none, .kp [4])])
 (.rt))
theorem mr201 : MrT Try.prog 201 pc201 [.t 4] 12 := fun hn h => spec_of_run (fn := Try.f201) (by kernel_rfl) rfl (by kernel_rfl) (by kernel_rfl) hn h
theorem mk201 : MkT Try.prog 201 pc201 [.t 4] 12 := mr201.k
theorem mw201 : MwT Try.prog 201 pc201 [.t 4] 12 := mr201.w
-- 202 spec.TalkParts
def pc202 : PC := .seq (.rg [(none, .bx 2 (.t 0)),
 (none, .mv 4 (.c .nil)),
 (none, .kp [1, 2])])
 (.seq (.seq (.rg [(none, .ld 5 (some 12) (.t 2)),
 (none, .ca (some 6) 92 [.t 5]),
 (none, .un 7 .not (.t 6)),
 (none, .kp [1, 2, 7])])
 (.ite (.t 7) (.seq (.rg [(none, .bs 8 7 0 [.n .i64 0, .n .i64 0, .n .i64 0, .b false, .b false, .b false, .s []] []),
 (none, .mv 4 (.t 8)),
 (none, .kp [4])])
 (.rt))
 (.sk)))
 (.seq (.rg [(none, .ld 9 (some 12) (.t 2)),
 (none, .mv 10 (.t 1)),
 (none, .ca (some 11) 94 [.t 9, .t 10]),
 (none, .mv 4 (.t 11)),
 (none, .kp [4])])
 (.rt)))
theorem mr202 : MrT Try.prog 202 pc202 [.t 4] 12 := fun hn h => spec_of_run (fn := Try.f202) (by kernel_rfl) rfl (by kernel_rfl) (by kernel_rfl) hn h
theorem mk202 : MkT Try.prog 202 pc202 [.t 4] 12 := mr202.k
theorem mw202 : MwT Try.prog 202 pc202 [.t 4] 12 := mr202.w
-- 203 impl.likeParts
def pc203 : PC := .seq (.rg [(none, .bx 2 (.t 0)),
 (none, .bx 3 (.t 1)),
 (none, .mv 4 (.c (.b false))),
 (none, .kp [2, 3])])
 (.seq (.rg [(none, .fa 5 1 (.t 2)),
 (none, .ld 6 none (.t 5)),
 (none, .fa 7 1 (.t 3)),
 (none, .ld 8 none (.t 7)),
 (none, .bi 9 .eql (.t 6) (.t 8)),
 (none, .mv 10 (.t 9)),
 (some (10, true), .fa 11 2 (.t 2)),
 (some (10, true), .ld 12 none (.t 11)),
 (some (10, true), .fa 13 2 (.t 3)),
 (some (10, true), .ld 14 none (.t 13)),
 (some (10, true), .bi 15 .eql (.t 12) (.t 14)),
 (none, .pk 16 (.t 10) (.t 15) (.c (.b false))),
 (none, .mv 17 (.t 16)),
 (some (17, true), .fa 18 5 (.t 2)),
 (some (17, true), .ld 19 none (.t 18)),
 (some (17, true), .fa 20 5 (.t 3)),
 (some (17, true), .ld 21 none (.t 20)),
 (some (17, true), .bb 22 false (.t 19) (.t 21)),
 (none, .pk 23 (.t 17) (.t 22) (.c (.b false))),
 (none, .mv 4 (.t 23)),
 (none, .kp [4])])
 (.rt))
theorem mr203 : MrT Try.prog 203 pc203 [.t 4] 24 := fun hn h => spec_of_run (fn := Try.f203) (by kernel_rfl) rfl (by kernel_rfl) (by kernel_rfl) hn h
theorem mk203 : MkT Try.prog 203 pc203 [.t 4] 24 := mr203.k
theorem mw203 : MwT Try.prog 203 pc203 [.t 4] 24 := mr203.w
-- 204 spec.l22Same
def pc204 : PC := .seq (.rg [(none, .bx 2 (.t 0)),
 (none, .bx 3 (.t 1)),
 (none, .mv 4 (.c (.b false))),
 (none, .kp [2, 3])])
 (.seq (.rg [(none, .fa 5 1 (.t 2)),
 (none, .ld 6 none (.t 5)),
 (none, .fa 7 1 (.t 3)),
 (none, .ld 8 none (.t 7)),
 (none, .bi 9 .eql (.t 6) (.t 8)),
 (none, .mv 10 (.t 9)),
 (some (10, true), .fa 11 2 (.t 2)),
 (some (10, true), .ld 12 none (.t 11)),
 (some (10, true), .fa 13 2 (.t 3)),
 (some (10, true), .ld 14 none (.t 13)),
 (some (10, true), .bi 15 .eql (.t 12) (.t 14)),
 (none, .pk 16 (.t 10) (.t 15) (.c (.b false))),
 (none, .mv 17 (.t 16)),
 (some (17, true), .fa 18 5 (.t 2)),
 (some (17, true), .ld 19 none (.t 18)),
 (some (17, true), .fa 20 5 (.t 3)),
 (some (17, true), .ld 21 none (.t 20)),
 (some (17, true), .bb 22 false (.t 19) (.t 21)),
 (none, .pk 23 (.t 17) (.t 22) (.c (.b false))),
 (none, .mv 4 (.t 23)),
 (none, .kp [4])])
 (.rt))
theorem mr204 : MrT Try.prog 204 pc204 [.t 4] 24 := fun hn h => spec_of_run (fn := Try.f204) (by kernel_rfl) rfl (by kernel_rfl) (by kernel_rfl) hn h
theorem mk204 : MkT Try.prog 204 pc204 [.t 4] 24 := mr204.k
theorem mw204 : MwT Try.prog 204 pc204 [.t 4] 24 := mr204.w
end Go.Cap
