import Derived.Test.YtghpfcefecedcaaChecked
import Derived.Test.YtghpfcefecedcaaEngC
namespace Go.Cap
open Go Go.Proofs
set_option maxRecDepth 100000
-- 10 laws.FnExactMonitorFind
def pc10 : PC := .seq (.rg [(none, .bx 3 (.t 0)),
 (none, .mv 6 (.c (.b false))),
 (none, .kp [1, 2, 3])])
 (.seq (.rg [(none, .mv 7 (.c (.n .i64 1048576))),
 (none, .kp [1, 2, 3, 7])])
 (.seq (.rg [(none, .ld 13 (some 3) (.t 3)),
 (none, .mv 14 (.t 7)),
 (none, .ca (some 15) 42 [.t 13, .t 14]),
 (none, .mv 7 (.t 15)),
 (none, .kp [1, 2, 3, 7])])
 (.seq (.seq (.rg [(none, .mv 16 (.t 7)),
 (none, .bi 17 .lss (.t 16) (.c (.n .i64 0))),
 (none, .kp [1, 2, 3, 17])])
 (.ite (.t 17) (.seq (.rg [(none, .mv 6 (.c (.b true))),
 (none, .kp [6])])
 (.rt))
 (.sk)))
 (.seq (.rg [(none, .ld 19 (some 3) (.t 3)),
 (none, .ca (some 20) 44 [.t 19]),
 (none, .mv 21 (.t 1)),
 (none, .mv 22 (.t 2)),
 (none, .ca (some 23) 47 [.t 20, .t 21, .t 22]),
 (none, .mv 18 (.t 23)),
 (none, .ex 24 (.t 18) 0),
 (none, .ex 25 (.t 18) 1),
 (none, .mv 8 (.t 24)),
 (none, .mv 9 (.t 25)),
 (none, .kp [1, 2, 3, 8, 9])])
 (.seq (.rg [(none, .ld 26 (some 3) (.t 3)),
 (none, .ca (some 27) 44 [.t 26]),
 (none, .al 10 [.n .i64 0, .nil, .nil]),
 (none, .st 3 (.t 10) (.t 27)),
 (none, .kp [1, 2, 3, 8, 9, 10])])
 (.seq (.rg [(none, .ld 29 (some 3) (.t 10)),
 (none, .mv 30 (.t 1)),
 (none, .mv 31 (.t 2)),
 (none, .ca (some 32) 48 [.t 29, .t 30, .t 31]),
 (none, .mv 28 (.t 32)),
 (none, .ex 33 (.t 28) 0),
 (none, .ex 34 (.t 28) 1),
 (none, .mv 11 (.t 33)),
 (none, .mv 12 (.t 34)),
 (none, .kp [3, 8, 9, 10, 11, 12])])
 (.seq (.seq (.rg [(none, .mv 35 (.t 11)),
 (none, .mv 36 (.t 8)),
 (none, .bi 37 .neq (.t 35) (.t 36)),
 (none, .mv 38 (.t 37)),
 (some (38, false), .mv 39 (.t 12)),
 (some (38, false), .mv 40 (.t 9)),
 (some (38, false), .bb 41 true (.t 39) (.t 40)),
 (none, .pk 42 (.t 38) (.c (.b true)) (.t 41)),
 (none, .kp [3, 10, 42])])
 (.ite (.t 42) (.seq (.rg [(none, .mv 6 (.c (.b false))),
 (none, .kp [6])])
 (.rt))
 (.sk)))
 (.seq (.seq (.dr [[], [], [1], [0, 1, 2], [0, 1, 2, 3]]
 (.q 0 (none, .ld 43 (some 3) (.t 10))
 (.q 1 (none, .ld 44 (some 3) (.t 3))
 (.alt 2 (none, .ca (some 45) 44 [.t 44]) [true, false]
 (.alt 3 (none, .ca (some 46) 46 [.t 43, .t 45]) [false, false]
 (.q 4 (none, .un 47 .not (.t 46))
 (.done))
 (.stop))
 (.stop)))) [47])
 (.ite (.t 47) (.seq (.rg [(none, .mv 6 (.c (.b false))),
 (none, .kp [6])])
 (.rt))
 (.sk)))
 (.seq (.rg [(none, .mv 6 (.c (.b true))),
 (none, .kp [6])])
 (.rt))))))))))
theorem mr10 : MrT Try.prog 10 pc10 [.t 6] 48 := fun hn h => spec_of_run (fn := Try.f10) (by kernel_rfl) rfl (by kernel_rfl) (by kernel_rfl) hn h
theorem mk10 : MkT Try.prog 10 pc10 [.t 6] 48 := mr10.k
theorem mw10 : MwT Try.prog 10 pc10 [.t 6] 48 := mr10.w
-- 42 laws.szMonitor
def pc42 : PC := .seq (.rg [(none, .bx 2 (.t 0)),
 (none, .mv 4 (.c (.n .i64 0))),
 (none, .kp [1, 2])])
 (.seq (.rg [(none, .fa 5 1 (.t 2)),
 (none, .ld 6 none (.t 5)),
 (none, .mv 7 (.t 1)),
 (none, .ca (some 8) 119 [.t 6, .t 7]),
 (none, .mv 1 (.t 8)),
 (none, .kp [1, 2])])
 (.seq (.seq (.rg [(none, .mv 9 (.t 1)),
 (none, .bi 10 .lss (.t 9) (.c (.n .i64 0))),
 (none, .kp [1, 2, 10])])
 (.ite (.t 10) (.seq (.rg [(none, .mv 4 (.c (.n .i64 (-1)))),
 (none, .kp [4])])
 (.rt))
 (.sk)))
 (.seq (.rg [(none, .fa 11 2 (.t 2)),
 (none, .ld 12 none (.t 11)),
 (none, .mv 13 (.t 1)),
 (none, .ca (some 14) 120 [.t 12, .t 13]),
 (none, .mv 1 (.t 14)),
 (none, .kp [1])])
 (.seq (.seq (.rg [(none, .mv 15 (.t 1)),
 (none, .bi 16 .lss (.t 15) (.c (.n .i64 0))),
 (none, .kp [1, 16])])
 (.ite (.t 16) (.seq (.rg [(none, .mv 4 (.c (.n .i64 (-1)))),
 (none, .kp [4])])
 (.rt))
 (.sk)))
 (.seq (.rg [(none, .mv 17 (.t 1)),
 (none, .mv 4 (.t 17)),
 (none, .kp [4])])
 (.rt))))))
theorem mr42 : MrT Try.prog 42 pc42 [.t 4] 18 := fun hn h => spec_of_run (fn := Try.f42) (by kernel_rfl) rfl (by kernel_rfl) (by kernel_rfl) hn h
theorem mk42 : MkT Try.prog 42 pc42 [.t 4] 18 := mr42.k
theorem mw42 : MwT Try.prog 42 pc42 [.t 4] 18 := mr42.w
-- 43 spec.MonitorValid
def pc43l0 : PC := .seq (.seq (.rg [(none, .mv 29 (.t 4)),
 (none, .mv 30 (.t 3)),
 (none, .bi 31 .lss (.t 29) (.t 30)),
 (none, .kp [1, 3, 4, 31])])
 (.ite (.t 31) (.sk)
 (.ex 2)))
 (.seq (.blk 3 (.seq (.dr [[], [0], [], [0, 1, 2], [0, 1, 2, 3], [], [5], [], [5, 6, 7], [5, 6, 7, 8], [0, 1, 2, 3, 4, 5, 6, 7, 8, 9]]
 (.q 0 (none, .fa 34 1 (.t 1))
 (.q 1 (none, .ld 35 none (.t 34))
 (.q 2 (none, .mv 36 (.t 4))
 (.q 3 (none, .ia 37 14 (.t 35) (.t 36))
 (.q 4 (none, .ld 38 (some 14) (.t 37))
 (.q 5 (none, .fa 39 1 (.t 1))
 (.q 6 (none, .ld 40 none (.t 39))
 (.q 7 (none, .mv 41 (.t 3))
 (.q 8 (none, .ia 42 14 (.t 40) (.t 41))
 (.q 9 (none, .ld 43 (some 14) (.t 42))
 (.alt 10 (none, .ca (some 44) 122 [.t 38, .t 43]) [false, false, false, false, false, false, false, false, false, false]
 (.done)
 (.stop)))))))))))) [1, 3, 4, 44])
 (.ite (.t 44) (.seq (.rg [(none, .mv 2 (.c (.b false))),
 (none, .kp [2])])
 (.rt))
 (.sk))))
 (.rg [(none, .mv 32 (.t 4)),
 (none, .bi 33 .add (.t 32) (.c (.n .i64 1))),
 (none, .mv 4 (.t 33)),
 (none, .kp [1, 3, 4])]))
def pc43l1 : PC := .seq (.seq (.rg [(none, .mv 6 (.t 3)),
 (none, .fa 7 1 (.t 1)),
 (none, .ld 8 none (.t 7)),
 (none, .ln 9 (.t 8)),
 (none, .bi 10 .lss (.t 6) (.t 9)),
 (none, .kp [1, 3, 10])])
 (.ite (.t 10) (.sk)
 (.ex 0)))
 (.seq (.blk 1 (.seq (.seq (.rg [(none, .fa 13 1 (.t 1)),
 (none, .ld 14 none (.t 13)),
 (none, .mv 15 (.t 3)),
 (none, .ia 16 14 (.t 14) (.t 15)),
 (none, .ld 17 (some 14) (.t 16)),
 (none, .ca (some 18) 121 [.t 17]),
 (none, .un 19 .not (.t 18)),
 (none, .mv 20 (.t 19)),
 (some (20, false), .fa 21 1 (.t 1)),
 (some (20, false), .ld 22 none (.t 21)),
 (some (20, false), .mv 23 (.t 3)),
 (some (20, false), .ia 24 14 (.t 22) (.t 23)),
 (some (20, false), .fa 25 2 (.t 24)),
 (some (20, false), .ld 26 none (.t 25)),
 (some (20, false), .bi 27 .eql (.t 26) (.c (.n .i64 0))),
 (none, .pk 28 (.t 20) (.c (.b true)) (.t 27)),
 (none, .kp [1, 3, 28])])
 (.ite (.t 28) (.seq (.rg [(none, .mv 2 (.c (.b false))),
 (none, .kp [2])])
 (.rt))
 (.sk)))
 (.seq (.rg [(none, .mv 4 (.c (.n .i64 0))),
 (none, .kp [1, 3, 4])])
 (.blk 2 (.lp pc43l0)))))
 (.rg [(none, .mv 11 (.t 3)),
 (none, .bi 12 .add (.t 11) (.c (.n .i64 1))),
 (none, .mv 3 (.t 12)),
 (none, .kp [1, 3])]))
def pc43l2 : PC := .seq (.seq (.rg [(none, .mv 45 (.t 5)),
 (none, .fa 46 2 (.t 1)),
 (none, .ld 47 none (.t 46)),
 (none, .ln 48 (.t 47)),
 (none, .bi 49 .lss (.t 45) (.t 48)),
 (none, .kp [1, 5, 49])])
 (.ite (.t 49) (.sk)
 (.ex 4)))
 (.seq (.blk 5 (.seq (.dr [[], [0], [], [0, 1, 2], [0, 1, 2, 3], [], [5], [0, 1, 2, 3, 4, 5, 6], [0, 1, 2, 3, 4, 5, 6, 7], [0, 1, 2, 3, 4, 5, 6, 7, 8], [0, 1, 2, 3, 4, 5, 6, 7, 8, 9], [0, 1, 2, 3, 4, 5, 6, 7, 8, 9, 10], [0, 1, 2, 3, 4, 5, 6, 7, 8, 9, 10, 11], [0, 1, 2, 3, 4, 5, 6, 7, 8, 9, 10, 11, 12], [0, 1, 2, 3, 4, 5, 6, 7, 8, 9, 10, 11, 12, 13], [0, 1, 2, 3, 4, 5, 6, 7, 8, 9, 10, 11, 12], [0, 1, 2, 3, 4, 5, 6, 7, 8, 9, 10, 11, 12, 15], [0, 1, 2, 3, 4, 5, 6, 7, 8, 9, 10, 11, 12, 13, 14, 15, 16], [0, 1, 2, 3, 4, 5, 6, 7, 8, 9, 10, 11, 12, 13, 14, 15, 16, 17], [0, 1, 2, 3, 4, 5, 6, 7, 8, 9, 10, 11, 12], [0, 1, 2, 3, 4, 5, 6, 7, 8, 9, 10, 11, 12, 19], [0, 1, 2, 3, 4, 5, 6, 7, 8, 9, 10, 11, 12], [0, 1, 2, 3, 4, 5, 6, 7, 8, 9, 10, 11, 12, 19, 20, 21], [0, 1, 2, 3, 4, 5, 6, 7, 8, 9, 10, 11, 12, 19, 20, 21, 22], [0, 1, 2, 3, 4, 5, 6, 7, 8, 9, 10, 11, 12, 13, 14, 15, 16, 17, 18, 19, 20, 21, 22, 23], [0, 1, 2, 3, 4, 5, 6, 7, 8, 9, 10, 11, 12, 13, 14, 15, 16, 17, 18, 19, 20, 21, 22, 23, 24], [0, 1, 2, 3, 4, 5, 6, 7, 8, 9, 10, 11, 12, 13, 14, 15, 16, 17, 18, 19, 20, 21, 22, 23, 24, 25], [0, 1, 2, 3, 4, 5, 6, 7, 8, 9, 10, 11, 12, 13, 14, 15, 16, 17, 18, 19, 20, 21, 22, 23, 24, 25, 26]]
 (.q 0 (none, .fa 52 2 (.t 1))
 (.q 1 (none, .ld 53 none (.t 52))
 (.q 2 (none, .mv 54 (.t 5))
 (.q 3 (none, .ia 55 2 (.t 53) (.t 54))
 (.q 4 (none, .ld 56 (some 2) (.t 55))
 (.q 5 (none, .fa 57 0 (.t 1))
 (.q 6 (none, .ld 58 none (.t 57))
 (.alt 7 (none, .ca (some 59) 123 [.t 56, .t 58]) [false, false, false, false, false, false, false]
 (.q 8 (none, .un 60 .not (.t 59))
 (.q 9 (none, .mv 61 (.t 60))
 (.q 10 (some (61, false), .mv 62 (.t 5))
 (.q 11 (some (61, false), .bi 63 .gtr (.t 62) (.c (.n .i64 0)))
 (.q 12 (some (61, false), .mv 64 (.t 63))
 (.q 13 (some (64, true), .fa 65 2 (.t 1))
 (.q 14 (some (64, true), .ld 66 none (.t 65))
 (.q 15 (some (64, true), .mv 67 (.t 5))
 (.q 16 (some (64, true), .bi 68 .sub (.t 67) (.c (.n .i64 1)))
 (.q 17 (some (64, true), .ia 69 2 (.t 66) (.t 68))
 (.q 18 (some (64, true), .ld 70 (some 2) (.t 69))
 (.q 19 (some (64, true), .fa 71 2 (.t 1))
 (.q 20 (some (64, true), .ld 72 none (.t 71))
 (.q 21 (some (64, true), .mv 73 (.t 5))
 (.q 22 (some (64, true), .ia 74 2 (.t 72) (.t 73))
 (.q 23 (some (64, true), .ld 75 (some 2) (.t 74))
 (.alt 24 (some (64, true), .ca (some 76) 124 [.t 70, .t 75]) [false, false, false, false, false, false, false, false, false, false, false, false, false, false, false, false, false, false, false, false, false, false, false]
 (.q 25 (some (64, true), .un 77 .not (.t 76))
 (.q 26 (some (61, false), .pk 78 (.t 64) (.t 77) (.c (.b false)))
 (.q 27 (none, .pk 79 (.t 61) (.c (.b true)) (.t 78))
 (.done))))
 (.stop))))))))))))))))))
 (.stop))))))))) [1, 5, 79])
 (.ite (.t 79) (.seq (.rg [(none, .mv 2 (.c (.b false))),
 (none, .kp [2])])
 (.rt))
 (.sk))))
 (.rg [(none, .mv 50 (.t 5)),
 (none, .bi 51 .add (.t 50) (.c (.n .i64 1))),
 (none, .mv 5 (.t 51)),
 (none, .kp [1, 5])]))
def pc43 : PC := .seq (.rg [(none, .bx 1 (.t 0)),
 (none, .mv 2 (.c (.b false))),
 (none, .kp [1])])
 (.seq (.seq (.rg [(none, .mv 3 (.c (.n .i64 0))),
 (none, .kp [1, 3])])
 (.blk 0 (.lp pc43l1)))
 (.seq (.seq (.rg [(none, .mv 5 (.c (.n .i64 0))),
 (none, .kp [1, 5])])
 (.blk 4 (.lp pc43l2)))
 (.seq (.rg [(none, .fa 80 0 (.t 1)),
 (none, .ld 81 none (.t 80)),
 (none, .ca (some 82) 125 [.t 81, .c (.n .i64 0), .c (.n .i64 60)]),
 (none, .mv 83 (.t 82)),
 (some (83, true), .fa 84 1 (.t 1)),
 (some (83, true), .ld 85 none (.t 84)),
 (some (83, true), .ln 86 (.t 85)),
 (some (83, true), .bi 87 .leq (.t 86) (.c (.n .i64 3))),
 (none, .pk 88 (.t 83) (.t 87) (.c (.b false))),
 (none, .mv 2 (.t 88)),
 (none, .kp [2])])
 (.rt))))
theorem mr43 : MrT Try.prog 43 pc43 [.t 2] 89 := fun hn h => spec_of_run (fn := Try.f43) (by kernel_rfl) rfl (by kernel_rfl) (by kernel_rfl) hn h
theorem mk43 : MkT Try.prog 43 pc43 [.t 2] 89 := mr43.k
theorem mw43 : MwT Try.prog 43 pc43 [.t 2] 89 := mr43.w
-- 44 laws.toMonitor
def pc44 : PC := .seq (.rg [(none, .bx 1 (.t 0)),
 (none, .al 2 [.n .i64 0, .nil, .nil]),
 (none, .kp [1, 2])])
 (.seq (.rg [(none, .al 3 [.n .i64 0, .nil, .nil]),
 (none, .kp [1, 2, 3])])
 (.seq (.rg [(none, .fa 4 0 (.t 1)),
 (none, .ld 5 none (.t 4)),
 (none, .fa 6 0 (.t 3)),
 (none, .st 1 (.t 6) (.t 5)),
 (none, .kp [1, 2, 3])])
 (.seq (.rg [(none, .fa 7 1 (.t 1)),
 (none, .ld 8 none (.t 7)),
 (none, .ca (some 9) 126 [.t 8]),
 (none, .fa 10 1 (.t 3)),
 (none, .st 1 (.t 10) (.t 9)),
 (none, .kp [1, 2, 3])])
 (.seq (.rg [(none, .fa 11 2 (.t 1)),
 (none, .ld 12 none (.t 11)),
 (none, .ca (some 13) 127 [.t 12]),
 (none, .fa 14 2 (.t 3)),
 (none, .st 1 (.t 14) (.t 13)),
 (none, .kp [2, 3])])
 (.seq (.rg [(none, .ld 15 (some 3) (.t 3)),
 (none, .st 3 (.t 2) (.t 15)),
 (none, .kp [2])])
 (.rt))))))
theorem mr44 : MrT Try.prog 44 pc44 [.c 2 (some 3)] 16 := fun hn h => spec_of_run (fn := Try.f44) (by kernel_rfl) rfl (by kernel_rfl) (by kernel_rfl) hn h
theorem mk44 : MkT Try.prog 44 pc44 [.c 2 (some 3)] 16 := mr44.k
theorem mw44 : MwT Try.prog 44 pc44 [.c 2 (some 3)] 16 := mr44.w
-- 45 impl.MonitorValid
def pc45l0 : PC := .seq (.rg [(none, .bi 43 .lss (.t 42) (.t 41)),
 (none, .kp [1, 4, 22, 23, 24, 40, 41, 42, 43])])
 (.seq (.ite (.t 43) (.sk)
 (.ex 2))
 (.seq (.blk 3 (.seq (.rg [(none, .ia 44 14 (.t 40) (.t 42)),
 (none, .ld 45 (some 14) (.t 44)),
 (none, .al 6 [.n .i64 0, .n .i64 0, .n .i64 0, .b false, .n .i64 0, .n .i64 0, .n .i64 0, .nil, .n .i64 0, .n .i64 0, .n .i64 0, .n .i64 0, .nil, .n .i64 0]),
 (none, .st 14 (.t 6) (.t 45)),
 (none, .kp [1, 4, 6, 22, 23, 24, 40, 41, 42])])
 (.seq (.rg [(none, .ld 46 (some 14) (.t 6)),
 (none, .fa 47 0 (.t 4)),
 (none, .ld 48 none (.t 47)),
 (none, .fa 49 1 (.t 4)),
 (none, .ld 50 none (.t 49)),
 (none, .ca (some 51) 129 [.t 46, .t 48, .t 50]),
 (none, .kp [1, 4, 22, 23, 24, 40, 41, 42, 51])])
 (.ite (.t 51) (.seq (.rg [(none, .mv 2 (.c (.b false))),
 (none, .kp [2])])
 (.rt))
 (.sk)))))
 (.rg [(none, .bi 52 .add (.t 42) (.c (.n .i64 1))),
 (none, .mv 42 (.t 52)),
 (none, .kp [1, 4, 22, 23, 24, 40, 41, 42])])))
def pc45l1 : PC := .seq (.rg [(none, .bi 25 .lss (.t 24) (.t 23)),
 (none, .kp [1, 22, 23, 24, 25])])
 (.seq (.ite (.t 25) (.sk)
 (.ex 0))
 (.seq (.blk 1 (.seq (.rg [(none, .mv 26 (.t 24)),
 (none, .ia 27 14 (.t 22) (.t 24)),
 (none, .ld 28 (some 14) (.t 27)),
 (none, .al 4 [.n .i64 0, .n .i64 0, .n .i64 0, .b false, .n .i64 0, .n .i64 0, .n .i64 0, .nil, .n .i64 0, .n .i64 0, .n .i64 0, .n .i64 0, .nil, .n .i64 0]),
 (none, .mv 3 (.t 26)),
 (none, .st 14 (.t 4) (.t 28)),
 (none, .kp [1, 3, 4, 22, 23, 24])])
 (.seq (.seq (.rg [(none, .ld 29 (some 14) (.t 4)),
 (none, .ca (some 30) 128 [.t 29]),
 (none, .un 31 .not (.t 30)),
 (none, .mv 32 (.t 31)),
 (some (32, false), .fa 33 2 (.t 4)),
 (some (32, false), .ld 34 none (.t 33)),
 (some (32, false), .bi 35 .eql (.t 34) (.c (.n .i64 0))),
 (none, .pk 36 (.t 32) (.c (.b true)) (.t 35)),
 (none, .kp [1, 3, 4, 22, 23, 24, 36])])
 (.ite (.t 36) (.seq (.rg [(none, .mv 2 (.c (.b false))),
 (none, .kp [2])])
 (.rt))
 (.sk)))
 (.seq (.rg [(none, .fa 37 1 (.t 1)),
 (none, .ld 38 none (.t 37)),
 (none, .mv 39 (.t 3)),
 (none, .sc 40 14 (.t 38) none (some (.t 39))),
 (none, .ln 41 (.t 40)),
 (none, .mv 42 (.c (.n .i64 0))),
 (none, .kp [1, 4, 22, 23, 24, 40, 41, 42])])
 (.blk 2 (.lp pc45l0))))))
 (.rg [(none, .bi 53 .add (.t 24) (.c (.n .i64 1))),
 (none, .mv 24 (.t 53)),
 (none, .kp [1, 22, 23, 24])])))
def pc45 : PC := .seq (.rg [(none, .bx 1 (.t 0)),
 (none, .mv 2 (.c (.b false))),
 (none, .kp [1])])
 (.seq (.seq (.rg [(none, .fa 7 0 (.t 1)),
 (none, .ld 8 none (.t 7)),
 (none, .bi 9 .lss (.t 8) (.c (.n .i64 0))),
 (none, .mv 10 (.t 9)),
 (some (10, false), .fa 11 0 (.t 1)),
 (some (10, false), .ld 12 none (.t 11)),
 (some (10, false), .bi 13 .gtr (.t 12) (.c (.n .i64 60))),
 (none, .pk 14 (.t 10) (.c (.b true)) (.t 13)),
 (none, .mv 15 (.t 14)),
 (some (15, false), .fa 16 1 (.t 1)),
 (some (15, false), .ld 17 none (.t 16)),
 (some (15, false), .ln 18 (.t 17)),
 (some (15, false), .bi 19 .gtr (.t 18) (.c (.n .i64 3))),
 (none, .pk 20 (.t 15) (.c (.b true)) (.t 19)),
 (none, .kp [1, 20])])
 (.ite (.t 20) (.seq (.rg [(none, .mv 2 (.c (.b false))),
 (none, .kp [2])])
 (.rt))
 (.sk)))
 (.seq (.seq (.rg [(none, .fa 21 1 (.t 1)),
 (none, .ld 22 none (.t 21)),
 (none, .ln 23 (.t 22)),
 (none, .mv 24 (.c (.n .i64 0))),
 (none, .kp [1, 22, 23, 24])])
 (.blk 0 (.lp pc45l1)))
 (.seq (.rg [(none, .fa 54 2 (.t 1)),
 (none, .ld 55 none (.t 54)),
 (none, .fa 56 0 (.t 1)),
 (none, .ld 57 none (.t 56)),
 (none, .ca (some 58) 130 [.t 55, .t 57]),
 (none, .mv 2 (.t 58)),
 (none, .kp [2])])
 (.rt))))
theorem mr45 : MrT Try.prog 45 pc45 [.t 2] 59 := fun hn h => spec_of_run (fn := Try.f45) (by kernel_rfl) rfl (by kernel_rfl) (by kernel_rfl) hn h
theorem mk45 : MkT Try.prog 45 pc45 [.t 2] 59 := mr45.k
theorem mw45 : MwT Try.prog 45 pc45 [.t 2] 59 := mr45.w
-- 46 laws.eqMonitor
def pc46 : PC := .seq (.rg [(none, .bx 2 (.t 0)),
 (none, .bx 3 (.t 1)),
 (none, .mv 4 (.c (.b false))),
 (none, .kp [2, 3])])
 (.seq (.seq (.rg [(none, .fa 5 0 (.t 2)),
 (none, .ld 6 none (.t 5)),
 (none, .fa 7 0 (.t 3)),
 (none, .ld 8 none (.t 7)),
 (none, .bi 9 .neq (.t 6) (.t 8)),
 (none, .kp [2, 3, 9])])
 (.ite (.t 9) (.seq (.rg [(none, .mv 4 (.c (.b false))),
 (none, .kp [4])])
 (.rt))
 (.sk)))
 (.seq (.seq (.rg [(none, .fa 10 1 (.t 2)),
 (none, .ld 11 none (.t 10)),
 (none, .fa 12 1 (.t 3)),
 (none, .ld 13 none (.t 12)),
 (none, .ca (some 14) 131 [.t 11, .t 13]),
 (none, .un 15 .not (.t 14)),
 (none, .kp [2, 3, 15])])
 (.ite (.t 15) (.seq (.rg [(none, .mv 4 (.c (.b false))),
 (none, .kp [4])])
 (.rt))
 (.sk)))
 (.seq (.seq (.rg [(none, .fa 16 2 (.t 2)),
 (none, .ld 17 none (.t 16)),
 (none, .fa 18 2 (.t 3)),
 (none, .ld 19 none (.t 18)),
 (none, .ca (some 20) 132 [.t 17, .t 19]),
 (none, .un 21 .not (.t 20)),
 (none, .kp [21])])
 (.ite (.t 21) (.seq (.rg [(none, .mv 4 (.c (.b false))),
 (none, .kp [4])])
 (.rt))
 (.sk)))
 (.seq (.rg [(none, .mv 4 (.c (.b true))),
 (none, .kp [4])])
 (.rt)))))
theorem mr46 : MrT Try.prog 46 pc46 [.t 4] 22 := fun hn h => spec_of_run (fn := Try.f46) (by kernel_rfl) rfl (by kernel_rfl) (by kernel_rfl) hn h
theorem mk46 : MkT Try.prog 46 pc46 [.t 4] 22 := mr46.k
theorem mw46 : MwT Try.prog 46 pc46 [.t 4] 22 := mr46.w
-- 47 spec.MonitorFind
def pc47 : PC := .seq (.rg [(none, .bx 3 (.t 0)),
 (none, .mv 6 (.c (.n .i64 0))),
 (none, .mv 7 (.c (.b false))),
 (none, .kp [1, 2, 3])])
 (.seq (.rg [(none, .ld 9 (some 3) (.t 3)),
 (none, .mv 10 (.t 1)),
 (none, .mv 11 (.t 2)),
 (none, .ca (some 12) 133 [.t 9, .t 10, .t 11]),
 (none, .mv 8 (.t 12)),
 (none, .kp [1, 3, 8])])
 (.seq (.seq (.rg [(none, .ld 13 (some 3) (.t 3)),
 (none, .ca (some 14) 43 [.t 13]),
 (none, .un 15 .not (.t 14)),
 (none, .mv 16 (.t 15)),
 (some (16, false), .mv 17 (.t 8)),
 (some (16, false), .bi 18 .lss (.t 17) (.c (.n .i64 0))),
 (none, .pk 19 (.t 16) (.c (.b true)) (.t 18)),
 (none, .kp [1, 3, 8, 19])])
 (.ite (.t 19) (.seq (.rg [(none, .mv 6 (.c (.n .i64 (-1)))),
 (none, .mv 7 (.c (.b false))),
 (none, .kp [6, 7])])
 (.rt))
 (.sk)))
 (.seq (.dr [[], [], [1], [], [1, 2, 3], [1, 2, 3, 4], [1, 2, 3, 4, 5], [], [1, 2, 3, 4, 5, 6, 7], [0], [0, 1, 2, 3, 4, 5, 6, 7, 8, 9]]
 (.q 0 (none, .mv 20 (.t 8))
 (.q 1 (none, .fa 21 1 (.t 3))
 (.q 2 (none, .ld 22 none (.t 21))
 (.q 3 (none, .mv 23 (.t 8))
 (.q 4 (none, .ia 24 14 (.t 22) (.t 23))
 (.q 5 (none, .fa 25 0 (.t 24))
 (.q 6 (none, .ld 26 none (.t 25))
 (.q 7 (none, .mv 27 (.t 1))
 (.q 8 (none, .bi 28 .neq (.t 26) (.t 27))
 (.q 9 (none, .mv 6 (.t 20))
 (.q 10 (none, .mv 7 (.t 28))
 (.done)))))))))))) [6, 7])
 (.rt))))
theorem mr47 : MrT Try.prog 47 pc47 [.t 6, .t 7] 29 := fun hn h => spec_of_run (fn := Try.f47) (by kernel_rfl) rfl (by kernel_rfl) (by kernel_rfl) hn h
theorem mk47 : MkT Try.prog 47 pc47 [.t 6, .t 7] 29 := mr47.k
theorem mw47 : MwT Try.prog 47 pc47 [.t 6, .t 7] 29 := mr47.w
-- 48 impl.MonitorFind
def pc48l0 : PC := .seq (.rg [(none, .bi 17 .lss (.t 16) (.t 15)),
 (none, .kp [1, 2, 14, 15, 16, 17])])
 (.seq (.ite (.t 17) (.sk)
 (.ex 0))
 (.seq (.blk 1 (.seq (.rg [(none, .mv 18 (.t 16)),
 (none, .ia 19 14 (.t 14) (.t 16)),
 (none, .ld 20 (some 14) (.t 19)),
 (none, .al 9 [.n .i64 0, .n .i64 0, .n .i64 0, .b false, .n .i64 0, .n .i64 0, .n .i64 0, .nil, .n .i64 0, .n .i64 0, .n .i64 0, .n .i64 0, .nil, .n .i64 0]),
 (none, .mv 8 (.t 18)),
 (none, .st 14 (.t 9) (.t 20)),
 (none, .kp [1, 2, 8, 9, 14, 15, 16])])
 (.seq (.rg [(none, .ld 21 (some 14) (.t 9)),
 (none, .mv 22 (.t 1)),
 (none, .mv 23 (.t 2)),
 (none, .ca (some 24) 129 [.t 21, .t 22, .t 23]),
 (none, .kp [1, 2, 8, 9, 14, 15, 16, 24])])
 (.ite (.t 24) (.seq (.dr [[], [], [1], [], [1, 2, 3], [0], [0, 1, 2, 3, 4, 5]]
 (.q 0 (none, .mv 25 (.t 8))
 (.q 1 (none, .fa 26 0 (.t 9))
 (.q 2 (none, .ld 27 none (.t 26))
 (.q 3 (none, .mv 28 (.t 2))
 (.q 4 (none, .bi 29 .eql (.t 27) (.t 28))
 (.q 5 (none, .mv 6 (.t 25))
 (.q 6 (none, .mv 7 (.t 29))
 (.done)))))))) [6, 7])
 (.rt))
 (.sk)))))
 (.rg [(none, .bi 30 .add (.t 16) (.c (.n .i64 1))),
 (none, .mv 16 (.t 30)),
 (none, .kp [1, 2, 14, 15, 16])])))
def pc48 : PC := .seq (.rg [(none, .bx 3 (.t 0)),
 (none, .mv 6 (.c (.n .i64 0))),
 (none, .mv 7 (.c (.b false))),
 (none, .kp [1, 2, 3])])
 (.seq (.seq (.rg [(none, .ld 10 (some 3) (.t 3)),
 (none, .ca (some 11) 45 [.t 10]),
 (none, .un 12 .not (.t 11)),
 (none, .kp [1, 2, 3, 12])])
 (.ite (.t 12) (.seq (.rg [(none, .mv 6 (.c (.n .i64 (-1)))),
 (none, .mv 7 (.c (.b false))),
 (none, .kp [6, 7])])
 (.rt))
 (.sk)))
 (.seq (.seq (.rg [(none, .fa 13 1 (.t 3)),
 (none, .ld 14 none (.t 13)),
 (none, .ln 15 (.t 14)),
 (none, .mv 16 (.c (.n .i64 0))),
 (none, .kp [1, 2, 14, 15, 16])])
 (.blk 0 (.lp pc48l0)))
 (.seq (.rg [(none, .mv 6 (.c (.n .i64 (-1)))),
 (none, .mv 7 (.c (.b false))),
 (none, .kp [6, 7])])
 (.rt))))
theorem mr48 : MrT Try.prog 48 pc48 [.t 6, .t 7] 31 := fun hn h => spec_of_run (fn := Try.f48) (by kernel_rfl) rfl (by kernel_rfl) (by kernel_rfl) hn h
theorem mk48 : MkT Try.prog 48 pc48 [.t 6, .t 7] 31 := mr48.k
theorem mw48 : MwT Try.prog 48 pc48 [.t 6, .t 7] 31 := mr48.w
-- 49 laws.szAssoc
def pc49 : PC := .seq (.rg [(none, .bx 2 (.t 0)),
 (none, .mv 4 (.c (.n .i64 0))),
 (none, .kp [1, 2])])
 (.seq (.rg [(none, .fa 5 4 (.t 2)),
 (none, .ld 6 (some 5) (.t 5)),
 (none, .mv 7 (.t 1)),
 (none, .ca (some 8) 134 [.t 6, .t 7]),
 (none, .mv 1 (.t 8)),
 (none, .kp [1, 2])])
 (.seq (.seq (.rg [(none, .mv 9 (.t 1)),
 (none, .bi 10 .lss (.t 9) (.c (.n .i64 0))),
 (none, .kp [1, 2, 10])])
 (.ite (.t 10) (.seq (.rg [(none, .mv 4 (.c (.n .i64 (-1)))),
 (none, .kp [4])])
 (.rt))
 (.sk)))
 (.seq (.rg [(none, .fa 11 9 (.t 2)),
 (none, .ld 12 (some 5) (.t 11)),
 (none, .mv 13 (.t 1)),
 (none, .ca (some 14) 134 [.t 12, .t 13]),
 (none, .mv 1 (.t 14)),
 (none, .kp [1])])
 (.seq (.seq (.rg [(none, .mv 15 (.t 1)),
 (none, .bi 16 .lss (.t 15) (.c (.n .i64 0))),
 (none, .kp [1, 16])])
 (.ite (.t 16) (.seq (.rg [(none, .mv 4 (.c (.n .i64 (-1)))),
 (none, .kp [4])])
 (.rt))
 (.sk)))
 (.seq (.rg [(none, .mv 17 (.t 1)),
 (none, .mv 4 (.t 17)),
 (none, .kp [4])])
 (.rt))))))
theorem mr49 : MrT Try.prog 49 pc49 [.t 4] 18 := fun hn h => spec_of_run (fn := Try.f49) (by kernel_rfl) rfl (by kernel_rfl) (by kernel_rfl) hn h
theorem mk49 : MkT Try.prog 49 pc49 [.t 4] 18 := mr49.k
theorem mw49 : MwT Try.prog 49 pc49 [.t 4] 18 := mr49.w
-- 52 laws.toAssoc
def pc52 : PC := .seq (.rg [(none, .bx 1 (.t 0)),
 (none, .al 2 [.n .i64 0, .n .i64 0, .n .i64 0, .b false, .n .i64 0, .n .i64 0, .n .i64 0, .nil, .n .i64 0, .n .i64 0, .n .i64 0, .n .i64 0, .nil, .n .i64 0]),
 (none, .kp [1, 2])])
 (.seq (.rg [(none, .al 3 [.n .i64 0, .n .i64 0, .n .i64 0, .b false, .n .i64 0, .n .i64 0, .n .i64 0, .nil, .n .i64 0, .n .i64 0, .n .i64 0, .n .i64 0, .nil, .n .i64 0]),
 (none, .kp [1, 2, 3])])
 (.seq (.rg [(none, .fa 4 0 (.t 1)),
 (none, .ld 5 none (.t 4)),
 (none, .fa 6 0 (.t 3)),
 (none, .st 1 (.t 6) (.t 5)),
 (none, .kp [1, 2, 3])])
 (.seq (.rg [(none, .fa 7 1 (.t 1)),
 (none, .ld 8 none (.t 7)),
 (none, .fa 9 1 (.t 3)),
 (none, .st 1 (.t 9) (.t 8)),
 (none, .kp [1, 2, 3])])
 (.seq (.rg [(none, .fa 10 2 (.t 1)),
 (none, .ld 11 none (.t 10)),
 (none, .fa 12 2 (.t 3)),
 (none, .st 1 (.t 12) (.t 11)),
 (none, .kp [1, 2, 3])])
 (.seq (.rg [(none, .fa 13 3 (.t 1)),
 (none, .ld 14 none (.t 13)),
 (none, .fa 15 3 (.t 3)),
 (none, .st 1 (.t 15) (.t 14)),
 (none, .kp [1, 2, 3])])
 (.seq (.rg [(none, .fa 16 4 (.t 1)),
 (none, .ld 17 (some 5) (.t 16)),
 (none, .ca (some 18) 139 [.t 17]),
 (none, .fa 19 4 (.t 3)),
 (none, .st 5 (.t 19) (.t 18)),
 (none, .kp [1, 2, 3])])
 (.seq (.rg [(none, .fa 20 9 (.t 1)),
 (none, .ld 21 (some 5) (.t 20)),
 (none, .ca (some 22) 139 [.t 21]),
 (none, .fa 23 9 (.t 3)),
 (none, .st 5 (.t 23) (.t 22)),
 (none, .kp [2, 3])])
 (.seq (.rg [(none, .ld 24 (some 14) (.t 3)),
 (none, .st 14 (.t 2) (.t 24)),
 (none, .kp [2])])
 (.rt)))))))))
theorem mr52 : MrT Try.prog 52 pc52 [.c 2 (some 14)] 25 := fun hn h => spec_of_run (fn := Try.f52) (by kernel_rfl) rfl (by kernel_rfl) (by kernel_rfl) hn h
theorem mk52 : MkT Try.prog 52 pc52 [.c 2 (some 14)] 25 := mr52.k
theorem mw52 : MwT Try.prog 52 pc52 [.c 2 (some 14)] 25 := mr52.w
-- 55 laws.eqAssoc
def pc55 : PC := .seq (.rg [(none, .bx 2 (.t 0)),
 (none, .bx 3 (.t 1)),
 (none, .mv 4 (.c (.b false))),
 (none, .kp [2, 3])])
 (.seq (.seq (.rg [(none, .fa 5 0 (.t 2)),
 (none, .ld 6 none (.t 5)),
 (none, .fa 7 0 (.t 3)),
 (none, .ld 8 none (.t 7)),
 (none, .bi 9 .neq (.t 6) (.t 8)),
 (none, .kp [2, 3, 9])])
 (.ite (.t 9) (.seq (.rg [(none, .mv 4 (.c (.b false))),
 (none, .kp [4])])
 (.rt))
 (.sk)))
 (.seq (.seq (.rg [(none, .fa 10 1 (.t 2)),
 (none, .ld 11 none (.t 10)),
 (none, .fa 12 1 (.t 3)),
 (none, .ld 13 none (.t 12)),
 (none, .bi 14 .neq (.t 11) (.t 13)),
 (none, .kp [2, 3, 14])])
 (.ite (.t 14) (.seq (.rg [(none, .mv 4 (.c (.b false))),
 (none, .kp [4])])
 (.rt))
 (.sk)))
 (.seq (.seq (.rg [(none, .fa 15 2 (.t 2)),
 (none, .ld 16 none (.t 15)),
 (none, .fa 17 2 (.t 3)),
 (none, .ld 18 none (.t 17)),
 (none, .bi 19 .neq (.t 16) (.t 18)),
 (none, .kp [2, 3, 19])])
 (.ite (.t 19) (.seq (.rg [(none, .mv 4 (.c (.b false))),
 (none, .kp [4])])
 (.rt))
 (.sk)))
 (.seq (.seq (.rg [(none, .fa 20 3 (.t 2)),
 (none, .ld 21 none (.t 20)),
 (none, .fa 22 3 (.t 3)),
 (none, .ld 23 none (.t 22)),
 (none, .bb 24 true (.t 21) (.t 23)),
 (none, .kp [2, 3, 24])])
 (.ite (.t 24) (.seq (.rg [(none, .mv 4 (.c (.b false))),
 (none, .kp [4])])
 (.rt))
 (.sk)))
 (.seq (.seq (.rg [(none, .fa 25 4 (.t 2)),
 (none, .ld 26 (some 5) (.t 25)),
 (none, .fa 27 4 (.t 3)),
 (none, .ld 28 (some 5) (.t 27)),
 (none, .ca (some 29) 144 [.t 26, .t 28]),
 (none, .un 30 .not (.t 29)),
 (none, .kp [2, 3, 30])])
 (.ite (.t 30) (.seq (.rg [(none, .mv 4 (.c (.b false))),
 (none, .kp [4])])
 (.rt))
 (.sk)))
 (.seq (.seq (.rg [(none, .fa 31 9 (.t 2)),
 (none, .ld 32 (some 5) (.t 31)),
 (none, .fa 33 9 (.t 3)),
 (none, .ld 34 (some 5) (.t 33)),
 (none, .ca (some 35) 144 [.t 32, .t 34]),
 (none, .un 36 .not (.t 35)),
 (none, .kp [36])])
 (.ite (.t 36) (.seq (.rg [(none, .mv 4 (.c (.b false))),
 (none, .kp [4])])
 (.rt))
 (.sk)))
 (.seq (.rg [(none, .mv 4 (.c (.b true))),
 (none, .kp [4])])
 (.rt))))))))
theorem mr55 : MrT Try.prog 55 pc55 [.t 4] 37 := fun hn h => spec_of_run (fn := Try.f55) (by kernel_rfl) rfl (by kernel_rfl) (by kernel_rfl) hn h
theorem mk55 : MkT Try.prog 55 pc55 [.t 4] 37 := mr55.k
theorem mw55 : MwT Try.prog 55 pc55 [.t 4] 37 := mr55.w
-- 70 spec.l12Data
def pc70 : PC := .seq (.rg [(none, .bx 1 (.t 0)),
 (none, .mv 2 (.c (.b false))),
 (none, .kp [1])])
 (.seq (.rg [(none, .fa 3 0 (.t 1)),
 (none, .ld 4 none (.t 3)),
 (none, .ca (some 5) 73 [.t 4]),
 (none, .mv 6 (.t 5)),
 (some (6, true), .fa 7 1 (.t 1)),
 (some (6, true), .ld 8 none (.t 7)),
 (some (6, true), .ca (some 9) 73 [.t 8]),
 (none, .pk 10 (.t 6) (.t 9) (.c (.b false))),
 (none, .mv 11 (.t 10)),
 (some (11, true), .fa 12 2 (.t 1)),
 (some (11, true), .ld 13 none (.t 12)),
 (some (11, true), .ca (some 14) 73 [.t 13]),
 (none, .pk 15 (.t 11) (.t 14) (.c (.b false))),
 (none, .mv 16 (.t 15)),
 (some (16, true), .fa 17 6 (.t 1)),
 (some (16, true), .ld 18 none (.t 17)),
 (some (16, true), .lS 19 (.t 18)),
 (some (16, true), .ca (some 20) 125 [.t 19, .c (.n .i64 1), .c (.n .i64 20)]),
 (none, .pk 21 (.t 16) (.t 20) (.c (.b false))),
 (none, .mv 2 (.t 21)),
 (none, .kp [2])])
 (.rt))
theorem mr70 : MrT Try.prog 70 pc70 [.t 2] 22 := fun hn h => spec_of_run (fn := Try.f70) (by kernel_rfl) rfl (by kernel_rfl) (by kernel_rfl) hn h
theorem mk70 : MkT Try.prog 70 pc70 [.t 2] 22 := mr70.k
theorem mw70 : MwT Try.prog 70 pc70 [.t 2] 22 := mr70.w
-- 71 spec.l3Add
def pc71 : PC := .seq (.rg [(none, .mv 4 (.c (.n .i64 0))),
 (none, .kp [0, 1])])
 (.seq (.rg [(none, .mv 5 (.t 0)),
 (none, .mv 6 (.t 1)),
 (none, .bi 7 .rem (.t 6) (.c (.n .i64 65536))),
 (none, .bi 8 .add (.t 5) (.t 7)),
 (none, .bi 9 .add (.t 8) (.c (.n .i64 65536))),
 (none, .bi 10 .rem (.t 9) (.c (.n .i64 65536))),
 (none, .mv 4 (.t 10)),
 (none, .kp [4])])
 (.rt))
theorem mr71 : MrT Try.prog 71 pc71 [.t 4] 11 := fun hn h => spec_of_run (fn := Try.f71) (by kernel_rfl) rfl (by kernel_rfl) (by kernel_rfl) hn h
theorem mk71 : MkT Try.prog 71 pc71 [.t 4] 11 := mr71.k
theorem mw71 : MwT Try.prog 71 pc71 [.t 4] 11 := mr71.w
-- 73 spec.l3Ok
def pc73 : PC := .seq (.rg [(none, .mv 2 (.c (.b false))),
 (none, .kp [0])])
 (.seq (.rg [(none, .mv 3 (.t 0)),
 (none, .ca (some 4) 125 [.t 3, .c (.n .i64 0), .c (.n .i64 65535)]),
 (none, .mv 2 (.t 4)),
 (none, .kp [2])])
 (.rt))
theorem mr73 : MrT Try.prog 73 pc73 [.t 2] 5 := fun hn h => spec_of_run (fn := Try.f73) (by kernel_rfl) rfl (by kernel_rfl) (by kernel_rfl) hn h
theorem mk73 : MkT Try.prog 73 pc73 [.t 2] 5 := mr73.k
theorem mw73 : MwT Try.prog 73 pc73 [.t 2] 5 := mr73.w
-- 75 impl.dataOk
def pc75 : PC := .seq (.rg [(none, .bx 1 (.t 0)),
 (none, .mv 2 (.c (.b false))),
 (none, .kp [1])])
 (.seq (.rg [(none, .fa 3 0 (.t 1)),
 (none, .ld 4 none (.t 3)),
 (none, .ca (some 5) 158 [.t 4]),
 (none, .mv 6 (.t 5)),
 (some (6, true), .fa 7 1 (.t 1)),
 (some (6, true), .ld 8 none (.t 7)),
 (some (6, true), .ca (some 9) 158 [.t 8]),
 (none, .pk 10 (.t 6) (.t 9) (.c (.b false))),
 (none, .mv 11 (.t 10)),
 (some (11, true), .fa 12 2 (.t 1)),
 (some (11, true), .ld 13 none (.t 12)),
 (some (11, true), .ca (some 14) 158 [.t 13]),
 (none, .pk 15 (.t 11) (.t 14) (.c (.b false))),
 (none, .mv 16 (.t 15)),
 (some (16, true), .fa 17 6 (.t 1)),
 (some (16, true), .ld 18 none (.t 17)),
 (some (16, true), .lS 19 (.t 18)),
 (some (16, true), .bi 20 .geq (.t 19) (.c (.n .i64 1))),
 (none, .pk 21 (.t 16) (.t 20) (.c (.b false))),
 (none, .mv 22 (.t 21)),
 (some (22, true), .fa 23 6 (.t 1)),
 (some (22, true), .ld 24 none (.t 23)),
 (some (22, true), .lS 25 (.t 24)),
 (some (22, true), .bi 26 .leq (.t 25) (.c (.n .i64 20))),
 (none, .pk 27 (.t 22) (.t 26) (.c (.b false))),
 (none, .mv 2 (.t 27)),
 (none, .kp [2])])
 (.rt))
theorem mr75 : MrT Try.prog 75 pc75 [.t 2] 28 := fun hn h => spec_of_run (fn := Try.f75) (by kernel_rfl) rfl (by kernel_rfl) (by kernel_rfl) hn h
theorem mk75 : MkT Try.prog 75 pc75 [.t 2] 28 := mr75.k
theorem mw75 : MwT Try.prog 75 pc75 [.t 2] 28 := mr75.w
-- 78 impl.SerialAdd
def pc78 : PC := .seq (.rg [(none, .mv 4 (.c (.n .i64 0))),
 (none, .kp [0, 1])])
 (.seq (.seq (.rg [(none, .mv 5 (.t 0)),
 (none, .ca (some 6) 158 [.t 5]),
 (none, .un 7 .not (.t 6)),
 (none, .kp [0, 1, 7])])
 (.ite (.t 7) (.seq (.rg [(none, .mv 4 (.c (.n .i64 (-1)))),
 (none, .kp [4])])
 (.rt))
 (.sk)))
 (.seq (.rg [(none, .mv 8 (.t 0)),
 (none, .mv 9 (.t 1)),
 (none, .bi 10 .rem (.t 9) (.c (.n .i64 65536))),
 (none, .bi 11 .add (.t 8) (.t 10)),
 (none, .bi 12 .rem (.t 11) (.c (.n .i64 65536))),
 (none, .bi 13 .add (.t 12) (.c (.n .i64 65536))),
 (none, .bi 14 .rem (.t 13) (.c (.n .i64 65536))),
 (none, .mv 4 (.t 14)),
 (none, .kp [4])])
 (.rt)))
theorem mr78 : MrT Try.prog 78 pc78 [.t 4] 15 := fun hn h => spec_of_run (fn := Try.f78) (by kernel_rfl) rfl (by kernel_rfl) (by kernel_rfl) hn h
theorem mk78 : MkT Try.prog 78 pc78 [.t 4] 15 := mr78.k
theorem mw78 : MwT Try.prog 78 pc78 [.t 4] 15 := mr78.w
-- 119 laws.szAssocS
def pc119l0 : PC := .seq (.seq (.rg [(none, .mv 12 (.t 5)),
 (none, .mv 13 (.t 0)),
 (none, .ln 14 (.t 13)),
 (none, .bi 15 .lss (.t 12) (.t 14)),
 (none, .kp [0, 1, 5, 15])])
 (.ite (.t 15) (.sk)
 (.ex 0)))
 (.seq (.blk 1 (.seq (.rg [(none, .mv 18 (.t 0)),
 (none, .mv 19 (.t 5)),
 (none, .ia 20 14 (.t 18) (.t 19)),
 (none, .ld 21 (some 14) (.t 20)),
 (none, .mv 22 (.t 1)),
 (none, .ca (some 23) 49 [.t 21, .t 22]),
 (none, .mv 1 (.t 23)),
 (none, .kp [0, 1, 5])])
 (.seq (.rg [(none, .mv 24 (.t 1)),
 (none, .bi 25 .lss (.t 24) (.c (.n .i64 0))),
 (none, .kp [0, 1, 5, 25])])
 (.ite (.t 25) (.seq (.rg [(none, .mv 4 (.c (.n .i64 (-1)))),
 (none, .kp [4])])
 (.rt))
 (.sk)))))
 (.rg [(none, .mv 16 (.t 5)),
 (none, .bi 17 .add (.t 16) (.c (.n .i64 1))),
 (none, .mv 5 (.t 17)),
 (none, .kp [0, 1, 5])]))
def pc119 : PC := .seq (.rg [(none, .mv 4 (.c (.n .i64 0))),
 (none, .kp [0, 1])])
 (.seq (.rg [(none, .mv 6 (.t 1)),
 (none, .mv 7 (.t 0)),
 (none, .ln 8 (.t 7)),
 (none, .bi 9 .sub (.t 6) (.t 8)),
 (none, .mv 1 (.t 9)),
 (none, .kp [0, 1])])
 (.seq (.seq (.rg [(none, .mv 10 (.t 1)),
 (none, .bi 11 .lss (.t 10) (.c (.n .i64 0))),
 (none, .kp [0, 1, 11])])
 (.ite (.t 11) (.seq (.rg [(none, .mv 4 (.c (.n .i64 (-1)))),
 (none, .kp [4])])
 (.rt))
 (.sk)))
 (.seq (.seq (.rg [(none, .mv 5 (.c (.n .i64 0))),
 (none, .kp [0, 1, 5])])
 (.blk 0 (.lp pc119l0)))
 (.seq (.rg [(none, .mv 26 (.t 1)),
 (none, .mv 4 (.t 26)),
 (none, .kp [4])])
 (.rt)))))
theorem mr119 : MrT Try.prog 119 pc119 [.t 4] 27 := fun hn h => spec_of_run (fn := Try.f119) (by kernel_rfl) rfl (by kernel_rfl) (by kernel_rfl) hn h
theorem mk119 : MkT Try.prog 119 pc119 [.t 4] 27 := mr119.k
theorem mw119 : MwT Try.prog 119 pc119 [.t 4] 27 := mr119.w
-- 120 laws.szFindingS
def pc120 : PC := .seq (.rg [(none, .mv 4 (.c (.n .i64 0))),
 (none, .kp [0, 1])])
 (.seq (.rg [(none, .mv 5 (.t 1)),
 (none, .mv 6 (.t 0)),
 (none, .ln 7 (.t 6)),
 (none, .bi 8 .sub (.t 5) (.t 7)),
 (none, .mv 1 (.t 8)),
 (none, .kp [1])])
 (.seq (.seq (.rg [(none, .mv 9 (.t 1)),
 (none, .bi 10 .lss (.t 9) (.c (.n .i64 0))),
 (none, .kp [1, 10])])
 (.ite (.t 10) (.seq (.rg [(none, .mv 4 (.c (.n .i64 (-1)))),
 (none, .kp [4])])
 (.rt))
 (.sk)))
 (.seq (.rg [(none, .mv 11 (.t 1)),
 (none, .mv 4 (.t 11)),
 (none, .kp [4])])
 (.rt))))
theorem mr120 : MrT Try.prog 120 pc120 [.t 4] 12 := fun hn h => spec_of_run (fn := Try.f120) (by kernel_rfl) rfl (by kernel_rfl) (by kernel_rfl) hn h
theorem mk120 : MkT Try.prog 120 pc120 [.t 4] 12 := mr120.k
theorem mw120 : MwT Try.prog 120 pc120 [.t 4] 12 := mr120.w
-- 121 spec.AssocValid
def pc121 : PC := .seq (.rg [(none, .bx 1 (.t 0)),
 (none, .mv 2 (.c (.b false))),
 (none, .kp [1])])
 (.seq (.seq (.rg [(none, .fa 3 0 (.t 1)),
 (none, .ld 4 none (.t 3)),
 (none, .ca (some 5) 125 [.t 4, .c (.n .i64 1), .c (.n .i64 65535)]),
 (none, .un 6 .not (.t 5)),
 (none, .mv 7 (.t 6)),
 (some (7, false), .fa 8 1 (.t 1)),
 (some (7, false), .ld 9 none (.t 8)),
 (some (7, false), .ca (some 10) 125 [.t 9, .c (.n .i64 1), .c (.n .i64 65535)]),
 (some (7, false), .un 11 .not (.t 10)),
 (none, .pk 12 (.t 7) (.c (.b true)) (.t 11)),
 (none, .mv 13 (.t 12)),
 (some (13, false), .fa 14 0 (.t 1)),
 (some (13, false), .ld 15 none (.t 14)),
 (some (13, false), .fa 16 1 (.t 1)),
 (some (13, false), .ld 17 none (.t 16)),
 (some (13, false), .bi 18 .eql (.t 15) (.t 17)),
 (none, .pk 19 (.t 13) (.c (.b true)) (.t 18)),
 (none, .mv 20 (.t 19)),
 (some (20, false), .fa 21 2 (.t 1)),
 (some (20, false), .ld 22 none (.t 21)),
 (some (20, false), .ca (some 23) 125 [.t 22, .c (.n .i64 0), .c (.n .i64 7)]),
 (some (20, false), .un 24 .not (.t 23)),
 (none, .pk 25 (.t 20) (.c (.b true)) (.t 24)),
 (none, .mv 26 (.t 25)),
 (some (26, false), .fa 27 4 (.t 1)),
 (some (26, false), .ld 28 (some 5) (.t 27)),
 (some (26, false), .ca (some 29) 178 [.t 28]),
 (some (26, false), .un 30 .not (.t 29)),
 (none, .pk 31 (.t 26) (.c (.b true)) (.t 30)),
 (none, .mv 32 (.t 31)),
 (some (32, false), .fa 33 9 (.t 1)),
 (some (32, false), .ld 34 (some 5) (.t 33)),
 (some (32, false), .ca (some 35) 178 [.t 34]),
 (some (32, false), .un 36 .not (.t 35)),
 (none, .pk 37 (.t 32) (.c (.b true)) (.t 36)),
 (none, .kp [1, 37])])
 (.ite (.t 37) (.seq (.rg [(none, .mv 2 (.c (.b false))),
 (none, .kp [2])])
 (.rt))
 (.sk)))
 (.seq (.seq (.rg [(none, .fa 38 4 (.t 1)),
 (none, .fa 39 0 (.t 38)),
 (none, .ld 40 none (.t 39)),
 (none, .bi 41 .gtr (.t 40) (.c (.n .i64 0))),
 (none, .fa 42 2 (.t 1)),
 (none, .ld 43 none (.t 42)),
 (none, .bi 44 .geq (.t 43) (.c (.n .i64 1))),
 (none, .bb 45 true (.t 41) (.t 44)),
 (none, .mv 46 (.t 45)),
 (some (46, false), .fa 47 2 (.t 1)),
 (some (46, false), .ld 48 none (.t 47)),
 (some (46, false), .bi 49 .neq (.t 48) (.c (.n .i64 7))),
 (some (46, false), .mv 50 (.t 49)),
 (some (50, true), .fa 51 9 (.t 1)),
 (some (50, true), .fa 52 0 (.t 51)),
 (some (50, true), .ld 53 none (.t 52)),
 (some (50, true), .bi 54 .gtr (.t 53) (.c (.n .i64 0))),
 (some (50, true), .fa 55 2 (.t 1)),
 (some (50, true), .ld 56 none (.t 55)),
 (some (50, true), .bi 57 .geq (.t 56) (.c (.n .i64 2))),
 (some (50, true), .bb 58 true (.t 54) (.t 57)),
 (some (46, false), .pk 59 (.t 50) (.t 58) (.c (.b false))),
 (none, .pk 60 (.t 46) (.c (.b true)) (.t 59)),
 (none, .kp [1, 60])])
 (.ite (.t 60) (.seq (.rg [(none, .mv 2 (.c (.b false))),
 (none, .kp [2])])
 (.rt))
 (.sk)))
 (.seq (.seq (.rg [(none, .fa 61 2 (.t 1)),
 (none, .ld 62 none (.t 61)),
 (none, .ca (some 63) 179 [.t 62]),
 (none, .un 64 .not (.t 63)),
 (none, .mv 65 (.t 64)),
 (some (65, true), .fa 66 4 (.t 1)),
 (some (65, true), .fa 67 3 (.t 66)),
 (some (65, true), .ld 68 none (.t 67)),
 (some (65, true), .ln 69 (.t 68)),
 (some (65, true), .fa 70 9 (.t 1)),
 (some (65, true), .fa 71 3 (.t 70)),
 (some (65, true), .ld 72 none (.t 71)),
 (some (65, true), .ln 73 (.t 72)),
 (some (65, true), .bi 74 .add (.t 69) (.t 73)),
 (some (65, true), .bi 75 .gtr (.t 74) (.c (.n .i64 0))),
 (none, .pk 76 (.t 65) (.t 75) (.c (.b false))),
 (none, .kp [1, 76])])
 (.ite (.t 76) (.seq (.rg [(none, .mv 2 (.c (.b false))),
 (none, .kp [2])])
 (.rt))
 (.sk)))
 (.seq (.rg [(none, .fa 77 3 (.t 1)),
 (none, .ld 78 none (.t 77)),
 (none, .un 79 .not (.t 78)),
 (none, .mv 80 (.t 79)),
 (some (80, false), .fa 81 2 (.t 1)),
 (some (80, false), .ld 82 none (.t 81)),
 (some (80, false), .bi 83 .geq (.t 82) (.c (.n .i64 5))),
 (none, .pk 84 (.t 80) (.c (.b true)) (.t 83)),
 (none, .mv 2 (.t 84)),
 (none, .kp [2])])
 (.rt)))))
theorem mr121 : MrT Try.prog 121 pc121 [.t 2] 85 := fun hn h => spec_of_run (fn := Try.f121) (by kernel_rfl) rfl (by kernel_rfl) (by kernel_rfl) hn h
theorem mk121 : MkT Try.prog 121 pc121 [.t 2] 85 := mr121.k
theorem mw121 : MwT Try.prog 121 pc121 [.t 2] 85 := mr121.w
-- 122 spec.l32Pair
def pc122 : PC := .seq (.rg [(none, .bx 2 (.t 0)),
 (none, .bx 3 (.t 1)),
 (none, .mv 4 (.c (.b false))),
 (none, .kp [2, 3])])
 (.seq (.rg [(none, .fa 5 0 (.t 2)),
 (none, .ld 6 none (.t 5)),
 (none, .fa 7 0 (.t 3)),
 (none, .ld 8 none (.t 7)),
 (none, .bi 9 .eql (.t 6) (.t 8)),
 (none, .mv 10 (.t 9)),
 (some (10, true), .fa 11 1 (.t 2)),
 (some (10, true), .ld 12 none (.t 11)),
 (some (10, true), .fa 13 1 (.t 3)),
 (some (10, true), .ld 14 none (.t 13)),
 (some (10, true), .bi 15 .eql (.t 12) (.t 14)),
 (none, .pk 16 (.t 10) (.t 15) (.c (.b false))),
 (none, .mv 17 (.t 16)),
 (some (17, false), .fa 18 0 (.t 2)),
 (some (17, false), .ld 19 none (.t 18)),
 (some (17, false), .fa 20 1 (.t 3)),
 (some (17, false), .ld 21 none (.t 20)),
 (some (17, false), .bi 22 .eql (.t 19) (.t 21)),
 (some (17, false), .mv 23 (.t 22)),
 (some (23, true), .fa 24 1 (.t 2)),
 (some (23, true), .ld 25 none (.t 24)),
 (some (23, true), .fa 26 0 (.t 3)),
 (some (23, true), .ld 27 none (.t 26)),
 (some (23, true), .bi 28 .eql (.t 25) (.t 27)),
 (some (17, false), .pk 29 (.t 23) (.t 28) (.c (.b false))),
 (none, .pk 30 (.t 17) (.c (.b true)) (.t 29)),
 (none, .mv 4 (.t 30)),
 (none, .kp [4])])
 (.rt))
theorem mr122 : MrT Try.prog 122 pc122 [.t 4] 31 := fun hn h => spec_of_run (fn := Try.f122) (by kernel_rfl) rfl (by kernel_rfl) (by kernel_rfl) hn h
theorem mk122 : MkT Try.prog 122 pc122 [.t 4] 31 := mr122.k
theorem mw122 : MwT Try.prog 122 pc122 [.t 4] 31 := mr122.w
-- 123 spec.l32Finding
def pc123 : PC := .seq (.rg [(none, .bx 2 (.t 0)),
 (none, .mv 4 (.c (.b false))),
 (none, .kp [1, 2])])
 (.seq (.rg [(none, .fa 5 0 (.t 2)),
 (none, .ld 6 none (.t 5)),
 (none, .mv 7 (.t 1)),
 (none, .bi 8 .sub (.t 7) (.c (.n .i64 1))),
 (none, .ca (some 9) 125 [.t 6, .c (.n .i64 0), .t 8]),
 (none, .mv 10 (.t 9)),
 (some (10, true), .fa 11 1 (.t 2)),
 (some (10, true), .ld 12 none (.t 11)),
 (some (10, true), .ca (some 13) 125 [.t 12, .c (.n .i64 1), .c (.n .i64 11)]),
 (some (10, true), .mv 14 (.t 13)),
 (some (14, false), .fa 15 1 (.t 2)),
 (some (14, false), .ld 16 none (.t 15)),
 (some (14, false), .ca (some 17) 125 [.t 16, .c (.n .i64 101), .c (.n .i64 105)]),
 (some (10, true), .pk 18 (.t 14) (.c (.b true)) (.t 17)),
 (none, .pk 19 (.t 10) (.t 18) (.c (.b false))),
 (none, .mv 4 (.t 19)),
 (none, .kp [4])])
 (.rt))
theorem mr123 : MrT Try.prog 123 pc123 [.t 4] 20 := fun hn h => spec_of_run (fn := Try.f123) (by kernel_rfl) rfl (by kernel_rfl) (by kernel_rfl) hn h
theorem mk123 : MkT Try.prog 123 pc123 [.t 4] 20 := mr123.k
theorem mw123 : MwT Try.prog 123 pc123 [.t 4] 20 := mr123.w
-- 124 spec.l32Less
def pc124 : PC := .seq (.rg [(none, .bx 2 (.t 0)),
 (none, .bx 3 (.t 1)),
 (none, .mv 4 (.c (.b false))),
 (none, .kp [2, 3])])
 (.seq (.rg [(none, .fa 5 0 (.t 2)),
 (none, .ld 6 none (.t 5)),
 (none, .fa 7 0 (.t 3)),
 (none, .ld 8 none (.t 7)),
 (none, .bi 9 .lss (.t 6) (.t 8)),
 (none, .mv 10 (.t 9)),
 (some (10, false), .fa 11 0 (.t 2)),
 (some (10, false), .ld 12 none (.t 11)),
 (some (10, false), .fa 13 0 (.t 3)),
 (some (10, false), .ld 14 none (.t 13)),
 (some (10, false), .bi 15 .eql (.t 12) (.t 14)),
 (some (10, false), .mv 16 (.t 15)),
 (some (16, true), .fa 17 1 (.t 2)),
 (some (16, true), .ld 18 none (.t 17)),
 (some (16, true), .fa 19 1 (.t 3)),
 (some (16, true), .ld 20 none (.t 19)),
 (some (16, true), .bi 21 .lss (.t 18) (.t 20)),
 (some (10, false), .pk 22 (.t 16) (.t 21) (.c (.b false))),
 (none, .pk 23 (.t 10) (.c (.b true)) (.t 22)),
 (none, .mv 4 (.t 23)),
 (none, .kp [4])])
 (.rt))
theorem mr124 : MrT Try.prog 124 pc124 [.t 4] 24 := fun hn h => spec_of_run (fn := Try.f124) (by kernel_rfl) rfl (by kernel_rfl) (by kernel_rfl) hn h
theorem mk124 : MkT Try.prog 124 pc124 [.t 4] 24 := mr124.k
theorem mw124 : MwT Try.prog 124 pc124 [.t 4] 24 := mr124.w
-- 125 spec.l6In
def pc125 : PC := .seq (.rg [(none, .mv 6 (.c (.b false))),
 (none, .kp [0, 1, 2])])
 (.seq (.rg [(none, .mv 7 (.t 0)),
 (none, .mv 8 (.t 1)),
 (none, .bi 9 .geq (.t 7) (.t 8)),
 (none, .mv 10 (.t 9)),
 (some (10, true), .mv 11 (.t 0)),
 (some (10, true), .mv 12 (.t 2)),
 (some (10, true), .bi 13 .leq (.t 11) (.t 12)),
 (none, .pk 14 (.t 10) (.t 13) (.c (.b false))),
 (none, .mv 6 (.t 14)),
 (none, .kp [6])])
 (.rt))
theorem mr125 : MrT Try.prog 125 pc125 [.t 6] 15 := fun hn h => spec_of_run (fn := Try.f125) (by kernel_rfl) rfl (by kernel_rfl) (by kernel_rfl) hn h
theorem mk125 : MkT Try.prog 125 pc125 [.t 6] 15 := mr125.k
theorem mw125 : MwT Try.prog 125 pc125 [.t 6] 15 := mr125.w
-- 126 laws.toAssocS
def pc126l0 : PC := .seq (.seq (.rg [(none, .mv 8 (.t 4)),
 (none, .mv 9 (.t 0)),
 (none, .ln 10 (.t 9)),
 (none, .bi 11 .lss (.t 8) (.t 10)),
 (none, .kp [0, 3, 4, 11])])
 (.ite (.t 11) (.sk)
 (.ex 0)))
 (.seq (.blk 1 (.rg [(none, .mv 14 (.t 3)),
 (none, .mv 15 (.t 4)),
 (none, .mv 16 (.t 0)),
 (none, .mv 17 (.t 4)),
 (none, .ia 18 14 (.t 16) (.t 17)),
 (none, .ld 19 (some 14) (.t 18)),
 (none, .ca (some 20) 52 [.t 19]),
 (none, .ia 21 14 (.t 14) (.t 15)),
 (none, .st 14 (.t 21) (.t 20)),
 (none, .kp [0, 3, 4])]))
 (.rg [(none, .mv 12 (.t 4)),
 (none, .bi 13 .add (.t 12) (.c (.n .i64 1))),
 (none, .mv 4 (.t 13)),
 (none, .kp [0, 3, 4])]))
def pc126 : PC := .seq (.rg [(none, .mv 2 (.c .nil)),
 (none, .kp [0])])
 (.seq (.rg [(none, .mv 5 (.t 0)),
 (none, .ln 6 (.t 5)),
 (none, .mk 7 14 144 [.n .i64 0, .n .i64 0, .n .i64 0, .b false, .n .i64 0, .n .i64 0, .n .i64 0, .nil, .n .i64 0, .n .i64 0, .n .i64 0, .n .i64 0, .nil, .n .i64 0] (.t 6)),
 (none, .mv 3 (.t 7)),
 (none, .kp [0, 3])])
 (.seq (.seq (.rg [(none, .mv 4 (.c (.n .i64 0))),
 (none, .kp [0, 3, 4])])
 (.blk 0 (.lp pc126l0)))
 (.seq (.rg [(none, .mv 22 (.t 3)),
 (none, .mv 2 (.t 22)),
 (none, .kp [2])])
 (.rt))))
theorem mr126 : MrT Try.prog 126 pc126 [.t 2] 23 := fun hn h => spec_of_run (fn := Try.f126) (by kernel_rfl) rfl (by kernel_rfl) (by kernel_rfl) hn h
theorem mk126 : MkT Try.prog 126 pc126 [.t 2] 23 := mr126.k
theorem mw126 : MwT Try.prog 126 pc126 [.t 2] 23 := mr126.w
-- 127 laws.toFindingS
def pc127l0 : PC := .seq (.seq (.rg [(none, .mv 8 (.t 4)),
 (none, .mv 9 (.t 0)),
 (none, .ln 10 (.t 9)),
 (none, .bi 11 .lss (.t 8) (.t 10)),
 (none, .kp [0, 3, 4, 11])])
 (.ite (.t 11) (.sk)
 (.ex 0)))
 (.seq (.blk 1 (.rg [(none, .mv 14 (.t 3)),
 (none, .mv 15 (.t 4)),
 (none, .mv 16 (.t 0)),
 (none, .mv 17 (.t 4)),
 (none, .ia 18 2 (.t 16) (.t 17)),
 (none, .ld 19 (some 2) (.t 18)),
 (none, .ca (some 20) 180 [.t 19]),
 (none, .ia 21 2 (.t 14) (.t 15)),
 (none, .st 2 (.t 21) (.t 20)),
 (none, .kp [0, 3, 4])]))
 (.rg [(none, .mv 12 (.t 4)),
 (none, .bi 13 .add (.t 12) (.c (.n .i64 1))),
 (none, .mv 4 (.t 13)),
 (none, .kp [0, 3, 4])]))
def pc127 : PC := .seq (.rg [(none, .mv 2 (.c .nil)),
 (none, .kp [0])])
 (.seq (.rg [(none, .mv 5 (.t 0)),
 (none, .ln 6 (.t 5)),
 (none, .mk 7 2 16 [.n .i64 0, .n .i64 0] (.t 6)),
 (none, .mv 3 (.t 7)),
 (none, .kp [0, 3])])
 (.seq (.seq (.rg [(none, .mv 4 (.c (.n .i64 0))),
 (none, .kp [0, 3, 4])])
 (.blk 0 (.lp pc127l0)))
 (.seq (.rg [(none, .mv 22 (.t 3)),
 (none, .mv 2 (.t 22)),
 (none, .kp [2])])
 (.rt))))
theorem mr127 : MrT Try.prog 127 pc127 [.t 2] 23 := fun hn h => spec_of_run (fn := Try.f127) (by kernel_rfl) rfl (by kernel_rfl) (by kernel_rfl) hn h
theorem mk127 : MkT Try.prog 127 pc127 [.t 2] 23 := mr127.k
theorem mw127 : MwT Try.prog 127 pc127 [.t 2] 23 := mr127.w
-- 128 impl.AssocValid
def pc128 : PC := .seq (.rg [(none, .bx 1 (.t 0)),
 (none, .mv 2 (.c (.b false))),
 (none, .kp [1])])
 (.seq (.seq (.rg [(none, .fa 3 0 (.t 1)),
 (none, .ld 4 none (.t 3)),
 (none, .bi 5 .lss (.t 4) (.c (.n .i64 1))),
 (none, .mv 6 (.t 5)),
 (some (6, false), .fa 7 0 (.t 1)),
 (some (6, false), .ld 8 none (.t 7)),
 (some (6, false), .bi 9 .gtr (.t 8) (.c (.n .i64 65535))),
 (none, .pk 10 (.t 6) (.c (.b true)) (.t 9)),
 (none, .mv 11 (.t 10)),
 (some (11, false), .fa 12 1 (.t 1)),
 (some (11, false), .ld 13 none (.t 12)),
 (some (11, false), .bi 14 .lss (.t 13) (.c (.n .i64 1))),
 (none, .pk 15 (.t 11) (.c (.b true)) (.t 14)),
 (none, .mv 16 (.t 15)),
 (some (16, false), .fa 17 1 (.t 1)),
 (some (16, false), .ld 18 none (.t 17)),
 (some (16, false), .bi 19 .gtr (.t 18) (.c (.n .i64 65535))),
 (none, .pk 20 (.t 16) (.c (.b true)) (.t 19)),
 (none, .mv 21 (.t 20)),
 (some (21, false), .fa 22 0 (.t 1)),
 (some (21, false), .ld 23 none (.t 22)),
 (some (21, false), .fa 24 1 (.t 1)),
 (some (21, false), .ld 25 none (.t 24)),
 (some (21, false), .bi 26 .eql (.t 23) (.t 25)),
 (none, .pk 27 (.t 21) (.c (.b true)) (.t 26)),
 (none, .mv 28 (.t 27)),
 (some (28, false), .fa 29 2 (.t 1)),
 (some (28, false), .ld 30 none (.t 29)),
 (some (28, false), .bi 31 .lss (.t 30) (.c (.n .i64 0))),
 (none, .pk 32 (.t 28) (.c (.b true)) (.t 31)),
 (none, .mv 33 (.t 32)),
 (some (33, false), .fa 34 2 (.t 1)),
 (some (33, false), .ld 35 none (.t 34)),
 (some (33, false), .bi 36 .gtr (.t 35) (.c (.n .i64 7))),
 (none, .pk 37 (.t 33) (.c (.b true)) (.t 36)),
 (none, .mv 38 (.t 37)),
 (some (38, false), .fa 39 4 (.t 1)),
 (some (38, false), .ld 40 (some 5) (.t 39)),
 (some (38, false), .ca (some 41) 149 [.t 40]),
 (some (38, false), .un 42 .not (.t 41)),
 (none, .pk 43 (.t 38) (.c (.b true)) (.t 42)),
 (none, .mv 44 (.t 43)),
 (some (44, false), .fa 45 9 (.t 1)),
 (some (44, false), .ld 46 (some 5) (.t 45)),
 (some (44, false), .ca (some 47) 149 [.t 46]),
 (some (44, false), .un 48 .not (.t 47)),
 (none, .pk 49 (.t 44) (.c (.b true)) (.t 48)),
 (none, .kp [1, 49])])
 (.ite (.t 49) (.seq (.rg [(none, .mv 2 (.c (.b false))),
 (none, .kp [2])])
 (.rt))
 (.sk)))
 (.seq (.seq (.rg [(none, .fa 50 4 (.t 1)),
 (none, .fa 51 0 (.t 50)),
 (none, .ld 52 none (.t 51)),
 (none, .bi 53 .gtr (.t 52) (.c (.n .i64 0))),
 (none, .fa 54 2 (.t 1)),
 (none, .ld 55 none (.t 54)),
 (none, .bi 56 .geq (.t 55) (.c (.n .i64 1))),
 (none, .bb 57 true (.t 53) (.t 56)),
 (none, .mv 58 (.t 57)),
 (some (58, false), .fa 59 2 (.t 1)),
 (some (58, false), .ld 60 none (.t 59)),
 (some (58, false), .bi 61 .neq (.t 60) (.c (.n .i64 7))),
 (some (58, false), .mv 62 (.t 61)),
 (some (62, true), .fa 63 9 (.t 1)),
 (some (62, true), .fa 64 0 (.t 63)),
 (some (62, true), .ld 65 none (.t 64)),
 (some (62, true), .bi 66 .gtr (.t 65) (.c (.n .i64 0))),
 (some (62, true), .fa 67 2 (.t 1)),
 (some (62, true), .ld 68 none (.t 67)),
 (some (62, true), .bi 69 .geq (.t 68) (.c (.n .i64 2))),
 (some (62, true), .bb 70 true (.t 66) (.t 69)),
 (some (58, false), .pk 71 (.t 62) (.t 70) (.c (.b false))),
 (none, .pk 72 (.t 58) (.c (.b true)) (.t 71)),
 (none, .kp [1, 72])])
 (.ite (.t 72) (.seq (.rg [(none, .mv 2 (.c (.b false))),
 (none, .kp [2])])
 (.rt))
 (.sk)))
 (.seq (.seq (.rg [(none, .fa 73 2 (.t 1)),
 (none, .ld 74 none (.t 73)),
 (none, .bi 75 .lss (.t 74) (.c (.n .i64 3))),
 (none, .mv 76 (.t 75)),
 (some (76, true), .fa 77 4 (.t 1)),
 (some (76, true), .fa 78 3 (.t 77)),
 (some (76, true), .ld 79 none (.t 78)),
 (some (76, true), .ln 80 (.t 79)),
 (some (76, true), .fa 81 9 (.t 1)),
 (some (76, true), .fa 82 3 (.t 81)),
 (some (76, true), .ld 83 none (.t 82)),
 (some (76, true), .ln 84 (.t 83)),
 (some (76, true), .bi 85 .add (.t 80) (.t 84)),
 (some (76, true), .bi 86 .gtr (.t 85) (.c (.n .i64 0))),
 (none, .pk 87 (.t 76) (.t 86) (.c (.b false))),
 (none, .kp [1, 87])])
 (.ite (.t 87) (.seq (.rg [(none, .mv 2 (.c (.b false))),
 (none, .kp [2])])
 (.rt))
 (.sk)))
 (.seq (.rg [(none, .fa 88 3 (.t 1)),
 (none, .ld 89 none (.t 88)),
 (none, .un 90 .not (.t 89)),
 (none, .mv 91 (.t 90)),
 (some (91, false), .fa 92 2 (.t 1)),
 (some (91, false), .ld 93 none (.t 92)),
 (some (91, false), .bi 94 .geq (.t 93) (.c (.n .i64 5))),
 (none, .pk 95 (.t 91) (.c (.b true)) (.t 94)),
 (none, .mv 2 (.t 95)),
 (none, .kp [2])])
 (.rt)))))
theorem mr128 : MrT Try.prog 128 pc128 [.t 2] 96 := fun hn h => spec_of_run (fn := Try.f128) (by kernel_rfl) rfl (by kernel_rfl) (by kernel_rfl) hn h
theorem mk128 : MkT Try.prog 128 pc128 [.t 2] 96 := mr128.k
theorem mw128 : MwT Try.prog 128 pc128 [.t 2] 96 := mr128.w
-- 129 impl.samePorts
def pc129 : PC := .seq (.rg [(none, .bx 3 (.t 0)),
 (none, .mv 6 (.c (.b false))),
 (none, .kp [1, 2, 3])])
 (.seq (.rg [(none, .fa 7 0 (.t 3)),
 (none, .ld 8 none (.t 7)),
 (none, .mv 9 (.t 1)),
 (none, .bi 10 .eql (.t 8) (.t 9)),
 (none, .mv 11 (.t 10)),
 (some (11, true), .fa 12 1 (.t 3)),
 (some (11, true), .ld 13 none (.t 12)),
 (some (11, true), .mv 14 (.t 2)),
 (some (11, true), .bi 15 .eql (.t 13) (.t 14)),
 (none, .pk 16 (.t 11) (.t 15) (.c (.b false))),
 (none, .mv 17 (.t 16)),
 (some (17, false), .fa 18 0 (.t 3)),
 (some (17, false), .ld 19 none (.t 18)),
 (some (17, false), .mv 20 (.t 2)),
 (some (17, false), .bi 21 .eql (.t 19) (.t 20)),
 (some (17, false), .mv 22 (.t 21)),
 (some (22, true), .fa 23 1 (.t 3)),
 (some (22, true), .ld 24 none (.t 23)),
 (some (22, true), .mv 25 (.t 1)),
 (some (22, true), .bi 26 .eql (.t 24) (.t 25)),
 (some (17, false), .pk 27 (.t 22) (.t 26) (.c (.b false))),
 (none, .pk 28 (.t 17) (.c (.b true)) (.t 27)),
 (none, .mv 6 (.t 28)),
 (none, .kp [6])])
 (.rt))
theorem mr129 : MrT Try.prog 129 pc129 [.t 6] 29 := fun hn h => spec_of_run (fn := Try.f129) (by kernel_rfl) rfl (by kernel_rfl) (by kernel_rfl) hn h
theorem mk129 : MkT Try.prog 129 pc129 [.t 6] 29 := mr129.k
theorem mw129 : MwT Try.prog 129 pc129 [.t 6] 29 := mr129.w
-- 130 impl.foundOk
def pc130l0 : PC := .seq (.rg [(none, .bi 10 .lss (.t 9) (.t 8)),
 (none, .kp [0, 1, 7, 8, 9, 10])])
 (.seq (.ite (.t 10) (.sk)
 (.ex 0))
 (.seq (.blk 1 (.seq (.rg [(none, .mv 11 (.t 9)),
 (none, .ia 12 2 (.t 7) (.t 9)),
 (none, .ld 13 (some 2) (.t 12)),
 (none, .al 6 [.n .i64 0, .n .i64 0]),
 (none, .mv 5 (.t 11)),
 (none, .st 2 (.t 6) (.t 13)),
 (none, .kp [0, 1, 5, 6, 7, 8, 9])])
 (.seq (.seq (.rg [(none, .fa 14 0 (.t 6)),
 (none, .ld 15 none (.t 14)),
 (none, .bi 16 .lss (.t 15) (.c (.n .i64 0))),
 (none, .mv 17 (.t 16)),
 (some (17, false), .fa 18 0 (.t 6)),
 (some (17, false), .ld 19 none (.t 18)),
 (some (17, false), .mv 20 (.t 1)),
 (some (17, false), .bi 21 .geq (.t 19) (.t 20)),
 (none, .pk 22 (.t 17) (.c (.b true)) (.t 21)),
 (none, .mv 23 (.t 22)),
 (some (23, false), .fa 24 1 (.t 6)),
 (some (23, false), .ld 25 none (.t 24)),
 (some (23, false), .bi 26 .lss (.t 25) (.c (.n .i64 1))),
 (some (23, false), .mv 27 (.t 26)),
 (some (27, false), .fa 28 1 (.t 6)),
 (some (27, false), .ld 29 none (.t 28)),
 (some (27, false), .bi 30 .gtr (.t 29) (.c (.n .i64 11))),
 (some (23, false), .pk 31 (.t 27) (.c (.b true)) (.t 30)),
 (some (23, false), .mv 32 (.t 31)),
 (some (32, true), .fa 33 1 (.t 6)),
 (some (32, true), .ld 34 none (.t 33)),
 (some (32, true), .bi 35 .lss (.t 34) (.c (.n .i64 101))),
 (some (32, true), .mv 36 (.t 35)),
 (some (36, false), .fa 37 1 (.t 6)),
 (some (36, false), .ld 38 none (.t 37)),
 (some (36, false), .bi 39 .gtr (.t 38) (.c (.n .i64 105))),
 (some (32, true), .pk 40 (.t 36) (.c (.b true)) (.t 39)),
 (some (23, false), .pk 41 (.t 32) (.t 40) (.c (.b false))),
 (none, .pk 42 (.t 23) (.c (.b true)) (.t 41)),
 (none, .kp [0, 1, 5, 6, 7, 8, 9, 42])])
 (.ite (.t 42) (.seq (.rg [(none, .mv 4 (.c (.b false))),
 (none, .kp [4])])
 (.rt))
 (.sk)))
 (.seq (.dr [[], [0], [0, 1], [0, 1, 2], [0, 1, 2, 3], [0, 1, 2], [0, 1, 2], [0, 1, 2, 6], [0, 1, 2, 5, 6, 7], [0, 1, 2, 5, 6, 7, 8], [0, 1, 2, 5, 6, 7, 8, 9], [0, 1, 2, 3, 4, 5, 6, 7, 8, 9, 10], [0, 1, 2, 3, 4, 5, 6, 7, 8, 9, 10, 11], [0, 1, 2, 3, 4, 5, 6, 7, 8, 9, 10, 11, 12], [0, 1, 2, 3, 4, 5, 6, 7, 8, 9, 10, 11, 12, 13], [0, 1, 2, 3, 4, 5, 6, 7, 8, 9, 10, 11, 12], [0, 1, 2, 3, 4, 5, 6, 7, 8, 9, 10, 11, 12], [0, 1, 2, 3, 4, 5, 6, 7, 8, 9, 10, 11, 12, 16], [0, 1, 2, 3, 4, 5, 6, 7, 8, 9, 10, 11, 12, 15, 16, 17], [0, 1, 2, 3, 4, 5, 6, 7, 8, 9, 10, 11, 12, 15, 16, 17, 18], [0, 1, 2, 3, 4, 5, 6, 7, 8, 9, 10, 11, 12, 15, 16, 17, 18, 19], [0, 1, 2, 3, 4, 5, 6, 7, 8, 9, 10, 11, 12, 13, 14, 15, 16, 17, 18, 19, 20], [0, 1, 2, 3, 4, 5, 6, 7, 8, 9, 10, 11, 12, 13, 14, 15, 16, 17, 18, 19, 20, 21], [0, 1, 2, 3, 4, 5, 6, 7, 8, 9, 10, 11, 12, 13, 14, 15, 16, 17, 18, 19, 20, 21, 22], [0, 1, 2, 3, 4, 5, 6, 7, 8, 9, 10, 11, 12, 13, 14, 15, 16, 17, 18, 19, 20, 21, 22, 23], [0, 1, 2, 3, 4, 5, 6, 7, 8, 9, 10, 11, 12, 13, 14, 15, 16, 17, 18, 19, 20, 21, 22], [0, 1, 2, 3, 4, 5, 6, 7, 8, 9, 10, 11, 12, 13, 14, 15, 16, 17, 18, 19, 20, 21, 22], [0, 1, 2, 3, 4, 5, 6, 7, 8, 9, 10, 11, 12, 13, 14, 15, 16, 17, 18, 19, 20, 21, 22, 26], [0, 1, 2, 3, 4, 5, 6, 7, 8, 9, 10, 11, 12, 13, 14, 15, 16, 17, 18, 19, 20, 21, 22, 25, 26, 27], [0, 1, 2, 3, 4, 5, 6, 7, 8, 9, 10, 11, 12, 13, 14, 15, 16, 17, 18, 19, 20, 21, 22, 25, 26, 27, 28], [0, 1, 2, 3, 4, 5, 6, 7, 8, 9, 10, 11, 12, 13, 14, 15, 16, 17, 18, 19, 20, 21, 22, 25, 26, 27, 28, 29], [0, 1, 2, 3, 4, 5, 6, 7, 8, 9, 10, 11, 12, 13, 14, 15, 16, 17, 18, 19, 20, 21, 22, 23, 24, 25, 26, 27, 28, 29, 30], [0, 1, 2, 3, 4, 5, 6, 7, 8, 9, 10, 11, 12, 13, 14, 15, 16, 17, 18, 19, 20, 21, 22, 23, 24, 25, 26, 27, 28, 29, 30, 31], [0, 1, 2, 3, 4, 5, 6, 7, 8, 9, 10, 11, 12, 13, 14, 15, 16, 17, 18, 19, 20, 21, 22, 23, 24, 25, 26, 27, 28, 29, 30, 31, 32], [0, 1, 2, 3, 4, 5, 6, 7, 8, 9, 10, 11, 12, 13, 14, 15, 16, 17, 18, 19, 20, 21, 22, 23, 24, 25, 26, 27, 28, 29, 30, 31, 32, 33]]
 (.q 0 (none, .mv 43 (.t 5))
 (.q 1 (none, .bi 44 .gtr (.t 43) (.c (.n .i64 0)))
 (.q 2 (none, .mv 45 (.t 44))
 (.q 3 (some (45, true), .fa 46 0 (.t 6))
 (.q 4 (some (45, true), .ld 47 none (.t 46))
 (.q 5 (some (45, true), .mv 48 (.t 0))
 (.q 6 (some (45, true), .mv 49 (.t 5))
 (.q 7 (some (45, true), .bi 50 .sub (.t 49) (.c (.n .i64 1)))
 (.q 8 (some (45, true), .ia 51 2 (.t 48) (.t 50))
 (.q 9 (some (45, true), .fa 52 0 (.t 51))
 (.q 10 (some (45, true), .ld 53 none (.t 52))
 (.q 11 (some (45, true), .bi 54 .lss (.t 47) (.t 53))
 (.q 12 (some (45, true), .mv 55 (.t 54))
 (.q 13 (some (55, false), .fa 56 0 (.t 6))
 (.q 14 (some (55, false), .ld 57 none (.t 56))
 (.q 15 (some (55, false), .mv 58 (.t 0))
 (.q 16 (some (55, false), .mv 59 (.t 5))
 (.q 17 (some (55, false), .bi 60 .sub (.t 59) (.c (.n .i64 1)))
 (.q 18 (some (55, false), .ia 61 2 (.t 58) (.t 60))
 (.q 19 (some (55, false), .fa 62 0 (.t 61))
 (.q 20 (some (55, false), .ld 63 none (.t 62))
 (.q 21 (some (55, false), .bi 64 .eql (.t 57) (.t 63))
 (.q 22 (some (55, false), .mv 65 (.t 64))
 (.q 23 (some (65, true), .fa 66 1 (.t 6))
 (.q 24 (some (65, true), .ld 67 none (.t 66))
 (.q 25 (some (65, true), .mv 68 (.t 0))
 (.q 26 (some (65, true), .mv 69 (.t 5))
 (.q 27 (some (65, true), .bi 70 .sub (.t 69) (.c (.n .i64 1)))
 (.q 28 (some (65, true), .ia 71 2 (.t 68) (.t 70))
 (.q 29 (some (65, true), .fa 72 1 (.t 71))
 (.q 30 (some (65, true), .ld 73 none (.t 72))
 (.q 31 (some (65, true), .bi 74 .leq (.t 67) (.t 73))
 (.q 32 (some (55, false), .pk 75 (.t 65) (.t 74) (.c (.b false)))
 (.q 33 (some (45, true), .pk 76 (.t 55) (.c (.b true)) (.t 75))
 (.q 34 (none, .pk 77 (.t 45) (.t 76) (.c (.b false)))
 (.done)))))))))))))))))))))))))))))))))))) [0, 1, 7, 8, 9, 77])
 (.ite (.t 77) (.seq (.rg [(none, .mv 4 (.c (.b false))),
 (none, .kp [4])])
 (.rt))
 (.sk))))))
 (.rg [(none, .bi 78 .add (.t 9) (.c (.n .i64 1))),
 (none, .mv 9 (.t 78)),
 (none, .kp [0, 1, 7, 8, 9])])))
def pc130 : PC := .seq (.rg [(none, .mv 4 (.c (.b false))),
 (none, .kp [0, 1])])
 (.seq (.seq (.rg [(none, .mv 7 (.t 0)),
 (none, .ln 8 (.t 7)),
 (none, .mv 9 (.c (.n .i64 0))),
 (none, .kp [0, 1, 7, 8, 9])])
 (.blk 0 (.lp pc130l0)))
 (.seq (.rg [(none, .mv 4 (.c (.b true))),
 (none, .kp [4])])
 (.rt)))
theorem mr130 : MrT Try.prog 130 pc130 [.t 4] 79 := fun hn h => spec_of_run (fn := Try.f130) (by kernel_rfl) rfl (by kernel_rfl) (by kernel_rfl) hn h
theorem mk130 : MkT Try.prog 130 pc130 [.t 4] 79 := mr130.k
theorem mw130 : MwT Try.prog 130 pc130 [.t 4] 79 := mr130.w
-- 131 laws.eqAssocS
def pc131l0 : PC := .seq (.seq (.rg [(none, .mv 11 (.t 5)),
 (none, .mv 12 (.t 0)),
 (none, .ln 13 (.t 12)),
 (none, .bi 14 .lss (.t 11) (.t 13)),
 (none, .kp [0, 1, 5, 14])])
 (.ite (.t 14) (.sk)
 (.ex 0)))
 (.seq (.blk 1 (.seq (.dr [[], [], [0, 1], [0, 1, 2], [], [], [4, 5], [4, 5, 6], [0, 1, 2, 3, 4, 5, 6, 7], [0, 1, 2, 3, 4, 5, 6, 7, 8]]
 (.q 0 (none, .mv 17 (.t 0))
 (.q 1 (none, .mv 18 (.t 5))
 (.q 2 (none, .ia 19 14 (.t 17) (.t 18))
 (.q 3 (none, .ld 20 (some 14) (.t 19))
 (.q 4 (none, .mv 21 (.t 1))
 (.q 5 (none, .mv 22 (.t 5))
 (.q 6 (none, .ia 23 14 (.t 21) (.t 22))
 (.q 7 (none, .ld 24 (some 14) (.t 23))
 (.alt 8 (none, .ca (some 25) 55 [.t 20, .t 24]) [false, false, false, false, false, false, false, false]
 (.q 9 (none, .un 26 .not (.t 25))
 (.done))
 (.stop)))))))))) [0, 1, 5, 26])
 (.ite (.t 26) (.seq (.rg [(none, .mv 4 (.c (.b false))),
 (none, .kp [4])])
 (.rt))
 (.sk))))
 (.rg [(none, .mv 15 (.t 5)),
 (none, .bi 16 .add (.t 15) (.c (.n .i64 1))),
 (none, .mv 5 (.t 16)),
 (none, .kp [0, 1, 5])]))
def pc131 : PC := .seq (.rg [(none, .mv 4 (.c (.b false))),
 (none, .kp [0, 1])])
 (.seq (.seq (.rg [(none, .mv 6 (.t 0)),
 (none, .ln 7 (.t 6)),
 (none, .mv 8 (.t 1)),
 (none, .ln 9 (.t 8)),
 (none, .bi 10 .neq (.t 7) (.t 9)),
 (none, .kp [0, 1, 10])])
 (.ite (.t 10) (.seq (.rg [(none, .mv 4 (.c (.b false))),
 (none, .kp [4])])
 (.rt))
 (.sk)))
 (.seq (.seq (.rg [(none, .mv 5 (.c (.n .i64 0))),
 (none, .kp [0, 1, 5])])
 (.blk 0 (.lp pc131l0)))
 (.seq (.rg [(none, .mv 4 (.c (.b true))),
 (none, .kp [4])])
 (.rt))))
theorem mr131 : MrT Try.prog 131 pc131 [.t 4] 27 := fun hn h => spec_of_run (fn := Try.f131) (by kernel_rfl) rfl (by kernel_rfl) (by kernel_rfl) hn h
theorem mk131 : MkT Try.prog 131 pc131 [.t 4] 27 := mr131.k
theorem mw131 : MwT Try.prog 131 pc131 [.t 4] 27 := mr131.w
-- 132 laws.eqFindingS
def pc132l0 : PC := .seq (.seq (.rg [(none, .mv 11 (.t 5)),
 (none, .mv 12 (.t 0)),
 (none, .ln 13 (.t 12)),
 (none, .bi 14 .lss (.t 11) (.t 13)),
 (none, .kp [0, 1, 5, 14])])
 (.ite (.t 14) (.sk)
 (.ex 0)))
 (.seq (.blk 1 (.seq (.dr [[], [], [0, 1], [0, 1, 2], [], [], [4, 5], [4, 5, 6], [0, 1, 2, 3, 4, 5, 6, 7], [0, 1, 2, 3, 4, 5, 6, 7, 8]]
 (.q 0 (none, .mv 17 (.t 0))
 (.q 1 (none, .mv 18 (.t 5))
 (.q 2 (none, .ia 19 2 (.t 17) (.t 18))
 (.q 3 (none, .ld 20 (some 2) (.t 19))
 (.q 4 (none, .mv 21 (.t 1))
 (.q 5 (none, .mv 22 (.t 5))
 (.q 6 (none, .ia 23 2 (.t 21) (.t 22))
 (.q 7 (none, .ld 24 (some 2) (.t 23))
 (.alt 8 (none, .ca (some 25) 181 [.t 20, .t 24]) [false, false, false, false, false, false, false, false]
 (.q 9 (none, .un 26 .not (.t 25))
 (.done))
 (.stop)))))))))) [0, 1, 5, 26])
 (.ite (.t 26) (.seq (.rg [(none, .mv 4 (.c (.b false))),
 (none, .kp [4])])
 (.rt))
 (.sk))))
 (.rg [(none, .mv 15 (.t 5)),
 (none, .bi 16 .add (.t 15) (.c (.n .i64 1))),
 (none, .mv 5 (.t 16)),
 (none, .kp [0, 1, 5])]))
def pc132 : PC := .seq (.rg [(none, .mv 4 (.c (.b false))),
 (none, .kp [0, 1])])
 (.seq (.seq (.rg [(none, .mv 6 (.t 0)),
 (none, .ln 7 (.t 6)),
 (none, .mv 8 (.t 1)),
 (none, .ln 9 (.t 8)),
 (none, .bi 10 .neq (.t 7) (.t 9)),
 (none, .kp [0, 1, 10])])
 (.ite (.t 10) (.seq (.rg [(none, .mv 4 (.c (.b false))),
 (none, .kp [4])])
 (.rt))
 (.sk)))
 (.seq (.seq (.rg [(none, .mv 5 (.c (.n .i64 0))),
 (none, .kp [0, 1, 5])])
 (.blk 0 (.lp pc132l0)))
 (.seq (.rg [(none, .mv 4 (.c (.b true))),
 (none, .kp [4])])
 (.rt))))
theorem mr132 : MrT Try.prog 132 pc132 [.t 4] 27 := fun hn h => spec_of_run (fn := Try.f132) (by kernel_rfl) rfl (by kernel_rfl) (by kernel_rfl) hn h
theorem mk132 : MkT Try.prog 132 pc132 [.t 4] 27 := mr132.k
theorem mw132 : MwT Try.prog 132 pc132 [.t 4] 27 := mr132.w
-- 133 spec.l32Find
def pc133l0 : PC := .seq (.seq (.rg [(none, .mv 8 (.t 7)),
 (none, .fa 9 1 (.t 3)),
 (none, .ld 10 none (.t 9)),
 (none, .ln 11 (.t 10)),
 (none, .bi 12 .lss (.t 8) (.t 11)),
 (none, .kp [1, 2, 3, 7, 12])])
 (.ite (.t 12) (.sk)
 (.ex 0)))
 (.seq (.blk 1 (.seq (.rg [(none, .fa 15 1 (.t 3)),
 (none, .ld 16 none (.t 15)),
 (none, .mv 17 (.t 7)),
 (none, .ia 18 14 (.t 16) (.t 17)),
 (none, .ld 19 (some 14) (.t 18)),
 (none, .mv 20 (.t 1)),
 (none, .mv 21 (.t 2)),
 (none, .bd 22 [.n .i64 0, .n .i64 0, .n .i64 0, .b false, .n .i64 0, .n .i64 0, .n .i64 0, .nil, .n .i64 0, .n .i64 0, .n .i64 0, .n .i64 0, .nil, .n .i64 0] [(0, 1, .t 20), (1, 1, .t 21)]),
 (none, .ca (some 23) 122 [.t 19, .t 22]),
 (none, .kp [1, 2, 3, 7, 23])])
 (.ite (.t 23) (.seq (.rg [(none, .mv 24 (.t 7)),
 (none, .mv 6 (.t 24)),
 (none, .kp [6])])
 (.rt))
 (.sk))))
 (.rg [(none, .mv 13 (.t 7)),
 (none, .bi 14 .add (.t 13) (.c (.n .i64 1))),
 (none, .mv 7 (.t 14)),
 (none, .kp [1, 2, 3, 7])]))
def pc133 : PC := .seq (.rg [(none, .bx 3 (.t 0)),
 (none, .mv 6 (.c (.n .i64 0))),
 (none, .kp [1, 2, 3])])
 (.seq (.seq (.rg [(none, .mv 7 (.c (.n .i64 0))),
 (none, .kp [1, 2, 3, 7])])
 (.blk 0 (.lp pc133l0)))
 (.seq (.rg [(none, .mv 6 (.c (.n .i64 (-1)))),
 (none, .kp [6])])
 (.rt)))
theorem mr133 : MrT Try.prog 133 pc133 [.t 6] 25 := fun hn h => spec_of_run (fn := Try.f133) (by kernel_rfl) rfl (by kernel_rfl) (by kernel_rfl) hn h
theorem mk133 : MkT Try.prog 133 pc133 [.t 6] 25 := mr133.k
theorem mw133 : MwT Try.prog 133 pc133 [.t 6] 25 := mr133.w
-- 134 laws.szSide
def pc134 : PC := .seq (.rg [(none, .bx 2 (.t 0)),
 (none, .mv 4 (.c (.n .i64 0))),
 (none, .kp [1, 2])])
 (.seq (.rg [(none, .fa 5 3 (.t 2)),
 (none, .ld 6 none (.t 5)),
 (none, .mv 7 (.t 1)),
 (none, .ca (some 8) 182 [.t 6, .t 7]),
 (none, .mv 1 (.t 8)),
 (none, .kp [1])])
 (.seq (.seq (.rg [(none, .mv 9 (.t 1)),
 (none, .bi 10 .lss (.t 9) (.c (.n .i64 0))),
 (none, .kp [1, 10])])
 (.ite (.t 10) (.seq (.rg [(none, .mv 4 (.c (.n .i64 (-1)))),
 (none, .kp [4])])
 (.rt))
 (.sk)))
 (.seq (.rg [(none, .mv 11 (.t 1)),
 (none, .mv 4 (.t 11)),
 (none, .kp [4])])
 (.rt))))
theorem mr134 : MrT Try.prog 134 pc134 [.t 4] 12 := fun hn h => spec_of_run (fn := Try.f134) (by kernel_rfl) rfl (by kernel_rfl) (by kernel_rfl) hn h
theorem mk134 : MkT Try.prog 134 pc134 [.t 4] 12 := mr134.k
theorem mw134 : MwT Try.prog 134 pc134 [.t 4] 12 := mr134.w
-- 139 laws.toSide
def pc139 : PC := .seq (.rg [(none, .bx 1 (.t 0)),
 (none, .al 2 [.n .i64 0, .n .i64 0, .n .i64 0, .nil, .n .i64 0]),
 (none, .kp [1, 2])])
 (.seq (.rg [(none, .al 3 [.n .i64 0, .n .i64 0, .n .i64 0, .nil, .n .i64 0]),
 (none, .kp [1, 2, 3])])
 (.seq (.rg [(none, .fa 4 0 (.t 1)),
 (none, .ld 5 none (.t 4)),
 (none, .fa 6 0 (.t 3)),
 (none, .st 1 (.t 6) (.t 5)),
 (none, .kp [1, 2, 3])])
 (.seq (.rg [(none, .fa 7 1 (.t 1)),
 (none, .ld 8 none (.t 7)),
 (none, .fa 9 1 (.t 3)),
 (none, .st 1 (.t 9) (.t 8)),
 (none, .kp [1, 2, 3])])
 (.seq (.rg [(none, .fa 10 2 (.t 1)),
 (none, .ld 11 none (.t 10)),
 (none, .fa 12 2 (.t 3)),
 (none, .st 1 (.t 12) (.t 11)),
 (none, .kp [1, 2, 3])])
 (.seq (.rg [(none, .fa 13 3 (.t 1)),
 (none, .ld 14 none (.t 13)),
 (none, .ca (some 15) 189 [.t 14]),
 (none, .fa 16 3 (.t 3)),
 (none, .st 1 (.t 16) (.t 15)),
 (none, .kp [1, 2, 3])])
 (.seq (.rg [(none, .fa 17 4 (.t 1)),
 (none, .ld 18 none (.t 17)),
 (none, .fa 19 4 (.t 3)),
 (none, .st 1 (.t 19) (.t 18)),
 (none, .kp [2, 3])])
 (.seq (.rg [(none, .ld 20 (some 5) (.t 3)),
 (none, .st 5 (.t 2) (.t 20)),
 (none, .kp [2])])
 (.rt))))))))
theorem mr139 : MrT Try.prog 139 pc139 [.c 2 (some 5)] 21 := fun hn h => spec_of_run (fn := Try.f139) (by kernel_rfl) rfl (by kernel_rfl) (by kernel_rfl) hn h
theorem mk139 : MkT Try.prog 139 pc139 [.c 2 (some 5)] 21 := mr139.k
theorem mw139 : MwT Try.prog 139 pc139 [.c 2 (some 5)] 21 := mr139.w
-- 144 laws.eqSide
def pc144 : PC := .seq (.rg [(none, .bx 2 (.t 0)),
 (none, .bx 3 (.t 1)),
 (none, .mv 4 (.c (.b false))),
 (none, .kp [2, 3])])
 (.seq (.seq (.rg [(none, .fa 5 0 (.t 2)),
 (none, .ld 6 none (.t 5)),
 (none, .fa 7 0 (.t 3)),
 (none, .ld 8 none (.t 7)),
 (none, .bi 9 .neq (.t 6) (.t 8)),
 (none, .kp [2, 3, 9])])
 (.ite (.t 9) (.seq (.rg [(none, .mv 4 (.c (.b false))),
 (none, .kp [4])])
 (.rt))
 (.sk)))
 (.seq (.seq (.rg [(none, .fa 10 1 (.t 2)),
 (none, .ld 11 none (.t 10)),
 (none, .fa 12 1 (.t 3)),
 (none, .ld 13 none (.t 12)),
 (none, .bi 14 .neq (.t 11) (.t 13)),
 (none, .kp [2, 3, 14])])
 (.ite (.t 14) (.seq (.rg [(none, .mv 4 (.c (.b false))),
 (none, .kp [4])])
 (.rt))
 (.sk)))
 (.seq (.seq (.rg [(none, .fa 15 2 (.t 2)),
 (none, .ld 16 none (.t 15)),
 (none, .fa 17 2 (.t 3)),
 (none, .ld 18 none (.t 17)),
 (none, .bi 19 .neq (.t 16) (.t 18)),
 (none, .kp [2, 3, 19])])
 (.ite (.t 19) (.seq (.rg [(none, .mv 4 (.c (.b false))),
 (none, .kp [4])])
 (.rt))
 (.sk)))
 (.seq (.seq (.rg [(none, .fa 20 3 (.t 2)),
 (none, .ld 21 none (.t 20)),
 (none, .fa 22 3 (.t 3)),
 (none, .ld 23 none (.t 22)),
 (none, .ca (some 24) 194 [.t 21, .t 23]),
 (none, .un 25 .not (.t 24)),
 (none, .kp [2, 3, 25])])
 (.ite (.t 25) (.seq (.rg [(none, .mv 4 (.c (.b false))),
 (none, .kp [4])])
 (.rt))
 (.sk)))
 (.seq (.seq (.rg [(none, .fa 26 4 (.t 2)),
 (none, .ld 27 none (.t 26)),
 (none, .fa 28 4 (.t 3)),
 (none, .ld 29 none (.t 28)),
 (none, .bi 30 .neq (.t 27) (.t 29)),
 (none, .kp [30])])
 (.ite (.t 30) (.seq (.rg [(none, .mv 4 (.c (.b false))),
 (none, .kp [4])])
 (.rt))
 (.sk)))
 (.seq (.rg [(none, .mv 4 (.c (.b true))),
 (none, .kp [4])])
 (.rt)))))))
theorem mr144 : MrT Try.prog 144 pc144 [.t 4] 31 := fun hn h => spec_of_run (fn := Try.f144) (by kernel_rfl) rfl (by kernel_rfl) (by kernel_rfl) hn h
theorem mk144 : MkT Try.prog 144 pc144 [.t 4] 31 := mr144.k
theorem mw144 : MwT Try.prog 144 pc144 [.t 4] 31 := mr144.w
-- 149 impl.SideValid
def pc149l0 : PC := .seq (.rg [(none, .bi 74 .lss (.t 73) (.t 72)),
 (none, .kp [1, 71, 72, 73, 74])])
 (.seq (.ite (.t 74) (.sk)
 (.ex 0))
 (.seq (.blk 1 (.seq (.rg [(none, .mv 75 (.t 73)),
 (none, .ia 76 7 (.t 71) (.t 73)),
 (none, .ld 77 (some 7) (.t 76)),
 (none, .al 4 [.n .i64 0, .n .i64 0, .n .i64 0, .b false, .b false, .b false, .s []]),
 (none, .mv 3 (.t 75)),
 (none, .st 7 (.t 4) (.t 77)),
 (none, .kp [1, 3, 4, 71, 72, 73])])
 (.seq (.dr [[], [0], [0, 1], [0, 1, 2], [0, 1, 2, 3], [0, 1, 2, 3, 4], [0, 1, 2, 3], [0, 1, 2, 3, 6], [0, 1, 2, 3], [0, 1, 2, 3, 6, 7, 8], [0, 1, 2, 3, 4, 5, 6, 7, 8, 9], [0, 1, 2, 3, 4, 5, 6, 7, 8, 9, 10], [0, 1, 2, 3, 4, 5, 6, 7, 8, 9, 10, 11], [0, 1, 2, 3, 4, 5, 6, 7, 8, 9, 10, 11, 12], [0, 1, 2, 3, 4, 5, 6, 7, 8, 9, 10, 11, 12, 13], [0, 1, 2, 3, 4, 5, 6, 7, 8, 9, 10, 11, 12], [0, 1, 2, 3, 4, 5, 6, 7, 8, 9, 10, 11, 12, 15], [0, 1, 2, 3, 4, 5, 6, 7, 8, 9, 10, 11, 12, 13, 14, 15, 16], [0, 1, 2, 3, 4, 5, 6, 7, 8, 9, 10, 11, 12, 13, 14, 15, 16, 17], [0, 1, 2, 3, 4, 5, 6, 7, 8, 9, 10, 11, 12, 13, 14, 15, 16, 17, 18], [0, 1, 2, 3, 4, 5, 6, 7, 8, 9, 10, 11, 12, 13, 14, 15, 16, 17, 18, 19], [0, 1, 2, 3, 4, 5, 6, 7, 8, 9, 10, 11, 12, 13, 14, 15, 16, 17, 18, 19, 20], [0, 1, 2, 3, 4, 5, 6, 7, 8, 9, 10, 11, 12, 13, 14, 15, 16, 17, 18, 19], [0, 1, 2, 3, 4, 5, 6, 7, 8, 9, 10, 11, 12, 13, 14, 15, 16, 17, 18, 19, 20, 21, 22], [0, 1, 2, 3, 4, 5, 6, 7, 8, 9, 10, 11, 12, 13, 14, 15, 16, 17, 18, 19], [0, 1, 2, 3, 4, 5, 6, 7, 8, 9, 10, 11, 12, 13, 14, 15, 16, 17, 18, 19, 20, 21, 22, 23, 24], [0, 1, 2, 3, 4, 5, 6, 7, 8, 9, 10, 11, 12, 13, 14, 15, 16, 17, 18, 19, 20, 21, 22, 23, 24, 25], [0, 1, 2, 3, 4, 5, 6, 7, 8, 9, 10, 11, 12, 13, 14, 15, 16, 17, 18, 19, 20, 21, 22, 23, 24, 25, 26]]
 (.q 0 (none, .ld 78 (some 7) (.t 4))
 (.alt 1 (none, .ca (some 79) 75 [.t 78]) [false]
 (.q 2 (none, .un 80 .not (.t 79))
 (.q 3 (none, .mv 81 (.t 80))
 (.q 4 (some (81, false), .fa 82 0 (.t 4))
 (.q 5 (some (81, false), .ld 83 none (.t 82))
 (.q 6 (some (81, false), .fa 84 2 (.t 1))
 (.q 7 (some (81, false), .ld 85 none (.t 84))
 (.q 8 (some (81, false), .mv 86 (.t 3))
 (.alt 9 (some (81, false), .ca (some 87) 78 [.t 85, .t 86]) [false, false, false, true, true, false, false, false]
 (.q 10 (some (81, false), .bi 88 .neq (.t 83) (.t 87))
 (.q 11 (none, .pk 89 (.t 81) (.c (.b true)) (.t 88))
 (.q 12 (none, .mv 90 (.t 89))
 (.q 13 (some (90, false), .fa 91 1 (.t 4))
 (.q 14 (some (90, false), .ld 92 none (.t 91))
 (.q 15 (some (90, false), .fa 93 1 (.t 1))
 (.q 16 (some (90, false), .ld 94 none (.t 93))
 (.q 17 (some (90, false), .bi 95 .geq (.t 92) (.t 94))
 (.q 18 (none, .pk 96 (.t 90) (.c (.b true)) (.t 95))
 (.q 19 (none, .mv 97 (.t 96))
 (.q 20 (some (97, false), .fa 98 3 (.t 1))
 (.q 21 (some (97, false), .ld 99 none (.t 98))
 (.q 22 (some (97, false), .mv 100 (.t 3))
 (.q 23 (some (97, false), .sc 101 7 (.t 99) none (some (.t 100)))
 (.q 24 (some (97, false), .ld 102 (some 7) (.t 4))
 (.alt 25 (some (97, false), .ca (some 103) 200 [.t 101, .t 102]) [false, false, false, false, false, false, false, false, false, false, false, false, false, false, false, false, false, false, false, false, false, false, false]
 (.q 26 (some (97, false), .un 104 .not (.t 103))
 (.q 27 (none, .pk 105 (.t 97) (.c (.b true)) (.t 104))
 (.done)))
 (.stop)))))))))))))))))
 (.stop)))))))))
 (.stop))) [1, 71, 72, 73, 105])
 (.ite (.t 105) (.seq (.rg [(none, .mv 2 (.c (.b false))),
 (none, .kp [2])])
 (.rt))
 (.sk)))))
 (.rg [(none, .bi 106 .add (.t 73) (.c (.n .i64 1))),
 (none, .mv 73 (.t 106)),
 (none, .kp [1, 71, 72, 73])])))
def pc149 : PC := .seq (.rg [(none, .bx 1 (.t 0)),
 (none, .mv 2 (.c (.b false))),
 (none, .kp [1])])
 (.seq (.seq (.rg [(none, .fa 5 0 (.t 1)),
 (none, .ld 6 none (.t 5)),
 (none, .bi 7 .eql (.t 6) (.c (.n .i64 0))),
 (none, .kp [1, 7])])
 (.ite (.t 7) (.seq (.rg [(none, .fa 8 1 (.t 1)),
 (none, .ld 9 none (.t 8)),
 (none, .bi 10 .eql (.t 9) (.c (.n .i64 0))),
 (none, .mv 11 (.t 10)),
 (some (11, true), .fa 12 2 (.t 1)),
 (some (11, true), .ld 13 none (.t 12)),
 (some (11, true), .bi 14 .eql (.t 13) (.c (.n .i64 0))),
 (none, .pk 15 (.t 11) (.t 14) (.c (.b false))),
 (none, .mv 16 (.t 15)),
 (some (16, true), .fa 17 3 (.t 1)),
 (some (16, true), .ld 18 none (.t 17)),
 (some (16, true), .ln 19 (.t 18)),
 (some (16, true), .bi 20 .eql (.t 19) (.c (.n .i64 0))),
 (none, .pk 21 (.t 16) (.t 20) (.c (.b false))),
 (none, .mv 22 (.t 21)),
 (some (22, true), .fa 23 4 (.t 1)),
 (some (22, true), .ld 24 none (.t 23)),
 (some (22, true), .bi 25 .eql (.t 24) (.c (.n .i64 0))),
 (none, .pk 26 (.t 22) (.t 25) (.c (.b false))),
 (none, .mv 2 (.t 26)),
 (none, .kp [2])])
 (.rt))
 (.sk)))
 (.seq (.seq (.rg [(none, .fa 27 0 (.t 1)),
 (none, .ld 28 none (.t 27)),
 (none, .bi 29 .lss (.t 28) (.c (.n .i64 1))),
 (none, .mv 30 (.t 29)),
 (some (30, false), .fa 31 0 (.t 1)),
 (some (30, false), .ld 32 none (.t 31)),
 (some (30, false), .bi 33 .gtr (.t 32) (.c (.n .i64 4294967295))),
 (none, .pk 34 (.t 30) (.c (.b true)) (.t 33)),
 (none, .mv 35 (.t 34)),
 (some (35, false), .fa 36 1 (.t 1)),
 (some (35, false), .ld 37 none (.t 36)),
 (some (35, false), .bi 38 .lss (.t 37) (.c (.n .i64 1))),
 (none, .pk 39 (.t 35) (.c (.b true)) (.t 38)),
 (none, .mv 40 (.t 39)),
 (some (40, false), .fa 41 1 (.t 1)),
 (some (40, false), .ld 42 none (.t 41)),
 (some (40, false), .bi 43 .gtr (.t 42) (.c (.n .i64 4))),
 (none, .pk 44 (.t 40) (.c (.b true)) (.t 43)),
 (none, .mv 45 (.t 44)),
 (some (45, false), .fa 46 2 (.t 1)),
 (some (45, false), .ld 47 none (.t 46)),
 (some (45, false), .ca (some 48) 158 [.t 47]),
 (some (45, false), .un 49 .not (.t 48)),
 (none, .pk 50 (.t 45) (.c (.b true)) (.t 49)),
 (none, .mv 51 (.t 50)),
 (some (51, false), .fa 52 3 (.t 1)),
 (some (51, false), .ld 53 none (.t 52)),
 (some (51, false), .ln 54 (.t 53)),
 (some (51, false), .bi 55 .gtr (.t 54) (.c (.n .i64 12))),
 (none, .pk 56 (.t 51) (.c (.b true)) (.t 55)),
 (none, .mv 57 (.t 56)),
 (some (57, false), .fa 58 4 (.t 1)),
 (some (57, false), .ld 59 none (.t 58)),
 (some (57, false), .bi 60 .lss (.t 59) (.c (.n .i64 0))),
 (none, .pk 61 (.t 57) (.c (.b true)) (.t 60)),
 (none, .mv 62 (.t 61)),
 (some (62, false), .fa 63 4 (.t 1)),
 (some (62, false), .ld 64 none (.t 63)),
 (some (62, false), .fa 65 3 (.t 1)),
 (some (62, false), .ld 66 none (.t 65)),
 (some (62, false), .ln 67 (.t 66)),
 (some (62, false), .bi 68 .gtr (.t 64) (.t 67)),
 (none, .pk 69 (.t 62) (.c (.b true)) (.t 68)),
 (none, .kp [1, 69])])
 (.ite (.t 69) (.seq (.rg [(none, .mv 2 (.c (.b false))),
 (none, .kp [2])])
 (.rt))
 (.sk)))
 (.seq (.seq (.rg [(none, .fa 70 3 (.t 1)),
 (none, .ld 71 none (.t 70)),
 (none, .ln 72 (.t 71)),
 (none, .mv 73 (.c (.n .i64 0))),
 (none, .kp [1, 71, 72, 73])])
 (.blk 0 (.lp pc149l0)))
 (.seq (.rg [(none, .mv 2 (.c (.b true))),
 (none, .kp [2])])
 (.rt)))))
theorem mr149 : MrT Try.prog 149 pc149 [.t 2] 107 := fun hn h => spec_of_run (fn := Try.f149) (by kernel_rfl) rfl (by kernel_rfl) (by kernel_rfl) hn h
theorem mk149 : MkT Try.prog 149 pc149 [.t 2] 107 := mr149.k
theorem mw149 : MwT Try.prog 149 pc149 [.t 2] 107 := mr149.w
-- 158 impl.serialOk
def pc158 : PC := .seq (.rg [(none, .mv 2 (.c (.b false))),
 (none, .kp [0])])
 (.seq (.rg [(none, .mv 3 (.t 0)),
 (none, .bi 4 .geq (.t 3) (.c (.n .i64 0))),
 (none, .mv 5 (.t 4)),
 (some (5, true), .mv 6 (.t 0)),
 (some (5, true), .bi 7 .lss (.t 6) (.c (.n .i64 65536))),
 (none, .pk 8 (.t 5) (.t 7) (.c (.b false))),
 (none, .mv 2 (.t 8)),
 (none, .kp [2])])
 (.rt))
theorem mr158 : MrT Try.prog 158 pc158 [.t 2] 9 := fun hn h => spec_of_run (fn := Try.f158) (by kernel_rfl) rfl (by kernel_rfl) (by kernel_rfl) hn h
theorem mk158 : MkT Try.prog 158 pc158 [.t 2] 9 := mr158.k
theorem mw158 : MwT Try.prog 158 pc158 [.t 2] 9 := mr158.w
-- 166 spec.l31Ssn
def pc166l0 : PC := .seq (.seq (.rg [(none, .mv 7 (.t 6)),
 (none, .mv 8 (.t 0)),
 (none, .ln 9 (.t 8)),
 (none, .bi 10 .lss (.t 7) (.t 9)),
 (none, .kp [0, 1, 5, 6, 10])])
 (.ite (.t 10) (.sk)
 (.ex 0)))
 (.seq (.blk 1 (.seq (.rg [(none, .mv 13 (.t 0)),
 (none, .mv 14 (.t 6)),
 (none, .ia 15 7 (.t 13) (.t 14)),
 (none, .fa 16 3 (.t 15)),
 (none, .ld 17 none (.t 16)),
 (none, .mv 18 (.t 17)),
 (some (18, true), .mv 19 (.t 0)),
 (some (18, true), .mv 20 (.t 6)),
 (some (18, true), .ia 21 7 (.t 19) (.t 20)),
 (some (18, true), .fa 22 5 (.t 21)),
 (some (18, true), .ld 23 none (.t 22)),
 (some (18, true), .un 24 .not (.t 23)),
 (none, .pk 25 (.t 18) (.t 24) (.c (.b false))),
 (none, .mv 26 (.t 25)),
 (some (26, true), .mv 27 (.t 0)),
 (some (26, true), .mv 28 (.t 6)),
 (some (26, true), .ia 29 7 (.t 27) (.t 28)),
 (some (26, true), .fa 30 1 (.t 29)),
 (some (26, true), .ld 31 none (.t 30)),
 (some (26, true), .mv 32 (.t 1)),
 (some (26, true), .bi 33 .eql (.t 31) (.t 32)),
 (none, .pk 34 (.t 26) (.t 33) (.c (.b false))),
 (none, .kp [0, 1, 5, 6, 34])])
 (.ite (.t 34) (.rg [(none, .mv 35 (.t 5)),
 (none, .bi 36 .add (.t 35) (.c (.n .i64 1))),
 (none, .mv 5 (.t 36)),
 (none, .kp [0, 1, 5, 6])])
 (.sk))))
 (.rg [(none, .mv 11 (.t 6)),
 (none, .bi 12 .add (.t 11) (.c (.n .i64 1))),
 (none, .mv 6 (.t 12)),
 (none, .kp [0, 1, 5, 6])]))
def pc166 : PC := .seq (.rg [(none, .mv 4 (.c (.n .i64 0))),
 (none, .kp [0, 1])])
 (.seq (.rg [(none, .mv 5 (.c (.n .i64 0))),
 (none, .kp [0, 1, 5])])
 (.seq (.seq (.rg [(none, .mv 6 (.c (.n .i64 0))),
 (none, .kp [0, 1, 5, 6])])
 (.blk 0 (.lp pc166l0)))
 (.seq (.rg [(none, .mv 37 (.t 5)),
 (none, .mv 4 (.t 37)),
 (none, .kp [4])])
 (.rt))))
theorem mr166 : MrT Try.prog 166 pc166 [.t 4] 38 := fun hn h => spec_of_run (fn := Try.f166) (by kernel_rfl) rfl (by kernel_rfl) (by kernel_rfl) hn h
theorem mk166 : MkT Try.prog 166 pc166 [.t 4] 38 := mr166.k
theorem mw166 : MwT Try.prog 166 pc166 [.t 4] 38 := mr166.w
-- 178 spec.SideValid
def pc178l0 : PC := .seq (.seq (.rg [(none, .mv 27 (.t 3)),
 (none, .fa 28 3 (.t 1)),
 (none, .ld 29 none (.t 28)),
 (none, .ln 30 (.t 29)),
 (none, .bi 31 .lss (.t 27) (.t 30)),
 (none, .kp [1, 3, 31])])
 (.ite (.t 31) (.sk)
 (.ex 0)))
 (.seq (.blk 1 (.seq (.rg [(none, .fa 34 3 (.t 1)),
 (none, .ld 35 none (.t 34)),
 (none, .mv 36 (.t 3)),
 (none, .ia 37 7 (.t 35) (.t 36)),
 (none, .ld 38 (some 7) (.t 37)),
 (none, .al 4 [.n .i64 0, .n .i64 0, .n .i64 0, .b false, .b false, .b false, .s []]),
 (none, .st 7 (.t 4) (.t 38)),
 (none, .kp [1, 3, 4])])
 (.seq (.dr [[], [0], [0, 1], [0, 1, 2], [0, 1, 2, 3], [0, 1, 2, 3, 4], [0, 1, 2, 3], [0, 1, 2, 3, 6], [0, 1, 2, 3], [0, 1, 2, 3, 6, 7, 8], [0, 1, 2, 3, 4, 5, 6, 7, 8, 9], [0, 1, 2, 3, 4, 5, 6, 7, 8, 9, 10], [0, 1, 2, 3, 4, 5, 6, 7, 8, 9, 10, 11], [0, 1, 2, 3, 4, 5, 6, 7, 8, 9, 10, 11, 12], [0, 1, 2, 3, 4, 5, 6, 7, 8, 9, 10, 11, 12, 13], [0, 1, 2, 3, 4, 5, 6, 7, 8, 9, 10, 11, 12], [0, 1, 2, 3, 4, 5, 6, 7, 8, 9, 10, 11, 12, 15], [0, 1, 2, 3, 4, 5, 6, 7, 8, 9, 10, 11, 12, 13, 14, 15, 16], [0, 1, 2, 3, 4, 5, 6, 7, 8, 9, 10, 11, 12, 13, 14, 15, 16, 17], [0, 1, 2, 3, 4, 5, 6, 7, 8, 9, 10, 11, 12, 13, 14, 15, 16, 17, 18], [0, 1, 2, 3, 4, 5, 6, 7, 8, 9, 10, 11, 12, 13, 14, 15, 16, 17, 18, 19], [0, 1, 2, 3, 4, 5, 6, 7, 8, 9, 10, 11, 12, 13, 14, 15, 16, 17, 18, 19, 20], [0, 1, 2, 3, 4, 5, 6, 7, 8, 9, 10, 11, 12, 13, 14, 15, 16, 17, 18, 19], [0, 1, 2, 3, 4, 5, 6, 7, 8, 9, 10, 11, 12, 13, 14, 15, 16, 17, 18, 19, 20, 21, 22], [0, 1, 2, 3, 4, 5, 6, 7, 8, 9, 10, 11, 12, 13, 14, 15, 16, 17, 18, 19], [0, 1, 2, 3, 4, 5, 6, 7, 8, 9, 10, 11, 12, 13, 14, 15, 16, 17, 18, 19, 20, 21, 22, 23, 24], [0, 1, 2, 3, 4, 5, 6, 7, 8, 9, 10, 11, 12, 13, 14, 15, 16, 17, 18, 19, 20, 21, 22, 23, 24, 25], [0, 1, 2, 3, 4, 5, 6, 7, 8, 9, 10, 11, 12, 13, 14, 15, 16, 17, 18, 19, 20, 21, 22, 23, 24, 25, 26]]
 (.q 0 (none, .ld 39 (some 7) (.t 4))
 (.alt 1 (none, .ca (some 40) 70 [.t 39]) [false]
 (.q 2 (none, .un 41 .not (.t 40))
 (.q 3 (none, .mv 42 (.t 41))
 (.q 4 (some (42, false), .fa 43 0 (.t 4))
 (.q 5 (some (42, false), .ld 44 none (.t 43))
 (.q 6 (some (42, false), .fa 45 2 (.t 1))
 (.q 7 (some (42, false), .ld 46 none (.t 45))
 (.q 8 (some (42, false), .mv 47 (.t 3))
 (.alt 9 (some (42, false), .ca (some 48) 71 [.t 46, .t 47]) [false, false, false, true, true, false, false, false]
 (.q 10 (some (42, false), .bi 49 .neq (.t 44) (.t 48))
 (.q 11 (none, .pk 50 (.t 42) (.c (.b true)) (.t 49))
 (.q 12 (none, .mv 51 (.t 50))
 (.q 13 (some (51, false), .fa 52 1 (.t 4))
 (.q 14 (some (51, false), .ld 53 none (.t 52))
 (.q 15 (some (51, false), .fa 54 1 (.t 1))
 (.q 16 (some (51, false), .ld 55 none (.t 54))
 (.q 17 (some (51, false), .bi 56 .geq (.t 53) (.t 55))
 (.q 18 (none, .pk 57 (.t 51) (.c (.b true)) (.t 56))
 (.q 19 (none, .mv 58 (.t 57))
 (.q 20 (some (58, false), .fa 59 3 (.t 1))
 (.q 21 (some (58, false), .ld 60 none (.t 59))
 (.q 22 (some (58, false), .mv 61 (.t 3))
 (.q 23 (some (58, false), .sc 62 7 (.t 60) none (some (.t 61)))
 (.q 24 (some (58, false), .ld 63 (some 7) (.t 4))
 (.alt 25 (some (58, false), .ca (some 64) 209 [.t 62, .t 63]) [false, false, false, false, false, false, false, false, false, false, false, false, false, false, false, false, false, false, false, false, false, false, false]
 (.q 26 (some (58, false), .un 65 .not (.t 64))
 (.q 27 (none, .pk 66 (.t 58) (.c (.b true)) (.t 65))
 (.done)))
 (.stop)))))))))))))))))
 (.stop)))))))))
 (.stop))) [1, 3, 66])
 (.ite (.t 66) (.seq (.rg [(none, .mv 2 (.c (.b false))),
 (none, .kp [2])])
 (.rt))
 (.sk)))))
 (.rg [(none, .mv 32 (.t 3)),
 (none, .bi 33 .add (.t 32) (.c (.n .i64 1))),
 (none, .mv 3 (.t 33)),
 (none, .kp [1, 3])]))
def pc178 : PC := .seq (.rg [(none, .bx 1 (.t 0)),
 (none, .mv 2 (.c (.b false))),
 (none, .kp [1])])
 (.seq (.seq (.rg [(none, .fa 5 0 (.t 1)),
 (none, .ld 6 none (.t 5)),
 (none, .bi 7 .eql (.t 6) (.c (.n .i64 0))),
 (none, .kp [1, 7])])
 (.ite (.t 7) (.seq (.rg [(none, .fa 8 1 (.t 1)),
 (none, .ld 9 none (.t 8)),
 (none, .bi 10 .eql (.t 9) (.c (.n .i64 0))),
 (none, .mv 11 (.t 10)),
 (some (11, true), .fa 12 2 (.t 1)),
 (some (11, true), .ld 13 none (.t 12)),
 (some (11, true), .bi 14 .eql (.t 13) (.c (.n .i64 0))),
 (none, .pk 15 (.t 11) (.t 14) (.c (.b false))),
 (none, .mv 16 (.t 15)),
 (some (16, true), .fa 17 3 (.t 1)),
 (some (16, true), .ld 18 none (.t 17)),
 (some (16, true), .ln 19 (.t 18)),
 (some (16, true), .bi 20 .eql (.t 19) (.c (.n .i64 0))),
 (none, .pk 21 (.t 16) (.t 20) (.c (.b false))),
 (none, .mv 22 (.t 21)),
 (some (22, true), .fa 23 4 (.t 1)),
 (some (22, true), .ld 24 none (.t 23)),
 (some (22, true), .bi 25 .eql (.t 24) (.c (.n .i64 0))),
 (none, .pk 26 (.t 22) (.t 25) (.c (.b false))),
 (none, .mv 2 (.t 26)),
 (none, .kp [2])])
 (.rt))
 (.sk)))
 (.seq (.seq (.rg [(none, .mv 3 (.c (.n .i64 0))),
 (none, .kp [1, 3])])
 (.blk 0 (.lp pc178l0)))
 (.seq (.rg [(none, .fa 67 0 (.t 1)),
 (none, .ld 68 none (.t 67)),
 (none, .ca (some 69) 125 [.t 68, .c (.n .i64 1), .c (.n .i64 4294967295)]),
 (none, .mv 70 (.t 69)),
 (some (70, true), .fa 71 1 (.t 1)),
 (some (70, true), .ld 72 none (.t 71)),
 (some (70, true), .ca (some 73) 125 [.t 72, .c (.n .i64 1), .c (.n .i64 4)]),
 (none, .pk 74 (.t 70) (.t 73) (.c (.b false))),
 (none, .mv 75 (.t 74)),
 (some (75, true), .fa 76 2 (.t 1)),
 (some (75, true), .ld 77 none (.t 76)),
 (some (75, true), .ca (some 78) 73 [.t 77]),
 (none, .pk 79 (.t 75) (.t 78) (.c (.b false))),
 (none, .mv 80 (.t 79)),
 (some (80, true), .fa 81 3 (.t 1)),
 (some (80, true), .ld 82 none (.t 81)),
 (some (80, true), .ln 83 (.t 82)),
 (some (80, true), .bi 84 .leq (.t 83) (.c (.n .i64 12))),
 (none, .pk 85 (.t 80) (.t 84) (.c (.b false))),
 (none, .mv 86 (.t 85)),
 (some (86, true), .fa 87 4 (.t 1)),
 (some (86, true), .ld 88 none (.t 87)),
 (some (86, true), .fa 89 3 (.t 1)),
 (some (86, true), .ld 90 none (.t 89)),
 (some (86, true), .ln 91 (.t 90)),
 (some (86, true), .ca (some 92) 125 [.t 88, .c (.n .i64 0), .t 91]),
 (none, .pk 93 (.t 86) (.t 92) (.c (.b false))),
 (none, .mv 2 (.t 93)),
 (none, .kp [2])])
 (.rt))))
theorem mr178 : MrT Try.prog 178 pc178 [.t 2] 94 := fun hn h => spec_of_run (fn := Try.f178) (by kernel_rfl) rfl (by kernel_rfl) (by kernel_rfl) hn h
theorem mk178 : MkT Try.prog 178 pc178 [.t 2] 94 := mr178.k
theorem mw178 : MwT Try.prog 178 pc178 [.t 2] 94 := mr178.w
-- 179 spec.l31Open
def pc179 : PC := .seq (.rg [(none, .mv 2 (.c (.b false))),
 (none, .kp [0])])
 (.seq (.rg [(none, .mv 3 (.t 0)),
 (none, .ca (some 4) 125 [.t 3, .c (.n .i64 3), .c (.n .i64 7)]),
 (none, .mv 2 (.t 4)),
 (none, .kp [2])])
 (.rt))
theorem mr179 : MrT Try.prog 179 pc179 [.t 2] 5 := fun hn h => spec_of_run (fn := Try.f179) (by kernel_rfl) rfl (by kernel_rfl) (by kernel_rfl) hn h
theorem mk179 : MkT Try.prog 179 pc179 [.t 2] 5 := mr179.k
theorem mw179 : MwT Try.prog 179 pc179 [.t 2] 5 := mr179.w
-- 180 laws.toFinding
def pc180 : PC := .seq (.rg [(none, .bx 1 (.t 0)),
 (none, .al 2 [.n .i64 0, .n .i64 0]),
 (none, .kp [1, 2])])
 (.seq (.rg [(none, .al 3 [.n .i64 0, .n .i64 0]),
 (none, .kp [1, 2, 3])])
 (.seq (.rg [(none, .fa 4 0 (.t 1)),
 (none, .ld 5 none (.t 4)),
 (none, .fa 6 0 (.t 3)),
 (none, .st 1 (.t 6) (.t 5)),
 (none, .kp [1, 2, 3])])
 (.seq (.rg [(none, .fa 7 1 (.t 1)),
 (none, .ld 8 none (.t 7)),
 (none, .fa 9 1 (.t 3)),
 (none, .st 1 (.t 9) (.t 8)),
 (none, .kp [2, 3])])
 (.seq (.rg [(none, .ld 10 (some 2) (.t 3)),
 (none, .st 2 (.t 2) (.t 10)),
 (none, .kp [2])])
 (.rt)))))
theorem mr180 : MrT Try.prog 180 pc180 [.c 2 (some 2)] 11 := fun hn h => spec_of_run (fn := Try.f180) (by kernel_rfl) rfl (by kernel_rfl) (by kernel_rfl) hn h
theorem mk180 : MkT Try.prog 180 pc180 [.c 2 (some 2)] 11 := mr180.k
theorem mw180 : MwT Try.prog 180 pc180 [.c 2 (some 2)] 11 := mr180.w
-- 181 laws.eqFinding
def pc181 : PC := .seq (.rg [(none, .bx 2 (.t 0)),
 (none, .bx 3 (.t 1)),
 (none, .mv 4 (.c (.b false))),
 (none, .kp [2, 3])])
 (.seq (.seq (.rg [(none, .fa 5 0 (.t 2)),
 (none, .ld 6 none (.t 5)),
 (none, .fa 7 0 (.t 3)),
 (none, .ld 8 none (.t 7)),
 (none, .bi 9 .neq (.t 6) (.t 8)),
 (none, .kp [2, 3, 9])])
 (.ite (.t 9) (.seq (.rg [(none, .mv 4 (.c (.b false))),
 (none, .kp [4])])
 (.rt))
 (.sk)))
 (.seq (.seq (.rg [(none, .fa 10 1 (.t 2)),
 (none, .ld 11 none (.t 10)),
 (none, .fa 12 1 (.t 3)),
 (none, .ld 13 none (.t 12)),
 (none, .bi 14 .neq (.t 11) (.t 13)),
 (none, .kp [14])])
 (.ite (.t 14) (.seq (.rg [(none, .mv 4 (.c (.b false))),
 (none, .kp [4])])
 (.rt))
 (.sk)))
 (.seq (.rg [(none, .mv 4 (.c (.b true))),
 (none, .kp [4])])
 (.rt))))
theorem mr181 : MrT Try.prog 181 pc181 [.t 4] 15 := fun hn h => spec_of_run (fn := Try.f181) (by kernel_rfl) rfl (by kernel_rfl) (by kernel_rfl) hn h
theorem mk181 : MkT Try.prog 181 pc181 [.t 4] 15 := mr181.k
theorem mw181 : MwT Try.prog 181 pc181 [.t 4] 15 := mr181.w
-- 182 laws.szDataS
def pc182l0 : PC := .seq (.seq (.rg [(none, .mv 12 (.t 5)),
 (none, .mv 13 (.t 0)),
 (none, .ln 14 (.t 13)),
 (none, .bi 15 .lss (.t 12) (.t 14)),
 (none, .kp [0, 1, 5, 15])])
 (.ite (.t 15) (.sk)
 (.ex 0)))
 (.seq (.blk 1 (.seq (.rg [(none, .mv 18 (.t 0)),
 (none, .mv 19 (.t 5)),
 (none, .ia 20 7 (.t 18) (.t 19)),
 (none, .ld 21 (some 7) (.t 20)),
 (none, .mv 22 (.t 1)),
 (none, .ca (some 23) 210 [.t 21, .t 22]),
 (none, .mv 1 (.t 23)),
 (none, .kp [0, 1, 5])])
 (.seq (.rg [(none, .mv 24 (.t 1)),
 (none, .bi 25 .lss (.t 24) (.c (.n .i64 0))),
 (none, .kp [0, 1, 5, 25])])
 (.ite (.t 25) (.seq (.rg [(none, .mv 4 (.c (.n .i64 (-1)))),
 (none, .kp [4])])
 (.rt))
 (.sk)))))
 (.rg [(none, .mv 16 (.t 5)),
 (none, .bi 17 .add (.t 16) (.c (.n .i64 1))),
 (none, .mv 5 (.t 17)),
 (none, .kp [0, 1, 5])]))
def pc182 : PC := .seq (.rg [(none, .mv 4 (.c (.n .i64 0))),
 (none, .kp [0, 1])])
 (.seq (.rg [(none, .mv 6 (.t 1)),
 (none, .mv 7 (.t 0)),
 (none, .ln 8 (.t 7)),
 (none, .bi 9 .sub (.t 6) (.t 8)),
 (none, .mv 1 (.t 9)),
 (none, .kp [0, 1])])
 (.seq (.seq (.rg [(none, .mv 10 (.t 1)),
 (none, .bi 11 .lss (.t 10) (.c (.n .i64 0))),
 (none, .kp [0, 1, 11])])
 (.ite (.t 11) (.seq (.rg [(none, .mv 4 (.c (.n .i64 (-1)))),
 (none, .kp [4])])
 (.rt))
 (.sk)))
 (.seq (.seq (.rg [(none, .mv 5 (.c (.n .i64 0))),
 (none, .kp [0, 1, 5])])
 (.blk 0 (.lp pc182l0)))
 (.seq (.rg [(none, .mv 26 (.t 1)),
 (none, .mv 4 (.t 26)),
 (none, .kp [4])])
 (.rt)))))
theorem mr182 : MrT Try.prog 182 pc182 [.t 4] 27 := fun hn h => spec_of_run (fn := Try.f182) (by kernel_rfl) rfl (by kernel_rfl) (by kernel_rfl) hn h
theorem mk182 : MkT Try.prog 182 pc182 [.t 4] 27 := mr182.k
theorem mw182 : MwT Try.prog 182 pc182 [.t 4] 27 := mr182.w
-- 189 laws.toDataS
def pc189l0 : PC := .seq (.seq (.rg [(none, .mv 8 (.t 4)),
 (none, .mv 9 (.t 0)),
 (none, .ln 10 (.t 9)),
 (none, .bi 11 .lss (.t 8) (.t 10)),
 (none, .kp [0, 3, 4, 11])])
 (.ite (.t 11) (.sk)
 (.ex 0)))
 (.seq (.blk 1 (.rg [(none, .mv 14 (.t 3)),
 (none, .mv 15 (.t 4)),
 (none, .mv 16 (.t 0)),
 (none, .mv 17 (.t 4)),
 (none, .ia 18 7 (.t 16) (.t 17)),
 (none, .ld 19 (some 7) (.t 18)),
 (none, .ca (some 20) 218 [.t 19]),
 (none, .ia 21 7 (.t 14) (.t 15)),
 (none, .st 7 (.t 21) (.t 20)),
 (none, .kp [0, 3, 4])]))
 (.rg [(none, .mv 12 (.t 4)),
 (none, .bi 13 .add (.t 12) (.c (.n .i64 1))),
 (none, .mv 4 (.t 13)),
 (none, .kp [0, 3, 4])]))
def pc189 : PC := .seq (.rg [(none, .mv 2 (.c .nil)),
 (none, .kp [0])])
 (.seq (.rg [(none, .mv 5 (.t 0)),
 (none, .ln 6 (.t 5)),
 (none, .mk 7 7 48 [.n .i64 0, .n .i64 0, .n .i64 0, .b false, .b false, .b false, .s []] (.t 6)),
 (none, .mv 3 (.t 7)),
 (none, .kp [0, 3])])
 (.seq (.seq (.rg [(none, .mv 4 (.c (.n .i64 0))),
 (none, .kp [0, 3, 4])])
 (.blk 0 (.lp pc189l0)))
 (.seq (.rg [(none, .mv 22 (.t 3)),
 (none, .mv 2 (.t 22)),
 (none, .kp [2])])
 (.rt))))
theorem mr189 : MrT Try.prog 189 pc189 [.t 2] 23 := fun hn h => spec_of_run (fn := Try.f189) (by kernel_rfl) rfl (by kernel_rfl) (by kernel_rfl) hn h
theorem mk189 : MkT Try.prog 189 pc189 [.t 2] 23 := mr189.k
theorem mw189 : MwT Try.prog 189 pc189 [.t 2] 23 := mr189.w
-- 194 laws.eqDataS
def pc194l0 : PC := .seq (.seq (.rg [(none, .mv 11 (.t 5)),
 (none, .mv 12 (.t 0)),
 (none, .ln 13 (.t 12)),
 (none, .bi 14 .lss (.t 11) (.t 13)),
 (none, .kp [0, 1, 5, 14])])
 (.ite (.t 14) (.sk)
 (.ex 0)))
 (.seq (.blk 1 (.seq (.dr [[], [], [0, 1], [0, 1, 2], [], [], [4, 5], [4, 5, 6], [0, 1, 2, 3, 4, 5, 6, 7], [0, 1, 2, 3, 4, 5, 6, 7, 8]]
 (.q 0 (none, .mv 17 (.t 0))
 (.q 1 (none, .mv 18 (.t 5))
 (.q 2 (none, .ia 19 7 (.t 17) (.t 18))
 (.q 3 (none, .ld 20 (some 7) (.t 19))
 (.q 4 (none, .mv 21 (.t 1))
 (.q 5 (none, .mv 22 (.t 5))
 (.q 6 (none, .ia 23 7 (.t 21) (.t 22))
 (.q 7 (none, .ld 24 (some 7) (.t 23))
 (.alt 8 (none, .ca (some 25) 222 [.t 20, .t 24]) [false, false, false, false, false, false, false, false]
 (.q 9 (none, .un 26 .not (.t 25))
 (.done))
 (.stop)))))))))) [0, 1, 5, 26])
 (.ite (.t 26) (.seq (.rg [(none, .mv 4 (.c (.b false))),
 (none, .kp [4])])
 (.rt))
 (.sk))))
 (.rg [(none, .mv 15 (.t 5)),
 (none, .bi 16 .add (.t 15) (.c (.n .i64 1))),
 (none, .mv 5 (.t 16)),
 (none, .kp [0, 1, 5])]))
def pc194 : PC := .seq (.rg [(none, .mv 4 (.c (.b false))),
 (none, .kp [0, 1])])
 (.seq (.seq (.rg [(none, .mv 6 (.t 0)),
 (none, .ln 7 (.t 6)),
 (none, .mv 8 (.t 1)),
 (none, .ln 9 (.t 8)),
 (none, .bi 10 .neq (.t 7) (.t 9)),
 (none, .kp [0, 1, 10])])
 (.ite (.t 10) (.seq (.rg [(none, .mv 4 (.c (.b false))),
 (none, .kp [4])])
 (.rt))
 (.sk)))
 (.seq (.seq (.rg [(none, .mv 5 (.c (.n .i64 0))),
 (none, .kp [0, 1, 5])])
 (.blk 0 (.lp pc194l0)))
 (.seq (.rg [(none, .mv 4 (.c (.b true))),
 (none, .kp [4])])
 (.rt))))
theorem mr194 : MrT Try.prog 194 pc194 [.t 4] 27 := fun hn h => spec_of_run (fn := Try.f194) (by kernel_rfl) rfl (by kernel_rfl) (by kernel_rfl) hn h
theorem mk194 : MkT Try.prog 194 pc194 [.t 4] 27 := mr194.k
theorem mw194 : MwT Try.prog 194 pc194 [.t 4] 27 := mr194.w
-- 200 impl.mayFollow
def pc200l0 : PC := .seq (.rg [(none, .bi 42 .lss (.t 41) (.t 40)),
 (none, .kp [3, 5, 39, 40, 41, 42])])
 (.seq (.ite (.t 42) (.sk)
 (.ex 0))
 (.seq (.blk 1 (.seq (.rg [(none, .ia 43 7 (.t 39) (.t 41)),
 (none, .ld 44 (some 7) (.t 43)),
 (none, .al 7 [.n .i64 0, .n .i64 0, .n .i64 0, .b false, .b false, .b false, .s []]),
 (none, .st 7 (.t 7) (.t 44)),
 (none, .kp [3, 5, 7, 39, 40, 41])])
 (.seq (.rg [(none, .fa 45 3 (.t 7)),
 (none, .ld 46 none (.t 45)),
 (none, .mv 47 (.t 46)),
 (some (47, true), .fa 48 5 (.t 7)),
 (some (47, true), .ld 49 none (.t 48)),
 (some (47, true), .un 50 .not (.t 49)),
 (none, .pk 51 (.t 47) (.t 50) (.c (.b false))),
 (none, .mv 52 (.t 51)),
 (some (52, true), .fa 53 1 (.t 7)),
 (some (52, true), .ld 54 none (.t 53)),
 (some (52, true), .fa 55 1 (.t 3)),
 (some (52, true), .ld 56 none (.t 55)),
 (some (52, true), .bi 57 .eql (.t 54) (.t 56)),
 (none, .pk 58 (.t 52) (.t 57) (.c (.b false))),
 (none, .kp [3, 5, 39, 40, 41, 58])])
 (.ite (.t 58) (.rg [(none, .mv 59 (.t 5)),
 (none, .bi 60 .add (.t 59) (.c (.n .i64 1))),
 (none, .mv 5 (.t 60)),
 (none, .kp [3, 5, 39, 40, 41])])
 (.sk)))))
 (.rg [(none, .bi 61 .add (.t 41) (.c (.n .i64 1))),
 (none, .mv 41 (.t 61)),
 (none, .kp [3, 5, 39, 40, 41])])))
def pc200 : PC := .seq (.rg [(none, .bx 3 (.t 1)),
 (none, .mv 4 (.c (.b false))),
 (none, .kp [0, 3])])
 (.seq (.seq (.rg [(none, .mv 8 (.t 0)),
 (none, .ln 9 (.t 8)),
 (none, .bi 10 .gtr (.t 9) (.c (.n .i64 0))),
 (none, .mv 11 (.t 10)),
 (some (11, true), .mv 12 (.t 0)),
 (some (11, true), .mv 13 (.t 0)),
 (some (11, true), .ln 14 (.t 13)),
 (some (11, true), .bi 15 .sub (.t 14) (.c (.n .i64 1))),
 (some (11, true), .ia 16 7 (.t 12) (.t 15)),
 (some (11, true), .fa 17 4 (.t 16)),
 (some (11, true), .ld 18 none (.t 17)),
 (some (11, true), .un 19 .not (.t 18)),
 (none, .pk 20 (.t 11) (.t 19) (.c (.b false))),
 (none, .kp [0, 3, 20])])
 (.ite (.t 20) (.seq (.dr [[], [0], [0, 1], [0, 1, 2], [0, 1, 2, 3], [0, 1, 2, 3], [0, 1, 2, 3], [0, 1, 2, 3, 6], [0, 1, 2, 3, 6, 7], [0, 1, 2, 3, 5, 6, 7, 8], [0, 1, 2, 3, 5, 6, 7, 8, 9], [0, 1, 2, 3, 4, 5, 6, 7, 8, 9, 10], [0, 1, 2, 3, 4, 5, 6, 7, 8, 9, 10, 11], [0, 1, 2, 3, 4, 5, 6, 7, 8, 9, 10, 11, 12]]
 (.q 0 (none, .fa 21 3 (.t 3))
 (.q 1 (none, .ld 22 none (.t 21))
 (.q 2 (none, .un 23 .not (.t 22))
 (.q 3 (none, .mv 24 (.t 23))
 (.q 4 (some (24, true), .ld 25 (some 7) (.t 3))
 (.q 5 (some (24, true), .mv 26 (.t 0))
 (.q 6 (some (24, true), .mv 27 (.t 0))
 (.q 7 (some (24, true), .ln 28 (.t 27))
 (.q 8 (some (24, true), .bi 29 .sub (.t 28) (.c (.n .i64 1)))
 (.q 9 (some (24, true), .ia 30 7 (.t 26) (.t 29))
 (.q 10 (some (24, true), .ld 31 (some 7) (.t 30))
 (.alt 11 (some (24, true), .ca (some 32) 203 [.t 25, .t 31]) [false, false, false, false, false, false, false, false, false, false, false]
 (.q 12 (none, .pk 33 (.t 24) (.t 32) (.c (.b false)))
 (.q 13 (none, .mv 4 (.t 33))
 (.done)))
 (.stop))))))))))))) [4])
 (.rt))
 (.sk)))
 (.seq (.seq (.rg [(none, .fa 34 3 (.t 3)),
 (none, .ld 35 none (.t 34)),
 (none, .un 36 .not (.t 35)),
 (none, .kp [0, 3, 36])])
 (.ite (.t 36) (.seq (.rg [(none, .mv 4 (.c (.b false))),
 (none, .kp [4])])
 (.rt))
 (.sk)))
 (.seq (.seq (.rg [(none, .fa 37 5 (.t 3)),
 (none, .ld 38 none (.t 37)),
 (none, .kp [0, 3, 38])])
 (.ite (.t 38) (.seq (.rg [(none, .mv 4 (.c (.b true))),
 (none, .kp [4])])
 (.rt))
 (.sk)))
 (.seq (.rg [(none, .mv 5 (.c (.n .i64 0))),
 (none, .kp [0, 3, 5])])
 (.seq (.seq (.rg [(none, .mv 39 (.t 0)),
 (none, .ln 40 (.t 39)),
 (none, .mv 41 (.c (.n .i64 0))),
 (none, .kp [3, 5, 39, 40, 41])])
 (.blk 0 (.lp pc200l0)))
 (.seq (.rg [(none, .fa 62 2 (.t 3)),
 (none, .ld 63 none (.t 62)),
 (none, .mv 64 (.t 5)),
 (none, .bi 65 .eql (.t 63) (.t 64)),
 (none, .mv 4 (.t 65)),
 (none, .kp [4])])
 (.rt)))))))
theorem mr200 : MrT Try.prog 200 pc200 [.t 4] 66 := fun hn h => spec_of_run (fn := Try.f200) (by kernel_rfl) rfl (by kernel_rfl) (by kernel_rfl) hn h
theorem mk200 : MkT Try.prog 200 pc200 [.t 4] 66 := mr200.k
theorem mw200 : MwT Try.prog 200 pc200 [.t 4] 66 := mr200.w
-- 203 impl.likeParts
def pc203 : PC := .seq (.rg [(none, .bx 2 (.t 0)),
 (none, .bx 3 (.t 1)),
 (none, .mv 4 (.c (.b false))),
 (none, .kp [2, 3])])
 (.seq (.rg [(none, .fa 5 1 (.t 2)),
 (none, .ld 6 none (.t 5)),
 (none, .fa 7 1 (.t 3)),
 (none, .ld 8 none (.t 7)),
 (none, .bi 9 .eql (.t 6) (.t 8)),
 (none, .mv 10 (.t 9)),
 (some (10, true), .fa 11 2 (.t 2)),
 (some (10, true), .ld 12 none (.t 11)),
 (some (10, true), .fa 13 2 (.t 3)),
 (some (10, true), .ld 14 none (.t 13)),
 (some (10, true), .bi 15 .eql (.t 12) (.t 14)),
 (none, .pk 16 (.t 10) (.t 15) (.c (.b false))),
 (none, .mv 17 (.t 16)),
 (some (17, true), .fa 18 5 (.t 2)),
 (some (17, true), .ld 19 none (.t 18)),
 (some (17, true), .fa 20 5 (.t 3)),
 (some (17, true), .ld 21 none (.t 20)),
 (some (17, true), .bb 22 false (.t 19) (.t 21)),
 (none, .pk 23 (.t 17) (.t 22) (.c (.b false))),
 (none, .mv 4 (.t 23)),
 (none, .kp [4])])
 (.rt))
theorem mr203 : MrT Try.prog 203 pc203 [.t 4] 24 := fun hn h => spec_of_run (fn := Try.f203) (by kernel_rfl) rfl (by kernel_rfl) (by kernel_rfl) hn h
theorem mk203 : MkT Try.prog 203 pc203 [.t 4] 24 := mr203.k
theorem mw203 : MwT Try.prog 203 pc203 [.t 4] 24 := mr203.w
-- 204 spec.l22Same
def pc204 : PC := .seq (.rg [(none, .bx 2 (.t 0)),
 (none, .bx 3 (.t 1)),
 (none, .mv 4 (.c (.b false))),
 (none, .kp [2, 3])])
 (.seq (.rg [(none, .fa 5 1 (.t 2)),
 (none, .ld 6 none (.t 5)),
 (none, .fa 7 1 (.t 3)),
 (none, .ld 8 none (.t 7)),
 (none, .bi 9 .eql (.t 6) (.t 8)),
 (none, .mv 10 (.t 9)),
 (some (10, true), .fa 11 2 (.t 2)),
 (some (10, true), .ld 12 none (.t 11)),
 (some (10, true), .fa 13 2 (.t 3)),
 (some (10, true), .ld 14 none (.t 13)),
 (some (10, true), .bi 15 .eql (.t 12) (.t 14)),
 (none, .pk 16 (.t 10) (.t 15) (.c (.b false))),
 (none, .mv 17 (.t 16)),
 (some (17, true), .fa 18 5 (.t 2)),
 (some (17, true), .ld 19 none (.t 18)),
 (some (17, true), .fa 20 5 (.t 3)),
 (some (17, true), .ld 21 none (.t 20)),
 (some (17, true), .bb 22 false (.t 19) (.t 21)),
 (none, .pk 23 (.t 17) (.t 22) (.c (.b false))),
 (none, .mv 4 (.t 23)),
 (none, .kp [4])])
 (.rt))
theorem mr204 : MrT Try.prog 204 pc204 [.t 4] 24 := fun hn h => spec_of_run (fn := Try.f204) (by kernel_rfl) rfl (by kernel_rfl) (by kernel_rfl) hn h
theorem mk204 : MkT Try.prog 204 pc204 [.t 4] 24 := mr204.k
theorem mw204 : MwT Try.prog 204 pc204 [.t 4] 24 := mr204.w
-- 209 spec.l31Follows
def pc209 : PC := .seq (.rg [(none, .bx 3 (.t 1)),
 (none, .mv 4 (.c (.b false))),
 (none, .kp [0, 3])])
 (.seq (.rg [(none, .mv 6 (.t 0)),
 (none, .ln 7 (.t 6)),
 (none, .mv 5 (.t 7)),
 (none, .kp [0, 3, 5])])
 (.seq (.seq (.rg [(none, .mv 8 (.t 5)),
 (none, .bi 9 .gtr (.t 8) (.c (.n .i64 0))),
 (none, .mv 10 (.t 9)),
 (some (10, true), .mv 11 (.t 0)),
 (some (10, true), .mv 12 (.t 5)),
 (some (10, true), .bi 13 .sub (.t 12) (.c (.n .i64 1))),
 (some (10, true), .ia 14 7 (.t 11) (.t 13)),
 (some (10, true), .fa 15 4 (.t 14)),
 (some (10, true), .ld 16 none (.t 15)),
 (some (10, true), .un 17 .not (.t 16)),
 (none, .pk 18 (.t 10) (.t 17) (.c (.b false))),
 (none, .kp [0, 3, 5, 18])])
 (.ite (.t 18) (.seq (.dr [[], [0], [0, 1], [0, 1, 2], [0, 1, 2, 3], [0, 1, 2, 3], [0, 1, 2, 3, 5], [0, 1, 2, 3, 4, 5, 6], [0, 1, 2, 3, 4, 5, 6, 7], [0, 1, 2, 3], [0, 1, 2, 3, 4, 5, 6, 7, 8, 9], [0, 1, 2, 3, 4, 5, 6, 7, 8, 9, 10], [0, 1, 2, 3, 4, 5, 6, 7, 8, 9, 10, 11]]
 (.q 0 (none, .fa 19 3 (.t 3))
 (.q 1 (none, .ld 20 none (.t 19))
 (.q 2 (none, .un 21 .not (.t 20))
 (.q 3 (none, .mv 22 (.t 21))
 (.q 4 (some (22, true), .mv 23 (.t 0))
 (.q 5 (some (22, true), .mv 24 (.t 5))
 (.q 6 (some (22, true), .bi 25 .sub (.t 24) (.c (.n .i64 1)))
 (.q 7 (some (22, true), .ia 26 7 (.t 23) (.t 25))
 (.q 8 (some (22, true), .ld 27 (some 7) (.t 26))
 (.q 9 (some (22, true), .ld 28 (some 7) (.t 3))
 (.alt 10 (some (22, true), .ca (some 29) 204 [.t 27, .t 28]) [false, false, false, false, false, false, false, false, false, false]
 (.q 11 (none, .pk 30 (.t 22) (.t 29) (.c (.b false)))
 (.q 12 (none, .mv 4 (.t 30))
 (.done)))
 (.stop)))))))))))) [4])
 (.rt))
 (.sk)))
 (.seq (.dr [[], [0], [0, 1], [0, 1, 2], [0, 1, 2, 3], [0, 1, 2, 3, 4], [0, 1, 2, 3, 4, 5], [0, 1, 2, 3, 4, 5, 6], [0, 1, 2, 3, 4, 5], [0, 1, 2, 3, 4, 5], [0, 1, 2, 3, 4, 5, 9], [0, 1, 2, 3, 4, 5, 8, 9, 10], [0, 1, 2, 3, 4, 5, 6, 7, 8, 9, 10, 11], [0, 1, 2, 3, 4, 5, 6, 7, 8, 9, 10, 11, 12], [0, 1, 2, 3, 4, 5, 6, 7, 8, 9, 10, 11, 12, 13], [0, 1, 2, 3, 4, 5, 6, 7, 8, 9, 10, 11, 12, 13, 14]]
 (.q 0 (none, .fa 31 3 (.t 3))
 (.q 1 (none, .ld 32 none (.t 31))
 (.q 2 (none, .mv 33 (.t 32))
 (.q 3 (some (33, true), .fa 34 5 (.t 3))
 (.q 4 (some (33, true), .ld 35 none (.t 34))
 (.q 5 (some (33, true), .mv 36 (.t 35))
 (.q 6 (some (36, false), .fa 37 2 (.t 3))
 (.q 7 (some (36, false), .ld 38 none (.t 37))
 (.q 8 (some (36, false), .mv 39 (.t 0))
 (.q 9 (some (36, false), .fa 40 1 (.t 3))
 (.q 10 (some (36, false), .ld 41 none (.t 40))
 (.alt 11 (some (36, false), .ca (some 42) 166 [.t 39, .t 41]) [false, false, false, false, false, false, true, true, false, false, false]
 (.q 12 (some (36, false), .bi 43 .eql (.t 38) (.t 42))
 (.q 13 (some (33, true), .pk 44 (.t 36) (.c (.b true)) (.t 43))
 (.q 14 (none, .pk 45 (.t 33) (.t 44) (.c (.b false)))
 (.q 15 (none, .mv 4 (.t 45))
 (.done)))))
 (.stop))))))))))))) [4])
 (.rt))))
theorem mr209 : MrT Try.prog 209 pc209 [.t 4] 46 := fun hn h => spec_of_run (fn := Try.f209) (by kernel_rfl) rfl (by kernel_rfl) (by kernel_rfl) hn h
theorem mk209 : MkT Try.prog 209 pc209 [.t 4] 46 := mr209.k
theorem mw209 : MwT Try.prog 209 pc209 [.t 4] 46 := mr209.w
-- 210 laws.szData
def pc210 : PC := .seq (.rg [(none, .bx 2 (.t 0)),
 (none, .mv 4 (.c (.n .i64 0))),
 (none, .kp [1, 2])])
 (.seq (.rg [(none, .mv 5 (.t 1)),
 (none, .fa 6 6 (.t 2)),
 (none, .ld 7 none (.t 6)),
 (none, .lS 8 (.t 7)),
 (none, .bi 9 .sub (.t 5) (.t 8)),
 (none, .mv 1 (.t 9)),
 (none, .kp [1])])
 (.seq (.seq (.rg [(none, .mv 10 (.t 1)),
 (none, .bi 11 .lss (.t 10) (.c (.n .i64 0))),
 (none, .kp [1, 11])])
 (.ite (.t 11) (.seq (.rg [(none, .mv 4 (.c (.n .i64 (-1)))),
 (none, .kp [4])])
 (.rt))
 (.sk)))
 (.seq (.rg [(none, .mv 12 (.t 1)),
 (none, .mv 4 (.t 12)),
 (none, .kp [4])])
 (.rt))))
theorem mr210 : MrT Try.prog 210 pc210 [.t 4] 13 := fun hn h => spec_of_run (fn := Try.f210) (by kernel_rfl) rfl (by kernel_rfl) (by kernel_rfl) hn h
theorem mk210 : MkT Try.prog 210 pc210 [.t 4] 13 := mr210.k
theorem mw210 : MwT Try.prog 210 pc210 [.t 4] 13 := mr210.w
-- 218 laws.toData
def pc218 : PC := .seq (.rg [(none, .bx 1 (.t 0)),
 (none, .al 2 [.n .i64 0, .n .i64 0, .n .i64 0, .b false, .b false, .b false, .s []]),
 (none, .kp [1, 2])])
 (.seq (.rg [(none, .al 3 [.n .i64 0, .n .i64 0, .n .i64 0, .b false, .b false, .b false, .s []]),
 (none, .kp [1, 2, 3])])
 (.seq (.rg [(none, .fa 4 0 (.t 1)),
 (none, .ld 5 none (.t 4)),
 (none, .fa 6 0 (.t 3)),
 (none, .st 1 (.t 6) (.t 5)),
 (none, .kp [1, 2, 3])])
 (.seq (.rg [(none, .fa 7 1 (.t 1)),
 (none, .ld 8 none (.t 7)),
 (none, .fa 9 1 (.t 3)),
 (none, .st 1 (.t 9) (.t 8)),
 (none, .kp [1, 2, 3])])
 (.seq (.rg [(none, .fa 10 2 (.t 1)),
 (none, .ld 11 none (.t 10)),
 (none, .fa 12 2 (.t 3)),
 (none, .st 1 (.t 12) (.t 11)),
 (none, .kp [1, 2, 3])])
 (.seq (.rg [(none, .fa 13 3 (.t 1)),
 (none, .ld 14 none (.t 13)),
 (none, .fa 15 3 (.t 3)),
 (none, .st 1 (.t 15) (.t 14)),
 (none, .kp [1, 2, 3])])
 (.seq (.rg [(none, .fa 16 4 (.t 1)),
 (none, .ld 17 none (.t 16)),
 (none, .fa 18 4 (.t 3)),
 (none, .st 1 (.t 18) (.t 17)),
 (none, .kp [1, 2, 3])])
 (.seq (.rg [(none, .fa 19 5 (.t 1)),
 (none, .ld 20 none (.t 19)),
 (none, .fa 21 5 (.t 3)),
 (none, .st 1 (.t 21) (.t 20)),
 (none, .kp [1, 2, 3])])
 (.seq (.rg [(none, .fa 22 6 (.t 1)),
 (none, .ld 23 none (.t 22)),
 (none, .fa 24 6 (.t 3)),
 (none, .st 1 (.t 24) (.t 23)),
 (none, .kp [2, 3])])
 (.seq (.rg [(none, .ld 25 (some 7) (.t 3)),
 (none, .st 7 (.t 2) (.t 25)),
 (none, .kp [2])])
 (.rt))))))))))
theorem mr218 : MrT Try.prog 218 pc218 [.c 2 (some 7)] 26 := fun hn h => spec_of_run (fn := Try.f218) (by kernel_rfl) rfl (by kernel_rfl) (by kernel_rfl) hn h
theorem mk218 : MkT Try.prog 218 pc218 [.c 2 (some 7)] 26 := mr218.k
theorem mw218 : MwT Try.prog 218 pc218 [.c 2 (some 7)] 26 := mr218.w
-- 222 laws.eqData
def pc222 : PC := .seq (.rg [(none, .bx 2 (.t 0)),
 (none, .bx 3 (.t 1)),
 (none, .mv 4 (.c (.b false))),
 (none, .kp [2, 3])])
 (.seq (.seq (.rg [(none, .fa 5 0 (.t 2)),
 (none, .ld 6 none (.t 5)),
 (none, .fa 7 0 (.t 3)),
 (none, .ld 8 none (.t 7)),
 (none, .bi 9 .neq (.t 6) (.t 8)),
 (none, .kp [2, 3, 9])])
 (.ite (.t 9) (.seq (.rg [(none, .mv 4 (.c (.b false))),
 (none, .kp [4])])
 (.rt))
 (.sk)))
 (.seq (.seq (.rg [(none, .fa 10 1 (.t 2)),
 (none, .ld 11 none (.t 10)),
 (none, .fa 12 1 (.t 3)),
 (none, .ld 13 none (.t 12)),
 (none, .bi 14 .neq (.t 11) (.t 13)),
 (none, .kp [2, 3, 14])])
 (.ite (.t 14) (.seq (.rg [(none, .mv 4 (.c (.b false))),
 (none, .kp [4])])
 (.rt))
 (.sk)))
 (.seq (.seq (.rg [(none, .fa 15 2 (.t 2)),
 (none, .ld 16 none (.t 15)),
 (none, .fa 17 2 (.t 3)),
 (none, .ld 18 none (.t 17)),
 (none, .bi 19 .neq (.t 16) (.t 18)),
 (none, .kp [2, 3, 19])])
 (.ite (.t 19) (.seq (.rg [(none, .mv 4 (.c (.b false))),
 (none, .kp [4])])
 (.rt))
 (.sk)))
 (.seq (.seq (.rg [(none, .fa 20 3 (.t 2)),
 (none, .ld 21 none (.t 20)),
 (none, .fa 22 3 (.t 3)),
 (none, .ld 23 none (.t 22)),
 (none, .bb 24 true (.t 21) (.t 23)),
 (none, .kp [2, 3, 24])])
 (.ite (.t 24) (.seq (.rg [(none, .mv 4 (.c (.b false))),
 (none, .kp [4])])
 (.rt))
 (.sk)))
 (.seq (.seq (.rg [(none, .fa 25 4 (.t 2)),
 (none, .ld 26 none (.t 25)),
 (none, .fa 27 4 (.t 3)),
 (none, .ld 28 none (.t 27)),
 (none, .bb 29 true (.t 26) (.t 28)),
 (none, .kp [2, 3, 29])])
 (.ite (.t 29) (.seq (.rg [(none, .mv 4 (.c (.b false))),
 (none, .kp [4])])
 (.rt))
 (.sk)))
 (.seq (.seq (.rg [(none, .fa 30 5 (.t 2)),
 (none, .ld 31 none (.t 30)),
 (none, .fa 32 5 (.t 3)),
 (none, .ld 33 none (.t 32)),
 (none, .bb 34 true (.t 31) (.t 33)),
 (none, .kp [2, 3, 34])])
 (.ite (.t 34) (.seq (.rg [(none, .mv 4 (.c (.b false))),
 (none, .kp [4])])
 (.rt))
 (.sk)))
 (.seq (.seq (.rg [(none, .fa 35 6 (.t 2)),
 (none, .ld 36 none (.t 35)),
 (none, .fa 37 6 (.t 3)),
 (none, .ld 38 none (.t 37)),
 (none, .bi 39 .neq (.t 36) (.t 38)),
 (none, .kp [39])])
 (.ite (.t 39) (.seq (.rg [(none, .mv 4 (.c (.b false))),
 (none, .kp [4])])
 (.rt))
 (.sk)))
 (.seq (.rg [(none, .mv 4 (.c (.b true))),
 (none, .kp [4])])
 (.rt)))))))))
theorem mr222 : MrT Try.prog 222 pc222 [.t 4] 40 := fun hn h => spec_of_run (fn := Try.f222) (by kernel_rfl) rfl (by kernel_rfl) (by kernel_rfl) hn h
theorem mk222 : MkT Try.prog 222 pc222 [.t 4] 40 := mr222.k
theorem mw222 : MwT Try.prog 222 pc222 [.t 4] 40 := mr222.w
end Go.Cap
