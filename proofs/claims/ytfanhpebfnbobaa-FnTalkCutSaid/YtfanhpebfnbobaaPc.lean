import Derived.Test.YtfanhpebfnbobaaChecked
import Derived.Test.YtfanhpebfnbobaaEngC
namespace Go.Cap
open Go Go.Proofs
set_option maxRecDepth 100000
-- 7 laws.FnTalkCut
def pc7 : PC := .seq (.rg [(none, .mv 4 (.c (.b false))),
 (none, .kp [0, 1])])
 (.seq (.seq (.rg [(none, .mv 13 (.t 0)),
 (none, .ln 14 (.t 13)),
 (none, .bi 15 .gtr (.t 14) (.c (.n .i64 1048576))),
 (none, .mv 16 (.t 15)),
 (some (16, false), .mv 17 (.t 1)),
 (some (16, false), .ln 18 (.t 17)),
 (some (16, false), .bi 19 .gtr (.t 18) (.c (.n .i64 1048576))),
 (none, .pk 20 (.t 16) (.c (.b true)) (.t 19)),
 (none, .kp [0, 1, 20])])
 (.ite (.t 20) (.seq (.rg [(none, .mv 4 (.c (.b true))),
 (none, .kp [4])])
 (.rt))
 (.sk)))
 (.seq (.rg [(none, .mv 22 (.t 0)),
 (none, .ca (some 23) 10 [.t 22]),
 (none, .mv 21 (.t 23)),
 (none, .ex 24 (.t 21) 0),
 (none, .ex 25 (.t 21) 1),
 (none, .al 5 [.n .i64 0, .n .i64 0, .n .i64 0, .n .i64 0, .n .i64 0, .n .i64 0, .n .i64 0, .n .i64 0, .n .i64 0, .n .i64 0, .n .i64 0, .nil]),
 (none, .st 12 (.t 5) (.t 24)),
 (none, .mv 6 (.t 25)),
 (none, .kp [1, 5, 6])])
 (.seq (.rg [(none, .ld 26 (some 12) (.t 5)),
 (none, .mv 27 (.t 6)),
 (none, .ca (some 28) 11 [.t 26, .t 27]),
 (none, .mv 7 (.t 28)),
 (none, .kp [1, 5, 6, 7])])
 (.seq (.rg [(none, .ld 29 (some 12) (.t 5)),
 (none, .mv 30 (.t 6)),
 (none, .ca (some 31) 12 [.t 29, .t 30]),
 (none, .mv 8 (.t 31)),
 (none, .kp [1, 5, 7, 8])])
 (.seq (.seq (.rg [(none, .mv 32 (.t 7)),
 (none, .mv 33 (.t 8)),
 (none, .ca (some 34) 13 [.t 32, .t 33]),
 (none, .un 35 .not (.t 34)),
 (none, .mv 36 (.t 35)),
 (some (36, false), .mv 37 (.t 8)),
 (some (36, false), .ln 38 (.t 37)),
 (some (36, false), .bi 39 .eql (.t 38) (.c (.n .i64 0))),
 (none, .pk 40 (.t 36) (.c (.b true)) (.t 39)),
 (none, .kp [1, 5, 7, 8, 40])])
 (.ite (.t 40) (.seq (.rg [(none, .mv 41 (.t 7)),
 (none, .mv 42 (.t 8)),
 (none, .ca (some 43) 13 [.t 41, .t 42]),
 (none, .mv 4 (.t 43)),
 (none, .kp [4])])
 (.rt))
 (.sk)))
 (.seq (.rg [(none, .mv 44 (.t 1)),
 (none, .ln 45 (.t 44)),
 (none, .mv 46 (.t 7)),
 (none, .ln 47 (.t 46)),
 (none, .bi 48 .add (.t 47) (.c (.n .i64 1))),
 (none, .bi 49 .rem (.t 45) (.t 48)),
 (none, .mv 9 (.t 49)),
 (none, .kp [5, 7, 9])])
 (.seq (.rg [(none, .mv 50 (.t 7)),
 (none, .mv 51 (.t 9)),
 (none, .sc 52 2 (.t 50) none (some (.t 51))),
 (none, .ca (some 53) 14 [.t 52]),
 (none, .al 10 [.n .i64 0, .nil, .nil]),
 (none, .st 3 (.t 10) (.t 53)),
 (none, .kp [5, 9, 10])])
 (.seq (.seq (.rg [(none, .mv 54 (.t 9)),
 (none, .bi 55 .eql (.t 54) (.c (.n .i64 0))),
 (none, .kp [5, 10, 55])])
 (.ite (.t 55) (.seq (.rg [(none, .fa 56 1 (.t 10)),
 (none, .ld 57 none (.t 56)),
 (none, .ln 58 (.t 57)),
 (none, .bi 59 .eql (.t 58) (.c (.n .i64 0))),
 (none, .mv 4 (.t 59)),
 (none, .kp [4])])
 (.rt))
 (.sk)))
 (.seq (.rg [(none, .fa 60 1 (.t 10)),
 (none, .ld 61 none (.t 60)),
 (none, .ia 62 14 (.t 61) (.c (.n .i64 0))),
 (none, .fa 63 4 (.t 62)),
 (none, .ld 64 (some 5) (.t 63)),
 (none, .ca (some 65) 17 [.t 64]),
 (none, .mv 11 (.t 65)),
 (none, .kp [5, 10, 11])])
 (.seq (.rg [(none, .ld 66 (some 12) (.t 5)),
 (none, .ca (some 67) 15 [.t 66, .c (.b false)]),
 (none, .mv 12 (.t 67)),
 (none, .kp [10, 11, 12])])
 (.seq (.rg [(none, .fa 68 2 (.t 10)),
 (none, .ld 69 none (.t 68)),
 (none, .ln 70 (.t 69)),
 (none, .bi 71 .eql (.t 70) (.c (.n .i64 0))),
 (none, .mv 72 (.t 71)),
 (some (72, true), .fa 73 1 (.t 10)),
 (some (72, true), .ld 74 none (.t 73)),
 (some (72, true), .ln 75 (.t 74)),
 (some (72, true), .bi 76 .eql (.t 75) (.c (.n .i64 1))),
 (none, .pk 77 (.t 72) (.t 76) (.c (.b false))),
 (none, .mv 78 (.t 77)),
 (some (78, true), .mv 79 (.t 11)),
 (some (78, true), .ln 80 (.t 79)),
 (some (78, true), .mv 81 (.t 12)),
 (some (78, true), .ln 82 (.t 81)),
 (some (78, true), .bi 83 .leq (.t 80) (.t 82)),
 (none, .pk 84 (.t 78) (.t 83) (.c (.b false))),
 (none, .mv 85 (.t 84)),
 (some (85, true), .mv 86 (.t 12)),
 (some (85, true), .mv 87 (.t 11)),
 (some (85, true), .ln 88 (.t 87)),
 (some (85, true), .sc 89 4 (.t 86) none (some (.t 88))),
 (some (85, true), .mv 90 (.t 11)),
 (some (85, true), .ca (some 91) 16 [.t 89, .t 90]),
 (none, .pk 92 (.t 85) (.t 91) (.c (.b false))),
 (none, .mv 4 (.t 92)),
 (none, .kp [4])])
 (.rt))))))))))))
theorem mr7 : MrT Try.prog 7 pc7 [.t 4] 93 := fun hn h => spec_of_run (fn := Try.f7) (by kernel_rfl) rfl (by kernel_rfl) (by kernel_rfl) hn h
theorem mk7 : MkT Try.prog 7 pc7 [.t 4] 93 := mr7.k
theorem mw7 : MwT Try.prog 7 pc7 [.t 4] 93 := mr7.w
-- 10 spec.DrawTalkRecords
def pc10 : PC := .seq (.rg [(none, .al 2 [.n .i64 0, .n .i64 0, .n .i64 0, .n .i64 0, .n .i64 0, .n .i64 0, .n .i64 0, .n .i64 0, .n .i64 0, .n .i64 0, .n .i64 0, .nil]),
 (none, .mv 3 (.c (.n .i64 0))),
 (none, .kp [0, 2])])
 (.seq (.rg [(none, .mv 6 (.t 0)),
 (none, .ca (some 7) 43 [.t 6]),
 (none, .mv 4 (.t 7)),
 (none, .kp [2, 4])])
 (.seq (.rg [(none, .mv 8 (.t 4)),
 (none, .ca (some 9) 44 [.t 8]),
 (none, .al 5 [.n .i64 0, .n .i64 0, .n .i64 0, .n .i64 0, .n .i64 0, .n .i64 0, .n .i64 0, .n .i64 0, .n .i64 0, .n .i64 0, .n .i64 0, .nil]),
 (none, .st 12 (.t 5) (.t 9)),
 (none, .kp [2, 4, 5])])
 (.seq (.seq (.rg [(none, .mv 10 (.t 4)),
 (none, .ca (some 11) 45 [.t 10, .c (.n .i64 10)]),
 (none, .bi 12 .eql (.t 11) (.c (.n .i64 0))),
 (none, .kp [2, 4, 5, 12])])
 (.ite (.t 12) (.seq (.dr [[], [], [], [2], [1, 2, 3], [1, 2, 3, 4], [0, 2, 3], [0, 1, 2, 3, 4, 5, 6]]
 (.q 0 (none, .ld 13 (some 12) (.t 5))
 (.q 2 (none, .mv 15 (.t 4))
 (.alt 1 (none, .bs 14 1 4 [.n .i64 0] [(0, .c (.n .i64 (-1))), (1, .c (.n .i64 4294967295)), (2, .c (.n .i64 4294967290)), (3, .c (.n .i64 5000000000))]) [true, true]
 (.alt 3 (none, .ca (some 16) 45 [.t 15, .c (.n .i64 4)]) [true, false]
 (.q 4 (none, .ia 17 1 (.t 14) (.t 16))
 (.q 5 (none, .ld 18 none (.t 17))
 (.alt 6 (none, .st 12 (.t 2) (.t 13)) [false, false, true, true]
 (.q 7 (none, .mv 3 (.t 18))
 (.done))
 (.stop))))
 (.stop))
 (.alt 3 (none, .ca (some 16) 45 [.t 15, .c (.n .i64 4)]) [true, false]
 (.alt 1 (none, .bs 14 1 4 [.n .i64 0] [(0, .c (.n .i64 (-1))), (1, .c (.n .i64 4294967295)), (2, .c (.n .i64 4294967290)), (3, .c (.n .i64 5000000000))]) [true, true]
 (.q 4 (none, .ia 17 1 (.t 14) (.t 16))
 (.q 5 (none, .ld 18 none (.t 17))
 (.alt 6 (none, .st 12 (.t 2) (.t 13)) [false, false, true, true]
 (.q 7 (none, .mv 3 (.t 18))
 (.done))
 (.stop))))
 (.alt 6 (none, .st 12 (.t 2) (.t 13)) [false, false]
 (.alt 1 (none, .bs 14 1 4 [.n .i64 0] [(0, .c (.n .i64 (-1))), (1, .c (.n .i64 4294967295)), (2, .c (.n .i64 4294967290)), (3, .c (.n .i64 5000000000))]) [true, true]
 (.q 4 (none, .ia 17 1 (.t 14) (.t 16))
 (.q 5 (none, .ld 18 none (.t 17))
 (.q 7 (none, .mv 3 (.t 18))
 (.done))))
 (.stop))
 (.stop)))
 (.stop))))) [2, 3])
 (.rt))
 (.sk)))
 (.seq (.dr [[], [], [1], [0, 1, 2], [0, 1, 2, 3]]
 (.q 0 (none, .ld 19 (some 12) (.t 5))
 (.q 1 (none, .mv 20 (.t 4))
 (.alt 2 (none, .ca (some 21) 45 [.t 20, .c (.n .i64 100)]) [true, false]
 (.alt 3 (none, .st 12 (.t 2) (.t 19)) [false, false]
 (.q 4 (none, .mv 3 (.t 21))
 (.done))
 (.stop))
 (.stop)))) [2, 3])
 (.rt)))))
theorem mr10 : MrT Try.prog 10 pc10 [.c 2 (some 12), .t 3] 22 := fun hn h => spec_of_run (fn := Try.f10) (by kernel_rfl) rfl (by kernel_rfl) (by kernel_rfl) hn h
theorem mk10 : MkT Try.prog 10 pc10 [.c 2 (some 12), .t 3] 22 := mr10.k
theorem mw10 : MwT Try.prog 10 pc10 [.c 2 (some 12), .t 3] 22 := mr10.w
-- 11 impl.TalkRecords
def pc11l0 : PC := .seq (.rg [(none, .bi 21 .lss (.t 20) (.t 19)),
 (none, .kp [1, 6, 18, 19, 20, 21])])
 (.seq (.ite (.t 21) (.sk)
 (.ex 0))
 (.seq (.blk 1 (.seq (.rg [(none, .mv 22 (.t 20)),
 (none, .ia 23 4 (.t 18) (.t 20)),
 (none, .ld 24 (some 4) (.t 23)),
 (none, .al 8 [.n .i64 0, .n .i64 0, .n .i64 0, .nil]),
 (none, .mv 7 (.t 22)),
 (none, .st 4 (.t 8) (.t 24)),
 (none, .kp [1, 6, 7, 8, 18, 19, 20])])
 (.rg [(none, .mv 25 (.t 6)),
 (none, .mv 26 (.t 1)),
 (none, .mv 27 (.t 7)),
 (none, .bi 28 .add (.t 26) (.t 27)),
 (none, .ld 29 (some 4) (.t 8)),
 (none, .ca (some 30) 46 [.t 29]),
 (none, .bd 31 [.n .i64 0, .s []] [(0, 1, .t 28), (1, 1, .t 30)]),
 (none, .bs 32 2 1 [.n .i64 0, .s []] [(0, .t 31)]),
 (none, .ap 33 2 24 (.t 25) (.t 32)),
 (none, .mv 6 (.t 33)),
 (none, .kp [1, 6, 18, 19, 20])])))
 (.rg [(none, .bi 34 .add (.t 20) (.c (.n .i64 1))),
 (none, .mv 20 (.t 34)),
 (none, .kp [1, 6, 18, 19, 20])])))
def pc11 : PC := .seq (.rg [(none, .bx 2 (.t 0)),
 (none, .mv 4 (.c .nil)),
 (none, .kp [1, 2])])
 (.seq (.rg [(none, .ld 9 (some 12) (.t 2)),
 (none, .ca (some 10) 37 [.t 9]),
 (none, .mv 5 (.t 10)),
 (none, .kp [1, 5])])
 (.seq (.seq (.rg [(none, .mv 11 (.t 1)),
 (none, .bi 12 .lss (.t 11) (.c (.n .i64 0))),
 (none, .mv 13 (.t 12)),
 (some (13, false), .mv 14 (.t 1)),
 (some (13, false), .bi 15 .gtr (.t 14) (.c (.n .i64 4294967295))),
 (none, .pk 16 (.t 13) (.c (.b true)) (.t 15)),
 (none, .kp [1, 5, 16])])
 (.ite (.t 16) (.seq (.rg [(none, .mv 4 (.c .nil)),
 (none, .kp [4])])
 (.rt))
 (.sk)))
 (.seq (.rg [(none, .bs 17 2 0 [.n .i64 0, .s []] []),
 (none, .mv 6 (.t 17)),
 (none, .kp [1, 5, 6])])
 (.seq (.seq (.rg [(none, .mv 18 (.t 5)),
 (none, .ln 19 (.t 18)),
 (none, .mv 20 (.c (.n .i64 0))),
 (none, .kp [1, 6, 18, 19, 20])])
 (.blk 0 (.lp pc11l0)))
 (.seq (.seq (.rg [(none, .mv 35 (.t 6)),
 (none, .ca (some 36) 47 [.t 35]),
 (none, .un 37 .not (.t 36)),
 (none, .kp [6, 37])])
 (.ite (.t 37) (.seq (.rg [(none, .mv 4 (.c .nil)),
 (none, .kp [4])])
 (.rt))
 (.sk)))
 (.seq (.rg [(none, .mv 38 (.t 6)),
 (none, .mv 4 (.t 38)),
 (none, .kp [4])])
 (.rt)))))))
theorem mr11 : MrT Try.prog 11 pc11 [.t 4] 39 := fun hn h => spec_of_run (fn := Try.f11) (by kernel_rfl) rfl (by kernel_rfl) (by kernel_rfl) hn h
theorem mk11 : MkT Try.prog 11 pc11 [.t 4] 39 := mr11.k
theorem mw11 : MwT Try.prog 11 pc11 [.t 4] 39 := mr11.w
-- 12 spec.TalkRecords
def pc12l0 : PC := .seq (.seq (.rg [(none, .mv 11 (.t 7)),
 (none, .mv 12 (.t 6)),
 (none, .ln 13 (.t 12)),
 (none, .bi 14 .lss (.t 11) (.t 13)),
 (none, .kp [1, 5, 6, 7, 14])])
 (.ite (.t 14) (.sk)
 (.ex 0)))
 (.seq (.blk 1 (.rg [(none, .mv 17 (.t 5)),
 (none, .mv 18 (.t 1)),
 (none, .mv 19 (.t 7)),
 (none, .bi 20 .add (.t 18) (.t 19)),
 (none, .mv 21 (.t 6)),
 (none, .mv 22 (.t 7)),
 (none, .ia 23 4 (.t 21) (.t 22)),
 (none, .ld 24 (some 4) (.t 23)),
 (none, .ca (some 25) 48 [.t 24]),
 (none, .bd 26 [.n .i64 0, .s []] [(0, 1, .t 20), (1, 1, .t 25)]),
 (none, .bs 27 2 1 [.n .i64 0, .s []] [(0, .t 26)]),
 (none, .ap 28 2 24 (.t 17) (.t 27)),
 (none, .mv 5 (.t 28)),
 (none, .kp [1, 5, 6, 7])]))
 (.rg [(none, .mv 15 (.t 7)),
 (none, .bi 16 .add (.t 15) (.c (.n .i64 1))),
 (none, .mv 7 (.t 16)),
 (none, .kp [1, 5, 6, 7])]))
def pc12 : PC := .seq (.rg [(none, .bx 2 (.t 0)),
 (none, .mv 4 (.c .nil)),
 (none, .kp [1, 2])])
 (.seq (.rg [(none, .bs 8 2 0 [.n .i64 0, .s []] []),
 (none, .mv 5 (.t 8)),
 (none, .kp [1, 2, 5])])
 (.seq (.rg [(none, .ld 9 (some 12) (.t 2)),
 (none, .ca (some 10) 35 [.t 9]),
 (none, .mv 6 (.t 10)),
 (none, .kp [1, 5, 6])])
 (.seq (.seq (.rg [(none, .mv 7 (.c (.n .i64 0))),
 (none, .kp [1, 5, 6, 7])])
 (.blk 0 (.lp pc12l0)))
 (.seq (.seq (.rg [(none, .mv 29 (.t 1)),
 (none, .bi 30 .lss (.t 29) (.c (.n .i64 0))),
 (none, .mv 31 (.t 30)),
 (some (31, false), .mv 32 (.t 5)),
 (some (31, false), .ca (some 33) 49 [.t 32]),
 (some (31, false), .un 34 .not (.t 33)),
 (none, .pk 35 (.t 31) (.c (.b true)) (.t 34)),
 (none, .kp [5, 35])])
 (.ite (.t 35) (.seq (.rg [(none, .bs 36 2 0 [.n .i64 0, .s []] []),
 (none, .mv 4 (.t 36)),
 (none, .kp [4])])
 (.rt))
 (.sk)))
 (.seq (.rg [(none, .mv 37 (.t 5)),
 (none, .mv 4 (.t 37)),
 (none, .kp [4])])
 (.rt))))))
theorem mr12 : MrT Try.prog 12 pc12 [.t 4] 38 := fun hn h => spec_of_run (fn := Try.f12) (by kernel_rfl) rfl (by kernel_rfl) (by kernel_rfl) hn h
theorem mk12 : MkT Try.prog 12 pc12 [.t 4] 38 := mr12.k
theorem mw12 : MwT Try.prog 12 pc12 [.t 4] 38 := mr12.w
-- 13 laws.sameRecords
def pc13l0 : PC := .seq (.seq (.rg [(none, .mv 11 (.t 5)),
 (none, .mv 12 (.t 0)),
 (none, .ln 13 (.t 12)),
 (none, .bi 14 .lss (.t 11) (.t 13)),
 (none, .kp [0, 1, 5, 14])])
 (.ite (.t 14) (.sk)
 (.ex 0)))
 (.seq (.blk 1 (.seq (.dr [[], [], [0, 1], [0, 1, 2], [], [], [4, 5], [4, 5, 6], [0, 1, 2, 3, 4, 5, 6, 7]]
 (.q 0 (none, .mv 17 (.t 0))
 (.q 1 (none, .mv 18 (.t 5))
 (.q 2 (none, .ia 19 2 (.t 17) (.t 18))
 (.q 3 (none, .ld 20 (some 2) (.t 19))
 (.q 4 (none, .mv 21 (.t 1))
 (.q 5 (none, .mv 22 (.t 5))
 (.q 6 (none, .ia 23 2 (.t 21) (.t 22))
 (.q 7 (none, .ld 24 (some 2) (.t 23))
 (.q 8 (none, .eqs 25 true [.n .i64 0, .s []] (.t 20) (.t 24))
 (.done)))))))))) [0, 1, 5, 25])
 (.ite (.t 25) (.seq (.rg [(none, .mv 4 (.c (.b false))),
 (none, .kp [4])])
 (.rt))
 (.sk))))
 (.rg [(none, .mv 15 (.t 5)),
 (none, .bi 16 .add (.t 15) (.c (.n .i64 1))),
 (none, .mv 5 (.t 16)),
 (none, .kp [0, 1, 5])]))
def pc13 : PC := .seq (.rg [(none, .mv 4 (.c (.b false))),
 (none, .kp [0, 1])])
 (.seq (.seq (.rg [(none, .mv 6 (.t 0)),
 (none, .ln 7 (.t 6)),
 (none, .mv 8 (.t 1)),
 (none, .ln 9 (.t 8)),
 (none, .bi 10 .neq (.t 7) (.t 9)),
 (none, .kp [0, 1, 10])])
 (.ite (.t 10) (.seq (.rg [(none, .mv 4 (.c (.b false))),
 (none, .kp [4])])
 (.rt))
 (.sk)))
 (.seq (.seq (.rg [(none, .mv 5 (.c (.n .i64 0))),
 (none, .kp [0, 1, 5])])
 (.blk 0 (.lp pc13l0)))
 (.seq (.rg [(none, .mv 4 (.c (.b true))),
 (none, .kp [4])])
 (.rt))))
theorem mr13 : MrT Try.prog 13 pc13 [.t 4] 26 := fun hn h => spec_of_run (fn := Try.f13) (by kernel_rfl) rfl (by kernel_rfl) (by kernel_rfl) hn h
theorem mk13 : MkT Try.prog 13 pc13 [.t 4] 26 := mr13.k
theorem mw13 : MwT Try.prog 13 pc13 [.t 4] 26 := mr13.w
-- 14 impl.MonitorRun
def pc14l0 : PC := .seq (.rg [(none, .bi 14 .lss (.t 13) (.t 12)),
 (none, .kp [2, 3, 11, 12, 13, 14])])
 (.seq (.ite (.t 14) (.sk)
 (.ex 0))
 (.seq (.blk 1 (.seq (.rg [(none, .ia 15 2 (.t 11) (.t 13)),
 (none, .ld 16 (some 2) (.t 15)),
 (none, .al 5 [.n .i64 0, .s []]),
 (none, .st 2 (.t 5) (.t 16)),
 (none, .kp [2, 3, 5, 11, 12, 13])])
 (.rg [(none, .ld 17 (some 3) (.t 3)),
 (none, .fa 18 1 (.t 5)),
 (none, .ld 19 none (.t 18)),
 (none, .ca (some 20) 50 [.t 17, .t 19]),
 (none, .st 3 (.t 3) (.t 20)),
 (none, .kp [2, 3, 11, 12, 13])])))
 (.rg [(none, .bi 21 .add (.t 13) (.c (.n .i64 1))),
 (none, .mv 13 (.t 21)),
 (none, .kp [2, 3, 11, 12, 13])])))
def pc14 : PC := .seq (.rg [(none, .al 2 [.n .i64 0, .nil, .nil]),
 (none, .kp [0, 2])])
 (.seq (.rg [(none, .bd 6 [.n .i64 0, .nil, .nil] []),
 (none, .al 3 [.n .i64 0, .nil, .nil]),
 (none, .st 3 (.t 3) (.t 6)),
 (none, .kp [0, 2, 3])])
 (.seq (.seq (.rg [(none, .mv 7 (.t 0)),
 (none, .ca (some 8) 47 [.t 7]),
 (none, .un 9 .not (.t 8)),
 (none, .kp [0, 2, 3, 9])])
 (.ite (.t 9) (.seq (.rg [(none, .ld 10 (some 3) (.t 3)),
 (none, .st 3 (.t 2) (.t 10)),
 (none, .kp [2])])
 (.rt))
 (.sk)))
 (.seq (.seq (.rg [(none, .mv 11 (.t 0)),
 (none, .ln 12 (.t 11)),
 (none, .mv 13 (.c (.n .i64 0))),
 (none, .kp [2, 3, 11, 12, 13])])
 (.blk 0 (.lp pc14l0)))
 (.seq (.rg [(none, .ld 22 (some 3) (.t 3)),
 (none, .st 3 (.t 2) (.t 22)),
 (none, .kp [2])])
 (.rt)))))
theorem mr14 : MrT Try.prog 14 pc14 [.c 2 (some 3)] 23 := fun hn h => spec_of_run (fn := Try.f14) (by kernel_rfl) rfl (by kernel_rfl) (by kernel_rfl) hn h
theorem mk14 : MkT Try.prog 14 pc14 [.c 2 (some 3)] 23 := mr14.k
theorem mw14 : MwT Try.prog 14 pc14 [.c 2 (some 3)] 23 := mr14.w
-- 15 impl.TalkSaid
def pc15l0 : PC := .seq (.rg [(none, .bi 19 .lss (.t 18) (.t 17)),
 (none, .kp [1, 5, 6, 16, 17, 18, 19])])
 (.seq (.ite (.t 19) (.sk)
 (.ex 0))
 (.seq (.blk 1 (.seq (.rg [(none, .ia 20 4 (.t 16) (.t 18)),
 (none, .ld 21 (some 4) (.t 20)),
 (none, .al 8 [.b false, .n .i64 0, .b false, .s []]),
 (none, .st 4 (.t 8) (.t 21)),
 (none, .kp [1, 5, 6, 8, 16, 17, 18])])
 (.seq (.seq (.rg [(none, .fa 22 0 (.t 8)),
 (none, .ld 23 none (.t 22)),
 (none, .mv 24 (.t 1)),
 (none, .bb 25 true (.t 23) (.t 24)),
 (none, .kp [1, 5, 6, 8, 16, 17, 18, 25])])
 (.ite (.t 25) (.ex 1)
 (.sk)))
 (.seq (.rg [(none, .fa 26 1 (.t 8)),
 (none, .ld 27 none (.t 26)),
 (none, .fa 28 2 (.t 8)),
 (none, .ld 29 none (.t 28)),
 (none, .fa 30 3 (.t 8)),
 (none, .ld 31 none (.t 30)),
 (none, .bd 32 [.n .i64 0, .n .i64 0, .b false, .s []] [(0, 1, .t 27), (2, 1, .t 29), (3, 1, .t 31)]),
 (none, .al 9 [.n .i64 0, .n .i64 0, .b false, .s []]),
 (none, .st 4 (.t 9) (.t 32)),
 (none, .kp [1, 5, 6, 8, 9, 16, 17, 18])])
 (.seq (.seq (.rg [(none, .fa 33 2 (.t 8)),
 (none, .ld 34 none (.t 33)),
 (none, .un 35 .not (.t 34)),
 (none, .kp [1, 5, 6, 8, 9, 16, 17, 18, 35])])
 (.ite (.t 35) (.seq (.rg [(none, .fa 36 1 (.t 8)),
 (none, .ld 37 none (.t 36)),
 (none, .iA 38 4 1 (.t 6) (.t 37)),
 (none, .ld 39 none (.t 38)),
 (none, .fa 40 1 (.t 9)),
 (none, .st 1 (.t 40) (.t 39)),
 (none, .kp [1, 5, 6, 8, 9, 16, 17, 18])])
 (.rg [(none, .fa 41 1 (.t 8)),
 (none, .ld 42 none (.t 41)),
 (none, .iA 43 4 1 (.t 6) (.t 42)),
 (none, .ld 44 none (.t 43)),
 (none, .bi 45 .add (.t 44) (.c (.n .i64 1))),
 (none, .iA 46 4 1 (.t 6) (.t 42)),
 (none, .st 1 (.t 46) (.t 45)),
 (none, .kp [1, 5, 6, 9, 16, 17, 18])]))
 (.sk)))
 (.rg [(none, .mv 47 (.t 5)),
 (none, .ld 48 (some 4) (.t 9)),
 (none, .bs 49 4 1 [.n .i64 0, .n .i64 0, .b false, .s []] [(0, .t 48)]),
 (none, .ap 50 4 40 (.t 47) (.t 49)),
 (none, .mv 5 (.t 50)),
 (none, .kp [1, 5, 6, 16, 17, 18])]))))))
 (.rg [(none, .bi 51 .add (.t 18) (.c (.n .i64 1))),
 (none, .mv 18 (.t 51)),
 (none, .kp [1, 5, 6, 16, 17, 18])])))
def pc15 : PC := .seq (.rg [(none, .bx 2 (.t 0)),
 (none, .mv 4 (.c .nil)),
 (none, .kp [1, 2])])
 (.seq (.seq (.rg [(none, .ld 10 (some 12) (.t 2)),
 (none, .ca (some 11) 51 [.t 10]),
 (none, .un 12 .not (.t 11)),
 (none, .kp [1, 2, 12])])
 (.ite (.t 12) (.seq (.rg [(none, .mv 4 (.c .nil)),
 (none, .kp [4])])
 (.rt))
 (.sk)))
 (.seq (.rg [(none, .bs 13 4 0 [.n .i64 0, .n .i64 0, .b false, .s []] []),
 (none, .mv 5 (.t 13)),
 (none, .kp [1, 2, 5])])
 (.seq (.rg [(none, .bd 14 [.n .i64 0, .n .i64 0, .n .i64 0, .n .i64 0] []),
 (none, .al 6 [.n .i64 0, .n .i64 0, .n .i64 0, .n .i64 0]),
 (none, .st 4 (.t 6) (.t 14)),
 (none, .kp [1, 2, 5, 6])])
 (.seq (.seq (.rg [(none, .fa 15 11 (.t 2)),
 (none, .ld 16 none (.t 15)),
 (none, .ln 17 (.t 16)),
 (none, .mv 18 (.c (.n .i64 0))),
 (none, .kp [1, 5, 6, 16, 17, 18])])
 (.blk 0 (.lp pc15l0)))
 (.seq (.rg [(none, .mv 52 (.t 5)),
 (none, .mv 4 (.t 52)),
 (none, .kp [4])])
 (.rt))))))
theorem mr15 : MrT Try.prog 15 pc15 [.t 4] 53 := fun hn h => spec_of_run (fn := Try.f15) (by kernel_rfl) rfl (by kernel_rfl) (by kernel_rfl) hn h
theorem mk15 : MkT Try.prog 15 pc15 [.t 4] 53 := mr15.k
theorem mw15 : MwT Try.prog 15 pc15 [.t 4] 53 := mr15.w
-- 16 laws.sameMessages
def pc16l0 : PC := .seq (.seq (.rg [(none, .mv 11 (.t 5)),
 (none, .mv 12 (.t 0)),
 (none, .ln 13 (.t 12)),
 (none, .bi 14 .lss (.t 11) (.t 13)),
 (none, .kp [0, 1, 5, 14])])
 (.ite (.t 14) (.sk)
 (.ex 0)))
 (.seq (.blk 1 (.seq (.dr [[], [], [0, 1], [0, 1, 2], [], [], [4, 5], [4, 5, 6], [0, 1, 2, 3, 4, 5, 6, 7]]
 (.q 0 (none, .mv 17 (.t 0))
 (.q 1 (none, .mv 18 (.t 5))
 (.q 2 (none, .ia 19 4 (.t 17) (.t 18))
 (.q 3 (none, .ld 20 (some 4) (.t 19))
 (.q 4 (none, .mv 21 (.t 1))
 (.q 5 (none, .mv 22 (.t 5))
 (.q 6 (none, .ia 23 4 (.t 21) (.t 22))
 (.q 7 (none, .ld 24 (some 4) (.t 23))
 (.q 8 (none, .eqs 25 true [.n .i64 0, .n .i64 0, .b false, .s []] (.t 20) (.t 24))
 (.done)))))))))) [0, 1, 5, 25])
 (.ite (.t 25) (.seq (.rg [(none, .mv 4 (.c (.b false))),
 (none, .kp [4])])
 (.rt))
 (.sk))))
 (.rg [(none, .mv 15 (.t 5)),
 (none, .bi 16 .add (.t 15) (.c (.n .i64 1))),
 (none, .mv 5 (.t 16)),
 (none, .kp [0, 1, 5])]))
def pc16 : PC := .seq (.rg [(none, .mv 4 (.c (.b false))),
 (none, .kp [0, 1])])
 (.seq (.seq (.rg [(none, .mv 6 (.t 0)),
 (none, .ln 7 (.t 6)),
 (none, .mv 8 (.t 1)),
 (none, .ln 9 (.t 8)),
 (none, .bi 10 .neq (.t 7) (.t 9)),
 (none, .kp [0, 1, 10])])
 (.ite (.t 10) (.seq (.rg [(none, .mv 4 (.c (.b false))),
 (none, .kp [4])])
 (.rt))
 (.sk)))
 (.seq (.seq (.rg [(none, .mv 5 (.c (.n .i64 0))),
 (none, .kp [0, 1, 5])])
 (.blk 0 (.lp pc16l0)))
 (.seq (.rg [(none, .mv 4 (.c (.b true))),
 (none, .kp [4])])
 (.rt))))
theorem mr16 : MrT Try.prog 16 pc16 [.t 4] 26 := fun hn h => spec_of_run (fn := Try.f16) (by kernel_rfl) rfl (by kernel_rfl) (by kernel_rfl) hn h
theorem mk16 : MkT Try.prog 16 pc16 [.t 4] 26 := mr16.k
theorem mw16 : MwT Try.prog 16 pc16 [.t 4] 26 := mr16.w
-- 17 impl.SideSaid
def pc17 : PC := .seq (.rg [(none, .bx 1 (.t 0)),
 (none, .mv 2 (.c .nil)),
 (none, .kp [1])])
 (.seq (.seq (.rg [(none, .ld 3 (some 5) (.t 1)),
 (none, .ca (some 4) 52 [.t 3]),
 (none, .un 5 .not (.t 4)),
 (none, .kp [1, 5])])
 (.ite (.t 5) (.seq (.rg [(none, .mv 2 (.c .nil)),
 (none, .kp [2])])
 (.rt))
 (.sk)))
 (.seq (.rg [(none, .fa 6 3 (.t 1)),
 (none, .ld 7 none (.t 6)),
 (none, .ca (some 8) 53 [.t 7]),
 (none, .mv 2 (.t 8)),
 (none, .kp [2])])
 (.rt)))
theorem mr17 : MrT Try.prog 17 pc17 [.t 2] 9 := fun hn h => spec_of_run (fn := Try.f17) (by kernel_rfl) rfl (by kernel_rfl) (by kernel_rfl) hn h
theorem mk17 : MkT Try.prog 17 pc17 [.t 2] 9 := mr17.k
theorem mw17 : MwT Try.prog 17 pc17 [.t 2] 9 := mr17.w
-- 25 impl.AssocStep
def pc25l0 : PC := .seq (.rg [(none, .bi 72 .lss (.t 71) (.t 70)),
 (none, .kp [2, 3, 4, 6, 7, 8, 69, 70, 71, 72])])
 (.seq (.ite (.t 72) (.sk)
 (.ex 0))
 (.seq (.blk 1 (.seq (.rg [(none, .ia 73 3 (.t 69) (.t 71)),
 (none, .ld 74 (some 3) (.t 73)),
 (none, .al 10 [.n .i64 0, .n .i64 0, .s []]),
 (none, .st 3 (.t 10) (.t 74)),
 (none, .kp [2, 3, 4, 6, 7, 8, 10, 69, 70, 71])])
 (.seq (.rg [(none, .fa 75 0 (.t 10)),
 (none, .ld 76 none (.t 75)),
 (none, .bi 77 .eql (.t 76) (.c (.n .i64 1))),
 (none, .kp [2, 3, 4, 6, 7, 8, 69, 70, 71, 77])])
 (.ite (.t 77) (.rg [(none, .mv 8 (.c (.n .i64 0))),
 (none, .kp [2, 3, 4, 6, 7, 8, 69, 70, 71])])
 (.sk)))))
 (.rg [(none, .bi 78 .add (.t 71) (.c (.n .i64 1))),
 (none, .mv 71 (.t 78)),
 (none, .kp [2, 3, 4, 6, 7, 8, 69, 70, 71])])))
def pc25l1 : PC := .seq (.rg [(none, .bi 90 .lss (.t 89) (.t 88)),
 (none, .kp [2, 4, 6, 7, 11, 87, 88, 89, 90])])
 (.seq (.ite (.t 90) (.sk)
 (.ex 2))
 (.seq (.blk 3 (.seq (.rg [(none, .ia 91 3 (.t 87) (.t 89)),
 (none, .ld 92 (some 3) (.t 91)),
 (none, .al 13 [.n .i64 0, .n .i64 0, .s []]),
 (none, .st 3 (.t 13) (.t 92)),
 (none, .kp [2, 4, 6, 7, 11, 13, 87, 88, 89])])
 (.seq (.rg [(none, .ld 93 (some 3) (.t 13)),
 (none, .mv 94 (.t 6)),
 (none, .ca (some 95) 67 [.t 11, .t 93, .t 94]),
 (none, .mv 14 (.t 95)),
 (none, .kp [2, 4, 6, 7, 11, 14, 87, 88, 89])])
 (.seq (.rg [(none, .mv 96 (.t 14)),
 (none, .bi 97 .neq (.t 96) (.c (.n .i64 0))),
 (none, .kp [2, 4, 6, 7, 11, 14, 87, 88, 89, 97])])
 (.ite (.t 97) (.rg [(none, .mv 98 (.t 14)),
 (none, .iA 99 12 1 (.t 7) (.t 98)),
 (none, .st 1 (.t 99) (.c (.b true))),
 (none, .kp [2, 4, 6, 7, 11, 87, 88, 89])])
 (.sk))))))
 (.rg [(none, .bi 100 .add (.t 89) (.c (.n .i64 1))),
 (none, .mv 89 (.t 100)),
 (none, .kp [2, 4, 6, 7, 11, 87, 88, 89])])))
def pc25l2 : PC := .seq (.rg [(none, .bi 104 .lss (.t 103) (.c (.n .i64 12))),
 (none, .kp [2, 4, 11, 15, 102, 103, 104])])
 (.seq (.ite (.t 104) (.sk)
 (.ex 4))
 (.seq (.blk 5 (.seq (.rg [(none, .mv 105 (.t 103)),
 (none, .iv 106 12 (.t 102) (.t 103)),
 (none, .mv 16 (.t 105)),
 (none, .mv 17 (.t 106)),
 (none, .kp [2, 4, 11, 15, 16, 17, 102, 103])])
 (.seq (.rg [(none, .mv 107 (.t 17)),
 (none, .kp [2, 4, 11, 15, 16, 102, 103, 107])])
 (.ite (.t 107) (.rg [(none, .mv 108 (.t 15)),
 (none, .mv 109 (.t 16)),
 (none, .bs 110 1 1 [.n .i64 0] [(0, .t 109)]),
 (none, .ap 111 1 8 (.t 108) (.t 110)),
 (none, .mv 15 (.t 111)),
 (none, .kp [2, 4, 11, 15, 102, 103])])
 (.sk)))))
 (.rg [(none, .bi 112 .add (.t 103) (.c (.n .i64 1))),
 (none, .mv 103 (.t 112)),
 (none, .kp [2, 4, 11, 15, 102, 103])])))
def pc25 : PC := .seq (.rg [(none, .bx 2 (.t 0)),
 (none, .bx 3 (.t 1)),
 (none, .al 4 [.n .i64 0, .n .i64 0, .n .i64 0, .b false, .n .i64 0, .n .i64 0, .n .i64 0, .nil, .n .i64 0, .n .i64 0, .n .i64 0, .n .i64 0, .nil, .n .i64 0]),
 (none, .mv 5 (.c .nil)),
 (none, .kp [2, 3, 4])])
 (.seq (.seq (.rg [(none, .ld 18 (some 14) (.t 2)),
 (none, .ca (some 19) 63 [.t 18]),
 (none, .un 20 .not (.t 19)),
 (none, .mv 21 (.t 20)),
 (some (21, false), .ld 22 (some 4) (.t 3)),
 (some (21, false), .ca (some 23) 64 [.t 22]),
 (some (21, false), .un 24 .not (.t 23)),
 (none, .pk 25 (.t 21) (.c (.b true)) (.t 24)),
 (none, .kp [2, 3, 4, 25])])
 (.ite (.t 25) (.seq (.rg [(none, .bd 26 [.n .i64 0, .n .i64 0, .n .i64 0, .b false, .n .i64 0, .n .i64 0, .n .i64 0, .nil, .n .i64 0, .n .i64 0, .n .i64 0, .n .i64 0, .nil, .n .i64 0] []),
 (none, .st 14 (.t 4) (.t 26)),
 (none, .mv 5 (.c .nil)),
 (none, .kp [4, 5])])
 (.rt))
 (.sk)))
 (.seq (.rg [(none, .fa 27 0 (.t 3)),
 (none, .ld 28 none (.t 27)),
 (none, .fa 29 1 (.t 2)),
 (none, .ld 30 none (.t 29)),
 (none, .bi 31 .eql (.t 28) (.t 30)),
 (none, .mv 32 (.t 31)),
 (some (32, true), .fa 33 1 (.t 3)),
 (some (32, true), .ld 34 none (.t 33)),
 (some (32, true), .fa 35 0 (.t 2)),
 (some (32, true), .ld 36 none (.t 35)),
 (some (32, true), .bi 37 .eql (.t 34) (.t 36)),
 (none, .pk 38 (.t 32) (.t 37) (.c (.b false))),
 (none, .mv 6 (.t 38)),
 (none, .kp [2, 3, 4, 6])])
 (.seq (.seq (.rg [(none, .mv 39 (.t 6)),
 (none, .un 40 .not (.t 39)),
 (none, .mv 41 (.t 40)),
 (some (41, true), .fa 42 0 (.t 3)),
 (some (41, true), .ld 43 none (.t 42)),
 (some (41, true), .fa 44 0 (.t 2)),
 (some (41, true), .ld 45 none (.t 44)),
 (some (41, true), .bi 46 .neq (.t 43) (.t 45)),
 (some (41, true), .mv 47 (.t 46)),
 (some (47, false), .fa 48 1 (.t 3)),
 (some (47, false), .ld 49 none (.t 48)),
 (some (47, false), .fa 50 1 (.t 2)),
 (some (47, false), .ld 51 none (.t 50)),
 (some (47, false), .bi 52 .neq (.t 49) (.t 51)),
 (some (41, true), .pk 53 (.t 47) (.c (.b true)) (.t 52)),
 (none, .pk 54 (.t 41) (.t 53) (.c (.b false))),
 (none, .kp [2, 3, 4, 6, 54])])
 (.ite (.t 54) (.seq (.rg [(none, .bd 55 [.n .i64 0, .n .i64 0, .n .i64 0, .b false, .n .i64 0, .n .i64 0, .n .i64 0, .nil, .n .i64 0, .n .i64 0, .n .i64 0, .n .i64 0, .nil, .n .i64 0] []),
 (none, .st 14 (.t 4) (.t 55)),
 (none, .mv 5 (.c .nil)),
 (none, .kp [4, 5])])
 (.rt))
 (.sk)))
 (.seq (.rg [(none, .bd 56 [.b false, .b false, .b false, .b false, .b false, .b false, .b false, .b false, .b false, .b false, .b false, .b false] []),
 (none, .al 7 [.b false, .b false, .b false, .b false, .b false, .b false, .b false, .b false, .b false, .b false, .b false, .b false]),
 (none, .st 12 (.t 7) (.t 56)),
 (none, .kp [2, 3, 4, 6, 7])])
 (.seq (.rg [(none, .ld 57 (some 4) (.t 3)),
 (none, .ca (some 58) 65 [.t 57]),
 (none, .un 59 .not (.t 58)),
 (none, .iA 60 12 1 (.t 7) (.c (.n .i64 1))),
 (none, .st 1 (.t 60) (.t 59)),
 (none, .kp [2, 3, 4, 6, 7])])
 (.seq (.rg [(none, .fa 61 9 (.t 2)),
 (none, .fa 62 0 (.t 61)),
 (none, .ld 63 none (.t 62)),
 (none, .mv 8 (.t 63)),
 (none, .kp [2, 3, 4, 6, 7, 8])])
 (.seq (.seq (.rg [(none, .mv 64 (.t 6)),
 (none, .kp [2, 3, 4, 6, 7, 8, 64])])
 (.ite (.t 64) (.rg [(none, .fa 65 4 (.t 2)),
 (none, .fa 66 0 (.t 65)),
 (none, .ld 67 none (.t 66)),
 (none, .mv 8 (.t 67)),
 (none, .kp [2, 3, 4, 6, 7, 8])])
 (.sk)))
 (.seq (.seq (.rg [(none, .fa 68 3 (.t 3)),
 (none, .ld 69 none (.t 68)),
 (none, .ln 70 (.t 69)),
 (none, .mv 71 (.c (.n .i64 0))),
 (none, .kp [2, 3, 4, 6, 7, 8, 69, 70, 71])])
 (.blk 0 (.lp pc25l0)))
 (.seq (.rg [(none, .fa 79 2 (.t 3)),
 (none, .ld 80 none (.t 79)),
 (none, .mv 81 (.t 8)),
 (none, .bi 82 .neq (.t 80) (.t 81)),
 (none, .iA 83 12 1 (.t 7) (.c (.n .i64 2))),
 (none, .st 1 (.t 83) (.t 82)),
 (none, .kp [2, 3, 4, 6, 7])])
 (.seq (.rg [(none, .ld 84 (some 14) (.t 2)),
 (none, .ca (some 85) 66 [.t 84]),
 (none, .al 11 [.n .i64 0, .n .i64 0, .n .i64 0, .b false, .n .i64 0, .n .i64 0, .n .i64 0, .nil, .n .i64 0, .n .i64 0, .n .i64 0, .n .i64 0, .nil, .n .i64 0]),
 (none, .st 14 (.t 11) (.t 85)),
 (none, .kp [2, 3, 4, 6, 7, 11])])
 (.seq (.seq (.rg [(none, .fa 86 3 (.t 3)),
 (none, .ld 87 none (.t 86)),
 (none, .ln 88 (.t 87)),
 (none, .mv 89 (.c (.n .i64 0))),
 (none, .kp [2, 4, 6, 7, 11, 87, 88, 89])])
 (.blk 2 (.lp pc25l1)))
 (.seq (.rg [(none, .bs 101 1 0 [.n .i64 0] []),
 (none, .mv 15 (.t 101)),
 (none, .kp [2, 4, 7, 11, 15])])
 (.seq (.seq (.rg [(none, .ld 102 (some 12) (.t 7)),
 (none, .mv 103 (.c (.n .i64 0))),
 (none, .kp [2, 4, 11, 15, 102, 103])])
 (.blk 4 (.lp pc25l2)))
 (.seq (.seq (.rg [(none, .mv 113 (.t 15)),
 (none, .ln 114 (.t 113)),
 (none, .bi 115 .gtr (.t 114) (.c (.n .i64 0))),
 (none, .kp [2, 4, 11, 15, 115])])
 (.ite (.t 115) (.seq (.rg [(none, .ld 116 (some 14) (.t 2)),
 (none, .ca (some 117) 66 [.t 116]),
 (none, .mv 118 (.t 15)),
 (none, .st 14 (.t 4) (.t 117)),
 (none, .mv 5 (.t 118)),
 (none, .kp [4, 5])])
 (.rt))
 (.sk)))
 (.seq (.rg [(none, .ld 119 (some 14) (.t 11)),
 (none, .st 14 (.t 4) (.t 119)),
 (none, .mv 5 (.c .nil)),
 (none, .kp [4, 5])])
 (.rt))))))))))))))))
theorem mr25 : MrT Try.prog 25 pc25 [.c 4 (some 14), .t 5] 120 := fun hn h => spec_of_run (fn := Try.f25) (by kernel_rfl) rfl (by kernel_rfl) (by kernel_rfl) hn h
theorem mk25 : MkT Try.prog 25 pc25 [.c 4 (some 14), .t 5] 120 := mr25.k
theorem mw25 : MwT Try.prog 25 pc25 [.c 4 (some 14), .t 5] 120 := mr25.w
-- 35 spec.TalkPackets
def pc35l0 : PC := .seq (.seq (.rg [(none, .mv 46 (.t 8)),
 (none, .bi 47 .gtr (.t 46) (.c (.n .i64 0))),
 (none, .kp [1, 3, 4, 5, 6, 7, 8, 47])])
 (.ite (.t 47) (.sk)
 (.ex 2)))
 (.seq (.blk 3 (.seq (.rg [(none, .bd 50 [.n .i64 0, .n .i64 0, .n .i64 0, .b false, .b false, .b false, .s []] []),
 (none, .al 9 [.n .i64 0, .n .i64 0, .n .i64 0, .b false, .b false, .b false, .s []]),
 (none, .st 7 (.t 9) (.t 50)),
 (none, .kp [1, 3, 4, 5, 6, 7, 8, 9])])
 (.seq (.seq (.rg [(none, .mv 51 (.t 7)),
 (none, .kp [1, 3, 4, 5, 6, 7, 8, 9, 51])])
 (.ite (.t 51) (.seq (.rg [(none, .mv 52 (.t 5)),
 (none, .ia 53 7 (.t 52) (.c (.n .i64 0))),
 (none, .ld 54 (some 7) (.t 53)),
 (none, .st 7 (.t 9) (.t 54)),
 (none, .kp [1, 3, 4, 5, 6, 7, 8, 9])])
 (.rg [(none, .mv 55 (.t 5)),
 (none, .sc 56 7 (.t 55) (some (.c (.n .i64 1))) none),
 (none, .mv 5 (.t 56)),
 (none, .kp [1, 3, 4, 5, 6, 7, 8, 9])]))
 (.seq (.rg [(none, .mv 57 (.t 4)),
 (none, .ia 58 7 (.t 57) (.c (.n .i64 0))),
 (none, .ld 59 (some 7) (.t 58)),
 (none, .st 7 (.t 9) (.t 59)),
 (none, .kp [1, 3, 4, 5, 6, 7, 8, 9])])
 (.rg [(none, .mv 60 (.t 4)),
 (none, .sc 61 7 (.t 60) (some (.c (.n .i64 1))) none),
 (none, .mv 4 (.t 61)),
 (none, .kp [1, 3, 4, 5, 6, 7, 8, 9])]))))
 (.seq (.rg [(none, .ld 63 (some 7) (.t 9)),
 (none, .ca (some 64) 78 [.t 63]),
 (none, .mv 62 (.t 64)),
 (none, .ex 65 (.t 62) 0),
 (none, .ex 66 (.t 62) 1),
 (none, .al 10 [.n .i64 0, .n .i64 0, .s []]),
 (none, .st 3 (.t 10) (.t 65)),
 (none, .mv 11 (.t 66)),
 (none, .kp [1, 3, 4, 5, 6, 7, 8, 9, 10])])
 (.seq (.rg [(none, .fa 68 0 (.t 9)),
 (none, .ld 69 none (.t 68)),
 (none, .bd 70 [.n .i64 0, .nil] [(0, 1, .t 69)]),
 (none, .ca (some 71) 79 [.t 70]),
 (none, .mv 67 (.t 71)),
 (none, .ex 72 (.t 67) 0),
 (none, .ex 73 (.t 67) 1),
 (none, .al 12 [.n .i64 0, .n .i64 0, .s []]),
 (none, .st 3 (.t 12) (.t 72)),
 (none, .mv 13 (.t 73)),
 (none, .kp [1, 3, 4, 5, 6, 7, 8, 10, 12])])
 (.dr [[], [], [], [], [3], [1, 2, 3, 4], [], [], [7], [], [9], [1, 2, 3, 4, 5, 6, 7, 8, 9, 10], [1, 2, 3, 4, 5, 6, 7, 8, 9, 10, 11], [0, 1, 2, 3, 4, 5, 6, 7, 8, 9, 10, 11, 12], [0, 1, 2, 3, 4, 5, 6, 7, 8, 9, 10, 11, 12, 13]]
 (.q 0 (none, .mv 74 (.t 3))
 (.q 1 (none, .ld 75 (some 12) (.t 1))
 (.q 2 (none, .mv 76 (.t 7))
 (.q 3 (none, .ld 77 (some 3) (.t 10))
 (.q 6 (none, .ld 80 (some 12) (.t 1))
 (.q 7 (none, .mv 81 (.t 7))
 (.q 8 (none, .un 82 .not (.t 81))
 (.q 9 (none, .ld 83 (some 3) (.t 12))
 (.alt 4 (none, .bs 78 3 1 [.n .i64 0, .n .i64 0, .s []] [(0, .t 77)]) [true, true, true, false, true, true, true, true]
 (.alt 5 (none, .ca (some 79) 80 [.t 75, .t 76, .t 78]) [true, false, false, false, true, true, true, true]
 (.alt 10 (none, .bs 84 3 1 [.n .i64 0, .n .i64 0, .s []] [(0, .t 83)]) [true, true, true, true, true, true, true, false]
 (.alt 11 (none, .ca (some 85) 80 [.t 80, .t 82, .t 84]) [true, false, false, false, false, false, false, false]
 (.alt 12 (none, .bs 86 4 2 [.n .i64 0, .n .i64 0, .n .i64 0, .nil] [(0, .t 79), (1, .t 85)]) [true, false, false, false, false, false, false, false]
 (.alt 13 (none, .ap 87 4 48 (.t 74) (.t 86)) [false, false, false, false, false, false, false, false]
 (.alt 14 (none, .mv 3 (.t 87)) [false, false, false, false, false, false, false, false]
 (.done)
 (.stop))
 (.stop))
 (.stop))
 (.stop))
 (.stop))
 (.alt 10 (none, .bs 84 3 1 [.n .i64 0, .n .i64 0, .s []] [(0, .t 83)]) [true, true, true, true, true, true, true, false]
 (.alt 5 (none, .ca (some 79) 80 [.t 75, .t 76, .t 78]) [true, false, false, false, true, true, true, true]
 (.alt 11 (none, .ca (some 85) 80 [.t 80, .t 82, .t 84]) [true, false, false, false, false, false, false, false]
 (.alt 12 (none, .bs 86 4 2 [.n .i64 0, .n .i64 0, .n .i64 0, .nil] [(0, .t 79), (1, .t 85)]) [true, false, false, false, false, false, false, false]
 (.alt 13 (none, .ap 87 4 48 (.t 74) (.t 86)) [false, false, false, false, false, false, false, false]
 (.alt 14 (none, .mv 3 (.t 87)) [false, false, false, false, false, false, false, false]
 (.done)
 (.stop))
 (.stop))
 (.stop))
 (.stop))
 (.stop))
 (.stop)))
 (.alt 10 (none, .bs 84 3 1 [.n .i64 0, .n .i64 0, .s []] [(0, .t 83)]) [true, true, true, true, true, true, true, false]
 (.alt 4 (none, .bs 78 3 1 [.n .i64 0, .n .i64 0, .s []] [(0, .t 77)]) [true, true, true, false, true, true, true, true]
 (.alt 5 (none, .ca (some 79) 80 [.t 75, .t 76, .t 78]) [true, false, false, false, true, true, true, true]
 (.alt 11 (none, .ca (some 85) 80 [.t 80, .t 82, .t 84]) [true, false, false, false, false, false, false, false]
 (.alt 12 (none, .bs 86 4 2 [.n .i64 0, .n .i64 0, .n .i64 0, .nil] [(0, .t 79), (1, .t 85)]) [true, false, false, false, false, false, false, false]
 (.alt 13 (none, .ap 87 4 48 (.t 74) (.t 86)) [false, false, false, false, false, false, false, false]
 (.alt 14 (none, .mv 3 (.t 87)) [false, false, false, false, false, false, false, false]
 (.done)
 (.stop))
 (.stop))
 (.stop))
 (.stop))
 (.stop))
 (.stop))
 (.stop))))))))))) [1, 3, 4, 5, 6, 7, 8]))))))
 (.rg [(none, .mv 48 (.t 8)),
 (none, .bi 49 .sub (.t 48) (.c (.n .i64 1))),
 (none, .mv 8 (.t 49)),
 (none, .kp [1, 3, 4, 5, 6, 7, 8])]))
def pc35l1 : PC := .seq (.seq (.rg [(none, .mv 24 (.t 6)),
 (none, .fa 25 11 (.t 1)),
 (none, .ld 26 none (.t 25)),
 (none, .ln 27 (.t 26)),
 (none, .bi 28 .lss (.t 24) (.t 27)),
 (none, .kp [1, 3, 4, 5, 6, 28])])
 (.ite (.t 28) (.sk)
 (.ex 0)))
 (.seq (.blk 1 (.seq (.rg [(none, .fa 31 11 (.t 1)),
 (none, .ld 32 none (.t 31)),
 (none, .mv 33 (.t 6)),
 (none, .ia 34 4 (.t 32) (.t 33)),
 (none, .fa 35 0 (.t 34)),
 (none, .ld 36 none (.t 35)),
 (none, .mv 7 (.t 36)),
 (none, .kp [1, 3, 4, 5, 6, 7])])
 (.seq (.dr [[], [0], [], [0, 1, 2], [0, 1, 2, 3], [0, 1, 2, 3, 4], [], [6], [0, 1, 2, 3, 4, 5, 6, 7], [0, 1, 2, 3, 4, 5, 6, 7, 8]]
 (.q 0 (none, .fa 37 11 (.t 1))
 (.q 1 (none, .ld 38 none (.t 37))
 (.q 2 (none, .mv 39 (.t 6))
 (.q 3 (none, .ia 40 4 (.t 38) (.t 39))
 (.q 4 (none, .fa 41 3 (.t 40))
 (.q 5 (none, .ld 42 none (.t 41))
 (.q 6 (none, .fa 43 10 (.t 1))
 (.q 7 (none, .ld 44 none (.t 43))
 (.alt 8 (none, .ca (some 45) 77 [.t 42, .t 44]) [false, false, false, false, false, false, false, false]
 (.q 9 (none, .mv 8 (.t 45))
 (.done))
 (.stop)))))))))) [1, 3, 4, 5, 6, 7, 8])
 (.blk 2 (.lp pc35l0)))))
 (.rg [(none, .mv 29 (.t 6)),
 (none, .bi 30 .add (.t 29) (.c (.n .i64 1))),
 (none, .mv 6 (.t 30)),
 (none, .kp [1, 3, 4, 5, 6])]))
def pc35 : PC := .seq (.rg [(none, .bx 1 (.t 0)),
 (none, .mv 2 (.c .nil)),
 (none, .kp [1])])
 (.seq (.seq (.rg [(none, .ld 14 (some 12) (.t 1)),
 (none, .ca (some 15) 74 [.t 14]),
 (none, .un 16 .not (.t 15)),
 (none, .kp [1, 16])])
 (.ite (.t 16) (.seq (.rg [(none, .bs 17 4 0 [.n .i64 0, .n .i64 0, .n .i64 0, .nil] []),
 (none, .mv 2 (.t 17)),
 (none, .kp [2])])
 (.rt))
 (.sk)))
 (.seq (.rg [(none, .ld 18 (some 12) (.t 1)),
 (none, .ca (some 19) 75 [.t 18]),
 (none, .mv 3 (.t 19)),
 (none, .kp [1, 3])])
 (.seq (.rg [(none, .ld 20 (some 12) (.t 1)),
 (none, .ca (some 21) 76 [.t 20, .c (.b false)]),
 (none, .mv 4 (.t 21)),
 (none, .kp [1, 3, 4])])
 (.seq (.rg [(none, .ld 22 (some 12) (.t 1)),
 (none, .ca (some 23) 76 [.t 22, .c (.b true)]),
 (none, .mv 5 (.t 23)),
 (none, .kp [1, 3, 4, 5])])
 (.seq (.seq (.rg [(none, .mv 6 (.c (.n .i64 0))),
 (none, .kp [1, 3, 4, 5, 6])])
 (.blk 0 (.lp pc35l1)))
 (.seq (.dr [[], [], [1], [], [1, 2, 3], [], [1, 2, 3, 4, 5], [1, 2, 3, 4, 5, 6], [0, 1, 2, 3, 4, 5, 6, 7], [0, 1, 2, 3, 4, 5, 6, 7, 8]]
 (.q 0 (none, .mv 88 (.t 3))
 (.q 1 (none, .ld 89 (some 12) (.t 1))
 (.q 3 (none, .ld 91 (some 12) (.t 1))
 (.q 5 (none, .ld 93 (some 12) (.t 1))
 (.alt 2 (none, .ca (some 90) 81 [.t 89, .c (.b false), .c (.n .i64 7)]) [true, false, true, true]
 (.alt 4 (none, .ca (some 92) 81 [.t 91, .c (.b true), .c (.n .i64 8)]) [true, false, false, true]
 (.alt 6 (none, .ca (some 94) 81 [.t 93, .c (.b false), .c (.n .i64 14)]) [true, false, false, false]
 (.alt 7 (none, .bs 95 4 3 [.n .i64 0, .n .i64 0, .n .i64 0, .nil] [(0, .t 90), (1, .t 92), (2, .t 94)]) [true, false, false, false]
 (.alt 8 (none, .ap 96 4 48 (.t 88) (.t 95)) [false, false, false, false]
 (.q 9 (none, .mv 2 (.t 96))
 (.done))
 (.stop))
 (.stop))
 (.stop))
 (.stop))
 (.stop)))))) [2])
 (.rt)))))))
theorem mr35 : MrT Try.prog 35 pc35 [.t 2] 97 := fun hn h => spec_of_run (fn := Try.f35) (by kernel_rfl) rfl (by kernel_rfl) (by kernel_rfl) hn h
theorem mk35 : MkT Try.prog 35 pc35 [.t 2] 97 := mr35.k
theorem mw35 : MwT Try.prog 35 pc35 [.t 2] 97 := mr35.w
-- 37 impl.TalkPackets
def pc37l0 : PC := .seq (.rg [(none, .bi 58 .lss (.t 57) (.t 56)),
 (none, .kp [3, 5, 49, 50, 51, 55, 56, 57, 58])])
 (.seq (.ite (.t 58) (.sk)
 (.ex 2))
 (.seq (.blk 3 (.seq (.rg [(none, .ia 59 8 (.t 55) (.t 57)),
 (none, .ld 60 (some 8) (.t 59)),
 (none, .al 13 [.b false, .n .i64 0, .n .i64 0, .n .i64 0, .b false, .b false, .b false, .s []]),
 (none, .st 8 (.t 13) (.t 60)),
 (none, .kp [3, 5, 13, 49, 50, 51, 55, 56, 57])])
 (.seq (.rg [(none, .fa 62 1 (.t 13)),
 (none, .ld 63 (some 7) (.t 62)),
 (none, .ca (some 64) 88 [.t 63]),
 (none, .mv 61 (.t 64)),
 (none, .ex 65 (.t 61) 0),
 (none, .ex 66 (.t 61) 1),
 (none, .al 14 [.n .i64 0, .n .i64 0, .s []]),
 (none, .st 3 (.t 14) (.t 65)),
 (none, .mv 15 (.t 66)),
 (none, .kp [3, 5, 13, 14, 49, 50, 51, 55, 56, 57])])
 (.seq (.rg [(none, .fa 68 1 (.t 13)),
 (none, .fa 69 0 (.t 68)),
 (none, .ld 70 none (.t 69)),
 (none, .bd 71 [.n .i64 0, .nil] [(0, 1, .t 70)]),
 (none, .ca (some 72) 89 [.t 71]),
 (none, .mv 67 (.t 72)),
 (none, .ex 73 (.t 67) 0),
 (none, .ex 74 (.t 67) 1),
 (none, .al 16 [.n .i64 0, .n .i64 0, .s []]),
 (none, .st 3 (.t 16) (.t 73)),
 (none, .mv 17 (.t 74)),
 (none, .kp [3, 5, 13, 14, 16, 49, 50, 51, 55, 56, 57])])
 (.seq (.rg [(none, .mv 75 (.t 5)),
 (none, .fa 76 0 (.t 13)),
 (none, .ld 77 none (.t 76)),
 (none, .ld 78 (some 3) (.t 14)),
 (none, .cf (some 79) 85 (.t 75) [.t 77, .t 78]),
 (none, .kp [3, 5, 13, 16, 49, 50, 51, 55, 56, 57])])
 (.rg [(none, .mv 80 (.t 5)),
 (none, .fa 81 0 (.t 13)),
 (none, .ld 82 none (.t 81)),
 (none, .un 83 .not (.t 82)),
 (none, .ld 84 (some 3) (.t 16)),
 (none, .cf (some 85) 85 (.t 80) [.t 83, .t 84]),
 (none, .kp [3, 5, 49, 50, 51, 55, 56, 57])]))))))
 (.rg [(none, .bi 86 .add (.t 57) (.c (.n .i64 1))),
 (none, .mv 57 (.t 86)),
 (none, .kp [3, 5, 49, 50, 51, 55, 56, 57])])))
def pc37l1 : PC := .seq (.rg [(none, .bi 52 .lss (.t 51) (.t 50)),
 (none, .kp [3, 5, 49, 50, 51, 52])])
 (.seq (.ite (.t 52) (.sk)
 (.ex 0))
 (.seq (.blk 1 (.seq (.rg [(none, .ia 53 1 (.t 49) (.t 51)),
 (none, .ld 54 none (.t 53)),
 (none, .mv 11 (.t 54)),
 (none, .kp [3, 5, 11, 49, 50, 51])])
 (.seq (.rg [(none, .mv 55 (.t 11)),
 (none, .ln 56 (.t 55)),
 (none, .mv 57 (.c (.n .i64 0))),
 (none, .kp [3, 5, 49, 50, 51, 55, 56, 57])])
 (.blk 2 (.lp pc37l0)))))
 (.rg [(none, .bi 87 .add (.t 51) (.c (.n .i64 1))),
 (none, .mv 51 (.t 87)),
 (none, .kp [3, 5, 49, 50, 51])])))
def pc37 : PC := .seq (.rg [(none, .bx 1 (.t 0)),
 (none, .mv 2 (.c .nil)),
 (none, .kp [1])])
 (.seq (.seq (.rg [(none, .ld 18 (some 12) (.t 1)),
 (none, .ca (some 19) 51 [.t 18]),
 (none, .un 20 .not (.t 19)),
 (none, .kp [1, 20])])
 (.ite (.t 20) (.seq (.rg [(none, .mv 2 (.c .nil)),
 (none, .kp [2])])
 (.rt))
 (.sk)))
 (.seq (.rg [(none, .bs 21 4 0 [.n .i64 0, .n .i64 0, .n .i64 0, .nil] []),
 (none, .al 3 [.nil]),
 (none, .st 1 (.t 3) (.t 21)),
 (none, .kp [1, 3])])
 (.seq (.rg [(none, .mf 22 84 [.t 1, .t 3]),
 (none, .al 4 [.j]),
 (none, .st 1 (.t 4) (.t 22)),
 (none, .kp [1, 3, 4])])
 (.seq (.rg [(none, .mf 23 85 [.t 4, .t 1]),
 (none, .mv 5 (.t 23)),
 (none, .kp [1, 3, 4, 5])])
 (.seq (.rg [(none, .fa 25 2 (.t 1)),
 (none, .ld 26 (some 4) (.t 25)),
 (none, .ca (some 27) 86 [.t 26, .c (.b false)]),
 (none, .mv 24 (.t 27)),
 (none, .ex 28 (.t 24) 0),
 (none, .ex 29 (.t 24) 1),
 (none, .al 6 [.n .i64 0, .n .i64 0, .s []]),
 (none, .st 3 (.t 6) (.t 28)),
 (none, .mv 7 (.t 29)),
 (none, .kp [1, 3, 4, 5, 6])])
 (.seq (.rg [(none, .fa 31 6 (.t 1)),
 (none, .ld 32 (some 4) (.t 31)),
 (none, .ca (some 33) 86 [.t 32, .c (.b true)]),
 (none, .mv 30 (.t 33)),
 (none, .ex 34 (.t 30) 0),
 (none, .ex 35 (.t 30) 1),
 (none, .al 8 [.n .i64 0, .n .i64 0, .s []]),
 (none, .st 3 (.t 8) (.t 34)),
 (none, .mv 9 (.t 35)),
 (none, .kp [1, 3, 4, 5, 6, 8])])
 (.seq (.rg [(none, .ld 36 none (.t 4)),
 (none, .ld 37 (some 3) (.t 6)),
 (none, .cf (some 38) 84 (.t 36) [.c (.b false), .t 37, .c (.n .i64 0)]),
 (none, .kp [1, 3, 5, 8])])
 (.seq (.rg [(none, .mv 39 (.t 5)),
 (none, .ld 40 (some 3) (.t 8)),
 (none, .cf (some 41) 85 (.t 39) [.c (.b true), .t 40]),
 (none, .kp [1, 3, 5])])
 (.seq (.rg [(none, .mv 42 (.t 5)),
 (none, .bd 43 [.n .i64 0, .n .i64 0, .s []] [(0, 1, .c (.n .i64 10))]),
 (none, .cf (some 44) 85 (.t 42) [.c (.b false), .t 43]),
 (none, .kp [1, 3, 5])])
 (.seq (.rg [(none, .mv 45 (.t 5)),
 (none, .bd 46 [.n .i64 0, .n .i64 0, .s []] [(0, 1, .c (.n .i64 11))]),
 (none, .cf (some 47) 85 (.t 45) [.c (.b true), .t 46]),
 (none, .kp [1, 3, 5])])
 (.seq (.seq (.rg [(none, .ld 48 (some 12) (.t 1)),
 (none, .ca (some 49) 87 [.t 48]),
 (none, .ln 50 (.t 49)),
 (none, .mv 51 (.c (.n .i64 0))),
 (none, .kp [3, 5, 49, 50, 51])])
 (.blk 0 (.lp pc37l1)))
 (.seq (.rg [(none, .mv 88 (.t 5)),
 (none, .bd 89 [.n .i64 0, .n .i64 0, .s []] [(0, 1, .c (.n .i64 7))]),
 (none, .cf (some 90) 85 (.t 88) [.c (.b false), .t 89]),
 (none, .kp [3, 5])])
 (.seq (.rg [(none, .mv 91 (.t 5)),
 (none, .bd 92 [.n .i64 0, .n .i64 0, .s []] [(0, 1, .c (.n .i64 8))]),
 (none, .cf (some 93) 85 (.t 91) [.c (.b true), .t 92]),
 (none, .kp [3, 5])])
 (.seq (.rg [(none, .mv 94 (.t 5)),
 (none, .bd 95 [.n .i64 0, .n .i64 0, .s []] [(0, 1, .c (.n .i64 14))]),
 (none, .cf (some 96) 85 (.t 94) [.c (.b false), .t 95]),
 (none, .kp [3])])
 (.seq (.rg [(none, .ld 97 none (.t 3)),
 (none, .mv 2 (.t 97)),
 (none, .kp [2])])
 (.rt))))))))))))))))
theorem mr37 : MrT Try.prog 37 pc37 [.t 2] 98 := fun hn h => spec_of_run (fn := Try.f37) (by kernel_rfl) rfl (by kernel_rfl) (by kernel_rfl) hn h
theorem mk37 : MkT Try.prog 37 pc37 [.t 2] 98 := mr37.k
theorem mw37 : MwT Try.prog 37 pc37 [.t 2] 98 := mr37.w
-- 43 spec.l6Open
def pc43 : PC := .seq (.rg [(none, .mv 2 .j),
 (none, .kp [0])])
 (.seq (.seq (.rg [(none, .mv 3 (.t 0)),
 (none, .ln 4 (.t 3)),
 (none, .bi 5 .gtr (.t 4) (.c (.n .i64 2000))),
 (none, .kp [0, 5])])
 (.ite (.t 5) (.rg [(none, .mv 6 (.t 0)),
 (none, .sc 7 1 (.t 6) none (some (.c (.n .i64 2000)))),
 (none, .mv 0 (.t 7)),
 (none, .kp [0])])
 (.sk)))
 (.seq (.rg [(none, .mv 8 (.t 0)),
 (none, .bd 9 [.nil, .n .i64 0] [(0, 1, .t 8)]),
 (none, .bx 10 (.t 9)),
 (none, .mv 2 (.t 10)),
 (none, .kp [2])])
 (.rt)))
theorem mr43 : MrT Try.prog 43 pc43 [.t 2] 11 := fun hn h => spec_of_run (fn := Try.f43) (by kernel_rfl) rfl (by kernel_rfl) (by kernel_rfl) hn h
theorem mk43 : MkT Try.prog 43 pc43 [.t 2] 11 := mr43.k
theorem mw43 : MwT Try.prog 43 pc43 [.t 2] 11 := mr43.w
-- 44 spec.l92Odd
def pc44 : PC := .seq (.rg [(none, .al 2 [.n .i64 0, .n .i64 0, .n .i64 0, .n .i64 0, .n .i64 0, .n .i64 0, .n .i64 0, .n .i64 0, .n .i64 0, .n .i64 0, .n .i64 0, .nil]),
 (none, .kp [0, 2])])
 (.seq (.rg [(none, .mv 4 (.t 0)),
 (none, .ca (some 5) 94 [.t 4]),
 (none, .al 3 [.n .i64 0, .n .i64 0, .n .i64 0, .n .i64 0, .n .i64 0, .n .i64 0, .n .i64 0, .n .i64 0, .n .i64 0, .n .i64 0, .n .i64 0, .nil]),
 (none, .st 12 (.t 3) (.t 5)),
 (none, .kp [0, 2, 3])])
 (.seq (.seq (.rg [(none, .mv 6 (.t 0)),
 (none, .ca (some 7) 45 [.t 6, .c (.n .i64 20)]),
 (none, .kp [0, 2, 3, 7])])
 (.blk 0 (.seq (.rg [(none, .bi 9 .eql (.t 7) (.c (.n .i64 0))),
 (none, .mv 8 (.t 9)),
 (none, .kp [0, 2, 3, 7, 8])])
 (.ite (.t 8) (.rg [(none, .mv 10 (.t 0)),
 (none, .ca (some 11) 95 [.t 10]),
 (none, .fa 12 0 (.t 3)),
 (none, .st 1 (.t 12) (.t 11)),
 (none, .kp [2, 3])])
 (.seq (.rg [(none, .bi 14 .eql (.t 7) (.c (.n .i64 1))),
 (none, .mv 13 (.t 14)),
 (none, .kp [0, 2, 3, 7, 13])])
 (.ite (.t 13) (.rg [(none, .mv 15 (.t 0)),
 (none, .ca (some 16) 96 [.t 15]),
 (none, .fa 17 2 (.t 3)),
 (none, .st 4 (.t 17) (.t 16)),
 (none, .kp [2, 3])])
 (.seq (.rg [(none, .bi 19 .eql (.t 7) (.c (.n .i64 2))),
 (none, .mv 18 (.t 19)),
 (none, .kp [0, 2, 3, 7, 18])])
 (.ite (.t 18) (.rg [(none, .mv 20 (.t 0)),
 (none, .ca (some 21) 45 [.t 20, .c (.n .i64 24)]),
 (none, .bi 22 .sub (.t 21) (.c (.n .i64 1))),
 (none, .fa 23 10 (.t 3)),
 (none, .st 1 (.t 23) (.t 22)),
 (none, .kp [2, 3])])
 (.seq (.rg [(none, .bi 25 .eql (.t 7) (.c (.n .i64 3))),
 (none, .mv 24 (.t 25)),
 (none, .kp [0, 2, 3, 7, 24])])
 (.ite (.t 24) (.dr [[], [0], [], [2], [2, 3], [], [2, 3, 5], [2, 3, 5, 6], [2, 3, 4, 5, 6, 7], [2, 3, 4, 5, 6, 7, 8], [0, 1, 2, 3, 4, 5, 6, 7, 8, 9], [0, 1, 2, 3, 4, 5, 6, 7, 8, 9, 10], [0, 1, 2, 3, 4, 5, 6, 7, 8, 9, 10, 11]]
 (.q 0 (none, .fa 26 11 (.t 3))
 (.q 1 (none, .ld 27 none (.t 26))
 (.q 2 (none, .mv 28 (.t 0))
 (.q 5 (none, .mv 31 (.t 0))
 (.alt 3 (none, .ca (some 29) 45 [.t 28, .c (.n .i64 6)]) [true, true, false, true]
 (.q 4 (none, .bi 30 .sub (.t 29) (.c (.n .i64 1)))
 (.alt 6 (none, .ca (some 32) 45 [.t 31, .c (.n .i64 64)]) [true, true, false, false, true]
 (.alt 7 (none, .ca (some 33) 97 [.c (.s [119]), .t 32]) [true, true, false, false, true]
 (.q 8 (none, .bd 34 [.b false, .n .i64 0, .b false, .s []] [(1, 1, .t 30), (3, 1, .t 33)])
 (.alt 9 (none, .bs 35 4 1 [.b false, .n .i64 0, .b false, .s []] [(0, .t 34)]) [true, true, false, false, false, false]
 (.alt 10 (none, .ap 36 4 40 (.t 27) (.t 35)) [false, false, false, false, false, false]
 (.q 11 (none, .fa 37 11 (.t 3))
 (.alt 12 (none, .st 1 (.t 37) (.t 36)) [false, false, false, false, false, false, false]
 (.done)
 (.stop)))
 (.stop))
 (.stop)))
 (.stop))
 (.stop)))
 (.stop)))))) [2, 3])
 (.seq (.rg [(none, .bi 39 .eql (.t 7) (.c (.n .i64 4))),
 (none, .mv 38 (.t 39)),
 (none, .kp [2, 3, 38])])
 (.ite (.t 38) (.rg [(none, .fa 40 0 (.t 3)),
 (none, .ld 41 none (.t 40)),
 (none, .fa 42 1 (.t 3)),
 (none, .st 1 (.t 42) (.t 41)),
 (none, .kp [2, 3])])
 (.sk)))))))))))))
 (.seq (.rg [(none, .ld 43 (some 12) (.t 3)),
 (none, .st 12 (.t 2) (.t 43)),
 (none, .kp [2])])
 (.rt))))
theorem mr44 : MrT Try.prog 44 pc44 [.c 2 (some 12)] 44 := fun hn h => spec_of_run (fn := Try.f44) (by kernel_rfl) rfl (by kernel_rfl) (by kernel_rfl) hn h
theorem mk44 : MkT Try.prog 44 pc44 [.c 2 (some 12)] 44 := mr44.k
theorem mw44 : MwT Try.prog 44 pc44 [.c 2 (some 12)] 44 := mr44.w
-- 45 (*spec.l6Rd).pick
def pc45 : PC := .seq (.rg [(none, .mv 4 (.c (.n .i64 0))),
 (none, .kp [0, 1])])
 (.seq (.rg [(none, .mv 7 (.t 0)),
 (none, .mv 8 (.t 0)),
 (none, .nc 9 (.t 8)),
 (none, .fa 10 1 (.t 9)),
 (none, .ld 11 none (.t 10)),
 (none, .bi 12 .add (.t 11) (.c (.n .i64 1))),
 (none, .nc 13 (.t 7)),
 (none, .fa 14 1 (.t 13)),
 (none, .st 1 (.t 14) (.t 12)),
 (none, .kp [0, 1])])
 (.seq (.seq (.rg [(none, .mv 15 (.t 1)),
 (none, .bi 16 .lss (.t 15) (.c (.n .i64 1))),
 (none, .mv 17 (.t 16)),
 (some (17, false), .mv 18 (.t 0)),
 (some (17, false), .nc 19 (.t 18)),
 (some (17, false), .fa 20 0 (.t 19)),
 (some (17, false), .ld 21 none (.t 20)),
 (some (17, false), .ln 22 (.t 21)),
 (some (17, false), .bi 23 .eql (.t 22) (.c (.n .i64 0))),
 (none, .pk 24 (.t 17) (.c (.b true)) (.t 23)),
 (none, .kp [0, 1, 24])])
 (.ite (.t 24) (.seq (.rg [(none, .mv 4 (.c (.n .i64 0))),
 (none, .kp [4])])
 (.rt))
 (.sk)))
 (.seq (.rg [(none, .mv 25 (.t 0)),
 (none, .nc 26 (.t 25)),
 (none, .fa 27 1 (.t 26)),
 (none, .ld 28 none (.t 27)),
 (none, .bi 29 .sub (.t 28) (.c (.n .i64 1))),
 (none, .mv 5 (.t 29)),
 (none, .kp [0, 1, 5])])
 (.seq (.seq (.rg [(none, .mv 30 (.t 5)),
 (none, .mv 31 (.t 0)),
 (none, .nc 32 (.t 31)),
 (none, .fa 33 0 (.t 32)),
 (none, .ld 34 none (.t 33)),
 (none, .ln 35 (.t 34)),
 (none, .bi 36 .lss (.t 30) (.t 35)),
 (none, .kp [0, 1, 5, 36])])
 (.ite (.t 36) (.seq (.rg [(none, .mv 37 (.t 0)),
 (none, .nc 38 (.t 37)),
 (none, .fa 39 0 (.t 38)),
 (none, .ld 40 none (.t 39)),
 (none, .mv 41 (.t 5)),
 (none, .ia 42 1 (.t 40) (.t 41)),
 (none, .ld 43 none (.t 42)),
 (none, .cv 44 .i64 (.t 43)),
 (none, .mv 45 (.t 1)),
 (none, .bi 46 .rem (.t 44) (.t 45)),
 (none, .mv 4 (.t 46)),
 (none, .kp [4])])
 (.rt))
 (.sk)))
 (.seq (.dr [[], [0], [0, 1], [0, 1, 2], [], [], [5], [5, 6], [5, 6, 7], [5, 6, 7, 8], [4, 5, 6, 7, 8, 9], [0, 1, 2, 3, 4, 5, 6, 7, 8, 9, 10], [0, 1, 2, 3, 4, 5, 6, 7, 8, 9, 10, 11], [0, 1, 2, 3, 4, 5, 6, 7, 8, 9, 10, 11, 12], [0, 1, 2, 3, 4, 5, 6, 7, 8, 9, 10, 11, 12, 13], [], [15], [15, 16], [15, 16, 17], [], [19], [19, 20], [], [22], [22, 23], [22, 23, 24], [22, 23, 24, 25], [19, 20, 21, 22, 23, 24, 25, 26], [15, 16, 17, 18, 19, 20, 21, 22, 23, 24, 25, 26, 27], [15, 16, 17, 18, 19, 20, 21, 22, 23, 24, 25, 26, 27, 28], [15, 16, 17, 18, 19, 20, 21, 22, 23, 24, 25, 26, 27, 28, 29], [15, 16, 17, 18, 19, 20, 21, 22, 23, 24, 25, 26, 27, 28, 29, 30], [0, 1, 2, 3, 4, 5, 6, 7, 8, 9, 10, 11, 12, 13, 14, 15, 16, 17, 18, 19, 20, 21, 22, 23, 24, 25, 26, 27, 28, 29, 30, 31], [], [33], [0, 1, 2, 3, 4, 5, 6, 7, 8, 9, 10, 11, 12, 13, 14, 15, 16, 17, 18, 19, 20, 21, 22, 23, 24, 25, 26, 27, 28, 29, 30, 31, 32, 33, 34], [], [], [37], [37, 38], [37, 38, 39], [37, 38, 39, 40], [36, 37, 38, 39, 40, 41], [36, 37, 38, 39, 40, 41, 42], [0, 1, 2, 3, 4, 5, 6, 7, 8, 9, 10, 11, 12, 13, 14, 15, 16, 17, 18, 19, 20, 21, 22, 23, 24, 25, 26, 27, 28, 29, 30, 31, 32, 33, 34, 35, 36, 37, 38, 39, 40, 41, 42, 43], [0, 1, 2, 3, 4, 5, 6, 7, 8, 9, 10, 11, 12, 13, 14, 15, 16, 17, 18, 19, 20, 21, 22, 23, 24, 25, 26, 27, 28, 29, 30, 31, 32, 33, 34, 35, 36, 37, 38, 39, 40, 41, 42, 43, 44]]
 (.q 0 (none, .mv 47 (.t 0))
 (.q 1 (none, .nc 48 (.t 47))
 (.q 2 (none, .fa 49 0 (.t 48))
 (.q 3 (none, .ld 50 none (.t 49))
 (.q 4 (none, .mv 51 (.t 5))
 (.q 5 (none, .mv 52 (.t 0))
 (.q 6 (none, .nc 53 (.t 52))
 (.q 7 (none, .fa 54 0 (.t 53))
 (.q 8 (none, .ld 55 none (.t 54))
 (.q 9 (none, .ln 56 (.t 55))
 (.q 10 (none, .bi 57 .rem (.t 51) (.t 56))
 (.q 11 (none, .ia 58 1 (.t 50) (.t 57))
 (.q 12 (none, .ld 59 none (.t 58))
 (.q 13 (none, .cv 60 .i64 (.t 59))
 (.q 14 (none, .bi 61 .mul (.t 60) (.c (.n .i64 131)))
 (.q 15 (none, .mv 62 (.t 0))
 (.q 16 (none, .nc 63 (.t 62))
 (.q 17 (none, .fa 64 0 (.t 63))
 (.q 18 (none, .ld 65 none (.t 64))
 (.q 19 (none, .mv 66 (.t 5))
 (.q 20 (none, .bi 67 .mul (.t 66) (.c (.n .i64 7)))
 (.q 21 (none, .bi 68 .add (.t 67) (.c (.n .i64 3)))
 (.q 22 (none, .mv 69 (.t 0))
 (.q 23 (none, .nc 70 (.t 69))
 (.q 24 (none, .fa 71 0 (.t 70))
 (.q 25 (none, .ld 72 none (.t 71))
 (.q 26 (none, .ln 73 (.t 72))
 (.q 27 (none, .bi 74 .rem (.t 68) (.t 73))
 (.q 28 (none, .ia 75 1 (.t 65) (.t 74))
 (.q 29 (none, .ld 76 none (.t 75))
 (.q 30 (none, .cv 77 .i64 (.t 76))
 (.q 31 (none, .bi 78 .mul (.t 77) (.c (.n .i64 1117)))
 (.q 32 (none, .bi 79 .add (.t 61) (.t 78))
 (.q 33 (none, .mv 80 (.t 5))
 (.q 34 (none, .bi 81 .mul (.t 80) (.c (.n .i64 29)))
 (.q 35 (none, .bi 82 .add (.t 79) (.t 81))
 (.q 36 (none, .mv 83 (.t 5))
 (.q 37 (none, .mv 84 (.t 0))
 (.q 38 (none, .nc 85 (.t 84))
 (.q 39 (none, .fa 86 0 (.t 85))
 (.q 40 (none, .ld 87 none (.t 86))
 (.q 41 (none, .ln 88 (.t 87))
 (.q 42 (none, .bi 89 .quo (.t 83) (.t 88))
 (.q 43 (none, .bi 90 .mul (.t 89) (.c (.n .i64 53)))
 (.q 44 (none, .bi 91 .add (.t 82) (.t 90))
 (.q 45 (none, .mv 6 (.t 91))
 (.done))))))))))))))))))))))))))))))))))))))))))))))) [1, 6])
 (.seq (.rg [(none, .mv 92 (.t 6)),
 (none, .mv 93 (.t 6)),
 (none, .bi 94 .quo (.t 93) (.c (.n .i64 64))),
 (none, .bi 95 .xor (.t 92) (.t 94)),
 (none, .mv 6 (.t 95)),
 (none, .kp [1, 6])])
 (.seq (.rg [(none, .mv 96 (.t 6)),
 (none, .mv 97 (.t 1)),
 (none, .bi 98 .rem (.t 96) (.t 97)),
 (none, .mv 4 (.t 98)),
 (none, .kp [4])])
 (.rt))))))))
theorem mr45 : MrT Try.prog 45 pc45 [.t 4] 99 := fun hn h => spec_of_run (fn := Try.f45) (by kernel_rfl) rfl (by kernel_rfl) (by kernel_rfl) hn h
theorem mk45 : MkT Try.prog 45 pc45 [.t 4] 99 := mr45.k
theorem mw45 : MwT Try.prog 45 pc45 [.t 4] 99 := mr45.w
-- 46 impl.PacketPut
def pc46l0 : PC := .seq (.rg [(none, .bi 32 .lss (.t 31) (.t 30)),
 (none, .kp [5, 6, 29, 30, 31, 32])])
 (.seq (.ite (.t 32) (.sk)
 (.ex 0))
 (.seq (.blk 1 (.seq (.rg [(none, .ia 33 3 (.t 29) (.t 31)),
 (none, .ld 34 (some 3) (.t 33)),
 (none, .al 8 [.n .i64 0, .n .i64 0, .s []]),
 (none, .st 3 (.t 8) (.t 34)),
 (none, .kp [5, 6, 8, 29, 30, 31])])
 (.rg [(none, .mv 35 (.t 6)),
 (none, .ld 36 (some 3) (.t 8)),
 (none, .ca (some 37) 100 [.t 36]),
 (none, .bi 38 .add (.t 35) (.t 37)),
 (none, .mv 6 (.t 38)),
 (none, .kp [5, 6, 29, 30, 31])])))
 (.rg [(none, .bi 39 .add (.t 31) (.c (.n .i64 1))),
 (none, .mv 31 (.t 39)),
 (none, .kp [5, 6, 29, 30, 31])])))
def pc46 : PC := .seq (.rg [(none, .bx 1 (.t 0)),
 (none, .mv 2 (.c (.s []))),
 (none, .kp [1])])
 (.seq (.seq (.rg [(none, .ld 11 (some 4) (.t 1)),
 (none, .ca (some 12) 64 [.t 11]),
 (none, .un 13 .not (.t 12)),
 (none, .kp [1, 13])])
 (.ite (.t 13) (.seq (.rg [(none, .mv 2 (.c (.s []))),
 (none, .kp [2])])
 (.rt))
 (.sk)))
 (.seq (.rg [(none, .fa 15 2 (.t 1)),
 (none, .ld 16 none (.t 15)),
 (none, .ca (some 17) 98 [.t 16]),
 (none, .mv 14 (.t 17)),
 (none, .ex 18 (.t 14) 0),
 (none, .ex 19 (.t 14) 1),
 (none, .mv 3 (.t 18)),
 (none, .mv 4 (.t 19)),
 (none, .kp [1, 3])])
 (.seq (.rg [(none, .fa 20 0 (.t 1)),
 (none, .ld 21 none (.t 20)),
 (none, .fa 22 1 (.t 1)),
 (none, .ld 23 none (.t 22)),
 (none, .bs 24 1 2 [.n .i64 0] [(0, .t 21), (1, .t 23)]),
 (none, .ca (some 25) 99 [.t 24]),
 (none, .mv 26 (.t 3)),
 (none, .bi 27 .add (.t 25) (.t 26)),
 (none, .mv 5 (.t 27)),
 (none, .kp [1, 5])])
 (.seq (.rg [(none, .mv 6 (.c (.s []))),
 (none, .kp [1, 5, 6])])
 (.seq (.seq (.rg [(none, .fa 28 3 (.t 1)),
 (none, .ld 29 none (.t 28)),
 (none, .ln 30 (.t 29)),
 (none, .mv 31 (.c (.n .i64 0))),
 (none, .kp [5, 6, 29, 30, 31])])
 (.blk 0 (.lp pc46l0)))
 (.seq (.rg [(none, .mv 41 (.t 5)),
 (none, .bi 42 .add (.t 41) (.c (.s [0, 0, 0, 0]))),
 (none, .mv 43 (.t 6)),
 (none, .bi 44 .add (.t 42) (.t 43)),
 (none, .ca (some 45) 101 [.t 44]),
 (none, .ca (some 46) 98 [.t 45]),
 (none, .mv 40 (.t 46)),
 (none, .ex 47 (.t 40) 0),
 (none, .ex 48 (.t 40) 1),
 (none, .mv 9 (.t 47)),
 (none, .mv 10 (.t 48)),
 (none, .kp [5, 6, 9])])
 (.seq (.rg [(none, .mv 49 (.t 5)),
 (none, .mv 50 (.t 9)),
 (none, .bi 51 .add (.t 49) (.t 50)),
 (none, .mv 52 (.t 6)),
 (none, .bi 53 .add (.t 51) (.t 52)),
 (none, .mv 2 (.t 53)),
 (none, .kp [2])])
 (.rt))))))))
theorem mr46 : MrT Try.prog 46 pc46 [.t 2] 54 := fun hn h => spec_of_run (fn := Try.f46) (by kernel_rfl) rfl (by kernel_rfl) (by kernel_rfl) hn h
theorem mk46 : MkT Try.prog 46 pc46 [.t 2] 54 := mr46.k
theorem mw46 : MwT Try.prog 46 pc46 [.t 2] 54 := mr46.w
-- 47 impl.CaptureValid
def pc47l0 : PC := .seq (.rg [(none, .bi 12 .lss (.t 11) (.t 10)),
 (none, .kp [3, 9, 10, 11, 12])])
 (.seq (.ite (.t 12) (.sk)
 (.ex 0))
 (.seq (.blk 1 (.seq (.rg [(none, .ia 13 2 (.t 9) (.t 11)),
 (none, .ld 14 (some 2) (.t 13)),
 (none, .al 5 [.n .i64 0, .s []]),
 (none, .st 2 (.t 5) (.t 14)),
 (none, .kp [3, 5, 9, 10, 11])])
 (.seq (.seq (.rg [(none, .fa 15 0 (.t 5)),
 (none, .ld 16 none (.t 15)),
 (none, .mv 17 (.t 3)),
 (none, .bi 18 .lss (.t 16) (.t 17)),
 (none, .mv 19 (.t 18)),
 (some (19, false), .fa 20 0 (.t 5)),
 (some (19, false), .ld 21 none (.t 20)),
 (some (19, false), .bi 22 .gtr (.t 21) (.c (.n .i64 4294967295))),
 (none, .pk 23 (.t 19) (.c (.b true)) (.t 22)),
 (none, .mv 24 (.t 23)),
 (some (24, false), .fa 25 1 (.t 5)),
 (some (24, false), .ld 26 none (.t 25)),
 (some (24, false), .lS 27 (.t 26)),
 (some (24, false), .bi 28 .gtr (.t 27) (.c (.n .i64 120))),
 (none, .pk 29 (.t 24) (.c (.b true)) (.t 28)),
 (none, .kp [5, 9, 10, 11, 29])])
 (.ite (.t 29) (.seq (.rg [(none, .mv 2 (.c (.b false))),
 (none, .kp [2])])
 (.rt))
 (.sk)))
 (.rg [(none, .fa 30 0 (.t 5)),
 (none, .ld 31 none (.t 30)),
 (none, .mv 3 (.t 31)),
 (none, .kp [3, 9, 10, 11])]))))
 (.rg [(none, .bi 32 .add (.t 11) (.c (.n .i64 1))),
 (none, .mv 11 (.t 32)),
 (none, .kp [3, 9, 10, 11])])))
def pc47 : PC := .seq (.rg [(none, .mv 2 (.c (.b false))),
 (none, .kp [0])])
 (.seq (.seq (.rg [(none, .mv 6 (.t 0)),
 (none, .ln 7 (.t 6)),
 (none, .bi 8 .gtr (.t 7) (.c (.n .i64 60))),
 (none, .kp [0, 8])])
 (.ite (.t 8) (.seq (.rg [(none, .mv 2 (.c (.b false))),
 (none, .kp [2])])
 (.rt))
 (.sk)))
 (.seq (.rg [(none, .mv 3 (.c (.n .i64 0))),
 (none, .kp [0, 3])])
 (.seq (.seq (.rg [(none, .mv 9 (.t 0)),
 (none, .ln 10 (.t 9)),
 (none, .mv 11 (.c (.n .i64 0))),
 (none, .kp [3, 9, 10, 11])])
 (.blk 0 (.lp pc47l0)))
 (.seq (.rg [(none, .mv 2 (.c (.b true))),
 (none, .kp [2])])
 (.rt)))))
theorem mr47 : MrT Try.prog 47 pc47 [.t 2] 33 := fun hn h => spec_of_run (fn := Try.f47) (by kernel_rfl) rfl (by kernel_rfl) (by kernel_rfl) hn h
theorem mk47 : MkT Try.prog 47 pc47 [.t 2] 33 := mr47.k
theorem mw47 : MwT Try.prog 47 pc47 [.t 2] 33 := mr47.w
-- 48 spec.PacketPut
def pc48 : PC := .seq (.rg [(none, .bx 1 (.t 0)),
 (none, .mv 2 (.c (.s []))),
 (none, .kp [1])])
 (.seq (.seq (.rg [(none, .ld 3 (some 4) (.t 1)),
 (none, .ca (some 4) 58 [.t 3]),
 (none, .un 5 .not (.t 4)),
 (none, .kp [1, 5])])
 (.ite (.t 5) (.seq (.rg [(none, .mv 2 (.c (.s []))),
 (none, .kp [2])])
 (.rt))
 (.sk)))
 (.seq (.rg [(none, .ld 6 (some 4) (.t 1)),
 (none, .ca (some 7) 102 [.t 6]),
 (none, .mv 2 (.t 7)),
 (none, .kp [2])])
 (.rt)))
theorem mr48 : MrT Try.prog 48 pc48 [.t 2] 8 := fun hn h => spec_of_run (fn := Try.f48) (by kernel_rfl) rfl (by kernel_rfl) (by kernel_rfl) hn h
theorem mk48 : MkT Try.prog 48 pc48 [.t 2] 8 := mr48.k
theorem mw48 : MwT Try.prog 48 pc48 [.t 2] 8 := mr48.w
-- 49 spec.CaptureValid
def pc49l0 : PC := .seq (.seq (.rg [(none, .mv 5 (.t 4)),
 (none, .mv 6 (.t 0)),
 (none, .ln 7 (.t 6)),
 (none, .bi 8 .lss (.t 5) (.t 7)),
 (none, .kp [0, 3, 4, 8])])
 (.ite (.t 8) (.sk)
 (.ex 0)))
 (.seq (.blk 1 (.seq (.seq (.rg [(none, .mv 11 (.t 0)),
 (none, .mv 12 (.t 4)),
 (none, .ia 13 2 (.t 11) (.t 12)),
 (none, .ld 14 (some 2) (.t 13)),
 (none, .mv 15 (.t 3)),
 (none, .ca (some 16) 103 [.t 14, .t 15]),
 (none, .un 17 .not (.t 16)),
 (none, .kp [0, 4, 17])])
 (.ite (.t 17) (.seq (.rg [(none, .mv 2 (.c (.b false))),
 (none, .kp [2])])
 (.rt))
 (.sk)))
 (.rg [(none, .mv 18 (.t 0)),
 (none, .mv 19 (.t 4)),
 (none, .ia 20 2 (.t 18) (.t 19)),
 (none, .fa 21 0 (.t 20)),
 (none, .ld 22 none (.t 21)),
 (none, .mv 3 (.t 22)),
 (none, .kp [0, 3, 4])])))
 (.rg [(none, .mv 9 (.t 4)),
 (none, .bi 10 .add (.t 9) (.c (.n .i64 1))),
 (none, .mv 4 (.t 10)),
 (none, .kp [0, 3, 4])]))
def pc49 : PC := .seq (.rg [(none, .mv 2 (.c (.b false))),
 (none, .kp [0])])
 (.seq (.rg [(none, .mv 3 (.c (.n .i64 0))),
 (none, .kp [0, 3])])
 (.seq (.seq (.rg [(none, .mv 4 (.c (.n .i64 0))),
 (none, .kp [0, 3, 4])])
 (.blk 0 (.lp pc49l0)))
 (.seq (.rg [(none, .mv 23 (.t 0)),
 (none, .ln 24 (.t 23)),
 (none, .bi 25 .leq (.t 24) (.c (.n .i64 60))),
 (none, .mv 2 (.t 25)),
 (none, .kp [2])])
 (.rt))))
theorem mr49 : MrT Try.prog 49 pc49 [.t 2] 26 := fun hn h => spec_of_run (fn := Try.f49) (by kernel_rfl) rfl (by kernel_rfl) (by kernel_rfl) hn h
theorem mk49 : MkT Try.prog 49 pc49 [.t 2] 26 := mr49.k
theorem mw49 : MwT Try.prog 49 pc49 [.t 2] 26 := mr49.w
-- 50 impl.MonitorStep
def pc50l0 : PC := .seq (.rg [(none, .bi 40 .lss (.t 39) (.t 38)),
 (none, .kp [1, 2, 4, 5, 37, 38, 39, 40])])
 (.seq (.ite (.t 40) (.sk)
 (.ex 0))
 (.seq (.blk 1 (.seq (.rg [(none, .ia 41 14 (.t 37) (.t 39)),
 (none, .ld 42 (some 14) (.t 41)),
 (none, .al 7 [.n .i64 0, .n .i64 0, .n .i64 0, .b false, .n .i64 0, .n .i64 0, .n .i64 0, .nil, .n .i64 0, .n .i64 0, .n .i64 0, .n .i64 0, .nil, .n .i64 0]),
 (none, .st 14 (.t 7) (.t 42)),
 (none, .kp [1, 2, 4, 5, 7, 37, 38, 39])])
 (.dr [[], [0], [], [2], [2, 3], [0, 1, 2, 3, 4], [0, 1, 2, 3, 4, 5], [0, 1, 2, 3, 4, 5, 6]]
 (.q 0 (none, .fa 43 1 (.t 5))
 (.q 1 (none, .ld 44 none (.t 43))
 (.q 2 (none, .ld 45 (some 14) (.t 7))
 (.alt 3 (none, .ca (some 46) 66 [.t 45]) [true, true, false]
 (.alt 4 (none, .bs 47 14 1 [.n .i64 0, .n .i64 0, .n .i64 0, .b false, .n .i64 0, .n .i64 0, .n .i64 0, .nil, .n .i64 0, .n .i64 0, .n .i64 0, .n .i64 0, .nil, .n .i64 0] [(0, .t 46)]) [true, true, false]
 (.alt 5 (none, .ap 48 14 144 (.t 44) (.t 47)) [false, false, false]
 (.q 6 (none, .fa 49 1 (.t 5))
 (.alt 7 (none, .st 1 (.t 49) (.t 48)) [false, false, false, false]
 (.done)
 (.stop)))
 (.stop))
 (.stop))
 (.stop))))) [1, 2, 4, 5, 37, 38, 39])))
 (.rg [(none, .bi 50 .add (.t 39) (.c (.n .i64 1))),
 (none, .mv 39 (.t 50)),
 (none, .kp [1, 2, 4, 5, 37, 38, 39])])))
def pc50l1 : PC := .seq (.rg [(none, .bi 74 .lss (.t 73) (.t 72)),
 (none, .kp [2, 4, 5, 8, 10, 71, 72, 73, 74])])
 (.seq (.ite (.t 74) (.sk)
 (.ex 2))
 (.seq (.blk 3 (.seq (.rg [(none, .mv 75 (.t 73)),
 (none, .ia 76 14 (.t 71) (.t 73)),
 (none, .ld 77 (some 14) (.t 76)),
 (none, .al 12 [.n .i64 0, .n .i64 0, .n .i64 0, .b false, .n .i64 0, .n .i64 0, .n .i64 0, .nil, .n .i64 0, .n .i64 0, .n .i64 0, .n .i64 0, .nil, .n .i64 0]),
 (none, .mv 11 (.t 75)),
 (none, .st 14 (.t 12) (.t 77)),
 (none, .kp [2, 4, 5, 8, 10, 11, 12, 71, 72, 73])])
 (.seq (.rg [(none, .ld 78 (some 14) (.t 12)),
 (none, .fa 79 0 (.t 8)),
 (none, .ld 80 none (.t 79)),
 (none, .fa 81 1 (.t 8)),
 (none, .ld 82 none (.t 81)),
 (none, .ca (some 83) 106 [.t 78, .t 80, .t 82]),
 (none, .kp [2, 4, 5, 8, 10, 11, 71, 72, 73, 83])])
 (.ite (.t 83) (.rg [(none, .mv 84 (.t 11)),
 (none, .mv 10 (.t 84)),
 (none, .kp [2, 4, 5, 8, 10, 71, 72, 73])])
 (.sk)))))
 (.rg [(none, .bi 85 .add (.t 73) (.c (.n .i64 1))),
 (none, .mv 73 (.t 85)),
 (none, .kp [2, 4, 5, 8, 10, 71, 72, 73])])))
def pc50l2 : PC := .seq (.rg [(none, .bi 193 .lss (.t 192) (.t 191)),
 (none, .kp [2, 4, 5, 190, 191, 192, 193])])
 (.seq (.ite (.t 193) (.sk)
 (.ex 5))
 (.seq (.blk 6 (.seq (.rg [(none, .ia 194 1 (.t 190) (.t 192)),
 (none, .ld 195 none (.t 194)),
 (none, .mv 18 (.t 195)),
 (none, .kp [2, 4, 5, 18, 190, 191, 192])])
 (.rg [(none, .fa 196 2 (.t 5)),
 (none, .ld 197 none (.t 196)),
 (none, .fa 198 0 (.t 2)),
 (none, .ld 199 none (.t 198)),
 (none, .mv 200 (.t 18)),
 (none, .bd 201 [.n .i64 0, .n .i64 0] [(0, 1, .t 199), (1, 1, .t 200)]),
 (none, .bs 202 2 1 [.n .i64 0, .n .i64 0] [(0, .t 201)]),
 (none, .ap 203 2 16 (.t 197) (.t 202)),
 (none, .fa 204 2 (.t 5)),
 (none, .st 1 (.t 204) (.t 203)),
 (none, .kp [2, 4, 5, 190, 191, 192])])))
 (.rg [(none, .bi 205 .add (.t 192) (.c (.n .i64 1))),
 (none, .mv 192 (.t 205)),
 (none, .kp [2, 4, 5, 190, 191, 192])])))
def pc50 : PC := .seq (.rg [(none, .bx 2 (.t 0)),
 (none, .al 4 [.n .i64 0, .nil, .nil]),
 (none, .kp [1, 2, 4])])
 (.seq (.seq (.rg [(none, .ld 19 (some 3) (.t 2)),
 (none, .ca (some 20) 104 [.t 19]),
 (none, .un 21 .not (.t 20)),
 (none, .mv 22 (.t 21)),
 (some (22, false), .fa 23 0 (.t 2)),
 (some (22, false), .ld 24 none (.t 23)),
 (some (22, false), .bi 25 .geq (.t 24) (.c (.n .i64 60))),
 (none, .pk 26 (.t 22) (.c (.b true)) (.t 25)),
 (none, .kp [1, 2, 4, 26])])
 (.ite (.t 26) (.seq (.rg [(none, .bd 27 [.n .i64 0, .nil, .nil] []),
 (none, .st 3 (.t 4) (.t 27)),
 (none, .kp [4])])
 (.rt))
 (.sk)))
 (.seq (.dr [[], [0], [0, 1], [], [], [4], [3, 4, 5], [0, 1, 2, 3, 4, 5, 6], [], [0, 1, 2, 3, 4, 5, 6, 7, 8]]
 (.q 0 (none, .fa 28 0 (.t 2))
 (.q 1 (none, .ld 29 none (.t 28))
 (.q 2 (none, .bi 30 .add (.t 29) (.c (.n .i64 1)))
 (.q 4 (none, .fa 32 2 (.t 2))
 (.q 5 (none, .ld 33 none (.t 32))
 (.alt 3 (none, .bs 31 2 0 [.n .i64 0, .n .i64 0] []) [true, true, true, true, true]
 (.alt 6 (none, .ap 34 2 16 (.t 31) (.t 33)) [true, true, true, false, false]
 (.q 7 (none, .bd 35 [.n .i64 0, .nil, .nil] [(0, 1, .t 30), (2, 1, .t 34)])
 (.alt 8 (none, .al 5 [.n .i64 0, .nil, .nil]) [true, true, true, true, true, true]
 (.alt 9 (none, .st 3 (.t 5) (.t 35)) [false, false, false, false, false, false]
 (.done)
 (.stop))
 (.stop)))
 (.alt 8 (none, .al 5 [.n .i64 0, .nil, .nil]) [true, true, true, true, true]
 (.alt 6 (none, .ap 34 2 16 (.t 31) (.t 33)) [true, true, true, false, false]
 (.q 7 (none, .bd 35 [.n .i64 0, .nil, .nil] [(0, 1, .t 30), (2, 1, .t 34)])
 (.alt 9 (none, .st 3 (.t 5) (.t 35)) [false, false, false, false, false, false]
 (.done)
 (.stop)))
 (.stop))
 (.stop)))
 (.alt 8 (none, .al 5 [.n .i64 0, .nil, .nil]) [true, true, true, true, true]
 (.alt 3 (none, .bs 31 2 0 [.n .i64 0, .n .i64 0] []) [true, true, true, true, true]
 (.alt 6 (none, .ap 34 2 16 (.t 31) (.t 33)) [true, true, true, false, false]
 (.q 7 (none, .bd 35 [.n .i64 0, .nil, .nil] [(0, 1, .t 30), (2, 1, .t 34)])
 (.alt 9 (none, .st 3 (.t 5) (.t 35)) [false, false, false, false, false, false]
 (.done)
 (.stop)))
 (.stop))
 (.stop))
 (.stop)))))))) [1, 2, 4, 5])
 (.seq (.seq (.rg [(none, .fa 36 1 (.t 2)),
 (none, .ld 37 none (.t 36)),
 (none, .ln 38 (.t 37)),
 (none, .mv 39 (.c (.n .i64 0))),
 (none, .kp [1, 2, 4, 5, 37, 38, 39])])
 (.blk 0 (.lp pc50l0)))
 (.seq (.rg [(none, .mv 52 (.t 1)),
 (none, .ca (some 53) 105 [.t 52]),
 (none, .mv 51 (.t 53)),
 (none, .ex 54 (.t 51) 0),
 (none, .ex 55 (.t 51) 1),
 (none, .al 8 [.n .i64 0, .n .i64 0, .n .i64 0, .nil]),
 (none, .st 4 (.t 8) (.t 54)),
 (none, .mv 9 (.t 55)),
 (none, .kp [2, 4, 5, 8, 9])])
 (.seq (.seq (.rg [(none, .mv 56 (.t 9)),
 (none, .bi 57 .neq (.t 56) (.c (.n .i64 0))),
 (none, .kp [2, 4, 5, 8, 9, 57])])
 (.ite (.t 57) (.seq (.rg [(none, .fa 58 2 (.t 5)),
 (none, .ld 59 none (.t 58)),
 (none, .fa 60 0 (.t 2)),
 (none, .ld 61 none (.t 60)),
 (none, .mv 62 (.t 9)),
 (none, .bi 63 .add (.c (.n .i64 101)) (.t 62)),
 (none, .bi 64 .sub (.t 63) (.c (.n .i64 1))),
 (none, .bd 65 [.n .i64 0, .n .i64 0] [(0, 1, .t 61), (1, 1, .t 64)]),
 (none, .bs 66 2 1 [.n .i64 0, .n .i64 0] [(0, .t 65)]),
 (none, .ap 67 2 16 (.t 59) (.t 66)),
 (none, .fa 68 2 (.t 5)),
 (none, .st 1 (.t 68) (.t 67)),
 (none, .kp [4, 5])])
 (.seq (.rg [(none, .ld 69 (some 3) (.t 5)),
 (none, .st 3 (.t 4) (.t 69)),
 (none, .kp [4])])
 (.rt)))
 (.sk)))
 (.seq (.rg [(none, .mv 10 (.c (.n .i64 (-1)))),
 (none, .kp [2, 4, 5, 8, 10])])
 (.seq (.seq (.rg [(none, .fa 70 1 (.t 5)),
 (none, .ld 71 none (.t 70)),
 (none, .ln 72 (.t 71)),
 (none, .mv 73 (.c (.n .i64 0))),
 (none, .kp [2, 4, 5, 8, 10, 71, 72, 73])])
 (.blk 2 (.lp pc50l1)))
 (.seq (.seq (.rg [(none, .mv 86 (.t 10)),
 (none, .bi 87 .geq (.t 86) (.c (.n .i64 0))),
 (none, .mv 88 (.t 87)),
 (some (88, true), .fa 89 1 (.t 5)),
 (some (88, true), .ld 90 none (.t 89)),
 (some (88, true), .mv 91 (.t 10)),
 (some (88, true), .ia 92 14 (.t 90) (.t 91)),
 (some (88, true), .fa 93 2 (.t 92)),
 (some (88, true), .ld 94 none (.t 93)),
 (some (88, true), .bi 95 .eql (.t 94) (.c (.n .i64 7))),
 (none, .pk 96 (.t 88) (.t 95) (.c (.b false))),
 (none, .mv 97 (.t 96)),
 (some (97, true), .fa 98 2 (.t 8)),
 (some (97, true), .ld 99 none (.t 98)),
 (some (97, true), .bi 100 .eql (.t 99) (.c (.n .i64 0))),
 (none, .pk 101 (.t 97) (.t 100) (.c (.b false))),
 (none, .mv 102 (.t 101)),
 (some (102, true), .fa 103 3 (.t 8)),
 (some (102, true), .ld 104 none (.t 103)),
 (some (102, true), .ln 105 (.t 104)),
 (some (102, true), .bi 106 .eql (.t 105) (.c (.n .i64 1))),
 (none, .pk 107 (.t 102) (.t 106) (.c (.b false))),
 (none, .mv 108 (.t 107)),
 (some (108, true), .fa 109 3 (.t 8)),
 (some (108, true), .ld 110 none (.t 109)),
 (some (108, true), .ia 111 3 (.t 110) (.c (.n .i64 0))),
 (some (108, true), .fa 112 0 (.t 111)),
 (some (108, true), .ld 113 none (.t 112)),
 (some (108, true), .bi 114 .eql (.t 113) (.c (.n .i64 1))),
 (none, .pk 115 (.t 108) (.t 114) (.c (.b false))),
 (none, .kp [2, 4, 5, 8, 10, 115])])
 (.ite (.t 115) (.seq (.rg [(none, .fa 117 3 (.t 8)),
 (none, .ld 118 none (.t 117)),
 (none, .ia 119 3 (.t 118) (.c (.n .i64 0))),
 (none, .ld 120 (some 3) (.t 119)),
 (none, .ca (some 121) 107 [.t 120]),
 (none, .mv 116 (.t 121)),
 (none, .ex 122 (.t 116) 0),
 (none, .ex 123 (.t 116) 1),
 (none, .al 13 [.n .i64 0, .n .i64 0, .n .i64 0, .n .i64 0]),
 (none, .st 4 (.t 13) (.t 122)),
 (none, .mv 14 (.t 123)),
 (none, .kp [2, 4, 5, 8, 10, 14])])
 (.seq (.rg [(none, .mv 124 (.t 14)),
 (none, .kp [2, 4, 5, 8, 10, 124])])
 (.ite (.t 124) (.seq (.dr [[], [0], [], [0, 1, 2], [], [4], [], [6], [4, 5, 6, 7], [0, 1, 2, 3, 4, 5, 6, 7, 8], [0, 1, 2, 3, 4, 5, 6, 7, 8, 9], [0, 1, 2, 3, 4, 5, 6, 7, 8, 9, 10]]
 (.q 0 (none, .fa 125 1 (.t 5))
 (.q 1 (none, .ld 126 none (.t 125))
 (.q 2 (none, .mv 127 (.t 10))
 (.q 3 (none, .sc 128 14 (.t 126) none (some (.t 127)))
 (.q 4 (none, .fa 129 1 (.t 5))
 (.q 5 (none, .ld 130 none (.t 129))
 (.q 6 (none, .mv 131 (.t 10))
 (.q 7 (none, .bi 132 .add (.t 131) (.c (.n .i64 1)))
 (.q 8 (none, .sc 133 14 (.t 130) (some (.t 132)) none)
 (.alt 9 (none, .ap 134 14 144 (.t 128) (.t 133)) [false, false, false, false, false, false, false, false, false]
 (.q 10 (none, .fa 135 1 (.t 5))
 (.alt 11 (none, .st 1 (.t 135) (.t 134)) [false, false, false, false, false, false, false, false, false, false]
 (.done)
 (.stop)))
 (.stop))))))))))) [2, 4, 5, 8])
 (.rg [(none, .mv 10 (.c (.n .i64 (-1)))),
 (none, .kp [2, 4, 5, 8, 10])]))
 (.sk))))
 (.sk)))
 (.seq (.rg [(none, .bs 136 1 0 [.n .i64 0] []),
 (none, .mv 15 (.t 136)),
 (none, .kp [2, 4, 5, 8, 10, 15])])
 (.seq (.blk 4 (.seq (.rg [(none, .mv 164 (.t 10)),
 (none, .bi 165 .geq (.t 164) (.c (.n .i64 0))),
 (none, .mv 163 (.t 165)),
 (none, .kp [2, 4, 5, 8, 10, 15, 163])])
 (.ite (.t 163) (.dr [[], [0], [], [], [3], [], [3, 4, 5], [3, 4, 5, 6], [], [3, 4, 5, 6, 7, 8], [3, 4, 5, 6, 7, 8, 9], [3, 4, 5, 6, 7, 8, 9, 10], [3, 4, 5, 6, 7, 8, 9, 10], [0, 1, 2, 3, 4, 5, 6, 7, 8, 9, 10, 11], [0, 1, 2, 3, 4, 5, 6, 7, 8, 9, 10, 11, 13], [0, 1, 2, 3, 4, 5, 6, 7, 8, 9, 10, 11, 12, 13, 14]]
 (.q 0 (none, .fa 167 1 (.t 5))
 (.q 1 (none, .ld 168 none (.t 167))
 (.q 2 (none, .mv 169 (.t 10))
 (.q 3 (none, .fa 170 1 (.t 5))
 (.q 4 (none, .ld 171 none (.t 170))
 (.q 5 (none, .mv 172 (.t 10))
 (.q 6 (none, .ia 173 14 (.t 171) (.t 172))
 (.q 7 (none, .ld 174 (some 14) (.t 173))
 (.q 8 (none, .ld 175 (some 4) (.t 8))
 (.alt 9 (none, .ca (some 176) 25 [.t 174, .t 175]) [true, true, true, false, false, false, false, false, false]
 (.q 10 (none, .mv 166 (.t 176))
 (.q 11 (none, .ex 177 (.t 166) 0)
 (.q 12 (none, .ex 178 (.t 166) 1)
 (.q 13 (none, .ia 179 14 (.t 168) (.t 169))
 (.alt 14 (none, .st 14 (.t 179) (.t 177)) [false, false, false, false, false, false, false, false, false, false, false, true, false]
 (.q 15 (none, .mv 15 (.t 178))
 (.done))
 (.stop))))))
 (.stop))))))))))) [2, 4, 5, 15])
 (.seq (.rg [(none, .fa 181 3 (.t 8)),
 (none, .ld 182 none (.t 181)),
 (none, .ia 183 3 (.t 182) (.c (.n .i64 0))),
 (none, .fa 184 0 (.t 183)),
 (none, .ld 185 none (.t 184)),
 (none, .bi 186 .neq (.t 185) (.c (.n .i64 1))),
 (none, .mv 180 (.t 186)),
 (none, .kp [2, 4, 5, 8, 15, 180])])
 (.ite (.t 180) (.rg [(none, .mv 187 (.t 15)),
 (none, .bs 188 1 1 [.n .i64 0] [(0, .c (.n .i64 104))]),
 (none, .ap 189 1 8 (.t 187) (.t 188)),
 (none, .mv 15 (.t 189)),
 (none, .kp [2, 4, 5, 15])])
 (.seq (.rg [(none, .al 16 [.n .i64 0, .n .i64 0, .n .i64 0, .b false, .n .i64 0, .n .i64 0, .n .i64 0, .nil, .n .i64 0, .n .i64 0, .n .i64 0, .n .i64 0, .nil, .n .i64 0]),
 (none, .kp [2, 4, 5, 8, 16])])
 (.seq (.rg [(none, .fa 138 0 (.t 8)),
 (none, .ld 139 none (.t 138)),
 (none, .fa 140 1 (.t 8)),
 (none, .ld 141 none (.t 140)),
 (none, .bd 142 [.n .i64 0, .n .i64 0, .n .i64 0, .b false, .n .i64 0, .n .i64 0, .n .i64 0, .nil, .n .i64 0, .n .i64 0, .n .i64 0, .n .i64 0, .nil, .n .i64 0] [(0, 1, .t 139), (1, 1, .t 141), (2, 1, .c (.n .i64 0))]),
 (none, .ld 143 (some 4) (.t 8)),
 (none, .ca (some 144) 25 [.t 142, .t 143]),
 (none, .mv 137 (.t 144)),
 (none, .ex 145 (.t 137) 0),
 (none, .ex 146 (.t 137) 1),
 (none, .st 14 (.t 16) (.t 145)),
 (none, .mv 15 (.t 146)),
 (none, .kp [2, 4, 5, 15, 16])])
 (.seq (.rg [(none, .mv 147 (.t 15)),
 (none, .ln 148 (.t 147)),
 (none, .bi 149 .eql (.t 148) (.c (.n .i64 0))),
 (none, .kp [2, 4, 5, 15, 16, 149])])
 (.ite (.t 149) (.seq (.rg [(none, .fa 150 1 (.t 5)),
 (none, .ld 151 none (.t 150)),
 (none, .ln 152 (.t 151)),
 (none, .bi 153 .geq (.t 152) (.c (.n .i64 3))),
 (none, .kp [2, 4, 5, 15, 16, 153])])
 (.ite (.t 153) (.rg [(none, .mv 154 (.t 15)),
 (none, .bs 155 1 1 [.n .i64 0] [(0, .c (.n .i64 105))]),
 (none, .ap 156 1 8 (.t 154) (.t 155)),
 (none, .mv 15 (.t 156)),
 (none, .kp [2, 4, 5, 15])])
 (.rg [(none, .fa 157 1 (.t 5)),
 (none, .ld 158 none (.t 157)),
 (none, .ld 159 (some 14) (.t 16)),
 (none, .bs 160 14 1 [.n .i64 0, .n .i64 0, .n .i64 0, .b false, .n .i64 0, .n .i64 0, .n .i64 0, .nil, .n .i64 0, .n .i64 0, .n .i64 0, .n .i64 0, .nil, .n .i64 0] [(0, .t 159)]),
 (none, .ap 161 14 144 (.t 158) (.t 160)),
 (none, .fa 162 1 (.t 5)),
 (none, .st 1 (.t 162) (.t 161)),
 (none, .kp [2, 4, 5, 15])])))
 (.sk))))))))))
 (.seq (.seq (.rg [(none, .mv 190 (.t 15)),
 (none, .ln 191 (.t 190)),
 (none, .mv 192 (.c (.n .i64 0))),
 (none, .kp [2, 4, 5, 190, 191, 192])])
 (.blk 5 (.lp pc50l2)))
 (.seq (.rg [(none, .ld 206 (some 3) (.t 5)),
 (none, .st 3 (.t 4) (.t 206)),
 (none, .kp [4])])
 (.rt)))))))))))))
theorem mr50 : MrT Try.prog 50 pc50 [.c 4 (some 3)] 207 := fun hn h => spec_of_run (fn := Try.f50) (by kernel_rfl) rfl (by kernel_rfl) (by kernel_rfl) hn h
theorem mk50 : MkT Try.prog 50 pc50 [.c 4 (some 3)] 207 := mr50.k
theorem mw50 : MwT Try.prog 50 pc50 [.c 4 (some 3)] 207 := mr50.w
-- 51 impl.TalkValid
def pc51l0 : PC := .seq (.rg [(none, .bi 66 .lss (.t 65) (.t 64)),
 (none, .kp [1, 3, 63, 64, 65, 66])])
 (.seq (.ite (.t 66) (.sk)
 (.ex 0))
 (.seq (.blk 1 (.seq (.rg [(none, .ia 67 4 (.t 63) (.t 65)),
 (none, .ld 68 (some 4) (.t 67)),
 (none, .al 5 [.b false, .n .i64 0, .b false, .s []]),
 (none, .st 4 (.t 5) (.t 68)),
 (none, .kp [1, 3, 5, 63, 64, 65])])
 (.seq (.dr [[], [0], [0, 1], [], [0, 1, 2, 3]]
 (.q 0 (none, .fa 69 2 (.t 1))
 (.q 1 (none, .fa 70 2 (.t 69))
 (.q 2 (none, .ld 71 none (.t 70))
 (.q 3 (none, .mv 6 (.c (.n .i64 0)))
 (.q 4 (none, .mv 7 (.t 71))
 (.done)))))) [1, 3, 5, 6, 7, 63, 64, 65])
 (.seq (.seq (.rg [(none, .fa 72 0 (.t 5)),
 (none, .ld 73 none (.t 72)),
 (none, .kp [1, 3, 5, 6, 7, 63, 64, 65, 73])])
 (.ite (.t 73) (.dr [[], [0], [0, 1], [], [0, 1, 2, 3]]
 (.q 0 (none, .fa 74 6 (.t 1))
 (.q 1 (none, .fa 75 2 (.t 74))
 (.q 2 (none, .ld 76 none (.t 75))
 (.q 3 (none, .mv 6 (.c (.n .i64 1)))
 (.q 4 (none, .mv 7 (.t 76))
 (.done)))))) [1, 3, 5, 6, 7, 63, 64, 65])
 (.sk)))
 (.seq (.seq (.rg [(none, .fa 77 3 (.t 5)),
 (none, .ld 78 none (.t 77)),
 (none, .lS 79 (.t 78)),
 (none, .bi 80 .lss (.t 79) (.c (.n .i64 1))),
 (none, .mv 81 (.t 80)),
 (some (81, false), .fa 82 3 (.t 5)),
 (some (81, false), .ld 83 none (.t 82)),
 (some (81, false), .lS 84 (.t 83)),
 (some (81, false), .bi 85 .gtr (.t 84) (.c (.n .i64 60))),
 (none, .pk 86 (.t 81) (.c (.b true)) (.t 85)),
 (none, .mv 87 (.t 86)),
 (some (87, false), .fa 88 1 (.t 5)),
 (some (87, false), .ld 89 none (.t 88)),
 (some (87, false), .bi 90 .lss (.t 89) (.c (.n .i64 0))),
 (none, .pk 91 (.t 87) (.c (.b true)) (.t 90)),
 (none, .mv 92 (.t 91)),
 (some (92, false), .fa 93 1 (.t 5)),
 (some (92, false), .ld 94 none (.t 93)),
 (some (92, false), .mv 95 (.t 7)),
 (some (92, false), .bi 96 .geq (.t 94) (.t 95)),
 (none, .pk 97 (.t 92) (.c (.b true)) (.t 96)),
 (none, .kp [1, 3, 5, 6, 63, 64, 65, 97])])
 (.ite (.t 97) (.seq (.rg [(none, .mv 2 (.c (.b false))),
 (none, .kp [2])])
 (.rt))
 (.sk)))
 (.dr [[], [0], [0, 1], [], [3], [3, 4], [], [6], [3, 4, 5, 6, 7], [3, 4, 5, 6, 7, 8], [], [10], [3, 4, 5, 6, 7, 8, 9, 10, 11], [0, 1, 2, 3, 4, 5, 6, 7, 8, 9, 10, 11, 12], [0, 1, 2, 3, 4, 5, 6, 7, 8, 9, 10, 11, 12, 13], [0, 1, 2, 3, 4, 5, 6, 7, 8, 9, 10, 11, 12, 13, 14]]
 (.q 0 (none, .mv 98 (.t 6))
 (.q 1 (none, .iA 99 2 1 (.t 3) (.t 98))
 (.q 2 (none, .ld 100 none (.t 99))
 (.q 3 (none, .fa 101 3 (.t 5))
 (.q 4 (none, .ld 102 none (.t 101))
 (.q 5 (none, .lS 103 (.t 102))
 (.q 6 (none, .fa 104 10 (.t 1))
 (.q 7 (none, .ld 105 none (.t 104))
 (.q 8 (none, .bi 106 .add (.t 103) (.t 105))
 (.q 9 (none, .bi 107 .sub (.t 106) (.c (.n .i64 1)))
 (.q 10 (none, .fa 108 10 (.t 1))
 (.q 11 (none, .ld 109 none (.t 108))
 (.q 12 (none, .bi 110 .quo (.t 107) (.t 109))
 (.q 13 (none, .bi 111 .add (.t 100) (.t 110))
 (.q 14 (none, .iA 112 2 1 (.t 3) (.t 98))
 (.alt 15 (none, .st 1 (.t 112) (.t 111)) [false, false, false, false, false, false, false, false, false, false, false, false, false, false, false]
 (.done)
 (.stop))))))))))))))))) [1, 3, 63, 64, 65]))))))
 (.rg [(none, .bi 113 .add (.t 65) (.c (.n .i64 1))),
 (none, .mv 65 (.t 113)),
 (none, .kp [1, 3, 63, 64, 65])])))
def pc51 : PC := .seq (.rg [(none, .bx 1 (.t 0)),
 (none, .mv 2 (.c (.b false))),
 (none, .kp [1])])
 (.seq (.seq (.rg [(none, .fa 8 0 (.t 1)),
 (none, .ld 9 none (.t 8)),
 (none, .bi 10 .lss (.t 9) (.c (.n .i64 1))),
 (none, .mv 11 (.t 10)),
 (some (11, false), .fa 12 0 (.t 1)),
 (some (11, false), .ld 13 none (.t 12)),
 (some (11, false), .bi 14 .gtr (.t 13) (.c (.n .i64 65535))),
 (none, .pk 15 (.t 11) (.c (.b true)) (.t 14)),
 (none, .mv 16 (.t 15)),
 (some (16, false), .fa 17 1 (.t 1)),
 (some (16, false), .ld 18 none (.t 17)),
 (some (16, false), .bi 19 .lss (.t 18) (.c (.n .i64 1))),
 (none, .pk 20 (.t 16) (.c (.b true)) (.t 19)),
 (none, .mv 21 (.t 20)),
 (some (21, false), .fa 22 1 (.t 1)),
 (some (21, false), .ld 23 none (.t 22)),
 (some (21, false), .bi 24 .gtr (.t 23) (.c (.n .i64 65535))),
 (none, .pk 25 (.t 21) (.c (.b true)) (.t 24)),
 (none, .mv 26 (.t 25)),
 (some (26, false), .fa 27 0 (.t 1)),
 (some (26, false), .ld 28 none (.t 27)),
 (some (26, false), .fa 29 1 (.t 1)),
 (some (26, false), .ld 30 none (.t 29)),
 (some (26, false), .bi 31 .eql (.t 28) (.t 30)),
 (none, .pk 32 (.t 26) (.c (.b true)) (.t 31)),
 (none, .mv 33 (.t 32)),
 (some (33, false), .fa 34 2 (.t 1)),
 (some (33, false), .ld 35 (some 4) (.t 34)),
 (some (33, false), .ca (some 36) 108 [.t 35]),
 (some (33, false), .un 37 .not (.t 36)),
 (none, .pk 38 (.t 33) (.c (.b true)) (.t 37)),
 (none, .mv 39 (.t 38)),
 (some (39, false), .fa 40 6 (.t 1)),
 (some (39, false), .ld 41 (some 4) (.t 40)),
 (some (39, false), .ca (some 42) 108 [.t 41]),
 (some (39, false), .un 43 .not (.t 42)),
 (none, .pk 44 (.t 39) (.c (.b true)) (.t 43)),
 (none, .mv 45 (.t 44)),
 (some (45, false), .fa 46 10 (.t 1)),
 (some (45, false), .ld 47 none (.t 46)),
 (some (45, false), .bi 48 .lss (.t 47) (.c (.n .i64 1))),
 (none, .pk 49 (.t 45) (.c (.b true)) (.t 48)),
 (none, .mv 50 (.t 49)),
 (some (50, false), .fa 51 10 (.t 1)),
 (some (50, false), .ld 52 none (.t 51)),
 (some (50, false), .bi 53 .gtr (.t 52) (.c (.n .i64 20))),
 (none, .pk 54 (.t 50) (.c (.b true)) (.t 53)),
 (none, .mv 55 (.t 54)),
 (some (55, false), .fa 56 11 (.t 1)),
 (some (55, false), .ld 57 none (.t 56)),
 (some (55, false), .ln 58 (.t 57)),
 (some (55, false), .bi 59 .gtr (.t 58) (.c (.n .i64 4))),
 (none, .pk 60 (.t 55) (.c (.b true)) (.t 59)),
 (none, .kp [1, 60])])
 (.ite (.t 60) (.seq (.rg [(none, .mv 2 (.c (.b false))),
 (none, .kp [2])])
 (.rt))
 (.sk)))
 (.seq (.rg [(none, .bd 61 [.n .i64 0, .n .i64 0] []),
 (none, .al 3 [.n .i64 0, .n .i64 0]),
 (none, .st 2 (.t 3) (.t 61)),
 (none, .kp [1, 3])])
 (.seq (.seq (.rg [(none, .fa 62 11 (.t 1)),
 (none, .ld 63 none (.t 62)),
 (none, .ln 64 (.t 63)),
 (none, .mv 65 (.c (.n .i64 0))),
 (none, .kp [1, 3, 63, 64, 65])])
 (.blk 0 (.lp pc51l0)))
 (.seq (.rg [(none, .iA 114 2 1 (.t 3) (.c (.n .i64 0))),
 (none, .ld 115 none (.t 114)),
 (none, .bi 116 .leq (.t 115) (.c (.n .i64 12))),
 (none, .mv 117 (.t 116)),
 (some (117, true), .iA 118 2 1 (.t 3) (.c (.n .i64 1))),
 (some (117, true), .ld 119 none (.t 118)),
 (some (117, true), .bi 120 .leq (.t 119) (.c (.n .i64 12))),
 (none, .pk 121 (.t 117) (.t 120) (.c (.b false))),
 (none, .mv 2 (.t 121)),
 (none, .kp [2])])
 (.rt)))))
theorem mr51 : MrT Try.prog 51 pc51 [.t 2] 122 := fun hn h => spec_of_run (fn := Try.f51) (by kernel_rfl) rfl (by kernel_rfl) (by kernel_rfl) hn h
theorem mk51 : MkT Try.prog 51 pc51 [.t 2] 122 := mr51.k
theorem mw51 : MwT Try.prog 51 pc51 [.t 2] 122 := mr51.w
-- 52 impl.SideValid
def pc52l0 : PC := .seq (.rg [(none, .bi 74 .lss (.t 73) (.t 72)),
 (none, .kp [1, 71, 72, 73, 74])])
 (.seq (.ite (.t 74) (.sk)
 (.ex 0))
 (.seq (.blk 1 (.seq (.rg [(none, .mv 75 (.t 73)),
 (none, .ia 76 7 (.t 71) (.t 73)),
 (none, .ld 77 (some 7) (.t 76)),
 (none, .al 4 [.n .i64 0, .n .i64 0, .n .i64 0, .b false, .b false, .b false, .s []]),
 (none, .mv 3 (.t 75)),
 (none, .st 7 (.t 4) (.t 77)),
 (none, .kp [1, 3, 4, 71, 72, 73])])
 (.seq (.dr [[], [0], [0, 1], [0, 1, 2], [0, 1, 2, 3], [0, 1, 2, 3, 4], [0, 1, 2, 3], [0, 1, 2, 3, 6], [0, 1, 2, 3], [0, 1, 2, 3, 6, 7, 8], [0, 1, 2, 3, 4, 5, 6, 7, 8, 9], [0, 1, 2, 3, 4, 5, 6, 7, 8, 9, 10], [0, 1, 2, 3, 4, 5, 6, 7, 8, 9, 10, 11], [0, 1, 2, 3, 4, 5, 6, 7, 8, 9, 10, 11, 12], [0, 1, 2, 3, 4, 5, 6, 7, 8, 9, 10, 11, 12, 13], [0, 1, 2, 3, 4, 5, 6, 7, 8, 9, 10, 11, 12], [0, 1, 2, 3, 4, 5, 6, 7, 8, 9, 10, 11, 12, 15], [0, 1, 2, 3, 4, 5, 6, 7, 8, 9, 10, 11, 12, 13, 14, 15, 16], [0, 1, 2, 3, 4, 5, 6, 7, 8, 9, 10, 11, 12, 13, 14, 15, 16, 17], [0, 1, 2, 3, 4, 5, 6, 7, 8, 9, 10, 11, 12, 13, 14, 15, 16, 17, 18], [0, 1, 2, 3, 4, 5, 6, 7, 8, 9, 10, 11, 12, 13, 14, 15, 16, 17, 18, 19], [0, 1, 2, 3, 4, 5, 6, 7, 8, 9, 10, 11, 12, 13, 14, 15, 16, 17, 18, 19, 20], [0, 1, 2, 3, 4, 5, 6, 7, 8, 9, 10, 11, 12, 13, 14, 15, 16, 17, 18, 19], [0, 1, 2, 3, 4, 5, 6, 7, 8, 9, 10, 11, 12, 13, 14, 15, 16, 17, 18, 19, 20, 21, 22], [0, 1, 2, 3, 4, 5, 6, 7, 8, 9, 10, 11, 12, 13, 14, 15, 16, 17, 18, 19], [0, 1, 2, 3, 4, 5, 6, 7, 8, 9, 10, 11, 12, 13, 14, 15, 16, 17, 18, 19, 20, 21, 22, 23, 24], [0, 1, 2, 3, 4, 5, 6, 7, 8, 9, 10, 11, 12, 13, 14, 15, 16, 17, 18, 19, 20, 21, 22, 23, 24, 25], [0, 1, 2, 3, 4, 5, 6, 7, 8, 9, 10, 11, 12, 13, 14, 15, 16, 17, 18, 19, 20, 21, 22, 23, 24, 25, 26]]
 (.q 0 (none, .ld 78 (some 7) (.t 4))
 (.alt 1 (none, .ca (some 79) 110 [.t 78]) [false]
 (.q 2 (none, .un 80 .not (.t 79))
 (.q 3 (none, .mv 81 (.t 80))
 (.q 4 (some (81, false), .fa 82 0 (.t 4))
 (.q 5 (some (81, false), .ld 83 none (.t 82))
 (.q 6 (some (81, false), .fa 84 2 (.t 1))
 (.q 7 (some (81, false), .ld 85 none (.t 84))
 (.q 8 (some (81, false), .mv 86 (.t 3))
 (.alt 9 (some (81, false), .ca (some 87) 111 [.t 85, .t 86]) [false, false, false, true, true, false, false, false]
 (.q 10 (some (81, false), .bi 88 .neq (.t 83) (.t 87))
 (.q 11 (none, .pk 89 (.t 81) (.c (.b true)) (.t 88))
 (.q 12 (none, .mv 90 (.t 89))
 (.q 13 (some (90, false), .fa 91 1 (.t 4))
 (.q 14 (some (90, false), .ld 92 none (.t 91))
 (.q 15 (some (90, false), .fa 93 1 (.t 1))
 (.q 16 (some (90, false), .ld 94 none (.t 93))
 (.q 17 (some (90, false), .bi 95 .geq (.t 92) (.t 94))
 (.q 18 (none, .pk 96 (.t 90) (.c (.b true)) (.t 95))
 (.q 19 (none, .mv 97 (.t 96))
 (.q 20 (some (97, false), .fa 98 3 (.t 1))
 (.q 21 (some (97, false), .ld 99 none (.t 98))
 (.q 22 (some (97, false), .mv 100 (.t 3))
 (.q 23 (some (97, false), .sc 101 7 (.t 99) none (some (.t 100)))
 (.q 24 (some (97, false), .ld 102 (some 7) (.t 4))
 (.alt 25 (some (97, false), .ca (some 103) 112 [.t 101, .t 102]) [false, false, false, false, false, false, false, false, false, false, false, false, false, false, false, false, false, false, false, false, false, false, false]
 (.q 26 (some (97, false), .un 104 .not (.t 103))
 (.q 27 (none, .pk 105 (.t 97) (.c (.b true)) (.t 104))
 (.done)))
 (.stop)))))))))))))))))
 (.stop)))))))))
 (.stop))) [1, 71, 72, 73, 105])
 (.ite (.t 105) (.seq (.rg [(none, .mv 2 (.c (.b false))),
 (none, .kp [2])])
 (.rt))
 (.sk)))))
 (.rg [(none, .bi 106 .add (.t 73) (.c (.n .i64 1))),
 (none, .mv 73 (.t 106)),
 (none, .kp [1, 71, 72, 73])])))
def pc52 : PC := .seq (.rg [(none, .bx 1 (.t 0)),
 (none, .mv 2 (.c (.b false))),
 (none, .kp [1])])
 (.seq (.seq (.rg [(none, .fa 5 0 (.t 1)),
 (none, .ld 6 none (.t 5)),
 (none, .bi 7 .eql (.t 6) (.c (.n .i64 0))),
 (none, .kp [1, 7])])
 (.ite (.t 7) (.seq (.rg [(none, .fa 8 1 (.t 1)),
 (none, .ld 9 none (.t 8)),
 (none, .bi 10 .eql (.t 9) (.c (.n .i64 0))),
 (none, .mv 11 (.t 10)),
 (some (11, true), .fa 12 2 (.t 1)),
 (some (11, true), .ld 13 none (.t 12)),
 (some (11, true), .bi 14 .eql (.t 13) (.c (.n .i64 0))),
 (none, .pk 15 (.t 11) (.t 14) (.c (.b false))),
 (none, .mv 16 (.t 15)),
 (some (16, true), .fa 17 3 (.t 1)),
 (some (16, true), .ld 18 none (.t 17)),
 (some (16, true), .ln 19 (.t 18)),
 (some (16, true), .bi 20 .eql (.t 19) (.c (.n .i64 0))),
 (none, .pk 21 (.t 16) (.t 20) (.c (.b false))),
 (none, .mv 22 (.t 21)),
 (some (22, true), .fa 23 4 (.t 1)),
 (some (22, true), .ld 24 none (.t 23)),
 (some (22, true), .bi 25 .eql (.t 24) (.c (.n .i64 0))),
 (none, .pk 26 (.t 22) (.t 25) (.c (.b false))),
 (none, .mv 2 (.t 26)),
 (none, .kp [2])])
 (.rt))
 (.sk)))
 (.seq (.seq (.rg [(none, .fa 27 0 (.t 1)),
 (none, .ld 28 none (.t 27)),
 (none, .bi 29 .lss (.t 28) (.c (.n .i64 1))),
 (none, .mv 30 (.t 29)),
 (some (30, false), .fa 31 0 (.t 1)),
 (some (30, false), .ld 32 none (.t 31)),
 (some (30, false), .bi 33 .gtr (.t 32) (.c (.n .i64 4294967295))),
 (none, .pk 34 (.t 30) (.c (.b true)) (.t 33)),
 (none, .mv 35 (.t 34)),
 (some (35, false), .fa 36 1 (.t 1)),
 (some (35, false), .ld 37 none (.t 36)),
 (some (35, false), .bi 38 .lss (.t 37) (.c (.n .i64 1))),
 (none, .pk 39 (.t 35) (.c (.b true)) (.t 38)),
 (none, .mv 40 (.t 39)),
 (some (40, false), .fa 41 1 (.t 1)),
 (some (40, false), .ld 42 none (.t 41)),
 (some (40, false), .bi 43 .gtr (.t 42) (.c (.n .i64 4))),
 (none, .pk 44 (.t 40) (.c (.b true)) (.t 43)),
 (none, .mv 45 (.t 44)),
 (some (45, false), .fa 46 2 (.t 1)),
 (some (45, false), .ld 47 none (.t 46)),
 (some (45, false), .ca (some 48) 109 [.t 47]),
 (some (45, false), .un 49 .not (.t 48)),
 (none, .pk 50 (.t 45) (.c (.b true)) (.t 49)),
 (none, .mv 51 (.t 50)),
 (some (51, false), .fa 52 3 (.t 1)),
 (some (51, false), .ld 53 none (.t 52)),
 (some (51, false), .ln 54 (.t 53)),
 (some (51, false), .bi 55 .gtr (.t 54) (.c (.n .i64 12))),
 (none, .pk 56 (.t 51) (.c (.b true)) (.t 55)),
 (none, .mv 57 (.t 56)),
 (some (57, false), .fa 58 4 (.t 1)),
 (some (57, false), .ld 59 none (.t 58)),
 (some (57, false), .bi 60 .lss (.t 59) (.c (.n .i64 0))),
 (none, .pk 61 (.t 57) (.c (.b true)) (.t 60)),
 (none, .mv 62 (.t 61)),
 (some (62, false), .fa 63 4 (.t 1)),
 (some (62, false), .ld 64 none (.t 63)),
 (some (62, false), .fa 65 3 (.t 1)),
 (some (62, false), .ld 66 none (.t 65)),
 (some (62, false), .ln 67 (.t 66)),
 (some (62, false), .bi 68 .gtr (.t 64) (.t 67)),
 (none, .pk 69 (.t 62) (.c (.b true)) (.t 68)),
 (none, .kp [1, 69])])
 (.ite (.t 69) (.seq (.rg [(none, .mv 2 (.c (.b false))),
 (none, .kp [2])])
 (.rt))
 (.sk)))
 (.seq (.seq (.rg [(none, .fa 70 3 (.t 1)),
 (none, .ld 71 none (.t 70)),
 (none, .ln 72 (.t 71)),
 (none, .mv 73 (.c (.n .i64 0))),
 (none, .kp [1, 71, 72, 73])])
 (.blk 0 (.lp pc52l0)))
 (.seq (.rg [(none, .mv 2 (.c (.b true))),
 (none, .kp [2])])
 (.rt)))))
theorem mr52 : MrT Try.prog 52 pc52 [.t 2] 107 := fun hn h => spec_of_run (fn := Try.f52) (by kernel_rfl) rfl (by kernel_rfl) (by kernel_rfl) hn h
theorem mk52 : MkT Try.prog 52 pc52 [.t 2] 107 := mr52.k
theorem mw52 : MwT Try.prog 52 pc52 [.t 2] 107 := mr52.w
-- 53 impl.saidIn
def pc53l0 : PC := .seq (.rg [(none, .bi 11 .lss (.t 10) (.t 9)),
 (none, .kp [3, 4, 8, 9, 10, 11])])
 (.seq (.ite (.t 11) (.sk)
 (.ex 0))
 (.seq (.blk 1 (.seq (.rg [(none, .ia 12 7 (.t 8) (.t 10)),
 (none, .ld 13 (some 7) (.t 12)),
 (none, .al 6 [.n .i64 0, .n .i64 0, .n .i64 0, .b false, .b false, .b false, .s []]),
 (none, .st 7 (.t 6) (.t 13)),
 (none, .kp [3, 4, 6, 8, 9, 10])])
 (.seq (.seq (.rg [(none, .fa 14 3 (.t 6)),
 (none, .ld 15 none (.t 14)),
 (none, .kp [3, 4, 6, 8, 9, 10, 15])])
 (.ite (.t 15) (.rg [(none, .mv 4 (.c (.s []))),
 (none, .kp [3, 4, 6, 8, 9, 10])])
 (.sk)))
 (.seq (.rg [(none, .mv 16 (.t 4)),
 (none, .fa 17 6 (.t 6)),
 (none, .ld 18 none (.t 17)),
 (none, .bi 19 .add (.t 16) (.t 18)),
 (none, .mv 4 (.t 19)),
 (none, .kp [3, 4, 6, 8, 9, 10])])
 (.seq (.rg [(none, .fa 20 4 (.t 6)),
 (none, .ld 21 none (.t 20)),
 (none, .kp [3, 4, 6, 8, 9, 10, 21])])
 (.ite (.t 21) (.rg [(none, .mv 22 (.t 3)),
 (none, .fa 23 1 (.t 6)),
 (none, .ld 24 none (.t 23)),
 (none, .fa 25 2 (.t 6)),
 (none, .ld 26 none (.t 25)),
 (none, .fa 27 5 (.t 6)),
 (none, .ld 28 none (.t 27)),
 (none, .mv 29 (.t 4)),
 (none, .bd 30 [.n .i64 0, .n .i64 0, .b false, .s []] [(0, 1, .t 24), (1, 1, .t 26), (2, 1, .t 28), (3, 1, .t 29)]),
 (none, .bs 31 4 1 [.n .i64 0, .n .i64 0, .b false, .s []] [(0, .t 30)]),
 (none, .ap 32 4 40 (.t 22) (.t 31)),
 (none, .mv 3 (.t 32)),
 (none, .kp [3, 4, 8, 9, 10])])
 (.sk)))))))
 (.rg [(none, .bi 33 .add (.t 10) (.c (.n .i64 1))),
 (none, .mv 10 (.t 33)),
 (none, .kp [3, 4, 8, 9, 10])])))
def pc53 : PC := .seq (.rg [(none, .mv 2 (.c .nil)),
 (none, .kp [0])])
 (.seq (.rg [(none, .bs 7 4 0 [.n .i64 0, .n .i64 0, .b false, .s []] []),
 (none, .mv 3 (.t 7)),
 (none, .kp [0, 3])])
 (.seq (.rg [(none, .mv 4 (.c (.s []))),
 (none, .kp [0, 3, 4])])
 (.seq (.seq (.rg [(none, .mv 8 (.t 0)),
 (none, .ln 9 (.t 8)),
 (none, .mv 10 (.c (.n .i64 0))),
 (none, .kp [3, 4, 8, 9, 10])])
 (.blk 0 (.lp pc53l0)))
 (.seq (.rg [(none, .mv 34 (.t 3)),
 (none, .mv 2 (.t 34)),
 (none, .kp [2])])
 (.rt)))))
theorem mr53 : MrT Try.prog 53 pc53 [.t 2] 35 := fun hn h => spec_of_run (fn := Try.f53) (by kernel_rfl) rfl (by kernel_rfl) (by kernel_rfl) hn h
theorem mk53 : MkT Try.prog 53 pc53 [.t 2] 35 := mr53.k
theorem mw53 : MwT Try.prog 53 pc53 [.t 2] 35 := mr53.w
-- 58 spec.PacketValid
def pc58l0 : PC := .seq (.seq (.rg [(none, .mv 4 (.t 3)),
 (none, .fa 5 3 (.t 1)),
 (none, .ld 6 none (.t 5)),
 (none, .ln 7 (.t 6)),
 (none, .bi 8 .lss (.t 4) (.t 7)),
 (none, .kp [1, 3, 8])])
 (.ite (.t 8) (.sk)
 (.ex 0)))
 (.seq (.blk 1 (.seq (.rg [(none, .fa 11 3 (.t 1)),
 (none, .ld 12 none (.t 11)),
 (none, .mv 13 (.t 3)),
 (none, .ia 14 3 (.t 12) (.t 13)),
 (none, .ld 15 (some 3) (.t 14)),
 (none, .ca (some 16) 119 [.t 15]),
 (none, .un 17 .not (.t 16)),
 (none, .kp [1, 3, 17])])
 (.ite (.t 17) (.seq (.rg [(none, .mv 2 (.c (.b false))),
 (none, .kp [2])])
 (.rt))
 (.sk))))
 (.rg [(none, .mv 9 (.t 3)),
 (none, .bi 10 .add (.t 9) (.c (.n .i64 1))),
 (none, .mv 3 (.t 10)),
 (none, .kp [1, 3])]))
def pc58 : PC := .seq (.rg [(none, .bx 1 (.t 0)),
 (none, .mv 2 (.c (.b false))),
 (none, .kp [1])])
 (.seq (.seq (.rg [(none, .mv 3 (.c (.n .i64 0))),
 (none, .kp [1, 3])])
 (.blk 0 (.lp pc58l0)))
 (.seq (.rg [(none, .fa 18 0 (.t 1)),
 (none, .ld 19 none (.t 18)),
 (none, .ca (some 20) 116 [.t 19, .c (.n .i64 1), .c (.n .i64 65535)]),
 (none, .mv 21 (.t 20)),
 (some (21, true), .fa 22 1 (.t 1)),
 (some (21, true), .ld 23 none (.t 22)),
 (some (21, true), .ca (some 24) 116 [.t 23, .c (.n .i64 1), .c (.n .i64 65535)]),
 (none, .pk 25 (.t 21) (.t 24) (.c (.b false))),
 (none, .mv 26 (.t 25)),
 (some (26, true), .fa 27 0 (.t 1)),
 (some (26, true), .ld 28 none (.t 27)),
 (some (26, true), .fa 29 1 (.t 1)),
 (some (26, true), .ld 30 none (.t 29)),
 (some (26, true), .bi 31 .neq (.t 28) (.t 30)),
 (none, .pk 32 (.t 26) (.t 31) (.c (.b false))),
 (none, .mv 33 (.t 32)),
 (some (33, true), .fa 34 2 (.t 1)),
 (some (33, true), .ld 35 none (.t 34)),
 (some (33, true), .ca (some 36) 116 [.t 35, .c (.n .i64 0), .c (.n .i64 4294967295)]),
 (none, .pk 37 (.t 33) (.t 36) (.c (.b false))),
 (none, .mv 38 (.t 37)),
 (some (38, true), .fa 39 3 (.t 1)),
 (some (38, true), .ld 40 none (.t 39)),
 (some (38, true), .ln 41 (.t 40)),
 (some (38, true), .ca (some 42) 116 [.t 41, .c (.n .i64 1), .c (.n .i64 4)]),
 (none, .pk 43 (.t 38) (.t 42) (.c (.b false))),
 (none, .mv 2 (.t 43)),
 (none, .kp [2])])
 (.rt)))
theorem mr58 : MrT Try.prog 58 pc58 [.t 2] 44 := fun hn h => spec_of_run (fn := Try.f58) (by kernel_rfl) rfl (by kernel_rfl) (by kernel_rfl) hn h
theorem mk58 : MkT Try.prog 58 pc58 [.t 2] 44 := mr58.k
theorem mw58 : MwT Try.prog 58 pc58 [.t 2] 44 := mr58.w
-- 63 impl.AssocValid
def pc63 : PC := .seq (.rg [(none, .bx 1 (.t 0)),
 (none, .mv 2 (.c (.b false))),
 (none, .kp [1])])
 (.seq (.seq (.rg [(none, .fa 3 0 (.t 1)),
 (none, .ld 4 none (.t 3)),
 (none, .bi 5 .lss (.t 4) (.c (.n .i64 1))),
 (none, .mv 6 (.t 5)),
 (some (6, false), .fa 7 0 (.t 1)),
 (some (6, false), .ld 8 none (.t 7)),
 (some (6, false), .bi 9 .gtr (.t 8) (.c (.n .i64 65535))),
 (none, .pk 10 (.t 6) (.c (.b true)) (.t 9)),
 (none, .mv 11 (.t 10)),
 (some (11, false), .fa 12 1 (.t 1)),
 (some (11, false), .ld 13 none (.t 12)),
 (some (11, false), .bi 14 .lss (.t 13) (.c (.n .i64 1))),
 (none, .pk 15 (.t 11) (.c (.b true)) (.t 14)),
 (none, .mv 16 (.t 15)),
 (some (16, false), .fa 17 1 (.t 1)),
 (some (16, false), .ld 18 none (.t 17)),
 (some (16, false), .bi 19 .gtr (.t 18) (.c (.n .i64 65535))),
 (none, .pk 20 (.t 16) (.c (.b true)) (.t 19)),
 (none, .mv 21 (.t 20)),
 (some (21, false), .fa 22 0 (.t 1)),
 (some (21, false), .ld 23 none (.t 22)),
 (some (21, false), .fa 24 1 (.t 1)),
 (some (21, false), .ld 25 none (.t 24)),
 (some (21, false), .bi 26 .eql (.t 23) (.t 25)),
 (none, .pk 27 (.t 21) (.c (.b true)) (.t 26)),
 (none, .mv 28 (.t 27)),
 (some (28, false), .fa 29 2 (.t 1)),
 (some (28, false), .ld 30 none (.t 29)),
 (some (28, false), .bi 31 .lss (.t 30) (.c (.n .i64 0))),
 (none, .pk 32 (.t 28) (.c (.b true)) (.t 31)),
 (none, .mv 33 (.t 32)),
 (some (33, false), .fa 34 2 (.t 1)),
 (some (33, false), .ld 35 none (.t 34)),
 (some (33, false), .bi 36 .gtr (.t 35) (.c (.n .i64 7))),
 (none, .pk 37 (.t 33) (.c (.b true)) (.t 36)),
 (none, .mv 38 (.t 37)),
 (some (38, false), .fa 39 4 (.t 1)),
 (some (38, false), .ld 40 (some 5) (.t 39)),
 (some (38, false), .ca (some 41) 52 [.t 40]),
 (some (38, false), .un 42 .not (.t 41)),
 (none, .pk 43 (.t 38) (.c (.b true)) (.t 42)),
 (none, .mv 44 (.t 43)),
 (some (44, false), .fa 45 9 (.t 1)),
 (some (44, false), .ld 46 (some 5) (.t 45)),
 (some (44, false), .ca (some 47) 52 [.t 46]),
 (some (44, false), .un 48 .not (.t 47)),
 (none, .pk 49 (.t 44) (.c (.b true)) (.t 48)),
 (none, .kp [1, 49])])
 (.ite (.t 49) (.seq (.rg [(none, .mv 2 (.c (.b false))),
 (none, .kp [2])])
 (.rt))
 (.sk)))
 (.seq (.seq (.rg [(none, .fa 50 4 (.t 1)),
 (none, .fa 51 0 (.t 50)),
 (none, .ld 52 none (.t 51)),
 (none, .bi 53 .gtr (.t 52) (.c (.n .i64 0))),
 (none, .fa 54 2 (.t 1)),
 (none, .ld 55 none (.t 54)),
 (none, .bi 56 .geq (.t 55) (.c (.n .i64 1))),
 (none, .bb 57 true (.t 53) (.t 56)),
 (none, .mv 58 (.t 57)),
 (some (58, false), .fa 59 2 (.t 1)),
 (some (58, false), .ld 60 none (.t 59)),
 (some (58, false), .bi 61 .neq (.t 60) (.c (.n .i64 7))),
 (some (58, false), .mv 62 (.t 61)),
 (some (62, true), .fa 63 9 (.t 1)),
 (some (62, true), .fa 64 0 (.t 63)),
 (some (62, true), .ld 65 none (.t 64)),
 (some (62, true), .bi 66 .gtr (.t 65) (.c (.n .i64 0))),
 (some (62, true), .fa 67 2 (.t 1)),
 (some (62, true), .ld 68 none (.t 67)),
 (some (62, true), .bi 69 .geq (.t 68) (.c (.n .i64 2))),
 (some (62, true), .bb 70 true (.t 66) (.t 69)),
 (some (58, false), .pk 71 (.t 62) (.t 70) (.c (.b false))),
 (none, .pk 72 (.t 58) (.c (.b true)) (.t 71)),
 (none, .kp [1, 72])])
 (.ite (.t 72) (.seq (.rg [(none, .mv 2 (.c (.b false))),
 (none, .kp [2])])
 (.rt))
 (.sk)))
 (.seq (.seq (.rg [(none, .fa 73 2 (.t 1)),
 (none, .ld 74 none (.t 73)),
 (none, .bi 75 .lss (.t 74) (.c (.n .i64 3))),
 (none, .mv 76 (.t 75)),
 (some (76, true), .fa 77 4 (.t 1)),
 (some (76, true), .fa 78 3 (.t 77)),
 (some (76, true), .ld 79 none (.t 78)),
 (some (76, true), .ln 80 (.t 79)),
 (some (76, true), .fa 81 9 (.t 1)),
 (some (76, true), .fa 82 3 (.t 81)),
 (some (76, true), .ld 83 none (.t 82)),
 (some (76, true), .ln 84 (.t 83)),
 (some (76, true), .bi 85 .add (.t 80) (.t 84)),
 (some (76, true), .bi 86 .gtr (.t 85) (.c (.n .i64 0))),
 (none, .pk 87 (.t 76) (.t 86) (.c (.b false))),
 (none, .kp [1, 87])])
 (.ite (.t 87) (.seq (.rg [(none, .mv 2 (.c (.b false))),
 (none, .kp [2])])
 (.rt))
 (.sk)))
 (.seq (.rg [(none, .fa 88 3 (.t 1)),
 (none, .ld 89 none (.t 88)),
 (none, .un 90 .not (.t 89)),
 (none, .mv 91 (.t 90)),
 (some (91, false), .fa 92 2 (.t 1)),
 (some (91, false), .ld 93 none (.t 92)),
 (some (91, false), .bi 94 .geq (.t 93) (.c (.n .i64 5))),
 (none, .pk 95 (.t 91) (.c (.b true)) (.t 94)),
 (none, .mv 2 (.t 95)),
 (none, .kp [2])])
 (.rt)))))
theorem mr63 : MrT Try.prog 63 pc63 [.t 2] 96 := fun hn h => spec_of_run (fn := Try.f63) (by kernel_rfl) rfl (by kernel_rfl) (by kernel_rfl) hn h
theorem mk63 : MkT Try.prog 63 pc63 [.t 2] 96 := mr63.k
theorem mw63 : MwT Try.prog 63 pc63 [.t 2] 96 := mr63.w
-- 64 impl.PacketValid
def pc64l0 : PC := .seq (.rg [(none, .bi 56 .lss (.t 55) (.t 54)),
 (none, .kp [53, 54, 55, 56])])
 (.seq (.ite (.t 56) (.sk)
 (.ex 0))
 (.seq (.blk 1 (.seq (.rg [(none, .ia 57 3 (.t 53) (.t 55)),
 (none, .ld 58 (some 3) (.t 57)),
 (none, .al 4 [.n .i64 0, .n .i64 0, .s []]),
 (none, .st 3 (.t 4) (.t 58)),
 (none, .kp [4, 53, 54, 55])])
 (.seq (.rg [(none, .ld 59 (some 3) (.t 4)),
 (none, .ca (some 60) 126 [.t 59]),
 (none, .un 61 .not (.t 60)),
 (none, .kp [53, 54, 55, 61])])
 (.ite (.t 61) (.seq (.rg [(none, .mv 2 (.c (.b false))),
 (none, .kp [2])])
 (.rt))
 (.sk)))))
 (.rg [(none, .bi 62 .add (.t 55) (.c (.n .i64 1))),
 (none, .mv 55 (.t 62)),
 (none, .kp [53, 54, 55])])))
def pc64 : PC := .seq (.rg [(none, .bx 1 (.t 0)),
 (none, .mv 2 (.c (.b false))),
 (none, .kp [1])])
 (.seq (.seq (.rg [(none, .fa 5 0 (.t 1)),
 (none, .ld 6 none (.t 5)),
 (none, .bi 7 .lss (.t 6) (.c (.n .i64 1))),
 (none, .mv 8 (.t 7)),
 (some (8, false), .fa 9 0 (.t 1)),
 (some (8, false), .ld 10 none (.t 9)),
 (some (8, false), .bi 11 .gtr (.t 10) (.c (.n .i64 65535))),
 (none, .pk 12 (.t 8) (.c (.b true)) (.t 11)),
 (none, .mv 13 (.t 12)),
 (some (13, false), .fa 14 1 (.t 1)),
 (some (13, false), .ld 15 none (.t 14)),
 (some (13, false), .bi 16 .lss (.t 15) (.c (.n .i64 1))),
 (none, .pk 17 (.t 13) (.c (.b true)) (.t 16)),
 (none, .mv 18 (.t 17)),
 (some (18, false), .fa 19 1 (.t 1)),
 (some (18, false), .ld 20 none (.t 19)),
 (some (18, false), .bi 21 .gtr (.t 20) (.c (.n .i64 65535))),
 (none, .pk 22 (.t 18) (.c (.b true)) (.t 21)),
 (none, .mv 23 (.t 22)),
 (some (23, false), .fa 24 0 (.t 1)),
 (some (23, false), .ld 25 none (.t 24)),
 (some (23, false), .fa 26 1 (.t 1)),
 (some (23, false), .ld 27 none (.t 26)),
 (some (23, false), .bi 28 .eql (.t 25) (.t 27)),
 (none, .pk 29 (.t 23) (.c (.b true)) (.t 28)),
 (none, .mv 30 (.t 29)),
 (some (30, false), .fa 31 2 (.t 1)),
 (some (30, false), .ld 32 none (.t 31)),
 (some (30, false), .bi 33 .lss (.t 32) (.c (.n .i64 0))),
 (none, .pk 34 (.t 30) (.c (.b true)) (.t 33)),
 (none, .mv 35 (.t 34)),
 (some (35, false), .fa 36 2 (.t 1)),
 (some (35, false), .ld 37 none (.t 36)),
 (some (35, false), .bi 38 .gtr (.t 37) (.c (.n .i64 4294967295))),
 (none, .pk 39 (.t 35) (.c (.b true)) (.t 38)),
 (none, .mv 40 (.t 39)),
 (some (40, false), .fa 41 3 (.t 1)),
 (some (40, false), .ld 42 none (.t 41)),
 (some (40, false), .ln 43 (.t 42)),
 (some (40, false), .bi 44 .lss (.t 43) (.c (.n .i64 1))),
 (none, .pk 45 (.t 40) (.c (.b true)) (.t 44)),
 (none, .mv 46 (.t 45)),
 (some (46, false), .fa 47 3 (.t 1)),
 (some (46, false), .ld 48 none (.t 47)),
 (some (46, false), .ln 49 (.t 48)),
 (some (46, false), .bi 50 .gtr (.t 49) (.c (.n .i64 4))),
 (none, .pk 51 (.t 46) (.c (.b true)) (.t 50)),
 (none, .kp [1, 51])])
 (.ite (.t 51) (.seq (.rg [(none, .mv 2 (.c (.b false))),
 (none, .kp [2])])
 (.rt))
 (.sk)))
 (.seq (.seq (.rg [(none, .fa 52 3 (.t 1)),
 (none, .ld 53 none (.t 52)),
 (none, .ln 54 (.t 53)),
 (none, .mv 55 (.c (.n .i64 0))),
 (none, .kp [53, 54, 55])])
 (.blk 0 (.lp pc64l0)))
 (.seq (.rg [(none, .mv 2 (.c (.b true))),
 (none, .kp [2])])
 (.rt))))
theorem mr64 : MrT Try.prog 64 pc64 [.t 2] 63 := fun hn h => spec_of_run (fn := Try.f64) (by kernel_rfl) rfl (by kernel_rfl) (by kernel_rfl) hn h
theorem mk64 : MkT Try.prog 64 pc64 [.t 2] 63 := mr64.k
theorem mw64 : MwT Try.prog 64 pc64 [.t 2] 63 := mr64.w
-- 65 impl.PacketAlone
def pc65l0 : PC := .seq (.rg [(none, .bi 16 .lss (.t 15) (.t 14)),
 (none, .kp [13, 14, 15, 16])])
 (.seq (.ite (.t 16) (.sk)
 (.ex 0))
 (.seq (.blk 1 (.seq (.rg [(none, .ia 17 3 (.t 13) (.t 15)),
 (none, .ld 18 (some 3) (.t 17)),
 (none, .al 4 [.n .i64 0, .n .i64 0, .s []]),
 (none, .st 3 (.t 4) (.t 18)),
 (none, .kp [4, 13, 14, 15])])
 (.seq (.rg [(none, .fa 19 0 (.t 4)),
 (none, .ld 20 none (.t 19)),
 (none, .bi 21 .eql (.t 20) (.c (.n .i64 1))),
 (none, .mv 22 (.t 21)),
 (some (22, false), .fa 23 0 (.t 4)),
 (some (22, false), .ld 24 none (.t 23)),
 (some (22, false), .bi 25 .eql (.t 24) (.c (.n .i64 2))),
 (none, .pk 26 (.t 22) (.c (.b true)) (.t 25)),
 (none, .mv 27 (.t 26)),
 (some (27, false), .fa 28 0 (.t 4)),
 (some (27, false), .ld 29 none (.t 28)),
 (some (27, false), .bi 30 .eql (.t 29) (.c (.n .i64 14))),
 (none, .pk 31 (.t 27) (.c (.b true)) (.t 30)),
 (none, .kp [13, 14, 15, 31])])
 (.ite (.t 31) (.seq (.rg [(none, .mv 2 (.c (.b false))),
 (none, .kp [2])])
 (.rt))
 (.sk)))))
 (.rg [(none, .bi 32 .add (.t 15) (.c (.n .i64 1))),
 (none, .mv 15 (.t 32)),
 (none, .kp [13, 14, 15])])))
def pc65 : PC := .seq (.rg [(none, .bx 1 (.t 0)),
 (none, .mv 2 (.c (.b false))),
 (none, .kp [1])])
 (.seq (.seq (.rg [(none, .ld 5 (some 4) (.t 1)),
 (none, .ca (some 6) 64 [.t 5]),
 (none, .un 7 .not (.t 6)),
 (none, .kp [1, 7])])
 (.ite (.t 7) (.seq (.rg [(none, .mv 2 (.c (.b false))),
 (none, .kp [2])])
 (.rt))
 (.sk)))
 (.seq (.seq (.rg [(none, .fa 8 3 (.t 1)),
 (none, .ld 9 none (.t 8)),
 (none, .ln 10 (.t 9)),
 (none, .bi 11 .eql (.t 10) (.c (.n .i64 1))),
 (none, .kp [1, 11])])
 (.ite (.t 11) (.seq (.rg [(none, .mv 2 (.c (.b true))),
 (none, .kp [2])])
 (.rt))
 (.sk)))
 (.seq (.seq (.rg [(none, .fa 12 3 (.t 1)),
 (none, .ld 13 none (.t 12)),
 (none, .ln 14 (.t 13)),
 (none, .mv 15 (.c (.n .i64 0))),
 (none, .kp [13, 14, 15])])
 (.blk 0 (.lp pc65l0)))
 (.seq (.rg [(none, .mv 2 (.c (.b true))),
 (none, .kp [2])])
 (.rt)))))
theorem mr65 : MrT Try.prog 65 pc65 [.t 2] 33 := fun hn h => spec_of_run (fn := Try.f65) (by kernel_rfl) rfl (by kernel_rfl) (by kernel_rfl) hn h
theorem mk65 : MkT Try.prog 65 pc65 [.t 2] 33 := mr65.k
theorem mw65 : MwT Try.prog 65 pc65 [.t 2] 33 := mr65.w
-- 66 impl.copyAssoc
def pc66 : PC := .seq (.rg [(none, .bx 1 (.t 0)),
 (none, .al 2 [.n .i64 0, .n .i64 0, .n .i64 0, .b false, .n .i64 0, .n .i64 0, .n .i64 0, .nil, .n .i64 0, .n .i64 0, .n .i64 0, .n .i64 0, .nil, .n .i64 0]),
 (none, .kp [1, 2])])
 (.seq (.rg [(none, .bs 3 7 0 [.n .i64 0, .n .i64 0, .n .i64 0, .b false, .b false, .b false, .s []] []),
 (none, .fa 4 4 (.t 1)),
 (none, .fa 5 3 (.t 4)),
 (none, .ld 6 none (.t 5)),
 (none, .ap 7 7 48 (.t 3) (.t 6)),
 (none, .fa 8 4 (.t 1)),
 (none, .fa 9 3 (.t 8)),
 (none, .st 1 (.t 9) (.t 7)),
 (none, .kp [1, 2])])
 (.seq (.rg [(none, .bs 10 7 0 [.n .i64 0, .n .i64 0, .n .i64 0, .b false, .b false, .b false, .s []] []),
 (none, .fa 11 9 (.t 1)),
 (none, .fa 12 3 (.t 11)),
 (none, .ld 13 none (.t 12)),
 (none, .ap 14 7 48 (.t 10) (.t 13)),
 (none, .fa 15 9 (.t 1)),
 (none, .fa 16 3 (.t 15)),
 (none, .st 1 (.t 16) (.t 14)),
 (none, .kp [1, 2])])
 (.seq (.rg [(none, .ld 17 (some 14) (.t 1)),
 (none, .st 14 (.t 2) (.t 17)),
 (none, .kp [2])])
 (.rt))))
theorem mr66 : MrT Try.prog 66 pc66 [.c 2 (some 14)] 18 := fun hn h => spec_of_run (fn := Try.f66) (by kernel_rfl) rfl (by kernel_rfl) (by kernel_rfl) hn h
theorem mk66 : MkT Try.prog 66 pc66 [.c 2 (some 14)] 18 := mr66.k
theorem mw66 : MwT Try.prog 66 pc66 [.c 2 (some 14)] 18 := mr66.w
-- 67 (*impl.Assoc).handle
def pc67 : PC := .seq (.rg [(none, .bx 4 (.t 1)),
 (none, .mv 6 (.c (.n .i64 0))),
 (none, .kp [0, 2, 4])])
 (.seq (.dr [[], [0], [0, 1], [], [3], [3, 4], [0, 1, 2], [0, 1, 2, 3, 4, 5, 6]]
 (.q 0 (none, .mv 10 (.t 0))
 (.q 1 (none, .nc 11 (.t 10))
 (.q 2 (none, .fa 12 4 (.t 11))
 (.q 3 (none, .mv 13 (.t 0))
 (.q 4 (none, .nc 14 (.t 13))
 (.q 5 (none, .fa 15 9 (.t 14))
 (.q 6 (none, .mv 7 (.t 12))
 (.q 7 (none, .mv 8 (.t 15))
 (.done))))))))) [0, 2, 4, 7, 8])
 (.seq (.seq (.rg [(none, .mv 16 (.t 2)),
 (none, .kp [0, 2, 4, 7, 8, 16])])
 (.ite (.t 16) (.dr [[], [0], [0, 1], [], [3], [3, 4], [0, 1, 2], [0, 1, 2, 3, 4, 5, 6]]
 (.q 0 (none, .mv 17 (.t 0))
 (.q 1 (none, .nc 18 (.t 17))
 (.q 2 (none, .fa 19 9 (.t 18))
 (.q 3 (none, .mv 20 (.t 0))
 (.q 4 (none, .nc 21 (.t 20))
 (.q 5 (none, .fa 22 4 (.t 21))
 (.q 6 (none, .mv 7 (.t 19))
 (.q 7 (none, .mv 8 (.t 22))
 (.done))))))))) [0, 2, 4, 7, 8])
 (.sk)))
 (.seq (.rg [(none, .mv 23 (.t 2)),
 (none, .mv 24 (.t 0)),
 (none, .nc 25 (.t 24)),
 (none, .fa 26 3 (.t 25)),
 (none, .ld 27 none (.t 26)),
 (none, .bb 28 false (.t 23) (.t 27)),
 (none, .mv 9 (.t 28)),
 (none, .kp [0, 2, 4, 7, 8, 9])])
 (.seq (.seq (.rg [(none, .fa 29 0 (.t 4)),
 (none, .ld 30 none (.t 29)),
 (none, .kp [0, 2, 4, 7, 8, 9, 30])])
 (.blk 0 (.seq (.seq (.rg [(none, .bi 32 .eql (.t 30) (.c (.n .i64 1))),
 (none, .mv 31 (.t 32)),
 (none, .kp [0, 2, 4, 7, 8, 9, 30, 31])])
 (.ite (.t 31) (.sk)
 (.rg [(none, .bi 33 .eql (.t 30) (.c (.n .i64 2))),
 (none, .mv 31 (.t 33)),
 (none, .kp [0, 2, 4, 7, 8, 9, 30, 31])])))
 (.ite (.t 31) (.seq (.rg [(none, .mv 34 (.t 0)),
 (none, .ld 35 (some 3) (.t 4)),
 (none, .mv 36 (.t 2)),
 (none, .mv 37 (.t 7)),
 (none, .ca (some 38) 127 [.t 34, .t 35, .t 36, .t 37]),
 (none, .mv 6 (.t 38)),
 (none, .kp [6])])
 (.rt))
 (.seq (.rg [(none, .bi 40 .eql (.t 30) (.c (.n .i64 0))),
 (none, .mv 39 (.t 40)),
 (none, .kp [0, 2, 4, 7, 8, 9, 30, 39])])
 (.ite (.t 39) (.seq (.rg [(none, .mv 41 (.t 0)),
 (none, .nc 42 (.t 41)),
 (none, .fa 43 2 (.t 42)),
 (none, .ld 44 none (.t 43)),
 (none, .bi 45 .eql (.t 44) (.c (.n .i64 4))),
 (none, .mv 46 (.t 45)),
 (some (46, false), .mv 47 (.t 0)),
 (some (46, false), .nc 48 (.t 47)),
 (some (46, false), .fa 49 2 (.t 48)),
 (some (46, false), .ld 50 none (.t 49)),
 (some (46, false), .bi 51 .eql (.t 50) (.c (.n .i64 3))),
 (some (46, false), .mv 52 (.t 51)),
 (some (52, true), .mv 53 (.t 2)),
 (some (52, true), .un 54 .not (.t 53)),
 (some (46, false), .pk 55 (.t 52) (.t 54) (.c (.b false))),
 (none, .pk 56 (.t 46) (.c (.b true)) (.t 55)),
 (none, .mv 57 (.t 56)),
 (some (57, false), .mv 58 (.t 0)),
 (some (57, false), .nc 59 (.t 58)),
 (some (57, false), .fa 60 2 (.t 59)),
 (some (57, false), .ld 61 none (.t 60)),
 (some (57, false), .bi 62 .eql (.t 61) (.c (.n .i64 5))),
 (some (57, false), .mv 63 (.t 62)),
 (some (63, true), .mv 64 (.t 9)),
 (some (63, true), .un 65 .not (.t 64)),
 (some (57, false), .pk 66 (.t 63) (.t 65) (.c (.b false))),
 (none, .pk 67 (.t 57) (.c (.b true)) (.t 66)),
 (none, .kp [0, 4, 7, 67])])
 (.ite (.t 67) (.seq (.rg [(none, .mv 68 (.t 0)),
 (none, .ld 69 (some 3) (.t 4)),
 (none, .mv 70 (.t 7)),
 (none, .ca (some 71) 128 [.t 68, .t 69, .t 70]),
 (none, .mv 6 (.t 71)),
 (none, .kp [6])])
 (.rt))
 (.sk)))
 (.seq (.rg [(none, .bi 73 .eql (.t 30) (.c (.n .i64 3))),
 (none, .mv 72 (.t 73)),
 (none, .kp [0, 2, 4, 7, 8, 9, 30, 72])])
 (.ite (.t 72) (.seq (.rg [(none, .mv 74 (.t 0)),
 (none, .nc 75 (.t 74)),
 (none, .fa 76 2 (.t 75)),
 (none, .ld 77 none (.t 76)),
 (none, .bi 78 .eql (.t 77) (.c (.n .i64 4))),
 (none, .mv 79 (.t 78)),
 (some (79, false), .mv 80 (.t 0)),
 (some (79, false), .nc 81 (.t 80)),
 (some (79, false), .fa 82 2 (.t 81)),
 (some (79, false), .ld 83 none (.t 82)),
 (some (79, false), .bi 84 .eql (.t 83) (.c (.n .i64 5))),
 (none, .pk 85 (.t 79) (.c (.b true)) (.t 84)),
 (none, .kp [4, 8, 85])])
 (.ite (.t 85) (.seq (.rg [(none, .ld 86 (some 3) (.t 4)),
 (none, .mv 87 (.t 8)),
 (none, .ca (some 88) 129 [.t 86, .t 87]),
 (none, .mv 6 (.t 88)),
 (none, .kp [6])])
 (.rt))
 (.sk)))
 (.seq (.rg [(none, .bi 90 .eql (.t 30) (.c (.n .i64 10))),
 (none, .mv 89 (.t 90)),
 (none, .kp [0, 2, 7, 9, 30, 89])])
 (.ite (.t 89) (.seq (.rg [(none, .mv 91 (.t 2)),
 (none, .un 92 .not (.t 91)),
 (none, .mv 93 (.t 92)),
 (some (93, true), .mv 94 (.t 0)),
 (some (93, true), .nc 95 (.t 94)),
 (some (93, true), .fa 96 2 (.t 95)),
 (some (93, true), .ld 97 none (.t 96)),
 (some (93, true), .bi 98 .geq (.t 97) (.c (.n .i64 2))),
 (none, .pk 99 (.t 93) (.t 98) (.c (.b false))),
 (none, .mv 100 (.t 99)),
 (some (100, true), .mv 101 (.t 0)),
 (some (100, true), .nc 102 (.t 101)),
 (some (100, true), .fa 103 2 (.t 102)),
 (some (100, true), .ld 104 none (.t 103)),
 (some (100, true), .bi 105 .leq (.t 104) (.c (.n .i64 4))),
 (none, .pk 106 (.t 100) (.t 105) (.c (.b false))),
 (none, .kp [0, 106])])
 (.ite (.t 106) (.seq (.seq (.rg [(none, .mv 107 (.t 0)),
 (none, .nc 108 (.t 107)),
 (none, .fa 109 2 (.t 108)),
 (none, .ld 110 none (.t 109)),
 (none, .bi 111 .eql (.t 110) (.c (.n .i64 2))),
 (none, .kp [0, 111])])
 (.ite (.t 111) (.rg [(none, .mv 112 (.t 0)),
 (none, .nc 113 (.t 112)),
 (none, .fa 114 2 (.t 113)),
 (none, .st 1 (.t 114) (.c (.n .i64 3))),
 (none, .kp [])])
 (.sk)))
 (.seq (.rg [(none, .mv 6 (.c (.n .i64 0))),
 (none, .kp [6])])
 (.rt)))
 (.sk)))
 (.seq (.rg [(none, .bi 116 .eql (.t 30) (.c (.n .i64 11))),
 (none, .mv 115 (.t 116)),
 (none, .kp [0, 2, 7, 9, 30, 115])])
 (.ite (.t 115) (.seq (.rg [(none, .mv 117 (.t 2)),
 (none, .mv 118 (.t 117)),
 (some (118, true), .mv 119 (.t 0)),
 (some (118, true), .nc 120 (.t 119)),
 (some (118, true), .fa 121 2 (.t 120)),
 (some (118, true), .ld 122 none (.t 121)),
 (some (118, true), .bi 123 .eql (.t 122) (.c (.n .i64 3))),
 (some (118, true), .mv 124 (.t 123)),
 (some (124, false), .mv 125 (.t 0)),
 (some (124, false), .nc 126 (.t 125)),
 (some (124, false), .fa 127 2 (.t 126)),
 (some (124, false), .ld 128 none (.t 127)),
 (some (124, false), .bi 129 .eql (.t 128) (.c (.n .i64 4))),
 (some (118, true), .pk 130 (.t 124) (.c (.b true)) (.t 129)),
 (none, .pk 131 (.t 118) (.t 130) (.c (.b false))),
 (none, .kp [0, 131])])
 (.ite (.t 131) (.seq (.rg [(none, .mv 132 (.t 0)),
 (none, .nc 133 (.t 132)),
 (none, .fa 134 2 (.t 133)),
 (none, .st 1 (.t 134) (.c (.n .i64 4))),
 (none, .kp [])])
 (.seq (.rg [(none, .mv 6 (.c (.n .i64 0))),
 (none, .kp [6])])
 (.rt)))
 (.sk)))
 (.seq (.seq (.rg [(none, .bi 136 .eql (.t 30) (.c (.n .i64 4))),
 (none, .mv 135 (.t 136)),
 (none, .kp [0, 2, 7, 9, 30, 135])])
 (.ite (.t 135) (.sk)
 (.seq (.rg [(none, .bi 137 .eql (.t 30) (.c (.n .i64 5))),
 (none, .mv 135 (.t 137)),
 (none, .kp [0, 2, 7, 9, 30, 135])])
 (.ite (.t 135) (.sk)
 (.rg [(none, .bi 138 .eql (.t 30) (.c (.n .i64 9))),
 (none, .mv 135 (.t 138)),
 (none, .kp [0, 2, 7, 9, 30, 135])])))))
 (.ite (.t 135) (.seq (.rg [(none, .mv 139 (.t 0)),
 (none, .nc 140 (.t 139)),
 (none, .fa 141 2 (.t 140)),
 (none, .ld 142 none (.t 141)),
 (none, .bi 143 .geq (.t 142) (.c (.n .i64 3))),
 (none, .mv 144 (.t 143)),
 (some (144, true), .mv 145 (.t 0)),
 (some (144, true), .nc 146 (.t 145)),
 (some (144, true), .fa 147 2 (.t 146)),
 (some (144, true), .ld 148 none (.t 147)),
 (some (144, true), .bi 149 .leq (.t 148) (.c (.n .i64 6))),
 (none, .pk 150 (.t 144) (.t 149) (.c (.b false))),
 (none, .kp [150])])
 (.ite (.t 150) (.seq (.rg [(none, .mv 6 (.c (.n .i64 0))),
 (none, .kp [6])])
 (.rt))
 (.sk)))
 (.seq (.rg [(none, .bi 152 .eql (.t 30) (.c (.n .i64 6))),
 (none, .mv 151 (.t 152)),
 (none, .kp [0, 2, 7, 9, 30, 151])])
 (.ite (.t 151) (.seq (.rg [(none, .mv 153 (.t 0)),
 (none, .nc 154 (.t 153)),
 (none, .fa 155 2 (.t 154)),
 (none, .ld 156 none (.t 155)),
 (none, .bi 157 .geq (.t 156) (.c (.n .i64 1))),
 (none, .mv 158 (.t 157)),
 (some (158, true), .mv 159 (.t 0)),
 (some (158, true), .nc 160 (.t 159)),
 (some (158, true), .fa 161 2 (.t 160)),
 (some (158, true), .ld 162 none (.t 161)),
 (some (158, true), .bi 163 .leq (.t 162) (.c (.n .i64 6))),
 (none, .pk 164 (.t 158) (.t 163) (.c (.b false))),
 (none, .kp [0, 164])])
 (.ite (.t 164) (.seq (.rg [(none, .mv 165 (.t 0)),
 (none, .nc 166 (.t 165)),
 (none, .fa 167 2 (.t 166)),
 (none, .st 1 (.t 167) (.c (.n .i64 7))),
 (none, .kp [])])
 (.seq (.rg [(none, .mv 6 (.c (.n .i64 0))),
 (none, .kp [6])])
 (.rt)))
 (.sk)))
 (.seq (.rg [(none, .bi 169 .eql (.t 30) (.c (.n .i64 7))),
 (none, .mv 168 (.t 169)),
 (none, .kp [0, 2, 7, 9, 30, 168])])
 (.ite (.t 168) (.seq (.seq (.rg [(none, .mv 170 (.t 0)),
 (none, .nc 171 (.t 170)),
 (none, .fa 172 2 (.t 171)),
 (none, .ld 173 none (.t 172)),
 (none, .bi 174 .eql (.t 173) (.c (.n .i64 4))),
 (none, .kp [0, 2, 7, 9, 174])])
 (.ite (.t 174) (.seq (.seq (.dr [[], [0], [0, 1], [0, 1, 2], [], [4], [4, 5], [4, 5, 6], [4, 5, 6, 7], [0, 1, 2, 3, 4, 5, 6, 7, 8]]
 (.q 0 (none, .mv 175 (.t 7))
 (.q 1 (none, .nc 176 (.t 175))
 (.q 2 (none, .fa 177 4 (.t 176))
 (.q 3 (none, .ld 178 none (.t 177))
 (.q 4 (none, .mv 179 (.t 7))
 (.q 5 (none, .nc 180 (.t 179))
 (.q 6 (none, .fa 181 3 (.t 180))
 (.q 7 (none, .ld 182 none (.t 181))
 (.q 8 (none, .ln 183 (.t 182))
 (.q 9 (none, .bi 184 .neq (.t 178) (.t 183))
 (.done))))))))))) [0, 2, 184])
 (.ite (.t 184) (.seq (.rg [(none, .mv 6 (.c (.n .i64 10))),
 (none, .kp [6])])
 (.rt))
 (.sk)))
 (.seq (.rg [(none, .mv 185 (.t 0)),
 (none, .mv 186 (.t 0)),
 (none, .mv 187 (.t 2)),
 (none, .nc 188 (.t 185)),
 (none, .fa 189 2 (.t 188)),
 (none, .st 1 (.t 189) (.c (.n .i64 5))),
 (none, .nc 190 (.t 186)),
 (none, .fa 191 3 (.t 190)),
 (none, .st 1 (.t 191) (.t 187)),
 (none, .kp [])])
 (.seq (.rg [(none, .mv 6 (.c (.n .i64 0))),
 (none, .kp [6])])
 (.rt))))
 (.sk)))
 (.seq (.rg [(none, .mv 192 (.t 0)),
 (none, .nc 193 (.t 192)),
 (none, .fa 194 2 (.t 193)),
 (none, .ld 195 none (.t 194)),
 (none, .bi 196 .eql (.t 195) (.c (.n .i64 5))),
 (none, .mv 197 (.t 196)),
 (some (197, false), .mv 198 (.t 0)),
 (some (197, false), .nc 199 (.t 198)),
 (some (197, false), .fa 200 2 (.t 199)),
 (some (197, false), .ld 201 none (.t 200)),
 (some (197, false), .bi 202 .eql (.t 201) (.c (.n .i64 6))),
 (none, .pk 203 (.t 197) (.c (.b true)) (.t 202)),
 (none, .mv 204 (.t 203)),
 (some (204, true), .mv 205 (.t 9)),
 (none, .pk 206 (.t 204) (.t 205) (.c (.b false))),
 (none, .kp [206])])
 (.ite (.t 206) (.seq (.rg [(none, .mv 6 (.c (.n .i64 0))),
 (none, .kp [6])])
 (.rt))
 (.sk))))
 (.seq (.rg [(none, .bi 208 .eql (.t 30) (.c (.n .i64 8))),
 (none, .mv 207 (.t 208)),
 (none, .kp [0, 7, 9, 30, 207])])
 (.ite (.t 207) (.seq (.seq (.rg [(none, .mv 209 (.t 0)),
 (none, .nc 210 (.t 209)),
 (none, .fa 211 2 (.t 210)),
 (none, .ld 212 none (.t 211)),
 (none, .bi 213 .eql (.t 212) (.c (.n .i64 5))),
 (none, .mv 214 (.t 213)),
 (some (214, true), .mv 215 (.t 9)),
 (some (214, true), .un 216 .not (.t 215)),
 (none, .pk 217 (.t 214) (.t 216) (.c (.b false))),
 (none, .kp [0, 7, 9, 217])])
 (.ite (.t 217) (.seq (.seq (.dr [[], [0], [0, 1], [0, 1, 2], [], [4], [4, 5], [4, 5, 6], [4, 5, 6, 7], [0, 1, 2, 3, 4, 5, 6, 7, 8]]
 (.q 0 (none, .mv 218 (.t 7))
 (.q 1 (none, .nc 219 (.t 218))
 (.q 2 (none, .fa 220 4 (.t 219))
 (.q 3 (none, .ld 221 none (.t 220))
 (.q 4 (none, .mv 222 (.t 7))
 (.q 5 (none, .nc 223 (.t 222))
 (.q 6 (none, .fa 224 3 (.t 223))
 (.q 7 (none, .ld 225 none (.t 224))
 (.q 8 (none, .ln 226 (.t 225))
 (.q 9 (none, .bi 227 .neq (.t 221) (.t 226))
 (.done))))))))))) [0, 227])
 (.ite (.t 227) (.seq (.rg [(none, .mv 6 (.c (.n .i64 10))),
 (none, .kp [6])])
 (.rt))
 (.sk)))
 (.seq (.rg [(none, .mv 228 (.t 0)),
 (none, .nc 229 (.t 228)),
 (none, .fa 230 2 (.t 229)),
 (none, .st 1 (.t 230) (.c (.n .i64 6))),
 (none, .kp [])])
 (.seq (.rg [(none, .mv 6 (.c (.n .i64 0))),
 (none, .kp [6])])
 (.rt))))
 (.sk)))
 (.seq (.rg [(none, .mv 231 (.t 0)),
 (none, .nc 232 (.t 231)),
 (none, .fa 233 2 (.t 232)),
 (none, .ld 234 none (.t 233)),
 (none, .bi 235 .eql (.t 234) (.c (.n .i64 6))),
 (none, .mv 236 (.t 235)),
 (some (236, true), .mv 237 (.t 9)),
 (some (236, true), .un 238 .not (.t 237)),
 (none, .pk 239 (.t 236) (.t 238) (.c (.b false))),
 (none, .kp [239])])
 (.ite (.t 239) (.seq (.rg [(none, .mv 6 (.c (.n .i64 0))),
 (none, .kp [6])])
 (.rt))
 (.sk))))
 (.seq (.rg [(none, .bi 241 .eql (.t 30) (.c (.n .i64 14))),
 (none, .mv 240 (.t 241)),
 (none, .kp [0, 9, 240])])
 (.ite (.t 240) (.seq (.rg [(none, .mv 242 (.t 0)),
 (none, .nc 243 (.t 242)),
 (none, .fa 244 2 (.t 243)),
 (none, .ld 245 none (.t 244)),
 (none, .bi 246 .eql (.t 245) (.c (.n .i64 6))),
 (none, .mv 247 (.t 246)),
 (some (247, true), .mv 248 (.t 9)),
 (none, .pk 249 (.t 247) (.t 248) (.c (.b false))),
 (none, .kp [0, 249])])
 (.ite (.t 249) (.seq (.rg [(none, .mv 250 (.t 0)),
 (none, .nc 251 (.t 250)),
 (none, .fa 252 2 (.t 251)),
 (none, .st 1 (.t 252) (.c (.n .i64 7))),
 (none, .kp [])])
 (.seq (.rg [(none, .mv 6 (.c (.n .i64 0))),
 (none, .kp [6])])
 (.rt)))
 (.sk)))
 (.sk)))))))))))))))))))))))
 (.seq (.rg [(none, .mv 6 (.c (.n .i64 3))),
 (none, .kp [6])])
 (.rt))))))
theorem mr67 : MrT Try.prog 67 pc67 [.t 6] 253 := fun hn h => spec_of_run (fn := Try.f67) (by kernel_rfl) rfl (by kernel_rfl) (by kernel_rfl) hn h
theorem mk67 : MkT Try.prog 67 pc67 [.t 6] 253 := mr67.k
theorem mw67 : MwT Try.prog 67 pc67 [.t 6] 253 := mr67.w
-- 74 spec.TalkValid
def pc74l0 : PC := .seq (.seq (.rg [(none, .mv 42 (.t 5)),
 (none, .fa 43 11 (.t 1)),
 (none, .ld 44 none (.t 43)),
 (none, .ln 45 (.t 44)),
 (none, .bi 46 .lss (.t 42) (.t 45)),
 (none, .kp [1, 3, 4, 5, 46])])
 (.ite (.t 46) (.sk)
 (.ex 0)))
 (.seq (.blk 1 (.seq (.rg [(none, .fa 49 11 (.t 1)),
 (none, .ld 50 none (.t 49)),
 (none, .mv 51 (.t 5)),
 (none, .ia 52 4 (.t 50) (.t 51)),
 (none, .ld 53 (some 4) (.t 52)),
 (none, .al 6 [.b false, .n .i64 0, .b false, .s []]),
 (none, .st 4 (.t 6) (.t 53)),
 (none, .kp [1, 3, 4, 5, 6])])
 (.seq (.seq (.rg [(none, .fa 54 3 (.t 6)),
 (none, .ld 55 none (.t 54)),
 (none, .lS 56 (.t 55)),
 (none, .ca (some 57) 116 [.t 56, .c (.n .i64 1), .c (.n .i64 60)]),
 (none, .un 58 .not (.t 57)),
 (none, .mv 59 (.t 58)),
 (some (59, false), .fa 60 0 (.t 6)),
 (some (59, false), .ld 61 none (.t 60)),
 (some (59, false), .mv 62 (.t 61)),
 (some (62, true), .fa 63 1 (.t 6)),
 (some (62, true), .ld 64 none (.t 63)),
 (some (62, true), .fa 65 6 (.t 1)),
 (some (62, true), .fa 66 2 (.t 65)),
 (some (62, true), .ld 67 none (.t 66)),
 (some (62, true), .bi 68 .sub (.t 67) (.c (.n .i64 1))),
 (some (62, true), .ca (some 69) 116 [.t 64, .c (.n .i64 0), .t 68]),
 (some (62, true), .un 70 .not (.t 69)),
 (some (59, false), .pk 71 (.t 62) (.t 70) (.c (.b false))),
 (none, .pk 72 (.t 59) (.c (.b true)) (.t 71)),
 (none, .mv 73 (.t 72)),
 (some (73, false), .fa 74 0 (.t 6)),
 (some (73, false), .ld 75 none (.t 74)),
 (some (73, false), .un 76 .not (.t 75)),
 (some (73, false), .mv 77 (.t 76)),
 (some (77, true), .fa 78 1 (.t 6)),
 (some (77, true), .ld 79 none (.t 78)),
 (some (77, true), .fa 80 2 (.t 1)),
 (some (77, true), .fa 81 2 (.t 80)),
 (some (77, true), .ld 82 none (.t 81)),
 (some (77, true), .bi 83 .sub (.t 82) (.c (.n .i64 1))),
 (some (77, true), .ca (some 84) 116 [.t 79, .c (.n .i64 0), .t 83]),
 (some (77, true), .un 85 .not (.t 84)),
 (some (73, false), .pk 86 (.t 77) (.t 85) (.c (.b false))),
 (none, .pk 87 (.t 73) (.c (.b true)) (.t 86)),
 (none, .kp [1, 3, 4, 5, 6, 87])])
 (.ite (.t 87) (.seq (.rg [(none, .mv 2 (.c (.b false))),
 (none, .kp [2])])
 (.rt))
 (.sk)))
 (.seq (.rg [(none, .fa 88 0 (.t 6)),
 (none, .ld 89 none (.t 88)),
 (none, .kp [1, 3, 4, 5, 6, 89])])
 (.ite (.t 89) (.rg [(none, .mv 90 (.t 4)),
 (none, .fa 91 3 (.t 6)),
 (none, .ld 92 none (.t 91)),
 (none, .fa 93 10 (.t 1)),
 (none, .ld 94 none (.t 93)),
 (none, .ca (some 95) 77 [.t 92, .t 94]),
 (none, .bi 96 .add (.t 90) (.t 95)),
 (none, .mv 4 (.t 96)),
 (none, .kp [1, 3, 4, 5])])
 (.rg [(none, .mv 97 (.t 3)),
 (none, .fa 98 3 (.t 6)),
 (none, .ld 99 none (.t 98)),
 (none, .fa 100 10 (.t 1)),
 (none, .ld 101 none (.t 100)),
 (none, .ca (some 102) 77 [.t 99, .t 101]),
 (none, .bi 103 .add (.t 97) (.t 102)),
 (none, .mv 3 (.t 103)),
 (none, .kp [1, 3, 4, 5])]))))))
 (.rg [(none, .mv 47 (.t 5)),
 (none, .bi 48 .add (.t 47) (.c (.n .i64 1))),
 (none, .mv 5 (.t 48)),
 (none, .kp [1, 3, 4, 5])]))
def pc74 : PC := .seq (.rg [(none, .bx 1 (.t 0)),
 (none, .mv 2 (.c (.b false))),
 (none, .kp [1])])
 (.seq (.seq (.rg [(none, .fa 7 0 (.t 1)),
 (none, .ld 8 none (.t 7)),
 (none, .ca (some 9) 116 [.t 8, .c (.n .i64 1), .c (.n .i64 65535)]),
 (none, .un 10 .not (.t 9)),
 (none, .mv 11 (.t 10)),
 (some (11, false), .fa 12 1 (.t 1)),
 (some (11, false), .ld 13 none (.t 12)),
 (some (11, false), .ca (some 14) 116 [.t 13, .c (.n .i64 1), .c (.n .i64 65535)]),
 (some (11, false), .un 15 .not (.t 14)),
 (none, .pk 16 (.t 11) (.c (.b true)) (.t 15)),
 (none, .mv 17 (.t 16)),
 (some (17, false), .fa 18 0 (.t 1)),
 (some (17, false), .ld 19 none (.t 18)),
 (some (17, false), .fa 20 1 (.t 1)),
 (some (17, false), .ld 21 none (.t 20)),
 (some (17, false), .bi 22 .eql (.t 19) (.t 21)),
 (none, .pk 23 (.t 17) (.c (.b true)) (.t 22)),
 (none, .mv 24 (.t 23)),
 (some (24, false), .fa 25 2 (.t 1)),
 (some (24, false), .ld 26 (some 4) (.t 25)),
 (some (24, false), .ca (some 27) 136 [.t 26]),
 (some (24, false), .un 28 .not (.t 27)),
 (none, .pk 29 (.t 24) (.c (.b true)) (.t 28)),
 (none, .mv 30 (.t 29)),
 (some (30, false), .fa 31 6 (.t 1)),
 (some (30, false), .ld 32 (some 4) (.t 31)),
 (some (30, false), .ca (some 33) 136 [.t 32]),
 (some (30, false), .un 34 .not (.t 33)),
 (none, .pk 35 (.t 30) (.c (.b true)) (.t 34)),
 (none, .mv 36 (.t 35)),
 (some (36, false), .fa 37 10 (.t 1)),
 (some (36, false), .ld 38 none (.t 37)),
 (some (36, false), .ca (some 39) 116 [.t 38, .c (.n .i64 1), .c (.n .i64 20)]),
 (some (36, false), .un 40 .not (.t 39)),
 (none, .pk 41 (.t 36) (.c (.b true)) (.t 40)),
 (none, .kp [1, 41])])
 (.ite (.t 41) (.seq (.rg [(none, .mv 2 (.c (.b false))),
 (none, .kp [2])])
 (.rt))
 (.sk)))
 (.seq (.rg [(none, .mv 3 (.c (.n .i64 0))),
 (none, .kp [1, 3])])
 (.seq (.rg [(none, .mv 4 (.c (.n .i64 0))),
 (none, .kp [1, 3, 4])])
 (.seq (.seq (.rg [(none, .mv 5 (.c (.n .i64 0))),
 (none, .kp [1, 3, 4, 5])])
 (.blk 0 (.lp pc74l0)))
 (.seq (.rg [(none, .fa 104 11 (.t 1)),
 (none, .ld 105 none (.t 104)),
 (none, .ln 106 (.t 105)),
 (none, .bi 107 .leq (.t 106) (.c (.n .i64 4))),
 (none, .mv 108 (.t 107)),
 (some (108, true), .mv 109 (.t 3)),
 (some (108, true), .bi 110 .leq (.t 109) (.c (.n .i64 12))),
 (none, .pk 111 (.t 108) (.t 110) (.c (.b false))),
 (none, .mv 112 (.t 111)),
 (some (112, true), .mv 113 (.t 4)),
 (some (112, true), .bi 114 .leq (.t 113) (.c (.n .i64 12))),
 (none, .pk 115 (.t 112) (.t 114) (.c (.b false))),
 (none, .mv 2 (.t 115)),
 (none, .kp [2])])
 (.rt))))))
theorem mr74 : MrT Try.prog 74 pc74 [.t 2] 116 := fun hn h => spec_of_run (fn := Try.f74) (by kernel_rfl) rfl (by kernel_rfl) (by kernel_rfl) hn h
theorem mk74 : MkT Try.prog 74 pc74 [.t 2] 116 := mr74.k
theorem mw74 : MwT Try.prog 74 pc74 [.t 2] 116 := mr74.w
-- 75 spec.l41Hello
def pc75 : PC := .seq (.rg [(none, .bx 1 (.t 0)),
 (none, .mv 2 (.c .nil)),
 (none, .kp [1])])
 (.seq (.rg [(none, .fa 9 2 (.t 1)),
 (none, .ld 10 (some 4) (.t 9)),
 (none, .ca (some 11) 137 [.t 10, .c (.b false)]),
 (none, .mv 8 (.t 11)),
 (none, .ex 12 (.t 8) 0),
 (none, .ex 13 (.t 8) 1),
 (none, .al 3 [.n .i64 0, .n .i64 0, .s []]),
 (none, .st 3 (.t 3) (.t 12)),
 (none, .mv 4 (.t 13)),
 (none, .kp [1, 3])])
 (.seq (.rg [(none, .fa 15 6 (.t 1)),
 (none, .ld 16 (some 4) (.t 15)),
 (none, .ca (some 17) 137 [.t 16, .c (.b true)]),
 (none, .mv 14 (.t 17)),
 (none, .ex 18 (.t 14) 0),
 (none, .ex 19 (.t 14) 1),
 (none, .al 5 [.n .i64 0, .n .i64 0, .s []]),
 (none, .st 3 (.t 5) (.t 18)),
 (none, .mv 6 (.t 19)),
 (none, .kp [1, 3, 5])])
 (.seq (.rg [(none, .ld 20 (some 12) (.t 1)),
 (none, .ld 21 (some 3) (.t 3)),
 (none, .bs 22 3 1 [.n .i64 0, .n .i64 0, .s []] [(0, .t 21)]),
 (none, .ca (some 23) 80 [.t 20, .c (.b false), .t 22]),
 (none, .al 7 [.n .i64 0, .n .i64 0, .n .i64 0, .nil]),
 (none, .st 4 (.t 7) (.t 23)),
 (none, .kp [1, 5, 7])])
 (.seq (.rg [(none, .fa 24 2 (.t 7)),
 (none, .st 1 (.t 24) (.c (.n .i64 0))),
 (none, .kp [1, 5, 7])])
 (.seq (.dr [[], [], [], [2], [1, 2, 3], [], [1, 2, 3, 4, 5], [], [1, 2, 3, 4, 5, 6, 7], [0, 1, 2, 3, 4, 5, 6, 7, 8], [0, 1, 2, 3, 4, 5, 6, 7, 8, 9]]
 (.q 0 (none, .ld 25 (some 4) (.t 7))
 (.q 1 (none, .ld 26 (some 12) (.t 1))
 (.q 2 (none, .ld 27 (some 3) (.t 5))
 (.q 5 (none, .ld 30 (some 12) (.t 1))
 (.q 7 (none, .ld 32 (some 12) (.t 1))
 (.alt 3 (none, .bs 28 3 1 [.n .i64 0, .n .i64 0, .s []] [(0, .t 27)]) [true, true, false, true, true]
 (.alt 4 (none, .ca (some 29) 80 [.t 26, .c (.b true), .t 28]) [true, false, false, true, true]
 (.alt 6 (none, .ca (some 31) 81 [.t 30, .c (.b false), .c (.n .i64 10)]) [true, false, false, false, true]
 (.alt 8 (none, .ca (some 33) 81 [.t 32, .c (.b true), .c (.n .i64 11)]) [true, false, false, false, false]
 (.alt 9 (none, .bs 34 4 4 [.n .i64 0, .n .i64 0, .n .i64 0, .nil] [(0, .t 25), (1, .t 29), (2, .t 31), (3, .t 33)]) [false, false, false, false, false]
 (.q 10 (none, .mv 2 (.t 34))
 (.done))
 (.stop))
 (.stop))
 (.stop))
 (.stop))
 (.stop))))))) [2])
 (.rt))))))
theorem mr75 : MrT Try.prog 75 pc75 [.t 2] 35 := fun hn h => spec_of_run (fn := Try.f75) (by kernel_rfl) rfl (by kernel_rfl) (by kernel_rfl) hn h
theorem mk75 : MkT Try.prog 75 pc75 [.t 2] 35 := mr75.k
theorem mw75 : MwT Try.prog 75 pc75 [.t 2] 35 := mr75.w
-- 76 spec.l41Parts
def pc76l0 : PC := .seq (.seq (.rg [(none, .mv 40 (.t 10)),
 (none, .fa 41 3 (.t 8)),
 (none, .ld 42 none (.t 41)),
 (none, .lS 43 (.t 42)),
 (none, .bi 44 .lss (.t 40) (.t 43)),
 (none, .mv 45 (.t 44)),
 (some (45, true), .fa 46 0 (.t 8)),
 (some (45, true), .ld 47 none (.t 46)),
 (some (45, true), .mv 48 (.t 1)),
 (some (45, true), .bb 49 false (.t 47) (.t 48)),
 (none, .pk 50 (.t 45) (.t 49) (.c (.b false))),
 (none, .kp [1, 2, 5, 6, 7, 8, 9, 10, 50])])
 (.ite (.t 50) (.sk)
 (.ex 2)))
 (.seq (.blk 3 (.seq (.rg [(none, .mv 55 (.t 10)),
 (none, .fa 56 10 (.t 2)),
 (none, .ld 57 none (.t 56)),
 (none, .bi 58 .add (.t 55) (.t 57)),
 (none, .fa 59 3 (.t 8)),
 (none, .ld 60 none (.t 59)),
 (none, .lS 61 (.t 60)),
 (none, .mn 62 (.t 58) (.t 61)),
 (none, .mv 11 (.t 62)),
 (none, .kp [1, 2, 5, 6, 7, 8, 9, 10, 11])])
 (.seq (.dr [[], [], [1], [0, 1, 2], [], [4], [], [], [7], [], [9], [], [], [9, 10, 11, 12], [0, 1, 2, 3, 4, 5, 6, 7, 8, 9, 10, 11, 12, 13], [], [0, 1, 2, 3, 4, 5, 6, 7, 8, 9, 10, 11, 12, 13, 14, 15]]
 (.q 0 (none, .mv 63 (.t 5))
 (.q 1 (none, .mv 64 (.t 6))
 (.q 2 (none, .ln 65 (.t 64))
 (.q 4 (none, .fa 67 1 (.t 8))
 (.q 5 (none, .ld 68 none (.t 67))
 (.q 6 (none, .mv 69 (.t 9))
 (.q 7 (none, .fa 70 2 (.t 8))
 (.q 8 (none, .ld 71 none (.t 70))
 (.q 9 (none, .fa 72 3 (.t 8))
 (.q 10 (none, .ld 73 none (.t 72))
 (.q 11 (none, .mv 74 (.t 10))
 (.q 12 (none, .mv 75 (.t 11))
 (.q 13 (none, .sS 76 (.t 73) (some (.t 74)) (some (.t 75)))
 (.alt 3 (none, .ca (some 66) 139 [.t 63, .t 65]) [false, false, false, true, true, true, true, true, true, true, true, true, true]
 (.q 14 (none, .bd 77 [.n .i64 0, .n .i64 0, .n .i64 0, .b false, .b false, .b false, .s []] [(0, 1, .t 66), (1, 1, .t 68), (2, 1, .t 69), (5, 1, .t 71), (6, 1, .t 76)])
 (.alt 15 (none, .al 12 [.n .i64 0, .n .i64 0, .n .i64 0, .b false, .b false, .b false, .s []]) [true, true, true, true, true, true, true, true, true, true, true, true, true, true]
 (.alt 16 (none, .st 7 (.t 12) (.t 77)) [false, false, false, false, false, false, false, false, false, false, false, false, false, false]
 (.done)
 (.stop))
 (.stop)))
 (.alt 15 (none, .al 12 [.n .i64 0, .n .i64 0, .n .i64 0, .b false, .b false, .b false, .s []]) [true, true, true, true, true, true, true, true, true, true, true, true, true]
 (.alt 3 (none, .ca (some 66) 139 [.t 63, .t 65]) [false, false, false, true, true, true, true, true, true, true, true, true, true]
 (.q 14 (none, .bd 77 [.n .i64 0, .n .i64 0, .n .i64 0, .b false, .b false, .b false, .s []] [(0, 1, .t 66), (1, 1, .t 68), (2, 1, .t 69), (5, 1, .t 71), (6, 1, .t 76)])
 (.alt 16 (none, .st 7 (.t 12) (.t 77)) [false, false, false, false, false, false, false, false, false, false, false, false, false, false]
 (.done)
 (.stop)))
 (.stop))
 (.stop)))))))))))))))) [1, 2, 5, 6, 7, 8, 9, 10, 11, 12])
 (.seq (.rg [(none, .mv 78 (.t 10)),
 (none, .bi 79 .eql (.t 78) (.c (.n .i64 0))),
 (none, .fa 80 3 (.t 12)),
 (none, .st 1 (.t 80) (.t 79)),
 (none, .kp [1, 2, 5, 6, 7, 8, 9, 10, 11, 12])])
 (.seq (.rg [(none, .mv 81 (.t 11)),
 (none, .fa 82 3 (.t 8)),
 (none, .ld 83 none (.t 82)),
 (none, .lS 84 (.t 83)),
 (none, .bi 85 .eql (.t 81) (.t 84)),
 (none, .fa 86 4 (.t 12)),
 (none, .st 1 (.t 86) (.t 85)),
 (none, .kp [1, 2, 5, 6, 7, 8, 9, 10, 12])])
 (.rg [(none, .mv 87 (.t 6)),
 (none, .ld 88 (some 7) (.t 12)),
 (none, .bs 89 7 1 [.n .i64 0, .n .i64 0, .n .i64 0, .b false, .b false, .b false, .s []] [(0, .t 88)]),
 (none, .ap 90 7 48 (.t 87) (.t 89)),
 (none, .mv 6 (.t 90)),
 (none, .kp [1, 2, 5, 6, 7, 8, 9, 10])]))))))
 (.rg [(none, .mv 51 (.t 10)),
 (none, .fa 52 10 (.t 2)),
 (none, .ld 53 none (.t 52)),
 (none, .bi 54 .add (.t 51) (.t 53)),
 (none, .mv 10 (.t 54)),
 (none, .kp [1, 2, 5, 6, 7, 8, 9, 10])]))
def pc76l1 : PC := .seq (.seq (.rg [(none, .mv 21 (.t 7)),
 (none, .fa 22 11 (.t 2)),
 (none, .ld 23 none (.t 22)),
 (none, .ln 24 (.t 23)),
 (none, .bi 25 .lss (.t 21) (.t 24)),
 (none, .kp [1, 2, 5, 6, 7, 25])])
 (.ite (.t 25) (.sk)
 (.ex 0)))
 (.seq (.blk 1 (.seq (.rg [(none, .fa 28 11 (.t 2)),
 (none, .ld 29 none (.t 28)),
 (none, .mv 30 (.t 7)),
 (none, .ia 31 4 (.t 29) (.t 30)),
 (none, .ld 32 (some 4) (.t 31)),
 (none, .al 8 [.b false, .n .i64 0, .b false, .s []]),
 (none, .st 4 (.t 8) (.t 32)),
 (none, .kp [1, 2, 5, 6, 7, 8])])
 (.seq (.rg [(none, .mv 9 (.c (.n .i64 0))),
 (none, .kp [1, 2, 5, 6, 7, 8, 9])])
 (.seq (.seq (.rg [(none, .fa 33 2 (.t 8)),
 (none, .ld 34 none (.t 33)),
 (none, .un 35 .not (.t 34)),
 (none, .kp [1, 2, 5, 6, 7, 8, 9, 35])])
 (.ite (.t 35) (.rg [(none, .mv 36 (.t 6)),
 (none, .fa 37 1 (.t 8)),
 (none, .ld 38 none (.t 37)),
 (none, .ca (some 39) 138 [.t 36, .t 38]),
 (none, .mv 9 (.t 39)),
 (none, .kp [1, 2, 5, 6, 7, 8, 9])])
 (.sk)))
 (.seq (.rg [(none, .mv 10 (.c (.n .i64 0))),
 (none, .kp [1, 2, 5, 6, 7, 8, 9, 10])])
 (.blk 2 (.lp pc76l0)))))))
 (.rg [(none, .mv 26 (.t 7)),
 (none, .bi 27 .add (.t 26) (.c (.n .i64 1))),
 (none, .mv 7 (.t 27)),
 (none, .kp [1, 2, 5, 6, 7])]))
def pc76 : PC := .seq (.rg [(none, .bx 2 (.t 0)),
 (none, .mv 4 (.c .nil)),
 (none, .kp [1, 2])])
 (.seq (.rg [(none, .fa 13 2 (.t 2)),
 (none, .fa 14 3 (.t 13)),
 (none, .ld 15 none (.t 14)),
 (none, .mv 5 (.t 15)),
 (none, .kp [1, 2, 5])])
 (.seq (.seq (.rg [(none, .mv 16 (.t 1)),
 (none, .kp [1, 2, 5, 16])])
 (.ite (.t 16) (.rg [(none, .fa 17 6 (.t 2)),
 (none, .fa 18 3 (.t 17)),
 (none, .ld 19 none (.t 18)),
 (none, .mv 5 (.t 19)),
 (none, .kp [1, 2, 5])])
 (.sk)))
 (.seq (.rg [(none, .bs 20 7 0 [.n .i64 0, .n .i64 0, .n .i64 0, .b false, .b false, .b false, .s []] []),
 (none, .mv 6 (.t 20)),
 (none, .kp [1, 2, 5, 6])])
 (.seq (.seq (.rg [(none, .mv 7 (.c (.n .i64 0))),
 (none, .kp [1, 2, 5, 6, 7])])
 (.blk 0 (.lp pc76l1)))
 (.seq (.rg [(none, .mv 91 (.t 6)),
 (none, .mv 4 (.t 91)),
 (none, .kp [4])])
 (.rt))))))
theorem mr76 : MrT Try.prog 76 pc76 [.t 4] 92 := fun hn h => spec_of_run (fn := Try.f76) (by kernel_rfl) rfl (by kernel_rfl) (by kernel_rfl) hn h
theorem mk76 : MkT Try.prog 76 pc76 [.t 4] 92 := mr76.k
theorem mw76 : MwT Try.prog 76 pc76 [.t 4] 92 := mr76.w
-- 77 spec.l41Many
def pc77 : PC := .seq (.rg [(none, .mv 4 (.c (.n .i64 0))),
 (none, .kp [0, 1])])
 (.seq (.rg [(none, .mv 5 (.t 0)),
 (none, .lS 6 (.t 5)),
 (none, .mv 7 (.t 1)),
 (none, .bi 8 .add (.t 6) (.t 7)),
 (none, .bi 9 .sub (.t 8) (.c (.n .i64 1))),
 (none, .mv 10 (.t 1)),
 (none, .bi 11 .quo (.t 9) (.t 10)),
 (none, .mv 4 (.t 11)),
 (none, .kp [4])])
 (.rt))
theorem mr77 : MrT Try.prog 77 pc77 [.t 4] 12 := fun hn h => spec_of_run (fn := Try.f77) (by kernel_rfl) rfl (by kernel_rfl) (by kernel_rfl) hn h
theorem mk77 : MkT Try.prog 77 pc77 [.t 4] 12 := mr77.k
theorem mw77 : MwT Try.prog 77 pc77 [.t 4] 12 := mr77.w
-- 78 spec.DataPut
def pc78 : PC := .seq (.rg [(none, .bx 1 (.t 0)),
 (none, .al 2 [.n .i64 0, .n .i64 0, .s []]),
 (none, .mv 3 (.c (.b false))),
 (none, .kp [1, 2])])
 (.seq (.seq (.rg [(none, .ld 5 (some 7) (.t 1)),
 (none, .ca (some 6) 140 [.t 5]),
 (none, .un 7 .not (.t 6)),
 (none, .kp [1, 2, 7])])
 (.ite (.t 7) (.seq (.rg [(none, .bd 8 [.n .i64 0, .n .i64 0, .s []] []),
 (none, .st 3 (.t 2) (.t 8)),
 (none, .mv 3 (.c (.b false))),
 (none, .kp [2, 3])])
 (.rt))
 (.sk)))
 (.seq (.dr [[], [0], [0, 1], [], [3], [0, 1, 2, 3, 4], [0, 1, 2, 3, 4, 5], [], [7], [0, 1, 2, 3, 4, 5, 7, 8], [0, 1, 2, 3, 4, 5, 6, 7, 8, 9], [0, 1, 2, 3, 4, 5, 6, 7, 8, 9, 10]]
 (.q 0 (none, .fa 9 4 (.t 1))
 (.q 1 (none, .ld 10 none (.t 9))
 (.q 3 (none, .fa 12 3 (.t 1))
 (.q 4 (none, .ld 13 none (.t 12))
 (.q 7 (none, .fa 16 5 (.t 1))
 (.q 8 (none, .ld 17 none (.t 16))
 (.alt 2 (none, .ca (some 11) 141 [.t 10, .c (.n .i64 1)]) [false, false, true, true, true, true]
 (.alt 5 (none, .ca (some 14) 141 [.t 13, .c (.n .i64 2)]) [false, false, false, false, true, true]
 (.q 6 (none, .bi 15 .add (.t 11) (.t 14))
 (.alt 9 (none, .ca (some 18) 141 [.t 17, .c (.n .i64 4)]) [false, false, false, false, false, false, true]
 (.q 10 (none, .bi 19 .add (.t 15) (.t 18))
 (.q 11 (none, .mv 4 (.t 19))
 (.done)))
 (.stop)))
 (.stop))
 (.stop)))))))) [1, 2, 4])
 (.seq (.dr [[], [], [1], [1, 2], [], [4], [1, 2, 3, 4, 5], [1, 2, 3, 4, 5, 6], [], [8], [1, 2, 3, 4, 5, 6, 8, 9], [1, 2, 3, 4, 5, 6, 7, 8, 9, 10], [], [12], [1, 2, 3, 4, 5, 6, 7, 8, 9, 10, 11, 12, 13], [0, 1, 2, 3, 4, 5, 6, 7, 8, 9, 10, 11, 12, 13, 14], [0, 1, 2, 3, 4, 5, 6, 7, 8, 9, 10, 11, 12, 13, 14, 15], [0, 1, 2, 3, 4, 5, 6, 7, 8, 9, 10, 11, 12, 13, 14, 15, 16]]
 (.q 0 (none, .mv 20 (.t 4))
 (.q 1 (none, .fa 21 0 (.t 1))
 (.q 2 (none, .ld 22 none (.t 21))
 (.q 4 (none, .fa 24 1 (.t 1))
 (.q 5 (none, .ld 25 none (.t 24))
 (.q 8 (none, .fa 28 2 (.t 1))
 (.q 9 (none, .ld 29 none (.t 28))
 (.q 12 (none, .fa 32 6 (.t 1))
 (.q 13 (none, .ld 33 none (.t 32))
 (.alt 3 (none, .ca (some 23) 142 [.t 22]) [true, false, false, true, true, true, true, true, true]
 (.alt 6 (none, .ca (some 26) 142 [.t 25]) [true, false, false, false, false, true, true, true, true]
 (.q 7 (none, .bi 27 .add (.t 23) (.t 26))
 (.alt 10 (none, .ca (some 30) 142 [.t 29]) [true, false, false, false, false, false, false, true, true, true]
 (.q 11 (none, .bi 31 .add (.t 27) (.t 30))
 (.q 14 (none, .bi 34 .add (.t 31) (.t 33))
 (.q 15 (none, .bd 35 [.n .i64 0, .n .i64 0, .s []] [(0, 1, .c (.n .i64 0)), (1, 1, .t 20), (2, 1, .t 34)])
 (.alt 16 (none, .st 3 (.t 2) (.t 35)) [false, false, false, false, false, false, false, false, false, false, false, false, false]
 (.q 17 (none, .mv 3 (.c (.b true)))
 (.done))
 (.stop)))))
 (.stop)))
 (.stop))
 (.stop))))))))))) [2, 3])
 (.rt))))
theorem mr78 : MrT Try.prog 78 pc78 [.c 2 (some 3), .t 3] 36 := fun hn h => spec_of_run (fn := Try.f78) (by kernel_rfl) rfl (by kernel_rfl) (by kernel_rfl) hn h
theorem mk78 : MkT Try.prog 78 pc78 [.c 2 (some 3), .t 3] 36 := mr78.k
theorem mw78 : MwT Try.prog 78 pc78 [.c 2 (some 3), .t 3] 36 := mr78.w
-- 79 spec.SackPut
def pc79l0 : PC := .seq (.seq (.rg [(none, .mv 13 (.t 5)),
 (none, .fa 14 1 (.t 1)),
 (none, .ld 15 none (.t 14)),
 (none, .ln 16 (.t 15)),
 (none, .bi 17 .lss (.t 13) (.t 16)),
 (none, .kp [1, 2, 4, 5, 17])])
 (.ite (.t 17) (.sk)
 (.ex 0)))
 (.seq (.blk 1 (.dr [[], [], [1], [], [1, 2, 3], [1, 2, 3, 4], [1, 2, 3, 4, 5], [1, 2, 3, 4, 5, 6], [0, 1, 2, 3, 4, 5, 6, 7], [], [9], [], [9, 10, 11], [9, 10, 11, 12], [9, 10, 11, 12, 13], [1, 2, 3, 4, 5, 6, 7, 9, 10, 11, 12, 13, 14], [0, 1, 2, 3, 4, 5, 6, 7, 8, 9, 10, 11, 12, 13, 14, 15], [0, 1, 2, 3, 4, 5, 6, 7, 8, 9, 10, 11, 12, 13, 14, 15, 16]]
 (.q 0 (none, .mv 20 (.t 4))
 (.q 1 (none, .fa 21 1 (.t 1))
 (.q 2 (none, .ld 22 none (.t 21))
 (.q 3 (none, .mv 23 (.t 5))
 (.q 4 (none, .ia 24 2 (.t 22) (.t 23))
 (.q 5 (none, .fa 25 0 (.t 24))
 (.q 6 (none, .ld 26 none (.t 25))
 (.q 9 (none, .fa 29 1 (.t 1))
 (.q 10 (none, .ld 30 none (.t 29))
 (.q 11 (none, .mv 31 (.t 5))
 (.q 12 (none, .ia 32 2 (.t 30) (.t 31))
 (.q 13 (none, .fa 33 1 (.t 32))
 (.q 14 (none, .ld 34 none (.t 33))
 (.alt 7 (none, .ca (some 27) 142 [.t 26]) [true, false, false, false, false, false, false, true, true, true, true, true, true]
 (.q 8 (none, .bi 28 .add (.t 20) (.t 27))
 (.alt 15 (none, .ca (some 35) 142 [.t 34]) [true, false, false, false, false, false, false, false, false, false, false, false, false, true]
 (.q 16 (none, .bi 36 .add (.t 28) (.t 35))
 (.alt 17 (none, .mv 4 (.t 36)) [false, false, false, false, false, false, false, false, false, false, false, false, false, false, false]
 (.done)
 (.stop)))
 (.stop)))
 (.stop))))))))))))))) [1, 2, 4, 5]))
 (.rg [(none, .mv 18 (.t 5)),
 (none, .bi 19 .add (.t 18) (.c (.n .i64 1))),
 (none, .mv 5 (.t 19)),
 (none, .kp [1, 2, 4, 5])]))
def pc79 : PC := .seq (.rg [(none, .bx 1 (.t 0)),
 (none, .al 2 [.n .i64 0, .n .i64 0, .s []]),
 (none, .mv 3 (.c (.b false))),
 (none, .kp [1, 2])])
 (.seq (.seq (.rg [(none, .ld 6 (some 2) (.t 1)),
 (none, .ca (some 7) 143 [.t 6]),
 (none, .un 8 .not (.t 7)),
 (none, .kp [1, 2, 8])])
 (.ite (.t 8) (.seq (.rg [(none, .bd 9 [.n .i64 0, .n .i64 0, .s []] []),
 (none, .st 3 (.t 2) (.t 9)),
 (none, .mv 3 (.c (.b false))),
 (none, .kp [2, 3])])
 (.rt))
 (.sk)))
 (.seq (.rg [(none, .fa 10 0 (.t 1)),
 (none, .ld 11 none (.t 10)),
 (none, .ca (some 12) 142 [.t 11]),
 (none, .mv 4 (.t 12)),
 (none, .kp [1, 2, 4])])
 (.seq (.seq (.rg [(none, .mv 5 (.c (.n .i64 0))),
 (none, .kp [1, 2, 4, 5])])
 (.blk 0 (.lp pc79l0)))
 (.seq (.rg [(none, .mv 37 (.t 4)),
 (none, .bd 38 [.n .i64 0, .n .i64 0, .s []] [(0, 1, .c (.n .i64 3)), (2, 1, .t 37)]),
 (none, .st 3 (.t 2) (.t 38)),
 (none, .mv 3 (.c (.b true))),
 (none, .kp [2, 3])])
 (.rt)))))
theorem mr79 : MrT Try.prog 79 pc79 [.c 2 (some 3), .t 3] 39 := fun hn h => spec_of_run (fn := Try.f79) (by kernel_rfl) rfl (by kernel_rfl) (by kernel_rfl) hn h
theorem mk79 : MkT Try.prog 79 pc79 [.c 2 (some 3), .t 3] 39 := mr79.k
theorem mw79 : MwT Try.prog 79 pc79 [.c 2 (some 3), .t 3] 39 := mr79.w
-- 80 spec.l41Packet
def pc80 : PC := .seq (.rg [(none, .bx 3 (.t 0)),
 (none, .al 6 [.n .i64 0, .n .i64 0, .n .i64 0, .nil]),
 (none, .kp [1, 2, 3, 6])])
 (.seq (.seq (.rg [(none, .mv 7 (.t 1)),
 (none, .kp [2, 3, 6, 7])])
 (.ite (.t 7) (.seq (.rg [(none, .fa 8 1 (.t 3)),
 (none, .ld 9 none (.t 8)),
 (none, .fa 10 0 (.t 3)),
 (none, .ld 11 none (.t 10)),
 (none, .fa 12 2 (.t 3)),
 (none, .fa 13 0 (.t 12)),
 (none, .ld 14 none (.t 13)),
 (none, .mv 15 (.t 2)),
 (none, .bd 16 [.n .i64 0, .n .i64 0, .n .i64 0, .nil] [(0, 1, .t 9), (1, 1, .t 11), (2, 1, .t 14), (3, 1, .t 15)]),
 (none, .st 4 (.t 6) (.t 16)),
 (none, .kp [6])])
 (.rt))
 (.sk)))
 (.seq (.rg [(none, .fa 17 0 (.t 3)),
 (none, .ld 18 none (.t 17)),
 (none, .fa 19 1 (.t 3)),
 (none, .ld 20 none (.t 19)),
 (none, .fa 21 6 (.t 3)),
 (none, .fa 22 0 (.t 21)),
 (none, .ld 23 none (.t 22)),
 (none, .mv 24 (.t 2)),
 (none, .bd 25 [.n .i64 0, .n .i64 0, .n .i64 0, .nil] [(0, 1, .t 18), (1, 1, .t 20), (2, 1, .t 23), (3, 1, .t 24)]),
 (none, .st 4 (.t 6) (.t 25)),
 (none, .kp [6])])
 (.rt)))
theorem mr80 : MrT Try.prog 80 pc80 [.c 6 (some 4)] 26 := fun hn h => spec_of_run (fn := Try.f80) (by kernel_rfl) rfl (by kernel_rfl) (by kernel_rfl) hn h
theorem mk80 : MkT Try.prog 80 pc80 [.c 6 (some 4)] 26 := mr80.k
theorem mw80 : MwT Try.prog 80 pc80 [.c 6 (some 4)] 26 := mr80.w
-- 81 spec.l41One
def pc81 : PC := .seq (.rg [(none, .bx 3 (.t 0)),
 (none, .al 6 [.n .i64 0, .n .i64 0, .n .i64 0, .nil]),
 (none, .kp [1, 2, 3, 6])])
 (.seq (.rg [(none, .ld 7 (some 12) (.t 3)),
 (none, .mv 8 (.t 1)),
 (none, .mv 9 (.t 2)),
 (none, .bd 10 [.n .i64 0, .n .i64 0, .s []] [(0, 1, .t 9)]),
 (none, .bs 11 3 1 [.n .i64 0, .n .i64 0, .s []] [(0, .t 10)]),
 (none, .ca (some 12) 80 [.t 7, .t 8, .t 11]),
 (none, .st 4 (.t 6) (.t 12)),
 (none, .kp [6])])
 (.rt))
theorem mr81 : MrT Try.prog 81 pc81 [.c 6 (some 4)] 13 := fun hn h => spec_of_run (fn := Try.f81) (by kernel_rfl) rfl (by kernel_rfl) (by kernel_rfl) hn h
theorem mk81 : MkT Try.prog 81 pc81 [.c 6 (some 4)] 13 := mr81.k
theorem mw81 : MwT Try.prog 81 pc81 [.c 6 (some 4)] 13 := mr81.w
-- 84 impl.TalkPackets$1
def pc84 : PC := .seq (.rg [(none, .bx 6 (.t 1)),
 (none, .kp [0, 2, 3, 4, 6])])
 (.seq (.rg [(none, .fa 9 0 (.t 3)),
 (none, .ld 10 none (.t 9)),
 (none, .fa 11 1 (.t 3)),
 (none, .ld 12 none (.t 11)),
 (none, .mv 13 (.t 2)),
 (none, .ld 14 (some 3) (.t 6)),
 (none, .bs 15 3 1 [.n .i64 0, .n .i64 0, .s []] [(0, .t 14)]),
 (none, .bd 16 [.n .i64 0, .n .i64 0, .n .i64 0, .nil] [(0, 1, .t 10), (1, 1, .t 12), (2, 1, .t 13), (3, 1, .t 15)]),
 (none, .al 8 [.n .i64 0, .n .i64 0, .n .i64 0, .nil]),
 (none, .st 4 (.t 8) (.t 16)),
 (none, .kp [0, 3, 4, 8])])
 (.seq (.seq (.rg [(none, .mv 17 (.t 0)),
 (none, .kp [3, 4, 8, 17])])
 (.ite (.t 17) (.dr [[], [0], [], [2], [0, 1], [0, 1, 4], [0, 1, 2, 3, 4, 5], [0, 1, 2, 3, 4, 5, 6]]
 (.q 0 (none, .fa 18 1 (.t 3))
 (.q 1 (none, .ld 19 none (.t 18))
 (.q 2 (none, .fa 20 0 (.t 3))
 (.q 3 (none, .ld 21 none (.t 20))
 (.q 4 (none, .fa 22 0 (.t 8))
 (.alt 5 (none, .st 1 (.t 22) (.t 19)) [false, false, true, true, false]
 (.q 6 (none, .fa 23 1 (.t 8))
 (.alt 7 (none, .st 1 (.t 23) (.t 21)) [false, false, false, false, false, false]
 (.done)
 (.stop)))
 (.stop))))))) [4, 8])
 (.sk)))
 (.rg [(none, .ld 24 none (.t 4)),
 (none, .ld 25 (some 4) (.t 8)),
 (none, .bs 26 4 1 [.n .i64 0, .n .i64 0, .n .i64 0, .nil] [(0, .t 25)]),
 (none, .ap 27 4 48 (.t 24) (.t 26)),
 (none, .st 1 (.t 4) (.t 27)),
 (none, .kp [])])))
theorem mr84 : MrT Try.prog 84 pc84 [] 28 := fun hn h => spec_of_run (fn := Try.f84) (by kernel_rfl) rfl (by kernel_rfl) (by kernel_rfl) hn h
theorem mk84 : MkT Try.prog 84 pc84 [] 28 := mr84.k
theorem mw84 : MwT Try.prog 84 pc84 [] 28 := mr84.w
-- 85 impl.TalkPackets$2
def pc85 : PC := .seq (.rg [(none, .bx 5 (.t 1)),
 (none, .kp [0, 2, 3, 5])])
 (.seq (.rg [(none, .mv 6 (.t 0)),
 (none, .kp [2, 3, 5, 6])])
 (.ite (.t 6) (.rg [(none, .ld 7 none (.t 2)),
 (none, .ld 8 (some 3) (.t 5)),
 (none, .fa 9 2 (.t 3)),
 (none, .fa 10 0 (.t 9)),
 (none, .ld 11 none (.t 10)),
 (none, .cf (some 12) 84 (.t 7) [.c (.b true), .t 8, .t 11]),
 (none, .kp [])])
 (.rg [(none, .ld 13 none (.t 2)),
 (none, .ld 14 (some 3) (.t 5)),
 (none, .fa 15 6 (.t 3)),
 (none, .fa 16 0 (.t 15)),
 (none, .ld 17 none (.t 16)),
 (none, .cf (some 18) 84 (.t 13) [.c (.b false), .t 14, .t 17]),
 (none, .kp [])])))
theorem mr85 : MrT Try.prog 85 pc85 [] 19 := fun hn h => spec_of_run (fn := Try.f85) (by kernel_rfl) rfl (by kernel_rfl) (by kernel_rfl) hn h
theorem mk85 : MkT Try.prog 85 pc85 [] 19 := mr85.k
theorem mw85 : MwT Try.prog 85 pc85 [] 19 := mr85.w
-- 86 impl.InitPut
def pc86 : PC := .seq (.rg [(none, .bx 2 (.t 0)),
 (none, .al 4 [.n .i64 0, .n .i64 0, .s []]),
 (none, .mv 5 (.c (.b false))),
 (none, .kp [1, 2, 4])])
 (.seq (.seq (.rg [(none, .ld 9 (some 4) (.t 2)),
 (none, .ca (some 10) 108 [.t 9]),
 (none, .un 11 .not (.t 10)),
 (none, .kp [1, 2, 4, 11])])
 (.ite (.t 11) (.seq (.rg [(none, .bd 12 [.n .i64 0, .n .i64 0, .s []] []),
 (none, .st 3 (.t 4) (.t 12)),
 (none, .mv 5 (.c (.b false))),
 (none, .kp [4, 5])])
 (.rt))
 (.sk)))
 (.seq (.rg [(none, .mv 6 (.c (.n .i64 1))),
 (none, .kp [1, 2, 4, 6])])
 (.seq (.seq (.rg [(none, .mv 13 (.t 1)),
 (none, .kp [2, 4, 6, 13])])
 (.ite (.t 13) (.rg [(none, .mv 6 (.c (.n .i64 2))),
 (none, .kp [2, 4, 6])])
 (.sk)))
 (.seq (.rg [(none, .fa 15 0 (.t 2)),
 (none, .ld 16 none (.t 15)),
 (none, .ca (some 17) 98 [.t 16]),
 (none, .mv 14 (.t 17)),
 (none, .ex 18 (.t 14) 0),
 (none, .ex 19 (.t 14) 1),
 (none, .mv 7 (.t 18)),
 (none, .mv 8 (.t 19)),
 (none, .kp [2, 4, 6, 7])])
 (.seq (.rg [(none, .mv 20 (.t 6)),
 (none, .mv 21 (.t 7)),
 (none, .fa 22 1 (.t 2)),
 (none, .ld 23 none (.t 22)),
 (none, .fa 24 2 (.t 2)),
 (none, .ld 25 none (.t 24)),
 (none, .fa 26 3 (.t 2)),
 (none, .ld 27 none (.t 26)),
 (none, .bs 28 1 3 [.n .i64 0] [(0, .t 23), (1, .t 25), (2, .t 27)]),
 (none, .ca (some 29) 99 [.t 28]),
 (none, .bi 30 .add (.t 21) (.t 29)),
 (none, .bd 31 [.n .i64 0, .n .i64 0, .s []] [(0, 1, .t 20), (2, 1, .t 30)]),
 (none, .st 3 (.t 4) (.t 31)),
 (none, .mv 5 (.c (.b true))),
 (none, .kp [4, 5])])
 (.rt))))))
theorem mr86 : MrT Try.prog 86 pc86 [.c 4 (some 3), .t 5] 32 := fun hn h => spec_of_run (fn := Try.f86) (by kernel_rfl) rfl (by kernel_rfl) (by kernel_rfl) hn h
theorem mk86 : MkT Try.prog 86 pc86 [.c 4 (some 3), .t 5] 32 := mr86.k
theorem mw86 : MwT Try.prog 86 pc86 [.c 4 (some 3), .t 5] 32 := mr86.w
-- 87 impl.partsOf
def pc87l0 : PC := .seq (.seq (.rg [(none, .mv 50 (.t 11)),
 (none, .fa 51 3 (.t 7)),
 (none, .ld 52 none (.t 51)),
 (none, .lS 53 (.t 52)),
 (none, .bi 54 .lss (.t 50) (.t 53)),
 (none, .kp [1, 3, 4, 5, 7, 8, 9, 10, 11, 23, 24, 25, 54])])
 (.ite (.t 54) (.sk)
 (.ex 2)))
 (.seq (.blk 3 (.seq (.rg [(none, .mv 59 (.t 11)),
 (none, .fa 60 10 (.t 1)),
 (none, .ld 61 none (.t 60)),
 (none, .bi 62 .add (.t 59) (.t 61)),
 (none, .fa 63 3 (.t 7)),
 (none, .ld 64 none (.t 63)),
 (none, .lS 65 (.t 64)),
 (none, .mn 66 (.t 62) (.t 65)),
 (none, .mv 12 (.t 66)),
 (none, .kp [1, 3, 4, 5, 7, 8, 9, 10, 11, 12, 23, 24, 25])])
 (.seq (.dr [[], [], [1], [], [3], [3, 4], [], [6], [], [], [9], [], [], [12], [12, 13], [11, 12, 13, 14], [], [16], [], [18], [], [], [18, 19, 20, 21], [3, 4, 5, 6, 7, 8, 9, 10, 11, 12, 13, 14, 15, 16, 17, 18, 19, 20, 21, 22], [1, 2, 3, 4, 5, 6, 7, 8, 9, 10, 11, 12, 13, 14, 15, 16, 17, 18, 19, 20, 21, 22, 23], [1, 2, 3, 4, 5, 6, 7, 8, 9, 10, 11, 12, 13, 14, 15, 16, 17, 18, 19, 20, 21, 22, 23, 24], [0, 1, 2, 3, 4, 5, 6, 7, 8, 9, 10, 11, 12, 13, 14, 15, 16, 17, 18, 19, 20, 21, 22, 23, 24, 25], [0, 1, 2, 3, 4, 5, 6, 7, 8, 9, 10, 11, 12, 13, 14, 15, 16, 17, 18, 19, 20, 21, 22, 23, 24, 25, 26]]
 (.q 0 (none, .mv 67 (.t 10))
 (.q 1 (none, .fa 68 0 (.t 7))
 (.q 2 (none, .ld 69 none (.t 68))
 (.q 3 (none, .mv 70 (.t 8))
 (.q 4 (none, .iA 71 2 1 (.t 4) (.t 70))
 (.q 5 (none, .ld 72 none (.t 71))
 (.q 6 (none, .fa 73 1 (.t 7))
 (.q 7 (none, .ld 74 none (.t 73))
 (.q 8 (none, .mv 75 (.t 9))
 (.q 9 (none, .mv 76 (.t 11))
 (.q 10 (none, .bi 77 .eql (.t 76) (.c (.n .i64 0)))
 (.q 11 (none, .mv 78 (.t 12))
 (.q 12 (none, .fa 79 3 (.t 7))
 (.q 13 (none, .ld 80 none (.t 79))
 (.q 14 (none, .lS 81 (.t 80))
 (.q 15 (none, .bi 82 .eql (.t 78) (.t 81))
 (.q 16 (none, .fa 83 2 (.t 7))
 (.q 17 (none, .ld 84 none (.t 83))
 (.q 18 (none, .fa 85 3 (.t 7))
 (.q 19 (none, .ld 86 none (.t 85))
 (.q 20 (none, .mv 87 (.t 11))
 (.q 21 (none, .mv 88 (.t 12))
 (.q 22 (none, .sS 89 (.t 86) (some (.t 87)) (some (.t 88)))
 (.q 23 (none, .bd 90 [.n .i64 0, .n .i64 0, .n .i64 0, .b false, .b false, .b false, .s []] [(0, 1, .t 72), (1, 1, .t 74), (2, 1, .t 75), (3, 1, .t 77), (4, 1, .t 82), (5, 1, .t 84), (6, 1, .t 89)])
 (.q 24 (none, .bd 91 [.b false, .n .i64 0, .n .i64 0, .n .i64 0, .b false, .b false, .b false, .s []] [(0, 1, .t 69), (1, 7, .t 90)])
 (.alt 25 (none, .bs 92 8 1 [.b false, .n .i64 0, .n .i64 0, .n .i64 0, .b false, .b false, .b false, .s []] [(0, .t 91)]) [true, false, false, false, false, false, false, false, false, false, false, false, false, false, false, false, false, false, false, false, false, false, false, false, false]
 (.alt 26 (none, .ap 93 8 56 (.t 67) (.t 92)) [false, false, false, false, false, false, false, false, false, false, false, false, false, false, false, false, false, false, false, false, false, false, false, false, false]
 (.alt 27 (none, .mv 10 (.t 93)) [false, false, false, false, false, false, false, false, false, false, false, false, false, false, false, false, false, false, false, false, false, false, false, false, false]
 (.done)
 (.stop))
 (.stop))
 (.stop))))))))))))))))))))))))))) [1, 3, 4, 5, 7, 8, 9, 10, 11, 23, 24, 25])
 (.rg [(none, .mv 94 (.t 8)),
 (none, .mv 95 (.t 8)),
 (none, .iA 96 2 1 (.t 4) (.t 95)),
 (none, .ld 97 none (.t 96)),
 (none, .ca (some 98) 111 [.t 97, .c (.n .i64 1)]),
 (none, .iA 99 2 1 (.t 4) (.t 94)),
 (none, .st 1 (.t 99) (.t 98)),
 (none, .kp [1, 3, 4, 5, 7, 8, 9, 10, 11, 23, 24, 25])]))))
 (.rg [(none, .mv 55 (.t 11)),
 (none, .fa 56 10 (.t 1)),
 (none, .ld 57 none (.t 56)),
 (none, .bi 58 .add (.t 55) (.t 57)),
 (none, .mv 11 (.t 58)),
 (none, .kp [1, 3, 4, 5, 7, 8, 9, 10, 11, 23, 24, 25])]))
def pc87l1 : PC := .seq (.rg [(none, .bi 26 .lss (.t 25) (.t 24)),
 (none, .kp [1, 3, 4, 5, 23, 24, 25, 26])])
 (.seq (.ite (.t 26) (.sk)
 (.ex 0))
 (.seq (.blk 1 (.seq (.rg [(none, .ia 27 4 (.t 23) (.t 25)),
 (none, .ld 28 (some 4) (.t 27)),
 (none, .al 7 [.b false, .n .i64 0, .b false, .s []]),
 (none, .st 4 (.t 7) (.t 28)),
 (none, .kp [1, 3, 4, 5, 7, 23, 24, 25])])
 (.seq (.rg [(none, .mv 8 (.c (.n .i64 0))),
 (none, .kp [1, 3, 4, 5, 7, 8, 23, 24, 25])])
 (.seq (.seq (.rg [(none, .fa 29 0 (.t 7)),
 (none, .ld 30 none (.t 29)),
 (none, .kp [1, 3, 4, 5, 7, 8, 23, 24, 25, 30])])
 (.ite (.t 30) (.rg [(none, .mv 8 (.c (.n .i64 1))),
 (none, .kp [1, 3, 4, 5, 7, 8, 23, 24, 25])])
 (.sk)))
 (.seq (.rg [(none, .mv 9 (.c (.n .i64 0))),
 (none, .kp [1, 3, 4, 5, 7, 8, 9, 23, 24, 25])])
 (.seq (.seq (.rg [(none, .fa 31 2 (.t 7)),
 (none, .ld 32 none (.t 31)),
 (none, .un 33 .not (.t 32)),
 (none, .kp [1, 3, 4, 5, 7, 8, 9, 23, 24, 25, 33])])
 (.ite (.t 33) (.seq (.dr [[], [], [1], [0], [0, 1, 2, 3], [0, 1, 2, 3, 4], [0, 1, 2, 3, 4, 5]]
 (.q 0 (none, .mv 34 (.t 8))
 (.q 1 (none, .fa 35 1 (.t 7))
 (.q 2 (none, .ld 36 none (.t 35))
 (.q 3 (none, .iA 37 2 4 (.t 5) (.t 34))
 (.q 4 (none, .iA 38 4 1 (.t 37) (.t 36))
 (.q 5 (none, .ld 39 none (.t 38))
 (.q 6 (none, .mv 9 (.t 39))
 (.done)))))))) [1, 3, 4, 5, 7, 8, 9, 23, 24, 25])
 (.dr [[], [], [1], [0], [0, 1, 2, 3], [0, 1, 2, 3, 4], [0, 1, 2, 3, 4, 5], [0], [0, 1, 2, 3, 4, 5, 6, 7], [0, 1, 2, 3, 4, 5, 6, 7, 8]]
 (.q 0 (none, .mv 40 (.t 8))
 (.q 1 (none, .fa 41 1 (.t 7))
 (.q 2 (none, .ld 42 none (.t 41))
 (.q 3 (none, .iA 43 2 4 (.t 5) (.t 40))
 (.q 4 (none, .iA 44 4 1 (.t 43) (.t 42))
 (.q 5 (none, .ld 45 none (.t 44))
 (.q 6 (none, .bi 46 .add (.t 45) (.c (.n .i64 1)))
 (.q 7 (none, .iA 47 2 4 (.t 5) (.t 40))
 (.q 8 (none, .iA 48 4 1 (.t 47) (.t 42))
 (.alt 9 (none, .st 1 (.t 48) (.t 46)) [false, false, false, false, false, false, false, false, false]
 (.done)
 (.stop))))))))))) [1, 3, 4, 5, 7, 8, 9, 23, 24, 25]))
 (.sk)))
 (.seq (.rg [(none, .bs 49 8 0 [.b false, .n .i64 0, .n .i64 0, .n .i64 0, .b false, .b false, .b false, .s []] []),
 (none, .mv 10 (.t 49)),
 (none, .kp [1, 3, 4, 5, 7, 8, 9, 10, 23, 24, 25])])
 (.seq (.seq (.rg [(none, .mv 11 (.c (.n .i64 0))),
 (none, .kp [1, 3, 4, 5, 7, 8, 9, 10, 11, 23, 24, 25])])
 (.blk 2 (.lp pc87l0)))
 (.rg [(none, .mv 100 (.t 3)),
 (none, .mv 101 (.t 10)),
 (none, .bs 102 1 1 [.nil] [(0, .t 101)]),
 (none, .ap 103 1 24 (.t 100) (.t 102)),
 (none, .mv 3 (.t 103)),
 (none, .kp [1, 3, 4, 5, 23, 24, 25])])))))))))
 (.rg [(none, .bi 104 .add (.t 25) (.c (.n .i64 1))),
 (none, .mv 25 (.t 104)),
 (none, .kp [1, 3, 4, 5, 23, 24, 25])])))
def pc87 : PC := .seq (.rg [(none, .bx 1 (.t 0)),
 (none, .mv 2 (.c .nil)),
 (none, .kp [1])])
 (.seq (.rg [(none, .bs 13 1 0 [.nil] []),
 (none, .mv 3 (.t 13)),
 (none, .kp [1, 3])])
 (.seq (.rg [(none, .fa 14 2 (.t 1)),
 (none, .fa 15 3 (.t 14)),
 (none, .ld 16 none (.t 15)),
 (none, .fa 17 6 (.t 1)),
 (none, .fa 18 3 (.t 17)),
 (none, .ld 19 none (.t 18)),
 (none, .bd 20 [.n .i64 0, .n .i64 0] [(0, 1, .t 16), (1, 1, .t 19)]),
 (none, .al 4 [.n .i64 0, .n .i64 0]),
 (none, .st 2 (.t 4) (.t 20)),
 (none, .kp [1, 3, 4])])
 (.seq (.rg [(none, .bd 21 [.n .i64 0, .n .i64 0, .n .i64 0, .n .i64 0, .n .i64 0, .n .i64 0, .n .i64 0, .n .i64 0] []),
 (none, .al 5 [.n .i64 0, .n .i64 0, .n .i64 0, .n .i64 0, .n .i64 0, .n .i64 0, .n .i64 0, .n .i64 0]),
 (none, .st 8 (.t 5) (.t 21)),
 (none, .kp [1, 3, 4, 5])])
 (.seq (.seq (.rg [(none, .fa 22 11 (.t 1)),
 (none, .ld 23 none (.t 22)),
 (none, .ln 24 (.t 23)),
 (none, .mv 25 (.c (.n .i64 0))),
 (none, .kp [1, 3, 4, 5, 23, 24, 25])])
 (.blk 0 (.lp pc87l1)))
 (.seq (.rg [(none, .mv 105 (.t 3)),
 (none, .mv 2 (.t 105)),
 (none, .kp [2])])
 (.rt))))))
theorem mr87 : MrT Try.prog 87 pc87 [.t 2] 106 := fun hn h => spec_of_run (fn := Try.f87) (by kernel_rfl) rfl (by kernel_rfl) (by kernel_rfl) hn h
theorem mk87 : MkT Try.prog 87 pc87 [.t 2] 106 := mr87.k
theorem mw87 : MwT Try.prog 87 pc87 [.t 2] 106 := mr87.w
-- 88 impl.DataPut
def pc88 : PC := .seq (.rg [(none, .bx 1 (.t 0)),
 (none, .al 2 [.n .i64 0, .n .i64 0, .s []]),
 (none, .mv 3 (.c (.b false))),
 (none, .kp [1, 2])])
 (.seq (.seq (.rg [(none, .ld 5 (some 7) (.t 1)),
 (none, .ca (some 6) 110 [.t 5]),
 (none, .un 7 .not (.t 6)),
 (none, .kp [1, 2, 7])])
 (.ite (.t 7) (.seq (.rg [(none, .bd 8 [.n .i64 0, .n .i64 0, .s []] []),
 (none, .st 3 (.t 2) (.t 8)),
 (none, .mv 3 (.c (.b false))),
 (none, .kp [2, 3])])
 (.rt))
 (.sk)))
 (.seq (.rg [(none, .mv 4 (.c (.n .i64 0))),
 (none, .kp [1, 2, 4])])
 (.seq (.seq (.rg [(none, .fa 9 4 (.t 1)),
 (none, .ld 10 none (.t 9)),
 (none, .kp [1, 2, 4, 10])])
 (.ite (.t 10) (.rg [(none, .mv 11 (.t 4)),
 (none, .bi 12 .add (.t 11) (.c (.n .i64 1))),
 (none, .mv 4 (.t 12)),
 (none, .kp [1, 2, 4])])
 (.sk)))
 (.seq (.seq (.rg [(none, .fa 13 3 (.t 1)),
 (none, .ld 14 none (.t 13)),
 (none, .kp [1, 2, 4, 14])])
 (.ite (.t 14) (.rg [(none, .mv 15 (.t 4)),
 (none, .bi 16 .add (.t 15) (.c (.n .i64 2))),
 (none, .mv 4 (.t 16)),
 (none, .kp [1, 2, 4])])
 (.sk)))
 (.seq (.seq (.rg [(none, .fa 17 5 (.t 1)),
 (none, .ld 18 none (.t 17)),
 (none, .kp [1, 2, 4, 18])])
 (.ite (.t 18) (.rg [(none, .mv 19 (.t 4)),
 (none, .bi 20 .add (.t 19) (.c (.n .i64 4))),
 (none, .mv 4 (.t 20)),
 (none, .kp [1, 2, 4])])
 (.sk)))
 (.seq (.dr [[], [], [1], [], [3], [], [5], [1, 2, 3, 4, 5, 6], [1, 2, 3, 4, 5, 6, 7], [], [9], [1, 2, 3, 4, 5, 6, 7, 8, 9, 10], [0, 1, 2, 3, 4, 5, 6, 7, 8, 9, 10, 11], [0, 1, 2, 3, 4, 5, 6, 7, 8, 9, 10, 11, 12], [0, 1, 2, 3, 4, 5, 6, 7, 8, 9, 10, 11, 12, 13]]
 (.q 0 (none, .mv 21 (.t 4))
 (.q 1 (none, .fa 22 0 (.t 1))
 (.q 2 (none, .ld 23 none (.t 22))
 (.q 3 (none, .fa 24 1 (.t 1))
 (.q 4 (none, .ld 25 none (.t 24))
 (.q 5 (none, .fa 26 2 (.t 1))
 (.q 6 (none, .ld 27 none (.t 26))
 (.q 9 (none, .fa 30 6 (.t 1))
 (.q 10 (none, .ld 31 none (.t 30))
 (.alt 7 (none, .bs 28 1 3 [.n .i64 0] [(0, .t 23), (1, .t 25), (2, .t 27)]) [true, false, false, false, false, false, false, true, true]
 (.alt 8 (none, .ca (some 29) 99 [.t 28]) [true, false, false, false, false, false, false, true, true]
 (.q 11 (none, .bi 32 .add (.t 29) (.t 31))
 (.q 12 (none, .bd 33 [.n .i64 0, .n .i64 0, .s []] [(0, 1, .c (.n .i64 0)), (1, 1, .t 21), (2, 1, .t 32)])
 (.alt 13 (none, .st 3 (.t 2) (.t 33)) [false, false, false, false, false, false, false, false, false, false, false]
 (.q 14 (none, .mv 3 (.c (.b true)))
 (.done))
 (.stop))))
 (.stop))
 (.stop))))))))))) [2, 3])
 (.rt)))))))
theorem mr88 : MrT Try.prog 88 pc88 [.c 2 (some 3), .t 3] 34 := fun hn h => spec_of_run (fn := Try.f88) (by kernel_rfl) rfl (by kernel_rfl) (by kernel_rfl) hn h
theorem mk88 : MkT Try.prog 88 pc88 [.c 2 (some 3), .t 3] 34 := mr88.k
theorem mw88 : MwT Try.prog 88 pc88 [.c 2 (some 3), .t 3] 34 := mr88.w
-- 89 impl.SackPut
def pc89l0 : PC := .seq (.rg [(none, .bi 19 .lss (.t 18) (.t 17)),
 (none, .kp [2, 4, 16, 17, 18, 19])])
 (.seq (.ite (.t 19) (.sk)
 (.ex 0))
 (.seq (.blk 1 (.seq (.rg [(none, .ia 20 2 (.t 16) (.t 18)),
 (none, .ld 21 (some 2) (.t 20)),
 (none, .al 6 [.n .i64 0, .n .i64 0]),
 (none, .st 2 (.t 6) (.t 21)),
 (none, .kp [2, 4, 6, 16, 17, 18])])
 (.rg [(none, .mv 22 (.t 4)),
 (none, .fa 23 0 (.t 6)),
 (none, .ld 24 none (.t 23)),
 (none, .fa 25 1 (.t 6)),
 (none, .ld 26 none (.t 25)),
 (none, .bs 27 1 2 [.n .i64 0] [(0, .t 24), (1, .t 26)]),
 (none, .ca (some 28) 99 [.t 27]),
 (none, .bi 29 .add (.t 22) (.t 28)),
 (none, .mv 4 (.t 29)),
 (none, .kp [2, 4, 16, 17, 18])])))
 (.rg [(none, .bi 30 .add (.t 18) (.c (.n .i64 1))),
 (none, .mv 18 (.t 30)),
 (none, .kp [2, 4, 16, 17, 18])])))
def pc89 : PC := .seq (.rg [(none, .bx 1 (.t 0)),
 (none, .al 2 [.n .i64 0, .n .i64 0, .s []]),
 (none, .mv 3 (.c (.b false))),
 (none, .kp [1, 2])])
 (.seq (.seq (.rg [(none, .ld 7 (some 2) (.t 1)),
 (none, .ca (some 8) 145 [.t 7]),
 (none, .un 9 .not (.t 8)),
 (none, .kp [1, 2, 9])])
 (.ite (.t 9) (.seq (.rg [(none, .bd 10 [.n .i64 0, .n .i64 0, .s []] []),
 (none, .st 3 (.t 2) (.t 10)),
 (none, .mv 3 (.c (.b false))),
 (none, .kp [2, 3])])
 (.rt))
 (.sk)))
 (.seq (.rg [(none, .fa 11 0 (.t 1)),
 (none, .ld 12 none (.t 11)),
 (none, .bs 13 1 1 [.n .i64 0] [(0, .t 12)]),
 (none, .ca (some 14) 99 [.t 13]),
 (none, .mv 4 (.t 14)),
 (none, .kp [1, 2, 4])])
 (.seq (.seq (.rg [(none, .fa 15 1 (.t 1)),
 (none, .ld 16 none (.t 15)),
 (none, .ln 17 (.t 16)),
 (none, .mv 18 (.c (.n .i64 0))),
 (none, .kp [2, 4, 16, 17, 18])])
 (.blk 0 (.lp pc89l0)))
 (.seq (.rg [(none, .mv 31 (.t 4)),
 (none, .bd 32 [.n .i64 0, .n .i64 0, .s []] [(0, 1, .c (.n .i64 3)), (2, 1, .t 31)]),
 (none, .st 3 (.t 2) (.t 32)),
 (none, .mv 3 (.c (.b true))),
 (none, .kp [2, 3])])
 (.rt)))))
theorem mr89 : MrT Try.prog 89 pc89 [.c 2 (some 3), .t 3] 33 := fun hn h => spec_of_run (fn := Try.f89) (by kernel_rfl) rfl (by kernel_rfl) (by kernel_rfl) hn h
theorem mk89 : MkT Try.prog 89 pc89 [.c 2 (some 3), .t 3] 33 := mr89.k
theorem mw89 : MwT Try.prog 89 pc89 [.c 2 (some 3), .t 3] 33 := mr89.w
-- 94 spec.l92Talk
def pc94l0 : PC := .seq (.seq (.rg [(none, .mv 39 (.t 5)),
 (none, .mv 40 (.t 4)),
 (none, .bi 41 .lss (.t 39) (.t 40)),
 (none, .kp [0, 2, 3, 4, 5, 41])])
 (.ite (.t 41) (.sk)
 (.ex 0)))
 (.seq (.blk 1 (.seq (.rg [(none, .mv 44 (.t 0)),
 (none, .bs 45 1 6 [.s []] [(0, .c (.s [104, 101, 108, 108, 111])), (1, .c (.s [120])), (2, .c (.s [116, 111, 32, 116, 104, 101, 32, 111, 116, 104, 101, 114, 32, 115, 105, 100, 101])), (3, .c (.s [97, 98])), (4, .c (.s [102, 111, 117, 114])), (5, .c (.s [48, 49, 50, 51, 52, 53, 54, 55, 56, 57]))]),
 (none, .ca (some 46) 148 [.t 44, .t 45]),
 (none, .bd 47 [.b false, .n .i64 0, .b false, .s []] [(3, 1, .t 46)]),
 (none, .al 6 [.b false, .n .i64 0, .b false, .s []]),
 (none, .st 4 (.t 6) (.t 47)),
 (none, .kp [0, 2, 3, 4, 5, 6])])
 (.seq (.rg [(none, .mv 48 (.t 0)),
 (none, .ca (some 49) 45 [.t 48, .c (.n .i64 2)]),
 (none, .bi 50 .eql (.t 49) (.c (.n .i64 0))),
 (none, .fa 51 0 (.t 6)),
 (none, .st 1 (.t 51) (.t 50)),
 (none, .kp [0, 2, 3, 4, 5, 6])])
 (.seq (.rg [(none, .mv 52 (.t 0)),
 (none, .ca (some 53) 45 [.t 52, .c (.n .i64 3)]),
 (none, .bi 54 .eql (.t 53) (.c (.n .i64 0))),
 (none, .fa 55 2 (.t 6)),
 (none, .st 1 (.t 55) (.t 54)),
 (none, .kp [0, 2, 3, 4, 5, 6])])
 (.seq (.rg [(none, .fa 56 2 (.t 3)),
 (none, .fa 57 2 (.t 56)),
 (none, .ld 58 none (.t 57)),
 (none, .mv 7 (.t 58)),
 (none, .kp [0, 2, 3, 4, 5, 6, 7])])
 (.seq (.seq (.rg [(none, .fa 59 0 (.t 6)),
 (none, .ld 60 none (.t 59)),
 (none, .kp [0, 2, 3, 4, 5, 6, 7, 60])])
 (.ite (.t 60) (.rg [(none, .fa 61 6 (.t 3)),
 (none, .fa 62 2 (.t 61)),
 (none, .ld 63 none (.t 62)),
 (none, .mv 7 (.t 63)),
 (none, .kp [0, 2, 3, 4, 5, 6, 7])])
 (.sk)))
 (.seq (.rg [(none, .mv 64 (.t 0)),
 (none, .mv 65 (.t 7)),
 (none, .ca (some 66) 45 [.t 64, .t 65]),
 (none, .fa 67 1 (.t 6)),
 (none, .st 1 (.t 67) (.t 66)),
 (none, .kp [0, 2, 3, 4, 5, 6])])
 (.seq (.rg [(none, .fa 68 11 (.t 3)),
 (none, .ld 69 none (.t 68)),
 (none, .ld 70 (some 4) (.t 6)),
 (none, .bs 71 4 1 [.b false, .n .i64 0, .b false, .s []] [(0, .t 70)]),
 (none, .ap 72 4 40 (.t 69) (.t 71)),
 (none, .fa 73 11 (.t 3)),
 (none, .st 1 (.t 73) (.t 72)),
 (none, .kp [0, 2, 3, 4, 5])])
 (.seq (.rg [(none, .ld 74 (some 12) (.t 3)),
 (none, .ca (some 75) 74 [.t 74]),
 (none, .un 76 .not (.t 75)),
 (none, .kp [0, 2, 3, 4, 5, 76])])
 (.ite (.t 76) (.rg [(none, .fa 77 11 (.t 3)),
 (none, .ld 78 none (.t 77)),
 (none, .fa 79 11 (.t 3)),
 (none, .ld 80 none (.t 79)),
 (none, .ln 81 (.t 80)),
 (none, .bi 82 .sub (.t 81) (.c (.n .i64 1))),
 (none, .sc 83 4 (.t 78) none (some (.t 82))),
 (none, .fa 84 11 (.t 3)),
 (none, .st 1 (.t 84) (.t 83)),
 (none, .kp [0, 2, 3, 4, 5])])
 (.sk)))))))))))
 (.rg [(none, .mv 42 (.t 5)),
 (none, .bi 43 .add (.t 42) (.c (.n .i64 1))),
 (none, .mv 5 (.t 43)),
 (none, .kp [0, 2, 3, 4, 5])]))
def pc94 : PC := .seq (.rg [(none, .al 2 [.n .i64 0, .n .i64 0, .n .i64 0, .n .i64 0, .n .i64 0, .n .i64 0, .n .i64 0, .n .i64 0, .n .i64 0, .n .i64 0, .n .i64 0, .nil]),
 (none, .kp [0, 2])])
 (.seq (.rg [(none, .mv 8 (.t 0)),
 (none, .ca (some 9) 45 [.t 8, .c (.n .i64 5)]),
 (none, .bi 10 .add (.c (.n .i64 1)) (.t 9)),
 (none, .mv 11 (.t 0)),
 (none, .ca (some 12) 45 [.t 11, .c (.n .i64 5)]),
 (none, .bi 13 .add (.c (.n .i64 6)) (.t 12)),
 (none, .mv 14 (.t 0)),
 (none, .ca (some 15) 45 [.t 14, .c (.n .i64 99)]),
 (none, .bi 16 .add (.c (.n .i64 1)) (.t 15)),
 (none, .mv 17 (.t 0)),
 (none, .ca (some 18) 45 [.t 17, .c (.n .i64 4)]),
 (none, .bi 19 .add (.c (.n .i64 1)) (.t 18)),
 (none, .mv 20 (.t 0)),
 (none, .ca (some 21) 147 [.t 20]),
 (none, .bd 22 [.n .i64 0, .n .i64 0, .n .i64 0, .n .i64 0] [(0, 1, .t 16), (1, 1, .c (.n .i64 1000)), (2, 1, .t 19), (3, 1, .t 21)]),
 (none, .mv 23 (.t 0)),
 (none, .ca (some 24) 45 [.t 23, .c (.n .i64 99)]),
 (none, .bi 25 .add (.c (.n .i64 100)) (.t 24)),
 (none, .mv 26 (.t 0)),
 (none, .ca (some 27) 45 [.t 26, .c (.n .i64 4)]),
 (none, .bi 28 .add (.c (.n .i64 1)) (.t 27)),
 (none, .mv 29 (.t 0)),
 (none, .ca (some 30) 147 [.t 29]),
 (none, .bd 31 [.n .i64 0, .n .i64 0, .n .i64 0, .n .i64 0] [(0, 1, .t 25), (1, 1, .c (.n .i64 1000)), (2, 1, .t 28), (3, 1, .t 30)]),
 (none, .mv 32 (.t 0)),
 (none, .ca (some 33) 45 [.t 32, .c (.n .i64 8)]),
 (none, .bi 34 .add (.c (.n .i64 2)) (.t 33)),
 (none, .bs 35 4 0 [.b false, .n .i64 0, .b false, .s []] []),
 (none, .bd 36 [.n .i64 0, .n .i64 0, .n .i64 0, .n .i64 0, .n .i64 0, .n .i64 0, .n .i64 0, .n .i64 0, .n .i64 0, .n .i64 0, .n .i64 0, .nil] [(0, 1, .t 10), (1, 1, .t 13), (2, 4, .t 22), (6, 4, .t 31), (10, 1, .t 34), (11, 1, .t 35)]),
 (none, .al 3 [.n .i64 0, .n .i64 0, .n .i64 0, .n .i64 0, .n .i64 0, .n .i64 0, .n .i64 0, .n .i64 0, .n .i64 0, .n .i64 0, .n .i64 0, .nil]),
 (none, .st 12 (.t 3) (.t 36)),
 (none, .kp [0, 2, 3])])
 (.seq (.rg [(none, .mv 37 (.t 0)),
 (none, .ca (some 38) 45 [.t 37, .c (.n .i64 5)]),
 (none, .mv 4 (.t 38)),
 (none, .kp [0, 2, 3, 4])])
 (.seq (.seq (.rg [(none, .mv 5 (.c (.n .i64 0))),
 (none, .kp [0, 2, 3, 4, 5])])
 (.blk 0 (.lp pc94l0)))
 (.seq (.rg [(none, .ld 85 (some 12) (.t 3)),
 (none, .st 12 (.t 2) (.t 85)),
 (none, .kp [2])])
 (.rt)))))
theorem mr94 : MrT Try.prog 94 pc94 [.c 2 (some 12)] 86 := fun hn h => spec_of_run (fn := Try.f94) (by kernel_rfl) rfl (by kernel_rfl) (by kernel_rfl) hn h
theorem mk94 : MkT Try.prog 94 pc94 [.c 2 (some 12)] 86 := mr94.k
theorem mw94 : MwT Try.prog 94 pc94 [.c 2 (some 12)] 86 := mr94.w
-- 95 spec.l91Word
def pc95 : PC := .seq (.rg [(none, .mv 2 (.c (.n .i64 0))),
 (none, .kp [0])])
 (.seq (.seq (.rg [(none, .mv 3 (.t 0)),
 (none, .ca (some 4) 45 [.t 3, .c (.n .i64 12)]),
 (none, .kp [0, 4])])
 (.blk 0 (.seq (.rg [(none, .bi 6 .eql (.t 4) (.c (.n .i64 0))),
 (none, .mv 5 (.t 6)),
 (none, .kp [0, 4, 5])])
 (.ite (.t 5) (.seq (.rg [(none, .bs 7 1 6 [.n .i64 0] [(0, .c (.n .i64 (-1))), (1, .c (.n .i64 0)), (2, .c (.n .i64 65535)), (3, .c (.n .i64 65536)), (4, .c (.n .i64 256)), (5, .c (.n .i64 255))]),
 (none, .mv 8 (.t 0)),
 (none, .ca (some 9) 45 [.t 8, .c (.n .i64 6)]),
 (none, .ia 10 1 (.t 7) (.t 9)),
 (none, .ld 11 none (.t 10)),
 (none, .mv 2 (.t 11)),
 (none, .kp [2])])
 (.rt))
 (.seq (.seq (.rg [(none, .bi 13 .eql (.t 4) (.c (.n .i64 1))),
 (none, .mv 12 (.t 13)),
 (none, .kp [0, 4, 12])])
 (.ite (.t 12) (.sk)
 (.rg [(none, .bi 14 .eql (.t 4) (.c (.n .i64 2))),
 (none, .mv 12 (.t 14)),
 (none, .kp [0, 4, 12])])))
 (.ite (.t 12) (.seq (.rg [(none, .mv 15 (.t 0)),
 (none, .ca (some 16) 45 [.t 15, .c (.n .i64 6)]),
 (none, .bi 17 .add (.c (.n .i64 65530)) (.t 16)),
 (none, .mv 2 (.t 17)),
 (none, .kp [2])])
 (.rt))
 (.seq (.rg [(none, .bi 19 .eql (.t 4) (.c (.n .i64 3))),
 (none, .mv 18 (.t 19)),
 (none, .kp [0, 18])])
 (.ite (.t 18) (.seq (.rg [(none, .mv 20 (.t 0)),
 (none, .ca (some 21) 45 [.t 20, .c (.n .i64 256)]),
 (none, .bi 22 .mul (.c (.n .i64 256)) (.t 21)),
 (none, .mv 23 (.t 0)),
 (none, .ca (some 24) 45 [.t 23, .c (.n .i64 256)]),
 (none, .bi 25 .add (.t 22) (.t 24)),
 (none, .mv 2 (.t 25)),
 (none, .kp [2])])
 (.rt))
 (.sk)))))))))
 (.seq (.rg [(none, .mv 26 (.t 0)),
 (none, .ca (some 27) 45 [.t 26, .c (.n .i64 20)]),
 (none, .mv 2 (.t 27)),
 (none, .kp [2])])
 (.rt)))
theorem mr95 : MrT Try.prog 95 pc95 [.t 2] 28 := fun hn h => spec_of_run (fn := Try.f95) (by kernel_rfl) rfl (by kernel_rfl) (by kernel_rfl) hn h
theorem mk95 : MkT Try.prog 95 pc95 [.t 2] 28 := mr95.k
theorem mw95 : MwT Try.prog 95 pc95 [.t 2] 28 := mr95.w
-- 96 spec.l91Init
def pc96 : PC := .seq (.rg [(none, .al 2 [.n .i64 0, .n .i64 0, .n .i64 0, .n .i64 0]),
 (none, .kp [0, 2])])
 (.seq (.rg [(none, .mv 4 (.t 0)),
 (none, .ca (some 5) 45 [.t 4, .c (.n .i64 9)]),
 (none, .bi 6 .add (.c (.n .i64 1)) (.t 5)),
 (none, .mv 7 (.t 0)),
 (none, .ca (some 8) 45 [.t 7, .c (.n .i64 4)]),
 (none, .bi 9 .add (.c (.n .i64 1)) (.t 8)),
 (none, .mv 10 (.t 0)),
 (none, .ca (some 11) 147 [.t 10]),
 (none, .bd 12 [.n .i64 0, .n .i64 0, .n .i64 0, .n .i64 0] [(0, 1, .t 6), (1, 1, .c (.n .i64 1000)), (2, 1, .t 9), (3, 1, .t 11)]),
 (none, .al 3 [.n .i64 0, .n .i64 0, .n .i64 0, .n .i64 0]),
 (none, .st 4 (.t 3) (.t 12)),
 (none, .kp [0, 2, 3])])
 (.seq (.seq (.rg [(none, .mv 13 (.t 0)),
 (none, .ca (some 14) 45 [.t 13, .c (.n .i64 20)]),
 (none, .kp [0, 2, 3, 14])])
 (.blk 0 (.seq (.rg [(none, .bi 16 .eql (.t 14) (.c (.n .i64 0))),
 (none, .mv 15 (.t 16)),
 (none, .kp [0, 2, 3, 14, 15])])
 (.ite (.t 15) (.rg [(none, .mv 17 (.t 0)),
 (none, .ca (some 18) 149 [.t 17]),
 (none, .fa 19 0 (.t 3)),
 (none, .st 1 (.t 19) (.t 18)),
 (none, .kp [2, 3])])
 (.seq (.rg [(none, .bi 21 .eql (.t 14) (.c (.n .i64 1))),
 (none, .mv 20 (.t 21)),
 (none, .kp [0, 2, 3, 14, 20])])
 (.ite (.t 20) (.rg [(none, .mv 22 (.t 0)),
 (none, .ca (some 23) 95 [.t 22]),
 (none, .fa 24 1 (.t 3)),
 (none, .st 1 (.t 24) (.t 23)),
 (none, .kp [2, 3])])
 (.seq (.rg [(none, .bi 26 .eql (.t 14) (.c (.n .i64 2))),
 (none, .mv 25 (.t 26)),
 (none, .kp [0, 2, 3, 14, 25])])
 (.ite (.t 25) (.rg [(none, .mv 27 (.t 0)),
 (none, .ca (some 28) 45 [.t 27, .c (.n .i64 7)]),
 (none, .bi 29 .sub (.t 28) (.c (.n .i64 1))),
 (none, .fa 30 2 (.t 3)),
 (none, .st 1 (.t 30) (.t 29)),
 (none, .kp [2, 3])])
 (.seq (.rg [(none, .bi 32 .eql (.t 14) (.c (.n .i64 3))),
 (none, .mv 31 (.t 32)),
 (none, .kp [0, 2, 3, 31])])
 (.ite (.t 31) (.rg [(none, .mv 33 (.t 0)),
 (none, .ca (some 34) 95 [.t 33]),
 (none, .fa 35 3 (.t 3)),
 (none, .st 1 (.t 35) (.t 34)),
 (none, .kp [2, 3])])
 (.sk)))))))))))
 (.seq (.rg [(none, .ld 36 (some 4) (.t 3)),
 (none, .st 4 (.t 2) (.t 36)),
 (none, .kp [2])])
 (.rt))))
theorem mr96 : MrT Try.prog 96 pc96 [.c 2 (some 4)] 37 := fun hn h => spec_of_run (fn := Try.f96) (by kernel_rfl) rfl (by kernel_rfl) (by kernel_rfl) hn h
theorem mk96 : MkT Try.prog 96 pc96 [.c 2 (some 4)] 37 := mr96.k
theorem mw96 : MwT Try.prog 96 pc96 [.c 2 (some 4)] 37 := mr96.w
-- 97 spec.l6Many
def pc97l0 : PC := .seq (.seq (.rg [(none, .mv 6 (.t 1)),
 (none, .bi 7 .gtr (.t 6) (.c (.n .i64 0))),
 (none, .kp [0, 1, 5, 7])])
 (.ite (.t 7) (.sk)
 (.ex 0)))
 (.blk 1 (.seq (.seq (.rg [(none, .mv 8 (.t 1)),
 (none, .bi 9 .rem (.t 8) (.c (.n .i64 2))),
 (none, .bi 10 .eql (.t 9) (.c (.n .i64 1))),
 (none, .kp [0, 1, 5, 10])])
 (.ite (.t 10) (.rg [(none, .mv 11 (.t 5)),
 (none, .mv 12 (.t 0)),
 (none, .bi 13 .add (.t 11) (.t 12)),
 (none, .mv 5 (.t 13)),
 (none, .kp [0, 1, 5])])
 (.sk)))
 (.seq (.rg [(none, .mv 14 (.t 0)),
 (none, .mv 15 (.t 0)),
 (none, .bi 16 .add (.t 14) (.t 15)),
 (none, .mv 0 (.t 16)),
 (none, .kp [0, 1, 5])])
 (.rg [(none, .mv 17 (.t 1)),
 (none, .bi 18 .quo (.t 17) (.c (.n .i64 2))),
 (none, .mv 1 (.t 18)),
 (none, .kp [0, 1, 5])]))))
def pc97 : PC := .seq (.rg [(none, .mv 4 (.c (.s []))),
 (none, .kp [0, 1])])
 (.seq (.rg [(none, .mv 5 (.c (.s []))),
 (none, .kp [0, 1, 5])])
 (.seq (.blk 0 (.lp pc97l0))
 (.seq (.rg [(none, .mv 19 (.t 5)),
 (none, .mv 4 (.t 19)),
 (none, .kp [4])])
 (.rt))))
theorem mr97 : MrT Try.prog 97 pc97 [.t 4] 20 := fun hn h => spec_of_run (fn := Try.f97) (by kernel_rfl) rfl (by kernel_rfl) (by kernel_rfl) hn h
theorem mk97 : MkT Try.prog 97 pc97 [.t 4] 20 := mr97.k
theorem mw97 : MwT Try.prog 97 pc97 [.t 4] 20 := mr97.w
-- 98 impl.LongPut
def pc98 : PC := .seq (.rg [(none, .mv 2 (.c (.s []))),
 (none, .mv 3 (.c (.b false))),
 (none, .kp [0])])
 (.seq (.seq (.rg [(none, .mv 4 (.t 0)),
 (none, .bi 5 .lss (.t 4) (.c (.n .i64 0))),
 (none, .mv 6 (.t 5)),
 (some (6, false), .mv 7 (.t 0)),
 (some (6, false), .bi 8 .gtr (.t 7) (.c (.n .i64 4294967295))),
 (none, .pk 9 (.t 6) (.c (.b true)) (.t 8)),
 (none, .kp [0, 9])])
 (.ite (.t 9) (.seq (.rg [(none, .mv 2 (.c (.s []))),
 (none, .mv 3 (.c (.b false))),
 (none, .kp [2, 3])])
 (.rt))
 (.sk)))
 (.seq (.rg [(none, .mv 10 (.t 0)),
 (none, .bi 11 .shr (.t 10) (.c (.n .u64 24))),
 (none, .cv 12 .u8 (.t 11)),
 (none, .mv 13 (.t 0)),
 (none, .bi 14 .shr (.t 13) (.c (.n .u64 16))),
 (none, .cv 15 .u8 (.t 14)),
 (none, .mv 16 (.t 0)),
 (none, .bi 17 .shr (.t 16) (.c (.n .u64 8))),
 (none, .cv 18 .u8 (.t 17)),
 (none, .mv 19 (.t 0)),
 (none, .cv 20 .u8 (.t 19)),
 (none, .bs 21 1 4 [.n .u8 0] [(0, .t 12), (1, .t 15), (2, .t 18), (3, .t 20)]),
 (none, .cs 22 (.t 21)),
 (none, .mv 2 (.t 22)),
 (none, .mv 3 (.c (.b true))),
 (none, .kp [2, 3])])
 (.rt)))
theorem mr98 : MrT Try.prog 98 pc98 [.t 2, .t 3] 23 := fun hn h => spec_of_run (fn := Try.f98) (by kernel_rfl) rfl (by kernel_rfl) (by kernel_rfl) hn h
theorem mk98 : MkT Try.prog 98 pc98 [.t 2, .t 3] 23 := mr98.k
theorem mw98 : MwT Try.prog 98 pc98 [.t 2, .t 3] 23 := mr98.w
-- 99 impl.words
def pc99l0 : PC := .seq (.rg [(none, .bi 11 .lss (.t 10) (.t 9)),
 (none, .kp [3, 8, 9, 10, 11])])
 (.seq (.ite (.t 11) (.sk)
 (.ex 0))
 (.seq (.blk 1 (.seq (.rg [(none, .ia 12 1 (.t 8) (.t 10)),
 (none, .ld 13 none (.t 12)),
 (none, .mv 5 (.t 13)),
 (none, .kp [3, 5, 8, 9, 10])])
 (.seq (.rg [(none, .mv 15 (.t 5)),
 (none, .ca (some 16) 150 [.t 15]),
 (none, .mv 14 (.t 16)),
 (none, .ex 17 (.t 14) 0),
 (none, .ex 18 (.t 14) 1),
 (none, .mv 6 (.t 17)),
 (none, .mv 7 (.t 18)),
 (none, .kp [3, 6, 8, 9, 10])])
 (.rg [(none, .mv 19 (.t 3)),
 (none, .mv 20 (.t 6)),
 (none, .bi 21 .add (.t 19) (.t 20)),
 (none, .mv 3 (.t 21)),
 (none, .kp [3, 8, 9, 10])]))))
 (.rg [(none, .bi 22 .add (.t 10) (.c (.n .i64 1))),
 (none, .mv 10 (.t 22)),
 (none, .kp [3, 8, 9, 10])])))
def pc99 : PC := .seq (.rg [(none, .mv 2 (.c (.s []))),
 (none, .kp [0])])
 (.seq (.rg [(none, .mv 3 (.c (.s []))),
 (none, .kp [0, 3])])
 (.seq (.seq (.rg [(none, .mv 8 (.t 0)),
 (none, .ln 9 (.t 8)),
 (none, .mv 10 (.c (.n .i64 0))),
 (none, .kp [3, 8, 9, 10])])
 (.blk 0 (.lp pc99l0)))
 (.seq (.rg [(none, .mv 23 (.t 3)),
 (none, .mv 2 (.t 23)),
 (none, .kp [2])])
 (.rt))))
theorem mr99 : MrT Try.prog 99 pc99 [.t 2] 24 := fun hn h => spec_of_run (fn := Try.f99) (by kernel_rfl) rfl (by kernel_rfl) (by kernel_rfl) hn h
theorem mk99 : MkT Try.prog 99 pc99 [.t 2] 24 := mr99.k
theorem mw99 : MwT Try.prog 99 pc99 [.t 2] 24 := mr99.w
-- 100 impl.ChunkPut
def pc100l0 : PC := .seq (.seq (.rg [(none, .mv 30 (.t 5)),
 (none, .lS 31 (.t 30)),
 (none, .bi 32 .rem (.t 31) (.c (.n .i64 4))),
 (none, .bi 33 .neq (.t 32) (.c (.n .i64 0))),
 (none, .kp [5, 33])])
 (.ite (.t 33) (.sk)
 (.ex 0)))
 (.blk 1 (.rg [(none, .mv 34 (.t 5)),
 (none, .bi 35 .add (.t 34) (.c (.s [0]))),
 (none, .mv 5 (.t 35)),
 (none, .kp [5])]))
def pc100 : PC := .seq (.rg [(none, .bx 1 (.t 0)),
 (none, .mv 2 (.c (.s []))),
 (none, .kp [1])])
 (.seq (.seq (.rg [(none, .ld 6 (some 3) (.t 1)),
 (none, .ca (some 7) 126 [.t 6]),
 (none, .un 8 .not (.t 7)),
 (none, .kp [1, 8])])
 (.ite (.t 8) (.seq (.rg [(none, .mv 2 (.c (.s []))),
 (none, .kp [2])])
 (.rt))
 (.sk)))
 (.seq (.rg [(none, .fa 10 2 (.t 1)),
 (none, .ld 11 none (.t 10)),
 (none, .lS 12 (.t 11)),
 (none, .bi 13 .add (.c (.n .i64 4)) (.t 12)),
 (none, .ca (some 14) 150 [.t 13]),
 (none, .mv 9 (.t 14)),
 (none, .ex 15 (.t 9) 0),
 (none, .ex 16 (.t 9) 1),
 (none, .mv 3 (.t 15)),
 (none, .mv 4 (.t 16)),
 (none, .kp [1, 3])])
 (.seq (.rg [(none, .fa 17 0 (.t 1)),
 (none, .ld 18 none (.t 17)),
 (none, .cv 19 .u8 (.t 18)),
 (none, .fa 20 1 (.t 1)),
 (none, .ld 21 none (.t 20)),
 (none, .cv 22 .u8 (.t 21)),
 (none, .bs 23 1 2 [.n .u8 0] [(0, .t 19), (1, .t 22)]),
 (none, .cs 24 (.t 23)),
 (none, .mv 25 (.t 3)),
 (none, .bi 26 .add (.t 24) (.t 25)),
 (none, .fa 27 2 (.t 1)),
 (none, .ld 28 none (.t 27)),
 (none, .bi 29 .add (.t 26) (.t 28)),
 (none, .mv 5 (.t 29)),
 (none, .kp [5])])
 (.seq (.blk 0 (.lp pc100l0))
 (.seq (.rg [(none, .mv 36 (.t 5)),
 (none, .mv 2 (.t 36)),
 (none, .kp [2])])
 (.rt))))))
theorem mr100 : MrT Try.prog 100 pc100 [.t 2] 37 := fun hn h => spec_of_run (fn := Try.f100) (by kernel_rfl) rfl (by kernel_rfl) (by kernel_rfl) hn h
theorem mk100 : MkT Try.prog 100 pc100 [.t 2] 37 := mr100.k
theorem mw100 : MwT Try.prog 100 pc100 [.t 2] 37 := mr100.w
-- 101 impl.SumText
def pc101 : PC := .seq (.rg [(none, .mv 2 (.c (.n .i64 0))),
 (none, .kp [0])])
 (.seq (.rg [(none, .mv 3 (.t 0)),
 (none, .ca (some 4) 151 [.c (.n .i64 1), .c (.n .i64 0), .t 3]),
 (none, .mv 2 (.t 4)),
 (none, .kp [2])])
 (.rt))
theorem mr101 : MrT Try.prog 101 pc101 [.t 2] 5 := fun hn h => spec_of_run (fn := Try.f101) (by kernel_rfl) rfl (by kernel_rfl) (by kernel_rfl) hn h
theorem mk101 : MkT Try.prog 101 pc101 [.t 2] 5 := mr101.k
theorem mw101 : MwT Try.prog 101 pc101 [.t 2] 5 := mr101.w
-- 102 spec.l13Put
def pc102l0 : PC := .seq (.seq (.rg [(none, .mv 17 (.t 4)),
 (none, .fa 18 3 (.t 1)),
 (none, .ld 19 none (.t 18)),
 (none, .ln 20 (.t 19)),
 (none, .bi 21 .lss (.t 17) (.t 20)),
 (none, .kp [1, 3, 4, 21])])
 (.ite (.t 21) (.sk)
 (.ex 0)))
 (.seq (.blk 1 (.rg [(none, .mv 24 (.t 3)),
 (none, .fa 25 3 (.t 1)),
 (none, .ld 26 none (.t 25)),
 (none, .mv 27 (.t 4)),
 (none, .ia 28 3 (.t 26) (.t 27)),
 (none, .ld 29 (some 3) (.t 28)),
 (none, .ca (some 30) 153 [.t 29]),
 (none, .bi 31 .add (.t 24) (.t 30)),
 (none, .mv 3 (.t 31)),
 (none, .kp [1, 3, 4])]))
 (.rg [(none, .mv 22 (.t 4)),
 (none, .bi 23 .add (.t 22) (.c (.n .i64 1))),
 (none, .mv 4 (.t 23)),
 (none, .kp [1, 3, 4])]))
def pc102 : PC := .seq (.rg [(none, .bx 1 (.t 0)),
 (none, .mv 2 (.c (.s []))),
 (none, .kp [1])])
 (.seq (.dr [[], [0], [0, 1], [], [3], [0, 1, 2, 3, 4], [0, 1, 2, 3, 4, 5], [], [7], [0, 1, 2, 3, 4, 5, 7, 8], [0, 1, 2, 3, 4, 5, 6, 7, 8, 9], [0, 1, 2, 3, 4, 5, 6, 7, 8, 9, 10], [0, 1, 2, 3, 4, 5, 6, 7, 8, 9, 10, 11]]
 (.q 0 (none, .fa 5 0 (.t 1))
 (.q 1 (none, .ld 6 none (.t 5))
 (.q 3 (none, .fa 8 1 (.t 1))
 (.q 4 (none, .ld 9 none (.t 8))
 (.q 7 (none, .fa 12 2 (.t 1))
 (.q 8 (none, .ld 13 none (.t 12))
 (.alt 2 (none, .ca (some 7) 142 [.t 6]) [false, false, true, true, true, true]
 (.alt 5 (none, .ca (some 10) 142 [.t 9]) [false, false, false, false, true, true]
 (.q 6 (none, .bi 11 .add (.t 7) (.t 10))
 (.alt 9 (none, .ca (some 14) 152 [.t 13]) [false, false, false, false, false, false, true]
 (.q 10 (none, .bi 15 .add (.t 11) (.t 14))
 (.q 11 (none, .bi 16 .add (.t 15) (.c (.s [0, 0, 0, 0])))
 (.q 12 (none, .mv 3 (.t 16))
 (.done))))
 (.stop)))
 (.stop))
 (.stop)))))))) [1, 3])
 (.seq (.seq (.rg [(none, .mv 4 (.c (.n .i64 0))),
 (none, .kp [1, 3, 4])])
 (.blk 0 (.lp pc102l0)))
 (.seq (.dr [[], [0], [], [2], [2, 3], [0, 1, 2, 3, 4], [], [6], [0, 1, 2, 3, 4, 5, 6, 7], [0, 1, 2, 3, 4, 5, 6, 7, 8]]
 (.q 0 (none, .mv 32 (.t 3))
 (.q 1 (none, .sS 33 (.t 32) none (some (.c (.n .i64 8))))
 (.q 2 (none, .mv 34 (.t 3))
 (.q 6 (none, .mv 38 (.t 3))
 (.q 7 (none, .sS 39 (.t 38) (some (.c (.n .i64 12))) none)
 (.alt 3 (none, .ca (some 35) 154 [.t 34]) [true, true, false, true, true]
 (.alt 4 (none, .ca (some 36) 152 [.t 35]) [true, true, false, true, true]
 (.q 5 (none, .bi 37 .add (.t 33) (.t 36))
 (.q 8 (none, .bi 40 .add (.t 37) (.t 39))
 (.q 9 (none, .mv 2 (.t 40))
 (.done))))
 (.stop))
 (.stop))))))) [2])
 (.rt))))
theorem mr102 : MrT Try.prog 102 pc102 [.t 2] 41 := fun hn h => spec_of_run (fn := Try.f102) (by kernel_rfl) rfl (by kernel_rfl) (by kernel_rfl) hn h
theorem mk102 : MkT Try.prog 102 pc102 [.t 2] 41 := mr102.k
theorem mw102 : MwT Try.prog 102 pc102 [.t 2] 41 := mr102.w
-- 103 spec.l14Record
def pc103 : PC := .seq (.rg [(none, .bx 2 (.t 0)),
 (none, .mv 4 (.c (.b false))),
 (none, .kp [1, 2])])
 (.seq (.rg [(none, .fa 5 0 (.t 2)),
 (none, .ld 6 none (.t 5)),
 (none, .mv 7 (.t 1)),
 (none, .ca (some 8) 116 [.t 6, .t 7, .c (.n .i64 4294967295)]),
 (none, .mv 9 (.t 8)),
 (some (9, true), .fa 10 1 (.t 2)),
 (some (9, true), .ld 11 none (.t 10)),
 (some (9, true), .lS 12 (.t 11)),
 (some (9, true), .bi 13 .leq (.t 12) (.c (.n .i64 120))),
 (none, .pk 14 (.t 9) (.t 13) (.c (.b false))),
 (none, .mv 4 (.t 14)),
 (none, .kp [4])])
 (.rt))
theorem mr103 : MrT Try.prog 103 pc103 [.t 4] 15 := fun hn h => spec_of_run (fn := Try.f103) (by kernel_rfl) rfl (by kernel_rfl) (by kernel_rfl) hn h
theorem mk103 : MkT Try.prog 103 pc103 [.t 4] 15 := mr103.k
theorem mw103 : MwT Try.prog 103 pc103 [.t 4] 15 := mr103.w
-- 104 impl.MonitorValid
def pc104l0 : PC := .seq (.rg [(none, .bi 43 .lss (.t 42) (.t 41)),
 (none, .kp [1, 4, 22, 23, 24, 40, 41, 42, 43])])
 (.seq (.ite (.t 43) (.sk)
 (.ex 2))
 (.seq (.blk 3 (.seq (.rg [(none, .ia 44 14 (.t 40) (.t 42)),
 (none, .ld 45 (some 14) (.t 44)),
 (none, .al 6 [.n .i64 0, .n .i64 0, .n .i64 0, .b false, .n .i64 0, .n .i64 0, .n .i64 0, .nil, .n .i64 0, .n .i64 0, .n .i64 0, .n .i64 0, .nil, .n .i64 0]),
 (none, .st 14 (.t 6) (.t 45)),
 (none, .kp [1, 4, 6, 22, 23, 24, 40, 41, 42])])
 (.seq (.rg [(none, .ld 46 (some 14) (.t 6)),
 (none, .fa 47 0 (.t 4)),
 (none, .ld 48 none (.t 47)),
 (none, .fa 49 1 (.t 4)),
 (none, .ld 50 none (.t 49)),
 (none, .ca (some 51) 106 [.t 46, .t 48, .t 50]),
 (none, .kp [1, 4, 22, 23, 24, 40, 41, 42, 51])])
 (.ite (.t 51) (.seq (.rg [(none, .mv 2 (.c (.b false))),
 (none, .kp [2])])
 (.rt))
 (.sk)))))
 (.rg [(none, .bi 52 .add (.t 42) (.c (.n .i64 1))),
 (none, .mv 42 (.t 52)),
 (none, .kp [1, 4, 22, 23, 24, 40, 41, 42])])))
def pc104l1 : PC := .seq (.rg [(none, .bi 25 .lss (.t 24) (.t 23)),
 (none, .kp [1, 22, 23, 24, 25])])
 (.seq (.ite (.t 25) (.sk)
 (.ex 0))
 (.seq (.blk 1 (.seq (.rg [(none, .mv 26 (.t 24)),
 (none, .ia 27 14 (.t 22) (.t 24)),
 (none, .ld 28 (some 14) (.t 27)),
 (none, .al 4 [.n .i64 0, .n .i64 0, .n .i64 0, .b false, .n .i64 0, .n .i64 0, .n .i64 0, .nil, .n .i64 0, .n .i64 0, .n .i64 0, .n .i64 0, .nil, .n .i64 0]),
 (none, .mv 3 (.t 26)),
 (none, .st 14 (.t 4) (.t 28)),
 (none, .kp [1, 3, 4, 22, 23, 24])])
 (.seq (.seq (.rg [(none, .ld 29 (some 14) (.t 4)),
 (none, .ca (some 30) 63 [.t 29]),
 (none, .un 31 .not (.t 30)),
 (none, .mv 32 (.t 31)),
 (some (32, false), .fa 33 2 (.t 4)),
 (some (32, false), .ld 34 none (.t 33)),
 (some (32, false), .bi 35 .eql (.t 34) (.c (.n .i64 0))),
 (none, .pk 36 (.t 32) (.c (.b true)) (.t 35)),
 (none, .kp [1, 3, 4, 22, 23, 24, 36])])
 (.ite (.t 36) (.seq (.rg [(none, .mv 2 (.c (.b false))),
 (none, .kp [2])])
 (.rt))
 (.sk)))
 (.seq (.rg [(none, .fa 37 1 (.t 1)),
 (none, .ld 38 none (.t 37)),
 (none, .mv 39 (.t 3)),
 (none, .sc 40 14 (.t 38) none (some (.t 39))),
 (none, .ln 41 (.t 40)),
 (none, .mv 42 (.c (.n .i64 0))),
 (none, .kp [1, 4, 22, 23, 24, 40, 41, 42])])
 (.blk 2 (.lp pc104l0))))))
 (.rg [(none, .bi 53 .add (.t 24) (.c (.n .i64 1))),
 (none, .mv 24 (.t 53)),
 (none, .kp [1, 22, 23, 24])])))
def pc104 : PC := .seq (.rg [(none, .bx 1 (.t 0)),
 (none, .mv 2 (.c (.b false))),
 (none, .kp [1])])
 (.seq (.seq (.rg [(none, .fa 7 0 (.t 1)),
 (none, .ld 8 none (.t 7)),
 (none, .bi 9 .lss (.t 8) (.c (.n .i64 0))),
 (none, .mv 10 (.t 9)),
 (some (10, false), .fa 11 0 (.t 1)),
 (some (10, false), .ld 12 none (.t 11)),
 (some (10, false), .bi 13 .gtr (.t 12) (.c (.n .i64 60))),
 (none, .pk 14 (.t 10) (.c (.b true)) (.t 13)),
 (none, .mv 15 (.t 14)),
 (some (15, false), .fa 16 1 (.t 1)),
 (some (15, false), .ld 17 none (.t 16)),
 (some (15, false), .ln 18 (.t 17)),
 (some (15, false), .bi 19 .gtr (.t 18) (.c (.n .i64 3))),
 (none, .pk 20 (.t 15) (.c (.b true)) (.t 19)),
 (none, .kp [1, 20])])
 (.ite (.t 20) (.seq (.rg [(none, .mv 2 (.c (.b false))),
 (none, .kp [2])])
 (.rt))
 (.sk)))
 (.seq (.seq (.rg [(none, .fa 21 1 (.t 1)),
 (none, .ld 22 none (.t 21)),
 (none, .ln 23 (.t 22)),
 (none, .mv 24 (.c (.n .i64 0))),
 (none, .kp [1, 22, 23, 24])])
 (.blk 0 (.lp pc104l1)))
 (.seq (.rg [(none, .fa 54 2 (.t 1)),
 (none, .ld 55 none (.t 54)),
 (none, .fa 56 0 (.t 1)),
 (none, .ld 57 none (.t 56)),
 (none, .ca (some 58) 155 [.t 55, .t 57]),
 (none, .mv 2 (.t 58)),
 (none, .kp [2])])
 (.rt))))
theorem mr104 : MrT Try.prog 104 pc104 [.t 2] 59 := fun hn h => spec_of_run (fn := Try.f104) (by kernel_rfl) rfl (by kernel_rfl) (by kernel_rfl) hn h
theorem mk104 : MkT Try.prog 104 pc104 [.t 2] 59 := mr104.k
theorem mw104 : MwT Try.prog 104 pc104 [.t 2] 59 := mr104.w
-- 105 impl.PacketGet
def pc105l0 : PC := .seq (.seq (.rg [(none, .mv 49 (.t 7)),
 (none, .mv 50 (.t 0)),
 (none, .lS 51 (.t 50)),
 (none, .bi 52 .lss (.t 49) (.t 51)),
 (none, .kp [0, 2, 6, 7, 52])])
 (.ite (.t 52) (.sk)
 (.ex 0)))
 (.blk 1 (.seq (.rg [(none, .mv 54 (.t 0)),
 (none, .mv 55 (.t 7)),
 (none, .ca (some 56) 158 [.t 54, .t 55]),
 (none, .mv 53 (.t 56)),
 (none, .ex 57 (.t 53) 0),
 (none, .ex 58 (.t 53) 1),
 (none, .ex 59 (.t 53) 2),
 (none, .al 8 [.n .i64 0, .n .i64 0, .s []]),
 (none, .st 3 (.t 8) (.t 57)),
 (none, .mv 9 (.t 58)),
 (none, .mv 10 (.t 59)),
 (none, .kp [0, 2, 6, 8, 9, 10])])
 (.seq (.seq (.rg [(none, .mv 60 (.t 10)),
 (none, .un 61 .not (.t 60)),
 (none, .kp [0, 2, 6, 8, 9, 61])])
 (.ite (.t 61) (.seq (.rg [(none, .bd 62 [.n .i64 0, .n .i64 0, .n .i64 0, .nil] []),
 (none, .st 4 (.t 2) (.t 62)),
 (none, .mv 3 (.c (.n .i64 3))),
 (none, .kp [2, 3])])
 (.rt))
 (.sk)))
 (.seq (.rg [(none, .fa 63 3 (.t 6)),
 (none, .ld 64 none (.t 63)),
 (none, .ld 65 (some 3) (.t 8)),
 (none, .bs 66 3 1 [.n .i64 0, .n .i64 0, .s []] [(0, .t 65)]),
 (none, .ap 67 3 32 (.t 64) (.t 66)),
 (none, .fa 68 3 (.t 6)),
 (none, .st 1 (.t 68) (.t 67)),
 (none, .kp [0, 2, 6, 9])])
 (.rg [(none, .mv 69 (.t 9)),
 (none, .mv 7 (.t 69)),
 (none, .kp [0, 2, 6, 7])])))))
def pc105 : PC := .seq (.rg [(none, .al 2 [.n .i64 0, .n .i64 0, .n .i64 0, .nil]),
 (none, .mv 3 (.c (.n .i64 0))),
 (none, .kp [0, 2])])
 (.seq (.seq (.rg [(none, .mv 11 (.t 0)),
 (none, .lS 12 (.t 11)),
 (none, .bi 13 .lss (.t 12) (.c (.n .i64 12))),
 (none, .kp [0, 2, 13])])
 (.ite (.t 13) (.seq (.rg [(none, .bd 14 [.n .i64 0, .n .i64 0, .n .i64 0, .nil] []),
 (none, .st 4 (.t 2) (.t 14)),
 (none, .mv 3 (.c (.n .i64 1))),
 (none, .kp [2, 3])])
 (.rt))
 (.sk)))
 (.seq (.rg [(none, .mv 16 (.t 0)),
 (none, .ca (some 17) 156 [.t 16, .c (.n .i64 8)]),
 (none, .mv 15 (.t 17)),
 (none, .ex 18 (.t 15) 0),
 (none, .ex 19 (.t 15) 1),
 (none, .mv 4 (.t 18)),
 (none, .mv 5 (.t 19)),
 (none, .kp [0, 2, 4])])
 (.seq (.seq (.dr [[], [0], [0, 1], [], [3], [0, 1, 2, 3, 4], [0, 1, 2, 3, 4, 5], [], [0, 1, 2, 3, 4, 5, 6, 7]]
 (.q 0 (none, .mv 20 (.t 0))
 (.q 1 (none, .sS 21 (.t 20) none (some (.c (.n .i64 8))))
 (.q 2 (none, .bi 22 .add (.t 21) (.c (.s [0, 0, 0, 0])))
 (.q 3 (none, .mv 23 (.t 0))
 (.q 4 (none, .sS 24 (.t 23) (some (.c (.n .i64 12))) none)
 (.q 5 (none, .bi 25 .add (.t 22) (.t 24))
 (.q 7 (none, .mv 27 (.t 4))
 (.alt 6 (none, .ca (some 26) 101 [.t 25]) [false, false, false, false, false, false, true]
 (.q 8 (none, .bi 28 .neq (.t 26) (.t 27))
 (.done))
 (.stop))))))))) [0, 2, 28])
 (.ite (.t 28) (.seq (.rg [(none, .bd 29 [.n .i64 0, .n .i64 0, .n .i64 0, .nil] []),
 (none, .st 4 (.t 2) (.t 29)),
 (none, .mv 3 (.c (.n .i64 2))),
 (none, .kp [2, 3])])
 (.rt))
 (.sk)))
 (.seq (.rg [(none, .bd 30 [.n .i64 0, .n .i64 0, .n .i64 0, .nil] []),
 (none, .al 6 [.n .i64 0, .n .i64 0, .n .i64 0, .nil]),
 (none, .st 4 (.t 6) (.t 30)),
 (none, .kp [0, 2, 6])])
 (.seq (.rg [(none, .mv 32 (.t 0)),
 (none, .ca (some 33) 157 [.t 32, .c (.n .i64 0)]),
 (none, .mv 31 (.t 33)),
 (none, .ex 34 (.t 31) 0),
 (none, .ex 35 (.t 31) 1),
 (none, .fa 36 0 (.t 6)),
 (none, .st 1 (.t 36) (.t 34)),
 (none, .kp [0, 2, 6])])
 (.seq (.rg [(none, .mv 38 (.t 0)),
 (none, .ca (some 39) 157 [.t 38, .c (.n .i64 2)]),
 (none, .mv 37 (.t 39)),
 (none, .ex 40 (.t 37) 0),
 (none, .ex 41 (.t 37) 1),
 (none, .fa 42 1 (.t 6)),
 (none, .st 1 (.t 42) (.t 40)),
 (none, .kp [0, 2, 6])])
 (.seq (.rg [(none, .mv 44 (.t 0)),
 (none, .ca (some 45) 156 [.t 44, .c (.n .i64 4)]),
 (none, .mv 43 (.t 45)),
 (none, .ex 46 (.t 43) 0),
 (none, .ex 47 (.t 43) 1),
 (none, .fa 48 2 (.t 6)),
 (none, .st 1 (.t 48) (.t 46)),
 (none, .kp [0, 2, 6])])
 (.seq (.seq (.rg [(none, .mv 7 (.c (.n .i64 12))),
 (none, .kp [0, 2, 6, 7])])
 (.blk 0 (.lp pc105l0)))
 (.seq (.seq (.rg [(none, .ld 70 (some 4) (.t 6)),
 (none, .ca (some 71) 64 [.t 70]),
 (none, .un 72 .not (.t 71)),
 (none, .kp [2, 6, 72])])
 (.ite (.t 72) (.seq (.rg [(none, .bd 73 [.n .i64 0, .n .i64 0, .n .i64 0, .nil] []),
 (none, .st 4 (.t 2) (.t 73)),
 (none, .mv 3 (.c (.n .i64 3))),
 (none, .kp [2, 3])])
 (.rt))
 (.sk)))
 (.seq (.rg [(none, .ld 74 (some 4) (.t 6)),
 (none, .st 4 (.t 2) (.t 74)),
 (none, .mv 3 (.c (.n .i64 0))),
 (none, .kp [2, 3])])
 (.rt)))))))))))
theorem mr105 : MrT Try.prog 105 pc105 [.c 2 (some 4), .t 3] 75 := fun hn h => spec_of_run (fn := Try.f105) (by kernel_rfl) rfl (by kernel_rfl) (by kernel_rfl) hn h
theorem mk105 : MkT Try.prog 105 pc105 [.c 2 (some 4), .t 3] 75 := mr105.k
theorem mw105 : MwT Try.prog 105 pc105 [.c 2 (some 4), .t 3] 75 := mr105.w
-- 106 impl.samePorts
def pc106 : PC := .seq (.rg [(none, .bx 3 (.t 0)),
 (none, .mv 6 (.c (.b false))),
 (none, .kp [1, 2, 3])])
 (.seq (.rg [(none, .fa 7 0 (.t 3)),
 (none, .ld 8 none (.t 7)),
 (none, .mv 9 (.t 1)),
 (none, .bi 10 .eql (.t 8) (.t 9)),
 (none, .mv 11 (.t 10)),
 (some (11, true), .fa 12 1 (.t 3)),
 (some (11, true), .ld 13 none (.t 12)),
 (some (11, true), .mv 14 (.t 2)),
 (some (11, true), .bi 15 .eql (.t 13) (.t 14)),
 (none, .pk 16 (.t 11) (.t 15) (.c (.b false))),
 (none, .mv 17 (.t 16)),
 (some (17, false), .fa 18 0 (.t 3)),
 (some (17, false), .ld 19 none (.t 18)),
 (some (17, false), .mv 20 (.t 2)),
 (some (17, false), .bi 21 .eql (.t 19) (.t 20)),
 (some (17, false), .mv 22 (.t 21)),
 (some (22, true), .fa 23 1 (.t 3)),
 (some (22, true), .ld 24 none (.t 23)),
 (some (22, true), .mv 25 (.t 1)),
 (some (22, true), .bi 26 .eql (.t 24) (.t 25)),
 (some (17, false), .pk 27 (.t 22) (.t 26) (.c (.b false))),
 (none, .pk 28 (.t 17) (.c (.b true)) (.t 27)),
 (none, .mv 6 (.t 28)),
 (none, .kp [6])])
 (.rt))
theorem mr106 : MrT Try.prog 106 pc106 [.t 6] 29 := fun hn h => spec_of_run (fn := Try.f106) (by kernel_rfl) rfl (by kernel_rfl) (by kernel_rfl) hn h
theorem mk106 : MkT Try.prog 106 pc106 [.t 6] 29 := mr106.k
theorem mw106 : MwT Try.prog 106 pc106 [.t 6] 29 := mr106.w
-- 107 impl.InitGet
def pc107 : PC := .seq (.rg [(none, .bx 1 (.t 0)),
 (none, .al 2 [.n .i64 0, .n .i64 0, .n .i64 0, .n .i64 0]),
 (none, .mv 3 (.c (.b false))),
 (none, .kp [1, 2])])
 (.seq (.seq (.rg [(none, .fa 5 0 (.t 1)),
 (none, .ld 6 none (.t 5)),
 (none, .bi 7 .neq (.t 6) (.c (.n .i64 1))),
 (none, .mv 8 (.t 7)),
 (some (8, true), .fa 9 0 (.t 1)),
 (some (8, true), .ld 10 none (.t 9)),
 (some (8, true), .bi 11 .neq (.t 10) (.c (.n .i64 2))),
 (none, .pk 12 (.t 8) (.t 11) (.c (.b false))),
 (none, .mv 13 (.t 12)),
 (some (13, false), .fa 14 1 (.t 1)),
 (some (13, false), .ld 15 none (.t 14)),
 (some (13, false), .bi 16 .neq (.t 15) (.c (.n .i64 0))),
 (none, .pk 17 (.t 13) (.c (.b true)) (.t 16)),
 (none, .mv 18 (.t 17)),
 (some (18, false), .fa 19 2 (.t 1)),
 (some (18, false), .ld 20 none (.t 19)),
 (some (18, false), .lS 21 (.t 20)),
 (some (18, false), .bi 22 .neq (.t 21) (.c (.n .i64 10))),
 (none, .pk 23 (.t 18) (.c (.b true)) (.t 22)),
 (none, .kp [1, 2, 23])])
 (.ite (.t 23) (.seq (.rg [(none, .bd 24 [.n .i64 0, .n .i64 0, .n .i64 0, .n .i64 0] []),
 (none, .st 4 (.t 2) (.t 24)),
 (none, .mv 3 (.c (.b false))),
 (none, .kp [2, 3])])
 (.rt))
 (.sk)))
 (.seq (.rg [(none, .bd 25 [.n .i64 0, .n .i64 0, .n .i64 0, .n .i64 0] []),
 (none, .al 4 [.n .i64 0, .n .i64 0, .n .i64 0, .n .i64 0]),
 (none, .st 4 (.t 4) (.t 25)),
 (none, .kp [1, 2, 4])])
 (.seq (.rg [(none, .fa 27 2 (.t 1)),
 (none, .ld 28 none (.t 27)),
 (none, .ca (some 29) 156 [.t 28, .c (.n .i64 0)]),
 (none, .mv 26 (.t 29)),
 (none, .ex 30 (.t 26) 0),
 (none, .ex 31 (.t 26) 1),
 (none, .fa 32 0 (.t 4)),
 (none, .st 1 (.t 32) (.t 30)),
 (none, .kp [1, 2, 4])])
 (.seq (.rg [(none, .fa 34 2 (.t 1)),
 (none, .ld 35 none (.t 34)),
 (none, .ca (some 36) 157 [.t 35, .c (.n .i64 4)]),
 (none, .mv 33 (.t 36)),
 (none, .ex 37 (.t 33) 0),
 (none, .ex 38 (.t 33) 1),
 (none, .fa 39 1 (.t 4)),
 (none, .st 1 (.t 39) (.t 37)),
 (none, .kp [1, 2, 4])])
 (.seq (.rg [(none, .fa 41 2 (.t 1)),
 (none, .ld 42 none (.t 41)),
 (none, .ca (some 43) 157 [.t 42, .c (.n .i64 6)]),
 (none, .mv 40 (.t 43)),
 (none, .ex 44 (.t 40) 0),
 (none, .ex 45 (.t 40) 1),
 (none, .fa 46 2 (.t 4)),
 (none, .st 1 (.t 46) (.t 44)),
 (none, .kp [1, 2, 4])])
 (.seq (.rg [(none, .fa 48 2 (.t 1)),
 (none, .ld 49 none (.t 48)),
 (none, .ca (some 50) 157 [.t 49, .c (.n .i64 8)]),
 (none, .mv 47 (.t 50)),
 (none, .ex 51 (.t 47) 0),
 (none, .ex 52 (.t 47) 1),
 (none, .fa 53 3 (.t 4)),
 (none, .st 1 (.t 53) (.t 51)),
 (none, .kp [2, 4])])
 (.seq (.seq (.rg [(none, .ld 54 (some 4) (.t 4)),
 (none, .ca (some 55) 108 [.t 54]),
 (none, .un 56 .not (.t 55)),
 (none, .kp [2, 4, 56])])
 (.ite (.t 56) (.seq (.rg [(none, .bd 57 [.n .i64 0, .n .i64 0, .n .i64 0, .n .i64 0] []),
 (none, .st 4 (.t 2) (.t 57)),
 (none, .mv 3 (.c (.b false))),
 (none, .kp [2, 3])])
 (.rt))
 (.sk)))
 (.seq (.rg [(none, .ld 58 (some 4) (.t 4)),
 (none, .st 4 (.t 2) (.t 58)),
 (none, .mv 3 (.c (.b true))),
 (none, .kp [2, 3])])
 (.rt)))))))))
theorem mr107 : MrT Try.prog 107 pc107 [.c 2 (some 4), .t 3] 59 := fun hn h => spec_of_run (fn := Try.f107) (by kernel_rfl) rfl (by kernel_rfl) (by kernel_rfl) hn h
theorem mk107 : MkT Try.prog 107 pc107 [.c 2 (some 4), .t 3] 59 := mr107.k
theorem mw107 : MwT Try.prog 107 pc107 [.c 2 (some 4), .t 3] 59 := mr107.w
-- 108 impl.initOk
def pc108 : PC := .seq (.rg [(none, .bx 1 (.t 0)),
 (none, .mv 2 (.c (.b false))),
 (none, .kp [1])])
 (.seq (.rg [(none, .fa 3 0 (.t 1)),
 (none, .ld 4 none (.t 3)),
 (none, .bi 5 .geq (.t 4) (.c (.n .i64 1))),
 (none, .mv 6 (.t 5)),
 (some (6, true), .fa 7 0 (.t 1)),
 (some (6, true), .ld 8 none (.t 7)),
 (some (6, true), .bi 9 .leq (.t 8) (.c (.n .i64 4294967295))),
 (none, .pk 10 (.t 6) (.t 9) (.c (.b false))),
 (none, .mv 11 (.t 10)),
 (some (11, true), .fa 12 1 (.t 1)),
 (some (11, true), .ld 13 none (.t 12)),
 (some (11, true), .ca (some 14) 109 [.t 13]),
 (none, .pk 15 (.t 11) (.t 14) (.c (.b false))),
 (none, .mv 16 (.t 15)),
 (some (16, true), .fa 17 2 (.t 1)),
 (some (16, true), .ld 18 none (.t 17)),
 (some (16, true), .bi 19 .geq (.t 18) (.c (.n .i64 1))),
 (none, .pk 20 (.t 16) (.t 19) (.c (.b false))),
 (none, .mv 21 (.t 20)),
 (some (21, true), .fa 22 2 (.t 1)),
 (some (21, true), .ld 23 none (.t 22)),
 (some (21, true), .bi 24 .leq (.t 23) (.c (.n .i64 4))),
 (none, .pk 25 (.t 21) (.t 24) (.c (.b false))),
 (none, .mv 26 (.t 25)),
 (some (26, true), .fa 27 3 (.t 1)),
 (some (26, true), .ld 28 none (.t 27)),
 (some (26, true), .ca (some 29) 109 [.t 28]),
 (none, .pk 30 (.t 26) (.t 29) (.c (.b false))),
 (none, .mv 2 (.t 30)),
 (none, .kp [2])])
 (.rt))
theorem mr108 : MrT Try.prog 108 pc108 [.t 2] 31 := fun hn h => spec_of_run (fn := Try.f108) (by kernel_rfl) rfl (by kernel_rfl) (by kernel_rfl) hn h
theorem mk108 : MkT Try.prog 108 pc108 [.t 2] 31 := mr108.k
theorem mw108 : MwT Try.prog 108 pc108 [.t 2] 31 := mr108.w
-- 109 impl.serialOk
def pc109 : PC := .seq (.rg [(none, .mv 2 (.c (.b false))),
 (none, .kp [0])])
 (.seq (.rg [(none, .mv 3 (.t 0)),
 (none, .bi 4 .geq (.t 3) (.c (.n .i64 0))),
 (none, .mv 5 (.t 4)),
 (some (5, true), .mv 6 (.t 0)),
 (some (5, true), .bi 7 .lss (.t 6) (.c (.n .i64 65536))),
 (none, .pk 8 (.t 5) (.t 7) (.c (.b false))),
 (none, .mv 2 (.t 8)),
 (none, .kp [2])])
 (.rt))
theorem mr109 : MrT Try.prog 109 pc109 [.t 2] 9 := fun hn h => spec_of_run (fn := Try.f109) (by kernel_rfl) rfl (by kernel_rfl) (by kernel_rfl) hn h
theorem mk109 : MkT Try.prog 109 pc109 [.t 2] 9 := mr109.k
theorem mw109 : MwT Try.prog 109 pc109 [.t 2] 9 := mr109.w
-- 110 impl.dataOk
def pc110 : PC := .seq (.rg [(none, .bx 1 (.t 0)),
 (none, .mv 2 (.c (.b false))),
 (none, .kp [1])])
 (.seq (.rg [(none, .fa 3 0 (.t 1)),
 (none, .ld 4 none (.t 3)),
 (none, .ca (some 5) 109 [.t 4]),
 (none, .mv 6 (.t 5)),
 (some (6, true), .fa 7 1 (.t 1)),
 (some (6, true), .ld 8 none (.t 7)),
 (some (6, true), .ca (some 9) 109 [.t 8]),
 (none, .pk 10 (.t 6) (.t 9) (.c (.b false))),
 (none, .mv 11 (.t 10)),
 (some (11, true), .fa 12 2 (.t 1)),
 (some (11, true), .ld 13 none (.t 12)),
 (some (11, true), .ca (some 14) 109 [.t 13]),
 (none, .pk 15 (.t 11) (.t 14) (.c (.b false))),
 (none, .mv 16 (.t 15)),
 (some (16, true), .fa 17 6 (.t 1)),
 (some (16, true), .ld 18 none (.t 17)),
 (some (16, true), .lS 19 (.t 18)),
 (some (16, true), .bi 20 .geq (.t 19) (.c (.n .i64 1))),
 (none, .pk 21 (.t 16) (.t 20) (.c (.b false))),
 (none, .mv 22 (.t 21)),
 (some (22, true), .fa 23 6 (.t 1)),
 (some (22, true), .ld 24 none (.t 23)),
 (some (22, true), .lS 25 (.t 24)),
 (some (22, true), .bi 26 .leq (.t 25) (.c (.n .i64 20))),
 (none, .pk 27 (.t 22) (.t 26) (.c (.b false))),
 (none, .mv 2 (.t 27)),
 (none, .kp [2])])
 (.rt))
theorem mr110 : MrT Try.prog 110 pc110 [.t 2] 28 := fun hn h => spec_of_run (fn := Try.f110) (by kernel_rfl) rfl (by kernel_rfl) (by kernel_rfl) hn h
theorem mk110 : MkT Try.prog 110 pc110 [.t 2] 28 := mr110.k
theorem mw110 : MwT Try.prog 110 pc110 [.t 2] 28 := mr110.w
-- 111 impl.SerialAdd
def pc111 : PC := .seq (.rg [(none, .mv 4 (.c (.n .i64 0))),
 (none, .kp [0, 1])])
 (.seq (.seq (.rg [(none, .mv 5 (.t 0)),
 (none, .ca (some 6) 109 [.t 5]),
 (none, .un 7 .not (.t 6)),
 (none, .kp [0, 1, 7])])
 (.ite (.t 7) (.seq (.rg [(none, .mv 4 (.c (.n .i64 (-1)))),
 (none, .kp [4])])
 (.rt))
 (.sk)))
 (.seq (.rg [(none, .mv 8 (.t 0)),
 (none, .mv 9 (.t 1)),
 (none, .bi 10 .rem (.t 9) (.c (.n .i64 65536))),
 (none, .bi 11 .add (.t 8) (.t 10)),
 (none, .bi 12 .rem (.t 11) (.c (.n .i64 65536))),
 (none, .bi 13 .add (.t 12) (.c (.n .i64 65536))),
 (none, .bi 14 .rem (.t 13) (.c (.n .i64 65536))),
 (none, .mv 4 (.t 14)),
 (none, .kp [4])])
 (.rt)))
theorem mr111 : MrT Try.prog 111 pc111 [.t 4] 15 := fun hn h => spec_of_run (fn := Try.f111) (by kernel_rfl) rfl (by kernel_rfl) (by kernel_rfl) hn h
theorem mk111 : MkT Try.prog 111 pc111 [.t 4] 15 := mr111.k
theorem mw111 : MwT Try.prog 111 pc111 [.t 4] 15 := mr111.w
-- 112 impl.mayFollow
def pc112l0 : PC := .seq (.rg [(none, .bi 42 .lss (.t 41) (.t 40)),
 (none, .kp [3, 5, 39, 40, 41, 42])])
 (.seq (.ite (.t 42) (.sk)
 (.ex 0))
 (.seq (.blk 1 (.seq (.rg [(none, .ia 43 7 (.t 39) (.t 41)),
 (none, .ld 44 (some 7) (.t 43)),
 (none, .al 7 [.n .i64 0, .n .i64 0, .n .i64 0, .b false, .b false, .b false, .s []]),
 (none, .st 7 (.t 7) (.t 44)),
 (none, .kp [3, 5, 7, 39, 40, 41])])
 (.seq (.rg [(none, .fa 45 3 (.t 7)),
 (none, .ld 46 none (.t 45)),
 (none, .mv 47 (.t 46)),
 (some (47, true), .fa 48 5 (.t 7)),
 (some (47, true), .ld 49 none (.t 48)),
 (some (47, true), .un 50 .not (.t 49)),
 (none, .pk 51 (.t 47) (.t 50) (.c (.b false))),
 (none, .mv 52 (.t 51)),
 (some (52, true), .fa 53 1 (.t 7)),
 (some (52, true), .ld 54 none (.t 53)),
 (some (52, true), .fa 55 1 (.t 3)),
 (some (52, true), .ld 56 none (.t 55)),
 (some (52, true), .bi 57 .eql (.t 54) (.t 56)),
 (none, .pk 58 (.t 52) (.t 57) (.c (.b false))),
 (none, .kp [3, 5, 39, 40, 41, 58])])
 (.ite (.t 58) (.rg [(none, .mv 59 (.t 5)),
 (none, .bi 60 .add (.t 59) (.c (.n .i64 1))),
 (none, .mv 5 (.t 60)),
 (none, .kp [3, 5, 39, 40, 41])])
 (.sk)))))
 (.rg [(none, .bi 61 .add (.t 41) (.c (.n .i64 1))),
 (none, .mv 41 (.t 61)),
 (none, .kp [3, 5, 39, 40, 41])])))
def pc112 : PC := .seq (.rg [(none, .bx 3 (.t 1)),
 (none, .mv 4 (.c (.b false))),
 (none, .kp [0, 3])])
 (.seq (.seq (.rg [(none, .mv 8 (.t 0)),
 (none, .ln 9 (.t 8)),
 (none, .bi 10 .gtr (.t 9) (.c (.n .i64 0))),
 (none, .mv 11 (.t 10)),
 (some (11, true), .mv 12 (.t 0)),
 (some (11, true), .mv 13 (.t 0)),
 (some (11, true), .ln 14 (.t 13)),
 (some (11, true), .bi 15 .sub (.t 14) (.c (.n .i64 1))),
 (some (11, true), .ia 16 7 (.t 12) (.t 15)),
 (some (11, true), .fa 17 4 (.t 16)),
 (some (11, true), .ld 18 none (.t 17)),
 (some (11, true), .un 19 .not (.t 18)),
 (none, .pk 20 (.t 11) (.t 19) (.c (.b false))),
 (none, .kp [0, 3, 20])])
 (.ite (.t 20) (.seq (.dr [[], [0], [0, 1], [0, 1, 2], [0, 1, 2, 3], [0, 1, 2, 3], [0, 1, 2, 3], [0, 1, 2, 3, 6], [0, 1, 2, 3, 6, 7], [0, 1, 2, 3, 5, 6, 7, 8], [0, 1, 2, 3, 5, 6, 7, 8, 9], [0, 1, 2, 3, 4, 5, 6, 7, 8, 9, 10], [0, 1, 2, 3, 4, 5, 6, 7, 8, 9, 10, 11], [0, 1, 2, 3, 4, 5, 6, 7, 8, 9, 10, 11, 12]]
 (.q 0 (none, .fa 21 3 (.t 3))
 (.q 1 (none, .ld 22 none (.t 21))
 (.q 2 (none, .un 23 .not (.t 22))
 (.q 3 (none, .mv 24 (.t 23))
 (.q 4 (some (24, true), .ld 25 (some 7) (.t 3))
 (.q 5 (some (24, true), .mv 26 (.t 0))
 (.q 6 (some (24, true), .mv 27 (.t 0))
 (.q 7 (some (24, true), .ln 28 (.t 27))
 (.q 8 (some (24, true), .bi 29 .sub (.t 28) (.c (.n .i64 1)))
 (.q 9 (some (24, true), .ia 30 7 (.t 26) (.t 29))
 (.q 10 (some (24, true), .ld 31 (some 7) (.t 30))
 (.alt 11 (some (24, true), .ca (some 32) 159 [.t 25, .t 31]) [false, false, false, false, false, false, false, false, false, false, false]
 (.q 12 (none, .pk 33 (.t 24) (.t 32) (.c (.b false)))
 (.q 13 (none, .mv 4 (.t 33))
 (.done)))
 (.stop))))))))))))) [4])
 (.rt))
 (.sk)))
 (.seq (.seq (.rg [(none, .fa 34 3 (.t 3)),
 (none, .ld 35 none (.t 34)),
 (none, .un 36 .not (.t 35)),
 (none, .kp [0, 3, 36])])
 (.ite (.t 36) (.seq (.rg [(none, .mv 4 (.c (.b false))),
 (none, .kp [4])])
 (.rt))
 (.sk)))
 (.seq (.seq (.rg [(none, .fa 37 5 (.t 3)),
 (none, .ld 38 none (.t 37)),
 (none, .kp [0, 3, 38])])
 (.ite (.t 38) (.seq (.rg [(none, .mv 4 (.c (.b true))),
 (none, .kp [4])])
 (.rt))
 (.sk)))
 (.seq (.rg [(none, .mv 5 (.c (.n .i64 0))),
 (none, .kp [0, 3, 5])])
 (.seq (.seq (.rg [(none, .mv 39 (.t 0)),
 (none, .ln 40 (.t 39)),
 (none, .mv 41 (.c (.n .i64 0))),
 (none, .kp [3, 5, 39, 40, 41])])
 (.blk 0 (.lp pc112l0)))
 (.seq (.rg [(none, .fa 62 2 (.t 3)),
 (none, .ld 63 none (.t 62)),
 (none, .mv 64 (.t 5)),
 (none, .bi 65 .eql (.t 63) (.t 64)),
 (none, .mv 4 (.t 65)),
 (none, .kp [4])])
 (.rt)))))))
theorem mr112 : MrT Try.prog 112 pc112 [.t 4] 66 := fun hn h => spec_of_run (fn := Try.f112) (by kernel_rfl) rfl (by kernel_rfl) (by kernel_rfl) hn h
theorem mk112 : MkT Try.prog 112 pc112 [.t 4] 66 := mr112.k
theorem mw112 : MwT Try.prog 112 pc112 [.t 4] 66 := mr112.w
-- 116 spec.l6In
def pc116 : PC := .seq (.rg [(none, .mv 6 (.c (.b false))),
 (none, .kp [0, 1, 2])])
 (.seq (.rg [(none, .mv 7 (.t 0)),
 (none, .mv 8 (.t 1)),
 (none, .bi 9 .geq (.t 7) (.t 8)),
 (none, .mv 10 (.t 9)),
 (some (10, true), .mv 11 (.t 0)),
 (some (10, true), .mv 12 (.t 2)),
 (some (10, true), .bi 13 .leq (.t 11) (.t 12)),
 (none, .pk 14 (.t 10) (.t 13) (.c (.b false))),
 (none, .mv 6 (.t 14)),
 (none, .kp [6])])
 (.rt))
theorem mr116 : MrT Try.prog 116 pc116 [.t 6] 15 := fun hn h => spec_of_run (fn := Try.f116) (by kernel_rfl) rfl (by kernel_rfl) (by kernel_rfl) hn h
theorem mk116 : MkT Try.prog 116 pc116 [.t 6] 15 := mr116.k
theorem mw116 : MwT Try.prog 116 pc116 [.t 6] 15 := mr116.w
-- 119 spec.ChunkValid
def pc119 : PC := .seq (.rg [(none, .bx 1 (.t 0)),
 (none, .mv 2 (.c (.b false))),
 (none, .kp [1])])
 (.seq (.rg [(none, .fa 3 0 (.t 1)),
 (none, .ld 4 none (.t 3)),
 (none, .ca (some 5) 116 [.t 4, .c (.n .i64 0), .c (.n .i64 255)]),
 (none, .mv 6 (.t 5)),
 (some (6, true), .fa 7 1 (.t 1)),
 (some (6, true), .ld 8 none (.t 7)),
 (some (6, true), .ca (some 9) 116 [.t 8, .c (.n .i64 0), .c (.n .i64 255)]),
 (none, .pk 10 (.t 6) (.t 9) (.c (.b false))),
 (none, .mv 11 (.t 10)),
 (some (11, true), .fa 12 2 (.t 1)),
 (some (11, true), .ld 13 none (.t 12)),
 (some (11, true), .lS 14 (.t 13)),
 (some (11, true), .bi 15 .leq (.t 14) (.c (.n .i64 60))),
 (none, .pk 16 (.t 11) (.t 15) (.c (.b false))),
 (none, .mv 2 (.t 16)),
 (none, .kp [2])])
 (.rt))
theorem mr119 : MrT Try.prog 119 pc119 [.t 2] 17 := fun hn h => spec_of_run (fn := Try.f119) (by kernel_rfl) rfl (by kernel_rfl) (by kernel_rfl) hn h
theorem mk119 : MkT Try.prog 119 pc119 [.t 2] 17 := mr119.k
theorem mw119 : MwT Try.prog 119 pc119 [.t 2] 17 := mr119.w
-- 126 impl.ChunkValid
def pc126 : PC := .seq (.rg [(none, .bx 1 (.t 0)),
 (none, .mv 2 (.c (.b false))),
 (none, .kp [1])])
 (.seq (.rg [(none, .fa 3 0 (.t 1)),
 (none, .ld 4 none (.t 3)),
 (none, .bi 5 .geq (.t 4) (.c (.n .i64 0))),
 (none, .mv 6 (.t 5)),
 (some (6, true), .fa 7 0 (.t 1)),
 (some (6, true), .ld 8 none (.t 7)),
 (some (6, true), .bi 9 .leq (.t 8) (.c (.n .i64 255))),
 (none, .pk 10 (.t 6) (.t 9) (.c (.b false))),
 (none, .mv 11 (.t 10)),
 (some (11, true), .fa 12 1 (.t 1)),
 (some (11, true), .ld 13 none (.t 12)),
 (some (11, true), .bi 14 .geq (.t 13) (.c (.n .i64 0))),
 (none, .pk 15 (.t 11) (.t 14) (.c (.b false))),
 (none, .mv 16 (.t 15)),
 (some (16, true), .fa 17 1 (.t 1)),
 (some (16, true), .ld 18 none (.t 17)),
 (some (16, true), .bi 19 .leq (.t 18) (.c (.n .i64 255))),
 (none, .pk 20 (.t 16) (.t 19) (.c (.b false))),
 (none, .mv 21 (.t 20)),
 (some (21, true), .fa 22 2 (.t 1)),
 (some (21, true), .ld 23 none (.t 22)),
 (some (21, true), .lS 24 (.t 23)),
 (some (21, true), .bi 25 .leq (.t 24) (.c (.n .i64 60))),
 (none, .pk 26 (.t 21) (.t 25) (.c (.b false))),
 (none, .mv 2 (.t 26)),
 (none, .kp [2])])
 (.rt))
theorem mr126 : MrT Try.prog 126 pc126 [.t 2] 27 := fun hn h => spec_of_run (fn := Try.f126) (by kernel_rfl) rfl (by kernel_rfl) (by kernel_rfl) hn h
theorem mk126 : MkT Try.prog 126 pc126 [.t 2] 27 := mr126.k
theorem mw126 : MwT Try.prog 126 pc126 [.t 2] 27 := mr126.w
-- 127 (*impl.Assoc).greet
def pc127 : PC := .seq (.rg [(none, .bx 5 (.t 1)),
 (none, .mv 8 (.c (.n .i64 0))),
 (none, .kp [0, 2, 3, 5])])
 (.seq (.seq (.rg [(none, .mv 13 (.t 2)),
 (none, .fa 14 0 (.t 5)),
 (none, .ld 15 none (.t 14)),
 (none, .bi 16 .eql (.t 15) (.c (.n .i64 2))),
 (none, .bb 17 true (.t 13) (.t 16)),
 (none, .kp [0, 2, 3, 5, 17])])
 (.ite (.t 17) (.seq (.rg [(none, .mv 8 (.c (.n .i64 3))),
 (none, .kp [8])])
 (.rt))
 (.sk)))
 (.seq (.rg [(none, .mv 9 (.c (.n .i64 0))),
 (none, .mv 10 (.c (.n .i64 2))),
 (none, .kp [0, 2, 3, 5, 9, 10])])
 (.seq (.seq (.rg [(none, .mv 18 (.t 2)),
 (none, .kp [0, 3, 5, 9, 10, 18])])
 (.ite (.t 18) (.rg [(none, .mv 9 (.c (.n .i64 1))),
 (none, .kp [0, 3, 5, 9, 10])])
 (.sk)))
 (.seq (.seq (.rg [(none, .mv 19 (.t 0)),
 (none, .nc 20 (.t 19)),
 (none, .fa 21 2 (.t 20)),
 (none, .ld 22 none (.t 21)),
 (none, .mv 23 (.t 9)),
 (none, .bi 24 .lss (.t 22) (.t 23)),
 (none, .mv 25 (.t 24)),
 (some (25, false), .mv 26 (.t 0)),
 (some (25, false), .nc 27 (.t 26)),
 (some (25, false), .fa 28 2 (.t 27)),
 (some (25, false), .ld 29 none (.t 28)),
 (some (25, false), .mv 30 (.t 10)),
 (some (25, false), .bi 31 .gtr (.t 29) (.t 30)),
 (none, .pk 32 (.t 25) (.c (.b true)) (.t 31)),
 (none, .kp [0, 3, 5, 9, 32])])
 (.ite (.t 32) (.seq (.rg [(none, .mv 8 (.c (.n .i64 3))),
 (none, .kp [8])])
 (.rt))
 (.sk)))
 (.seq (.rg [(none, .ld 34 (some 3) (.t 5)),
 (none, .ca (some 35) 107 [.t 34]),
 (none, .mv 33 (.t 35)),
 (none, .ex 36 (.t 33) 0),
 (none, .ex 37 (.t 33) 1),
 (none, .al 11 [.n .i64 0, .n .i64 0, .n .i64 0, .n .i64 0]),
 (none, .st 4 (.t 11) (.t 36)),
 (none, .mv 12 (.t 37)),
 (none, .kp [0, 3, 9, 11, 12])])
 (.seq (.seq (.rg [(none, .mv 38 (.t 12)),
 (none, .un 39 .not (.t 38)),
 (none, .kp [0, 3, 9, 11, 39])])
 (.ite (.t 39) (.seq (.rg [(none, .mv 8 (.c (.n .i64 4))),
 (none, .kp [8])])
 (.rt))
 (.sk)))
 (.seq (.seq (.rg [(none, .mv 40 (.t 0)),
 (none, .nc 41 (.t 40)),
 (none, .fa 42 2 (.t 41)),
 (none, .ld 43 none (.t 42)),
 (none, .mv 44 (.t 9)),
 (none, .bi 45 .eql (.t 43) (.t 44)),
 (none, .kp [0, 3, 11, 45])])
 (.ite (.t 45) (.seq (.rg [(none, .mv 46 (.t 0)),
 (none, .nc 47 (.t 46)),
 (none, .fa 48 2 (.t 47)),
 (none, .ld 49 none (.t 48)),
 (none, .bi 50 .add (.t 49) (.c (.n .i64 1))),
 (none, .nc 51 (.t 46)),
 (none, .fa 52 2 (.t 51)),
 (none, .st 1 (.t 52) (.t 50)),
 (none, .kp [3, 11])])
 (.seq (.dr [[], [], [], [], [3], [], [5], [], [7], [0, 3, 4], [0, 3, 4, 9], [0, 3, 4, 9, 10], [0, 1, 3, 4, 5, 6, 9, 10, 11], [0, 1, 3, 4, 5, 6, 9, 10, 11, 12], [0, 1, 3, 4, 5, 6, 9, 10, 11, 12, 13], [0, 1, 2, 3, 4, 5, 6, 7, 8, 9, 10, 11, 12, 13, 14], [0, 1, 2, 3, 4, 5, 6, 7, 8, 9, 10, 11, 12, 13, 14, 15], [0, 1, 2, 3, 4, 5, 6, 7, 8, 9, 10, 11, 12, 13, 14, 15, 16]]
 (.q 0 (none, .mv 53 (.t 3))
 (.q 1 (none, .mv 54 (.t 3))
 (.q 2 (none, .mv 55 (.t 3))
 (.q 3 (none, .fa 56 0 (.t 11))
 (.q 4 (none, .ld 57 none (.t 56))
 (.q 5 (none, .fa 58 2 (.t 11))
 (.q 6 (none, .ld 59 none (.t 58))
 (.q 7 (none, .fa 60 3 (.t 11))
 (.q 8 (none, .ld 61 none (.t 60))
 (.q 9 (none, .nc 62 (.t 53))
 (.q 10 (none, .fa 63 0 (.t 62))
 (.alt 11 (none, .st 1 (.t 63) (.t 57)) [false, true, true, false, false, true, true, true, true, false, false]
 (.q 12 (none, .nc 64 (.t 54))
 (.q 13 (none, .fa 65 1 (.t 64))
 (.alt 14 (none, .st 1 (.t 65) (.t 59)) [false, false, true, false, false, false, false, true, true, false, false, false, false]
 (.q 15 (none, .nc 66 (.t 55))
 (.q 16 (none, .fa 67 2 (.t 66))
 (.alt 17 (none, .st 1 (.t 67) (.t 61)) [false, false, false, false, false, false, false, false, false, false, false, false, false, false, false]
 (.done)
 (.stop))))
 (.stop))))
 (.stop))))))))))))) [])
 (.seq (.rg [(none, .mv 8 (.c (.n .i64 0))),
 (none, .kp [8])])
 (.rt))))
 (.sk)))
 (.seq (.seq (.dr [[], [0], [], [2], [2, 3], [2, 3, 4], [0, 1, 2, 3, 4, 5], [0, 1, 2, 3, 4, 5, 6], [0, 1, 2, 3, 4, 5, 6, 7], [0, 1, 2, 3, 4, 5, 6, 7, 8], [0, 1, 2, 3, 4, 5, 6, 7], [0, 1, 2, 3, 4, 5, 6, 7, 10], [0, 1, 2, 3, 4, 5, 6, 7, 10, 11], [0, 1, 2, 3, 4, 5, 6, 7, 10, 11, 12], [0, 1, 2, 3, 4, 5, 6, 7, 8, 9, 10, 11, 12, 13], [0, 1, 2, 3, 4, 5, 6, 7, 8, 9, 10, 11, 12, 13, 14], [0, 1, 2, 3, 4, 5, 6, 7, 8, 9, 10, 11, 12, 13, 14, 15], [0, 1, 2, 3, 4, 5, 6, 7, 8, 9, 10, 11, 12, 13, 14, 15, 16], [0, 1, 2, 3, 4, 5, 6, 7, 8, 9, 10, 11, 12, 13, 14, 15, 16, 17], [0, 1, 2, 3, 4, 5, 6, 7, 8, 9, 10, 11, 12, 13, 14, 15, 16], [0, 1, 2, 3, 4, 5, 6, 7, 8, 9, 10, 11, 12, 13, 14, 15, 16, 19], [0, 1, 2, 3, 4, 5, 6, 7, 8, 9, 10, 11, 12, 13, 14, 15, 16, 19, 20], [0, 1, 2, 3, 4, 5, 6, 7, 8, 9, 10, 11, 12, 13, 14, 15, 16, 19, 20, 21], [0, 1, 2, 3, 4, 5, 6, 7, 8, 9, 10, 11, 12, 13, 14, 15, 16, 17, 18, 19, 20, 21, 22], [0, 1, 2, 3, 4, 5, 6, 7, 8, 9, 10, 11, 12, 13, 14, 15, 16, 17, 18, 19, 20, 21, 22, 23]]
 (.q 0 (none, .fa 68 0 (.t 11))
 (.q 1 (none, .ld 69 none (.t 68))
 (.q 2 (none, .mv 70 (.t 3))
 (.q 3 (none, .nc 71 (.t 70))
 (.q 4 (none, .fa 72 0 (.t 71))
 (.q 5 (none, .ld 73 none (.t 72))
 (.q 6 (none, .bi 74 .neq (.t 69) (.t 73))
 (.q 7 (none, .mv 75 (.t 74))
 (.q 8 (some (75, false), .fa 76 2 (.t 11))
 (.q 9 (some (75, false), .ld 77 none (.t 76))
 (.q 10 (some (75, false), .mv 78 (.t 3))
 (.q 11 (some (75, false), .nc 79 (.t 78))
 (.q 12 (some (75, false), .fa 80 1 (.t 79))
 (.q 13 (some (75, false), .ld 81 none (.t 80))
 (.q 14 (some (75, false), .bi 82 .neq (.t 77) (.t 81))
 (.q 15 (none, .pk 83 (.t 75) (.c (.b true)) (.t 82))
 (.q 16 (none, .mv 84 (.t 83))
 (.q 17 (some (84, false), .fa 85 3 (.t 11))
 (.q 18 (some (84, false), .ld 86 none (.t 85))
 (.q 19 (some (84, false), .mv 87 (.t 3))
 (.q 20 (some (84, false), .nc 88 (.t 87))
 (.q 21 (some (84, false), .fa 89 2 (.t 88))
 (.q 22 (some (84, false), .ld 90 none (.t 89))
 (.q 23 (some (84, false), .bi 91 .neq (.t 86) (.t 90))
 (.q 24 (none, .pk 92 (.t 84) (.c (.b true)) (.t 91))
 (.done)))))))))))))))))))))))))) [92])
 (.ite (.t 92) (.seq (.rg [(none, .mv 8 (.c (.n .i64 7))),
 (none, .kp [8])])
 (.rt))
 (.sk)))
 (.seq (.rg [(none, .mv 8 (.c (.n .i64 0))),
 (none, .kp [8])])
 (.rt))))))))))
theorem mr127 : MrT Try.prog 127 pc127 [.t 8] 93 := fun hn h => spec_of_run (fn := Try.f127) (by kernel_rfl) rfl (by kernel_rfl) (by kernel_rfl) hn h
theorem mk127 : MkT Try.prog 127 pc127 [.t 8] 93 := mr127.k
theorem mw127 : MwT Try.prog 127 pc127 [.t 8] 93 := mr127.w
-- 128 (*impl.Assoc).take
def pc128 : PC := .seq (.rg [(none, .bx 4 (.t 1)),
 (none, .mv 6 (.c (.n .i64 0))),
 (none, .kp [0, 2, 4])])
 (.seq (.rg [(none, .ld 11 (some 3) (.t 4)),
 (none, .ca (some 12) 172 [.t 11]),
 (none, .mv 10 (.t 12)),
 (none, .ex 13 (.t 10) 0),
 (none, .ex 14 (.t 10) 1),
 (none, .al 7 [.n .i64 0, .n .i64 0, .n .i64 0, .b false, .b false, .b false, .s []]),
 (none, .st 7 (.t 7) (.t 13)),
 (none, .mv 8 (.t 14)),
 (none, .kp [0, 2, 7, 8])])
 (.seq (.seq (.rg [(none, .mv 15 (.t 8)),
 (none, .un 16 .not (.t 15)),
 (none, .kp [0, 2, 7, 16])])
 (.ite (.t 16) (.seq (.rg [(none, .mv 6 (.c (.n .i64 4))),
 (none, .kp [6])])
 (.rt))
 (.sk)))
 (.seq (.dr [[], [0], [], [2], [2, 3], [2, 3, 4], [0, 1, 2, 3, 4, 5], [0, 1, 2, 3, 4, 5, 6], [0, 1, 2, 3, 4, 5, 6, 7], [0, 1, 2, 3, 4, 5, 6, 7, 8]]
 (.q 0 (none, .fa 17 0 (.t 7))
 (.q 1 (none, .ld 18 none (.t 17))
 (.q 2 (none, .mv 19 (.t 2))
 (.q 3 (none, .nc 20 (.t 19))
 (.q 4 (none, .fa 21 2 (.t 20))
 (.q 5 (none, .ld 22 none (.t 21))
 (.q 6 (none, .bi 23 .sub (.t 18) (.t 22))
 (.q 7 (none, .bi 24 .add (.t 23) (.c (.n .i64 65536)))
 (.q 8 (none, .bi 25 .rem (.t 24) (.c (.n .i64 65536)))
 (.q 9 (none, .mv 9 (.t 25))
 (.done))))))))))) [0, 2, 7, 9])
 (.seq (.seq (.rg [(none, .mv 26 (.t 9)),
 (none, .mv 27 (.t 2)),
 (none, .nc 28 (.t 27)),
 (none, .fa 29 3 (.t 28)),
 (none, .ld 30 none (.t 29)),
 (none, .ln 31 (.t 30)),
 (none, .bi 32 .lss (.t 26) (.t 31)),
 (none, .kp [0, 2, 7, 9, 32])])
 (.ite (.t 32) (.seq (.seq (.dr [[], [0], [0, 1], [0, 1, 2], [], [0, 1, 2, 3, 4], [0, 1, 2, 3, 4, 5], [], [0, 1, 2, 3, 4, 5, 6, 7]]
 (.q 0 (none, .mv 33 (.t 2))
 (.q 1 (none, .nc 34 (.t 33))
 (.q 2 (none, .fa 35 3 (.t 34))
 (.q 3 (none, .ld 36 none (.t 35))
 (.q 4 (none, .mv 37 (.t 9))
 (.q 5 (none, .ia 38 7 (.t 36) (.t 37))
 (.q 6 (none, .ld 39 (some 7) (.t 38))
 (.q 7 (none, .ld 40 (some 7) (.t 7))
 (.q 8 (none, .eqs 41 true [.n .i64 0, .n .i64 0, .n .i64 0, .b false, .b false, .b false, .s []] (.t 39) (.t 40))
 (.done)))))))))) [41])
 (.ite (.t 41) (.seq (.rg [(none, .mv 6 (.c (.n .i64 7))),
 (none, .kp [6])])
 (.rt))
 (.sk)))
 (.seq (.rg [(none, .mv 6 (.c (.n .i64 0))),
 (none, .kp [6])])
 (.rt)))
 (.sk)))
 (.seq (.blk 0 (.seq (.rg [(none, .mv 43 (.t 0)),
 (none, .nc 44 (.t 43)),
 (none, .fa 45 2 (.t 44)),
 (none, .ld 46 none (.t 45)),
 (none, .bi 47 .eql (.t 46) (.c (.n .i64 5))),
 (none, .mv 42 (.t 47)),
 (none, .kp [2, 7, 9, 42])])
 (.ite (.t 42) (.seq (.rg [(none, .mv 6 (.c (.n .i64 3))),
 (none, .kp [6])])
 (.rt))
 (.seq (.dr [[], [0], [], [2], [2, 3], [2, 3, 4], [0, 1, 2, 3, 4, 5], [0, 1, 2, 3, 4, 5, 6]]
 (.q 0 (none, .fa 49 1 (.t 7))
 (.q 1 (none, .ld 50 none (.t 49))
 (.q 2 (none, .mv 51 (.t 2))
 (.q 3 (none, .nc 52 (.t 51))
 (.q 4 (none, .fa 53 1 (.t 52))
 (.q 5 (none, .ld 54 none (.t 53))
 (.q 6 (none, .bi 55 .geq (.t 50) (.t 54))
 (.q 7 (none, .mv 48 (.t 55))
 (.done))))))))) [2, 7, 9, 48])
 (.ite (.t 48) (.seq (.rg [(none, .mv 6 (.c (.n .i64 5))),
 (none, .kp [6])])
 (.rt))
 (.seq (.rg [(none, .mv 57 (.t 9)),
 (none, .mv 58 (.t 2)),
 (none, .nc 59 (.t 58)),
 (none, .fa 60 3 (.t 59)),
 (none, .ld 61 none (.t 60)),
 (none, .ln 62 (.t 61)),
 (none, .bi 63 .gtr (.t 57) (.t 62)),
 (none, .mv 56 (.t 63)),
 (none, .kp [2, 7, 56])])
 (.ite (.t 56) (.seq (.rg [(none, .mv 6 (.c (.n .i64 6))),
 (none, .kp [6])])
 (.rt))
 (.seq (.dr [[], [0], [0, 1], [0, 1, 2], [], [0, 1, 2, 3, 4], [0, 1, 2, 3, 4, 5], [0, 1, 2, 3, 4, 5, 6]]
 (.q 0 (none, .mv 65 (.t 2))
 (.q 1 (none, .nc 66 (.t 65))
 (.q 2 (none, .fa 67 3 (.t 66))
 (.q 3 (none, .ld 68 none (.t 67))
 (.q 4 (none, .ld 69 (some 7) (.t 7))
 (.alt 5 (none, .ca (some 70) 112 [.t 68, .t 69]) [false, false, false, false, false]
 (.q 6 (none, .un 71 .not (.t 70))
 (.q 7 (none, .mv 64 (.t 71))
 (.done)))
 (.stop))))))) [2, 7, 64])
 (.ite (.t 64) (.seq (.rg [(none, .mv 6 (.c (.n .i64 8))),
 (none, .kp [6])])
 (.rt))
 (.seq (.rg [(none, .mv 73 (.t 2)),
 (none, .nc 74 (.t 73)),
 (none, .fa 75 3 (.t 74)),
 (none, .ld 76 none (.t 75)),
 (none, .ln 77 (.t 76)),
 (none, .bi 78 .geq (.t 77) (.c (.n .i64 12))),
 (none, .mv 72 (.t 78)),
 (none, .kp [2, 7, 72])])
 (.ite (.t 72) (.seq (.rg [(none, .mv 6 (.c (.n .i64 11))),
 (none, .kp [6])])
 (.rt))
 (.sk))))))))))))
 (.seq (.dr [[], [], [1], [1, 2], [1, 2, 3], [], [5], [1, 2, 3, 4, 5, 6], [0, 1, 2, 3, 4, 5, 6, 7], [0, 1, 2, 3, 4, 5, 6, 7, 8], [0, 1, 2, 3, 4, 5, 6, 7, 8, 9]]
 (.q 0 (none, .mv 79 (.t 2))
 (.q 1 (none, .mv 80 (.t 2))
 (.q 2 (none, .nc 81 (.t 80))
 (.q 3 (none, .fa 82 3 (.t 81))
 (.q 4 (none, .ld 83 none (.t 82))
 (.q 5 (none, .ld 84 (some 7) (.t 7))
 (.alt 6 (none, .bs 85 7 1 [.n .i64 0, .n .i64 0, .n .i64 0, .b false, .b false, .b false, .s []] [(0, .t 84)]) [true, true, true, true, true, false]
 (.alt 7 (none, .ap 86 7 48 (.t 83) (.t 85)) [true, false, false, false, false, false]
 (.q 8 (none, .nc 87 (.t 79))
 (.q 9 (none, .fa 88 3 (.t 87))
 (.alt 10 (none, .st 1 (.t 88) (.t 86)) [false, false, false, false, false, false, false, false]
 (.done)
 (.stop))))
 (.stop))
 (.stop)))))))) [])
 (.seq (.rg [(none, .mv 6 (.c (.n .i64 0))),
 (none, .kp [6])])
 (.rt))))))))
theorem mr128 : MrT Try.prog 128 pc128 [.t 6] 89 := fun hn h => spec_of_run (fn := Try.f128) (by kernel_rfl) rfl (by kernel_rfl) (by kernel_rfl) hn h
theorem mk128 : MkT Try.prog 128 pc128 [.t 6] 89 := mr128.k
theorem mw128 : MwT Try.prog 128 pc128 [.t 6] 89 := mr128.w
-- 129 impl.acknowledge
def pc129 : PC := .seq (.rg [(none, .bx 2 (.t 0)),
 (none, .mv 4 (.c (.n .i64 0))),
 (none, .kp [1, 2])])
 (.seq (.rg [(none, .ld 10 (some 3) (.t 2)),
 (none, .ca (some 11) 173 [.t 10]),
 (none, .mv 9 (.t 11)),
 (none, .ex 12 (.t 9) 0),
 (none, .ex 13 (.t 9) 1),
 (none, .al 5 [.n .i64 0, .nil]),
 (none, .st 2 (.t 5) (.t 12)),
 (none, .mv 6 (.t 13)),
 (none, .kp [1, 5, 6])])
 (.seq (.seq (.rg [(none, .mv 14 (.t 6)),
 (none, .un 15 .not (.t 14)),
 (none, .kp [1, 5, 15])])
 (.ite (.t 15) (.seq (.rg [(none, .mv 4 (.c (.n .i64 4))),
 (none, .kp [4])])
 (.rt))
 (.sk)))
 (.seq (.dr [[], [0], [0, 1], [0, 1, 2], [0, 1, 2, 3], [], [5], [0, 1, 2, 3, 4, 5, 6], [0, 1, 2, 3, 4, 5, 6, 7]]
 (.q 0 (none, .mv 16 (.t 1))
 (.q 1 (none, .nc 17 (.t 16))
 (.q 2 (none, .fa 18 2 (.t 17))
 (.q 3 (none, .ld 19 none (.t 18))
 (.q 5 (none, .fa 21 0 (.t 5))
 (.q 6 (none, .ld 22 none (.t 21))
 (.alt 4 (none, .ca (some 20) 111 [.t 19, .c (.n .i64 (-1))]) [false, false, false, false, true, true]
 (.alt 7 (none, .ca (some 23) 174 [.t 20, .t 22]) [false, false, false, false, false, false]
 (.q 8 (none, .mv 7 (.t 23))
 (.done))
 (.stop))
 (.stop)))))))) [1, 5, 7])
 (.seq (.seq (.rg [(none, .mv 24 (.t 7)),
 (none, .bi 25 .lss (.t 24) (.c (.n .i64 0))),
 (none, .mv 26 (.t 25)),
 (some (26, false), .mv 27 (.t 7)),
 (some (26, false), .mv 28 (.t 1)),
 (some (26, false), .nc 29 (.t 28)),
 (some (26, false), .fa 30 3 (.t 29)),
 (some (26, false), .ld 31 none (.t 30)),
 (some (26, false), .ln 32 (.t 31)),
 (some (26, false), .bi 33 .gtr (.t 27) (.t 32)),
 (none, .pk 34 (.t 26) (.c (.b true)) (.t 33)),
 (none, .kp [1, 5, 7, 34])])
 (.ite (.t 34) (.seq (.rg [(none, .mv 4 (.c (.n .i64 9))),
 (none, .kp [4])])
 (.rt))
 (.sk)))
 (.seq (.seq (.rg [(none, .fa 35 1 (.t 5)),
 (none, .ld 36 none (.t 35)),
 (none, .ln 37 (.t 36)),
 (none, .mv 8 (.t 37)),
 (none, .kp [1, 5, 7, 8])])
 (.seq (.dr [[], [0], [0, 1], [0, 1, 2], [0, 1, 2], [0, 1, 2, 4], [0, 1, 2], [0, 1, 2, 6], [0, 1, 2, 4, 5, 6, 7], [0, 1, 2, 4, 5, 6, 7, 8], [0, 1, 2, 4, 5, 6, 7, 8, 9], [0, 1, 2, 3, 4, 5, 6, 7, 8, 9, 10], [0, 1, 2], [0, 1, 2, 12], [0, 1, 2, 12, 13], [0, 1, 2, 12, 13, 14], [0, 1, 2, 12, 13, 14, 15], [0, 1, 2, 3, 4, 5, 6, 7, 8, 9, 10, 11, 12, 13, 14, 15, 16], [0, 1, 2, 3, 4, 5, 6, 7, 8, 9, 10, 11, 12, 13, 14, 15, 16, 17]]
 (.q 0 (none, .mv 38 (.t 8))
 (.q 1 (none, .bi 39 .gtr (.t 38) (.c (.n .i64 0)))
 (.q 2 (none, .mv 40 (.t 39))
 (.q 3 (some (40, true), .mv 41 (.t 7))
 (.q 4 (some (40, true), .fa 42 1 (.t 5))
 (.q 5 (some (40, true), .ld 43 none (.t 42))
 (.q 6 (some (40, true), .mv 44 (.t 8))
 (.q 7 (some (40, true), .bi 45 .sub (.t 44) (.c (.n .i64 1)))
 (.q 8 (some (40, true), .ia 46 2 (.t 43) (.t 45))
 (.q 9 (some (40, true), .fa 47 1 (.t 46))
 (.q 10 (some (40, true), .ld 48 none (.t 47))
 (.q 11 (some (40, true), .bi 49 .add (.t 41) (.t 48))
 (.q 12 (some (40, true), .mv 50 (.t 1))
 (.q 13 (some (40, true), .nc 51 (.t 50))
 (.q 14 (some (40, true), .fa 52 3 (.t 51))
 (.q 15 (some (40, true), .ld 53 none (.t 52))
 (.q 16 (some (40, true), .ln 54 (.t 53))
 (.q 17 (some (40, true), .bi 55 .gtr (.t 49) (.t 54))
 (.q 18 (none, .pk 56 (.t 40) (.t 55) (.c (.b false)))
 (.done)))))))))))))))))))) [1, 7, 56])
 (.ite (.t 56) (.seq (.rg [(none, .mv 4 (.c (.n .i64 9))),
 (none, .kp [4])])
 (.rt))
 (.sk))))
 (.seq (.rg [(none, .mv 57 (.t 1)),
 (none, .mv 58 (.t 1)),
 (none, .nc 59 (.t 58)),
 (none, .fa 60 4 (.t 59)),
 (none, .ld 61 none (.t 60)),
 (none, .mv 62 (.t 7)),
 (none, .mx 63 (.t 61) (.t 62)),
 (none, .nc 64 (.t 57)),
 (none, .fa 65 4 (.t 64)),
 (none, .st 1 (.t 65) (.t 63)),
 (none, .kp [])])
 (.seq (.rg [(none, .mv 4 (.c (.n .i64 0))),
 (none, .kp [4])])
 (.rt))))))))
theorem mr129 : MrT Try.prog 129 pc129 [.t 4] 66 := fun hn h => spec_of_run (fn := Try.f129) (by kernel_rfl) rfl (by kernel_rfl) (by kernel_rfl) hn h
theorem mk129 : MkT Try.prog 129 pc129 [.t 4] 66 := mr129.k
theorem mw129 : MwT Try.prog 129 pc129 [.t 4] 66 := mr129.w
-- 136 spec.l12Init
def pc136 : PC := .seq (.rg [(none, .bx 1 (.t 0)),
 (none, .mv 2 (.c (.b false))),
 (none, .kp [1])])
 (.seq (.rg [(none, .fa 3 0 (.t 1)),
 (none, .ld 4 none (.t 3)),
 (none, .ca (some 5) 116 [.t 4, .c (.n .i64 1), .c (.n .i64 4294967295)]),
 (none, .mv 6 (.t 5)),
 (some (6, true), .fa 7 1 (.t 1)),
 (some (6, true), .ld 8 none (.t 7)),
 (some (6, true), .ca (some 9) 116 [.t 8, .c (.n .i64 0), .c (.n .i64 65535)]),
 (none, .pk 10 (.t 6) (.t 9) (.c (.b false))),
 (none, .mv 11 (.t 10)),
 (some (11, true), .fa 12 2 (.t 1)),
 (some (11, true), .ld 13 none (.t 12)),
 (some (11, true), .ca (some 14) 116 [.t 13, .c (.n .i64 1), .c (.n .i64 4)]),
 (none, .pk 15 (.t 11) (.t 14) (.c (.b false))),
 (none, .mv 16 (.t 15)),
 (some (16, true), .fa 17 3 (.t 1)),
 (some (16, true), .ld 18 none (.t 17)),
 (some (16, true), .ca (some 19) 163 [.t 18]),
 (none, .pk 20 (.t 16) (.t 19) (.c (.b false))),
 (none, .mv 2 (.t 20)),
 (none, .kp [2])])
 (.rt))
theorem mr136 : MrT Try.prog 136 pc136 [.t 2] 21 := fun hn h => spec_of_run (fn := Try.f136) (by kernel_rfl) rfl (by kernel_rfl) (by kernel_rfl) hn h
theorem mk136 : MkT Try.prog 136 pc136 [.t 2] 21 := mr136.k
theorem mw136 : MwT Try.prog 136 pc136 [.t 2] 21 := mr136.w
-- 137 spec.InitPut
def pc137 : PC := .seq (.rg [(none, .bx 2 (.t 0)),
 (none, .al 4 [.n .i64 0, .n .i64 0, .s []]),
 (none, .mv 5 (.c (.b false))),
 (none, .kp [1, 2, 4])])
 (.seq (.seq (.rg [(none, .ld 7 (some 4) (.t 2)),
 (none, .ca (some 8) 136 [.t 7]),
 (none, .un 9 .not (.t 8)),
 (none, .kp [1, 2, 4, 9])])
 (.ite (.t 9) (.seq (.rg [(none, .bd 10 [.n .i64 0, .n .i64 0, .s []] []),
 (none, .st 3 (.t 4) (.t 10)),
 (none, .mv 5 (.c (.b false))),
 (none, .kp [4, 5])])
 (.rt))
 (.sk)))
 (.seq (.dr [[], [0], [0, 1], [], [3], [0, 1, 2, 3, 4], [0, 1, 2, 3, 4, 5], [], [7], [0, 1, 2, 3, 4, 5, 7, 8], [0, 1, 2, 3, 4, 5, 6, 7, 8, 9], [], [11], [0, 1, 2, 3, 4, 5, 7, 8, 9, 11, 12], [0, 1, 2, 3, 4, 5, 6, 7, 8, 9, 10, 11, 12, 13], [0, 1, 2, 3, 4, 5, 6, 7, 8, 9, 10, 11, 12, 13, 14], [], [0, 1, 2, 3, 4, 5, 6, 7, 8, 9, 10, 11, 12, 13, 14, 15, 16]]
 (.q 0 (none, .fa 11 0 (.t 2))
 (.q 1 (none, .ld 12 none (.t 11))
 (.q 3 (none, .fa 14 1 (.t 2))
 (.q 4 (none, .ld 15 none (.t 14))
 (.q 7 (none, .fa 18 2 (.t 2))
 (.q 8 (none, .ld 19 none (.t 18))
 (.q 11 (none, .fa 22 3 (.t 2))
 (.q 12 (none, .ld 23 none (.t 22))
 (.alt 2 (none, .ca (some 13) 152 [.t 12]) [false, false, true, true, true, true, true, true]
 (.alt 5 (none, .ca (some 16) 142 [.t 15]) [false, false, false, false, true, true, true, true]
 (.q 6 (none, .bi 17 .add (.t 13) (.t 16))
 (.alt 9 (none, .ca (some 20) 142 [.t 19]) [false, false, false, false, false, false, true, true, true]
 (.q 10 (none, .bi 21 .add (.t 17) (.t 20))
 (.alt 13 (none, .ca (some 24) 142 [.t 23]) [false, false, false, false, false, false, false, false, true, true]
 (.q 14 (none, .bi 25 .add (.t 21) (.t 24))
 (.q 15 (none, .bd 26 [.n .i64 0, .n .i64 0, .s []] [(0, 1, .c (.n .i64 1)), (2, 1, .t 25)])
 (.alt 16 (none, .al 6 [.n .i64 0, .n .i64 0, .s []]) [true, true, true, true, true, true, true, true, true, true, true, true]
 (.alt 17 (none, .st 3 (.t 6) (.t 26)) [false, false, false, false, false, false, false, false, false, false, false, false]
 (.done)
 (.stop))
 (.stop))))
 (.alt 16 (none, .al 6 [.n .i64 0, .n .i64 0, .s []]) [true, true, true, true, true, true, true, true, true, true]
 (.alt 13 (none, .ca (some 24) 142 [.t 23]) [false, false, false, false, false, false, false, false, true, true]
 (.q 14 (none, .bi 25 .add (.t 21) (.t 24))
 (.q 15 (none, .bd 26 [.n .i64 0, .n .i64 0, .s []] [(0, 1, .c (.n .i64 1)), (2, 1, .t 25)])
 (.alt 17 (none, .st 3 (.t 6) (.t 26)) [false, false, false, false, false, false, false, false, false, false, false, false]
 (.done)
 (.stop))))
 (.stop))
 (.stop))))
 (.alt 16 (none, .al 6 [.n .i64 0, .n .i64 0, .s []]) [true, true, true, true, true, true, true, true, true]
 (.alt 9 (none, .ca (some 20) 142 [.t 19]) [false, false, false, false, false, false, true, true, true]
 (.q 10 (none, .bi 21 .add (.t 17) (.t 20))
 (.alt 13 (none, .ca (some 24) 142 [.t 23]) [false, false, false, false, false, false, false, false, true, true]
 (.q 14 (none, .bi 25 .add (.t 21) (.t 24))
 (.q 15 (none, .bd 26 [.n .i64 0, .n .i64 0, .s []] [(0, 1, .c (.n .i64 1)), (2, 1, .t 25)])
 (.alt 17 (none, .st 3 (.t 6) (.t 26)) [false, false, false, false, false, false, false, false, false, false, false, false]
 (.done)
 (.stop))))
 (.stop)))
 (.stop))
 (.stop))))
 (.alt 16 (none, .al 6 [.n .i64 0, .n .i64 0, .s []]) [true, true, true, true, true, true, true, true]
 (.alt 5 (none, .ca (some 16) 142 [.t 15]) [false, false, false, false, true, true, true, true]
 (.q 6 (none, .bi 17 .add (.t 13) (.t 16))
 (.alt 9 (none, .ca (some 20) 142 [.t 19]) [false, false, false, false, false, false, true, true, true]
 (.q 10 (none, .bi 21 .add (.t 17) (.t 20))
 (.alt 13 (none, .ca (some 24) 142 [.t 23]) [false, false, false, false, false, false, false, false, true, true]
 (.q 14 (none, .bi 25 .add (.t 21) (.t 24))
 (.q 15 (none, .bd 26 [.n .i64 0, .n .i64 0, .s []] [(0, 1, .c (.n .i64 1)), (2, 1, .t 25)])
 (.alt 17 (none, .st 3 (.t 6) (.t 26)) [false, false, false, false, false, false, false, false, false, false, false, false]
 (.done)
 (.stop))))
 (.stop)))
 (.stop)))
 (.stop))
 (.stop)))
 (.alt 16 (none, .al 6 [.n .i64 0, .n .i64 0, .s []]) [true, true, true, true, true, true, true, true]
 (.alt 2 (none, .ca (some 13) 152 [.t 12]) [false, false, true, true, true, true, true, true]
 (.alt 5 (none, .ca (some 16) 142 [.t 15]) [false, false, false, false, true, true, true, true]
 (.q 6 (none, .bi 17 .add (.t 13) (.t 16))
 (.alt 9 (none, .ca (some 20) 142 [.t 19]) [false, false, false, false, false, false, true, true, true]
 (.q 10 (none, .bi 21 .add (.t 17) (.t 20))
 (.alt 13 (none, .ca (some 24) 142 [.t 23]) [false, false, false, false, false, false, false, false, true, true]
 (.q 14 (none, .bi 25 .add (.t 21) (.t 24))
 (.q 15 (none, .bd 26 [.n .i64 0, .n .i64 0, .s []] [(0, 1, .c (.n .i64 1)), (2, 1, .t 25)])
 (.alt 17 (none, .st 3 (.t 6) (.t 26)) [false, false, false, false, false, false, false, false, false, false, false, false]
 (.done)
 (.stop))))
 (.stop)))
 (.stop)))
 (.stop))
 (.stop))
 (.stop))))))))))) [1, 4, 6])
 (.seq (.seq (.rg [(none, .mv 27 (.t 1)),
 (none, .kp [4, 6, 27])])
 (.ite (.t 27) (.rg [(none, .fa 28 0 (.t 6)),
 (none, .st 1 (.t 28) (.c (.n .i64 2))),
 (none, .kp [4, 6])])
 (.sk)))
 (.seq (.rg [(none, .ld 29 (some 3) (.t 6)),
 (none, .st 3 (.t 4) (.t 29)),
 (none, .mv 5 (.c (.b true))),
 (none, .kp [4, 5])])
 (.rt)))))
theorem mr137 : MrT Try.prog 137 pc137 [.c 4 (some 3), .t 5] 30 := fun hn h => spec_of_run (fn := Try.f137) (by kernel_rfl) rfl (by kernel_rfl) (by kernel_rfl) hn h
theorem mk137 : MkT Try.prog 137 pc137 [.c 4 (some 3), .t 5] 30 := mr137.k
theorem mw137 : MwT Try.prog 137 pc137 [.c 4 (some 3), .t 5] 30 := mr137.w
-- 138 spec.l31Ssn
def pc138l0 : PC := .seq (.seq (.rg [(none, .mv 7 (.t 6)),
 (none, .mv 8 (.t 0)),
 (none, .ln 9 (.t 8)),
 (none, .bi 10 .lss (.t 7) (.t 9)),
 (none, .kp [0, 1, 5, 6, 10])])
 (.ite (.t 10) (.sk)
 (.ex 0)))
 (.seq (.blk 1 (.seq (.rg [(none, .mv 13 (.t 0)),
 (none, .mv 14 (.t 6)),
 (none, .ia 15 7 (.t 13) (.t 14)),
 (none, .fa 16 3 (.t 15)),
 (none, .ld 17 none (.t 16)),
 (none, .mv 18 (.t 17)),
 (some (18, true), .mv 19 (.t 0)),
 (some (18, true), .mv 20 (.t 6)),
 (some (18, true), .ia 21 7 (.t 19) (.t 20)),
 (some (18, true), .fa 22 5 (.t 21)),
 (some (18, true), .ld 23 none (.t 22)),
 (some (18, true), .un 24 .not (.t 23)),
 (none, .pk 25 (.t 18) (.t 24) (.c (.b false))),
 (none, .mv 26 (.t 25)),
 (some (26, true), .mv 27 (.t 0)),
 (some (26, true), .mv 28 (.t 6)),
 (some (26, true), .ia 29 7 (.t 27) (.t 28)),
 (some (26, true), .fa 30 1 (.t 29)),
 (some (26, true), .ld 31 none (.t 30)),
 (some (26, true), .mv 32 (.t 1)),
 (some (26, true), .bi 33 .eql (.t 31) (.t 32)),
 (none, .pk 34 (.t 26) (.t 33) (.c (.b false))),
 (none, .kp [0, 1, 5, 6, 34])])
 (.ite (.t 34) (.rg [(none, .mv 35 (.t 5)),
 (none, .bi 36 .add (.t 35) (.c (.n .i64 1))),
 (none, .mv 5 (.t 36)),
 (none, .kp [0, 1, 5, 6])])
 (.sk))))
 (.rg [(none, .mv 11 (.t 6)),
 (none, .bi 12 .add (.t 11) (.c (.n .i64 1))),
 (none, .mv 6 (.t 12)),
 (none, .kp [0, 1, 5, 6])]))
def pc138 : PC := .seq (.rg [(none, .mv 4 (.c (.n .i64 0))),
 (none, .kp [0, 1])])
 (.seq (.rg [(none, .mv 5 (.c (.n .i64 0))),
 (none, .kp [0, 1, 5])])
 (.seq (.seq (.rg [(none, .mv 6 (.c (.n .i64 0))),
 (none, .kp [0, 1, 5, 6])])
 (.blk 0 (.lp pc138l0)))
 (.seq (.rg [(none, .mv 37 (.t 5)),
 (none, .mv 4 (.t 37)),
 (none, .kp [4])])
 (.rt))))
theorem mr138 : MrT Try.prog 138 pc138 [.t 4] 38 := fun hn h => spec_of_run (fn := Try.f138) (by kernel_rfl) rfl (by kernel_rfl) (by kernel_rfl) hn h
theorem mk138 : MkT Try.prog 138 pc138 [.t 4] 38 := mr138.k
theorem mw138 : MwT Try.prog 138 pc138 [.t 4] 38 := mr138.w
-- 139 spec.l3Add
def pc139 : PC := .seq (.rg [(none, .mv 4 (.c (.n .i64 0))),
 (none, .kp [0, 1])])
 (.seq (.rg [(none, .mv 5 (.t 0)),
 (none, .mv 6 (.t 1)),
 (none, .bi 7 .rem (.t 6) (.c (.n .i64 65536))),
 (none, .bi 8 .add (.t 5) (.t 7)),
 (none, .bi 9 .add (.t 8) (.c (.n .i64 65536))),
 (none, .bi 10 .rem (.t 9) (.c (.n .i64 65536))),
 (none, .mv 4 (.t 10)),
 (none, .kp [4])])
 (.rt))
theorem mr139 : MrT Try.prog 139 pc139 [.t 4] 11 := fun hn h => spec_of_run (fn := Try.f139) (by kernel_rfl) rfl (by kernel_rfl) (by kernel_rfl) hn h
theorem mk139 : MkT Try.prog 139 pc139 [.t 4] 11 := mr139.k
theorem mw139 : MwT Try.prog 139 pc139 [.t 4] 11 := mr139.w
-- 140 spec.l12Data
def pc140 : PC := .seq (.rg [(none, .bx 1 (.t 0)),
 (none, .mv 2 (.c (.b false))),
 (none, .kp [1])])
 (.seq (.rg [(none, .fa 3 0 (.t 1)),
 (none, .ld 4 none (.t 3)),
 (none, .ca (some 5) 163 [.t 4]),
 (none, .mv 6 (.t 5)),
 (some (6, true), .fa 7 1 (.t 1)),
 (some (6, true), .ld 8 none (.t 7)),
 (some (6, true), .ca (some 9) 163 [.t 8]),
 (none, .pk 10 (.t 6) (.t 9) (.c (.b false))),
 (none, .mv 11 (.t 10)),
 (some (11, true), .fa 12 2 (.t 1)),
 (some (11, true), .ld 13 none (.t 12)),
 (some (11, true), .ca (some 14) 163 [.t 13]),
 (none, .pk 15 (.t 11) (.t 14) (.c (.b false))),
 (none, .mv 16 (.t 15)),
 (some (16, true), .fa 17 6 (.t 1)),
 (some (16, true), .ld 18 none (.t 17)),
 (some (16, true), .lS 19 (.t 18)),
 (some (16, true), .ca (some 20) 116 [.t 19, .c (.n .i64 1), .c (.n .i64 20)]),
 (none, .pk 21 (.t 16) (.t 20) (.c (.b false))),
 (none, .mv 2 (.t 21)),
 (none, .kp [2])])
 (.rt))
theorem mr140 : MrT Try.prog 140 pc140 [.t 2] 22 := fun hn h => spec_of_run (fn := Try.f140) (by kernel_rfl) rfl (by kernel_rfl) (by kernel_rfl) hn h
theorem mk140 : MkT Try.prog 140 pc140 [.t 2] 22 := mr140.k
theorem mw140 : MwT Try.prog 140 pc140 [.t 2] 22 := mr140.w
-- 141 spec.l12Bit
def pc141 : PC := .seq (.rg [(none, .mv 4 (.c (.n .i64 0))),
 (none, .kp [0, 1])])
 (.seq (.seq (.rg [(none, .mv 5 (.t 0)),
 (none, .kp [1, 5])])
 (.ite (.t 5) (.seq (.rg [(none, .mv 6 (.t 1)),
 (none, .mv 4 (.t 6)),
 (none, .kp [4])])
 (.rt))
 (.sk)))
 (.seq (.rg [(none, .mv 4 (.c (.n .i64 0))),
 (none, .kp [4])])
 (.rt)))
theorem mr141 : MrT Try.prog 141 pc141 [.t 4] 7 := fun hn h => spec_of_run (fn := Try.f141) (by kernel_rfl) rfl (by kernel_rfl) (by kernel_rfl) hn h
theorem mk141 : MkT Try.prog 141 pc141 [.t 4] 7 := mr141.k
theorem mw141 : MwT Try.prog 141 pc141 [.t 4] 7 := mr141.w
-- 142 spec.l1Word
def pc142 : PC := .seq (.rg [(none, .mv 2 (.c (.s []))),
 (none, .kp [0])])
 (.seq (.rg [(none, .mv 3 (.t 0)),
 (none, .bi 4 .quo (.t 3) (.c (.n .i64 256))),
 (none, .cv 5 .u8 (.t 4)),
 (none, .mv 6 (.t 0)),
 (none, .bi 7 .rem (.t 6) (.c (.n .i64 256))),
 (none, .cv 8 .u8 (.t 7)),
 (none, .bs 9 1 2 [.n .u8 0] [(0, .t 5), (1, .t 8)]),
 (none, .cs 10 (.t 9)),
 (none, .mv 2 (.t 10)),
 (none, .kp [2])])
 (.rt))
theorem mr142 : MrT Try.prog 142 pc142 [.t 2] 11 := fun hn h => spec_of_run (fn := Try.f142) (by kernel_rfl) rfl (by kernel_rfl) (by kernel_rfl) hn h
theorem mk142 : MkT Try.prog 142 pc142 [.t 2] 11 := mr142.k
theorem mw142 : MwT Try.prog 142 pc142 [.t 2] 11 := mr142.w
-- 143 spec.l12Sack
def pc143l0 : PC := .seq (.seq (.rg [(none, .mv 6 (.t 4)),
 (none, .fa 7 1 (.t 1)),
 (none, .ld 8 none (.t 7)),
 (none, .ln 9 (.t 8)),
 (none, .bi 10 .lss (.t 6) (.t 9)),
 (none, .kp [1, 3, 4, 10])])
 (.ite (.t 10) (.sk)
 (.ex 0)))
 (.seq (.blk 1 (.seq (.rg [(none, .fa 13 1 (.t 1)),
 (none, .ld 14 none (.t 13)),
 (none, .mv 15 (.t 4)),
 (none, .ia 16 2 (.t 14) (.t 15)),
 (none, .ld 17 (some 2) (.t 16)),
 (none, .al 5 [.n .i64 0, .n .i64 0]),
 (none, .st 2 (.t 5) (.t 17)),
 (none, .kp [1, 3, 4, 5])])
 (.seq (.seq (.rg [(none, .fa 18 0 (.t 5)),
 (none, .ld 19 none (.t 18)),
 (none, .mv 20 (.t 3)),
 (none, .bi 21 .add (.t 20) (.c (.n .i64 2))),
 (none, .bi 22 .lss (.t 19) (.t 21)),
 (none, .mv 23 (.t 22)),
 (some (23, false), .fa 24 1 (.t 5)),
 (some (23, false), .ld 25 none (.t 24)),
 (some (23, false), .fa 26 0 (.t 5)),
 (some (23, false), .ld 27 none (.t 26)),
 (some (23, false), .bi 28 .lss (.t 25) (.t 27)),
 (none, .pk 29 (.t 23) (.c (.b true)) (.t 28)),
 (none, .mv 30 (.t 29)),
 (some (30, false), .fa 31 1 (.t 5)),
 (some (30, false), .ld 32 none (.t 31)),
 (some (30, false), .bi 33 .gtr (.t 32) (.c (.n .i64 16))),
 (none, .pk 34 (.t 30) (.c (.b true)) (.t 33)),
 (none, .kp [1, 4, 5, 34])])
 (.ite (.t 34) (.seq (.rg [(none, .mv 2 (.c (.b false))),
 (none, .kp [2])])
 (.rt))
 (.sk)))
 (.rg [(none, .fa 35 1 (.t 5)),
 (none, .ld 36 none (.t 35)),
 (none, .mv 3 (.t 36)),
 (none, .kp [1, 3, 4])]))))
 (.rg [(none, .mv 11 (.t 4)),
 (none, .bi 12 .add (.t 11) (.c (.n .i64 1))),
 (none, .mv 4 (.t 12)),
 (none, .kp [1, 3, 4])]))
def pc143 : PC := .seq (.rg [(none, .bx 1 (.t 0)),
 (none, .mv 2 (.c (.b false))),
 (none, .kp [1])])
 (.seq (.rg [(none, .mv 3 (.c (.n .i64 0))),
 (none, .kp [1, 3])])
 (.seq (.seq (.rg [(none, .mv 4 (.c (.n .i64 0))),
 (none, .kp [1, 3, 4])])
 (.blk 0 (.lp pc143l0)))
 (.seq (.rg [(none, .fa 37 0 (.t 1)),
 (none, .ld 38 none (.t 37)),
 (none, .ca (some 39) 163 [.t 38]),
 (none, .mv 40 (.t 39)),
 (some (40, true), .fa 41 1 (.t 1)),
 (some (40, true), .ld 42 none (.t 41)),
 (some (40, true), .ln 43 (.t 42)),
 (some (40, true), .bi 44 .leq (.t 43) (.c (.n .i64 8))),
 (none, .pk 45 (.t 40) (.t 44) (.c (.b false))),
 (none, .mv 2 (.t 45)),
 (none, .kp [2])])
 (.rt))))
theorem mr143 : MrT Try.prog 143 pc143 [.t 2] 46 := fun hn h => spec_of_run (fn := Try.f143) (by kernel_rfl) rfl (by kernel_rfl) (by kernel_rfl) hn h
theorem mk143 : MkT Try.prog 143 pc143 [.t 2] 46 := mr143.k
theorem mw143 : MwT Try.prog 143 pc143 [.t 2] 46 := mr143.w
-- 145 impl.sackOk
def pc145l0 : PC := .seq (.rg [(none, .bi 20 .lss (.t 19) (.t 18)),
 (none, .kp [3, 17, 18, 19, 20])])
 (.seq (.ite (.t 20) (.sk)
 (.ex 0))
 (.seq (.blk 1 (.seq (.rg [(none, .ia 21 2 (.t 17) (.t 19)),
 (none, .ld 22 (some 2) (.t 21)),
 (none, .al 5 [.n .i64 0, .n .i64 0]),
 (none, .st 2 (.t 5) (.t 22)),
 (none, .kp [3, 5, 17, 18, 19])])
 (.seq (.seq (.rg [(none, .fa 23 0 (.t 5)),
 (none, .ld 24 none (.t 23)),
 (none, .mv 25 (.t 3)),
 (none, .bi 26 .lss (.t 24) (.t 25)),
 (none, .mv 27 (.t 26)),
 (some (27, false), .fa 28 0 (.t 5)),
 (some (27, false), .ld 29 none (.t 28)),
 (some (27, false), .fa 30 1 (.t 5)),
 (some (27, false), .ld 31 none (.t 30)),
 (some (27, false), .bi 32 .gtr (.t 29) (.t 31)),
 (none, .pk 33 (.t 27) (.c (.b true)) (.t 32)),
 (none, .mv 34 (.t 33)),
 (some (34, false), .fa 35 1 (.t 5)),
 (some (34, false), .ld 36 none (.t 35)),
 (some (34, false), .bi 37 .gtr (.t 36) (.c (.n .i64 16))),
 (none, .pk 38 (.t 34) (.c (.b true)) (.t 37)),
 (none, .kp [5, 17, 18, 19, 38])])
 (.ite (.t 38) (.seq (.rg [(none, .mv 2 (.c (.b false))),
 (none, .kp [2])])
 (.rt))
 (.sk)))
 (.rg [(none, .fa 39 1 (.t 5)),
 (none, .ld 40 none (.t 39)),
 (none, .bi 41 .add (.t 40) (.c (.n .i64 2))),
 (none, .mv 3 (.t 41)),
 (none, .kp [3, 17, 18, 19])]))))
 (.rg [(none, .bi 42 .add (.t 19) (.c (.n .i64 1))),
 (none, .mv 19 (.t 42)),
 (none, .kp [3, 17, 18, 19])])))
def pc145 : PC := .seq (.rg [(none, .bx 1 (.t 0)),
 (none, .mv 2 (.c (.b false))),
 (none, .kp [1])])
 (.seq (.seq (.rg [(none, .fa 6 0 (.t 1)),
 (none, .ld 7 none (.t 6)),
 (none, .ca (some 8) 109 [.t 7]),
 (none, .un 9 .not (.t 8)),
 (none, .mv 10 (.t 9)),
 (some (10, false), .fa 11 1 (.t 1)),
 (some (10, false), .ld 12 none (.t 11)),
 (some (10, false), .ln 13 (.t 12)),
 (some (10, false), .bi 14 .gtr (.t 13) (.c (.n .i64 8))),
 (none, .pk 15 (.t 10) (.c (.b true)) (.t 14)),
 (none, .kp [1, 15])])
 (.ite (.t 15) (.seq (.rg [(none, .mv 2 (.c (.b false))),
 (none, .kp [2])])
 (.rt))
 (.sk)))
 (.seq (.rg [(none, .mv 3 (.c (.n .i64 2))),
 (none, .kp [1, 3])])
 (.seq (.seq (.rg [(none, .fa 16 1 (.t 1)),
 (none, .ld 17 none (.t 16)),
 (none, .ln 18 (.t 17)),
 (none, .mv 19 (.c (.n .i64 0))),
 (none, .kp [3, 17, 18, 19])])
 (.blk 0 (.lp pc145l0)))
 (.seq (.rg [(none, .mv 2 (.c (.b true))),
 (none, .kp [2])])
 (.rt)))))
theorem mr145 : MrT Try.prog 145 pc145 [.t 2] 43 := fun hn h => spec_of_run (fn := Try.f145) (by kernel_rfl) rfl (by kernel_rfl) (by kernel_rfl) hn h
theorem mk145 : MkT Try.prog 145 pc145 [.t 2] 43 := mr145.k
theorem mw145 : MwT Try.prog 145 pc145 [.t 2] 43 := mr145.w
-- 147 spec.l91Good
def pc147 : PC := .seq (.rg [(none, .mv 2 (.c (.n .i64 0))),
 (none, .kp [0])])
 (.seq (.rg [(none, .mv 3 (.t 0)),
 (none, .ca (some 4) 95 [.t 3]),
 (none, .mx 5 (.t 4) (.c (.n .i64 0))),
 (none, .mn 6 (.t 5) (.c (.n .i64 65535))),
 (none, .mv 2 (.t 6)),
 (none, .kp [2])])
 (.rt))
theorem mr147 : MrT Try.prog 147 pc147 [.t 2] 7 := fun hn h => spec_of_run (fn := Try.f147) (by kernel_rfl) rfl (by kernel_rfl) (by kernel_rfl) hn h
theorem mk147 : MkT Try.prog 147 pc147 [.t 2] 7 := mr147.k
theorem mw147 : MwT Try.prog 147 pc147 [.t 2] 7 := mr147.w
-- 148 (*spec.l6Rd).of
def pc148 : PC := .seq (.rg [(none, .mv 4 (.c (.s []))),
 (none, .kp [0, 1])])
 (.seq (.rg [(none, .mv 5 (.t 1)),
 (none, .mv 6 (.t 0)),
 (none, .mv 7 (.t 1)),
 (none, .ln 8 (.t 7)),
 (none, .ca (some 9) 45 [.t 6, .t 8]),
 (none, .ia 10 1 (.t 5) (.t 9)),
 (none, .ld 11 none (.t 10)),
 (none, .mv 4 (.t 11)),
 (none, .kp [4])])
 (.rt))
theorem mr148 : MrT Try.prog 148 pc148 [.t 4] 12 := fun hn h => spec_of_run (fn := Try.f148) (by kernel_rfl) rfl (by kernel_rfl) (by kernel_rfl) hn h
theorem mk148 : MkT Try.prog 148 pc148 [.t 4] 12 := mr148.k
theorem mw148 : MwT Try.prog 148 pc148 [.t 4] 12 := mr148.w
-- 149 spec.l91Long
def pc149 : PC := .seq (.rg [(none, .mv 2 (.c (.n .i64 0))),
 (none, .kp [0])])
 (.seq (.seq (.rg [(none, .mv 3 (.t 0)),
 (none, .ca (some 4) 45 [.t 3, .c (.n .i64 12)]),
 (none, .bi 5 .eql (.t 4) (.c (.n .i64 0))),
 (none, .kp [0, 5])])
 (.ite (.t 5) (.seq (.rg [(none, .bs 6 1 4 [.n .i64 0] [(0, .c (.n .i64 (-1))), (1, .c (.n .i64 0)), (2, .c (.n .i64 4294967295)), (3, .c (.n .i64 4294967296))]),
 (none, .mv 7 (.t 0)),
 (none, .ca (some 8) 45 [.t 7, .c (.n .i64 4)]),
 (none, .ia 9 1 (.t 6) (.t 8)),
 (none, .ld 10 none (.t 9)),
 (none, .mv 2 (.t 10)),
 (none, .kp [2])])
 (.rt))
 (.sk)))
 (.seq (.rg [(none, .mv 11 (.t 0)),
 (none, .ca (some 12) 147 [.t 11]),
 (none, .bi 13 .mul (.c (.n .i64 65536)) (.t 12)),
 (none, .mv 14 (.t 0)),
 (none, .ca (some 15) 147 [.t 14]),
 (none, .bi 16 .add (.t 13) (.t 15)),
 (none, .mv 2 (.t 16)),
 (none, .kp [2])])
 (.rt)))
theorem mr149 : MrT Try.prog 149 pc149 [.t 2] 17 := fun hn h => spec_of_run (fn := Try.f149) (by kernel_rfl) rfl (by kernel_rfl) (by kernel_rfl) hn h
theorem mk149 : MkT Try.prog 149 pc149 [.t 2] 17 := mr149.k
theorem mw149 : MwT Try.prog 149 pc149 [.t 2] 17 := mr149.w
-- 150 impl.WordPut
def pc150 : PC := .seq (.rg [(none, .mv 2 (.c (.s []))),
 (none, .mv 3 (.c (.b false))),
 (none, .kp [0])])
 (.seq (.seq (.rg [(none, .mv 4 (.t 0)),
 (none, .bi 5 .lss (.t 4) (.c (.n .i64 0))),
 (none, .mv 6 (.t 5)),
 (some (6, false), .mv 7 (.t 0)),
 (some (6, false), .bi 8 .gtr (.t 7) (.c (.n .i64 65535))),
 (none, .pk 9 (.t 6) (.c (.b true)) (.t 8)),
 (none, .kp [0, 9])])
 (.ite (.t 9) (.seq (.rg [(none, .mv 2 (.c (.s []))),
 (none, .mv 3 (.c (.b false))),
 (none, .kp [2, 3])])
 (.rt))
 (.sk)))
 (.seq (.rg [(none, .mv 10 (.t 0)),
 (none, .bi 11 .shr (.t 10) (.c (.n .u64 8))),
 (none, .cv 12 .u8 (.t 11)),
 (none, .mv 13 (.t 0)),
 (none, .cv 14 .u8 (.t 13)),
 (none, .bs 15 1 2 [.n .u8 0] [(0, .t 12), (1, .t 14)]),
 (none, .cs 16 (.t 15)),
 (none, .mv 2 (.t 16)),
 (none, .mv 3 (.c (.b true))),
 (none, .kp [2, 3])])
 (.rt)))
theorem mr150 : MrT Try.prog 150 pc150 [.t 2, .t 3] 17 := fun hn h => spec_of_run (fn := Try.f150) (by kernel_rfl) rfl (by kernel_rfl) (by kernel_rfl) hn h
theorem mk150 : MkT Try.prog 150 pc150 [.t 2, .t 3] 17 := mr150.k
theorem mw150 : MwT Try.prog 150 pc150 [.t 2, .t 3] 17 := mr150.w
-- 151 impl.sumOn
def pc151l0 : PC := .seq (.seq (.rg [(none, .mv 8 (.t 7)),
 (none, .mv 9 (.t 2)),
 (none, .lS 10 (.t 9)),
 (none, .bi 11 .lss (.t 8) (.t 10)),
 (none, .kp [0, 1, 2, 7, 11])])
 (.ite (.t 11) (.sk)
 (.ex 0)))
 (.seq (.blk 1 (.seq (.rg [(none, .mv 14 (.t 0)),
 (none, .mv 15 (.t 2)),
 (none, .mv 16 (.t 7)),
 (none, .ix 17 (.t 15) (.t 16)),
 (none, .cv 18 .i64 (.t 17)),
 (none, .bi 19 .add (.t 14) (.t 18)),
 (none, .bi 20 .rem (.t 19) (.c (.n .i64 65521))),
 (none, .mv 0 (.t 20)),
 (none, .kp [0, 1, 2, 7])])
 (.rg [(none, .mv 21 (.t 1)),
 (none, .mv 22 (.t 0)),
 (none, .bi 23 .add (.t 21) (.t 22)),
 (none, .bi 24 .rem (.t 23) (.c (.n .i64 65521))),
 (none, .mv 1 (.t 24)),
 (none, .kp [0, 1, 2, 7])])))
 (.rg [(none, .mv 12 (.t 7)),
 (none, .bi 13 .add (.t 12) (.c (.n .i64 1))),
 (none, .mv 7 (.t 13)),
 (none, .kp [0, 1, 2, 7])]))
def pc151 : PC := .seq (.rg [(none, .mv 6 (.c (.n .i64 0))),
 (none, .kp [0, 1, 2])])
 (.seq (.seq (.rg [(none, .mv 7 (.c (.n .i64 0))),
 (none, .kp [0, 1, 2, 7])])
 (.blk 0 (.lp pc151l0)))
 (.seq (.rg [(none, .mv 25 (.t 1)),
 (none, .bi 26 .mul (.t 25) (.c (.n .i64 65536))),
 (none, .mv 27 (.t 0)),
 (none, .bi 28 .add (.t 26) (.t 27)),
 (none, .mv 6 (.t 28)),
 (none, .kp [6])])
 (.rt)))
theorem mr151 : MrT Try.prog 151 pc151 [.t 6] 29 := fun hn h => spec_of_run (fn := Try.f151) (by kernel_rfl) rfl (by kernel_rfl) (by kernel_rfl) hn h
theorem mk151 : MkT Try.prog 151 pc151 [.t 6] 29 := mr151.k
theorem mw151 : MwT Try.prog 151 pc151 [.t 6] 29 := mr151.w
-- 152 spec.l1Long
def pc152 : PC := .seq (.rg [(none, .mv 2 (.c (.s []))),
 (none, .kp [0])])
 (.seq (.rg [(none, .mv 3 (.t 0)),
 (none, .bi 4 .quo (.t 3) (.c (.n .i64 65536))),
 (none, .ca (some 5) 142 [.t 4]),
 (none, .mv 6 (.t 0)),
 (none, .bi 7 .rem (.t 6) (.c (.n .i64 65536))),
 (none, .ca (some 8) 142 [.t 7]),
 (none, .bi 9 .add (.t 5) (.t 8)),
 (none, .mv 2 (.t 9)),
 (none, .kp [2])])
 (.rt))
theorem mr152 : MrT Try.prog 152 pc152 [.t 2] 10 := fun hn h => spec_of_run (fn := Try.f152) (by kernel_rfl) rfl (by kernel_rfl) (by kernel_rfl) hn h
theorem mk152 : MkT Try.prog 152 pc152 [.t 2] 10 := mr152.k
theorem mw152 : MwT Try.prog 152 pc152 [.t 2] 10 := mr152.w
-- 153 spec.l11Put
def pc153l0 : PC := .seq (.seq (.rg [(none, .mv 21 (.t 3)),
 (none, .lS 22 (.t 21)),
 (none, .bi 23 .rem (.t 22) (.c (.n .i64 4))),
 (none, .bi 24 .neq (.t 23) (.c (.n .i64 0))),
 (none, .kp [3, 24])])
 (.ite (.t 24) (.sk)
 (.ex 0)))
 (.blk 1 (.rg [(none, .mv 25 (.t 3)),
 (none, .bi 26 .add (.t 25) (.c (.s [0]))),
 (none, .mv 3 (.t 26)),
 (none, .kp [3])]))
def pc153 : PC := .seq (.rg [(none, .bx 1 (.t 0)),
 (none, .mv 2 (.c (.s []))),
 (none, .kp [1])])
 (.seq (.dr [[], [0], [0, 1], [], [3], [3, 4], [0, 1, 2, 3, 4, 5], [0, 1, 2, 3, 4, 5, 6], [], [8], [8, 9], [8, 9, 10], [8, 9, 10, 11], [0, 1, 2, 3, 4, 5, 6, 7, 8, 9, 10, 11, 12], [], [14], [0, 1, 2, 3, 4, 5, 6, 7, 8, 9, 10, 11, 12, 13, 14, 15], [0, 1, 2, 3, 4, 5, 6, 7, 8, 9, 10, 11, 12, 13, 14, 15, 16]]
 (.q 0 (none, .fa 4 0 (.t 1))
 (.q 1 (none, .ld 5 none (.t 4))
 (.q 2 (none, .cv 6 .u8 (.t 5))
 (.q 3 (none, .fa 7 1 (.t 1))
 (.q 4 (none, .ld 8 none (.t 7))
 (.q 5 (none, .cv 9 .u8 (.t 8))
 (.q 8 (none, .fa 12 2 (.t 1))
 (.q 9 (none, .ld 13 none (.t 12))
 (.q 10 (none, .lS 14 (.t 13))
 (.q 11 (none, .bi 15 .add (.c (.n .i64 4)) (.t 14))
 (.q 14 (none, .fa 18 2 (.t 1))
 (.q 15 (none, .ld 19 none (.t 18))
 (.alt 6 (none, .bs 10 1 2 [.n .u8 0] [(0, .t 6), (1, .t 9)]) [false, false, false, false, false, false, true, true, true, true, true, true]
 (.q 7 (none, .cs 11 (.t 10))
 (.alt 12 (none, .ca (some 16) 142 [.t 15]) [true, true, true, true, true, true, false, false, false, false, true, true, true]
 (.q 13 (none, .bi 17 .add (.t 11) (.t 16))
 (.q 16 (none, .bi 20 .add (.t 17) (.t 19))
 (.q 17 (none, .mv 3 (.t 20))
 (.done))))
 (.stop)))
 (.alt 12 (none, .ca (some 16) 142 [.t 15]) [true, true, true, true, true, true, false, false, false, false, true, true]
 (.alt 6 (none, .bs 10 1 2 [.n .u8 0] [(0, .t 6), (1, .t 9)]) [false, false, false, false, false, false, true, true, true, true, true, true]
 (.q 7 (none, .cs 11 (.t 10))
 (.q 13 (none, .bi 17 .add (.t 11) (.t 16))
 (.q 16 (none, .bi 20 .add (.t 17) (.t 19))
 (.q 17 (none, .mv 3 (.t 20))
 (.done)))))
 (.stop))
 (.stop))))))))))))))) [3])
 (.seq (.blk 0 (.lp pc153l0))
 (.seq (.rg [(none, .mv 27 (.t 3)),
 (none, .mv 2 (.t 27)),
 (none, .kp [2])])
 (.rt))))
theorem mr153 : MrT Try.prog 153 pc153 [.t 2] 28 := fun hn h => spec_of_run (fn := Try.f153) (by kernel_rfl) rfl (by kernel_rfl) (by kernel_rfl) hn h
theorem mk153 : MkT Try.prog 153 pc153 [.t 2] 28 := mr153.k
theorem mw153 : MwT Try.prog 153 pc153 [.t 2] 28 := mr153.w
-- 154 spec.l13Sum
def pc154 : PC := .seq (.rg [(none, .mv 2 (.c (.n .i64 0))),
 (none, .kp [0])])
 (.seq (.dr [[], [0], [0, 1], [], [3], [0, 1, 2, 3, 4], [0, 1, 2, 3, 4, 5], [0, 1, 2, 3, 4, 5, 6]]
 (.q 0 (none, .mv 3 (.t 0))
 (.q 1 (none, .sS 4 (.t 3) none (some (.c (.n .i64 8))))
 (.q 2 (none, .bi 5 .add (.t 4) (.c (.s [0, 0, 0, 0])))
 (.q 3 (none, .mv 6 (.t 0))
 (.q 4 (none, .sS 7 (.t 6) (some (.c (.n .i64 12))) none)
 (.q 5 (none, .bi 8 .add (.t 5) (.t 7))
 (.alt 6 (none, .ca (some 9) 176 [.c (.n .i64 1), .t 8]) [false, false, false, false, false, false]
 (.q 7 (none, .mv 2 (.t 9))
 (.done))
 (.stop)))))))) [2])
 (.rt))
theorem mr154 : MrT Try.prog 154 pc154 [.t 2] 10 := fun hn h => spec_of_run (fn := Try.f154) (by kernel_rfl) rfl (by kernel_rfl) (by kernel_rfl) hn h
theorem mk154 : MkT Try.prog 154 pc154 [.t 2] 10 := mr154.k
theorem mw154 : MwT Try.prog 154 pc154 [.t 2] 10 := mr154.w
-- 155 impl.foundOk
def pc155l0 : PC := .seq (.rg [(none, .bi 10 .lss (.t 9) (.t 8)),
 (none, .kp [0, 1, 7, 8, 9, 10])])
 (.seq (.ite (.t 10) (.sk)
 (.ex 0))
 (.seq (.blk 1 (.seq (.rg [(none, .mv 11 (.t 9)),
 (none, .ia 12 2 (.t 7) (.t 9)),
 (none, .ld 13 (some 2) (.t 12)),
 (none, .al 6 [.n .i64 0, .n .i64 0]),
 (none, .mv 5 (.t 11)),
 (none, .st 2 (.t 6) (.t 13)),
 (none, .kp [0, 1, 5, 6, 7, 8, 9])])
 (.seq (.seq (.rg [(none, .fa 14 0 (.t 6)),
 (none, .ld 15 none (.t 14)),
 (none, .bi 16 .lss (.t 15) (.c (.n .i64 0))),
 (none, .mv 17 (.t 16)),
 (some (17, false), .fa 18 0 (.t 6)),
 (some (17, false), .ld 19 none (.t 18)),
 (some (17, false), .mv 20 (.t 1)),
 (some (17, false), .bi 21 .geq (.t 19) (.t 20)),
 (none, .pk 22 (.t 17) (.c (.b true)) (.t 21)),
 (none, .mv 23 (.t 22)),
 (some (23, false), .fa 24 1 (.t 6)),
 (some (23, false), .ld 25 none (.t 24)),
 (some (23, false), .bi 26 .lss (.t 25) (.c (.n .i64 1))),
 (some (23, false), .mv 27 (.t 26)),
 (some (27, false), .fa 28 1 (.t 6)),
 (some (27, false), .ld 29 none (.t 28)),
 (some (27, false), .bi 30 .gtr (.t 29) (.c (.n .i64 11))),
 (some (23, false), .pk 31 (.t 27) (.c (.b true)) (.t 30)),
 (some (23, false), .mv 32 (.t 31)),
 (some (32, true), .fa 33 1 (.t 6)),
 (some (32, true), .ld 34 none (.t 33)),
 (some (32, true), .bi 35 .lss (.t 34) (.c (.n .i64 101))),
 (some (32, true), .mv 36 (.t 35)),
 (some (36, false), .fa 37 1 (.t 6)),
 (some (36, false), .ld 38 none (.t 37)),
 (some (36, false), .bi 39 .gtr (.t 38) (.c (.n .i64 105))),
 (some (32, true), .pk 40 (.t 36) (.c (.b true)) (.t 39)),
 (some (23, false), .pk 41 (.t 32) (.t 40) (.c (.b false))),
 (none, .pk 42 (.t 23) (.c (.b true)) (.t 41)),
 (none, .kp [0, 1, 5, 6, 7, 8, 9, 42])])
 (.ite (.t 42) (.seq (.rg [(none, .mv 4 (.c (.b false))),
 (none, .kp [4])])
 (.rt))
 (.sk)))
 (.seq (.dr [[], [0], [0, 1], [0, 1, 2], [0, 1, 2, 3], [0, 1, 2], [0, 1, 2], [0, 1, 2, 6], [0, 1, 2, 5, 6, 7], [0, 1, 2, 5, 6, 7, 8], [0, 1, 2, 5, 6, 7, 8, 9], [0, 1, 2, 3, 4, 5, 6, 7, 8, 9, 10], [0, 1, 2, 3, 4, 5, 6, 7, 8, 9, 10, 11], [0, 1, 2, 3, 4, 5, 6, 7, 8, 9, 10, 11, 12], [0, 1, 2, 3, 4, 5, 6, 7, 8, 9, 10, 11, 12, 13], [0, 1, 2, 3, 4, 5, 6, 7, 8, 9, 10, 11, 12], [0, 1, 2, 3, 4, 5, 6, 7, 8, 9, 10, 11, 12], [0, 1, 2, 3, 4, 5, 6, 7, 8, 9, 10, 11, 12, 16], [0, 1, 2, 3, 4, 5, 6, 7, 8, 9, 10, 11, 12, 15, 16, 17], [0, 1, 2, 3, 4, 5, 6, 7, 8, 9, 10, 11, 12, 15, 16, 17, 18], [0, 1, 2, 3, 4, 5, 6, 7, 8, 9, 10, 11, 12, 15, 16, 17, 18, 19], [0, 1, 2, 3, 4, 5, 6, 7, 8, 9, 10, 11, 12, 13, 14, 15, 16, 17, 18, 19, 20], [0, 1, 2, 3, 4, 5, 6, 7, 8, 9, 10, 11, 12, 13, 14, 15, 16, 17, 18, 19, 20, 21], [0, 1, 2, 3, 4, 5, 6, 7, 8, 9, 10, 11, 12, 13, 14, 15, 16, 17, 18, 19, 20, 21, 22], [0, 1, 2, 3, 4, 5, 6, 7, 8, 9, 10, 11, 12, 13, 14, 15, 16, 17, 18, 19, 20, 21, 22, 23], [0, 1, 2, 3, 4, 5, 6, 7, 8, 9, 10, 11, 12, 13, 14, 15, 16, 17, 18, 19, 20, 21, 22], [0, 1, 2, 3, 4, 5, 6, 7, 8, 9, 10, 11, 12, 13, 14, 15, 16, 17, 18, 19, 20, 21, 22], [0, 1, 2, 3, 4, 5, 6, 7, 8, 9, 10, 11, 12, 13, 14, 15, 16, 17, 18, 19, 20, 21, 22, 26], [0, 1, 2, 3, 4, 5, 6, 7, 8, 9, 10, 11, 12, 13, 14, 15, 16, 17, 18, 19, 20, 21, 22, 25, 26, 27], [0, 1, 2, 3, 4, 5, 6, 7, 8, 9, 10, 11, 12, 13, 14, 15, 16, 17, 18, 19, 20, 21, 22, 25, 26, 27, 28], [0, 1, 2, 3, 4, 5, 6, 7, 8, 9, 10, 11, 12, 13, 14, 15, 16, 17, 18, 19, 20, 21, 22, 25, 26, 27, 28, 29], [0, 1, 2, 3, 4, 5, 6, 7, 8, 9, 10, 11, 12, 13, 14, 15, 16, 17, 18, 19, 20, 21, 22, 23, 24, 25, 26, 27, 28, 29, 30], [0, 1, 2, 3, 4, 5, 6, 7, 8, 9, 10, 11, 12, 13, 14, 15, 16, 17, 18, 19, 20, 21, 22, 23, 24, 25, 26, 27, 28, 29, 30, 31], [0, 1, 2, 3, 4, 5, 6, 7, 8, 9, 10, 11, 12, 13, 14, 15, 16, 17, 18, 19, 20, 21, 22, 23, 24, 25, 26, 27, 28, 29, 30, 31, 32], [0, 1, 2, 3, 4, 5, 6, 7, 8, 9, 10, 11, 12, 13, 14, 15, 16, 17, 18, 19, 20, 21, 22, 23, 24, 25, 26, 27, 28, 29, 30, 31, 32, 33]]
 (.q 0 (none, .mv 43 (.t 5))
 (.q 1 (none, .bi 44 .gtr (.t 43) (.c (.n .i64 0)))
 (.q 2 (none, .mv 45 (.t 44))
 (.q 3 (some (45, true), .fa 46 0 (.t 6))
 (.q 4 (some (45, true), .ld 47 none (.t 46))
 (.q 5 (some (45, true), .mv 48 (.t 0))
 (.q 6 (some (45, true), .mv 49 (.t 5))
 (.q 7 (some (45, true), .bi 50 .sub (.t 49) (.c (.n .i64 1)))
 (.q 8 (some (45, true), .ia 51 2 (.t 48) (.t 50))
 (.q 9 (some (45, true), .fa 52 0 (.t 51))
 (.q 10 (some (45, true), .ld 53 none (.t 52))
 (.q 11 (some (45, true), .bi 54 .lss (.t 47) (.t 53))
 (.q 12 (some (45, true), .mv 55 (.t 54))
 (.q 13 (some (55, false), .fa 56 0 (.t 6))
 (.q 14 (some (55, false), .ld 57 none (.t 56))
 (.q 15 (some (55, false), .mv 58 (.t 0))
 (.q 16 (some (55, false), .mv 59 (.t 5))
 (.q 17 (some (55, false), .bi 60 .sub (.t 59) (.c (.n .i64 1)))
 (.q 18 (some (55, false), .ia 61 2 (.t 58) (.t 60))
 (.q 19 (some (55, false), .fa 62 0 (.t 61))
 (.q 20 (some (55, false), .ld 63 none (.t 62))
 (.q 21 (some (55, false), .bi 64 .eql (.t 57) (.t 63))
 (.q 22 (some (55, false), .mv 65 (.t 64))
 (.q 23 (some (65, true), .fa 66 1 (.t 6))
 (.q 24 (some (65, true), .ld 67 none (.t 66))
 (.q 25 (some (65, true), .mv 68 (.t 0))
 (.q 26 (some (65, true), .mv 69 (.t 5))
 (.q 27 (some (65, true), .bi 70 .sub (.t 69) (.c (.n .i64 1)))
 (.q 28 (some (65, true), .ia 71 2 (.t 68) (.t 70))
 (.q 29 (some (65, true), .fa 72 1 (.t 71))
 (.q 30 (some (65, true), .ld 73 none (.t 72))
 (.q 31 (some (65, true), .bi 74 .leq (.t 67) (.t 73))
 (.q 32 (some (55, false), .pk 75 (.t 65) (.t 74) (.c (.b false)))
 (.q 33 (some (45, true), .pk 76 (.t 55) (.c (.b true)) (.t 75))
 (.q 34 (none, .pk 77 (.t 45) (.t 76) (.c (.b false)))
 (.done)))))))))))))))))))))))))))))))))))) [0, 1, 7, 8, 9, 77])
 (.ite (.t 77) (.seq (.rg [(none, .mv 4 (.c (.b false))),
 (none, .kp [4])])
 (.rt))
 (.sk))))))
 (.rg [(none, .bi 78 .add (.t 9) (.c (.n .i64 1))),
 (none, .mv 9 (.t 78)),
 (none, .kp [0, 1, 7, 8, 9])])))
def pc155 : PC := .seq (.rg [(none, .mv 4 (.c (.b false))),
 (none, .kp [0, 1])])
 (.seq (.seq (.rg [(none, .mv 7 (.t 0)),
 (none, .ln 8 (.t 7)),
 (none, .mv 9 (.c (.n .i64 0))),
 (none, .kp [0, 1, 7, 8, 9])])
 (.blk 0 (.lp pc155l0)))
 (.seq (.rg [(none, .mv 4 (.c (.b true))),
 (none, .kp [4])])
 (.rt)))
theorem mr155 : MrT Try.prog 155 pc155 [.t 4] 79 := fun hn h => spec_of_run (fn := Try.f155) (by kernel_rfl) rfl (by kernel_rfl) (by kernel_rfl) hn h
theorem mk155 : MkT Try.prog 155 pc155 [.t 4] 79 := mr155.k
theorem mw155 : MwT Try.prog 155 pc155 [.t 4] 79 := mr155.w
-- 156 impl.LongGet
def pc156 : PC := .seq (.rg [(none, .mv 4 (.c (.n .i64 0))),
 (none, .mv 5 (.c (.b false))),
 (none, .kp [0, 1])])
 (.seq (.seq (.rg [(none, .mv 6 (.t 1)),
 (none, .bi 7 .lss (.t 6) (.c (.n .i64 0))),
 (none, .mv 8 (.t 7)),
 (some (8, false), .mv 9 (.t 1)),
 (some (8, false), .mv 10 (.t 0)),
 (some (8, false), .lS 11 (.t 10)),
 (some (8, false), .bi 12 .sub (.t 11) (.c (.n .i64 4))),
 (some (8, false), .bi 13 .gtr (.t 9) (.t 12)),
 (none, .pk 14 (.t 8) (.c (.b true)) (.t 13)),
 (none, .kp [0, 1, 14])])
 (.ite (.t 14) (.seq (.rg [(none, .mv 4 (.c (.n .i64 0))),
 (none, .mv 5 (.c (.b false))),
 (none, .kp [4, 5])])
 (.rt))
 (.sk)))
 (.seq (.dr [[], [], [0, 1], [0, 1, 2], [0, 1, 2, 3], [], [], [6], [5, 6, 7], [5, 6, 7, 8], [5, 6, 7, 8, 9], [0, 1, 2, 3, 4, 5, 6, 7, 8, 9, 10], [], [], [13], [12, 13, 14], [12, 13, 14, 15], [12, 13, 14, 15, 16], [0, 1, 2, 3, 4, 5, 6, 7, 8, 9, 10, 11, 12, 13, 14, 15, 16, 17], [], [], [20], [19, 20, 21], [19, 20, 21, 22], [0, 1, 2, 3, 4, 5, 6, 7, 8, 9, 10, 11, 12, 13, 14, 15, 16, 17, 18, 19, 20, 21, 22, 23], [0, 1, 2, 3, 4, 5, 6, 7, 8, 9, 10, 11, 12, 13, 14, 15, 16, 17, 18, 19, 20, 21, 22, 23, 24], [0, 1, 2, 3, 4, 5, 6, 7, 8, 9, 10, 11, 12, 13, 14, 15, 16, 17, 18, 19, 20, 21, 22, 23, 24, 25]]
 (.q 0 (none, .mv 15 (.t 0))
 (.q 1 (none, .mv 16 (.t 1))
 (.q 2 (none, .ix 17 (.t 15) (.t 16))
 (.q 3 (none, .cv 18 .i64 (.t 17))
 (.q 4 (none, .bi 19 .shl (.t 18) (.c (.n .u64 24)))
 (.q 5 (none, .mv 20 (.t 0))
 (.q 6 (none, .mv 21 (.t 1))
 (.q 7 (none, .bi 22 .add (.t 21) (.c (.n .i64 1)))
 (.q 8 (none, .ix 23 (.t 20) (.t 22))
 (.q 9 (none, .cv 24 .i64 (.t 23))
 (.q 10 (none, .bi 25 .shl (.t 24) (.c (.n .u64 16)))
 (.q 11 (none, .bi 26 .or (.t 19) (.t 25))
 (.q 12 (none, .mv 27 (.t 0))
 (.q 13 (none, .mv 28 (.t 1))
 (.q 14 (none, .bi 29 .add (.t 28) (.c (.n .i64 2)))
 (.q 15 (none, .ix 30 (.t 27) (.t 29))
 (.q 16 (none, .cv 31 .i64 (.t 30))
 (.q 17 (none, .bi 32 .shl (.t 31) (.c (.n .u64 8)))
 (.q 18 (none, .bi 33 .or (.t 26) (.t 32))
 (.q 19 (none, .mv 34 (.t 0))
 (.q 20 (none, .mv 35 (.t 1))
 (.q 21 (none, .bi 36 .add (.t 35) (.c (.n .i64 3)))
 (.q 22 (none, .ix 37 (.t 34) (.t 36))
 (.q 23 (none, .cv 38 .i64 (.t 37))
 (.q 24 (none, .bi 39 .or (.t 33) (.t 38))
 (.q 25 (none, .mv 4 (.t 39))
 (.q 26 (none, .mv 5 (.c (.b true)))
 (.done)))))))))))))))))))))))))))) [4, 5])
 (.rt)))
theorem mr156 : MrT Try.prog 156 pc156 [.t 4, .t 5] 40 := fun hn h => spec_of_run (fn := Try.f156) (by kernel_rfl) rfl (by kernel_rfl) (by kernel_rfl) hn h
theorem mk156 : MkT Try.prog 156 pc156 [.t 4, .t 5] 40 := mr156.k
theorem mw156 : MwT Try.prog 156 pc156 [.t 4, .t 5] 40 := mr156.w
-- 157 impl.WordGet
def pc157 : PC := .seq (.rg [(none, .mv 4 (.c (.n .i64 0))),
 (none, .mv 5 (.c (.b false))),
 (none, .kp [0, 1])])
 (.seq (.seq (.rg [(none, .mv 6 (.t 1)),
 (none, .bi 7 .lss (.t 6) (.c (.n .i64 0))),
 (none, .mv 8 (.t 7)),
 (some (8, false), .mv 9 (.t 1)),
 (some (8, false), .mv 10 (.t 0)),
 (some (8, false), .lS 11 (.t 10)),
 (some (8, false), .bi 12 .sub (.t 11) (.c (.n .i64 2))),
 (some (8, false), .bi 13 .gtr (.t 9) (.t 12)),
 (none, .pk 14 (.t 8) (.c (.b true)) (.t 13)),
 (none, .kp [0, 1, 14])])
 (.ite (.t 14) (.seq (.rg [(none, .mv 4 (.c (.n .i64 0))),
 (none, .mv 5 (.c (.b false))),
 (none, .kp [4, 5])])
 (.rt))
 (.sk)))
 (.seq (.dr [[], [], [0, 1], [0, 1, 2], [0, 1, 2, 3], [], [], [6], [5, 6, 7], [5, 6, 7, 8], [0, 1, 2, 3, 4, 5, 6, 7, 8, 9], [0, 1, 2, 3, 4, 5, 6, 7, 8, 9, 10], [0, 1, 2, 3, 4, 5, 6, 7, 8, 9, 10, 11]]
 (.q 0 (none, .mv 15 (.t 0))
 (.q 1 (none, .mv 16 (.t 1))
 (.q 2 (none, .ix 17 (.t 15) (.t 16))
 (.q 3 (none, .cv 18 .i64 (.t 17))
 (.q 4 (none, .bi 19 .shl (.t 18) (.c (.n .u64 8)))
 (.q 5 (none, .mv 20 (.t 0))
 (.q 6 (none, .mv 21 (.t 1))
 (.q 7 (none, .bi 22 .add (.t 21) (.c (.n .i64 1)))
 (.q 8 (none, .ix 23 (.t 20) (.t 22))
 (.q 9 (none, .cv 24 .i64 (.t 23))
 (.q 10 (none, .bi 25 .or (.t 19) (.t 24))
 (.q 11 (none, .mv 4 (.t 25))
 (.q 12 (none, .mv 5 (.c (.b true)))
 (.done)))))))))))))) [4, 5])
 (.rt)))
theorem mr157 : MrT Try.prog 157 pc157 [.t 4, .t 5] 26 := fun hn h => spec_of_run (fn := Try.f157) (by kernel_rfl) rfl (by kernel_rfl) (by kernel_rfl) hn h
theorem mk157 : MkT Try.prog 157 pc157 [.t 4, .t 5] 26 := mr157.k
theorem mw157 : MwT Try.prog 157 pc157 [.t 4, .t 5] 26 := mr157.w
-- 158 impl.ChunkGet
def pc158l0 : PC := .seq (.seq (.rg [(none, .mv 50 (.t 10)),
 (none, .mv 51 (.t 9)),
 (none, .bi 52 .lss (.t 50) (.t 51)),
 (none, .kp [0, 1, 4, 7, 9, 10, 52])])
 (.ite (.t 52) (.sk)
 (.ex 0)))
 (.seq (.blk 1 (.seq (.rg [(none, .mv 55 (.t 0)),
 (none, .mv 56 (.t 10)),
 (none, .ix 57 (.t 55) (.t 56)),
 (none, .bi 58 .neq (.t 57) (.c (.n .u8 0))),
 (none, .kp [0, 1, 4, 7, 9, 10, 58])])
 (.ite (.t 58) (.seq (.rg [(none, .bd 59 [.n .i64 0, .n .i64 0, .s []] []),
 (none, .st 3 (.t 4) (.t 59)),
 (none, .mv 5 (.c (.n .i64 0))),
 (none, .mv 6 (.c (.b false))),
 (none, .kp [4, 5, 6])])
 (.rt))
 (.sk))))
 (.rg [(none, .mv 53 (.t 10)),
 (none, .bi 54 .add (.t 53) (.c (.n .i64 1))),
 (none, .mv 10 (.t 54)),
 (none, .kp [0, 1, 4, 7, 9, 10])]))
def pc158 : PC := .seq (.rg [(none, .al 4 [.n .i64 0, .n .i64 0, .s []]),
 (none, .mv 5 (.c (.n .i64 0))),
 (none, .mv 6 (.c (.b false))),
 (none, .kp [0, 1, 4])])
 (.seq (.seq (.rg [(none, .mv 11 (.t 1)),
 (none, .bi 12 .lss (.t 11) (.c (.n .i64 0))),
 (none, .mv 13 (.t 12)),
 (some (13, false), .mv 14 (.t 1)),
 (some (13, false), .mv 15 (.t 0)),
 (some (13, false), .lS 16 (.t 15)),
 (some (13, false), .bi 17 .sub (.t 16) (.c (.n .i64 4))),
 (some (13, false), .bi 18 .gtr (.t 14) (.t 17)),
 (none, .pk 19 (.t 13) (.c (.b true)) (.t 18)),
 (none, .kp [0, 1, 4, 19])])
 (.ite (.t 19) (.seq (.rg [(none, .bd 20 [.n .i64 0, .n .i64 0, .s []] []),
 (none, .st 3 (.t 4) (.t 20)),
 (none, .mv 5 (.c (.n .i64 0))),
 (none, .mv 6 (.c (.b false))),
 (none, .kp [4, 5, 6])])
 (.rt))
 (.sk)))
 (.seq (.rg [(none, .mv 22 (.t 0)),
 (none, .mv 23 (.t 1)),
 (none, .bi 24 .add (.t 23) (.c (.n .i64 2))),
 (none, .ca (some 25) 157 [.t 22, .t 24]),
 (none, .mv 21 (.t 25)),
 (none, .ex 26 (.t 21) 0),
 (none, .ex 27 (.t 21) 1),
 (none, .mv 7 (.t 26)),
 (none, .mv 8 (.t 27)),
 (none, .kp [0, 1, 4, 7])])
 (.seq (.seq (.rg [(none, .mv 28 (.t 7)),
 (none, .bi 29 .lss (.t 28) (.c (.n .i64 4))),
 (none, .mv 30 (.t 29)),
 (some (30, false), .mv 31 (.t 7)),
 (some (30, false), .bi 32 .sub (.t 31) (.c (.n .i64 4))),
 (some (30, false), .bi 33 .gtr (.t 32) (.c (.n .i64 60))),
 (none, .pk 34 (.t 30) (.c (.b true)) (.t 33)),
 (none, .kp [0, 1, 4, 7, 34])])
 (.ite (.t 34) (.seq (.rg [(none, .bd 35 [.n .i64 0, .n .i64 0, .s []] []),
 (none, .st 3 (.t 4) (.t 35)),
 (none, .mv 5 (.c (.n .i64 0))),
 (none, .mv 6 (.c (.b false))),
 (none, .kp [4, 5, 6])])
 (.rt))
 (.sk)))
 (.seq (.rg [(none, .mv 36 (.t 1)),
 (none, .mv 37 (.t 7)),
 (none, .bi 38 .add (.t 37) (.c (.n .i64 3))),
 (none, .bi 39 .quo (.t 38) (.c (.n .i64 4))),
 (none, .bi 40 .mul (.t 39) (.c (.n .i64 4))),
 (none, .bi 41 .add (.t 36) (.t 40)),
 (none, .mv 9 (.t 41)),
 (none, .kp [0, 1, 4, 7, 9])])
 (.seq (.seq (.rg [(none, .mv 42 (.t 9)),
 (none, .mv 43 (.t 0)),
 (none, .lS 44 (.t 43)),
 (none, .bi 45 .gtr (.t 42) (.t 44)),
 (none, .kp [0, 1, 4, 7, 9, 45])])
 (.ite (.t 45) (.seq (.rg [(none, .bd 46 [.n .i64 0, .n .i64 0, .s []] []),
 (none, .st 3 (.t 4) (.t 46)),
 (none, .mv 5 (.c (.n .i64 0))),
 (none, .mv 6 (.c (.b false))),
 (none, .kp [4, 5, 6])])
 (.rt))
 (.sk)))
 (.seq (.seq (.rg [(none, .mv 47 (.t 1)),
 (none, .mv 48 (.t 7)),
 (none, .bi 49 .add (.t 47) (.t 48)),
 (none, .mv 10 (.t 49)),
 (none, .kp [0, 1, 4, 7, 9, 10])])
 (.blk 0 (.lp pc158l0)))
 (.seq (.dr [[], [], [0, 1], [0, 1, 2], [], [], [5], [4, 5, 6], [4, 5, 6, 7], [], [], [10], [], [], [12, 13], [9, 10, 11, 12, 13, 14], [0, 1, 2, 3, 4, 5, 6, 7, 8, 9, 10, 11, 12, 13, 14, 15], [], [0, 1, 2, 3, 4, 5, 6, 7, 8, 9, 10, 11, 12, 13, 14, 15, 16], [0, 1, 2, 3, 4, 5, 6, 7, 8, 9, 10, 11, 12, 13, 14, 15, 16, 17, 18], [0, 1, 2, 3, 4, 5, 6, 7, 8, 9, 10, 11, 12, 13, 14, 15, 16, 17, 18, 19]]
 (.q 0 (none, .mv 60 (.t 0))
 (.q 1 (none, .mv 61 (.t 1))
 (.q 2 (none, .ix 62 (.t 60) (.t 61))
 (.q 3 (none, .cv 63 .i64 (.t 62))
 (.q 4 (none, .mv 64 (.t 0))
 (.q 5 (none, .mv 65 (.t 1))
 (.q 6 (none, .bi 66 .add (.t 65) (.c (.n .i64 1)))
 (.q 7 (none, .ix 67 (.t 64) (.t 66))
 (.q 8 (none, .cv 68 .i64 (.t 67))
 (.q 9 (none, .mv 69 (.t 0))
 (.q 10 (none, .mv 70 (.t 1))
 (.q 11 (none, .bi 71 .add (.t 70) (.c (.n .i64 4)))
 (.q 12 (none, .mv 72 (.t 1))
 (.q 13 (none, .mv 73 (.t 7))
 (.q 14 (none, .bi 74 .add (.t 72) (.t 73))
 (.q 15 (none, .sS 75 (.t 69) (some (.t 71)) (some (.t 74)))
 (.q 16 (none, .bd 76 [.n .i64 0, .n .i64 0, .s []] [(0, 1, .t 63), (1, 1, .t 68), (2, 1, .t 75)])
 (.q 17 (none, .mv 77 (.t 9))
 (.alt 18 (none, .st 3 (.t 4) (.t 76)) [false, false, false, false, false, false, false, false, false, false, false, false, false, false, false, false, false, true]
 (.q 19 (none, .mv 5 (.t 77))
 (.q 20 (none, .mv 6 (.c (.b true)))
 (.done)))
 (.stop)))))))))))))))))))) [4, 5, 6])
 (.rt))))))))
theorem mr158 : MrT Try.prog 158 pc158 [.c 4 (some 3), .t 5, .t 6] 78 := fun hn h => spec_of_run (fn := Try.f158) (by kernel_rfl) rfl (by kernel_rfl) (by kernel_rfl) hn h
theorem mk158 : MkT Try.prog 158 pc158 [.c 4 (some 3), .t 5, .t 6] 78 := mr158.k
theorem mw158 : MwT Try.prog 158 pc158 [.c 4 (some 3), .t 5, .t 6] 78 := mr158.w
-- 159 impl.likeParts
def pc159 : PC := .seq (.rg [(none, .bx 2 (.t 0)),
 (none, .bx 3 (.t 1)),
 (none, .mv 4 (.c (.b false))),
 (none, .kp [2, 3])])
 (.seq (.rg [(none, .fa 5 1 (.t 2)),
 (none, .ld 6 none (.t 5)),
 (none, .fa 7 1 (.t 3)),
 (none, .ld 8 none (.t 7)),
 (none, .bi 9 .eql (.t 6) (.t 8)),
 (none, .mv 10 (.t 9)),
 (some (10, true), .fa 11 2 (.t 2)),
 (some (10, true), .ld 12 none (.t 11)),
 (some (10, true), .fa 13 2 (.t 3)),
 (some (10, true), .ld 14 none (.t 13)),
 (some (10, true), .bi 15 .eql (.t 12) (.t 14)),
 (none, .pk 16 (.t 10) (.t 15) (.c (.b false))),
 (none, .mv 17 (.t 16)),
 (some (17, true), .fa 18 5 (.t 2)),
 (some (17, true), .ld 19 none (.t 18)),
 (some (17, true), .fa 20 5 (.t 3)),
 (some (17, true), .ld 21 none (.t 20)),
 (some (17, true), .bb 22 false (.t 19) (.t 21)),
 (none, .pk 23 (.t 17) (.t 22) (.c (.b false))),
 (none, .mv 4 (.t 23)),
 (none, .kp [4])])
 (.rt))
theorem mr159 : MrT Try.prog 159 pc159 [.t 4] 24 := fun hn h => spec_of_run (fn := Try.f159) (by kernel_rfl) rfl (by kernel_rfl) (by kernel_rfl) hn h
theorem mk159 : MkT Try.prog 159 pc159 [.t 4] 24 := mr159.k
theorem mw159 : MwT Try.prog 159 pc159 [.t 4] 24 := mr159.w
-- 163 spec.l3Ok
def pc163 : PC := .seq (.rg [(none, .mv 2 (.c (.b false))),
 (none, .kp [0])])
 (.seq (.rg [(none, .mv 3 (.t 0)),
 (none, .ca (some 4) 116 [.t 3, .c (.n .i64 0), .c (.n .i64 65535)]),
 (none, .mv 2 (.t 4)),
 (none, .kp [2])])
 (.rt))
theorem mr163 : MrT Try.prog 163 pc163 [.t 2] 5 := fun hn h => spec_of_run (fn := Try.f163) (by kernel_rfl) rfl (by kernel_rfl) (by kernel_rfl) hn h
theorem mk163 : MkT Try.prog 163 pc163 [.t 2] 5 := mr163.k
theorem mw163 : MwT Try.prog 163 pc163 [.t 2] 5 := mr163.w
-- 172 impl.DataGet
def pc172 : PC := .seq (.rg [(none, .bx 1 (.t 0)),
 (none, .al 2 [.n .i64 0, .n .i64 0, .n .i64 0, .b false, .b false, .b false, .s []]),
 (none, .mv 3 (.c (.b false))),
 (none, .kp [1, 2])])
 (.seq (.seq (.rg [(none, .fa 5 0 (.t 1)),
 (none, .ld 6 none (.t 5)),
 (none, .bi 7 .neq (.t 6) (.c (.n .i64 0))),
 (none, .mv 8 (.t 7)),
 (some (8, false), .fa 9 1 (.t 1)),
 (some (8, false), .ld 10 none (.t 9)),
 (some (8, false), .bi 11 .lss (.t 10) (.c (.n .i64 0))),
 (none, .pk 12 (.t 8) (.c (.b true)) (.t 11)),
 (none, .mv 13 (.t 12)),
 (some (13, false), .fa 14 1 (.t 1)),
 (some (13, false), .ld 15 none (.t 14)),
 (some (13, false), .bi 16 .gtr (.t 15) (.c (.n .i64 7))),
 (none, .pk 17 (.t 13) (.c (.b true)) (.t 16)),
 (none, .mv 18 (.t 17)),
 (some (18, false), .fa 19 2 (.t 1)),
 (some (18, false), .ld 20 none (.t 19)),
 (some (18, false), .lS 21 (.t 20)),
 (some (18, false), .bi 22 .lss (.t 21) (.c (.n .i64 6))),
 (none, .pk 23 (.t 18) (.c (.b true)) (.t 22)),
 (none, .kp [1, 2, 23])])
 (.ite (.t 23) (.seq (.rg [(none, .bd 24 [.n .i64 0, .n .i64 0, .n .i64 0, .b false, .b false, .b false, .s []] []),
 (none, .st 7 (.t 2) (.t 24)),
 (none, .mv 3 (.c (.b false))),
 (none, .kp [2, 3])])
 (.rt))
 (.sk)))
 (.seq (.dr [[], [0], [0, 1], [0, 1, 2], [], [4], [4, 5], [4, 5, 6], [], [8], [8, 9], [8, 9, 10], [], [12], [12, 13], [0, 1, 2, 3, 4, 5, 6, 7, 8, 9, 10, 11, 12, 13, 14], [], [0, 1, 2, 3, 4, 5, 6, 7, 8, 9, 10, 11, 12, 13, 14, 15, 16]]
 (.q 0 (none, .fa 25 1 (.t 1))
 (.q 1 (none, .ld 26 none (.t 25))
 (.q 2 (none, .bi 27 .and (.t 26) (.c (.n .i64 2)))
 (.q 3 (none, .bi 28 .neq (.t 27) (.c (.n .i64 0)))
 (.q 4 (none, .fa 29 1 (.t 1))
 (.q 5 (none, .ld 30 none (.t 29))
 (.q 6 (none, .bi 31 .and (.t 30) (.c (.n .i64 1)))
 (.q 7 (none, .bi 32 .neq (.t 31) (.c (.n .i64 0)))
 (.q 8 (none, .fa 33 1 (.t 1))
 (.q 9 (none, .ld 34 none (.t 33))
 (.q 10 (none, .bi 35 .and (.t 34) (.c (.n .i64 4)))
 (.q 11 (none, .bi 36 .neq (.t 35) (.c (.n .i64 0)))
 (.q 12 (none, .fa 37 2 (.t 1))
 (.q 13 (none, .ld 38 none (.t 37))
 (.q 14 (none, .sS 39 (.t 38) (some (.c (.n .i64 6))) none)
 (.q 15 (none, .bd 40 [.n .i64 0, .n .i64 0, .n .i64 0, .b false, .b false, .b false, .s []] [(3, 1, .t 28), (4, 1, .t 32), (5, 1, .t 36), (6, 1, .t 39)])
 (.alt 16 (none, .al 4 [.n .i64 0, .n .i64 0, .n .i64 0, .b false, .b false, .b false, .s []]) [true, true, true, true, true, true, true, true, true, true, true, true, true, true, true, true]
 (.alt 17 (none, .st 7 (.t 4) (.t 40)) [false, false, false, false, false, false, false, false, false, false, false, false, false, false, false, false]
 (.done)
 (.stop))
 (.stop)))))))))))))))))) [1, 2, 4])
 (.seq (.rg [(none, .fa 42 2 (.t 1)),
 (none, .ld 43 none (.t 42)),
 (none, .ca (some 44) 157 [.t 43, .c (.n .i64 0)]),
 (none, .mv 41 (.t 44)),
 (none, .ex 45 (.t 41) 0),
 (none, .ex 46 (.t 41) 1),
 (none, .fa 47 0 (.t 4)),
 (none, .st 1 (.t 47) (.t 45)),
 (none, .kp [1, 2, 4])])
 (.seq (.rg [(none, .fa 49 2 (.t 1)),
 (none, .ld 50 none (.t 49)),
 (none, .ca (some 51) 157 [.t 50, .c (.n .i64 2)]),
 (none, .mv 48 (.t 51)),
 (none, .ex 52 (.t 48) 0),
 (none, .ex 53 (.t 48) 1),
 (none, .fa 54 1 (.t 4)),
 (none, .st 1 (.t 54) (.t 52)),
 (none, .kp [1, 2, 4])])
 (.seq (.rg [(none, .fa 56 2 (.t 1)),
 (none, .ld 57 none (.t 56)),
 (none, .ca (some 58) 157 [.t 57, .c (.n .i64 4)]),
 (none, .mv 55 (.t 58)),
 (none, .ex 59 (.t 55) 0),
 (none, .ex 60 (.t 55) 1),
 (none, .fa 61 2 (.t 4)),
 (none, .st 1 (.t 61) (.t 59)),
 (none, .kp [2, 4])])
 (.seq (.seq (.rg [(none, .ld 62 (some 7) (.t 4)),
 (none, .ca (some 63) 110 [.t 62]),
 (none, .un 64 .not (.t 63)),
 (none, .kp [2, 4, 64])])
 (.ite (.t 64) (.seq (.rg [(none, .bd 65 [.n .i64 0, .n .i64 0, .n .i64 0, .b false, .b false, .b false, .s []] []),
 (none, .st 7 (.t 2) (.t 65)),
 (none, .mv 3 (.c (.b false))),
 (none, .kp [2, 3])])
 (.rt))
 (.sk)))
 (.seq (.rg [(none, .ld 66 (some 7) (.t 4)),
 (none, .st 7 (.t 2) (.t 66)),
 (none, .mv 3 (.c (.b true))),
 (none, .kp [2, 3])])
 (.rt))))))))
theorem mr172 : MrT Try.prog 172 pc172 [.c 2 (some 7), .t 3] 67 := fun hn h => spec_of_run (fn := Try.f172) (by kernel_rfl) rfl (by kernel_rfl) (by kernel_rfl) hn h
theorem mk172 : MkT Try.prog 172 pc172 [.c 2 (some 7), .t 3] 67 := mr172.k
theorem mw172 : MwT Try.prog 172 pc172 [.c 2 (some 7), .t 3] 67 := mr172.w
-- 173 impl.SackGet
def pc173l0 : PC := .seq (.seq (.rg [(none, .mv 31 (.t 5)),
 (none, .fa 32 2 (.t 1)),
 (none, .ld 33 none (.t 32)),
 (none, .lS 34 (.t 33)),
 (none, .bi 35 .lss (.t 31) (.t 34)),
 (none, .kp [1, 2, 4, 5, 35])])
 (.ite (.t 35) (.sk)
 (.ex 0)))
 (.seq (.blk 1 (.seq (.rg [(none, .bd 38 [.n .i64 0, .n .i64 0] []),
 (none, .al 6 [.n .i64 0, .n .i64 0]),
 (none, .st 2 (.t 6) (.t 38)),
 (none, .kp [1, 2, 4, 5, 6])])
 (.seq (.rg [(none, .fa 40 2 (.t 1)),
 (none, .ld 41 none (.t 40)),
 (none, .mv 42 (.t 5)),
 (none, .ca (some 43) 157 [.t 41, .t 42]),
 (none, .mv 39 (.t 43)),
 (none, .ex 44 (.t 39) 0),
 (none, .ex 45 (.t 39) 1),
 (none, .fa 46 0 (.t 6)),
 (none, .st 1 (.t 46) (.t 44)),
 (none, .kp [1, 2, 4, 5, 6])])
 (.seq (.rg [(none, .fa 48 2 (.t 1)),
 (none, .ld 49 none (.t 48)),
 (none, .mv 50 (.t 5)),
 (none, .bi 51 .add (.t 50) (.c (.n .i64 2))),
 (none, .ca (some 52) 157 [.t 49, .t 51]),
 (none, .mv 47 (.t 52)),
 (none, .ex 53 (.t 47) 0),
 (none, .ex 54 (.t 47) 1),
 (none, .fa 55 1 (.t 6)),
 (none, .st 1 (.t 55) (.t 53)),
 (none, .kp [1, 2, 4, 5, 6])])
 (.rg [(none, .fa 56 1 (.t 4)),
 (none, .ld 57 none (.t 56)),
 (none, .ld 58 (some 2) (.t 6)),
 (none, .bs 59 2 1 [.n .i64 0, .n .i64 0] [(0, .t 58)]),
 (none, .ap 60 2 16 (.t 57) (.t 59)),
 (none, .fa 61 1 (.t 4)),
 (none, .st 1 (.t 61) (.t 60)),
 (none, .kp [1, 2, 4, 5])])))))
 (.rg [(none, .mv 36 (.t 5)),
 (none, .bi 37 .add (.t 36) (.c (.n .i64 4))),
 (none, .mv 5 (.t 37)),
 (none, .kp [1, 2, 4, 5])]))
def pc173 : PC := .seq (.rg [(none, .bx 1 (.t 0)),
 (none, .al 2 [.n .i64 0, .nil]),
 (none, .mv 3 (.c (.b false))),
 (none, .kp [1, 2])])
 (.seq (.seq (.rg [(none, .fa 7 0 (.t 1)),
 (none, .ld 8 none (.t 7)),
 (none, .bi 9 .neq (.t 8) (.c (.n .i64 3))),
 (none, .mv 10 (.t 9)),
 (some (10, false), .fa 11 1 (.t 1)),
 (some (10, false), .ld 12 none (.t 11)),
 (some (10, false), .bi 13 .neq (.t 12) (.c (.n .i64 0))),
 (none, .pk 14 (.t 10) (.c (.b true)) (.t 13)),
 (none, .mv 15 (.t 14)),
 (some (15, false), .fa 16 2 (.t 1)),
 (some (15, false), .ld 17 none (.t 16)),
 (some (15, false), .lS 18 (.t 17)),
 (some (15, false), .bi 19 .rem (.t 18) (.c (.n .i64 4))),
 (some (15, false), .bi 20 .neq (.t 19) (.c (.n .i64 2))),
 (none, .pk 21 (.t 15) (.c (.b true)) (.t 20)),
 (none, .kp [1, 2, 21])])
 (.ite (.t 21) (.seq (.rg [(none, .bd 22 [.n .i64 0, .nil] []),
 (none, .st 2 (.t 2) (.t 22)),
 (none, .mv 3 (.c (.b false))),
 (none, .kp [2, 3])])
 (.rt))
 (.sk)))
 (.seq (.rg [(none, .bd 23 [.n .i64 0, .nil] []),
 (none, .al 4 [.n .i64 0, .nil]),
 (none, .st 2 (.t 4) (.t 23)),
 (none, .kp [1, 2, 4])])
 (.seq (.rg [(none, .fa 25 2 (.t 1)),
 (none, .ld 26 none (.t 25)),
 (none, .ca (some 27) 157 [.t 26, .c (.n .i64 0)]),
 (none, .mv 24 (.t 27)),
 (none, .ex 28 (.t 24) 0),
 (none, .ex 29 (.t 24) 1),
 (none, .fa 30 0 (.t 4)),
 (none, .st 1 (.t 30) (.t 28)),
 (none, .kp [1, 2, 4])])
 (.seq (.seq (.rg [(none, .mv 5 (.c (.n .i64 2))),
 (none, .kp [1, 2, 4, 5])])
 (.blk 0 (.lp pc173l0)))
 (.seq (.seq (.rg [(none, .ld 62 (some 2) (.t 4)),
 (none, .ca (some 63) 145 [.t 62]),
 (none, .un 64 .not (.t 63)),
 (none, .kp [2, 4, 64])])
 (.ite (.t 64) (.seq (.rg [(none, .bd 65 [.n .i64 0, .nil] []),
 (none, .st 2 (.t 2) (.t 65)),
 (none, .mv 3 (.c (.b false))),
 (none, .kp [2, 3])])
 (.rt))
 (.sk)))
 (.seq (.rg [(none, .ld 66 (some 2) (.t 4)),
 (none, .st 2 (.t 2) (.t 66)),
 (none, .mv 3 (.c (.b true))),
 (none, .kp [2, 3])])
 (.rt)))))))
theorem mr173 : MrT Try.prog 173 pc173 [.c 2 (some 2), .t 3] 67 := fun hn h => spec_of_run (fn := Try.f173) (by kernel_rfl) rfl (by kernel_rfl) (by kernel_rfl) hn h
theorem mk173 : MkT Try.prog 173 pc173 [.c 2 (some 2), .t 3] 67 := mr173.k
theorem mw173 : MwT Try.prog 173 pc173 [.c 2 (some 2), .t 3] 67 := mr173.w
-- 174 impl.SerialDiff
def pc174 : PC := .seq (.rg [(none, .mv 4 (.c (.n .i64 0))),
 (none, .kp [0, 1])])
 (.seq (.seq (.rg [(none, .mv 6 (.t 0)),
 (none, .ca (some 7) 109 [.t 6]),
 (none, .un 8 .not (.t 7)),
 (none, .mv 9 (.t 8)),
 (some (9, false), .mv 10 (.t 1)),
 (some (9, false), .ca (some 11) 109 [.t 10]),
 (some (9, false), .un 12 .not (.t 11)),
 (none, .pk 13 (.t 9) (.c (.b true)) (.t 12)),
 (none, .kp [0, 1, 13])])
 (.ite (.t 13) (.seq (.rg [(none, .mv 4 (.c (.n .i64 (-65536)))),
 (none, .kp [4])])
 (.rt))
 (.sk)))
 (.seq (.rg [(none, .mv 14 (.t 1)),
 (none, .mv 15 (.t 0)),
 (none, .bi 16 .sub (.t 14) (.t 15)),
 (none, .bi 17 .add (.t 16) (.c (.n .i64 65536))),
 (none, .bi 18 .rem (.t 17) (.c (.n .i64 65536))),
 (none, .mv 5 (.t 18)),
 (none, .kp [5])])
 (.seq (.seq (.rg [(none, .mv 19 (.t 5)),
 (none, .bi 20 .gtr (.t 19) (.c (.n .i64 32768))),
 (none, .kp [5, 20])])
 (.ite (.t 20) (.rg [(none, .mv 21 (.t 5)),
 (none, .bi 22 .sub (.t 21) (.c (.n .i64 65536))),
 (none, .mv 5 (.t 22)),
 (none, .kp [5])])
 (.sk)))
 (.seq (.rg [(none, .mv 23 (.t 5)),
 (none, .mv 4 (.t 23)),
 (none, .kp [4])])
 (.rt)))))
theorem mr174 : MrT Try.prog 174 pc174 [.t 4] 24 := fun hn h => spec_of_run (fn := Try.f174) (by kernel_rfl) rfl (by kernel_rfl) (by kernel_rfl) hn h
theorem mk174 : MkT Try.prog 174 pc174 [.t 4] 24 := mr174.k
theorem mw174 : MwT Try.prog 174 pc174 [.t 4] 24 := mr174.w
-- 176 spec.l2Next
def pc176l0 : PC := .seq (.seq (.rg [(none, .mv 12 (.t 7)),
 (none, .mv 13 (.t 1)),
 (none, .lS 14 (.t 13)),
 (none, .bi 15 .lss (.t 12) (.t 14)),
 (none, .kp [1, 5, 6, 7, 15])])
 (.ite (.t 15) (.sk)
 (.ex 0)))
 (.seq (.blk 1 (.seq (.rg [(none, .mv 18 (.t 5)),
 (none, .mv 19 (.t 1)),
 (none, .mv 20 (.t 7)),
 (none, .ix 21 (.t 19) (.t 20)),
 (none, .cv 22 .i64 (.t 21)),
 (none, .bi 23 .add (.t 18) (.t 22)),
 (none, .bi 24 .rem (.t 23) (.c (.n .i64 65521))),
 (none, .mv 5 (.t 24)),
 (none, .kp [1, 5, 6, 7])])
 (.rg [(none, .mv 25 (.t 6)),
 (none, .mv 26 (.t 5)),
 (none, .bi 27 .add (.t 25) (.t 26)),
 (none, .bi 28 .rem (.t 27) (.c (.n .i64 65521))),
 (none, .mv 6 (.t 28)),
 (none, .kp [1, 5, 6, 7])])))
 (.rg [(none, .mv 16 (.t 7)),
 (none, .bi 17 .add (.t 16) (.c (.n .i64 1))),
 (none, .mv 7 (.t 17)),
 (none, .kp [1, 5, 6, 7])]))
def pc176 : PC := .seq (.rg [(none, .mv 4 (.c (.n .i64 0))),
 (none, .kp [0, 1])])
 (.seq (.rg [(none, .mv 8 (.t 0)),
 (none, .bi 9 .rem (.t 8) (.c (.n .i64 65536))),
 (none, .mv 5 (.t 9)),
 (none, .kp [0, 1, 5])])
 (.seq (.rg [(none, .mv 10 (.t 0)),
 (none, .bi 11 .quo (.t 10) (.c (.n .i64 65536))),
 (none, .mv 6 (.t 11)),
 (none, .kp [1, 5, 6])])
 (.seq (.seq (.rg [(none, .mv 7 (.c (.n .i64 0))),
 (none, .kp [1, 5, 6, 7])])
 (.blk 0 (.lp pc176l0)))
 (.seq (.rg [(none, .mv 29 (.t 6)),
 (none, .bi 30 .mul (.c (.n .i64 65536)) (.t 29)),
 (none, .mv 31 (.t 5)),
 (none, .bi 32 .add (.t 30) (.t 31)),
 (none, .mv 4 (.t 32)),
 (none, .kp [4])])
 (.rt)))))
theorem mr176 : MrT Try.prog 176 pc176 [.t 4] 33 := fun hn h => spec_of_run (fn := Try.f176) (by kernel_rfl) rfl (by kernel_rfl) (by kernel_rfl) hn h
theorem mk176 : MkT Try.prog 176 pc176 [.t 4] 33 := mr176.k
theorem mw176 : MwT Try.prog 176 pc176 [.t 4] 33 := mr176.w
end Go.Cap
