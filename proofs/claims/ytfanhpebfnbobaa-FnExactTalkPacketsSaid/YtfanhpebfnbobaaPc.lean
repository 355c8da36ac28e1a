import Derived.Test.YtfanhpebfnbobaaChecked
import Derived.Test.YtfanhpebfnbobaaEngC
namespace Go.Cap
open Go Go.Proofs
set_option maxRecDepth 100000
-- 9 laws.FnExactTalkPackets
def pc9 : PC := .seq (.rg [(none, .bx 1 (.t 0)),
 (none, .mv 2 (.c (.b false))),
 (none, .kp [1])])
 (.seq (.rg [(none, .mv 3 (.c (.n .i64 1048576))),
 (none, .kp [1, 3])])
 (.seq (.rg [(none, .ld 11 (some 12) (.t 1)),
 (none, .mv 12 (.t 3)),
 (none, .ca (some 13) 34 [.t 11, .t 12]),
 (none, .mv 3 (.t 13)),
 (none, .kp [1, 3])])
 (.seq (.seq (.rg [(none, .mv 14 (.t 3)),
 (none, .bi 15 .lss (.t 14) (.c (.n .i64 0))),
 (none, .kp [1, 15])])
 (.ite (.t 15) (.seq (.rg [(none, .mv 2 (.c (.b true))),
 (none, .kp [2])])
 (.rt))
 (.sk)))
 (.seq (.rg [(none, .ld 16 (some 12) (.t 1)),
 (none, .ca (some 17) 36 [.t 16]),
 (none, .ca (some 18) 35 [.t 17]),
 (none, .mv 4 (.t 18)),
 (none, .kp [1, 4])])
 (.seq (.rg [(none, .ld 19 (some 12) (.t 1)),
 (none, .ca (some 20) 36 [.t 19]),
 (none, .al 5 [.n .i64 0, .n .i64 0, .n .i64 0, .n .i64 0, .n .i64 0, .n .i64 0, .n .i64 0, .n .i64 0, .n .i64 0, .n .i64 0, .n .i64 0, .nil]),
 (none, .st 12 (.t 5) (.t 20)),
 (none, .kp [1, 4, 5])])
 (.seq (.rg [(none, .ld 21 (some 12) (.t 5)),
 (none, .ca (some 22) 37 [.t 21]),
 (none, .mv 6 (.t 22)),
 (none, .kp [1, 4, 5, 6])])
 (.seq (.seq (.rg [(none, .mv 23 (.t 6)),
 (none, .mv 24 (.t 4)),
 (none, .ca (some 25) 38 [.t 23, .t 24]),
 (none, .un 26 .not (.t 25)),
 (none, .kp [1, 4, 5, 6, 26])])
 (.ite (.t 26) (.seq (.rg [(none, .mv 2 (.c (.b false))),
 (none, .kp [2])])
 (.rt))
 (.sk)))
 (.seq (.seq (.dr [[], [], [1], [0, 1, 2], [0, 1, 2, 3]]
 (.q 0 (none, .ld 27 (some 12) (.t 5))
 (.q 1 (none, .ld 28 (some 12) (.t 1))
 (.alt 2 (none, .ca (some 29) 36 [.t 28]) [true, false]
 (.alt 3 (none, .ca (some 30) 39 [.t 27, .t 29]) [false, false]
 (.q 4 (none, .un 31 .not (.t 30))
 (.done))
 (.stop))
 (.stop)))) [1, 4, 5, 6, 31])
 (.ite (.t 31) (.seq (.rg [(none, .mv 2 (.c (.b false))),
 (none, .kp [2])])
 (.rt))
 (.sk)))
 (.seq (.rg [(none, .mv 7 (.c (.n .i64 1))),
 (none, .kp [1, 4, 5, 6, 7])])
 (.seq (.rg [(none, .ld 32 (some 12) (.t 5)),
 (none, .mv 33 (.t 7)),
 (none, .ca (some 34) 40 [.t 32, .t 33]),
 (none, .mv 7 (.t 34)),
 (none, .kp [1, 4, 6, 7])])
 (.seq (.seq (.rg [(none, .mv 35 (.t 7)),
 (none, .bi 36 .lss (.t 35) (.c (.n .i64 0))),
 (none, .mv 37 (.t 36)),
 (some (37, false), .mv 38 (.t 6)),
 (some (37, false), .mv 39 (.t 4)),
 (some (37, false), .ca (some 40) 38 [.t 38, .t 39]),
 (some (37, false), .un 41 .not (.t 40)),
 (none, .pk 42 (.t 37) (.c (.b true)) (.t 41)),
 (none, .kp [1, 4, 6, 42])])
 (.ite (.t 42) (.seq (.rg [(none, .mv 2 (.c (.b false))),
 (none, .kp [2])])
 (.rt))
 (.sk)))
 (.seq (.rg [(none, .mv 8 (.c (.n .i64 1))),
 (none, .kp [1, 4, 6, 8])])
 (.seq (.rg [(none, .mv 43 (.t 6)),
 (none, .mv 44 (.t 8)),
 (none, .ca (some 45) 41 [.t 43, .t 44]),
 (none, .mv 8 (.t 45)),
 (none, .kp [1, 4, 6, 8])])
 (.seq (.rg [(none, .mv 9 (.c (.n .i64 1))),
 (none, .kp [1, 4, 6, 8, 9])])
 (.seq (.rg [(none, .mv 46 (.t 6)),
 (none, .mv 47 (.t 9)),
 (none, .ca (some 48) 42 [.t 46, .t 47]),
 (none, .mv 9 (.t 48)),
 (none, .kp [1, 4, 6, 8, 9])])
 (.seq (.seq (.rg [(none, .mv 49 (.t 9)),
 (none, .bi 50 .lss (.t 49) (.c (.n .i64 0))),
 (none, .kp [1, 4, 6, 8, 9, 50])])
 (.ite (.t 50) (.seq (.rg [(none, .mv 2 (.c (.b false))),
 (none, .kp [2])])
 (.rt))
 (.sk)))
 (.seq (.seq (.rg [(none, .mv 51 (.t 9)),
 (none, .mv 52 (.t 8)),
 (none, .bi 53 .neq (.t 51) (.t 52)),
 (none, .kp [1, 4, 6, 8, 53])])
 (.ite (.t 53) (.seq (.rg [(none, .mv 2 (.c (.b false))),
 (none, .kp [2])])
 (.rt))
 (.sk)))
 (.seq (.rg [(none, .ld 54 (some 12) (.t 1)),
 (none, .ca (some 55) 36 [.t 54]),
 (none, .ca (some 56) 37 [.t 55]),
 (none, .mv 10 (.t 56)),
 (none, .kp [4, 6, 8, 10])])
 (.seq (.seq (.rg [(none, .mv 57 (.t 10)),
 (none, .mv 58 (.t 4)),
 (none, .ca (some 59) 38 [.t 57, .t 58]),
 (none, .un 60 .not (.t 59)),
 (none, .kp [6, 8, 60])])
 (.ite (.t 60) (.seq (.rg [(none, .mv 2 (.c (.b false))),
 (none, .kp [2])])
 (.rt))
 (.sk)))
 (.seq (.rg [(none, .mv 9 (.c (.n .i64 1))),
 (none, .kp [6, 8, 9])])
 (.seq (.rg [(none, .mv 61 (.t 6)),
 (none, .mv 62 (.t 9)),
 (none, .ca (some 63) 42 [.t 61, .t 62]),
 (none, .mv 9 (.t 63)),
 (none, .kp [8, 9])])
 (.seq (.seq (.rg [(none, .mv 64 (.t 9)),
 (none, .bi 65 .lss (.t 64) (.c (.n .i64 0))),
 (none, .kp [8, 9, 65])])
 (.ite (.t 65) (.seq (.rg [(none, .mv 2 (.c (.b false))),
 (none, .kp [2])])
 (.rt))
 (.sk)))
 (.seq (.seq (.rg [(none, .mv 66 (.t 9)),
 (none, .mv 67 (.t 8)),
 (none, .bi 68 .neq (.t 66) (.t 67)),
 (none, .kp [68])])
 (.ite (.t 68) (.seq (.rg [(none, .mv 2 (.c (.b false))),
 (none, .kp [2])])
 (.rt))
 (.sk)))
 (.seq (.rg [(none, .mv 2 (.c (.b true))),
 (none, .kp [2])])
 (.rt)))))))))))))))))))))))))
theorem mr9 : MrT Try.prog 9 pc9 [.t 2] 69 := fun hn h => spec_of_run (fn := Try.f9) (by kernel_rfl) rfl (by kernel_rfl) (by kernel_rfl) hn h
theorem mk9 : MkT Try.prog 9 pc9 [.t 2] 69 := mr9.k
theorem mw9 : MwT Try.prog 9 pc9 [.t 2] 69 := mr9.w
-- 28 laws.eqPacket
def pc28 : PC := .seq (.rg [(none, .bx 2 (.t 0)),
 (none, .bx 3 (.t 1)),
 (none, .mv 4 (.c (.b false))),
 (none, .kp [2, 3])])
 (.seq (.seq (.rg [(none, .fa 5 0 (.t 2)),
 (none, .ld 6 none (.t 5)),
 (none, .fa 7 0 (.t 3)),
 (none, .ld 8 none (.t 7)),
 (none, .bi 9 .neq (.t 6) (.t 8)),
 (none, .kp [2, 3, 9])])
 (.ite (.t 9) (.seq (.rg [(none, .mv 4 (.c (.b false))),
 (none, .kp [4])])
 (.rt))
 (.sk)))
 (.seq (.seq (.rg [(none, .fa 10 1 (.t 2)),
 (none, .ld 11 none (.t 10)),
 (none, .fa 12 1 (.t 3)),
 (none, .ld 13 none (.t 12)),
 (none, .bi 14 .neq (.t 11) (.t 13)),
 (none, .kp [2, 3, 14])])
 (.ite (.t 14) (.seq (.rg [(none, .mv 4 (.c (.b false))),
 (none, .kp [4])])
 (.rt))
 (.sk)))
 (.seq (.seq (.rg [(none, .fa 15 2 (.t 2)),
 (none, .ld 16 none (.t 15)),
 (none, .fa 17 2 (.t 3)),
 (none, .ld 18 none (.t 17)),
 (none, .bi 19 .neq (.t 16) (.t 18)),
 (none, .kp [2, 3, 19])])
 (.ite (.t 19) (.seq (.rg [(none, .mv 4 (.c (.b false))),
 (none, .kp [4])])
 (.rt))
 (.sk)))
 (.seq (.seq (.rg [(none, .fa 20 3 (.t 2)),
 (none, .ld 21 none (.t 20)),
 (none, .fa 22 3 (.t 3)),
 (none, .ld 23 none (.t 22)),
 (none, .ca (some 24) 69 [.t 21, .t 23]),
 (none, .un 25 .not (.t 24)),
 (none, .kp [25])])
 (.ite (.t 25) (.seq (.rg [(none, .mv 4 (.c (.b false))),
 (none, .kp [4])])
 (.rt))
 (.sk)))
 (.seq (.rg [(none, .mv 4 (.c (.b true))),
 (none, .kp [4])])
 (.rt))))))
theorem mr28 : MrT Try.prog 28 pc28 [.t 4] 26 := fun hn h => spec_of_run (fn := Try.f28) (by kernel_rfl) rfl (by kernel_rfl) (by kernel_rfl) hn h
theorem mk28 : MkT Try.prog 28 pc28 [.t 4] 26 := mr28.k
theorem mw28 : MwT Try.prog 28 pc28 [.t 4] 26 := mr28.w
-- 34 laws.szTalk
def pc34 : PC := .seq (.rg [(none, .bx 2 (.t 0)),
 (none, .mv 4 (.c (.n .i64 0))),
 (none, .kp [1, 2])])
 (.seq (.rg [(none, .fa 5 11 (.t 2)),
 (none, .ld 6 none (.t 5)),
 (none, .mv 7 (.t 1)),
 (none, .ca (some 8) 73 [.t 6, .t 7]),
 (none, .mv 1 (.t 8)),
 (none, .kp [1])])
 (.seq (.seq (.rg [(none, .mv 9 (.t 1)),
 (none, .bi 10 .lss (.t 9) (.c (.n .i64 0))),
 (none, .kp [1, 10])])
 (.ite (.t 10) (.seq (.rg [(none, .mv 4 (.c (.n .i64 (-1)))),
 (none, .kp [4])])
 (.rt))
 (.sk)))
 (.seq (.rg [(none, .mv 11 (.t 1)),
 (none, .mv 4 (.t 11)),
 (none, .kp [4])])
 (.rt))))
theorem mr34 : MrT Try.prog 34 pc34 [.t 4] 12 := fun hn h => spec_of_run (fn := Try.f34) (by kernel_rfl) rfl (by kernel_rfl) (by kernel_rfl) hn h
theorem mk34 : MkT Try.prog 34 pc34 [.t 4] 12 := mr34.k
theorem mw34 : MwT Try.prog 34 pc34 [.t 4] 12 := mr34.w
-- 35 spec.TalkPackets
def pc35l0 : PC := .seq (.seq (.rg [(none, .mv 46 (.t 8)),
 (none, .bi 47 .gtr (.t 46) (.c (.n .i64 0))),
 (none, .kp [1, 3, 4, 5, 6, 7, 8, 47])])
 (.ite (.t 47) (.sk)
 (.ex 2)))
 (.seq (.blk 3 (.seq (.rg [(none, .bd 50 [.n .i64 0, .n .i64 0, .n .i64 0, .b false, .b false, .b false, .s []] []),
 (none, .al 9 [.n .i64 0, .n .i64 0, .n .i64 0, .b false, .b false, .b false, .s []]),
 (none, .st 7 (.t 9) (.t 50)),
 (none, .kp [1, 3, 4, 5, 6, 7, 8, 9])])
 (.seq (.seq (.rg [(none, .mv 51 (.t 7)),
 (none, .kp [1, 3, 4, 5, 6, 7, 8, 9, 51])])
 (.ite (.t 51) (.seq (.rg [(none, .mv 52 (.t 5)),
 (none, .ia 53 7 (.t 52) (.c (.n .i64 0))),
 (none, .ld 54 (some 7) (.t 53)),
 (none, .st 7 (.t 9) (.t 54)),
 (none, .kp [1, 3, 4, 5, 6, 7, 8, 9])])
 (.rg [(none, .mv 55 (.t 5)),
 (none, .sc 56 7 (.t 55) (some (.c (.n .i64 1))) none),
 (none, .mv 5 (.t 56)),
 (none, .kp [1, 3, 4, 5, 6, 7, 8, 9])]))
 (.seq (.rg [(none, .mv 57 (.t 4)),
 (none, .ia 58 7 (.t 57) (.c (.n .i64 0))),
 (none, .ld 59 (some 7) (.t 58)),
 (none, .st 7 (.t 9) (.t 59)),
 (none, .kp [1, 3, 4, 5, 6, 7, 8, 9])])
 (.rg [(none, .mv 60 (.t 4)),
 (none, .sc 61 7 (.t 60) (some (.c (.n .i64 1))) none),
 (none, .mv 4 (.t 61)),
 (none, .kp [1, 3, 4, 5, 6, 7, 8, 9])]))))
 (.seq (.rg [(none, .ld 63 (some 7) (.t 9)),
 (none, .ca (some 64) 78 [.t 63]),
 (none, .mv 62 (.t 64)),
 (none, .ex 65 (.t 62) 0),
 (none, .ex 66 (.t 62) 1),
 (none, .al 10 [.n .i64 0, .n .i64 0, .s []]),
 (none, .st 3 (.t 10) (.t 65)),
 (none, .mv 11 (.t 66)),
 (none, .kp [1, 3, 4, 5, 6, 7, 8, 9, 10])])
 (.seq (.rg [(none, .fa 68 0 (.t 9)),
 (none, .ld 69 none (.t 68)),
 (none, .bd 70 [.n .i64 0, .nil] [(0, 1, .t 69)]),
 (none, .ca (some 71) 79 [.t 70]),
 (none, .mv 67 (.t 71)),
 (none, .ex 72 (.t 67) 0),
 (none, .ex 73 (.t 67) 1),
 (none, .al 12 [.n .i64 0, .n .i64 0, .s []]),
 (none, .st 3 (.t 12) (.t 72)),
 (none, .mv 13 (.t 73)),
 (none, .kp [1, 3, 4, 5, 6, 7, 8, 10, 12])])
 (.dr [[], [], [], [], [3], [1, 2, 3, 4], [], [], [7], [], [9], [1, 2, 3, 4, 5, 6, 7, 8, 9, 10], [1, 2, 3, 4, 5, 6, 7, 8, 9, 10, 11], [0, 1, 2, 3, 4, 5, 6, 7, 8, 9, 10, 11, 12], [0, 1, 2, 3, 4, 5, 6, 7, 8, 9, 10, 11, 12, 13]]
 (.q 0 (none, .mv 74 (.t 3))
 (.q 1 (none, .ld 75 (some 12) (.t 1))
 (.q 2 (none, .mv 76 (.t 7))
 (.q 3 (none, .ld 77 (some 3) (.t 10))
 (.q 6 (none, .ld 80 (some 12) (.t 1))
 (.q 7 (none, .mv 81 (.t 7))
 (.q 8 (none, .un 82 .not (.t 81))
 (.q 9 (none, .ld 83 (some 3) (.t 12))
 (.alt 4 (none, .bs 78 3 1 [.n .i64 0, .n .i64 0, .s []] [(0, .t 77)]) [true, true, true, false, true, true, true, true]
 (.alt 5 (none, .ca (some 79) 80 [.t 75, .t 76, .t 78]) [true, false, false, false, true, true, true, true]
 (.alt 10 (none, .bs 84 3 1 [.n .i64 0, .n .i64 0, .s []] [(0, .t 83)]) [true, true, true, true, true, true, true, false]
 (.alt 11 (none, .ca (some 85) 80 [.t 80, .t 82, .t 84]) [true, false, false, false, false, false, false, false]
 (.alt 12 (none, .bs 86 4 2 [.n .i64 0, .n .i64 0, .n .i64 0, .nil] [(0, .t 79), (1, .t 85)]) [true, false, false, false, false, false, false, false]
 (.alt 13 (none, .ap 87 4 48 (.t 74) (.t 86)) [false, false, false, false, false, false, false, false]
 (.alt 14 (none, .mv 3 (.t 87)) [false, false, false, false, false, false, false, false]
 (.done)
 (.stop))
 (.stop))
 (.stop))
 (.stop))
 (.stop))
 (.alt 10 (none, .bs 84 3 1 [.n .i64 0, .n .i64 0, .s []] [(0, .t 83)]) [true, true, true, true, true, true, true, false]
 (.alt 5 (none, .ca (some 79) 80 [.t 75, .t 76, .t 78]) [true, false, false, false, true, true, true, true]
 (.alt 11 (none, .ca (some 85) 80 [.t 80, .t 82, .t 84]) [true, false, false, false, false, false, false, false]
 (.alt 12 (none, .bs 86 4 2 [.n .i64 0, .n .i64 0, .n .i64 0, .nil] [(0, .t 79), (1, .t 85)]) [true, false, false, false, false, false, false, false]
 (.alt 13 (none, .ap 87 4 48 (.t 74) (.t 86)) [false, false, false, false, false, false, false, false]
 (.alt 14 (none, .mv 3 (.t 87)) [false, false, false, false, false, false, false, false]
 (.done)
 (.stop))
 (.stop))
 (.stop))
 (.stop))
 (.stop))
 (.stop)))
 (.alt 10 (none, .bs 84 3 1 [.n .i64 0, .n .i64 0, .s []] [(0, .t 83)]) [true, true, true, true, true, true, true, false]
 (.alt 4 (none, .bs 78 3 1 [.n .i64 0, .n .i64 0, .s []] [(0, .t 77)]) [true, true, true, false, true, true, true, true]
 (.alt 5 (none, .ca (some 79) 80 [.t 75, .t 76, .t 78]) [true, false, false, false, true, true, true, true]
 (.alt 11 (none, .ca (some 85) 80 [.t 80, .t 82, .t 84]) [true, false, false, false, false, false, false, false]
 (.alt 12 (none, .bs 86 4 2 [.n .i64 0, .n .i64 0, .n .i64 0, .nil] [(0, .t 79), (1, .t 85)]) [true, false, false, false, false, false, false, false]
 (.alt 13 (none, .ap 87 4 48 (.t 74) (.t 86)) [false, false, false, false, false, false, false, false]
 (.alt 14 (none, .mv 3 (.t 87)) [false, false, false, false, false, false, false, false]
 (.done)
 (.stop))
 (.stop))
 (.stop))
 (.stop))
 (.stop))
 (.stop))
 (.stop))))))))))) [1, 3, 4, 5, 6, 7, 8]))))))
 (.rg [(none, .mv 48 (.t 8)),
 (none, .bi 49 .sub (.t 48) (.c (.n .i64 1))),
 (none, .mv 8 (.t 49)),
 (none, .kp [1, 3, 4, 5, 6, 7, 8])]))
def pc35l1 : PC := .seq (.seq (.rg [(none, .mv 24 (.t 6)),
 (none, .fa 25 11 (.t 1)),
 (none, .ld 26 none (.t 25)),
 (none, .ln 27 (.t 26)),
 (none, .bi 28 .lss (.t 24) (.t 27)),
 (none, .kp [1, 3, 4, 5, 6, 28])])
 (.ite (.t 28) (.sk)
 (.ex 0)))
 (.seq (.blk 1 (.seq (.rg [(none, .fa 31 11 (.t 1)),
 (none, .ld 32 none (.t 31)),
 (none, .mv 33 (.t 6)),
 (none, .ia 34 4 (.t 32) (.t 33)),
 (none, .fa 35 0 (.t 34)),
 (none, .ld 36 none (.t 35)),
 (none, .mv 7 (.t 36)),
 (none, .kp [1, 3, 4, 5, 6, 7])])
 (.seq (.dr [[], [0], [], [0, 1, 2], [0, 1, 2, 3], [0, 1, 2, 3, 4], [], [6], [0, 1, 2, 3, 4, 5, 6, 7], [0, 1, 2, 3, 4, 5, 6, 7, 8]]
 (.q 0 (none, .fa 37 11 (.t 1))
 (.q 1 (none, .ld 38 none (.t 37))
 (.q 2 (none, .mv 39 (.t 6))
 (.q 3 (none, .ia 40 4 (.t 38) (.t 39))
 (.q 4 (none, .fa 41 3 (.t 40))
 (.q 5 (none, .ld 42 none (.t 41))
 (.q 6 (none, .fa 43 10 (.t 1))
 (.q 7 (none, .ld 44 none (.t 43))
 (.alt 8 (none, .ca (some 45) 77 [.t 42, .t 44]) [false, false, false, false, false, false, false, false]
 (.q 9 (none, .mv 8 (.t 45))
 (.done))
 (.stop)))))))))) [1, 3, 4, 5, 6, 7, 8])
 (.blk 2 (.lp pc35l0)))))
 (.rg [(none, .mv 29 (.t 6)),
 (none, .bi 30 .add (.t 29) (.c (.n .i64 1))),
 (none, .mv 6 (.t 30)),
 (none, .kp [1, 3, 4, 5, 6])]))
def pc35 : PC := .seq (.rg [(none, .bx 1 (.t 0)),
 (none, .mv 2 (.c .nil)),
 (none, .kp [1])])
 (.seq (.seq (.rg [(none, .ld 14 (some 12) (.t 1)),
 (none, .ca (some 15) 74 [.t 14]),
 (none, .un 16 .not (.t 15)),
 (none, .kp [1, 16])])
 (.ite (.t 16) (.seq (.rg [(none, .bs 17 4 0 [.n .i64 0, .n .i64 0, .n .i64 0, .nil] []),
 (none, .mv 2 (.t 17)),
 (none, .kp [2])])
 (.rt))
 (.sk)))
 (.seq (.rg [(none, .ld 18 (some 12) (.t 1)),
 (none, .ca (some 19) 75 [.t 18]),
 (none, .mv 3 (.t 19)),
 (none, .kp [1, 3])])
 (.seq (.rg [(none, .ld 20 (some 12) (.t 1)),
 (none, .ca (some 21) 76 [.t 20, .c (.b false)]),
 (none, .mv 4 (.t 21)),
 (none, .kp [1, 3, 4])])
 (.seq (.rg [(none, .ld 22 (some 12) (.t 1)),
 (none, .ca (some 23) 76 [.t 22, .c (.b true)]),
 (none, .mv 5 (.t 23)),
 (none, .kp [1, 3, 4, 5])])
 (.seq (.seq (.rg [(none, .mv 6 (.c (.n .i64 0))),
 (none, .kp [1, 3, 4, 5, 6])])
 (.blk 0 (.lp pc35l1)))
 (.seq (.dr [[], [], [1], [], [1, 2, 3], [], [1, 2, 3, 4, 5], [1, 2, 3, 4, 5, 6], [0, 1, 2, 3, 4, 5, 6, 7], [0, 1, 2, 3, 4, 5, 6, 7, 8]]
 (.q 0 (none, .mv 88 (.t 3))
 (.q 1 (none, .ld 89 (some 12) (.t 1))
 (.q 3 (none, .ld 91 (some 12) (.t 1))
 (.q 5 (none, .ld 93 (some 12) (.t 1))
 (.alt 2 (none, .ca (some 90) 81 [.t 89, .c (.b false), .c (.n .i64 7)]) [true, false, true, true]
 (.alt 4 (none, .ca (some 92) 81 [.t 91, .c (.b true), .c (.n .i64 8)]) [true, false, false, true]
 (.alt 6 (none, .ca (some 94) 81 [.t 93, .c (.b false), .c (.n .i64 14)]) [true, false, false, false]
 (.alt 7 (none, .bs 95 4 3 [.n .i64 0, .n .i64 0, .n .i64 0, .nil] [(0, .t 90), (1, .t 92), (2, .t 94)]) [true, false, false, false]
 (.alt 8 (none, .ap 96 4 48 (.t 88) (.t 95)) [false, false, false, false]
 (.q 9 (none, .mv 2 (.t 96))
 (.done))
 (.stop))
 (.stop))
 (.stop))
 (.stop))
 (.stop)))))) [2])
 (.rt)))))))
theorem mr35 : MrT Try.prog 35 pc35 [.t 2] 97 := fun hn h => spec_of_run (fn := Try.f35) (by kernel_rfl) rfl (by kernel_rfl) (by kernel_rfl) hn h
theorem mk35 : MkT Try.prog 35 pc35 [.t 2] 97 := mr35.k
theorem mw35 : MwT Try.prog 35 pc35 [.t 2] 97 := mr35.w
-- 36 laws.toTalk
def pc36 : PC := .seq (.rg [(none, .bx 1 (.t 0)),
 (none, .al 2 [.n .i64 0, .n .i64 0, .n .i64 0, .n .i64 0, .n .i64 0, .n .i64 0, .n .i64 0, .n .i64 0, .n .i64 0, .n .i64 0, .n .i64 0, .nil]),
 (none, .kp [1, 2])])
 (.seq (.rg [(none, .al 3 [.n .i64 0, .n .i64 0, .n .i64 0, .n .i64 0, .n .i64 0, .n .i64 0, .n .i64 0, .n .i64 0, .n .i64 0, .n .i64 0, .n .i64 0, .nil]),
 (none, .kp [1, 2, 3])])
 (.seq (.rg [(none, .fa 4 0 (.t 1)),
 (none, .ld 5 none (.t 4)),
 (none, .fa 6 0 (.t 3)),
 (none, .st 1 (.t 6) (.t 5)),
 (none, .kp [1, 2, 3])])
 (.seq (.rg [(none, .fa 7 1 (.t 1)),
 (none, .ld 8 none (.t 7)),
 (none, .fa 9 1 (.t 3)),
 (none, .st 1 (.t 9) (.t 8)),
 (none, .kp [1, 2, 3])])
 (.seq (.rg [(none, .fa 10 2 (.t 1)),
 (none, .ld 11 (some 4) (.t 10)),
 (none, .ca (some 12) 82 [.t 11]),
 (none, .fa 13 2 (.t 3)),
 (none, .st 4 (.t 13) (.t 12)),
 (none, .kp [1, 2, 3])])
 (.seq (.rg [(none, .fa 14 6 (.t 1)),
 (none, .ld 15 (some 4) (.t 14)),
 (none, .ca (some 16) 82 [.t 15]),
 (none, .fa 17 6 (.t 3)),
 (none, .st 4 (.t 17) (.t 16)),
 (none, .kp [1, 2, 3])])
 (.seq (.rg [(none, .fa 18 10 (.t 1)),
 (none, .ld 19 none (.t 18)),
 (none, .fa 20 10 (.t 3)),
 (none, .st 1 (.t 20) (.t 19)),
 (none, .kp [1, 2, 3])])
 (.seq (.rg [(none, .fa 21 11 (.t 1)),
 (none, .ld 22 none (.t 21)),
 (none, .ca (some 23) 83 [.t 22]),
 (none, .fa 24 11 (.t 3)),
 (none, .st 1 (.t 24) (.t 23)),
 (none, .kp [2, 3])])
 (.seq (.rg [(none, .ld 25 (some 12) (.t 3)),
 (none, .st 12 (.t 2) (.t 25)),
 (none, .kp [2])])
 (.rt)))))))))
theorem mr36 : MrT Try.prog 36 pc36 [.c 2 (some 12)] 26 := fun hn h => spec_of_run (fn := Try.f36) (by kernel_rfl) rfl (by kernel_rfl) (by kernel_rfl) hn h
theorem mk36 : MkT Try.prog 36 pc36 [.c 2 (some 12)] 26 := mr36.k
theorem mw36 : MwT Try.prog 36 pc36 [.c 2 (some 12)] 26 := mr36.w
-- 37 impl.TalkPackets
def pc37l0 : PC := .seq (.rg [(none, .bi 58 .lss (.t 57) (.t 56)),
 (none, .kp [3, 5, 49, 50, 51, 55, 56, 57, 58])])
 (.seq (.ite (.t 58) (.sk)
 (.ex 2))
 (.seq (.blk 3 (.seq (.rg [(none, .ia 59 8 (.t 55) (.t 57)),
 (none, .ld 60 (some 8) (.t 59)),
 (none, .al 13 [.b false, .n .i64 0, .n .i64 0, .n .i64 0, .b false, .b false, .b false, .s []]),
 (none, .st 8 (.t 13) (.t 60)),
 (none, .kp [3, 5, 13, 49, 50, 51, 55, 56, 57])])
 (.seq (.rg [(none, .fa 62 1 (.t 13)),
 (none, .ld 63 (some 7) (.t 62)),
 (none, .ca (some 64) 88 [.t 63]),
 (none, .mv 61 (.t 64)),
 (none, .ex 65 (.t 61) 0),
 (none, .ex 66 (.t 61) 1),
 (none, .al 14 [.n .i64 0, .n .i64 0, .s []]),
 (none, .st 3 (.t 14) (.t 65)),
 (none, .mv 15 (.t 66)),
 (none, .kp [3, 5, 13, 14, 49, 50, 51, 55, 56, 57])])
 (.seq (.rg [(none, .fa 68 1 (.t 13)),
 (none, .fa 69 0 (.t 68)),
 (none, .ld 70 none (.t 69)),
 (none, .bd 71 [.n .i64 0, .nil] [(0, 1, .t 70)]),
 (none, .ca (some 72) 89 [.t 71]),
 (none, .mv 67 (.t 72)),
 (none, .ex 73 (.t 67) 0),
 (none, .ex 74 (.t 67) 1),
 (none, .al 16 [.n .i64 0, .n .i64 0, .s []]),
 (none, .st 3 (.t 16) (.t 73)),
 (none, .mv 17 (.t 74)),
 (none, .kp [3, 5, 13, 14, 16, 49, 50, 51, 55, 56, 57])])
 (.seq (.rg [(none, .mv 75 (.t 5)),
 (none, .fa 76 0 (.t 13)),
 (none, .ld 77 none (.t 76)),
 (none, .ld 78 (some 3) (.t 14)),
 (none, .cf (some 79) 85 (.t 75) [.t 77, .t 78]),
 (none, .kp [3, 5, 13, 16, 49, 50, 51, 55, 56, 57])])
 (.rg [(none, .mv 80 (.t 5)),
 (none, .fa 81 0 (.t 13)),
 (none, .ld 82 none (.t 81)),
 (none, .un 83 .not (.t 82)),
 (none, .ld 84 (some 3) (.t 16)),
 (none, .cf (some 85) 85 (.t 80) [.t 83, .t 84]),
 (none, .kp [3, 5, 49, 50, 51, 55, 56, 57])]))))))
 (.rg [(none, .bi 86 .add (.t 57) (.c (.n .i64 1))),
 (none, .mv 57 (.t 86)),
 (none, .kp [3, 5, 49, 50, 51, 55, 56, 57])])))
def pc37l1 : PC := .seq (.rg [(none, .bi 52 .lss (.t 51) (.t 50)),
 (none, .kp [3, 5, 49, 50, 51, 52])])
 (.seq (.ite (.t 52) (.sk)
 (.ex 0))
 (.seq (.blk 1 (.seq (.rg [(none, .ia 53 1 (.t 49) (.t 51)),
 (none, .ld 54 none (.t 53)),
 (none, .mv 11 (.t 54)),
 (none, .kp [3, 5, 11, 49, 50, 51])])
 (.seq (.rg [(none, .mv 55 (.t 11)),
 (none, .ln 56 (.t 55)),
 (none, .mv 57 (.c (.n .i64 0))),
 (none, .kp [3, 5, 49, 50, 51, 55, 56, 57])])
 (.blk 2 (.lp pc37l0)))))
 (.rg [(none, .bi 87 .add (.t 51) (.c (.n .i64 1))),
 (none, .mv 51 (.t 87)),
 (none, .kp [3, 5, 49, 50, 51])])))
def pc37 : PC := .seq (.rg [(none, .bx 1 (.t 0)),
 (none, .mv 2 (.c .nil)),
 (none, .kp [1])])
 (.seq (.seq (.rg [(none, .ld 18 (some 12) (.t 1)),
 (none, .ca (some 19) 51 [.t 18]),
 (none, .un 20 .not (.t 19)),
 (none, .kp [1, 20])])
 (.ite (.t 20) (.seq (.rg [(none, .mv 2 (.c .nil)),
 (none, .kp [2])])
 (.rt))
 (.sk)))
 (.seq (.rg [(none, .bs 21 4 0 [.n .i64 0, .n .i64 0, .n .i64 0, .nil] []),
 (none, .al 3 [.nil]),
 (none, .st 1 (.t 3) (.t 21)),
 (none, .kp [1, 3])])
 (.seq (.rg [(none, .mf 22 84 [.t 1, .t 3]),
 (none, .al 4 [.j]),
 (none, .st 1 (.t 4) (.t 22)),
 (none, .kp [1, 3, 4])])
 (.seq (.rg [(none, .mf 23 85 [.t 4, .t 1]),
 (none, .mv 5 (.t 23)),
 (none, .kp [1, 3, 4, 5])])
 (.seq (.rg [(none, .fa 25 2 (.t 1)),
 (none, .ld 26 (some 4) (.t 25)),
 (none, .ca (some 27) 86 [.t 26, .c (.b false)]),
 (none, .mv 24 (.t 27)),
 (none, .ex 28 (.t 24) 0),
 (none, .ex 29 (.t 24) 1),
 (none, .al 6 [.n .i64 0, .n .i64 0, .s []]),
 (none, .st 3 (.t 6) (.t 28)),
 (none, .mv 7 (.t 29)),
 (none, .kp [1, 3, 4, 5, 6])])
 (.seq (.rg [(none, .fa 31 6 (.t 1)),
 (none, .ld 32 (some 4) (.t 31)),
 (none, .ca (some 33) 86 [.t 32, .c (.b true)]),
 (none, .mv 30 (.t 33)),
 (none, .ex 34 (.t 30) 0),
 (none, .ex 35 (.t 30) 1),
 (none, .al 8 [.n .i64 0, .n .i64 0, .s []]),
 (none, .st 3 (.t 8) (.t 34)),
 (none, .mv 9 (.t 35)),
 (none, .kp [1, 3, 4, 5, 6, 8])])
 (.seq (.rg [(none, .ld 36 none (.t 4)),
 (none, .ld 37 (some 3) (.t 6)),
 (none, .cf (some 38) 84 (.t 36) [.c (.b false), .t 37, .c (.n .i64 0)]),
 (none, .kp [1, 3, 5, 8])])
 (.seq (.rg [(none, .mv 39 (.t 5)),
 (none, .ld 40 (some 3) (.t 8)),
 (none, .cf (some 41) 85 (.t 39) [.c (.b true), .t 40]),
 (none, .kp [1, 3, 5])])
 (.seq (.rg [(none, .mv 42 (.t 5)),
 (none, .bd 43 [.n .i64 0, .n .i64 0, .s []] [(0, 1, .c (.n .i64 10))]),
 (none, .cf (some 44) 85 (.t 42) [.c (.b false), .t 43]),
 (none, .kp [1, 3, 5])])
 (.seq (.rg [(none, .mv 45 (.t 5)),
 (none, .bd 46 [.n .i64 0, .n .i64 0, .s []] [(0, 1, .c (.n .i64 11))]),
 (none, .cf (some 47) 85 (.t 45) [.c (.b true), .t 46]),
 (none, .kp [1, 3, 5])])
 (.seq (.seq (.rg [(none, .ld 48 (some 12) (.t 1)),
 (none, .ca (some 49) 87 [.t 48]),
 (none, .ln 50 (.t 49)),
 (none, .mv 51 (.c (.n .i64 0))),
 (none, .kp [3, 5, 49, 50, 51])])
 (.blk 0 (.lp pc37l1)))
 (.seq (.rg [(none, .mv 88 (.t 5)),
 (none, .bd 89 [.n .i64 0, .n .i64 0, .s []] [(0, 1, .c (.n .i64 7))]),
 (none, .cf (some 90) 85 (.t 88) [.c (.b false), .t 89]),
 (none, .kp [3, 5])])
 (.seq (.rg [(none, .mv 91 (.t 5)),
 (none, .bd 92 [.n .i64 0, .n .i64 0, .s []] [(0, 1, .c (.n .i64 8))]),
 (none, .cf (some 93) 85 (.t 91) [.c (.b true), .t 92]),
 (none, .kp [3, 5])])
 (.seq (.rg [(none, .mv 94 (.t 5)),
 (none, .bd 95 [.n .i64 0, .n .i64 0, .s []] [(0, 1, .c (.n .i64 14))]),
 (none, .cf (some 96) 85 (.t 94) [.c (.b false), .t 95]),
 (none, .kp [3])])
 (.seq (.rg [(none, .ld 97 none (.t 3)),
 (none, .mv 2 (.t 97)),
 (none, .kp [2])])
 (.rt))))))))))))))))
theorem mr37 : MrT Try.prog 37 pc37 [.t 2] 98 := fun hn h => spec_of_run (fn := Try.f37) (by kernel_rfl) rfl (by kernel_rfl) (by kernel_rfl) hn h
theorem mk37 : MkT Try.prog 37 pc37 [.t 2] 98 := mr37.k
theorem mw37 : MwT Try.prog 37 pc37 [.t 2] 98 := mr37.w
-- 38 laws.eqPacketS
def pc38l0 : PC := .seq (.seq (.rg [(none, .mv 11 (.t 5)),
 (none, .mv 12 (.t 0)),
 (none, .ln 13 (.t 12)),
 (none, .bi 14 .lss (.t 11) (.t 13)),
 (none, .kp [0, 1, 5, 14])])
 (.ite (.t 14) (.sk)
 (.ex 0)))
 (.seq (.blk 1 (.seq (.dr [[], [], [0, 1], [0, 1, 2], [], [], [4, 5], [4, 5, 6], [0, 1, 2, 3, 4, 5, 6, 7], [0, 1, 2, 3, 4, 5, 6, 7, 8]]
 (.q 0 (none, .mv 17 (.t 0))
 (.q 1 (none, .mv 18 (.t 5))
 (.q 2 (none, .ia 19 4 (.t 17) (.t 18))
 (.q 3 (none, .ld 20 (some 4) (.t 19))
 (.q 4 (none, .mv 21 (.t 1))
 (.q 5 (none, .mv 22 (.t 5))
 (.q 6 (none, .ia 23 4 (.t 21) (.t 22))
 (.q 7 (none, .ld 24 (some 4) (.t 23))
 (.alt 8 (none, .ca (some 25) 28 [.t 20, .t 24]) [false, false, false, false, false, false, false, false]
 (.q 9 (none, .un 26 .not (.t 25))
 (.done))
 (.stop)))))))))) [0, 1, 5, 26])
 (.ite (.t 26) (.seq (.rg [(none, .mv 4 (.c (.b false))),
 (none, .kp [4])])
 (.rt))
 (.sk))))
 (.rg [(none, .mv 15 (.t 5)),
 (none, .bi 16 .add (.t 15) (.c (.n .i64 1))),
 (none, .mv 5 (.t 16)),
 (none, .kp [0, 1, 5])]))
def pc38 : PC := .seq (.rg [(none, .mv 4 (.c (.b false))),
 (none, .kp [0, 1])])
 (.seq (.seq (.rg [(none, .mv 6 (.t 0)),
 (none, .ln 7 (.t 6)),
 (none, .mv 8 (.t 1)),
 (none, .ln 9 (.t 8)),
 (none, .bi 10 .neq (.t 7) (.t 9)),
 (none, .kp [0, 1, 10])])
 (.ite (.t 10) (.seq (.rg [(none, .mv 4 (.c (.b false))),
 (none, .kp [4])])
 (.rt))
 (.sk)))
 (.seq (.seq (.rg [(none, .mv 5 (.c (.n .i64 0))),
 (none, .kp [0, 1, 5])])
 (.blk 0 (.lp pc38l0)))
 (.seq (.rg [(none, .mv 4 (.c (.b true))),
 (none, .kp [4])])
 (.rt))))
theorem mr38 : MrT Try.prog 38 pc38 [.t 4] 27 := fun hn h => spec_of_run (fn := Try.f38) (by kernel_rfl) rfl (by kernel_rfl) (by kernel_rfl) hn h
theorem mk38 : MkT Try.prog 38 pc38 [.t 4] 27 := mr38.k
theorem mw38 : MwT Try.prog 38 pc38 [.t 4] 27 := mr38.w
-- 39 laws.eqTalk
def pc39 : PC := .seq (.rg [(none, .bx 2 (.t 0)),
 (none, .bx 3 (.t 1)),
 (none, .mv 4 (.c (.b false))),
 (none, .kp [2, 3])])
 (.seq (.seq (.rg [(none, .fa 5 0 (.t 2)),
 (none, .ld 6 none (.t 5)),
 (none, .fa 7 0 (.t 3)),
 (none, .ld 8 none (.t 7)),
 (none, .bi 9 .neq (.t 6) (.t 8)),
 (none, .kp [2, 3, 9])])
 (.ite (.t 9) (.seq (.rg [(none, .mv 4 (.c (.b false))),
 (none, .kp [4])])
 (.rt))
 (.sk)))
 (.seq (.seq (.rg [(none, .fa 10 1 (.t 2)),
 (none, .ld 11 none (.t 10)),
 (none, .fa 12 1 (.t 3)),
 (none, .ld 13 none (.t 12)),
 (none, .bi 14 .neq (.t 11) (.t 13)),
 (none, .kp [2, 3, 14])])
 (.ite (.t 14) (.seq (.rg [(none, .mv 4 (.c (.b false))),
 (none, .kp [4])])
 (.rt))
 (.sk)))
 (.seq (.seq (.rg [(none, .fa 15 2 (.t 2)),
 (none, .ld 16 (some 4) (.t 15)),
 (none, .fa 17 2 (.t 3)),
 (none, .ld 18 (some 4) (.t 17)),
 (none, .ca (some 19) 90 [.t 16, .t 18]),
 (none, .un 20 .not (.t 19)),
 (none, .kp [2, 3, 20])])
 (.ite (.t 20) (.seq (.rg [(none, .mv 4 (.c (.b false))),
 (none, .kp [4])])
 (.rt))
 (.sk)))
 (.seq (.seq (.rg [(none, .fa 21 6 (.t 2)),
 (none, .ld 22 (some 4) (.t 21)),
 (none, .fa 23 6 (.t 3)),
 (none, .ld 24 (some 4) (.t 23)),
 (none, .ca (some 25) 90 [.t 22, .t 24]),
 (none, .un 26 .not (.t 25)),
 (none, .kp [2, 3, 26])])
 (.ite (.t 26) (.seq (.rg [(none, .mv 4 (.c (.b false))),
 (none, .kp [4])])
 (.rt))
 (.sk)))
 (.seq (.seq (.rg [(none, .fa 27 10 (.t 2)),
 (none, .ld 28 none (.t 27)),
 (none, .fa 29 10 (.t 3)),
 (none, .ld 30 none (.t 29)),
 (none, .bi 31 .neq (.t 28) (.t 30)),
 (none, .kp [2, 3, 31])])
 (.ite (.t 31) (.seq (.rg [(none, .mv 4 (.c (.b false))),
 (none, .kp [4])])
 (.rt))
 (.sk)))
 (.seq (.seq (.rg [(none, .fa 32 11 (.t 2)),
 (none, .ld 33 none (.t 32)),
 (none, .fa 34 11 (.t 3)),
 (none, .ld 35 none (.t 34)),
 (none, .ca (some 36) 91 [.t 33, .t 35]),
 (none, .un 37 .not (.t 36)),
 (none, .kp [37])])
 (.ite (.t 37) (.seq (.rg [(none, .mv 4 (.c (.b false))),
 (none, .kp [4])])
 (.rt))
 (.sk)))
 (.seq (.rg [(none, .mv 4 (.c (.b true))),
 (none, .kp [4])])
 (.rt))))))))
theorem mr39 : MrT Try.prog 39 pc39 [.t 4] 38 := fun hn h => spec_of_run (fn := Try.f39) (by kernel_rfl) rfl (by kernel_rfl) (by kernel_rfl) hn h
theorem mk39 : MkT Try.prog 39 pc39 [.t 4] 38 := mr39.k
theorem mw39 : MwT Try.prog 39 pc39 [.t 4] 38 := mr39.w
-- 40 laws.markTalk
def pc40 : PC := .seq (.rg [(none, .bx 2 (.t 0)),
 (none, .mv 4 (.c (.n .i64 0))),
 (none, .kp [1, 2])])
 (.seq (.rg [(none, .fa 5 11 (.t 2)),
 (none, .ld 6 none (.t 5)),
 (none, .mv 7 (.t 1)),
 (none, .ca (some 8) 92 [.t 6, .t 7]),
 (none, .mv 1 (.t 8)),
 (none, .kp [1])])
 (.seq (.rg [(none, .mv 9 (.t 1)),
 (none, .mv 4 (.t 9)),
 (none, .kp [4])])
 (.rt)))
theorem mr40 : MrT Try.prog 40 pc40 [.t 4] 10 := fun hn h => spec_of_run (fn := Try.f40) (by kernel_rfl) rfl (by kernel_rfl) (by kernel_rfl) hn h
theorem mk40 : MkT Try.prog 40 pc40 [.t 4] 10 := mr40.k
theorem mw40 : MwT Try.prog 40 pc40 [.t 4] 10 := mr40.w
-- 41 laws.markPacketS
def pc41l0 : PC := .seq (.seq (.rg [(none, .mv 6 (.t 5)),
 (none, .mv 7 (.t 0)),
 (none, .ln 8 (.t 7)),
 (none, .bi 9 .lss (.t 6) (.t 8)),
 (none, .kp [0, 1, 5, 9])])
 (.ite (.t 9) (.sk)
 (.ex 0)))
 (.seq (.blk 1 (.seq (.rg [(none, .mv 12 (.t 0)),
 (none, .mv 13 (.t 5)),
 (none, .mv 14 (.t 1)),
 (none, .ia 15 4 (.t 12) (.t 13)),
 (none, .fa 16 0 (.t 15)),
 (none, .st 1 (.t 16) (.t 14)),
 (none, .kp [0, 1, 5])])
 (.seq (.rg [(none, .mv 17 (.t 1)),
 (none, .bi 18 .add (.t 17) (.c (.n .i64 1))),
 (none, .mv 1 (.t 18)),
 (none, .kp [0, 1, 5])])
 (.seq (.rg [(none, .mv 19 (.t 0)),
 (none, .mv 20 (.t 5)),
 (none, .mv 21 (.t 1)),
 (none, .ia 22 4 (.t 19) (.t 20)),
 (none, .fa 23 1 (.t 22)),
 (none, .st 1 (.t 23) (.t 21)),
 (none, .kp [0, 1, 5])])
 (.seq (.rg [(none, .mv 24 (.t 1)),
 (none, .bi 25 .add (.t 24) (.c (.n .i64 1))),
 (none, .mv 1 (.t 25)),
 (none, .kp [0, 1, 5])])
 (.seq (.rg [(none, .mv 26 (.t 0)),
 (none, .mv 27 (.t 5)),
 (none, .mv 28 (.t 1)),
 (none, .ia 29 4 (.t 26) (.t 27)),
 (none, .fa 30 2 (.t 29)),
 (none, .st 1 (.t 30) (.t 28)),
 (none, .kp [0, 1, 5])])
 (.seq (.rg [(none, .mv 31 (.t 1)),
 (none, .bi 32 .add (.t 31) (.c (.n .i64 1))),
 (none, .mv 1 (.t 32)),
 (none, .kp [0, 1, 5])])
 (.rg [(none, .mv 33 (.t 0)),
 (none, .mv 34 (.t 5)),
 (none, .ia 35 4 (.t 33) (.t 34)),
 (none, .fa 36 3 (.t 35)),
 (none, .ld 37 none (.t 36)),
 (none, .mv 38 (.t 1)),
 (none, .ca (some 39) 71 [.t 37, .t 38]),
 (none, .mv 1 (.t 39)),
 (none, .kp [0, 1, 5])]))))))))
 (.rg [(none, .mv 10 (.t 5)),
 (none, .bi 11 .add (.t 10) (.c (.n .i64 1))),
 (none, .mv 5 (.t 11)),
 (none, .kp [0, 1, 5])]))
def pc41 : PC := .seq (.rg [(none, .mv 4 (.c (.n .i64 0))),
 (none, .kp [0, 1])])
 (.seq (.seq (.rg [(none, .mv 5 (.c (.n .i64 0))),
 (none, .kp [0, 1, 5])])
 (.blk 0 (.lp pc41l0)))
 (.seq (.rg [(none, .mv 40 (.t 1)),
 (none, .mv 4 (.t 40)),
 (none, .kp [4])])
 (.rt)))
theorem mr41 : MrT Try.prog 41 pc41 [.t 4] 41 := fun hn h => spec_of_run (fn := Try.f41) (by kernel_rfl) rfl (by kernel_rfl) (by kernel_rfl) hn h
theorem mk41 : MkT Try.prog 41 pc41 [.t 4] 41 := mr41.k
theorem mw41 : MwT Try.prog 41 pc41 [.t 4] 41 := mr41.w
-- 42 laws.heldPacketS
def pc42l0 : PC := .seq (.seq (.rg [(none, .mv 6 (.t 5)),
 (none, .mv 7 (.t 0)),
 (none, .ln 8 (.t 7)),
 (none, .bi 9 .lss (.t 6) (.t 8)),
 (none, .kp [0, 1, 5, 9])])
 (.ite (.t 9) (.sk)
 (.ex 0)))
 (.seq (.blk 1 (.seq (.seq (.rg [(none, .mv 12 (.t 0)),
 (none, .mv 13 (.t 5)),
 (none, .ia 14 4 (.t 12) (.t 13)),
 (none, .fa 15 0 (.t 14)),
 (none, .ld 16 none (.t 15)),
 (none, .mv 17 (.t 1)),
 (none, .bi 18 .neq (.t 16) (.t 17)),
 (none, .kp [0, 1, 5, 18])])
 (.ite (.t 18) (.seq (.rg [(none, .mv 4 (.c (.n .i64 (-1)))),
 (none, .kp [4])])
 (.rt))
 (.sk)))
 (.seq (.rg [(none, .mv 19 (.t 1)),
 (none, .bi 20 .add (.t 19) (.c (.n .i64 1))),
 (none, .mv 1 (.t 20)),
 (none, .kp [0, 1, 5])])
 (.seq (.seq (.rg [(none, .mv 21 (.t 0)),
 (none, .mv 22 (.t 5)),
 (none, .ia 23 4 (.t 21) (.t 22)),
 (none, .fa 24 1 (.t 23)),
 (none, .ld 25 none (.t 24)),
 (none, .mv 26 (.t 1)),
 (none, .bi 27 .neq (.t 25) (.t 26)),
 (none, .kp [0, 1, 5, 27])])
 (.ite (.t 27) (.seq (.rg [(none, .mv 4 (.c (.n .i64 (-1)))),
 (none, .kp [4])])
 (.rt))
 (.sk)))
 (.seq (.rg [(none, .mv 28 (.t 1)),
 (none, .bi 29 .add (.t 28) (.c (.n .i64 1))),
 (none, .mv 1 (.t 29)),
 (none, .kp [0, 1, 5])])
 (.seq (.seq (.rg [(none, .mv 30 (.t 0)),
 (none, .mv 31 (.t 5)),
 (none, .ia 32 4 (.t 30) (.t 31)),
 (none, .fa 33 2 (.t 32)),
 (none, .ld 34 none (.t 33)),
 (none, .mv 35 (.t 1)),
 (none, .bi 36 .neq (.t 34) (.t 35)),
 (none, .kp [0, 1, 5, 36])])
 (.ite (.t 36) (.seq (.rg [(none, .mv 4 (.c (.n .i64 (-1)))),
 (none, .kp [4])])
 (.rt))
 (.sk)))
 (.seq (.rg [(none, .mv 37 (.t 1)),
 (none, .bi 38 .add (.t 37) (.c (.n .i64 1))),
 (none, .mv 1 (.t 38)),
 (none, .kp [0, 1, 5])])
 (.seq (.rg [(none, .mv 39 (.t 0)),
 (none, .mv 40 (.t 5)),
 (none, .ia 41 4 (.t 39) (.t 40)),
 (none, .fa 42 3 (.t 41)),
 (none, .ld 43 none (.t 42)),
 (none, .mv 44 (.t 1)),
 (none, .ca (some 45) 93 [.t 43, .t 44]),
 (none, .mv 1 (.t 45)),
 (none, .kp [0, 1, 5])])
 (.seq (.rg [(none, .mv 46 (.t 1)),
 (none, .bi 47 .lss (.t 46) (.c (.n .i64 0))),
 (none, .kp [0, 1, 5, 47])])
 (.ite (.t 47) (.seq (.rg [(none, .mv 4 (.c (.n .i64 (-1)))),
 (none, .kp [4])])
 (.rt))
 (.sk)))))))))))
 (.rg [(none, .mv 10 (.t 5)),
 (none, .bi 11 .add (.t 10) (.c (.n .i64 1))),
 (none, .mv 5 (.t 11)),
 (none, .kp [0, 1, 5])]))
def pc42 : PC := .seq (.rg [(none, .mv 4 (.c (.n .i64 0))),
 (none, .kp [0, 1])])
 (.seq (.seq (.rg [(none, .mv 5 (.c (.n .i64 0))),
 (none, .kp [0, 1, 5])])
 (.blk 0 (.lp pc42l0)))
 (.seq (.rg [(none, .mv 48 (.t 1)),
 (none, .mv 4 (.t 48)),
 (none, .kp [4])])
 (.rt)))
theorem mr42 : MrT Try.prog 42 pc42 [.t 4] 49 := fun hn h => spec_of_run (fn := Try.f42) (by kernel_rfl) rfl (by kernel_rfl) (by kernel_rfl) hn h
theorem mk42 : MkT Try.prog 42 pc42 [.t 4] 49 := mr42.k
theorem mw42 : MwT Try.prog 42 pc42 [.t 4] 49 := mr42.w
-- 51 impl.TalkValid
def pc51l0 : PC := .seq (.rg [(none, .bi 66 .lss (.t 65) (.t 64)),
 (none, .kp [1, 3, 63, 64, 65, 66])])
 (.seq (.ite (.t 66) (.sk)
 (.ex 0))
 (.seq (.blk 1 (.seq (.rg [(none, .ia 67 4 (.t 63) (.t 65)),
 (none, .ld 68 (some 4) (.t 67)),
 (none, .al 5 [.b false, .n .i64 0, .b false, .s []]),
 (none, .st 4 (.t 5) (.t 68)),
 (none, .kp [1, 3, 5, 63, 64, 65])])
 (.seq (.dr [[], [0], [0, 1], [], [0, 1, 2, 3]]
 (.q 0 (none, .fa 69 2 (.t 1))
 (.q 1 (none, .fa 70 2 (.t 69))
 (.q 2 (none, .ld 71 none (.t 70))
 (.q 3 (none, .mv 6 (.c (.n .i64 0)))
 (.q 4 (none, .mv 7 (.t 71))
 (.done)))))) [1, 3, 5, 6, 7, 63, 64, 65])
 (.seq (.seq (.rg [(none, .fa 72 0 (.t 5)),
 (none, .ld 73 none (.t 72)),
 (none, .kp [1, 3, 5, 6, 7, 63, 64, 65, 73])])
 (.ite (.t 73) (.dr [[], [0], [0, 1], [], [0, 1, 2, 3]]
 (.q 0 (none, .fa 74 6 (.t 1))
 (.q 1 (none, .fa 75 2 (.t 74))
 (.q 2 (none, .ld 76 none (.t 75))
 (.q 3 (none, .mv 6 (.c (.n .i64 1)))
 (.q 4 (none, .mv 7 (.t 76))
 (.done)))))) [1, 3, 5, 6, 7, 63, 64, 65])
 (.sk)))
 (.seq (.seq (.rg [(none, .fa 77 3 (.t 5)),
 (none, .ld 78 none (.t 77)),
 (none, .lS 79 (.t 78)),
 (none, .bi 80 .lss (.t 79) (.c (.n .i64 1))),
 (none, .mv 81 (.t 80)),
 (some (81, false), .fa 82 3 (.t 5)),
 (some (81, false), .ld 83 none (.t 82)),
 (some (81, false), .lS 84 (.t 83)),
 (some (81, false), .bi 85 .gtr (.t 84) (.c (.n .i64 60))),
 (none, .pk 86 (.t 81) (.c (.b true)) (.t 85)),
 (none, .mv 87 (.t 86)),
 (some (87, false), .fa 88 1 (.t 5)),
 (some (87, false), .ld 89 none (.t 88)),
 (some (87, false), .bi 90 .lss (.t 89) (.c (.n .i64 0))),
 (none, .pk 91 (.t 87) (.c (.b true)) (.t 90)),
 (none, .mv 92 (.t 91)),
 (some (92, false), .fa 93 1 (.t 5)),
 (some (92, false), .ld 94 none (.t 93)),
 (some (92, false), .mv 95 (.t 7)),
 (some (92, false), .bi 96 .geq (.t 94) (.t 95)),
 (none, .pk 97 (.t 92) (.c (.b true)) (.t 96)),
 (none, .kp [1, 3, 5, 6, 63, 64, 65, 97])])
 (.ite (.t 97) (.seq (.rg [(none, .mv 2 (.c (.b false))),
 (none, .kp [2])])
 (.rt))
 (.sk)))
 (.dr [[], [0], [0, 1], [], [3], [3, 4], [], [6], [3, 4, 5, 6, 7], [3, 4, 5, 6, 7, 8], [], [10], [3, 4, 5, 6, 7, 8, 9, 10, 11], [0, 1, 2, 3, 4, 5, 6, 7, 8, 9, 10, 11, 12], [0, 1, 2, 3, 4, 5, 6, 7, 8, 9, 10, 11, 12, 13], [0, 1, 2, 3, 4, 5, 6, 7, 8, 9, 10, 11, 12, 13, 14]]
 (.q 0 (none, .mv 98 (.t 6))
 (.q 1 (none, .iA 99 2 1 (.t 3) (.t 98))
 (.q 2 (none, .ld 100 none (.t 99))
 (.q 3 (none, .fa 101 3 (.t 5))
 (.q 4 (none, .ld 102 none (.t 101))
 (.q 5 (none, .lS 103 (.t 102))
 (.q 6 (none, .fa 104 10 (.t 1))
 (.q 7 (none, .ld 105 none (.t 104))
 (.q 8 (none, .bi 106 .add (.t 103) (.t 105))
 (.q 9 (none, .bi 107 .sub (.t 106) (.c (.n .i64 1)))
 (.q 10 (none, .fa 108 10 (.t 1))
 (.q 11 (none, .ld 109 none (.t 108))
 (.q 12 (none, .bi 110 .quo (.t 107) (.t 109))
 (.q 13 (none, .bi 111 .add (.t 100) (.t 110))
 (.q 14 (none, .iA 112 2 1 (.t 3) (.t 98))
 (.alt 15 (none, .st 1 (.t 112) (.t 111)) [false, false, false, false, false, false, false, false, false, false, false, false, false, false, false]
 (.done)
 (.stop))))))))))))))))) [1, 3, 63, 64, 65]))))))
 (.rg [(none, .bi 113 .add (.t 65) (.c (.n .i64 1))),
 (none, .mv 65 (.t 113)),
 (none, .kp [1, 3, 63, 64, 65])])))
def pc51 : PC := .seq (.rg [(none, .bx 1 (.t 0)),
 (none, .mv 2 (.c (.b false))),
 (none, .kp [1])])
 (.seq (.seq (.rg [(none, .fa 8 0 (.t 1)),
 (none, .ld 9 none (.t 8)),
 (none, .bi 10 .lss (.t 9) (.c (.n .i64 1))),
 (none, .mv 11 (.t 10)),
 (some (11, false), .fa 12 0 (.t 1)),
 (some (11, false), .ld 13 none (.t 12)),
 (some (11, false), .bi 14 .gtr (.t 13) (.c (.n .i64 65535))),
 (none, .pk 15 (.t 11) (.c (.b true)) (.t 14)),
 (none, .mv 16 (.t 15)),
 (some (16, false), .fa 17 1 (.t 1)),
 (some (16, false), .ld 18 none (.t 17)),
 (some (16, false), .bi 19 .lss (.t 18) (.c (.n .i64 1))),
 (none, .pk 20 (.t 16) (.c (.b true)) (.t 19)),
 (none, .mv 21 (.t 20)),
 (some (21, false), .fa 22 1 (.t 1)),
 (some (21, false), .ld 23 none (.t 22)),
 (some (21, false), .bi 24 .gtr (.t 23) (.c (.n .i64 65535))),
 (none, .pk 25 (.t 21) (.c (.b true)) (.t 24)),
 (none, .mv 26 (.t 25)),
 (some (26, false), .fa 27 0 (.t 1)),
 (some (26, false), .ld 28 none (.t 27)),
 (some (26, false), .fa 29 1 (.t 1)),
 (some (26, false), .ld 30 none (.t 29)),
 (some (26, false), .bi 31 .eql (.t 28) (.t 30)),
 (none, .pk 32 (.t 26) (.c (.b true)) (.t 31)),
 (none, .mv 33 (.t 32)),
 (some (33, false), .fa 34 2 (.t 1)),
 (some (33, false), .ld 35 (some 4) (.t 34)),
 (some (33, false), .ca (some 36) 108 [.t 35]),
 (some (33, false), .un 37 .not (.t 36)),
 (none, .pk 38 (.t 33) (.c (.b true)) (.t 37)),
 (none, .mv 39 (.t 38)),
 (some (39, false), .fa 40 6 (.t 1)),
 (some (39, false), .ld 41 (some 4) (.t 40)),
 (some (39, false), .ca (some 42) 108 [.t 41]),
 (some (39, false), .un 43 .not (.t 42)),
 (none, .pk 44 (.t 39) (.c (.b true)) (.t 43)),
 (none, .mv 45 (.t 44)),
 (some (45, false), .fa 46 10 (.t 1)),
 (some (45, false), .ld 47 none (.t 46)),
 (some (45, false), .bi 48 .lss (.t 47) (.c (.n .i64 1))),
 (none, .pk 49 (.t 45) (.c (.b true)) (.t 48)),
 (none, .mv 50 (.t 49)),
 (some (50, false), .fa 51 10 (.t 1)),
 (some (50, false), .ld 52 none (.t 51)),
 (some (50, false), .bi 53 .gtr (.t 52) (.c (.n .i64 20))),
 (none, .pk 54 (.t 50) (.c (.b true)) (.t 53)),
 (none, .mv 55 (.t 54)),
 (some (55, false), .fa 56 11 (.t 1)),
 (some (55, false), .ld 57 none (.t 56)),
 (some (55, false), .ln 58 (.t 57)),
 (some (55, false), .bi 59 .gtr (.t 58) (.c (.n .i64 4))),
 (none, .pk 60 (.t 55) (.c (.b true)) (.t 59)),
 (none, .kp [1, 60])])
 (.ite (.t 60) (.seq (.rg [(none, .mv 2 (.c (.b false))),
 (none, .kp [2])])
 (.rt))
 (.sk)))
 (.seq (.rg [(none, .bd 61 [.n .i64 0, .n .i64 0] []),
 (none, .al 3 [.n .i64 0, .n .i64 0]),
 (none, .st 2 (.t 3) (.t 61)),
 (none, .kp [1, 3])])
 (.seq (.seq (.rg [(none, .fa 62 11 (.t 1)),
 (none, .ld 63 none (.t 62)),
 (none, .ln 64 (.t 63)),
 (none, .mv 65 (.c (.n .i64 0))),
 (none, .kp [1, 3, 63, 64, 65])])
 (.blk 0 (.lp pc51l0)))
 (.seq (.rg [(none, .iA 114 2 1 (.t 3) (.c (.n .i64 0))),
 (none, .ld 115 none (.t 114)),
 (none, .bi 116 .leq (.t 115) (.c (.n .i64 12))),
 (none, .mv 117 (.t 116)),
 (some (117, true), .iA 118 2 1 (.t 3) (.c (.n .i64 1))),
 (some (117, true), .ld 119 none (.t 118)),
 (some (117, true), .bi 120 .leq (.t 119) (.c (.n .i64 12))),
 (none, .pk 121 (.t 117) (.t 120) (.c (.b false))),
 (none, .mv 2 (.t 121)),
 (none, .kp [2])])
 (.rt)))))
theorem mr51 : MrT Try.prog 51 pc51 [.t 2] 122 := fun hn h => spec_of_run (fn := Try.f51) (by kernel_rfl) rfl (by kernel_rfl) (by kernel_rfl) hn h
theorem mk51 : MkT Try.prog 51 pc51 [.t 2] 122 := mr51.k
theorem mw51 : MwT Try.prog 51 pc51 [.t 2] 122 := mr51.w
-- 69 laws.eqChunkS
def pc69l0 : PC := .seq (.seq (.rg [(none, .mv 11 (.t 5)),
 (none, .mv 12 (.t 0)),
 (none, .ln 13 (.t 12)),
 (none, .bi 14 .lss (.t 11) (.t 13)),
 (none, .kp [0, 1, 5, 14])])
 (.ite (.t 14) (.sk)
 (.ex 0)))
 (.seq (.blk 1 (.seq (.dr [[], [], [0, 1], [0, 1, 2], [], [], [4, 5], [4, 5, 6], [0, 1, 2, 3, 4, 5, 6, 7], [0, 1, 2, 3, 4, 5, 6, 7, 8]]
 (.q 0 (none, .mv 17 (.t 0))
 (.q 1 (none, .mv 18 (.t 5))
 (.q 2 (none, .ia 19 3 (.t 17) (.t 18))
 (.q 3 (none, .ld 20 (some 3) (.t 19))
 (.q 4 (none, .mv 21 (.t 1))
 (.q 5 (none, .mv 22 (.t 5))
 (.q 6 (none, .ia 23 3 (.t 21) (.t 22))
 (.q 7 (none, .ld 24 (some 3) (.t 23))
 (.alt 8 (none, .ca (some 25) 131 [.t 20, .t 24]) [false, false, false, false, false, false, false, false]
 (.q 9 (none, .un 26 .not (.t 25))
 (.done))
 (.stop)))))))))) [0, 1, 5, 26])
 (.ite (.t 26) (.seq (.rg [(none, .mv 4 (.c (.b false))),
 (none, .kp [4])])
 (.rt))
 (.sk))))
 (.rg [(none, .mv 15 (.t 5)),
 (none, .bi 16 .add (.t 15) (.c (.n .i64 1))),
 (none, .mv 5 (.t 16)),
 (none, .kp [0, 1, 5])]))
def pc69 : PC := .seq (.rg [(none, .mv 4 (.c (.b false))),
 (none, .kp [0, 1])])
 (.seq (.seq (.rg [(none, .mv 6 (.t 0)),
 (none, .ln 7 (.t 6)),
 (none, .mv 8 (.t 1)),
 (none, .ln 9 (.t 8)),
 (none, .bi 10 .neq (.t 7) (.t 9)),
 (none, .kp [0, 1, 10])])
 (.ite (.t 10) (.seq (.rg [(none, .mv 4 (.c (.b false))),
 (none, .kp [4])])
 (.rt))
 (.sk)))
 (.seq (.seq (.rg [(none, .mv 5 (.c (.n .i64 0))),
 (none, .kp [0, 1, 5])])
 (.blk 0 (.lp pc69l0)))
 (.seq (.rg [(none, .mv 4 (.c (.b true))),
 (none, .kp [4])])
 (.rt))))
theorem mr69 : MrT Try.prog 69 pc69 [.t 4] 27 := fun hn h => spec_of_run (fn := Try.f69) (by kernel_rfl) rfl (by kernel_rfl) (by kernel_rfl) hn h
theorem mk69 : MkT Try.prog 69 pc69 [.t 4] 27 := mr69.k
theorem mw69 : MwT Try.prog 69 pc69 [.t 4] 27 := mr69.w
-- 71 laws.markChunkS
def pc71l0 : PC := .seq (.seq (.rg [(none, .mv 6 (.t 5)),
 (none, .mv 7 (.t 0)),
 (none, .ln 8 (.t 7)),
 (none, .bi 9 .lss (.t 6) (.t 8)),
 (none, .kp [0, 1, 5, 9])])
 (.ite (.t 9) (.sk)
 (.ex 0)))
 (.seq (.blk 1 (.seq (.rg [(none, .mv 12 (.t 0)),
 (none, .mv 13 (.t 5)),
 (none, .mv 14 (.t 1)),
 (none, .ia 15 3 (.t 12) (.t 13)),
 (none, .fa 16 0 (.t 15)),
 (none, .st 1 (.t 16) (.t 14)),
 (none, .kp [0, 1, 5])])
 (.seq (.rg [(none, .mv 17 (.t 1)),
 (none, .bi 18 .add (.t 17) (.c (.n .i64 1))),
 (none, .mv 1 (.t 18)),
 (none, .kp [0, 1, 5])])
 (.seq (.rg [(none, .mv 19 (.t 0)),
 (none, .mv 20 (.t 5)),
 (none, .mv 21 (.t 1)),
 (none, .ia 22 3 (.t 19) (.t 20)),
 (none, .fa 23 1 (.t 22)),
 (none, .st 1 (.t 23) (.t 21)),
 (none, .kp [0, 1, 5])])
 (.seq (.rg [(none, .mv 24 (.t 1)),
 (none, .bi 25 .add (.t 24) (.c (.n .i64 1))),
 (none, .mv 1 (.t 25)),
 (none, .kp [0, 1, 5])])
 (.seq (.rg [(none, .mv 26 (.t 0)),
 (none, .mv 27 (.t 5)),
 (none, .mv 28 (.t 1)),
 (none, .ca (some 29) 133 [.t 28]),
 (none, .ia 30 3 (.t 26) (.t 27)),
 (none, .fa 31 2 (.t 30)),
 (none, .st 1 (.t 31) (.t 29)),
 (none, .kp [0, 1, 5])])
 (.rg [(none, .mv 32 (.t 1)),
 (none, .bi 33 .add (.t 32) (.c (.n .i64 1))),
 (none, .mv 1 (.t 33)),
 (none, .kp [0, 1, 5])])))))))
 (.rg [(none, .mv 10 (.t 5)),
 (none, .bi 11 .add (.t 10) (.c (.n .i64 1))),
 (none, .mv 5 (.t 11)),
 (none, .kp [0, 1, 5])]))
def pc71 : PC := .seq (.rg [(none, .mv 4 (.c (.n .i64 0))),
 (none, .kp [0, 1])])
 (.seq (.seq (.rg [(none, .mv 5 (.c (.n .i64 0))),
 (none, .kp [0, 1, 5])])
 (.blk 0 (.lp pc71l0)))
 (.seq (.rg [(none, .mv 34 (.t 1)),
 (none, .mv 4 (.t 34)),
 (none, .kp [4])])
 (.rt)))
theorem mr71 : MrT Try.prog 71 pc71 [.t 4] 35 := fun hn h => spec_of_run (fn := Try.f71) (by kernel_rfl) rfl (by kernel_rfl) (by kernel_rfl) hn h
theorem mk71 : MkT Try.prog 71 pc71 [.t 4] 35 := mr71.k
theorem mw71 : MwT Try.prog 71 pc71 [.t 4] 35 := mr71.w
-- 73 laws.szSayS
def pc73l0 : PC := .seq (.seq (.rg [(none, .mv 12 (.t 5)),
 (none, .mv 13 (.t 0)),
 (none, .ln 14 (.t 13)),
 (none, .bi 15 .lss (.t 12) (.t 14)),
 (none, .kp [0, 1, 5, 15])])
 (.ite (.t 15) (.sk)
 (.ex 0)))
 (.seq (.blk 1 (.seq (.rg [(none, .mv 18 (.t 0)),
 (none, .mv 19 (.t 5)),
 (none, .ia 20 4 (.t 18) (.t 19)),
 (none, .ld 21 (some 4) (.t 20)),
 (none, .mv 22 (.t 1)),
 (none, .ca (some 23) 135 [.t 21, .t 22]),
 (none, .mv 1 (.t 23)),
 (none, .kp [0, 1, 5])])
 (.seq (.rg [(none, .mv 24 (.t 1)),
 (none, .bi 25 .lss (.t 24) (.c (.n .i64 0))),
 (none, .kp [0, 1, 5, 25])])
 (.ite (.t 25) (.seq (.rg [(none, .mv 4 (.c (.n .i64 (-1)))),
 (none, .kp [4])])
 (.rt))
 (.sk)))))
 (.rg [(none, .mv 16 (.t 5)),
 (none, .bi 17 .add (.t 16) (.c (.n .i64 1))),
 (none, .mv 5 (.t 17)),
 (none, .kp [0, 1, 5])]))
def pc73 : PC := .seq (.rg [(none, .mv 4 (.c (.n .i64 0))),
 (none, .kp [0, 1])])
 (.seq (.rg [(none, .mv 6 (.t 1)),
 (none, .mv 7 (.t 0)),
 (none, .ln 8 (.t 7)),
 (none, .bi 9 .sub (.t 6) (.t 8)),
 (none, .mv 1 (.t 9)),
 (none, .kp [0, 1])])
 (.seq (.seq (.rg [(none, .mv 10 (.t 1)),
 (none, .bi 11 .lss (.t 10) (.c (.n .i64 0))),
 (none, .kp [0, 1, 11])])
 (.ite (.t 11) (.seq (.rg [(none, .mv 4 (.c (.n .i64 (-1)))),
 (none, .kp [4])])
 (.rt))
 (.sk)))
 (.seq (.seq (.rg [(none, .mv 5 (.c (.n .i64 0))),
 (none, .kp [0, 1, 5])])
 (.blk 0 (.lp pc73l0)))
 (.seq (.rg [(none, .mv 26 (.t 1)),
 (none, .mv 4 (.t 26)),
 (none, .kp [4])])
 (.rt)))))
theorem mr73 : MrT Try.prog 73 pc73 [.t 4] 27 := fun hn h => spec_of_run (fn := Try.f73) (by kernel_rfl) rfl (by kernel_rfl) (by kernel_rfl) hn h
theorem mk73 : MkT Try.prog 73 pc73 [.t 4] 27 := mr73.k
theorem mw73 : MwT Try.prog 73 pc73 [.t 4] 27 := mr73.w
-- 74 spec.TalkValid
def pc74l0 : PC := .seq (.seq (.rg [(none, .mv 42 (.t 5)),
 (none, .fa 43 11 (.t 1)),
 (none, .ld 44 none (.t 43)),
 (none, .ln 45 (.t 44)),
 (none, .bi 46 .lss (.t 42) (.t 45)),
 (none, .kp [1, 3, 4, 5, 46])])
 (.ite (.t 46) (.sk)
 (.ex 0)))
 (.seq (.blk 1 (.seq (.rg [(none, .fa 49 11 (.t 1)),
 (none, .ld 50 none (.t 49)),
 (none, .mv 51 (.t 5)),
 (none, .ia 52 4 (.t 50) (.t 51)),
 (none, .ld 53 (some 4) (.t 52)),
 (none, .al 6 [.b false, .n .i64 0, .b false, .s []]),
 (none, .st 4 (.t 6) (.t 53)),
 (none, .kp [1, 3, 4, 5, 6])])
 (.seq (.seq (.rg [(none, .fa 54 3 (.t 6)),
 (none, .ld 55 none (.t 54)),
 (none, .lS 56 (.t 55)),
 (none, .ca (some 57) 116 [.t 56, .c (.n .i64 1), .c (.n .i64 60)]),
 (none, .un 58 .not (.t 57)),
 (none, .mv 59 (.t 58)),
 (some (59, false), .fa 60 0 (.t 6)),
 (some (59, false), .ld 61 none (.t 60)),
 (some (59, false), .mv 62 (.t 61)),
 (some (62, true), .fa 63 1 (.t 6)),
 (some (62, true), .ld 64 none (.t 63)),
 (some (62, true), .fa 65 6 (.t 1)),
 (some (62, true), .fa 66 2 (.t 65)),
 (some (62, true), .ld 67 none (.t 66)),
 (some (62, true), .bi 68 .sub (.t 67) (.c (.n .i64 1))),
 (some (62, true), .ca (some 69) 116 [.t 64, .c (.n .i64 0), .t 68]),
 (some (62, true), .un 70 .not (.t 69)),
 (some (59, false), .pk 71 (.t 62) (.t 70) (.c (.b false))),
 (none, .pk 72 (.t 59) (.c (.b true)) (.t 71)),
 (none, .mv 73 (.t 72)),
 (some (73, false), .fa 74 0 (.t 6)),
 (some (73, false), .ld 75 none (.t 74)),
 (some (73, false), .un 76 .not (.t 75)),
 (some (73, false), .mv 77 (.t 76)),
 (some (77, true), .fa 78 1 (.t 6)),
 (some (77, true), .ld 79 none (.t 78)),
 (some (77, true), .fa 80 2 (.t 1)),
 (some (77, true), .fa 81 2 (.t 80)),
 (some (77, true), .ld 82 none (.t 81)),
 (some (77, true), .bi 83 .sub (.t 82) (.c (.n .i64 1))),
 (some (77, true), .ca (some 84) 116 [.t 79, .c (.n .i64 0), .t 83]),
 (some (77, true), .un 85 .not (.t 84)),
 (some (73, false), .pk 86 (.t 77) (.t 85) (.c (.b false))),
 (none, .pk 87 (.t 73) (.c (.b true)) (.t 86)),
 (none, .kp [1, 3, 4, 5, 6, 87])])
 (.ite (.t 87) (.seq (.rg [(none, .mv 2 (.c (.b false))),
 (none, .kp [2])])
 (.rt))
 (.sk)))
 (.seq (.rg [(none, .fa 88 0 (.t 6)),
 (none, .ld 89 none (.t 88)),
 (none, .kp [1, 3, 4, 5, 6, 89])])
 (.ite (.t 89) (.rg [(none, .mv 90 (.t 4)),
 (none, .fa 91 3 (.t 6)),
 (none, .ld 92 none (.t 91)),
 (none, .fa 93 10 (.t 1)),
 (none, .ld 94 none (.t 93)),
 (none, .ca (some 95) 77 [.t 92, .t 94]),
 (none, .bi 96 .add (.t 90) (.t 95)),
 (none, .mv 4 (.t 96)),
 (none, .kp [1, 3, 4, 5])])
 (.rg [(none, .mv 97 (.t 3)),
 (none, .fa 98 3 (.t 6)),
 (none, .ld 99 none (.t 98)),
 (none, .fa 100 10 (.t 1)),
 (none, .ld 101 none (.t 100)),
 (none, .ca (some 102) 77 [.t 99, .t 101]),
 (none, .bi 103 .add (.t 97) (.t 102)),
 (none, .mv 3 (.t 103)),
 (none, .kp [1, 3, 4, 5])]))))))
 (.rg [(none, .mv 47 (.t 5)),
 (none, .bi 48 .add (.t 47) (.c (.n .i64 1))),
 (none, .mv 5 (.t 48)),
 (none, .kp [1, 3, 4, 5])]))
def pc74 : PC := .seq (.rg [(none, .bx 1 (.t 0)),
 (none, .mv 2 (.c (.b false))),
 (none, .kp [1])])
 (.seq (.seq (.rg [(none, .fa 7 0 (.t 1)),
 (none, .ld 8 none (.t 7)),
 (none, .ca (some 9) 116 [.t 8, .c (.n .i64 1), .c (.n .i64 65535)]),
 (none, .un 10 .not (.t 9)),
 (none, .mv 11 (.t 10)),
 (some (11, false), .fa 12 1 (.t 1)),
 (some (11, false), .ld 13 none (.t 12)),
 (some (11, false), .ca (some 14) 116 [.t 13, .c (.n .i64 1), .c (.n .i64 65535)]),
 (some (11, false), .un 15 .not (.t 14)),
 (none, .pk 16 (.t 11) (.c (.b true)) (.t 15)),
 (none, .mv 17 (.t 16)),
 (some (17, false), .fa 18 0 (.t 1)),
 (some (17, false), .ld 19 none (.t 18)),
 (some (17, false), .fa 20 1 (.t 1)),
 (some (17, false), .ld 21 none (.t 20)),
 (some (17, false), .bi 22 .eql (.t 19) (.t 21)),
 (none, .pk 23 (.t 17) (.c (.b true)) (.t 22)),
 (none, .mv 24 (.t 23)),
 (some (24, false), .fa 25 2 (.t 1)),
 (some (24, false), .ld 26 (some 4) (.t 25)),
 (some (24, false), .ca (some 27) 136 [.t 26]),
 (some (24, false), .un 28 .not (.t 27)),
 (none, .pk 29 (.t 24) (.c (.b true)) (.t 28)),
 (none, .mv 30 (.t 29)),
 (some (30, false), .fa 31 6 (.t 1)),
 (some (30, false), .ld 32 (some 4) (.t 31)),
 (some (30, false), .ca (some 33) 136 [.t 32]),
 (some (30, false), .un 34 .not (.t 33)),
 (none, .pk 35 (.t 30) (.c (.b true)) (.t 34)),
 (none, .mv 36 (.t 35)),
 (some (36, false), .fa 37 10 (.t 1)),
 (some (36, false), .ld 38 none (.t 37)),
 (some (36, false), .ca (some 39) 116 [.t 38, .c (.n .i64 1), .c (.n .i64 20)]),
 (some (36, false), .un 40 .not (.t 39)),
 (none, .pk 41 (.t 36) (.c (.b true)) (.t 40)),
 (none, .kp [1, 41])])
 (.ite (.t 41) (.seq (.rg [(none, .mv 2 (.c (.b false))),
 (none, .kp [2])])
 (.rt))
 (.sk)))
 (.seq (.rg [(none, .mv 3 (.c (.n .i64 0))),
 (none, .kp [1, 3])])
 (.seq (.rg [(none, .mv 4 (.c (.n .i64 0))),
 (none, .kp [1, 3, 4])])
 (.seq (.seq (.rg [(none, .mv 5 (.c (.n .i64 0))),
 (none, .kp [1, 3, 4, 5])])
 (.blk 0 (.lp pc74l0)))
 (.seq (.rg [(none, .fa 104 11 (.t 1)),
 (none, .ld 105 none (.t 104)),
 (none, .ln 106 (.t 105)),
 (none, .bi 107 .leq (.t 106) (.c (.n .i64 4))),
 (none, .mv 108 (.t 107)),
 (some (108, true), .mv 109 (.t 3)),
 (some (108, true), .bi 110 .leq (.t 109) (.c (.n .i64 12))),
 (none, .pk 111 (.t 108) (.t 110) (.c (.b false))),
 (none, .mv 112 (.t 111)),
 (some (112, true), .mv 113 (.t 4)),
 (some (112, true), .bi 114 .leq (.t 113) (.c (.n .i64 12))),
 (none, .pk 115 (.t 112) (.t 114) (.c (.b false))),
 (none, .mv 2 (.t 115)),
 (none, .kp [2])])
 (.rt))))))
theorem mr74 : MrT Try.prog 74 pc74 [.t 2] 116 := fun hn h => spec_of_run (fn := Try.f74) (by kernel_rfl) rfl (by kernel_rfl) (by kernel_rfl) hn h
theorem mk74 : MkT Try.prog 74 pc74 [.t 2] 116 := mr74.k
theorem mw74 : MwT Try.prog 74 pc74 [.t 2] 116 := mr74.w
-- 75 spec.l41Hello
def pc75 : PC := .seq (.rg [(none, .bx 1 (.t 0)),
 (none, .mv 2 (.c .nil)),
 (none, .kp [1])])
 (.seq (.rg [(none, .fa 9 2 (.t 1)),
 (none, .ld 10 (some 4) (.t 9)),
 (none, .ca (some 11) 137 [.t 10, .c (.b false)]),
 (none, .mv 8 (.t 11)),
 (none, .ex 12 (.t 8) 0),
 (none, .ex 13 (.t 8) 1),
 (none, .al 3 [.n .i64 0, .n .i64 0, .s []]),
 (none, .st 3 (.t 3) (.t 12)),
 (none, .mv 4 (.t 13)),
 (none, .kp [1, 3])])
 (.seq (.rg [(none, .fa 15 6 (.t 1)),
 (none, .ld 16 (some 4) (.t 15)),
 (none, .ca (some 17) 137 [.t 16, .c (.b true)]),
 (none, .mv 14 (.t 17)),
 (none, .ex 18 (.t 14) 0),
 (none, .ex 19 (.t 14) 1),
 (none, .al 5 [.n .i64 0, .n .i64 0, .s []]),
 (none, .st 3 (.t 5) (.t 18)),
 (none, .mv 6 (.t 19)),
 (none, .kp [1, 3, 5])])
 (.seq (.rg [(none, .ld 20 (some 12) (.t 1)),
 (none, .ld 21 (some 3) (.t 3)),
 (none, .bs 22 3 1 [.n .i64 0, .n .i64 0, .s []] [(0, .t 21)]),
 (none, .ca (some 23) 80 [.t 20, .c (.b false), .t 22]),
 (none, .al 7 [.n .i64 0, .n .i64 0, .n .i64 0, .nil]),
 (none, .st 4 (.t 7) (.t 23)),
 (none, .kp [1, 5, 7])])
 (.seq (.rg [(none, .fa 24 2 (.t 7)),
 (none, .st 1 (.t 24) (.c (.n .i64 0))),
 (none, .kp [1, 5, 7])])
 (.seq (.dr [[], [], [], [2], [1, 2, 3], [], [1, 2, 3, 4, 5], [], [1, 2, 3, 4, 5, 6, 7], [0, 1, 2, 3, 4, 5, 6, 7, 8], [0, 1, 2, 3, 4, 5, 6, 7, 8, 9]]
 (.q 0 (none, .ld 25 (some 4) (.t 7))
 (.q 1 (none, .ld 26 (some 12) (.t 1))
 (.q 2 (none, .ld 27 (some 3) (.t 5))
 (.q 5 (none, .ld 30 (some 12) (.t 1))
 (.q 7 (none, .ld 32 (some 12) (.t 1))
 (.alt 3 (none, .bs 28 3 1 [.n .i64 0, .n .i64 0, .s []] [(0, .t 27)]) [true, true, false, true, true]
 (.alt 4 (none, .ca (some 29) 80 [.t 26, .c (.b true), .t 28]) [true, false, false, true, true]
 (.alt 6 (none, .ca (some 31) 81 [.t 30, .c (.b false), .c (.n .i64 10)]) [true, false, false, false, true]
 (.alt 8 (none, .ca (some 33) 81 [.t 32, .c (.b true), .c (.n .i64 11)]) [true, false, false, false, false]
 (.alt 9 (none, .bs 34 4 4 [.n .i64 0, .n .i64 0, .n .i64 0, .nil] [(0, .t 25), (1, .t 29), (2, .t 31), (3, .t 33)]) [false, false, false, false, false]
 (.q 10 (none, .mv 2 (.t 34))
 (.done))
 (.stop))
 (.stop))
 (.stop))
 (.stop))
 (.stop))))))) [2])
 (.rt))))))
theorem mr75 : MrT Try.prog 75 pc75 [.t 2] 35 := fun hn h => spec_of_run (fn := Try.f75) (by kernel_rfl) rfl (by kernel_rfl) (by kernel_rfl) hn h
theorem mk75 : MkT Try.prog 75 pc75 [.t 2] 35 := mr75.k
theorem mw75 : MwT Try.prog 75 pc75 [.t 2] 35 := mr75.w
-- 76 spec.l41Parts
def pc76l0 : PC := .seq (.seq (.rg [(none, .mv 40 (.t 10)),
 (none, .fa 41 3 (.t 8)),
 (none, .ld 42 none (.t 41)),
 (none, .lS 43 (.t 42)),
 (none, .bi 44 .lss (.t 40) (.t 43)),
 (none, .mv 45 (.t 44)),
 (some (45, true), .fa 46 0 (.t 8)),
 (some (45, true), .ld 47 none (.t 46)),
 (some (45, true), .mv 48 (.t 1)),
 (some (45, true), .bb 49 false (.t 47) (.t 48)),
 (none, .pk 50 (.t 45) (.t 49) (.c (.b false))),
 (none, .kp [1, 2, 5, 6, 7, 8, 9, 10, 50])])
 (.ite (.t 50) (.sk)
 (.ex 2)))
 (.seq (.blk 3 (.seq (.rg [(none, .mv 55 (.t 10)),
 (none, .fa 56 10 (.t 2)),
 (none, .ld 57 none (.t 56)),
 (none, .bi 58 .add (.t 55) (.t 57)),
 (none, .fa 59 3 (.t 8)),
 (none, .ld 60 none (.t 59)),
 (none, .lS 61 (.t 60)),
 (none, .mn 62 (.t 58) (.t 61)),
 (none, .mv 11 (.t 62)),
 (none, .kp [1, 2, 5, 6, 7, 8, 9, 10, 11])])
 (.seq (.dr [[], [], [1], [0, 1, 2], [], [4], [], [], [7], [], [9], [], [], [9, 10, 11, 12], [0, 1, 2, 3, 4, 5, 6, 7, 8, 9, 10, 11, 12, 13], [], [0, 1, 2, 3, 4, 5, 6, 7, 8, 9, 10, 11, 12, 13, 14, 15]]
 (.q 0 (none, .mv 63 (.t 5))
 (.q 1 (none, .mv 64 (.t 6))
 (.q 2 (none, .ln 65 (.t 64))
 (.q 4 (none, .fa 67 1 (.t 8))
 (.q 5 (none, .ld 68 none (.t 67))
 (.q 6 (none, .mv 69 (.t 9))
 (.q 7 (none, .fa 70 2 (.t 8))
 (.q 8 (none, .ld 71 none (.t 70))
 (.q 9 (none, .fa 72 3 (.t 8))
 (.q 10 (none, .ld 73 none (.t 72))
 (.q 11 (none, .mv 74 (.t 10))
 (.q 12 (none, .mv 75 (.t 11))
 (.q 13 (none, .sS 76 (.t 73) (some (.t 74)) (some (.t 75)))
 (.alt 3 (none, .ca (some 66) 139 [.t 63, .t 65]) [false, false, false, true, true, true, true, true, true, true, true, true, true]
 (.q 14 (none, .bd 77 [.n .i64 0, .n .i64 0, .n .i64 0, .b false, .b false, .b false, .s []] [(0, 1, .t 66), (1, 1, .t 68), (2, 1, .t 69), (5, 1, .t 71), (6, 1, .t 76)])
 (.alt 15 (none, .al 12 [.n .i64 0, .n .i64 0, .n .i64 0, .b false, .b false, .b false, .s []]) [true, true, true, true, true, true, true, true, true, true, true, true, true, true]
 (.alt 16 (none, .st 7 (.t 12) (.t 77)) [false, false, false, false, false, false, false, false, false, false, false, false, false, false]
 (.done)
 (.stop))
 (.stop)))
 (.alt 15 (none, .al 12 [.n .i64 0, .n .i64 0, .n .i64 0, .b false, .b false, .b false, .s []]) [true, true, true, true, true, true, true, true, true, true, true, true, true]
 (.alt 3 (none, .ca (some 66) 139 [.t 63, .t 65]) [false, false, false, true, true, true, true, true, true, true, true, true, true]
 (.q 14 (none, .bd 77 [.n .i64 0, .n .i64 0, .n .i64 0, .b false, .b false, .b false, .s []] [(0, 1, .t 66), (1, 1, .t 68), (2, 1, .t 69), (5, 1, .t 71), (6, 1, .t 76)])
 (.alt 16 (none, .st 7 (.t 12) (.t 77)) [false, false, false, false, false, false, false, false, false, false, false, false, false, false]
 (.done)
 (.stop)))
 (.stop))
 (.stop)))))))))))))))) [1, 2, 5, 6, 7, 8, 9, 10, 11, 12])
 (.seq (.rg [(none, .mv 78 (.t 10)),
 (none, .bi 79 .eql (.t 78) (.c (.n .i64 0))),
 (none, .fa 80 3 (.t 12)),
 (none, .st 1 (.t 80) (.t 79)),
 (none, .kp [1, 2, 5, 6, 7, 8, 9, 10, 11, 12])])
 (.seq (.rg [(none, .mv 81 (.t 11)),
 (none, .fa 82 3 (.t 8)),
 (none, .ld 83 none (.t 82)),
 (none, .lS 84 (.t 83)),
 (none, .bi 85 .eql (.t 81) (.t 84)),
 (none, .fa 86 4 (.t 12)),
 (none, .st 1 (.t 86) (.t 85)),
 (none, .kp [1, 2, 5, 6, 7, 8, 9, 10, 12])])
 (.rg [(none, .mv 87 (.t 6)),
 (none, .ld 88 (some 7) (.t 12)),
 (none, .bs 89 7 1 [.n .i64 0, .n .i64 0, .n .i64 0, .b false, .b false, .b false, .s []] [(0, .t 88)]),
 (none, .ap 90 7 48 (.t 87) (.t 89)),
 (none, .mv 6 (.t 90)),
 (none, .kp [1, 2, 5, 6, 7, 8, 9, 10])]))))))
 (.rg [(none, .mv 51 (.t 10)),
 (none, .fa 52 10 (.t 2)),
 (none, .ld 53 none (.t 52)),
 (none, .bi 54 .add (.t 51) (.t 53)),
 (none, .mv 10 (.t 54)),
 (none, .kp [1, 2, 5, 6, 7, 8, 9, 10])]))
def pc76l1 : PC := .seq (.seq (.rg [(none, .mv 21 (.t 7)),
 (none, .fa 22 11 (.t 2)),
 (none, .ld 23 none (.t 22)),
 (none, .ln 24 (.t 23)),
 (none, .bi 25 .lss (.t 21) (.t 24)),
 (none, .kp [1, 2, 5, 6, 7, 25])])
 (.ite (.t 25) (.sk)
 (.ex 0)))
 (.seq (.blk 1 (.seq (.rg [(none, .fa 28 11 (.t 2)),
 (none, .ld 29 none (.t 28)),
 (none, .mv 30 (.t 7)),
 (none, .ia 31 4 (.t 29) (.t 30)),
 (none, .ld 32 (some 4) (.t 31)),
 (none, .al 8 [.b false, .n .i64 0, .b false, .s []]),
 (none, .st 4 (.t 8) (.t 32)),
 (none, .kp [1, 2, 5, 6, 7, 8])])
 (.seq (.rg [(none, .mv 9 (.c (.n .i64 0))),
 (none, .kp [1, 2, 5, 6, 7, 8, 9])])
 (.seq (.seq (.rg [(none, .fa 33 2 (.t 8)),
 (none, .ld 34 none (.t 33)),
 (none, .un 35 .not (.t 34)),
 (none, .kp [1, 2, 5, 6, 7, 8, 9, 35])])
 (.ite (.t 35) (.rg [(none, .mv 36 (.t 6)),
 (none, .fa 37 1 (.t 8)),
 (none, .ld 38 none (.t 37)),
 (none, .ca (some 39) 138 [.t 36, .t 38]),
 (none, .mv 9 (.t 39)),
 (none, .kp [1, 2, 5, 6, 7, 8, 9])])
 (.sk)))
 (.seq (.rg [(none, .mv 10 (.c (.n .i64 0))),
 (none, .kp [1, 2, 5, 6, 7, 8, 9, 10])])
 (.blk 2 (.lp pc76l0)))))))
 (.rg [(none, .mv 26 (.t 7)),
 (none, .bi 27 .add (.t 26) (.c (.n .i64 1))),
 (none, .mv 7 (.t 27)),
 (none, .kp [1, 2, 5, 6, 7])]))
def pc76 : PC := .seq (.rg [(none, .bx 2 (.t 0)),
 (none, .mv 4 (.c .nil)),
 (none, .kp [1, 2])])
 (.seq (.rg [(none, .fa 13 2 (.t 2)),
 (none, .fa 14 3 (.t 13)),
 (none, .ld 15 none (.t 14)),
 (none, .mv 5 (.t 15)),
 (none, .kp [1, 2, 5])])
 (.seq (.seq (.rg [(none, .mv 16 (.t 1)),
 (none, .kp [1, 2, 5, 16])])
 (.ite (.t 16) (.rg [(none, .fa 17 6 (.t 2)),
 (none, .fa 18 3 (.t 17)),
 (none, .ld 19 none (.t 18)),
 (none, .mv 5 (.t 19)),
 (none, .kp [1, 2, 5])])
 (.sk)))
 (.seq (.rg [(none, .bs 20 7 0 [.n .i64 0, .n .i64 0, .n .i64 0, .b false, .b false, .b false, .s []] []),
 (none, .mv 6 (.t 20)),
 (none, .kp [1, 2, 5, 6])])
 (.seq (.seq (.rg [(none, .mv 7 (.c (.n .i64 0))),
 (none, .kp [1, 2, 5, 6, 7])])
 (.blk 0 (.lp pc76l1)))
 (.seq (.rg [(none, .mv 91 (.t 6)),
 (none, .mv 4 (.t 91)),
 (none, .kp [4])])
 (.rt))))))
theorem mr76 : MrT Try.prog 76 pc76 [.t 4] 92 := fun hn h => spec_of_run (fn := Try.f76) (by kernel_rfl) rfl (by kernel_rfl) (by kernel_rfl) hn h
theorem mk76 : MkT Try.prog 76 pc76 [.t 4] 92 := mr76.k
theorem mw76 : MwT Try.prog 76 pc76 [.t 4] 92 := mr76.w
-- 77 spec.l41Many
def pc77 : PC := .seq (.rg [(none, .mv 4 (.c (.n .i64 0))),
 (none, .kp [0, 1])])
 (.seq (.rg [(none, .mv 5 (.t 0)),
 (none, .lS 6 (.t 5)),
 (none, .mv 7 (.t 1)),
 (none, .bi 8 .add (.t 6) (.t 7)),
 (none, .bi 9 .sub (.t 8) (.c (.n .i64 1))),
 (none, .mv 10 (.t 1)),
 (none, .bi 11 .quo (.t 9) (.t 10)),
 (none, .mv 4 (.t 11)),
 (none, .kp [4])])
 (.rt))
theorem mr77 : MrT Try.prog 77 pc77 [.t 4] 12 := fun hn h => spec_of_run (fn := Try.f77) (by kernel_rfl) rfl (by kernel_rfl) (by kernel_rfl) hn h
theorem mk77 : MkT Try.prog 77 pc77 [.t 4] 12 := mr77.k
theorem mw77 : MwT Try.prog 77 pc77 [.t 4] 12 := mr77.w
-- 78 spec.DataPut
def pc78 : PC := .seq (.rg [(none, .bx 1 (.t 0)),
 (none, .al 2 [.n .i64 0, .n .i64 0, .s []]),
 (none, .mv 3 (.c (.b false))),
 (none, .kp [1, 2])])
 (.seq (.seq (.rg [(none, .ld 5 (some 7) (.t 1)),
 (none, .ca (some 6) 140 [.t 5]),
 (none, .un 7 .not (.t 6)),
 (none, .kp [1, 2, 7])])
 (.ite (.t 7) (.seq (.rg [(none, .bd 8 [.n .i64 0, .n .i64 0, .s []] []),
 (none, .st 3 (.t 2) (.t 8)),
 (none, .mv 3 (.c (.b false))),
 (none, .kp [2, 3])])
 (.rt))
 (.sk)))
 (.seq (.dr [[], [0], [0, 1], [], [3], [0, 1, 2, 3, 4], [0, 1, 2, 3, 4, 5], [], [7], [0, 1, 2, 3, 4, 5, 7, 8], [0, 1, 2, 3, 4, 5, 6, 7, 8, 9], [0, 1, 2, 3, 4, 5, 6, 7, 8, 9, 10]]
 (.q 0 (none, .fa 9 4 (.t 1))
 (.q 1 (none, .ld 10 none (.t 9))
 (.q 3 (none, .fa 12 3 (.t 1))
 (.q 4 (none, .ld 13 none (.t 12))
 (.q 7 (none, .fa 16 5 (.t 1))
 (.q 8 (none, .ld 17 none (.t 16))
 (.alt 2 (none, .ca (some 11) 141 [.t 10, .c (.n .i64 1)]) [false, false, true, true, true, true]
 (.alt 5 (none, .ca (some 14) 141 [.t 13, .c (.n .i64 2)]) [false, false, false, false, true, true]
 (.q 6 (none, .bi 15 .add (.t 11) (.t 14))
 (.alt 9 (none, .ca (some 18) 141 [.t 17, .c (.n .i64 4)]) [false, false, false, false, false, false, true]
 (.q 10 (none, .bi 19 .add (.t 15) (.t 18))
 (.q 11 (none, .mv 4 (.t 19))
 (.done)))
 (.stop)))
 (.stop))
 (.stop)))))))) [1, 2, 4])
 (.seq (.dr [[], [], [1], [1, 2], [], [4], [1, 2, 3, 4, 5], [1, 2, 3, 4, 5, 6], [], [8], [1, 2, 3, 4, 5, 6, 8, 9], [1, 2, 3, 4, 5, 6, 7, 8, 9, 10], [], [12], [1, 2, 3, 4, 5, 6, 7, 8, 9, 10, 11, 12, 13], [0, 1, 2, 3, 4, 5, 6, 7, 8, 9, 10, 11, 12, 13, 14], [0, 1, 2, 3, 4, 5, 6, 7, 8, 9, 10, 11, 12, 13, 14, 15], [0, 1, 2, 3, 4, 5, 6, 7, 8, 9, 10, 11, 12, 13, 14, 15, 16]]
 (.q 0 (none, .mv 20 (.t 4))
 (.q 1 (none, .fa 21 0 (.t 1))
 (.q 2 (none, .ld 22 none (.t 21))
 (.q 4 (none, .fa 24 1 (.t 1))
 (.q 5 (none, .ld 25 none (.t 24))
 (.q 8 (none, .fa 28 2 (.t 1))
 (.q 9 (none, .ld 29 none (.t 28))
 (.q 12 (none, .fa 32 6 (.t 1))
 (.q 13 (none, .ld 33 none (.t 32))
 (.alt 3 (none, .ca (some 23) 142 [.t 22]) [true, false, false, true, true, true, true, true, true]
 (.alt 6 (none, .ca (some 26) 142 [.t 25]) [true, false, false, false, false, true, true, true, true]
 (.q 7 (none, .bi 27 .add (.t 23) (.t 26))
 (.alt 10 (none, .ca (some 30) 142 [.t 29]) [true, false, false, false, false, false, false, true, true, true]
 (.q 11 (none, .bi 31 .add (.t 27) (.t 30))
 (.q 14 (none, .bi 34 .add (.t 31) (.t 33))
 (.q 15 (none, .bd 35 [.n .i64 0, .n .i64 0, .s []] [(0, 1, .c (.n .i64 0)), (1, 1, .t 20), (2, 1, .t 34)])
 (.alt 16 (none, .st 3 (.t 2) (.t 35)) [false, false, false, false, false, false, false, false, false, false, false, false, false]
 (.q 17 (none, .mv 3 (.c (.b true)))
 (.done))
 (.stop)))))
 (.stop)))
 (.stop))
 (.stop))))))))))) [2, 3])
 (.rt))))
theorem mr78 : MrT Try.prog 78 pc78 [.c 2 (some 3), .t 3] 36 := fun hn h => spec_of_run (fn := Try.f78) (by kernel_rfl) rfl (by kernel_rfl) (by kernel_rfl) hn h
theorem mk78 : MkT Try.prog 78 pc78 [.c 2 (some 3), .t 3] 36 := mr78.k
theorem mw78 : MwT Try.prog 78 pc78 [.c 2 (some 3), .t 3] 36 := mr78.w
-- 79 spec.SackPut
def pc79l0 : PC := .seq (.seq (.rg [(none, .mv 13 (.t 5)),
 (none, .fa 14 1 (.t 1)),
 (none, .ld 15 none (.t 14)),
 (none, .ln 16 (.t 15)),
 (none, .bi 17 .lss (.t 13) (.t 16)),
 (none, .kp [1, 2, 4, 5, 17])])
 (.ite (.t 17) (.sk)
 (.ex 0)))
 (.seq (.blk 1 (.dr [[], [], [1], [], [1, 2, 3], [1, 2, 3, 4], [1, 2, 3, 4, 5], [1, 2, 3, 4, 5, 6], [0, 1, 2, 3, 4, 5, 6, 7], [], [9], [], [9, 10, 11], [9, 10, 11, 12], [9, 10, 11, 12, 13], [1, 2, 3, 4, 5, 6, 7, 9, 10, 11, 12, 13, 14], [0, 1, 2, 3, 4, 5, 6, 7, 8, 9, 10, 11, 12, 13, 14, 15], [0, 1, 2, 3, 4, 5, 6, 7, 8, 9, 10, 11, 12, 13, 14, 15, 16]]
 (.q 0 (none, .mv 20 (.t 4))
 (.q 1 (none, .fa 21 1 (.t 1))
 (.q 2 (none, .ld 22 none (.t 21))
 (.q 3 (none, .mv 23 (.t 5))
 (.q 4 (none, .ia 24 2 (.t 22) (.t 23))
 (.q 5 (none, .fa 25 0 (.t 24))
 (.q 6 (none, .ld 26 none (.t 25))
 (.q 9 (none, .fa 29 1 (.t 1))
 (.q 10 (none, .ld 30 none (.t 29))
 (.q 11 (none, .mv 31 (.t 5))
 (.q 12 (none, .ia 32 2 (.t 30) (.t 31))
 (.q 13 (none, .fa 33 1 (.t 32))
 (.q 14 (none, .ld 34 none (.t 33))
 (.alt 7 (none, .ca (some 27) 142 [.t 26]) [true, false, false, false, false, false, false, true, true, true, true, true, true]
 (.q 8 (none, .bi 28 .add (.t 20) (.t 27))
 (.alt 15 (none, .ca (some 35) 142 [.t 34]) [true, false, false, false, false, false, false, false, false, false, false, false, false, true]
 (.q 16 (none, .bi 36 .add (.t 28) (.t 35))
 (.alt 17 (none, .mv 4 (.t 36)) [false, false, false, false, false, false, false, false, false, false, false, false, false, false, false]
 (.done)
 (.stop)))
 (.stop)))
 (.stop))))))))))))))) [1, 2, 4, 5]))
 (.rg [(none, .mv 18 (.t 5)),
 (none, .bi 19 .add (.t 18) (.c (.n .i64 1))),
 (none, .mv 5 (.t 19)),
 (none, .kp [1, 2, 4, 5])]))
def pc79 : PC := .seq (.rg [(none, .bx 1 (.t 0)),
 (none, .al 2 [.n .i64 0, .n .i64 0, .s []]),
 (none, .mv 3 (.c (.b false))),
 (none, .kp [1, 2])])
 (.seq (.seq (.rg [(none, .ld 6 (some 2) (.t 1)),
 (none, .ca (some 7) 143 [.t 6]),
 (none, .un 8 .not (.t 7)),
 (none, .kp [1, 2, 8])])
 (.ite (.t 8) (.seq (.rg [(none, .bd 9 [.n .i64 0, .n .i64 0, .s []] []),
 (none, .st 3 (.t 2) (.t 9)),
 (none, .mv 3 (.c (.b false))),
 (none, .kp [2, 3])])
 (.rt))
 (.sk)))
 (.seq (.rg [(none, .fa 10 0 (.t 1)),
 (none, .ld 11 none (.t 10)),
 (none, .ca (some 12) 142 [.t 11]),
 (none, .mv 4 (.t 12)),
 (none, .kp [1, 2, 4])])
 (.seq (.seq (.rg [(none, .mv 5 (.c (.n .i64 0))),
 (none, .kp [1, 2, 4, 5])])
 (.blk 0 (.lp pc79l0)))
 (.seq (.rg [(none, .mv 37 (.t 4)),
 (none, .bd 38 [.n .i64 0, .n .i64 0, .s []] [(0, 1, .c (.n .i64 3)), (2, 1, .t 37)]),
 (none, .st 3 (.t 2) (.t 38)),
 (none, .mv 3 (.c (.b true))),
 (none, .kp [2, 3])])
 (.rt)))))
theorem mr79 : MrT Try.prog 79 pc79 [.c 2 (some 3), .t 3] 39 := fun hn h => spec_of_run (fn := Try.f79) (by kernel_rfl) rfl (by kernel_rfl) (by kernel_rfl) hn h
theorem mk79 : MkT Try.prog 79 pc79 [.c 2 (some 3), .t 3] 39 := mr79.k
theorem mw79 : MwT Try.prog 79 pc79 [.c 2 (some 3), .t 3] 39 := mr79.w
-- 80 spec.l41Packet
def pc80 : PC := .seq (.rg [(none, .bx 3 (.t 0)),
 (none, .al 6 [.n .i64 0, .n .i64 0, .n .i64 0, .nil]),
 (none, .kp [1, 2, 3, 6])])
 (.seq (.seq (.rg [(none, .mv 7 (.t 1)),
 (none, .kp [2, 3, 6, 7])])
 (.ite (.t 7) (.seq (.rg [(none, .fa 8 1 (.t 3)),
 (none, .ld 9 none (.t 8)),
 (none, .fa 10 0 (.t 3)),
 (none, .ld 11 none (.t 10)),
 (none, .fa 12 2 (.t 3)),
 (none, .fa 13 0 (.t 12)),
 (none, .ld 14 none (.t 13)),
 (none, .mv 15 (.t 2)),
 (none, .bd 16 [.n .i64 0, .n .i64 0, .n .i64 0, .nil] [(0, 1, .t 9), (1, 1, .t 11), (2, 1, .t 14), (3, 1, .t 15)]),
 (none, .st 4 (.t 6) (.t 16)),
 (none, .kp [6])])
 (.rt))
 (.sk)))
 (.seq (.rg [(none, .fa 17 0 (.t 3)),
 (none, .ld 18 none (.t 17)),
 (none, .fa 19 1 (.t 3)),
 (none, .ld 20 none (.t 19)),
 (none, .fa 21 6 (.t 3)),
 (none, .fa 22 0 (.t 21)),
 (none, .ld 23 none (.t 22)),
 (none, .mv 24 (.t 2)),
 (none, .bd 25 [.n .i64 0, .n .i64 0, .n .i64 0, .nil] [(0, 1, .t 18), (1, 1, .t 20), (2, 1, .t 23), (3, 1, .t 24)]),
 (none, .st 4 (.t 6) (.t 25)),
 (none, .kp [6])])
 (.rt)))
theorem mr80 : MrT Try.prog 80 pc80 [.c 6 (some 4)] 26 := fun hn h => spec_of_run (fn := Try.f80) (by kernel_rfl) rfl (by kernel_rfl) (by kernel_rfl) hn h
theorem mk80 : MkT Try.prog 80 pc80 [.c 6 (some 4)] 26 := mr80.k
theorem mw80 : MwT Try.prog 80 pc80 [.c 6 (some 4)] 26 := mr80.w
-- 81 spec.l41One
def pc81 : PC := .seq (.rg [(none, .bx 3 (.t 0)),
 (none, .al 6 [.n .i64 0, .n .i64 0, .n .i64 0, .nil]),
 (none, .kp [1, 2, 3, 6])])
 (.seq (.rg [(none, .ld 7 (some 12) (.t 3)),
 (none, .mv 8 (.t 1)),
 (none, .mv 9 (.t 2)),
 (none, .bd 10 [.n .i64 0, .n .i64 0, .s []] [(0, 1, .t 9)]),
 (none, .bs 11 3 1 [.n .i64 0, .n .i64 0, .s []] [(0, .t 10)]),
 (none, .ca (some 12) 80 [.t 7, .t 8, .t 11]),
 (none, .st 4 (.t 6) (.t 12)),
 (none, .kp [6])])
 (.rt))
theorem mr81 : MrT Try.prog 81 pc81 [.c 6 (some 4)] 13 := fun hn h => spec_of_run (fn := Try.f81) (by kernel_rfl) rfl (by kernel_rfl) (by kernel_rfl) hn h
theorem mk81 : MkT Try.prog 81 pc81 [.c 6 (some 4)] 13 := mr81.k
theorem mw81 : MwT Try.prog 81 pc81 [.c 6 (some 4)] 13 := mr81.w
-- 82 laws.toInit
def pc82 : PC := .seq (.rg [(none, .bx 1 (.t 0)),
 (none, .al 2 [.n .i64 0, .n .i64 0, .n .i64 0, .n .i64 0]),
 (none, .kp [1, 2])])
 (.seq (.rg [(none, .al 3 [.n .i64 0, .n .i64 0, .n .i64 0, .n .i64 0]),
 (none, .kp [1, 2, 3])])
 (.seq (.rg [(none, .fa 4 0 (.t 1)),
 (none, .ld 5 none (.t 4)),
 (none, .fa 6 0 (.t 3)),
 (none, .st 1 (.t 6) (.t 5)),
 (none, .kp [1, 2, 3])])
 (.seq (.rg [(none, .fa 7 1 (.t 1)),
 (none, .ld 8 none (.t 7)),
 (none, .fa 9 1 (.t 3)),
 (none, .st 1 (.t 9) (.t 8)),
 (none, .kp [1, 2, 3])])
 (.seq (.rg [(none, .fa 10 2 (.t 1)),
 (none, .ld 11 none (.t 10)),
 (none, .fa 12 2 (.t 3)),
 (none, .st 1 (.t 12) (.t 11)),
 (none, .kp [1, 2, 3])])
 (.seq (.rg [(none, .fa 13 3 (.t 1)),
 (none, .ld 14 none (.t 13)),
 (none, .fa 15 3 (.t 3)),
 (none, .st 1 (.t 15) (.t 14)),
 (none, .kp [2, 3])])
 (.seq (.rg [(none, .ld 16 (some 4) (.t 3)),
 (none, .st 4 (.t 2) (.t 16)),
 (none, .kp [2])])
 (.rt)))))))
theorem mr82 : MrT Try.prog 82 pc82 [.c 2 (some 4)] 17 := fun hn h => spec_of_run (fn := Try.f82) (by kernel_rfl) rfl (by kernel_rfl) (by kernel_rfl) hn h
theorem mk82 : MkT Try.prog 82 pc82 [.c 2 (some 4)] 17 := mr82.k
theorem mw82 : MwT Try.prog 82 pc82 [.c 2 (some 4)] 17 := mr82.w
-- 83 laws.toSayS
def pc83l0 : PC := .seq (.seq (.rg [(none, .mv 8 (.t 4)),
 (none, .mv 9 (.t 0)),
 (none, .ln 10 (.t 9)),
 (none, .bi 11 .lss (.t 8) (.t 10)),
 (none, .kp [0, 3, 4, 11])])
 (.ite (.t 11) (.sk)
 (.ex 0)))
 (.seq (.blk 1 (.rg [(none, .mv 14 (.t 3)),
 (none, .mv 15 (.t 4)),
 (none, .mv 16 (.t 0)),
 (none, .mv 17 (.t 4)),
 (none, .ia 18 4 (.t 16) (.t 17)),
 (none, .ld 19 (some 4) (.t 18)),
 (none, .ca (some 20) 144 [.t 19]),
 (none, .ia 21 4 (.t 14) (.t 15)),
 (none, .st 4 (.t 21) (.t 20)),
 (none, .kp [0, 3, 4])]))
 (.rg [(none, .mv 12 (.t 4)),
 (none, .bi 13 .add (.t 12) (.c (.n .i64 1))),
 (none, .mv 4 (.t 13)),
 (none, .kp [0, 3, 4])]))
def pc83 : PC := .seq (.rg [(none, .mv 2 (.c .nil)),
 (none, .kp [0])])
 (.seq (.rg [(none, .mv 5 (.t 0)),
 (none, .ln 6 (.t 5)),
 (none, .mk 7 4 40 [.b false, .n .i64 0, .b false, .s []] (.t 6)),
 (none, .mv 3 (.t 7)),
 (none, .kp [0, 3])])
 (.seq (.seq (.rg [(none, .mv 4 (.c (.n .i64 0))),
 (none, .kp [0, 3, 4])])
 (.blk 0 (.lp pc83l0)))
 (.seq (.rg [(none, .mv 22 (.t 3)),
 (none, .mv 2 (.t 22)),
 (none, .kp [2])])
 (.rt))))
theorem mr83 : MrT Try.prog 83 pc83 [.t 2] 23 := fun hn h => spec_of_run (fn := Try.f83) (by kernel_rfl) rfl (by kernel_rfl) (by kernel_rfl) hn h
theorem mk83 : MkT Try.prog 83 pc83 [.t 2] 23 := mr83.k
theorem mw83 : MwT Try.prog 83 pc83 [.t 2] 23 := mr83.w
-- 84 impl.TalkPackets$1
def pc84 : PC := .seq (.rg [(none, .bx 6 (.t 1)),
 (none, .kp [0, 2, 3, 4, 6])])
 (.seq (.rg [(none, .fa 9 0 (.t 3)),
 (none, .ld 10 none (.t 9)),
 (none, .fa 11 1 (.t 3)),
 (none, .ld 12 none (.t 11)),
 (none, .mv 13 (.t 2)),
 (none, .ld 14 (some 3) (.t 6)),
 (none, .bs 15 3 1 [.n .i64 0, .n .i64 0, .s []] [(0, .t 14)]),
 (none, .bd 16 [.n .i64 0, .n .i64 0, .n .i64 0, .nil] [(0, 1, .t 10), (1, 1, .t 12), (2, 1, .t 13), (3, 1, .t 15)]),
 (none, .al 8 [.n .i64 0, .n .i64 0, .n .i64 0, .nil]),
 (none, .st 4 (.t 8) (.t 16)),
 (none, .kp [0, 3, 4, 8])])
 (.seq (.seq (.rg [(none, .mv 17 (.t 0)),
 (none, .kp [3, 4, 8, 17])])
 (.ite (.t 17) (.dr [[], [0], [], [2], [0, 1], [0, 1, 4], [0, 1, 2, 3, 4, 5], [0, 1, 2, 3, 4, 5, 6]]
 (.q 0 (none, .fa 18 1 (.t 3))
 (.q 1 (none, .ld 19 none (.t 18))
 (.q 2 (none, .fa 20 0 (.t 3))
 (.q 3 (none, .ld 21 none (.t 20))
 (.q 4 (none, .fa 22 0 (.t 8))
 (.alt 5 (none, .st 1 (.t 22) (.t 19)) [false, false, true, true, false]
 (.q 6 (none, .fa 23 1 (.t 8))
 (.alt 7 (none, .st 1 (.t 23) (.t 21)) [false, false, false, false, false, false]
 (.done)
 (.stop)))
 (.stop))))))) [4, 8])
 (.sk)))
 (.rg [(none, .ld 24 none (.t 4)),
 (none, .ld 25 (some 4) (.t 8)),
 (none, .bs 26 4 1 [.n .i64 0, .n .i64 0, .n .i64 0, .nil] [(0, .t 25)]),
 (none, .ap 27 4 48 (.t 24) (.t 26)),
 (none, .st 1 (.t 4) (.t 27)),
 (none, .kp [])])))
theorem mr84 : MrT Try.prog 84 pc84 [] 28 := fun hn h => spec_of_run (fn := Try.f84) (by kernel_rfl) rfl (by kernel_rfl) (by kernel_rfl) hn h
theorem mk84 : MkT Try.prog 84 pc84 [] 28 := mr84.k
theorem mw84 : MwT Try.prog 84 pc84 [] 28 := mr84.w
-- 85 impl.TalkPackets$2
def pc85 : PC := .seq (.rg [(none, .bx 5 (.t 1)),
 (none, .kp [0, 2, 3, 5])])
 (.seq (.rg [(none, .mv 6 (.t 0)),
 (none, .kp [2, 3, 5, 6])])
 (.ite (.t 6) (.rg [(none, .ld 7 none (.t 2)),
 (none, .ld 8 (some 3) (.t 5)),
 (none, .fa 9 2 (.t 3)),
 (none, .fa 10 0 (.t 9)),
 (none, .ld 11 none (.t 10)),
 (none, .cf (some 12) 84 (.t 7) [.c (.b true), .t 8, .t 11]),
 (none, .kp [])])
 (.rg [(none, .ld 13 none (.t 2)),
 (none, .ld 14 (some 3) (.t 5)),
 (none, .fa 15 6 (.t 3)),
 (none, .fa 16 0 (.t 15)),
 (none, .ld 17 none (.t 16)),
 (none, .cf (some 18) 84 (.t 13) [.c (.b false), .t 14, .t 17]),
 (none, .kp [])])))
theorem mr85 : MrT Try.prog 85 pc85 [] 19 := fun hn h => spec_of_run (fn := Try.f85) (by kernel_rfl) rfl (by kernel_rfl) (by kernel_rfl) hn h
theorem mk85 : MkT Try.prog 85 pc85 [] 19 := mr85.k
theorem mw85 : MwT Try.prog 85 pc85 [] 19 := mr85.w
-- 86 impl.InitPut
def pc86 : PC := .seq (.rg [(none, .bx 2 (.t 0)),
 (none, .al 4 [.n .i64 0, .n .i64 0, .s []]),
 (none, .mv 5 (.c (.b false))),
 (none, .kp [1, 2, 4])])
 (.seq (.seq (.rg [(none, .ld 9 (some 4) (.t 2)),
 (none, .ca (some 10) 108 [.t 9]),
 (none, .un 11 .not (.t 10)),
 (none, .kp [1, 2, 4, 11])])
 (.ite (.t 11) (.seq (.rg [(none, .bd 12 [.n .i64 0, .n .i64 0, .s []] []),
 (none, .st 3 (.t 4) (.t 12)),
 (none, .mv 5 (.c (.b false))),
 (none, .kp [4, 5])])
 (.rt))
 (.sk)))
 (.seq (.rg [(none, .mv 6 (.c (.n .i64 1))),
 (none, .kp [1, 2, 4, 6])])
 (.seq (.seq (.rg [(none, .mv 13 (.t 1)),
 (none, .kp [2, 4, 6, 13])])
 (.ite (.t 13) (.rg [(none, .mv 6 (.c (.n .i64 2))),
 (none, .kp [2, 4, 6])])
 (.sk)))
 (.seq (.rg [(none, .fa 15 0 (.t 2)),
 (none, .ld 16 none (.t 15)),
 (none, .ca (some 17) 98 [.t 16]),
 (none, .mv 14 (.t 17)),
 (none, .ex 18 (.t 14) 0),
 (none, .ex 19 (.t 14) 1),
 (none, .mv 7 (.t 18)),
 (none, .mv 8 (.t 19)),
 (none, .kp [2, 4, 6, 7])])
 (.seq (.rg [(none, .mv 20 (.t 6)),
 (none, .mv 21 (.t 7)),
 (none, .fa 22 1 (.t 2)),
 (none, .ld 23 none (.t 22)),
 (none, .fa 24 2 (.t 2)),
 (none, .ld 25 none (.t 24)),
 (none, .fa 26 3 (.t 2)),
 (none, .ld 27 none (.t 26)),
 (none, .bs 28 1 3 [.n .i64 0] [(0, .t 23), (1, .t 25), (2, .t 27)]),
 (none, .ca (some 29) 99 [.t 28]),
 (none, .bi 30 .add (.t 21) (.t 29)),
 (none, .bd 31 [.n .i64 0, .n .i64 0, .s []] [(0, 1, .t 20), (2, 1, .t 30)]),
 (none, .st 3 (.t 4) (.t 31)),
 (none, .mv 5 (.c (.b true))),
 (none, .kp [4, 5])])
 (.rt))))))
theorem mr86 : MrT Try.prog 86 pc86 [.c 4 (some 3), .t 5] 32 := fun hn h => spec_of_run (fn := Try.f86) (by kernel_rfl) rfl (by kernel_rfl) (by kernel_rfl) hn h
theorem mk86 : MkT Try.prog 86 pc86 [.c 4 (some 3), .t 5] 32 := mr86.k
theorem mw86 : MwT Try.prog 86 pc86 [.c 4 (some 3), .t 5] 32 := mr86.w
-- 87 impl.partsOf
def pc87l0 : PC := .seq (.seq (.rg [(none, .mv 50 (.t 11)),
 (none, .fa 51 3 (.t 7)),
 (none, .ld 52 none (.t 51)),
 (none, .lS 53 (.t 52)),
 (none, .bi 54 .lss (.t 50) (.t 53)),
 (none, .kp [1, 3, 4, 5, 7, 8, 9, 10, 11, 23, 24, 25, 54])])
 (.ite (.t 54) (.sk)
 (.ex 2)))
 (.seq (.blk 3 (.seq (.rg [(none, .mv 59 (.t 11)),
 (none, .fa 60 10 (.t 1)),
 (none, .ld 61 none (.t 60)),
 (none, .bi 62 .add (.t 59) (.t 61)),
 (none, .fa 63 3 (.t 7)),
 (none, .ld 64 none (.t 63)),
 (none, .lS 65 (.t 64)),
 (none, .mn 66 (.t 62) (.t 65)),
 (none, .mv 12 (.t 66)),
 (none, .kp [1, 3, 4, 5, 7, 8, 9, 10, 11, 12, 23, 24, 25])])
 (.seq (.dr [[], [], [1], [], [3], [3, 4], [], [6], [], [], [9], [], [], [12], [12, 13], [11, 12, 13, 14], [], [16], [], [18], [], [], [18, 19, 20, 21], [3, 4, 5, 6, 7, 8, 9, 10, 11, 12, 13, 14, 15, 16, 17, 18, 19, 20, 21, 22], [1, 2, 3, 4, 5, 6, 7, 8, 9, 10, 11, 12, 13, 14, 15, 16, 17, 18, 19, 20, 21, 22, 23], [1, 2, 3, 4, 5, 6, 7, 8, 9, 10, 11, 12, 13, 14, 15, 16, 17, 18, 19, 20, 21, 22, 23, 24], [0, 1, 2, 3, 4, 5, 6, 7, 8, 9, 10, 11, 12, 13, 14, 15, 16, 17, 18, 19, 20, 21, 22, 23, 24, 25], [0, 1, 2, 3, 4, 5, 6, 7, 8, 9, 10, 11, 12, 13, 14, 15, 16, 17, 18, 19, 20, 21, 22, 23, 24, 25, 26]]
 (.q 0 (none, .mv 67 (.t 10))
 (.q 1 (none, .fa 68 0 (.t 7))
 (.q 2 (none, .ld 69 none (.t 68))
 (.q 3 (none, .mv 70 (.t 8))
 (.q 4 (none, .iA 71 2 1 (.t 4) (.t 70))
 (.q 5 (none, .ld 72 none (.t 71))
 (.q 6 (none, .fa 73 1 (.t 7))
 (.q 7 (none, .ld 74 none (.t 73))
 (.q 8 (none, .mv 75 (.t 9))
 (.q 9 (none, .mv 76 (.t 11))
 (.q 10 (none, .bi 77 .eql (.t 76) (.c (.n .i64 0)))
 (.q 11 (none, .mv 78 (.t 12))
 (.q 12 (none, .fa 79 3 (.t 7))
 (.q 13 (none, .ld 80 none (.t 79))
 (.q 14 (none, .lS 81 (.t 80))
 (.q 15 (none, .bi 82 .eql (.t 78) (.t 81))
 (.q 16 (none, .fa 83 2 (.t 7))
 (.q 17 (none, .ld 84 none (.t 83))
 (.q 18 (none, .fa 85 3 (.t 7))
 (.q 19 (none, .ld 86 none (.t 85))
 (.q 20 (none, .mv 87 (.t 11))
 (.q 21 (none, .mv 88 (.t 12))
 (.q 22 (none, .sS 89 (.t 86) (some (.t 87)) (some (.t 88)))
 (.q 23 (none, .bd 90 [.n .i64 0, .n .i64 0, .n .i64 0, .b false, .b false, .b false, .s []] [(0, 1, .t 72), (1, 1, .t 74), (2, 1, .t 75), (3, 1, .t 77), (4, 1, .t 82), (5, 1, .t 84), (6, 1, .t 89)])
 (.q 24 (none, .bd 91 [.b false, .n .i64 0, .n .i64 0, .n .i64 0, .b false, .b false, .b false, .s []] [(0, 1, .t 69), (1, 7, .t 90)])
 (.alt 25 (none, .bs 92 8 1 [.b false, .n .i64 0, .n .i64 0, .n .i64 0, .b false, .b false, .b false, .s []] [(0, .t 91)]) [true, false, false, false, false, false, false, false, false, false, false, false, false, false, false, false, false, false, false, false, false, false, false, false, false]
 (.alt 26 (none, .ap 93 8 56 (.t 67) (.t 92)) [false, false, false, false, false, false, false, false, false, false, false, false, false, false, false, false, false, false, false, false, false, false, false, false, false]
 (.alt 27 (none, .mv 10 (.t 93)) [false, false, false, false, false, false, false, false, false, false, false, false, false, false, false, false, false, false, false, false, false, false, false, false, false]
 (.done)
 (.stop))
 (.stop))
 (.stop))))))))))))))))))))))))))) [1, 3, 4, 5, 7, 8, 9, 10, 11, 23, 24, 25])
 (.rg [(none, .mv 94 (.t 8)),
 (none, .mv 95 (.t 8)),
 (none, .iA 96 2 1 (.t 4) (.t 95)),
 (none, .ld 97 none (.t 96)),
 (none, .ca (some 98) 111 [.t 97, .c (.n .i64 1)]),
 (none, .iA 99 2 1 (.t 4) (.t 94)),
 (none, .st 1 (.t 99) (.t 98)),
 (none, .kp [1, 3, 4, 5, 7, 8, 9, 10, 11, 23, 24, 25])]))))
 (.rg [(none, .mv 55 (.t 11)),
 (none, .fa 56 10 (.t 1)),
 (none, .ld 57 none (.t 56)),
 (none, .bi 58 .add (.t 55) (.t 57)),
 (none, .mv 11 (.t 58)),
 (none, .kp [1, 3, 4, 5, 7, 8, 9, 10, 11, 23, 24, 25])]))
def pc87l1 : PC := .seq (.rg [(none, .bi 26 .lss (.t 25) (.t 24)),
 (none, .kp [1, 3, 4, 5, 23, 24, 25, 26])])
 (.seq (.ite (.t 26) (.sk)
 (.ex 0))
 (.seq (.blk 1 (.seq (.rg [(none, .ia 27 4 (.t 23) (.t 25)),
 (none, .ld 28 (some 4) (.t 27)),
 (none, .al 7 [.b false, .n .i64 0, .b false, .s []]),
 (none, .st 4 (.t 7) (.t 28)),
 (none, .kp [1, 3, 4, 5, 7, 23, 24, 25])])
 (.seq (.rg [(none, .mv 8 (.c (.n .i64 0))),
 (none, .kp [1, 3, 4, 5, 7, 8, 23, 24, 25])])
 (.seq (.seq (.rg [(none, .fa 29 0 (.t 7)),
 (none, .ld 30 none (.t 29)),
 (none, .kp [1, 3, 4, 5, 7, 8, 23, 24, 25, 30])])
 (.ite (.t 30) (.rg [(none, .mv 8 (.c (.n .i64 1))),
 (none, .kp [1, 3, 4, 5, 7, 8, 23, 24, 25])])
 (.sk)))
 (.seq (.rg [(none, .mv 9 (.c (.n .i64 0))),
 (none, .kp [1, 3, 4, 5, 7, 8, 9, 23, 24, 25])])
 (.seq (.seq (.rg [(none, .fa 31 2 (.t 7)),
 (none, .ld 32 none (.t 31)),
 (none, .un 33 .not (.t 32)),
 (none, .kp [1, 3, 4, 5, 7, 8, 9, 23, 24, 25, 33])])
 (.ite (.t 33) (.seq (.dr [[], [], [1], [0], [0, 1, 2, 3], [0, 1, 2, 3, 4], [0, 1, 2, 3, 4, 5]]
 (.q 0 (none, .mv 34 (.t 8))
 (.q 1 (none, .fa 35 1 (.t 7))
 (.q 2 (none, .ld 36 none (.t 35))
 (.q 3 (none, .iA 37 2 4 (.t 5) (.t 34))
 (.q 4 (none, .iA 38 4 1 (.t 37) (.t 36))
 (.q 5 (none, .ld 39 none (.t 38))
 (.q 6 (none, .mv 9 (.t 39))
 (.done)))))))) [1, 3, 4, 5, 7, 8, 9, 23, 24, 25])
 (.dr [[], [], [1], [0], [0, 1, 2, 3], [0, 1, 2, 3, 4], [0, 1, 2, 3, 4, 5], [0], [0, 1, 2, 3, 4, 5, 6, 7], [0, 1, 2, 3, 4, 5, 6, 7, 8]]
 (.q 0 (none, .mv 40 (.t 8))
 (.q 1 (none, .fa 41 1 (.t 7))
 (.q 2 (none, .ld 42 none (.t 41))
 (.q 3 (none, .iA 43 2 4 (.t 5) (.t 40))
 (.q 4 (none, .iA 44 4 1 (.t 43) (.t 42))
 (.q 5 (none, .ld 45 none (.t 44))
 (.q 6 (none, .bi 46 .add (.t 45) (.c (.n .i64 1)))
 (.q 7 (none, .iA 47 2 4 (.t 5) (.t 40))
 (.q 8 (none, .iA 48 4 1 (.t 47) (.t 42))
 (.alt 9 (none, .st 1 (.t 48) (.t 46)) [false, false, false, false, false, false, false, false, false]
 (.done)
 (.stop))))))))))) [1, 3, 4, 5, 7, 8, 9, 23, 24, 25]))
 (.sk)))
 (.seq (.rg [(none, .bs 49 8 0 [.b false, .n .i64 0, .n .i64 0, .n .i64 0, .b false, .b false, .b false, .s []] []),
 (none, .mv 10 (.t 49)),
 (none, .kp [1, 3, 4, 5, 7, 8, 9, 10, 23, 24, 25])])
 (.seq (.seq (.rg [(none, .mv 11 (.c (.n .i64 0))),
 (none, .kp [1, 3, 4, 5, 7, 8, 9, 10, 11, 23, 24, 25])])
 (.blk 2 (.lp pc87l0)))
 (.rg [(none, .mv 100 (.t 3)),
 (none, .mv 101 (.t 10)),
 (none, .bs 102 1 1 [.nil] [(0, .t 101)]),
 (none, .ap 103 1 24 (.t 100) (.t 102)),
 (none, .mv 3 (.t 103)),
 (none, .kp [1, 3, 4, 5, 23, 24, 25])])))))))))
 (.rg [(none, .bi 104 .add (.t 25) (.c (.n .i64 1))),
 (none, .mv 25 (.t 104)),
 (none, .kp [1, 3, 4, 5, 23, 24, 25])])))
def pc87 : PC := .seq (.rg [(none, .bx 1 (.t 0)),
 (none, .mv 2 (.c .nil)),
 (none, .kp [1])])
 (.seq (.rg [(none, .bs 13 1 0 [.nil] []),
 (none, .mv 3 (.t 13)),
 (none, .kp [1, 3])])
 (.seq (.rg [(none, .fa 14 2 (.t 1)),
 (none, .fa 15 3 (.t 14)),
 (none, .ld 16 none (.t 15)),
 (none, .fa 17 6 (.t 1)),
 (none, .fa 18 3 (.t 17)),
 (none, .ld 19 none (.t 18)),
 (none, .bd 20 [.n .i64 0, .n .i64 0] [(0, 1, .t 16), (1, 1, .t 19)]),
 (none, .al 4 [.n .i64 0, .n .i64 0]),
 (none, .st 2 (.t 4) (.t 20)),
 (none, .kp [1, 3, 4])])
 (.seq (.rg [(none, .bd 21 [.n .i64 0, .n .i64 0, .n .i64 0, .n .i64 0, .n .i64 0, .n .i64 0, .n .i64 0, .n .i64 0] []),
 (none, .al 5 [.n .i64 0, .n .i64 0, .n .i64 0, .n .i64 0, .n .i64 0, .n .i64 0, .n .i64 0, .n .i64 0]),
 (none, .st 8 (.t 5) (.t 21)),
 (none, .kp [1, 3, 4, 5])])
 (.seq (.seq (.rg [(none, .fa 22 11 (.t 1)),
 (none, .ld 23 none (.t 22)),
 (none, .ln 24 (.t 23)),
 (none, .mv 25 (.c (.n .i64 0))),
 (none, .kp [1, 3, 4, 5, 23, 24, 25])])
 (.blk 0 (.lp pc87l1)))
 (.seq (.rg [(none, .mv 105 (.t 3)),
 (none, .mv 2 (.t 105)),
 (none, .kp [2])])
 (.rt))))))
theorem mr87 : MrT Try.prog 87 pc87 [.t 2] 106 := fun hn h => spec_of_run (fn := Try.f87) (by kernel_rfl) rfl (by kernel_rfl) (by kernel_rfl) hn h
theorem mk87 : MkT Try.prog 87 pc87 [.t 2] 106 := mr87.k
theorem mw87 : MwT Try.prog 87 pc87 [.t 2] 106 := mr87.w
-- 88 impl.DataPut
def pc88 : PC := .seq (.rg [(none, .bx 1 (.t 0)),
 (none, .al 2 [.n .i64 0, .n .i64 0, .s []]),
 (none, .mv 3 (.c (.b false))),
 (none, .kp [1, 2])])
 (.seq (.seq (.rg [(none, .ld 5 (some 7) (.t 1)),
 (none, .ca (some 6) 110 [.t 5]),
 (none, .un 7 .not (.t 6)),
 (none, .kp [1, 2, 7])])
 (.ite (.t 7) (.seq (.rg [(none, .bd 8 [.n .i64 0, .n .i64 0, .s []] []),
 (none, .st 3 (.t 2) (.t 8)),
 (none, .mv 3 (.c (.b false))),
 (none, .kp [2, 3])])
 (.rt))
 (.sk)))
 (.seq (.rg [(none, .mv 4 (.c (.n .i64 0))),
 (none, .kp [1, 2, 4])])
 (.seq (.seq (.rg [(none, .fa 9 4 (.t 1)),
 (none, .ld 10 none (.t 9)),
 (none, .kp [1, 2, 4, 10])])
 (.ite (.t 10) (.rg [(none, .mv 11 (.t 4)),
 (none, .bi 12 .add (.t 11) (.c (.n .i64 1))),
 (none, .mv 4 (.t 12)),
 (none, .kp [1, 2, 4])])
 (.sk)))
 (.seq (.seq (.rg [(none, .fa 13 3 (.t 1)),
 (none, .ld 14 none (.t 13)),
 (none, .kp [1, 2, 4, 14])])
 (.ite (.t 14) (.rg [(none, .mv 15 (.t 4)),
 (none, .bi 16 .add (.t 15) (.c (.n .i64 2))),
 (none, .mv 4 (.t 16)),
 (none, .kp [1, 2, 4])])
 (.sk)))
 (.seq (.seq (.rg [(none, .fa 17 5 (.t 1)),
 (none, .ld 18 none (.t 17)),
 (none, .kp [1, 2, 4, 18])])
 (.ite (.t 18) (.rg [(none, .mv 19 (.t 4)),
 (none, .bi 20 .add (.t 19) (.c (.n .i64 4))),
 (none, .mv 4 (.t 20)),
 (none, .kp [1, 2, 4])])
 (.sk)))
 (.seq (.dr [[], [], [1], [], [3], [], [5], [1, 2, 3, 4, 5, 6], [1, 2, 3, 4, 5, 6, 7], [], [9], [1, 2, 3, 4, 5, 6, 7, 8, 9, 10], [0, 1, 2, 3, 4, 5, 6, 7, 8, 9, 10, 11], [0, 1, 2, 3, 4, 5, 6, 7, 8, 9, 10, 11, 12], [0, 1, 2, 3, 4, 5, 6, 7, 8, 9, 10, 11, 12, 13]]
 (.q 0 (none, .mv 21 (.t 4))
 (.q 1 (none, .fa 22 0 (.t 1))
 (.q 2 (none, .ld 23 none (.t 22))
 (.q 3 (none, .fa 24 1 (.t 1))
 (.q 4 (none, .ld 25 none (.t 24))
 (.q 5 (none, .fa 26 2 (.t 1))
 (.q 6 (none, .ld 27 none (.t 26))
 (.q 9 (none, .fa 30 6 (.t 1))
 (.q 10 (none, .ld 31 none (.t 30))
 (.alt 7 (none, .bs 28 1 3 [.n .i64 0] [(0, .t 23), (1, .t 25), (2, .t 27)]) [true, false, false, false, false, false, false, true, true]
 (.alt 8 (none, .ca (some 29) 99 [.t 28]) [true, false, false, false, false, false, false, true, true]
 (.q 11 (none, .bi 32 .add (.t 29) (.t 31))
 (.q 12 (none, .bd 33 [.n .i64 0, .n .i64 0, .s []] [(0, 1, .c (.n .i64 0)), (1, 1, .t 21), (2, 1, .t 32)])
 (.alt 13 (none, .st 3 (.t 2) (.t 33)) [false, false, false, false, false, false, false, false, false, false, false]
 (.q 14 (none, .mv 3 (.c (.b true)))
 (.done))
 (.stop))))
 (.stop))
 (.stop))))))))))) [2, 3])
 (.rt)))))))
theorem mr88 : MrT Try.prog 88 pc88 [.c 2 (some 3), .t 3] 34 := fun hn h => spec_of_run (fn := Try.f88) (by kernel_rfl) rfl (by kernel_rfl) (by kernel_rfl) hn h
theorem mk88 : MkT Try.prog 88 pc88 [.c 2 (some 3), .t 3] 34 := mr88.k
theorem mw88 : MwT Try.prog 88 pc88 [.c 2 (some 3), .t 3] 34 := mr88.w
-- 89 impl.SackPut
def pc89l0 : PC := .seq (.rg [(none, .bi 19 .lss (.t 18) (.t 17)),
 (none, .kp [2, 4, 16, 17, 18, 19])])
 (.seq (.ite (.t 19) (.sk)
 (.ex 0))
 (.seq (.blk 1 (.seq (.rg [(none, .ia 20 2 (.t 16) (.t 18)),
 (none, .ld 21 (some 2) (.t 20)),
 (none, .al 6 [.n .i64 0, .n .i64 0]),
 (none, .st 2 (.t 6) (.t 21)),
 (none, .kp [2, 4, 6, 16, 17, 18])])
 (.rg [(none, .mv 22 (.t 4)),
 (none, .fa 23 0 (.t 6)),
 (none, .ld 24 none (.t 23)),
 (none, .fa 25 1 (.t 6)),
 (none, .ld 26 none (.t 25)),
 (none, .bs 27 1 2 [.n .i64 0] [(0, .t 24), (1, .t 26)]),
 (none, .ca (some 28) 99 [.t 27]),
 (none, .bi 29 .add (.t 22) (.t 28)),
 (none, .mv 4 (.t 29)),
 (none, .kp [2, 4, 16, 17, 18])])))
 (.rg [(none, .bi 30 .add (.t 18) (.c (.n .i64 1))),
 (none, .mv 18 (.t 30)),
 (none, .kp [2, 4, 16, 17, 18])])))
def pc89 : PC := .seq (.rg [(none, .bx 1 (.t 0)),
 (none, .al 2 [.n .i64 0, .n .i64 0, .s []]),
 (none, .mv 3 (.c (.b false))),
 (none, .kp [1, 2])])
 (.seq (.seq (.rg [(none, .ld 7 (some 2) (.t 1)),
 (none, .ca (some 8) 145 [.t 7]),
 (none, .un 9 .not (.t 8)),
 (none, .kp [1, 2, 9])])
 (.ite (.t 9) (.seq (.rg [(none, .bd 10 [.n .i64 0, .n .i64 0, .s []] []),
 (none, .st 3 (.t 2) (.t 10)),
 (none, .mv 3 (.c (.b false))),
 (none, .kp [2, 3])])
 (.rt))
 (.sk)))
 (.seq (.rg [(none, .fa 11 0 (.t 1)),
 (none, .ld 12 none (.t 11)),
 (none, .bs 13 1 1 [.n .i64 0] [(0, .t 12)]),
 (none, .ca (some 14) 99 [.t 13]),
 (none, .mv 4 (.t 14)),
 (none, .kp [1, 2, 4])])
 (.seq (.seq (.rg [(none, .fa 15 1 (.t 1)),
 (none, .ld 16 none (.t 15)),
 (none, .ln 17 (.t 16)),
 (none, .mv 18 (.c (.n .i64 0))),
 (none, .kp [2, 4, 16, 17, 18])])
 (.blk 0 (.lp pc89l0)))
 (.seq (.rg [(none, .mv 31 (.t 4)),
 (none, .bd 32 [.n .i64 0, .n .i64 0, .s []] [(0, 1, .c (.n .i64 3)), (2, 1, .t 31)]),
 (none, .st 3 (.t 2) (.t 32)),
 (none, .mv 3 (.c (.b true))),
 (none, .kp [2, 3])])
 (.rt)))))
theorem mr89 : MrT Try.prog 89 pc89 [.c 2 (some 3), .t 3] 33 := fun hn h => spec_of_run (fn := Try.f89) (by kernel_rfl) rfl (by kernel_rfl) (by kernel_rfl) hn h
theorem mk89 : MkT Try.prog 89 pc89 [.c 2 (some 3), .t 3] 33 := mr89.k
theorem mw89 : MwT Try.prog 89 pc89 [.c 2 (some 3), .t 3] 33 := mr89.w
-- 90 laws.eqInit
def pc90 : PC := .seq (.rg [(none, .bx 2 (.t 0)),
 (none, .bx 3 (.t 1)),
 (none, .mv 4 (.c (.b false))),
 (none, .kp [2, 3])])
 (.seq (.seq (.rg [(none, .fa 5 0 (.t 2)),
 (none, .ld 6 none (.t 5)),
 (none, .fa 7 0 (.t 3)),
 (none, .ld 8 none (.t 7)),
 (none, .bi 9 .neq (.t 6) (.t 8)),
 (none, .kp [2, 3, 9])])
 (.ite (.t 9) (.seq (.rg [(none, .mv 4 (.c (.b false))),
 (none, .kp [4])])
 (.rt))
 (.sk)))
 (.seq (.seq (.rg [(none, .fa 10 1 (.t 2)),
 (none, .ld 11 none (.t 10)),
 (none, .fa 12 1 (.t 3)),
 (none, .ld 13 none (.t 12)),
 (none, .bi 14 .neq (.t 11) (.t 13)),
 (none, .kp [2, 3, 14])])
 (.ite (.t 14) (.seq (.rg [(none, .mv 4 (.c (.b false))),
 (none, .kp [4])])
 (.rt))
 (.sk)))
 (.seq (.seq (.rg [(none, .fa 15 2 (.t 2)),
 (none, .ld 16 none (.t 15)),
 (none, .fa 17 2 (.t 3)),
 (none, .ld 18 none (.t 17)),
 (none, .bi 19 .neq (.t 16) (.t 18)),
 (none, .kp [2, 3, 19])])
 (.ite (.t 19) (.seq (.rg [(none, .mv 4 (.c (.b false))),
 (none, .kp [4])])
 (.rt))
 (.sk)))
 (.seq (.seq (.rg [(none, .fa 20 3 (.t 2)),
 (none, .ld 21 none (.t 20)),
 (none, .fa 22 3 (.t 3)),
 (none, .ld 23 none (.t 22)),
 (none, .bi 24 .neq (.t 21) (.t 23)),
 (none, .kp [24])])
 (.ite (.t 24) (.seq (.rg [(none, .mv 4 (.c (.b false))),
 (none, .kp [4])])
 (.rt))
 (.sk)))
 (.seq (.rg [(none, .mv 4 (.c (.b true))),
 (none, .kp [4])])
 (.rt))))))
theorem mr90 : MrT Try.prog 90 pc90 [.t 4] 25 := fun hn h => spec_of_run (fn := Try.f90) (by kernel_rfl) rfl (by kernel_rfl) (by kernel_rfl) hn h
theorem mk90 : MkT Try.prog 90 pc90 [.t 4] 25 := mr90.k
theorem mw90 : MwT Try.prog 90 pc90 [.t 4] 25 := mr90.w
-- 91 laws.eqSayS
def pc91l0 : PC := .seq (.seq (.rg [(none, .mv 11 (.t 5)),
 (none, .mv 12 (.t 0)),
 (none, .ln 13 (.t 12)),
 (none, .bi 14 .lss (.t 11) (.t 13)),
 (none, .kp [0, 1, 5, 14])])
 (.ite (.t 14) (.sk)
 (.ex 0)))
 (.seq (.blk 1 (.seq (.dr [[], [], [0, 1], [0, 1, 2], [], [], [4, 5], [4, 5, 6], [0, 1, 2, 3, 4, 5, 6, 7], [0, 1, 2, 3, 4, 5, 6, 7, 8]]
 (.q 0 (none, .mv 17 (.t 0))
 (.q 1 (none, .mv 18 (.t 5))
 (.q 2 (none, .ia 19 4 (.t 17) (.t 18))
 (.q 3 (none, .ld 20 (some 4) (.t 19))
 (.q 4 (none, .mv 21 (.t 1))
 (.q 5 (none, .mv 22 (.t 5))
 (.q 6 (none, .ia 23 4 (.t 21) (.t 22))
 (.q 7 (none, .ld 24 (some 4) (.t 23))
 (.alt 8 (none, .ca (some 25) 146 [.t 20, .t 24]) [false, false, false, false, false, false, false, false]
 (.q 9 (none, .un 26 .not (.t 25))
 (.done))
 (.stop)))))))))) [0, 1, 5, 26])
 (.ite (.t 26) (.seq (.rg [(none, .mv 4 (.c (.b false))),
 (none, .kp [4])])
 (.rt))
 (.sk))))
 (.rg [(none, .mv 15 (.t 5)),
 (none, .bi 16 .add (.t 15) (.c (.n .i64 1))),
 (none, .mv 5 (.t 16)),
 (none, .kp [0, 1, 5])]))
def pc91 : PC := .seq (.rg [(none, .mv 4 (.c (.b false))),
 (none, .kp [0, 1])])
 (.seq (.seq (.rg [(none, .mv 6 (.t 0)),
 (none, .ln 7 (.t 6)),
 (none, .mv 8 (.t 1)),
 (none, .ln 9 (.t 8)),
 (none, .bi 10 .neq (.t 7) (.t 9)),
 (none, .kp [0, 1, 10])])
 (.ite (.t 10) (.seq (.rg [(none, .mv 4 (.c (.b false))),
 (none, .kp [4])])
 (.rt))
 (.sk)))
 (.seq (.seq (.rg [(none, .mv 5 (.c (.n .i64 0))),
 (none, .kp [0, 1, 5])])
 (.blk 0 (.lp pc91l0)))
 (.seq (.rg [(none, .mv 4 (.c (.b true))),
 (none, .kp [4])])
 (.rt))))
theorem mr91 : MrT Try.prog 91 pc91 [.t 4] 27 := fun hn h => spec_of_run (fn := Try.f91) (by kernel_rfl) rfl (by kernel_rfl) (by kernel_rfl) hn h
theorem mk91 : MkT Try.prog 91 pc91 [.t 4] 27 := mr91.k
theorem mw91 : MwT Try.prog 91 pc91 [.t 4] 27 := mr91.w
-- 92 laws.markSayS
def pc92l0 : PC := .seq (.seq (.rg [(none, .mv 6 (.t 5)),
 (none, .mv 7 (.t 0)),
 (none, .ln 8 (.t 7)),
 (none, .bi 9 .lss (.t 6) (.t 8)),
 (none, .kp [0, 1, 5, 9])])
 (.ite (.t 9) (.sk)
 (.ex 0)))
 (.seq (.blk 1 (.seq (.rg [(none, .mv 12 (.t 0)),
 (none, .mv 13 (.t 5)),
 (none, .mv 14 (.t 1)),
 (none, .bi 15 .rem (.t 14) (.c (.n .i64 3))),
 (none, .bi 16 .eql (.t 15) (.c (.n .i64 0))),
 (none, .ia 17 4 (.t 12) (.t 13)),
 (none, .fa 18 0 (.t 17)),
 (none, .st 1 (.t 18) (.t 16)),
 (none, .kp [0, 1, 5])])
 (.seq (.rg [(none, .mv 19 (.t 1)),
 (none, .bi 20 .add (.t 19) (.c (.n .i64 1))),
 (none, .mv 1 (.t 20)),
 (none, .kp [0, 1, 5])])
 (.seq (.rg [(none, .mv 21 (.t 0)),
 (none, .mv 22 (.t 5)),
 (none, .mv 23 (.t 1)),
 (none, .ia 24 4 (.t 21) (.t 22)),
 (none, .fa 25 1 (.t 24)),
 (none, .st 1 (.t 25) (.t 23)),
 (none, .kp [0, 1, 5])])
 (.seq (.rg [(none, .mv 26 (.t 1)),
 (none, .bi 27 .add (.t 26) (.c (.n .i64 1))),
 (none, .mv 1 (.t 27)),
 (none, .kp [0, 1, 5])])
 (.seq (.rg [(none, .mv 28 (.t 0)),
 (none, .mv 29 (.t 5)),
 (none, .mv 30 (.t 1)),
 (none, .bi 31 .rem (.t 30) (.c (.n .i64 3))),
 (none, .bi 32 .eql (.t 31) (.c (.n .i64 0))),
 (none, .ia 33 4 (.t 28) (.t 29)),
 (none, .fa 34 2 (.t 33)),
 (none, .st 1 (.t 34) (.t 32)),
 (none, .kp [0, 1, 5])])
 (.seq (.rg [(none, .mv 35 (.t 1)),
 (none, .bi 36 .add (.t 35) (.c (.n .i64 1))),
 (none, .mv 1 (.t 36)),
 (none, .kp [0, 1, 5])])
 (.seq (.rg [(none, .mv 37 (.t 0)),
 (none, .mv 38 (.t 5)),
 (none, .mv 39 (.t 1)),
 (none, .ca (some 40) 133 [.t 39]),
 (none, .ia 41 4 (.t 37) (.t 38)),
 (none, .fa 42 3 (.t 41)),
 (none, .st 1 (.t 42) (.t 40)),
 (none, .kp [0, 1, 5])])
 (.rg [(none, .mv 43 (.t 1)),
 (none, .bi 44 .add (.t 43) (.c (.n .i64 1))),
 (none, .mv 1 (.t 44)),
 (none, .kp [0, 1, 5])])))))))))
 (.rg [(none, .mv 10 (.t 5)),
 (none, .bi 11 .add (.t 10) (.c (.n .i64 1))),
 (none, .mv 5 (.t 11)),
 (none, .kp [0, 1, 5])]))
def pc92 : PC := .seq (.rg [(none, .mv 4 (.c (.n .i64 0))),
 (none, .kp [0, 1])])
 (.seq (.seq (.rg [(none, .mv 5 (.c (.n .i64 0))),
 (none, .kp [0, 1, 5])])
 (.blk 0 (.lp pc92l0)))
 (.seq (.rg [(none, .mv 45 (.t 1)),
 (none, .mv 4 (.t 45)),
 (none, .kp [4])])
 (.rt)))
theorem mr92 : MrT Try.prog 92 pc92 [.t 4] 46 := fun hn h => spec_of_run (fn := Try.f92) (by kernel_rfl) rfl (by kernel_rfl) (by kernel_rfl) hn h
theorem mk92 : MkT Try.prog 92 pc92 [.t 4] 46 := mr92.k
theorem mw92 : MwT Try.prog 92 pc92 [.t 4] 46 := mr92.w
-- 93 laws.heldChunkS
def pc93l0 : PC := .seq (.seq (.rg [(none, .mv 6 (.t 5)),
 (none, .mv 7 (.t 0)),
 (none, .ln 8 (.t 7)),
 (none, .bi 9 .lss (.t 6) (.t 8)),
 (none, .kp [0, 1, 5, 9])])
 (.ite (.t 9) (.sk)
 (.ex 0)))
 (.seq (.blk 1 (.seq (.seq (.rg [(none, .mv 12 (.t 0)),
 (none, .mv 13 (.t 5)),
 (none, .ia 14 3 (.t 12) (.t 13)),
 (none, .fa 15 0 (.t 14)),
 (none, .ld 16 none (.t 15)),
 (none, .mv 17 (.t 1)),
 (none, .bi 18 .neq (.t 16) (.t 17)),
 (none, .kp [0, 1, 5, 18])])
 (.ite (.t 18) (.seq (.rg [(none, .mv 4 (.c (.n .i64 (-1)))),
 (none, .kp [4])])
 (.rt))
 (.sk)))
 (.seq (.rg [(none, .mv 19 (.t 1)),
 (none, .bi 20 .add (.t 19) (.c (.n .i64 1))),
 (none, .mv 1 (.t 20)),
 (none, .kp [0, 1, 5])])
 (.seq (.seq (.rg [(none, .mv 21 (.t 0)),
 (none, .mv 22 (.t 5)),
 (none, .ia 23 3 (.t 21) (.t 22)),
 (none, .fa 24 1 (.t 23)),
 (none, .ld 25 none (.t 24)),
 (none, .mv 26 (.t 1)),
 (none, .bi 27 .neq (.t 25) (.t 26)),
 (none, .kp [0, 1, 5, 27])])
 (.ite (.t 27) (.seq (.rg [(none, .mv 4 (.c (.n .i64 (-1)))),
 (none, .kp [4])])
 (.rt))
 (.sk)))
 (.seq (.rg [(none, .mv 28 (.t 1)),
 (none, .bi 29 .add (.t 28) (.c (.n .i64 1))),
 (none, .mv 1 (.t 29)),
 (none, .kp [0, 1, 5])])
 (.seq (.seq (.dr [[], [], [0, 1], [0, 1, 2], [0, 1, 2, 3], [], [5], [0, 1, 2, 3, 4, 5, 6]]
 (.q 0 (none, .mv 30 (.t 0))
 (.q 1 (none, .mv 31 (.t 5))
 (.q 2 (none, .ia 32 3 (.t 30) (.t 31))
 (.q 3 (none, .fa 33 2 (.t 32))
 (.q 4 (none, .ld 34 none (.t 33))
 (.q 5 (none, .mv 35 (.t 1))
 (.alt 6 (none, .ca (some 36) 133 [.t 35]) [true, true, true, true, true, false]
 (.q 7 (none, .bi 37 .neq (.t 34) (.t 36))
 (.done))
 (.stop)))))))) [0, 1, 5, 37])
 (.ite (.t 37) (.seq (.rg [(none, .mv 4 (.c (.n .i64 (-1)))),
 (none, .kp [4])])
 (.rt))
 (.sk)))
 (.rg [(none, .mv 38 (.t 1)),
 (none, .bi 39 .add (.t 38) (.c (.n .i64 1))),
 (none, .mv 1 (.t 39)),
 (none, .kp [0, 1, 5])])))))))
 (.rg [(none, .mv 10 (.t 5)),
 (none, .bi 11 .add (.t 10) (.c (.n .i64 1))),
 (none, .mv 5 (.t 11)),
 (none, .kp [0, 1, 5])]))
def pc93 : PC := .seq (.rg [(none, .mv 4 (.c (.n .i64 0))),
 (none, .kp [0, 1])])
 (.seq (.seq (.rg [(none, .mv 5 (.c (.n .i64 0))),
 (none, .kp [0, 1, 5])])
 (.blk 0 (.lp pc93l0)))
 (.seq (.rg [(none, .mv 40 (.t 1)),
 (none, .mv 4 (.t 40)),
 (none, .kp [4])])
 (.rt)))
theorem mr93 : MrT Try.prog 93 pc93 [.t 4] 41 := fun hn h => spec_of_run (fn := Try.f93) (by kernel_rfl) rfl (by kernel_rfl) (by kernel_rfl) hn h
theorem mk93 : MkT Try.prog 93 pc93 [.t 4] 41 := mr93.k
theorem mw93 : MwT Try.prog 93 pc93 [.t 4] 41 := mr93.w
-- 98 impl.LongPut
def pc98 : PC := .seq (.rg [(none, .mv 2 (.c (.s []))),
 (none, .mv 3 (.c (.b false))),
 (none, .kp [0])])
 (.seq (.seq (.rg [(none, .mv 4 (.t 0)),
 (none, .bi 5 .lss (.t 4) (.c (.n .i64 0))),
 (none, .mv 6 (.t 5)),
 (some (6, false), .mv 7 (.t 0)),
 (some (6, false), .bi 8 .gtr (.t 7) (.c (.n .i64 4294967295))),
 (none, .pk 9 (.t 6) (.c (.b true)) (.t 8)),
 (none, .kp [0, 9])])
 (.ite (.t 9) (.seq (.rg [(none, .mv 2 (.c (.s []))),
 (none, .mv 3 (.c (.b false))),
 (none, .kp [2, 3])])
 (.rt))
 (.sk)))
 (.seq (.rg [(none, .mv 10 (.t 0)),
 (none, .bi 11 .shr (.t 10) (.c (.n .u64 24))),
 (none, .cv 12 .u8 (.t 11)),
 (none, .mv 13 (.t 0)),
 (none, .bi 14 .shr (.t 13) (.c (.n .u64 16))),
 (none, .cv 15 .u8 (.t 14)),
 (none, .mv 16 (.t 0)),
 (none, .bi 17 .shr (.t 16) (.c (.n .u64 8))),
 (none, .cv 18 .u8 (.t 17)),
 (none, .mv 19 (.t 0)),
 (none, .cv 20 .u8 (.t 19)),
 (none, .bs 21 1 4 [.n .u8 0] [(0, .t 12), (1, .t 15), (2, .t 18), (3, .t 20)]),
 (none, .cs 22 (.t 21)),
 (none, .mv 2 (.t 22)),
 (none, .mv 3 (.c (.b true))),
 (none, .kp [2, 3])])
 (.rt)))
theorem mr98 : MrT Try.prog 98 pc98 [.t 2, .t 3] 23 := fun hn h => spec_of_run (fn := Try.f98) (by kernel_rfl) rfl (by kernel_rfl) (by kernel_rfl) hn h
theorem mk98 : MkT Try.prog 98 pc98 [.t 2, .t 3] 23 := mr98.k
theorem mw98 : MwT Try.prog 98 pc98 [.t 2, .t 3] 23 := mr98.w
-- 99 impl.words
def pc99l0 : PC := .seq (.rg [(none, .bi 11 .lss (.t 10) (.t 9)),
 (none, .kp [3, 8, 9, 10, 11])])
 (.seq (.ite (.t 11) (.sk)
 (.ex 0))
 (.seq (.blk 1 (.seq (.rg [(none, .ia 12 1 (.t 8) (.t 10)),
 (none, .ld 13 none (.t 12)),
 (none, .mv 5 (.t 13)),
 (none, .kp [3, 5, 8, 9, 10])])
 (.seq (.rg [(none, .mv 15 (.t 5)),
 (none, .ca (some 16) 150 [.t 15]),
 (none, .mv 14 (.t 16)),
 (none, .ex 17 (.t 14) 0),
 (none, .ex 18 (.t 14) 1),
 (none, .mv 6 (.t 17)),
 (none, .mv 7 (.t 18)),
 (none, .kp [3, 6, 8, 9, 10])])
 (.rg [(none, .mv 19 (.t 3)),
 (none, .mv 20 (.t 6)),
 (none, .bi 21 .add (.t 19) (.t 20)),
 (none, .mv 3 (.t 21)),
 (none, .kp [3, 8, 9, 10])]))))
 (.rg [(none, .bi 22 .add (.t 10) (.c (.n .i64 1))),
 (none, .mv 10 (.t 22)),
 (none, .kp [3, 8, 9, 10])])))
def pc99 : PC := .seq (.rg [(none, .mv 2 (.c (.s []))),
 (none, .kp [0])])
 (.seq (.rg [(none, .mv 3 (.c (.s []))),
 (none, .kp [0, 3])])
 (.seq (.seq (.rg [(none, .mv 8 (.t 0)),
 (none, .ln 9 (.t 8)),
 (none, .mv 10 (.c (.n .i64 0))),
 (none, .kp [3, 8, 9, 10])])
 (.blk 0 (.lp pc99l0)))
 (.seq (.rg [(none, .mv 23 (.t 3)),
 (none, .mv 2 (.t 23)),
 (none, .kp [2])])
 (.rt))))
theorem mr99 : MrT Try.prog 99 pc99 [.t 2] 24 := fun hn h => spec_of_run (fn := Try.f99) (by kernel_rfl) rfl (by kernel_rfl) (by kernel_rfl) hn h
theorem mk99 : MkT Try.prog 99 pc99 [.t 2] 24 := mr99.k
theorem mw99 : MwT Try.prog 99 pc99 [.t 2] 24 := mr99.w
-- 108 impl.initOk
def pc108 : PC := .seq (.rg [(none, .bx 1 (.t 0)),
 (none, .mv 2 (.c (.b false))),
 (none, .kp [1])])
 (.seq (.rg [(none, .fa 3 0 (.t 1)),
 (none, .ld 4 none (.t 3)),
 (none, .bi 5 .geq (.t 4) (.c (.n .i64 1))),
 (none, .mv 6 (.t 5)),
 (some (6, true), .fa 7 0 (.t 1)),
 (some (6, true), .ld 8 none (.t 7)),
 (some (6, true), .bi 9 .leq (.t 8) (.c (.n .i64 4294967295))),
 (none, .pk 10 (.t 6) (.t 9) (.c (.b false))),
 (none, .mv 11 (.t 10)),
 (some (11, true), .fa 12 1 (.t 1)),
 (some (11, true), .ld 13 none (.t 12)),
 (some (11, true), .ca (some 14) 109 [.t 13]),
 (none, .pk 15 (.t 11) (.t 14) (.c (.b false))),
 (none, .mv 16 (.t 15)),
 (some (16, true), .fa 17 2 (.t 1)),
 (some (16, true), .ld 18 none (.t 17)),
 (some (16, true), .bi 19 .geq (.t 18) (.c (.n .i64 1))),
 (none, .pk 20 (.t 16) (.t 19) (.c (.b false))),
 (none, .mv 21 (.t 20)),
 (some (21, true), .fa 22 2 (.t 1)),
 (some (21, true), .ld 23 none (.t 22)),
 (some (21, true), .bi 24 .leq (.t 23) (.c (.n .i64 4))),
 (none, .pk 25 (.t 21) (.t 24) (.c (.b false))),
 (none, .mv 26 (.t 25)),
 (some (26, true), .fa 27 3 (.t 1)),
 (some (26, true), .ld 28 none (.t 27)),
 (some (26, true), .ca (some 29) 109 [.t 28]),
 (none, .pk 30 (.t 26) (.t 29) (.c (.b false))),
 (none, .mv 2 (.t 30)),
 (none, .kp [2])])
 (.rt))
theorem mr108 : MrT Try.prog 108 pc108 [.t 2] 31 := fun hn h => spec_of_run (fn := Try.f108) (by kernel_rfl) rfl (by kernel_rfl) (by kernel_rfl) hn h
theorem mk108 : MkT Try.prog 108 pc108 [.t 2] 31 := mr108.k
theorem mw108 : MwT Try.prog 108 pc108 [.t 2] 31 := mr108.w
-- 109 impl.serialOk
def pc109 : PC := .seq (.rg [(none, .mv 2 (.c (.b false))),
 (none, .kp [0])])
 (.seq (.rg [(none, .mv 3 (.t 0)),
 (none, .bi 4 .geq (.t 3) (.c (.n .i64 0))),
 (none, .mv 5 (.t 4)),
 (some (5, true), .mv 6 (.t 0)),
 (some (5, true), .bi 7 .lss (.t 6) (.c (.n .i64 65536))),
 (none, .pk 8 (.t 5) (.t 7) (.c (.b false))),
 (none, .mv 2 (.t 8)),
 (none, .kp [2])])
 (.rt))
theorem mr109 : MrT Try.prog 109 pc109 [.t 2] 9 := fun hn h => spec_of_run (fn := Try.f109) (by kernel_rfl) rfl (by kernel_rfl) (by kernel_rfl) hn h
theorem mk109 : MkT Try.prog 109 pc109 [.t 2] 9 := mr109.k
theorem mw109 : MwT Try.prog 109 pc109 [.t 2] 9 := mr109.w
-- 110 impl.dataOk
def pc110 : PC := .seq (.rg [(none, .bx 1 (.t 0)),
 (none, .mv 2 (.c (.b false))),
 (none, .kp [1])])
 (.seq (.rg [(none, .fa 3 0 (.t 1)),
 (none, .ld 4 none (.t 3)),
 (none, .ca (some 5) 109 [.t 4]),
 (none, .mv 6 (.t 5)),
 (some (6, true), .fa 7 1 (.t 1)),
 (some (6, true), .ld 8 none (.t 7)),
 (some (6, true), .ca (some 9) 109 [.t 8]),
 (none, .pk 10 (.t 6) (.t 9) (.c (.b false))),
 (none, .mv 11 (.t 10)),
 (some (11, true), .fa 12 2 (.t 1)),
 (some (11, true), .ld 13 none (.t 12)),
 (some (11, true), .ca (some 14) 109 [.t 13]),
 (none, .pk 15 (.t 11) (.t 14) (.c (.b false))),
 (none, .mv 16 (.t 15)),
 (some (16, true), .fa 17 6 (.t 1)),
 (some (16, true), .ld 18 none (.t 17)),
 (some (16, true), .lS 19 (.t 18)),
 (some (16, true), .bi 20 .geq (.t 19) (.c (.n .i64 1))),
 (none, .pk 21 (.t 16) (.t 20) (.c (.b false))),
 (none, .mv 22 (.t 21)),
 (some (22, true), .fa 23 6 (.t 1)),
 (some (22, true), .ld 24 none (.t 23)),
 (some (22, true), .lS 25 (.t 24)),
 (some (22, true), .bi 26 .leq (.t 25) (.c (.n .i64 20))),
 (none, .pk 27 (.t 22) (.t 26) (.c (.b false))),
 (none, .mv 2 (.t 27)),
 (none, .kp [2])])
 (.rt))
theorem mr110 : MrT Try.prog 110 pc110 [.t 2] 28 := fun hn h => spec_of_run (fn := Try.f110) (by kernel_rfl) rfl (by kernel_rfl) (by kernel_rfl) hn h
theorem mk110 : MkT Try.prog 110 pc110 [.t 2] 28 := mr110.k
theorem mw110 : MwT Try.prog 110 pc110 [.t 2] 28 := mr110.w
-- 111 impl.SerialAdd
def pc111 : PC := .seq (.rg [(none, .mv 4 (.c (.n .i64 0))),
 (none, .kp [0, 1])])
 (.seq (.seq (.rg [(none, .mv 5 (.t 0)),
 (none, .ca (some 6) 109 [.t 5]),
 (none, .un 7 .not (.t 6)),
 (none, .kp [0, 1, 7])])
 (.ite (.t 7) (.seq (.rg [(none, .mv 4 (.c (.n .i64 (-1)))),
 (none, .kp [4])])
 (.rt))
 (.sk)))
 (.seq (.rg [(none, .mv 8 (.t 0)),
 (none, .mv 9 (.t 1)),
 (none, .bi 10 .rem (.t 9) (.c (.n .i64 65536))),
 (none, .bi 11 .add (.t 8) (.t 10)),
 (none, .bi 12 .rem (.t 11) (.c (.n .i64 65536))),
 (none, .bi 13 .add (.t 12) (.c (.n .i64 65536))),
 (none, .bi 14 .rem (.t 13) (.c (.n .i64 65536))),
 (none, .mv 4 (.t 14)),
 (none, .kp [4])])
 (.rt)))
theorem mr111 : MrT Try.prog 111 pc111 [.t 4] 15 := fun hn h => spec_of_run (fn := Try.f111) (by kernel_rfl) rfl (by kernel_rfl) (by kernel_rfl) hn h
theorem mk111 : MkT Try.prog 111 pc111 [.t 4] 15 := mr111.k
theorem mw111 : MwT Try.prog 111 pc111 [.t 4] 15 := mr111.w
-- 116 spec.l6In
def pc116 : PC := .seq (.rg [(none, .mv 6 (.c (.b false))),
 (none, .kp [0, 1, 2])])
 (.seq (.rg [(none, .mv 7 (.t 0)),
 (none, .mv 8 (.t 1)),
 (none, .bi 9 .geq (.t 7) (.t 8)),
 (none, .mv 10 (.t 9)),
 (some (10, true), .mv 11 (.t 0)),
 (some (10, true), .mv 12 (.t 2)),
 (some (10, true), .bi 13 .leq (.t 11) (.t 12)),
 (none, .pk 14 (.t 10) (.t 13) (.c (.b false))),
 (none, .mv 6 (.t 14)),
 (none, .kp [6])])
 (.rt))
theorem mr116 : MrT Try.prog 116 pc116 [.t 6] 15 := fun hn h => spec_of_run (fn := Try.f116) (by kernel_rfl) rfl (by kernel_rfl) (by kernel_rfl) hn h
theorem mk116 : MkT Try.prog 116 pc116 [.t 6] 15 := mr116.k
theorem mw116 : MwT Try.prog 116 pc116 [.t 6] 15 := mr116.w
-- 131 laws.eqChunk
def pc131 : PC := .seq (.rg [(none, .bx 2 (.t 0)),
 (none, .bx 3 (.t 1)),
 (none, .mv 4 (.c (.b false))),
 (none, .kp [2, 3])])
 (.seq (.seq (.rg [(none, .fa 5 0 (.t 2)),
 (none, .ld 6 none (.t 5)),
 (none, .fa 7 0 (.t 3)),
 (none, .ld 8 none (.t 7)),
 (none, .bi 9 .neq (.t 6) (.t 8)),
 (none, .kp [2, 3, 9])])
 (.ite (.t 9) (.seq (.rg [(none, .mv 4 (.c (.b false))),
 (none, .kp [4])])
 (.rt))
 (.sk)))
 (.seq (.seq (.rg [(none, .fa 10 1 (.t 2)),
 (none, .ld 11 none (.t 10)),
 (none, .fa 12 1 (.t 3)),
 (none, .ld 13 none (.t 12)),
 (none, .bi 14 .neq (.t 11) (.t 13)),
 (none, .kp [2, 3, 14])])
 (.ite (.t 14) (.seq (.rg [(none, .mv 4 (.c (.b false))),
 (none, .kp [4])])
 (.rt))
 (.sk)))
 (.seq (.seq (.rg [(none, .fa 15 2 (.t 2)),
 (none, .ld 16 none (.t 15)),
 (none, .fa 17 2 (.t 3)),
 (none, .ld 18 none (.t 17)),
 (none, .bi 19 .neq (.t 16) (.t 18)),
 (none, .kp [19])])
 (.ite (.t 19) (.seq (.rg [(none, .mv 4 (.c (.b false))),
 (none, .kp [4])])
 (.rt))
 (.sk)))
 (.seq (.rg [(none, .mv 4 (.c (.b true))),
 (none, .kp [4])])
 (.rt)))))
theorem mr131 : MrT Try.prog 131 pc131 [.t 4] 20 := fun hn h => spec_of_run (fn := Try.f131) (by kernel_rfl) rfl (by kernel_rfl) (by kernel_rfl) hn h
theorem mk131 : MkT Try.prog 131 pc131 [.t 4] 20 := mr131.k
theorem mw131 : MwT Try.prog 131 pc131 [.t 4] 20 := mr131.w
-- 133 laws.markText
def pc133l0 : PC := .seq (.seq (.rg [(none, .mv 6 (.t 0)),
 (none, .bi 7 .gtr (.t 6) (.c (.n .i64 0))),
 (none, .kp [0, 3, 7])])
 (.ite (.t 7) (.sk)
 (.ex 0)))
 (.blk 1 (.seq (.rg [(none, .mv 8 (.t 0)),
 (none, .bi 9 .rem (.t 8) (.c (.n .i64 10))),
 (none, .bi 10 .add (.c (.n .i64 48)) (.t 9)),
 (none, .cv 11 .u8 (.t 10)),
 (none, .bs 12 1 1 [.n .u8 0] [(0, .t 11)]),
 (none, .cs 13 (.t 12)),
 (none, .mv 14 (.t 3)),
 (none, .bi 15 .add (.t 13) (.t 14)),
 (none, .mv 3 (.t 15)),
 (none, .kp [0, 3])])
 (.rg [(none, .mv 16 (.t 0)),
 (none, .bi 17 .quo (.t 16) (.c (.n .i64 10))),
 (none, .mv 0 (.t 17)),
 (none, .kp [0, 3])])))
def pc133 : PC := .seq (.rg [(none, .mv 2 (.c (.s []))),
 (none, .kp [0])])
 (.seq (.seq (.rg [(none, .mv 4 (.t 0)),
 (none, .bi 5 .leq (.t 4) (.c (.n .i64 0))),
 (none, .kp [0, 5])])
 (.ite (.t 5) (.seq (.rg [(none, .mv 2 (.c (.s [109, 48]))),
 (none, .kp [2])])
 (.rt))
 (.sk)))
 (.seq (.rg [(none, .mv 3 (.c (.s []))),
 (none, .kp [0, 3])])
 (.seq (.blk 0 (.lp pc133l0))
 (.seq (.rg [(none, .mv 18 (.t 3)),
 (none, .bi 19 .add (.c (.s [109])) (.t 18)),
 (none, .mv 2 (.t 19)),
 (none, .kp [2])])
 (.rt)))))
theorem mr133 : MrT Try.prog 133 pc133 [.t 2] 20 := fun hn h => spec_of_run (fn := Try.f133) (by kernel_rfl) rfl (by kernel_rfl) (by kernel_rfl) hn h
theorem mk133 : MkT Try.prog 133 pc133 [.t 2] 20 := mr133.k
theorem mw133 : MwT Try.prog 133 pc133 [.t 2] 20 := mr133.w
-- 135 laws.szSay
def pc135 : PC := .seq (.rg [(none, .bx 2 (.t 0)),
 (none, .mv 4 (.c (.n .i64 0))),
 (none, .kp [1, 2])])
 (.seq (.rg [(none, .mv 5 (.t 1)),
 (none, .fa 6 3 (.t 2)),
 (none, .ld 7 none (.t 6)),
 (none, .lS 8 (.t 7)),
 (none, .bi 9 .sub (.t 5) (.t 8)),
 (none, .mv 1 (.t 9)),
 (none, .kp [1])])
 (.seq (.seq (.rg [(none, .mv 10 (.t 1)),
 (none, .bi 11 .lss (.t 10) (.c (.n .i64 0))),
 (none, .kp [1, 11])])
 (.ite (.t 11) (.seq (.rg [(none, .mv 4 (.c (.n .i64 (-1)))),
 (none, .kp [4])])
 (.rt))
 (.sk)))
 (.seq (.rg [(none, .mv 12 (.t 1)),
 (none, .mv 4 (.t 12)),
 (none, .kp [4])])
 (.rt))))
theorem mr135 : MrT Try.prog 135 pc135 [.t 4] 13 := fun hn h => spec_of_run (fn := Try.f135) (by kernel_rfl) rfl (by kernel_rfl) (by kernel_rfl) hn h
theorem mk135 : MkT Try.prog 135 pc135 [.t 4] 13 := mr135.k
theorem mw135 : MwT Try.prog 135 pc135 [.t 4] 13 := mr135.w
-- 136 spec.l12Init
def pc136 : PC := .seq (.rg [(none, .bx 1 (.t 0)),
 (none, .mv 2 (.c (.b false))),
 (none, .kp [1])])
 (.seq (.rg [(none, .fa 3 0 (.t 1)),
 (none, .ld 4 none (.t 3)),
 (none, .ca (some 5) 116 [.t 4, .c (.n .i64 1), .c (.n .i64 4294967295)]),
 (none, .mv 6 (.t 5)),
 (some (6, true), .fa 7 1 (.t 1)),
 (some (6, true), .ld 8 none (.t 7)),
 (some (6, true), .ca (some 9) 116 [.t 8, .c (.n .i64 0), .c (.n .i64 65535)]),
 (none, .pk 10 (.t 6) (.t 9) (.c (.b false))),
 (none, .mv 11 (.t 10)),
 (some (11, true), .fa 12 2 (.t 1)),
 (some (11, true), .ld 13 none (.t 12)),
 (some (11, true), .ca (some 14) 116 [.t 13, .c (.n .i64 1), .c (.n .i64 4)]),
 (none, .pk 15 (.t 11) (.t 14) (.c (.b false))),
 (none, .mv 16 (.t 15)),
 (some (16, true), .fa 17 3 (.t 1)),
 (some (16, true), .ld 18 none (.t 17)),
 (some (16, true), .ca (some 19) 163 [.t 18]),
 (none, .pk 20 (.t 16) (.t 19) (.c (.b false))),
 (none, .mv 2 (.t 20)),
 (none, .kp [2])])
 (.rt))
theorem mr136 : MrT Try.prog 136 pc136 [.t 2] 21 := fun hn h => spec_of_run (fn := Try.f136) (by kernel_rfl) rfl (by kernel_rfl) (by kernel_rfl) hn h
theorem mk136 : MkT Try.prog 136 pc136 [.t 2] 21 := mr136.k
theorem mw136 : MwT Try.prog 136 pc136 [.t 2] 21 := mr136.w
-- 137 spec.InitPut
def pc137 : PC := .seq (.rg [(none, .bx 2 (.t 0)),
 (none, .al 4 [.n .i64 0, .n .i64 0, .s []]),
 (none, .mv 5 (.c (.b false))),
 (none, .kp [1, 2, 4])])
 (.seq (.seq (.rg [(none, .ld 7 (some 4) (.t 2)),
 (none, .ca (some 8) 136 [.t 7]),
 (none, .un 9 .not (.t 8)),
 (none, .kp [1, 2, 4, 9])])
 (.ite (.t 9) (.seq (.rg [(none, .bd 10 [.n .i64 0, .n .i64 0, .s []] []),
 (none, .st 3 (.t 4) (.t 10)),
 (none, .mv 5 (.c (.b false))),
 (none, .kp [4, 5])])
 (.rt))
 (.sk)))
 (.seq (.dr [[], [0], [0, 1], [], [3], [0, 1, 2, 3, 4], [0, 1, 2, 3, 4, 5], [], [7], [0, 1, 2, 3, 4, 5, 7, 8], [0, 1, 2, 3, 4, 5, 6, 7, 8, 9], [], [11], [0, 1, 2, 3, 4, 5, 7, 8, 9, 11, 12], [0, 1, 2, 3, 4, 5, 6, 7, 8, 9, 10, 11, 12, 13], [0, 1, 2, 3, 4, 5, 6, 7, 8, 9, 10, 11, 12, 13, 14], [], [0, 1, 2, 3, 4, 5, 6, 7, 8, 9, 10, 11, 12, 13, 14, 15, 16]]
 (.q 0 (none, .fa 11 0 (.t 2))
 (.q 1 (none, .ld 12 none (.t 11))
 (.q 3 (none, .fa 14 1 (.t 2))
 (.q 4 (none, .ld 15 none (.t 14))
 (.q 7 (none, .fa 18 2 (.t 2))
 (.q 8 (none, .ld 19 none (.t 18))
 (.q 11 (none, .fa 22 3 (.t 2))
 (.q 12 (none, .ld 23 none (.t 22))
 (.alt 2 (none, .ca (some 13) 152 [.t 12]) [false, false, true, true, true, true, true, true]
 (.alt 5 (none, .ca (some 16) 142 [.t 15]) [false, false, false, false, true, true, true, true]
 (.q 6 (none, .bi 17 .add (.t 13) (.t 16))
 (.alt 9 (none, .ca (some 20) 142 [.t 19]) [false, false, false, false, false, false, true, true, true]
 (.q 10 (none, .bi 21 .add (.t 17) (.t 20))
 (.alt 13 (none, .ca (some 24) 142 [.t 23]) [false, false, false, false, false, false, false, false, true, true]
 (.q 14 (none, .bi 25 .add (.t 21) (.t 24))
 (.q 15 (none, .bd 26 [.n .i64 0, .n .i64 0, .s []] [(0, 1, .c (.n .i64 1)), (2, 1, .t 25)])
 (.alt 16 (none, .al 6 [.n .i64 0, .n .i64 0, .s []]) [true, true, true, true, true, true, true, true, true, true, true, true]
 (.alt 17 (none, .st 3 (.t 6) (.t 26)) [false, false, false, false, false, false, false, false, false, false, false, false]
 (.done)
 (.stop))
 (.stop))))
 (.alt 16 (none, .al 6 [.n .i64 0, .n .i64 0, .s []]) [true, true, true, true, true, true, true, true, true, true]
 (.alt 13 (none, .ca (some 24) 142 [.t 23]) [false, false, false, false, false, false, false, false, true, true]
 (.q 14 (none, .bi 25 .add (.t 21) (.t 24))
 (.q 15 (none, .bd 26 [.n .i64 0, .n .i64 0, .s []] [(0, 1, .c (.n .i64 1)), (2, 1, .t 25)])
 (.alt 17 (none, .st 3 (.t 6) (.t 26)) [false, false, false, false, false, false, false, false, false, false, false, false]
 (.done)
 (.stop))))
 (.stop))
 (.stop))))
 (.alt 16 (none, .al 6 [.n .i64 0, .n .i64 0, .s []]) [true, true, true, true, true, true, true, true, true]
 (.alt 9 (none, .ca (some 20) 142 [.t 19]) [false, false, false, false, false, false, true, true, true]
 (.q 10 (none, .bi 21 .add (.t 17) (.t 20))
 (.alt 13 (none, .ca (some 24) 142 [.t 23]) [false, false, false, false, false, false, false, false, true, true]
 (.q 14 (none, .bi 25 .add (.t 21) (.t 24))
 (.q 15 (none, .bd 26 [.n .i64 0, .n .i64 0, .s []] [(0, 1, .c (.n .i64 1)), (2, 1, .t 25)])
 (.alt 17 (none, .st 3 (.t 6) (.t 26)) [false, false, false, false, false, false, false, false, false, false, false, false]
 (.done)
 (.stop))))
 (.stop)))
 (.stop))
 (.stop))))
 (.alt 16 (none, .al 6 [.n .i64 0, .n .i64 0, .s []]) [true, true, true, true, true, true, true, true]
 (.alt 5 (none, .ca (some 16) 142 [.t 15]) [false, false, false, false, true, true, true, true]
 (.q 6 (none, .bi 17 .add (.t 13) (.t 16))
 (.alt 9 (none, .ca (some 20) 142 [.t 19]) [false, false, false, false, false, false, true, true, true]
 (.q 10 (none, .bi 21 .add (.t 17) (.t 20))
 (.alt 13 (none, .ca (some 24) 142 [.t 23]) [false, false, false, false, false, false, false, false, true, true]
 (.q 14 (none, .bi 25 .add (.t 21) (.t 24))
 (.q 15 (none, .bd 26 [.n .i64 0, .n .i64 0, .s []] [(0, 1, .c (.n .i64 1)), (2, 1, .t 25)])
 (.alt 17 (none, .st 3 (.t 6) (.t 26)) [false, false, false, false, false, false, false, false, false, false, false, false]
 (.done)
 (.stop))))
 (.stop)))
 (.stop)))
 (.stop))
 (.stop)))
 (.alt 16 (none, .al 6 [.n .i64 0, .n .i64 0, .s []]) [true, true, true, true, true, true, true, true]
 (.alt 2 (none, .ca (some 13) 152 [.t 12]) [false, false, true, true, true, true, true, true]
 (.alt 5 (none, .ca (some 16) 142 [.t 15]) [false, false, false, false, true, true, true, true]
 (.q 6 (none, .bi 17 .add (.t 13) (.t 16))
 (.alt 9 (none, .ca (some 20) 142 [.t 19]) [false, false, false, false, false, false, true, true, true]
 (.q 10 (none, .bi 21 .add (.t 17) (.t 20))
 (.alt 13 (none, .ca (some 24) 142 [.t 23]) [false, false, false, false, false, false, false, false, true, true]
 (.q 14 (none, .bi 25 .add (.t 21) (.t 24))
 (.q 15 (none, .bd 26 [.n .i64 0, .n .i64 0, .s []] [(0, 1, .c (.n .i64 1)), (2, 1, .t 25)])
 (.alt 17 (none, .st 3 (.t 6) (.t 26)) [false, false, false, false, false, false, false, false, false, false, false, false]
 (.done)
 (.stop))))
 (.stop)))
 (.stop)))
 (.stop))
 (.stop))
 (.stop))))))))))) [1, 4, 6])
 (.seq (.seq (.rg [(none, .mv 27 (.t 1)),
 (none, .kp [4, 6, 27])])
 (.ite (.t 27) (.rg [(none, .fa 28 0 (.t 6)),
 (none, .st 1 (.t 28) (.c (.n .i64 2))),
 (none, .kp [4, 6])])
 (.sk)))
 (.seq (.rg [(none, .ld 29 (some 3) (.t 6)),
 (none, .st 3 (.t 4) (.t 29)),
 (none, .mv 5 (.c (.b true))),
 (none, .kp [4, 5])])
 (.rt)))))
theorem mr137 : MrT Try.prog 137 pc137 [.c 4 (some 3), .t 5] 30 := fun hn h => spec_of_run (fn := Try.f137) (by kernel_rfl) rfl (by kernel_rfl) (by kernel_rfl) hn h
theorem mk137 : MkT Try.prog 137 pc137 [.c 4 (some 3), .t 5] 30 := mr137.k
theorem mw137 : MwT Try.prog 137 pc137 [.c 4 (some 3), .t 5] 30 := mr137.w
-- 138 spec.l31Ssn
def pc138l0 : PC := .seq (.seq (.rg [(none, .mv 7 (.t 6)),
 (none, .mv 8 (.t 0)),
 (none, .ln 9 (.t 8)),
 (none, .bi 10 .lss (.t 7) (.t 9)),
 (none, .kp [0, 1, 5, 6, 10])])
 (.ite (.t 10) (.sk)
 (.ex 0)))
 (.seq (.blk 1 (.seq (.rg [(none, .mv 13 (.t 0)),
 (none, .mv 14 (.t 6)),
 (none, .ia 15 7 (.t 13) (.t 14)),
 (none, .fa 16 3 (.t 15)),
 (none, .ld 17 none (.t 16)),
 (none, .mv 18 (.t 17)),
 (some (18, true), .mv 19 (.t 0)),
 (some (18, true), .mv 20 (.t 6)),
 (some (18, true), .ia 21 7 (.t 19) (.t 20)),
 (some (18, true), .fa 22 5 (.t 21)),
 (some (18, true), .ld 23 none (.t 22)),
 (some (18, true), .un 24 .not (.t 23)),
 (none, .pk 25 (.t 18) (.t 24) (.c (.b false))),
 (none, .mv 26 (.t 25)),
 (some (26, true), .mv 27 (.t 0)),
 (some (26, true), .mv 28 (.t 6)),
 (some (26, true), .ia 29 7 (.t 27) (.t 28)),
 (some (26, true), .fa 30 1 (.t 29)),
 (some (26, true), .ld 31 none (.t 30)),
 (some (26, true), .mv 32 (.t 1)),
 (some (26, true), .bi 33 .eql (.t 31) (.t 32)),
 (none, .pk 34 (.t 26) (.t 33) (.c (.b false))),
 (none, .kp [0, 1, 5, 6, 34])])
 (.ite (.t 34) (.rg [(none, .mv 35 (.t 5)),
 (none, .bi 36 .add (.t 35) (.c (.n .i64 1))),
 (none, .mv 5 (.t 36)),
 (none, .kp [0, 1, 5, 6])])
 (.sk))))
 (.rg [(none, .mv 11 (.t 6)),
 (none, .bi 12 .add (.t 11) (.c (.n .i64 1))),
 (none, .mv 6 (.t 12)),
 (none, .kp [0, 1, 5, 6])]))
def pc138 : PC := .seq (.rg [(none, .mv 4 (.c (.n .i64 0))),
 (none, .kp [0, 1])])
 (.seq (.rg [(none, .mv 5 (.c (.n .i64 0))),
 (none, .kp [0, 1, 5])])
 (.seq (.seq (.rg [(none, .mv 6 (.c (.n .i64 0))),
 (none, .kp [0, 1, 5, 6])])
 (.blk 0 (.lp pc138l0)))
 (.seq (.rg [(none, .mv 37 (.t 5)),
 (none, .mv 4 (.t 37)),
 (none, .kp [4])])
 (.rt))))
theorem mr138 : MrT Try.prog 138 pc138 [.t 4] 38 := fun hn h => spec_of_run (fn := Try.f138) (by kernel_rfl) rfl (by kernel_rfl) (by kernel_rfl) hn h
theorem mk138 : MkT Try.prog 138 pc138 [.t 4] 38 := mr138.k
theorem mw138 : MwT Try.prog 138 pc138 [.t 4] 38 := mr138.w
-- 139 spec.l3Add
def pc139 : PC := .seq (.rg [(none, .mv 4 (.c (.n .i64 0))),
 (none, .kp [0, 1])])
 (.seq (.rg [(none, .mv 5 (.t 0)),
 (none, .mv 6 (.t 1)),
 (none, .bi 7 .rem (.t 6) (.c (.n .i64 65536))),
 (none, .bi 8 .add (.t 5) (.t 7)),
 (none, .bi 9 .add (.t 8) (.c (.n .i64 65536))),
 (none, .bi 10 .rem (.t 9) (.c (.n .i64 65536))),
 (none, .mv 4 (.t 10)),
 (none, .kp [4])])
 (.rt))
theorem mr139 : MrT Try.prog 139 pc139 [.t 4] 11 := fun hn h => spec_of_run (fn := Try.f139) (by kernel_rfl) rfl (by kernel_rfl) (by kernel_rfl) hn h
theorem mk139 : MkT Try.prog 139 pc139 [.t 4] 11 := mr139.k
theorem mw139 : MwT Try.prog 139 pc139 [.t 4] 11 := mr139.w
-- 140 spec.l12Data
def pc140 : PC := .seq (.rg [(none, .bx 1 (.t 0)),
 (none, .mv 2 (.c (.b false))),
 (none, .kp [1])])
 (.seq (.rg [(none, .fa 3 0 (.t 1)),
 (none, .ld 4 none (.t 3)),
 (none, .ca (some 5) 163 [.t 4]),
 (none, .mv 6 (.t 5)),
 (some (6, true), .fa 7 1 (.t 1)),
 (some (6, true), .ld 8 none (.t 7)),
 (some (6, true), .ca (some 9) 163 [.t 8]),
 (none, .pk 10 (.t 6) (.t 9) (.c (.b false))),
 (none, .mv 11 (.t 10)),
 (some (11, true), .fa 12 2 (.t 1)),
 (some (11, true), .ld 13 none (.t 12)),
 (some (11, true), .ca (some 14) 163 [.t 13]),
 (none, .pk 15 (.t 11) (.t 14) (.c (.b false))),
 (none, .mv 16 (.t 15)),
 (some (16, true), .fa 17 6 (.t 1)),
 (some (16, true), .ld 18 none (.t 17)),
 (some (16, true), .lS 19 (.t 18)),
 (some (16, true), .ca (some 20) 116 [.t 19, .c (.n .i64 1), .c (.n .i64 20)]),
 (none, .pk 21 (.t 16) (.t 20) (.c (.b false))),
 (none, .mv 2 (.t 21)),
 (none, .kp [2])])
 (.rt))
theorem mr140 : MrT Try.prog 140 pc140 [.t 2] 22 := fun hn h => spec_of_run (fn := Try.f140) (by kernel_rfl) rfl (by kernel_rfl) (by kernel_rfl) hn h
theorem mk140 : MkT Try.prog 140 pc140 [.t 2] 22 := mr140.k
theorem mw140 : MwT Try.prog 140 pc140 [.t 2] 22 := mr140.w
-- 141 spec.l12Bit
def pc141 : PC := .seq (.rg [(none, .mv 4 (.c (.n .i64 0))),
 (none, .kp [0, 1])])
 (.seq (.seq (.rg [(none, .mv 5 (.t 0)),
 (none, .kp [1, 5])])
 (.ite (.t 5) (.seq (.rg [(none, .mv 6 (.t 1)),
 (none, .mv 4 (.t 6)),
 (none, .kp [4])])
 (.rt))
 (.sk)))
 (.seq (.rg [(none, .mv 4 (.c (.n .i64 0))),
 (none, .kp [4])])
 (.rt)))
theorem mr141 : MrT Try.prog 141 pc141 [.t 4] 7 := fun hn h => spec_of_run (fn := Try.f141) (by kernel_rfl) rfl (by kernel_rfl) (by kernel_rfl) hn h
theorem mk141 : MkT Try.prog 141 pc141 [.t 4] 7 := mr141.k
theorem mw141 : MwT Try.prog 141 pc141 [.t 4] 7 := mr141.w
-- 142 spec.l1Word
def pc142 : PC := .seq (.rg [(none, .mv 2 (.c (.s []))),
 (none, .kp [0])])
 (.seq (.rg [(none, .mv 3 (.t 0)),
 (none, .bi 4 .quo (.t 3) (.c (.n .i64 256))),
 (none, .cv 5 .u8 (.t 4)),
 (none, .mv 6 (.t 0)),
 (none, .bi 7 .rem (.t 6) (.c (.n .i64 256))),
 (none, .cv 8 .u8 (.t 7)),
 (none, .bs 9 1 2 [.n .u8 0] [(0, .t 5), (1, .t 8)]),
 (none, .cs 10 (.t 9)),
 (none, .mv 2 (.t 10)),
 (none, .kp [2])])
 (.rt))
theorem mr142 : MrT Try.prog 142 pc142 [.t 2] 11 := fun hn h => spec_of_run (fn := Try.f142) (by kernel_rfl) rfl (by kernel_rfl) (by kernel_rfl) hn h
theorem mk142 : MkT Try.prog 142 pc142 [.t 2] 11 := mr142.k
theorem mw142 : MwT Try.prog 142 pc142 [.t 2] 11 := mr142.w
-- 143 spec.l12Sack
def pc143l0 : PC := .seq (.seq (.rg [(none, .mv 6 (.t 4)),
 (none, .fa 7 1 (.t 1)),
 (none, .ld 8 none (.t 7)),
 (none, .ln 9 (.t 8)),
 (none, .bi 10 .lss (.t 6) (.t 9)),
 (none, .kp [1, 3, 4, 10])])
 (.ite (.t 10) (.sk)
 (.ex 0)))
 (.seq (.blk 1 (.seq (.rg [(none, .fa 13 1 (.t 1)),
 (none, .ld 14 none (.t 13)),
 (none, .mv 15 (.t 4)),
 (none, .ia 16 2 (.t 14) (.t 15)),
 (none, .ld 17 (some 2) (.t 16)),
 (none, .al 5 [.n .i64 0, .n .i64 0]),
 (none, .st 2 (.t 5) (.t 17)),
 (none, .kp [1, 3, 4, 5])])
 (.seq (.seq (.rg [(none, .fa 18 0 (.t 5)),
 (none, .ld 19 none (.t 18)),
 (none, .mv 20 (.t 3)),
 (none, .bi 21 .add (.t 20) (.c (.n .i64 2))),
 (none, .bi 22 .lss (.t 19) (.t 21)),
 (none, .mv 23 (.t 22)),
 (some (23, false), .fa 24 1 (.t 5)),
 (some (23, false), .ld 25 none (.t 24)),
 (some (23, false), .fa 26 0 (.t 5)),
 (some (23, false), .ld 27 none (.t 26)),
 (some (23, false), .bi 28 .lss (.t 25) (.t 27)),
 (none, .pk 29 (.t 23) (.c (.b true)) (.t 28)),
 (none, .mv 30 (.t 29)),
 (some (30, false), .fa 31 1 (.t 5)),
 (some (30, false), .ld 32 none (.t 31)),
 (some (30, false), .bi 33 .gtr (.t 32) (.c (.n .i64 16))),
 (none, .pk 34 (.t 30) (.c (.b true)) (.t 33)),
 (none, .kp [1, 4, 5, 34])])
 (.ite (.t 34) (.seq (.rg [(none, .mv 2 (.c (.b false))),
 (none, .kp [2])])
 (.rt))
 (.sk)))
 (.rg [(none, .fa 35 1 (.t 5)),
 (none, .ld 36 none (.t 35)),
 (none, .mv 3 (.t 36)),
 (none, .kp [1, 3, 4])]))))
 (.rg [(none, .mv 11 (.t 4)),
 (none, .bi 12 .add (.t 11) (.c (.n .i64 1))),
 (none, .mv 4 (.t 12)),
 (none, .kp [1, 3, 4])]))
def pc143 : PC := .seq (.rg [(none, .bx 1 (.t 0)),
 (none, .mv 2 (.c (.b false))),
 (none, .kp [1])])
 (.seq (.rg [(none, .mv 3 (.c (.n .i64 0))),
 (none, .kp [1, 3])])
 (.seq (.seq (.rg [(none, .mv 4 (.c (.n .i64 0))),
 (none, .kp [1, 3, 4])])
 (.blk 0 (.lp pc143l0)))
 (.seq (.rg [(none, .fa 37 0 (.t 1)),
 (none, .ld 38 none (.t 37)),
 (none, .ca (some 39) 163 [.t 38]),
 (none, .mv 40 (.t 39)),
 (some (40, true), .fa 41 1 (.t 1)),
 (some (40, true), .ld 42 none (.t 41)),
 (some (40, true), .ln 43 (.t 42)),
 (some (40, true), .bi 44 .leq (.t 43) (.c (.n .i64 8))),
 (none, .pk 45 (.t 40) (.t 44) (.c (.b false))),
 (none, .mv 2 (.t 45)),
 (none, .kp [2])])
 (.rt))))
theorem mr143 : MrT Try.prog 143 pc143 [.t 2] 46 := fun hn h => spec_of_run (fn := Try.f143) (by kernel_rfl) rfl (by kernel_rfl) (by kernel_rfl) hn h
theorem mk143 : MkT Try.prog 143 pc143 [.t 2] 46 := mr143.k
theorem mw143 : MwT Try.prog 143 pc143 [.t 2] 46 := mr143.w
-- 144 laws.toSay
def pc144 : PC := .seq (.rg [(none, .bx 1 (.t 0)),
 (none, .al 2 [.b false, .n .i64 0, .b false, .s []]),
 (none, .kp [1, 2])])
 (.seq (.rg [(none, .al 3 [.b false, .n .i64 0, .b false, .s []]),
 (none, .kp [1, 2, 3])])
 (.seq (.rg [(none, .fa 4 0 (.t 1)),
 (none, .ld 5 none (.t 4)),
 (none, .fa 6 0 (.t 3)),
 (none, .st 1 (.t 6) (.t 5)),
 (none, .kp [1, 2, 3])])
 (.seq (.rg [(none, .fa 7 1 (.t 1)),
 (none, .ld 8 none (.t 7)),
 (none, .fa 9 1 (.t 3)),
 (none, .st 1 (.t 9) (.t 8)),
 (none, .kp [1, 2, 3])])
 (.seq (.rg [(none, .fa 10 2 (.t 1)),
 (none, .ld 11 none (.t 10)),
 (none, .fa 12 2 (.t 3)),
 (none, .st 1 (.t 12) (.t 11)),
 (none, .kp [1, 2, 3])])
 (.seq (.rg [(none, .fa 13 3 (.t 1)),
 (none, .ld 14 none (.t 13)),
 (none, .fa 15 3 (.t 3)),
 (none, .st 1 (.t 15) (.t 14)),
 (none, .kp [2, 3])])
 (.seq (.rg [(none, .ld 16 (some 4) (.t 3)),
 (none, .st 4 (.t 2) (.t 16)),
 (none, .kp [2])])
 (.rt)))))))
theorem mr144 : MrT Try.prog 144 pc144 [.c 2 (some 4)] 17 := fun hn h => spec_of_run (fn := Try.f144) (by kernel_rfl) rfl (by kernel_rfl) (by kernel_rfl) hn h
theorem mk144 : MkT Try.prog 144 pc144 [.c 2 (some 4)] 17 := mr144.k
theorem mw144 : MwT Try.prog 144 pc144 [.c 2 (some 4)] 17 := mr144.w
-- 145 impl.sackOk
def pc145l0 : PC := .seq (.rg [(none, .bi 20 .lss (.t 19) (.t 18)),
 (none, .kp [3, 17, 18, 19, 20])])
 (.seq (.ite (.t 20) (.sk)
 (.ex 0))
 (.seq (.blk 1 (.seq (.rg [(none, .ia 21 2 (.t 17) (.t 19)),
 (none, .ld 22 (some 2) (.t 21)),
 (none, .al 5 [.n .i64 0, .n .i64 0]),
 (none, .st 2 (.t 5) (.t 22)),
 (none, .kp [3, 5, 17, 18, 19])])
 (.seq (.seq (.rg [(none, .fa 23 0 (.t 5)),
 (none, .ld 24 none (.t 23)),
 (none, .mv 25 (.t 3)),
 (none, .bi 26 .lss (.t 24) (.t 25)),
 (none, .mv 27 (.t 26)),
 (some (27, false), .fa 28 0 (.t 5)),
 (some (27, false), .ld 29 none (.t 28)),
 (some (27, false), .fa 30 1 (.t 5)),
 (some (27, false), .ld 31 none (.t 30)),
 (some (27, false), .bi 32 .gtr (.t 29) (.t 31)),
 (none, .pk 33 (.t 27) (.c (.b true)) (.t 32)),
 (none, .mv 34 (.t 33)),
 (some (34, false), .fa 35 1 (.t 5)),
 (some (34, false), .ld 36 none (.t 35)),
 (some (34, false), .bi 37 .gtr (.t 36) (.c (.n .i64 16))),
 (none, .pk 38 (.t 34) (.c (.b true)) (.t 37)),
 (none, .kp [5, 17, 18, 19, 38])])
 (.ite (.t 38) (.seq (.rg [(none, .mv 2 (.c (.b false))),
 (none, .kp [2])])
 (.rt))
 (.sk)))
 (.rg [(none, .fa 39 1 (.t 5)),
 (none, .ld 40 none (.t 39)),
 (none, .bi 41 .add (.t 40) (.c (.n .i64 2))),
 (none, .mv 3 (.t 41)),
 (none, .kp [3, 17, 18, 19])]))))
 (.rg [(none, .bi 42 .add (.t 19) (.c (.n .i64 1))),
 (none, .mv 19 (.t 42)),
 (none, .kp [3, 17, 18, 19])])))
def pc145 : PC := .seq (.rg [(none, .bx 1 (.t 0)),
 (none, .mv 2 (.c (.b false))),
 (none, .kp [1])])
 (.seq (.seq (.rg [(none, .fa 6 0 (.t 1)),
 (none, .ld 7 none (.t 6)),
 (none, .ca (some 8) 109 [.t 7]),
 (none, .un 9 .not (.t 8)),
 (none, .mv 10 (.t 9)),
 (some (10, false), .fa 11 1 (.t 1)),
 (some (10, false), .ld 12 none (.t 11)),
 (some (10, false), .ln 13 (.t 12)),
 (some (10, false), .bi 14 .gtr (.t 13) (.c (.n .i64 8))),
 (none, .pk 15 (.t 10) (.c (.b true)) (.t 14)),
 (none, .kp [1, 15])])
 (.ite (.t 15) (.seq (.rg [(none, .mv 2 (.c (.b false))),
 (none, .kp [2])])
 (.rt))
 (.sk)))
 (.seq (.rg [(none, .mv 3 (.c (.n .i64 2))),
 (none, .kp [1, 3])])
 (.seq (.seq (.rg [(none, .fa 16 1 (.t 1)),
 (none, .ld 17 none (.t 16)),
 (none, .ln 18 (.t 17)),
 (none, .mv 19 (.c (.n .i64 0))),
 (none, .kp [3, 17, 18, 19])])
 (.blk 0 (.lp pc145l0)))
 (.seq (.rg [(none, .mv 2 (.c (.b true))),
 (none, .kp [2])])
 (.rt)))))
theorem mr145 : MrT Try.prog 145 pc145 [.t 2] 43 := fun hn h => spec_of_run (fn := Try.f145) (by kernel_rfl) rfl (by kernel_rfl) (by kernel_rfl) hn h
theorem mk145 : MkT Try.prog 145 pc145 [.t 2] 43 := mr145.k
theorem mw145 : MwT Try.prog 145 pc145 [.t 2] 43 := mr145.w
-- 146 laws.eqSay
def pc146 : PC := .seq (.rg [(none, .bx 2 (.t 0)),
 (none, .bx 3 (.t 1)),
 (none, .mv 4 (.c (.b false))),
 (none, .kp [2, 3])])
 (.seq (.seq (.rg [(none, .fa 5 0 (.t 2)),
 (none, .ld 6 none (.t 5)),
 (none, .fa 7 0 (.t 3)),
 (none, .ld 8 none (.t 7)),
 (none, .bb 9 true (.t 6) (.t 8)),
 (none, .kp [2, 3, 9])])
 (.ite (.t 9) (.seq (.rg [(none, .mv 4 (.c (.b false))),
 (none, .kp [4])])
 (.rt))
 (.sk)))
 (.seq (.seq (.rg [(none, .fa 10 1 (.t 2)),
 (none, .ld 11 none (.t 10)),
 (none, .fa 12 1 (.t 3)),
 (none, .ld 13 none (.t 12)),
 (none, .bi 14 .neq (.t 11) (.t 13)),
 (none, .kp [2, 3, 14])])
 (.ite (.t 14) (.seq (.rg [(none, .mv 4 (.c (.b false))),
 (none, .kp [4])])
 (.rt))
 (.sk)))
 (.seq (.seq (.rg [(none, .fa 15 2 (.t 2)),
 (none, .ld 16 none (.t 15)),
 (none, .fa 17 2 (.t 3)),
 (none, .ld 18 none (.t 17)),
 (none, .bb 19 true (.t 16) (.t 18)),
 (none, .kp [2, 3, 19])])
 (.ite (.t 19) (.seq (.rg [(none, .mv 4 (.c (.b false))),
 (none, .kp [4])])
 (.rt))
 (.sk)))
 (.seq (.seq (.rg [(none, .fa 20 3 (.t 2)),
 (none, .ld 21 none (.t 20)),
 (none, .fa 22 3 (.t 3)),
 (none, .ld 23 none (.t 22)),
 (none, .bi 24 .neq (.t 21) (.t 23)),
 (none, .kp [24])])
 (.ite (.t 24) (.seq (.rg [(none, .mv 4 (.c (.b false))),
 (none, .kp [4])])
 (.rt))
 (.sk)))
 (.seq (.rg [(none, .mv 4 (.c (.b true))),
 (none, .kp [4])])
 (.rt))))))
theorem mr146 : MrT Try.prog 146 pc146 [.t 4] 25 := fun hn h => spec_of_run (fn := Try.f146) (by kernel_rfl) rfl (by kernel_rfl) (by kernel_rfl) hn h
theorem mk146 : MkT Try.prog 146 pc146 [.t 4] 25 := mr146.k
theorem mw146 : MwT Try.prog 146 pc146 [.t 4] 25 := mr146.w
-- 150 impl.WordPut
def pc150 : PC := .seq (.rg [(none, .mv 2 (.c (.s []))),
 (none, .mv 3 (.c (.b false))),
 (none, .kp [0])])
 (.seq (.seq (.rg [(none, .mv 4 (.t 0)),
 (none, .bi 5 .lss (.t 4) (.c (.n .i64 0))),
 (none, .mv 6 (.t 5)),
 (some (6, false), .mv 7 (.t 0)),
 (some (6, false), .bi 8 .gtr (.t 7) (.c (.n .i64 65535))),
 (none, .pk 9 (.t 6) (.c (.b true)) (.t 8)),
 (none, .kp [0, 9])])
 (.ite (.t 9) (.seq (.rg [(none, .mv 2 (.c (.s []))),
 (none, .mv 3 (.c (.b false))),
 (none, .kp [2, 3])])
 (.rt))
 (.sk)))
 (.seq (.rg [(none, .mv 10 (.t 0)),
 (none, .bi 11 .shr (.t 10) (.c (.n .u64 8))),
 (none, .cv 12 .u8 (.t 11)),
 (none, .mv 13 (.t 0)),
 (none, .cv 14 .u8 (.t 13)),
 (none, .bs 15 1 2 [.n .u8 0] [(0, .t 12), (1, .t 14)]),
 (none, .cs 16 (.t 15)),
 (none, .mv 2 (.t 16)),
 (none, .mv 3 (.c (.b true))),
 (none, .kp [2, 3])])
 (.rt)))
theorem mr150 : MrT Try.prog 150 pc150 [.t 2, .t 3] 17 := fun hn h => spec_of_run (fn := Try.f150) (by kernel_rfl) rfl (by kernel_rfl) (by kernel_rfl) hn h
theorem mk150 : MkT Try.prog 150 pc150 [.t 2, .t 3] 17 := mr150.k
theorem mw150 : MwT Try.prog 150 pc150 [.t 2, .t 3] 17 := mr150.w
-- 152 spec.l1Long
def pc152 : PC := .seq (.rg [(none, .mv 2 (.c (.s []))),
 (none, .kp [0])])
 (.seq (.rg [(none, .mv 3 (.t 0)),
 (none, .bi 4 .quo (.t 3) (.c (.n .i64 65536))),
 (none, .ca (some 5) 142 [.t 4]),
 (none, .mv 6 (.t 0)),
 (none, .bi 7 .rem (.t 6) (.c (.n .i64 65536))),
 (none, .ca (some 8) 142 [.t 7]),
 (none, .bi 9 .add (.t 5) (.t 8)),
 (none, .mv 2 (.t 9)),
 (none, .kp [2])])
 (.rt))
theorem mr152 : MrT Try.prog 152 pc152 [.t 2] 10 := fun hn h => spec_of_run (fn := Try.f152) (by kernel_rfl) rfl (by kernel_rfl) (by kernel_rfl) hn h
theorem mk152 : MkT Try.prog 152 pc152 [.t 2] 10 := mr152.k
theorem mw152 : MwT Try.prog 152 pc152 [.t 2] 10 := mr152.w
-- 163 spec.l3Ok
def pc163 : PC := .seq (.rg [(none, .mv 2 (.c (.b false))),
 (none, .kp [0])])
 (.seq (.rg [(none, .mv 3 (.t 0)),
 (none, .ca (some 4) 116 [.t 3, .c (.n .i64 0), .c (.n .i64 65535)]),
 (none, .mv 2 (.t 4)),
 (none, .kp [2])])
 (.rt))
theorem mr163 : MrT Try.prog 163 pc163 [.t 2] 5 := fun hn h => spec_of_run (fn := Try.f163) (by kernel_rfl) rfl (by kernel_rfl) (by kernel_rfl) hn h
theorem mk163 : MkT Try.prog 163 pc163 [.t 2] 5 := mr163.k
theorem mw163 : MwT Try.prog 163 pc163 [.t 2] 5 := mr163.w
end Go.Cap
