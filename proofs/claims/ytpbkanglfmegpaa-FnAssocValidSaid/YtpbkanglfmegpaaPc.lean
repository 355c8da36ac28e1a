import Derived.Test.YtpbkanglfmegpaaChecked
import Derived.Test.YtpbkanglfmegpaaEngC
namespace Go.Cap
open Go Go.Proofs
set_option maxRecDepth 100000
-- 5 laws.FnAssocValid
def pc5 : PC := .seq (.rg [(none, .mv 2 (.c (.b false))),
 (none, .kp [0])])
 (.seq (.seq (.rg [(none, .mv 6 (.t 0)),
 (none, .ln 7 (.t 6)),
 (none, .bi 8 .gtr (.t 7) (.c (.n .i64 1048576))),
 (none, .kp [0, 8])])
 (.ite (.t 8) (.seq (.rg [(none, .mv 2 (.c (.b true))),
 (none, .kp [2])])
 (.rt))
 (.sk)))
 (.seq (.rg [(none, .mv 9 (.t 0)),
 (none, .ca (some 10) 19 [.t 9]),
 (none, .al 3 [.n .i64 0, .n .i64 0, .n .i64 0, .b false, .n .i64 0, .n .i64 0, .n .i64 0, .nil, .n .i64 0, .n .i64 0, .n .i64 0, .n .i64 0, .nil, .n .i64 0]),
 (none, .st 14 (.t 3) (.t 10)),
 (none, .kp [3])])
 (.seq (.rg [(none, .ld 11 (some 14) (.t 3)),
 (none, .ca (some 12) 20 [.t 11]),
 (none, .mv 4 (.t 12)),
 (none, .kp [3, 4])])
 (.seq (.rg [(none, .ld 13 (some 14) (.t 3)),
 (none, .ca (some 14) 21 [.t 13]),
 (none, .mv 5 (.t 14)),
 (none, .kp [3, 4, 5])])
 (.seq (.seq (.rg [(none, .mv 15 (.t 4)),
 (none, .mv 16 (.t 5)),
 (none, .bb 17 true (.t 15) (.t 16)),
 (none, .mv 18 (.t 17)),
 (some (18, false), .mv 19 (.t 4)),
 (some (18, false), .un 20 .not (.t 19)),
 (none, .pk 21 (.t 18) (.c (.b true)) (.t 20)),
 (none, .kp [3, 4, 5, 21])])
 (.ite (.t 21) (.seq (.rg [(none, .mv 22 (.t 4)),
 (none, .mv 23 (.t 5)),
 (none, .bb 24 false (.t 22) (.t 23)),
 (none, .mv 2 (.t 24)),
 (none, .kp [2])])
 (.rt))
 (.sk)))
 (.seq (.rg [(none, .fa 25 4 (.t 3)),
 (none, .fa 26 0 (.t 25)),
 (none, .ld 27 none (.t 26)),
 (none, .bi 28 .gtr (.t 27) (.c (.n .i64 0))),
 (none, .fa 29 2 (.t 3)),
 (none, .ld 30 none (.t 29)),
 (none, .bi 31 .geq (.t 30) (.c (.n .i64 1))),
 (none, .bb 32 false (.t 28) (.t 31)),
 (none, .mv 33 (.t 32)),
 (some (33, true), .fa 34 9 (.t 3)),
 (some (33, true), .fa 35 0 (.t 34)),
 (some (33, true), .ld 36 none (.t 35)),
 (some (33, true), .bi 37 .eql (.t 36) (.c (.n .i64 0))),
 (some (33, true), .mv 38 (.t 37)),
 (some (38, false), .fa 39 4 (.t 3)),
 (some (38, false), .fa 40 0 (.t 39)),
 (some (38, false), .ld 41 none (.t 40)),
 (some (38, false), .bi 42 .gtr (.t 41) (.c (.n .i64 0))),
 (some (33, true), .pk 43 (.t 38) (.c (.b true)) (.t 42)),
 (none, .pk 44 (.t 33) (.t 43) (.c (.b false))),
 (none, .mv 45 (.t 44)),
 (some (45, true), .fa 46 2 (.t 3)),
 (some (45, true), .ld 47 none (.t 46)),
 (some (45, true), .bi 48 .geq (.t 47) (.c (.n .i64 3))),
 (some (45, true), .mv 49 (.t 48)),
 (some (49, false), .fa 50 4 (.t 3)),
 (some (49, false), .fa 51 3 (.t 50)),
 (some (49, false), .ld 52 none (.t 51)),
 (some (49, false), .ln 53 (.t 52)),
 (some (49, false), .fa 54 9 (.t 3)),
 (some (49, false), .fa 55 3 (.t 54)),
 (some (49, false), .ld 56 none (.t 55)),
 (some (49, false), .ln 57 (.t 56)),
 (some (49, false), .bi 58 .add (.t 53) (.t 57)),
 (some (49, false), .bi 59 .eql (.t 58) (.c (.n .i64 0))),
 (some (45, true), .pk 60 (.t 49) (.c (.b true)) (.t 59)),
 (none, .pk 61 (.t 45) (.t 60) (.c (.b false))),
 (none, .mv 62 (.t 61)),
 (some (62, true), .fa 63 4 (.t 3)),
 (some (62, true), .ld 64 (some 5) (.t 63)),
 (some (62, true), .ca (some 65) 16 [.t 64]),
 (none, .pk 66 (.t 62) (.t 65) (.c (.b false))),
 (none, .mv 67 (.t 66)),
 (some (67, true), .fa 68 9 (.t 3)),
 (some (67, true), .ld 69 (some 5) (.t 68)),
 (some (67, true), .ca (some 70) 16 [.t 69]),
 (none, .pk 71 (.t 67) (.t 70) (.c (.b false))),
 (none, .mv 2 (.t 71)),
 (none, .kp [2])])
 (.rt)))))))
theorem mr5 : MrT Try.prog 5 pc5 [.t 2] 72 := fun hn h => spec_of_run (fn := Try.f5) (by kernel_rfl) rfl (by kernel_rfl) (by kernel_rfl) hn h
theorem mk5 : MkT Try.prog 5 pc5 [.t 2] 72 := mr5.k
theorem mw5 : MwT Try.prog 5 pc5 [.t 2] 72 := mr5.w
-- 16 impl.SideValid
def pc16l0 : PC := .seq (.rg [(none, .bi 74 .lss (.t 73) (.t 72)),
 (none, .kp [1, 71, 72, 73, 74])])
 (.seq (.ite (.t 74) (.sk)
 (.ex 0))
 (.seq (.blk 1 (.seq (.rg [(none, .mv 75 (.t 73)),
 (none, .ia 76 7 (.t 71) (.t 73)),
 (none, .ld 77 (some 7) (.t 76)),
 (none, .al 4 [.n .i64 0, .n .i64 0, .n .i64 0, .b false, .b false, .b false, .s []]),
 (none, .mv 3 (.t 75)),
 (none, .st 7 (.t 4) (.t 77)),
 (none, .kp [1, 3, 4, 71, 72, 73])])
 (.seq (.dr [[], [0], [0, 1], [0, 1, 2], [0, 1, 2, 3], [0, 1, 2, 3, 4], [0, 1, 2, 3], [0, 1, 2, 3, 6], [0, 1, 2, 3], [0, 1, 2, 3, 6, 7, 8], [0, 1, 2, 3, 4, 5, 6, 7, 8, 9], [0, 1, 2, 3, 4, 5, 6, 7, 8, 9, 10], [0, 1, 2, 3, 4, 5, 6, 7, 8, 9, 10, 11], [0, 1, 2, 3, 4, 5, 6, 7, 8, 9, 10, 11, 12], [0, 1, 2, 3, 4, 5, 6, 7, 8, 9, 10, 11, 12, 13], [0, 1, 2, 3, 4, 5, 6, 7, 8, 9, 10, 11, 12], [0, 1, 2, 3, 4, 5, 6, 7, 8, 9, 10, 11, 12, 15], [0, 1, 2, 3, 4, 5, 6, 7, 8, 9, 10, 11, 12, 13, 14, 15, 16], [0, 1, 2, 3, 4, 5, 6, 7, 8, 9, 10, 11, 12, 13, 14, 15, 16, 17], [0, 1, 2, 3, 4, 5, 6, 7, 8, 9, 10, 11, 12, 13, 14, 15, 16, 17, 18], [0, 1, 2, 3, 4, 5, 6, 7, 8, 9, 10, 11, 12, 13, 14, 15, 16, 17, 18, 19], [0, 1, 2, 3, 4, 5, 6, 7, 8, 9, 10, 11, 12, 13, 14, 15, 16, 17, 18, 19, 20], [0, 1, 2, 3, 4, 5, 6, 7, 8, 9, 10, 11, 12, 13, 14, 15, 16, 17, 18, 19], [0, 1, 2, 3, 4, 5, 6, 7, 8, 9, 10, 11, 12, 13, 14, 15, 16, 17, 18, 19, 20, 21, 22], [0, 1, 2, 3, 4, 5, 6, 7, 8, 9, 10, 11, 12, 13, 14, 15, 16, 17, 18, 19], [0, 1, 2, 3, 4, 5, 6, 7, 8, 9, 10, 11, 12, 13, 14, 15, 16, 17, 18, 19, 20, 21, 22, 23, 24], [0, 1, 2, 3, 4, 5, 6, 7, 8, 9, 10, 11, 12, 13, 14, 15, 16, 17, 18, 19, 20, 21, 22, 23, 24, 25], [0, 1, 2, 3, 4, 5, 6, 7, 8, 9, 10, 11, 12, 13, 14, 15, 16, 17, 18, 19, 20, 21, 22, 23, 24, 25, 26]]
 (.q 0 (none, .ld 78 (some 7) (.t 4))
 (.alt 1 (none, .ca (some 79) 40 [.t 78]) [false]
 (.q 2 (none, .un 80 .not (.t 79))
 (.q 3 (none, .mv 81 (.t 80))
 (.q 4 (some (81, false), .fa 82 0 (.t 4))
 (.q 5 (some (81, false), .ld 83 none (.t 82))
 (.q 6 (some (81, false), .fa 84 2 (.t 1))
 (.q 7 (some (81, false), .ld 85 none (.t 84))
 (.q 8 (some (81, false), .mv 86 (.t 3))
 (.alt 9 (some (81, false), .ca (some 87) 18 [.t 85, .t 86]) [false, false, false, true, true, false, false, false]
 (.q 10 (some (81, false), .bi 88 .neq (.t 83) (.t 87))
 (.q 11 (none, .pk 89 (.t 81) (.c (.b true)) (.t 88))
 (.q 12 (none, .mv 90 (.t 89))
 (.q 13 (some (90, false), .fa 91 1 (.t 4))
 (.q 14 (some (90, false), .ld 92 none (.t 91))
 (.q 15 (some (90, false), .fa 93 1 (.t 1))
 (.q 16 (some (90, false), .ld 94 none (.t 93))
 (.q 17 (some (90, false), .bi 95 .geq (.t 92) (.t 94))
 (.q 18 (none, .pk 96 (.t 90) (.c (.b true)) (.t 95))
 (.q 19 (none, .mv 97 (.t 96))
 (.q 20 (some (97, false), .fa 98 3 (.t 1))
 (.q 21 (some (97, false), .ld 99 none (.t 98))
 (.q 22 (some (97, false), .mv 100 (.t 3))
 (.q 23 (some (97, false), .sc 101 7 (.t 99) none (some (.t 100)))
 (.q 24 (some (97, false), .ld 102 (some 7) (.t 4))
 (.alt 25 (some (97, false), .ca (some 103) 41 [.t 101, .t 102]) [false, false, false, false, false, false, false, false, false, false, false, false, false, false, false, false, false, false, false, false, false, false, false]
 (.q 26 (some (97, false), .un 104 .not (.t 103))
 (.q 27 (none, .pk 105 (.t 97) (.c (.b true)) (.t 104))
 (.done)))
 (.stop)))))))))))))))))
 (.stop)))))))))
 (.stop))) [1, 71, 72, 73, 105])
 (.ite (.t 105) (.seq (.rg [(none, .mv 2 (.c (.b false))),
 (none, .kp [2])])
 (.rt))
 (.sk)))))
 (.rg [(none, .bi 106 .add (.t 73) (.c (.n .i64 1))),
 (none, .mv 73 (.t 106)),
 (none, .kp [1, 71, 72, 73])])))
def pc16 : PC := .seq (.rg [(none, .bx 1 (.t 0)),
 (none, .mv 2 (.c (.b false))),
 (none, .kp [1])])
 (.seq (.seq (.rg [(none, .fa 5 0 (.t 1)),
 (none, .ld 6 none (.t 5)),
 (none, .bi 7 .eql (.t 6) (.c (.n .i64 0))),
 (none, .kp [1, 7])])
 (.ite (.t 7) (.seq (.rg [(none, .fa 8 1 (.t 1)),
 (none, .ld 9 none (.t 8)),
 (none, .bi 10 .eql (.t 9) (.c (.n .i64 0))),
 (none, .mv 11 (.t 10)),
 (some (11, true), .fa 12 2 (.t 1)),
 (some (11, true), .ld 13 none (.t 12)),
 (some (11, true), .bi 14 .eql (.t 13) (.c (.n .i64 0))),
 (none, .pk 15 (.t 11) (.t 14) (.c (.b false))),
 (none, .mv 16 (.t 15)),
 (some (16, true), .fa 17 3 (.t 1)),
 (some (16, true), .ld 18 none (.t 17)),
 (some (16, true), .ln 19 (.t 18)),
 (some (16, true), .bi 20 .eql (.t 19) (.c (.n .i64 0))),
 (none, .pk 21 (.t 16) (.t 20) (.c (.b false))),
 (none, .mv 22 (.t 21)),
 (some (22, true), .fa 23 4 (.t 1)),
 (some (22, true), .ld 24 none (.t 23)),
 (some (22, true), .bi 25 .eql (.t 24) (.c (.n .i64 0))),
 (none, .pk 26 (.t 22) (.t 25) (.c (.b false))),
 (none, .mv 2 (.t 26)),
 (none, .kp [2])])
 (.rt))
 (.sk)))
 (.seq (.seq (.rg [(none, .fa 27 0 (.t 1)),
 (none, .ld 28 none (.t 27)),
 (none, .bi 29 .lss (.t 28) (.c (.n .i64 1))),
 (none, .mv 30 (.t 29)),
 (some (30, false), .fa 31 0 (.t 1)),
 (some (30, false), .ld 32 none (.t 31)),
 (some (30, false), .bi 33 .gtr (.t 32) (.c (.n .i64 4294967295))),
 (none, .pk 34 (.t 30) (.c (.b true)) (.t 33)),
 (none, .mv 35 (.t 34)),
 (some (35, false), .fa 36 1 (.t 1)),
 (some (35, false), .ld 37 none (.t 36)),
 (some (35, false), .bi 38 .lss (.t 37) (.c (.n .i64 1))),
 (none, .pk 39 (.t 35) (.c (.b true)) (.t 38)),
 (none, .mv 40 (.t 39)),
 (some (40, false), .fa 41 1 (.t 1)),
 (some (40, false), .ld 42 none (.t 41)),
 (some (40, false), .bi 43 .gtr (.t 42) (.c (.n .i64 4))),
 (none, .pk 44 (.t 40) (.c (.b true)) (.t 43)),
 (none, .mv 45 (.t 44)),
 (some (45, false), .fa 46 2 (.t 1)),
 (some (45, false), .ld 47 none (.t 46)),
 (some (45, false), .ca (some 48) 39 [.t 47]),
 (some (45, false), .un 49 .not (.t 48)),
 (none, .pk 50 (.t 45) (.c (.b true)) (.t 49)),
 (none, .mv 51 (.t 50)),
 (some (51, false), .fa 52 3 (.t 1)),
 (some (51, false), .ld 53 none (.t 52)),
 (some (51, false), .ln 54 (.t 53)),
 (some (51, false), .bi 55 .gtr (.t 54) (.c (.n .i64 12))),
 (none, .pk 56 (.t 51) (.c (.b true)) (.t 55)),
 (none, .mv 57 (.t 56)),
 (some (57, false), .fa 58 4 (.t 1)),
 (some (57, false), .ld 59 none (.t 58)),
 (some (57, false), .bi 60 .lss (.t 59) (.c (.n .i64 0))),
 (none, .pk 61 (.t 57) (.c (.b true)) (.t 60)),
 (none, .mv 62 (.t 61)),
 (some (62, false), .fa 63 4 (.t 1)),
 (some (62, false), .ld 64 none (.t 63)),
 (some (62, false), .fa 65 3 (.t 1)),
 (some (62, false), .ld 66 none (.t 65)),
 (some (62, false), .ln 67 (.t 66)),
 (some (62, false), .bi 68 .gtr (.t 64) (.t 67)),
 (none, .pk 69 (.t 62) (.c (.b true)) (.t 68)),
 (none, .kp [1, 69])])
 (.ite (.t 69) (.seq (.rg [(none, .mv 2 (.c (.b false))),
 (none, .kp [2])])
 (.rt))
 (.sk)))
 (.seq (.seq (.rg [(none, .fa 70 3 (.t 1)),
 (none, .ld 71 none (.t 70)),
 (none, .ln 72 (.t 71)),
 (none, .mv 73 (.c (.n .i64 0))),
 (none, .kp [1, 71, 72, 73])])
 (.blk 0 (.lp pc16l0)))
 (.seq (.rg [(none, .mv 2 (.c (.b true))),
 (none, .kp [2])])
 (.rt)))))
theorem mr16 : MrT Try.prog 16 pc16 [.t 2] 107 := fun hn h => spec_of_run (fn := Try.f16) (by kernel_rfl) rfl (by kernel_rfl) (by kernel_rfl) hn h
theorem mk16 : MkT Try.prog 16 pc16 [.t 2] 107 := mr16.k
theorem mw16 : MwT Try.prog 16 pc16 [.t 2] 107 := mr16.w
-- 17 spec.SideValid
def pc17l0 : PC := .seq (.seq (.rg [(none, .mv 27 (.t 3)),
 (none, .fa 28 3 (.t 1)),
 (none, .ld 29 none (.t 28)),
 (none, .ln 30 (.t 29)),
 (none, .bi 31 .lss (.t 27) (.t 30)),
 (none, .kp [1, 3, 31])])
 (.ite (.t 31) (.sk)
 (.ex 0)))
 (.seq (.blk 1 (.seq (.rg [(none, .fa 34 3 (.t 1)),
 (none, .ld 35 none (.t 34)),
 (none, .mv 36 (.t 3)),
 (none, .ia 37 7 (.t 35) (.t 36)),
 (none, .ld 38 (some 7) (.t 37)),
 (none, .al 4 [.n .i64 0, .n .i64 0, .n .i64 0, .b false, .b false, .b false, .s []]),
 (none, .st 7 (.t 4) (.t 38)),
 (none, .kp [1, 3, 4])])
 (.seq (.dr [[], [0], [0, 1], [0, 1, 2], [0, 1, 2, 3], [0, 1, 2, 3, 4], [0, 1, 2, 3], [0, 1, 2, 3, 6], [0, 1, 2, 3], [0, 1, 2, 3, 6, 7, 8], [0, 1, 2, 3, 4, 5, 6, 7, 8, 9], [0, 1, 2, 3, 4, 5, 6, 7, 8, 9, 10], [0, 1, 2, 3, 4, 5, 6, 7, 8, 9, 10, 11], [0, 1, 2, 3, 4, 5, 6, 7, 8, 9, 10, 11, 12], [0, 1, 2, 3, 4, 5, 6, 7, 8, 9, 10, 11, 12, 13], [0, 1, 2, 3, 4, 5, 6, 7, 8, 9, 10, 11, 12], [0, 1, 2, 3, 4, 5, 6, 7, 8, 9, 10, 11, 12, 15], [0, 1, 2, 3, 4, 5, 6, 7, 8, 9, 10, 11, 12, 13, 14, 15, 16], [0, 1, 2, 3, 4, 5, 6, 7, 8, 9, 10, 11, 12, 13, 14, 15, 16, 17], [0, 1, 2, 3, 4, 5, 6, 7, 8, 9, 10, 11, 12, 13, 14, 15, 16, 17, 18], [0, 1, 2, 3, 4, 5, 6, 7, 8, 9, 10, 11, 12, 13, 14, 15, 16, 17, 18, 19], [0, 1, 2, 3, 4, 5, 6, 7, 8, 9, 10, 11, 12, 13, 14, 15, 16, 17, 18, 19, 20], [0, 1, 2, 3, 4, 5, 6, 7, 8, 9, 10, 11, 12, 13, 14, 15, 16, 17, 18, 19], [0, 1, 2, 3, 4, 5, 6, 7, 8, 9, 10, 11, 12, 13, 14, 15, 16, 17, 18, 19, 20, 21, 22], [0, 1, 2, 3, 4, 5, 6, 7, 8, 9, 10, 11, 12, 13, 14, 15, 16, 17, 18, 19], [0, 1, 2, 3, 4, 5, 6, 7, 8, 9, 10, 11, 12, 13, 14, 15, 16, 17, 18, 19, 20, 21, 22, 23, 24], [0, 1, 2, 3, 4, 5, 6, 7, 8, 9, 10, 11, 12, 13, 14, 15, 16, 17, 18, 19, 20, 21, 22, 23, 24, 25], [0, 1, 2, 3, 4, 5, 6, 7, 8, 9, 10, 11, 12, 13, 14, 15, 16, 17, 18, 19, 20, 21, 22, 23, 24, 25, 26]]
 (.q 0 (none, .ld 39 (some 7) (.t 4))
 (.alt 1 (none, .ca (some 40) 42 [.t 39]) [false]
 (.q 2 (none, .un 41 .not (.t 40))
 (.q 3 (none, .mv 42 (.t 41))
 (.q 4 (some (42, false), .fa 43 0 (.t 4))
 (.q 5 (some (42, false), .ld 44 none (.t 43))
 (.q 6 (some (42, false), .fa 45 2 (.t 1))
 (.q 7 (some (42, false), .ld 46 none (.t 45))
 (.q 8 (some (42, false), .mv 47 (.t 3))
 (.alt 9 (some (42, false), .ca (some 48) 43 [.t 46, .t 47]) [false, false, false, true, true, false, false, false]
 (.q 10 (some (42, false), .bi 49 .neq (.t 44) (.t 48))
 (.q 11 (none, .pk 50 (.t 42) (.c (.b true)) (.t 49))
 (.q 12 (none, .mv 51 (.t 50))
 (.q 13 (some (51, false), .fa 52 1 (.t 4))
 (.q 14 (some (51, false), .ld 53 none (.t 52))
 (.q 15 (some (51, false), .fa 54 1 (.t 1))
 (.q 16 (some (51, false), .ld 55 none (.t 54))
 (.q 17 (some (51, false), .bi 56 .geq (.t 53) (.t 55))
 (.q 18 (none, .pk 57 (.t 51) (.c (.b true)) (.t 56))
 (.q 19 (none, .mv 58 (.t 57))
 (.q 20 (some (58, false), .fa 59 3 (.t 1))
 (.q 21 (some (58, false), .ld 60 none (.t 59))
 (.q 22 (some (58, false), .mv 61 (.t 3))
 (.q 23 (some (58, false), .sc 62 7 (.t 60) none (some (.t 61)))
 (.q 24 (some (58, false), .ld 63 (some 7) (.t 4))
 (.alt 25 (some (58, false), .ca (some 64) 44 [.t 62, .t 63]) [false, false, false, false, false, false, false, false, false, false, false, false, false, false, false, false, false, false, false, false, false, false, false]
 (.q 26 (some (58, false), .un 65 .not (.t 64))
 (.q 27 (none, .pk 66 (.t 58) (.c (.b true)) (.t 65))
 (.done)))
 (.stop)))))))))))))))))
 (.stop)))))))))
 (.stop))) [1, 3, 66])
 (.ite (.t 66) (.seq (.rg [(none, .mv 2 (.c (.b false))),
 (none, .kp [2])])
 (.rt))
 (.sk)))))
 (.rg [(none, .mv 32 (.t 3)),
 (none, .bi 33 .add (.t 32) (.c (.n .i64 1))),
 (none, .mv 3 (.t 33)),
 (none, .kp [1, 3])]))
def pc17 : PC := .seq (.rg [(none, .bx 1 (.t 0)),
 (none, .mv 2 (.c (.b false))),
 (none, .kp [1])])
 (.seq (.seq (.rg [(none, .fa 5 0 (.t 1)),
 (none, .ld 6 none (.t 5)),
 (none, .bi 7 .eql (.t 6) (.c (.n .i64 0))),
 (none, .kp [1, 7])])
 (.ite (.t 7) (.seq (.rg [(none, .fa 8 1 (.t 1)),
 (none, .ld 9 none (.t 8)),
 (none, .bi 10 .eql (.t 9) (.c (.n .i64 0))),
 (none, .mv 11 (.t 10)),
 (some (11, true), .fa 12 2 (.t 1)),
 (some (11, true), .ld 13 none (.t 12)),
 (some (11, true), .bi 14 .eql (.t 13) (.c (.n .i64 0))),
 (none, .pk 15 (.t 11) (.t 14) (.c (.b false))),
 (none, .mv 16 (.t 15)),
 (some (16, true), .fa 17 3 (.t 1)),
 (some (16, true), .ld 18 none (.t 17)),
 (some (16, true), .ln 19 (.t 18)),
 (some (16, true), .bi 20 .eql (.t 19) (.c (.n .i64 0))),
 (none, .pk 21 (.t 16) (.t 20) (.c (.b false))),
 (none, .mv 22 (.t 21)),
 (some (22, true), .fa 23 4 (.t 1)),
 (some (22, true), .ld 24 none (.t 23)),
 (some (22, true), .bi 25 .eql (.t 24) (.c (.n .i64 0))),
 (none, .pk 26 (.t 22) (.t 25) (.c (.b false))),
 (none, .mv 2 (.t 26)),
 (none, .kp [2])])
 (.rt))
 (.sk)))
 (.seq (.seq (.rg [(none, .mv 3 (.c (.n .i64 0))),
 (none, .kp [1, 3])])
 (.blk 0 (.lp pc17l0)))
 (.seq (.rg [(none, .fa 67 0 (.t 1)),
 (none, .ld 68 none (.t 67)),
 (none, .ca (some 69) 45 [.t 68, .c (.n .i64 1), .c (.n .i64 4294967295)]),
 (none, .mv 70 (.t 69)),
 (some (70, true), .fa 71 1 (.t 1)),
 (some (70, true), .ld 72 none (.t 71)),
 (some (70, true), .ca (some 73) 45 [.t 72, .c (.n .i64 1), .c (.n .i64 4)]),
 (none, .pk 74 (.t 70) (.t 73) (.c (.b false))),
 (none, .mv 75 (.t 74)),
 (some (75, true), .fa 76 2 (.t 1)),
 (some (75, true), .ld 77 none (.t 76)),
 (some (75, true), .ca (some 78) 46 [.t 77]),
 (none, .pk 79 (.t 75) (.t 78) (.c (.b false))),
 (none, .mv 80 (.t 79)),
 (some (80, true), .fa 81 3 (.t 1)),
 (some (80, true), .ld 82 none (.t 81)),
 (some (80, true), .ln 83 (.t 82)),
 (some (80, true), .bi 84 .leq (.t 83) (.c (.n .i64 12))),
 (none, .pk 85 (.t 80) (.t 84) (.c (.b false))),
 (none, .mv 86 (.t 85)),
 (some (86, true), .fa 87 4 (.t 1)),
 (some (86, true), .ld 88 none (.t 87)),
 (some (86, true), .fa 89 3 (.t 1)),
 (some (86, true), .ld 90 none (.t 89)),
 (some (86, true), .ln 91 (.t 90)),
 (some (86, true), .ca (some 92) 45 [.t 88, .c (.n .i64 0), .t 91]),
 (none, .pk 93 (.t 86) (.t 92) (.c (.b false))),
 (none, .mv 2 (.t 93)),
 (none, .kp [2])])
 (.rt))))
theorem mr17 : MrT Try.prog 17 pc17 [.t 2] 94 := fun hn h => spec_of_run (fn := Try.f17) (by kernel_rfl) rfl (by kernel_rfl) (by kernel_rfl) hn h
theorem mk17 : MkT Try.prog 17 pc17 [.t 2] 94 := mr17.k
theorem mw17 : MwT Try.prog 17 pc17 [.t 2] 94 := mr17.w
-- 18 impl.SerialAdd
def pc18 : PC := .seq (.rg [(none, .mv 4 (.c (.n .i64 0))),
 (none, .kp [0, 1])])
 (.seq (.seq (.rg [(none, .mv 5 (.t 0)),
 (none, .ca (some 6) 39 [.t 5]),
 (none, .un 7 .not (.t 6)),
 (none, .kp [0, 1, 7])])
 (.ite (.t 7) (.seq (.rg [(none, .mv 4 (.c (.n .i64 (-1)))),
 (none, .kp [4])])
 (.rt))
 (.sk)))
 (.seq (.rg [(none, .mv 8 (.t 0)),
 (none, .mv 9 (.t 1)),
 (none, .bi 10 .rem (.t 9) (.c (.n .i64 65536))),
 (none, .bi 11 .add (.t 8) (.t 10)),
 (none, .bi 12 .rem (.t 11) (.c (.n .i64 65536))),
 (none, .bi 13 .add (.t 12) (.c (.n .i64 65536))),
 (none, .bi 14 .rem (.t 13) (.c (.n .i64 65536))),
 (none, .mv 4 (.t 14)),
 (none, .kp [4])])
 (.rt)))
theorem mr18 : MrT Try.prog 18 pc18 [.t 4] 15 := fun hn h => spec_of_run (fn := Try.f18) (by kernel_rfl) rfl (by kernel_rfl) (by kernel_rfl) hn h
theorem mk18 : MkT Try.prog 18 pc18 [.t 4] 15 := mr18.k
theorem mw18 : MwT Try.prog 18 pc18 [.t 4] 15 := mr18.w
-- 19 spec.DrawAssocValid
def pc19 : PC := .seq (.rg [(none, .al 2 [.n .i64 0, .n .i64 0, .n .i64 0, .b false, .n .i64 0, .n .i64 0, .n .i64 0, .nil, .n .i64 0, .n .i64 0, .n .i64 0, .n .i64 0, .nil, .n .i64 0]),
 (none, .kp [0, 2])])
 (.seq (.rg [(none, .mv 3 (.t 0)),
 (none, .ca (some 4) 38 [.t 3]),
 (none, .ca (some 5) 47 [.t 4]),
 (none, .st 14 (.t 2) (.t 5)),
 (none, .kp [2])])
 (.rt))
theorem mr19 : MrT Try.prog 19 pc19 [.c 2 (some 14)] 6 := fun hn h => spec_of_run (fn := Try.f19) (by kernel_rfl) rfl (by kernel_rfl) (by kernel_rfl) hn h
theorem mk19 : MkT Try.prog 19 pc19 [.c 2 (some 14)] 6 := mr19.k
theorem mw19 : MwT Try.prog 19 pc19 [.c 2 (some 14)] 6 := mr19.w
-- 20 impl.AssocValid
def pc20 : PC := .seq (.rg [(none, .bx 1 (.t 0)),
 (none, .mv 2 (.c (.b false))),
 (none, .kp [1])])
 (.seq (.seq (.rg [(none, .fa 3 0 (.t 1)),
 (none, .ld 4 none (.t 3)),
 (none, .bi 5 .lss (.t 4) (.c (.n .i64 1))),
 (none, .mv 6 (.t 5)),
 (some (6, false), .fa 7 0 (.t 1)),
 (some (6, false), .ld 8 none (.t 7)),
 (some (6, false), .bi 9 .gtr (.t 8) (.c (.n .i64 65535))),
 (none, .pk 10 (.t 6) (.c (.b true)) (.t 9)),
 (none, .mv 11 (.t 10)),
 (some (11, false), .fa 12 1 (.t 1)),
 (some (11, false), .ld 13 none (.t 12)),
 (some (11, false), .bi 14 .lss (.t 13) (.c (.n .i64 1))),
 (none, .pk 15 (.t 11) (.c (.b true)) (.t 14)),
 (none, .mv 16 (.t 15)),
 (some (16, false), .fa 17 1 (.t 1)),
 (some (16, false), .ld 18 none (.t 17)),
 (some (16, false), .bi 19 .gtr (.t 18) (.c (.n .i64 65535))),
 (none, .pk 20 (.t 16) (.c (.b true)) (.t 19)),
 (none, .mv 21 (.t 20)),
 (some (21, false), .fa 22 0 (.t 1)),
 (some (21, false), .ld 23 none (.t 22)),
 (some (21, false), .fa 24 1 (.t 1)),
 (some (21, false), .ld 25 none (.t 24)),
 (some (21, false), .bi 26 .eql (.t 23) (.t 25)),
 (none, .pk 27 (.t 21) (.c (.b true)) (.t 26)),
 (none, .mv 28 (.t 27)),
 (some (28, false), .fa 29 2 (.t 1)),
 (some (28, false), .ld 30 none (.t 29)),
 (some (28, false), .bi 31 .lss (.t 30) (.c (.n .i64 0))),
 (none, .pk 32 (.t 28) (.c (.b true)) (.t 31)),
 (none, .mv 33 (.t 32)),
 (some (33, false), .fa 34 2 (.t 1)),
 (some (33, false), .ld 35 none (.t 34)),
 (some (33, false), .bi 36 .gtr (.t 35) (.c (.n .i64 7))),
 (none, .pk 37 (.t 33) (.c (.b true)) (.t 36)),
 (none, .mv 38 (.t 37)),
 (some (38, false), .fa 39 4 (.t 1)),
 (some (38, false), .ld 40 (some 5) (.t 39)),
 (some (38, false), .ca (some 41) 16 [.t 40]),
 (some (38, false), .un 42 .not (.t 41)),
 (none, .pk 43 (.t 38) (.c (.b true)) (.t 42)),
 (none, .mv 44 (.t 43)),
 (some (44, false), .fa 45 9 (.t 1)),
 (some (44, false), .ld 46 (some 5) (.t 45)),
 (some (44, false), .ca (some 47) 16 [.t 46]),
 (some (44, false), .un 48 .not (.t 47)),
 (none, .pk 49 (.t 44) (.c (.b true)) (.t 48)),
 (none, .kp [1, 49])])
 (.ite (.t 49) (.seq (.rg [(none, .mv 2 (.c (.b false))),
 (none, .kp [2])])
 (.rt))
 (.sk)))
 (.seq (.seq (.rg [(none, .fa 50 4 (.t 1)),
 (none, .fa 51 0 (.t 50)),
 (none, .ld 52 none (.t 51)),
 (none, .bi 53 .gtr (.t 52) (.c (.n .i64 0))),
 (none, .fa 54 2 (.t 1)),
 (none, .ld 55 none (.t 54)),
 (none, .bi 56 .geq (.t 55) (.c (.n .i64 1))),
 (none, .bb 57 true (.t 53) (.t 56)),
 (none, .mv 58 (.t 57)),
 (some (58, false), .fa 59 2 (.t 1)),
 (some (58, false), .ld 60 none (.t 59)),
 (some (58, false), .bi 61 .neq (.t 60) (.c (.n .i64 7))),
 (some (58, false), .mv 62 (.t 61)),
 (some (62, true), .fa 63 9 (.t 1)),
 (some (62, true), .fa 64 0 (.t 63)),
 (some (62, true), .ld 65 none (.t 64)),
 (some (62, true), .bi 66 .gtr (.t 65) (.c (.n .i64 0))),
 (some (62, true), .fa 67 2 (.t 1)),
 (some (62, true), .ld 68 none (.t 67)),
 (some (62, true), .bi 69 .geq (.t 68) (.c (.n .i64 2))),
 (some (62, true), .bb 70 true (.t 66) (.t 69)),
 (some (58, false), .pk 71 (.t 62) (.t 70) (.c (.b false))),
 (none, .pk 72 (.t 58) (.c (.b true)) (.t 71)),
 (none, .kp [1, 72])])
 (.ite (.t 72) (.seq (.rg [(none, .mv 2 (.c (.b false))),
 (none, .kp [2])])
 (.rt))
 (.sk)))
 (.seq (.seq (.rg [(none, .fa 73 2 (.t 1)),
 (none, .ld 74 none (.t 73)),
 (none, .bi 75 .lss (.t 74) (.c (.n .i64 3))),
 (none, .mv 76 (.t 75)),
 (some (76, true), .fa 77 4 (.t 1)),
 (some (76, true), .fa 78 3 (.t 77)),
 (some (76, true), .ld 79 none (.t 78)),
 (some (76, true), .ln 80 (.t 79)),
 (some (76, true), .fa 81 9 (.t 1)),
 (some (76, true), .fa 82 3 (.t 81)),
 (some (76, true), .ld 83 none (.t 82)),
 (some (76, true), .ln 84 (.t 83)),
 (some (76, true), .bi 85 .add (.t 80) (.t 84)),
 (some (76, true), .bi 86 .gtr (.t 85) (.c (.n .i64 0))),
 (none, .pk 87 (.t 76) (.t 86) (.c (.b false))),
 (none, .kp [1, 87])])
 (.ite (.t 87) (.seq (.rg [(none, .mv 2 (.c (.b false))),
 (none, .kp [2])])
 (.rt))
 (.sk)))
 (.seq (.rg [(none, .fa 88 3 (.t 1)),
 (none, .ld 89 none (.t 88)),
 (none, .un 90 .not (.t 89)),
 (none, .mv 91 (.t 90)),
 (some (91, false), .fa 92 2 (.t 1)),
 (some (91, false), .ld 93 none (.t 92)),
 (some (91, false), .bi 94 .geq (.t 93) (.c (.n .i64 5))),
 (none, .pk 95 (.t 91) (.c (.b true)) (.t 94)),
 (none, .mv 2 (.t 95)),
 (none, .kp [2])])
 (.rt)))))
theorem mr20 : MrT Try.prog 20 pc20 [.t 2] 96 := fun hn h => spec_of_run (fn := Try.f20) (by kernel_rfl) rfl (by kernel_rfl) (by kernel_rfl) hn h
theorem mk20 : MkT Try.prog 20 pc20 [.t 2] 96 := mr20.k
theorem mw20 : MwT Try.prog 20 pc20 [.t 2] 96 := mr20.w
-- 21 spec.AssocValid
def pc21 : PC := .seq (.rg [(none, .bx 1 (.t 0)),
 (none, .mv 2 (.c (.b false))),
 (none, .kp [1])])
 (.seq (.seq (.rg [(none, .fa 3 0 (.t 1)),
 (none, .ld 4 none (.t 3)),
 (none, .ca (some 5) 45 [.t 4, .c (.n .i64 1), .c (.n .i64 65535)]),
 (none, .un 6 .not (.t 5)),
 (none, .mv 7 (.t 6)),
 (some (7, false), .fa 8 1 (.t 1)),
 (some (7, false), .ld 9 none (.t 8)),
 (some (7, false), .ca (some 10) 45 [.t 9, .c (.n .i64 1), .c (.n .i64 65535)]),
 (some (7, false), .un 11 .not (.t 10)),
 (none, .pk 12 (.t 7) (.c (.b true)) (.t 11)),
 (none, .mv 13 (.t 12)),
 (some (13, false), .fa 14 0 (.t 1)),
 (some (13, false), .ld 15 none (.t 14)),
 (some (13, false), .fa 16 1 (.t 1)),
 (some (13, false), .ld 17 none (.t 16)),
 (some (13, false), .bi 18 .eql (.t 15) (.t 17)),
 (none, .pk 19 (.t 13) (.c (.b true)) (.t 18)),
 (none, .mv 20 (.t 19)),
 (some (20, false), .fa 21 2 (.t 1)),
 (some (20, false), .ld 22 none (.t 21)),
 (some (20, false), .ca (some 23) 45 [.t 22, .c (.n .i64 0), .c (.n .i64 7)]),
 (some (20, false), .un 24 .not (.t 23)),
 (none, .pk 25 (.t 20) (.c (.b true)) (.t 24)),
 (none, .mv 26 (.t 25)),
 (some (26, false), .fa 27 4 (.t 1)),
 (some (26, false), .ld 28 (some 5) (.t 27)),
 (some (26, false), .ca (some 29) 17 [.t 28]),
 (some (26, false), .un 30 .not (.t 29)),
 (none, .pk 31 (.t 26) (.c (.b true)) (.t 30)),
 (none, .mv 32 (.t 31)),
 (some (32, false), .fa 33 9 (.t 1)),
 (some (32, false), .ld 34 (some 5) (.t 33)),
 (some (32, false), .ca (some 35) 17 [.t 34]),
 (some (32, false), .un 36 .not (.t 35)),
 (none, .pk 37 (.t 32) (.c (.b true)) (.t 36)),
 (none, .kp [1, 37])])
 (.ite (.t 37) (.seq (.rg [(none, .mv 2 (.c (.b false))),
 (none, .kp [2])])
 (.rt))
 (.sk)))
 (.seq (.seq (.rg [(none, .fa 38 4 (.t 1)),
 (none, .fa 39 0 (.t 38)),
 (none, .ld 40 none (.t 39)),
 (none, .bi 41 .gtr (.t 40) (.c (.n .i64 0))),
 (none, .fa 42 2 (.t 1)),
 (none, .ld 43 none (.t 42)),
 (none, .bi 44 .geq (.t 43) (.c (.n .i64 1))),
 (none, .bb 45 true (.t 41) (.t 44)),
 (none, .mv 46 (.t 45)),
 (some (46, false), .fa 47 2 (.t 1)),
 (some (46, false), .ld 48 none (.t 47)),
 (some (46, false), .bi 49 .neq (.t 48) (.c (.n .i64 7))),
 (some (46, false), .mv 50 (.t 49)),
 (some (50, true), .fa 51 9 (.t 1)),
 (some (50, true), .fa 52 0 (.t 51)),
 (some (50, true), .ld 53 none (.t 52)),
 (some (50, true), .bi 54 .gtr (.t 53) (.c (.n .i64 0))),
 (some (50, true), .fa 55 2 (.t 1)),
 (some (50, true), .ld 56 none (.t 55)),
 (some (50, true), .bi 57 .geq (.t 56) (.c (.n .i64 2))),
 (some (50, true), .bb 58 true (.t 54) (.t 57)),
 (some (46, false), .pk 59 (.t 50) (.t 58) (.c (.b false))),
 (none, .pk 60 (.t 46) (.c (.b true)) (.t 59)),
 (none, .kp [1, 60])])
 (.ite (.t 60) (.seq (.rg [(none, .mv 2 (.c (.b false))),
 (none, .kp [2])])
 (.rt))
 (.sk)))
 (.seq (.seq (.rg [(none, .fa 61 2 (.t 1)),
 (none, .ld 62 none (.t 61)),
 (none, .ca (some 63) 48 [.t 62]),
 (none, .un 64 .not (.t 63)),
 (none, .mv 65 (.t 64)),
 (some (65, true), .fa 66 4 (.t 1)),
 (some (65, true), .fa 67 3 (.t 66)),
 (some (65, true), .ld 68 none (.t 67)),
 (some (65, true), .ln 69 (.t 68)),
 (some (65, true), .fa 70 9 (.t 1)),
 (some (65, true), .fa 71 3 (.t 70)),
 (some (65, true), .ld 72 none (.t 71)),
 (some (65, true), .ln 73 (.t 72)),
 (some (65, true), .bi 74 .add (.t 69) (.t 73)),
 (some (65, true), .bi 75 .gtr (.t 74) (.c (.n .i64 0))),
 (none, .pk 76 (.t 65) (.t 75) (.c (.b false))),
 (none, .kp [1, 76])])
 (.ite (.t 76) (.seq (.rg [(none, .mv 2 (.c (.b false))),
 (none, .kp [2])])
 (.rt))
 (.sk)))
 (.seq (.rg [(none, .fa 77 3 (.t 1)),
 (none, .ld 78 none (.t 77)),
 (none, .un 79 .not (.t 78)),
 (none, .mv 80 (.t 79)),
 (some (80, false), .fa 81 2 (.t 1)),
 (some (80, false), .ld 82 none (.t 81)),
 (some (80, false), .bi 83 .geq (.t 82) (.c (.n .i64 5))),
 (none, .pk 84 (.t 80) (.c (.b true)) (.t 83)),
 (none, .mv 2 (.t 84)),
 (none, .kp [2])])
 (.rt)))))
theorem mr21 : MrT Try.prog 21 pc21 [.t 2] 85 := fun hn h => spec_of_run (fn := Try.f21) (by kernel_rfl) rfl (by kernel_rfl) (by kernel_rfl) hn h
theorem mk21 : MkT Try.prog 21 pc21 [.t 2] 85 := mr21.k
theorem mw21 : MwT Try.prog 21 pc21 [.t 2] 85 := mr21.w
-- 32 spec.MonitorValid
def pc32l0 : PC := .seq (.seq (.rg [(none, .mv 29 (.t 4)),
 (none, .mv 30 (.t 3)),
 (none, .bi 31 .lss (.t 29) (.t 30)),
 (none, .kp [1, 3, 4, 31])])
 (.ite (.t 31) (.sk)
 (.ex 2)))
 (.seq (.blk 3 (.seq (.dr [[], [0], [], [0, 1, 2], [0, 1, 2, 3], [], [5], [], [5, 6, 7], [5, 6, 7, 8], [0, 1, 2, 3, 4, 5, 6, 7, 8, 9]]
 (.q 0 (none, .fa 34 1 (.t 1))
 (.q 1 (none, .ld 35 none (.t 34))
 (.q 2 (none, .mv 36 (.t 4))
 (.q 3 (none, .ia 37 14 (.t 35) (.t 36))
 (.q 4 (none, .ld 38 (some 14) (.t 37))
 (.q 5 (none, .fa 39 1 (.t 1))
 (.q 6 (none, .ld 40 none (.t 39))
 (.q 7 (none, .mv 41 (.t 3))
 (.q 8 (none, .ia 42 14 (.t 40) (.t 41))
 (.q 9 (none, .ld 43 (some 14) (.t 42))
 (.alt 10 (none, .ca (some 44) 54 [.t 38, .t 43]) [false, false, false, false, false, false, false, false, false, false]
 (.done)
 (.stop)))))))))))) [1, 3, 4, 44])
 (.ite (.t 44) (.seq (.rg [(none, .mv 2 (.c (.b false))),
 (none, .kp [2])])
 (.rt))
 (.sk))))
 (.rg [(none, .mv 32 (.t 4)),
 (none, .bi 33 .add (.t 32) (.c (.n .i64 1))),
 (none, .mv 4 (.t 33)),
 (none, .kp [1, 3, 4])]))
def pc32l1 : PC := .seq (.seq (.rg [(none, .mv 6 (.t 3)),
 (none, .fa 7 1 (.t 1)),
 (none, .ld 8 none (.t 7)),
 (none, .ln 9 (.t 8)),
 (none, .bi 10 .lss (.t 6) (.t 9)),
 (none, .kp [1, 3, 10])])
 (.ite (.t 10) (.sk)
 (.ex 0)))
 (.seq (.blk 1 (.seq (.seq (.rg [(none, .fa 13 1 (.t 1)),
 (none, .ld 14 none (.t 13)),
 (none, .mv 15 (.t 3)),
 (none, .ia 16 14 (.t 14) (.t 15)),
 (none, .ld 17 (some 14) (.t 16)),
 (none, .ca (some 18) 21 [.t 17]),
 (none, .un 19 .not (.t 18)),
 (none, .mv 20 (.t 19)),
 (some (20, false), .fa 21 1 (.t 1)),
 (some (20, false), .ld 22 none (.t 21)),
 (some (20, false), .mv 23 (.t 3)),
 (some (20, false), .ia 24 14 (.t 22) (.t 23)),
 (some (20, false), .fa 25 2 (.t 24)),
 (some (20, false), .ld 26 none (.t 25)),
 (some (20, false), .bi 27 .eql (.t 26) (.c (.n .i64 0))),
 (none, .pk 28 (.t 20) (.c (.b true)) (.t 27)),
 (none, .kp [1, 3, 28])])
 (.ite (.t 28) (.seq (.rg [(none, .mv 2 (.c (.b false))),
 (none, .kp [2])])
 (.rt))
 (.sk)))
 (.seq (.rg [(none, .mv 4 (.c (.n .i64 0))),
 (none, .kp [1, 3, 4])])
 (.blk 2 (.lp pc32l0)))))
 (.rg [(none, .mv 11 (.t 3)),
 (none, .bi 12 .add (.t 11) (.c (.n .i64 1))),
 (none, .mv 3 (.t 12)),
 (none, .kp [1, 3])]))
def pc32l2 : PC := .seq (.seq (.rg [(none, .mv 45 (.t 5)),
 (none, .fa 46 2 (.t 1)),
 (none, .ld 47 none (.t 46)),
 (none, .ln 48 (.t 47)),
 (none, .bi 49 .lss (.t 45) (.t 48)),
 (none, .kp [1, 5, 49])])
 (.ite (.t 49) (.sk)
 (.ex 4)))
 (.seq (.blk 5 (.seq (.dr [[], [0], [], [0, 1, 2], [0, 1, 2, 3], [], [5], [0, 1, 2, 3, 4, 5, 6], [0, 1, 2, 3, 4, 5, 6, 7], [0, 1, 2, 3, 4, 5, 6, 7, 8], [0, 1, 2, 3, 4, 5, 6, 7, 8, 9], [0, 1, 2, 3, 4, 5, 6, 7, 8, 9, 10], [0, 1, 2, 3, 4, 5, 6, 7, 8, 9, 10, 11], [0, 1, 2, 3, 4, 5, 6, 7, 8, 9, 10, 11, 12], [0, 1, 2, 3, 4, 5, 6, 7, 8, 9, 10, 11, 12, 13], [0, 1, 2, 3, 4, 5, 6, 7, 8, 9, 10, 11, 12], [0, 1, 2, 3, 4, 5, 6, 7, 8, 9, 10, 11, 12, 15], [0, 1, 2, 3, 4, 5, 6, 7, 8, 9, 10, 11, 12, 13, 14, 15, 16], [0, 1, 2, 3, 4, 5, 6, 7, 8, 9, 10, 11, 12, 13, 14, 15, 16, 17], [0, 1, 2, 3, 4, 5, 6, 7, 8, 9, 10, 11, 12], [0, 1, 2, 3, 4, 5, 6, 7, 8, 9, 10, 11, 12, 19], [0, 1, 2, 3, 4, 5, 6, 7, 8, 9, 10, 11, 12], [0, 1, 2, 3, 4, 5, 6, 7, 8, 9, 10, 11, 12, 19, 20, 21], [0, 1, 2, 3, 4, 5, 6, 7, 8, 9, 10, 11, 12, 19, 20, 21, 22], [0, 1, 2, 3, 4, 5, 6, 7, 8, 9, 10, 11, 12, 13, 14, 15, 16, 17, 18, 19, 20, 21, 22, 23], [0, 1, 2, 3, 4, 5, 6, 7, 8, 9, 10, 11, 12, 13, 14, 15, 16, 17, 18, 19, 20, 21, 22, 23, 24], [0, 1, 2, 3, 4, 5, 6, 7, 8, 9, 10, 11, 12, 13, 14, 15, 16, 17, 18, 19, 20, 21, 22, 23, 24, 25], [0, 1, 2, 3, 4, 5, 6, 7, 8, 9, 10, 11, 12, 13, 14, 15, 16, 17, 18, 19, 20, 21, 22, 23, 24, 25, 26]]
 (.q 0 (none, .fa 52 2 (.t 1))
 (.q 1 (none, .ld 53 none (.t 52))
 (.q 2 (none, .mv 54 (.t 5))
 (.q 3 (none, .ia 55 2 (.t 53) (.t 54))
 (.q 4 (none, .ld 56 (some 2) (.t 55))
 (.q 5 (none, .fa 57 0 (.t 1))
 (.q 6 (none, .ld 58 none (.t 57))
 (.alt 7 (none, .ca (some 59) 55 [.t 56, .t 58]) [false, false, false, false, false, false, false]
 (.q 8 (none, .un 60 .not (.t 59))
 (.q 9 (none, .mv 61 (.t 60))
 (.q 10 (some (61, false), .mv 62 (.t 5))
 (.q 11 (some (61, false), .bi 63 .gtr (.t 62) (.c (.n .i64 0)))
 (.q 12 (some (61, false), .mv 64 (.t 63))
 (.q 13 (some (64, true), .fa 65 2 (.t 1))
 (.q 14 (some (64, true), .ld 66 none (.t 65))
 (.q 15 (some (64, true), .mv 67 (.t 5))
 (.q 16 (some (64, true), .bi 68 .sub (.t 67) (.c (.n .i64 1)))
 (.q 17 (some (64, true), .ia 69 2 (.t 66) (.t 68))
 (.q 18 (some (64, true), .ld 70 (some 2) (.t 69))
 (.q 19 (some (64, true), .fa 71 2 (.t 1))
 (.q 20 (some (64, true), .ld 72 none (.t 71))
 (.q 21 (some (64, true), .mv 73 (.t 5))
 (.q 22 (some (64, true), .ia 74 2 (.t 72) (.t 73))
 (.q 23 (some (64, true), .ld 75 (some 2) (.t 74))
 (.alt 24 (some (64, true), .ca (some 76) 56 [.t 70, .t 75]) [false, false, false, false, false, false, false, false, false, false, false, false, false, false, false, false, false, false, false, false, false, false, false]
 (.q 25 (some (64, true), .un 77 .not (.t 76))
 (.q 26 (some (61, false), .pk 78 (.t 64) (.t 77) (.c (.b false)))
 (.q 27 (none, .pk 79 (.t 61) (.c (.b true)) (.t 78))
 (.done))))
 (.stop))))))))))))))))))
 (.stop))))))))) [1, 5, 79])
 (.ite (.t 79) (.seq (.rg [(none, .mv 2 (.c (.b false))),
 (none, .kp [2])])
 (.rt))
 (.sk))))
 (.rg [(none, .mv 50 (.t 5)),
 (none, .bi 51 .add (.t 50) (.c (.n .i64 1))),
 (none, .mv 5 (.t 51)),
 (none, .kp [1, 5])]))
def pc32 : PC := .seq (.rg [(none, .bx 1 (.t 0)),
 (none, .mv 2 (.c (.b false))),
 (none, .kp [1])])
 (.seq (.seq (.rg [(none, .mv 3 (.c (.n .i64 0))),
 (none, .kp [1, 3])])
 (.blk 0 (.lp pc32l1)))
 (.seq (.seq (.rg [(none, .mv 5 (.c (.n .i64 0))),
 (none, .kp [1, 5])])
 (.blk 4 (.lp pc32l2)))
 (.seq (.rg [(none, .fa 80 0 (.t 1)),
 (none, .ld 81 none (.t 80)),
 (none, .ca (some 82) 45 [.t 81, .c (.n .i64 0), .c (.n .i64 60)]),
 (none, .mv 83 (.t 82)),
 (some (83, true), .fa 84 1 (.t 1)),
 (some (83, true), .ld 85 none (.t 84)),
 (some (83, true), .ln 86 (.t 85)),
 (some (83, true), .bi 87 .leq (.t 86) (.c (.n .i64 3))),
 (none, .pk 88 (.t 83) (.t 87) (.c (.b false))),
 (none, .mv 2 (.t 88)),
 (none, .kp [2])])
 (.rt))))
theorem mr32 : MrT Try.prog 32 pc32 [.t 2] 89 := fun hn h => spec_of_run (fn := Try.f32) (by kernel_rfl) rfl (by kernel_rfl) (by kernel_rfl) hn h
theorem mk32 : MkT Try.prog 32 pc32 [.t 2] 89 := mr32.k
theorem mw32 : MwT Try.prog 32 pc32 [.t 2] 89 := mr32.w
-- 37 spec.l92Side
def pc37 : PC := .seq (.rg [(none, .al 2 [.n .i64 0, .n .i64 0, .n .i64 0, .nil, .n .i64 0]),
 (none, .kp [0, 2])])
 (.seq (.rg [(none, .mv 6 (.t 0)),
 (none, .ca (some 7) 61 [.t 6]),
 (none, .al 3 [.n .i64 0, .n .i64 0, .n .i64 0, .b false, .n .i64 0, .n .i64 0, .n .i64 0, .nil, .n .i64 0, .n .i64 0, .n .i64 0, .n .i64 0, .nil, .n .i64 0]),
 (none, .st 14 (.t 3) (.t 7)),
 (none, .kp [0, 2, 3])])
 (.seq (.seq (.rg [(none, .mv 8 (.t 0)),
 (none, .ca (some 9) 57 [.t 8, .c (.n .i64 3)]),
 (none, .bi 10 .gtr (.t 9) (.c (.n .i64 0))),
 (none, .kp [0, 2, 3, 10])])
 (.ite (.t 10) (.seq (.rg [(none, .mv 11 (.t 0)),
 (none, .ca (some 12) 64 [.t 11]),
 (none, .ca (some 13) 63 [.t 12, .c (.n .i64 0)]),
 (none, .ca (some 14) 62 [.t 13]),
 (none, .al 4 [.n .i64 0, .nil, .nil]),
 (none, .st 3 (.t 4) (.t 14)),
 (none, .kp [0, 2, 3, 4])])
 (.seq (.rg [(none, .fa 15 1 (.t 4)),
 (none, .ld 16 none (.t 15)),
 (none, .ln 17 (.t 16)),
 (none, .bi 18 .gtr (.t 17) (.c (.n .i64 0))),
 (none, .kp [0, 2, 3, 4, 18])])
 (.ite (.t 18) (.rg [(none, .fa 19 1 (.t 4)),
 (none, .ld 20 none (.t 19)),
 (none, .ia 21 14 (.t 20) (.c (.n .i64 0))),
 (none, .ld 22 (some 14) (.t 21)),
 (none, .st 14 (.t 3) (.t 22)),
 (none, .kp [0, 2, 3])])
 (.sk))))
 (.sk)))
 (.seq (.rg [(none, .ld 23 (some 14) (.t 3)),
 (none, .ca (some 24) 65 [.t 23]),
 (none, .fd 25 4 (some 5) (.t 24)),
 (none, .al 5 [.n .i64 0, .n .i64 0, .n .i64 0, .nil, .n .i64 0]),
 (none, .st 5 (.t 5) (.t 25)),
 (none, .kp [0, 2, 3, 5])])
 (.seq (.seq (.rg [(none, .mv 26 (.t 0)),
 (none, .ca (some 27) 57 [.t 26, .c (.n .i64 2)]),
 (none, .bi 28 .eql (.t 27) (.c (.n .i64 0))),
 (none, .mv 29 (.t 28)),
 (some (29, false), .fa 30 3 (.t 5)),
 (some (29, false), .ld 31 none (.t 30)),
 (some (29, false), .ln 32 (.t 31)),
 (some (29, false), .bi 33 .eql (.t 32) (.c (.n .i64 0))),
 (none, .pk 34 (.t 29) (.c (.b true)) (.t 33)),
 (none, .kp [0, 2, 3, 5, 34])])
 (.ite (.t 34) (.rg [(none, .ld 35 (some 14) (.t 3)),
 (none, .ca (some 36) 65 [.t 35]),
 (none, .fd 37 9 (some 5) (.t 36)),
 (none, .st 5 (.t 5) (.t 37)),
 (none, .kp [0, 2, 5])])
 (.sk)))
 (.seq (.seq (.rg [(none, .mv 38 (.t 0)),
 (none, .ca (some 39) 57 [.t 38, .c (.n .i64 16)]),
 (none, .kp [0, 2, 5, 39])])
 (.blk 0 (.seq (.rg [(none, .bi 41 .eql (.t 39) (.c (.n .i64 0))),
 (none, .mv 40 (.t 41)),
 (none, .kp [0, 2, 5, 39, 40])])
 (.ite (.t 40) (.rg [(none, .mv 42 (.t 0)),
 (none, .ca (some 43) 57 [.t 42, .c (.n .i64 3)]),
 (none, .fa 44 0 (.t 5)),
 (none, .st 1 (.t 44) (.t 43)),
 (none, .kp [2, 5])])
 (.seq (.rg [(none, .bi 46 .eql (.t 39) (.c (.n .i64 1))),
 (none, .mv 45 (.t 46)),
 (none, .kp [0, 2, 5, 39, 45])])
 (.ite (.t 45) (.rg [(none, .mv 47 (.t 0)),
 (none, .ca (some 48) 57 [.t 47, .c (.n .i64 14)]),
 (none, .bi 49 .sub (.t 48) (.c (.n .i64 1))),
 (none, .fa 50 4 (.t 5)),
 (none, .st 1 (.t 50) (.t 49)),
 (none, .kp [2, 5])])
 (.seq (.rg [(none, .bi 52 .eql (.t 39) (.c (.n .i64 2))),
 (none, .mv 51 (.t 52)),
 (none, .kp [0, 2, 5, 39, 51])])
 (.ite (.t 51) (.rg [(none, .mv 53 (.t 0)),
 (none, .ca (some 54) 66 [.t 53]),
 (none, .fa 55 2 (.t 5)),
 (none, .st 1 (.t 55) (.t 54)),
 (none, .kp [2, 5])])
 (.seq (.rg [(none, .bi 57 .eql (.t 39) (.c (.n .i64 3))),
 (none, .mv 56 (.t 57)),
 (none, .kp [0, 2, 5, 39, 56])])
 (.ite (.t 56) (.rg [(none, .mv 58 (.t 0)),
 (none, .ca (some 59) 57 [.t 58, .c (.n .i64 7)]),
 (none, .bi 60 .sub (.t 59) (.c (.n .i64 1))),
 (none, .fa 61 1 (.t 5)),
 (none, .st 1 (.t 61) (.t 60)),
 (none, .kp [2, 5])])
 (.seq (.rg [(none, .bi 63 .eql (.t 39) (.c (.n .i64 4))),
 (none, .mv 62 (.t 63)),
 (none, .kp [0, 2, 5, 62])])
 (.ite (.t 62) (.seq (.rg [(none, .fa 64 3 (.t 5)),
 (none, .ld 65 none (.t 64)),
 (none, .ln 66 (.t 65)),
 (none, .bi 67 .gtr (.t 66) (.c (.n .i64 0))),
 (none, .kp [0, 2, 5, 67])])
 (.ite (.t 67) (.dr [[], [0], [], [], [3], [3, 4], [2, 3, 4, 5], [], [2, 3, 4, 5, 6, 7], [0, 1, 2, 3, 4, 5, 6, 7, 8], [0, 1, 2, 3, 4, 5, 6, 7, 8, 9]]
 (.q 0 (none, .fa 68 3 (.t 5))
 (.q 1 (none, .ld 69 none (.t 68))
 (.q 2 (none, .mv 70 (.t 0))
 (.q 3 (none, .fa 71 3 (.t 5))
 (.q 4 (none, .ld 72 none (.t 71))
 (.q 5 (none, .ln 73 (.t 72))
 (.q 7 (none, .mv 75 (.t 0))
 (.alt 6 (none, .ca (some 74) 57 [.t 70, .t 73]) [true, true, false, false, false, false, true]
 (.alt 8 (none, .ca (some 76) 67 [.t 75]) [true, true, false, false, false, false, false]
 (.q 9 (none, .ia 77 7 (.t 69) (.t 74))
 (.alt 10 (none, .st 7 (.t 77) (.t 76)) [false, false, false, false, false, false, false, false]
 (.done)
 (.stop)))
 (.stop))
 (.stop))))))))) [2, 5])
 (.sk)))
 (.sk)))))))))))))
 (.seq (.rg [(none, .ld 78 (some 5) (.t 5)),
 (none, .st 5 (.t 2) (.t 78)),
 (none, .kp [2])])
 (.rt)))))))
theorem mr37 : MrT Try.prog 37 pc37 [.c 2 (some 5)] 79 := fun hn h => spec_of_run (fn := Try.f37) (by kernel_rfl) rfl (by kernel_rfl) (by kernel_rfl) hn h
theorem mk37 : MkT Try.prog 37 pc37 [.c 2 (some 5)] 79 := mr37.k
theorem mw37 : MwT Try.prog 37 pc37 [.c 2 (some 5)] 79 := mr37.w
-- 38 spec.l6Open
def pc38 : PC := .seq (.rg [(none, .mv 2 .j),
 (none, .kp [0])])
 (.seq (.seq (.rg [(none, .mv 3 (.t 0)),
 (none, .ln 4 (.t 3)),
 (none, .bi 5 .gtr (.t 4) (.c (.n .i64 2000))),
 (none, .kp [0, 5])])
 (.ite (.t 5) (.rg [(none, .mv 6 (.t 0)),
 (none, .sc 7 1 (.t 6) none (some (.c (.n .i64 2000)))),
 (none, .mv 0 (.t 7)),
 (none, .kp [0])])
 (.sk)))
 (.seq (.rg [(none, .mv 8 (.t 0)),
 (none, .bd 9 [.nil, .n .i64 0] [(0, 1, .t 8)]),
 (none, .bx 10 (.t 9)),
 (none, .mv 2 (.t 10)),
 (none, .kp [2])])
 (.rt)))
theorem mr38 : MrT Try.prog 38 pc38 [.t 2] 11 := fun hn h => spec_of_run (fn := Try.f38) (by kernel_rfl) rfl (by kernel_rfl) (by kernel_rfl) hn h
theorem mk38 : MkT Try.prog 38 pc38 [.t 2] 11 := mr38.k
theorem mw38 : MwT Try.prog 38 pc38 [.t 2] 11 := mr38.w
-- 39 impl.serialOk
def pc39 : PC := .seq (.rg [(none, .mv 2 (.c (.b false))),
 (none, .kp [0])])
 (.seq (.rg [(none, .mv 3 (.t 0)),
 (none, .bi 4 .geq (.t 3) (.c (.n .i64 0))),
 (none, .mv 5 (.t 4)),
 (some (5, true), .mv 6 (.t 0)),
 (some (5, true), .bi 7 .lss (.t 6) (.c (.n .i64 65536))),
 (none, .pk 8 (.t 5) (.t 7) (.c (.b false))),
 (none, .mv 2 (.t 8)),
 (none, .kp [2])])
 (.rt))
theorem mr39 : MrT Try.prog 39 pc39 [.t 2] 9 := fun hn h => spec_of_run (fn := Try.f39) (by kernel_rfl) rfl (by kernel_rfl) (by kernel_rfl) hn h
theorem mk39 : MkT Try.prog 39 pc39 [.t 2] 9 := mr39.k
theorem mw39 : MwT Try.prog 39 pc39 [.t 2] 9 := mr39.w
-- 40 impl.dataOk
def pc40 : PC := .seq (.rg [(none, .bx 1 (.t 0)),
 (none, .mv 2 (.c (.b false))),
 (none, .kp [1])])
 (.seq (.rg [(none, .fa 3 0 (.t 1)),
 (none, .ld 4 none (.t 3)),
 (none, .ca (some 5) 39 [.t 4]),
 (none, .mv 6 (.t 5)),
 (some (6, true), .fa 7 1 (.t 1)),
 (some (6, true), .ld 8 none (.t 7)),
 (some (6, true), .ca (some 9) 39 [.t 8]),
 (none, .pk 10 (.t 6) (.t 9) (.c (.b false))),
 (none, .mv 11 (.t 10)),
 (some (11, true), .fa 12 2 (.t 1)),
 (some (11, true), .ld 13 none (.t 12)),
 (some (11, true), .ca (some 14) 39 [.t 13]),
 (none, .pk 15 (.t 11) (.t 14) (.c (.b false))),
 (none, .mv 16 (.t 15)),
 (some (16, true), .fa 17 6 (.t 1)),
 (some (16, true), .ld 18 none (.t 17)),
 (some (16, true), .lS 19 (.t 18)),
 (some (16, true), .bi 20 .geq (.t 19) (.c (.n .i64 1))),
 (none, .pk 21 (.t 16) (.t 20) (.c (.b false))),
 (none, .mv 22 (.t 21)),
 (some (22, true), .fa 23 6 (.t 1)),
 (some (22, true), .ld 24 none (.t 23)),
 (some (22, true), .lS 25 (.t 24)),
 (some (22, true), .bi 26 .leq (.t 25) (.c (.n .i64 20))),
 (none, .pk 27 (.t 22) (.t 26) (.c (.b false))),
 (none, .mv 2 (.t 27)),
 (none, .kp [2])])
 (.rt))
theorem mr40 : MrT Try.prog 40 pc40 [.t 2] 28 := fun hn h => spec_of_run (fn := Try.f40) (by kernel_rfl) rfl (by kernel_rfl) (by kernel_rfl) hn h
theorem mk40 : MkT Try.prog 40 pc40 [.t 2] 28 := mr40.k
theorem mw40 : MwT Try.prog 40 pc40 [.t 2] 28 := mr40.w
-- 41 impl.mayFollow
def pc41l0 : PC := .seq (.rg [(none, .bi 42 .lss (.t 41) (.t 40)),
 (none, .kp [3, 5, 39, 40, 41, 42])])
 (.seq (.ite (.t 42) (.sk)
 (.ex 0))
 (.seq (.blk 1 (.seq (.rg [(none, .ia 43 7 (.t 39) (.t 41)),
 (none, .ld 44 (some 7) (.t 43)),
 (none, .al 7 [.n .i64 0, .n .i64 0, .n .i64 0, .b false, .b false, .b false, .s []]),
 (none, .st 7 (.t 7) (.t 44)),
 (none, .kp [3, 5, 7, 39, 40, 41])])
 (.seq (.rg [(none, .fa 45 3 (.t 7)),
 (none, .ld 46 none (.t 45)),
 (none, .mv 47 (.t 46)),
 (some (47, true), .fa 48 5 (.t 7)),
 (some (47, true), .ld 49 none (.t 48)),
 (some (47, true), .un 50 .not (.t 49)),
 (none, .pk 51 (.t 47) (.t 50) (.c (.b false))),
 (none, .mv 52 (.t 51)),
 (some (52, true), .fa 53 1 (.t 7)),
 (some (52, true), .ld 54 none (.t 53)),
 (some (52, true), .fa 55 1 (.t 3)),
 (some (52, true), .ld 56 none (.t 55)),
 (some (52, true), .bi 57 .eql (.t 54) (.t 56)),
 (none, .pk 58 (.t 52) (.t 57) (.c (.b false))),
 (none, .kp [3, 5, 39, 40, 41, 58])])
 (.ite (.t 58) (.rg [(none, .mv 59 (.t 5)),
 (none, .bi 60 .add (.t 59) (.c (.n .i64 1))),
 (none, .mv 5 (.t 60)),
 (none, .kp [3, 5, 39, 40, 41])])
 (.sk)))))
 (.rg [(none, .bi 61 .add (.t 41) (.c (.n .i64 1))),
 (none, .mv 41 (.t 61)),
 (none, .kp [3, 5, 39, 40, 41])])))
def pc41 : PC := .seq (.rg [(none, .bx 3 (.t 1)),
 (none, .mv 4 (.c (.b false))),
 (none, .kp [0, 3])])
 (.seq (.seq (.rg [(none, .mv 8 (.t 0)),
 (none, .ln 9 (.t 8)),
 (none, .bi 10 .gtr (.t 9) (.c (.n .i64 0))),
 (none, .mv 11 (.t 10)),
 (some (11, true), .mv 12 (.t 0)),
 (some (11, true), .mv 13 (.t 0)),
 (some (11, true), .ln 14 (.t 13)),
 (some (11, true), .bi 15 .sub (.t 14) (.c (.n .i64 1))),
 (some (11, true), .ia 16 7 (.t 12) (.t 15)),
 (some (11, true), .fa 17 4 (.t 16)),
 (some (11, true), .ld 18 none (.t 17)),
 (some (11, true), .un 19 .not (.t 18)),
 (none, .pk 20 (.t 11) (.t 19) (.c (.b false))),
 (none, .kp [0, 3, 20])])
 (.ite (.t 20) (.seq (.dr [[], [0], [0, 1], [0, 1, 2], [0, 1, 2, 3], [0, 1, 2, 3], [0, 1, 2, 3], [0, 1, 2, 3, 6], [0, 1, 2, 3, 6, 7], [0, 1, 2, 3, 5, 6, 7, 8], [0, 1, 2, 3, 5, 6, 7, 8, 9], [0, 1, 2, 3, 4, 5, 6, 7, 8, 9, 10], [0, 1, 2, 3, 4, 5, 6, 7, 8, 9, 10, 11], [0, 1, 2, 3, 4, 5, 6, 7, 8, 9, 10, 11, 12]]
 (.q 0 (none, .fa 21 3 (.t 3))
 (.q 1 (none, .ld 22 none (.t 21))
 (.q 2 (none, .un 23 .not (.t 22))
 (.q 3 (none, .mv 24 (.t 23))
 (.q 4 (some (24, true), .ld 25 (some 7) (.t 3))
 (.q 5 (some (24, true), .mv 26 (.t 0))
 (.q 6 (some (24, true), .mv 27 (.t 0))
 (.q 7 (some (24, true), .ln 28 (.t 27))
 (.q 8 (some (24, true), .bi 29 .sub (.t 28) (.c (.n .i64 1)))
 (.q 9 (some (24, true), .ia 30 7 (.t 26) (.t 29))
 (.q 10 (some (24, true), .ld 31 (some 7) (.t 30))
 (.alt 11 (some (24, true), .ca (some 32) 68 [.t 25, .t 31]) [false, false, false, false, false, false, false, false, false, false, false]
 (.q 12 (none, .pk 33 (.t 24) (.t 32) (.c (.b false)))
 (.q 13 (none, .mv 4 (.t 33))
 (.done)))
 (.stop))))))))))))) [4])
 (.rt))
 (.sk)))
 (.seq (.seq (.rg [(none, .fa 34 3 (.t 3)),
 (none, .ld 35 none (.t 34)),
 (none, .un 36 .not (.t 35)),
 (none, .kp [0, 3, 36])])
 (.ite (.t 36) (.seq (.rg [(none, .mv 4 (.c (.b false))),
 (none, .kp [4])])
 (.rt))
 (.sk)))
 (.seq (.seq (.rg [(none, .fa 37 5 (.t 3)),
 (none, .ld 38 none (.t 37)),
 (none, .kp [0, 3, 38])])
 (.ite (.t 38) (.seq (.rg [(none, .mv 4 (.c (.b true))),
 (none, .kp [4])])
 (.rt))
 (.sk)))
 (.seq (.rg [(none, .mv 5 (.c (.n .i64 0))),
 (none, .kp [0, 3, 5])])
 (.seq (.seq (.rg [(none, .mv 39 (.t 0)),
 (none, .ln 40 (.t 39)),
 (none, .mv 41 (.c (.n .i64 0))),
 (none, .kp [3, 5, 39, 40, 41])])
 (.blk 0 (.lp pc41l0)))
 (.seq (.rg [(none, .fa 62 2 (.t 3)),
 (none, .ld 63 none (.t 62)),
 (none, .mv 64 (.t 5)),
 (none, .bi 65 .eql (.t 63) (.t 64)),
 (none, .mv 4 (.t 65)),
 (none, .kp [4])])
 (.rt)))))))
theorem mr41 : MrT Try.prog 41 pc41 [.t 4] 66 := fun hn h => spec_of_run (fn := Try.f41) (by kernel_rfl) rfl (by kernel_rfl) (by kernel_rfl) hn h
theorem mk41 : MkT Try.prog 41 pc41 [.t 4] 66 := mr41.k
theorem mw41 : MwT Try.prog 41 pc41 [.t 4] 66 := mr41.w
-- 42 spec.l12Data
def pc42 : PC := .seq (.rg [(none, .bx 1 (.t 0)),
 (none, .mv 2 (.c (.b false))),
 (none, .kp [1])])
 (.seq (.rg [(none, .fa 3 0 (.t 1)),
 (none, .ld 4 none (.t 3)),
 (none, .ca (some 5) 46 [.t 4]),
 (none, .mv 6 (.t 5)),
 (some (6, true), .fa 7 1 (.t 1)),
 (some (6, true), .ld 8 none (.t 7)),
 (some (6, true), .ca (some 9) 46 [.t 8]),
 (none, .pk 10 (.t 6) (.t 9) (.c (.b false))),
 (none, .mv 11 (.t 10)),
 (some (11, true), .fa 12 2 (.t 1)),
 (some (11, true), .ld 13 none (.t 12)),
 (some (11, true), .ca (some 14) 46 [.t 13]),
 (none, .pk 15 (.t 11) (.t 14) (.c (.b false))),
 (none, .mv 16 (.t 15)),
 (some (16, true), .fa 17 6 (.t 1)),
 (some (16, true), .ld 18 none (.t 17)),
 (some (16, true), .lS 19 (.t 18)),
 (some (16, true), .ca (some 20) 45 [.t 19, .c (.n .i64 1), .c (.n .i64 20)]),
 (none, .pk 21 (.t 16) (.t 20) (.c (.b false))),
 (none, .mv 2 (.t 21)),
 (none, .kp [2])])
 (.rt))
theorem mr42 : MrT Try.prog 42 pc42 [.t 2] 22 := fun hn h => spec_of_run (fn := Try.f42) (by kernel_rfl) rfl (by kernel_rfl) (by kernel_rfl) hn h
theorem mk42 : MkT Try.prog 42 pc42 [.t 2] 22 := mr42.k
theorem mw42 : MwT Try.prog 42 pc42 [.t 2] 22 := mr42.w
-- 43 spec.l3Add
def pc43 : PC := .seq (.rg [(none, .mv 4 (.c (.n .i64 0))),
 (none, .kp [0, 1])])
 (.seq (.rg [(none, .mv 5 (.t 0)),
 (none, .mv 6 (.t 1)),
 (none, .bi 7 .rem (.t 6) (.c (.n .i64 65536))),
 (none, .bi 8 .add (.t 5) (.t 7)),
 (none, .bi 9 .add (.t 8) (.c (.n .i64 65536))),
 (none, .bi 10 .rem (.t 9) (.c (.n .i64 65536))),
 (none, .mv 4 (.t 10)),
 (none, .kp [4])])
 (.rt))
theorem mr43 : MrT Try.prog 43 pc43 [.t 4] 11 := fun hn h => spec_of_run (fn := Try.f43) (by kernel_rfl) rfl (by kernel_rfl) (by kernel_rfl) hn h
theorem mk43 : MkT Try.prog 43 pc43 [.t 4] 11 := mr43.k
theorem mw43 : MwT Try.prog 43 pc43 [.t 4] 11 := mr43.w
-- 44 spec.l31Follows
def pc44 : PC := .seq (.rg [(none, .bx 3 (.t 1)),
 (none, .mv 4 (.c (.b false))),
 (none, .kp [0, 3])])
 (.seq (.rg [(none, .mv 6 (.t 0)),
 (none, .ln 7 (.t 6)),
 (none, .mv 5 (.t 7)),
 (none, .kp [0, 3, 5])])
 (.seq (.seq (.rg [(none, .mv 8 (.t 5)),
 (none, .bi 9 .gtr (.t 8) (.c (.n .i64 0))),
 (none, .mv 10 (.t 9)),
 (some (10, true), .mv 11 (.t 0)),
 (some (10, true), .mv 12 (.t 5)),
 (some (10, true), .bi 13 .sub (.t 12) (.c (.n .i64 1))),
 (some (10, true), .ia 14 7 (.t 11) (.t 13)),
 (some (10, true), .fa 15 4 (.t 14)),
 (some (10, true), .ld 16 none (.t 15)),
 (some (10, true), .un 17 .not (.t 16)),
 (none, .pk 18 (.t 10) (.t 17) (.c (.b false))),
 (none, .kp [0, 3, 5, 18])])
 (.ite (.t 18) (.seq (.dr [[], [0], [0, 1], [0, 1, 2], [0, 1, 2, 3], [0, 1, 2, 3], [0, 1, 2, 3, 5], [0, 1, 2, 3, 4, 5, 6], [0, 1, 2, 3, 4, 5, 6, 7], [0, 1, 2, 3], [0, 1, 2, 3, 4, 5, 6, 7, 8, 9], [0, 1, 2, 3, 4, 5, 6, 7, 8, 9, 10], [0, 1, 2, 3, 4, 5, 6, 7, 8, 9, 10, 11]]
 (.q 0 (none, .fa 19 3 (.t 3))
 (.q 1 (none, .ld 20 none (.t 19))
 (.q 2 (none, .un 21 .not (.t 20))
 (.q 3 (none, .mv 22 (.t 21))
 (.q 4 (some (22, true), .mv 23 (.t 0))
 (.q 5 (some (22, true), .mv 24 (.t 5))
 (.q 6 (some (22, true), .bi 25 .sub (.t 24) (.c (.n .i64 1)))
 (.q 7 (some (22, true), .ia 26 7 (.t 23) (.t 25))
 (.q 8 (some (22, true), .ld 27 (some 7) (.t 26))
 (.q 9 (some (22, true), .ld 28 (some 7) (.t 3))
 (.alt 10 (some (22, true), .ca (some 29) 69 [.t 27, .t 28]) [false, false, false, false, false, false, false, false, false, false]
 (.q 11 (none, .pk 30 (.t 22) (.t 29) (.c (.b false)))
 (.q 12 (none, .mv 4 (.t 30))
 (.done)))
 (.stop)))))))))))) [4])
 (.rt))
 (.sk)))
 (.seq (.dr [[], [0], [0, 1], [0, 1, 2], [0, 1, 2, 3], [0, 1, 2, 3, 4], [0, 1, 2, 3, 4, 5], [0, 1, 2, 3, 4, 5, 6], [0, 1, 2, 3, 4, 5], [0, 1, 2, 3, 4, 5], [0, 1, 2, 3, 4, 5, 9], [0, 1, 2, 3, 4, 5, 8, 9, 10], [0, 1, 2, 3, 4, 5, 6, 7, 8, 9, 10, 11], [0, 1, 2, 3, 4, 5, 6, 7, 8, 9, 10, 11, 12], [0, 1, 2, 3, 4, 5, 6, 7, 8, 9, 10, 11, 12, 13], [0, 1, 2, 3, 4, 5, 6, 7, 8, 9, 10, 11, 12, 13, 14]]
 (.q 0 (none, .fa 31 3 (.t 3))
 (.q 1 (none, .ld 32 none (.t 31))
 (.q 2 (none, .mv 33 (.t 32))
 (.q 3 (some (33, true), .fa 34 5 (.t 3))
 (.q 4 (some (33, true), .ld 35 none (.t 34))
 (.q 5 (some (33, true), .mv 36 (.t 35))
 (.q 6 (some (36, false), .fa 37 2 (.t 3))
 (.q 7 (some (36, false), .ld 38 none (.t 37))
 (.q 8 (some (36, false), .mv 39 (.t 0))
 (.q 9 (some (36, false), .fa 40 1 (.t 3))
 (.q 10 (some (36, false), .ld 41 none (.t 40))
 (.alt 11 (some (36, false), .ca (some 42) 70 [.t 39, .t 41]) [false, false, false, false, false, false, true, true, false, false, false]
 (.q 12 (some (36, false), .bi 43 .eql (.t 38) (.t 42))
 (.q 13 (some (33, true), .pk 44 (.t 36) (.c (.b true)) (.t 43))
 (.q 14 (none, .pk 45 (.t 33) (.t 44) (.c (.b false)))
 (.q 15 (none, .mv 4 (.t 45))
 (.done)))))
 (.stop))))))))))))) [4])
 (.rt))))
theorem mr44 : MrT Try.prog 44 pc44 [.t 4] 46 := fun hn h => spec_of_run (fn := Try.f44) (by kernel_rfl) rfl (by kernel_rfl) (by kernel_rfl) hn h
theorem mk44 : MkT Try.prog 44 pc44 [.t 4] 46 := mr44.k
theorem mw44 : MwT Try.prog 44 pc44 [.t 4] 46 := mr44.w
-- 45 spec.l6In
def pc45 : PC := .seq (.rg [(none, .mv 6 (.c (.b false))),
 (none, .kp [0, 1, 2])])
 (.seq (.rg [(none, .mv 7 (.t 0)),
 (none, .mv 8 (.t 1)),
 (none, .bi 9 .geq (.t 7) (.t 8)),
 (none, .mv 10 (.t 9)),
 (some (10, true), .mv 11 (.t 0)),
 (some (10, true), .mv 12 (.t 2)),
 (some (10, true), .bi 13 .leq (.t 11) (.t 12)),
 (none, .pk 14 (.t 10) (.t 13) (.c (.b false))),
 (none, .mv 6 (.t 14)),
 (none, .kp [6])])
 (.rt))
theorem mr45 : MrT Try.prog 45 pc45 [.t 6] 15 := fun hn h => spec_of_run (fn := Try.f45) (by kernel_rfl) rfl (by kernel_rfl) (by kernel_rfl) hn h
theorem mk45 : MkT Try.prog 45 pc45 [.t 6] 15 := mr45.k
theorem mw45 : MwT Try.prog 45 pc45 [.t 6] 15 := mr45.w
-- 46 spec.l3Ok
def pc46 : PC := .seq (.rg [(none, .mv 2 (.c (.b false))),
 (none, .kp [0])])
 (.seq (.rg [(none, .mv 3 (.t 0)),
 (none, .ca (some 4) 45 [.t 3, .c (.n .i64 0), .c (.n .i64 65535)]),
 (none, .mv 2 (.t 4)),
 (none, .kp [2])])
 (.rt))
theorem mr46 : MrT Try.prog 46 pc46 [.t 2] 5 := fun hn h => spec_of_run (fn := Try.f46) (by kernel_rfl) rfl (by kernel_rfl) (by kernel_rfl) hn h
theorem mk46 : MkT Try.prog 46 pc46 [.t 2] 5 := mr46.k
theorem mw46 : MwT Try.prog 46 pc46 [.t 2] 5 := mr46.w
-- 47 spec.l92Wrong
def pc47 : PC := .seq (.rg [(none, .al 2 [.n .i64 0, .n .i64 0, .n .i64 0, .b false, .n .i64 0, .n .i64 0, .n .i64 0, .nil, .n .i64 0, .n .i64 0, .n .i64 0, .n .i64 0, .nil, .n .i64 0]),
 (none, .kp [0, 2])])
 (.seq (.rg [(none, .mv 4 (.t 0)),
 (none, .ca (some 5) 61 [.t 4]),
 (none, .ca (some 6) 65 [.t 5]),
 (none, .al 3 [.n .i64 0, .n .i64 0, .n .i64 0, .b false, .n .i64 0, .n .i64 0, .n .i64 0, .nil, .n .i64 0, .n .i64 0, .n .i64 0, .n .i64 0, .nil, .n .i64 0]),
 (none, .st 14 (.t 3) (.t 6)),
 (none, .kp [0, 2, 3])])
 (.seq (.seq (.rg [(none, .mv 7 (.t 0)),
 (none, .ca (some 8) 57 [.t 7, .c (.n .i64 12)]),
 (none, .kp [0, 2, 3, 8])])
 (.blk 0 (.seq (.rg [(none, .bi 10 .eql (.t 8) (.c (.n .i64 0))),
 (none, .mv 9 (.t 10)),
 (none, .kp [0, 2, 3, 8, 9])])
 (.ite (.t 9) (.rg [(none, .mv 11 (.t 0)),
 (none, .ca (some 12) 57 [.t 11, .c (.n .i64 10)]),
 (none, .bi 13 .sub (.t 12) (.c (.n .i64 1))),
 (none, .fa 14 2 (.t 3)),
 (none, .st 1 (.t 14) (.t 13)),
 (none, .kp [2, 3])])
 (.seq (.rg [(none, .bi 16 .eql (.t 8) (.c (.n .i64 1))),
 (none, .mv 15 (.t 16)),
 (none, .kp [0, 2, 3, 8, 15])])
 (.ite (.t 15) (.rg [(none, .mv 17 (.t 0)),
 (none, .ca (some 18) 37 [.t 17]),
 (none, .fa 19 4 (.t 3)),
 (none, .st 5 (.t 19) (.t 18)),
 (none, .kp [2, 3])])
 (.seq (.rg [(none, .bi 21 .eql (.t 8) (.c (.n .i64 2))),
 (none, .mv 20 (.t 21)),
 (none, .kp [0, 2, 3, 8, 20])])
 (.ite (.t 20) (.rg [(none, .mv 22 (.t 0)),
 (none, .ca (some 23) 37 [.t 22]),
 (none, .fa 24 9 (.t 3)),
 (none, .st 5 (.t 24) (.t 23)),
 (none, .kp [2, 3])])
 (.seq (.rg [(none, .bi 26 .eql (.t 8) (.c (.n .i64 3))),
 (none, .mv 25 (.t 26)),
 (none, .kp [0, 2, 3, 8, 25])])
 (.ite (.t 25) (.rg [(none, .fa 27 3 (.t 3)),
 (none, .ld 28 none (.t 27)),
 (none, .un 29 .not (.t 28)),
 (none, .fa 30 3 (.t 3)),
 (none, .st 1 (.t 30) (.t 29)),
 (none, .kp [2, 3])])
 (.seq (.rg [(none, .bi 32 .eql (.t 8) (.c (.n .i64 4))),
 (none, .mv 31 (.t 32)),
 (none, .kp [0, 2, 3, 31])])
 (.ite (.t 31) (.rg [(none, .mv 33 (.t 0)),
 (none, .ca (some 34) 66 [.t 33]),
 (none, .fa 35 0 (.t 3)),
 (none, .st 1 (.t 35) (.t 34)),
 (none, .kp [2, 3])])
 (.sk)))))))))))))
 (.seq (.rg [(none, .ld 36 (some 14) (.t 3)),
 (none, .st 14 (.t 2) (.t 36)),
 (none, .kp [2])])
 (.rt))))
theorem mr47 : MrT Try.prog 47 pc47 [.c 2 (some 14)] 37 := fun hn h => spec_of_run (fn := Try.f47) (by kernel_rfl) rfl (by kernel_rfl) (by kernel_rfl) hn h
theorem mk47 : MkT Try.prog 47 pc47 [.c 2 (some 14)] 37 := mr47.k
theorem mw47 : MwT Try.prog 47 pc47 [.c 2 (some 14)] 37 := mr47.w
-- 48 spec.l31Open
def pc48 : PC := .seq (.rg [(none, .mv 2 (.c (.b false))),
 (none, .kp [0])])
 (.seq (.rg [(none, .mv 3 (.t 0)),
 (none, .ca (some 4) 45 [.t 3, .c (.n .i64 3), .c (.n .i64 7)]),
 (none, .mv 2 (.t 4)),
 (none, .kp [2])])
 (.rt))
theorem mr48 : MrT Try.prog 48 pc48 [.t 2] 5 := fun hn h => spec_of_run (fn := Try.f48) (by kernel_rfl) rfl (by kernel_rfl) (by kernel_rfl) hn h
theorem mk48 : MkT Try.prog 48 pc48 [.t 2] 5 := mr48.k
theorem mw48 : MwT Try.prog 48 pc48 [.t 2] 5 := mr48.w
-- 54 spec.l32Pair
def pc54 : PC := .seq (.rg [(none, .bx 2 (.t 0)),
 (none, .bx 3 (.t 1)),
 (none, .mv 4 (.c (.b false))),
 (none, .kp [2, 3])])
 (.seq (.rg [(none, .fa 5 0 (.t 2)),
 (none, .ld 6 none (.t 5)),
 (none, .fa 7 0 (.t 3)),
 (none, .ld 8 none (.t 7)),
 (none, .bi 9 .eql (.t 6) (.t 8)),
 (none, .mv 10 (.t 9)),
 (some (10, true), .fa 11 1 (.t 2)),
 (some (10, true), .ld 12 none (.t 11)),
 (some (10, true), .fa 13 1 (.t 3)),
 (some (10, true), .ld 14 none (.t 13)),
 (some (10, true), .bi 15 .eql (.t 12) (.t 14)),
 (none, .pk 16 (.t 10) (.t 15) (.c (.b false))),
 (none, .mv 17 (.t 16)),
 (some (17, false), .fa 18 0 (.t 2)),
 (some (17, false), .ld 19 none (.t 18)),
 (some (17, false), .fa 20 1 (.t 3)),
 (some (17, false), .ld 21 none (.t 20)),
 (some (17, false), .bi 22 .eql (.t 19) (.t 21)),
 (some (17, false), .mv 23 (.t 22)),
 (some (23, true), .fa 24 1 (.t 2)),
 (some (23, true), .ld 25 none (.t 24)),
 (some (23, true), .fa 26 0 (.t 3)),
 (some (23, true), .ld 27 none (.t 26)),
 (some (23, true), .bi 28 .eql (.t 25) (.t 27)),
 (some (17, false), .pk 29 (.t 23) (.t 28) (.c (.b false))),
 (none, .pk 30 (.t 17) (.c (.b true)) (.t 29)),
 (none, .mv 4 (.t 30)),
 (none, .kp [4])])
 (.rt))
theorem mr54 : MrT Try.prog 54 pc54 [.t 4] 31 := fun hn h => spec_of_run (fn := Try.f54) (by kernel_rfl) rfl (by kernel_rfl) (by kernel_rfl) hn h
theorem mk54 : MkT Try.prog 54 pc54 [.t 4] 31 := mr54.k
theorem mw54 : MwT Try.prog 54 pc54 [.t 4] 31 := mr54.w
-- 55 spec.l32Finding
def pc55 : PC := .seq (.rg [(none, .bx 2 (.t 0)),
 (none, .mv 4 (.c (.b false))),
 (none, .kp [1, 2])])
 (.seq (.rg [(none, .fa 5 0 (.t 2)),
 (none, .ld 6 none (.t 5)),
 (none, .mv 7 (.t 1)),
 (none, .bi 8 .sub (.t 7) (.c (.n .i64 1))),
 (none, .ca (some 9) 45 [.t 6, .c (.n .i64 0), .t 8]),
 (none, .mv 10 (.t 9)),
 (some (10, true), .fa 11 1 (.t 2)),
 (some (10, true), .ld 12 none (.t 11)),
 (some (10, true), .ca (some 13) 45 [.t 12, .c (.n .i64 1), .c (.n .i64 11)]),
 (some (10, true), .mv 14 (.t 13)),
 (some (14, false), .fa 15 1 (.t 2)),
 (some (14, false), .ld 16 none (.t 15)),
 (some (14, false), .ca (some 17) 45 [.t 16, .c (.n .i64 101), .c (.n .i64 105)]),
 (some (10, true), .pk 18 (.t 14) (.c (.b true)) (.t 17)),
 (none, .pk 19 (.t 10) (.t 18) (.c (.b false))),
 (none, .mv 4 (.t 19)),
 (none, .kp [4])])
 (.rt))
theorem mr55 : MrT Try.prog 55 pc55 [.t 4] 20 := fun hn h => spec_of_run (fn := Try.f55) (by kernel_rfl) rfl (by kernel_rfl) (by kernel_rfl) hn h
theorem mk55 : MkT Try.prog 55 pc55 [.t 4] 20 := mr55.k
theorem mw55 : MwT Try.prog 55 pc55 [.t 4] 20 := mr55.w
-- 56 spec.l32Less
def pc56 : PC := .seq (.rg [(none, .bx 2 (.t 0)),
 (none, .bx 3 (.t 1)),
 (none, .mv 4 (.c (.b false))),
 (none, .kp [2, 3])])
 (.seq (.rg [(none, .fa 5 0 (.t 2)),
 (none, .ld 6 none (.t 5)),
 (none, .fa 7 0 (.t 3)),
 (none, .ld 8 none (.t 7)),
 (none, .bi 9 .lss (.t 6) (.t 8)),
 (none, .mv 10 (.t 9)),
 (some (10, false), .fa 11 0 (.t 2)),
 (some (10, false), .ld 12 none (.t 11)),
 (some (10, false), .fa 13 0 (.t 3)),
 (some (10, false), .ld 14 none (.t 13)),
 (some (10, false), .bi 15 .eql (.t 12) (.t 14)),
 (some (10, false), .mv 16 (.t 15)),
 (some (16, true), .fa 17 1 (.t 2)),
 (some (16, true), .ld 18 none (.t 17)),
 (some (16, true), .fa 19 1 (.t 3)),
 (some (16, true), .ld 20 none (.t 19)),
 (some (16, true), .bi 21 .lss (.t 18) (.t 20)),
 (some (10, false), .pk 22 (.t 16) (.t 21) (.c (.b false))),
 (none, .pk 23 (.t 10) (.c (.b true)) (.t 22)),
 (none, .mv 4 (.t 23)),
 (none, .kp [4])])
 (.rt))
theorem mr56 : MrT Try.prog 56 pc56 [.t 4] 24 := fun hn h => spec_of_run (fn := Try.f56) (by kernel_rfl) rfl (by kernel_rfl) (by kernel_rfl) hn h
theorem mk56 : MkT Try.prog 56 pc56 [.t 4] 24 := mr56.k
theorem mw56 : MwT Try.prog 56 pc56 [.t 4] 24 := mr56.w
-- 57 (*spec.l6Rd).pick
def pc57 : PC := .seq (.rg [(none, .mv 4 (.c (.n .i64 0))),
 (none, .kp [0, 1])])
 (.seq (.rg [(none, .mv 7 (.t 0)),
 (none, .mv 8 (.t 0)),
 (none, .nc 9 (.t 8)),
 (none, .fa 10 1 (.t 9)),
 (none, .ld 11 none (.t 10)),
 (none, .bi 12 .add (.t 11) (.c (.n .i64 1))),
 (none, .nc 13 (.t 7)),
 (none, .fa 14 1 (.t 13)),
 (none, .st 1 (.t 14) (.t 12)),
 (none, .kp [0, 1])])
 (.seq (.seq (.rg [(none, .mv 15 (.t 1)),
 (none, .bi 16 .lss (.t 15) (.c (.n .i64 1))),
 (none, .mv 17 (.t 16)),
 (some (17, false), .mv 18 (.t 0)),
 (some (17, false), .nc 19 (.t 18)),
 (some (17, false), .fa 20 0 (.t 19)),
 (some (17, false), .ld 21 none (.t 20)),
 (some (17, false), .ln 22 (.t 21)),
 (some (17, false), .bi 23 .eql (.t 22) (.c (.n .i64 0))),
 (none, .pk 24 (.t 17) (.c (.b true)) (.t 23)),
 (none, .kp [0, 1, 24])])
 (.ite (.t 24) (.seq (.rg [(none, .mv 4 (.c (.n .i64 0))),
 (none, .kp [4])])
 (.rt))
 (.sk)))
 (.seq (.rg [(none, .mv 25 (.t 0)),
 (none, .nc 26 (.t 25)),
 (none, .fa 27 1 (.t 26)),
 (none, .ld 28 none (.t 27)),
 (none, .bi 29 .sub (.t 28) (.c (.n .i64 1))),
 (none, .mv 5 (.t 29)),
 (none, .kp [0, 1, 5])])
 (.seq (.seq (.rg [(none, .mv 30 (.t 5)),
 (none, .mv 31 (.t 0)),
 (none, .nc 32 (.t 31)),
 (none, .fa 33 0 (.t 32)),
 (none, .ld 34 none (.t 33)),
 (none, .ln 35 (.t 34)),
 (none, .bi 36 .lss (.t 30) (.t 35)),
 (none, .kp [0, 1, 5, 36])])
 (.ite (.t 36) (.seq (.rg [(none, .mv 37 (.t 0)),
 (none, .nc 38 (.t 37)),
 (none, .fa 39 0 (.t 38)),
 (none, .ld 40 none (.t 39)),
 (none, .mv 41 (.t 5)),
 (none, .ia 42 1 (.t 40) (.t 41)),
 (none, .ld 43 none (.t 42)),
 (none, .cv 44 .i64 (.t 43)),
 (none, .mv 45 (.t 1)),
 (none, .bi 46 .rem (.t 44) (.t 45)),
 (none, .mv 4 (.t 46)),
 (none, .kp [4])])
 (.rt))
 (.sk)))
 (.seq (.dr [[], [0], [0, 1], [0, 1, 2], [], [], [5], [5, 6], [5, 6, 7], [5, 6, 7, 8], [4, 5, 6, 7, 8, 9], [0, 1, 2, 3, 4, 5, 6, 7, 8, 9, 10], [0, 1, 2, 3, 4, 5, 6, 7, 8, 9, 10, 11], [0, 1, 2, 3, 4, 5, 6, 7, 8, 9, 10, 11, 12], [0, 1, 2, 3, 4, 5, 6, 7, 8, 9, 10, 11, 12, 13], [], [15], [15, 16], [15, 16, 17], [], [19], [19, 20], [], [22], [22, 23], [22, 23, 24], [22, 23, 24, 25], [19, 20, 21, 22, 23, 24, 25, 26], [15, 16, 17, 18, 19, 20, 21, 22, 23, 24, 25, 26, 27], [15, 16, 17, 18, 19, 20, 21, 22, 23, 24, 25, 26, 27, 28], [15, 16, 17, 18, 19, 20, 21, 22, 23, 24, 25, 26, 27, 28, 29], [15, 16, 17, 18, 19, 20, 21, 22, 23, 24, 25, 26, 27, 28, 29, 30], [0, 1, 2, 3, 4, 5, 6, 7, 8, 9, 10, 11, 12, 13, 14, 15, 16, 17, 18, 19, 20, 21, 22, 23, 24, 25, 26, 27, 28, 29, 30, 31], [], [33], [0, 1, 2, 3, 4, 5, 6, 7, 8, 9, 10, 11, 12, 13, 14, 15, 16, 17, 18, 19, 20, 21, 22, 23, 24, 25, 26, 27, 28, 29, 30, 31, 32, 33, 34], [], [], [37], [37, 38], [37, 38, 39], [37, 38, 39, 40], [36, 37, 38, 39, 40, 41], [36, 37, 38, 39, 40, 41, 42], [0, 1, 2, 3, 4, 5, 6, 7, 8, 9, 10, 11, 12, 13, 14, 15, 16, 17, 18, 19, 20, 21, 22, 23, 24, 25, 26, 27, 28, 29, 30, 31, 32, 33, 34, 35, 36, 37, 38, 39, 40, 41, 42, 43], [0, 1, 2, 3, 4, 5, 6, 7, 8, 9, 10, 11, 12, 13, 14, 15, 16, 17, 18, 19, 20, 21, 22, 23, 24, 25, 26, 27, 28, 29, 30, 31, 32, 33, 34, 35, 36, 37, 38, 39, 40, 41, 42, 43, 44]]
 (.q 0 (none, .mv 47 (.t 0))
 (.q 1 (none, .nc 48 (.t 47))
 (.q 2 (none, .fa 49 0 (.t 48))
 (.q 3 (none, .ld 50 none (.t 49))
 (.q 4 (none, .mv 51 (.t 5))
 (.q 5 (none, .mv 52 (.t 0))
 (.q 6 (none, .nc 53 (.t 52))
 (.q 7 (none, .fa 54 0 (.t 53))
 (.q 8 (none, .ld 55 none (.t 54))
 (.q 9 (none, .ln 56 (.t 55))
 (.q 10 (none, .bi 57 .rem (.t 51) (.t 56))
 (.q 11 (none, .ia 58 1 (.t 50) (.t 57))
 (.q 12 (none, .ld 59 none (.t 58))
 (.q 13 (none, .cv 60 .i64 (.t 59))
 (.q 14 (none, .bi 61 .mul (.t 60) (.c (.n .i64 131)))
 (.q 15 (none, .mv 62 (.t 0))
 (.q 16 (none, .nc 63 (.t 62))
 (.q 17 (none, .fa 64 0 (.t 63))
 (.q 18 (none, .ld 65 none (.t 64))
 (.q 19 (none, .mv 66 (.t 5))
 (.q 20 (none, .bi 67 .mul (.t 66) (.c (.n .i64 7)))
 (.q 21 (none, .bi 68 .add (.t 67) (.c (.n .i64 3)))
 (.q 22 (none, .mv 69 (.t 0))
 (.q 23 (none, .nc 70 (.t 69))
 (.q 24 (none, .fa 71 0 (.t 70))
 (.q 25 (none, .ld 72 none (.t 71))
 (.q 26 (none, .ln 73 (.t 72))
 (.q 27 (none, .bi 74 .rem (.t 68) (.t 73))
 (.q 28 (none, .ia 75 1 (.t 65) (.t 74))
 (.q 29 (none, .ld 76 none (.t 75))
 (.q 30 (none, .cv 77 .i64 (.t 76))
 (.q 31 (none, .bi 78 .mul (.t 77) (.c (.n .i64 1117)))
 (.q 32 (none, .bi 79 .add (.t 61) (.t 78))
 (.q 33 (none, .mv 80 (.t 5))
 (.q 34 (none, .bi 81 .mul (.t 80) (.c (.n .i64 29)))
 (.q 35 (none, .bi 82 .add (.t 79) (.t 81))
 (.q 36 (none, .mv 83 (.t 5))
 (.q 37 (none, .mv 84 (.t 0))
 (.q 38 (none, .nc 85 (.t 84))
 (.q 39 (none, .fa 86 0 (.t 85))
 (.q 40 (none, .ld 87 none (.t 86))
 (.q 41 (none, .ln 88 (.t 87))
 (.q 42 (none, .bi 89 .quo (.t 83) (.t 88))
 (.q 43 (none, .bi 90 .mul (.t 89) (.c (.n .i64 53)))
 (.q 44 (none, .bi 91 .add (.t 82) (.t 90))
 (.q 45 (none, .mv 6 (.t 91))
 (.done))))))))))))))))))))))))))))))))))))))))))))))) [1, 6])
 (.seq (.rg [(none, .mv 92 (.t 6)),
 (none, .mv 93 (.t 6)),
 (none, .bi 94 .quo (.t 93) (.c (.n .i64 64))),
 (none, .bi 95 .xor (.t 92) (.t 94)),
 (none, .mv 6 (.t 95)),
 (none, .kp [1, 6])])
 (.seq (.rg [(none, .mv 96 (.t 6)),
 (none, .mv 97 (.t 1)),
 (none, .bi 98 .rem (.t 96) (.t 97)),
 (none, .mv 4 (.t 98)),
 (none, .kp [4])])
 (.rt))))))))
theorem mr57 : MrT Try.prog 57 pc57 [.t 4] 99 := fun hn h => spec_of_run (fn := Try.f57) (by kernel_rfl) rfl (by kernel_rfl) (by kernel_rfl) hn h
theorem mk57 : MkT Try.prog 57 pc57 [.t 4] 99 := mr57.k
theorem mw57 : MwT Try.prog 57 pc57 [.t 4] 99 := mr57.w
-- 58 spec.l32Find
def pc58l0 : PC := .seq (.seq (.rg [(none, .mv 8 (.t 7)),
 (none, .fa 9 1 (.t 3)),
 (none, .ld 10 none (.t 9)),
 (none, .ln 11 (.t 10)),
 (none, .bi 12 .lss (.t 8) (.t 11)),
 (none, .kp [1, 2, 3, 7, 12])])
 (.ite (.t 12) (.sk)
 (.ex 0)))
 (.seq (.blk 1 (.seq (.rg [(none, .fa 15 1 (.t 3)),
 (none, .ld 16 none (.t 15)),
 (none, .mv 17 (.t 7)),
 (none, .ia 18 14 (.t 16) (.t 17)),
 (none, .ld 19 (some 14) (.t 18)),
 (none, .mv 20 (.t 1)),
 (none, .mv 21 (.t 2)),
 (none, .bd 22 [.n .i64 0, .n .i64 0, .n .i64 0, .b false, .n .i64 0, .n .i64 0, .n .i64 0, .nil, .n .i64 0, .n .i64 0, .n .i64 0, .n .i64 0, .nil, .n .i64 0] [(0, 1, .t 20), (1, 1, .t 21)]),
 (none, .ca (some 23) 54 [.t 19, .t 22]),
 (none, .kp [1, 2, 3, 7, 23])])
 (.ite (.t 23) (.seq (.rg [(none, .mv 24 (.t 7)),
 (none, .mv 6 (.t 24)),
 (none, .kp [6])])
 (.rt))
 (.sk))))
 (.rg [(none, .mv 13 (.t 7)),
 (none, .bi 14 .add (.t 13) (.c (.n .i64 1))),
 (none, .mv 7 (.t 14)),
 (none, .kp [1, 2, 3, 7])]))
def pc58 : PC := .seq (.rg [(none, .bx 3 (.t 0)),
 (none, .mv 6 (.c (.n .i64 0))),
 (none, .kp [1, 2, 3])])
 (.seq (.seq (.rg [(none, .mv 7 (.c (.n .i64 0))),
 (none, .kp [1, 2, 3, 7])])
 (.blk 0 (.lp pc58l0)))
 (.seq (.rg [(none, .mv 6 (.c (.n .i64 (-1)))),
 (none, .kp [6])])
 (.rt)))
theorem mr58 : MrT Try.prog 58 pc58 [.t 6] 25 := fun hn h => spec_of_run (fn := Try.f58) (by kernel_rfl) rfl (by kernel_rfl) (by kernel_rfl) hn h
theorem mk58 : MkT Try.prog 58 pc58 [.t 6] 25 := mr58.k
theorem mw58 : MwT Try.prog 58 pc58 [.t 6] 25 := mr58.w
-- 61 spec.l92Assoc
def pc61 : PC := .seq (.rg [(none, .al 2 [.n .i64 0, .n .i64 0, .n .i64 0, .b false, .n .i64 0, .n .i64 0, .n .i64 0, .nil, .n .i64 0, .n .i64 0, .n .i64 0, .n .i64 0, .nil, .n .i64 0]),
 (none, .kp [0, 2])])
 (.seq (.rg [(none, .mv 4 (.t 0)),
 (none, .ca (some 5) 72 [.t 4]),
 (none, .al 3 [.n .i64 0, .nil, .nil]),
 (none, .st 3 (.t 3) (.t 5)),
 (none, .kp [0, 2, 3])])
 (.seq (.seq (.rg [(none, .fa 6 1 (.t 3)),
 (none, .ld 7 none (.t 6)),
 (none, .ln 8 (.t 7)),
 (none, .bi 9 .eql (.t 8) (.c (.n .i64 0))),
 (none, .kp [0, 2, 3, 9])])
 (.ite (.t 9) (.seq (.rg [(none, .mv 10 (.t 0)),
 (none, .ca (some 11) 57 [.t 10, .c (.n .i64 3)]),
 (none, .bi 12 .add (.c (.n .i64 1)) (.t 11)),
 (none, .mv 13 (.t 0)),
 (none, .ca (some 14) 57 [.t 13, .c (.n .i64 3)]),
 (none, .bi 15 .add (.c (.n .i64 6)) (.t 14)),
 (none, .bs 16 7 0 [.n .i64 0, .n .i64 0, .n .i64 0, .b false, .b false, .b false, .s []] []),
 (none, .bd 17 [.n .i64 0, .n .i64 0, .n .i64 0, .nil, .n .i64 0] [(3, 1, .t 16)]),
 (none, .bs 18 7 0 [.n .i64 0, .n .i64 0, .n .i64 0, .b false, .b false, .b false, .s []] []),
 (none, .bd 19 [.n .i64 0, .n .i64 0, .n .i64 0, .nil, .n .i64 0] [(3, 1, .t 18)]),
 (none, .bd 20 [.n .i64 0, .n .i64 0, .n .i64 0, .b false, .n .i64 0, .n .i64 0, .n .i64 0, .nil, .n .i64 0, .n .i64 0, .n .i64 0, .n .i64 0, .nil, .n .i64 0] [(0, 1, .t 12), (1, 1, .t 15), (4, 5, .t 17), (9, 5, .t 19)]),
 (none, .st 14 (.t 2) (.t 20)),
 (none, .kp [2])])
 (.rt))
 (.sk)))
 (.seq (.rg [(none, .fa 21 1 (.t 3)),
 (none, .ld 22 none (.t 21)),
 (none, .ia 23 14 (.t 22) (.c (.n .i64 0))),
 (none, .ld 24 (some 14) (.t 23)),
 (none, .st 14 (.t 2) (.t 24)),
 (none, .kp [2])])
 (.rt))))
theorem mr61 : MrT Try.prog 61 pc61 [.c 2 (some 14)] 25 := fun hn h => spec_of_run (fn := Try.f61) (by kernel_rfl) rfl (by kernel_rfl) (by kernel_rfl) hn h
theorem mk61 : MkT Try.prog 61 pc61 [.c 2 (some 14)] 25 := mr61.k
theorem mw61 : MwT Try.prog 61 pc61 [.c 2 (some 14)] 25 := mr61.w
-- 62 spec.MonitorRun
def pc62l0 : PC := .seq (.seq (.rg [(none, .mv 8 (.t 4)),
 (none, .mv 9 (.t 0)),
 (none, .ln 10 (.t 9)),
 (none, .bi 11 .lss (.t 8) (.t 10)),
 (none, .mv 12 (.t 11)),
 (some (12, true), .mv 13 (.t 0)),
 (some (12, true), .ca (some 14) 76 [.t 13]),
 (none, .pk 15 (.t 12) (.t 14) (.c (.b false))),
 (none, .kp [0, 2, 3, 4, 15])])
 (.ite (.t 15) (.sk)
 (.ex 0)))
 (.seq (.blk 1 (.dr [[], [], [], [1, 2], [1, 2, 3], [1, 2, 3, 4], [0, 1, 2, 3, 4, 5], [0, 1, 2, 3, 4, 5, 6]]
 (.q 0 (none, .ld 18 (some 3) (.t 3))
 (.q 1 (none, .mv 19 (.t 0))
 (.q 2 (none, .mv 20 (.t 4))
 (.q 3 (none, .ia 21 2 (.t 19) (.t 20))
 (.q 4 (none, .fa 22 1 (.t 21))
 (.q 5 (none, .ld 23 none (.t 22))
 (.alt 6 (none, .ca (some 24) 77 [.t 18, .t 23]) [false, false, false, false, false, false]
 (.alt 7 (none, .st 3 (.t 3) (.t 24)) [false, false, false, false, false, false]
 (.done)
 (.stop))
 (.stop)))))))) [0, 2, 3, 4]))
 (.rg [(none, .mv 16 (.t 4)),
 (none, .bi 17 .add (.t 16) (.c (.n .i64 1))),
 (none, .mv 4 (.t 17)),
 (none, .kp [0, 2, 3, 4])]))
def pc62 : PC := .seq (.rg [(none, .al 2 [.n .i64 0, .nil, .nil]),
 (none, .kp [0, 2])])
 (.seq (.rg [(none, .bs 5 14 0 [.n .i64 0, .n .i64 0, .n .i64 0, .b false, .n .i64 0, .n .i64 0, .n .i64 0, .nil, .n .i64 0, .n .i64 0, .n .i64 0, .n .i64 0, .nil, .n .i64 0] []),
 (none, .bs 6 2 0 [.n .i64 0, .n .i64 0] []),
 (none, .bd 7 [.n .i64 0, .nil, .nil] [(1, 1, .t 5), (2, 1, .t 6)]),
 (none, .al 3 [.n .i64 0, .nil, .nil]),
 (none, .st 3 (.t 3) (.t 7)),
 (none, .kp [0, 2, 3])])
 (.seq (.seq (.rg [(none, .mv 4 (.c (.n .i64 0))),
 (none, .kp [0, 2, 3, 4])])
 (.blk 0 (.lp pc62l0)))
 (.seq (.rg [(none, .ld 25 (some 3) (.t 3)),
 (none, .st 3 (.t 2) (.t 25)),
 (none, .kp [2])])
 (.rt))))
theorem mr62 : MrT Try.prog 62 pc62 [.c 2 (some 3)] 26 := fun hn h => spec_of_run (fn := Try.f62) (by kernel_rfl) rfl (by kernel_rfl) (by kernel_rfl) hn h
theorem mk62 : MkT Try.prog 62 pc62 [.c 2 (some 3)] 26 := mr62.k
theorem mw62 : MwT Try.prog 62 pc62 [.c 2 (some 3)] 26 := mr62.w
-- 63 spec.TalkRecords
def pc63l0 : PC := .seq (.seq (.rg [(none, .mv 11 (.t 7)),
 (none, .mv 12 (.t 6)),
 (none, .ln 13 (.t 12)),
 (none, .bi 14 .lss (.t 11) (.t 13)),
 (none, .kp [1, 5, 6, 7, 14])])
 (.ite (.t 14) (.sk)
 (.ex 0)))
 (.seq (.blk 1 (.rg [(none, .mv 17 (.t 5)),
 (none, .mv 18 (.t 1)),
 (none, .mv 19 (.t 7)),
 (none, .bi 20 .add (.t 18) (.t 19)),
 (none, .mv 21 (.t 6)),
 (none, .mv 22 (.t 7)),
 (none, .ia 23 4 (.t 21) (.t 22)),
 (none, .ld 24 (some 4) (.t 23)),
 (none, .ca (some 25) 79 [.t 24]),
 (none, .bd 26 [.n .i64 0, .s []] [(0, 1, .t 20), (1, 1, .t 25)]),
 (none, .bs 27 2 1 [.n .i64 0, .s []] [(0, .t 26)]),
 (none, .ap 28 2 24 (.t 17) (.t 27)),
 (none, .mv 5 (.t 28)),
 (none, .kp [1, 5, 6, 7])]))
 (.rg [(none, .mv 15 (.t 7)),
 (none, .bi 16 .add (.t 15) (.c (.n .i64 1))),
 (none, .mv 7 (.t 16)),
 (none, .kp [1, 5, 6, 7])]))
def pc63 : PC := .seq (.rg [(none, .bx 2 (.t 0)),
 (none, .mv 4 (.c .nil)),
 (none, .kp [1, 2])])
 (.seq (.rg [(none, .bs 8 2 0 [.n .i64 0, .s []] []),
 (none, .mv 5 (.t 8)),
 (none, .kp [1, 2, 5])])
 (.seq (.rg [(none, .ld 9 (some 12) (.t 2)),
 (none, .ca (some 10) 78 [.t 9]),
 (none, .mv 6 (.t 10)),
 (none, .kp [1, 5, 6])])
 (.seq (.seq (.rg [(none, .mv 7 (.c (.n .i64 0))),
 (none, .kp [1, 5, 6, 7])])
 (.blk 0 (.lp pc63l0)))
 (.seq (.seq (.rg [(none, .mv 29 (.t 1)),
 (none, .bi 30 .lss (.t 29) (.c (.n .i64 0))),
 (none, .mv 31 (.t 30)),
 (some (31, false), .mv 32 (.t 5)),
 (some (31, false), .ca (some 33) 76 [.t 32]),
 (some (31, false), .un 34 .not (.t 33)),
 (none, .pk 35 (.t 31) (.c (.b true)) (.t 34)),
 (none, .kp [5, 35])])
 (.ite (.t 35) (.seq (.rg [(none, .bs 36 2 0 [.n .i64 0, .s []] []),
 (none, .mv 4 (.t 36)),
 (none, .kp [4])])
 (.rt))
 (.sk)))
 (.seq (.rg [(none, .mv 37 (.t 5)),
 (none, .mv 4 (.t 37)),
 (none, .kp [4])])
 (.rt))))))
theorem mr63 : MrT Try.prog 63 pc63 [.t 4] 38 := fun hn h => spec_of_run (fn := Try.f63) (by kernel_rfl) rfl (by kernel_rfl) (by kernel_rfl) hn h
theorem mk63 : MkT Try.prog 63 pc63 [.t 4] 38 := mr63.k
theorem mw63 : MwT Try.prog 63 pc63 [.t 4] 38 := mr63.w
-- 64 spec.l92Talk
def pc64l0 : PC := .seq (.seq (.rg [(none, .mv 39 (.t 5)),
 (none, .mv 40 (.t 4)),
 (none, .bi 41 .lss (.t 39) (.t 40)),
 (none, .kp [0, 2, 3, 4, 5, 41])])
 (.ite (.t 41) (.sk)
 (.ex 0)))
 (.seq (.blk 1 (.seq (.rg [(none, .mv 44 (.t 0)),
 (none, .bs 45 1 6 [.s []] [(0, .c (.s [104, 101, 108, 108, 111])), (1, .c (.s [120])), (2, .c (.s [116, 111, 32, 116, 104, 101, 32, 111, 116, 104, 101, 114, 32, 115, 105, 100, 101])), (3, .c (.s [97, 98])), (4, .c (.s [102, 111, 117, 114])), (5, .c (.s [48, 49, 50, 51, 52, 53, 54, 55, 56, 57]))]),
 (none, .ca (some 46) 81 [.t 44, .t 45]),
 (none, .bd 47 [.b false, .n .i64 0, .b false, .s []] [(3, 1, .t 46)]),
 (none, .al 6 [.b false, .n .i64 0, .b false, .s []]),
 (none, .st 4 (.t 6) (.t 47)),
 (none, .kp [0, 2, 3, 4, 5, 6])])
 (.seq (.rg [(none, .mv 48 (.t 0)),
 (none, .ca (some 49) 57 [.t 48, .c (.n .i64 2)]),
 (none, .bi 50 .eql (.t 49) (.c (.n .i64 0))),
 (none, .fa 51 0 (.t 6)),
 (none, .st 1 (.t 51) (.t 50)),
 (none, .kp [0, 2, 3, 4, 5, 6])])
 (.seq (.rg [(none, .mv 52 (.t 0)),
 (none, .ca (some 53) 57 [.t 52, .c (.n .i64 3)]),
 (none, .bi 54 .eql (.t 53) (.c (.n .i64 0))),
 (none, .fa 55 2 (.t 6)),
 (none, .st 1 (.t 55) (.t 54)),
 (none, .kp [0, 2, 3, 4, 5, 6])])
 (.seq (.rg [(none, .fa 56 2 (.t 3)),
 (none, .fa 57 2 (.t 56)),
 (none, .ld 58 none (.t 57)),
 (none, .mv 7 (.t 58)),
 (none, .kp [0, 2, 3, 4, 5, 6, 7])])
 (.seq (.seq (.rg [(none, .fa 59 0 (.t 6)),
 (none, .ld 60 none (.t 59)),
 (none, .kp [0, 2, 3, 4, 5, 6, 7, 60])])
 (.ite (.t 60) (.rg [(none, .fa 61 6 (.t 3)),
 (none, .fa 62 2 (.t 61)),
 (none, .ld 63 none (.t 62)),
 (none, .mv 7 (.t 63)),
 (none, .kp [0, 2, 3, 4, 5, 6, 7])])
 (.sk)))
 (.seq (.rg [(none, .mv 64 (.t 0)),
 (none, .mv 65 (.t 7)),
 (none, .ca (some 66) 57 [.t 64, .t 65]),
 (none, .fa 67 1 (.t 6)),
 (none, .st 1 (.t 67) (.t 66)),
 (none, .kp [0, 2, 3, 4, 5, 6])])
 (.seq (.rg [(none, .fa 68 11 (.t 3)),
 (none, .ld 69 none (.t 68)),
 (none, .ld 70 (some 4) (.t 6)),
 (none, .bs 71 4 1 [.b false, .n .i64 0, .b false, .s []] [(0, .t 70)]),
 (none, .ap 72 4 40 (.t 69) (.t 71)),
 (none, .fa 73 11 (.t 3)),
 (none, .st 1 (.t 73) (.t 72)),
 (none, .kp [0, 2, 3, 4, 5])])
 (.seq (.rg [(none, .ld 74 (some 12) (.t 3)),
 (none, .ca (some 75) 82 [.t 74]),
 (none, .un 76 .not (.t 75)),
 (none, .kp [0, 2, 3, 4, 5, 76])])
 (.ite (.t 76) (.rg [(none, .fa 77 11 (.t 3)),
 (none, .ld 78 none (.t 77)),
 (none, .fa 79 11 (.t 3)),
 (none, .ld 80 none (.t 79)),
 (none, .ln 81 (.t 80)),
 (none, .bi 82 .sub (.t 81) (.c (.n .i64 1))),
 (none, .sc 83 4 (.t 78) none (some (.t 82))),
 (none, .fa 84 11 (.t 3)),
 (none, .st 1 (.t 84) (.t 83)),
 (none, .kp [0, 2, 3, 4, 5])])
 (.sk)))))))))))
 (.rg [(none, .mv 42 (.t 5)),
 (none, .bi 43 .add (.t 42) (.c (.n .i64 1))),
 (none, .mv 5 (.t 43)),
 (none, .kp [0, 2, 3, 4, 5])]))
def pc64 : PC := .seq (.rg [(none, .al 2 [.n .i64 0, .n .i64 0, .n .i64 0, .n .i64 0, .n .i64 0, .n .i64 0, .n .i64 0, .n .i64 0, .n .i64 0, .n .i64 0, .n .i64 0, .nil]),
 (none, .kp [0, 2])])
 (.seq (.rg [(none, .mv 8 (.t 0)),
 (none, .ca (some 9) 57 [.t 8, .c (.n .i64 5)]),
 (none, .bi 10 .add (.c (.n .i64 1)) (.t 9)),
 (none, .mv 11 (.t 0)),
 (none, .ca (some 12) 57 [.t 11, .c (.n .i64 5)]),
 (none, .bi 13 .add (.c (.n .i64 6)) (.t 12)),
 (none, .mv 14 (.t 0)),
 (none, .ca (some 15) 57 [.t 14, .c (.n .i64 99)]),
 (none, .bi 16 .add (.c (.n .i64 1)) (.t 15)),
 (none, .mv 17 (.t 0)),
 (none, .ca (some 18) 57 [.t 17, .c (.n .i64 4)]),
 (none, .bi 19 .add (.c (.n .i64 1)) (.t 18)),
 (none, .mv 20 (.t 0)),
 (none, .ca (some 21) 80 [.t 20]),
 (none, .bd 22 [.n .i64 0, .n .i64 0, .n .i64 0, .n .i64 0] [(0, 1, .t 16), (1, 1, .c (.n .i64 1000)), (2, 1, .t 19), (3, 1, .t 21)]),
 (none, .mv 23 (.t 0)),
 (none, .ca (some 24) 57 [.t 23, .c (.n .i64 99)]),
 (none, .bi 25 .add (.c (.n .i64 100)) (.t 24)),
 (none, .mv 26 (.t 0)),
 (none, .ca (some 27) 57 [.t 26, .c (.n .i64 4)]),
 (none, .bi 28 .add (.c (.n .i64 1)) (.t 27)),
 (none, .mv 29 (.t 0)),
 (none, .ca (some 30) 80 [.t 29]),
 (none, .bd 31 [.n .i64 0, .n .i64 0, .n .i64 0, .n .i64 0] [(0, 1, .t 25), (1, 1, .c (.n .i64 1000)), (2, 1, .t 28), (3, 1, .t 30)]),
 (none, .mv 32 (.t 0)),
 (none, .ca (some 33) 57 [.t 32, .c (.n .i64 8)]),
 (none, .bi 34 .add (.c (.n .i64 2)) (.t 33)),
 (none, .bs 35 4 0 [.b false, .n .i64 0, .b false, .s []] []),
 (none, .bd 36 [.n .i64 0, .n .i64 0, .n .i64 0, .n .i64 0, .n .i64 0, .n .i64 0, .n .i64 0, .n .i64 0, .n .i64 0, .n .i64 0, .n .i64 0, .nil] [(0, 1, .t 10), (1, 1, .t 13), (2, 4, .t 22), (6, 4, .t 31), (10, 1, .t 34), (11, 1, .t 35)]),
 (none, .al 3 [.n .i64 0, .n .i64 0, .n .i64 0, .n .i64 0, .n .i64 0, .n .i64 0, .n .i64 0, .n .i64 0, .n .i64 0, .n .i64 0, .n .i64 0, .nil]),
 (none, .st 12 (.t 3) (.t 36)),
 (none, .kp [0, 2, 3])])
 (.seq (.rg [(none, .mv 37 (.t 0)),
 (none, .ca (some 38) 57 [.t 37, .c (.n .i64 5)]),
 (none, .mv 4 (.t 38)),
 (none, .kp [0, 2, 3, 4])])
 (.seq (.seq (.rg [(none, .mv 5 (.c (.n .i64 0))),
 (none, .kp [0, 2, 3, 4, 5])])
 (.blk 0 (.lp pc64l0)))
 (.seq (.rg [(none, .ld 85 (some 12) (.t 3)),
 (none, .st 12 (.t 2) (.t 85)),
 (none, .kp [2])])
 (.rt)))))
theorem mr64 : MrT Try.prog 64 pc64 [.c 2 (some 12)] 86 := fun hn h => spec_of_run (fn := Try.f64) (by kernel_rfl) rfl (by kernel_rfl) (by kernel_rfl) hn h
theorem mk64 : MkT Try.prog 64 pc64 [.c 2 (some 12)] 86 := mr64.k
theorem mw64 : MwT Try.prog 64 pc64 [.c 2 (some 12)] 86 := mr64.w
-- 65 spec.l31Copy
def pc65 : PC := .seq (.rg [(none, .bx 1 (.t 0)),
 (none, .al 2 [.n .i64 0, .n .i64 0, .n .i64 0, .b false, .n .i64 0, .n .i64 0, .n .i64 0, .nil, .n .i64 0, .n .i64 0, .n .i64 0, .n .i64 0, .nil, .n .i64 0]),
 (none, .kp [1, 2])])
 (.seq (.rg [(none, .fa 3 4 (.t 1)),
 (none, .ld 4 (some 5) (.t 3)),
 (none, .ca (some 5) 83 [.t 4]),
 (none, .fa 6 4 (.t 1)),
 (none, .st 5 (.t 6) (.t 5)),
 (none, .kp [1, 2])])
 (.seq (.rg [(none, .fa 7 9 (.t 1)),
 (none, .ld 8 (some 5) (.t 7)),
 (none, .ca (some 9) 83 [.t 8]),
 (none, .fa 10 9 (.t 1)),
 (none, .st 5 (.t 10) (.t 9)),
 (none, .kp [1, 2])])
 (.seq (.rg [(none, .ld 11 (some 14) (.t 1)),
 (none, .st 14 (.t 2) (.t 11)),
 (none, .kp [2])])
 (.rt))))
theorem mr65 : MrT Try.prog 65 pc65 [.c 2 (some 14)] 12 := fun hn h => spec_of_run (fn := Try.f65) (by kernel_rfl) rfl (by kernel_rfl) (by kernel_rfl) hn h
theorem mk65 : MkT Try.prog 65 pc65 [.c 2 (some 14)] 12 := mr65.k
theorem mw65 : MwT Try.prog 65 pc65 [.c 2 (some 14)] 12 := mr65.w
-- 66 spec.l91Word
def pc66 : PC := .seq (.rg [(none, .mv 2 (.c (.n .i64 0))),
 (none, .kp [0])])
 (.seq (.seq (.rg [(none, .mv 3 (.t 0)),
 (none, .ca (some 4) 57 [.t 3, .c (.n .i64 12)]),
 (none, .kp [0, 4])])
 (.blk 0 (.seq (.rg [(none, .bi 6 .eql (.t 4) (.c (.n .i64 0))),
 (none, .mv 5 (.t 6)),
 (none, .kp [0, 4, 5])])
 (.ite (.t 5) (.seq (.rg [(none, .bs 7 1 6 [.n .i64 0] [(0, .c (.n .i64 (-1))), (1, .c (.n .i64 0)), (2, .c (.n .i64 65535)), (3, .c (.n .i64 65536)), (4, .c (.n .i64 256)), (5, .c (.n .i64 255))]),
 (none, .mv 8 (.t 0)),
 (none, .ca (some 9) 57 [.t 8, .c (.n .i64 6)]),
 (none, .ia 10 1 (.t 7) (.t 9)),
 (none, .ld 11 none (.t 10)),
 (none, .mv 2 (.t 11)),
 (none, .kp [2])])
 (.rt))
 (.seq (.seq (.rg [(none, .bi 13 .eql (.t 4) (.c (.n .i64 1))),
 (none, .mv 12 (.t 13)),
 (none, .kp [0, 4, 12])])
 (.ite (.t 12) (.sk)
 (.rg [(none, .bi 14 .eql (.t 4) (.c (.n .i64 2))),
 (none, .mv 12 (.t 14)),
 (none, .kp [0, 4, 12])])))
 (.ite (.t 12) (.seq (.rg [(none, .mv 15 (.t 0)),
 (none, .ca (some 16) 57 [.t 15, .c (.n .i64 6)]),
 (none, .bi 17 .add (.c (.n .i64 65530)) (.t 16)),
 (none, .mv 2 (.t 17)),
 (none, .kp [2])])
 (.rt))
 (.seq (.rg [(none, .bi 19 .eql (.t 4) (.c (.n .i64 3))),
 (none, .mv 18 (.t 19)),
 (none, .kp [0, 18])])
 (.ite (.t 18) (.seq (.rg [(none, .mv 20 (.t 0)),
 (none, .ca (some 21) 57 [.t 20, .c (.n .i64 256)]),
 (none, .bi 22 .mul (.c (.n .i64 256)) (.t 21)),
 (none, .mv 23 (.t 0)),
 (none, .ca (some 24) 57 [.t 23, .c (.n .i64 256)]),
 (none, .bi 25 .add (.t 22) (.t 24)),
 (none, .mv 2 (.t 25)),
 (none, .kp [2])])
 (.rt))
 (.sk)))))))))
 (.seq (.rg [(none, .mv 26 (.t 0)),
 (none, .ca (some 27) 57 [.t 26, .c (.n .i64 20)]),
 (none, .mv 2 (.t 27)),
 (none, .kp [2])])
 (.rt)))
theorem mr66 : MrT Try.prog 66 pc66 [.t 2] 28 := fun hn h => spec_of_run (fn := Try.f66) (by kernel_rfl) rfl (by kernel_rfl) (by kernel_rfl) hn h
theorem mk66 : MkT Try.prog 66 pc66 [.t 2] 28 := mr66.k
theorem mw66 : MwT Try.prog 66 pc66 [.t 2] 28 := mr66.w
-- 67 spec.l91Part
def pc67 : PC := .seq (.rg [(none, .al 2 [.n .i64 0, .n .i64 0, .n .i64 0, .b false, .b false, .b false, .s []]),
 (none, .kp [0, 2])])
 (.seq (.rg [(none, .mv 4 (.t 0)),
 (none, .ca (some 5) 80 [.t 4]),
 (none, .mv 6 (.t 0)),
 (none, .ca (some 7) 57 [.t 6, .c (.n .i64 3)]),
 (none, .mv 8 (.t 0)),
 (none, .ca (some 9) 57 [.t 8, .c (.n .i64 4)]),
 (none, .mv 10 (.t 0)),
 (none, .ca (some 11) 84 [.t 10, .c (.n .i64 6)]),
 (none, .bi 12 .add (.t 11) (.c (.s [116]))),
 (none, .bd 13 [.n .i64 0, .n .i64 0, .n .i64 0, .b false, .b false, .b false, .s []] [(0, 1, .t 5), (1, 1, .t 7), (2, 1, .t 9), (6, 1, .t 12)]),
 (none, .al 3 [.n .i64 0, .n .i64 0, .n .i64 0, .b false, .b false, .b false, .s []]),
 (none, .st 7 (.t 3) (.t 13)),
 (none, .kp [0, 2, 3])])
 (.seq (.rg [(none, .mv 14 (.t 0)),
 (none, .ca (some 15) 57 [.t 14, .c (.n .i64 2)]),
 (none, .bi 16 .eql (.t 15) (.c (.n .i64 0))),
 (none, .fa 17 3 (.t 3)),
 (none, .st 1 (.t 17) (.t 16)),
 (none, .kp [0, 2, 3])])
 (.seq (.rg [(none, .mv 18 (.t 0)),
 (none, .ca (some 19) 57 [.t 18, .c (.n .i64 2)]),
 (none, .bi 20 .eql (.t 19) (.c (.n .i64 0))),
 (none, .fa 21 4 (.t 3)),
 (none, .st 1 (.t 21) (.t 20)),
 (none, .kp [0, 2, 3])])
 (.seq (.rg [(none, .mv 22 (.t 0)),
 (none, .ca (some 23) 57 [.t 22, .c (.n .i64 4)]),
 (none, .bi 24 .eql (.t 23) (.c (.n .i64 0))),
 (none, .fa 25 5 (.t 3)),
 (none, .st 1 (.t 25) (.t 24)),
 (none, .kp [0, 2, 3])])
 (.seq (.seq (.rg [(none, .mv 26 (.t 0)),
 (none, .ca (some 27) 57 [.t 26, .c (.n .i64 20)]),
 (none, .kp [0, 2, 3, 27])])
 (.blk 0 (.seq (.rg [(none, .bi 29 .eql (.t 27) (.c (.n .i64 0))),
 (none, .mv 28 (.t 29)),
 (none, .kp [0, 2, 3, 27, 28])])
 (.ite (.t 28) (.rg [(none, .mv 30 (.t 0)),
 (none, .ca (some 31) 57 [.t 30, .c (.n .i64 3)]),
 (none, .bi 32 .add (.c (.n .i64 19)) (.t 31)),
 (none, .ca (some 33) 85 [.c (.s [121]), .t 32]),
 (none, .fa 34 6 (.t 3)),
 (none, .st 1 (.t 34) (.t 33)),
 (none, .kp [2, 3])])
 (.seq (.rg [(none, .bi 36 .eql (.t 27) (.c (.n .i64 1))),
 (none, .mv 35 (.t 36)),
 (none, .kp [0, 2, 3, 27, 35])])
 (.ite (.t 35) (.rg [(none, .fa 37 6 (.t 3)),
 (none, .st 1 (.t 37) (.c (.s []))),
 (none, .kp [2, 3])])
 (.seq (.rg [(none, .bi 39 .eql (.t 27) (.c (.n .i64 2))),
 (none, .mv 38 (.t 39)),
 (none, .kp [0, 2, 3, 27, 38])])
 (.ite (.t 38) (.rg [(none, .mv 40 (.t 0)),
 (none, .ca (some 41) 66 [.t 40]),
 (none, .fa 42 0 (.t 3)),
 (none, .st 1 (.t 42) (.t 41)),
 (none, .kp [2, 3])])
 (.seq (.rg [(none, .bi 44 .eql (.t 27) (.c (.n .i64 3))),
 (none, .mv 43 (.t 44)),
 (none, .kp [0, 2, 3, 27, 43])])
 (.ite (.t 43) (.rg [(none, .mv 45 (.t 0)),
 (none, .ca (some 46) 66 [.t 45]),
 (none, .fa 47 1 (.t 3)),
 (none, .st 1 (.t 47) (.t 46)),
 (none, .kp [2, 3])])
 (.seq (.rg [(none, .bi 49 .eql (.t 27) (.c (.n .i64 4))),
 (none, .mv 48 (.t 49)),
 (none, .kp [0, 2, 3, 48])])
 (.ite (.t 48) (.rg [(none, .mv 50 (.t 0)),
 (none, .ca (some 51) 66 [.t 50]),
 (none, .fa 52 2 (.t 3)),
 (none, .st 1 (.t 52) (.t 51)),
 (none, .kp [2, 3])])
 (.sk)))))))))))))
 (.seq (.rg [(none, .ld 53 (some 7) (.t 3)),
 (none, .st 7 (.t 2) (.t 53)),
 (none, .kp [2])])
 (.rt)))))))
theorem mr67 : MrT Try.prog 67 pc67 [.c 2 (some 7)] 54 := fun hn h => spec_of_run (fn := Try.f67) (by kernel_rfl) rfl (by kernel_rfl) (by kernel_rfl) hn h
theorem mk67 : MkT Try.prog 67 pc67 [.c 2 (some 7)] 54 := mr67.k
theorem mw67 : MwT Try.prog 67 pc67 [.c 2 (some 7)] 54 := mr67.w
-- 68 impl.likeParts
def pc68 : PC := .seq (.rg [(none, .bx 2 (.t 0)),
 (none, .bx 3 (.t 1)),
 (none, .mv 4 (.c (.b false))),
 (none, .kp [2, 3])])
 (.seq (.rg [(none, .fa 5 1 (.t 2)),
 (none, .ld 6 none (.t 5)),
 (none, .fa 7 1 (.t 3)),
 (none, .ld 8 none (.t 7)),
 (none, .bi 9 .eql (.t 6) (.t 8)),
 (none, .mv 10 (.t 9)),
 (some (10, true), .fa 11 2 (.t 2)),
 (some (10, true), .ld 12 none (.t 11)),
 (some (10, true), .fa 13 2 (.t 3)),
 (some (10, true), .ld 14 none (.t 13)),
 (some (10, true), .bi 15 .eql (.t 12) (.t 14)),
 (none, .pk 16 (.t 10) (.t 15) (.c (.b false))),
 (none, .mv 17 (.t 16)),
 (some (17, true), .fa 18 5 (.t 2)),
 (some (17, true), .ld 19 none (.t 18)),
 (some (17, true), .fa 20 5 (.t 3)),
 (some (17, true), .ld 21 none (.t 20)),
 (some (17, true), .bb 22 false (.t 19) (.t 21)),
 (none, .pk 23 (.t 17) (.t 22) (.c (.b false))),
 (none, .mv 4 (.t 23)),
 (none, .kp [4])])
 (.rt))
theorem mr68 : MrT Try.prog 68 pc68 [.t 4] 24 := fun hn h => spec_of_run (fn := Try.f68) (by kernel_rfl) rfl (by kernel_rfl) (by kernel_rfl) hn h
theorem mk68 : MkT Try.prog 68 pc68 [.t 4] 24 := mr68.k
theorem mw68 : MwT Try.prog 68 pc68 [.t 4] 24 := mr68.w
-- 69 spec.l22Same
def pc69 : PC := .seq (.rg [(none, .bx 2 (.t 0)),
 (none, .bx 3 (.t 1)),
 (none, .mv 4 (.c (.b false))),
 (none, .kp [2, 3])])
 (.seq (.rg [(none, .fa 5 1 (.t 2)),
 (none, .ld 6 none (.t 5)),
 (none, .fa 7 1 (.t 3)),
 (none, .ld 8 none (.t 7)),
 (none, .bi 9 .eql (.t 6) (.t 8)),
 (none, .mv 10 (.t 9)),
 (some (10, true), .fa 11 2 (.t 2)),
 (some (10, true), .ld 12 none (.t 11)),
 (some (10, true), .fa 13 2 (.t 3)),
 (some (10, true), .ld 14 none (.t 13)),
 (some (10, true), .bi 15 .eql (.t 12) (.t 14)),
 (none, .pk 16 (.t 10) (.t 15) (.c (.b false))),
 (none, .mv 17 (.t 16)),
 (some (17, true), .fa 18 5 (.t 2)),
 (some (17, true), .ld 19 none (.t 18)),
 (some (17, true), .fa 20 5 (.t 3)),
 (some (17, true), .ld 21 none (.t 20)),
 (some (17, true), .bb 22 false (.t 19) (.t 21)),
 (none, .pk 23 (.t 17) (.t 22) (.c (.b false))),
 (none, .mv 4 (.t 23)),
 (none, .kp [4])])
 (.rt))
theorem mr69 : MrT Try.prog 69 pc69 [.t 4] 24 := fun hn h => spec_of_run (fn := Try.f69) (by kernel_rfl) rfl (by kernel_rfl) (by kernel_rfl) hn h
theorem mk69 : MkT Try.prog 69 pc69 [.t 4] 24 := mr69.k
theorem mw69 : MwT Try.prog 69 pc69 [.t 4] 24 := mr69.w
-- 70 spec.l31Ssn
def pc70l0 : PC := .seq (.seq (.rg [(none, .mv 7 (.t 6)),
 (none, .mv 8 (.t 0)),
 (none, .ln 9 (.t 8)),
 (none, .bi 10 .lss (.t 7) (.t 9)),
 (none, .kp [0, 1, 5, 6, 10])])
 (.ite (.t 10) (.sk)
 (.ex 0)))
 (.seq (.blk 1 (.seq (.rg [(none, .mv 13 (.t 0)),
 (none, .mv 14 (.t 6)),
 (none, .ia 15 7 (.t 13) (.t 14)),
 (none, .fa 16 3 (.t 15)),
 (none, .ld 17 none (.t 16)),
 (none, .mv 18 (.t 17)),
 (some (18, true), .mv 19 (.t 0)),
 (some (18, true), .mv 20 (.t 6)),
 (some (18, true), .ia 21 7 (.t 19) (.t 20)),
 (some (18, true), .fa 22 5 (.t 21)),
 (some (18, true), .ld 23 none (.t 22)),
 (some (18, true), .un 24 .not (.t 23)),
 (none, .pk 25 (.t 18) (.t 24) (.c (.b false))),
 (none, .mv 26 (.t 25)),
 (some (26, true), .mv 27 (.t 0)),
 (some (26, true), .mv 28 (.t 6)),
 (some (26, true), .ia 29 7 (.t 27) (.t 28)),
 (some (26, true), .fa 30 1 (.t 29)),
 (some (26, true), .ld 31 none (.t 30)),
 (some (26, true), .mv 32 (.t 1)),
 (some (26, true), .bi 33 .eql (.t 31) (.t 32)),
 (none, .pk 34 (.t 26) (.t 33) (.c (.b false))),
 (none, .kp [0, 1, 5, 6, 34])])
 (.ite (.t 34) (.rg [(none, .mv 35 (.t 5)),
 (none, .bi 36 .add (.t 35) (.c (.n .i64 1))),
 (none, .mv 5 (.t 36)),
 (none, .kp [0, 1, 5, 6])])
 (.sk))))
 (.rg [(none, .mv 11 (.t 6)),
 (none, .bi 12 .add (.t 11) (.c (.n .i64 1))),
 (none, .mv 6 (.t 12)),
 (none, .kp [0, 1, 5, 6])]))
def pc70 : PC := .seq (.rg [(none, .mv 4 (.c (.n .i64 0))),
 (none, .kp [0, 1])])
 (.seq (.rg [(none, .mv 5 (.c (.n .i64 0))),
 (none, .kp [0, 1, 5])])
 (.seq (.seq (.rg [(none, .mv 6 (.c (.n .i64 0))),
 (none, .kp [0, 1, 5, 6])])
 (.blk 0 (.lp pc70l0)))
 (.seq (.rg [(none, .mv 37 (.t 5)),
 (none, .mv 4 (.t 37)),
 (none, .kp [4])])
 (.rt))))
theorem mr70 : MrT Try.prog 70 pc70 [.t 4] 38 := fun hn h => spec_of_run (fn := Try.f70) (by kernel_rfl) rfl (by kernel_rfl) (by kernel_rfl) hn h
theorem mk70 : MkT Try.prog 70 pc70 [.t 4] 38 := mr70.k
theorem mw70 : MwT Try.prog 70 pc70 [.t 4] 38 := mr70.w
-- 71 spec.l32Copy
def pc71l0 : PC := .seq (.seq (.rg [(none, .mv 13 (.t 4)),
 (none, .fa 14 1 (.t 1)),
 (none, .ld 15 none (.t 14)),
 (none, .ln 16 (.t 15)),
 (none, .bi 17 .lss (.t 13) (.t 16)),
 (none, .kp [1, 2, 3, 4, 17])])
 (.ite (.t 17) (.sk)
 (.ex 0)))
 (.seq (.blk 1 (.dr [[], [0], [], [2], [], [2, 3, 4], [2, 3, 4, 5], [2, 3, 4, 5, 6], [2, 3, 4, 5, 6, 7], [0, 1, 2, 3, 4, 5, 6, 7, 8], [0, 1, 2, 3, 4, 5, 6, 7, 8, 9], [0, 1, 2, 3, 4, 5, 6, 7, 8, 9, 10]]
 (.q 0 (none, .fa 20 1 (.t 3))
 (.q 1 (none, .ld 21 none (.t 20))
 (.q 2 (none, .fa 22 1 (.t 1))
 (.q 3 (none, .ld 23 none (.t 22))
 (.q 4 (none, .mv 24 (.t 4))
 (.q 5 (none, .ia 25 14 (.t 23) (.t 24))
 (.q 6 (none, .ld 26 (some 14) (.t 25))
 (.alt 7 (none, .ca (some 27) 65 [.t 26]) [true, true, false, false, false, false, false]
 (.alt 8 (none, .bs 28 14 1 [.n .i64 0, .n .i64 0, .n .i64 0, .b false, .n .i64 0, .n .i64 0, .n .i64 0, .nil, .n .i64 0, .n .i64 0, .n .i64 0, .n .i64 0, .nil, .n .i64 0] [(0, .t 27)]) [true, true, false, false, false, false, false]
 (.alt 9 (none, .ap 29 14 144 (.t 21) (.t 28)) [false, false, false, false, false, false, false]
 (.q 10 (none, .fa 30 1 (.t 3))
 (.alt 11 (none, .st 1 (.t 30) (.t 29)) [false, false, false, false, false, false, false, false]
 (.done)
 (.stop)))
 (.stop))
 (.stop))
 (.stop))))))))) [1, 2, 3, 4]))
 (.rg [(none, .mv 18 (.t 4)),
 (none, .bi 19 .add (.t 18) (.c (.n .i64 1))),
 (none, .mv 4 (.t 19)),
 (none, .kp [1, 2, 3, 4])]))
def pc71 : PC := .seq (.rg [(none, .bx 1 (.t 0)),
 (none, .al 2 [.n .i64 0, .nil, .nil]),
 (none, .kp [1, 2])])
 (.seq (.dr [[], [0], [], [], [], [4], [3, 4, 5], [0, 1, 2, 3, 4, 5, 6], [], [0, 1, 2, 3, 4, 5, 6, 7, 8]]
 (.q 0 (none, .fa 5 0 (.t 1))
 (.q 1 (none, .ld 6 none (.t 5))
 (.q 4 (none, .fa 9 2 (.t 1))
 (.q 5 (none, .ld 10 none (.t 9))
 (.alt 2 (none, .bs 7 14 0 [.n .i64 0, .n .i64 0, .n .i64 0, .b false, .n .i64 0, .n .i64 0, .n .i64 0, .nil, .n .i64 0, .n .i64 0, .n .i64 0, .n .i64 0, .nil, .n .i64 0] []) [true, true, true, true]
 (.alt 3 (none, .bs 8 2 0 [.n .i64 0, .n .i64 0] []) [true, true, true, true]
 (.alt 6 (none, .ap 11 2 16 (.t 8) (.t 10)) [true, true, false, false]
 (.q 7 (none, .bd 12 [.n .i64 0, .nil, .nil] [(0, 1, .t 6), (1, 1, .t 7), (2, 1, .t 11)])
 (.alt 8 (none, .al 3 [.n .i64 0, .nil, .nil]) [true, true, true, true, true]
 (.alt 9 (none, .st 3 (.t 3) (.t 12)) [false, false, false, false, false]
 (.done)
 (.stop))
 (.stop)))
 (.alt 8 (none, .al 3 [.n .i64 0, .nil, .nil]) [true, true, true, true]
 (.alt 6 (none, .ap 11 2 16 (.t 8) (.t 10)) [true, true, false, false]
 (.q 7 (none, .bd 12 [.n .i64 0, .nil, .nil] [(0, 1, .t 6), (1, 1, .t 7), (2, 1, .t 11)])
 (.alt 9 (none, .st 3 (.t 3) (.t 12)) [false, false, false, false, false]
 (.done)
 (.stop)))
 (.stop))
 (.stop)))
 (.alt 8 (none, .al 3 [.n .i64 0, .nil, .nil]) [true, true, true, true]
 (.alt 3 (none, .bs 8 2 0 [.n .i64 0, .n .i64 0] []) [true, true, true, true]
 (.alt 6 (none, .ap 11 2 16 (.t 8) (.t 10)) [true, true, false, false]
 (.q 7 (none, .bd 12 [.n .i64 0, .nil, .nil] [(0, 1, .t 6), (1, 1, .t 7), (2, 1, .t 11)])
 (.alt 9 (none, .st 3 (.t 3) (.t 12)) [false, false, false, false, false]
 (.done)
 (.stop)))
 (.stop))
 (.stop))
 (.stop)))
 (.alt 3 (none, .bs 8 2 0 [.n .i64 0, .n .i64 0] []) [true, true, true, true]
 (.alt 2 (none, .bs 7 14 0 [.n .i64 0, .n .i64 0, .n .i64 0, .b false, .n .i64 0, .n .i64 0, .n .i64 0, .nil, .n .i64 0, .n .i64 0, .n .i64 0, .n .i64 0, .nil, .n .i64 0] []) [true, true, true, true]
 (.alt 6 (none, .ap 11 2 16 (.t 8) (.t 10)) [true, true, false, false]
 (.q 7 (none, .bd 12 [.n .i64 0, .nil, .nil] [(0, 1, .t 6), (1, 1, .t 7), (2, 1, .t 11)])
 (.alt 8 (none, .al 3 [.n .i64 0, .nil, .nil]) [true, true, true, true, true]
 (.alt 9 (none, .st 3 (.t 3) (.t 12)) [false, false, false, false, false]
 (.done)
 (.stop))
 (.stop)))
 (.alt 8 (none, .al 3 [.n .i64 0, .nil, .nil]) [true, true, true, true]
 (.alt 6 (none, .ap 11 2 16 (.t 8) (.t 10)) [true, true, false, false]
 (.q 7 (none, .bd 12 [.n .i64 0, .nil, .nil] [(0, 1, .t 6), (1, 1, .t 7), (2, 1, .t 11)])
 (.alt 9 (none, .st 3 (.t 3) (.t 12)) [false, false, false, false, false]
 (.done)
 (.stop)))
 (.stop))
 (.stop)))
 (.alt 6 (none, .ap 11 2 16 (.t 8) (.t 10)) [true, true, false, false]
 (.alt 2 (none, .bs 7 14 0 [.n .i64 0, .n .i64 0, .n .i64 0, .b false, .n .i64 0, .n .i64 0, .n .i64 0, .nil, .n .i64 0, .n .i64 0, .n .i64 0, .n .i64 0, .nil, .n .i64 0] []) [true, true, true, true]
 (.q 7 (none, .bd 12 [.n .i64 0, .nil, .nil] [(0, 1, .t 6), (1, 1, .t 7), (2, 1, .t 11)])
 (.alt 8 (none, .al 3 [.n .i64 0, .nil, .nil]) [true, true, true, true, true]
 (.alt 9 (none, .st 3 (.t 3) (.t 12)) [false, false, false, false, false]
 (.done)
 (.stop))
 (.stop)))
 (.alt 8 (none, .al 3 [.n .i64 0, .nil, .nil]) [true, true, true, true]
 (.alt 2 (none, .bs 7 14 0 [.n .i64 0, .n .i64 0, .n .i64 0, .b false, .n .i64 0, .n .i64 0, .n .i64 0, .nil, .n .i64 0, .n .i64 0, .n .i64 0, .n .i64 0, .nil, .n .i64 0] []) [true, true, true, true]
 (.q 7 (none, .bd 12 [.n .i64 0, .nil, .nil] [(0, 1, .t 6), (1, 1, .t 7), (2, 1, .t 11)])
 (.alt 9 (none, .st 3 (.t 3) (.t 12)) [false, false, false, false, false]
 (.done)
 (.stop)))
 (.stop))
 (.stop)))
 (.alt 8 (none, .al 3 [.n .i64 0, .nil, .nil]) [true, true, true, true]
 (.alt 2 (none, .bs 7 14 0 [.n .i64 0, .n .i64 0, .n .i64 0, .b false, .n .i64 0, .n .i64 0, .n .i64 0, .nil, .n .i64 0, .n .i64 0, .n .i64 0, .n .i64 0, .nil, .n .i64 0] []) [true, true, true, true]
 (.alt 6 (none, .ap 11 2 16 (.t 8) (.t 10)) [true, true, false, false]
 (.q 7 (none, .bd 12 [.n .i64 0, .nil, .nil] [(0, 1, .t 6), (1, 1, .t 7), (2, 1, .t 11)])
 (.alt 9 (none, .st 3 (.t 3) (.t 12)) [false, false, false, false, false]
 (.done)
 (.stop)))
 (.stop))
 (.alt 6 (none, .ap 11 2 16 (.t 8) (.t 10)) [true, true, false, false]
 (.alt 2 (none, .bs 7 14 0 [.n .i64 0, .n .i64 0, .n .i64 0, .b false, .n .i64 0, .n .i64 0, .n .i64 0, .nil, .n .i64 0, .n .i64 0, .n .i64 0, .n .i64 0, .nil, .n .i64 0] []) [true, true, true, true]
 (.q 7 (none, .bd 12 [.n .i64 0, .nil, .nil] [(0, 1, .t 6), (1, 1, .t 7), (2, 1, .t 11)])
 (.alt 9 (none, .st 3 (.t 3) (.t 12)) [false, false, false, false, false]
 (.done)
 (.stop)))
 (.stop))
 (.stop)))
 (.stop))))
 (.alt 8 (none, .al 3 [.n .i64 0, .nil, .nil]) [true, true, true, true]
 (.alt 2 (none, .bs 7 14 0 [.n .i64 0, .n .i64 0, .n .i64 0, .b false, .n .i64 0, .n .i64 0, .n .i64 0, .nil, .n .i64 0, .n .i64 0, .n .i64 0, .n .i64 0, .nil, .n .i64 0] []) [true, true, true, true]
 (.alt 3 (none, .bs 8 2 0 [.n .i64 0, .n .i64 0] []) [true, true, true, true]
 (.alt 6 (none, .ap 11 2 16 (.t 8) (.t 10)) [true, true, false, false]
 (.q 7 (none, .bd 12 [.n .i64 0, .nil, .nil] [(0, 1, .t 6), (1, 1, .t 7), (2, 1, .t 11)])
 (.alt 9 (none, .st 3 (.t 3) (.t 12)) [false, false, false, false, false]
 (.done)
 (.stop)))
 (.stop))
 (.stop))
 (.alt 3 (none, .bs 8 2 0 [.n .i64 0, .n .i64 0] []) [true, true, true, true]
 (.alt 2 (none, .bs 7 14 0 [.n .i64 0, .n .i64 0, .n .i64 0, .b false, .n .i64 0, .n .i64 0, .n .i64 0, .nil, .n .i64 0, .n .i64 0, .n .i64 0, .n .i64 0, .nil, .n .i64 0] []) [true, true, true, true]
 (.alt 6 (none, .ap 11 2 16 (.t 8) (.t 10)) [true, true, false, false]
 (.q 7 (none, .bd 12 [.n .i64 0, .nil, .nil] [(0, 1, .t 6), (1, 1, .t 7), (2, 1, .t 11)])
 (.alt 9 (none, .st 3 (.t 3) (.t 12)) [false, false, false, false, false]
 (.done)
 (.stop)))
 (.stop))
 (.alt 6 (none, .ap 11 2 16 (.t 8) (.t 10)) [true, true, false, false]
 (.alt 2 (none, .bs 7 14 0 [.n .i64 0, .n .i64 0, .n .i64 0, .b false, .n .i64 0, .n .i64 0, .n .i64 0, .nil, .n .i64 0, .n .i64 0, .n .i64 0, .n .i64 0, .nil, .n .i64 0] []) [true, true, true, true]
 (.q 7 (none, .bd 12 [.n .i64 0, .nil, .nil] [(0, 1, .t 6), (1, 1, .t 7), (2, 1, .t 11)])
 (.alt 9 (none, .st 3 (.t 3) (.t 12)) [false, false, false, false, false]
 (.done)
 (.stop)))
 (.stop))
 (.stop)))
 (.stop)))
 (.stop)))))))) [1, 2, 3])
 (.seq (.seq (.rg [(none, .mv 4 (.c (.n .i64 0))),
 (none, .kp [1, 2, 3, 4])])
 (.blk 0 (.lp pc71l0)))
 (.seq (.rg [(none, .ld 31 (some 3) (.t 3)),
 (none, .st 3 (.t 2) (.t 31)),
 (none, .kp [2])])
 (.rt))))
theorem mr71 : MrT Try.prog 71 pc71 [.c 2 (some 3)] 32 := fun hn h => spec_of_run (fn := Try.f71) (by kernel_rfl) rfl (by kernel_rfl) (by kernel_rfl) hn h
theorem mk71 : MkT Try.prog 71 pc71 [.c 2 (some 3)] 32 := mr71.k
theorem mw71 : MwT Try.prog 71 pc71 [.c 2 (some 3)] 32 := mr71.w
-- 72 spec.l92Monitor
def pc72l0 : PC := .seq (.seq (.rg [(none, .mv 18 (.t 6)),
 (none, .mv 19 (.t 5)),
 (none, .bi 20 .lss (.t 18) (.t 19)),
 (none, .kp [0, 2, 3, 4, 5, 6, 20])])
 (.ite (.t 20) (.sk)
 (.ex 0)))
 (.seq (.blk 1 (.seq (.seq (.rg [(none, .mv 23 (.t 0)),
 (none, .ca (some 24) 57 [.t 23, .c (.n .i64 16)]),
 (none, .bi 25 .gtr (.t 24) (.c (.n .i64 0))),
 (none, .kp [0, 2, 3, 4, 5, 6, 25])])
 (.ite (.t 25) (.dr [[], [], [], [1, 2], [1, 2, 3], [1, 2, 3, 4], [0, 1, 2, 3, 4, 5], [0, 1, 2, 3, 4, 5, 6]]
 (.q 0 (none, .ld 26 (some 3) (.t 4))
 (.q 1 (none, .mv 27 (.t 3))
 (.q 2 (none, .mv 28 (.t 6))
 (.q 3 (none, .ia 29 2 (.t 27) (.t 28))
 (.q 4 (none, .fa 30 1 (.t 29))
 (.q 5 (none, .ld 31 none (.t 30))
 (.alt 6 (none, .ca (some 32) 86 [.t 26, .t 31]) [false, false, false, false, false, false]
 (.alt 7 (none, .st 3 (.t 4) (.t 32)) [false, false, false, false, false, false]
 (.done)
 (.stop))
 (.stop)))))))) [0, 2, 3, 4, 5, 6])
 (.sk)))
 (.seq (.rg [(none, .mv 33 (.t 0)),
 (none, .ca (some 34) 57 [.t 33, .c (.n .i64 12)]),
 (none, .bi 35 .eql (.t 34) (.c (.n .i64 0))),
 (none, .kp [0, 2, 3, 4, 5, 6, 35])])
 (.ite (.t 35) (.dr [[], [], [], [], [], [4], [3, 4, 5], [2, 3, 4, 5, 6], [2, 3, 4, 5, 6, 7], [2, 3, 4, 5, 6, 7, 8], [1, 2, 3, 4, 5, 6, 7, 8, 9], [0, 1, 2, 3, 4, 5, 6, 7, 8, 9, 10], [0, 1, 2, 3, 4, 5, 6, 7, 8, 9, 10, 11]]
 (.q 0 (none, .ld 36 (some 3) (.t 4))
 (.q 1 (none, .mv 37 (.t 0))
 (.q 2 (none, .mv 38 (.t 3))
 (.q 3 (none, .mv 39 (.t 0))
 (.q 4 (none, .mv 40 (.t 3))
 (.q 5 (none, .ln 41 (.t 40))
 (.alt 6 (none, .ca (some 42) 57 [.t 39, .t 41]) [true, true, true, false, false, false]
 (.q 7 (none, .ia 43 2 (.t 38) (.t 42))
 (.q 8 (none, .fa 44 1 (.t 43))
 (.q 9 (none, .ld 45 none (.t 44))
 (.alt 10 (none, .ca (some 46) 87 [.t 37, .t 45]) [true, false, false, false, false, false, false, false, false]
 (.alt 11 (none, .ca (some 47) 86 [.t 36, .t 46]) [false, false, false, false, false, false, false, false, false]
 (.alt 12 (none, .st 3 (.t 4) (.t 47)) [false, false, false, false, false, false, false, false, false]
 (.done)
 (.stop))
 (.stop))
 (.stop)))))
 (.stop)))))))) [0, 2, 3, 4, 5, 6])
 (.sk)))))
 (.rg [(none, .mv 21 (.t 6)),
 (none, .bi 22 .add (.t 21) (.c (.n .i64 1))),
 (none, .mv 6 (.t 22)),
 (none, .kp [0, 2, 3, 4, 5, 6])]))
def pc72 : PC := .seq (.rg [(none, .al 2 [.n .i64 0, .nil, .nil]),
 (none, .kp [0, 2])])
 (.seq (.rg [(none, .mv 7 (.t 0)),
 (none, .ca (some 8) 64 [.t 7]),
 (none, .ca (some 9) 63 [.t 8, .c (.n .i64 0)]),
 (none, .mv 3 (.t 9)),
 (none, .kp [0, 2, 3])])
 (.seq (.rg [(none, .bs 10 14 0 [.n .i64 0, .n .i64 0, .n .i64 0, .b false, .n .i64 0, .n .i64 0, .n .i64 0, .nil, .n .i64 0, .n .i64 0, .n .i64 0, .n .i64 0, .nil, .n .i64 0] []),
 (none, .bs 11 2 0 [.n .i64 0, .n .i64 0] []),
 (none, .bd 12 [.n .i64 0, .nil, .nil] [(1, 1, .t 10), (2, 1, .t 11)]),
 (none, .al 4 [.n .i64 0, .nil, .nil]),
 (none, .st 3 (.t 4) (.t 12)),
 (none, .kp [0, 2, 3, 4])])
 (.seq (.rg [(none, .mv 13 (.t 0)),
 (none, .mv 14 (.t 3)),
 (none, .ln 15 (.t 14)),
 (none, .bi 16 .add (.t 15) (.c (.n .i64 1))),
 (none, .ca (some 17) 57 [.t 13, .t 16]),
 (none, .mv 5 (.t 17)),
 (none, .kp [0, 2, 3, 4, 5])])
 (.seq (.seq (.rg [(none, .mv 6 (.c (.n .i64 0))),
 (none, .kp [0, 2, 3, 4, 5, 6])])
 (.blk 0 (.lp pc72l0)))
 (.seq (.rg [(none, .ld 48 (some 3) (.t 4)),
 (none, .st 3 (.t 2) (.t 48)),
 (none, .kp [2])])
 (.rt))))))
theorem mr72 : MrT Try.prog 72 pc72 [.c 2 (some 3)] 49 := fun hn h => spec_of_run (fn := Try.f72) (by kernel_rfl) rfl (by kernel_rfl) (by kernel_rfl) hn h
theorem mk72 : MkT Try.prog 72 pc72 [.c 2 (some 3)] 49 := mr72.k
theorem mw72 : MwT Try.prog 72 pc72 [.c 2 (some 3)] 49 := mr72.w
-- 76 spec.CaptureValid
def pc76l0 : PC := .seq (.seq (.rg [(none, .mv 5 (.t 4)),
 (none, .mv 6 (.t 0)),
 (none, .ln 7 (.t 6)),
 (none, .bi 8 .lss (.t 5) (.t 7)),
 (none, .kp [0, 3, 4, 8])])
 (.ite (.t 8) (.sk)
 (.ex 0)))
 (.seq (.blk 1 (.seq (.seq (.rg [(none, .mv 11 (.t 0)),
 (none, .mv 12 (.t 4)),
 (none, .ia 13 2 (.t 11) (.t 12)),
 (none, .ld 14 (some 2) (.t 13)),
 (none, .mv 15 (.t 3)),
 (none, .ca (some 16) 89 [.t 14, .t 15]),
 (none, .un 17 .not (.t 16)),
 (none, .kp [0, 4, 17])])
 (.ite (.t 17) (.seq (.rg [(none, .mv 2 (.c (.b false))),
 (none, .kp [2])])
 (.rt))
 (.sk)))
 (.rg [(none, .mv 18 (.t 0)),
 (none, .mv 19 (.t 4)),
 (none, .ia 20 2 (.t 18) (.t 19)),
 (none, .fa 21 0 (.t 20)),
 (none, .ld 22 none (.t 21)),
 (none, .mv 3 (.t 22)),
 (none, .kp [0, 3, 4])])))
 (.rg [(none, .mv 9 (.t 4)),
 (none, .bi 10 .add (.t 9) (.c (.n .i64 1))),
 (none, .mv 4 (.t 10)),
 (none, .kp [0, 3, 4])]))
def pc76 : PC := .seq (.rg [(none, .mv 2 (.c (.b false))),
 (none, .kp [0])])
 (.seq (.rg [(none, .mv 3 (.c (.n .i64 0))),
 (none, .kp [0, 3])])
 (.seq (.seq (.rg [(none, .mv 4 (.c (.n .i64 0))),
 (none, .kp [0, 3, 4])])
 (.blk 0 (.lp pc76l0)))
 (.seq (.rg [(none, .mv 23 (.t 0)),
 (none, .ln 24 (.t 23)),
 (none, .bi 25 .leq (.t 24) (.c (.n .i64 60))),
 (none, .mv 2 (.t 25)),
 (none, .kp [2])])
 (.rt))))
theorem mr76 : MrT Try.prog 76 pc76 [.t 2] 26 := fun hn h => spec_of_run (fn := Try.f76) (by kernel_rfl) rfl (by kernel_rfl) (by kernel_rfl) hn h
theorem mk76 : MkT Try.prog 76 pc76 [.t 2] 26 := mr76.k
theorem mw76 : MwT Try.prog 76 pc76 [.t 2] 26 := mr76.w
-- 77 spec.l32Step
def pc77l0 : PC := .seq (.seq (.rg [(none, .mv 108 (.t 13)),
 (none, .mv 109 (.t 12)),
 (none, .ln 110 (.t 109)),
 (none, .bi 111 .lss (.t 108) (.t 110)),
 (none, .kp [4, 5, 12, 13, 111])])
 (.ite (.t 111) (.sk)
 (.ex 0)))
 (.seq (.blk 1 (.dr [[], [], [], [1, 2], [1, 2, 3], [0, 1, 2, 3, 4], [0, 1, 2, 3, 4, 5]]
 (.q 0 (none, .ld 114 (some 3) (.t 5))
 (.q 1 (none, .mv 115 (.t 12))
 (.q 2 (none, .mv 116 (.t 13))
 (.q 3 (none, .ia 117 1 (.t 115) (.t 116))
 (.q 4 (none, .ld 118 none (.t 117))
 (.alt 5 (none, .ca (some 119) 91 [.t 114, .t 118]) [false, false, false, false, false]
 (.alt 6 (none, .st 3 (.t 5) (.t 119)) [false, false, false, false, false]
 (.done)
 (.stop))
 (.stop))))))) [4, 5, 12, 13]))
 (.rg [(none, .mv 112 (.t 13)),
 (none, .bi 113 .add (.t 112) (.c (.n .i64 1))),
 (none, .mv 13 (.t 113)),
 (none, .kp [4, 5, 12, 13])]))
def pc77 : PC := .seq (.rg [(none, .bx 2 (.t 0)),
 (none, .al 4 [.n .i64 0, .nil, .nil]),
 (none, .kp [1, 2, 4])])
 (.seq (.rg [(none, .ld 14 (some 3) (.t 2)),
 (none, .ca (some 15) 71 [.t 14]),
 (none, .al 5 [.n .i64 0, .nil, .nil]),
 (none, .st 3 (.t 5) (.t 15)),
 (none, .kp [1, 2, 4, 5])])
 (.seq (.rg [(none, .fa 16 0 (.t 2)),
 (none, .ld 17 none (.t 16)),
 (none, .bi 18 .add (.t 17) (.c (.n .i64 1))),
 (none, .fa 19 0 (.t 5)),
 (none, .st 1 (.t 19) (.t 18)),
 (none, .kp [1, 4, 5])])
 (.seq (.rg [(none, .mv 21 (.t 1)),
 (none, .ca (some 22) 90 [.t 21]),
 (none, .mv 20 (.t 22)),
 (none, .ex 23 (.t 20) 0),
 (none, .ex 24 (.t 20) 1),
 (none, .al 6 [.n .i64 0, .n .i64 0, .n .i64 0, .nil]),
 (none, .st 4 (.t 6) (.t 23)),
 (none, .mv 7 (.t 24)),
 (none, .kp [4, 5, 6, 7])])
 (.seq (.seq (.rg [(none, .mv 25 (.t 7)),
 (none, .bi 26 .neq (.t 25) (.c (.n .i64 0))),
 (none, .kp [4, 5, 6, 7, 26])])
 (.ite (.t 26) (.seq (.rg [(none, .ld 27 (some 3) (.t 5)),
 (none, .mv 28 (.t 7)),
 (none, .bi 29 .add (.c (.n .i64 101)) (.t 28)),
 (none, .bi 30 .sub (.t 29) (.c (.n .i64 1))),
 (none, .ca (some 31) 91 [.t 27, .t 30]),
 (none, .st 3 (.t 4) (.t 31)),
 (none, .kp [4])])
 (.rt))
 (.sk)))
 (.seq (.rg [(none, .ld 32 (some 3) (.t 5)),
 (none, .fa 33 0 (.t 6)),
 (none, .ld 34 none (.t 33)),
 (none, .fa 35 1 (.t 6)),
 (none, .ld 36 none (.t 35)),
 (none, .ca (some 37) 58 [.t 32, .t 34, .t 36]),
 (none, .mv 8 (.t 37)),
 (none, .kp [4, 5, 6, 8])])
 (.seq (.seq (.rg [(none, .mv 38 (.t 8)),
 (none, .bi 39 .geq (.t 38) (.c (.n .i64 0))),
 (none, .mv 40 (.t 39)),
 (some (40, true), .fa 41 1 (.t 5)),
 (some (40, true), .ld 42 none (.t 41)),
 (some (40, true), .mv 43 (.t 8)),
 (some (40, true), .ia 44 14 (.t 42) (.t 43)),
 (some (40, true), .fa 45 2 (.t 44)),
 (some (40, true), .ld 46 none (.t 45)),
 (some (40, true), .bi 47 .eql (.t 46) (.c (.n .i64 7))),
 (none, .pk 48 (.t 40) (.t 47) (.c (.b false))),
 (none, .mv 49 (.t 48)),
 (some (49, true), .fa 50 3 (.t 6)),
 (some (49, true), .ld 51 none (.t 50)),
 (some (49, true), .ia 52 3 (.t 51) (.c (.n .i64 0))),
 (some (49, true), .fa 53 0 (.t 52)),
 (some (49, true), .ld 54 none (.t 53)),
 (some (49, true), .bi 55 .eql (.t 54) (.c (.n .i64 1))),
 (none, .pk 56 (.t 49) (.t 55) (.c (.b false))),
 (none, .mv 57 (.t 56)),
 (some (57, true), .ld 58 (some 4) (.t 6)),
 (some (57, true), .ca (some 59) 92 [.t 58]),
 (none, .pk 60 (.t 57) (.t 59) (.c (.b false))),
 (none, .mv 61 (.t 60)),
 (some (61, true), .fa 62 2 (.t 6)),
 (some (61, true), .ld 63 none (.t 62)),
 (some (61, true), .bi 64 .eql (.t 63) (.c (.n .i64 0))),
 (none, .pk 65 (.t 61) (.t 64) (.c (.b false))),
 (none, .kp [4, 5, 6, 8, 65])])
 (.ite (.t 65) (.seq (.rg [(none, .fa 67 3 (.t 6)),
 (none, .ld 68 none (.t 67)),
 (none, .ia 69 3 (.t 68) (.c (.n .i64 0))),
 (none, .ld 70 (some 3) (.t 69)),
 (none, .ca (some 71) 93 [.t 70]),
 (none, .mv 66 (.t 71)),
 (none, .ex 72 (.t 66) 0),
 (none, .ex 73 (.t 66) 1),
 (none, .al 9 [.n .i64 0, .n .i64 0, .n .i64 0, .n .i64 0]),
 (none, .st 4 (.t 9) (.t 72)),
 (none, .mv 10 (.t 73)),
 (none, .kp [4, 5, 6, 8, 10])])
 (.seq (.rg [(none, .mv 74 (.t 10)),
 (none, .kp [4, 5, 6, 8, 74])])
 (.ite (.t 74) (.seq (.dr [[], [], [1], [], [1, 2, 3], [0, 1, 2, 3, 4], [], [6], [], [8], [6, 7, 8, 9], [0, 1, 2, 3, 4, 5, 6, 7, 8, 9, 10], [0, 1, 2, 3, 4, 5, 6, 7, 8, 9, 10, 11], [0, 1, 2, 3, 4, 5, 6, 7, 8, 9, 10, 11, 12]]
 (.q 1 (none, .fa 76 1 (.t 5))
 (.q 2 (none, .ld 77 none (.t 76))
 (.q 3 (none, .mv 78 (.t 8))
 (.q 4 (none, .sc 79 14 (.t 77) none (some (.t 78)))
 (.q 6 (none, .fa 81 1 (.t 5))
 (.q 7 (none, .ld 82 none (.t 81))
 (.q 8 (none, .mv 83 (.t 8))
 (.q 9 (none, .bi 84 .add (.t 83) (.c (.n .i64 1)))
 (.q 10 (none, .sc 85 14 (.t 82) (some (.t 84)) none)
 (.alt 0 (none, .bs 75 14 0 [.n .i64 0, .n .i64 0, .n .i64 0, .b false, .n .i64 0, .n .i64 0, .n .i64 0, .nil, .n .i64 0, .n .i64 0, .n .i64 0, .n .i64 0, .nil, .n .i64 0] []) [true, true, true, true, true, true, true, true, true]
 (.alt 5 (none, .ap 80 14 144 (.t 75) (.t 79)) [false, false, false, false, true, true, true, true, true]
 (.alt 11 (none, .ap 86 14 144 (.t 80) (.t 85)) [false, false, false, false, false, false, false, false, false]
 (.q 12 (none, .fa 87 1 (.t 5))
 (.alt 13 (none, .st 1 (.t 87) (.t 86)) [false, false, false, false, false, false, false, false, false, false]
 (.done)
 (.stop)))
 (.stop))
 (.stop))
 (.stop))))))))))) [4, 5, 6])
 (.rg [(none, .mv 8 (.c (.n .i64 (-1)))),
 (none, .kp [4, 5, 6, 8])]))
 (.sk))))
 (.sk)))
 (.seq (.seq (.rg [(none, .mv 88 (.t 8)),
 (none, .bi 89 .lss (.t 88) (.c (.n .i64 0))),
 (none, .kp [4, 5, 6, 8, 89])])
 (.ite (.t 89) (.seq (.rg [(none, .ld 90 (some 3) (.t 5)),
 (none, .ld 91 (some 4) (.t 6)),
 (none, .ca (some 92) 94 [.t 90, .t 91]),
 (none, .st 3 (.t 4) (.t 92)),
 (none, .kp [4])])
 (.rt))
 (.sk)))
 (.seq (.dr [[], [0], [], [0, 1, 2], [0, 1, 2, 3], [], [0, 1, 2, 3, 4, 5], [0, 1, 2, 3, 4, 5, 6], [0, 1, 2, 3, 4, 5, 6, 7], [0, 1, 2, 3, 4, 5, 6, 7], [], [0, 1, 2, 3, 4, 5, 6, 7, 8, 10], [0, 1, 2, 3, 4, 5, 6, 7, 8, 9, 10, 11]]
 (.q 0 (none, .fa 94 1 (.t 5))
 (.q 1 (none, .ld 95 none (.t 94))
 (.q 2 (none, .mv 96 (.t 8))
 (.q 3 (none, .ia 97 14 (.t 95) (.t 96))
 (.q 4 (none, .ld 98 (some 14) (.t 97))
 (.q 5 (none, .ld 99 (some 4) (.t 6))
 (.alt 6 (none, .ca (some 100) 95 [.t 98, .t 99]) [false, false, false, false, false, false]
 (.q 7 (none, .mv 93 (.t 100))
 (.q 8 (none, .ex 101 (.t 93) 0)
 (.q 9 (none, .ex 102 (.t 93) 1)
 (.alt 10 (none, .al 11 [.n .i64 0, .n .i64 0, .n .i64 0, .b false, .n .i64 0, .n .i64 0, .n .i64 0, .nil, .n .i64 0, .n .i64 0, .n .i64 0, .n .i64 0, .nil, .n .i64 0]) [true, true, true, true, true, true, true, true, true]
 (.alt 11 (none, .st 14 (.t 11) (.t 101)) [false, false, false, false, false, false, false, false, true]
 (.q 12 (none, .mv 12 (.t 102))
 (.done))
 (.stop))
 (.stop)))))
 (.alt 10 (none, .al 11 [.n .i64 0, .n .i64 0, .n .i64 0, .b false, .n .i64 0, .n .i64 0, .n .i64 0, .nil, .n .i64 0, .n .i64 0, .n .i64 0, .n .i64 0, .nil, .n .i64 0]) [true, true, true, true, true, true]
 (.alt 6 (none, .ca (some 100) 95 [.t 98, .t 99]) [false, false, false, false, false, false]
 (.q 7 (none, .mv 93 (.t 100))
 (.q 8 (none, .ex 101 (.t 93) 0)
 (.q 9 (none, .ex 102 (.t 93) 1)
 (.alt 11 (none, .st 14 (.t 11) (.t 101)) [false, false, false, false, false, false, false, false, true]
 (.q 12 (none, .mv 12 (.t 102))
 (.done))
 (.stop)))))
 (.stop))
 (.stop))))))))) [4, 5, 8, 11, 12])
 (.seq (.rg [(none, .fa 103 1 (.t 5)),
 (none, .ld 104 none (.t 103)),
 (none, .mv 105 (.t 8)),
 (none, .ld 106 (some 14) (.t 11)),
 (none, .ia 107 14 (.t 104) (.t 105)),
 (none, .st 14 (.t 107) (.t 106)),
 (none, .kp [4, 5, 12])])
 (.seq (.seq (.rg [(none, .mv 13 (.c (.n .i64 0))),
 (none, .kp [4, 5, 12, 13])])
 (.blk 0 (.lp pc77l0)))
 (.seq (.rg [(none, .ld 120 (some 3) (.t 5)),
 (none, .st 3 (.t 4) (.t 120)),
 (none, .kp [4])])
 (.rt))))))))))))
theorem mr77 : MrT Try.prog 77 pc77 [.c 4 (some 3)] 121 := fun hn h => spec_of_run (fn := Try.f77) (by kernel_rfl) rfl (by kernel_rfl) (by kernel_rfl) hn h
theorem mk77 : MkT Try.prog 77 pc77 [.c 4 (some 3)] 121 := mr77.k
theorem mw77 : MwT Try.prog 77 pc77 [.c 4 (some 3)] 121 := mr77.w
-- 78 spec.TalkPackets
def pc78l0 : PC := .seq (.seq (.rg [(none, .mv 46 (.t 8)),
 (none, .bi 47 .gtr (.t 46) (.c (.n .i64 0))),
 (none, .kp [1, 3, 4, 5, 6, 7, 8, 47])])
 (.ite (.t 47) (.sk)
 (.ex 2)))
 (.seq (.blk 3 (.seq (.rg [(none, .bd 50 [.n .i64 0, .n .i64 0, .n .i64 0, .b false, .b false, .b false, .s []] []),
 (none, .al 9 [.n .i64 0, .n .i64 0, .n .i64 0, .b false, .b false, .b false, .s []]),
 (none, .st 7 (.t 9) (.t 50)),
 (none, .kp [1, 3, 4, 5, 6, 7, 8, 9])])
 (.seq (.seq (.rg [(none, .mv 51 (.t 7)),
 (none, .kp [1, 3, 4, 5, 6, 7, 8, 9, 51])])
 (.ite (.t 51) (.seq (.rg [(none, .mv 52 (.t 5)),
 (none, .ia 53 7 (.t 52) (.c (.n .i64 0))),
 (none, .ld 54 (some 7) (.t 53)),
 (none, .st 7 (.t 9) (.t 54)),
 (none, .kp [1, 3, 4, 5, 6, 7, 8, 9])])
 (.rg [(none, .mv 55 (.t 5)),
 (none, .sc 56 7 (.t 55) (some (.c (.n .i64 1))) none),
 (none, .mv 5 (.t 56)),
 (none, .kp [1, 3, 4, 5, 6, 7, 8, 9])]))
 (.seq (.rg [(none, .mv 57 (.t 4)),
 (none, .ia 58 7 (.t 57) (.c (.n .i64 0))),
 (none, .ld 59 (some 7) (.t 58)),
 (none, .st 7 (.t 9) (.t 59)),
 (none, .kp [1, 3, 4, 5, 6, 7, 8, 9])])
 (.rg [(none, .mv 60 (.t 4)),
 (none, .sc 61 7 (.t 60) (some (.c (.n .i64 1))) none),
 (none, .mv 4 (.t 61)),
 (none, .kp [1, 3, 4, 5, 6, 7, 8, 9])]))))
 (.seq (.rg [(none, .ld 63 (some 7) (.t 9)),
 (none, .ca (some 64) 99 [.t 63]),
 (none, .mv 62 (.t 64)),
 (none, .ex 65 (.t 62) 0),
 (none, .ex 66 (.t 62) 1),
 (none, .al 10 [.n .i64 0, .n .i64 0, .s []]),
 (none, .st 3 (.t 10) (.t 65)),
 (none, .mv 11 (.t 66)),
 (none, .kp [1, 3, 4, 5, 6, 7, 8, 9, 10])])
 (.seq (.rg [(none, .fa 68 0 (.t 9)),
 (none, .ld 69 none (.t 68)),
 (none, .bd 70 [.n .i64 0, .nil] [(0, 1, .t 69)]),
 (none, .ca (some 71) 100 [.t 70]),
 (none, .mv 67 (.t 71)),
 (none, .ex 72 (.t 67) 0),
 (none, .ex 73 (.t 67) 1),
 (none, .al 12 [.n .i64 0, .n .i64 0, .s []]),
 (none, .st 3 (.t 12) (.t 72)),
 (none, .mv 13 (.t 73)),
 (none, .kp [1, 3, 4, 5, 6, 7, 8, 10, 12])])
 (.dr [[], [], [], [], [3], [1, 2, 3, 4], [], [], [7], [], [9], [1, 2, 3, 4, 5, 6, 7, 8, 9, 10], [1, 2, 3, 4, 5, 6, 7, 8, 9, 10, 11], [0, 1, 2, 3, 4, 5, 6, 7, 8, 9, 10, 11, 12], [0, 1, 2, 3, 4, 5, 6, 7, 8, 9, 10, 11, 12, 13]]
 (.q 0 (none, .mv 74 (.t 3))
 (.q 1 (none, .ld 75 (some 12) (.t 1))
 (.q 2 (none, .mv 76 (.t 7))
 (.q 3 (none, .ld 77 (some 3) (.t 10))
 (.q 6 (none, .ld 80 (some 12) (.t 1))
 (.q 7 (none, .mv 81 (.t 7))
 (.q 8 (none, .un 82 .not (.t 81))
 (.q 9 (none, .ld 83 (some 3) (.t 12))
 (.alt 4 (none, .bs 78 3 1 [.n .i64 0, .n .i64 0, .s []] [(0, .t 77)]) [true, true, true, false, true, true, true, true]
 (.alt 5 (none, .ca (some 79) 101 [.t 75, .t 76, .t 78]) [true, false, false, false, true, true, true, true]
 (.alt 10 (none, .bs 84 3 1 [.n .i64 0, .n .i64 0, .s []] [(0, .t 83)]) [true, true, true, true, true, true, true, false]
 (.alt 11 (none, .ca (some 85) 101 [.t 80, .t 82, .t 84]) [true, false, false, false, false, false, false, false]
 (.alt 12 (none, .bs 86 4 2 [.n .i64 0, .n .i64 0, .n .i64 0, .nil] [(0, .t 79), (1, .t 85)]) [true, false, false, false, false, false, false, false]
 (.alt 13 (none, .ap 87 4 48 (.t 74) (.t 86)) [false, false, false, false, false, false, false, false]
 (.alt 14 (none, .mv 3 (.t 87)) [false, false, false, false, false, false, false, false]
 (.done)
 (.stop))
 (.stop))
 (.stop))
 (.stop))
 (.stop))
 (.alt 10 (none, .bs 84 3 1 [.n .i64 0, .n .i64 0, .s []] [(0, .t 83)]) [true, true, true, true, true, true, true, false]
 (.alt 5 (none, .ca (some 79) 101 [.t 75, .t 76, .t 78]) [true, false, false, false, true, true, true, true]
 (.alt 11 (none, .ca (some 85) 101 [.t 80, .t 82, .t 84]) [true, false, false, false, false, false, false, false]
 (.alt 12 (none, .bs 86 4 2 [.n .i64 0, .n .i64 0, .n .i64 0, .nil] [(0, .t 79), (1, .t 85)]) [true, false, false, false, false, false, false, false]
 (.alt 13 (none, .ap 87 4 48 (.t 74) (.t 86)) [false, false, false, false, false, false, false, false]
 (.alt 14 (none, .mv 3 (.t 87)) [false, false, false, false, false, false, false, false]
 (.done)
 (.stop))
 (.stop))
 (.stop))
 (.stop))
 (.stop))
 (.stop)))
 (.alt 10 (none, .bs 84 3 1 [.n .i64 0, .n .i64 0, .s []] [(0, .t 83)]) [true, true, true, true, true, true, true, false]
 (.alt 4 (none, .bs 78 3 1 [.n .i64 0, .n .i64 0, .s []] [(0, .t 77)]) [true, true, true, false, true, true, true, true]
 (.alt 5 (none, .ca (some 79) 101 [.t 75, .t 76, .t 78]) [true, false, false, false, true, true, true, true]
 (.alt 11 (none, .ca (some 85) 101 [.t 80, .t 82, .t 84]) [true, false, false, false, false, false, false, false]
 (.alt 12 (none, .bs 86 4 2 [.n .i64 0, .n .i64 0, .n .i64 0, .nil] [(0, .t 79), (1, .t 85)]) [true, false, false, false, false, false, false, false]
 (.alt 13 (none, .ap 87 4 48 (.t 74) (.t 86)) [false, false, false, false, false, false, false, false]
 (.alt 14 (none, .mv 3 (.t 87)) [false, false, false, false, false, false, false, false]
 (.done)
 (.stop))
 (.stop))
 (.stop))
 (.stop))
 (.stop))
 (.stop))
 (.stop))))))))))) [1, 3, 4, 5, 6, 7, 8]))))))
 (.rg [(none, .mv 48 (.t 8)),
 (none, .bi 49 .sub (.t 48) (.c (.n .i64 1))),
 (none, .mv 8 (.t 49)),
 (none, .kp [1, 3, 4, 5, 6, 7, 8])]))
def pc78l1 : PC := .seq (.seq (.rg [(none, .mv 24 (.t 6)),
 (none, .fa 25 11 (.t 1)),
 (none, .ld 26 none (.t 25)),
 (none, .ln 27 (.t 26)),
 (none, .bi 28 .lss (.t 24) (.t 27)),
 (none, .kp [1, 3, 4, 5, 6, 28])])
 (.ite (.t 28) (.sk)
 (.ex 0)))
 (.seq (.blk 1 (.seq (.rg [(none, .fa 31 11 (.t 1)),
 (none, .ld 32 none (.t 31)),
 (none, .mv 33 (.t 6)),
 (none, .ia 34 4 (.t 32) (.t 33)),
 (none, .fa 35 0 (.t 34)),
 (none, .ld 36 none (.t 35)),
 (none, .mv 7 (.t 36)),
 (none, .kp [1, 3, 4, 5, 6, 7])])
 (.seq (.dr [[], [0], [], [0, 1, 2], [0, 1, 2, 3], [0, 1, 2, 3, 4], [], [6], [0, 1, 2, 3, 4, 5, 6, 7], [0, 1, 2, 3, 4, 5, 6, 7, 8]]
 (.q 0 (none, .fa 37 11 (.t 1))
 (.q 1 (none, .ld 38 none (.t 37))
 (.q 2 (none, .mv 39 (.t 6))
 (.q 3 (none, .ia 40 4 (.t 38) (.t 39))
 (.q 4 (none, .fa 41 3 (.t 40))
 (.q 5 (none, .ld 42 none (.t 41))
 (.q 6 (none, .fa 43 10 (.t 1))
 (.q 7 (none, .ld 44 none (.t 43))
 (.alt 8 (none, .ca (some 45) 98 [.t 42, .t 44]) [false, false, false, false, false, false, false, false]
 (.q 9 (none, .mv 8 (.t 45))
 (.done))
 (.stop)))))))))) [1, 3, 4, 5, 6, 7, 8])
 (.blk 2 (.lp pc78l0)))))
 (.rg [(none, .mv 29 (.t 6)),
 (none, .bi 30 .add (.t 29) (.c (.n .i64 1))),
 (none, .mv 6 (.t 30)),
 (none, .kp [1, 3, 4, 5, 6])]))
def pc78 : PC := .seq (.rg [(none, .bx 1 (.t 0)),
 (none, .mv 2 (.c .nil)),
 (none, .kp [1])])
 (.seq (.seq (.rg [(none, .ld 14 (some 12) (.t 1)),
 (none, .ca (some 15) 82 [.t 14]),
 (none, .un 16 .not (.t 15)),
 (none, .kp [1, 16])])
 (.ite (.t 16) (.seq (.rg [(none, .bs 17 4 0 [.n .i64 0, .n .i64 0, .n .i64 0, .nil] []),
 (none, .mv 2 (.t 17)),
 (none, .kp [2])])
 (.rt))
 (.sk)))
 (.seq (.rg [(none, .ld 18 (some 12) (.t 1)),
 (none, .ca (some 19) 96 [.t 18]),
 (none, .mv 3 (.t 19)),
 (none, .kp [1, 3])])
 (.seq (.rg [(none, .ld 20 (some 12) (.t 1)),
 (none, .ca (some 21) 97 [.t 20, .c (.b false)]),
 (none, .mv 4 (.t 21)),
 (none, .kp [1, 3, 4])])
 (.seq (.rg [(none, .ld 22 (some 12) (.t 1)),
 (none, .ca (some 23) 97 [.t 22, .c (.b true)]),
 (none, .mv 5 (.t 23)),
 (none, .kp [1, 3, 4, 5])])
 (.seq (.seq (.rg [(none, .mv 6 (.c (.n .i64 0))),
 (none, .kp [1, 3, 4, 5, 6])])
 (.blk 0 (.lp pc78l1)))
 (.seq (.dr [[], [], [1], [], [1, 2, 3], [], [1, 2, 3, 4, 5], [1, 2, 3, 4, 5, 6], [0, 1, 2, 3, 4, 5, 6, 7], [0, 1, 2, 3, 4, 5, 6, 7, 8]]
 (.q 0 (none, .mv 88 (.t 3))
 (.q 1 (none, .ld 89 (some 12) (.t 1))
 (.q 3 (none, .ld 91 (some 12) (.t 1))
 (.q 5 (none, .ld 93 (some 12) (.t 1))
 (.alt 2 (none, .ca (some 90) 102 [.t 89, .c (.b false), .c (.n .i64 7)]) [true, false, true, true]
 (.alt 4 (none, .ca (some 92) 102 [.t 91, .c (.b true), .c (.n .i64 8)]) [true, false, false, true]
 (.alt 6 (none, .ca (some 94) 102 [.t 93, .c (.b false), .c (.n .i64 14)]) [true, false, false, false]
 (.alt 7 (none, .bs 95 4 3 [.n .i64 0, .n .i64 0, .n .i64 0, .nil] [(0, .t 90), (1, .t 92), (2, .t 94)]) [true, false, false, false]
 (.alt 8 (none, .ap 96 4 48 (.t 88) (.t 95)) [false, false, false, false]
 (.q 9 (none, .mv 2 (.t 96))
 (.done))
 (.stop))
 (.stop))
 (.stop))
 (.stop))
 (.stop)))))) [2])
 (.rt)))))))
theorem mr78 : MrT Try.prog 78 pc78 [.t 2] 97 := fun hn h => spec_of_run (fn := Try.f78) (by kernel_rfl) rfl (by kernel_rfl) (by kernel_rfl) hn h
theorem mk78 : MkT Try.prog 78 pc78 [.t 2] 97 := mr78.k
theorem mw78 : MwT Try.prog 78 pc78 [.t 2] 97 := mr78.w
-- 79 spec.PacketPut
def pc79 : PC := .seq (.rg [(none, .bx 1 (.t 0)),
 (none, .mv 2 (.c (.s []))),
 (none, .kp [1])])
 (.seq (.seq (.rg [(none, .ld 3 (some 4) (.t 1)),
 (none, .ca (some 4) 103 [.t 3]),
 (none, .un 5 .not (.t 4)),
 (none, .kp [1, 5])])
 (.ite (.t 5) (.seq (.rg [(none, .mv 2 (.c (.s []))),
 (none, .kp [2])])
 (.rt))
 (.sk)))
 (.seq (.rg [(none, .ld 6 (some 4) (.t 1)),
 (none, .ca (some 7) 104 [.t 6]),
 (none, .mv 2 (.t 7)),
 (none, .kp [2])])
 (.rt)))
theorem mr79 : MrT Try.prog 79 pc79 [.t 2] 8 := fun hn h => spec_of_run (fn := Try.f79) (by kernel_rfl) rfl (by kernel_rfl) (by kernel_rfl) hn h
theorem mk79 : MkT Try.prog 79 pc79 [.t 2] 8 := mr79.k
theorem mw79 : MwT Try.prog 79 pc79 [.t 2] 8 := mr79.w
-- 80 spec.l91Good
def pc80 : PC := .seq (.rg [(none, .mv 2 (.c (.n .i64 0))),
 (none, .kp [0])])
 (.seq (.rg [(none, .mv 3 (.t 0)),
 (none, .ca (some 4) 66 [.t 3]),
 (none, .mx 5 (.t 4) (.c (.n .i64 0))),
 (none, .mn 6 (.t 5) (.c (.n .i64 65535))),
 (none, .mv 2 (.t 6)),
 (none, .kp [2])])
 (.rt))
theorem mr80 : MrT Try.prog 80 pc80 [.t 2] 7 := fun hn h => spec_of_run (fn := Try.f80) (by kernel_rfl) rfl (by kernel_rfl) (by kernel_rfl) hn h
theorem mk80 : MkT Try.prog 80 pc80 [.t 2] 7 := mr80.k
theorem mw80 : MwT Try.prog 80 pc80 [.t 2] 7 := mr80.w
-- 81 (*spec.l6Rd).of
def pc81 : PC := .seq (.rg [(none, .mv 4 (.c (.s []))),
 (none, .kp [0, 1])])
 (.seq (.rg [(none, .mv 5 (.t 1)),
 (none, .mv 6 (.t 0)),
 (none, .mv 7 (.t 1)),
 (none, .ln 8 (.t 7)),
 (none, .ca (some 9) 57 [.t 6, .t 8]),
 (none, .ia 10 1 (.t 5) (.t 9)),
 (none, .ld 11 none (.t 10)),
 (none, .mv 4 (.t 11)),
 (none, .kp [4])])
 (.rt))
theorem mr81 : MrT Try.prog 81 pc81 [.t 4] 12 := fun hn h => spec_of_run (fn := Try.f81) (by kernel_rfl) rfl (by kernel_rfl) (by kernel_rfl) hn h
theorem mk81 : MkT Try.prog 81 pc81 [.t 4] 12 := mr81.k
theorem mw81 : MwT Try.prog 81 pc81 [.t 4] 12 := mr81.w
-- 82 spec.TalkValid
def pc82l0 : PC := .seq (.seq (.rg [(none, .mv 42 (.t 5)),
 (none, .fa 43 11 (.t 1)),
 (none, .ld 44 none (.t 43)),
 (none, .ln 45 (.t 44)),
 (none, .bi 46 .lss (.t 42) (.t 45)),
 (none, .kp [1, 3, 4, 5, 46])])
 (.ite (.t 46) (.sk)
 (.ex 0)))
 (.seq (.blk 1 (.seq (.rg [(none, .fa 49 11 (.t 1)),
 (none, .ld 50 none (.t 49)),
 (none, .mv 51 (.t 5)),
 (none, .ia 52 4 (.t 50) (.t 51)),
 (none, .ld 53 (some 4) (.t 52)),
 (none, .al 6 [.b false, .n .i64 0, .b false, .s []]),
 (none, .st 4 (.t 6) (.t 53)),
 (none, .kp [1, 3, 4, 5, 6])])
 (.seq (.seq (.rg [(none, .fa 54 3 (.t 6)),
 (none, .ld 55 none (.t 54)),
 (none, .lS 56 (.t 55)),
 (none, .ca (some 57) 45 [.t 56, .c (.n .i64 1), .c (.n .i64 60)]),
 (none, .un 58 .not (.t 57)),
 (none, .mv 59 (.t 58)),
 (some (59, false), .fa 60 0 (.t 6)),
 (some (59, false), .ld 61 none (.t 60)),
 (some (59, false), .mv 62 (.t 61)),
 (some (62, true), .fa 63 1 (.t 6)),
 (some (62, true), .ld 64 none (.t 63)),
 (some (62, true), .fa 65 6 (.t 1)),
 (some (62, true), .fa 66 2 (.t 65)),
 (some (62, true), .ld 67 none (.t 66)),
 (some (62, true), .bi 68 .sub (.t 67) (.c (.n .i64 1))),
 (some (62, true), .ca (some 69) 45 [.t 64, .c (.n .i64 0), .t 68]),
 (some (62, true), .un 70 .not (.t 69)),
 (some (59, false), .pk 71 (.t 62) (.t 70) (.c (.b false))),
 (none, .pk 72 (.t 59) (.c (.b true)) (.t 71)),
 (none, .mv 73 (.t 72)),
 (some (73, false), .fa 74 0 (.t 6)),
 (some (73, false), .ld 75 none (.t 74)),
 (some (73, false), .un 76 .not (.t 75)),
 (some (73, false), .mv 77 (.t 76)),
 (some (77, true), .fa 78 1 (.t 6)),
 (some (77, true), .ld 79 none (.t 78)),
 (some (77, true), .fa 80 2 (.t 1)),
 (some (77, true), .fa 81 2 (.t 80)),
 (some (77, true), .ld 82 none (.t 81)),
 (some (77, true), .bi 83 .sub (.t 82) (.c (.n .i64 1))),
 (some (77, true), .ca (some 84) 45 [.t 79, .c (.n .i64 0), .t 83]),
 (some (77, true), .un 85 .not (.t 84)),
 (some (73, false), .pk 86 (.t 77) (.t 85) (.c (.b false))),
 (none, .pk 87 (.t 73) (.c (.b true)) (.t 86)),
 (none, .kp [1, 3, 4, 5, 6, 87])])
 (.ite (.t 87) (.seq (.rg [(none, .mv 2 (.c (.b false))),
 (none, .kp [2])])
 (.rt))
 (.sk)))
 (.seq (.rg [(none, .fa 88 0 (.t 6)),
 (none, .ld 89 none (.t 88)),
 (none, .kp [1, 3, 4, 5, 6, 89])])
 (.ite (.t 89) (.rg [(none, .mv 90 (.t 4)),
 (none, .fa 91 3 (.t 6)),
 (none, .ld 92 none (.t 91)),
 (none, .fa 93 10 (.t 1)),
 (none, .ld 94 none (.t 93)),
 (none, .ca (some 95) 98 [.t 92, .t 94]),
 (none, .bi 96 .add (.t 90) (.t 95)),
 (none, .mv 4 (.t 96)),
 (none, .kp [1, 3, 4, 5])])
 (.rg [(none, .mv 97 (.t 3)),
 (none, .fa 98 3 (.t 6)),
 (none, .ld 99 none (.t 98)),
 (none, .fa 100 10 (.t 1)),
 (none, .ld 101 none (.t 100)),
 (none, .ca (some 102) 98 [.t 99, .t 101]),
 (none, .bi 103 .add (.t 97) (.t 102)),
 (none, .mv 3 (.t 103)),
 (none, .kp [1, 3, 4, 5])]))))))
 (.rg [(none, .mv 47 (.t 5)),
 (none, .bi 48 .add (.t 47) (.c (.n .i64 1))),
 (none, .mv 5 (.t 48)),
 (none, .kp [1, 3, 4, 5])]))
def pc82 : PC := .seq (.rg [(none, .bx 1 (.t 0)),
 (none, .mv 2 (.c (.b false))),
 (none, .kp [1])])
 (.seq (.seq (.rg [(none, .fa 7 0 (.t 1)),
 (none, .ld 8 none (.t 7)),
 (none, .ca (some 9) 45 [.t 8, .c (.n .i64 1), .c (.n .i64 65535)]),
 (none, .un 10 .not (.t 9)),
 (none, .mv 11 (.t 10)),
 (some (11, false), .fa 12 1 (.t 1)),
 (some (11, false), .ld 13 none (.t 12)),
 (some (11, false), .ca (some 14) 45 [.t 13, .c (.n .i64 1), .c (.n .i64 65535)]),
 (some (11, false), .un 15 .not (.t 14)),
 (none, .pk 16 (.t 11) (.c (.b true)) (.t 15)),
 (none, .mv 17 (.t 16)),
 (some (17, false), .fa 18 0 (.t 1)),
 (some (17, false), .ld 19 none (.t 18)),
 (some (17, false), .fa 20 1 (.t 1)),
 (some (17, false), .ld 21 none (.t 20)),
 (some (17, false), .bi 22 .eql (.t 19) (.t 21)),
 (none, .pk 23 (.t 17) (.c (.b true)) (.t 22)),
 (none, .mv 24 (.t 23)),
 (some (24, false), .fa 25 2 (.t 1)),
 (some (24, false), .ld 26 (some 4) (.t 25)),
 (some (24, false), .ca (some 27) 105 [.t 26]),
 (some (24, false), .un 28 .not (.t 27)),
 (none, .pk 29 (.t 24) (.c (.b true)) (.t 28)),
 (none, .mv 30 (.t 29)),
 (some (30, false), .fa 31 6 (.t 1)),
 (some (30, false), .ld 32 (some 4) (.t 31)),
 (some (30, false), .ca (some 33) 105 [.t 32]),
 (some (30, false), .un 34 .not (.t 33)),
 (none, .pk 35 (.t 30) (.c (.b true)) (.t 34)),
 (none, .mv 36 (.t 35)),
 (some (36, false), .fa 37 10 (.t 1)),
 (some (36, false), .ld 38 none (.t 37)),
 (some (36, false), .ca (some 39) 45 [.t 38, .c (.n .i64 1), .c (.n .i64 20)]),
 (some (36, false), .un 40 .not (.t 39)),
 (none, .pk 41 (.t 36) (.c (.b true)) (.t 40)),
 (none, .kp [1, 41])])
 (.ite (.t 41) (.seq (.rg [(none, .mv 2 (.c (.b false))),
 (none, .kp [2])])
 (.rt))
 (.sk)))
 (.seq (.rg [(none, .mv 3 (.c (.n .i64 0))),
 (none, .kp [1, 3])])
 (.seq (.rg [(none, .mv 4 (.c (.n .i64 0))),
 (none, .kp [1, 3, 4])])
 (.seq (.seq (.rg [(none, .mv 5 (.c (.n .i64 0))),
 (none, .kp [1, 3, 4, 5])])
 (.blk 0 (.lp pc82l0)))
 (.seq (.rg [(none, .fa 104 11 (.t 1)),
 (none, .ld 105 none (.t 104)),
 (none, .ln 106 (.t 105)),
 (none, .bi 107 .leq (.t 106) (.c (.n .i64 4))),
 (none, .mv 108 (.t 107)),
 (some (108, true), .mv 109 (.t 3)),
 (some (108, true), .bi 110 .leq (.t 109) (.c (.n .i64 12))),
 (none, .pk 111 (.t 108) (.t 110) (.c (.b false))),
 (none, .mv 112 (.t 111)),
 (some (112, true), .mv 113 (.t 4)),
 (some (112, true), .bi 114 .leq (.t 113) (.c (.n .i64 12))),
 (none, .pk 115 (.t 112) (.t 114) (.c (.b false))),
 (none, .mv 2 (.t 115)),
 (none, .kp [2])])
 (.rt))))))
theorem mr82 : MrT Try.prog 82 pc82 [.t 2] 116 := fun hn h => spec_of_run (fn := Try.f82) (by kernel_rfl) rfl (by kernel_rfl) (by kernel_rfl) hn h
theorem mk82 : MkT Try.prog 82 pc82 [.t 2] 116 := mr82.k
theorem mw82 : MwT Try.prog 82 pc82 [.t 2] 116 := mr82.w
-- 83 spec.l31Side2
def pc83 : PC := .seq (.rg [(none, .bx 1 (.t 0)),
 (none, .al 2 [.n .i64 0, .n .i64 0, .n .i64 0, .nil, .n .i64 0]),
 (none, .kp [1, 2])])
 (.seq (.rg [(none, .bs 3 7 0 [.n .i64 0, .n .i64 0, .n .i64 0, .b false, .b false, .b false, .s []] []),
 (none, .fa 4 3 (.t 1)),
 (none, .ld 5 none (.t 4)),
 (none, .ap 6 7 48 (.t 3) (.t 5)),
 (none, .fa 7 3 (.t 1)),
 (none, .st 1 (.t 7) (.t 6)),
 (none, .kp [1, 2])])
 (.seq (.rg [(none, .ld 8 (some 5) (.t 1)),
 (none, .st 5 (.t 2) (.t 8)),
 (none, .kp [2])])
 (.rt)))
theorem mr83 : MrT Try.prog 83 pc83 [.c 2 (some 5)] 9 := fun hn h => spec_of_run (fn := Try.f83) (by kernel_rfl) rfl (by kernel_rfl) (by kernel_rfl) hn h
theorem mk83 : MkT Try.prog 83 pc83 [.c 2 (some 5)] 9 := mr83.k
theorem mw83 : MwT Try.prog 83 pc83 [.c 2 (some 5)] 9 := mr83.w
-- 84 spec.l91Bytes
def pc84l0 : PC := .seq (.seq (.rg [(none, .mv 13 (.t 7)),
 (none, .mv 14 (.t 6)),
 (none, .bi 15 .lss (.t 13) (.t 14)),
 (none, .kp [0, 5, 6, 7, 15])])
 (.ite (.t 15) (.sk)
 (.ex 0)))
 (.seq (.blk 1 (.rg [(none, .mv 18 (.t 5)),
 (none, .mv 19 (.t 0)),
 (none, .ca (some 20) 57 [.t 19, .c (.n .i64 16)]),
 (none, .mv 21 (.t 0)),
 (none, .ca (some 22) 57 [.t 21, .c (.n .i64 18)]),
 (none, .bi 23 .mul (.t 20) (.t 22)),
 (none, .cv 24 .u8 (.t 23)),
 (none, .bs 25 1 1 [.n .u8 0] [(0, .t 24)]),
 (none, .ap 26 1 1 (.t 18) (.t 25)),
 (none, .mv 5 (.t 26)),
 (none, .kp [0, 5, 6, 7])]))
 (.rg [(none, .mv 16 (.t 7)),
 (none, .bi 17 .add (.t 16) (.c (.n .i64 1))),
 (none, .mv 7 (.t 17)),
 (none, .kp [0, 5, 6, 7])]))
def pc84 : PC := .seq (.rg [(none, .mv 4 (.c (.s []))),
 (none, .kp [0, 1])])
 (.seq (.rg [(none, .bs 8 1 0 [.n .u8 0] []),
 (none, .mv 5 (.t 8)),
 (none, .kp [0, 1, 5])])
 (.seq (.rg [(none, .mv 9 (.t 0)),
 (none, .mv 10 (.t 1)),
 (none, .bi 11 .add (.t 10) (.c (.n .i64 1))),
 (none, .ca (some 12) 57 [.t 9, .t 11]),
 (none, .mv 6 (.t 12)),
 (none, .kp [0, 5, 6])])
 (.seq (.seq (.rg [(none, .mv 7 (.c (.n .i64 0))),
 (none, .kp [0, 5, 6, 7])])
 (.blk 0 (.lp pc84l0)))
 (.seq (.rg [(none, .mv 27 (.t 5)),
 (none, .cs 28 (.t 27)),
 (none, .mv 4 (.t 28)),
 (none, .kp [4])])
 (.rt)))))
theorem mr84 : MrT Try.prog 84 pc84 [.t 4] 29 := fun hn h => spec_of_run (fn := Try.f84) (by kernel_rfl) rfl (by kernel_rfl) (by kernel_rfl) hn h
theorem mk84 : MkT Try.prog 84 pc84 [.t 4] 29 := mr84.k
theorem mw84 : MwT Try.prog 84 pc84 [.t 4] 29 := mr84.w
-- 85 spec.l6Many
def pc85l0 : PC := .seq (.seq (.rg [(none, .mv 6 (.t 1)),
 (none, .bi 7 .gtr (.t 6) (.c (.n .i64 0))),
 (none, .kp [0, 1, 5, 7])])
 (.ite (.t 7) (.sk)
 (.ex 0)))
 (.blk 1 (.seq (.seq (.rg [(none, .mv 8 (.t 1)),
 (none, .bi 9 .rem (.t 8) (.c (.n .i64 2))),
 (none, .bi 10 .eql (.t 9) (.c (.n .i64 1))),
 (none, .kp [0, 1, 5, 10])])
 (.ite (.t 10) (.rg [(none, .mv 11 (.t 5)),
 (none, .mv 12 (.t 0)),
 (none, .bi 13 .add (.t 11) (.t 12)),
 (none, .mv 5 (.t 13)),
 (none, .kp [0, 1, 5])])
 (.sk)))
 (.seq (.rg [(none, .mv 14 (.t 0)),
 (none, .mv 15 (.t 0)),
 (none, .bi 16 .add (.t 14) (.t 15)),
 (none, .mv 0 (.t 16)),
 (none, .kp [0, 1, 5])])
 (.rg [(none, .mv 17 (.t 1)),
 (none, .bi 18 .quo (.t 17) (.c (.n .i64 2))),
 (none, .mv 1 (.t 18)),
 (none, .kp [0, 1, 5])]))))
def pc85 : PC := .seq (.rg [(none, .mv 4 (.c (.s []))),
 (none, .kp [0, 1])])
 (.seq (.rg [(none, .mv 5 (.c (.s []))),
 (none, .kp [0, 1, 5])])
 (.seq (.blk 0 (.lp pc85l0))
 (.seq (.rg [(none, .mv 19 (.t 5)),
 (none, .mv 4 (.t 19)),
 (none, .kp [4])])
 (.rt))))
theorem mr85 : MrT Try.prog 85 pc85 [.t 4] 20 := fun hn h => spec_of_run (fn := Try.f85) (by kernel_rfl) rfl (by kernel_rfl) (by kernel_rfl) hn h
theorem mk85 : MkT Try.prog 85 pc85 [.t 4] 20 := mr85.k
theorem mw85 : MwT Try.prog 85 pc85 [.t 4] 20 := mr85.w
-- 86 spec.MonitorStep
def pc86 : PC := .seq (.rg [(none, .bx 2 (.t 0)),
 (none, .al 4 [.n .i64 0, .nil, .nil]),
 (none, .kp [1, 2, 4])])
 (.seq (.seq (.rg [(none, .ld 5 (some 3) (.t 2)),
 (none, .ca (some 6) 32 [.t 5]),
 (none, .un 7 .not (.t 6)),
 (none, .mv 8 (.t 7)),
 (some (8, false), .fa 9 0 (.t 2)),
 (some (8, false), .ld 10 none (.t 9)),
 (some (8, false), .bi 11 .geq (.t 10) (.c (.n .i64 60))),
 (none, .pk 12 (.t 8) (.c (.b true)) (.t 11)),
 (none, .kp [1, 2, 4, 12])])
 (.ite (.t 12) (.seq (.rg [(none, .bd 13 [.n .i64 0, .nil, .nil] []),
 (none, .st 3 (.t 4) (.t 13)),
 (none, .kp [4])])
 (.rt))
 (.sk)))
 (.seq (.rg [(none, .ld 14 (some 3) (.t 2)),
 (none, .mv 15 (.t 1)),
 (none, .ca (some 16) 77 [.t 14, .t 15]),
 (none, .st 3 (.t 4) (.t 16)),
 (none, .kp [4])])
 (.rt)))
theorem mr86 : MrT Try.prog 86 pc86 [.c 4 (some 3)] 17 := fun hn h => spec_of_run (fn := Try.f86) (by kernel_rfl) rfl (by kernel_rfl) (by kernel_rfl) hn h
theorem mk86 : MkT Try.prog 86 pc86 [.c 4 (some 3)] 17 := mr86.k
theorem mw86 : MwT Try.prog 86 pc86 [.c 4 (some 3)] 17 := mr86.w
-- 87 spec.l91Spoil
def pc87 : PC := .seq (.rg [(none, .mv 4 (.c (.s []))),
 (none, .kp [0, 1])])
 (.seq (.seq (.rg [(none, .mv 6 (.t 1)),
 (none, .bi 7 .eql (.t 6) (.c (.s []))),
 (none, .mv 8 (.t 7)),
 (some (8, false), .mv 9 (.t 0)),
 (some (8, false), .ca (some 10) 57 [.t 9, .c (.n .i64 3)]),
 (some (8, false), .bi 11 .gtr (.t 10) (.c (.n .i64 0))),
 (none, .pk 12 (.t 8) (.c (.b true)) (.t 11)),
 (none, .kp [0, 1, 12])])
 (.ite (.t 12) (.seq (.rg [(none, .mv 13 (.t 1)),
 (none, .mv 4 (.t 13)),
 (none, .kp [4])])
 (.rt))
 (.sk)))
 (.seq (.rg [(none, .mv 14 (.t 0)),
 (none, .mv 15 (.t 1)),
 (none, .lS 16 (.t 15)),
 (none, .ca (some 17) 57 [.t 14, .t 16]),
 (none, .mv 5 (.t 17)),
 (none, .kp [0, 1, 5])])
 (.seq (.seq (.rg [(none, .mv 18 (.t 0)),
 (none, .ca (some 19) 57 [.t 18, .c (.n .i64 4)]),
 (none, .kp [0, 1, 5, 19])])
 (.blk 0 (.seq (.rg [(none, .bi 21 .eql (.t 19) (.c (.n .i64 0))),
 (none, .mv 20 (.t 21)),
 (none, .kp [0, 1, 5, 19, 20])])
 (.ite (.t 20) (.seq (.rg [(none, .mv 22 (.t 1)),
 (none, .mv 23 (.t 5)),
 (none, .sS 24 (.t 22) none (some (.t 23))),
 (none, .mv 4 (.t 24)),
 (none, .kp [4])])
 (.rt))
 (.seq (.rg [(none, .bi 26 .eql (.t 19) (.c (.n .i64 1))),
 (none, .mv 25 (.t 26)),
 (none, .kp [0, 1, 5, 19, 25])])
 (.ite (.t 25) (.seq (.rg [(none, .mv 27 (.t 1)),
 (none, .bi 28 .add (.t 27) (.c (.s [0]))),
 (none, .mv 4 (.t 28)),
 (none, .kp [4])])
 (.rt))
 (.seq (.rg [(none, .bi 30 .eql (.t 19) (.c (.n .i64 2))),
 (none, .mv 29 (.t 30)),
 (none, .kp [0, 1, 5, 29])])
 (.ite (.t 29) (.seq (.dr [[], [], [0, 1], [], [], [4], [3, 4, 5], [0, 1, 2, 3, 4, 5, 6], [0, 1, 2, 3, 4, 5, 6, 7]]
 (.q 0 (none, .mv 31 (.t 1))
 (.q 1 (none, .mv 32 (.t 5))
 (.q 2 (none, .sS 33 (.t 31) none (some (.t 32)))
 (.q 3 (none, .mv 34 (.t 1))
 (.q 4 (none, .mv 35 (.t 5))
 (.q 5 (none, .bi 36 .add (.t 35) (.c (.n .i64 1)))
 (.q 6 (none, .sS 37 (.t 34) (some (.t 36)) none)
 (.q 7 (none, .bi 38 .add (.t 33) (.t 37))
 (.q 8 (none, .mv 4 (.t 38))
 (.done)))))))))) [4])
 (.rt))
 (.sk)))))))))
 (.seq (.dr [[], [], [0, 1], [], [3], [3, 4], [3, 4, 5], [3, 4, 5, 6], [0, 1, 2, 3, 4, 5, 6, 7], [], [], [10], [9, 10, 11], [0, 1, 2, 3, 4, 5, 6, 7, 8, 9, 10, 11, 12], [0, 1, 2, 3, 4, 5, 6, 7, 8, 9, 10, 11, 12, 13]]
 (.q 0 (none, .mv 39 (.t 1))
 (.q 1 (none, .mv 40 (.t 5))
 (.q 2 (none, .sS 41 (.t 39) none (some (.t 40)))
 (.q 3 (none, .mv 42 (.t 0))
 (.q 9 (none, .mv 48 (.t 1))
 (.q 10 (none, .mv 49 (.t 5))
 (.q 11 (none, .bi 50 .add (.t 49) (.c (.n .i64 1)))
 (.q 12 (none, .sS 51 (.t 48) (some (.t 50)) none)
 (.alt 4 (none, .ca (some 43) 57 [.t 42, .c (.n .i64 256)]) [true, true, true, false, true, true, true, true]
 (.q 5 (none, .cv 44 .u8 (.t 43))
 (.alt 6 (none, .bs 45 1 1 [.n .u8 0] [(0, .t 44)]) [true, true, true, false, true, true, true, true, false]
 (.q 7 (none, .cs 46 (.t 45))
 (.q 8 (none, .bi 47 .add (.t 41) (.t 46))
 (.q 13 (none, .bi 52 .add (.t 47) (.t 51))
 (.q 14 (none, .mv 4 (.t 52))
 (.done)))))
 (.stop)))
 (.stop)))))))))) [4])
 (.rt)))))
theorem mr87 : MrT Try.prog 87 pc87 [.t 4] 53 := fun hn h => spec_of_run (fn := Try.f87) (by kernel_rfl) rfl (by kernel_rfl) (by kernel_rfl) hn h
theorem mk87 : MkT Try.prog 87 pc87 [.t 4] 53 := mr87.k
theorem mw87 : MwT Try.prog 87 pc87 [.t 4] 53 := mr87.w
-- 89 spec.l14Record
def pc89 : PC := .seq (.rg [(none, .bx 2 (.t 0)),
 (none, .mv 4 (.c (.b false))),
 (none, .kp [1, 2])])
 (.seq (.rg [(none, .fa 5 0 (.t 2)),
 (none, .ld 6 none (.t 5)),
 (none, .mv 7 (.t 1)),
 (none, .ca (some 8) 45 [.t 6, .t 7, .c (.n .i64 4294967295)]),
 (none, .mv 9 (.t 8)),
 (some (9, true), .fa 10 1 (.t 2)),
 (some (9, true), .ld 11 none (.t 10)),
 (some (9, true), .lS 12 (.t 11)),
 (some (9, true), .bi 13 .leq (.t 12) (.c (.n .i64 120))),
 (none, .pk 14 (.t 9) (.t 13) (.c (.b false))),
 (none, .mv 4 (.t 14)),
 (none, .kp [4])])
 (.rt))
theorem mr89 : MrT Try.prog 89 pc89 [.t 4] 15 := fun hn h => spec_of_run (fn := Try.f89) (by kernel_rfl) rfl (by kernel_rfl) (by kernel_rfl) hn h
theorem mk89 : MkT Try.prog 89 pc89 [.t 4] 15 := mr89.k
theorem mw89 : MwT Try.prog 89 pc89 [.t 4] 15 := mr89.w
-- 90 spec.PacketGet
def pc90l0 : PC := .seq (.seq (.rg [(none, .mv 35 (.t 5)),
 (none, .mv 36 (.t 0)),
 (none, .lS 37 (.t 36)),
 (none, .bi 38 .lss (.t 35) (.t 37)),
 (none, .kp [0, 2, 4, 5, 38])])
 (.ite (.t 38) (.sk)
 (.ex 0)))
 (.blk 1 (.seq (.rg [(none, .mv 40 (.t 0)),
 (none, .mv 41 (.t 5)),
 (none, .ca (some 42) 108 [.t 40, .t 41]),
 (none, .mv 39 (.t 42)),
 (none, .ex 43 (.t 39) 0),
 (none, .ex 44 (.t 39) 1),
 (none, .ex 45 (.t 39) 2),
 (none, .al 6 [.n .i64 0, .n .i64 0, .s []]),
 (none, .st 3 (.t 6) (.t 43)),
 (none, .mv 7 (.t 44)),
 (none, .mv 8 (.t 45)),
 (none, .kp [0, 2, 4, 6, 7, 8])])
 (.seq (.seq (.rg [(none, .mv 46 (.t 8)),
 (none, .un 47 .not (.t 46)),
 (none, .kp [0, 2, 4, 6, 7, 47])])
 (.ite (.t 47) (.seq (.rg [(none, .bd 48 [.n .i64 0, .n .i64 0, .n .i64 0, .nil] []),
 (none, .st 4 (.t 2) (.t 48)),
 (none, .mv 3 (.c (.n .i64 3))),
 (none, .kp [2, 3])])
 (.rt))
 (.sk)))
 (.seq (.rg [(none, .fa 49 3 (.t 4)),
 (none, .ld 50 none (.t 49)),
 (none, .ld 51 (some 3) (.t 6)),
 (none, .bs 52 3 1 [.n .i64 0, .n .i64 0, .s []] [(0, .t 51)]),
 (none, .ap 53 3 32 (.t 50) (.t 52)),
 (none, .fa 54 3 (.t 4)),
 (none, .st 1 (.t 54) (.t 53)),
 (none, .kp [0, 2, 4, 7])])
 (.rg [(none, .mv 55 (.t 7)),
 (none, .mv 5 (.t 55)),
 (none, .kp [0, 2, 4, 5])])))))
def pc90 : PC := .seq (.rg [(none, .al 2 [.n .i64 0, .n .i64 0, .n .i64 0, .nil]),
 (none, .mv 3 (.c (.n .i64 0))),
 (none, .kp [0, 2])])
 (.seq (.seq (.rg [(none, .mv 9 (.t 0)),
 (none, .lS 10 (.t 9)),
 (none, .bi 11 .lss (.t 10) (.c (.n .i64 12))),
 (none, .kp [0, 2, 11])])
 (.ite (.t 11) (.seq (.rg [(none, .bd 12 [.n .i64 0, .n .i64 0, .n .i64 0, .nil] []),
 (none, .st 4 (.t 2) (.t 12)),
 (none, .mv 3 (.c (.n .i64 1))),
 (none, .kp [2, 3])])
 (.rt))
 (.sk)))
 (.seq (.seq (.rg [(none, .mv 13 (.t 0)),
 (none, .ca (some 14) 106 [.t 13, .c (.n .i64 8)]),
 (none, .bi 15 .mul (.c (.n .i64 65536)) (.t 14)),
 (none, .mv 16 (.t 0)),
 (none, .ca (some 17) 106 [.t 16, .c (.n .i64 10)]),
 (none, .bi 18 .add (.t 15) (.t 17)),
 (none, .mv 19 (.t 0)),
 (none, .ca (some 20) 107 [.t 19]),
 (none, .bi 21 .neq (.t 18) (.t 20)),
 (none, .kp [0, 2, 21])])
 (.ite (.t 21) (.seq (.rg [(none, .bd 22 [.n .i64 0, .n .i64 0, .n .i64 0, .nil] []),
 (none, .st 4 (.t 2) (.t 22)),
 (none, .mv 3 (.c (.n .i64 2))),
 (none, .kp [2, 3])])
 (.rt))
 (.sk)))
 (.seq (.rg [(none, .mv 23 (.t 0)),
 (none, .ca (some 24) 106 [.t 23, .c (.n .i64 0)]),
 (none, .mv 25 (.t 0)),
 (none, .ca (some 26) 106 [.t 25, .c (.n .i64 2)]),
 (none, .mv 27 (.t 0)),
 (none, .ca (some 28) 106 [.t 27, .c (.n .i64 4)]),
 (none, .bi 29 .mul (.c (.n .i64 65536)) (.t 28)),
 (none, .mv 30 (.t 0)),
 (none, .ca (some 31) 106 [.t 30, .c (.n .i64 6)]),
 (none, .bi 32 .add (.t 29) (.t 31)),
 (none, .bs 33 3 0 [.n .i64 0, .n .i64 0, .s []] []),
 (none, .bd 34 [.n .i64 0, .n .i64 0, .n .i64 0, .nil] [(0, 1, .t 24), (1, 1, .t 26), (2, 1, .t 32), (3, 1, .t 33)]),
 (none, .al 4 [.n .i64 0, .n .i64 0, .n .i64 0, .nil]),
 (none, .st 4 (.t 4) (.t 34)),
 (none, .kp [0, 2, 4])])
 (.seq (.rg [(none, .mv 5 (.c (.n .i64 12))),
 (none, .kp [0, 2, 4, 5])])
 (.seq (.blk 0 (.lp pc90l0))
 (.seq (.seq (.rg [(none, .ld 56 (some 4) (.t 4)),
 (none, .ca (some 57) 103 [.t 56]),
 (none, .un 58 .not (.t 57)),
 (none, .kp [2, 4, 58])])
 (.ite (.t 58) (.seq (.rg [(none, .bd 59 [.n .i64 0, .n .i64 0, .n .i64 0, .nil] []),
 (none, .st 4 (.t 2) (.t 59)),
 (none, .mv 3 (.c (.n .i64 3))),
 (none, .kp [2, 3])])
 (.rt))
 (.sk)))
 (.seq (.rg [(none, .ld 60 (some 4) (.t 4)),
 (none, .st 4 (.t 2) (.t 60)),
 (none, .mv 3 (.c (.n .i64 0))),
 (none, .kp [2, 3])])
 (.rt))))))))
theorem mr90 : MrT Try.prog 90 pc90 [.c 2 (some 4), .t 3] 61 := fun hn h => spec_of_run (fn := Try.f90) (by kernel_rfl) rfl (by kernel_rfl) (by kernel_rfl) hn h
theorem mk90 : MkT Try.prog 90 pc90 [.c 2 (some 4), .t 3] 61 := mr90.k
theorem mw90 : MwT Try.prog 90 pc90 [.c 2 (some 4), .t 3] 61 := mr90.w
-- 91 spec.l32Note
def pc91 : PC := .seq (.rg [(none, .bx 2 (.t 0)),
 (none, .al 4 [.n .i64 0, .nil, .nil]),
 (none, .kp [1, 2, 4])])
 (.seq (.rg [(none, .fa 5 2 (.t 2)),
 (none, .ld 6 none (.t 5)),
 (none, .fa 7 0 (.t 2)),
 (none, .ld 8 none (.t 7)),
 (none, .bi 9 .sub (.t 8) (.c (.n .i64 1))),
 (none, .mv 10 (.t 1)),
 (none, .bd 11 [.n .i64 0, .n .i64 0] [(0, 1, .t 9), (1, 1, .t 10)]),
 (none, .bs 12 2 1 [.n .i64 0, .n .i64 0] [(0, .t 11)]),
 (none, .ap 13 2 16 (.t 6) (.t 12)),
 (none, .fa 14 2 (.t 2)),
 (none, .st 1 (.t 14) (.t 13)),
 (none, .kp [2, 4])])
 (.seq (.rg [(none, .ld 15 (some 3) (.t 2)),
 (none, .st 3 (.t 4) (.t 15)),
 (none, .kp [4])])
 (.rt)))
theorem mr91 : MrT Try.prog 91 pc91 [.c 4 (some 3)] 16 := fun hn h => spec_of_run (fn := Try.f91) (by kernel_rfl) rfl (by kernel_rfl) (by kernel_rfl) hn h
theorem mk91 : MkT Try.prog 91 pc91 [.c 4 (some 3)] 16 := mr91.k
theorem mw91 : MwT Try.prog 91 pc91 [.c 4 (some 3)] 16 := mr91.w
-- 92 spec.PacketAlone
def pc92l0 : PC := .seq (.seq (.rg [(none, .mv 4 (.t 3)),
 (none, .fa 5 3 (.t 1)),
 (none, .ld 6 none (.t 5)),
 (none, .ln 7 (.t 6)),
 (none, .bi 8 .lss (.t 4) (.t 7)),
 (none, .kp [1, 3, 8])])
 (.ite (.t 8) (.sk)
 (.ex 0)))
 (.seq (.blk 1 (.seq (.rg [(none, .fa 11 3 (.t 1)),
 (none, .ld 12 none (.t 11)),
 (none, .mv 13 (.t 3)),
 (none, .ia 14 3 (.t 12) (.t 13)),
 (none, .fa 15 0 (.t 14)),
 (none, .ld 16 none (.t 15)),
 (none, .ca (some 17) 109 [.t 16]),
 (none, .mv 18 (.t 17)),
 (some (18, true), .fa 19 3 (.t 1)),
 (some (18, true), .ld 20 none (.t 19)),
 (some (18, true), .ln 21 (.t 20)),
 (some (18, true), .bi 22 .gtr (.t 21) (.c (.n .i64 1))),
 (none, .pk 23 (.t 18) (.t 22) (.c (.b false))),
 (none, .kp [1, 3, 23])])
 (.ite (.t 23) (.seq (.rg [(none, .mv 2 (.c (.b false))),
 (none, .kp [2])])
 (.rt))
 (.sk))))
 (.rg [(none, .mv 9 (.t 3)),
 (none, .bi 10 .add (.t 9) (.c (.n .i64 1))),
 (none, .mv 3 (.t 10)),
 (none, .kp [1, 3])]))
def pc92 : PC := .seq (.rg [(none, .bx 1 (.t 0)),
 (none, .mv 2 (.c (.b false))),
 (none, .kp [1])])
 (.seq (.seq (.rg [(none, .mv 3 (.c (.n .i64 0))),
 (none, .kp [1, 3])])
 (.blk 0 (.lp pc92l0)))
 (.seq (.rg [(none, .ld 24 (some 4) (.t 1)),
 (none, .ca (some 25) 103 [.t 24]),
 (none, .mv 2 (.t 25)),
 (none, .kp [2])])
 (.rt)))
theorem mr92 : MrT Try.prog 92 pc92 [.t 2] 26 := fun hn h => spec_of_run (fn := Try.f92) (by kernel_rfl) rfl (by kernel_rfl) (by kernel_rfl) hn h
theorem mk92 : MkT Try.prog 92 pc92 [.t 2] 26 := mr92.k
theorem mw92 : MwT Try.prog 92 pc92 [.t 2] 26 := mr92.w
-- 93 spec.InitGet
def pc93 : PC := .seq (.rg [(none, .bx 1 (.t 0)),
 (none, .al 2 [.n .i64 0, .n .i64 0, .n .i64 0, .n .i64 0]),
 (none, .mv 3 (.c (.b false))),
 (none, .kp [1, 2])])
 (.seq (.seq (.rg [(none, .fa 5 0 (.t 1)),
 (none, .ld 6 none (.t 5)),
 (none, .bi 7 .neq (.t 6) (.c (.n .i64 1))),
 (none, .mv 8 (.t 7)),
 (some (8, true), .fa 9 0 (.t 1)),
 (some (8, true), .ld 10 none (.t 9)),
 (some (8, true), .bi 11 .neq (.t 10) (.c (.n .i64 2))),
 (none, .pk 12 (.t 8) (.t 11) (.c (.b false))),
 (none, .mv 13 (.t 12)),
 (some (13, false), .fa 14 1 (.t 1)),
 (some (13, false), .ld 15 none (.t 14)),
 (some (13, false), .bi 16 .neq (.t 15) (.c (.n .i64 0))),
 (none, .pk 17 (.t 13) (.c (.b true)) (.t 16)),
 (none, .mv 18 (.t 17)),
 (some (18, false), .fa 19 2 (.t 1)),
 (some (18, false), .ld 20 none (.t 19)),
 (some (18, false), .lS 21 (.t 20)),
 (some (18, false), .bi 22 .neq (.t 21) (.c (.n .i64 10))),
 (none, .pk 23 (.t 18) (.c (.b true)) (.t 22)),
 (none, .kp [1, 2, 23])])
 (.ite (.t 23) (.seq (.rg [(none, .bd 24 [.n .i64 0, .n .i64 0, .n .i64 0, .n .i64 0] []),
 (none, .st 4 (.t 2) (.t 24)),
 (none, .mv 3 (.c (.b false))),
 (none, .kp [2, 3])])
 (.rt))
 (.sk)))
 (.seq (.dr [[], [0], [0, 1], [0, 1, 2], [], [4], [0, 1, 2, 4, 5], [0, 1, 2, 3, 4, 5, 6], [], [8], [0, 1, 2, 4, 5, 6, 8, 9], [], [11], [0, 1, 2, 4, 5, 6, 8, 9, 10, 11, 12], [], [14], [0, 1, 2, 4, 5, 6, 8, 9, 10, 11, 12, 13, 14, 15], [0, 1, 2, 3, 4, 5, 6, 7, 8, 9, 10, 11, 12, 13, 14, 15, 16], [], [0, 1, 2, 3, 4, 5, 6, 7, 8, 9, 10, 11, 12, 13, 14, 15, 16, 17, 18]]
 (.q 0 (none, .fa 25 2 (.t 1))
 (.q 1 (none, .ld 26 none (.t 25))
 (.q 4 (none, .fa 29 2 (.t 1))
 (.q 5 (none, .ld 30 none (.t 29))
 (.q 8 (none, .fa 33 2 (.t 1))
 (.q 9 (none, .ld 34 none (.t 33))
 (.q 11 (none, .fa 36 2 (.t 1))
 (.q 12 (none, .ld 37 none (.t 36))
 (.q 14 (none, .fa 39 2 (.t 1))
 (.q 15 (none, .ld 40 none (.t 39))
 (.alt 2 (none, .ca (some 27) 106 [.t 26, .c (.n .i64 0)]) [false, false, true, true, true, true, true, true, true, true]
 (.q 3 (none, .bi 28 .mul (.c (.n .i64 65536)) (.t 27))
 (.alt 6 (none, .ca (some 31) 106 [.t 30, .c (.n .i64 2)]) [false, false, false, false, true, true, true, true, true, true, true]
 (.q 7 (none, .bi 32 .add (.t 28) (.t 31))
 (.alt 10 (none, .ca (some 35) 106 [.t 34, .c (.n .i64 4)]) [false, false, false, false, false, false, true, true, true, true, true, true]
 (.alt 13 (none, .ca (some 38) 106 [.t 37, .c (.n .i64 6)]) [false, false, false, false, false, false, false, false, true, true, true, true]
 (.alt 16 (none, .ca (some 41) 106 [.t 40, .c (.n .i64 8)]) [false, false, false, false, false, false, false, false, false, false, true, true]
 (.q 17 (none, .bd 42 [.n .i64 0, .n .i64 0, .n .i64 0, .n .i64 0] [(0, 1, .t 32), (1, 1, .t 35), (2, 1, .t 38), (3, 1, .t 41)])
 (.alt 18 (none, .al 4 [.n .i64 0, .n .i64 0, .n .i64 0, .n .i64 0]) [true, true, true, true, true, true, true, true, true, true, true, true, true]
 (.alt 19 (none, .st 4 (.t 4) (.t 42)) [false, false, false, false, false, false, false, false, false, false, false, false, false]
 (.done)
 (.stop))
 (.stop)))
 (.alt 18 (none, .al 4 [.n .i64 0, .n .i64 0, .n .i64 0, .n .i64 0]) [true, true, true, true, true, true, true, true, true, true, true, true]
 (.alt 16 (none, .ca (some 41) 106 [.t 40, .c (.n .i64 8)]) [false, false, false, false, false, false, false, false, false, false, true, true]
 (.q 17 (none, .bd 42 [.n .i64 0, .n .i64 0, .n .i64 0, .n .i64 0] [(0, 1, .t 32), (1, 1, .t 35), (2, 1, .t 38), (3, 1, .t 41)])
 (.alt 19 (none, .st 4 (.t 4) (.t 42)) [false, false, false, false, false, false, false, false, false, false, false, false, false]
 (.done)
 (.stop)))
 (.stop))
 (.stop)))
 (.alt 18 (none, .al 4 [.n .i64 0, .n .i64 0, .n .i64 0, .n .i64 0]) [true, true, true, true, true, true, true, true, true, true, true, true]
 (.alt 13 (none, .ca (some 38) 106 [.t 37, .c (.n .i64 6)]) [false, false, false, false, false, false, false, false, true, true, true, true]
 (.alt 16 (none, .ca (some 41) 106 [.t 40, .c (.n .i64 8)]) [false, false, false, false, false, false, false, false, false, false, true, true]
 (.q 17 (none, .bd 42 [.n .i64 0, .n .i64 0, .n .i64 0, .n .i64 0] [(0, 1, .t 32), (1, 1, .t 35), (2, 1, .t 38), (3, 1, .t 41)])
 (.alt 19 (none, .st 4 (.t 4) (.t 42)) [false, false, false, false, false, false, false, false, false, false, false, false, false]
 (.done)
 (.stop)))
 (.stop))
 (.stop))
 (.stop)))
 (.alt 18 (none, .al 4 [.n .i64 0, .n .i64 0, .n .i64 0, .n .i64 0]) [true, true, true, true, true, true, true, true, true, true, true, true]
 (.alt 10 (none, .ca (some 35) 106 [.t 34, .c (.n .i64 4)]) [false, false, false, false, false, false, true, true, true, true, true, true]
 (.alt 13 (none, .ca (some 38) 106 [.t 37, .c (.n .i64 6)]) [false, false, false, false, false, false, false, false, true, true, true, true]
 (.alt 16 (none, .ca (some 41) 106 [.t 40, .c (.n .i64 8)]) [false, false, false, false, false, false, false, false, false, false, true, true]
 (.q 17 (none, .bd 42 [.n .i64 0, .n .i64 0, .n .i64 0, .n .i64 0] [(0, 1, .t 32), (1, 1, .t 35), (2, 1, .t 38), (3, 1, .t 41)])
 (.alt 19 (none, .st 4 (.t 4) (.t 42)) [false, false, false, false, false, false, false, false, false, false, false, false, false]
 (.done)
 (.stop)))
 (.stop))
 (.stop))
 (.stop))
 (.stop))))
 (.alt 18 (none, .al 4 [.n .i64 0, .n .i64 0, .n .i64 0, .n .i64 0]) [true, true, true, true, true, true, true, true, true, true, true]
 (.alt 6 (none, .ca (some 31) 106 [.t 30, .c (.n .i64 2)]) [false, false, false, false, true, true, true, true, true, true, true]
 (.q 7 (none, .bi 32 .add (.t 28) (.t 31))
 (.alt 10 (none, .ca (some 35) 106 [.t 34, .c (.n .i64 4)]) [false, false, false, false, false, false, true, true, true, true, true, true]
 (.alt 13 (none, .ca (some 38) 106 [.t 37, .c (.n .i64 6)]) [false, false, false, false, false, false, false, false, true, true, true, true]
 (.alt 16 (none, .ca (some 41) 106 [.t 40, .c (.n .i64 8)]) [false, false, false, false, false, false, false, false, false, false, true, true]
 (.q 17 (none, .bd 42 [.n .i64 0, .n .i64 0, .n .i64 0, .n .i64 0] [(0, 1, .t 32), (1, 1, .t 35), (2, 1, .t 38), (3, 1, .t 41)])
 (.alt 19 (none, .st 4 (.t 4) (.t 42)) [false, false, false, false, false, false, false, false, false, false, false, false, false]
 (.done)
 (.stop)))
 (.stop))
 (.stop))
 (.stop)))
 (.stop))
 (.stop))))
 (.alt 18 (none, .al 4 [.n .i64 0, .n .i64 0, .n .i64 0, .n .i64 0]) [true, true, true, true, true, true, true, true, true, true]
 (.alt 2 (none, .ca (some 27) 106 [.t 26, .c (.n .i64 0)]) [false, false, true, true, true, true, true, true, true, true]
 (.q 3 (none, .bi 28 .mul (.c (.n .i64 65536)) (.t 27))
 (.alt 6 (none, .ca (some 31) 106 [.t 30, .c (.n .i64 2)]) [false, false, false, false, true, true, true, true, true, true, true]
 (.q 7 (none, .bi 32 .add (.t 28) (.t 31))
 (.alt 10 (none, .ca (some 35) 106 [.t 34, .c (.n .i64 4)]) [false, false, false, false, false, false, true, true, true, true, true, true]
 (.alt 13 (none, .ca (some 38) 106 [.t 37, .c (.n .i64 6)]) [false, false, false, false, false, false, false, false, true, true, true, true]
 (.alt 16 (none, .ca (some 41) 106 [.t 40, .c (.n .i64 8)]) [false, false, false, false, false, false, false, false, false, false, true, true]
 (.q 17 (none, .bd 42 [.n .i64 0, .n .i64 0, .n .i64 0, .n .i64 0] [(0, 1, .t 32), (1, 1, .t 35), (2, 1, .t 38), (3, 1, .t 41)])
 (.alt 19 (none, .st 4 (.t 4) (.t 42)) [false, false, false, false, false, false, false, false, false, false, false, false, false]
 (.done)
 (.stop)))
 (.stop))
 (.stop))
 (.stop)))
 (.stop)))
 (.stop))
 (.stop))))))))))))) [2, 4])
 (.seq (.seq (.rg [(none, .ld 43 (some 4) (.t 4)),
 (none, .ca (some 44) 105 [.t 43]),
 (none, .un 45 .not (.t 44)),
 (none, .kp [2, 4, 45])])
 (.ite (.t 45) (.seq (.rg [(none, .bd 46 [.n .i64 0, .n .i64 0, .n .i64 0, .n .i64 0] []),
 (none, .st 4 (.t 2) (.t 46)),
 (none, .mv 3 (.c (.b false))),
 (none, .kp [2, 3])])
 (.rt))
 (.sk)))
 (.seq (.rg [(none, .ld 47 (some 4) (.t 4)),
 (none, .st 4 (.t 2) (.t 47)),
 (none, .mv 3 (.c (.b true))),
 (none, .kp [2, 3])])
 (.rt)))))
theorem mr93 : MrT Try.prog 93 pc93 [.c 2 (some 4), .t 3] 48 := fun hn h => spec_of_run (fn := Try.f93) (by kernel_rfl) rfl (by kernel_rfl) (by kernel_rfl) hn h
theorem mk93 : MkT Try.prog 93 pc93 [.c 2 (some 4), .t 3] 48 := mr93.k
theorem mw93 : MwT Try.prog 93 pc93 [.c 2 (some 4), .t 3] 48 := mr93.w
-- 94 spec.l32Begin
def pc94l0 : PC := .seq (.seq (.rg [(none, .mv 31 (.t 7)),
 (none, .mv 32 (.t 6)),
 (none, .ln 33 (.t 32)),
 (none, .bi 34 .lss (.t 31) (.t 33)),
 (none, .kp [2, 4, 6, 7, 34])])
 (.ite (.t 34) (.sk)
 (.ex 1)))
 (.seq (.blk 2 (.dr [[], [], [], [1, 2], [1, 2, 3], [0, 1, 2, 3, 4], [0, 1, 2, 3, 4, 5]]
 (.q 0 (none, .ld 37 (some 3) (.t 2))
 (.q 1 (none, .mv 38 (.t 6))
 (.q 2 (none, .mv 39 (.t 7))
 (.q 3 (none, .ia 40 1 (.t 38) (.t 39))
 (.q 4 (none, .ld 41 none (.t 40))
 (.alt 5 (none, .ca (some 42) 91 [.t 37, .t 41]) [false, false, false, false, false]
 (.alt 6 (none, .st 3 (.t 2) (.t 42)) [false, false, false, false, false]
 (.done)
 (.stop))
 (.stop))))))) [2, 4, 6, 7]))
 (.rg [(none, .mv 35 (.t 7)),
 (none, .bi 36 .add (.t 35) (.c (.n .i64 1))),
 (none, .mv 7 (.t 36)),
 (none, .kp [2, 4, 6, 7])]))
def pc94 : PC := .seq (.rg [(none, .bx 2 (.t 0)),
 (none, .bx 3 (.t 1)),
 (none, .al 4 [.n .i64 0, .nil, .nil]),
 (none, .kp [2, 3, 4])])
 (.seq (.rg [(none, .fa 9 0 (.t 3)),
 (none, .ld 10 none (.t 9)),
 (none, .fa 11 1 (.t 3)),
 (none, .ld 12 none (.t 11)),
 (none, .bd 13 [.n .i64 0, .n .i64 0, .n .i64 0, .b false, .n .i64 0, .n .i64 0, .n .i64 0, .nil, .n .i64 0, .n .i64 0, .n .i64 0, .n .i64 0, .nil, .n .i64 0] [(0, 1, .t 10), (1, 1, .t 12)]),
 (none, .ld 14 (some 4) (.t 3)),
 (none, .ca (some 15) 95 [.t 13, .t 14]),
 (none, .mv 8 (.t 15)),
 (none, .ex 16 (.t 8) 0),
 (none, .ex 17 (.t 8) 1),
 (none, .al 5 [.n .i64 0, .n .i64 0, .n .i64 0, .b false, .n .i64 0, .n .i64 0, .n .i64 0, .nil, .n .i64 0, .n .i64 0, .n .i64 0, .n .i64 0, .nil, .n .i64 0]),
 (none, .st 14 (.t 5) (.t 16)),
 (none, .mv 6 (.t 17)),
 (none, .kp [2, 3, 4, 5, 6])])
 (.seq (.blk 0 (.seq (.rg [(none, .fa 19 3 (.t 3)),
 (none, .ld 20 none (.t 19)),
 (none, .ia 21 3 (.t 20) (.c (.n .i64 0))),
 (none, .fa 22 0 (.t 21)),
 (none, .ld 23 none (.t 22)),
 (none, .bi 24 .neq (.t 23) (.c (.n .i64 1))),
 (none, .mv 18 (.t 24)),
 (none, .kp [2, 4, 5, 6, 18])])
 (.ite (.t 18) (.seq (.rg [(none, .ld 25 (some 3) (.t 2)),
 (none, .ca (some 26) 91 [.t 25, .c (.n .i64 104)]),
 (none, .st 3 (.t 4) (.t 26)),
 (none, .kp [4])])
 (.rt))
 (.seq (.rg [(none, .mv 28 (.t 6)),
 (none, .ln 29 (.t 28)),
 (none, .bi 30 .gtr (.t 29) (.c (.n .i64 0))),
 (none, .mv 27 (.t 30)),
 (none, .kp [2, 4, 5, 6, 27])])
 (.ite (.t 27) (.seq (.seq (.rg [(none, .mv 7 (.c (.n .i64 0))),
 (none, .kp [2, 4, 6, 7])])
 (.blk 1 (.lp pc94l0)))
 (.seq (.rg [(none, .ld 43 (some 3) (.t 2)),
 (none, .st 3 (.t 4) (.t 43)),
 (none, .kp [4])])
 (.rt)))
 (.seq (.rg [(none, .fa 45 1 (.t 2)),
 (none, .ld 46 none (.t 45)),
 (none, .ln 47 (.t 46)),
 (none, .bi 48 .geq (.t 47) (.c (.n .i64 3))),
 (none, .mv 44 (.t 48)),
 (none, .kp [2, 4, 5, 44])])
 (.ite (.t 44) (.seq (.rg [(none, .ld 49 (some 3) (.t 2)),
 (none, .ca (some 50) 91 [.t 49, .c (.n .i64 105)]),
 (none, .st 3 (.t 4) (.t 50)),
 (none, .kp [4])])
 (.rt))
 (.sk))))))))
 (.seq (.rg [(none, .fa 51 1 (.t 2)),
 (none, .ld 52 none (.t 51)),
 (none, .ld 53 (some 14) (.t 5)),
 (none, .bs 54 14 1 [.n .i64 0, .n .i64 0, .n .i64 0, .b false, .n .i64 0, .n .i64 0, .n .i64 0, .nil, .n .i64 0, .n .i64 0, .n .i64 0, .n .i64 0, .nil, .n .i64 0] [(0, .t 53)]),
 (none, .ap 55 14 144 (.t 52) (.t 54)),
 (none, .fa 56 1 (.t 2)),
 (none, .st 1 (.t 56) (.t 55)),
 (none, .kp [2, 4])])
 (.seq (.rg [(none, .ld 57 (some 3) (.t 2)),
 (none, .st 3 (.t 4) (.t 57)),
 (none, .kp [4])])
 (.rt)))))
theorem mr94 : MrT Try.prog 94 pc94 [.c 4 (some 3)] 58 := fun hn h => spec_of_run (fn := Try.f94) (by kernel_rfl) rfl (by kernel_rfl) (by kernel_rfl) hn h
theorem mk94 : MkT Try.prog 94 pc94 [.c 4 (some 3)] 58 := mr94.k
theorem mw94 : MwT Try.prog 94 pc94 [.c 4 (some 3)] 58 := mr94.w
-- 95 spec.AssocStep
def pc95l0 : PC := .seq (.seq (.rg [(none, .mv 59 (.t 10)),
 (none, .mv 60 (.t 8)),
 (none, .ln 61 (.t 60)),
 (none, .bi 62 .lss (.t 59) (.t 61)),
 (none, .kp [2, 4, 7, 8, 9, 10, 62])])
 (.ite (.t 62) (.sk)
 (.ex 0)))
 (.seq (.blk 1 (.seq (.rg [(none, .mv 65 (.t 8)),
 (none, .mv 66 (.t 10)),
 (none, .ia 67 1 (.t 65) (.t 66)),
 (none, .ld 68 none (.t 67)),
 (none, .kp [2, 4, 7, 8, 9, 10, 68])])
 (.ite (.t 68) (.rg [(none, .mv 69 (.t 9)),
 (none, .mv 70 (.t 10)),
 (none, .bs 71 1 1 [.n .i64 0] [(0, .t 70)]),
 (none, .ap 72 1 8 (.t 69) (.t 71)),
 (none, .mv 9 (.t 72)),
 (none, .kp [2, 4, 7, 8, 9, 10])])
 (.sk))))
 (.rg [(none, .mv 63 (.t 10)),
 (none, .bi 64 .add (.t 63) (.c (.n .i64 1))),
 (none, .mv 10 (.t 64)),
 (none, .kp [2, 4, 7, 8, 9, 10])]))
def pc95 : PC := .seq (.rg [(none, .bx 2 (.t 0)),
 (none, .bx 3 (.t 1)),
 (none, .al 4 [.n .i64 0, .n .i64 0, .n .i64 0, .b false, .n .i64 0, .n .i64 0, .n .i64 0, .nil, .n .i64 0, .n .i64 0, .n .i64 0, .n .i64 0, .nil, .n .i64 0]),
 (none, .mv 5 (.c .nil)),
 (none, .kp [2, 3, 4])])
 (.seq (.rg [(none, .fa 11 0 (.t 3)),
 (none, .ld 12 none (.t 11)),
 (none, .fa 13 1 (.t 2)),
 (none, .ld 14 none (.t 13)),
 (none, .bi 15 .eql (.t 12) (.t 14)),
 (none, .mv 16 (.t 15)),
 (some (16, true), .fa 17 1 (.t 3)),
 (some (16, true), .ld 18 none (.t 17)),
 (some (16, true), .fa 19 0 (.t 2)),
 (some (16, true), .ld 20 none (.t 19)),
 (some (16, true), .bi 21 .eql (.t 18) (.t 20)),
 (none, .pk 22 (.t 16) (.t 21) (.c (.b false))),
 (none, .mv 6 (.t 22)),
 (none, .kp [2, 3, 4, 6])])
 (.seq (.seq (.rg [(none, .ld 23 (some 14) (.t 2)),
 (none, .ca (some 24) 21 [.t 23]),
 (none, .un 25 .not (.t 24)),
 (none, .mv 26 (.t 25)),
 (some (26, false), .ld 27 (some 4) (.t 3)),
 (some (26, false), .ca (some 28) 103 [.t 27]),
 (some (26, false), .un 29 .not (.t 28)),
 (none, .pk 30 (.t 26) (.c (.b true)) (.t 29)),
 (none, .mv 31 (.t 30)),
 (some (31, false), .mv 32 (.t 6)),
 (some (31, false), .un 33 .not (.t 32)),
 (some (31, false), .mv 34 (.t 33)),
 (some (34, true), .fa 35 0 (.t 3)),
 (some (34, true), .ld 36 none (.t 35)),
 (some (34, true), .fa 37 0 (.t 2)),
 (some (34, true), .ld 38 none (.t 37)),
 (some (34, true), .bi 39 .neq (.t 36) (.t 38)),
 (some (34, true), .mv 40 (.t 39)),
 (some (40, false), .fa 41 1 (.t 3)),
 (some (40, false), .ld 42 none (.t 41)),
 (some (40, false), .fa 43 1 (.t 2)),
 (some (40, false), .ld 44 none (.t 43)),
 (some (40, false), .bi 45 .neq (.t 42) (.t 44)),
 (some (34, true), .pk 46 (.t 40) (.c (.b true)) (.t 45)),
 (some (31, false), .pk 47 (.t 34) (.t 46) (.c (.b false))),
 (none, .pk 48 (.t 31) (.c (.b true)) (.t 47)),
 (none, .kp [2, 3, 4, 6, 48])])
 (.ite (.t 48) (.seq (.rg [(none, .bd 49 [.n .i64 0, .n .i64 0, .n .i64 0, .b false, .n .i64 0, .n .i64 0, .n .i64 0, .nil, .n .i64 0, .n .i64 0, .n .i64 0, .n .i64 0, .nil, .n .i64 0] []),
 (none, .bs 50 1 0 [.n .i64 0] []),
 (none, .st 14 (.t 4) (.t 49)),
 (none, .mv 5 (.t 50)),
 (none, .kp [4, 5])])
 (.rt))
 (.sk)))
 (.seq (.rg [(none, .ld 52 (some 14) (.t 2)),
 (none, .mv 53 (.t 6)),
 (none, .ld 54 (some 4) (.t 3)),
 (none, .ca (some 55) 110 [.t 52, .t 53, .t 54]),
 (none, .mv 51 (.t 55)),
 (none, .ex 56 (.t 51) 0),
 (none, .ex 57 (.t 51) 1),
 (none, .al 7 [.n .i64 0, .n .i64 0, .n .i64 0, .b false, .n .i64 0, .n .i64 0, .n .i64 0, .nil, .n .i64 0, .n .i64 0, .n .i64 0, .n .i64 0, .nil, .n .i64 0]),
 (none, .st 14 (.t 7) (.t 56)),
 (none, .mv 8 (.t 57)),
 (none, .kp [2, 4, 7, 8])])
 (.seq (.rg [(none, .bs 58 1 0 [.n .i64 0] []),
 (none, .mv 9 (.t 58)),
 (none, .kp [2, 4, 7, 8, 9])])
 (.seq (.seq (.rg [(none, .mv 10 (.c (.n .i64 1))),
 (none, .kp [2, 4, 7, 8, 9, 10])])
 (.blk 0 (.lp pc95l0)))
 (.seq (.seq (.rg [(none, .mv 73 (.t 9)),
 (none, .ln 74 (.t 73)),
 (none, .bi 75 .gtr (.t 74) (.c (.n .i64 0))),
 (none, .kp [2, 4, 7, 9, 75])])
 (.ite (.t 75) (.seq (.rg [(none, .ld 76 (some 14) (.t 2)),
 (none, .ca (some 77) 65 [.t 76]),
 (none, .mv 78 (.t 9)),
 (none, .st 14 (.t 4) (.t 77)),
 (none, .mv 5 (.t 78)),
 (none, .kp [4, 5])])
 (.rt))
 (.sk)))
 (.seq (.rg [(none, .ld 79 (some 14) (.t 7)),
 (none, .ca (some 80) 65 [.t 79]),
 (none, .mv 81 (.t 9)),
 (none, .st 14 (.t 4) (.t 80)),
 (none, .mv 5 (.t 81)),
 (none, .kp [4, 5])])
 (.rt))))))))
theorem mr95 : MrT Try.prog 95 pc95 [.c 4 (some 14), .t 5] 82 := fun hn h => spec_of_run (fn := Try.f95) (by kernel_rfl) rfl (by kernel_rfl) (by kernel_rfl) hn h
theorem mk95 : MkT Try.prog 95 pc95 [.c 4 (some 14), .t 5] 82 := mr95.k
theorem mw95 : MwT Try.prog 95 pc95 [.c 4 (some 14), .t 5] 82 := mr95.w
-- 96 spec.l41Hello
def pc96 : PC := .seq (.rg [(none, .bx 1 (.t 0)),
 (none, .mv 2 (.c .nil)),
 (none, .kp [1])])
 (.seq (.rg [(none, .fa 9 2 (.t 1)),
 (none, .ld 10 (some 4) (.t 9)),
 (none, .ca (some 11) 111 [.t 10, .c (.b false)]),
 (none, .mv 8 (.t 11)),
 (none, .ex 12 (.t 8) 0),
 (none, .ex 13 (.t 8) 1),
 (none, .al 3 [.n .i64 0, .n .i64 0, .s []]),
 (none, .st 3 (.t 3) (.t 12)),
 (none, .mv 4 (.t 13)),
 (none, .kp [1, 3])])
 (.seq (.rg [(none, .fa 15 6 (.t 1)),
 (none, .ld 16 (some 4) (.t 15)),
 (none, .ca (some 17) 111 [.t 16, .c (.b true)]),
 (none, .mv 14 (.t 17)),
 (none, .ex 18 (.t 14) 0),
 (none, .ex 19 (.t 14) 1),
 (none, .al 5 [.n .i64 0, .n .i64 0, .s []]),
 (none, .st 3 (.t 5) (.t 18)),
 (none, .mv 6 (.t 19)),
 (none, .kp [1, 3, 5])])
 (.seq (.rg [(none, .ld 20 (some 12) (.t 1)),
 (none, .ld 21 (some 3) (.t 3)),
 (none, .bs 22 3 1 [.n .i64 0, .n .i64 0, .s []] [(0, .t 21)]),
 (none, .ca (some 23) 101 [.t 20, .c (.b false), .t 22]),
 (none, .al 7 [.n .i64 0, .n .i64 0, .n .i64 0, .nil]),
 (none, .st 4 (.t 7) (.t 23)),
 (none, .kp [1, 5, 7])])
 (.seq (.rg [(none, .fa 24 2 (.t 7)),
 (none, .st 1 (.t 24) (.c (.n .i64 0))),
 (none, .kp [1, 5, 7])])
 (.seq (.dr [[], [], [], [2], [1, 2, 3], [], [1, 2, 3, 4, 5], [], [1, 2, 3, 4, 5, 6, 7], [0, 1, 2, 3, 4, 5, 6, 7, 8], [0, 1, 2, 3, 4, 5, 6, 7, 8, 9]]
 (.q 0 (none, .ld 25 (some 4) (.t 7))
 (.q 1 (none, .ld 26 (some 12) (.t 1))
 (.q 2 (none, .ld 27 (some 3) (.t 5))
 (.q 5 (none, .ld 30 (some 12) (.t 1))
 (.q 7 (none, .ld 32 (some 12) (.t 1))
 (.alt 3 (none, .bs 28 3 1 [.n .i64 0, .n .i64 0, .s []] [(0, .t 27)]) [true, true, false, true, true]
 (.alt 4 (none, .ca (some 29) 101 [.t 26, .c (.b true), .t 28]) [true, false, false, true, true]
 (.alt 6 (none, .ca (some 31) 102 [.t 30, .c (.b false), .c (.n .i64 10)]) [true, false, false, false, true]
 (.alt 8 (none, .ca (some 33) 102 [.t 32, .c (.b true), .c (.n .i64 11)]) [true, false, false, false, false]
 (.alt 9 (none, .bs 34 4 4 [.n .i64 0, .n .i64 0, .n .i64 0, .nil] [(0, .t 25), (1, .t 29), (2, .t 31), (3, .t 33)]) [false, false, false, false, false]
 (.q 10 (none, .mv 2 (.t 34))
 (.done))
 (.stop))
 (.stop))
 (.stop))
 (.stop))
 (.stop))))))) [2])
 (.rt))))))
theorem mr96 : MrT Try.prog 96 pc96 [.t 2] 35 := fun hn h => spec_of_run (fn := Try.f96) (by kernel_rfl) rfl (by kernel_rfl) (by kernel_rfl) hn h
theorem mk96 : MkT Try.prog 96 pc96 [.t 2] 35 := mr96.k
theorem mw96 : MwT Try.prog 96 pc96 [.t 2] 35 := mr96.w
-- 97 spec.l41Parts
def pc97l0 : PC := .seq (.seq (.rg [(none, .mv 40 (.t 10)),
 (none, .fa 41 3 (.t 8)),
 (none, .ld 42 none (.t 41)),
 (none, .lS 43 (.t 42)),
 (none, .bi 44 .lss (.t 40) (.t 43)),
 (none, .mv 45 (.t 44)),
 (some (45, true), .fa 46 0 (.t 8)),
 (some (45, true), .ld 47 none (.t 46)),
 (some (45, true), .mv 48 (.t 1)),
 (some (45, true), .bb 49 false (.t 47) (.t 48)),
 (none, .pk 50 (.t 45) (.t 49) (.c (.b false))),
 (none, .kp [1, 2, 5, 6, 7, 8, 9, 10, 50])])
 (.ite (.t 50) (.sk)
 (.ex 2)))
 (.seq (.blk 3 (.seq (.rg [(none, .mv 55 (.t 10)),
 (none, .fa 56 10 (.t 2)),
 (none, .ld 57 none (.t 56)),
 (none, .bi 58 .add (.t 55) (.t 57)),
 (none, .fa 59 3 (.t 8)),
 (none, .ld 60 none (.t 59)),
 (none, .lS 61 (.t 60)),
 (none, .mn 62 (.t 58) (.t 61)),
 (none, .mv 11 (.t 62)),
 (none, .kp [1, 2, 5, 6, 7, 8, 9, 10, 11])])
 (.seq (.dr [[], [], [1], [0, 1, 2], [], [4], [], [], [7], [], [9], [], [], [9, 10, 11, 12], [0, 1, 2, 3, 4, 5, 6, 7, 8, 9, 10, 11, 12, 13], [], [0, 1, 2, 3, 4, 5, 6, 7, 8, 9, 10, 11, 12, 13, 14, 15]]
 (.q 0 (none, .mv 63 (.t 5))
 (.q 1 (none, .mv 64 (.t 6))
 (.q 2 (none, .ln 65 (.t 64))
 (.q 4 (none, .fa 67 1 (.t 8))
 (.q 5 (none, .ld 68 none (.t 67))
 (.q 6 (none, .mv 69 (.t 9))
 (.q 7 (none, .fa 70 2 (.t 8))
 (.q 8 (none, .ld 71 none (.t 70))
 (.q 9 (none, .fa 72 3 (.t 8))
 (.q 10 (none, .ld 73 none (.t 72))
 (.q 11 (none, .mv 74 (.t 10))
 (.q 12 (none, .mv 75 (.t 11))
 (.q 13 (none, .sS 76 (.t 73) (some (.t 74)) (some (.t 75)))
 (.alt 3 (none, .ca (some 66) 43 [.t 63, .t 65]) [false, false, false, true, true, true, true, true, true, true, true, true, true]
 (.q 14 (none, .bd 77 [.n .i64 0, .n .i64 0, .n .i64 0, .b false, .b false, .b false, .s []] [(0, 1, .t 66), (1, 1, .t 68), (2, 1, .t 69), (5, 1, .t 71), (6, 1, .t 76)])
 (.alt 15 (none, .al 12 [.n .i64 0, .n .i64 0, .n .i64 0, .b false, .b false, .b false, .s []]) [true, true, true, true, true, true, true, true, true, true, true, true, true, true]
 (.alt 16 (none, .st 7 (.t 12) (.t 77)) [false, false, false, false, false, false, false, false, false, false, false, false, false, false]
 (.done)
 (.stop))
 (.stop)))
 (.alt 15 (none, .al 12 [.n .i64 0, .n .i64 0, .n .i64 0, .b false, .b false, .b false, .s []]) [true, true, true, true, true, true, true, true, true, true, true, true, true]
 (.alt 3 (none, .ca (some 66) 43 [.t 63, .t 65]) [false, false, false, true, true, true, true, true, true, true, true, true, true]
 (.q 14 (none, .bd 77 [.n .i64 0, .n .i64 0, .n .i64 0, .b false, .b false, .b false, .s []] [(0, 1, .t 66), (1, 1, .t 68), (2, 1, .t 69), (5, 1, .t 71), (6, 1, .t 76)])
 (.alt 16 (none, .st 7 (.t 12) (.t 77)) [false, false, false, false, false, false, false, false, false, false, false, false, false, false]
 (.done)
 (.stop)))
 (.stop))
 (.stop)))))))))))))))) [1, 2, 5, 6, 7, 8, 9, 10, 11, 12])
 (.seq (.rg [(none, .mv 78 (.t 10)),
 (none, .bi 79 .eql (.t 78) (.c (.n .i64 0))),
 (none, .fa 80 3 (.t 12)),
 (none, .st 1 (.t 80) (.t 79)),
 (none, .kp [1, 2, 5, 6, 7, 8, 9, 10, 11, 12])])
 (.seq (.rg [(none, .mv 81 (.t 11)),
 (none, .fa 82 3 (.t 8)),
 (none, .ld 83 none (.t 82)),
 (none, .lS 84 (.t 83)),
 (none, .bi 85 .eql (.t 81) (.t 84)),
 (none, .fa 86 4 (.t 12)),
 (none, .st 1 (.t 86) (.t 85)),
 (none, .kp [1, 2, 5, 6, 7, 8, 9, 10, 12])])
 (.rg [(none, .mv 87 (.t 6)),
 (none, .ld 88 (some 7) (.t 12)),
 (none, .bs 89 7 1 [.n .i64 0, .n .i64 0, .n .i64 0, .b false, .b false, .b false, .s []] [(0, .t 88)]),
 (none, .ap 90 7 48 (.t 87) (.t 89)),
 (none, .mv 6 (.t 90)),
 (none, .kp [1, 2, 5, 6, 7, 8, 9, 10])]))))))
 (.rg [(none, .mv 51 (.t 10)),
 (none, .fa 52 10 (.t 2)),
 (none, .ld 53 none (.t 52)),
 (none, .bi 54 .add (.t 51) (.t 53)),
 (none, .mv 10 (.t 54)),
 (none, .kp [1, 2, 5, 6, 7, 8, 9, 10])]))
def pc97l1 : PC := .seq (.seq (.rg [(none, .mv 21 (.t 7)),
 (none, .fa 22 11 (.t 2)),
 (none, .ld 23 none (.t 22)),
 (none, .ln 24 (.t 23)),
 (none, .bi 25 .lss (.t 21) (.t 24)),
 (none, .kp [1, 2, 5, 6, 7, 25])])
 (.ite (.t 25) (.sk)
 (.ex 0)))
 (.seq (.blk 1 (.seq (.rg [(none, .fa 28 11 (.t 2)),
 (none, .ld 29 none (.t 28)),
 (none, .mv 30 (.t 7)),
 (none, .ia 31 4 (.t 29) (.t 30)),
 (none, .ld 32 (some 4) (.t 31)),
 (none, .al 8 [.b false, .n .i64 0, .b false, .s []]),
 (none, .st 4 (.t 8) (.t 32)),
 (none, .kp [1, 2, 5, 6, 7, 8])])
 (.seq (.rg [(none, .mv 9 (.c (.n .i64 0))),
 (none, .kp [1, 2, 5, 6, 7, 8, 9])])
 (.seq (.seq (.rg [(none, .fa 33 2 (.t 8)),
 (none, .ld 34 none (.t 33)),
 (none, .un 35 .not (.t 34)),
 (none, .kp [1, 2, 5, 6, 7, 8, 9, 35])])
 (.ite (.t 35) (.rg [(none, .mv 36 (.t 6)),
 (none, .fa 37 1 (.t 8)),
 (none, .ld 38 none (.t 37)),
 (none, .ca (some 39) 70 [.t 36, .t 38]),
 (none, .mv 9 (.t 39)),
 (none, .kp [1, 2, 5, 6, 7, 8, 9])])
 (.sk)))
 (.seq (.rg [(none, .mv 10 (.c (.n .i64 0))),
 (none, .kp [1, 2, 5, 6, 7, 8, 9, 10])])
 (.blk 2 (.lp pc97l0)))))))
 (.rg [(none, .mv 26 (.t 7)),
 (none, .bi 27 .add (.t 26) (.c (.n .i64 1))),
 (none, .mv 7 (.t 27)),
 (none, .kp [1, 2, 5, 6, 7])]))
def pc97 : PC := .seq (.rg [(none, .bx 2 (.t 0)),
 (none, .mv 4 (.c .nil)),
 (none, .kp [1, 2])])
 (.seq (.rg [(none, .fa 13 2 (.t 2)),
 (none, .fa 14 3 (.t 13)),
 (none, .ld 15 none (.t 14)),
 (none, .mv 5 (.t 15)),
 (none, .kp [1, 2, 5])])
 (.seq (.seq (.rg [(none, .mv 16 (.t 1)),
 (none, .kp [1, 2, 5, 16])])
 (.ite (.t 16) (.rg [(none, .fa 17 6 (.t 2)),
 (none, .fa 18 3 (.t 17)),
 (none, .ld 19 none (.t 18)),
 (none, .mv 5 (.t 19)),
 (none, .kp [1, 2, 5])])
 (.sk)))
 (.seq (.rg [(none, .bs 20 7 0 [.n .i64 0, .n .i64 0, .n .i64 0, .b false, .b false, .b false, .s []] []),
 (none, .mv 6 (.t 20)),
 (none, .kp [1, 2, 5, 6])])
 (.seq (.seq (.rg [(none, .mv 7 (.c (.n .i64 0))),
 (none, .kp [1, 2, 5, 6, 7])])
 (.blk 0 (.lp pc97l1)))
 (.seq (.rg [(none, .mv 91 (.t 6)),
 (none, .mv 4 (.t 91)),
 (none, .kp [4])])
 (.rt))))))
theorem mr97 : MrT Try.prog 97 pc97 [.t 4] 92 := fun hn h => spec_of_run (fn := Try.f97) (by kernel_rfl) rfl (by kernel_rfl) (by kernel_rfl) hn h
theorem mk97 : MkT Try.prog 97 pc97 [.t 4] 92 := mr97.k
theorem mw97 : MwT Try.prog 97 pc97 [.t 4] 92 := mr97.w
-- 98 spec.l41Many
def pc98 : PC := .seq (.rg [(none, .mv 4 (.c (.n .i64 0))),
 (none, .kp [0, 1])])
 (.seq (.rg [(none, .mv 5 (.t 0)),
 (none, .lS 6 (.t 5)),
 (none, .mv 7 (.t 1)),
 (none, .bi 8 .add (.t 6) (.t 7)),
 (none, .bi 9 .sub (.t 8) (.c (.n .i64 1))),
 (none, .mv 10 (.t 1)),
 (none, .bi 11 .quo (.t 9) (.t 10)),
 (none, .mv 4 (.t 11)),
 (none, .kp [4])])
 (.rt))
theorem mr98 : MrT Try.prog 98 pc98 [.t 4] 12 := fun hn h => spec_of_run (fn := Try.f98) (by kernel_rfl) rfl (by kernel_rfl) (by kernel_rfl) hn h
theorem mk98 : MkT Try.prog 98 pc98 [.t 4] 12 := mr98.k
theorem mw98 : MwT Try.prog 98 pc98 [.t 4] 12 := mr98.w
-- 99 spec.DataPut
def pc99 : PC := .seq (.rg [(none, .bx 1 (.t 0)),
 (none, .al 2 [.n .i64 0, .n .i64 0, .s []]),
 (none, .mv 3 (.c (.b false))),
 (none, .kp [1, 2])])
 (.seq (.seq (.rg [(none, .ld 5 (some 7) (.t 1)),
 (none, .ca (some 6) 42 [.t 5]),
 (none, .un 7 .not (.t 6)),
 (none, .kp [1, 2, 7])])
 (.ite (.t 7) (.seq (.rg [(none, .bd 8 [.n .i64 0, .n .i64 0, .s []] []),
 (none, .st 3 (.t 2) (.t 8)),
 (none, .mv 3 (.c (.b false))),
 (none, .kp [2, 3])])
 (.rt))
 (.sk)))
 (.seq (.dr [[], [0], [0, 1], [], [3], [0, 1, 2, 3, 4], [0, 1, 2, 3, 4, 5], [], [7], [0, 1, 2, 3, 4, 5, 7, 8], [0, 1, 2, 3, 4, 5, 6, 7, 8, 9], [0, 1, 2, 3, 4, 5, 6, 7, 8, 9, 10]]
 (.q 0 (none, .fa 9 4 (.t 1))
 (.q 1 (none, .ld 10 none (.t 9))
 (.q 3 (none, .fa 12 3 (.t 1))
 (.q 4 (none, .ld 13 none (.t 12))
 (.q 7 (none, .fa 16 5 (.t 1))
 (.q 8 (none, .ld 17 none (.t 16))
 (.alt 2 (none, .ca (some 11) 112 [.t 10, .c (.n .i64 1)]) [false, false, true, true, true, true]
 (.alt 5 (none, .ca (some 14) 112 [.t 13, .c (.n .i64 2)]) [false, false, false, false, true, true]
 (.q 6 (none, .bi 15 .add (.t 11) (.t 14))
 (.alt 9 (none, .ca (some 18) 112 [.t 17, .c (.n .i64 4)]) [false, false, false, false, false, false, true]
 (.q 10 (none, .bi 19 .add (.t 15) (.t 18))
 (.q 11 (none, .mv 4 (.t 19))
 (.done)))
 (.stop)))
 (.stop))
 (.stop)))))))) [1, 2, 4])
 (.seq (.dr [[], [], [1], [1, 2], [], [4], [1, 2, 3, 4, 5], [1, 2, 3, 4, 5, 6], [], [8], [1, 2, 3, 4, 5, 6, 8, 9], [1, 2, 3, 4, 5, 6, 7, 8, 9, 10], [], [12], [1, 2, 3, 4, 5, 6, 7, 8, 9, 10, 11, 12, 13], [0, 1, 2, 3, 4, 5, 6, 7, 8, 9, 10, 11, 12, 13, 14], [0, 1, 2, 3, 4, 5, 6, 7, 8, 9, 10, 11, 12, 13, 14, 15], [0, 1, 2, 3, 4, 5, 6, 7, 8, 9, 10, 11, 12, 13, 14, 15, 16]]
 (.q 0 (none, .mv 20 (.t 4))
 (.q 1 (none, .fa 21 0 (.t 1))
 (.q 2 (none, .ld 22 none (.t 21))
 (.q 4 (none, .fa 24 1 (.t 1))
 (.q 5 (none, .ld 25 none (.t 24))
 (.q 8 (none, .fa 28 2 (.t 1))
 (.q 9 (none, .ld 29 none (.t 28))
 (.q 12 (none, .fa 32 6 (.t 1))
 (.q 13 (none, .ld 33 none (.t 32))
 (.alt 3 (none, .ca (some 23) 113 [.t 22]) [true, false, false, true, true, true, true, true, true]
 (.alt 6 (none, .ca (some 26) 113 [.t 25]) [true, false, false, false, false, true, true, true, true]
 (.q 7 (none, .bi 27 .add (.t 23) (.t 26))
 (.alt 10 (none, .ca (some 30) 113 [.t 29]) [true, false, false, false, false, false, false, true, true, true]
 (.q 11 (none, .bi 31 .add (.t 27) (.t 30))
 (.q 14 (none, .bi 34 .add (.t 31) (.t 33))
 (.q 15 (none, .bd 35 [.n .i64 0, .n .i64 0, .s []] [(0, 1, .c (.n .i64 0)), (1, 1, .t 20), (2, 1, .t 34)])
 (.alt 16 (none, .st 3 (.t 2) (.t 35)) [false, false, false, false, false, false, false, false, false, false, false, false, false]
 (.q 17 (none, .mv 3 (.c (.b true)))
 (.done))
 (.stop)))))
 (.stop)))
 (.stop))
 (.stop))))))))))) [2, 3])
 (.rt))))
theorem mr99 : MrT Try.prog 99 pc99 [.c 2 (some 3), .t 3] 36 := fun hn h => spec_of_run (fn := Try.f99) (by kernel_rfl) rfl (by kernel_rfl) (by kernel_rfl) hn h
theorem mk99 : MkT Try.prog 99 pc99 [.c 2 (some 3), .t 3] 36 := mr99.k
theorem mw99 : MwT Try.prog 99 pc99 [.c 2 (some 3), .t 3] 36 := mr99.w
-- 100 spec.SackPut
def pc100l0 : PC := .seq (.seq (.rg [(none, .mv 13 (.t 5)),
 (none, .fa 14 1 (.t 1)),
 (none, .ld 15 none (.t 14)),
 (none, .ln 16 (.t 15)),
 (none, .bi 17 .lss (.t 13) (.t 16)),
 (none, .kp [1, 2, 4, 5, 17])])
 (.ite (.t 17) (.sk)
 (.ex 0)))
 (.seq (.blk 1 (.dr [[], [], [1], [], [1, 2, 3], [1, 2, 3, 4], [1, 2, 3, 4, 5], [1, 2, 3, 4, 5, 6], [0, 1, 2, 3, 4, 5, 6, 7], [], [9], [], [9, 10, 11], [9, 10, 11, 12], [9, 10, 11, 12, 13], [1, 2, 3, 4, 5, 6, 7, 9, 10, 11, 12, 13, 14], [0, 1, 2, 3, 4, 5, 6, 7, 8, 9, 10, 11, 12, 13, 14, 15], [0, 1, 2, 3, 4, 5, 6, 7, 8, 9, 10, 11, 12, 13, 14, 15, 16]]
 (.q 0 (none, .mv 20 (.t 4))
 (.q 1 (none, .fa 21 1 (.t 1))
 (.q 2 (none, .ld 22 none (.t 21))
 (.q 3 (none, .mv 23 (.t 5))
 (.q 4 (none, .ia 24 2 (.t 22) (.t 23))
 (.q 5 (none, .fa 25 0 (.t 24))
 (.q 6 (none, .ld 26 none (.t 25))
 (.q 9 (none, .fa 29 1 (.t 1))
 (.q 10 (none, .ld 30 none (.t 29))
 (.q 11 (none, .mv 31 (.t 5))
 (.q 12 (none, .ia 32 2 (.t 30) (.t 31))
 (.q 13 (none, .fa 33 1 (.t 32))
 (.q 14 (none, .ld 34 none (.t 33))
 (.alt 7 (none, .ca (some 27) 113 [.t 26]) [true, false, false, false, false, false, false, true, true, true, true, true, true]
 (.q 8 (none, .bi 28 .add (.t 20) (.t 27))
 (.alt 15 (none, .ca (some 35) 113 [.t 34]) [true, false, false, false, false, false, false, false, false, false, false, false, false, true]
 (.q 16 (none, .bi 36 .add (.t 28) (.t 35))
 (.alt 17 (none, .mv 4 (.t 36)) [false, false, false, false, false, false, false, false, false, false, false, false, false, false, false]
 (.done)
 (.stop)))
 (.stop)))
 (.stop))))))))))))))) [1, 2, 4, 5]))
 (.rg [(none, .mv 18 (.t 5)),
 (none, .bi 19 .add (.t 18) (.c (.n .i64 1))),
 (none, .mv 5 (.t 19)),
 (none, .kp [1, 2, 4, 5])]))
def pc100 : PC := .seq (.rg [(none, .bx 1 (.t 0)),
 (none, .al 2 [.n .i64 0, .n .i64 0, .s []]),
 (none, .mv 3 (.c (.b false))),
 (none, .kp [1, 2])])
 (.seq (.seq (.rg [(none, .ld 6 (some 2) (.t 1)),
 (none, .ca (some 7) 114 [.t 6]),
 (none, .un 8 .not (.t 7)),
 (none, .kp [1, 2, 8])])
 (.ite (.t 8) (.seq (.rg [(none, .bd 9 [.n .i64 0, .n .i64 0, .s []] []),
 (none, .st 3 (.t 2) (.t 9)),
 (none, .mv 3 (.c (.b false))),
 (none, .kp [2, 3])])
 (.rt))
 (.sk)))
 (.seq (.rg [(none, .fa 10 0 (.t 1)),
 (none, .ld 11 none (.t 10)),
 (none, .ca (some 12) 113 [.t 11]),
 (none, .mv 4 (.t 12)),
 (none, .kp [1, 2, 4])])
 (.seq (.seq (.rg [(none, .mv 5 (.c (.n .i64 0))),
 (none, .kp [1, 2, 4, 5])])
 (.blk 0 (.lp pc100l0)))
 (.seq (.rg [(none, .mv 37 (.t 4)),
 (none, .bd 38 [.n .i64 0, .n .i64 0, .s []] [(0, 1, .c (.n .i64 3)), (2, 1, .t 37)]),
 (none, .st 3 (.t 2) (.t 38)),
 (none, .mv 3 (.c (.b true))),
 (none, .kp [2, 3])])
 (.rt)))))
theorem mr100 : MrT Try.prog 100 pc100 [.c 2 (some 3), .t 3] 39 := fun hn h => spec_of_run (fn := Try.f100) (by kernel_rfl) rfl (by kernel_rfl) (by kernel_rfl) hn h
theorem mk100 : MkT Try.prog 100 pc100 [.c 2 (some 3), .t 3] 39 := mr100.k
theorem mw100 : MwT Try.prog 100 pc100 [.c 2 (some 3), .t 3] 39 := mr100.w
-- 101 spec.l41Packet
def pc101 : PC := .seq (.rg [(none, .bx 3 (.t 0)),
 (none, .al 6 [.n .i64 0, .n .i64 0, .n .i64 0, .nil]),
 (none, .kp [1, 2, 3, 6])])
 (.seq (.seq (.rg [(none, .mv 7 (.t 1)),
 (none, .kp [2, 3, 6, 7])])
 (.ite (.t 7) (.seq (.rg [(none, .fa 8 1 (.t 3)),
 (none, .ld 9 none (.t 8)),
 (none, .fa 10 0 (.t 3)),
 (none, .ld 11 none (.t 10)),
 (none, .fa 12 2 (.t 3)),
 (none, .fa 13 0 (.t 12)),
 (none, .ld 14 none (.t 13)),
 (none, .mv 15 (.t 2)),
 (none, .bd 16 [.n .i64 0, .n .i64 0, .n .i64 0, .nil] [(0, 1, .t 9), (1, 1, .t 11), (2, 1, .t 14), (3, 1, .t 15)]),
 (none, .st 4 (.t 6) (.t 16)),
 (none, .kp [6])])
 (.rt))
 (.sk)))
 (.seq (.rg [(none, .fa 17 0 (.t 3)),
 (none, .ld 18 none (.t 17)),
 (none, .fa 19 1 (.t 3)),
 (none, .ld 20 none (.t 19)),
 (none, .fa 21 6 (.t 3)),
 (none, .fa 22 0 (.t 21)),
 (none, .ld 23 none (.t 22)),
 (none, .mv 24 (.t 2)),
 (none, .bd 25 [.n .i64 0, .n .i64 0, .n .i64 0, .nil] [(0, 1, .t 18), (1, 1, .t 20), (2, 1, .t 23), (3, 1, .t 24)]),
 (none, .st 4 (.t 6) (.t 25)),
 (none, .kp [6])])
 (.rt)))
theorem mr101 : MrT Try.prog 101 pc101 [.c 6 (some 4)] 26 := fun hn h => spec_of_run (fn := Try.f101) (by kernel_rfl) rfl (by kernel_rfl) (by kernel_rfl) hn h
theorem mk101 : MkT Try.prog 101 pc101 [.c 6 (some 4)] 26 := mr101.k
theorem mw101 : MwT Try.prog 101 pc101 [.c 6 (some 4)] 26 := mr101.w
-- 102 spec.l41One
def pc102 : PC := .seq (.rg [(none, .bx 3 (.t 0)),
 (none, .al 6 [.n .i64 0, .n .i64 0, .n .i64 0, .nil]),
 (none, .kp [1, 2, 3, 6])])
 (.seq (.rg [(none, .ld 7 (some 12) (.t 3)),
 (none, .mv 8 (.t 1)),
 (none, .mv 9 (.t 2)),
 (none, .bd 10 [.n .i64 0, .n .i64 0, .s []] [(0, 1, .t 9)]),
 (none, .bs 11 3 1 [.n .i64 0, .n .i64 0, .s []] [(0, .t 10)]),
 (none, .ca (some 12) 101 [.t 7, .t 8, .t 11]),
 (none, .st 4 (.t 6) (.t 12)),
 (none, .kp [6])])
 (.rt))
theorem mr102 : MrT Try.prog 102 pc102 [.c 6 (some 4)] 13 := fun hn h => spec_of_run (fn := Try.f102) (by kernel_rfl) rfl (by kernel_rfl) (by kernel_rfl) hn h
theorem mk102 : MkT Try.prog 102 pc102 [.c 6 (some 4)] 13 := mr102.k
theorem mw102 : MwT Try.prog 102 pc102 [.c 6 (some 4)] 13 := mr102.w
-- 103 spec.PacketValid
def pc103l0 : PC := .seq (.seq (.rg [(none, .mv 4 (.t 3)),
 (none, .fa 5 3 (.t 1)),
 (none, .ld 6 none (.t 5)),
 (none, .ln 7 (.t 6)),
 (none, .bi 8 .lss (.t 4) (.t 7)),
 (none, .kp [1, 3, 8])])
 (.ite (.t 8) (.sk)
 (.ex 0)))
 (.seq (.blk 1 (.seq (.rg [(none, .fa 11 3 (.t 1)),
 (none, .ld 12 none (.t 11)),
 (none, .mv 13 (.t 3)),
 (none, .ia 14 3 (.t 12) (.t 13)),
 (none, .ld 15 (some 3) (.t 14)),
 (none, .ca (some 16) 115 [.t 15]),
 (none, .un 17 .not (.t 16)),
 (none, .kp [1, 3, 17])])
 (.ite (.t 17) (.seq (.rg [(none, .mv 2 (.c (.b false))),
 (none, .kp [2])])
 (.rt))
 (.sk))))
 (.rg [(none, .mv 9 (.t 3)),
 (none, .bi 10 .add (.t 9) (.c (.n .i64 1))),
 (none, .mv 3 (.t 10)),
 (none, .kp [1, 3])]))
def pc103 : PC := .seq (.rg [(none, .bx 1 (.t 0)),
 (none, .mv 2 (.c (.b false))),
 (none, .kp [1])])
 (.seq (.seq (.rg [(none, .mv 3 (.c (.n .i64 0))),
 (none, .kp [1, 3])])
 (.blk 0 (.lp pc103l0)))
 (.seq (.rg [(none, .fa 18 0 (.t 1)),
 (none, .ld 19 none (.t 18)),
 (none, .ca (some 20) 45 [.t 19, .c (.n .i64 1), .c (.n .i64 65535)]),
 (none, .mv 21 (.t 20)),
 (some (21, true), .fa 22 1 (.t 1)),
 (some (21, true), .ld 23 none (.t 22)),
 (some (21, true), .ca (some 24) 45 [.t 23, .c (.n .i64 1), .c (.n .i64 65535)]),
 (none, .pk 25 (.t 21) (.t 24) (.c (.b false))),
 (none, .mv 26 (.t 25)),
 (some (26, true), .fa 27 0 (.t 1)),
 (some (26, true), .ld 28 none (.t 27)),
 (some (26, true), .fa 29 1 (.t 1)),
 (some (26, true), .ld 30 none (.t 29)),
 (some (26, true), .bi 31 .neq (.t 28) (.t 30)),
 (none, .pk 32 (.t 26) (.t 31) (.c (.b false))),
 (none, .mv 33 (.t 32)),
 (some (33, true), .fa 34 2 (.t 1)),
 (some (33, true), .ld 35 none (.t 34)),
 (some (33, true), .ca (some 36) 45 [.t 35, .c (.n .i64 0), .c (.n .i64 4294967295)]),
 (none, .pk 37 (.t 33) (.t 36) (.c (.b false))),
 (none, .mv 38 (.t 37)),
 (some (38, true), .fa 39 3 (.t 1)),
 (some (38, true), .ld 40 none (.t 39)),
 (some (38, true), .ln 41 (.t 40)),
 (some (38, true), .ca (some 42) 45 [.t 41, .c (.n .i64 1), .c (.n .i64 4)]),
 (none, .pk 43 (.t 38) (.t 42) (.c (.b false))),
 (none, .mv 2 (.t 43)),
 (none, .kp [2])])
 (.rt)))
theorem mr103 : MrT Try.prog 103 pc103 [.t 2] 44 := fun hn h => spec_of_run (fn := Try.f103) (by kernel_rfl) rfl (by kernel_rfl) (by kernel_rfl) hn h
theorem mk103 : MkT Try.prog 103 pc103 [.t 2] 44 := mr103.k
theorem mw103 : MwT Try.prog 103 pc103 [.t 2] 44 := mr103.w
-- 104 spec.l13Put
def pc104l0 : PC := .seq (.seq (.rg [(none, .mv 17 (.t 4)),
 (none, .fa 18 3 (.t 1)),
 (none, .ld 19 none (.t 18)),
 (none, .ln 20 (.t 19)),
 (none, .bi 21 .lss (.t 17) (.t 20)),
 (none, .kp [1, 3, 4, 21])])
 (.ite (.t 21) (.sk)
 (.ex 0)))
 (.seq (.blk 1 (.rg [(none, .mv 24 (.t 3)),
 (none, .fa 25 3 (.t 1)),
 (none, .ld 26 none (.t 25)),
 (none, .mv 27 (.t 4)),
 (none, .ia 28 3 (.t 26) (.t 27)),
 (none, .ld 29 (some 3) (.t 28)),
 (none, .ca (some 30) 117 [.t 29]),
 (none, .bi 31 .add (.t 24) (.t 30)),
 (none, .mv 3 (.t 31)),
 (none, .kp [1, 3, 4])]))
 (.rg [(none, .mv 22 (.t 4)),
 (none, .bi 23 .add (.t 22) (.c (.n .i64 1))),
 (none, .mv 4 (.t 23)),
 (none, .kp [1, 3, 4])]))
def pc104 : PC := .seq (.rg [(none, .bx 1 (.t 0)),
 (none, .mv 2 (.c (.s []))),
 (none, .kp [1])])
 (.seq (.dr [[], [0], [0, 1], [], [3], [0, 1, 2, 3, 4], [0, 1, 2, 3, 4, 5], [], [7], [0, 1, 2, 3, 4, 5, 7, 8], [0, 1, 2, 3, 4, 5, 6, 7, 8, 9], [0, 1, 2, 3, 4, 5, 6, 7, 8, 9, 10], [0, 1, 2, 3, 4, 5, 6, 7, 8, 9, 10, 11]]
 (.q 0 (none, .fa 5 0 (.t 1))
 (.q 1 (none, .ld 6 none (.t 5))
 (.q 3 (none, .fa 8 1 (.t 1))
 (.q 4 (none, .ld 9 none (.t 8))
 (.q 7 (none, .fa 12 2 (.t 1))
 (.q 8 (none, .ld 13 none (.t 12))
 (.alt 2 (none, .ca (some 7) 113 [.t 6]) [false, false, true, true, true, true]
 (.alt 5 (none, .ca (some 10) 113 [.t 9]) [false, false, false, false, true, true]
 (.q 6 (none, .bi 11 .add (.t 7) (.t 10))
 (.alt 9 (none, .ca (some 14) 116 [.t 13]) [false, false, false, false, false, false, true]
 (.q 10 (none, .bi 15 .add (.t 11) (.t 14))
 (.q 11 (none, .bi 16 .add (.t 15) (.c (.s [0, 0, 0, 0])))
 (.q 12 (none, .mv 3 (.t 16))
 (.done))))
 (.stop)))
 (.stop))
 (.stop)))))))) [1, 3])
 (.seq (.seq (.rg [(none, .mv 4 (.c (.n .i64 0))),
 (none, .kp [1, 3, 4])])
 (.blk 0 (.lp pc104l0)))
 (.seq (.dr [[], [0], [], [2], [2, 3], [0, 1, 2, 3, 4], [], [6], [0, 1, 2, 3, 4, 5, 6, 7], [0, 1, 2, 3, 4, 5, 6, 7, 8]]
 (.q 0 (none, .mv 32 (.t 3))
 (.q 1 (none, .sS 33 (.t 32) none (some (.c (.n .i64 8))))
 (.q 2 (none, .mv 34 (.t 3))
 (.q 6 (none, .mv 38 (.t 3))
 (.q 7 (none, .sS 39 (.t 38) (some (.c (.n .i64 12))) none)
 (.alt 3 (none, .ca (some 35) 107 [.t 34]) [true, true, false, true, true]
 (.alt 4 (none, .ca (some 36) 116 [.t 35]) [true, true, false, true, true]
 (.q 5 (none, .bi 37 .add (.t 33) (.t 36))
 (.q 8 (none, .bi 40 .add (.t 37) (.t 39))
 (.q 9 (none, .mv 2 (.t 40))
 (.done))))
 (.stop))
 (.stop))))))) [2])
 (.rt))))
theorem mr104 : MrT Try.prog 104 pc104 [.t 2] 41 := fun hn h => spec_of_run (fn := Try.f104) (by kernel_rfl) rfl (by kernel_rfl) (by kernel_rfl) hn h
theorem mk104 : MkT Try.prog 104 pc104 [.t 2] 41 := mr104.k
theorem mw104 : MwT Try.prog 104 pc104 [.t 2] 41 := mr104.w
-- 105 spec.l12Init
def pc105 : PC := .seq (.rg [(none, .bx 1 (.t 0)),
 (none, .mv 2 (.c (.b false))),
 (none, .kp [1])])
 (.seq (.rg [(none, .fa 3 0 (.t 1)),
 (none, .ld 4 none (.t 3)),
 (none, .ca (some 5) 45 [.t 4, .c (.n .i64 1), .c (.n .i64 4294967295)]),
 (none, .mv 6 (.t 5)),
 (some (6, true), .fa 7 1 (.t 1)),
 (some (6, true), .ld 8 none (.t 7)),
 (some (6, true), .ca (some 9) 45 [.t 8, .c (.n .i64 0), .c (.n .i64 65535)]),
 (none, .pk 10 (.t 6) (.t 9) (.c (.b false))),
 (none, .mv 11 (.t 10)),
 (some (11, true), .fa 12 2 (.t 1)),
 (some (11, true), .ld 13 none (.t 12)),
 (some (11, true), .ca (some 14) 45 [.t 13, .c (.n .i64 1), .c (.n .i64 4)]),
 (none, .pk 15 (.t 11) (.t 14) (.c (.b false))),
 (none, .mv 16 (.t 15)),
 (some (16, true), .fa 17 3 (.t 1)),
 (some (16, true), .ld 18 none (.t 17)),
 (some (16, true), .ca (some 19) 46 [.t 18]),
 (none, .pk 20 (.t 16) (.t 19) (.c (.b false))),
 (none, .mv 2 (.t 20)),
 (none, .kp [2])])
 (.rt))
theorem mr105 : MrT Try.prog 105 pc105 [.t 2] 21 := fun hn h => spec_of_run (fn := Try.f105) (by kernel_rfl) rfl (by kernel_rfl) (by kernel_rfl) hn h
theorem mk105 : MkT Try.prog 105 pc105 [.t 2] 21 := mr105.k
theorem mw105 : MwT Try.prog 105 pc105 [.t 2] 21 := mr105.w
-- 106 spec.l1At
def pc106 : PC := .seq (.rg [(none, .mv 4 (.c (.n .i64 0))),
 (none, .kp [0, 1])])
 (.seq (.dr [[], [], [0, 1], [0, 1, 2], [0, 1, 2, 3], [], [], [6], [5, 6, 7], [5, 6, 7, 8], [0, 1, 2, 3, 4, 5, 6, 7, 8, 9], [0, 1, 2, 3, 4, 5, 6, 7, 8, 9, 10]]
 (.q 0 (none, .mv 5 (.t 0))
 (.q 1 (none, .mv 6 (.t 1))
 (.q 2 (none, .ix 7 (.t 5) (.t 6))
 (.q 3 (none, .cv 8 .i64 (.t 7))
 (.q 4 (none, .bi 9 .mul (.c (.n .i64 256)) (.t 8))
 (.q 5 (none, .mv 10 (.t 0))
 (.q 6 (none, .mv 11 (.t 1))
 (.q 7 (none, .bi 12 .add (.t 11) (.c (.n .i64 1)))
 (.q 8 (none, .ix 13 (.t 10) (.t 12))
 (.q 9 (none, .cv 14 .i64 (.t 13))
 (.q 10 (none, .bi 15 .add (.t 9) (.t 14))
 (.q 11 (none, .mv 4 (.t 15))
 (.done))))))))))))) [4])
 (.rt))
theorem mr106 : MrT Try.prog 106 pc106 [.t 4] 16 := fun hn h => spec_of_run (fn := Try.f106) (by kernel_rfl) rfl (by kernel_rfl) (by kernel_rfl) hn h
theorem mk106 : MkT Try.prog 106 pc106 [.t 4] 16 := mr106.k
theorem mw106 : MwT Try.prog 106 pc106 [.t 4] 16 := mr106.w
-- 107 spec.l13Sum
def pc107 : PC := .seq (.rg [(none, .mv 2 (.c (.n .i64 0))),
 (none, .kp [0])])
 (.seq (.dr [[], [0], [0, 1], [], [3], [0, 1, 2, 3, 4], [0, 1, 2, 3, 4, 5], [0, 1, 2, 3, 4, 5, 6]]
 (.q 0 (none, .mv 3 (.t 0))
 (.q 1 (none, .sS 4 (.t 3) none (some (.c (.n .i64 8))))
 (.q 2 (none, .bi 5 .add (.t 4) (.c (.s [0, 0, 0, 0])))
 (.q 3 (none, .mv 6 (.t 0))
 (.q 4 (none, .sS 7 (.t 6) (some (.c (.n .i64 12))) none)
 (.q 5 (none, .bi 8 .add (.t 5) (.t 7))
 (.alt 6 (none, .ca (some 9) 118 [.c (.n .i64 1), .t 8]) [false, false, false, false, false, false]
 (.q 7 (none, .mv 2 (.t 9))
 (.done))
 (.stop)))))))) [2])
 (.rt))
theorem mr107 : MrT Try.prog 107 pc107 [.t 2] 10 := fun hn h => spec_of_run (fn := Try.f107) (by kernel_rfl) rfl (by kernel_rfl) (by kernel_rfl) hn h
theorem mk107 : MkT Try.prog 107 pc107 [.t 2] 10 := mr107.k
theorem mw107 : MwT Try.prog 107 pc107 [.t 2] 10 := mr107.w
-- 108 spec.ChunkGet
def pc108 : PC := .seq (.rg [(none, .al 4 [.n .i64 0, .n .i64 0, .s []]),
 (none, .mv 5 (.c (.n .i64 0))),
 (none, .mv 6 (.c (.b false))),
 (none, .kp [0, 1, 4])])
 (.seq (.seq (.rg [(none, .mv 10 (.t 1)),
 (none, .bi 11 .lss (.t 10) (.c (.n .i64 0))),
 (none, .mv 12 (.t 11)),
 (some (12, false), .mv 13 (.t 1)),
 (some (12, false), .mv 14 (.t 0)),
 (some (12, false), .lS 15 (.t 14)),
 (some (12, false), .bi 16 .sub (.t 15) (.c (.n .i64 4))),
 (some (12, false), .bi 17 .gtr (.t 13) (.t 16)),
 (none, .pk 18 (.t 12) (.c (.b true)) (.t 17)),
 (none, .kp [0, 1, 4, 18])])
 (.ite (.t 18) (.seq (.rg [(none, .bd 19 [.n .i64 0, .n .i64 0, .s []] []),
 (none, .st 3 (.t 4) (.t 19)),
 (none, .mv 5 (.c (.n .i64 0))),
 (none, .mv 6 (.c (.b false))),
 (none, .kp [4, 5, 6])])
 (.rt))
 (.sk)))
 (.seq (.rg [(none, .mv 20 (.t 0)),
 (none, .mv 21 (.t 1)),
 (none, .bi 22 .add (.t 21) (.c (.n .i64 2))),
 (none, .ca (some 23) 106 [.t 20, .t 22]),
 (none, .mv 7 (.t 23)),
 (none, .kp [0, 1, 4, 7])])
 (.seq (.seq (.rg [(none, .mv 24 (.t 7)),
 (none, .ca (some 25) 45 [.t 24, .c (.n .i64 4), .c (.n .i64 64)]),
 (none, .un 26 .not (.t 25)),
 (none, .mv 27 (.t 26)),
 (some (27, false), .mv 28 (.t 1)),
 (some (27, false), .mv 29 (.t 7)),
 (some (27, false), .bi 30 .add (.t 28) (.t 29)),
 (some (27, false), .mv 31 (.t 0)),
 (some (27, false), .lS 32 (.t 31)),
 (some (27, false), .bi 33 .gtr (.t 30) (.t 32)),
 (none, .pk 34 (.t 27) (.c (.b true)) (.t 33)),
 (none, .kp [0, 1, 4, 7, 34])])
 (.ite (.t 34) (.seq (.rg [(none, .bd 35 [.n .i64 0, .n .i64 0, .s []] []),
 (none, .st 3 (.t 4) (.t 35)),
 (none, .mv 5 (.c (.n .i64 0))),
 (none, .mv 6 (.c (.b false))),
 (none, .kp [4, 5, 6])])
 (.rt))
 (.sk)))
 (.seq (.dr [[], [], [0, 1], [0, 1, 2], [], [], [5], [4, 5, 6], [4, 5, 6, 7], [], [], [10], [], [], [12, 13], [9, 10, 11, 12, 13, 14], [0, 1, 2, 3, 4, 5, 6, 7, 8, 9, 10, 11, 12, 13, 14, 15], [], [0, 1, 2, 3, 4, 5, 6, 7, 8, 9, 10, 11, 12, 13, 14, 15, 16, 17]]
 (.q 0 (none, .mv 36 (.t 0))
 (.q 1 (none, .mv 37 (.t 1))
 (.q 2 (none, .ix 38 (.t 36) (.t 37))
 (.q 3 (none, .cv 39 .i64 (.t 38))
 (.q 4 (none, .mv 40 (.t 0))
 (.q 5 (none, .mv 41 (.t 1))
 (.q 6 (none, .bi 42 .add (.t 41) (.c (.n .i64 1)))
 (.q 7 (none, .ix 43 (.t 40) (.t 42))
 (.q 8 (none, .cv 44 .i64 (.t 43))
 (.q 9 (none, .mv 45 (.t 0))
 (.q 10 (none, .mv 46 (.t 1))
 (.q 11 (none, .bi 47 .add (.t 46) (.c (.n .i64 4)))
 (.q 12 (none, .mv 48 (.t 1))
 (.q 13 (none, .mv 49 (.t 7))
 (.q 14 (none, .bi 50 .add (.t 48) (.t 49))
 (.q 15 (none, .sS 51 (.t 45) (some (.t 47)) (some (.t 50)))
 (.q 16 (none, .bd 52 [.n .i64 0, .n .i64 0, .s []] [(0, 1, .t 39), (1, 1, .t 44), (2, 1, .t 51)])
 (.alt 17 (none, .al 8 [.n .i64 0, .n .i64 0, .s []]) [true, true, true, true, true, true, true, true, true, true, true, true, true, true, true, true, true]
 (.alt 18 (none, .st 3 (.t 8) (.t 52)) [false, false, false, false, false, false, false, false, false, false, false, false, false, false, false, false, false]
 (.done)
 (.stop))
 (.stop))))))))))))))))))) [0, 1, 4, 8])
 (.seq (.rg [(none, .ld 53 (some 3) (.t 8)),
 (none, .ca (some 54) 117 [.t 53]),
 (none, .mv 9 (.t 54)),
 (none, .kp [0, 1, 4, 8, 9])])
 (.seq (.seq (.rg [(none, .mv 55 (.t 1)),
 (none, .mv 56 (.t 9)),
 (none, .lS 57 (.t 56)),
 (none, .bi 58 .add (.t 55) (.t 57)),
 (none, .mv 59 (.t 0)),
 (none, .lS 60 (.t 59)),
 (none, .bi 61 .gtr (.t 58) (.t 60)),
 (none, .mv 62 (.t 61)),
 (some (62, false), .mv 63 (.t 0)),
 (some (62, false), .mv 64 (.t 1)),
 (some (62, false), .mv 65 (.t 1)),
 (some (62, false), .mv 66 (.t 9)),
 (some (62, false), .lS 67 (.t 66)),
 (some (62, false), .bi 68 .add (.t 65) (.t 67)),
 (some (62, false), .sS 69 (.t 63) (some (.t 64)) (some (.t 68))),
 (some (62, false), .mv 70 (.t 9)),
 (some (62, false), .bi 71 .neq (.t 69) (.t 70)),
 (none, .pk 72 (.t 62) (.c (.b true)) (.t 71)),
 (none, .kp [1, 4, 8, 9, 72])])
 (.ite (.t 72) (.seq (.rg [(none, .bd 73 [.n .i64 0, .n .i64 0, .s []] []),
 (none, .st 3 (.t 4) (.t 73)),
 (none, .mv 5 (.c (.n .i64 0))),
 (none, .mv 6 (.c (.b false))),
 (none, .kp [4, 5, 6])])
 (.rt))
 (.sk)))
 (.seq (.rg [(none, .ld 74 (some 3) (.t 8)),
 (none, .mv 75 (.t 1)),
 (none, .mv 76 (.t 9)),
 (none, .lS 77 (.t 76)),
 (none, .bi 78 .add (.t 75) (.t 77)),
 (none, .st 3 (.t 4) (.t 74)),
 (none, .mv 5 (.t 78)),
 (none, .mv 6 (.c (.b true))),
 (none, .kp [4, 5, 6])])
 (.rt))))))))
theorem mr108 : MrT Try.prog 108 pc108 [.c 4 (some 3), .t 5, .t 6] 79 := fun hn h => spec_of_run (fn := Try.f108) (by kernel_rfl) rfl (by kernel_rfl) (by kernel_rfl) hn h
theorem mk108 : MkT Try.prog 108 pc108 [.c 4 (some 3), .t 5, .t 6] 79 := mr108.k
theorem mw108 : MwT Try.prog 108 pc108 [.c 4 (some 3), .t 5, .t 6] 79 := mr108.w
-- 109 spec.l13Alone
def pc109 : PC := .seq (.rg [(none, .mv 2 (.c (.b false))),
 (none, .kp [0])])
 (.seq (.rg [(none, .mv 3 (.t 0)),
 (none, .bi 4 .eql (.t 3) (.c (.n .i64 1))),
 (none, .mv 5 (.t 4)),
 (some (5, false), .mv 6 (.t 0)),
 (some (5, false), .bi 7 .eql (.t 6) (.c (.n .i64 2))),
 (none, .pk 8 (.t 5) (.c (.b true)) (.t 7)),
 (none, .mv 9 (.t 8)),
 (some (9, false), .mv 10 (.t 0)),
 (some (9, false), .bi 11 .eql (.t 10) (.c (.n .i64 14))),
 (none, .pk 12 (.t 9) (.c (.b true)) (.t 11)),
 (none, .mv 2 (.t 12)),
 (none, .kp [2])])
 (.rt))
theorem mr109 : MrT Try.prog 109 pc109 [.t 2] 13 := fun hn h => spec_of_run (fn := Try.f109) (by kernel_rfl) rfl (by kernel_rfl) (by kernel_rfl) hn h
theorem mk109 : MkT Try.prog 109 pc109 [.t 2] 13 := mr109.k
theorem mw109 : MwT Try.prog 109 pc109 [.t 2] 13 := mr109.w
-- 110 spec.l31Step
def pc110l0 : PC := .seq (.seq (.rg [(none, .mv 29 (.t 10)),
 (none, .fa 30 3 (.t 5)),
 (none, .ld 31 none (.t 30)),
 (none, .ln 32 (.t 31)),
 (none, .bi 33 .lss (.t 29) (.t 32)),
 (none, .kp [1, 5, 6, 8, 9, 10, 33])])
 (.ite (.t 33) (.sk)
 (.ex 0)))
 (.seq (.blk 1 (.seq (.dr [[], [], [], [2], [], [2, 3, 4], [2, 3, 4, 5], [0, 1, 2, 3, 4, 5, 6], [0, 1, 2, 3, 4, 5, 6, 7], [0, 1, 2, 3, 4, 5, 6, 7, 8], [0, 1, 2, 3, 4, 5, 6, 7, 8], [], [0, 1, 2, 3, 4, 5, 6, 7, 8, 9, 11], [0, 1, 2, 3, 4, 5, 6, 7, 8, 9, 10, 11, 12]]
 (.q 0 (none, .ld 37 (some 14) (.t 9))
 (.q 1 (none, .mv 38 (.t 1))
 (.q 2 (none, .fa 39 3 (.t 5))
 (.q 3 (none, .ld 40 none (.t 39))
 (.q 4 (none, .mv 41 (.t 10))
 (.q 5 (none, .ia 42 3 (.t 40) (.t 41))
 (.q 6 (none, .ld 43 (some 3) (.t 42))
 (.alt 7 (none, .ca (some 44) 120 [.t 37, .t 38, .t 43]) [false, false, false, false, false, false, false]
 (.q 8 (none, .mv 36 (.t 44))
 (.q 9 (none, .ex 45 (.t 36) 0)
 (.q 10 (none, .ex 46 (.t 36) 1)
 (.alt 11 (none, .al 11 [.n .i64 0, .n .i64 0, .n .i64 0, .b false, .n .i64 0, .n .i64 0, .n .i64 0, .nil, .n .i64 0, .n .i64 0, .n .i64 0, .n .i64 0, .nil, .n .i64 0]) [true, true, true, true, true, true, true, true, true, true]
 (.alt 12 (none, .st 14 (.t 11) (.t 45)) [false, false, false, false, false, false, false, false, false, true]
 (.q 13 (none, .mv 12 (.t 46))
 (.done))
 (.stop))
 (.stop)))))
 (.alt 11 (none, .al 11 [.n .i64 0, .n .i64 0, .n .i64 0, .b false, .n .i64 0, .n .i64 0, .n .i64 0, .nil, .n .i64 0, .n .i64 0, .n .i64 0, .n .i64 0, .nil, .n .i64 0]) [true, true, true, true, true, true, true]
 (.alt 7 (none, .ca (some 44) 120 [.t 37, .t 38, .t 43]) [false, false, false, false, false, false, false]
 (.q 8 (none, .mv 36 (.t 44))
 (.q 9 (none, .ex 45 (.t 36) 0)
 (.q 10 (none, .ex 46 (.t 36) 1)
 (.alt 12 (none, .st 14 (.t 11) (.t 45)) [false, false, false, false, false, false, false, false, false, true]
 (.q 13 (none, .mv 12 (.t 46))
 (.done))
 (.stop)))))
 (.stop))
 (.stop)))))))))) [1, 5, 6, 8, 9, 10, 11, 12])
 (.seq (.rg [(none, .mv 47 (.t 8)),
 (none, .mv 48 (.t 12)),
 (none, .ia 49 1 (.t 47) (.t 48)),
 (none, .st 1 (.t 49) (.c (.b true))),
 (none, .kp [1, 5, 6, 8, 9, 10, 11])])
 (.rg [(none, .ld 50 (some 14) (.t 11)),
 (none, .st 14 (.t 9) (.t 50)),
 (none, .kp [1, 5, 6, 8, 9, 10])]))))
 (.rg [(none, .mv 34 (.t 10)),
 (none, .bi 35 .add (.t 34) (.c (.n .i64 1))),
 (none, .mv 10 (.t 35)),
 (none, .kp [1, 5, 6, 8, 9, 10])]))
def pc110 : PC := .seq (.rg [(none, .bx 3 (.t 0)),
 (none, .bx 5 (.t 2)),
 (none, .al 6 [.n .i64 0, .n .i64 0, .n .i64 0, .b false, .n .i64 0, .n .i64 0, .n .i64 0, .nil, .n .i64 0, .n .i64 0, .n .i64 0, .n .i64 0, .nil, .n .i64 0]),
 (none, .mv 7 (.c .nil)),
 (none, .kp [1, 3, 5, 6])])
 (.seq (.rg [(none, .mk 13 1 1 [.b false] (.c (.n .i64 12))),
 (none, .mv 8 (.t 13)),
 (none, .kp [1, 3, 5, 6, 8])])
 (.seq (.rg [(none, .mv 14 (.t 8)),
 (none, .ld 15 (some 4) (.t 5)),
 (none, .ca (some 16) 92 [.t 15]),
 (none, .un 17 .not (.t 16)),
 (none, .ia 18 1 (.t 14) (.c (.n .i64 1))),
 (none, .st 1 (.t 18) (.t 17)),
 (none, .kp [1, 3, 5, 6, 8])])
 (.seq (.dr [[], [], [1], [], [], [], [3, 4, 5], [1, 2, 3, 4, 5, 6], [0, 1, 2, 3, 4, 5, 6, 7], [0, 1, 2, 3, 4, 5, 6, 7, 8]]
 (.q 0 (none, .mv 19 (.t 8))
 (.q 1 (none, .fa 20 2 (.t 5))
 (.q 2 (none, .ld 21 none (.t 20))
 (.q 3 (none, .ld 22 (some 14) (.t 3))
 (.q 4 (none, .mv 23 (.t 1))
 (.q 5 (none, .ld 24 (some 4) (.t 5))
 (.alt 6 (none, .ca (some 25) 119 [.t 22, .t 23, .t 24]) [true, true, true, false, false, false]
 (.q 7 (none, .bi 26 .neq (.t 21) (.t 25))
 (.q 8 (none, .ia 27 1 (.t 19) (.c (.n .i64 2)))
 (.alt 9 (none, .st 1 (.t 27) (.t 26)) [false, false, false, false, false, false, false, false]
 (.done)
 (.stop))))
 (.stop)))))))) [1, 3, 5, 6, 8])
 (.seq (.rg [(none, .ld 28 (some 14) (.t 3)),
 (none, .al 9 [.n .i64 0, .n .i64 0, .n .i64 0, .b false, .n .i64 0, .n .i64 0, .n .i64 0, .nil, .n .i64 0, .n .i64 0, .n .i64 0, .n .i64 0, .nil, .n .i64 0]),
 (none, .st 14 (.t 9) (.t 28)),
 (none, .kp [1, 5, 6, 8, 9])])
 (.seq (.seq (.rg [(none, .mv 10 (.c (.n .i64 0))),
 (none, .kp [1, 5, 6, 8, 9, 10])])
 (.blk 0 (.lp pc110l0)))
 (.seq (.rg [(none, .ld 51 (some 14) (.t 9)),
 (none, .mv 52 (.t 8)),
 (none, .st 14 (.t 6) (.t 51)),
 (none, .mv 7 (.t 52)),
 (none, .kp [6, 7])])
 (.rt)))))))
theorem mr110 : MrT Try.prog 110 pc110 [.c 6 (some 14), .t 7] 53 := fun hn h => spec_of_run (fn := Try.f110) (by kernel_rfl) rfl (by kernel_rfl) (by kernel_rfl) hn h
theorem mk110 : MkT Try.prog 110 pc110 [.c 6 (some 14), .t 7] 53 := mr110.k
theorem mw110 : MwT Try.prog 110 pc110 [.c 6 (some 14), .t 7] 53 := mr110.w
-- 111 spec.InitPut
def pc111 : PC := .seq (.rg [(none, .bx 2 (.t 0)),
 (none, .al 4 [.n .i64 0, .n .i64 0, .s []]),
 (none, .mv 5 (.c (.b false))),
 (none, .kp [1, 2, 4])])
 (.seq (.seq (.rg [(none, .ld 7 (some 4) (.t 2)),
 (none, .ca (some 8) 105 [.t 7]),
 (none, .un 9 .not (.t 8)),
 (none, .kp [1, 2, 4, 9])])
 (.ite (.t 9) (.seq (.rg [(none, .bd 10 [.n .i64 0, .n .i64 0, .s []] []),
 (none, .st 3 (.t 4) (.t 10)),
 (none, .mv 5 (.c (.b false))),
 (none, .kp [4, 5])])
 (.rt))
 (.sk)))
 (.seq (.dr [[], [0], [0, 1], [], [3], [0, 1, 2, 3, 4], [0, 1, 2, 3, 4, 5], [], [7], [0, 1, 2, 3, 4, 5, 7, 8], [0, 1, 2, 3, 4, 5, 6, 7, 8, 9], [], [11], [0, 1, 2, 3, 4, 5, 7, 8, 9, 11, 12], [0, 1, 2, 3, 4, 5, 6, 7, 8, 9, 10, 11, 12, 13], [0, 1, 2, 3, 4, 5, 6, 7, 8, 9, 10, 11, 12, 13, 14], [], [0, 1, 2, 3, 4, 5, 6, 7, 8, 9, 10, 11, 12, 13, 14, 15, 16]]
 (.q 0 (none, .fa 11 0 (.t 2))
 (.q 1 (none, .ld 12 none (.t 11))
 (.q 3 (none, .fa 14 1 (.t 2))
 (.q 4 (none, .ld 15 none (.t 14))
 (.q 7 (none, .fa 18 2 (.t 2))
 (.q 8 (none, .ld 19 none (.t 18))
 (.q 11 (none, .fa 22 3 (.t 2))
 (.q 12 (none, .ld 23 none (.t 22))
 (.alt 2 (none, .ca (some 13) 116 [.t 12]) [false, false, true, true, true, true, true, true]
 (.alt 5 (none, .ca (some 16) 113 [.t 15]) [false, false, false, false, true, true, true, true]
 (.q 6 (none, .bi 17 .add (.t 13) (.t 16))
 (.alt 9 (none, .ca (some 20) 113 [.t 19]) [false, false, false, false, false, false, true, true, true]
 (.q 10 (none, .bi 21 .add (.t 17) (.t 20))
 (.alt 13 (none, .ca (some 24) 113 [.t 23]) [false, false, false, false, false, false, false, false, true, true]
 (.q 14 (none, .bi 25 .add (.t 21) (.t 24))
 (.q 15 (none, .bd 26 [.n .i64 0, .n .i64 0, .s []] [(0, 1, .c (.n .i64 1)), (2, 1, .t 25)])
 (.alt 16 (none, .al 6 [.n .i64 0, .n .i64 0, .s []]) [true, true, true, true, true, true, true, true, true, true, true, true]
 (.alt 17 (none, .st 3 (.t 6) (.t 26)) [false, false, false, false, false, false, false, false, false, false, false, false]
 (.done)
 (.stop))
 (.stop))))
 (.alt 16 (none, .al 6 [.n .i64 0, .n .i64 0, .s []]) [true, true, true, true, true, true, true, true, true, true]
 (.alt 13 (none, .ca (some 24) 113 [.t 23]) [false, false, false, false, false, false, false, false, true, true]
 (.q 14 (none, .bi 25 .add (.t 21) (.t 24))
 (.q 15 (none, .bd 26 [.n .i64 0, .n .i64 0, .s []] [(0, 1, .c (.n .i64 1)), (2, 1, .t 25)])
 (.alt 17 (none, .st 3 (.t 6) (.t 26)) [false, false, false, false, false, false, false, false, false, false, false, false]
 (.done)
 (.stop))))
 (.stop))
 (.stop))))
 (.alt 16 (none, .al 6 [.n .i64 0, .n .i64 0, .s []]) [true, true, true, true, true, true, true, true, true]
 (.alt 9 (none, .ca (some 20) 113 [.t 19]) [false, false, false, false, false, false, true, true, true]
 (.q 10 (none, .bi 21 .add (.t 17) (.t 20))
 (.alt 13 (none, .ca (some 24) 113 [.t 23]) [false, false, false, false, false, false, false, false, true, true]
 (.q 14 (none, .bi 25 .add (.t 21) (.t 24))
 (.q 15 (none, .bd 26 [.n .i64 0, .n .i64 0, .s []] [(0, 1, .c (.n .i64 1)), (2, 1, .t 25)])
 (.alt 17 (none, .st 3 (.t 6) (.t 26)) [false, false, false, false, false, false, false, false, false, false, false, false]
 (.done)
 (.stop))))
 (.stop)))
 (.stop))
 (.stop))))
 (.alt 16 (none, .al 6 [.n .i64 0, .n .i64 0, .s []]) [true, true, true, true, true, true, true, true]
 (.alt 5 (none, .ca (some 16) 113 [.t 15]) [false, false, false, false, true, true, true, true]
 (.q 6 (none, .bi 17 .add (.t 13) (.t 16))
 (.alt 9 (none, .ca (some 20) 113 [.t 19]) [false, false, false, false, false, false, true, true, true]
 (.q 10 (none, .bi 21 .add (.t 17) (.t 20))
 (.alt 13 (none, .ca (some 24) 113 [.t 23]) [false, false, false, false, false, false, false, false, true, true]
 (.q 14 (none, .bi 25 .add (.t 21) (.t 24))
 (.q 15 (none, .bd 26 [.n .i64 0, .n .i64 0, .s []] [(0, 1, .c (.n .i64 1)), (2, 1, .t 25)])
 (.alt 17 (none, .st 3 (.t 6) (.t 26)) [false, false, false, false, false, false, false, false, false, false, false, false]
 (.done)
 (.stop))))
 (.stop)))
 (.stop)))
 (.stop))
 (.stop)))
 (.alt 16 (none, .al 6 [.n .i64 0, .n .i64 0, .s []]) [true, true, true, true, true, true, true, true]
 (.alt 2 (none, .ca (some 13) 116 [.t 12]) [false, false, true, true, true, true, true, true]
 (.alt 5 (none, .ca (some 16) 113 [.t 15]) [false, false, false, false, true, true, true, true]
 (.q 6 (none, .bi 17 .add (.t 13) (.t 16))
 (.alt 9 (none, .ca (some 20) 113 [.t 19]) [false, false, false, false, false, false, true, true, true]
 (.q 10 (none, .bi 21 .add (.t 17) (.t 20))
 (.alt 13 (none, .ca (some 24) 113 [.t 23]) [false, false, false, false, false, false, false, false, true, true]
 (.q 14 (none, .bi 25 .add (.t 21) (.t 24))
 (.q 15 (none, .bd 26 [.n .i64 0, .n .i64 0, .s []] [(0, 1, .c (.n .i64 1)), (2, 1, .t 25)])
 (.alt 17 (none, .st 3 (.t 6) (.t 26)) [false, false, false, false, false, false, false, false, false, false, false, false]
 (.done)
 (.stop))))
 (.stop)))
 (.stop)))
 (.stop))
 (.stop))
 (.stop))))))))))) [1, 4, 6])
 (.seq (.seq (.rg [(none, .mv 27 (.t 1)),
 (none, .kp [4, 6, 27])])
 (.ite (.t 27) (.rg [(none, .fa 28 0 (.t 6)),
 (none, .st 1 (.t 28) (.c (.n .i64 2))),
 (none, .kp [4, 6])])
 (.sk)))
 (.seq (.rg [(none, .ld 29 (some 3) (.t 6)),
 (none, .st 3 (.t 4) (.t 29)),
 (none, .mv 5 (.c (.b true))),
 (none, .kp [4, 5])])
 (.rt)))))
theorem mr111 : MrT Try.prog 111 pc111 [.c 4 (some 3), .t 5] 30 := fun hn h => spec_of_run (fn := Try.f111) (by kernel_rfl) rfl (by kernel_rfl) (by kernel_rfl) hn h
theorem mk111 : MkT Try.prog 111 pc111 [.c 4 (some 3), .t 5] 30 := mr111.k
theorem mw111 : MwT Try.prog 111 pc111 [.c 4 (some 3), .t 5] 30 := mr111.w
-- 112 spec.l12Bit
def pc112 : PC := .seq (.rg [(none, .mv 4 (.c (.n .i64 0))),
 (none, .kp [0, 1])])
 (.seq (.seq (.rg [(none, .mv 5 (.t 0)),
 (none, .kp [1, 5])])
 (.ite (.t 5) (.seq (.rg [(none, .mv 6 (.t 1)),
 (none, .mv 4 (.t 6)),
 (none, .kp [4])])
 (.rt))
 (.sk)))
 (.seq (.rg [(none, .mv 4 (.c (.n .i64 0))),
 (none, .kp [4])])
 (.rt)))
theorem mr112 : MrT Try.prog 112 pc112 [.t 4] 7 := fun hn h => spec_of_run (fn := Try.f112) (by kernel_rfl) rfl (by kernel_rfl) (by kernel_rfl) hn h
theorem mk112 : MkT Try.prog 112 pc112 [.t 4] 7 := mr112.k
theorem mw112 : MwT Try.prog 112 pc112 [.t 4] 7 := mr112.w
-- 113 spec.l1Word
def pc113 : PC := .seq (.rg [(none, .mv 2 (.c (.s []))),
 (none, .kp [0])])
 (.seq (.rg [(none, .mv 3 (.t 0)),
 (none, .bi 4 .quo (.t 3) (.c (.n .i64 256))),
 (none, .cv 5 .u8 (.t 4)),
 (none, .mv 6 (.t 0)),
 (none, .bi 7 .rem (.t 6) (.c (.n .i64 256))),
 (none, .cv 8 .u8 (.t 7)),
 (none, .bs 9 1 2 [.n .u8 0] [(0, .t 5), (1, .t 8)]),
 (none, .cs 10 (.t 9)),
 (none, .mv 2 (.t 10)),
 (none, .kp [2])])
 (.rt))
theorem mr113 : MrT Try.prog 113 pc113 [.t 2] 11 := fun hn h => spec_of_run (fn := Try.f113) (by kernel_rfl) rfl (by kernel_rfl) (by kernel_rfl) hn h
theorem mk113 : MkT Try.prog 113 pc113 [.t 2] 11 := mr113.k
theorem mw113 : MwT Try.prog 113 pc113 [.t 2] 11 := mr113.w
-- 114 spec.l12Sack
def pc114l0 : PC := .seq (.seq (.rg [(none, .mv 6 (.t 4)),
 (none, .fa 7 1 (.t 1)),
 (none, .ld 8 none (.t 7)),
 (none, .ln 9 (.t 8)),
 (none, .bi 10 .lss (.t 6) (.t 9)),
 (none, .kp [1, 3, 4, 10])])
 (.ite (.t 10) (.sk)
 (.ex 0)))
 (.seq (.blk 1 (.seq (.rg [(none, .fa 13 1 (.t 1)),
 (none, .ld 14 none (.t 13)),
 (none, .mv 15 (.t 4)),
 (none, .ia 16 2 (.t 14) (.t 15)),
 (none, .ld 17 (some 2) (.t 16)),
 (none, .al 5 [.n .i64 0, .n .i64 0]),
 (none, .st 2 (.t 5) (.t 17)),
 (none, .kp [1, 3, 4, 5])])
 (.seq (.seq (.rg [(none, .fa 18 0 (.t 5)),
 (none, .ld 19 none (.t 18)),
 (none, .mv 20 (.t 3)),
 (none, .bi 21 .add (.t 20) (.c (.n .i64 2))),
 (none, .bi 22 .lss (.t 19) (.t 21)),
 (none, .mv 23 (.t 22)),
 (some (23, false), .fa 24 1 (.t 5)),
 (some (23, false), .ld 25 none (.t 24)),
 (some (23, false), .fa 26 0 (.t 5)),
 (some (23, false), .ld 27 none (.t 26)),
 (some (23, false), .bi 28 .lss (.t 25) (.t 27)),
 (none, .pk 29 (.t 23) (.c (.b true)) (.t 28)),
 (none, .mv 30 (.t 29)),
 (some (30, false), .fa 31 1 (.t 5)),
 (some (30, false), .ld 32 none (.t 31)),
 (some (30, false), .bi 33 .gtr (.t 32) (.c (.n .i64 16))),
 (none, .pk 34 (.t 30) (.c (.b true)) (.t 33)),
 (none, .kp [1, 4, 5, 34])])
 (.ite (.t 34) (.seq (.rg [(none, .mv 2 (.c (.b false))),
 (none, .kp [2])])
 (.rt))
 (.sk)))
 (.rg [(none, .fa 35 1 (.t 5)),
 (none, .ld 36 none (.t 35)),
 (none, .mv 3 (.t 36)),
 (none, .kp [1, 3, 4])]))))
 (.rg [(none, .mv 11 (.t 4)),
 (none, .bi 12 .add (.t 11) (.c (.n .i64 1))),
 (none, .mv 4 (.t 12)),
 (none, .kp [1, 3, 4])]))
def pc114 : PC := .seq (.rg [(none, .bx 1 (.t 0)),
 (none, .mv 2 (.c (.b false))),
 (none, .kp [1])])
 (.seq (.rg [(none, .mv 3 (.c (.n .i64 0))),
 (none, .kp [1, 3])])
 (.seq (.seq (.rg [(none, .mv 4 (.c (.n .i64 0))),
 (none, .kp [1, 3, 4])])
 (.blk 0 (.lp pc114l0)))
 (.seq (.rg [(none, .fa 37 0 (.t 1)),
 (none, .ld 38 none (.t 37)),
 (none, .ca (some 39) 46 [.t 38]),
 (none, .mv 40 (.t 39)),
 (some (40, true), .fa 41 1 (.t 1)),
 (some (40, true), .ld 42 none (.t 41)),
 (some (40, true), .ln 43 (.t 42)),
 (some (40, true), .bi 44 .leq (.t 43) (.c (.n .i64 8))),
 (none, .pk 45 (.t 40) (.t 44) (.c (.b false))),
 (none, .mv 2 (.t 45)),
 (none, .kp [2])])
 (.rt))))
theorem mr114 : MrT Try.prog 114 pc114 [.t 2] 46 := fun hn h => spec_of_run (fn := Try.f114) (by kernel_rfl) rfl (by kernel_rfl) (by kernel_rfl) hn h
theorem mk114 : MkT Try.prog 114 pc114 [.t 2] 46 := mr114.k
theorem mw114 : MwT Try.prog 114 pc114 [.t 2] 46 := mr114.w
-- 115 spec.ChunkValid
def pc115 : PC := .seq (.rg [(none, .bx 1 (.t 0)),
 (none, .mv 2 (.c (.b false))),
 (none, .kp [1])])
 (.seq (.rg [(none, .fa 3 0 (.t 1)),
 (none, .ld 4 none (.t 3)),
 (none, .ca (some 5) 45 [.t 4, .c (.n .i64 0), .c (.n .i64 255)]),
 (none, .mv 6 (.t 5)),
 (some (6, true), .fa 7 1 (.t 1)),
 (some (6, true), .ld 8 none (.t 7)),
 (some (6, true), .ca (some 9) 45 [.t 8, .c (.n .i64 0), .c (.n .i64 255)]),
 (none, .pk 10 (.t 6) (.t 9) (.c (.b false))),
 (none, .mv 11 (.t 10)),
 (some (11, true), .fa 12 2 (.t 1)),
 (some (11, true), .ld 13 none (.t 12)),
 (some (11, true), .lS 14 (.t 13)),
 (some (11, true), .bi 15 .leq (.t 14) (.c (.n .i64 60))),
 (none, .pk 16 (.t 11) (.t 15) (.c (.b false))),
 (none, .mv 2 (.t 16)),
 (none, .kp [2])])
 (.rt))
theorem mr115 : MrT Try.prog 115 pc115 [.t 2] 17 := fun hn h => spec_of_run (fn := Try.f115) (by kernel_rfl) rfl (by kernel_rfl) (by kernel_rfl) hn h
theorem mk115 : MkT Try.prog 115 pc115 [.t 2] 17 := mr115.k
theorem mw115 : MwT Try.prog 115 pc115 [.t 2] 17 := mr115.w
-- 116 spec.l1Long
def pc116 : PC := .seq (.rg [(none, .mv 2 (.c (.s []))),
 (none, .kp [0])])
 (.seq (.rg [(none, .mv 3 (.t 0)),
 (none, .bi 4 .quo (.t 3) (.c (.n .i64 65536))),
 (none, .ca (some 5) 113 [.t 4]),
 (none, .mv 6 (.t 0)),
 (none, .bi 7 .rem (.t 6) (.c (.n .i64 65536))),
 (none, .ca (some 8) 113 [.t 7]),
 (none, .bi 9 .add (.t 5) (.t 8)),
 (none, .mv 2 (.t 9)),
 (none, .kp [2])])
 (.rt))
theorem mr116 : MrT Try.prog 116 pc116 [.t 2] 10 := fun hn h => spec_of_run (fn := Try.f116) (by kernel_rfl) rfl (by kernel_rfl) (by kernel_rfl) hn h
theorem mk116 : MkT Try.prog 116 pc116 [.t 2] 10 := mr116.k
theorem mw116 : MwT Try.prog 116 pc116 [.t 2] 10 := mr116.w
-- 117 spec.l11Put
def pc117l0 : PC := .seq (.seq (.rg [(none, .mv 21 (.t 3)),
 (none, .lS 22 (.t 21)),
 (none, .bi 23 .rem (.t 22) (.c (.n .i64 4))),
 (none, .bi 24 .neq (.t 23) (.c (.n .i64 0))),
 (none, .kp [3, 24])])
 (.ite (.t 24) (.sk)
 (.ex 0)))
 (.blk 1 (.rg [(none, .mv 25 (.t 3)),
 (none, .bi 26 .add (.t 25) (.c (.s [0]))),
 (none, .mv 3 (.t 26)),
 (none, .kp [3])]))
def pc117 : PC := .seq (.rg [(none, .bx 1 (.t 0)),
 (none, .mv 2 (.c (.s []))),
 (none, .kp [1])])
 (.seq (.dr [[], [0], [0, 1], [], [3], [3, 4], [0, 1, 2, 3, 4, 5], [0, 1, 2, 3, 4, 5, 6], [], [8], [8, 9], [8, 9, 10], [8, 9, 10, 11], [0, 1, 2, 3, 4, 5, 6, 7, 8, 9, 10, 11, 12], [], [14], [0, 1, 2, 3, 4, 5, 6, 7, 8, 9, 10, 11, 12, 13, 14, 15], [0, 1, 2, 3, 4, 5, 6, 7, 8, 9, 10, 11, 12, 13, 14, 15, 16]]
 (.q 0 (none, .fa 4 0 (.t 1))
 (.q 1 (none, .ld 5 none (.t 4))
 (.q 2 (none, .cv 6 .u8 (.t 5))
 (.q 3 (none, .fa 7 1 (.t 1))
 (.q 4 (none, .ld 8 none (.t 7))
 (.q 5 (none, .cv 9 .u8 (.t 8))
 (.q 8 (none, .fa 12 2 (.t 1))
 (.q 9 (none, .ld 13 none (.t 12))
 (.q 10 (none, .lS 14 (.t 13))
 (.q 11 (none, .bi 15 .add (.c (.n .i64 4)) (.t 14))
 (.q 14 (none, .fa 18 2 (.t 1))
 (.q 15 (none, .ld 19 none (.t 18))
 (.alt 6 (none, .bs 10 1 2 [.n .u8 0] [(0, .t 6), (1, .t 9)]) [false, false, false, false, false, false, true, true, true, true, true, true]
 (.q 7 (none, .cs 11 (.t 10))
 (.alt 12 (none, .ca (some 16) 113 [.t 15]) [true, true, true, true, true, true, false, false, false, false, true, true, true]
 (.q 13 (none, .bi 17 .add (.t 11) (.t 16))
 (.q 16 (none, .bi 20 .add (.t 17) (.t 19))
 (.q 17 (none, .mv 3 (.t 20))
 (.done))))
 (.stop)))
 (.alt 12 (none, .ca (some 16) 113 [.t 15]) [true, true, true, true, true, true, false, false, false, false, true, true]
 (.alt 6 (none, .bs 10 1 2 [.n .u8 0] [(0, .t 6), (1, .t 9)]) [false, false, false, false, false, false, true, true, true, true, true, true]
 (.q 7 (none, .cs 11 (.t 10))
 (.q 13 (none, .bi 17 .add (.t 11) (.t 16))
 (.q 16 (none, .bi 20 .add (.t 17) (.t 19))
 (.q 17 (none, .mv 3 (.t 20))
 (.done)))))
 (.stop))
 (.stop))))))))))))))) [3])
 (.seq (.blk 0 (.lp pc117l0))
 (.seq (.rg [(none, .mv 27 (.t 3)),
 (none, .mv 2 (.t 27)),
 (none, .kp [2])])
 (.rt))))
theorem mr117 : MrT Try.prog 117 pc117 [.t 2] 28 := fun hn h => spec_of_run (fn := Try.f117) (by kernel_rfl) rfl (by kernel_rfl) (by kernel_rfl) hn h
theorem mk117 : MkT Try.prog 117 pc117 [.t 2] 28 := mr117.k
theorem mw117 : MwT Try.prog 117 pc117 [.t 2] 28 := mr117.w
-- 118 spec.l2Next
def pc118l0 : PC := .seq (.seq (.rg [(none, .mv 12 (.t 7)),
 (none, .mv 13 (.t 1)),
 (none, .lS 14 (.t 13)),
 (none, .bi 15 .lss (.t 12) (.t 14)),
 (none, .kp [1, 5, 6, 7, 15])])
 (.ite (.t 15) (.sk)
 (.ex 0)))
 (.seq (.blk 1 (.seq (.rg [(none, .mv 18 (.t 5)),
 (none, .mv 19 (.t 1)),
 (none, .mv 20 (.t 7)),
 (none, .ix 21 (.t 19) (.t 20)),
 (none, .cv 22 .i64 (.t 21)),
 (none, .bi 23 .add (.t 18) (.t 22)),
 (none, .bi 24 .rem (.t 23) (.c (.n .i64 65521))),
 (none, .mv 5 (.t 24)),
 (none, .kp [1, 5, 6, 7])])
 (.rg [(none, .mv 25 (.t 6)),
 (none, .mv 26 (.t 5)),
 (none, .bi 27 .add (.t 25) (.t 26)),
 (none, .bi 28 .rem (.t 27) (.c (.n .i64 65521))),
 (none, .mv 6 (.t 28)),
 (none, .kp [1, 5, 6, 7])])))
 (.rg [(none, .mv 16 (.t 7)),
 (none, .bi 17 .add (.t 16) (.c (.n .i64 1))),
 (none, .mv 7 (.t 17)),
 (none, .kp [1, 5, 6, 7])]))
def pc118 : PC := .seq (.rg [(none, .mv 4 (.c (.n .i64 0))),
 (none, .kp [0, 1])])
 (.seq (.rg [(none, .mv 8 (.t 0)),
 (none, .bi 9 .rem (.t 8) (.c (.n .i64 65536))),
 (none, .mv 5 (.t 9)),
 (none, .kp [0, 1, 5])])
 (.seq (.rg [(none, .mv 10 (.t 0)),
 (none, .bi 11 .quo (.t 10) (.c (.n .i64 65536))),
 (none, .mv 6 (.t 11)),
 (none, .kp [1, 5, 6])])
 (.seq (.seq (.rg [(none, .mv 7 (.c (.n .i64 0))),
 (none, .kp [1, 5, 6, 7])])
 (.blk 0 (.lp pc118l0)))
 (.seq (.rg [(none, .mv 29 (.t 6)),
 (none, .bi 30 .mul (.c (.n .i64 65536)) (.t 29)),
 (none, .mv 31 (.t 5)),
 (none, .bi 32 .add (.t 30) (.t 31)),
 (none, .mv 4 (.t 32)),
 (none, .kp [4])])
 (.rt)))))
theorem mr118 : MrT Try.prog 118 pc118 [.t 4] 33 := fun hn h => spec_of_run (fn := Try.f118) (by kernel_rfl) rfl (by kernel_rfl) (by kernel_rfl) hn h
theorem mk118 : MkT Try.prog 118 pc118 [.t 4] 33 := mr118.k
theorem mw118 : MwT Try.prog 118 pc118 [.t 4] 33 := mr118.w
-- 119 spec.l31Tag
def pc119l0 : PC := .seq (.seq (.rg [(none, .mv 10 (.t 7)),
 (none, .fa 11 3 (.t 5)),
 (none, .ld 12 none (.t 11)),
 (none, .ln 13 (.t 12)),
 (none, .bi 14 .lss (.t 10) (.t 13)),
 (none, .kp [1, 3, 5, 7, 14])])
 (.ite (.t 14) (.sk)
 (.ex 0)))
 (.seq (.blk 1 (.seq (.rg [(none, .fa 17 3 (.t 5)),
 (none, .ld 18 none (.t 17)),
 (none, .mv 19 (.t 7)),
 (none, .ia 20 3 (.t 18) (.t 19)),
 (none, .fa 21 0 (.t 20)),
 (none, .ld 22 none (.t 21)),
 (none, .bi 23 .eql (.t 22) (.c (.n .i64 1))),
 (none, .kp [1, 3, 5, 7, 23])])
 (.ite (.t 23) (.seq (.rg [(none, .mv 6 (.c (.n .i64 0))),
 (none, .kp [6])])
 (.rt))
 (.sk))))
 (.rg [(none, .mv 15 (.t 7)),
 (none, .bi 16 .add (.t 15) (.c (.n .i64 1))),
 (none, .mv 7 (.t 16)),
 (none, .kp [1, 3, 5, 7])]))
def pc119 : PC := .seq (.rg [(none, .bx 3 (.t 0)),
 (none, .bx 5 (.t 2)),
 (none, .mv 6 (.c (.n .i64 0))),
 (none, .kp [1, 3, 5])])
 (.seq (.seq (.rg [(none, .mv 7 (.c (.n .i64 0))),
 (none, .kp [1, 3, 5, 7])])
 (.blk 0 (.lp pc119l0)))
 (.seq (.rg [(none, .ld 25 (some 14) (.t 3)),
 (none, .mv 26 (.t 1)),
 (none, .ca (some 27) 121 [.t 25, .t 26]),
 (none, .mv 24 (.t 27)),
 (none, .ex 28 (.t 24) 0),
 (none, .ex 29 (.t 24) 1),
 (none, .al 8 [.n .i64 0, .n .i64 0, .n .i64 0, .nil, .n .i64 0]),
 (none, .al 9 [.n .i64 0, .n .i64 0, .n .i64 0, .nil, .n .i64 0]),
 (none, .st 5 (.t 8) (.t 28)),
 (none, .st 5 (.t 9) (.t 29)),
 (none, .kp [9])])
 (.seq (.rg [(none, .fa 30 0 (.t 9)),
 (none, .ld 31 none (.t 30)),
 (none, .mv 6 (.t 31)),
 (none, .kp [6])])
 (.rt))))
theorem mr119 : MrT Try.prog 119 pc119 [.t 6] 32 := fun hn h => spec_of_run (fn := Try.f119) (by kernel_rfl) rfl (by kernel_rfl) (by kernel_rfl) hn h
theorem mk119 : MkT Try.prog 119 pc119 [.t 6] 32 := mr119.k
theorem mw119 : MwT Try.prog 119 pc119 [.t 6] 32 := mr119.w
-- 120 spec.l31Chunk
def pc120 : PC := .seq (.rg [(none, .bx 3 (.t 0)),
 (none, .bx 5 (.t 2)),
 (none, .al 6 [.n .i64 0, .n .i64 0, .n .i64 0, .b false, .n .i64 0, .n .i64 0, .n .i64 0, .nil, .n .i64 0, .n .i64 0, .n .i64 0, .n .i64 0, .nil, .n .i64 0]),
 (none, .mv 7 (.c (.n .i64 0))),
 (none, .kp [1, 3, 5, 6])])
 (.seq (.seq (.rg [(none, .fa 8 0 (.t 5)),
 (none, .ld 9 none (.t 8)),
 (none, .kp [1, 3, 5, 6, 9])])
 (.blk 0 (.seq (.seq (.rg [(none, .bi 11 .eql (.t 9) (.c (.n .i64 1))),
 (none, .mv 10 (.t 11)),
 (none, .kp [1, 3, 5, 6, 9, 10])])
 (.ite (.t 10) (.sk)
 (.rg [(none, .bi 12 .eql (.t 9) (.c (.n .i64 2))),
 (none, .mv 10 (.t 12)),
 (none, .kp [1, 3, 5, 6, 9, 10])])))
 (.ite (.t 10) (.seq (.rg [(none, .ld 13 (some 14) (.t 3)),
 (none, .mv 14 (.t 1)),
 (none, .ld 15 (some 3) (.t 5)),
 (none, .ca (some 16) 122 [.t 13, .t 14, .t 15]),
 (none, .ex 17 (.t 16) 0),
 (none, .ex 18 (.t 16) 1),
 (none, .st 14 (.t 6) (.t 17)),
 (none, .mv 7 (.t 18)),
 (none, .kp [6, 7])])
 (.rt))
 (.seq (.rg [(none, .bi 20 .eql (.t 9) (.c (.n .i64 0))),
 (none, .mv 19 (.t 20)),
 (none, .kp [1, 3, 5, 6, 9, 19])])
 (.ite (.t 19) (.seq (.rg [(none, .ld 21 (some 14) (.t 3)),
 (none, .mv 22 (.t 1)),
 (none, .ld 23 (some 3) (.t 5)),
 (none, .ca (some 24) 123 [.t 21, .t 22, .t 23]),
 (none, .ex 25 (.t 24) 0),
 (none, .ex 26 (.t 24) 1),
 (none, .st 14 (.t 6) (.t 25)),
 (none, .mv 7 (.t 26)),
 (none, .kp [6, 7])])
 (.rt))
 (.seq (.rg [(none, .bi 28 .eql (.t 9) (.c (.n .i64 3))),
 (none, .mv 27 (.t 28)),
 (none, .kp [1, 3, 5, 6, 9, 27])])
 (.ite (.t 27) (.seq (.rg [(none, .ld 29 (some 14) (.t 3)),
 (none, .mv 30 (.t 1)),
 (none, .ld 31 (some 3) (.t 5)),
 (none, .ca (some 32) 124 [.t 29, .t 30, .t 31]),
 (none, .ex 33 (.t 32) 0),
 (none, .ex 34 (.t 32) 1),
 (none, .st 14 (.t 6) (.t 33)),
 (none, .mv 7 (.t 34)),
 (none, .kp [6, 7])])
 (.rt))
 (.seq (.seq (.rg [(none, .bi 36 .eql (.t 9) (.c (.n .i64 6))),
 (none, .mv 35 (.t 36)),
 (none, .kp [1, 3, 5, 6, 9, 35])])
 (.ite (.t 35) (.sk)
 (.seq (.rg [(none, .bi 37 .eql (.t 9) (.c (.n .i64 7))),
 (none, .mv 35 (.t 37)),
 (none, .kp [1, 3, 5, 6, 9, 35])])
 (.ite (.t 35) (.sk)
 (.seq (.rg [(none, .bi 38 .eql (.t 9) (.c (.n .i64 8))),
 (none, .mv 35 (.t 38)),
 (none, .kp [1, 3, 5, 6, 9, 35])])
 (.ite (.t 35) (.sk)
 (.rg [(none, .bi 39 .eql (.t 9) (.c (.n .i64 14))),
 (none, .mv 35 (.t 39)),
 (none, .kp [1, 3, 5, 6, 35])])))))))
 (.ite (.t 35) (.seq (.rg [(none, .ld 40 (some 14) (.t 3)),
 (none, .mv 41 (.t 1)),
 (none, .fa 42 0 (.t 5)),
 (none, .ld 43 none (.t 42)),
 (none, .ca (some 44) 125 [.t 40, .t 41, .t 43]),
 (none, .ex 45 (.t 44) 0),
 (none, .ex 46 (.t 44) 1),
 (none, .st 14 (.t 6) (.t 45)),
 (none, .mv 7 (.t 46)),
 (none, .kp [6, 7])])
 (.rt))
 (.sk)))))))))))
 (.seq (.rg [(none, .ld 47 (some 14) (.t 3)),
 (none, .mv 48 (.t 1)),
 (none, .fa 49 0 (.t 5)),
 (none, .ld 50 none (.t 49)),
 (none, .ca (some 51) 126 [.t 47, .t 48, .t 50]),
 (none, .ex 52 (.t 51) 0),
 (none, .ex 53 (.t 51) 1),
 (none, .st 14 (.t 6) (.t 52)),
 (none, .mv 7 (.t 53)),
 (none, .kp [6, 7])])
 (.rt)))
theorem mr120 : MrT Try.prog 120 pc120 [.c 6 (some 14), .t 7] 54 := fun hn h => spec_of_run (fn := Try.f120) (by kernel_rfl) rfl (by kernel_rfl) (by kernel_rfl) hn h
theorem mk120 : MkT Try.prog 120 pc120 [.c 6 (some 14), .t 7] 54 := mr120.k
theorem mw120 : MwT Try.prog 120 pc120 [.c 6 (some 14), .t 7] 54 := mr120.w
-- 121 spec.l31Side
def pc121 : PC := .seq (.rg [(none, .bx 2 (.t 0)),
 (none, .al 4 [.n .i64 0, .n .i64 0, .n .i64 0, .nil, .n .i64 0]),
 (none, .al 5 [.n .i64 0, .n .i64 0, .n .i64 0, .nil, .n .i64 0]),
 (none, .kp [1, 2, 4, 5])])
 (.seq (.seq (.rg [(none, .mv 6 (.t 1)),
 (none, .kp [2, 4, 5, 6])])
 (.ite (.t 6) (.seq (.dr [[], [0], [], [2], [0, 1], [0, 1, 2, 3, 4]]
 (.q 0 (none, .fa 7 9 (.t 2))
 (.q 1 (none, .ld 8 (some 5) (.t 7))
 (.q 2 (none, .fa 9 4 (.t 2))
 (.q 3 (none, .ld 10 (some 5) (.t 9))
 (.alt 4 (none, .st 5 (.t 4) (.t 8)) [false, false, true, true]
 (.alt 5 (none, .st 5 (.t 5) (.t 10)) [false, false, false, false]
 (.done)
 (.stop))
 (.stop)))))) [4, 5])
 (.rt))
 (.sk)))
 (.seq (.dr [[], [0], [], [2], [0, 1], [0, 1, 2, 3, 4]]
 (.q 0 (none, .fa 11 4 (.t 2))
 (.q 1 (none, .ld 12 (some 5) (.t 11))
 (.q 2 (none, .fa 13 9 (.t 2))
 (.q 3 (none, .ld 14 (some 5) (.t 13))
 (.alt 4 (none, .st 5 (.t 4) (.t 12)) [false, false, true, true]
 (.alt 5 (none, .st 5 (.t 5) (.t 14)) [false, false, false, false]
 (.done)
 (.stop))
 (.stop)))))) [4, 5])
 (.rt)))
theorem mr121 : MrT Try.prog 121 pc121 [.c 4 (some 5), .c 5 (some 5)] 15 := fun hn h => spec_of_run (fn := Try.f121) (by kernel_rfl) rfl (by kernel_rfl) (by kernel_rfl) hn h
theorem mk121 : MkT Try.prog 121 pc121 [.c 4 (some 5), .c 5 (some 5)] 15 := mr121.k
theorem mw121 : MwT Try.prog 121 pc121 [.c 4 (some 5), .c 5 (some 5)] 15 := mr121.w
-- 122 spec.l31Init
def pc122 : PC := .seq (.rg [(none, .bx 3 (.t 0)),
 (none, .bx 5 (.t 2)),
 (none, .al 6 [.n .i64 0, .n .i64 0, .n .i64 0, .b false, .n .i64 0, .n .i64 0, .n .i64 0, .nil, .n .i64 0, .n .i64 0, .n .i64 0, .n .i64 0, .nil, .n .i64 0]),
 (none, .mv 7 (.c (.n .i64 0))),
 (none, .kp [1, 3, 5, 6])])
 (.seq (.rg [(none, .ld 15 (some 3) (.t 5)),
 (none, .ca (some 16) 93 [.t 15]),
 (none, .mv 14 (.t 16)),
 (none, .ex 17 (.t 14) 0),
 (none, .ex 18 (.t 14) 1),
 (none, .al 8 [.n .i64 0, .n .i64 0, .n .i64 0, .n .i64 0]),
 (none, .st 4 (.t 8) (.t 17)),
 (none, .mv 9 (.t 18)),
 (none, .kp [1, 3, 5, 6, 8, 9])])
 (.seq (.rg [(none, .fa 19 2 (.t 3)),
 (none, .ld 20 none (.t 19)),
 (none, .bi 21 .eql (.t 20) (.c (.n .i64 0))),
 (none, .mv 22 (.t 21)),
 (some (22, true), .mv 23 (.t 1)),
 (some (22, true), .un 24 .not (.t 23)),
 (none, .pk 25 (.t 22) (.t 24) (.c (.b false))),
 (none, .mv 26 (.t 25)),
 (some (26, true), .fa 27 0 (.t 5)),
 (some (26, true), .ld 28 none (.t 27)),
 (some (26, true), .bi 29 .eql (.t 28) (.c (.n .i64 1))),
 (none, .pk 30 (.t 26) (.t 29) (.c (.b false))),
 (none, .mv 31 (.t 30)),
 (some (31, false), .fa 32 2 (.t 3)),
 (some (31, false), .ld 33 none (.t 32)),
 (some (31, false), .bi 34 .eql (.t 33) (.c (.n .i64 1))),
 (some (31, false), .mv 35 (.t 34)),
 (some (35, true), .mv 36 (.t 1)),
 (some (31, false), .pk 37 (.t 35) (.t 36) (.c (.b false))),
 (some (31, false), .mv 38 (.t 37)),
 (some (38, true), .fa 39 0 (.t 5)),
 (some (38, true), .ld 40 none (.t 39)),
 (some (38, true), .bi 41 .eql (.t 40) (.c (.n .i64 2))),
 (some (31, false), .pk 42 (.t 38) (.t 41) (.c (.b false))),
 (none, .pk 43 (.t 31) (.c (.b true)) (.t 42)),
 (none, .mv 10 (.t 43)),
 (none, .kp [1, 3, 5, 6, 8, 9, 10])])
 (.seq (.rg [(none, .fa 44 2 (.t 3)),
 (none, .ld 45 none (.t 44)),
 (none, .ca (some 46) 45 [.t 45, .c (.n .i64 1), .c (.n .i64 2)]),
 (none, .mv 47 (.t 46)),
 (some (47, true), .mv 48 (.t 1)),
 (some (47, true), .un 49 .not (.t 48)),
 (none, .pk 50 (.t 47) (.t 49) (.c (.b false))),
 (none, .mv 51 (.t 50)),
 (some (51, true), .fa 52 0 (.t 5)),
 (some (51, true), .ld 53 none (.t 52)),
 (some (51, true), .bi 54 .eql (.t 53) (.c (.n .i64 1))),
 (none, .pk 55 (.t 51) (.t 54) (.c (.b false))),
 (none, .mv 56 (.t 55)),
 (some (56, false), .fa 57 2 (.t 3)),
 (some (56, false), .ld 58 none (.t 57)),
 (some (56, false), .bi 59 .eql (.t 58) (.c (.n .i64 2))),
 (some (56, false), .mv 60 (.t 59)),
 (some (60, true), .mv 61 (.t 1)),
 (some (56, false), .pk 62 (.t 60) (.t 61) (.c (.b false))),
 (some (56, false), .mv 63 (.t 62)),
 (some (63, true), .fa 64 0 (.t 5)),
 (some (63, true), .ld 65 none (.t 64)),
 (some (63, true), .bi 66 .eql (.t 65) (.c (.n .i64 2))),
 (some (56, false), .pk 67 (.t 63) (.t 66) (.c (.b false))),
 (none, .pk 68 (.t 56) (.c (.b true)) (.t 67)),
 (none, .mv 11 (.t 68)),
 (none, .kp [1, 3, 6, 8, 9, 10, 11])])
 (.seq (.rg [(none, .ld 70 (some 14) (.t 3)),
 (none, .mv 71 (.t 1)),
 (none, .ca (some 72) 121 [.t 70, .t 71]),
 (none, .mv 69 (.t 72)),
 (none, .ex 73 (.t 69) 0),
 (none, .ex 74 (.t 69) 1),
 (none, .al 12 [.n .i64 0, .n .i64 0, .n .i64 0, .nil, .n .i64 0]),
 (none, .al 13 [.n .i64 0, .n .i64 0, .n .i64 0, .nil, .n .i64 0]),
 (none, .st 5 (.t 12) (.t 73)),
 (none, .st 5 (.t 13) (.t 74)),
 (none, .kp [1, 3, 6, 8, 9, 10, 11, 12])])
 (.seq (.blk 0 (.seq (.rg [(none, .mv 76 (.t 10)),
 (none, .un 77 .not (.t 76)),
 (none, .mv 78 (.t 77)),
 (some (78, true), .mv 79 (.t 11)),
 (some (78, true), .un 80 .not (.t 79)),
 (none, .pk 81 (.t 78) (.t 80) (.c (.b false))),
 (none, .mv 75 (.t 81)),
 (none, .kp [1, 3, 6, 8, 9, 11, 12, 75])])
 (.ite (.t 75) (.seq (.rg [(none, .ld 82 (some 14) (.t 3)),
 (none, .st 14 (.t 6) (.t 82)),
 (none, .mv 7 (.c (.n .i64 3))),
 (none, .kp [6, 7])])
 (.rt))
 (.seq (.rg [(none, .mv 84 (.t 9)),
 (none, .un 85 .not (.t 84)),
 (none, .mv 83 (.t 85)),
 (none, .kp [1, 3, 6, 8, 11, 12, 83])])
 (.ite (.t 83) (.seq (.rg [(none, .ld 86 (some 14) (.t 3)),
 (none, .st 14 (.t 6) (.t 86)),
 (none, .mv 7 (.c (.n .i64 4))),
 (none, .kp [6, 7])])
 (.rt))
 (.seq (.rg [(none, .mv 88 (.t 11)),
 (none, .mv 89 (.t 88)),
 (some (89, true), .fa 90 0 (.t 8)),
 (some (89, true), .ld 91 none (.t 90)),
 (some (89, true), .fa 92 0 (.t 12)),
 (some (89, true), .ld 93 none (.t 92)),
 (some (89, true), .bi 94 .neq (.t 91) (.t 93)),
 (some (89, true), .mv 95 (.t 94)),
 (some (95, false), .fa 96 2 (.t 8)),
 (some (95, false), .ld 97 none (.t 96)),
 (some (95, false), .fa 98 1 (.t 12)),
 (some (95, false), .ld 99 none (.t 98)),
 (some (95, false), .bi 100 .neq (.t 97) (.t 99)),
 (some (89, true), .pk 101 (.t 95) (.c (.b true)) (.t 100)),
 (some (89, true), .mv 102 (.t 101)),
 (some (102, false), .fa 103 3 (.t 8)),
 (some (102, false), .ld 104 none (.t 103)),
 (some (102, false), .fa 105 2 (.t 12)),
 (some (102, false), .ld 106 none (.t 105)),
 (some (102, false), .bi 107 .neq (.t 104) (.t 106)),
 (some (89, true), .pk 108 (.t 102) (.c (.b true)) (.t 107)),
 (none, .pk 109 (.t 89) (.t 108) (.c (.b false))),
 (none, .mv 87 (.t 109)),
 (none, .kp [1, 3, 6, 8, 11, 87])])
 (.ite (.t 87) (.seq (.rg [(none, .ld 110 (some 14) (.t 3)),
 (none, .st 14 (.t 6) (.t 110)),
 (none, .mv 7 (.c (.n .i64 7))),
 (none, .kp [6, 7])])
 (.rt))
 (.seq (.rg [(none, .mv 112 (.t 11)),
 (none, .mv 111 (.t 112)),
 (none, .kp [1, 3, 6, 8, 111])])
 (.ite (.t 111) (.seq (.rg [(none, .ld 113 (some 14) (.t 3)),
 (none, .st 14 (.t 6) (.t 113)),
 (none, .mv 7 (.c (.n .i64 0))),
 (none, .kp [6, 7])])
 (.rt))
 (.sk))))))))))
 (.seq (.rg [(none, .fa 114 2 (.t 3)),
 (none, .ld 115 none (.t 114)),
 (none, .bi 116 .add (.t 115) (.c (.n .i64 1))),
 (none, .fa 117 2 (.t 3)),
 (none, .st 1 (.t 117) (.t 116)),
 (none, .kp [1, 3, 6, 8])])
 (.seq (.rg [(none, .ld 118 (some 14) (.t 3)),
 (none, .mv 119 (.t 1)),
 (none, .fa 120 0 (.t 8)),
 (none, .ld 121 none (.t 120)),
 (none, .fa 122 2 (.t 8)),
 (none, .ld 123 none (.t 122)),
 (none, .fa 124 3 (.t 8)),
 (none, .ld 125 none (.t 124)),
 (none, .bs 126 7 0 [.n .i64 0, .n .i64 0, .n .i64 0, .b false, .b false, .b false, .s []] []),
 (none, .bd 127 [.n .i64 0, .n .i64 0, .n .i64 0, .nil, .n .i64 0] [(0, 1, .t 121), (1, 1, .t 123), (2, 1, .t 125), (3, 1, .t 126)]),
 (none, .ca (some 128) 127 [.t 118, .t 119, .t 127]),
 (none, .st 14 (.t 6) (.t 128)),
 (none, .mv 7 (.c (.n .i64 0))),
 (none, .kp [6, 7])])
 (.rt))))))))
theorem mr122 : MrT Try.prog 122 pc122 [.c 6 (some 14), .t 7] 129 := fun hn h => spec_of_run (fn := Try.f122) (by kernel_rfl) rfl (by kernel_rfl) (by kernel_rfl) hn h
theorem mk122 : MkT Try.prog 122 pc122 [.c 6 (some 14), .t 7] 129 := mr122.k
theorem mw122 : MwT Try.prog 122 pc122 [.c 6 (some 14), .t 7] 129 := mr122.w
-- 123 spec.l31Data
def pc123 : PC := .seq (.rg [(none, .bx 3 (.t 0)),
 (none, .bx 5 (.t 2)),
 (none, .al 6 [.n .i64 0, .n .i64 0, .n .i64 0, .b false, .n .i64 0, .n .i64 0, .n .i64 0, .nil, .n .i64 0, .n .i64 0, .n .i64 0, .n .i64 0, .nil, .n .i64 0]),
 (none, .mv 7 (.c (.n .i64 0))),
 (none, .kp [1, 3, 5, 6])])
 (.seq (.rg [(none, .ld 17 (some 3) (.t 5)),
 (none, .ca (some 18) 128 [.t 17]),
 (none, .mv 16 (.t 18)),
 (none, .ex 19 (.t 16) 0),
 (none, .ex 20 (.t 16) 1),
 (none, .al 8 [.n .i64 0, .n .i64 0, .n .i64 0, .b false, .b false, .b false, .s []]),
 (none, .st 7 (.t 8) (.t 19)),
 (none, .mv 9 (.t 20)),
 (none, .kp [1, 3, 6, 8, 9])])
 (.seq (.rg [(none, .ld 22 (some 14) (.t 3)),
 (none, .mv 23 (.t 1)),
 (none, .ca (some 24) 121 [.t 22, .t 23]),
 (none, .mv 21 (.t 24)),
 (none, .ex 25 (.t 21) 0),
 (none, .ex 26 (.t 21) 1),
 (none, .al 10 [.n .i64 0, .n .i64 0, .n .i64 0, .nil, .n .i64 0]),
 (none, .al 11 [.n .i64 0, .n .i64 0, .n .i64 0, .nil, .n .i64 0]),
 (none, .st 5 (.t 10) (.t 25)),
 (none, .st 5 (.t 11) (.t 26)),
 (none, .kp [1, 3, 6, 8, 9, 10])])
 (.seq (.rg [(none, .fa 27 3 (.t 10)),
 (none, .ld 28 none (.t 27)),
 (none, .ln 29 (.t 28)),
 (none, .mv 12 (.t 29)),
 (none, .kp [1, 3, 6, 8, 9, 10, 12])])
 (.seq (.rg [(none, .mv 13 (.c (.n .i64 0))),
 (none, .kp [1, 3, 6, 8, 9, 10, 12, 13])])
 (.seq (.seq (.rg [(none, .mv 30 (.t 9)),
 (none, .kp [1, 3, 6, 8, 9, 10, 12, 13, 30])])
 (.ite (.t 30) (.rg [(none, .fa 31 0 (.t 8)),
 (none, .ld 32 none (.t 31)),
 (none, .fa 33 2 (.t 10)),
 (none, .ld 34 none (.t 33)),
 (none, .un 35 .neg (.t 34)),
 (none, .ca (some 36) 43 [.t 32, .t 35]),
 (none, .mv 13 (.t 36)),
 (none, .kp [1, 3, 6, 8, 9, 10, 12, 13])])
 (.sk)))
 (.seq (.rg [(none, .fa 37 2 (.t 3)),
 (none, .ld 38 none (.t 37)),
 (none, .bi 39 .eql (.t 38) (.c (.n .i64 4))),
 (none, .mv 40 (.t 39)),
 (some (40, false), .fa 41 2 (.t 3)),
 (some (40, false), .ld 42 none (.t 41)),
 (some (40, false), .bi 43 .eql (.t 42) (.c (.n .i64 3))),
 (some (40, false), .mv 44 (.t 43)),
 (some (44, true), .mv 45 (.t 1)),
 (some (44, true), .un 46 .not (.t 45)),
 (some (40, false), .pk 47 (.t 44) (.t 46) (.c (.b false))),
 (none, .pk 48 (.t 40) (.c (.b true)) (.t 47)),
 (none, .mv 14 (.t 48)),
 (none, .kp [1, 3, 6, 8, 9, 10, 12, 13, 14])])
 (.seq (.rg [(none, .mv 49 (.t 14)),
 (none, .mv 50 (.t 49)),
 (some (50, false), .fa 51 2 (.t 3)),
 (some (50, false), .ld 52 none (.t 51)),
 (some (50, false), .bi 53 .eql (.t 52) (.c (.n .i64 5))),
 (some (50, false), .mv 54 (.t 53)),
 (some (54, true), .mv 55 (.t 1)),
 (some (54, true), .fa 56 3 (.t 3)),
 (some (54, true), .ld 57 none (.t 56)),
 (some (54, true), .bb 58 true (.t 55) (.t 57)),
 (some (50, false), .pk 59 (.t 54) (.t 58) (.c (.b false))),
 (none, .pk 60 (.t 50) (.c (.b true)) (.t 59)),
 (none, .mv 15 (.t 60)),
 (none, .kp [1, 3, 6, 8, 9, 10, 12, 13, 14, 15])])
 (.seq (.blk 0 (.seq (.rg [(none, .mv 62 (.t 15)),
 (none, .un 63 .not (.t 62)),
 (none, .mv 61 (.t 63)),
 (none, .kp [1, 3, 6, 8, 9, 10, 12, 13, 14, 61])])
 (.ite (.t 61) (.seq (.rg [(none, .ld 64 (some 14) (.t 3)),
 (none, .st 14 (.t 6) (.t 64)),
 (none, .mv 7 (.c (.n .i64 3))),
 (none, .kp [6, 7])])
 (.rt))
 (.seq (.rg [(none, .mv 66 (.t 9)),
 (none, .un 67 .not (.t 66)),
 (none, .mv 65 (.t 67)),
 (none, .kp [1, 3, 6, 8, 10, 12, 13, 14, 65])])
 (.ite (.t 65) (.seq (.rg [(none, .ld 68 (some 14) (.t 3)),
 (none, .st 14 (.t 6) (.t 68)),
 (none, .mv 7 (.c (.n .i64 4))),
 (none, .kp [6, 7])])
 (.rt))
 (.seq (.dr [[], [], [0, 1], [0, 1, 2], [0, 1, 2, 3], [0, 1, 2, 3, 4], [0, 1, 2, 3], [0, 1, 2, 3, 4, 5, 6], [0, 1, 2, 3, 4, 5, 6, 7], [0, 1, 2, 3], [0, 1, 2, 3, 4, 5, 6, 7, 8, 9], [0, 1, 2, 3, 4, 5, 6, 7, 8, 9, 10], [0, 1, 2, 3, 4, 5, 6, 7, 8, 9, 10, 11]]
 (.q 0 (none, .mv 70 (.t 13))
 (.q 1 (none, .mv 71 (.t 12))
 (.q 2 (none, .bi 72 .lss (.t 70) (.t 71))
 (.q 3 (none, .mv 73 (.t 72))
 (.q 4 (some (73, true), .fa 74 3 (.t 10))
 (.q 5 (some (73, true), .ld 75 none (.t 74))
 (.q 6 (some (73, true), .mv 76 (.t 13))
 (.q 7 (some (73, true), .ia 77 7 (.t 75) (.t 76))
 (.q 8 (some (73, true), .ld 78 (some 7) (.t 77))
 (.q 9 (some (73, true), .ld 79 (some 7) (.t 8))
 (.q 10 (some (73, true), .eqs 80 true [.n .i64 0, .n .i64 0, .n .i64 0, .b false, .b false, .b false, .s []] (.t 78) (.t 79))
 (.q 11 (none, .pk 81 (.t 73) (.t 80) (.c (.b false)))
 (.q 12 (none, .mv 69 (.t 81))
 (.done)))))))))))))) [1, 3, 6, 8, 10, 12, 13, 14, 69])
 (.ite (.t 69) (.seq (.rg [(none, .ld 82 (some 14) (.t 3)),
 (none, .st 14 (.t 6) (.t 82)),
 (none, .mv 7 (.c (.n .i64 7))),
 (none, .kp [6, 7])])
 (.rt))
 (.seq (.rg [(none, .mv 84 (.t 13)),
 (none, .mv 85 (.t 12)),
 (none, .bi 86 .lss (.t 84) (.t 85)),
 (none, .mv 83 (.t 86)),
 (none, .kp [1, 3, 6, 8, 10, 12, 13, 14, 83])])
 (.ite (.t 83) (.seq (.rg [(none, .ld 87 (some 14) (.t 3)),
 (none, .st 14 (.t 6) (.t 87)),
 (none, .mv 7 (.c (.n .i64 0))),
 (none, .kp [6, 7])])
 (.rt))
 (.seq (.rg [(none, .mv 89 (.t 14)),
 (none, .un 90 .not (.t 89)),
 (none, .mv 88 (.t 90)),
 (none, .kp [1, 3, 6, 8, 10, 12, 13, 88])])
 (.ite (.t 88) (.seq (.rg [(none, .ld 91 (some 14) (.t 3)),
 (none, .st 14 (.t 6) (.t 91)),
 (none, .mv 7 (.c (.n .i64 3))),
 (none, .kp [6, 7])])
 (.rt))
 (.seq (.rg [(none, .fa 93 1 (.t 8)),
 (none, .ld 94 none (.t 93)),
 (none, .fa 95 1 (.t 10)),
 (none, .ld 96 none (.t 95)),
 (none, .bi 97 .geq (.t 94) (.t 96)),
 (none, .mv 92 (.t 97)),
 (none, .kp [1, 3, 6, 8, 10, 12, 13, 92])])
 (.ite (.t 92) (.seq (.rg [(none, .ld 98 (some 14) (.t 3)),
 (none, .st 14 (.t 6) (.t 98)),
 (none, .mv 7 (.c (.n .i64 5))),
 (none, .kp [6, 7])])
 (.rt))
 (.seq (.rg [(none, .mv 100 (.t 13)),
 (none, .mv 101 (.t 12)),
 (none, .bi 102 .gtr (.t 100) (.t 101)),
 (none, .mv 99 (.t 102)),
 (none, .kp [1, 3, 6, 8, 10, 12, 99])])
 (.ite (.t 99) (.seq (.rg [(none, .ld 103 (some 14) (.t 3)),
 (none, .st 14 (.t 6) (.t 103)),
 (none, .mv 7 (.c (.n .i64 6))),
 (none, .kp [6, 7])])
 (.rt))
 (.seq (.rg [(none, .fa 105 3 (.t 10)),
 (none, .ld 106 none (.t 105)),
 (none, .ld 107 (some 7) (.t 8)),
 (none, .ca (some 108) 44 [.t 106, .t 107]),
 (none, .un 109 .not (.t 108)),
 (none, .mv 104 (.t 109)),
 (none, .kp [1, 3, 6, 8, 10, 12, 104])])
 (.ite (.t 104) (.seq (.rg [(none, .ld 110 (some 14) (.t 3)),
 (none, .st 14 (.t 6) (.t 110)),
 (none, .mv 7 (.c (.n .i64 8))),
 (none, .kp [6, 7])])
 (.rt))
 (.seq (.rg [(none, .mv 112 (.t 12)),
 (none, .bi 113 .geq (.t 112) (.c (.n .i64 12))),
 (none, .mv 111 (.t 113)),
 (none, .kp [1, 3, 6, 8, 10, 111])])
 (.ite (.t 111) (.seq (.rg [(none, .ld 114 (some 14) (.t 3)),
 (none, .st 14 (.t 6) (.t 114)),
 (none, .mv 7 (.c (.n .i64 11))),
 (none, .kp [6, 7])])
 (.rt))
 (.sk))))))))))))))))))))
 (.seq (.dr [[], [], [1], [0, 1, 2], [], [4], [0, 1, 2, 3, 4, 5], [0, 1, 2, 3, 4, 5, 6], [0, 1, 2, 3, 4, 5, 6, 7]]
 (.q 1 (none, .fa 116 3 (.t 10))
 (.q 2 (none, .ld 117 none (.t 116))
 (.q 4 (none, .ld 119 (some 7) (.t 8))
 (.alt 0 (none, .bs 115 7 0 [.n .i64 0, .n .i64 0, .n .i64 0, .b false, .b false, .b false, .s []] []) [true, true, true]
 (.alt 3 (none, .ap 118 7 48 (.t 115) (.t 117)) [false, false, true]
 (.alt 5 (none, .bs 120 7 1 [.n .i64 0, .n .i64 0, .n .i64 0, .b false, .b false, .b false, .s []] [(0, .t 119)]) [true, true, false]
 (.alt 6 (none, .ap 121 7 48 (.t 118) (.t 120)) [false, false, false]
 (.q 7 (none, .fa 122 3 (.t 10))
 (.alt 8 (none, .st 1 (.t 122) (.t 121)) [false, false, false, false]
 (.done)
 (.stop)))
 (.stop))
 (.stop))
 (.alt 5 (none, .bs 120 7 1 [.n .i64 0, .n .i64 0, .n .i64 0, .b false, .b false, .b false, .s []] [(0, .t 119)]) [true, true, false]
 (.alt 3 (none, .ap 118 7 48 (.t 115) (.t 117)) [false, false, true]
 (.alt 6 (none, .ap 121 7 48 (.t 118) (.t 120)) [false, false, false]
 (.q 7 (none, .fa 122 3 (.t 10))
 (.alt 8 (none, .st 1 (.t 122) (.t 121)) [false, false, false, false]
 (.done)
 (.stop)))
 (.stop))
 (.stop))
 (.stop)))
 (.alt 5 (none, .bs 120 7 1 [.n .i64 0, .n .i64 0, .n .i64 0, .b false, .b false, .b false, .s []] [(0, .t 119)]) [true, true, false]
 (.alt 0 (none, .bs 115 7 0 [.n .i64 0, .n .i64 0, .n .i64 0, .b false, .b false, .b false, .s []] []) [true, true, true]
 (.alt 3 (none, .ap 118 7 48 (.t 115) (.t 117)) [false, false, true]
 (.alt 6 (none, .ap 121 7 48 (.t 118) (.t 120)) [false, false, false]
 (.q 7 (none, .fa 122 3 (.t 10))
 (.alt 8 (none, .st 1 (.t 122) (.t 121)) [false, false, false, false]
 (.done)
 (.stop)))
 (.stop))
 (.stop))
 (.stop))
 (.stop)))))) [1, 3, 6, 10])
 (.seq (.rg [(none, .ld 123 (some 14) (.t 3)),
 (none, .mv 124 (.t 1)),
 (none, .ld 125 (some 5) (.t 10)),
 (none, .ca (some 126) 127 [.t 123, .t 124, .t 125]),
 (none, .st 14 (.t 6) (.t 126)),
 (none, .mv 7 (.c (.n .i64 0))),
 (none, .kp [6, 7])])
 (.rt)))))))))))
theorem mr123 : MrT Try.prog 123 pc123 [.c 6 (some 14), .t 7] 127 := fun hn h => spec_of_run (fn := Try.f123) (by kernel_rfl) rfl (by kernel_rfl) (by kernel_rfl) hn h
theorem mk123 : MkT Try.prog 123 pc123 [.c 6 (some 14), .t 7] 127 := mr123.k
theorem mw123 : MwT Try.prog 123 pc123 [.c 6 (some 14), .t 7] 127 := mr123.w
-- 124 spec.l31Sack
def pc124 : PC := .seq (.rg [(none, .bx 3 (.t 0)),
 (none, .bx 5 (.t 2)),
 (none, .al 6 [.n .i64 0, .n .i64 0, .n .i64 0, .b false, .n .i64 0, .n .i64 0, .n .i64 0, .nil, .n .i64 0, .n .i64 0, .n .i64 0, .n .i64 0, .nil, .n .i64 0]),
 (none, .mv 7 (.c (.n .i64 0))),
 (none, .kp [1, 3, 5, 6])])
 (.seq (.rg [(none, .ld 15 (some 3) (.t 5)),
 (none, .ca (some 16) 129 [.t 15]),
 (none, .mv 14 (.t 16)),
 (none, .ex 17 (.t 14) 0),
 (none, .ex 18 (.t 14) 1),
 (none, .al 8 [.n .i64 0, .nil]),
 (none, .st 2 (.t 8) (.t 17)),
 (none, .mv 9 (.t 18)),
 (none, .kp [1, 3, 6, 8, 9])])
 (.seq (.rg [(none, .ld 20 (some 14) (.t 3)),
 (none, .mv 21 (.t 1)),
 (none, .ca (some 22) 121 [.t 20, .t 21]),
 (none, .mv 19 (.t 22)),
 (none, .ex 23 (.t 19) 0),
 (none, .ex 24 (.t 19) 1),
 (none, .al 10 [.n .i64 0, .n .i64 0, .n .i64 0, .nil, .n .i64 0]),
 (none, .al 11 [.n .i64 0, .n .i64 0, .n .i64 0, .nil, .n .i64 0]),
 (none, .st 5 (.t 10) (.t 23)),
 (none, .st 5 (.t 11) (.t 24)),
 (none, .kp [1, 3, 6, 8, 9, 11])])
 (.seq (.blk 0 (.seq (.rg [(none, .fa 26 2 (.t 3)),
 (none, .ld 27 none (.t 26)),
 (none, .ca (some 28) 45 [.t 27, .c (.n .i64 4), .c (.n .i64 5)]),
 (none, .un 29 .not (.t 28)),
 (none, .mv 25 (.t 29)),
 (none, .kp [1, 3, 6, 8, 9, 11, 25])])
 (.ite (.t 25) (.seq (.rg [(none, .ld 30 (some 14) (.t 3)),
 (none, .st 14 (.t 6) (.t 30)),
 (none, .mv 7 (.c (.n .i64 3))),
 (none, .kp [6, 7])])
 (.rt))
 (.seq (.rg [(none, .mv 32 (.t 9)),
 (none, .un 33 .not (.t 32)),
 (none, .mv 31 (.t 33)),
 (none, .kp [1, 3, 6, 8, 11, 31])])
 (.ite (.t 31) (.seq (.rg [(none, .ld 34 (some 14) (.t 3)),
 (none, .st 14 (.t 6) (.t 34)),
 (none, .mv 7 (.c (.n .i64 4))),
 (none, .kp [6, 7])])
 (.rt))
 (.sk))))))
 (.seq (.dr [[], [0], [0, 1], [], [3], [0, 1, 2, 3, 4], [0, 1, 2, 3, 4, 5]]
 (.q 0 (none, .fa 35 2 (.t 11))
 (.q 1 (none, .ld 36 none (.t 35))
 (.q 3 (none, .fa 38 0 (.t 8))
 (.q 4 (none, .ld 39 none (.t 38))
 (.alt 2 (none, .ca (some 37) 43 [.t 36, .c (.n .i64 (-1))]) [false, false, true, true]
 (.alt 5 (none, .ca (some 40) 130 [.t 37, .t 39]) [false, false, false, false]
 (.q 6 (none, .mv 12 (.t 40))
 (.done))
 (.stop))
 (.stop)))))) [1, 3, 6, 8, 11, 12])
 (.seq (.rg [(none, .mv 41 (.t 12)),
 (none, .mv 13 (.t 41)),
 (none, .kp [1, 3, 6, 8, 11, 12, 13])])
 (.seq (.seq (.rg [(none, .fa 42 1 (.t 8)),
 (none, .ld 43 none (.t 42)),
 (none, .ln 44 (.t 43)),
 (none, .bi 45 .gtr (.t 44) (.c (.n .i64 0))),
 (none, .kp [1, 3, 6, 8, 11, 12, 13, 45])])
 (.ite (.t 45) (.rg [(none, .mv 46 (.t 12)),
 (none, .fa 47 1 (.t 8)),
 (none, .ld 48 none (.t 47)),
 (none, .fa 49 1 (.t 8)),
 (none, .ld 50 none (.t 49)),
 (none, .ln 51 (.t 50)),
 (none, .bi 52 .sub (.t 51) (.c (.n .i64 1))),
 (none, .ia 53 2 (.t 48) (.t 52)),
 (none, .fa 54 1 (.t 53)),
 (none, .ld 55 none (.t 54)),
 (none, .bi 56 .add (.t 46) (.t 55)),
 (none, .mv 13 (.t 56)),
 (none, .kp [1, 3, 6, 11, 12, 13])])
 (.sk)))
 (.seq (.seq (.rg [(none, .mv 57 (.t 12)),
 (none, .fa 58 3 (.t 11)),
 (none, .ld 59 none (.t 58)),
 (none, .ln 60 (.t 59)),
 (none, .ca (some 61) 45 [.t 57, .c (.n .i64 0), .t 60]),
 (none, .un 62 .not (.t 61)),
 (none, .mv 63 (.t 62)),
 (some (63, false), .mv 64 (.t 13)),
 (some (63, false), .fa 65 3 (.t 11)),
 (some (63, false), .ld 66 none (.t 65)),
 (some (63, false), .ln 67 (.t 66)),
 (some (63, false), .bi 68 .gtr (.t 64) (.t 67)),
 (none, .pk 69 (.t 63) (.c (.b true)) (.t 68)),
 (none, .kp [1, 3, 6, 11, 12, 69])])
 (.ite (.t 69) (.seq (.rg [(none, .ld 70 (some 14) (.t 3)),
 (none, .st 14 (.t 6) (.t 70)),
 (none, .mv 7 (.c (.n .i64 9))),
 (none, .kp [6, 7])])
 (.rt))
 (.sk)))
 (.seq (.rg [(none, .fa 71 4 (.t 11)),
 (none, .ld 72 none (.t 71)),
 (none, .mv 73 (.t 12)),
 (none, .mx 74 (.t 72) (.t 73)),
 (none, .fa 75 4 (.t 11)),
 (none, .st 1 (.t 75) (.t 74)),
 (none, .kp [1, 3, 6, 11])])
 (.seq (.rg [(none, .ld 76 (some 14) (.t 3)),
 (none, .mv 77 (.t 1)),
 (none, .un 78 .not (.t 77)),
 (none, .ld 79 (some 5) (.t 11)),
 (none, .ca (some 80) 127 [.t 76, .t 78, .t 79]),
 (none, .st 14 (.t 6) (.t 80)),
 (none, .mv 7 (.c (.n .i64 0))),
 (none, .kp [6, 7])])
 (.rt))))))))))
theorem mr124 : MrT Try.prog 124 pc124 [.c 6 (some 14), .t 7] 81 := fun hn h => spec_of_run (fn := Try.f124) (by kernel_rfl) rfl (by kernel_rfl) (by kernel_rfl) hn h
theorem mk124 : MkT Try.prog 124 pc124 [.c 6 (some 14), .t 7] 81 := mr124.k
theorem mw124 : MwT Try.prog 124 pc124 [.c 6 (some 14), .t 7] 81 := mr124.w
-- 125 spec.l31End
def pc125 : PC := .seq (.rg [(none, .bx 3 (.t 0)),
 (none, .al 6 [.n .i64 0, .n .i64 0, .n .i64 0, .b false, .n .i64 0, .n .i64 0, .n .i64 0, .nil, .n .i64 0, .n .i64 0, .n .i64 0, .n .i64 0, .nil, .n .i64 0]),
 (none, .mv 7 (.c (.n .i64 0))),
 (none, .kp [1, 2, 3, 6])])
 (.seq (.rg [(none, .ld 12 (some 14) (.t 3)),
 (none, .mv 13 (.t 1)),
 (none, .ca (some 14) 121 [.t 12, .t 13]),
 (none, .mv 11 (.t 14)),
 (none, .ex 15 (.t 11) 0),
 (none, .ex 16 (.t 11) 1),
 (none, .al 8 [.n .i64 0, .n .i64 0, .n .i64 0, .nil, .n .i64 0]),
 (none, .al 9 [.n .i64 0, .n .i64 0, .n .i64 0, .nil, .n .i64 0]),
 (none, .st 5 (.t 8) (.t 15)),
 (none, .st 5 (.t 9) (.t 16)),
 (none, .kp [1, 2, 3, 6, 8])])
 (.seq (.rg [(none, .fa 17 4 (.t 8)),
 (none, .ld 18 none (.t 17)),
 (none, .fa 19 3 (.t 8)),
 (none, .ld 20 none (.t 19)),
 (none, .ln 21 (.t 20)),
 (none, .bi 22 .eql (.t 18) (.t 21)),
 (none, .mv 10 (.t 22)),
 (none, .kp [1, 2, 3, 6, 10])])
 (.seq (.blk 0 (.seq (.rg [(none, .mv 25 (.t 2)),
 (none, .bi 26 .eql (.t 25) (.c (.n .i64 6))),
 (none, .mv 27 (.t 26)),
 (some (27, true), .fa 28 2 (.t 3)),
 (some (27, true), .ld 29 none (.t 28)),
 (some (27, true), .ca (some 30) 45 [.t 29, .c (.n .i64 1), .c (.n .i64 6)]),
 (none, .pk 31 (.t 27) (.t 30) (.c (.b false))),
 (none, .mv 24 (.t 31)),
 (none, .kp [1, 2, 3, 6, 10, 24])])
 (.ite (.t 24) (.rg [(none, .fa 32 2 (.t 3)),
 (none, .st 1 (.t 32) (.c (.n .i64 7))),
 (none, .kp [3, 6])])
 (.seq (.rg [(none, .mv 34 (.t 2)),
 (none, .bi 35 .eql (.t 34) (.c (.n .i64 7))),
 (none, .mv 36 (.t 35)),
 (some (36, true), .fa 37 2 (.t 3)),
 (some (36, true), .ld 38 none (.t 37)),
 (some (36, true), .bi 39 .eql (.t 38) (.c (.n .i64 4))),
 (none, .pk 40 (.t 36) (.t 39) (.c (.b false))),
 (none, .mv 41 (.t 40)),
 (some (41, true), .mv 42 (.t 10)),
 (some (41, true), .un 43 .not (.t 42)),
 (none, .pk 44 (.t 41) (.t 43) (.c (.b false))),
 (none, .mv 33 (.t 44)),
 (none, .kp [1, 2, 3, 6, 10, 33])])
 (.ite (.t 33) (.seq (.rg [(none, .ld 45 (some 14) (.t 3)),
 (none, .st 14 (.t 6) (.t 45)),
 (none, .mv 7 (.c (.n .i64 10))),
 (none, .kp [6, 7])])
 (.rt))
 (.seq (.rg [(none, .mv 47 (.t 2)),
 (none, .bi 48 .eql (.t 47) (.c (.n .i64 7))),
 (none, .mv 49 (.t 48)),
 (some (49, true), .fa 50 2 (.t 3)),
 (some (49, true), .ld 51 none (.t 50)),
 (some (49, true), .bi 52 .eql (.t 51) (.c (.n .i64 4))),
 (none, .pk 53 (.t 49) (.t 52) (.c (.b false))),
 (none, .mv 46 (.t 53)),
 (none, .kp [1, 2, 3, 6, 10, 46])])
 (.ite (.t 46) (.seq (.rg [(none, .fa 54 2 (.t 3)),
 (none, .st 1 (.t 54) (.c (.n .i64 5))),
 (none, .kp [1, 3, 6])])
 (.rg [(none, .mv 55 (.t 1)),
 (none, .fa 56 3 (.t 3)),
 (none, .st 1 (.t 56) (.t 55)),
 (none, .kp [3, 6])]))
 (.seq (.rg [(none, .mv 58 (.t 2)),
 (none, .bi 59 .eql (.t 58) (.c (.n .i64 7))),
 (none, .mv 60 (.t 59)),
 (some (60, true), .fa 61 2 (.t 3)),
 (some (60, true), .ld 62 none (.t 61)),
 (some (60, true), .ca (some 63) 45 [.t 62, .c (.n .i64 5), .c (.n .i64 6)]),
 (none, .pk 64 (.t 60) (.t 63) (.c (.b false))),
 (none, .mv 65 (.t 64)),
 (some (65, true), .mv 66 (.t 1)),
 (some (65, true), .fa 67 3 (.t 3)),
 (some (65, true), .ld 68 none (.t 67)),
 (some (65, true), .bb 69 false (.t 66) (.t 68)),
 (none, .pk 70 (.t 65) (.t 69) (.c (.b false))),
 (none, .mv 57 (.t 70)),
 (none, .kp [1, 2, 3, 6, 10, 57])])
 (.ite (.t 57) (.sk)
 (.seq (.rg [(none, .mv 72 (.t 2)),
 (none, .bi 73 .eql (.t 72) (.c (.n .i64 8))),
 (none, .mv 74 (.t 73)),
 (some (74, true), .fa 75 2 (.t 3)),
 (some (74, true), .ld 76 none (.t 75)),
 (some (74, true), .bi 77 .eql (.t 76) (.c (.n .i64 5))),
 (none, .pk 78 (.t 74) (.t 77) (.c (.b false))),
 (none, .mv 79 (.t 78)),
 (some (79, true), .mv 80 (.t 1)),
 (some (79, true), .fa 81 3 (.t 3)),
 (some (79, true), .ld 82 none (.t 81)),
 (some (79, true), .bb 83 true (.t 80) (.t 82)),
 (none, .pk 84 (.t 79) (.t 83) (.c (.b false))),
 (none, .mv 85 (.t 84)),
 (some (85, true), .mv 86 (.t 10)),
 (some (85, true), .un 87 .not (.t 86)),
 (none, .pk 88 (.t 85) (.t 87) (.c (.b false))),
 (none, .mv 71 (.t 88)),
 (none, .kp [1, 2, 3, 6, 71])])
 (.ite (.t 71) (.seq (.rg [(none, .ld 89 (some 14) (.t 3)),
 (none, .st 14 (.t 6) (.t 89)),
 (none, .mv 7 (.c (.n .i64 10))),
 (none, .kp [6, 7])])
 (.rt))
 (.seq (.rg [(none, .mv 91 (.t 2)),
 (none, .bi 92 .eql (.t 91) (.c (.n .i64 8))),
 (none, .mv 93 (.t 92)),
 (some (93, true), .fa 94 2 (.t 3)),
 (some (93, true), .ld 95 none (.t 94)),
 (some (93, true), .ca (some 96) 45 [.t 95, .c (.n .i64 5), .c (.n .i64 6)]),
 (none, .pk 97 (.t 93) (.t 96) (.c (.b false))),
 (none, .mv 98 (.t 97)),
 (some (98, true), .mv 99 (.t 1)),
 (some (98, true), .fa 100 3 (.t 3)),
 (some (98, true), .ld 101 none (.t 100)),
 (some (98, true), .bb 102 true (.t 99) (.t 101)),
 (none, .pk 103 (.t 98) (.t 102) (.c (.b false))),
 (none, .mv 90 (.t 103)),
 (none, .kp [1, 2, 3, 6, 90])])
 (.ite (.t 90) (.rg [(none, .fa 104 2 (.t 3)),
 (none, .st 1 (.t 104) (.c (.n .i64 6))),
 (none, .kp [3, 6])])
 (.seq (.rg [(none, .mv 106 (.t 2)),
 (none, .bi 107 .eql (.t 106) (.c (.n .i64 14))),
 (none, .mv 108 (.t 107)),
 (some (108, true), .fa 109 2 (.t 3)),
 (some (108, true), .ld 110 none (.t 109)),
 (some (108, true), .bi 111 .eql (.t 110) (.c (.n .i64 6))),
 (none, .pk 112 (.t 108) (.t 111) (.c (.b false))),
 (none, .mv 113 (.t 112)),
 (some (113, true), .mv 114 (.t 1)),
 (some (113, true), .fa 115 3 (.t 3)),
 (some (113, true), .ld 116 none (.t 115)),
 (some (113, true), .bb 117 false (.t 114) (.t 116)),
 (none, .pk 118 (.t 113) (.t 117) (.c (.b false))),
 (none, .mv 105 (.t 118)),
 (none, .kp [3, 6, 105])])
 (.ite (.t 105) (.rg [(none, .fa 119 2 (.t 3)),
 (none, .st 1 (.t 119) (.c (.n .i64 7))),
 (none, .kp [3, 6])])
 (.seq (.rg [(none, .ld 23 (some 14) (.t 3)),
 (none, .st 14 (.t 6) (.t 23)),
 (none, .mv 7 (.c (.n .i64 3))),
 (none, .kp [6, 7])])
 (.rt)))))))))))))))))
 (.seq (.rg [(none, .ld 120 (some 14) (.t 3)),
 (none, .st 14 (.t 6) (.t 120)),
 (none, .mv 7 (.c (.n .i64 0))),
 (none, .kp [6, 7])])
 (.rt)))))
theorem mr125 : MrT Try.prog 125 pc125 [.c 6 (some 14), .t 7] 121 := fun hn h => spec_of_run (fn := Try.f125) (by kernel_rfl) rfl (by kernel_rfl) (by kernel_rfl) hn h
theorem mk125 : MkT Try.prog 125 pc125 [.c 6 (some 14), .t 7] 121 := mr125.k
theorem mw125 : MwT Try.prog 125 pc125 [.c 6 (some 14), .t 7] 121 := mr125.w
-- 126 spec.l31Cookie
def pc126 : PC := .seq (.rg [(none, .bx 3 (.t 0)),
 (none, .al 6 [.n .i64 0, .n .i64 0, .n .i64 0, .b false, .n .i64 0, .n .i64 0, .n .i64 0, .nil, .n .i64 0, .n .i64 0, .n .i64 0, .n .i64 0, .nil, .n .i64 0]),
 (none, .mv 7 (.c (.n .i64 0))),
 (none, .kp [1, 2, 3, 6])])
 (.seq (.blk 0 (.seq (.rg [(none, .mv 10 (.t 2)),
 (none, .bi 11 .eql (.t 10) (.c (.n .i64 10))),
 (none, .mv 12 (.t 11)),
 (some (12, true), .mv 13 (.t 1)),
 (some (12, true), .un 14 .not (.t 13)),
 (none, .pk 15 (.t 12) (.t 14) (.c (.b false))),
 (none, .mv 16 (.t 15)),
 (some (16, true), .fa 17 2 (.t 3)),
 (some (16, true), .ld 18 none (.t 17)),
 (some (16, true), .ca (some 19) 45 [.t 18, .c (.n .i64 2), .c (.n .i64 4)]),
 (none, .pk 20 (.t 16) (.t 19) (.c (.b false))),
 (none, .mv 9 (.t 20)),
 (none, .kp [1, 2, 3, 6, 9])])
 (.ite (.t 9) (.rg [(none, .fa 21 2 (.t 3)),
 (none, .ld 22 none (.t 21)),
 (none, .mx 23 (.t 22) (.c (.n .i64 3))),
 (none, .fa 24 2 (.t 3)),
 (none, .st 1 (.t 24) (.t 23)),
 (none, .kp [3, 6])])
 (.seq (.rg [(none, .mv 26 (.t 2)),
 (none, .bi 27 .eql (.t 26) (.c (.n .i64 11))),
 (none, .mv 28 (.t 27)),
 (some (28, true), .mv 29 (.t 1)),
 (none, .pk 30 (.t 28) (.t 29) (.c (.b false))),
 (none, .mv 31 (.t 30)),
 (some (31, true), .fa 32 2 (.t 3)),
 (some (31, true), .ld 33 none (.t 32)),
 (some (31, true), .ca (some 34) 45 [.t 33, .c (.n .i64 3), .c (.n .i64 4)]),
 (none, .pk 35 (.t 31) (.t 34) (.c (.b false))),
 (none, .mv 25 (.t 35)),
 (none, .kp [2, 3, 6, 25])])
 (.ite (.t 25) (.rg [(none, .fa 36 2 (.t 3)),
 (none, .st 1 (.t 36) (.c (.n .i64 4))),
 (none, .kp [3, 6])])
 (.seq (.rg [(none, .mv 38 (.t 2)),
 (none, .bi 39 .eql (.t 38) (.c (.n .i64 4))),
 (none, .mv 40 (.t 39)),
 (some (40, false), .mv 41 (.t 2)),
 (some (40, false), .bi 42 .eql (.t 41) (.c (.n .i64 5))),
 (none, .pk 43 (.t 40) (.c (.b true)) (.t 42)),
 (none, .mv 44 (.t 43)),
 (some (44, false), .mv 45 (.t 2)),
 (some (44, false), .bi 46 .eql (.t 45) (.c (.n .i64 9))),
 (none, .pk 47 (.t 44) (.c (.b true)) (.t 46)),
 (none, .mv 48 (.t 47)),
 (some (48, true), .fa 49 2 (.t 3)),
 (some (48, true), .ld 50 none (.t 49)),
 (some (48, true), .ca (some 51) 45 [.t 50, .c (.n .i64 3), .c (.n .i64 6)]),
 (none, .pk 52 (.t 48) (.t 51) (.c (.b false))),
 (none, .mv 37 (.t 52)),
 (none, .kp [3, 6, 37])])
 (.ite (.t 37) (.sk)
 (.seq (.rg [(none, .ld 8 (some 14) (.t 3)),
 (none, .st 14 (.t 6) (.t 8)),
 (none, .mv 7 (.c (.n .i64 3))),
 (none, .kp [6, 7])])
 (.rt)))))))))
 (.seq (.rg [(none, .ld 53 (some 14) (.t 3)),
 (none, .st 14 (.t 6) (.t 53)),
 (none, .mv 7 (.c (.n .i64 0))),
 (none, .kp [6, 7])])
 (.rt)))
theorem mr126 : MrT Try.prog 126 pc126 [.c 6 (some 14), .t 7] 54 := fun hn h => spec_of_run (fn := Try.f126) (by kernel_rfl) rfl (by kernel_rfl) (by kernel_rfl) hn h
theorem mk126 : MkT Try.prog 126 pc126 [.c 6 (some 14), .t 7] 54 := mr126.k
theorem mw126 : MwT Try.prog 126 pc126 [.c 6 (some 14), .t 7] 54 := mr126.w
-- 127 spec.l31With
def pc127 : PC := .seq (.rg [(none, .bx 3 (.t 0)),
 (none, .bx 5 (.t 2)),
 (none, .al 6 [.n .i64 0, .n .i64 0, .n .i64 0, .b false, .n .i64 0, .n .i64 0, .n .i64 0, .nil, .n .i64 0, .n .i64 0, .n .i64 0, .n .i64 0, .nil, .n .i64 0]),
 (none, .kp [1, 3, 5, 6])])
 (.seq (.seq (.rg [(none, .mv 7 (.t 1)),
 (none, .kp [3, 5, 6, 7])])
 (.ite (.t 7) (.rg [(none, .ld 8 (some 5) (.t 5)),
 (none, .fa 9 9 (.t 3)),
 (none, .st 5 (.t 9) (.t 8)),
 (none, .kp [3, 6])])
 (.rg [(none, .ld 10 (some 5) (.t 5)),
 (none, .fa 11 4 (.t 3)),
 (none, .st 5 (.t 11) (.t 10)),
 (none, .kp [3, 6])])))
 (.seq (.rg [(none, .ld 12 (some 14) (.t 3)),
 (none, .st 14 (.t 6) (.t 12)),
 (none, .kp [6])])
 (.rt)))
theorem mr127 : MrT Try.prog 127 pc127 [.c 6 (some 14)] 13 := fun hn h => spec_of_run (fn := Try.f127) (by kernel_rfl) rfl (by kernel_rfl) (by kernel_rfl) hn h
theorem mk127 : MkT Try.prog 127 pc127 [.c 6 (some 14)] 13 := mr127.k
theorem mw127 : MwT Try.prog 127 pc127 [.c 6 (some 14)] 13 := mr127.w
-- 128 spec.DataGet
def pc128 : PC := .seq (.rg [(none, .bx 1 (.t 0)),
 (none, .al 2 [.n .i64 0, .n .i64 0, .n .i64 0, .b false, .b false, .b false, .s []]),
 (none, .mv 3 (.c (.b false))),
 (none, .kp [1, 2])])
 (.seq (.seq (.rg [(none, .fa 5 0 (.t 1)),
 (none, .ld 6 none (.t 5)),
 (none, .bi 7 .neq (.t 6) (.c (.n .i64 0))),
 (none, .mv 8 (.t 7)),
 (some (8, false), .fa 9 1 (.t 1)),
 (some (8, false), .ld 10 none (.t 9)),
 (some (8, false), .ca (some 11) 45 [.t 10, .c (.n .i64 0), .c (.n .i64 7)]),
 (some (8, false), .un 12 .not (.t 11)),
 (none, .pk 13 (.t 8) (.c (.b true)) (.t 12)),
 (none, .mv 14 (.t 13)),
 (some (14, false), .fa 15 2 (.t 1)),
 (some (14, false), .ld 16 none (.t 15)),
 (some (14, false), .lS 17 (.t 16)),
 (some (14, false), .bi 18 .lss (.t 17) (.c (.n .i64 6))),
 (none, .pk 19 (.t 14) (.c (.b true)) (.t 18)),
 (none, .kp [1, 2, 19])])
 (.ite (.t 19) (.seq (.rg [(none, .bd 20 [.n .i64 0, .n .i64 0, .n .i64 0, .b false, .b false, .b false, .s []] []),
 (none, .st 7 (.t 2) (.t 20)),
 (none, .mv 3 (.c (.b false))),
 (none, .kp [2, 3])])
 (.rt))
 (.sk)))
 (.seq (.dr [[], [0], [0, 1], [], [3], [0, 1, 2, 3, 4], [], [6], [0, 1, 2, 3, 4, 5, 6, 7], [], [9], [9, 10], [0, 1, 2, 3, 4, 5, 6, 7, 8, 9, 10, 11], [], [0, 1, 2, 3, 4, 5, 6, 7, 8, 9, 10, 11, 12, 13]]
 (.q 0 (none, .fa 21 2 (.t 1))
 (.q 1 (none, .ld 22 none (.t 21))
 (.q 3 (none, .fa 24 2 (.t 1))
 (.q 4 (none, .ld 25 none (.t 24))
 (.q 6 (none, .fa 27 2 (.t 1))
 (.q 7 (none, .ld 28 none (.t 27))
 (.q 9 (none, .fa 30 2 (.t 1))
 (.q 10 (none, .ld 31 none (.t 30))
 (.q 11 (none, .sS 32 (.t 31) (some (.c (.n .i64 6))) none)
 (.alt 2 (none, .ca (some 23) 106 [.t 22, .c (.n .i64 0)]) [false, false, true, true, true, true, true, true, true]
 (.alt 5 (none, .ca (some 26) 106 [.t 25, .c (.n .i64 2)]) [false, false, false, false, true, true, true, true, true]
 (.alt 8 (none, .ca (some 29) 106 [.t 28, .c (.n .i64 4)]) [false, false, false, false, false, false, true, true, true]
 (.q 12 (none, .bd 33 [.n .i64 0, .n .i64 0, .n .i64 0, .b false, .b false, .b false, .s []] [(0, 1, .t 23), (1, 1, .t 26), (2, 1, .t 29), (6, 1, .t 32)])
 (.alt 13 (none, .al 4 [.n .i64 0, .n .i64 0, .n .i64 0, .b false, .b false, .b false, .s []]) [true, true, true, true, true, true, true, true, true, true]
 (.alt 14 (none, .st 7 (.t 4) (.t 33)) [false, false, false, false, false, false, false, false, false, false]
 (.done)
 (.stop))
 (.stop)))
 (.alt 13 (none, .al 4 [.n .i64 0, .n .i64 0, .n .i64 0, .b false, .b false, .b false, .s []]) [true, true, true, true, true, true, true, true, true]
 (.alt 8 (none, .ca (some 29) 106 [.t 28, .c (.n .i64 4)]) [false, false, false, false, false, false, true, true, true]
 (.q 12 (none, .bd 33 [.n .i64 0, .n .i64 0, .n .i64 0, .b false, .b false, .b false, .s []] [(0, 1, .t 23), (1, 1, .t 26), (2, 1, .t 29), (6, 1, .t 32)])
 (.alt 14 (none, .st 7 (.t 4) (.t 33)) [false, false, false, false, false, false, false, false, false, false]
 (.done)
 (.stop)))
 (.stop))
 (.stop)))
 (.alt 13 (none, .al 4 [.n .i64 0, .n .i64 0, .n .i64 0, .b false, .b false, .b false, .s []]) [true, true, true, true, true, true, true, true, true]
 (.alt 5 (none, .ca (some 26) 106 [.t 25, .c (.n .i64 2)]) [false, false, false, false, true, true, true, true, true]
 (.alt 8 (none, .ca (some 29) 106 [.t 28, .c (.n .i64 4)]) [false, false, false, false, false, false, true, true, true]
 (.q 12 (none, .bd 33 [.n .i64 0, .n .i64 0, .n .i64 0, .b false, .b false, .b false, .s []] [(0, 1, .t 23), (1, 1, .t 26), (2, 1, .t 29), (6, 1, .t 32)])
 (.alt 14 (none, .st 7 (.t 4) (.t 33)) [false, false, false, false, false, false, false, false, false, false]
 (.done)
 (.stop)))
 (.stop))
 (.stop))
 (.stop)))
 (.alt 13 (none, .al 4 [.n .i64 0, .n .i64 0, .n .i64 0, .b false, .b false, .b false, .s []]) [true, true, true, true, true, true, true, true, true]
 (.alt 2 (none, .ca (some 23) 106 [.t 22, .c (.n .i64 0)]) [false, false, true, true, true, true, true, true, true]
 (.alt 5 (none, .ca (some 26) 106 [.t 25, .c (.n .i64 2)]) [false, false, false, false, true, true, true, true, true]
 (.alt 8 (none, .ca (some 29) 106 [.t 28, .c (.n .i64 4)]) [false, false, false, false, false, false, true, true, true]
 (.q 12 (none, .bd 33 [.n .i64 0, .n .i64 0, .n .i64 0, .b false, .b false, .b false, .s []] [(0, 1, .t 23), (1, 1, .t 26), (2, 1, .t 29), (6, 1, .t 32)])
 (.alt 14 (none, .st 7 (.t 4) (.t 33)) [false, false, false, false, false, false, false, false, false, false]
 (.done)
 (.stop)))
 (.stop))
 (.stop))
 (.stop))
 (.stop)))))))))))) [1, 2, 4])
 (.seq (.rg [(none, .fa 34 1 (.t 1)),
 (none, .ld 35 none (.t 34)),
 (none, .bi 36 .rem (.t 35) (.c (.n .i64 2))),
 (none, .bi 37 .eql (.t 36) (.c (.n .i64 1))),
 (none, .fa 38 4 (.t 4)),
 (none, .st 1 (.t 38) (.t 37)),
 (none, .kp [1, 2, 4])])
 (.seq (.rg [(none, .fa 39 1 (.t 1)),
 (none, .ld 40 none (.t 39)),
 (none, .bi 41 .quo (.t 40) (.c (.n .i64 2))),
 (none, .bi 42 .rem (.t 41) (.c (.n .i64 2))),
 (none, .bi 43 .eql (.t 42) (.c (.n .i64 1))),
 (none, .fa 44 3 (.t 4)),
 (none, .st 1 (.t 44) (.t 43)),
 (none, .kp [1, 2, 4])])
 (.seq (.rg [(none, .fa 45 1 (.t 1)),
 (none, .ld 46 none (.t 45)),
 (none, .bi 47 .quo (.t 46) (.c (.n .i64 4))),
 (none, .bi 48 .eql (.t 47) (.c (.n .i64 1))),
 (none, .fa 49 5 (.t 4)),
 (none, .st 1 (.t 49) (.t 48)),
 (none, .kp [2, 4])])
 (.seq (.seq (.rg [(none, .ld 50 (some 7) (.t 4)),
 (none, .ca (some 51) 42 [.t 50]),
 (none, .un 52 .not (.t 51)),
 (none, .kp [2, 4, 52])])
 (.ite (.t 52) (.seq (.rg [(none, .bd 53 [.n .i64 0, .n .i64 0, .n .i64 0, .b false, .b false, .b false, .s []] []),
 (none, .st 7 (.t 2) (.t 53)),
 (none, .mv 3 (.c (.b false))),
 (none, .kp [2, 3])])
 (.rt))
 (.sk)))
 (.seq (.rg [(none, .ld 54 (some 7) (.t 4)),
 (none, .st 7 (.t 2) (.t 54)),
 (none, .mv 3 (.c (.b true))),
 (none, .kp [2, 3])])
 (.rt))))))))
theorem mr128 : MrT Try.prog 128 pc128 [.c 2 (some 7), .t 3] 55 := fun hn h => spec_of_run (fn := Try.f128) (by kernel_rfl) rfl (by kernel_rfl) (by kernel_rfl) hn h
theorem mk128 : MkT Try.prog 128 pc128 [.c 2 (some 7), .t 3] 55 := mr128.k
theorem mw128 : MwT Try.prog 128 pc128 [.c 2 (some 7), .t 3] 55 := mr128.w
-- 129 spec.SackGet
def pc129l0 : PC := .seq (.seq (.rg [(none, .mv 27 (.t 5)),
 (none, .fa 28 2 (.t 1)),
 (none, .ld 29 none (.t 28)),
 (none, .lS 30 (.t 29)),
 (none, .bi 31 .lss (.t 27) (.t 30)),
 (none, .kp [1, 2, 4, 5, 31])])
 (.ite (.t 31) (.sk)
 (.ex 0)))
 (.seq (.blk 1 (.dr [[], [0], [], [2], [], [2, 3, 4], [], [6], [], [8], [2, 3, 4, 5, 6, 7, 8, 9], [2, 3, 4, 5, 6, 7, 8, 9, 10], [2, 3, 4, 5, 6, 7, 8, 9, 10, 11], [0, 1, 2, 3, 4, 5, 6, 7, 8, 9, 10, 11, 12], [0, 1, 2, 3, 4, 5, 6, 7, 8, 9, 10, 11, 12, 13], [0, 1, 2, 3, 4, 5, 6, 7, 8, 9, 10, 11, 12, 13, 14]]
 (.q 0 (none, .fa 34 1 (.t 4))
 (.q 1 (none, .ld 35 none (.t 34))
 (.q 2 (none, .fa 36 2 (.t 1))
 (.q 3 (none, .ld 37 none (.t 36))
 (.q 4 (none, .mv 38 (.t 5))
 (.q 6 (none, .fa 40 2 (.t 1))
 (.q 7 (none, .ld 41 none (.t 40))
 (.q 8 (none, .mv 42 (.t 5))
 (.q 9 (none, .bi 43 .add (.t 42) (.c (.n .i64 2)))
 (.alt 5 (none, .ca (some 39) 106 [.t 37, .t 38]) [true, true, false, false, false, true, true, true, true]
 (.alt 10 (none, .ca (some 44) 106 [.t 41, .t 43]) [true, true, false, false, false, false, false, false, false]
 (.q 11 (none, .bd 45 [.n .i64 0, .n .i64 0] [(0, 1, .t 39), (1, 1, .t 44)])
 (.alt 12 (none, .bs 46 2 1 [.n .i64 0, .n .i64 0] [(0, .t 45)]) [true, true, false, false, false, false, false, false, false, false]
 (.alt 13 (none, .ap 47 2 16 (.t 35) (.t 46)) [false, false, false, false, false, false, false, false, false, false]
 (.q 14 (none, .fa 48 1 (.t 4))
 (.alt 15 (none, .st 1 (.t 48) (.t 47)) [false, false, false, false, false, false, false, false, false, false, false]
 (.done)
 (.stop)))
 (.stop))
 (.stop)))
 (.stop))
 (.stop))))))))))) [1, 2, 4, 5]))
 (.rg [(none, .mv 32 (.t 5)),
 (none, .bi 33 .add (.t 32) (.c (.n .i64 4))),
 (none, .mv 5 (.t 33)),
 (none, .kp [1, 2, 4, 5])]))
def pc129 : PC := .seq (.rg [(none, .bx 1 (.t 0)),
 (none, .al 2 [.n .i64 0, .nil]),
 (none, .mv 3 (.c (.b false))),
 (none, .kp [1, 2])])
 (.seq (.seq (.rg [(none, .fa 6 0 (.t 1)),
 (none, .ld 7 none (.t 6)),
 (none, .bi 8 .neq (.t 7) (.c (.n .i64 3))),
 (none, .mv 9 (.t 8)),
 (some (9, false), .fa 10 1 (.t 1)),
 (some (9, false), .ld 11 none (.t 10)),
 (some (9, false), .bi 12 .neq (.t 11) (.c (.n .i64 0))),
 (none, .pk 13 (.t 9) (.c (.b true)) (.t 12)),
 (none, .mv 14 (.t 13)),
 (some (14, false), .fa 15 2 (.t 1)),
 (some (14, false), .ld 16 none (.t 15)),
 (some (14, false), .lS 17 (.t 16)),
 (some (14, false), .bi 18 .rem (.t 17) (.c (.n .i64 4))),
 (some (14, false), .bi 19 .neq (.t 18) (.c (.n .i64 2))),
 (none, .pk 20 (.t 14) (.c (.b true)) (.t 19)),
 (none, .kp [1, 2, 20])])
 (.ite (.t 20) (.seq (.rg [(none, .bd 21 [.n .i64 0, .nil] []),
 (none, .st 2 (.t 2) (.t 21)),
 (none, .mv 3 (.c (.b false))),
 (none, .kp [2, 3])])
 (.rt))
 (.sk)))
 (.seq (.rg [(none, .fa 22 2 (.t 1)),
 (none, .ld 23 none (.t 22)),
 (none, .ca (some 24) 106 [.t 23, .c (.n .i64 0)]),
 (none, .bs 25 2 0 [.n .i64 0, .n .i64 0] []),
 (none, .bd 26 [.n .i64 0, .nil] [(0, 1, .t 24), (1, 1, .t 25)]),
 (none, .al 4 [.n .i64 0, .nil]),
 (none, .st 2 (.t 4) (.t 26)),
 (none, .kp [1, 2, 4])])
 (.seq (.seq (.rg [(none, .mv 5 (.c (.n .i64 2))),
 (none, .kp [1, 2, 4, 5])])
 (.blk 0 (.lp pc129l0)))
 (.seq (.seq (.rg [(none, .ld 49 (some 2) (.t 4)),
 (none, .ca (some 50) 114 [.t 49]),
 (none, .un 51 .not (.t 50)),
 (none, .kp [2, 4, 51])])
 (.ite (.t 51) (.seq (.rg [(none, .bd 52 [.n .i64 0, .nil] []),
 (none, .st 2 (.t 2) (.t 52)),
 (none, .mv 3 (.c (.b false))),
 (none, .kp [2, 3])])
 (.rt))
 (.sk)))
 (.seq (.rg [(none, .ld 53 (some 2) (.t 4)),
 (none, .st 2 (.t 2) (.t 53)),
 (none, .mv 3 (.c (.b true))),
 (none, .kp [2, 3])])
 (.rt))))))
theorem mr129 : MrT Try.prog 129 pc129 [.c 2 (some 2), .t 3] 54 := fun hn h => spec_of_run (fn := Try.f129) (by kernel_rfl) rfl (by kernel_rfl) (by kernel_rfl) hn h
theorem mk129 : MkT Try.prog 129 pc129 [.c 2 (some 2), .t 3] 54 := mr129.k
theorem mw129 : MwT Try.prog 129 pc129 [.c 2 (some 2), .t 3] 54 := mr129.w
-- 130 spec.l3Diff
def pc130 : PC := .seq (.rg [(none, .mv 4 (.c (.n .i64 0))),
 (none, .kp [0, 1])])
 (.seq (.rg [(none, .mv 6 (.t 1)),
 (none, .mv 7 (.t 0)),
 (none, .un 8 .neg (.t 7)),
 (none, .ca (some 9) 43 [.t 6, .t 8]),
 (none, .mv 5 (.t 9)),
 (none, .kp [5])])
 (.seq (.seq (.rg [(none, .mv 10 (.t 5)),
 (none, .bi 11 .gtr (.t 10) (.c (.n .i64 32768))),
 (none, .kp [5, 11])])
 (.ite (.t 11) (.rg [(none, .mv 12 (.t 5)),
 (none, .bi 13 .sub (.t 12) (.c (.n .i64 65536))),
 (none, .mv 5 (.t 13)),
 (none, .kp [5])])
 (.sk)))
 (.seq (.rg [(none, .mv 14 (.t 5)),
 (none, .mv 4 (.t 14)),
 (none, .kp [4])])
 (.rt))))
theorem mr130 : MrT Try.prog 130 pc130 [.t 4] 15 := fun hn h => spec_of_run (fn := Try.f130) (by kernel_rfl) rfl (by kernel_rfl) (by kernel_rfl) hn h
theorem mk130 : MkT Try.prog 130 pc130 [.t 4] 15 := mr130.k
theorem mw130 : MwT Try.prog 130 pc130 [.t 4] 15 := mr130.w
end Go.Cap
