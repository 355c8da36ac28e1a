import Derived.Test.YtpkemdacmcjgmaaChecked
import Derived.Test.YtpkemdacmcjgmaaEngC
namespace Go.Cap
open Go Go.Proofs
set_option maxRecDepth 100000
-- 8 laws.FnExactSideSaid
def pc8 : PC := .seq (.rg [(none, .bx 1 (.t 0)),
 (none, .mv 2 (.c (.b false))),
 (none, .kp [1])])
 (.seq (.rg [(none, .mv 3 (.c (.n .i64 1048576))),
 (none, .kp [1, 3])])
 (.seq (.rg [(none, .ld 11 (some 5) (.t 1)),
 (none, .mv 12 (.t 3)),
 (none, .ca (some 13) 30 [.t 11, .t 12]),
 (none, .mv 3 (.t 13)),
 (none, .kp [1, 3])])
 (.seq (.seq (.rg [(none, .mv 14 (.t 3)),
 (none, .bi 15 .lss (.t 14) (.c (.n .i64 0))),
 (none, .kp [1, 15])])
 (.ite (.t 15) (.seq (.rg [(none, .mv 2 (.c (.b true))),
 (none, .kp [2])])
 (.rt))
 (.sk)))
 (.seq (.rg [(none, .ld 16 (some 5) (.t 1)),
 (none, .ca (some 17) 32 [.t 16]),
 (none, .ca (some 18) 31 [.t 17]),
 (none, .mv 4 (.t 18)),
 (none, .kp [1, 4])])
 (.seq (.rg [(none, .ld 19 (some 5) (.t 1)),
 (none, .ca (some 20) 32 [.t 19]),
 (none, .al 5 [.n .i64 0, .n .i64 0, .n .i64 0, .nil, .n .i64 0]),
 (none, .st 5 (.t 5) (.t 20)),
 (none, .kp [1, 4, 5])])
 (.seq (.rg [(none, .ld 21 (some 5) (.t 5)),
 (none, .ca (some 22) 33 [.t 21]),
 (none, .mv 6 (.t 22)),
 (none, .kp [1, 4, 5, 6])])
 (.seq (.seq (.rg [(none, .mv 23 (.t 6)),
 (none, .mv 24 (.t 4)),
 (none, .ca (some 25) 34 [.t 23, .t 24]),
 (none, .un 26 .not (.t 25)),
 (none, .kp [1, 4, 5, 6, 26])])
 (.ite (.t 26) (.seq (.rg [(none, .mv 2 (.c (.b false))),
 (none, .kp [2])])
 (.rt))
 (.sk)))
 (.seq (.seq (.dr [[], [], [1], [0, 1, 2], [0, 1, 2, 3]]
 (.q 0 (none, .ld 27 (some 5) (.t 5))
 (.q 1 (none, .ld 28 (some 5) (.t 1))
 (.alt 2 (none, .ca (some 29) 32 [.t 28]) [true, false]
 (.alt 3 (none, .ca (some 30) 35 [.t 27, .t 29]) [false, false]
 (.q 4 (none, .un 31 .not (.t 30))
 (.done))
 (.stop))
 (.stop)))) [1, 4, 5, 6, 31])
 (.ite (.t 31) (.seq (.rg [(none, .mv 2 (.c (.b false))),
 (none, .kp [2])])
 (.rt))
 (.sk)))
 (.seq (.rg [(none, .mv 7 (.c (.n .i64 1))),
 (none, .kp [1, 4, 5, 6, 7])])
 (.seq (.rg [(none, .ld 32 (some 5) (.t 5)),
 (none, .mv 33 (.t 7)),
 (none, .ca (some 34) 36 [.t 32, .t 33]),
 (none, .mv 7 (.t 34)),
 (none, .kp [1, 4, 6, 7])])
 (.seq (.seq (.rg [(none, .mv 35 (.t 7)),
 (none, .bi 36 .lss (.t 35) (.c (.n .i64 0))),
 (none, .mv 37 (.t 36)),
 (some (37, false), .mv 38 (.t 6)),
 (some (37, false), .mv 39 (.t 4)),
 (some (37, false), .ca (some 40) 34 [.t 38, .t 39]),
 (some (37, false), .un 41 .not (.t 40)),
 (none, .pk 42 (.t 37) (.c (.b true)) (.t 41)),
 (none, .kp [1, 4, 6, 42])])
 (.ite (.t 42) (.seq (.rg [(none, .mv 2 (.c (.b false))),
 (none, .kp [2])])
 (.rt))
 (.sk)))
 (.seq (.rg [(none, .mv 8 (.c (.n .i64 1))),
 (none, .kp [1, 4, 6, 8])])
 (.seq (.rg [(none, .mv 43 (.t 6)),
 (none, .mv 44 (.t 8)),
 (none, .ca (some 45) 37 [.t 43, .t 44]),
 (none, .mv 8 (.t 45)),
 (none, .kp [1, 4, 6, 8])])
 (.seq (.rg [(none, .mv 9 (.c (.n .i64 1))),
 (none, .kp [1, 4, 6, 8, 9])])
 (.seq (.rg [(none, .mv 46 (.t 6)),
 (none, .mv 47 (.t 9)),
 (none, .ca (some 48) 38 [.t 46, .t 47]),
 (none, .mv 9 (.t 48)),
 (none, .kp [1, 4, 6, 8, 9])])
 (.seq (.seq (.rg [(none, .mv 49 (.t 9)),
 (none, .bi 50 .lss (.t 49) (.c (.n .i64 0))),
 (none, .kp [1, 4, 6, 8, 9, 50])])
 (.ite (.t 50) (.seq (.rg [(none, .mv 2 (.c (.b false))),
 (none, .kp [2])])
 (.rt))
 (.sk)))
 (.seq (.seq (.rg [(none, .mv 51 (.t 9)),
 (none, .mv 52 (.t 8)),
 (none, .bi 53 .neq (.t 51) (.t 52)),
 (none, .kp [1, 4, 6, 8, 53])])
 (.ite (.t 53) (.seq (.rg [(none, .mv 2 (.c (.b false))),
 (none, .kp [2])])
 (.rt))
 (.sk)))
 (.seq (.rg [(none, .ld 54 (some 5) (.t 1)),
 (none, .ca (some 55) 32 [.t 54]),
 (none, .ca (some 56) 33 [.t 55]),
 (none, .mv 10 (.t 56)),
 (none, .kp [4, 6, 8, 10])])
 (.seq (.seq (.rg [(none, .mv 57 (.t 10)),
 (none, .mv 58 (.t 4)),
 (none, .ca (some 59) 34 [.t 57, .t 58]),
 (none, .un 60 .not (.t 59)),
 (none, .kp [6, 8, 60])])
 (.ite (.t 60) (.seq (.rg [(none, .mv 2 (.c (.b false))),
 (none, .kp [2])])
 (.rt))
 (.sk)))
 (.seq (.rg [(none, .mv 9 (.c (.n .i64 1))),
 (none, .kp [6, 8, 9])])
 (.seq (.rg [(none, .mv 61 (.t 6)),
 (none, .mv 62 (.t 9)),
 (none, .ca (some 63) 38 [.t 61, .t 62]),
 (none, .mv 9 (.t 63)),
 (none, .kp [8, 9])])
 (.seq (.seq (.rg [(none, .mv 64 (.t 9)),
 (none, .bi 65 .lss (.t 64) (.c (.n .i64 0))),
 (none, .kp [8, 9, 65])])
 (.ite (.t 65) (.seq (.rg [(none, .mv 2 (.c (.b false))),
 (none, .kp [2])])
 (.rt))
 (.sk)))
 (.seq (.seq (.rg [(none, .mv 66 (.t 9)),
 (none, .mv 67 (.t 8)),
 (none, .bi 68 .neq (.t 66) (.t 67)),
 (none, .kp [68])])
 (.ite (.t 68) (.seq (.rg [(none, .mv 2 (.c (.b false))),
 (none, .kp [2])])
 (.rt))
 (.sk)))
 (.seq (.rg [(none, .mv 2 (.c (.b true))),
 (none, .kp [2])])
 (.rt)))))))))))))))))))))))))
theorem mr8 : MrT Try.prog 8 pc8 [.t 2] 69 := fun hn h => spec_of_run (fn := Try.f8) (by kernel_rfl) rfl (by kernel_rfl) (by kernel_rfl) hn h
theorem mk8 : MkT Try.prog 8 pc8 [.t 2] 69 := mr8.k
theorem mw8 : MwT Try.prog 8 pc8 [.t 2] 69 := mr8.w
-- 28 impl.SerialAdd
def pc28 : PC := .seq (.rg [(none, .mv 4 (.c (.n .i64 0))),
 (none, .kp [0, 1])])
 (.seq (.seq (.rg [(none, .mv 5 (.t 0)),
 (none, .ca (some 6) 61 [.t 5]),
 (none, .un 7 .not (.t 6)),
 (none, .kp [0, 1, 7])])
 (.ite (.t 7) (.seq (.rg [(none, .mv 4 (.c (.n .i64 (-1)))),
 (none, .kp [4])])
 (.rt))
 (.sk)))
 (.seq (.rg [(none, .mv 8 (.t 0)),
 (none, .mv 9 (.t 1)),
 (none, .bi 10 .rem (.t 9) (.c (.n .i64 65536))),
 (none, .bi 11 .add (.t 8) (.t 10)),
 (none, .bi 12 .rem (.t 11) (.c (.n .i64 65536))),
 (none, .bi 13 .add (.t 12) (.c (.n .i64 65536))),
 (none, .bi 14 .rem (.t 13) (.c (.n .i64 65536))),
 (none, .mv 4 (.t 14)),
 (none, .kp [4])])
 (.rt)))
theorem mr28 : MrT Try.prog 28 pc28 [.t 4] 15 := fun hn h => spec_of_run (fn := Try.f28) (by kernel_rfl) rfl (by kernel_rfl) (by kernel_rfl) hn h
theorem mk28 : MkT Try.prog 28 pc28 [.t 4] 15 := mr28.k
theorem mw28 : MwT Try.prog 28 pc28 [.t 4] 15 := mr28.w
-- 30 laws.szSide
def pc30 : PC := .seq (.rg [(none, .bx 2 (.t 0)),
 (none, .mv 4 (.c (.n .i64 0))),
 (none, .kp [1, 2])])
 (.seq (.rg [(none, .fa 5 3 (.t 2)),
 (none, .ld 6 none (.t 5)),
 (none, .mv 7 (.t 1)),
 (none, .ca (some 8) 62 [.t 6, .t 7]),
 (none, .mv 1 (.t 8)),
 (none, .kp [1])])
 (.seq (.seq (.rg [(none, .mv 9 (.t 1)),
 (none, .bi 10 .lss (.t 9) (.c (.n .i64 0))),
 (none, .kp [1, 10])])
 (.ite (.t 10) (.seq (.rg [(none, .mv 4 (.c (.n .i64 (-1)))),
 (none, .kp [4])])
 (.rt))
 (.sk)))
 (.seq (.rg [(none, .mv 11 (.t 1)),
 (none, .mv 4 (.t 11)),
 (none, .kp [4])])
 (.rt))))
theorem mr30 : MrT Try.prog 30 pc30 [.t 4] 12 := fun hn h => spec_of_run (fn := Try.f30) (by kernel_rfl) rfl (by kernel_rfl) (by kernel_rfl) hn h
theorem mk30 : MkT Try.prog 30 pc30 [.t 4] 12 := mr30.k
theorem mw30 : MwT Try.prog 30 pc30 [.t 4] 12 := mr30.w
-- 31 spec.SideSaid
def pc31 : PC := .seq (.rg [(none, .bx 1 (.t 0)),
 (none, .mv 2 (.c .nil)),
 (none, .kp [1])])
 (.seq (.seq (.rg [(none, .ld 3 (some 5) (.t 1)),
 (none, .ca (some 4) 63 [.t 3]),
 (none, .un 5 .not (.t 4)),
 (none, .kp [1, 5])])
 (.ite (.t 5) (.seq (.rg [(none, .bs 6 4 0 [.n .i64 0, .n .i64 0, .b false, .s []] []),
 (none, .mv 2 (.t 6)),
 (none, .kp [2])])
 (.rt))
 (.sk)))
 (.seq (.rg [(none, .fa 7 3 (.t 1)),
 (none, .ld 8 none (.t 7)),
 (none, .ca (some 9) 55 [.t 8]),
 (none, .mv 2 (.t 9)),
 (none, .kp [2])])
 (.rt)))
theorem mr31 : MrT Try.prog 31 pc31 [.t 2] 10 := fun hn h => spec_of_run (fn := Try.f31) (by kernel_rfl) rfl (by kernel_rfl) (by kernel_rfl) hn h
theorem mk31 : MkT Try.prog 31 pc31 [.t 2] 10 := mr31.k
theorem mw31 : MwT Try.prog 31 pc31 [.t 2] 10 := mr31.w
-- 32 laws.toSide
def pc32 : PC := .seq (.rg [(none, .bx 1 (.t 0)),
 (none, .al 2 [.n .i64 0, .n .i64 0, .n .i64 0, .nil, .n .i64 0]),
 (none, .kp [1, 2])])
 (.seq (.rg [(none, .al 3 [.n .i64 0, .n .i64 0, .n .i64 0, .nil, .n .i64 0]),
 (none, .kp [1, 2, 3])])
 (.seq (.rg [(none, .fa 4 0 (.t 1)),
 (none, .ld 5 none (.t 4)),
 (none, .fa 6 0 (.t 3)),
 (none, .st 1 (.t 6) (.t 5)),
 (none, .kp [1, 2, 3])])
 (.seq (.rg [(none, .fa 7 1 (.t 1)),
 (none, .ld 8 none (.t 7)),
 (none, .fa 9 1 (.t 3)),
 (none, .st 1 (.t 9) (.t 8)),
 (none, .kp [1, 2, 3])])
 (.seq (.rg [(none, .fa 10 2 (.t 1)),
 (none, .ld 11 none (.t 10)),
 (none, .fa 12 2 (.t 3)),
 (none, .st 1 (.t 12) (.t 11)),
 (none, .kp [1, 2, 3])])
 (.seq (.rg [(none, .fa 13 3 (.t 1)),
 (none, .ld 14 none (.t 13)),
 (none, .ca (some 15) 64 [.t 14]),
 (none, .fa 16 3 (.t 3)),
 (none, .st 1 (.t 16) (.t 15)),
 (none, .kp [1, 2, 3])])
 (.seq (.rg [(none, .fa 17 4 (.t 1)),
 (none, .ld 18 none (.t 17)),
 (none, .fa 19 4 (.t 3)),
 (none, .st 1 (.t 19) (.t 18)),
 (none, .kp [2, 3])])
 (.seq (.rg [(none, .ld 20 (some 5) (.t 3)),
 (none, .st 5 (.t 2) (.t 20)),
 (none, .kp [2])])
 (.rt))))))))
theorem mr32 : MrT Try.prog 32 pc32 [.c 2 (some 5)] 21 := fun hn h => spec_of_run (fn := Try.f32) (by kernel_rfl) rfl (by kernel_rfl) (by kernel_rfl) hn h
theorem mk32 : MkT Try.prog 32 pc32 [.c 2 (some 5)] 21 := mr32.k
theorem mw32 : MwT Try.prog 32 pc32 [.c 2 (some 5)] 21 := mr32.w
-- 33 impl.SideSaid
def pc33 : PC := .seq (.rg [(none, .bx 1 (.t 0)),
 (none, .mv 2 (.c .nil)),
 (none, .kp [1])])
 (.seq (.seq (.rg [(none, .ld 3 (some 5) (.t 1)),
 (none, .ca (some 4) 40 [.t 3]),
 (none, .un 5 .not (.t 4)),
 (none, .kp [1, 5])])
 (.ite (.t 5) (.seq (.rg [(none, .mv 2 (.c .nil)),
 (none, .kp [2])])
 (.rt))
 (.sk)))
 (.seq (.rg [(none, .fa 6 3 (.t 1)),
 (none, .ld 7 none (.t 6)),
 (none, .ca (some 8) 65 [.t 7]),
 (none, .mv 2 (.t 8)),
 (none, .kp [2])])
 (.rt)))
theorem mr33 : MrT Try.prog 33 pc33 [.t 2] 9 := fun hn h => spec_of_run (fn := Try.f33) (by kernel_rfl) rfl (by kernel_rfl) (by kernel_rfl) hn h
theorem mk33 : MkT Try.prog 33 pc33 [.t 2] 9 := mr33.k
theorem mw33 : MwT Try.prog 33 pc33 [.t 2] 9 := mr33.w
-- 34 laws.eqMessageS
def pc34l0 : PC := .seq (.seq (.rg [(none, .mv 11 (.t 5)),
 (none, .mv 12 (.t 0)),
 (none, .ln 13 (.t 12)),
 (none, .bi 14 .lss (.t 11) (.t 13)),
 (none, .kp [0, 1, 5, 14])])
 (.ite (.t 14) (.sk)
 (.ex 0)))
 (.seq (.blk 1 (.seq (.dr [[], [], [0, 1], [0, 1, 2], [], [], [4, 5], [4, 5, 6], [0, 1, 2, 3, 4, 5, 6, 7], [0, 1, 2, 3, 4, 5, 6, 7, 8]]
 (.q 0 (none, .mv 17 (.t 0))
 (.q 1 (none, .mv 18 (.t 5))
 (.q 2 (none, .ia 19 4 (.t 17) (.t 18))
 (.q 3 (none, .ld 20 (some 4) (.t 19))
 (.q 4 (none, .mv 21 (.t 1))
 (.q 5 (none, .mv 22 (.t 5))
 (.q 6 (none, .ia 23 4 (.t 21) (.t 22))
 (.q 7 (none, .ld 24 (some 4) (.t 23))
 (.alt 8 (none, .ca (some 25) 66 [.t 20, .t 24]) [false, false, false, false, false, false, false, false]
 (.q 9 (none, .un 26 .not (.t 25))
 (.done))
 (.stop)))))))))) [0, 1, 5, 26])
 (.ite (.t 26) (.seq (.rg [(none, .mv 4 (.c (.b false))),
 (none, .kp [4])])
 (.rt))
 (.sk))))
 (.rg [(none, .mv 15 (.t 5)),
 (none, .bi 16 .add (.t 15) (.c (.n .i64 1))),
 (none, .mv 5 (.t 16)),
 (none, .kp [0, 1, 5])]))
def pc34 : PC := .seq (.rg [(none, .mv 4 (.c (.b false))),
 (none, .kp [0, 1])])
 (.seq (.seq (.rg [(none, .mv 6 (.t 0)),
 (none, .ln 7 (.t 6)),
 (none, .mv 8 (.t 1)),
 (none, .ln 9 (.t 8)),
 (none, .bi 10 .neq (.t 7) (.t 9)),
 (none, .kp [0, 1, 10])])
 (.ite (.t 10) (.seq (.rg [(none, .mv 4 (.c (.b false))),
 (none, .kp [4])])
 (.rt))
 (.sk)))
 (.seq (.seq (.rg [(none, .mv 5 (.c (.n .i64 0))),
 (none, .kp [0, 1, 5])])
 (.blk 0 (.lp pc34l0)))
 (.seq (.rg [(none, .mv 4 (.c (.b true))),
 (none, .kp [4])])
 (.rt))))
theorem mr34 : MrT Try.prog 34 pc34 [.t 4] 27 := fun hn h => spec_of_run (fn := Try.f34) (by kernel_rfl) rfl (by kernel_rfl) (by kernel_rfl) hn h
theorem mk34 : MkT Try.prog 34 pc34 [.t 4] 27 := mr34.k
theorem mw34 : MwT Try.prog 34 pc34 [.t 4] 27 := mr34.w
-- 35 laws.eqSide
def pc35 : PC := .seq (.rg [(none, .bx 2 (.t 0)),
 (none, .bx 3 (.t 1)),
 (none, .mv 4 (.c (.b false))),
 (none, .kp [2, 3])])
 (.seq (.seq (.rg [(none, .fa 5 0 (.t 2)),
 (none, .ld 6 none (.t 5)),
 (none, .fa 7 0 (.t 3)),
 (none, .ld 8 none (.t 7)),
 (none, .bi 9 .neq (.t 6) (.t 8)),
 (none, .kp [2, 3, 9])])
 (.ite (.t 9) (.seq (.rg [(none, .mv 4 (.c (.b false))),
 (none, .kp [4])])
 (.rt))
 (.sk)))
 (.seq (.seq (.rg [(none, .fa 10 1 (.t 2)),
 (none, .ld 11 none (.t 10)),
 (none, .fa 12 1 (.t 3)),
 (none, .ld 13 none (.t 12)),
 (none, .bi 14 .neq (.t 11) (.t 13)),
 (none, .kp [2, 3, 14])])
 (.ite (.t 14) (.seq (.rg [(none, .mv 4 (.c (.b false))),
 (none, .kp [4])])
 (.rt))
 (.sk)))
 (.seq (.seq (.rg [(none, .fa 15 2 (.t 2)),
 (none, .ld 16 none (.t 15)),
 (none, .fa 17 2 (.t 3)),
 (none, .ld 18 none (.t 17)),
 (none, .bi 19 .neq (.t 16) (.t 18)),
 (none, .kp [2, 3, 19])])
 (.ite (.t 19) (.seq (.rg [(none, .mv 4 (.c (.b false))),
 (none, .kp [4])])
 (.rt))
 (.sk)))
 (.seq (.seq (.rg [(none, .fa 20 3 (.t 2)),
 (none, .ld 21 none (.t 20)),
 (none, .fa 22 3 (.t 3)),
 (none, .ld 23 none (.t 22)),
 (none, .ca (some 24) 41 [.t 21, .t 23]),
 (none, .un 25 .not (.t 24)),
 (none, .kp [2, 3, 25])])
 (.ite (.t 25) (.seq (.rg [(none, .mv 4 (.c (.b false))),
 (none, .kp [4])])
 (.rt))
 (.sk)))
 (.seq (.seq (.rg [(none, .fa 26 4 (.t 2)),
 (none, .ld 27 none (.t 26)),
 (none, .fa 28 4 (.t 3)),
 (none, .ld 29 none (.t 28)),
 (none, .bi 30 .neq (.t 27) (.t 29)),
 (none, .kp [30])])
 (.ite (.t 30) (.seq (.rg [(none, .mv 4 (.c (.b false))),
 (none, .kp [4])])
 (.rt))
 (.sk)))
 (.seq (.rg [(none, .mv 4 (.c (.b true))),
 (none, .kp [4])])
 (.rt)))))))
theorem mr35 : MrT Try.prog 35 pc35 [.t 4] 31 := fun hn h => spec_of_run (fn := Try.f35) (by kernel_rfl) rfl (by kernel_rfl) (by kernel_rfl) hn h
theorem mk35 : MkT Try.prog 35 pc35 [.t 4] 31 := mr35.k
theorem mw35 : MwT Try.prog 35 pc35 [.t 4] 31 := mr35.w
-- 36 laws.markSide
def pc36 : PC := .seq (.rg [(none, .bx 2 (.t 0)),
 (none, .mv 4 (.c (.n .i64 0))),
 (none, .kp [1, 2])])
 (.seq (.rg [(none, .fa 5 3 (.t 2)),
 (none, .ld 6 none (.t 5)),
 (none, .mv 7 (.t 1)),
 (none, .ca (some 8) 42 [.t 6, .t 7]),
 (none, .mv 1 (.t 8)),
 (none, .kp [1])])
 (.seq (.rg [(none, .mv 9 (.t 1)),
 (none, .mv 4 (.t 9)),
 (none, .kp [4])])
 (.rt)))
theorem mr36 : MrT Try.prog 36 pc36 [.t 4] 10 := fun hn h => spec_of_run (fn := Try.f36) (by kernel_rfl) rfl (by kernel_rfl) (by kernel_rfl) hn h
theorem mk36 : MkT Try.prog 36 pc36 [.t 4] 10 := mr36.k
theorem mw36 : MwT Try.prog 36 pc36 [.t 4] 10 := mr36.w
-- 37 laws.markMessageS
def pc37l0 : PC := .seq (.seq (.rg [(none, .mv 6 (.t 5)),
 (none, .mv 7 (.t 0)),
 (none, .ln 8 (.t 7)),
 (none, .bi 9 .lss (.t 6) (.t 8)),
 (none, .kp [0, 1, 5, 9])])
 (.ite (.t 9) (.sk)
 (.ex 0)))
 (.seq (.blk 1 (.seq (.rg [(none, .mv 12 (.t 0)),
 (none, .mv 13 (.t 5)),
 (none, .mv 14 (.t 1)),
 (none, .ia 15 4 (.t 12) (.t 13)),
 (none, .fa 16 0 (.t 15)),
 (none, .st 1 (.t 16) (.t 14)),
 (none, .kp [0, 1, 5])])
 (.seq (.rg [(none, .mv 17 (.t 1)),
 (none, .bi 18 .add (.t 17) (.c (.n .i64 1))),
 (none, .mv 1 (.t 18)),
 (none, .kp [0, 1, 5])])
 (.seq (.rg [(none, .mv 19 (.t 0)),
 (none, .mv 20 (.t 5)),
 (none, .mv 21 (.t 1)),
 (none, .ia 22 4 (.t 19) (.t 20)),
 (none, .fa 23 1 (.t 22)),
 (none, .st 1 (.t 23) (.t 21)),
 (none, .kp [0, 1, 5])])
 (.seq (.rg [(none, .mv 24 (.t 1)),
 (none, .bi 25 .add (.t 24) (.c (.n .i64 1))),
 (none, .mv 1 (.t 25)),
 (none, .kp [0, 1, 5])])
 (.seq (.rg [(none, .mv 26 (.t 0)),
 (none, .mv 27 (.t 5)),
 (none, .mv 28 (.t 1)),
 (none, .bi 29 .rem (.t 28) (.c (.n .i64 3))),
 (none, .bi 30 .eql (.t 29) (.c (.n .i64 0))),
 (none, .ia 31 4 (.t 26) (.t 27)),
 (none, .fa 32 2 (.t 31)),
 (none, .st 1 (.t 32) (.t 30)),
 (none, .kp [0, 1, 5])])
 (.seq (.rg [(none, .mv 33 (.t 1)),
 (none, .bi 34 .add (.t 33) (.c (.n .i64 1))),
 (none, .mv 1 (.t 34)),
 (none, .kp [0, 1, 5])])
 (.seq (.rg [(none, .mv 35 (.t 0)),
 (none, .mv 36 (.t 5)),
 (none, .mv 37 (.t 1)),
 (none, .ca (some 38) 67 [.t 37]),
 (none, .ia 39 4 (.t 35) (.t 36)),
 (none, .fa 40 3 (.t 39)),
 (none, .st 1 (.t 40) (.t 38)),
 (none, .kp [0, 1, 5])])
 (.rg [(none, .mv 41 (.t 1)),
 (none, .bi 42 .add (.t 41) (.c (.n .i64 1))),
 (none, .mv 1 (.t 42)),
 (none, .kp [0, 1, 5])])))))))))
 (.rg [(none, .mv 10 (.t 5)),
 (none, .bi 11 .add (.t 10) (.c (.n .i64 1))),
 (none, .mv 5 (.t 11)),
 (none, .kp [0, 1, 5])]))
def pc37 : PC := .seq (.rg [(none, .mv 4 (.c (.n .i64 0))),
 (none, .kp [0, 1])])
 (.seq (.seq (.rg [(none, .mv 5 (.c (.n .i64 0))),
 (none, .kp [0, 1, 5])])
 (.blk 0 (.lp pc37l0)))
 (.seq (.rg [(none, .mv 43 (.t 1)),
 (none, .mv 4 (.t 43)),
 (none, .kp [4])])
 (.rt)))
theorem mr37 : MrT Try.prog 37 pc37 [.t 4] 44 := fun hn h => spec_of_run (fn := Try.f37) (by kernel_rfl) rfl (by kernel_rfl) (by kernel_rfl) hn h
theorem mk37 : MkT Try.prog 37 pc37 [.t 4] 44 := mr37.k
theorem mw37 : MwT Try.prog 37 pc37 [.t 4] 44 := mr37.w
-- 38 laws.heldMessageS
def pc38l0 : PC := .seq (.seq (.rg [(none, .mv 6 (.t 5)),
 (none, .mv 7 (.t 0)),
 (none, .ln 8 (.t 7)),
 (none, .bi 9 .lss (.t 6) (.t 8)),
 (none, .kp [0, 1, 5, 9])])
 (.ite (.t 9) (.sk)
 (.ex 0)))
 (.seq (.blk 1 (.seq (.seq (.rg [(none, .mv 12 (.t 0)),
 (none, .mv 13 (.t 5)),
 (none, .ia 14 4 (.t 12) (.t 13)),
 (none, .fa 15 0 (.t 14)),
 (none, .ld 16 none (.t 15)),
 (none, .mv 17 (.t 1)),
 (none, .bi 18 .neq (.t 16) (.t 17)),
 (none, .kp [0, 1, 5, 18])])
 (.ite (.t 18) (.seq (.rg [(none, .mv 4 (.c (.n .i64 (-1)))),
 (none, .kp [4])])
 (.rt))
 (.sk)))
 (.seq (.rg [(none, .mv 19 (.t 1)),
 (none, .bi 20 .add (.t 19) (.c (.n .i64 1))),
 (none, .mv 1 (.t 20)),
 (none, .kp [0, 1, 5])])
 (.seq (.seq (.rg [(none, .mv 21 (.t 0)),
 (none, .mv 22 (.t 5)),
 (none, .ia 23 4 (.t 21) (.t 22)),
 (none, .fa 24 1 (.t 23)),
 (none, .ld 25 none (.t 24)),
 (none, .mv 26 (.t 1)),
 (none, .bi 27 .neq (.t 25) (.t 26)),
 (none, .kp [0, 1, 5, 27])])
 (.ite (.t 27) (.seq (.rg [(none, .mv 4 (.c (.n .i64 (-1)))),
 (none, .kp [4])])
 (.rt))
 (.sk)))
 (.seq (.rg [(none, .mv 28 (.t 1)),
 (none, .bi 29 .add (.t 28) (.c (.n .i64 1))),
 (none, .mv 1 (.t 29)),
 (none, .kp [0, 1, 5])])
 (.seq (.seq (.rg [(none, .mv 30 (.t 0)),
 (none, .mv 31 (.t 5)),
 (none, .ia 32 4 (.t 30) (.t 31)),
 (none, .fa 33 2 (.t 32)),
 (none, .ld 34 none (.t 33)),
 (none, .mv 35 (.t 1)),
 (none, .bi 36 .rem (.t 35) (.c (.n .i64 3))),
 (none, .bi 37 .eql (.t 36) (.c (.n .i64 0))),
 (none, .bb 38 true (.t 34) (.t 37)),
 (none, .kp [0, 1, 5, 38])])
 (.ite (.t 38) (.seq (.rg [(none, .mv 4 (.c (.n .i64 (-1)))),
 (none, .kp [4])])
 (.rt))
 (.sk)))
 (.seq (.rg [(none, .mv 39 (.t 1)),
 (none, .bi 40 .add (.t 39) (.c (.n .i64 1))),
 (none, .mv 1 (.t 40)),
 (none, .kp [0, 1, 5])])
 (.seq (.seq (.dr [[], [], [0, 1], [0, 1, 2], [0, 1, 2, 3], [], [5], [0, 1, 2, 3, 4, 5, 6]]
 (.q 0 (none, .mv 41 (.t 0))
 (.q 1 (none, .mv 42 (.t 5))
 (.q 2 (none, .ia 43 4 (.t 41) (.t 42))
 (.q 3 (none, .fa 44 3 (.t 43))
 (.q 4 (none, .ld 45 none (.t 44))
 (.q 5 (none, .mv 46 (.t 1))
 (.alt 6 (none, .ca (some 47) 67 [.t 46]) [true, true, true, true, true, false]
 (.q 7 (none, .bi 48 .neq (.t 45) (.t 47))
 (.done))
 (.stop)))))))) [0, 1, 5, 48])
 (.ite (.t 48) (.seq (.rg [(none, .mv 4 (.c (.n .i64 (-1)))),
 (none, .kp [4])])
 (.rt))
 (.sk)))
 (.rg [(none, .mv 49 (.t 1)),
 (none, .bi 50 .add (.t 49) (.c (.n .i64 1))),
 (none, .mv 1 (.t 50)),
 (none, .kp [0, 1, 5])])))))))))
 (.rg [(none, .mv 10 (.t 5)),
 (none, .bi 11 .add (.t 10) (.c (.n .i64 1))),
 (none, .mv 5 (.t 11)),
 (none, .kp [0, 1, 5])]))
def pc38 : PC := .seq (.rg [(none, .mv 4 (.c (.n .i64 0))),
 (none, .kp [0, 1])])
 (.seq (.seq (.rg [(none, .mv 5 (.c (.n .i64 0))),
 (none, .kp [0, 1, 5])])
 (.blk 0 (.lp pc38l0)))
 (.seq (.rg [(none, .mv 51 (.t 1)),
 (none, .mv 4 (.t 51)),
 (none, .kp [4])])
 (.rt)))
theorem mr38 : MrT Try.prog 38 pc38 [.t 4] 52 := fun hn h => spec_of_run (fn := Try.f38) (by kernel_rfl) rfl (by kernel_rfl) (by kernel_rfl) hn h
theorem mk38 : MkT Try.prog 38 pc38 [.t 4] 52 := mr38.k
theorem mw38 : MwT Try.prog 38 pc38 [.t 4] 52 := mr38.w
-- 40 impl.SideValid
def pc40l0 : PC := .seq (.rg [(none, .bi 74 .lss (.t 73) (.t 72)),
 (none, .kp [1, 71, 72, 73, 74])])
 (.seq (.ite (.t 74) (.sk)
 (.ex 0))
 (.seq (.blk 1 (.seq (.rg [(none, .mv 75 (.t 73)),
 (none, .ia 76 7 (.t 71) (.t 73)),
 (none, .ld 77 (some 7) (.t 76)),
 (none, .al 4 [.n .i64 0, .n .i64 0, .n .i64 0, .b false, .b false, .b false, .s []]),
 (none, .mv 3 (.t 75)),
 (none, .st 7 (.t 4) (.t 77)),
 (none, .kp [1, 3, 4, 71, 72, 73])])
 (.seq (.dr [[], [0], [0, 1], [0, 1, 2], [0, 1, 2, 3], [0, 1, 2, 3, 4], [0, 1, 2, 3], [0, 1, 2, 3, 6], [0, 1, 2, 3], [0, 1, 2, 3, 6, 7, 8], [0, 1, 2, 3, 4, 5, 6, 7, 8, 9], [0, 1, 2, 3, 4, 5, 6, 7, 8, 9, 10], [0, 1, 2, 3, 4, 5, 6, 7, 8, 9, 10, 11], [0, 1, 2, 3, 4, 5, 6, 7, 8, 9, 10, 11, 12], [0, 1, 2, 3, 4, 5, 6, 7, 8, 9, 10, 11, 12, 13], [0, 1, 2, 3, 4, 5, 6, 7, 8, 9, 10, 11, 12], [0, 1, 2, 3, 4, 5, 6, 7, 8, 9, 10, 11, 12, 15], [0, 1, 2, 3, 4, 5, 6, 7, 8, 9, 10, 11, 12, 13, 14, 15, 16], [0, 1, 2, 3, 4, 5, 6, 7, 8, 9, 10, 11, 12, 13, 14, 15, 16, 17], [0, 1, 2, 3, 4, 5, 6, 7, 8, 9, 10, 11, 12, 13, 14, 15, 16, 17, 18], [0, 1, 2, 3, 4, 5, 6, 7, 8, 9, 10, 11, 12, 13, 14, 15, 16, 17, 18, 19], [0, 1, 2, 3, 4, 5, 6, 7, 8, 9, 10, 11, 12, 13, 14, 15, 16, 17, 18, 19, 20], [0, 1, 2, 3, 4, 5, 6, 7, 8, 9, 10, 11, 12, 13, 14, 15, 16, 17, 18, 19], [0, 1, 2, 3, 4, 5, 6, 7, 8, 9, 10, 11, 12, 13, 14, 15, 16, 17, 18, 19, 20, 21, 22], [0, 1, 2, 3, 4, 5, 6, 7, 8, 9, 10, 11, 12, 13, 14, 15, 16, 17, 18, 19], [0, 1, 2, 3, 4, 5, 6, 7, 8, 9, 10, 11, 12, 13, 14, 15, 16, 17, 18, 19, 20, 21, 22, 23, 24], [0, 1, 2, 3, 4, 5, 6, 7, 8, 9, 10, 11, 12, 13, 14, 15, 16, 17, 18, 19, 20, 21, 22, 23, 24, 25], [0, 1, 2, 3, 4, 5, 6, 7, 8, 9, 10, 11, 12, 13, 14, 15, 16, 17, 18, 19, 20, 21, 22, 23, 24, 25, 26]]
 (.q 0 (none, .ld 78 (some 7) (.t 4))
 (.alt 1 (none, .ca (some 79) 69 [.t 78]) [false]
 (.q 2 (none, .un 80 .not (.t 79))
 (.q 3 (none, .mv 81 (.t 80))
 (.q 4 (some (81, false), .fa 82 0 (.t 4))
 (.q 5 (some (81, false), .ld 83 none (.t 82))
 (.q 6 (some (81, false), .fa 84 2 (.t 1))
 (.q 7 (some (81, false), .ld 85 none (.t 84))
 (.q 8 (some (81, false), .mv 86 (.t 3))
 (.alt 9 (some (81, false), .ca (some 87) 28 [.t 85, .t 86]) [false, false, false, true, true, false, false, false]
 (.q 10 (some (81, false), .bi 88 .neq (.t 83) (.t 87))
 (.q 11 (none, .pk 89 (.t 81) (.c (.b true)) (.t 88))
 (.q 12 (none, .mv 90 (.t 89))
 (.q 13 (some (90, false), .fa 91 1 (.t 4))
 (.q 14 (some (90, false), .ld 92 none (.t 91))
 (.q 15 (some (90, false), .fa 93 1 (.t 1))
 (.q 16 (some (90, false), .ld 94 none (.t 93))
 (.q 17 (some (90, false), .bi 95 .geq (.t 92) (.t 94))
 (.q 18 (none, .pk 96 (.t 90) (.c (.b true)) (.t 95))
 (.q 19 (none, .mv 97 (.t 96))
 (.q 20 (some (97, false), .fa 98 3 (.t 1))
 (.q 21 (some (97, false), .ld 99 none (.t 98))
 (.q 22 (some (97, false), .mv 100 (.t 3))
 (.q 23 (some (97, false), .sc 101 7 (.t 99) none (some (.t 100)))
 (.q 24 (some (97, false), .ld 102 (some 7) (.t 4))
 (.alt 25 (some (97, false), .ca (some 103) 70 [.t 101, .t 102]) [false, false, false, false, false, false, false, false, false, false, false, false, false, false, false, false, false, false, false, false, false, false, false]
 (.q 26 (some (97, false), .un 104 .not (.t 103))
 (.q 27 (none, .pk 105 (.t 97) (.c (.b true)) (.t 104))
 (.done)))
 (.stop)))))))))))))))))
 (.stop)))))))))
 (.stop))) [1, 71, 72, 73, 105])
 (.ite (.t 105) (.seq (.rg [(none, .mv 2 (.c (.b false))),
 (none, .kp [2])])
 (.rt))
 (.sk)))))
 (.rg [(none, .bi 106 .add (.t 73) (.c (.n .i64 1))),
 (none, .mv 73 (.t 106)),
 (none, .kp [1, 71, 72, 73])])))
def pc40 : PC := .seq (.rg [(none, .bx 1 (.t 0)),
 (none, .mv 2 (.c (.b false))),
 (none, .kp [1])])
 (.seq (.seq (.rg [(none, .fa 5 0 (.t 1)),
 (none, .ld 6 none (.t 5)),
 (none, .bi 7 .eql (.t 6) (.c (.n .i64 0))),
 (none, .kp [1, 7])])
 (.ite (.t 7) (.seq (.rg [(none, .fa 8 1 (.t 1)),
 (none, .ld 9 none (.t 8)),
 (none, .bi 10 .eql (.t 9) (.c (.n .i64 0))),
 (none, .mv 11 (.t 10)),
 (some (11, true), .fa 12 2 (.t 1)),
 (some (11, true), .ld 13 none (.t 12)),
 (some (11, true), .bi 14 .eql (.t 13) (.c (.n .i64 0))),
 (none, .pk 15 (.t 11) (.t 14) (.c (.b false))),
 (none, .mv 16 (.t 15)),
 (some (16, true), .fa 17 3 (.t 1)),
 (some (16, true), .ld 18 none (.t 17)),
 (some (16, true), .ln 19 (.t 18)),
 (some (16, true), .bi 20 .eql (.t 19) (.c (.n .i64 0))),
 (none, .pk 21 (.t 16) (.t 20) (.c (.b false))),
 (none, .mv 22 (.t 21)),
 (some (22, true), .fa 23 4 (.t 1)),
 (some (22, true), .ld 24 none (.t 23)),
 (some (22, true), .bi 25 .eql (.t 24) (.c (.n .i64 0))),
 (none, .pk 26 (.t 22) (.t 25) (.c (.b false))),
 (none, .mv 2 (.t 26)),
 (none, .kp [2])])
 (.rt))
 (.sk)))
 (.seq (.seq (.rg [(none, .fa 27 0 (.t 1)),
 (none, .ld 28 none (.t 27)),
 (none, .bi 29 .lss (.t 28) (.c (.n .i64 1))),
 (none, .mv 30 (.t 29)),
 (some (30, false), .fa 31 0 (.t 1)),
 (some (30, false), .ld 32 none (.t 31)),
 (some (30, false), .bi 33 .gtr (.t 32) (.c (.n .i64 4294967295))),
 (none, .pk 34 (.t 30) (.c (.b true)) (.t 33)),
 (none, .mv 35 (.t 34)),
 (some (35, false), .fa 36 1 (.t 1)),
 (some (35, false), .ld 37 none (.t 36)),
 (some (35, false), .bi 38 .lss (.t 37) (.c (.n .i64 1))),
 (none, .pk 39 (.t 35) (.c (.b true)) (.t 38)),
 (none, .mv 40 (.t 39)),
 (some (40, false), .fa 41 1 (.t 1)),
 (some (40, false), .ld 42 none (.t 41)),
 (some (40, false), .bi 43 .gtr (.t 42) (.c (.n .i64 4))),
 (none, .pk 44 (.t 40) (.c (.b true)) (.t 43)),
 (none, .mv 45 (.t 44)),
 (some (45, false), .fa 46 2 (.t 1)),
 (some (45, false), .ld 47 none (.t 46)),
 (some (45, false), .ca (some 48) 61 [.t 47]),
 (some (45, false), .un 49 .not (.t 48)),
 (none, .pk 50 (.t 45) (.c (.b true)) (.t 49)),
 (none, .mv 51 (.t 50)),
 (some (51, false), .fa 52 3 (.t 1)),
 (some (51, false), .ld 53 none (.t 52)),
 (some (51, false), .ln 54 (.t 53)),
 (some (51, false), .bi 55 .gtr (.t 54) (.c (.n .i64 12))),
 (none, .pk 56 (.t 51) (.c (.b true)) (.t 55)),
 (none, .mv 57 (.t 56)),
 (some (57, false), .fa 58 4 (.t 1)),
 (some (57, false), .ld 59 none (.t 58)),
 (some (57, false), .bi 60 .lss (.t 59) (.c (.n .i64 0))),
 (none, .pk 61 (.t 57) (.c (.b true)) (.t 60)),
 (none, .mv 62 (.t 61)),
 (some (62, false), .fa 63 4 (.t 1)),
 (some (62, false), .ld 64 none (.t 63)),
 (some (62, false), .fa 65 3 (.t 1)),
 (some (62, false), .ld 66 none (.t 65)),
 (some (62, false), .ln 67 (.t 66)),
 (some (62, false), .bi 68 .gtr (.t 64) (.t 67)),
 (none, .pk 69 (.t 62) (.c (.b true)) (.t 68)),
 (none, .kp [1, 69])])
 (.ite (.t 69) (.seq (.rg [(none, .mv 2 (.c (.b false))),
 (none, .kp [2])])
 (.rt))
 (.sk)))
 (.seq (.seq (.rg [(none, .fa 70 3 (.t 1)),
 (none, .ld 71 none (.t 70)),
 (none, .ln 72 (.t 71)),
 (none, .mv 73 (.c (.n .i64 0))),
 (none, .kp [1, 71, 72, 73])])
 (.blk 0 (.lp pc40l0)))
 (.seq (.rg [(none, .mv 2 (.c (.b true))),
 (none, .kp [2])])
 (.rt)))))
theorem mr40 : MrT Try.prog 40 pc40 [.t 2] 107 := fun hn h => spec_of_run (fn := Try.f40) (by kernel_rfl) rfl (by kernel_rfl) (by kernel_rfl) hn h
theorem mk40 : MkT Try.prog 40 pc40 [.t 2] 107 := mr40.k
theorem mw40 : MwT Try.prog 40 pc40 [.t 2] 107 := mr40.w
-- 41 laws.eqDataS
def pc41l0 : PC := .seq (.seq (.rg [(none, .mv 11 (.t 5)),
 (none, .mv 12 (.t 0)),
 (none, .ln 13 (.t 12)),
 (none, .bi 14 .lss (.t 11) (.t 13)),
 (none, .kp [0, 1, 5, 14])])
 (.ite (.t 14) (.sk)
 (.ex 0)))
 (.seq (.blk 1 (.seq (.dr [[], [], [0, 1], [0, 1, 2], [], [], [4, 5], [4, 5, 6], [0, 1, 2, 3, 4, 5, 6, 7], [0, 1, 2, 3, 4, 5, 6, 7, 8]]
 (.q 0 (none, .mv 17 (.t 0))
 (.q 1 (none, .mv 18 (.t 5))
 (.q 2 (none, .ia 19 7 (.t 17) (.t 18))
 (.q 3 (none, .ld 20 (some 7) (.t 19))
 (.q 4 (none, .mv 21 (.t 1))
 (.q 5 (none, .mv 22 (.t 5))
 (.q 6 (none, .ia 23 7 (.t 21) (.t 22))
 (.q 7 (none, .ld 24 (some 7) (.t 23))
 (.alt 8 (none, .ca (some 25) 71 [.t 20, .t 24]) [false, false, false, false, false, false, false, false]
 (.q 9 (none, .un 26 .not (.t 25))
 (.done))
 (.stop)))))))))) [0, 1, 5, 26])
 (.ite (.t 26) (.seq (.rg [(none, .mv 4 (.c (.b false))),
 (none, .kp [4])])
 (.rt))
 (.sk))))
 (.rg [(none, .mv 15 (.t 5)),
 (none, .bi 16 .add (.t 15) (.c (.n .i64 1))),
 (none, .mv 5 (.t 16)),
 (none, .kp [0, 1, 5])]))
def pc41 : PC := .seq (.rg [(none, .mv 4 (.c (.b false))),
 (none, .kp [0, 1])])
 (.seq (.seq (.rg [(none, .mv 6 (.t 0)),
 (none, .ln 7 (.t 6)),
 (none, .mv 8 (.t 1)),
 (none, .ln 9 (.t 8)),
 (none, .bi 10 .neq (.t 7) (.t 9)),
 (none, .kp [0, 1, 10])])
 (.ite (.t 10) (.seq (.rg [(none, .mv 4 (.c (.b false))),
 (none, .kp [4])])
 (.rt))
 (.sk)))
 (.seq (.seq (.rg [(none, .mv 5 (.c (.n .i64 0))),
 (none, .kp [0, 1, 5])])
 (.blk 0 (.lp pc41l0)))
 (.seq (.rg [(none, .mv 4 (.c (.b true))),
 (none, .kp [4])])
 (.rt))))
theorem mr41 : MrT Try.prog 41 pc41 [.t 4] 27 := fun hn h => spec_of_run (fn := Try.f41) (by kernel_rfl) rfl (by kernel_rfl) (by kernel_rfl) hn h
theorem mk41 : MkT Try.prog 41 pc41 [.t 4] 27 := mr41.k
theorem mw41 : MwT Try.prog 41 pc41 [.t 4] 27 := mr41.w
-- 42 laws.markDataS
def pc42l0 : PC := .seq (.seq (.rg [(none, .mv 6 (.t 5)),
 (none, .mv 7 (.t 0)),
 (none, .ln 8 (.t 7)),
 (none, .bi 9 .lss (.t 6) (.t 8)),
 (none, .kp [0, 1, 5, 9])])
 (.ite (.t 9) (.sk)
 (.ex 0)))
 (.seq (.blk 1 (.seq (.rg [(none, .mv 12 (.t 0)),
 (none, .mv 13 (.t 5)),
 (none, .mv 14 (.t 1)),
 (none, .ia 15 7 (.t 12) (.t 13)),
 (none, .fa 16 0 (.t 15)),
 (none, .st 1 (.t 16) (.t 14)),
 (none, .kp [0, 1, 5])])
 (.seq (.rg [(none, .mv 17 (.t 1)),
 (none, .bi 18 .add (.t 17) (.c (.n .i64 1))),
 (none, .mv 1 (.t 18)),
 (none, .kp [0, 1, 5])])
 (.seq (.rg [(none, .mv 19 (.t 0)),
 (none, .mv 20 (.t 5)),
 (none, .mv 21 (.t 1)),
 (none, .ia 22 7 (.t 19) (.t 20)),
 (none, .fa 23 1 (.t 22)),
 (none, .st 1 (.t 23) (.t 21)),
 (none, .kp [0, 1, 5])])
 (.seq (.rg [(none, .mv 24 (.t 1)),
 (none, .bi 25 .add (.t 24) (.c (.n .i64 1))),
 (none, .mv 1 (.t 25)),
 (none, .kp [0, 1, 5])])
 (.seq (.rg [(none, .mv 26 (.t 0)),
 (none, .mv 27 (.t 5)),
 (none, .mv 28 (.t 1)),
 (none, .ia 29 7 (.t 26) (.t 27)),
 (none, .fa 30 2 (.t 29)),
 (none, .st 1 (.t 30) (.t 28)),
 (none, .kp [0, 1, 5])])
 (.seq (.rg [(none, .mv 31 (.t 1)),
 (none, .bi 32 .add (.t 31) (.c (.n .i64 1))),
 (none, .mv 1 (.t 32)),
 (none, .kp [0, 1, 5])])
 (.seq (.rg [(none, .mv 33 (.t 0)),
 (none, .mv 34 (.t 5)),
 (none, .mv 35 (.t 1)),
 (none, .bi 36 .rem (.t 35) (.c (.n .i64 3))),
 (none, .bi 37 .eql (.t 36) (.c (.n .i64 0))),
 (none, .ia 38 7 (.t 33) (.t 34)),
 (none, .fa 39 3 (.t 38)),
 (none, .st 1 (.t 39) (.t 37)),
 (none, .kp [0, 1, 5])])
 (.seq (.rg [(none, .mv 40 (.t 1)),
 (none, .bi 41 .add (.t 40) (.c (.n .i64 1))),
 (none, .mv 1 (.t 41)),
 (none, .kp [0, 1, 5])])
 (.seq (.rg [(none, .mv 42 (.t 0)),
 (none, .mv 43 (.t 5)),
 (none, .mv 44 (.t 1)),
 (none, .bi 45 .rem (.t 44) (.c (.n .i64 3))),
 (none, .bi 46 .eql (.t 45) (.c (.n .i64 0))),
 (none, .ia 47 7 (.t 42) (.t 43)),
 (none, .fa 48 4 (.t 47)),
 (none, .st 1 (.t 48) (.t 46)),
 (none, .kp [0, 1, 5])])
 (.seq (.rg [(none, .mv 49 (.t 1)),
 (none, .bi 50 .add (.t 49) (.c (.n .i64 1))),
 (none, .mv 1 (.t 50)),
 (none, .kp [0, 1, 5])])
 (.seq (.rg [(none, .mv 51 (.t 0)),
 (none, .mv 52 (.t 5)),
 (none, .mv 53 (.t 1)),
 (none, .bi 54 .rem (.t 53) (.c (.n .i64 3))),
 (none, .bi 55 .eql (.t 54) (.c (.n .i64 0))),
 (none, .ia 56 7 (.t 51) (.t 52)),
 (none, .fa 57 5 (.t 56)),
 (none, .st 1 (.t 57) (.t 55)),
 (none, .kp [0, 1, 5])])
 (.seq (.rg [(none, .mv 58 (.t 1)),
 (none, .bi 59 .add (.t 58) (.c (.n .i64 1))),
 (none, .mv 1 (.t 59)),
 (none, .kp [0, 1, 5])])
 (.seq (.rg [(none, .mv 60 (.t 0)),
 (none, .mv 61 (.t 5)),
 (none, .mv 62 (.t 1)),
 (none, .ca (some 63) 67 [.t 62]),
 (none, .ia 64 7 (.t 60) (.t 61)),
 (none, .fa 65 6 (.t 64)),
 (none, .st 1 (.t 65) (.t 63)),
 (none, .kp [0, 1, 5])])
 (.rg [(none, .mv 66 (.t 1)),
 (none, .bi 67 .add (.t 66) (.c (.n .i64 1))),
 (none, .mv 1 (.t 67)),
 (none, .kp [0, 1, 5])])))))))))))))))
 (.rg [(none, .mv 10 (.t 5)),
 (none, .bi 11 .add (.t 10) (.c (.n .i64 1))),
 (none, .mv 5 (.t 11)),
 (none, .kp [0, 1, 5])]))
def pc42 : PC := .seq (.rg [(none, .mv 4 (.c (.n .i64 0))),
 (none, .kp [0, 1])])
 (.seq (.seq (.rg [(none, .mv 5 (.c (.n .i64 0))),
 (none, .kp [0, 1, 5])])
 (.blk 0 (.lp pc42l0)))
 (.seq (.rg [(none, .mv 68 (.t 1)),
 (none, .mv 4 (.t 68)),
 (none, .kp [4])])
 (.rt)))
theorem mr42 : MrT Try.prog 42 pc42 [.t 4] 69 := fun hn h => spec_of_run (fn := Try.f42) (by kernel_rfl) rfl (by kernel_rfl) (by kernel_rfl) hn h
theorem mk42 : MkT Try.prog 42 pc42 [.t 4] 69 := mr42.k
theorem mw42 : MwT Try.prog 42 pc42 [.t 4] 69 := mr42.w
-- 47 spec.l6In
def pc47 : PC := .seq (.rg [(none, .mv 6 (.c (.b false))),
 (none, .kp [0, 1, 2])])
 (.seq (.rg [(none, .mv 7 (.t 0)),
 (none, .mv 8 (.t 1)),
 (none, .bi 9 .geq (.t 7) (.t 8)),
 (none, .mv 10 (.t 9)),
 (some (10, true), .mv 11 (.t 0)),
 (some (10, true), .mv 12 (.t 2)),
 (some (10, true), .bi 13 .leq (.t 11) (.t 12)),
 (none, .pk 14 (.t 10) (.t 13) (.c (.b false))),
 (none, .mv 6 (.t 14)),
 (none, .kp [6])])
 (.rt))
theorem mr47 : MrT Try.prog 47 pc47 [.t 6] 15 := fun hn h => spec_of_run (fn := Try.f47) (by kernel_rfl) rfl (by kernel_rfl) (by kernel_rfl) hn h
theorem mk47 : MkT Try.prog 47 pc47 [.t 6] 15 := mr47.k
theorem mw47 : MwT Try.prog 47 pc47 [.t 6] 15 := mr47.w
-- 55 spec.l31Said
def pc55l0 : PC := .seq (.seq (.rg [(none, .mv 8 (.t 5)),
 (none, .mv 9 (.t 0)),
 (none, .ln 10 (.t 9)),
 (none, .bi 11 .lss (.t 8) (.t 10)),
 (none, .kp [0, 3, 4, 5, 11])])
 (.ite (.t 11) (.sk)
 (.ex 0)))
 (.seq (.blk 1 (.seq (.rg [(none, .mv 14 (.t 0)),
 (none, .mv 15 (.t 5)),
 (none, .ia 16 7 (.t 14) (.t 15)),
 (none, .ld 17 (some 7) (.t 16)),
 (none, .al 6 [.n .i64 0, .n .i64 0, .n .i64 0, .b false, .b false, .b false, .s []]),
 (none, .st 7 (.t 6) (.t 17)),
 (none, .kp [0, 3, 4, 5, 6])])
 (.seq (.rg [(none, .mv 18 (.t 4)),
 (none, .fa 19 6 (.t 6)),
 (none, .ld 20 none (.t 19)),
 (none, .bi 21 .add (.t 18) (.t 20)),
 (none, .mv 4 (.t 21)),
 (none, .kp [0, 3, 4, 5, 6])])
 (.seq (.rg [(none, .fa 22 4 (.t 6)),
 (none, .ld 23 none (.t 22)),
 (none, .kp [0, 3, 4, 5, 6, 23])])
 (.ite (.t 23) (.seq (.rg [(none, .mv 24 (.t 3)),
 (none, .fa 25 1 (.t 6)),
 (none, .ld 26 none (.t 25)),
 (none, .fa 27 2 (.t 6)),
 (none, .ld 28 none (.t 27)),
 (none, .fa 29 5 (.t 6)),
 (none, .ld 30 none (.t 29)),
 (none, .mv 31 (.t 4)),
 (none, .bd 32 [.n .i64 0, .n .i64 0, .b false, .s []] [(0, 1, .t 26), (1, 1, .t 28), (2, 1, .t 30), (3, 1, .t 31)]),
 (none, .bs 33 4 1 [.n .i64 0, .n .i64 0, .b false, .s []] [(0, .t 32)]),
 (none, .ap 34 4 40 (.t 24) (.t 33)),
 (none, .mv 3 (.t 34)),
 (none, .kp [0, 3, 5])])
 (.rg [(none, .mv 4 (.c (.s []))),
 (none, .kp [0, 3, 4, 5])]))
 (.sk))))))
 (.rg [(none, .mv 12 (.t 5)),
 (none, .bi 13 .add (.t 12) (.c (.n .i64 1))),
 (none, .mv 5 (.t 13)),
 (none, .kp [0, 3, 4, 5])]))
def pc55 : PC := .seq (.rg [(none, .mv 2 (.c .nil)),
 (none, .kp [0])])
 (.seq (.rg [(none, .bs 7 4 0 [.n .i64 0, .n .i64 0, .b false, .s []] []),
 (none, .mv 3 (.t 7)),
 (none, .kp [0, 3])])
 (.seq (.rg [(none, .mv 4 (.c (.s []))),
 (none, .kp [0, 3, 4])])
 (.seq (.seq (.rg [(none, .mv 5 (.c (.n .i64 0))),
 (none, .kp [0, 3, 4, 5])])
 (.blk 0 (.lp pc55l0)))
 (.seq (.rg [(none, .mv 35 (.t 3)),
 (none, .mv 2 (.t 35)),
 (none, .kp [2])])
 (.rt)))))
theorem mr55 : MrT Try.prog 55 pc55 [.t 2] 36 := fun hn h => spec_of_run (fn := Try.f55) (by kernel_rfl) rfl (by kernel_rfl) (by kernel_rfl) hn h
theorem mk55 : MkT Try.prog 55 pc55 [.t 2] 36 := mr55.k
theorem mw55 : MwT Try.prog 55 pc55 [.t 2] 36 := mr55.w
-- 61 impl.serialOk
def pc61 : PC := .seq (.rg [(none, .mv 2 (.c (.b false))),
 (none, .kp [0])])
 (.seq (.rg [(none, .mv 3 (.t 0)),
 (none, .bi 4 .geq (.t 3) (.c (.n .i64 0))),
 (none, .mv 5 (.t 4)),
 (some (5, true), .mv 6 (.t 0)),
 (some (5, true), .bi 7 .lss (.t 6) (.c (.n .i64 65536))),
 (none, .pk 8 (.t 5) (.t 7) (.c (.b false))),
 (none, .mv 2 (.t 8)),
 (none, .kp [2])])
 (.rt))
theorem mr61 : MrT Try.prog 61 pc61 [.t 2] 9 := fun hn h => spec_of_run (fn := Try.f61) (by kernel_rfl) rfl (by kernel_rfl) (by kernel_rfl) hn h
theorem mk61 : MkT Try.prog 61 pc61 [.t 2] 9 := mr61.k
theorem mw61 : MwT Try.prog 61 pc61 [.t 2] 9 := mr61.w
-- 62 laws.szDataS
def pc62l0 : PC := .seq (.seq (.rg [(none, .mv 12 (.t 5)),
 (none, .mv 13 (.t 0)),
 (none, .ln 14 (.t 13)),
 (none, .bi 15 .lss (.t 12) (.t 14)),
 (none, .kp [0, 1, 5, 15])])
 (.ite (.t 15) (.sk)
 (.ex 0)))
 (.seq (.blk 1 (.seq (.rg [(none, .mv 18 (.t 0)),
 (none, .mv 19 (.t 5)),
 (none, .ia 20 7 (.t 18) (.t 19)),
 (none, .ld 21 (some 7) (.t 20)),
 (none, .mv 22 (.t 1)),
 (none, .ca (some 23) 84 [.t 21, .t 22]),
 (none, .mv 1 (.t 23)),
 (none, .kp [0, 1, 5])])
 (.seq (.rg [(none, .mv 24 (.t 1)),
 (none, .bi 25 .lss (.t 24) (.c (.n .i64 0))),
 (none, .kp [0, 1, 5, 25])])
 (.ite (.t 25) (.seq (.rg [(none, .mv 4 (.c (.n .i64 (-1)))),
 (none, .kp [4])])
 (.rt))
 (.sk)))))
 (.rg [(none, .mv 16 (.t 5)),
 (none, .bi 17 .add (.t 16) (.c (.n .i64 1))),
 (none, .mv 5 (.t 17)),
 (none, .kp [0, 1, 5])]))
def pc62 : PC := .seq (.rg [(none, .mv 4 (.c (.n .i64 0))),
 (none, .kp [0, 1])])
 (.seq (.rg [(none, .mv 6 (.t 1)),
 (none, .mv 7 (.t 0)),
 (none, .ln 8 (.t 7)),
 (none, .bi 9 .sub (.t 6) (.t 8)),
 (none, .mv 1 (.t 9)),
 (none, .kp [0, 1])])
 (.seq (.seq (.rg [(none, .mv 10 (.t 1)),
 (none, .bi 11 .lss (.t 10) (.c (.n .i64 0))),
 (none, .kp [0, 1, 11])])
 (.ite (.t 11) (.seq (.rg [(none, .mv 4 (.c (.n .i64 (-1)))),
 (none, .kp [4])])
 (.rt))
 (.sk)))
 (.seq (.seq (.rg [(none, .mv 5 (.c (.n .i64 0))),
 (none, .kp [0, 1, 5])])
 (.blk 0 (.lp pc62l0)))
 (.seq (.rg [(none, .mv 26 (.t 1)),
 (none, .mv 4 (.t 26)),
 (none, .kp [4])])
 (.rt)))))
theorem mr62 : MrT Try.prog 62 pc62 [.t 4] 27 := fun hn h => spec_of_run (fn := Try.f62) (by kernel_rfl) rfl (by kernel_rfl) (by kernel_rfl) hn h
theorem mk62 : MkT Try.prog 62 pc62 [.t 4] 27 := mr62.k
theorem mw62 : MwT Try.prog 62 pc62 [.t 4] 27 := mr62.w
-- 63 spec.SideValid
def pc63l0 : PC := .seq (.seq (.rg [(none, .mv 27 (.t 3)),
 (none, .fa 28 3 (.t 1)),
 (none, .ld 29 none (.t 28)),
 (none, .ln 30 (.t 29)),
 (none, .bi 31 .lss (.t 27) (.t 30)),
 (none, .kp [1, 3, 31])])
 (.ite (.t 31) (.sk)
 (.ex 0)))
 (.seq (.blk 1 (.seq (.rg [(none, .fa 34 3 (.t 1)),
 (none, .ld 35 none (.t 34)),
 (none, .mv 36 (.t 3)),
 (none, .ia 37 7 (.t 35) (.t 36)),
 (none, .ld 38 (some 7) (.t 37)),
 (none, .al 4 [.n .i64 0, .n .i64 0, .n .i64 0, .b false, .b false, .b false, .s []]),
 (none, .st 7 (.t 4) (.t 38)),
 (none, .kp [1, 3, 4])])
 (.seq (.dr [[], [0], [0, 1], [0, 1, 2], [0, 1, 2, 3], [0, 1, 2, 3, 4], [0, 1, 2, 3], [0, 1, 2, 3, 6], [0, 1, 2, 3], [0, 1, 2, 3, 6, 7, 8], [0, 1, 2, 3, 4, 5, 6, 7, 8, 9], [0, 1, 2, 3, 4, 5, 6, 7, 8, 9, 10], [0, 1, 2, 3, 4, 5, 6, 7, 8, 9, 10, 11], [0, 1, 2, 3, 4, 5, 6, 7, 8, 9, 10, 11, 12], [0, 1, 2, 3, 4, 5, 6, 7, 8, 9, 10, 11, 12, 13], [0, 1, 2, 3, 4, 5, 6, 7, 8, 9, 10, 11, 12], [0, 1, 2, 3, 4, 5, 6, 7, 8, 9, 10, 11, 12, 15], [0, 1, 2, 3, 4, 5, 6, 7, 8, 9, 10, 11, 12, 13, 14, 15, 16], [0, 1, 2, 3, 4, 5, 6, 7, 8, 9, 10, 11, 12, 13, 14, 15, 16, 17], [0, 1, 2, 3, 4, 5, 6, 7, 8, 9, 10, 11, 12, 13, 14, 15, 16, 17, 18], [0, 1, 2, 3, 4, 5, 6, 7, 8, 9, 10, 11, 12, 13, 14, 15, 16, 17, 18, 19], [0, 1, 2, 3, 4, 5, 6, 7, 8, 9, 10, 11, 12, 13, 14, 15, 16, 17, 18, 19, 20], [0, 1, 2, 3, 4, 5, 6, 7, 8, 9, 10, 11, 12, 13, 14, 15, 16, 17, 18, 19], [0, 1, 2, 3, 4, 5, 6, 7, 8, 9, 10, 11, 12, 13, 14, 15, 16, 17, 18, 19, 20, 21, 22], [0, 1, 2, 3, 4, 5, 6, 7, 8, 9, 10, 11, 12, 13, 14, 15, 16, 17, 18, 19], [0, 1, 2, 3, 4, 5, 6, 7, 8, 9, 10, 11, 12, 13, 14, 15, 16, 17, 18, 19, 20, 21, 22, 23, 24], [0, 1, 2, 3, 4, 5, 6, 7, 8, 9, 10, 11, 12, 13, 14, 15, 16, 17, 18, 19, 20, 21, 22, 23, 24, 25], [0, 1, 2, 3, 4, 5, 6, 7, 8, 9, 10, 11, 12, 13, 14, 15, 16, 17, 18, 19, 20, 21, 22, 23, 24, 25, 26]]
 (.q 0 (none, .ld 39 (some 7) (.t 4))
 (.alt 1 (none, .ca (some 40) 85 [.t 39]) [false]
 (.q 2 (none, .un 41 .not (.t 40))
 (.q 3 (none, .mv 42 (.t 41))
 (.q 4 (some (42, false), .fa 43 0 (.t 4))
 (.q 5 (some (42, false), .ld 44 none (.t 43))
 (.q 6 (some (42, false), .fa 45 2 (.t 1))
 (.q 7 (some (42, false), .ld 46 none (.t 45))
 (.q 8 (some (42, false), .mv 47 (.t 3))
 (.alt 9 (some (42, false), .ca (some 48) 83 [.t 46, .t 47]) [false, false, false, true, true, false, false, false]
 (.q 10 (some (42, false), .bi 49 .neq (.t 44) (.t 48))
 (.q 11 (none, .pk 50 (.t 42) (.c (.b true)) (.t 49))
 (.q 12 (none, .mv 51 (.t 50))
 (.q 13 (some (51, false), .fa 52 1 (.t 4))
 (.q 14 (some (51, false), .ld 53 none (.t 52))
 (.q 15 (some (51, false), .fa 54 1 (.t 1))
 (.q 16 (some (51, false), .ld 55 none (.t 54))
 (.q 17 (some (51, false), .bi 56 .geq (.t 53) (.t 55))
 (.q 18 (none, .pk 57 (.t 51) (.c (.b true)) (.t 56))
 (.q 19 (none, .mv 58 (.t 57))
 (.q 20 (some (58, false), .fa 59 3 (.t 1))
 (.q 21 (some (58, false), .ld 60 none (.t 59))
 (.q 22 (some (58, false), .mv 61 (.t 3))
 (.q 23 (some (58, false), .sc 62 7 (.t 60) none (some (.t 61)))
 (.q 24 (some (58, false), .ld 63 (some 7) (.t 4))
 (.alt 25 (some (58, false), .ca (some 64) 86 [.t 62, .t 63]) [false, false, false, false, false, false, false, false, false, false, false, false, false, false, false, false, false, false, false, false, false, false, false]
 (.q 26 (some (58, false), .un 65 .not (.t 64))
 (.q 27 (none, .pk 66 (.t 58) (.c (.b true)) (.t 65))
 (.done)))
 (.stop)))))))))))))))))
 (.stop)))))))))
 (.stop))) [1, 3, 66])
 (.ite (.t 66) (.seq (.rg [(none, .mv 2 (.c (.b false))),
 (none, .kp [2])])
 (.rt))
 (.sk)))))
 (.rg [(none, .mv 32 (.t 3)),
 (none, .bi 33 .add (.t 32) (.c (.n .i64 1))),
 (none, .mv 3 (.t 33)),
 (none, .kp [1, 3])]))
def pc63 : PC := .seq (.rg [(none, .bx 1 (.t 0)),
 (none, .mv 2 (.c (.b false))),
 (none, .kp [1])])
 (.seq (.seq (.rg [(none, .fa 5 0 (.t 1)),
 (none, .ld 6 none (.t 5)),
 (none, .bi 7 .eql (.t 6) (.c (.n .i64 0))),
 (none, .kp [1, 7])])
 (.ite (.t 7) (.seq (.rg [(none, .fa 8 1 (.t 1)),
 (none, .ld 9 none (.t 8)),
 (none, .bi 10 .eql (.t 9) (.c (.n .i64 0))),
 (none, .mv 11 (.t 10)),
 (some (11, true), .fa 12 2 (.t 1)),
 (some (11, true), .ld 13 none (.t 12)),
 (some (11, true), .bi 14 .eql (.t 13) (.c (.n .i64 0))),
 (none, .pk 15 (.t 11) (.t 14) (.c (.b false))),
 (none, .mv 16 (.t 15)),
 (some (16, true), .fa 17 3 (.t 1)),
 (some (16, true), .ld 18 none (.t 17)),
 (some (16, true), .ln 19 (.t 18)),
 (some (16, true), .bi 20 .eql (.t 19) (.c (.n .i64 0))),
 (none, .pk 21 (.t 16) (.t 20) (.c (.b false))),
 (none, .mv 22 (.t 21)),
 (some (22, true), .fa 23 4 (.t 1)),
 (some (22, true), .ld 24 none (.t 23)),
 (some (22, true), .bi 25 .eql (.t 24) (.c (.n .i64 0))),
 (none, .pk 26 (.t 22) (.t 25) (.c (.b false))),
 (none, .mv 2 (.t 26)),
 (none, .kp [2])])
 (.rt))
 (.sk)))
 (.seq (.seq (.rg [(none, .mv 3 (.c (.n .i64 0))),
 (none, .kp [1, 3])])
 (.blk 0 (.lp pc63l0)))
 (.seq (.rg [(none, .fa 67 0 (.t 1)),
 (none, .ld 68 none (.t 67)),
 (none, .ca (some 69) 47 [.t 68, .c (.n .i64 1), .c (.n .i64 4294967295)]),
 (none, .mv 70 (.t 69)),
 (some (70, true), .fa 71 1 (.t 1)),
 (some (70, true), .ld 72 none (.t 71)),
 (some (70, true), .ca (some 73) 47 [.t 72, .c (.n .i64 1), .c (.n .i64 4)]),
 (none, .pk 74 (.t 70) (.t 73) (.c (.b false))),
 (none, .mv 75 (.t 74)),
 (some (75, true), .fa 76 2 (.t 1)),
 (some (75, true), .ld 77 none (.t 76)),
 (some (75, true), .ca (some 78) 75 [.t 77]),
 (none, .pk 79 (.t 75) (.t 78) (.c (.b false))),
 (none, .mv 80 (.t 79)),
 (some (80, true), .fa 81 3 (.t 1)),
 (some (80, true), .ld 82 none (.t 81)),
 (some (80, true), .ln 83 (.t 82)),
 (some (80, true), .bi 84 .leq (.t 83) (.c (.n .i64 12))),
 (none, .pk 85 (.t 80) (.t 84) (.c (.b false))),
 (none, .mv 86 (.t 85)),
 (some (86, true), .fa 87 4 (.t 1)),
 (some (86, true), .ld 88 none (.t 87)),
 (some (86, true), .fa 89 3 (.t 1)),
 (some (86, true), .ld 90 none (.t 89)),
 (some (86, true), .ln 91 (.t 90)),
 (some (86, true), .ca (some 92) 47 [.t 88, .c (.n .i64 0), .t 91]),
 (none, .pk 93 (.t 86) (.t 92) (.c (.b false))),
 (none, .mv 2 (.t 93)),
 (none, .kp [2])])
 (.rt))))
theorem mr63 : MrT Try.prog 63 pc63 [.t 2] 94 := fun hn h => spec_of_run (fn := Try.f63) (by kernel_rfl) rfl (by kernel_rfl) (by kernel_rfl) hn h
theorem mk63 : MkT Try.prog 63 pc63 [.t 2] 94 := mr63.k
theorem mw63 : MwT Try.prog 63 pc63 [.t 2] 94 := mr63.w
-- 64 laws.toDataS
def pc64l0 : PC := .seq (.seq (.rg [(none, .mv 8 (.t 4)),
 (none, .mv 9 (.t 0)),
 (none, .ln 10 (.t 9)),
 (none, .bi 11 .lss (.t 8) (.t 10)),
 (none, .kp [0, 3, 4, 11])])
 (.ite (.t 11) (.sk)
 (.ex 0)))
 (.seq (.blk 1 (.rg [(none, .mv 14 (.t 3)),
 (none, .mv 15 (.t 4)),
 (none, .mv 16 (.t 0)),
 (none, .mv 17 (.t 4)),
 (none, .ia 18 7 (.t 16) (.t 17)),
 (none, .ld 19 (some 7) (.t 18)),
 (none, .ca (some 20) 87 [.t 19]),
 (none, .ia 21 7 (.t 14) (.t 15)),
 (none, .st 7 (.t 21) (.t 20)),
 (none, .kp [0, 3, 4])]))
 (.rg [(none, .mv 12 (.t 4)),
 (none, .bi 13 .add (.t 12) (.c (.n .i64 1))),
 (none, .mv 4 (.t 13)),
 (none, .kp [0, 3, 4])]))
def pc64 : PC := .seq (.rg [(none, .mv 2 (.c .nil)),
 (none, .kp [0])])
 (.seq (.rg [(none, .mv 5 (.t 0)),
 (none, .ln 6 (.t 5)),
 (none, .mk 7 7 48 [.n .i64 0, .n .i64 0, .n .i64 0, .b false, .b false, .b false, .s []] (.t 6)),
 (none, .mv 3 (.t 7)),
 (none, .kp [0, 3])])
 (.seq (.seq (.rg [(none, .mv 4 (.c (.n .i64 0))),
 (none, .kp [0, 3, 4])])
 (.blk 0 (.lp pc64l0)))
 (.seq (.rg [(none, .mv 22 (.t 3)),
 (none, .mv 2 (.t 22)),
 (none, .kp [2])])
 (.rt))))
theorem mr64 : MrT Try.prog 64 pc64 [.t 2] 23 := fun hn h => spec_of_run (fn := Try.f64) (by kernel_rfl) rfl (by kernel_rfl) (by kernel_rfl) hn h
theorem mk64 : MkT Try.prog 64 pc64 [.t 2] 23 := mr64.k
theorem mw64 : MwT Try.prog 64 pc64 [.t 2] 23 := mr64.w
-- 65 impl.saidIn
def pc65l0 : PC := .seq (.rg [(none, .bi 11 .lss (.t 10) (.t 9)),
 (none, .kp [3, 4, 8, 9, 10, 11])])
 (.seq (.ite (.t 11) (.sk)
 (.ex 0))
 (.seq (.blk 1 (.seq (.rg [(none, .ia 12 7 (.t 8) (.t 10)),
 (none, .ld 13 (some 7) (.t 12)),
 (none, .al 6 [.n .i64 0, .n .i64 0, .n .i64 0, .b false, .b false, .b false, .s []]),
 (none, .st 7 (.t 6) (.t 13)),
 (none, .kp [3, 4, 6, 8, 9, 10])])
 (.seq (.seq (.rg [(none, .fa 14 3 (.t 6)),
 (none, .ld 15 none (.t 14)),
 (none, .kp [3, 4, 6, 8, 9, 10, 15])])
 (.ite (.t 15) (.rg [(none, .mv 4 (.c (.s []))),
 (none, .kp [3, 4, 6, 8, 9, 10])])
 (.sk)))
 (.seq (.rg [(none, .mv 16 (.t 4)),
 (none, .fa 17 6 (.t 6)),
 (none, .ld 18 none (.t 17)),
 (none, .bi 19 .add (.t 16) (.t 18)),
 (none, .mv 4 (.t 19)),
 (none, .kp [3, 4, 6, 8, 9, 10])])
 (.seq (.rg [(none, .fa 20 4 (.t 6)),
 (none, .ld 21 none (.t 20)),
 (none, .kp [3, 4, 6, 8, 9, 10, 21])])
 (.ite (.t 21) (.rg [(none, .mv 22 (.t 3)),
 (none, .fa 23 1 (.t 6)),
 (none, .ld 24 none (.t 23)),
 (none, .fa 25 2 (.t 6)),
 (none, .ld 26 none (.t 25)),
 (none, .fa 27 5 (.t 6)),
 (none, .ld 28 none (.t 27)),
 (none, .mv 29 (.t 4)),
 (none, .bd 30 [.n .i64 0, .n .i64 0, .b false, .s []] [(0, 1, .t 24), (1, 1, .t 26), (2, 1, .t 28), (3, 1, .t 29)]),
 (none, .bs 31 4 1 [.n .i64 0, .n .i64 0, .b false, .s []] [(0, .t 30)]),
 (none, .ap 32 4 40 (.t 22) (.t 31)),
 (none, .mv 3 (.t 32)),
 (none, .kp [3, 4, 8, 9, 10])])
 (.sk)))))))
 (.rg [(none, .bi 33 .add (.t 10) (.c (.n .i64 1))),
 (none, .mv 10 (.t 33)),
 (none, .kp [3, 4, 8, 9, 10])])))
def pc65 : PC := .seq (.rg [(none, .mv 2 (.c .nil)),
 (none, .kp [0])])
 (.seq (.rg [(none, .bs 7 4 0 [.n .i64 0, .n .i64 0, .b false, .s []] []),
 (none, .mv 3 (.t 7)),
 (none, .kp [0, 3])])
 (.seq (.rg [(none, .mv 4 (.c (.s []))),
 (none, .kp [0, 3, 4])])
 (.seq (.seq (.rg [(none, .mv 8 (.t 0)),
 (none, .ln 9 (.t 8)),
 (none, .mv 10 (.c (.n .i64 0))),
 (none, .kp [3, 4, 8, 9, 10])])
 (.blk 0 (.lp pc65l0)))
 (.seq (.rg [(none, .mv 34 (.t 3)),
 (none, .mv 2 (.t 34)),
 (none, .kp [2])])
 (.rt)))))
theorem mr65 : MrT Try.prog 65 pc65 [.t 2] 35 := fun hn h => spec_of_run (fn := Try.f65) (by kernel_rfl) rfl (by kernel_rfl) (by kernel_rfl) hn h
theorem mk65 : MkT Try.prog 65 pc65 [.t 2] 35 := mr65.k
theorem mw65 : MwT Try.prog 65 pc65 [.t 2] 35 := mr65.w
-- 66 laws.eqMessage
def pc66 : PC := .seq (.rg [(none, .bx 2 (.t 0)),
 (none, .bx 3 (.t 1)),
 (none, .mv 4 (.c (.b false))),
 (none, .kp [2, 3])])
 (.seq (.seq (.rg [(none, .fa 5 0 (.t 2)),
 (none, .ld 6 none (.t 5)),
 (none, .fa 7 0 (.t 3)),
 (none, .ld 8 none (.t 7)),
 (none, .bi 9 .neq (.t 6) (.t 8)),
 (none, .kp [2, 3, 9])])
 (.ite (.t 9) (.seq (.rg [(none, .mv 4 (.c (.b false))),
 (none, .kp [4])])
 (.rt))
 (.sk)))
 (.seq (.seq (.rg [(none, .fa 10 1 (.t 2)),
 (none, .ld 11 none (.t 10)),
 (none, .fa 12 1 (.t 3)),
 (none, .ld 13 none (.t 12)),
 (none, .bi 14 .neq (.t 11) (.t 13)),
 (none, .kp [2, 3, 14])])
 (.ite (.t 14) (.seq (.rg [(none, .mv 4 (.c (.b false))),
 (none, .kp [4])])
 (.rt))
 (.sk)))
 (.seq (.seq (.rg [(none, .fa 15 2 (.t 2)),
 (none, .ld 16 none (.t 15)),
 (none, .fa 17 2 (.t 3)),
 (none, .ld 18 none (.t 17)),
 (none, .bb 19 true (.t 16) (.t 18)),
 (none, .kp [2, 3, 19])])
 (.ite (.t 19) (.seq (.rg [(none, .mv 4 (.c (.b false))),
 (none, .kp [4])])
 (.rt))
 (.sk)))
 (.seq (.seq (.rg [(none, .fa 20 3 (.t 2)),
 (none, .ld 21 none (.t 20)),
 (none, .fa 22 3 (.t 3)),
 (none, .ld 23 none (.t 22)),
 (none, .bi 24 .neq (.t 21) (.t 23)),
 (none, .kp [24])])
 (.ite (.t 24) (.seq (.rg [(none, .mv 4 (.c (.b false))),
 (none, .kp [4])])
 (.rt))
 (.sk)))
 (.seq (.rg [(none, .mv 4 (.c (.b true))),
 (none, .kp [4])])
 (.rt))))))
theorem mr66 : MrT Try.prog 66 pc66 [.t 4] 25 := fun hn h => spec_of_run (fn := Try.f66) (by kernel_rfl) rfl (by kernel_rfl) (by kernel_rfl) hn h
theorem mk66 : MkT Try.prog 66 pc66 [.t 4] 25 := mr66.k
theorem mw66 : MwT Try.prog 66 pc66 [.t 4] 25 := mr66.w
-- 67 laws.markText
def pc67l0 : PC := .seq (.seq (.rg [(none, .mv 6 (.t 0)),
 (none, .bi 7 .gtr (.t 6) (.c (.n .i64 0))),
 (none, .kp [0, 3, 7])])
 (.ite (.t 7) (.sk)
 (.ex 0)))
 (.blk 1 (.seq (.rg [(none, .mv 8 (.t 0)),
 (none, .bi 9 .rem (.t 8) (.c (.n .i64 10))),
 (none, .bi 10 .add (.c (.n .i64 48)) (.t 9)),
 (none, .cv 11 .u8 (.t 10)),
 (none, .bs 12 1 1 [.n .u8 0] [(0, .t 11)]),
 (none, .cs 13 (.t 12)),
 (none, .mv 14 (.t 3)),
 (none, .bi 15 .add (.t 13) (.t 14)),
 (none, .mv 3 (.t 15)),
 (none, .kp [0, 3])])
 (.rg [(none, .mv 16 (.t 0)),
 (none, .bi 17 .quo (.t 16) (.c (.n .i64 10))),
 (none, .mv 0 (.t 17)),
 (none, .kp [0, 3])])))
def pc67 : PC := .seq (.rg [(none, .mv 2 (.c (.s []))),
 (none, .kp [0])])
 (.seq (.seq (.rg [(none, .mv 4 (.t 0)),
 (none, .bi 5 .leq (.t 4) (.c (.n .i64 0))),
 (none, .kp [0, 5])])
 (.ite (.t 5) (.seq (.rg [(none, .mv 2 (.c (.s [109, 48]))),
 (none, .kp [2])])
 (.rt))
 (.sk)))
 (.seq (.rg [(none, .mv 3 (.c (.s []))),
 (none, .kp [0, 3])])
 (.seq (.blk 0 (.lp pc67l0))
 (.seq (.rg [(none, .mv 18 (.t 3)),
 (none, .bi 19 .add (.c (.s [109])) (.t 18)),
 (none, .mv 2 (.t 19)),
 (none, .kp [2])])
 (.rt)))))
theorem mr67 : MrT Try.prog 67 pc67 [.t 2] 20 := fun hn h => spec_of_run (fn := Try.f67) (by kernel_rfl) rfl (by kernel_rfl) (by kernel_rfl) hn h
theorem mk67 : MkT Try.prog 67 pc67 [.t 2] 20 := mr67.k
theorem mw67 : MwT Try.prog 67 pc67 [.t 2] 20 := mr67.w
-- 69 impl.dataOk
def pc69 : PC := .seq (.rg [(none, .bx 1 (.t 0)),
 (none, .mv 2 (.c (.b false))),
 (none, .kp [1])])
 (.seq (.rg [(none, .fa 3 0 (.t 1)),
 (none, .ld 4 none (.t 3)),
 (none, .ca (some 5) 61 [.t 4]),
 (none, .mv 6 (.t 5)),
 (some (6, true), .fa 7 1 (.t 1)),
 (some (6, true), .ld 8 none (.t 7)),
 (some (6, true), .ca (some 9) 61 [.t 8]),
 (none, .pk 10 (.t 6) (.t 9) (.c (.b false))),
 (none, .mv 11 (.t 10)),
 (some (11, true), .fa 12 2 (.t 1)),
 (some (11, true), .ld 13 none (.t 12)),
 (some (11, true), .ca (some 14) 61 [.t 13]),
 (none, .pk 15 (.t 11) (.t 14) (.c (.b false))),
 (none, .mv 16 (.t 15)),
 (some (16, true), .fa 17 6 (.t 1)),
 (some (16, true), .ld 18 none (.t 17)),
 (some (16, true), .lS 19 (.t 18)),
 (some (16, true), .bi 20 .geq (.t 19) (.c (.n .i64 1))),
 (none, .pk 21 (.t 16) (.t 20) (.c (.b false))),
 (none, .mv 22 (.t 21)),
 (some (22, true), .fa 23 6 (.t 1)),
 (some (22, true), .ld 24 none (.t 23)),
 (some (22, true), .lS 25 (.t 24)),
 (some (22, true), .bi 26 .leq (.t 25) (.c (.n .i64 20))),
 (none, .pk 27 (.t 22) (.t 26) (.c (.b false))),
 (none, .mv 2 (.t 27)),
 (none, .kp [2])])
 (.rt))
theorem mr69 : MrT Try.prog 69 pc69 [.t 2] 28 := fun hn h => spec_of_run (fn := Try.f69) (by kernel_rfl) rfl (by kernel_rfl) (by kernel_rfl) hn h
theorem mk69 : MkT Try.prog 69 pc69 [.t 2] 28 := mr69.k
theorem mw69 : MwT Try.prog 69 pc69 [.t 2] 28 := mr69.w
-- 70 impl.mayFollow
def pc70l0 : PC := .seq (.rg [(none, .bi 42 .lss (.t 41) (.t 40)),
 (none, .kp [3, 5, 39, 40, 41, 42])])
 (.seq (.ite (.t 42) (.sk)
 (.ex 0))
 (.seq (.blk 1 (.seq (.rg [(none, .ia 43 7 (.t 39) (.t 41)),
 (none, .ld 44 (some 7) (.t 43)),
 (none, .al 7 [.n .i64 0, .n .i64 0, .n .i64 0, .b false, .b false, .b false, .s []]),
 (none, .st 7 (.t 7) (.t 44)),
 (none, .kp [3, 5, 7, 39, 40, 41])])
 (.seq (.rg [(none, .fa 45 3 (.t 7)),
 (none, .ld 46 none (.t 45)),
 (none, .mv 47 (.t 46)),
 (some (47, true), .fa 48 5 (.t 7)),
 (some (47, true), .ld 49 none (.t 48)),
 (some (47, true), .un 50 .not (.t 49)),
 (none, .pk 51 (.t 47) (.t 50) (.c (.b false))),
 (none, .mv 52 (.t 51)),
 (some (52, true), .fa 53 1 (.t 7)),
 (some (52, true), .ld 54 none (.t 53)),
 (some (52, true), .fa 55 1 (.t 3)),
 (some (52, true), .ld 56 none (.t 55)),
 (some (52, true), .bi 57 .eql (.t 54) (.t 56)),
 (none, .pk 58 (.t 52) (.t 57) (.c (.b false))),
 (none, .kp [3, 5, 39, 40, 41, 58])])
 (.ite (.t 58) (.rg [(none, .mv 59 (.t 5)),
 (none, .bi 60 .add (.t 59) (.c (.n .i64 1))),
 (none, .mv 5 (.t 60)),
 (none, .kp [3, 5, 39, 40, 41])])
 (.sk)))))
 (.rg [(none, .bi 61 .add (.t 41) (.c (.n .i64 1))),
 (none, .mv 41 (.t 61)),
 (none, .kp [3, 5, 39, 40, 41])])))
def pc70 : PC := .seq (.rg [(none, .bx 3 (.t 1)),
 (none, .mv 4 (.c (.b false))),
 (none, .kp [0, 3])])
 (.seq (.seq (.rg [(none, .mv 8 (.t 0)),
 (none, .ln 9 (.t 8)),
 (none, .bi 10 .gtr (.t 9) (.c (.n .i64 0))),
 (none, .mv 11 (.t 10)),
 (some (11, true), .mv 12 (.t 0)),
 (some (11, true), .mv 13 (.t 0)),
 (some (11, true), .ln 14 (.t 13)),
 (some (11, true), .bi 15 .sub (.t 14) (.c (.n .i64 1))),
 (some (11, true), .ia 16 7 (.t 12) (.t 15)),
 (some (11, true), .fa 17 4 (.t 16)),
 (some (11, true), .ld 18 none (.t 17)),
 (some (11, true), .un 19 .not (.t 18)),
 (none, .pk 20 (.t 11) (.t 19) (.c (.b false))),
 (none, .kp [0, 3, 20])])
 (.ite (.t 20) (.seq (.dr [[], [0], [0, 1], [0, 1, 2], [0, 1, 2, 3], [0, 1, 2, 3], [0, 1, 2, 3], [0, 1, 2, 3, 6], [0, 1, 2, 3, 6, 7], [0, 1, 2, 3, 5, 6, 7, 8], [0, 1, 2, 3, 5, 6, 7, 8, 9], [0, 1, 2, 3, 4, 5, 6, 7, 8, 9, 10], [0, 1, 2, 3, 4, 5, 6, 7, 8, 9, 10, 11], [0, 1, 2, 3, 4, 5, 6, 7, 8, 9, 10, 11, 12]]
 (.q 0 (none, .fa 21 3 (.t 3))
 (.q 1 (none, .ld 22 none (.t 21))
 (.q 2 (none, .un 23 .not (.t 22))
 (.q 3 (none, .mv 24 (.t 23))
 (.q 4 (some (24, true), .ld 25 (some 7) (.t 3))
 (.q 5 (some (24, true), .mv 26 (.t 0))
 (.q 6 (some (24, true), .mv 27 (.t 0))
 (.q 7 (some (24, true), .ln 28 (.t 27))
 (.q 8 (some (24, true), .bi 29 .sub (.t 28) (.c (.n .i64 1)))
 (.q 9 (some (24, true), .ia 30 7 (.t 26) (.t 29))
 (.q 10 (some (24, true), .ld 31 (some 7) (.t 30))
 (.alt 11 (some (24, true), .ca (some 32) 88 [.t 25, .t 31]) [false, false, false, false, false, false, false, false, false, false, false]
 (.q 12 (none, .pk 33 (.t 24) (.t 32) (.c (.b false)))
 (.q 13 (none, .mv 4 (.t 33))
 (.done)))
 (.stop))))))))))))) [4])
 (.rt))
 (.sk)))
 (.seq (.seq (.rg [(none, .fa 34 3 (.t 3)),
 (none, .ld 35 none (.t 34)),
 (none, .un 36 .not (.t 35)),
 (none, .kp [0, 3, 36])])
 (.ite (.t 36) (.seq (.rg [(none, .mv 4 (.c (.b false))),
 (none, .kp [4])])
 (.rt))
 (.sk)))
 (.seq (.seq (.rg [(none, .fa 37 5 (.t 3)),
 (none, .ld 38 none (.t 37)),
 (none, .kp [0, 3, 38])])
 (.ite (.t 38) (.seq (.rg [(none, .mv 4 (.c (.b true))),
 (none, .kp [4])])
 (.rt))
 (.sk)))
 (.seq (.rg [(none, .mv 5 (.c (.n .i64 0))),
 (none, .kp [0, 3, 5])])
 (.seq (.seq (.rg [(none, .mv 39 (.t 0)),
 (none, .ln 40 (.t 39)),
 (none, .mv 41 (.c (.n .i64 0))),
 (none, .kp [3, 5, 39, 40, 41])])
 (.blk 0 (.lp pc70l0)))
 (.seq (.rg [(none, .fa 62 2 (.t 3)),
 (none, .ld 63 none (.t 62)),
 (none, .mv 64 (.t 5)),
 (none, .bi 65 .eql (.t 63) (.t 64)),
 (none, .mv 4 (.t 65)),
 (none, .kp [4])])
 (.rt)))))))
theorem mr70 : MrT Try.prog 70 pc70 [.t 4] 66 := fun hn h => spec_of_run (fn := Try.f70) (by kernel_rfl) rfl (by kernel_rfl) (by kernel_rfl) hn h
theorem mk70 : MkT Try.prog 70 pc70 [.t 4] 66 := mr70.k
theorem mw70 : MwT Try.prog 70 pc70 [.t 4] 66 := mr70.w
-- 71 laws.eqData
def pc71 : PC := .seq (.rg [(none, .bx 2 (.t 0)),
 (none, .bx 3 (.t 1)),
 (none, .mv 4 (.c (.b false))),
 (none, .kp [2, 3])])
 (.seq (.seq (.rg [(none, .fa 5 0 (.t 2)),
 (none, .ld 6 none (.t 5)),
 (none, .fa 7 0 (.t 3)),
 (none, .ld 8 none (.t 7)),
 (none, .bi 9 .neq (.t 6) (.t 8)),
 (none, .kp [2, 3, 9])])
 (.ite (.t 9) (.seq (.rg [(none, .mv 4 (.c (.b false))),
 (none, .kp [4])])
 (.rt))
 (.sk)))
 (.seq (.seq (.rg [(none, .fa 10 1 (.t 2)),
 (none, .ld 11 none (.t 10)),
 (none, .fa 12 1 (.t 3)),
 (none, .ld 13 none (.t 12)),
 (none, .bi 14 .neq (.t 11) (.t 13)),
 (none, .kp [2, 3, 14])])
 (.ite (.t 14) (.seq (.rg [(none, .mv 4 (.c (.b false))),
 (none, .kp [4])])
 (.rt))
 (.sk)))
 (.seq (.seq (.rg [(none, .fa 15 2 (.t 2)),
 (none, .ld 16 none (.t 15)),
 (none, .fa 17 2 (.t 3)),
 (none, .ld 18 none (.t 17)),
 (none, .bi 19 .neq (.t 16) (.t 18)),
 (none, .kp [2, 3, 19])])
 (.ite (.t 19) (.seq (.rg [(none, .mv 4 (.c (.b false))),
 (none, .kp [4])])
 (.rt))
 (.sk)))
 (.seq (.seq (.rg [(none, .fa 20 3 (.t 2)),
 (none, .ld 21 none (.t 20)),
 (none, .fa 22 3 (.t 3)),
 (none, .ld 23 none (.t 22)),
 (none, .bb 24 true (.t 21) (.t 23)),
 (none, .kp [2, 3, 24])])
 (.ite (.t 24) (.seq (.rg [(none, .mv 4 (.c (.b false))),
 (none, .kp [4])])
 (.rt))
 (.sk)))
 (.seq (.seq (.rg [(none, .fa 25 4 (.t 2)),
 (none, .ld 26 none (.t 25)),
 (none, .fa 27 4 (.t 3)),
 (none, .ld 28 none (.t 27)),
 (none, .bb 29 true (.t 26) (.t 28)),
 (none, .kp [2, 3, 29])])
 (.ite (.t 29) (.seq (.rg [(none, .mv 4 (.c (.b false))),
 (none, .kp [4])])
 (.rt))
 (.sk)))
 (.seq (.seq (.rg [(none, .fa 30 5 (.t 2)),
 (none, .ld 31 none (.t 30)),
 (none, .fa 32 5 (.t 3)),
 (none, .ld 33 none (.t 32)),
 (none, .bb 34 true (.t 31) (.t 33)),
 (none, .kp [2, 3, 34])])
 (.ite (.t 34) (.seq (.rg [(none, .mv 4 (.c (.b false))),
 (none, .kp [4])])
 (.rt))
 (.sk)))
 (.seq (.seq (.rg [(none, .fa 35 6 (.t 2)),
 (none, .ld 36 none (.t 35)),
 (none, .fa 37 6 (.t 3)),
 (none, .ld 38 none (.t 37)),
 (none, .bi 39 .neq (.t 36) (.t 38)),
 (none, .kp [39])])
 (.ite (.t 39) (.seq (.rg [(none, .mv 4 (.c (.b false))),
 (none, .kp [4])])
 (.rt))
 (.sk)))
 (.seq (.rg [(none, .mv 4 (.c (.b true))),
 (none, .kp [4])])
 (.rt)))))))))
theorem mr71 : MrT Try.prog 71 pc71 [.t 4] 40 := fun hn h => spec_of_run (fn := Try.f71) (by kernel_rfl) rfl (by kernel_rfl) (by kernel_rfl) hn h
theorem mk71 : MkT Try.prog 71 pc71 [.t 4] 40 := mr71.k
theorem mw71 : MwT Try.prog 71 pc71 [.t 4] 40 := mr71.w
-- 75 spec.l3Ok
def pc75 : PC := .seq (.rg [(none, .mv 2 (.c (.b false))),
 (none, .kp [0])])
 (.seq (.rg [(none, .mv 3 (.t 0)),
 (none, .ca (some 4) 47 [.t 3, .c (.n .i64 0), .c (.n .i64 65535)]),
 (none, .mv 2 (.t 4)),
 (none, .kp [2])])
 (.rt))
theorem mr75 : MrT Try.prog 75 pc75 [.t 2] 5 := fun hn h => spec_of_run (fn := Try.f75) (by kernel_rfl) rfl (by kernel_rfl) (by kernel_rfl) hn h
theorem mk75 : MkT Try.prog 75 pc75 [.t 2] 5 := mr75.k
theorem mw75 : MwT Try.prog 75 pc75 [.t 2] 5 := mr75.w
-- 82 spec.l31Ssn
def pc82l0 : PC := .seq (.seq (.rg [(none, .mv 7 (.t 6)),
 (none, .mv 8 (.t 0)),
 (none, .ln 9 (.t 8)),
 (none, .bi 10 .lss (.t 7) (.t 9)),
 (none, .kp [0, 1, 5, 6, 10])])
 (.ite (.t 10) (.sk)
 (.ex 0)))
 (.seq (.blk 1 (.seq (.rg [(none, .mv 13 (.t 0)),
 (none, .mv 14 (.t 6)),
 (none, .ia 15 7 (.t 13) (.t 14)),
 (none, .fa 16 3 (.t 15)),
 (none, .ld 17 none (.t 16)),
 (none, .mv 18 (.t 17)),
 (some (18, true), .mv 19 (.t 0)),
 (some (18, true), .mv 20 (.t 6)),
 (some (18, true), .ia 21 7 (.t 19) (.t 20)),
 (some (18, true), .fa 22 5 (.t 21)),
 (some (18, true), .ld 23 none (.t 22)),
 (some (18, true), .un 24 .not (.t 23)),
 (none, .pk 25 (.t 18) (.t 24) (.c (.b false))),
 (none, .mv 26 (.t 25)),
 (some (26, true), .mv 27 (.t 0)),
 (some (26, true), .mv 28 (.t 6)),
 (some (26, true), .ia 29 7 (.t 27) (.t 28)),
 (some (26, true), .fa 30 1 (.t 29)),
 (some (26, true), .ld 31 none (.t 30)),
 (some (26, true), .mv 32 (.t 1)),
 (some (26, true), .bi 33 .eql (.t 31) (.t 32)),
 (none, .pk 34 (.t 26) (.t 33) (.c (.b false))),
 (none, .kp [0, 1, 5, 6, 34])])
 (.ite (.t 34) (.rg [(none, .mv 35 (.t 5)),
 (none, .bi 36 .add (.t 35) (.c (.n .i64 1))),
 (none, .mv 5 (.t 36)),
 (none, .kp [0, 1, 5, 6])])
 (.sk))))
 (.rg [(none, .mv 11 (.t 6)),
 (none, .bi 12 .add (.t 11) (.c (.n .i64 1))),
 (none, .mv 6 (.t 12)),
 (none, .kp [0, 1, 5, 6])]))
def pc82 : PC := .seq (.rg [(none, .mv 4 (.c (.n .i64 0))),
 (none, .kp [0, 1])])
 (.seq (.rg [(none, .mv 5 (.c (.n .i64 0))),
 (none, .kp [0, 1, 5])])
 (.seq (.seq (.rg [(none, .mv 6 (.c (.n .i64 0))),
 (none, .kp [0, 1, 5, 6])])
 (.blk 0 (.lp pc82l0)))
 (.seq (.rg [(none, .mv 37 (.t 5)),
 (none, .mv 4 (.t 37)),
 (none, .kp [4])])
 (.rt))))
theorem mr82 : MrT Try.prog 82 pc82 [.t 4] 38 := fun hn h => spec_of_run (fn := Try.f82) (by kernel_rfl) rfl (by kernel_rfl) (by kernel_rfl) hn h
theorem mk82 : MkT Try.prog 82 pc82 [.t 4] 38 := mr82.k
theorem mw82 : MwT Try.prog 82 pc82 [.t 4] 38 := mr82.w
-- 83 spec.l3Add
def pc83 : PC := .seq (.rg [(none, .mv 4 (.c (.n .i64 0))),
 (none, .kp [0, 1])])
 (.seq (.rg [(none, .mv 5 (.t 0)),
 (none, .mv 6 (.t 1)),
 (none, .bi 7 .rem (.t 6) (.c (.n .i64 65536))),
 (none, .bi 8 .add (.t 5) (.t 7)),
 (none, .bi 9 .add (.t 8) (.c (.n .i64 65536))),
 (none, .bi 10 .rem (.t 9) (.c (.n .i64 65536))),
 (none, .mv 4 (.t 10)),
 (none, .kp [4])])
 (.rt))
theorem mr83 : MrT Try.prog 83 pc83 [.t 4] 11 := fun hn h => spec_of_run (fn := Try.f83) (by kernel_rfl) rfl (by kernel_rfl) (by kernel_rfl) hn h
theorem mk83 : MkT Try.prog 83 pc83 [.t 4] 11 := mr83.k
theorem mw83 : MwT Try.prog 83 pc83 [.t 4] 11 := mr83.w
-- 84 laws.szData
def pc84 : PC := .seq (.rg [(none, .bx 2 (.t 0)),
 (none, .mv 4 (.c (.n .i64 0))),
 (none, .kp [1, 2])])
 (.seq (.rg [(none, .mv 5 (.t 1)),
 (none, .fa 6 6 (.t 2)),
 (none, .ld 7 none (.t 6)),
 (none, .lS 8 (.t 7)),
 (none, .bi 9 .sub (.t 5) (.t 8)),
 (none, .mv 1 (.t 9)),
 (none, .kp [1])])
 (.seq (.seq (.rg [(none, .mv 10 (.t 1)),
 (none, .bi 11 .lss (.t 10) (.c (.n .i64 0))),
 (none, .kp [1, 11])])
 (.ite (.t 11) (.seq (.rg [(none, .mv 4 (.c (.n .i64 (-1)))),
 (none, .kp [4])])
 (.rt))
 (.sk)))
 (.seq (.rg [(none, .mv 12 (.t 1)),
 (none, .mv 4 (.t 12)),
 (none, .kp [4])])
 (.rt))))
theorem mr84 : MrT Try.prog 84 pc84 [.t 4] 13 := fun hn h => spec_of_run (fn := Try.f84) (by kernel_rfl) rfl (by kernel_rfl) (by kernel_rfl) hn h
theorem mk84 : MkT Try.prog 84 pc84 [.t 4] 13 := mr84.k
theorem mw84 : MwT Try.prog 84 pc84 [.t 4] 13 := mr84.w
-- 85 spec.l12Data
def pc85 : PC := .seq (.rg [(none, .bx 1 (.t 0)),
 (none, .mv 2 (.c (.b false))),
 (none, .kp [1])])
 (.seq (.rg [(none, .fa 3 0 (.t 1)),
 (none, .ld 4 none (.t 3)),
 (none, .ca (some 5) 75 [.t 4]),
 (none, .mv 6 (.t 5)),
 (some (6, true), .fa 7 1 (.t 1)),
 (some (6, true), .ld 8 none (.t 7)),
 (some (6, true), .ca (some 9) 75 [.t 8]),
 (none, .pk 10 (.t 6) (.t 9) (.c (.b false))),
 (none, .mv 11 (.t 10)),
 (some (11, true), .fa 12 2 (.t 1)),
 (some (11, true), .ld 13 none (.t 12)),
 (some (11, true), .ca (some 14) 75 [.t 13]),
 (none, .pk 15 (.t 11) (.t 14) (.c (.b false))),
 (none, .mv 16 (.t 15)),
 (some (16, true), .fa 17 6 (.t 1)),
 (some (16, true), .ld 18 none (.t 17)),
 (some (16, true), .lS 19 (.t 18)),
 (some (16, true), .ca (some 20) 47 [.t 19, .c (.n .i64 1), .c (.n .i64 20)]),
 (none, .pk 21 (.t 16) (.t 20) (.c (.b false))),
 (none, .mv 2 (.t 21)),
 (none, .kp [2])])
 (.rt))
theorem mr85 : MrT Try.prog 85 pc85 [.t 2] 22 := fun hn h => spec_of_run (fn := Try.f85) (by kernel_rfl) rfl (by kernel_rfl) (by kernel_rfl) hn h
theorem mk85 : MkT Try.prog 85 pc85 [.t 2] 22 := mr85.k
theorem mw85 : MwT Try.prog 85 pc85 [.t 2] 22 := mr85.w
-- 86 spec.l31Follows
def pc86 : PC := .seq (.rg [(none, .bx 3 (.t 1)),
 (none, .mv 4 (.c (.b false))),
 (none, .kp [0, 3])])
 (.seq (.rg [(none, .mv 6 (.t 0)),
 (none, .ln 7 (.t 6)),
 (none, .mv 5 (.t 7)),
 (none, .kp [0, 3, 5])])
 (.seq (.seq (.rg [(none, .mv 8 (.t 5)),
 (none, .bi 9 .gtr (.t 8) (.c (.n .i64 0))),
 (none, .mv 10 (.t 9)),
 (some (10, true), .mv 11 (.t 0)),
 (some (10, true), .mv 12 (.t 5)),
 (some (10, true), .bi 13 .sub (.t 12) (.c (.n .i64 1))),
 (some (10, true), .ia 14 7 (.t 11) (.t 13)),
 (some (10, true), .fa 15 4 (.t 14)),
 (some (10, true), .ld 16 none (.t 15)),
 (some (10, true), .un 17 .not (.t 16)),
 (none, .pk 18 (.t 10) (.t 17) (.c (.b false))),
 (none, .kp [0, 3, 5, 18])])
 (.ite (.t 18) (.seq (.dr [[], [0], [0, 1], [0, 1, 2], [0, 1, 2, 3], [0, 1, 2, 3], [0, 1, 2, 3, 5], [0, 1, 2, 3, 4, 5, 6], [0, 1, 2, 3, 4, 5, 6, 7], [0, 1, 2, 3], [0, 1, 2, 3, 4, 5, 6, 7, 8, 9], [0, 1, 2, 3, 4, 5, 6, 7, 8, 9, 10], [0, 1, 2, 3, 4, 5, 6, 7, 8, 9, 10, 11]]
 (.q 0 (none, .fa 19 3 (.t 3))
 (.q 1 (none, .ld 20 none (.t 19))
 (.q 2 (none, .un 21 .not (.t 20))
 (.q 3 (none, .mv 22 (.t 21))
 (.q 4 (some (22, true), .mv 23 (.t 0))
 (.q 5 (some (22, true), .mv 24 (.t 5))
 (.q 6 (some (22, true), .bi 25 .sub (.t 24) (.c (.n .i64 1)))
 (.q 7 (some (22, true), .ia 26 7 (.t 23) (.t 25))
 (.q 8 (some (22, true), .ld 27 (some 7) (.t 26))
 (.q 9 (some (22, true), .ld 28 (some 7) (.t 3))
 (.alt 10 (some (22, true), .ca (some 29) 95 [.t 27, .t 28]) [false, false, false, false, false, false, false, false, false, false]
 (.q 11 (none, .pk 30 (.t 22) (.t 29) (.c (.b false)))
 (.q 12 (none, .mv 4 (.t 30))
 (.done)))
 (.stop)))))))))))) [4])
 (.rt))
 (.sk)))
 (.seq (.dr [[], [0], [0, 1], [0, 1, 2], [0, 1, 2, 3], [0, 1, 2, 3, 4], [0, 1, 2, 3, 4, 5], [0, 1, 2, 3, 4, 5, 6], [0, 1, 2, 3, 4, 5], [0, 1, 2, 3, 4, 5], [0, 1, 2, 3, 4, 5, 9], [0, 1, 2, 3, 4, 5, 8, 9, 10], [0, 1, 2, 3, 4, 5, 6, 7, 8, 9, 10, 11], [0, 1, 2, 3, 4, 5, 6, 7, 8, 9, 10, 11, 12], [0, 1, 2, 3, 4, 5, 6, 7, 8, 9, 10, 11, 12, 13], [0, 1, 2, 3, 4, 5, 6, 7, 8, 9, 10, 11, 12, 13, 14]]
 (.q 0 (none, .fa 31 3 (.t 3))
 (.q 1 (none, .ld 32 none (.t 31))
 (.q 2 (none, .mv 33 (.t 32))
 (.q 3 (some (33, true), .fa 34 5 (.t 3))
 (.q 4 (some (33, true), .ld 35 none (.t 34))
 (.q 5 (some (33, true), .mv 36 (.t 35))
 (.q 6 (some (36, false), .fa 37 2 (.t 3))
 (.q 7 (some (36, false), .ld 38 none (.t 37))
 (.q 8 (some (36, false), .mv 39 (.t 0))
 (.q 9 (some (36, false), .fa 40 1 (.t 3))
 (.q 10 (some (36, false), .ld 41 none (.t 40))
 (.alt 11 (some (36, false), .ca (some 42) 82 [.t 39, .t 41]) [false, false, false, false, false, false, true, true, false, false, false]
 (.q 12 (some (36, false), .bi 43 .eql (.t 38) (.t 42))
 (.q 13 (some (33, true), .pk 44 (.t 36) (.c (.b true)) (.t 43))
 (.q 14 (none, .pk 45 (.t 33) (.t 44) (.c (.b false)))
 (.q 15 (none, .mv 4 (.t 45))
 (.done)))))
 (.stop))))))))))))) [4])
 (.rt))))
theorem mr86 : MrT Try.prog 86 pc86 [.t 4] 46 := fun hn h => spec_of_run (fn := Try.f86) (by kernel_rfl) rfl (by kernel_rfl) (by kernel_rfl) hn h
theorem mk86 : MkT Try.prog 86 pc86 [.t 4] 46 := mr86.k
theorem mw86 : MwT Try.prog 86 pc86 [.t 4] 46 := mr86.w
-- 87 laws.toData
def pc87 : PC := .seq (.rg [(none, .bx 1 (.t 0)),
 (none, .al 2 [.n .i64 0, .n .i64 0, .n .i64 0, .b false, .b false, .b false, .s []]),
 (none, .kp [1, 2])])
 (.seq (.rg [(none, .al 3 [.n .i64 0, .n .i64 0, .n .i64 0, .b false, .b false, .b false, .s []]),
 (none, .kp [1, 2, 3])])
 (.seq (.rg [(none, .fa 4 0 (.t 1)),
 (none, .ld 5 none (.t 4)),
 (none, .fa 6 0 (.t 3)),
 (none, .st 1 (.t 6) (.t 5)),
 (none, .kp [1, 2, 3])])
 (.seq (.rg [(none, .fa 7 1 (.t 1)),
 (none, .ld 8 none (.t 7)),
 (none, .fa 9 1 (.t 3)),
 (none, .st 1 (.t 9) (.t 8)),
 (none, .kp [1, 2, 3])])
 (.seq (.rg [(none, .fa 10 2 (.t 1)),
 (none, .ld 11 none (.t 10)),
 (none, .fa 12 2 (.t 3)),
 (none, .st 1 (.t 12) (.t 11)),
 (none, .kp [1, 2, 3])])
 (.seq (.rg [(none, .fa 13 3 (.t 1)),
 (none, .ld 14 none (.t 13)),
 (none, .fa 15 3 (.t 3)),
 (none, .st 1 (.t 15) (.t 14)),
 (none, .kp [1, 2, 3])])
 (.seq (.rg [(none, .fa 16 4 (.t 1)),
 (none, .ld 17 none (.t 16)),
 (none, .fa 18 4 (.t 3)),
 (none, .st 1 (.t 18) (.t 17)),
 (none, .kp [1, 2, 3])])
 (.seq (.rg [(none, .fa 19 5 (.t 1)),
 (none, .ld 20 none (.t 19)),
 (none, .fa 21 5 (.t 3)),
 (none, .st 1 (.t 21) (.t 20)),
 (none, .kp [1, 2, 3])])
 (.seq (.rg [(none, .fa 22 6 (.t 1)),
 (none, .ld 23 none (.t 22)),
 (none, .fa 24 6 (.t 3)),
 (none, .st 1 (.t 24) (.t 23)),
 (none, .kp [2, 3])])
 (.seq (.rg [(none, .ld 25 (some 7) (.t 3)),
 (none, .st 7 (.t 2) (.t 25)),
 (none, .kp [2])])
 (.rt))))))))))
theorem mr87 : MrT Try.prog 87 pc87 [.c 2 (some 7)] 26 := fun hn h => spec_of_run (fn := Try.f87) (by kernel_rfl) rfl (by kernel_rfl) (by kernel_rfl) hn h
theorem mk87 : MkT Try.prog 87 pc87 [.c 2 (some 7)] 26 := mr87.k
theorem mw87 : MwT Try.prog 87 pc87 [.c 2 (some 7)] 26 := mr87.w
-- 88 impl.likeParts
def pc88 : PC := .seq (.rg [(none, .bx 2 (.t 0)),
 (none, .bx 3 (.t 1)),
 (none, .mv 4 (.c (.b false))),
 (none, .kp [2, 3])])
 (.seq (.rg [(none, .fa 5 1 (.t 2)),
 (none, .ld 6 none (.t 5)),
 (none, .fa 7 1 (.t 3)),
 (none, .ld 8 none (.t 7)),
 (none, .bi 9 .eql (.t 6) (.t 8)),
 (none, .mv 10 (.t 9)),
 (some (10, true), .fa 11 2 (.t 2)),
 (some (10, true), .ld 12 none (.t 11)),
 (some (10, true), .fa 13 2 (.t 3)),
 (some (10, true), .ld 14 none (.t 13)),
 (some (10, true), .bi 15 .eql (.t 12) (.t 14)),
 (none, .pk 16 (.t 10) (.t 15) (.c (.b false))),
 (none, .mv 17 (.t 16)),
 (some (17, true), .fa 18 5 (.t 2)),
 (some (17, true), .ld 19 none (.t 18)),
 (some (17, true), .fa 20 5 (.t 3)),
 (some (17, true), .ld 21 none (.t 20)),
 (some (17, true), .bb 22 false (.t 19) (.t 21)),
 (none, .pk 23 (.t 17) (.t 22) (.c (.b false))),
 (none, .mv 4 (.t 23)),
 (none, .kp [4])])
 (.rt))
theorem mr88 : MrT Try.prog 88 pc88 [.t 4] 24 := fun hn h => spec_of_run (fn := Try.f88) (by kernel_rfl) rfl (by kernel_rfl) (by kernel_rfl) hn h
theorem mk88 : MkT Try.prog 88 pc88 [.t 4] 24 := mr88.k
theorem mw88 : MwT Try.prog 88 pc88 [.t 4] 24 := mr88.w
-- 95 spec.l22Same
def pc95 : PC := .seq (.rg [(none, .bx 2 (.t 0)),
 (none, .bx 3 (.t 1)),
 (none, .mv 4 (.c (.b false))),
 (none, .kp [2, 3])])
 (.seq (.rg [(none, .fa 5 1 (.t 2)),
 (none, .ld 6 none (.t 5)),
 (none, .fa 7 1 (.t 3)),
 (none, .ld 8 none (.t 7)),
 (none, .bi 9 .eql (.t 6) (.t 8)),
 (none, .mv 10 (.t 9)),
 (some (10, true), .fa 11 2 (.t 2)),
 (some (10, true), .ld 12 none (.t 11)),
 (some (10, true), .fa 13 2 (.t 3)),
 (some (10, true), .ld 14 none (.t 13)),
 (some (10, true), .bi 15 .eql (.t 12) (.t 14)),
 (none, .pk 16 (.t 10) (.t 15) (.c (.b false))),
 (none, .mv 17 (.t 16)),
 (some (17, true), .fa 18 5 (.t 2)),
 (some (17, true), .ld 19 none (.t 18)),
 (some (17, true), .fa 20 5 (.t 3)),
 (some (17, true), .ld 21 none (.t 20)),
 (some (17, true), .bb 22 false (.t 19) (.t 21)),
 (none, .pk 23 (.t 17) (.t 22) (.c (.b false))),
 (none, .mv 4 (.t 23)),
 (none, .kp [4])])
 (.rt))
theorem mr95 : MrT Try.prog 95 pc95 [.t 4] 24 := fun hn h => spec_of_run (fn := Try.f95) (by kernel_rfl) rfl (by kernel_rfl) (by kernel_rfl) hn h
theorem mk95 : MkT Try.prog 95 pc95 [.t 4] 24 := mr95.k
theorem mw95 : MwT Try.prog 95 pc95 [.t 4] 24 := mr95.w
end Go.Cap
