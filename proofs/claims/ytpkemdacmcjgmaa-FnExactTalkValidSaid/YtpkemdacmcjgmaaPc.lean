import Derived.Test.YtpkemdacmcjgmaaChecked
import Derived.Test.YtpkemdacmcjgmaaEngC
namespace Go.Cap
open Go Go.Proofs
set_option maxRecDepth 100000
-- 3 laws.FnExactTalkValid
def pc3 : PC := .seq (.rg [(none, .bx 1 (.t 0)),
 (none, .mv 2 (.c (.b false))),
 (none, .kp [1])])
 (.seq (.rg [(none, .mv 3 (.c (.n .i64 1048576))),
 (none, .kp [1, 3])])
 (.seq (.rg [(none, .ld 7 (some 12) (.t 1)),
 (none, .mv 8 (.t 3)),
 (none, .ca (some 9) 15 [.t 7, .t 8]),
 (none, .mv 3 (.t 9)),
 (none, .kp [1, 3])])
 (.seq (.seq (.rg [(none, .mv 10 (.t 3)),
 (none, .bi 11 .lss (.t 10) (.c (.n .i64 0))),
 (none, .kp [1, 11])])
 (.ite (.t 11) (.seq (.rg [(none, .mv 2 (.c (.b true))),
 (none, .kp [2])])
 (.rt))
 (.sk)))
 (.seq (.rg [(none, .ld 12 (some 12) (.t 1)),
 (none, .ca (some 13) 17 [.t 12]),
 (none, .ca (some 14) 16 [.t 13]),
 (none, .mv 4 (.t 14)),
 (none, .kp [1, 4])])
 (.seq (.rg [(none, .ld 15 (some 12) (.t 1)),
 (none, .ca (some 16) 17 [.t 15]),
 (none, .al 5 [.n .i64 0, .n .i64 0, .n .i64 0, .n .i64 0, .n .i64 0, .n .i64 0, .n .i64 0, .n .i64 0, .n .i64 0, .n .i64 0, .n .i64 0, .nil]),
 (none, .st 12 (.t 5) (.t 16)),
 (none, .kp [1, 4, 5])])
 (.seq (.rg [(none, .ld 17 (some 12) (.t 5)),
 (none, .ca (some 18) 18 [.t 17]),
 (none, .mv 6 (.t 18)),
 (none, .kp [1, 4, 5, 6])])
 (.seq (.seq (.rg [(none, .mv 19 (.t 6)),
 (none, .mv 20 (.t 4)),
 (none, .bb 21 true (.t 19) (.t 20)),
 (none, .kp [1, 5, 21])])
 (.ite (.t 21) (.seq (.rg [(none, .mv 2 (.c (.b false))),
 (none, .kp [2])])
 (.rt))
 (.sk)))
 (.seq (.seq (.dr [[], [], [1], [0, 1, 2], [0, 1, 2, 3]]
 (.q 0 (none, .ld 22 (some 12) (.t 5))
 (.q 1 (none, .ld 23 (some 12) (.t 1))
 (.alt 2 (none, .ca (some 24) 17 [.t 23]) [true, false]
 (.alt 3 (none, .ca (some 25) 19 [.t 22, .t 24]) [false, false]
 (.q 4 (none, .un 26 .not (.t 25))
 (.done))
 (.stop))
 (.stop)))) [26])
 (.ite (.t 26) (.seq (.rg [(none, .mv 2 (.c (.b false))),
 (none, .kp [2])])
 (.rt))
 (.sk)))
 (.seq (.rg [(none, .mv 2 (.c (.b true))),
 (none, .kp [2])])
 (.rt))))))))))
theorem mr3 {m : Nat} {H : List (Nat × Blk)} {args : List AV} {Q : AV → List (Nat × Blk) → Nat → List Nat → Prop} (hn : Nat.ble args.length 27 = true) (h : ∀ c : Cx, c.P = Try.prog → c.m = m → Run c pc3 ⟨zipS 0 args, H, m, []⟩ (Ret [.t 2] Q) (fun _ _ => False) (Ret [.t 2] Q)) : Spec Try.prog 3 m H args Q := spec_of_run (fn := Try.f3) (by kernel_rfl) rfl (by kernel_rfl) (by kernel_rfl) hn h
theorem mk3 {m : Nat} {H : List (Nat × Blk)} {args : List AV} {Q : AV → List (Nat × Blk) → Nat → List Nat → Prop} (hn : Nat.ble args.length 27 = true) (h : ∀ c : Cx, c.P = Try.prog → c.m = m → wpc c pc3 ⟨zipS 0 args, H, m, []⟩ (Ret [.t 2] Q) (fun _ _ => False) (Ret [.t 2] Q)) : Spec Try.prog 3 m H args Q := mr3 hn fun c h1 h2 => run_wpc _ _ _ _ _ (h c h1 h2)
theorem mw3 {m : Nat} {H : List (Nat × Blk)} {args : List AV} {Q : AV → List (Nat × Blk) → Nat → List Nat → Prop} (hn : Nat.ble args.length 27 = true) (h : ∀ c : Cx, c.P = Try.prog → c.m = m → wpc c pc3 ⟨zipS 0 args, H, m, []⟩ (wk c (Ret [.t 2] Q)) (fun _ _ => False) (wk c (Ret [.t 2] Q))) : Spec Try.prog 3 m H args Q := mr3 hn fun c h1 h2 => run_wk (run_wpc _ _ _ _ _ (h c h1 h2))
-- 15 laws.szTalk
def pc15 : PC := .seq (.rg [(none, .bx 2 (.t 0)),
 (none, .mv 4 (.c (.n .i64 0))),
 (none, .kp [1, 2])])
 (.seq (.rg [(none, .fa 5 11 (.t 2)),
 (none, .ld 6 none (.t 5)),
 (none, .mv 7 (.t 1)),
 (none, .ca (some 8) 46 [.t 6, .t 7]),
 (none, .mv 1 (.t 8)),
 (none, .kp [1])])
 (.seq (.seq (.rg [(none, .mv 9 (.t 1)),
 (none, .bi 10 .lss (.t 9) (.c (.n .i64 0))),
 (none, .kp [1, 10])])
 (.ite (.t 10) (.seq (.rg [(none, .mv 4 (.c (.n .i64 (-1)))),
 (none, .kp [4])])
 (.rt))
 (.sk)))
 (.seq (.rg [(none, .mv 11 (.t 1)),
 (none, .mv 4 (.t 11)),
 (none, .kp [4])])
 (.rt))))
theorem mr15 {m : Nat} {H : List (Nat × Blk)} {args : List AV} {Q : AV → List (Nat × Blk) → Nat → List Nat → Prop} (hn : Nat.ble args.length 12 = true) (h : ∀ c : Cx, c.P = Try.prog → c.m = m → Run c pc15 ⟨zipS 0 args, H, m, []⟩ (Ret [.t 4] Q) (fun _ _ => False) (Ret [.t 4] Q)) : Spec Try.prog 15 m H args Q := spec_of_run (fn := Try.f15) (by kernel_rfl) rfl (by kernel_rfl) (by kernel_rfl) hn h
theorem mk15 {m : Nat} {H : List (Nat × Blk)} {args : List AV} {Q : AV → List (Nat × Blk) → Nat → List Nat → Prop} (hn : Nat.ble args.length 12 = true) (h : ∀ c : Cx, c.P = Try.prog → c.m = m → wpc c pc15 ⟨zipS 0 args, H, m, []⟩ (Ret [.t 4] Q) (fun _ _ => False) (Ret [.t 4] Q)) : Spec Try.prog 15 m H args Q := mr15 hn fun c h1 h2 => run_wpc _ _ _ _ _ (h c h1 h2)
theorem mw15 {m : Nat} {H : List (Nat × Blk)} {args : List AV} {Q : AV → List (Nat × Blk) → Nat → List Nat → Prop} (hn : Nat.ble args.length 12 = true) (h : ∀ c : Cx, c.P = Try.prog → c.m = m → wpc c pc15 ⟨zipS 0 args, H, m, []⟩ (wk c (Ret [.t 4] Q)) (fun _ _ => False) (wk c (Ret [.t 4] Q))) : Spec Try.prog 15 m H args Q := mr15 hn fun c h1 h2 => run_wk (run_wpc _ _ _ _ _ (h c h1 h2))
-- 16 spec.TalkValid
def pc16l0 : PC := .seq (.seq (.rg [(none, .mv 42 (.t 5)),
 (none, .fa 43 11 (.t 1)),
 (none, .ld 44 none (.t 43)),
 (none, .ln 45 (.t 44)),
 (none, .bi 46 .lss (.t 42) (.t 45)),
 (none, .kp [1, 3, 4, 5, 46])])
 (.ite (.t 46) (.sk)
 (.ex 0)))
 (.seq (.blk 1 (.seq (.rg [(none, .fa 49 11 (.t 1)),
 (none, .ld 50 none (.t 49)),
 (none, .mv 51 (.t 5)),
 (none, .ia 52 4 (.t 50) (.t 51)),
 (none, .ld 53 (some 4) (.t 52)),
 (none, .al 6 [.b false, .n .i64 0, .b false, .s []]),
 (none, .st 4 (.t 6) (.t 53)),
 (none, .kp [1, 3, 4, 5, 6])])
 (.seq (.seq (.rg [(none, .fa 54 3 (.t 6)),
 (none, .ld 55 none (.t 54)),
 (none, .lS 56 (.t 55)),
 (none, .ca (some 57) 47 [.t 56, .c (.n .i64 1), .c (.n .i64 60)]),
 (none, .un 58 .not (.t 57)),
 (none, .mv 59 (.t 58)),
 (some (59, false), .fa 60 0 (.t 6)),
 (some (59, false), .ld 61 none (.t 60)),
 (some (59, false), .mv 62 (.t 61)),
 (some (62, true), .fa 63 1 (.t 6)),
 (some (62, true), .ld 64 none (.t 63)),
 (some (62, true), .fa 65 6 (.t 1)),
 (some (62, true), .fa 66 2 (.t 65)),
 (some (62, true), .ld 67 none (.t 66)),
 (some (62, true), .bi 68 .sub (.t 67) (.c (.n .i64 1))),
 (some (62, true), .ca (some 69) 47 [.t 64, .c (.n .i64 0), .t 68]),
 (some (62, true), .un 70 .not (.t 69)),
 (some (59, false), .pk 71 (.t 62) (.t 70) (.c (.b false))),
 (none, .pk 72 (.t 59) (.c (.b true)) (.t 71)),
 (none, .mv 73 (.t 72)),
 (some (73, false), .fa 74 0 (.t 6)),
 (some (73, false), .ld 75 none (.t 74)),
 (some (73, false), .un 76 .not (.t 75)),
 (some (73, false), .mv 77 (.t 76)),
 (some (77, true), .fa 78 1 (.t 6)),
 (some (77, true), .ld 79 none (.t 78)),
 (some (77, true), .fa 80 2 (.t 1)),
 (some (77, true), .fa 81 2 (.t 80)),
 (some (77, true), .ld 82 none (.t 81)),
 (some (77, true), .bi 83 .sub (.t 82) (.c (.n .i64 1))),
 (some (77, true), .ca (some 84) 47 [.t 79, .c (.n .i64 0), .t 83]),
 (some (77, true), .un 85 .not (.t 84)),
 (some (73, false), .pk 86 (.t 77) (.t 85) (.c (.b false))),
 (none, .pk 87 (.t 73) (.c (.b true)) (.t 86)),
 (none, .kp [1, 3, 4, 5, 6, 87])])
 (.ite (.t 87) (.seq (.rg [(none, .mv 2 (.c (.b false))),
 (none, .kp [2])])
 (.rt))
 (.sk)))
 (.seq (.rg [(none, .fa 88 0 (.t 6)),
 (none, .ld 89 none (.t 88)),
 (none, .kp [1, 3, 4, 5, 6, 89])])
 (.ite (.t 89) (.rg [(none, .mv 90 (.t 4)),
 (none, .fa 91 3 (.t 6)),
 (none, .ld 92 none (.t 91)),
 (none, .fa 93 10 (.t 1)),
 (none, .ld 94 none (.t 93)),
 (none, .ca (some 95) 49 [.t 92, .t 94]),
 (none, .bi 96 .add (.t 90) (.t 95)),
 (none, .mv 4 (.t 96)),
 (none, .kp [1, 3, 4, 5])])
 (.rg [(none, .mv 97 (.t 3)),
 (none, .fa 98 3 (.t 6)),
 (none, .ld 99 none (.t 98)),
 (none, .fa 100 10 (.t 1)),
 (none, .ld 101 none (.t 100)),
 (none, .ca (some 102) 49 [.t 99, .t 101]),
 (none, .bi 103 .add (.t 97) (.t 102)),
 (none, .mv 3 (.t 103)),
 (none, .kp [1, 3, 4, 5])]))))))
 (.rg [(none, .mv 47 (.t 5)),
 (none, .bi 48 .add (.t 47) (.c (.n .i64 1))),
 (none, .mv 5 (.t 48)),
 (none, .kp [1, 3, 4, 5])]))
def pc16 : PC := .seq (.rg [(none, .bx 1 (.t 0)),
 (none, .mv 2 (.c (.b false))),
 (none, .kp [1])])
 (.seq (.seq (.rg [(none, .fa 7 0 (.t 1)),
 (none, .ld 8 none (.t 7)),
 (none, .ca (some 9) 47 [.t 8, .c (.n .i64 1), .c (.n .i64 65535)]),
 (none, .un 10 .not (.t 9)),
 (none, .mv 11 (.t 10)),
 (some (11, false), .fa 12 1 (.t 1)),
 (some (11, false), .ld 13 none (.t 12)),
 (some (11, false), .ca (some 14) 47 [.t 13, .c (.n .i64 1), .c (.n .i64 65535)]),
 (some (11, false), .un 15 .not (.t 14)),
 (none, .pk 16 (.t 11) (.c (.b true)) (.t 15)),
 (none, .mv 17 (.t 16)),
 (some (17, false), .fa 18 0 (.t 1)),
 (some (17, false), .ld 19 none (.t 18)),
 (some (17, false), .fa 20 1 (.t 1)),
 (some (17, false), .ld 21 none (.t 20)),
 (some (17, false), .bi 22 .eql (.t 19) (.t 21)),
 (none, .pk 23 (.t 17) (.c (.b true)) (.t 22)),
 (none, .mv 24 (.t 23)),
 (some (24, false), .fa 25 2 (.t 1)),
 (some (24, false), .ld 26 (some 4) (.t 25)),
 (some (24, false), .ca (some 27) 48 [.t 26]),
 (some (24, false), .un 28 .not (.t 27)),
 (none, .pk 29 (.t 24) (.c (.b true)) (.t 28)),
 (none, .mv 30 (.t 29)),
 (some (30, false), .fa 31 6 (.t 1)),
 (some (30, false), .ld 32 (some 4) (.t 31)),
 (some (30, false), .ca (some 33) 48 [.t 32]),
 (some (30, false), .un 34 .not (.t 33)),
 (none, .pk 35 (.t 30) (.c (.b true)) (.t 34)),
 (none, .mv 36 (.t 35)),
 (some (36, false), .fa 37 10 (.t 1)),
 (some (36, false), .ld 38 none (.t 37)),
 (some (36, false), .ca (some 39) 47 [.t 38, .c (.n .i64 1), .c (.n .i64 20)]),
 (some (36, false), .un 40 .not (.t 39)),
 (none, .pk 41 (.t 36) (.c (.b true)) (.t 40)),
 (none, .kp [1, 41])])
 (.ite (.t 41) (.seq (.rg [(none, .mv 2 (.c (.b false))),
 (none, .kp [2])])
 (.rt))
 (.sk)))
 (.seq (.rg [(none, .mv 3 (.c (.n .i64 0))),
 (none, .kp [1, 3])])
 (.seq (.rg [(none, .mv 4 (.c (.n .i64 0))),
 (none, .kp [1, 3, 4])])
 (.seq (.seq (.rg [(none, .mv 5 (.c (.n .i64 0))),
 (none, .kp [1, 3, 4, 5])])
 (.blk 0 (.lp pc16l0)))
 (.seq (.rg [(none, .fa 104 11 (.t 1)),
 (none, .ld 105 none (.t 104)),
 (none, .ln 106 (.t 105)),
 (none, .bi 107 .leq (.t 106) (.c (.n .i64 4))),
 (none, .mv 108 (.t 107)),
 (some (108, true), .mv 109 (.t 3)),
 (some (108, true), .bi 110 .leq (.t 109) (.c (.n .i64 12))),
 (none, .pk 111 (.t 108) (.t 110) (.c (.b false))),
 (none, .mv 112 (.t 111)),
 (some (112, true), .mv 113 (.t 4)),
 (some (112, true), .bi 114 .leq (.t 113) (.c (.n .i64 12))),
 (none, .pk 115 (.t 112) (.t 114) (.c (.b false))),
 (none, .mv 2 (.t 115)),
 (none, .kp [2])])
 (.rt))))))
theorem mr16 {m : Nat} {H : List (Nat × Blk)} {args : List AV} {Q : AV → List (Nat × Blk) → Nat → List Nat → Prop} (hn : Nat.ble args.length 116 = true) (h : ∀ c : Cx, c.P = Try.prog → c.m = m → Run c pc16 ⟨zipS 0 args, H, m, []⟩ (Ret [.t 2] Q) (fun _ _ => False) (Ret [.t 2] Q)) : Spec Try.prog 16 m H args Q := spec_of_run (fn := Try.f16) (by kernel_rfl) rfl (by kernel_rfl) (by kernel_rfl) hn h
theorem mk16 {m : Nat} {H : List (Nat × Blk)} {args : List AV} {Q : AV → List (Nat × Blk) → Nat → List Nat → Prop} (hn : Nat.ble args.length 116 = true) (h : ∀ c : Cx, c.P = Try.prog → c.m = m → wpc c pc16 ⟨zipS 0 args, H, m, []⟩ (Ret [.t 2] Q) (fun _ _ => False) (Ret [.t 2] Q)) : Spec Try.prog 16 m H args Q := mr16 hn fun c h1 h2 => run_wpc _ _ _ _ _ (h c h1 h2)
theorem mw16 {m : Nat} {H : List (Nat × Blk)} {args : List AV} {Q : AV → List (Nat × Blk) → Nat → List Nat → Prop} (hn : Nat.ble args.length 116 = true) (h : ∀ c : Cx, c.P = Try.prog → c.m = m → wpc c pc16 ⟨zipS 0 args, H, m, []⟩ (wk c (Ret [.t 2] Q)) (fun _ _ => False) (wk c (Ret [.t 2] Q))) : Spec Try.prog 16 m H args Q := mr16 hn fun c h1 h2 => run_wk (run_wpc _ _ _ _ _ (h c h1 h2))
-- 17 laws.toTalk
def pc17 : PC := .seq (.rg [(none, .bx 1 (.t 0)),
 (none, .al 2 [.n .i64 0, .n .i64 0, .n .i64 0, .n .i64 0, .n .i64 0, .n .i64 0, .n .i64 0, .n .i64 0, .n .i64 0, .n .i64 0, .n .i64 0, .nil]),
 (none, .kp [1, 2])])
 (.seq (.rg [(none, .al 3 [.n .i64 0, .n .i64 0, .n .i64 0, .n .i64 0, .n .i64 0, .n .i64 0, .n .i64 0, .n .i64 0, .n .i64 0, .n .i64 0, .n .i64 0, .nil]),
 (none, .kp [1, 2, 3])])
 (.seq (.rg [(none, .fa 4 0 (.t 1)),
 (none, .ld 5 none (.t 4)),
 (none, .fa 6 0 (.t 3)),
 (none, .st 1 (.t 6) (.t 5)),
 (none, .kp [1, 2, 3])])
 (.seq (.rg [(none, .fa 7 1 (.t 1)),
 (none, .ld 8 none (.t 7)),
 (none, .fa 9 1 (.t 3)),
 (none, .st 1 (.t 9) (.t 8)),
 (none, .kp [1, 2, 3])])
 (.seq (.rg [(none, .fa 10 2 (.t 1)),
 (none, .ld 11 (some 4) (.t 10)),
 (none, .ca (some 12) 50 [.t 11]),
 (none, .fa 13 2 (.t 3)),
 (none, .st 4 (.t 13) (.t 12)),
 (none, .kp [1, 2, 3])])
 (.seq (.rg [(none, .fa 14 6 (.t 1)),
 (none, .ld 15 (some 4) (.t 14)),
 (none, .ca (some 16) 50 [.t 15]),
 (none, .fa 17 6 (.t 3)),
 (none, .st 4 (.t 17) (.t 16)),
 (none, .kp [1, 2, 3])])
 (.seq (.rg [(none, .fa 18 10 (.t 1)),
 (none, .ld 19 none (.t 18)),
 (none, .fa 20 10 (.t 3)),
 (none, .st 1 (.t 20) (.t 19)),
 (none, .kp [1, 2, 3])])
 (.seq (.rg [(none, .fa 21 11 (.t 1)),
 (none, .ld 22 none (.t 21)),
 (none, .ca (some 23) 51 [.t 22]),
 (none, .fa 24 11 (.t 3)),
 (none, .st 1 (.t 24) (.t 23)),
 (none, .kp [2, 3])])
 (.seq (.rg [(none, .ld 25 (some 12) (.t 3)),
 (none, .st 12 (.t 2) (.t 25)),
 (none, .kp [2])])
 (.rt)))))))))
theorem mr17 {m : Nat} {H : List (Nat × Blk)} {args : List AV} {Q : AV → List (Nat × Blk) → Nat → List Nat → Prop} (hn : Nat.ble args.length 26 = true) (h : ∀ c : Cx, c.P = Try.prog → c.m = m → Run c pc17 ⟨zipS 0 args, H, m, []⟩ (Ret [.c 2 (some 12)] Q) (fun _ _ => False) (Ret [.c 2 (some 12)] Q)) : Spec Try.prog 17 m H args Q := spec_of_run (fn := Try.f17) (by kernel_rfl) rfl (by kernel_rfl) (by kernel_rfl) hn h
theorem mk17 {m : Nat} {H : List (Nat × Blk)} {args : List AV} {Q : AV → List (Nat × Blk) → Nat → List Nat → Prop} (hn : Nat.ble args.length 26 = true) (h : ∀ c : Cx, c.P = Try.prog → c.m = m → wpc c pc17 ⟨zipS 0 args, H, m, []⟩ (Ret [.c 2 (some 12)] Q) (fun _ _ => False) (Ret [.c 2 (some 12)] Q)) : Spec Try.prog 17 m H args Q := mr17 hn fun c h1 h2 => run_wpc _ _ _ _ _ (h c h1 h2)
theorem mw17 {m : Nat} {H : List (Nat × Blk)} {args : List AV} {Q : AV → List (Nat × Blk) → Nat → List Nat → Prop} (hn : Nat.ble args.length 26 = true) (h : ∀ c : Cx, c.P = Try.prog → c.m = m → wpc c pc17 ⟨zipS 0 args, H, m, []⟩ (wk c (Ret [.c 2 (some 12)] Q)) (fun _ _ => False) (wk c (Ret [.c 2 (some 12)] Q))) : Spec Try.prog 17 m H args Q := mr17 hn fun c h1 h2 => run_wk (run_wpc _ _ _ _ _ (h c h1 h2))
-- 18 impl.TalkValid
def pc18l0 : PC := .seq (.rg [(none, .bi 66 .lss (.t 65) (.t 64)),
 (none, .kp [1, 3, 63, 64, 65, 66])])
 (.seq (.ite (.t 66) (.sk)
 (.ex 0))
 (.seq (.blk 1 (.seq (.rg [(none, .ia 67 4 (.t 63) (.t 65)),
 (none, .ld 68 (some 4) (.t 67)),
 (none, .al 5 [.b false, .n .i64 0, .b false, .s []]),
 (none, .st 4 (.t 5) (.t 68)),
 (none, .kp [1, 3, 5, 63, 64, 65])])
 (.seq (.dr [[], [0], [0, 1], [], [0, 1, 2, 3]]
 (.q 0 (none, .fa 69 2 (.t 1))
 (.q 1 (none, .fa 70 2 (.t 69))
 (.q 2 (none, .ld 71 none (.t 70))
 (.q 3 (none, .mv 6 (.c (.n .i64 0)))
 (.q 4 (none, .mv 7 (.t 71))
 (.done)))))) [1, 3, 5, 6, 7, 63, 64, 65])
 (.seq (.seq (.rg [(none, .fa 72 0 (.t 5)),
 (none, .ld 73 none (.t 72)),
 (none, .kp [1, 3, 5, 6, 7, 63, 64, 65, 73])])
 (.ite (.t 73) (.dr [[], [0], [0, 1], [], [0, 1, 2, 3]]
 (.q 0 (none, .fa 74 6 (.t 1))
 (.q 1 (none, .fa 75 2 (.t 74))
 (.q 2 (none, .ld 76 none (.t 75))
 (.q 3 (none, .mv 6 (.c (.n .i64 1)))
 (.q 4 (none, .mv 7 (.t 76))
 (.done)))))) [1, 3, 5, 6, 7, 63, 64, 65])
 (.sk)))
 (.seq (.seq (.rg [(none, .fa 77 3 (.t 5)),
 (none, .ld 78 none (.t 77)),
 (none, .lS 79 (.t 78)),
 (none, .bi 80 .lss (.t 79) (.c (.n .i64 1))),
 (none, .mv 81 (.t 80)),
 (some (81, false), .fa 82 3 (.t 5)),
 (some (81, false), .ld 83 none (.t 82)),
 (some (81, false), .lS 84 (.t 83)),
 (some (81, false), .bi 85 .gtr (.t 84) (.c (.n .i64 60))),
 (none, .pk 86 (.t 81) (.c (.b true)) (.t 85)),
 (none, .mv 87 (.t 86)),
 (some (87, false), .fa 88 1 (.t 5)),
 (some (87, false), .ld 89 none (.t 88)),
 (some (87, false), .bi 90 .lss (.t 89) (.c (.n .i64 0))),
 (none, .pk 91 (.t 87) (.c (.b true)) (.t 90)),
 (none, .mv 92 (.t 91)),
 (some (92, false), .fa 93 1 (.t 5)),
 (some (92, false), .ld 94 none (.t 93)),
 (some (92, false), .mv 95 (.t 7)),
 (some (92, false), .bi 96 .geq (.t 94) (.t 95)),
 (none, .pk 97 (.t 92) (.c (.b true)) (.t 96)),
 (none, .kp [1, 3, 5, 6, 63, 64, 65, 97])])
 (.ite (.t 97) (.seq (.rg [(none, .mv 2 (.c (.b false))),
 (none, .kp [2])])
 (.rt))
 (.sk)))
 (.dr [[], [0], [0, 1], [], [3], [3, 4], [], [6], [3, 4, 5, 6, 7], [3, 4, 5, 6, 7, 8], [], [10], [3, 4, 5, 6, 7, 8, 9, 10, 11], [0, 1, 2, 3, 4, 5, 6, 7, 8, 9, 10, 11, 12], [0, 1, 2, 3, 4, 5, 6, 7, 8, 9, 10, 11, 12, 13], [0, 1, 2, 3, 4, 5, 6, 7, 8, 9, 10, 11, 12, 13, 14]]
 (.q 0 (none, .mv 98 (.t 6))
 (.q 1 (none, .iA 99 2 1 (.t 3) (.t 98))
 (.q 2 (none, .ld 100 none (.t 99))
 (.q 3 (none, .fa 101 3 (.t 5))
 (.q 4 (none, .ld 102 none (.t 101))
 (.q 5 (none, .lS 103 (.t 102))
 (.q 6 (none, .fa 104 10 (.t 1))
 (.q 7 (none, .ld 105 none (.t 104))
 (.q 8 (none, .bi 106 .add (.t 103) (.t 105))
 (.q 9 (none, .bi 107 .sub (.t 106) (.c (.n .i64 1)))
 (.q 10 (none, .fa 108 10 (.t 1))
 (.q 11 (none, .ld 109 none (.t 108))
 (.q 12 (none, .bi 110 .quo (.t 107) (.t 109))
 (.q 13 (none, .bi 111 .add (.t 100) (.t 110))
 (.q 14 (none, .iA 112 2 1 (.t 3) (.t 98))
 (.alt 15 (none, .st 1 (.t 112) (.t 111)) [false, false, false, false, false, false, false, false, false, false, false, false, false, false, false]
 (.done)
 (.stop))))))))))))))))) [1, 3, 63, 64, 65]))))))
 (.rg [(none, .bi 113 .add (.t 65) (.c (.n .i64 1))),
 (none, .mv 65 (.t 113)),
 (none, .kp [1, 3, 63, 64, 65])])))
def pc18 : PC := .seq (.rg [(none, .bx 1 (.t 0)),
 (none, .mv 2 (.c (.b false))),
 (none, .kp [1])])
 (.seq (.seq (.rg [(none, .fa 8 0 (.t 1)),
 (none, .ld 9 none (.t 8)),
 (none, .bi 10 .lss (.t 9) (.c (.n .i64 1))),
 (none, .mv 11 (.t 10)),
 (some (11, false), .fa 12 0 (.t 1)),
 (some (11, false), .ld 13 none (.t 12)),
 (some (11, false), .bi 14 .gtr (.t 13) (.c (.n .i64 65535))),
 (none, .pk 15 (.t 11) (.c (.b true)) (.t 14)),
 (none, .mv 16 (.t 15)),
 (some (16, false), .fa 17 1 (.t 1)),
 (some (16, false), .ld 18 none (.t 17)),
 (some (16, false), .bi 19 .lss (.t 18) (.c (.n .i64 1))),
 (none, .pk 20 (.t 16) (.c (.b true)) (.t 19)),
 (none, .mv 21 (.t 20)),
 (some (21, false), .fa 22 1 (.t 1)),
 (some (21, false), .ld 23 none (.t 22)),
 (some (21, false), .bi 24 .gtr (.t 23) (.c (.n .i64 65535))),
 (none, .pk 25 (.t 21) (.c (.b true)) (.t 24)),
 (none, .mv 26 (.t 25)),
 (some (26, false), .fa 27 0 (.t 1)),
 (some (26, false), .ld 28 none (.t 27)),
 (some (26, false), .fa 29 1 (.t 1)),
 (some (26, false), .ld 30 none (.t 29)),
 (some (26, false), .bi 31 .eql (.t 28) (.t 30)),
 (none, .pk 32 (.t 26) (.c (.b true)) (.t 31)),
 (none, .mv 33 (.t 32)),
 (some (33, false), .fa 34 2 (.t 1)),
 (some (33, false), .ld 35 (some 4) (.t 34)),
 (some (33, false), .ca (some 36) 52 [.t 35]),
 (some (33, false), .un 37 .not (.t 36)),
 (none, .pk 38 (.t 33) (.c (.b true)) (.t 37)),
 (none, .mv 39 (.t 38)),
 (some (39, false), .fa 40 6 (.t 1)),
 (some (39, false), .ld 41 (some 4) (.t 40)),
 (some (39, false), .ca (some 42) 52 [.t 41]),
 (some (39, false), .un 43 .not (.t 42)),
 (none, .pk 44 (.t 39) (.c (.b true)) (.t 43)),
 (none, .mv 45 (.t 44)),
 (some (45, false), .fa 46 10 (.t 1)),
 (some (45, false), .ld 47 none (.t 46)),
 (some (45, false), .bi 48 .lss (.t 47) (.c (.n .i64 1))),
 (none, .pk 49 (.t 45) (.c (.b true)) (.t 48)),
 (none, .mv 50 (.t 49)),
 (some (50, false), .fa 51 10 (.t 1)),
 (some (50, false), .ld 52 none (.t 51)),
 (some (50, false), .bi 53 .gtr (.t 52) (.c (.n .i64 20))),
 (none, .pk 54 (.t 50) (.c (.b true)) (.t 53)),
 (none, .mv 55 (.t 54)),
 (some (55, false), .fa 56 11 (.t 1)),
 (some (55, false), .ld 57 none (.t 56)),
 (some (55, false), .ln 58 (.t 57)),
 (some (55, false), .bi 59 .gtr (.t 58) (.c (.n .i64 4))),
 (none, .pk 60 (.t 55) (.c (.b true)) (.t 59)),
 (none, .kp [1, 60])])
 (.ite (.t 60) (.seq (.rg [(none, .mv 2 (.c (.b false))),
 (none, .kp [2])])
 (.rt))
 (.sk)))
 (.seq (.rg [(none, .bd 61 [.n .i64 0, .n .i64 0] []),
 (none, .al 3 [.n .i64 0, .n .i64 0]),
 (none, .st 2 (.t 3) (.t 61)),
 (none, .kp [1, 3])])
 (.seq (.seq (.rg [(none, .fa 62 11 (.t 1)),
 (none, .ld 63 none (.t 62)),
 (none, .ln 64 (.t 63)),
 (none, .mv 65 (.c (.n .i64 0))),
 (none, .kp [1, 3, 63, 64, 65])])
 (.blk 0 (.lp pc18l0)))
 (.seq (.rg [(none, .iA 114 2 1 (.t 3) (.c (.n .i64 0))),
 (none, .ld 115 none (.t 114)),
 (none, .bi 116 .leq (.t 115) (.c (.n .i64 12))),
 (none, .mv 117 (.t 116)),
 (some (117, true), .iA 118 2 1 (.t 3) (.c (.n .i64 1))),
 (some (117, true), .ld 119 none (.t 118)),
 (some (117, true), .bi 120 .leq (.t 119) (.c (.n .i64 12))),
 (none, .pk 121 (.t 117) (.t 120) (.c (.b false))),
 (none, .mv 2 (.t 121)),
 (none, .kp [2])])
 (.rt)))))
theorem mr18 {m : Nat} {H : List (Nat × Blk)} {args : List AV} {Q : AV → List (Nat × Blk) → Nat → List Nat → Prop} (hn : Nat.ble args.length 122 = true) (h : ∀ c : Cx, c.P = Try.prog → c.m = m → Run c pc18 ⟨zipS 0 args, H, m, []⟩ (Ret [.t 2] Q) (fun _ _ => False) (Ret [.t 2] Q)) : Spec Try.prog 18 m H args Q := spec_of_run (fn := Try.f18) (by kernel_rfl) rfl (by kernel_rfl) (by kernel_rfl) hn h
theorem mk18 {m : Nat} {H : List (Nat × Blk)} {args : List AV} {Q : AV → List (Nat × Blk) → Nat → List Nat → Prop} (hn : Nat.ble args.length 122 = true) (h : ∀ c : Cx, c.P = Try.prog → c.m = m → wpc c pc18 ⟨zipS 0 args, H, m, []⟩ (Ret [.t 2] Q) (fun _ _ => False) (Ret [.t 2] Q)) : Spec Try.prog 18 m H args Q := mr18 hn fun c h1 h2 => run_wpc _ _ _ _ _ (h c h1 h2)
theorem mw18 {m : Nat} {H : List (Nat × Blk)} {args : List AV} {Q : AV → List (Nat × Blk) → Nat → List Nat → Prop} (hn : Nat.ble args.length 122 = true) (h : ∀ c : Cx, c.P = Try.prog → c.m = m → wpc c pc18 ⟨zipS 0 args, H, m, []⟩ (wk c (Ret [.t 2] Q)) (fun _ _ => False) (wk c (Ret [.t 2] Q))) : Spec Try.prog 18 m H args Q := mr18 hn fun c h1 h2 => run_wk (run_wpc _ _ _ _ _ (h c h1 h2))
-- 19 laws.eqTalk
def pc19 : PC := .seq (.rg [(none, .bx 2 (.t 0)),
 (none, .bx 3 (.t 1)),
 (none, .mv 4 (.c (.b false))),
 (none, .kp [2, 3])])
 (.seq (.seq (.rg [(none, .fa 5 0 (.t 2)),
 (none, .ld 6 none (.t 5)),
 (none, .fa 7 0 (.t 3)),
 (none, .ld 8 none (.t 7)),
 (none, .bi 9 .neq (.t 6) (.t 8)),
 (none, .kp [2, 3, 9])])
 (.ite (.t 9) (.seq (.rg [(none, .mv 4 (.c (.b false))),
 (none, .kp [4])])
 (.rt))
 (.sk)))
 (.seq (.seq (.rg [(none, .fa 10 1 (.t 2)),
 (none, .ld 11 none (.t 10)),
 (none, .fa 12 1 (.t 3)),
 (none, .ld 13 none (.t 12)),
 (none, .bi 14 .neq (.t 11) (.t 13)),
 (none, .kp [2, 3, 14])])
 (.ite (.t 14) (.seq (.rg [(none, .mv 4 (.c (.b false))),
 (none, .kp [4])])
 (.rt))
 (.sk)))
 (.seq (.seq (.rg [(none, .fa 15 2 (.t 2)),
 (none, .ld 16 (some 4) (.t 15)),
 (none, .fa 17 2 (.t 3)),
 (none, .ld 18 (some 4) (.t 17)),
 (none, .ca (some 19) 53 [.t 16, .t 18]),
 (none, .un 20 .not (.t 19)),
 (none, .kp [2, 3, 20])])
 (.ite (.t 20) (.seq (.rg [(none, .mv 4 (.c (.b false))),
 (none, .kp [4])])
 (.rt))
 (.sk)))
 (.seq (.seq (.rg [(none, .fa 21 6 (.t 2)),
 (none, .ld 22 (some 4) (.t 21)),
 (none, .fa 23 6 (.t 3)),
 (none, .ld 24 (some 4) (.t 23)),
 (none, .ca (some 25) 53 [.t 22, .t 24]),
 (none, .un 26 .not (.t 25)),
 (none, .kp [2, 3, 26])])
 (.ite (.t 26) (.seq (.rg [(none, .mv 4 (.c (.b false))),
 (none, .kp [4])])
 (.rt))
 (.sk)))
 (.seq (.seq (.rg [(none, .fa 27 10 (.t 2)),
 (none, .ld 28 none (.t 27)),
 (none, .fa 29 10 (.t 3)),
 (none, .ld 30 none (.t 29)),
 (none, .bi 31 .neq (.t 28) (.t 30)),
 (none, .kp [2, 3, 31])])
 (.ite (.t 31) (.seq (.rg [(none, .mv 4 (.c (.b false))),
 (none, .kp [4])])
 (.rt))
 (.sk)))
 (.seq (.seq (.rg [(none, .fa 32 11 (.t 2)),
 (none, .ld 33 none (.t 32)),
 (none, .fa 34 11 (.t 3)),
 (none, .ld 35 none (.t 34)),
 (none, .ca (some 36) 54 [.t 33, .t 35]),
 (none, .un 37 .not (.t 36)),
 (none, .kp [37])])
 (.ite (.t 37) (.seq (.rg [(none, .mv 4 (.c (.b false))),
 (none, .kp [4])])
 (.rt))
 (.sk)))
 (.seq (.rg [(none, .mv 4 (.c (.b true))),
 (none, .kp [4])])
 (.rt))))))))
theorem mr19 {m : Nat} {H : List (Nat × Blk)} {args : List AV} {Q : AV → List (Nat × Blk) → Nat → List Nat → Prop} (hn : Nat.ble args.length 38 = true) (h : ∀ c : Cx, c.P = Try.prog → c.m = m → Run c pc19 ⟨zipS 0 args, H, m, []⟩ (Ret [.t 4] Q) (fun _ _ => False) (Ret [.t 4] Q)) : Spec Try.prog 19 m H args Q := spec_of_run (fn := Try.f19) (by kernel_rfl) rfl (by kernel_rfl) (by kernel_rfl) hn h
theorem mk19 {m : Nat} {H : List (Nat × Blk)} {args : List AV} {Q : AV → List (Nat × Blk) → Nat → List Nat → Prop} (hn : Nat.ble args.length 38 = true) (h : ∀ c : Cx, c.P = Try.prog → c.m = m → wpc c pc19 ⟨zipS 0 args, H, m, []⟩ (Ret [.t 4] Q) (fun _ _ => False) (Ret [.t 4] Q)) : Spec Try.prog 19 m H args Q := mr19 hn fun c h1 h2 => run_wpc _ _ _ _ _ (h c h1 h2)
theorem mw19 {m : Nat} {H : List (Nat × Blk)} {args : List AV} {Q : AV → List (Nat × Blk) → Nat → List Nat → Prop} (hn : Nat.ble args.length 38 = true) (h : ∀ c : Cx, c.P = Try.prog → c.m = m → wpc c pc19 ⟨zipS 0 args, H, m, []⟩ (wk c (Ret [.t 4] Q)) (fun _ _ => False) (wk c (Ret [.t 4] Q))) : Spec Try.prog 19 m H args Q := mr19 hn fun c h1 h2 => run_wk (run_wpc _ _ _ _ _ (h c h1 h2))
-- 46 laws.szSayS
def pc46l0 : PC := .seq (.seq (.rg [(none, .mv 12 (.t 5)),
 (none, .mv 13 (.t 0)),
 (none, .ln 14 (.t 13)),
 (none, .bi 15 .lss (.t 12) (.t 14)),
 (none, .kp [0, 1, 5, 15])])
 (.ite (.t 15) (.sk)
 (.ex 0)))
 (.seq (.blk 1 (.seq (.rg [(none, .mv 18 (.t 0)),
 (none, .mv 19 (.t 5)),
 (none, .ia 20 4 (.t 18) (.t 19)),
 (none, .ld 21 (some 4) (.t 20)),
 (none, .mv 22 (.t 1)),
 (none, .ca (some 23) 74 [.t 21, .t 22]),
 (none, .mv 1 (.t 23)),
 (none, .kp [0, 1, 5])])
 (.seq (.rg [(none, .mv 24 (.t 1)),
 (none, .bi 25 .lss (.t 24) (.c (.n .i64 0))),
 (none, .kp [0, 1, 5, 25])])
 (.ite (.t 25) (.seq (.rg [(none, .mv 4 (.c (.n .i64 (-1)))),
 (none, .kp [4])])
 (.rt))
 (.sk)))))
 (.rg [(none, .mv 16 (.t 5)),
 (none, .bi 17 .add (.t 16) (.c (.n .i64 1))),
 (none, .mv 5 (.t 17)),
 (none, .kp [0, 1, 5])]))
def pc46 : PC := .seq (.rg [(none, .mv 4 (.c (.n .i64 0))),
 (none, .kp [0, 1])])
 (.seq (.rg [(none, .mv 6 (.t 1)),
 (none, .mv 7 (.t 0)),
 (none, .ln 8 (.t 7)),
 (none, .bi 9 .sub (.t 6) (.t 8)),
 (none, .mv 1 (.t 9)),
 (none, .kp [0, 1])])
 (.seq (.seq (.rg [(none, .mv 10 (.t 1)),
 (none, .bi 11 .lss (.t 10) (.c (.n .i64 0))),
 (none, .kp [0, 1, 11])])
 (.ite (.t 11) (.seq (.rg [(none, .mv 4 (.c (.n .i64 (-1)))),
 (none, .kp [4])])
 (.rt))
 (.sk)))
 (.seq (.seq (.rg [(none, .mv 5 (.c (.n .i64 0))),
 (none, .kp [0, 1, 5])])
 (.blk 0 (.lp pc46l0)))
 (.seq (.rg [(none, .mv 26 (.t 1)),
 (none, .mv 4 (.t 26)),
 (none, .kp [4])])
 (.rt)))))
theorem mr46 {m : Nat} {H : List (Nat × Blk)} {args : List AV} {Q : AV → List (Nat × Blk) → Nat → List Nat → Prop} (hn : Nat.ble args.length 27 = true) (h : ∀ c : Cx, c.P = Try.prog → c.m = m → Run c pc46 ⟨zipS 0 args, H, m, []⟩ (Ret [.t 4] Q) (fun _ _ => False) (Ret [.t 4] Q)) : Spec Try.prog 46 m H args Q := spec_of_run (fn := Try.f46) (by kernel_rfl) rfl (by kernel_rfl) (by kernel_rfl) hn h
theorem mk46 {m : Nat} {H : List (Nat × Blk)} {args : List AV} {Q : AV → List (Nat × Blk) → Nat → List Nat → Prop} (hn : Nat.ble args.length 27 = true) (h : ∀ c : Cx, c.P = Try.prog → c.m = m → wpc c pc46 ⟨zipS 0 args, H, m, []⟩ (Ret [.t 4] Q) (fun _ _ => False) (Ret [.t 4] Q)) : Spec Try.prog 46 m H args Q := mr46 hn fun c h1 h2 => run_wpc _ _ _ _ _ (h c h1 h2)
theorem mw46 {m : Nat} {H : List (Nat × Blk)} {args : List AV} {Q : AV → List (Nat × Blk) → Nat → List Nat → Prop} (hn : Nat.ble args.length 27 = true) (h : ∀ c : Cx, c.P = Try.prog → c.m = m → wpc c pc46 ⟨zipS 0 args, H, m, []⟩ (wk c (Ret [.t 4] Q)) (fun _ _ => False) (wk c (Ret [.t 4] Q))) : Spec Try.prog 46 m H args Q := mr46 hn fun c h1 h2 => run_wk (run_wpc _ _ _ _ _ (h c h1 h2))
-- 47 spec.l6In
def pc47 : PC := .seq (.rg [(none, .mv 6 (.c (.b false))),
 (none, .kp [0, 1, 2])])
 (.seq (.rg [(none, .mv 7 (.t 0)),
 (none, .mv 8 (.t 1)),
 (none, .bi 9 .geq (.t 7) (.t 8)),
 (none, .mv 10 (.t 9)),
 (some (10, true), .mv 11 (.t 0)),
 (some (10, true), .mv 12 (.t 2)),
 (some (10, true), .bi 13 .leq (.t 11) (.t 12)),
 (none, .pk 14 (.t 10) (.t 13) (.c (.b false))),
 (none, .mv 6 (.t 14)),
 (none, .kp [6])])
 (.rt))
theorem mr47 {m : Nat} {H : List (Nat × Blk)} {args : List AV} {Q : AV → List (Nat × Blk) → Nat → List Nat → Prop} (hn : Nat.ble args.length 15 = true) (h : ∀ c : Cx, c.P = Try.prog → c.m = m → Run c pc47 ⟨zipS 0 args, H, m, []⟩ (Ret [.t 6] Q) (fun _ _ => False) (Ret [.t 6] Q)) : Spec Try.prog 47 m H args Q := spec_of_run (fn := Try.f47) (by kernel_rfl) rfl (by kernel_rfl) (by kernel_rfl) hn h
theorem mk47 {m : Nat} {H : List (Nat × Blk)} {args : List AV} {Q : AV → List (Nat × Blk) → Nat → List Nat → Prop} (hn : Nat.ble args.length 15 = true) (h : ∀ c : Cx, c.P = Try.prog → c.m = m → wpc c pc47 ⟨zipS 0 args, H, m, []⟩ (Ret [.t 6] Q) (fun _ _ => False) (Ret [.t 6] Q)) : Spec Try.prog 47 m H args Q := mr47 hn fun c h1 h2 => run_wpc _ _ _ _ _ (h c h1 h2)
theorem mw47 {m : Nat} {H : List (Nat × Blk)} {args : List AV} {Q : AV → List (Nat × Blk) → Nat → List Nat → Prop} (hn : Nat.ble args.length 15 = true) (h : ∀ c : Cx, c.P = Try.prog → c.m = m → wpc c pc47 ⟨zipS 0 args, H, m, []⟩ (wk c (Ret [.t 6] Q)) (fun _ _ => False) (wk c (Ret [.t 6] Q))) : Spec Try.prog 47 m H args Q := mr47 hn fun c h1 h2 => run_wk (run_wpc _ _ _ _ _ (h c h1 h2))
-- 48 spec.l12Init
def pc48 : PC := .seq (.rg [(none, .bx 1 (.t 0)),
 (none, .mv 2 (.c (.b false))),
 (none, .kp [1])])
 (.seq (.rg [(none, .fa 3 0 (.t 1)),
 (none, .ld 4 none (.t 3)),
 (none, .ca (some 5) 47 [.t 4, .c (.n .i64 1), .c (.n .i64 4294967295)]),
 (none, .mv 6 (.t 5)),
 (some (6, true), .fa 7 1 (.t 1)),
 (some (6, true), .ld 8 none (.t 7)),
 (some (6, true), .ca (some 9) 47 [.t 8, .c (.n .i64 0), .c (.n .i64 65535)]),
 (none, .pk 10 (.t 6) (.t 9) (.c (.b false))),
 (none, .mv 11 (.t 10)),
 (some (11, true), .fa 12 2 (.t 1)),
 (some (11, true), .ld 13 none (.t 12)),
 (some (11, true), .ca (some 14) 47 [.t 13, .c (.n .i64 1), .c (.n .i64 4)]),
 (none, .pk 15 (.t 11) (.t 14) (.c (.b false))),
 (none, .mv 16 (.t 15)),
 (some (16, true), .fa 17 3 (.t 1)),
 (some (16, true), .ld 18 none (.t 17)),
 (some (16, true), .ca (some 19) 75 [.t 18]),
 (none, .pk 20 (.t 16) (.t 19) (.c (.b false))),
 (none, .mv 2 (.t 20)),
 (none, .kp [2])])
 (.rt))
theorem mr48 {m : Nat} {H : List (Nat × Blk)} {args : List AV} {Q : AV → List (Nat × Blk) → Nat → List Nat → Prop} (hn : Nat.ble args.length 21 = true) (h : ∀ c : Cx, c.P = Try.prog → c.m = m → Run c pc48 ⟨zipS 0 args, H, m, []⟩ (Ret [.t 2] Q) (fun _ _ => False) (Ret [.t 2] Q)) : Spec Try.prog 48 m H args Q := spec_of_run (fn := Try.f48) (by kernel_rfl) rfl (by kernel_rfl) (by kernel_rfl) hn h
theorem mk48 {m : Nat} {H : List (Nat × Blk)} {args : List AV} {Q : AV → List (Nat × Blk) → Nat → List Nat → Prop} (hn : Nat.ble args.length 21 = true) (h : ∀ c : Cx, c.P = Try.prog → c.m = m → wpc c pc48 ⟨zipS 0 args, H, m, []⟩ (Ret [.t 2] Q) (fun _ _ => False) (Ret [.t 2] Q)) : Spec Try.prog 48 m H args Q := mr48 hn fun c h1 h2 => run_wpc _ _ _ _ _ (h c h1 h2)
theorem mw48 {m : Nat} {H : List (Nat × Blk)} {args : List AV} {Q : AV → List (Nat × Blk) → Nat → List Nat → Prop} (hn : Nat.ble args.length 21 = true) (h : ∀ c : Cx, c.P = Try.prog → c.m = m → wpc c pc48 ⟨zipS 0 args, H, m, []⟩ (wk c (Ret [.t 2] Q)) (fun _ _ => False) (wk c (Ret [.t 2] Q))) : Spec Try.prog 48 m H args Q := mr48 hn fun c h1 h2 => run_wk (run_wpc _ _ _ _ _ (h c h1 h2))
-- 49 spec.l41Many
def pc49 : PC := .seq (.rg [(none, .mv 4 (.c (.n .i64 0))),
 (none, .kp [0, 1])])
 (.seq (.rg [(none, .mv 5 (.t 0)),
 (none, .lS 6 (.t 5)),
 (none, .mv 7 (.t 1)),
 (none, .bi 8 .add (.t 6) (.t 7)),
 (none, .bi 9 .sub (.t 8) (.c (.n .i64 1))),
 (none, .mv 10 (.t 1)),
 (none, .bi 11 .quo (.t 9) (.t 10)),
 (none, .mv 4 (.t 11)),
 (none, .kp [4])])
 (.rt))
theorem mr49 {m : Nat} {H : List (Nat × Blk)} {args : List AV} {Q : AV → List (Nat × Blk) → Nat → List Nat → Prop} (hn : Nat.ble args.length 12 = true) (h : ∀ c : Cx, c.P = Try.prog → c.m = m → Run c pc49 ⟨zipS 0 args, H, m, []⟩ (Ret [.t 4] Q) (fun _ _ => False) (Ret [.t 4] Q)) : Spec Try.prog 49 m H args Q := spec_of_run (fn := Try.f49) (by kernel_rfl) rfl (by kernel_rfl) (by kernel_rfl) hn h
theorem mk49 {m : Nat} {H : List (Nat × Blk)} {args : List AV} {Q : AV → List (Nat × Blk) → Nat → List Nat → Prop} (hn : Nat.ble args.length 12 = true) (h : ∀ c : Cx, c.P = Try.prog → c.m = m → wpc c pc49 ⟨zipS 0 args, H, m, []⟩ (Ret [.t 4] Q) (fun _ _ => False) (Ret [.t 4] Q)) : Spec Try.prog 49 m H args Q := mr49 hn fun c h1 h2 => run_wpc _ _ _ _ _ (h c h1 h2)
theorem mw49 {m : Nat} {H : List (Nat × Blk)} {args : List AV} {Q : AV → List (Nat × Blk) → Nat → List Nat → Prop} (hn : Nat.ble args.length 12 = true) (h : ∀ c : Cx, c.P = Try.prog → c.m = m → wpc c pc49 ⟨zipS 0 args, H, m, []⟩ (wk c (Ret [.t 4] Q)) (fun _ _ => False) (wk c (Ret [.t 4] Q))) : Spec Try.prog 49 m H args Q := mr49 hn fun c h1 h2 => run_wk (run_wpc _ _ _ _ _ (h c h1 h2))
-- 50 laws.toInit
def pc50 : PC := .seq (.rg [(none, .bx 1 (.t 0)),
 (none, .al 2 [.n .i64 0, .n .i64 0, .n .i64 0, .n .i64 0]),
 (none, .kp [1, 2])])
 (.seq (.rg [(none, .al 3 [.n .i64 0, .n .i64 0, .n .i64 0, .n .i64 0]),
 (none, .kp [1, 2, 3])])
 (.seq (.rg [(none, .fa 4 0 (.t 1)),
 (none, .ld 5 none (.t 4)),
 (none, .fa 6 0 (.t 3)),
 (none, .st 1 (.t 6) (.t 5)),
 (none, .kp [1, 2, 3])])
 (.seq (.rg [(none, .fa 7 1 (.t 1)),
 (none, .ld 8 none (.t 7)),
 (none, .fa 9 1 (.t 3)),
 (none, .st 1 (.t 9) (.t 8)),
 (none, .kp [1, 2, 3])])
 (.seq (.rg [(none, .fa 10 2 (.t 1)),
 (none, .ld 11 none (.t 10)),
 (none, .fa 12 2 (.t 3)),
 (none, .st 1 (.t 12) (.t 11)),
 (none, .kp [1, 2, 3])])
 (.seq (.rg [(none, .fa 13 3 (.t 1)),
 (none, .ld 14 none (.t 13)),
 (none, .fa 15 3 (.t 3)),
 (none, .st 1 (.t 15) (.t 14)),
 (none, .kp [2, 3])])
 (.seq (.rg [(none, .ld 16 (some 4) (.t 3)),
 (none, .st 4 (.t 2) (.t 16)),
 (none, .kp [2])])
 (.rt)))))))
theorem mr50 {m : Nat} {H : List (Nat × Blk)} {args : List AV} {Q : AV → List (Nat × Blk) → Nat → List Nat → Prop} (hn : Nat.ble args.length 17 = true) (h : ∀ c : Cx, c.P = Try.prog → c.m = m → Run c pc50 ⟨zipS 0 args, H, m, []⟩ (Ret [.c 2 (some 4)] Q) (fun _ _ => False) (Ret [.c 2 (some 4)] Q)) : Spec Try.prog 50 m H args Q := spec_of_run (fn := Try.f50) (by kernel_rfl) rfl (by kernel_rfl) (by kernel_rfl) hn h
theorem mk50 {m : Nat} {H : List (Nat × Blk)} {args : List AV} {Q : AV → List (Nat × Blk) → Nat → List Nat → Prop} (hn : Nat.ble args.length 17 = true) (h : ∀ c : Cx, c.P = Try.prog → c.m = m → wpc c pc50 ⟨zipS 0 args, H, m, []⟩ (Ret [.c 2 (some 4)] Q) (fun _ _ => False) (Ret [.c 2 (some 4)] Q)) : Spec Try.prog 50 m H args Q := mr50 hn fun c h1 h2 => run_wpc _ _ _ _ _ (h c h1 h2)
theorem mw50 {m : Nat} {H : List (Nat × Blk)} {args : List AV} {Q : AV → List (Nat × Blk) → Nat → List Nat → Prop} (hn : Nat.ble args.length 17 = true) (h : ∀ c : Cx, c.P = Try.prog → c.m = m → wpc c pc50 ⟨zipS 0 args, H, m, []⟩ (wk c (Ret [.c 2 (some 4)] Q)) (fun _ _ => False) (wk c (Ret [.c 2 (some 4)] Q))) : Spec Try.prog 50 m H args Q := mr50 hn fun c h1 h2 => run_wk (run_wpc _ _ _ _ _ (h c h1 h2))
-- 51 laws.toSayS
def pc51l0 : PC := .seq (.seq (.rg [(none, .mv 8 (.t 4)),
 (none, .mv 9 (.t 0)),
 (none, .ln 10 (.t 9)),
 (none, .bi 11 .lss (.t 8) (.t 10)),
 (none, .kp [0, 3, 4, 11])])
 (.ite (.t 11) (.sk)
 (.ex 0)))
 (.seq (.blk 1 (.rg [(none, .mv 14 (.t 3)),
 (none, .mv 15 (.t 4)),
 (none, .mv 16 (.t 0)),
 (none, .mv 17 (.t 4)),
 (none, .ia 18 4 (.t 16) (.t 17)),
 (none, .ld 19 (some 4) (.t 18)),
 (none, .ca (some 20) 76 [.t 19]),
 (none, .ia 21 4 (.t 14) (.t 15)),
 (none, .st 4 (.t 21) (.t 20)),
 (none, .kp [0, 3, 4])]))
 (.rg [(none, .mv 12 (.t 4)),
 (none, .bi 13 .add (.t 12) (.c (.n .i64 1))),
 (none, .mv 4 (.t 13)),
 (none, .kp [0, 3, 4])]))
def pc51 : PC := .seq (.rg [(none, .mv 2 (.c .nil)),
 (none, .kp [0])])
 (.seq (.rg [(none, .mv 5 (.t 0)),
 (none, .ln 6 (.t 5)),
 (none, .mk 7 4 40 [.b false, .n .i64 0, .b false, .s []] (.t 6)),
 (none, .mv 3 (.t 7)),
 (none, .kp [0, 3])])
 (.seq (.seq (.rg [(none, .mv 4 (.c (.n .i64 0))),
 (none, .kp [0, 3, 4])])
 (.blk 0 (.lp pc51l0)))
 (.seq (.rg [(none, .mv 22 (.t 3)),
 (none, .mv 2 (.t 22)),
 (none, .kp [2])])
 (.rt))))
theorem mr51 {m : Nat} {H : List (Nat × Blk)} {args : List AV} {Q : AV → List (Nat × Blk) → Nat → List Nat → Prop} (hn : Nat.ble args.length 23 = true) (h : ∀ c : Cx, c.P = Try.prog → c.m = m → Run c pc51 ⟨zipS 0 args, H, m, []⟩ (Ret [.t 2] Q) (fun _ _ => False) (Ret [.t 2] Q)) : Spec Try.prog 51 m H args Q := spec_of_run (fn := Try.f51) (by kernel_rfl) rfl (by kernel_rfl) (by kernel_rfl) hn h
theorem mk51 {m : Nat} {H : List (Nat × Blk)} {args : List AV} {Q : AV → List (Nat × Blk) → Nat → List Nat → Prop} (hn : Nat.ble args.length 23 = true) (h : ∀ c : Cx, c.P = Try.prog → c.m = m → wpc c pc51 ⟨zipS 0 args, H, m, []⟩ (Ret [.t 2] Q) (fun _ _ => False) (Ret [.t 2] Q)) : Spec Try.prog 51 m H args Q := mr51 hn fun c h1 h2 => run_wpc _ _ _ _ _ (h c h1 h2)
theorem mw51 {m : Nat} {H : List (Nat × Blk)} {args : List AV} {Q : AV → List (Nat × Blk) → Nat → List Nat → Prop} (hn : Nat.ble args.length 23 = true) (h : ∀ c : Cx, c.P = Try.prog → c.m = m → wpc c pc51 ⟨zipS 0 args, H, m, []⟩ (wk c (Ret [.t 2] Q)) (fun _ _ => False) (wk c (Ret [.t 2] Q))) : Spec Try.prog 51 m H args Q := mr51 hn fun c h1 h2 => run_wk (run_wpc _ _ _ _ _ (h c h1 h2))
-- 52 impl.initOk
def pc52 : PC := .seq (.rg [(none, .bx 1 (.t 0)),
 (none, .mv 2 (.c (.b false))),
 (none, .kp [1])])
 (.seq (.rg [(none, .fa 3 0 (.t 1)),
 (none, .ld 4 none (.t 3)),
 (none, .bi 5 .geq (.t 4) (.c (.n .i64 1))),
 (none, .mv 6 (.t 5)),
 (some (6, true), .fa 7 0 (.t 1)),
 (some (6, true), .ld 8 none (.t 7)),
 (some (6, true), .bi 9 .leq (.t 8) (.c (.n .i64 4294967295))),
 (none, .pk 10 (.t 6) (.t 9) (.c (.b false))),
 (none, .mv 11 (.t 10)),
 (some (11, true), .fa 12 1 (.t 1)),
 (some (11, true), .ld 13 none (.t 12)),
 (some (11, true), .ca (some 14) 61 [.t 13]),
 (none, .pk 15 (.t 11) (.t 14) (.c (.b false))),
 (none, .mv 16 (.t 15)),
 (some (16, true), .fa 17 2 (.t 1)),
 (some (16, true), .ld 18 none (.t 17)),
 (some (16, true), .bi 19 .geq (.t 18) (.c (.n .i64 1))),
 (none, .pk 20 (.t 16) (.t 19) (.c (.b false))),
 (none, .mv 21 (.t 20)),
 (some (21, true), .fa 22 2 (.t 1)),
 (some (21, true), .ld 23 none (.t 22)),
 (some (21, true), .bi 24 .leq (.t 23) (.c (.n .i64 4))),
 (none, .pk 25 (.t 21) (.t 24) (.c (.b false))),
 (none, .mv 26 (.t 25)),
 (some (26, true), .fa 27 3 (.t 1)),
 (some (26, true), .ld 28 none (.t 27)),
 (some (26, true), .ca (some 29) 61 [.t 28]),
 (none, .pk 30 (.t 26) (.t 29) (.c (.b false))),
 (none, .mv 2 (.t 30)),
 (none, .kp [2])])
 (.rt))
theorem mr52 {m : Nat} {H : List (Nat × Blk)} {args : List AV} {Q : AV → List (Nat × Blk) → Nat → List Nat → Prop} (hn : Nat.ble args.length 31 = true) (h : ∀ c : Cx, c.P = Try.prog → c.m = m → Run c pc52 ⟨zipS 0 args, H, m, []⟩ (Ret [.t 2] Q) (fun _ _ => False) (Ret [.t 2] Q)) : Spec Try.prog 52 m H args Q := spec_of_run (fn := Try.f52) (by kernel_rfl) rfl (by kernel_rfl) (by kernel_rfl) hn h
theorem mk52 {m : Nat} {H : List (Nat × Blk)} {args : List AV} {Q : AV → List (Nat × Blk) → Nat → List Nat → Prop} (hn : Nat.ble args.length 31 = true) (h : ∀ c : Cx, c.P = Try.prog → c.m = m → wpc c pc52 ⟨zipS 0 args, H, m, []⟩ (Ret [.t 2] Q) (fun _ _ => False) (Ret [.t 2] Q)) : Spec Try.prog 52 m H args Q := mr52 hn fun c h1 h2 => run_wpc _ _ _ _ _ (h c h1 h2)
theorem mw52 {m : Nat} {H : List (Nat × Blk)} {args : List AV} {Q : AV → List (Nat × Blk) → Nat → List Nat → Prop} (hn : Nat.ble args.length 31 = true) (h : ∀ c : Cx, c.P = Try.prog → c.m = m → wpc c pc52 ⟨zipS 0 args, H, m, []⟩ (wk c (Ret [.t 2] Q)) (fun _ _ => False) (wk c (Ret [.t 2] Q))) : Spec Try.prog 52 m H args Q := mr52 hn fun c h1 h2 => run_wk (run_wpc _ _ _ _ _ (h c h1 h2))
-- 53 laws.eqInit
def pc53 : PC := .seq (.rg [(none, .bx 2 (.t 0)),
 (none, .bx 3 (.t 1)),
 (none, .mv 4 (.c (.b false))),
 (none, .kp [2, 3])])
 (.seq (.seq (.rg [(none, .fa 5 0 (.t 2)),
 (none, .ld 6 none (.t 5)),
 (none, .fa 7 0 (.t 3)),
 (none, .ld 8 none (.t 7)),
 (none, .bi 9 .neq (.t 6) (.t 8)),
 (none, .kp [2, 3, 9])])
 (.ite (.t 9) (.seq (.rg [(none, .mv 4 (.c (.b false))),
 (none, .kp [4])])
 (.rt))
 (.sk)))
 (.seq (.seq (.rg [(none, .fa 10 1 (.t 2)),
 (none, .ld 11 none (.t 10)),
 (none, .fa 12 1 (.t 3)),
 (none, .ld 13 none (.t 12)),
 (none, .bi 14 .neq (.t 11) (.t 13)),
 (none, .kp [2, 3, 14])])
 (.ite (.t 14) (.seq (.rg [(none, .mv 4 (.c (.b false))),
 (none, .kp [4])])
 (.rt))
 (.sk)))
 (.seq (.seq (.rg [(none, .fa 15 2 (.t 2)),
 (none, .ld 16 none (.t 15)),
 (none, .fa 17 2 (.t 3)),
 (none, .ld 18 none (.t 17)),
 (none, .bi 19 .neq (.t 16) (.t 18)),
 (none, .kp [2, 3, 19])])
 (.ite (.t 19) (.seq (.rg [(none, .mv 4 (.c (.b false))),
 (none, .kp [4])])
 (.rt))
 (.sk)))
 (.seq (.seq (.rg [(none, .fa 20 3 (.t 2)),
 (none, .ld 21 none (.t 20)),
 (none, .fa 22 3 (.t 3)),
 (none, .ld 23 none (.t 22)),
 (none, .bi 24 .neq (.t 21) (.t 23)),
 (none, .kp [24])])
 (.ite (.t 24) (.seq (.rg [(none, .mv 4 (.c (.b false))),
 (none, .kp [4])])
 (.rt))
 (.sk)))
 (.seq (.rg [(none, .mv 4 (.c (.b true))),
 (none, .kp [4])])
 (.rt))))))
theorem mr53 {m : Nat} {H : List (Nat × Blk)} {args : List AV} {Q : AV → List (Nat × Blk) → Nat → List Nat → Prop} (hn : Nat.ble args.length 25 = true) (h : ∀ c : Cx, c.P = Try.prog → c.m = m → Run c pc53 ⟨zipS 0 args, H, m, []⟩ (Ret [.t 4] Q) (fun _ _ => False) (Ret [.t 4] Q)) : Spec Try.prog 53 m H args Q := spec_of_run (fn := Try.f53) (by kernel_rfl) rfl (by kernel_rfl) (by kernel_rfl) hn h
theorem mk53 {m : Nat} {H : List (Nat × Blk)} {args : List AV} {Q : AV → List (Nat × Blk) → Nat → List Nat → Prop} (hn : Nat.ble args.length 25 = true) (h : ∀ c : Cx, c.P = Try.prog → c.m = m → wpc c pc53 ⟨zipS 0 args, H, m, []⟩ (Ret [.t 4] Q) (fun _ _ => False) (Ret [.t 4] Q)) : Spec Try.prog 53 m H args Q := mr53 hn fun c h1 h2 => run_wpc _ _ _ _ _ (h c h1 h2)
theorem mw53 {m : Nat} {H : List (Nat × Blk)} {args : List AV} {Q : AV → List (Nat × Blk) → Nat → List Nat → Prop} (hn : Nat.ble args.length 25 = true) (h : ∀ c : Cx, c.P = Try.prog → c.m = m → wpc c pc53 ⟨zipS 0 args, H, m, []⟩ (wk c (Ret [.t 4] Q)) (fun _ _ => False) (wk c (Ret [.t 4] Q))) : Spec Try.prog 53 m H args Q := mr53 hn fun c h1 h2 => run_wk (run_wpc _ _ _ _ _ (h c h1 h2))
-- 54 laws.eqSayS
def pc54l0 : PC := .seq (.seq (.rg [(none, .mv 11 (.t 5)),
 (none, .mv 12 (.t 0)),
 (none, .ln 13 (.t 12)),
 (none, .bi 14 .lss (.t 11) (.t 13)),
 (none, .kp [0, 1, 5, 14])])
 (.ite (.t 14) (.sk)
 (.ex 0)))
 (.seq (.blk 1 (.seq (.dr [[], [], [0, 1], [0, 1, 2], [], [], [4, 5], [4, 5, 6], [0, 1, 2, 3, 4, 5, 6, 7], [0, 1, 2, 3, 4, 5, 6, 7, 8]]
 (.q 0 (none, .mv 17 (.t 0))
 (.q 1 (none, .mv 18 (.t 5))
 (.q 2 (none, .ia 19 4 (.t 17) (.t 18))
 (.q 3 (none, .ld 20 (some 4) (.t 19))
 (.q 4 (none, .mv 21 (.t 1))
 (.q 5 (none, .mv 22 (.t 5))
 (.q 6 (none, .ia 23 4 (.t 21) (.t 22))
 (.q 7 (none, .ld 24 (some 4) (.t 23))
 (.alt 8 (none, .ca (some 25) 77 [.t 20, .t 24]) [false, false, false, false, false, false, false, false]
 (.q 9 (none, .un 26 .not (.t 25))
 (.done))
 (.stop)))))))))) [0, 1, 5, 26])
 (.ite (.t 26) (.seq (.rg [(none, .mv 4 (.c (.b false))),
 (none, .kp [4])])
 (.rt))
 (.sk))))
 (.rg [(none, .mv 15 (.t 5)),
 (none, .bi 16 .add (.t 15) (.c (.n .i64 1))),
 (none, .mv 5 (.t 16)),
 (none, .kp [0, 1, 5])]))
def pc54 : PC := .seq (.rg [(none, .mv 4 (.c (.b false))),
 (none, .kp [0, 1])])
 (.seq (.seq (.rg [(none, .mv 6 (.t 0)),
 (none, .ln 7 (.t 6)),
 (none, .mv 8 (.t 1)),
 (none, .ln 9 (.t 8)),
 (none, .bi 10 .neq (.t 7) (.t 9)),
 (none, .kp [0, 1, 10])])
 (.ite (.t 10) (.seq (.rg [(none, .mv 4 (.c (.b false))),
 (none, .kp [4])])
 (.rt))
 (.sk)))
 (.seq (.seq (.rg [(none, .mv 5 (.c (.n .i64 0))),
 (none, .kp [0, 1, 5])])
 (.blk 0 (.lp pc54l0)))
 (.seq (.rg [(none, .mv 4 (.c (.b true))),
 (none, .kp [4])])
 (.rt))))
theorem mr54 {m : Nat} {H : List (Nat × Blk)} {args : List AV} {Q : AV → List (Nat × Blk) → Nat → List Nat → Prop} (hn : Nat.ble args.length 27 = true) (h : ∀ c : Cx, c.P = Try.prog → c.m = m → Run c pc54 ⟨zipS 0 args, H, m, []⟩ (Ret [.t 4] Q) (fun _ _ => False) (Ret [.t 4] Q)) : Spec Try.prog 54 m H args Q := spec_of_run (fn := Try.f54) (by kernel_rfl) rfl (by kernel_rfl) (by kernel_rfl) hn h
theorem mk54 {m : Nat} {H : List (Nat × Blk)} {args : List AV} {Q : AV → List (Nat × Blk) → Nat → List Nat → Prop} (hn : Nat.ble args.length 27 = true) (h : ∀ c : Cx, c.P = Try.prog → c.m = m → wpc c pc54 ⟨zipS 0 args, H, m, []⟩ (Ret [.t 4] Q) (fun _ _ => False) (Ret [.t 4] Q)) : Spec Try.prog 54 m H args Q := mr54 hn fun c h1 h2 => run_wpc _ _ _ _ _ (h c h1 h2)
theorem mw54 {m : Nat} {H : List (Nat × Blk)} {args : List AV} {Q : AV → List (Nat × Blk) → Nat → List Nat → Prop} (hn : Nat.ble args.length 27 = true) (h : ∀ c : Cx, c.P = Try.prog → c.m = m → wpc c pc54 ⟨zipS 0 args, H, m, []⟩ (wk c (Ret [.t 4] Q)) (fun _ _ => False) (wk c (Ret [.t 4] Q))) : Spec Try.prog 54 m H args Q := mr54 hn fun c h1 h2 => run_wk (run_wpc _ _ _ _ _ (h c h1 h2))
-- 61 impl.serialOk
def pc61 : PC := .seq (.rg [(none, .mv 2 (.c (.b false))),
 (none, .kp [0])])
 (.seq (.rg [(none, .mv 3 (.t 0)),
 (none, .bi 4 .geq (.t 3) (.c (.n .i64 0))),
 (none, .mv 5 (.t 4)),
 (some (5, true), .mv 6 (.t 0)),
 (some (5, true), .bi 7 .lss (.t 6) (.c (.n .i64 65536))),
 (none, .pk 8 (.t 5) (.t 7) (.c (.b false))),
 (none, .mv 2 (.t 8)),
 (none, .kp [2])])
 (.rt))
theorem mr61 {m : Nat} {H : List (Nat × Blk)} {args : List AV} {Q : AV → List (Nat × Blk) → Nat → List Nat → Prop} (hn : Nat.ble args.length 9 = true) (h : ∀ c : Cx, c.P = Try.prog → c.m = m → Run c pc61 ⟨zipS 0 args, H, m, []⟩ (Ret [.t 2] Q) (fun _ _ => False) (Ret [.t 2] Q)) : Spec Try.prog 61 m H args Q := spec_of_run (fn := Try.f61) (by kernel_rfl) rfl (by kernel_rfl) (by kernel_rfl) hn h
theorem mk61 {m : Nat} {H : List (Nat × Blk)} {args : List AV} {Q : AV → List (Nat × Blk) → Nat → List Nat → Prop} (hn : Nat.ble args.length 9 = true) (h : ∀ c : Cx, c.P = Try.prog → c.m = m → wpc c pc61 ⟨zipS 0 args, H, m, []⟩ (Ret [.t 2] Q) (fun _ _ => False) (Ret [.t 2] Q)) : Spec Try.prog 61 m H args Q := mr61 hn fun c h1 h2 => run_wpc _ _ _ _ _ (h c h1 h2)
theorem mw61 {m : Nat} {H : List (Nat × Blk)} {args : List AV} {Q : AV → List (Nat × Blk) → Nat → List Nat → Prop} (hn : Nat.ble args.length 9 = true) (h : ∀ c : Cx, c.P = Try.prog → c.m = m → wpc c pc61 ⟨zipS 0 args, H, m, []⟩ (wk c (Ret [.t 2] Q)) (fun _ _ => False) (wk c (Ret [.t 2] Q))) : Spec Try.prog 61 m H args Q := mr61 hn fun c h1 h2 => run_wk (run_wpc _ _ _ _ _ (h c h1 h2))
-- 74 laws.szSay
def pc74 : PC := .seq (.rg [(none, .bx 2 (.t 0)),
 (none, .mv 4 (.c (.n .i64 0))),
 (none, .kp [1, 2])])
 (.seq (.rg [(none, .mv 5 (.t 1)),
 (none, .fa 6 3 (.t 2)),
 (none, .ld 7 none (.t 6)),
 (none, .lS 8 (.t 7)),
 (none, .bi 9 .sub (.t 5) (.t 8)),
 (none, .mv 1 (.t 9)),
 (none, .kp [1])])
 (.seq (.seq (.rg [(none, .mv 10 (.t 1)),
 (none, .bi 11 .lss (.t 10) (.c (.n .i64 0))),
 (none, .kp [1, 11])])
 (.ite (.t 11) (.seq (.rg [(none, .mv 4 (.c (.n .i64 (-1)))),
 (none, .kp [4])])
 (.rt))
 (.sk)))
 (.seq (.rg [(none, .mv 12 (.t 1)),
 (none, .mv 4 (.t 12)),
 (none, .kp [4])])
 (.rt))))
theorem mr74 {m : Nat} {H : List (Nat × Blk)} {args : List AV} {Q : AV → List (Nat × Blk) → Nat → List Nat → Prop} (hn : Nat.ble args.length 13 = true) (h : ∀ c : Cx, c.P = Try.prog → c.m = m → Run c pc74 ⟨zipS 0 args, H, m, []⟩ (Ret [.t 4] Q) (fun _ _ => False) (Ret [.t 4] Q)) : Spec Try.prog 74 m H args Q := spec_of_run (fn := Try.f74) (by kernel_rfl) rfl (by kernel_rfl) (by kernel_rfl) hn h
theorem mk74 {m : Nat} {H : List (Nat × Blk)} {args : List AV} {Q : AV → List (Nat × Blk) → Nat → List Nat → Prop} (hn : Nat.ble args.length 13 = true) (h : ∀ c : Cx, c.P = Try.prog → c.m = m → wpc c pc74 ⟨zipS 0 args, H, m, []⟩ (Ret [.t 4] Q) (fun _ _ => False) (Ret [.t 4] Q)) : Spec Try.prog 74 m H args Q := mr74 hn fun c h1 h2 => run_wpc _ _ _ _ _ (h c h1 h2)
theorem mw74 {m : Nat} {H : List (Nat × Blk)} {args : List AV} {Q : AV → List (Nat × Blk) → Nat → List Nat → Prop} (hn : Nat.ble args.length 13 = true) (h : ∀ c : Cx, c.P = Try.prog → c.m = m → wpc c pc74 ⟨zipS 0 args, H, m, []⟩ (wk c (Ret [.t 4] Q)) (fun _ _ => False) (wk c (Ret [.t 4] Q))) : Spec Try.prog 74 m H args Q := mr74 hn fun c h1 h2 => run_wk (run_wpc _ _ _ _ _ (h c h1 h2))
-- 75 spec.l3Ok
def pc75 : PC := .seq (.rg [(none, .mv 2 (.c (.b false))),
 (none, .kp [0])])
 (.seq (.rg [(none, .mv 3 (.t 0)),
 (none, .ca (some 4) 47 [.t 3, .c (.n .i64 0), .c (.n .i64 65535)]),
 (none, .mv 2 (.t 4)),
 (none, .kp [2])])
 (.rt))
theorem mr75 {m : Nat} {H : List (Nat × Blk)} {args : List AV} {Q : AV → List (Nat × Blk) → Nat → List Nat → Prop} (hn : Nat.ble args.length 5 = true) (h : ∀ c : Cx, c.P = Try.prog → c.m = m → Run c pc75 ⟨zipS 0 args, H, m, []⟩ (Ret [.t 2] Q) (fun _ _ => False) (Ret [.t 2] Q)) : Spec Try.prog 75 m H args Q := spec_of_run (fn := Try.f75) (by kernel_rfl) rfl (by kernel_rfl) (by kernel_rfl) hn h
theorem mk75 {m : Nat} {H : List (Nat × Blk)} {args : List AV} {Q : AV → List (Nat × Blk) → Nat → List Nat → Prop} (hn : Nat.ble args.length 5 = true) (h : ∀ c : Cx, c.P = Try.prog → c.m = m → wpc c pc75 ⟨zipS 0 args, H, m, []⟩ (Ret [.t 2] Q) (fun _ _ => False) (Ret [.t 2] Q)) : Spec Try.prog 75 m H args Q := mr75 hn fun c h1 h2 => run_wpc _ _ _ _ _ (h c h1 h2)
theorem mw75 {m : Nat} {H : List (Nat × Blk)} {args : List AV} {Q : AV → List (Nat × Blk) → Nat → List Nat → Prop} (hn : Nat.ble args.length 5 = true) (h : ∀ c : Cx, c.P = Try.prog → c.m = m → wpc c pc75 ⟨zipS 0 args, H, m, []⟩ (wk c (Ret [.t 2] Q)) (fun _ _ => False) (wk c (Ret [.t 2] Q))) : Spec Try.prog 75 m H args Q := mr75 hn fun c h1 h2 => run_wk (run_wpc _ _ _ _ _ (h c h1 h2))
-- 76 laws.toSay
def pc76 : PC := .seq (.rg [(none, .bx 1 (.t 0)),
 (none, .al 2 [.b false, .n .i64 0, .b false, .s []]),
 (none, .kp [1, 2])])
 (.seq (.rg [(none, .al 3 [.b false, .n .i64 0, .b false, .s []]),
 (none, .kp [1, 2, 3])])
 (.seq (.rg [(none, .fa 4 0 (.t 1)),
 (none, .ld 5 none (.t 4)),
 (none, .fa 6 0 (.t 3)),
 (none, .st 1 (.t 6) (.t 5)),
 (none, .kp [1, 2, 3])])
 (.seq (.rg [(none, .fa 7 1 (.t 1)),
 (none, .ld 8 none (.t 7)),
 (none, .fa 9 1 (.t 3)),
 (none, .st 1 (.t 9) (.t 8)),
 (none, .kp [1, 2, 3])])
 (.seq (.rg [(none, .fa 10 2 (.t 1)),
 (none, .ld 11 none (.t 10)),
 (none, .fa 12 2 (.t 3)),
 (none, .st 1 (.t 12) (.t 11)),
 (none, .kp [1, 2, 3])])
 (.seq (.rg [(none, .fa 13 3 (.t 1)),
 (none, .ld 14 none (.t 13)),
 (none, .fa 15 3 (.t 3)),
 (none, .st 1 (.t 15) (.t 14)),
 (none, .kp [2, 3])])
 (.seq (.rg [(none, .ld 16 (some 4) (.t 3)),
 (none, .st 4 (.t 2) (.t 16)),
 (none, .kp [2])])
 (.rt)))))))
theorem mr76 {m : Nat} {H : List (Nat × Blk)} {args : List AV} {Q : AV → List (Nat × Blk) → Nat → List Nat → Prop} (hn : Nat.ble args.length 17 = true) (h : ∀ c : Cx, c.P = Try.prog → c.m = m → Run c pc76 ⟨zipS 0 args, H, m, []⟩ (Ret [.c 2 (some 4)] Q) (fun _ _ => False) (Ret [.c 2 (some 4)] Q)) : Spec Try.prog 76 m H args Q := spec_of_run (fn := Try.f76) (by kernel_rfl) rfl (by kernel_rfl) (by kernel_rfl) hn h
theorem mk76 {m : Nat} {H : List (Nat × Blk)} {args : List AV} {Q : AV → List (Nat × Blk) → Nat → List Nat → Prop} (hn : Nat.ble args.length 17 = true) (h : ∀ c : Cx, c.P = Try.prog → c.m = m → wpc c pc76 ⟨zipS 0 args, H, m, []⟩ (Ret [.c 2 (some 4)] Q) (fun _ _ => False) (Ret [.c 2 (some 4)] Q)) : Spec Try.prog 76 m H args Q := mr76 hn fun c h1 h2 => run_wpc _ _ _ _ _ (h c h1 h2)
theorem mw76 {m : Nat} {H : List (Nat × Blk)} {args : List AV} {Q : AV → List (Nat × Blk) → Nat → List Nat → Prop} (hn : Nat.ble args.length 17 = true) (h : ∀ c : Cx, c.P = Try.prog → c.m = m → wpc c pc76 ⟨zipS 0 args, H, m, []⟩ (wk c (Ret [.c 2 (some 4)] Q)) (fun _ _ => False) (wk c (Ret [.c 2 (some 4)] Q))) : Spec Try.prog 76 m H args Q := mr76 hn fun c h1 h2 => run_wk (run_wpc _ _ _ _ _ (h c h1 h2))
-- 77 laws.eqSay
def pc77 : PC := .seq (.rg [(none, .bx 2 (.t 0)),
 (none, .bx 3 (.t 1)),
 (none, .mv 4 (.c (.b false))),
 (none, .kp [2, 3])])
 (.seq (.seq (.rg [(none, .fa 5 0 (.t 2)),
 (none, .ld 6 none (.t 5)),
 (none, .fa 7 0 (.t 3)),
 (none, .ld 8 none (.t 7)),
 (none, .bb 9 true (.t 6) (.t 8)),
 (none, .kp [2, 3, 9])])
 (.ite (.t 9) (.seq (.rg [(none, .mv 4 (.c (.b false))),
 (none, .kp [4])])
 (.rt))
 (.sk)))
 (.seq (.seq (.rg [(none, .fa 10 1 (.t 2)),
 (none, .ld 11 none (.t 10)),
 (none, .fa 12 1 (.t 3)),
 (none, .ld 13 none (.t 12)),
 (none, .bi 14 .neq (.t 11) (.t 13)),
 (none, .kp [2, 3, 14])])
 (.ite (.t 14) (.seq (.rg [(none, .mv 4 (.c (.b false))),
 (none, .kp [4])])
 (.rt))
 (.sk)))
 (.seq (.seq (.rg [(none, .fa 15 2 (.t 2)),
 (none, .ld 16 none (.t 15)),
 (none, .fa 17 2 (.t 3)),
 (none, .ld 18 none (.t 17)),
 (none, .bb 19 true (.t 16) (.t 18)),
 (none, .kp [2, 3, 19])])
 (.ite (.t 19) (.seq (.rg [(none, .mv 4 (.c (.b false))),
 (none, .kp [4])])
 (.rt))
 (.sk)))
 (.seq (.seq (.rg [(none, .fa 20 3 (.t 2)),
 (none, .ld 21 none (.t 20)),
 (none, .fa 22 3 (.t 3)),
 (none, .ld 23 none (.t 22)),
 (none, .bi 24 .neq (.t 21) (.t 23)),
 (none, .kp [24])])
 (.ite (.t 24) (.seq (.rg [(none, .mv 4 (.c (.b false))),
 (none, .kp [4])])
 (.rt))
 (.sk)))
 (.seq (.rg [(none, .mv 4 (.c (.b true))),
 (none, .kp [4])])
 (.rt))))))
theorem mr77 {m : Nat} {H : List (Nat × Blk)} {args : List AV} {Q : AV → List (Nat × Blk) → Nat → List Nat → Prop} (hn : Nat.ble args.length 25 = true) (h : ∀ c : Cx, c.P = Try.prog → c.m = m → Run c pc77 ⟨zipS 0 args, H, m, []⟩ (Ret [.t 4] Q) (fun _ _ => False) (Ret [.t 4] Q)) : Spec Try.prog 77 m H args Q := spec_of_run (fn := Try.f77) (by kernel_rfl) rfl (by kernel_rfl) (by kernel_rfl) hn h
theorem mk77 {m : Nat} {H : List (Nat × Blk)} {args : List AV} {Q : AV → List (Nat × Blk) → Nat → List Nat → Prop} (hn : Nat.ble args.length 25 = true) (h : ∀ c : Cx, c.P = Try.prog → c.m = m → wpc c pc77 ⟨zipS 0 args, H, m, []⟩ (Ret [.t 4] Q) (fun _ _ => False) (Ret [.t 4] Q)) : Spec Try.prog 77 m H args Q := mr77 hn fun c h1 h2 => run_wpc _ _ _ _ _ (h c h1 h2)
theorem mw77 {m : Nat} {H : List (Nat × Blk)} {args : List AV} {Q : AV → List (Nat × Blk) → Nat → List Nat → Prop} (hn : Nat.ble args.length 25 = true) (h : ∀ c : Cx, c.P = Try.prog → c.m = m → wpc c pc77 ⟨zipS 0 args, H, m, []⟩ (wk c (Ret [.t 4] Q)) (fun _ _ => False) (wk c (Ret [.t 4] Q))) : Spec Try.prog 77 m H args Q := mr77 hn fun c h1 h2 => run_wk (run_wpc _ _ _ _ _ (h c h1 h2))
end Go.Cap
