/- The interpreter's form of this seat's functions (printed by a program out of the translation), and that the translation gives just this. No condition. -/
import Derived.Test.YtedaefjmclkifaaPi19
import Derived.Test.YtedaefjmclkifaaProg
import Derived.KernelRfl
namespace Go.Proofs.Ytedaefjmclkifaa
open Go.PI
/- 3: jobshell/jobshelllaw38.ControlStarts -/
def f3r0 : IC := .reg false [
  ⟨(some 6), .mv (.c (.bool false)), none⟩] [0, 1, 2]
def f3r1 : IC := .reg false [
  ⟨(some 8), .mv (.t 0), none⟩,
  ⟨(some 9), .mv (.t 1), none⟩,
  ⟨(some 10), .build [(.str []), .e0, .e0, .e0, .e0, .e0, (.int .i64 0), (.int .i64 0), (.int .i64 0), (.int .i64 0), (.str []), (.int .i64 0), (.int .i64 0), (.int .i64 0), (.bool false)] [(6, 1, (.t 8)), (14, 1, (.t 9))], none⟩,
  ⟨(some 7), .new 30 15 (.agg [(.str []), .e0, .e0, .e0, .e0, .e0, (.int .i64 0), (.int .i64 0), (.int .i64 0), (.int .i64 0), (.str []), (.int .i64 0), (.int .i64 0), (.int .i64 0), (.bool false)]), none⟩,
  ⟨none, .store 15 (.t 7) (.t 10), none⟩] [7, 2]
def f3r2 : IC := .reg true [
  ⟨(some 11), .load true 15 (.t 7), none⟩,
  ⟨(some 12), .mv (.t 2), none⟩,
  ⟨(some 13), .call (.c (.fn 7 [])) [(.t 11), (.t 12)], none⟩,
  ⟨(some 14), .load true 15 (.t 7), none⟩,
  ⟨(some 15), .mv (.t 2), none⟩,
  ⟨(some 16), .call (.c (.fn 8 [])) [(.t 14), (.t 15)], none⟩,
  ⟨(some 17), .call (.c (.fn 6 [])) [(.t 13), (.t 16)], none⟩,
  ⟨(some 18), .mv (.t 17), none⟩,
  ⟨(some 19), .call (.c (.fn 9 [])) [], (some (18, true))⟩,
  ⟨(some 20), .pick (.t 18) (.t 19) (.c (.bool false)), none⟩,
  ⟨(some 6), .mv (.t 20), none⟩] [6]
def f3body : IC := (.seq f3r0 (.seq f3r1 (.seq f3r2 .ret)))
def f3 : IFn := ⟨21, 3, [.tmp 6], f3body⟩
/- 4: jobshell/jobshelllaw38.ControlChildren -/
def f4r0 : IC := .reg false [
  ⟨(some 3), .box 34 5 (.t 0), none⟩,
  ⟨(some 6), .mv (.c (.bool false)), none⟩] [2, 1, 3]
def f4r1 : IC := .reg false [
  ⟨(some 7), .load true 5 (.t 3), none⟩,
  ⟨(some 8), .build [(.int .i64 0), (.int .i64 0), (.int .i64 0), .e0, .e0, (.str []), (.bool false)] [], none⟩,
  ⟨(some 9), .call (.c (.fn 10 [])) [(.t 7), (.t 8)], none⟩,
  ⟨(some 10), .un .not (.t 9), none⟩] [10, 2, 1, 3]
def f4r2 : IC := .reg false [
  ⟨(some 11), .call (.c (.fn 9 [])) [], none⟩,
  ⟨(some 6), .mv (.t 11), none⟩] [6]
def f4r3 : IC := .reg true [
  ⟨(some 12), .load true 5 (.t 3), none⟩,
  ⟨(some 13), .mv (.t 1), none⟩,
  ⟨(some 14), .call (.c (.fn 12 [])) [(.t 12), (.t 13)], none⟩,
  ⟨(some 15), .load true 5 (.t 3), none⟩,
  ⟨(some 16), .mv (.t 1), none⟩,
  ⟨(some 17), .call (.c (.fn 13 [])) [(.t 15), (.t 16)], none⟩,
  ⟨(some 18), .call (.c (.fn 11 [])) [(.t 14), (.t 17)], none⟩,
  ⟨(some 19), .mv (.t 18), none⟩,
  ⟨(some 20), .load true 5 (.t 3), (some (19, true))⟩,
  ⟨(some 21), .mv (.t 1), (some (19, true))⟩,
  ⟨(some 22), .mv (.t 2), (some (19, true))⟩,
  ⟨(some 23), .call (.c (.fn 14 [])) [(.t 20), (.t 21), (.t 22)], (some (19, true))⟩,
  ⟨(some 24), .load true 5 (.t 3), (some (19, true))⟩,
  ⟨(some 25), .mv (.t 1), (some (19, true))⟩,
  ⟨(some 26), .mv (.t 2), (some (19, true))⟩,
  ⟨(some 27), .call (.c (.fn 15 [])) [(.t 24), (.t 25), (.t 26)], (some (19, true))⟩,
  ⟨(some 28), .call (.c (.fn 11 [])) [(.t 23), (.t 27)], (some (19, true))⟩,
  ⟨(some 29), .pick (.t 19) (.t 28) (.c (.bool false)), none⟩,
  ⟨(some 30), .mv (.t 29), none⟩,
  ⟨(some 31), .call (.c (.fn 9 [])) [], (some (30, true))⟩,
  ⟨(some 32), .pick (.t 30) (.t 31) (.c (.bool false)), none⟩,
  ⟨(some 6), .mv (.t 32), none⟩] [6]
def f4body : IC := (.seq f4r0 (.seq (.seq f4r1 (.cond (.t 10) (.seq f4r2 .ret) .skip)) (.seq f4r3 .ret)))
def f4 : IFn := ⟨33, 3, [.tmp 6], f4body⟩
/- 5: jobshell/jobshelllaw38.ControlContinues -/
def f5r0 : IC := .reg false [
  ⟨(some 2), .box 40 7 (.t 0), none⟩,
  ⟨(some 4), .mv (.c (.bool false)), none⟩] [2, 1]
def f5r1 : IC := .reg false [
  ⟨(some 5), .build [(.bool false), (.bool false), .e0, .e0, (.bool false)] [], none⟩,
  ⟨(some 6), .load true 7 (.t 2), none⟩,
  ⟨(some 7), .call (.c (.fn 10 [])) [(.t 5), (.t 6)], none⟩,
  ⟨(some 8), .un .not (.t 7), none⟩,
  ⟨(some 9), .mv (.t 8), none⟩,
  ⟨(some 10), .fld 1 (.t 2), (some (9, false))⟩,
  ⟨(some 11), .load false 1 (.t 10), (some (9, false))⟩,
  ⟨(some 12), .bin .lss (.t 11) (.c (.int .i64 (-2147483647))), (some (9, false))⟩,
  ⟨(some 13), .pick (.t 9) (.c (.bool true)) (.t 12), none⟩] [13, 2, 1]
def f5r2 : IC := .reg false [
  ⟨(some 14), .call (.c (.fn 9 [])) [], none⟩,
  ⟨(some 4), .mv (.t 14), none⟩] [4]
def f5r3 : IC := .reg true [
  ⟨(some 15), .load true 7 (.t 2), none⟩,
  ⟨(some 16), .mv (.t 1), none⟩,
  ⟨(some 17), .call (.c (.fn 16 [])) [(.t 15), (.t 16)], none⟩,
  ⟨(some 18), .load true 7 (.t 2), none⟩,
  ⟨(some 19), .mv (.t 1), none⟩,
  ⟨(some 20), .call (.c (.fn 17 [])) [(.t 18), (.t 19)], none⟩,
  ⟨(some 21), .call (.c (.fn 11 [])) [(.t 17), (.t 20)], none⟩,
  ⟨(some 22), .mv (.t 21), none⟩,
  ⟨(some 23), .load true 7 (.t 2), (some (22, true))⟩,
  ⟨(some 24), .call (.c (.fn 18 [])) [(.t 23)], (some (22, true))⟩,
  ⟨(some 25), .load true 7 (.t 2), (some (22, true))⟩,
  ⟨(some 26), .call (.c (.fn 19 [])) [(.t 25)], (some (22, true))⟩,
  ⟨(some 27), .call (.c (.fn 11 [])) [(.t 24), (.t 26)], (some (22, true))⟩,
  ⟨(some 28), .pick (.t 22) (.t 27) (.c (.bool false)), none⟩,
  ⟨(some 29), .mv (.t 28), none⟩,
  ⟨(some 30), .call (.c (.fn 9 [])) [], (some (29, true))⟩,
  ⟨(some 31), .pick (.t 29) (.t 30) (.c (.bool false)), none⟩,
  ⟨(some 4), .mv (.t 31), none⟩] [4]
def f5body : IC := (.seq f5r0 (.seq (.seq f5r1 (.cond (.t 13) (.seq f5r2 .ret) .skip)) (.seq f5r3 .ret)))
def f5 : IFn := ⟨32, 2, [.tmp 4], f5body⟩
/- 6: jobshell/jobshellref38.Same -/
def f6r0 : IC := .reg false [
  ⟨(some 2), .box 34 5 (.t 0), none⟩,
  ⟨(some 3), .box 34 5 (.t 1), none⟩,
  ⟨(some 4), .mv (.c (.bool false)), none⟩] [2, 3]
def f6r1 : IC := .reg false [
  ⟨(some 5), .fld 0 (.t 2), none⟩,
  ⟨(some 6), .load false 1 (.t 5), none⟩,
  ⟨(some 7), .fld 0 (.t 3), none⟩,
  ⟨(some 8), .load false 1 (.t 7), none⟩,
  ⟨(some 9), .beq false (.t 6) (.t 8), none⟩,
  ⟨(some 10), .mv (.t 9), none⟩,
  ⟨(some 11), .fld 1 (.t 2), (some (10, true))⟩,
  ⟨(some 12), .load false 1 (.t 11), (some (10, true))⟩,
  ⟨(some 13), .fld 1 (.t 3), (some (10, true))⟩,
  ⟨(some 14), .load false 1 (.t 13), (some (10, true))⟩,
  ⟨(some 15), .beq false (.t 12) (.t 14), (some (10, true))⟩,
  ⟨(some 16), .pick (.t 10) (.t 15) (.c (.bool false)), none⟩,
  ⟨(some 17), .mv (.t 16), none⟩,
  ⟨(some 18), .fld 4 (.t 2), (some (17, true))⟩,
  ⟨(some 19), .load false 1 (.t 18), (some (17, true))⟩,
  ⟨(some 20), .fld 4 (.t 3), (some (17, true))⟩,
  ⟨(some 21), .load false 1 (.t 20), (some (17, true))⟩,
  ⟨(some 22), .beq false (.t 19) (.t 21), (some (17, true))⟩,
  ⟨(some 23), .pick (.t 17) (.t 22) (.c (.bool false)), none⟩,
  ⟨(some 24), .mv (.t 23), none⟩,
  ⟨(some 25), .fld 2 (.t 2), (some (24, true))⟩,
  ⟨(some 26), .load false 1 (.t 25), (some (24, true))⟩,
  ⟨(some 27), .fld 2 (.t 3), (some (24, true))⟩,
  ⟨(some 28), .load false 1 (.t 27), (some (24, true))⟩,
  ⟨(some 29), .call (.c (.fn 20 [])) [(.t 26), (.t 28)], (some (24, true))⟩,
  ⟨(some 30), .pick (.t 24) (.t 29) (.c (.bool false)), none⟩,
  ⟨(some 31), .mv (.t 30), none⟩,
  ⟨(some 32), .fld 3 (.t 2), (some (31, true))⟩,
  ⟨(some 33), .load false 1 (.t 32), (some (31, true))⟩,
  ⟨(some 34), .fld 3 (.t 3), (some (31, true))⟩,
  ⟨(some 35), .load false 1 (.t 34), (some (31, true))⟩,
  ⟨(some 36), .call (.c (.fn 20 [])) [(.t 33), (.t 35)], (some (31, true))⟩,
  ⟨(some 37), .pick (.t 31) (.t 36) (.c (.bool false)), none⟩,
  ⟨(some 4), .mv (.t 37), none⟩] [4]
def f6body : IC := (.seq f6r0 (.seq f6r1 .ret))
def f6 : IFn := ⟨38, 2, [.tmp 4], f6body⟩
/- 7: jobshell/control.Start -/
def f7r0 : IC := .reg false [
  ⟨(some 2), .box 30 15 (.t 0), none⟩,
  ⟨(some 4), .new 34 5 (.agg [(.bool false), (.bool false), .e0, .e0, (.bool false)]), none⟩] [1, 2, 4]
def f7r1 : IC := .reg false [
  ⟨(some 9), .fld 6 (.t 2), none⟩,
  ⟨(some 10), .load false 1 (.t 9), none⟩,
  ⟨(some 11), .bin .and (.t 10) (.c (.int .i64 64)), none⟩,
  ⟨(some 12), .bin .neq (.t 11) (.c (.int .i64 0)), none⟩,
  ⟨(some 5), .mv (.t 12), none⟩] [1, 5, 2, 4]
def f7r2 : IC := .reg false [
  ⟨(some 13), .mv (.t 5), none⟩,
  ⟨(some 14), .mv (.t 5), none⟩,
  ⟨(some 15), .mv (.t 14), none⟩,
  ⟨(some 16), .mv (.t 1), (some (15, true))⟩,
  ⟨(some 17), .un .not (.t 16), (some (15, true))⟩,
  ⟨(some 18), .pick (.t 15) (.t 17) (.c (.bool false)), none⟩,
  ⟨(some 19), .mv (.t 1), none⟩,
  ⟨(some 20), .mv (.t 19), none⟩,
  ⟨(some 21), .mv (.t 5), (some (20, true))⟩,
  ⟨(some 22), .un .not (.t 21), (some (20, true))⟩,
  ⟨(some 23), .pick (.t 20) (.t 22) (.c (.bool false)), none⟩,
  ⟨(some 24), .build [(.bool false), (.bool false), .e0, .e0, (.bool false)] [(0, 1, (.t 13)), (1, 1, (.t 18)), (4, 1, (.t 23))], none⟩,
  ⟨(some 6), .new 34 5 (.agg [(.bool false), (.bool false), .e0, .e0, (.bool false)]), none⟩,
  ⟨none, .store 5 (.t 6) (.t 24), none⟩] [2, 6, 4]
def f7r3 : IC := .reg false [
  ⟨(some 25), .fld 4 (.t 6), none⟩,
  ⟨(some 26), .load false 1 (.t 25), none⟩] [26, 2, 6, 4]
def f7r4 : IC := .reg false [
  ⟨(some 27), .mkrow 3 1 2 (.int .i64 0) [(0, (.c (.int .i64 2))), (1, (.c (.int .i64 3)))], none⟩,
  ⟨(some 28), .fld 2 (.t 6), none⟩,
  ⟨none, .store 1 (.t 28) (.t 27), none⟩] [2, 6, 4]
def f7r5 : IC := .reg false [
  ⟨(some 29), .fld 14 (.t 2), none⟩,
  ⟨(some 30), .load false 1 (.t 29), none⟩,
  ⟨(some 31), .un .not (.t 30), none⟩] [31, 6, 4]
def f7r6 : IC := .reg false [
  ⟨(some 32), .load true 5 (.t 6), none⟩,
  ⟨none, .store 5 (.t 4) (.t 32), none⟩] [4]
def f7r7 : IC := .reg false [
  ⟨(some 33), .mkrow 3 1 6 (.int .i64 0) [(0, (.c (.int .i64 2))), (1, (.c (.int .i64 3))), (2, (.c (.int .i64 4))), (3, (.c (.int .i64 5))), (4, (.c (.int .i64 15))), (5, (.c (.int .i64 20)))], none⟩,
  ⟨(some 34), .len (.t 33), none⟩,
  ⟨(some 35), .mv (.c (.int .i64 0)), none⟩] [35, 34, 4, 33, 6]
def f7r8 : IC := .reg false [
  ⟨(some 36), .bin .lss (.t 35) (.t 34), none⟩] [36, 35, 34, 4, 33, 6]
def f7r9 : IC := .reg false [
  ⟨(some 37), .idx 1 (.t 33) (.t 35), none⟩,
  ⟨(some 38), .load false 1 (.t 37), none⟩,
  ⟨(some 8), .mv (.t 38), none⟩] [8, 35, 34, 4, 33, 6]
def f7r10 : IC := .reg false [
  ⟨(some 39), .fld 2 (.t 6), none⟩,
  ⟨(some 40), .load false 1 (.t 39), none⟩,
  ⟨(some 41), .mv (.t 8), none⟩,
  ⟨(some 42), .call (.c (.fn 21 [])) [(.t 40), (.t 41)], none⟩,
  ⟨(some 43), .un .not (.t 42), none⟩] [43, 8, 35, 34, 4, 33, 6]
def f7r11 : IC := .reg false [
  ⟨(some 44), .fld 3 (.t 6), none⟩,
  ⟨(some 45), .load false 1 (.t 44), none⟩,
  ⟨(some 46), .mv (.t 8), none⟩,
  ⟨(some 47), .mkrow 3 1 1 (.int .i64 0) [(0, (.t 46))], none⟩,
  ⟨(some 48), .app 3 1 (.t 45) (.t 47), none⟩,
  ⟨(some 49), .fld 3 (.t 6), none⟩,
  ⟨none, .store 1 (.t 49) (.t 48), none⟩] [35, 34, 4, 33, 6]
def f7r12 : IC := .reg false [
  ⟨(some 50), .bin .add (.t 35) (.c (.int .i64 1)), none⟩,
  ⟨(some 35), .mv (.t 50), none⟩] [35, 34, 4, 33, 6]
def f7b13 : IC := (.seq f7r8 (.seq (.cond (.t 36) .skip (.exit 0)) (.seq (.block 1 (.seq f7r9 (.seq f7r10 (.cond (.t 43) f7r11 .skip)))) f7r12)))
def f7r14 : IC := .reg false [
  ⟨(some 51), .load true 5 (.t 6), none⟩,
  ⟨none, .store 5 (.t 4) (.t 51), none⟩] [4]
def f7body : IC := (.seq f7r0 (.seq f7r1 (.seq f7r2 (.seq (.seq f7r3 (.cond (.t 26) f7r4 .skip)) (.seq (.seq f7r5 (.cond (.t 31) (.seq f7r6 .ret) .skip)) (.seq (.seq f7r7 (.block 0 (.loop [35, 34, 4, 33, 6] f7b13))) (.seq f7r14 .ret)))))))
def f7 : IFn := ⟨52, 2, [.cell 4 true 5], f7body⟩
/- 8: jobshell/jobshellref38.Start -/
def f8r0 : IC := .reg false [
  ⟨(some 2), .box 30 15 (.t 0), none⟩,
  ⟨(some 4), .new 34 5 (.agg [(.bool false), (.bool false), .e0, .e0, (.bool false)]), none⟩] [1, 2, 4]
def f8r1 : IC := .reg false [
  ⟨(some 9), .fld 6 (.t 2), none⟩,
  ⟨(some 10), .load false 1 (.t 9), none⟩,
  ⟨(some 11), .bin .and (.t 10) (.c (.int .i64 64)), none⟩,
  ⟨(some 12), .bin .neq (.t 11) (.c (.int .i64 0)), none⟩,
  ⟨(some 5), .mv (.t 12), none⟩] [1, 5, 2, 4]
def f8r2 : IC := .reg false [
  ⟨(some 13), .mv (.t 5), none⟩,
  ⟨(some 14), .mv (.t 5), none⟩,
  ⟨(some 15), .mv (.t 14), none⟩,
  ⟨(some 16), .mv (.t 1), (some (15, true))⟩,
  ⟨(some 17), .un .not (.t 16), (some (15, true))⟩,
  ⟨(some 18), .pick (.t 15) (.t 17) (.c (.bool false)), none⟩,
  ⟨(some 19), .mv (.t 1), none⟩,
  ⟨(some 20), .mv (.t 19), none⟩,
  ⟨(some 21), .mv (.t 5), (some (20, true))⟩,
  ⟨(some 22), .un .not (.t 21), (some (20, true))⟩,
  ⟨(some 23), .pick (.t 20) (.t 22) (.c (.bool false)), none⟩,
  ⟨(some 24), .build [(.bool false), (.bool false), .e0, .e0, (.bool false)] [(0, 1, (.t 13)), (1, 1, (.t 18)), (4, 1, (.t 23))], none⟩,
  ⟨(some 6), .new 34 5 (.agg [(.bool false), (.bool false), .e0, .e0, (.bool false)]), none⟩,
  ⟨none, .store 5 (.t 6) (.t 24), none⟩] [2, 4, 6]
def f8r3 : IC := .reg false [
  ⟨(some 25), .fld 4 (.t 6), none⟩,
  ⟨(some 26), .load false 1 (.t 25), none⟩] [26, 2, 4, 6]
def f8r4 : IC := .reg false [
  ⟨(some 27), .mkrow 3 1 2 (.int .i64 0) [(0, (.c (.int .i64 2))), (1, (.c (.int .i64 3)))], none⟩,
  ⟨(some 28), .fld 2 (.t 6), none⟩,
  ⟨none, .store 1 (.t 28) (.t 27), none⟩] [2, 4, 6]
def f8r5 : IC := .reg false [
  ⟨(some 29), .fld 14 (.t 2), none⟩,
  ⟨(some 30), .load false 1 (.t 29), none⟩] [30, 4, 6]
def f8r6 : IC := .reg false [
  ⟨(some 31), .call (.c (.fn 22 [])) [], none⟩,
  ⟨(some 32), .len (.t 31), none⟩,
  ⟨(some 33), .mv (.c (.int .i64 0)), none⟩] [33, 32, 4, 31, 6]
def f8r7 : IC := .reg false [
  ⟨(some 34), .bin .lss (.t 33) (.t 32), none⟩] [34, 33, 32, 4, 31, 6]
def f8r8 : IC := .reg false [
  ⟨(some 35), .idx 1 (.t 31) (.t 33), none⟩,
  ⟨(some 36), .load false 1 (.t 35), none⟩,
  ⟨(some 8), .mv (.t 36), none⟩] [8, 33, 32, 4, 31, 6]
def f8r9 : IC := .reg false [
  ⟨(some 37), .fld 4 (.t 6), none⟩,
  ⟨(some 38), .load false 1 (.t 37), none⟩,
  ⟨(some 39), .un .not (.t 38), none⟩,
  ⟨(some 40), .mv (.t 39), none⟩,
  ⟨(some 41), .mv (.t 8), (some (40, false))⟩,
  ⟨(some 42), .bin .neq (.t 41) (.c (.int .i64 2)), (some (40, false))⟩,
  ⟨(some 43), .mv (.t 42), (some (40, false))⟩,
  ⟨(some 44), .mv (.t 8), (some (43, true))⟩,
  ⟨(some 45), .bin .neq (.t 44) (.c (.int .i64 3)), (some (43, true))⟩,
  ⟨(some 46), .pick (.t 43) (.t 45) (.c (.bool false)), (some (40, false))⟩,
  ⟨(some 47), .pick (.t 40) (.c (.bool true)) (.t 46), none⟩] [47, 8, 33, 32, 4, 31, 6]
def f8r10 : IC := .reg false [
  ⟨(some 48), .fld 3 (.t 6), none⟩,
  ⟨(some 49), .load false 1 (.t 48), none⟩,
  ⟨(some 50), .mv (.t 8), none⟩,
  ⟨(some 51), .mkrow 3 1 1 (.int .i64 0) [(0, (.t 50))], none⟩,
  ⟨(some 52), .app 3 1 (.t 49) (.t 51), none⟩,
  ⟨(some 53), .fld 3 (.t 6), none⟩,
  ⟨none, .store 1 (.t 53) (.t 52), none⟩] [33, 32, 4, 31, 6]
def f8r11 : IC := .reg false [
  ⟨(some 54), .bin .add (.t 33) (.c (.int .i64 1)), none⟩,
  ⟨(some 33), .mv (.t 54), none⟩] [33, 32, 4, 31, 6]
def f8b12 : IC := (.seq f8r7 (.seq (.cond (.t 34) .skip (.exit 0)) (.seq (.block 1 (.seq f8r8 (.seq f8r9 (.cond (.t 47) f8r10 .skip)))) f8r11)))
def f8r13 : IC := .reg false [
  ⟨(some 55), .load true 5 (.t 6), none⟩,
  ⟨none, .store 5 (.t 4) (.t 55), none⟩] [4]
def f8body : IC := (.seq f8r0 (.seq f8r1 (.seq f8r2 (.seq (.seq f8r3 (.cond (.t 26) f8r4 .skip)) (.seq (.seq f8r5 (.cond (.t 30) (.seq f8r6 (.block 0 (.loop [33, 32, 4, 31, 6] f8b12))) .skip)) (.seq f8r13 .ret))))))
def f8 : IFn := ⟨56, 2, [.cell 4 true 5], f8body⟩
/- 9: jobshell/jobshelllaw38.exampleHolds -/
def f9r0 : IC := .reg false [
  ⟨(some 0), .mv (.c (.bool false)), none⟩] []
def f9r1 : IC := .reg false [
  ⟨(some 5), .build [(.str []), .e0, .e0, .e0, .e0, .e0, (.int .i64 0), (.int .i64 0), (.int .i64 0), (.int .i64 0), (.str []), (.int .i64 0), (.int .i64 0), (.int .i64 0), (.bool false)] [(6, 1, (.c (.int .i64 64))), (14, 1, (.c (.bool true)))], none⟩,
  ⟨(some 6), .call (.c (.fn 7 [])) [(.t 5), (.c (.bool false))], none⟩,
  ⟨(some 1), .new 34 5 (.agg [(.bool false), (.bool false), .e0, .e0, (.bool false)]), none⟩,
  ⟨none, .store 5 (.t 1) (.t 6), none⟩] [1]
def f9r2 : IC := .reg false [
  ⟨(some 7), .load true 5 (.t 1), none⟩,
  ⟨(some 8), .call (.c (.fn 12 [])) [(.t 7), (.c (.int .i64 0))], none⟩,
  ⟨(some 2), .mv (.t 8), none⟩] [1, 2]
def f9r3 : IC := .reg false [
  ⟨(some 9), .load true 5 (.t 1), none⟩,
  ⟨(some 10), .call (.c (.fn 12 [])) [(.t 9), (.c (.int .i64 7))], none⟩,
  ⟨(some 3), .mv (.t 10), none⟩] [3, 2]
def f9r4 : IC := .reg false [
  ⟨(some 11), .build [(.str []), .e0, .e0, .e0, .e0, .e0, (.int .i64 0), (.int .i64 0), (.int .i64 0), (.int .i64 0), (.str []), (.int .i64 0), (.int .i64 0), (.int .i64 0), (.bool false)] [], none⟩,
  ⟨(some 12), .call (.c (.fn 7 [])) [(.t 11), (.c (.bool true))], none⟩,
  ⟨(some 13), .call (.c (.fn 12 [])) [(.t 12), (.c (.int .i64 0))], none⟩,
  ⟨(some 4), .mv (.t 13), none⟩] [4, 3, 2]
def f9r5 : IC := .reg false [
  ⟨(some 14), .mv (.t 2), none⟩,
  ⟨(some 15), .len (.t 14), none⟩,
  ⟨(some 16), .bin .neq (.t 15) (.c (.int .i64 8)), none⟩,
  ⟨(some 17), .mv (.t 16), none⟩,
  ⟨(some 18), .mv (.t 3), (some (17, false))⟩,
  ⟨(some 19), .len (.t 18), (some (17, false))⟩,
  ⟨(some 20), .bin .neq (.t 19) (.c (.int .i64 7)), (some (17, false))⟩,
  ⟨(some 21), .pick (.t 17) (.c (.bool true)) (.t 20), none⟩,
  ⟨(some 22), .mv (.t 21), none⟩,
  ⟨(some 23), .mv (.t 4), (some (22, false))⟩,
  ⟨(some 24), .len (.t 23), (some (22, false))⟩,
  ⟨(some 25), .bin .neq (.t 24) (.c (.int .i64 3)), (some (22, false))⟩,
  ⟨(some 26), .pick (.t 22) (.c (.bool true)) (.t 25), none⟩] [26, 4, 3, 2]
def f9r6 : IC := .reg false [
  ⟨(some 0), .mv (.c (.bool false)), none⟩] [0]
def f9r7 : IC := .reg false [
  ⟨(some 27), .mv (.t 2), none⟩,
  ⟨(some 28), .idx 12 (.t 27) (.c (.int .i64 0)), none⟩,
  ⟨(some 29), .fld 0 (.t 28), none⟩,
  ⟨(some 30), .load false 1 (.t 29), none⟩,
  ⟨(some 31), .bin .eql (.t 30) (.c (.int .i64 12)), none⟩,
  ⟨(some 32), .mv (.t 31), none⟩,
  ⟨(some 33), .mv (.t 2), (some (32, true))⟩,
  ⟨(some 34), .idx 12 (.t 33) (.c (.int .i64 1)), (some (32, true))⟩,
  ⟨(some 35), .fld 0 (.t 34), (some (32, true))⟩,
  ⟨(some 36), .load false 1 (.t 35), (some (32, true))⟩,
  ⟨(some 37), .bin .eql (.t 36) (.c (.int .i64 13)), (some (32, true))⟩,
  ⟨(some 38), .pick (.t 32) (.t 37) (.c (.bool false)), none⟩,
  ⟨(some 39), .mv (.t 38), none⟩,
  ⟨(some 40), .mv (.t 2), (some (39, true))⟩,
  ⟨(some 41), .idx 12 (.t 40) (.c (.int .i64 2)), (some (39, true))⟩,
  ⟨(some 42), .fld 0 (.t 41), (some (39, true))⟩,
  ⟨(some 43), .load false 1 (.t 42), (some (39, true))⟩,
  ⟨(some 44), .bin .eql (.t 43) (.c (.int .i64 14)), (some (39, true))⟩,
  ⟨(some 45), .pick (.t 39) (.t 44) (.c (.bool false)), none⟩,
  ⟨(some 46), .mv (.t 45), none⟩,
  ⟨(some 47), .mv (.t 2), (some (46, true))⟩,
  ⟨(some 48), .idx 12 (.t 47) (.c (.int .i64 2)), (some (46, true))⟩,
  ⟨(some 49), .fld 5 (.t 48), (some (46, true))⟩,
  ⟨(some 50), .load false 1 (.t 49), (some (46, true))⟩,
  ⟨(some 51), .bin .eql (.t 50) (.c (.int .i64 2)), (some (46, true))⟩,
  ⟨(some 52), .pick (.t 46) (.t 51) (.c (.bool false)), none⟩,
  ⟨(some 53), .mv (.t 52), none⟩,
  ⟨(some 54), .mv (.t 3), (some (53, true))⟩,
  ⟨(some 55), .idx 12 (.t 54) (.c (.int .i64 0)), (some (53, true))⟩,
  ⟨(some 56), .fld 4 (.t 55), (some (53, true))⟩,
  ⟨(some 57), .load false 1 (.t 56), (some (53, true))⟩,
  ⟨(some 58), .bin .eql (.t 57) (.c (.int .i64 7)), (some (53, true))⟩,
  ⟨(some 59), .pick (.t 53) (.t 58) (.c (.bool false)), none⟩,
  ⟨(some 60), .mv (.t 59), none⟩,
  ⟨(some 61), .mv (.t 3), (some (60, true))⟩,
  ⟨(some 62), .idx 12 (.t 61) (.c (.int .i64 1)), (some (60, true))⟩,
  ⟨(some 63), .fld 0 (.t 62), (some (60, true))⟩,
  ⟨(some 64), .load false 1 (.t 63), (some (60, true))⟩,
  ⟨(some 65), .bin .eql (.t 64) (.c (.int .i64 14)), (some (60, true))⟩,
  ⟨(some 66), .pick (.t 60) (.t 65) (.c (.bool false)), none⟩,
  ⟨(some 67), .mv (.t 66), none⟩,
  ⟨(some 68), .mv (.t 4), (some (67, true))⟩,
  ⟨(some 69), .idx 12 (.t 68) (.c (.int .i64 0)), (some (67, true))⟩,
  ⟨(some 70), .fld 0 (.t 69), (some (67, true))⟩,
  ⟨(some 71), .load false 1 (.t 70), (some (67, true))⟩,
  ⟨(some 72), .bin .eql (.t 71) (.c (.int .i64 3)), (some (67, true))⟩,
  ⟨(some 73), .pick (.t 67) (.t 72) (.c (.bool false)), none⟩,
  ⟨(some 74), .mv (.t 73), none⟩,
  ⟨(some 75), .mv (.t 4), (some (74, true))⟩,
  ⟨(some 76), .idx 12 (.t 75) (.c (.int .i64 0)), (some (74, true))⟩,
  ⟨(some 77), .fld 8 (.t 76), (some (74, true))⟩,
  ⟨(some 78), .load false 1 (.t 77), (some (74, true))⟩,
  ⟨(some 79), .bin .eql (.t 78) (.c (.str [47, 100, 101, 118, 47, 110, 117, 108, 108])), (some (74, true))⟩,
  ⟨(some 80), .pick (.t 74) (.t 79) (.c (.bool false)), none⟩,
  ⟨(some 81), .mv (.t 80), none⟩,
  ⟨(some 82), .mv (.t 4), (some (81, true))⟩,
  ⟨(some 83), .idx 12 (.t 82) (.c (.int .i64 1)), (some (81, true))⟩,
  ⟨(some 84), .fld 5 (.t 83), (some (81, true))⟩,
  ⟨(some 85), .load false 1 (.t 84), (some (81, true))⟩,
  ⟨(some 86), .bin .eql (.t 85) (.c (.int .i64 2)), (some (81, true))⟩,
  ⟨(some 87), .pick (.t 81) (.t 86) (.c (.bool false)), none⟩,
  ⟨(some 88), .mv (.t 87), none⟩,
  ⟨(some 89), .mv (.t 4), (some (88, true))⟩,
  ⟨(some 90), .idx 12 (.t 89) (.c (.int .i64 1)), (some (88, true))⟩,
  ⟨(some 91), .fld 6 (.t 90), (some (88, true))⟩,
  ⟨(some 92), .load false 1 (.t 91), (some (88, true))⟩,
  ⟨(some 93), .bin .eql (.t 92) (.c (.int .i64 1)), (some (88, true))⟩,
  ⟨(some 94), .pick (.t 88) (.t 93) (.c (.bool false)), none⟩,
  ⟨(some 95), .mv (.t 94), none⟩,
  ⟨(some 96), .mv (.t 4), (some (95, true))⟩,
  ⟨(some 97), .idx 12 (.t 96) (.c (.int .i64 2)), (some (95, true))⟩,
  ⟨(some 98), .fld 5 (.t 97), (some (95, true))⟩,
  ⟨(some 99), .load false 1 (.t 98), (some (95, true))⟩,
  ⟨(some 100), .bin .eql (.t 99) (.c (.int .i64 3)), (some (95, true))⟩,
  ⟨(some 101), .pick (.t 95) (.t 100) (.c (.bool false)), none⟩,
  ⟨(some 0), .mv (.t 101), none⟩] [0]
def f9body : IC := (.seq f9r0 (.seq f9r1 (.seq f9r2 (.seq f9r3 (.seq f9r4 (.seq (.seq f9r5 (.cond (.t 26) (.seq f9r6 .ret) .skip)) (.seq f9r7 .ret)))))))
def f9 : IFn := ⟨102, 0, [.tmp 0], f9body⟩
/- 10: jobshell/jobshelllaw38.few -/
def f10r0 : IC := .reg false [
  ⟨(some 2), .box 34 5 (.t 0), none⟩,
  ⟨(some 3), .box 40 7 (.t 1), none⟩,
  ⟨(some 4), .mv (.c (.bool false)), none⟩] [2, 3]
def f10r1 : IC := .reg false [
  ⟨(some 5), .fld 2 (.t 2), none⟩,
  ⟨(some 6), .load false 1 (.t 5), none⟩,
  ⟨(some 7), .len (.t 6), none⟩,
  ⟨(some 8), .bin .leq (.t 7) (.c (.int .i64 60)), none⟩,
  ⟨(some 9), .mv (.t 8), none⟩,
  ⟨(some 10), .fld 3 (.t 2), (some (9, true))⟩,
  ⟨(some 11), .load false 1 (.t 10), (some (9, true))⟩,
  ⟨(some 12), .len (.t 11), (some (9, true))⟩,
  ⟨(some 13), .bin .leq (.t 12) (.c (.int .i64 60)), (some (9, true))⟩,
  ⟨(some 14), .pick (.t 9) (.t 13) (.c (.bool false)), none⟩,
  ⟨(some 15), .mv (.t 14), none⟩,
  ⟨(some 16), .fld 3 (.t 3), (some (15, true))⟩,
  ⟨(some 17), .load false 1 (.t 16), (some (15, true))⟩,
  ⟨(some 18), .len (.t 17), (some (15, true))⟩,
  ⟨(some 19), .bin .leq (.t 18) (.c (.int .i64 60)), (some (15, true))⟩,
  ⟨(some 20), .pick (.t 15) (.t 19) (.c (.bool false)), none⟩,
  ⟨(some 21), .mv (.t 20), none⟩,
  ⟨(some 22), .fld 4 (.t 3), (some (21, true))⟩,
  ⟨(some 23), .load false 1 (.t 22), (some (21, true))⟩,
  ⟨(some 24), .len (.t 23), (some (21, true))⟩,
  ⟨(some 25), .bin .leq (.t 24) (.c (.int .i64 60)), (some (21, true))⟩,
  ⟨(some 26), .pick (.t 21) (.t 25) (.c (.bool false)), none⟩,
  ⟨(some 4), .mv (.t 26), none⟩] [4]
def f10body : IC := (.seq f10r0 (.seq f10r1 .ret))
def f10 : IFn := ⟨27, 2, [.tmp 4], f10body⟩
/- 11: jobshell/jobshellref35.SameReqs -/
def f11r0 : IC := .reg false [
  ⟨(some 4), .mv (.c (.bool false)), none⟩] [1, 0]
def f11r1 : IC := .reg false [
  ⟨(some 6), .mv (.t 0), none⟩,
  ⟨(some 7), .len (.t 6), none⟩,
  ⟨(some 8), .mv (.t 1), none⟩,
  ⟨(some 9), .len (.t 8), none⟩,
  ⟨(some 10), .bin .neq (.t 7) (.t 9), none⟩] [10, 1, 0]
def f11r2 : IC := .reg false [
  ⟨(some 4), .mv (.c (.bool false)), none⟩] [4]
def f11r3 : IC := .reg false [
  ⟨(some 11), .mv (.t 0), none⟩,
  ⟨(some 12), .len (.t 11), none⟩,
  ⟨(some 13), .mv (.c (.int .i64 0)), none⟩] [12, 0, 1, 13]
def f11r4 : IC := .reg false [
  ⟨(some 14), .bin .lss (.t 13) (.t 12), none⟩] [14, 1, 0, 12, 13]
def f11r5 : IC := .reg false [
  ⟨(some 15), .mv (.t 13), none⟩,
  ⟨(some 5), .mv (.t 15), none⟩] [5, 1, 0, 12, 13]
def f11r6 : IC := .reg true [
  ⟨(some 16), .mv (.t 0), none⟩,
  ⟨(some 17), .mv (.t 5), none⟩,
  ⟨(some 18), .idx 12 (.t 16) (.t 17), none⟩,
  ⟨(some 19), .load true 12 (.t 18), none⟩,
  ⟨(some 20), .mv (.t 1), none⟩,
  ⟨(some 21), .mv (.t 5), none⟩,
  ⟨(some 22), .idx 12 (.t 20) (.t 21), none⟩,
  ⟨(some 23), .load true 12 (.t 22), none⟩,
  ⟨(some 24), .call (.c (.fn 23 [])) [(.t 19), (.t 23)], none⟩,
  ⟨(some 25), .un .not (.t 24), none⟩] [25, 1, 0, 12, 13]
def f11r7 : IC := .reg false [
  ⟨(some 4), .mv (.c (.bool false)), none⟩] [4]
def f11r8 : IC := .reg false [
  ⟨(some 26), .bin .add (.t 13) (.c (.int .i64 1)), none⟩,
  ⟨(some 13), .mv (.t 26), none⟩] [12, 0, 1, 13]
def f11b9 : IC := (.seq f11r4 (.seq (.cond (.t 14) .skip (.exit 0)) (.seq (.block 1 (.seq f11r5 (.seq f11r6 (.cond (.t 25) (.seq f11r7 .ret) .skip)))) f11r8)))
def f11r10 : IC := .reg false [
  ⟨(some 4), .mv (.c (.bool true)), none⟩] [4]
def f11body : IC := (.seq f11r0 (.seq (.seq f11r1 (.cond (.t 10) (.seq f11r2 .ret) .skip)) (.seq (.seq f11r3 (.block 0 (.loop [12, 0, 1, 13] f11b9))) (.seq f11r10 .ret))))
def f11 : IFn := ⟨27, 2, [.tmp 4], f11body⟩
/- 12: jobshell/control.Child -/
def f12r0 : IC := .reg false [
  ⟨(some 2), .box 34 5 (.t 0), none⟩,
  ⟨(some 4), .nilrow 53 12, none⟩] [2, 1]
def f12r1 : IC := .reg false [
  ⟨(some 11), .load true 5 (.t 2), none⟩,
  ⟨(some 12), .mv (.t 1), none⟩,
  ⟨(some 13), .build [(.bool false), (.bool false), .e0, .e0, (.bool false), (.int .i64 0)] [(0, 5, (.t 11)), (5, 1, (.t 12))], none⟩,
  ⟨(some 5), .new 56 6 (.agg [(.bool false), (.bool false), .e0, .e0, (.bool false), (.int .i64 0)]), none⟩,
  ⟨none, .store 6 (.t 5) (.t 13), none⟩] [5]
def f12r2 : IC := .reg false [
  ⟨(some 6), .nilrow 53 12, none⟩] [6, 5]
def f12r3 : IC := .reg false [
  ⟨(some 14), .fld 0 (.t 5), none⟩,
  ⟨(some 15), .fld 0 (.t 14), none⟩,
  ⟨(some 16), .load false 1 (.t 15), none⟩] [16, 6, 5]
def f12r4 : IC := .reg false [
  ⟨(some 17), .mv (.t 6), none⟩,
  ⟨(some 18), .fld 5 (.t 5), none⟩,
  ⟨(some 19), .load false 1 (.t 18), none⟩,
  ⟨(some 20), .build [(.int .i64 0), (.int .i64 0), (.int .i64 0), (.int .i64 0), (.int .i64 0), (.int .i64 0), (.int .i64 0), (.int .i64 0), (.str []), (.str []), .e0, .e0] [(0, 1, (.c (.int .i64 12))), (4, 1, (.t 19))], none⟩,
  ⟨(some 21), .mkrow 53 12 1 (.agg [(.int .i64 0), (.int .i64 0), (.int .i64 0), (.int .i64 0), (.int .i64 0), (.int .i64 0), (.int .i64 0), (.int .i64 0), (.str []), (.str []), .e0, .e0]) [(0, (.t 20))], none⟩,
  ⟨(some 22), .app 53 12 (.t 17) (.t 21), none⟩,
  ⟨(some 6), .mv (.t 22), none⟩] [6, 5]
def f12r5 : IC := .reg false [
  ⟨(some 23), .load true 6 (.t 5), none⟩,
  ⟨(some 24), .call (.c (.fn 24 [])) [(.t 23)], none⟩] [24, 6, 5]
def f12r6 : IC := .reg false [
  ⟨(some 25), .mv (.t 6), none⟩,
  ⟨(some 26), .build [(.int .i64 0), (.int .i64 0), (.int .i64 0), (.int .i64 0), (.int .i64 0), (.int .i64 0), (.int .i64 0), (.int .i64 0), (.str []), (.str []), .e0, .e0] [(0, 1, (.c (.int .i64 13)))], none⟩,
  ⟨(some 27), .mkrow 53 12 1 (.agg [(.int .i64 0), (.int .i64 0), (.int .i64 0), (.int .i64 0), (.int .i64 0), (.int .i64 0), (.int .i64 0), (.int .i64 0), (.str []), (.str []), .e0, .e0]) [(0, (.t 26))], none⟩,
  ⟨(some 28), .app 53 12 (.t 25) (.t 27), none⟩,
  ⟨(some 6), .mv (.t 28), none⟩] [6, 5]
def f12r7 : IC := .reg false [
  ⟨(some 29), .fld 0 (.t 5), none⟩,
  ⟨(some 30), .fld 4 (.t 29), none⟩,
  ⟨(some 31), .load false 1 (.t 30), none⟩] [31, 6, 5]
def f12r8 : IC := .reg false [
  ⟨(some 32), .mv (.t 6), none⟩,
  ⟨(some 33), .build [(.int .i64 0), (.int .i64 0), (.int .i64 0), (.int .i64 0), (.int .i64 0), (.int .i64 0), (.int .i64 0), (.int .i64 0), (.str []), (.str []), .e0, .e0] [(0, 1, (.c (.int .i64 3))), (8, 1, (.c (.str [47, 100, 101, 118, 47, 110, 117, 108, 108]))), (7, 1, (.c (.int .i64 65)))], none⟩,
  ⟨(some 34), .mkrow 53 12 1 (.agg [(.int .i64 0), (.int .i64 0), (.int .i64 0), (.int .i64 0), (.int .i64 0), (.int .i64 0), (.int .i64 0), (.int .i64 0), (.str []), (.str []), .e0, .e0]) [(0, (.t 33))], none⟩,
  ⟨(some 35), .app 53 12 (.t 32) (.t 34), none⟩,
  ⟨(some 6), .mv (.t 35), none⟩] [6, 5]
def f12r9 : IC := .reg false [
  ⟨(some 36), .fld 0 (.t 5), none⟩,
  ⟨(some 37), .fld 2 (.t 36), none⟩,
  ⟨(some 38), .load false 1 (.t 37), none⟩,
  ⟨(some 39), .len (.t 38), none⟩,
  ⟨(some 40), .mv (.c (.int .i64 0)), none⟩] [6, 40, 39, 5, 38]
def f12r10 : IC := .reg false [
  ⟨(some 41), .bin .lss (.t 40) (.t 39), none⟩] [41, 6, 40, 39, 5, 38]
def f12r11 : IC := .reg false [
  ⟨(some 42), .idx 1 (.t 38) (.t 40), none⟩,
  ⟨(some 43), .load false 1 (.t 42), none⟩,
  ⟨(some 8), .mv (.t 43), none⟩] [6, 8, 40, 39, 5, 38]
def f12r12 : IC := .reg false [
  ⟨(some 44), .mv (.t 6), none⟩,
  ⟨(some 45), .mv (.t 8), none⟩,
  ⟨(some 46), .build [(.int .i64 0), (.int .i64 0), (.int .i64 0), (.int .i64 0), (.int .i64 0), (.int .i64 0), (.int .i64 0), (.int .i64 0), (.str []), (.str []), .e0, .e0] [(0, 1, (.c (.int .i64 14))), (5, 1, (.t 45)), (6, 1, (.c (.int .i64 1)))], none⟩,
  ⟨(some 47), .mkrow 53 12 1 (.agg [(.int .i64 0), (.int .i64 0), (.int .i64 0), (.int .i64 0), (.int .i64 0), (.int .i64 0), (.int .i64 0), (.int .i64 0), (.str []), (.str []), .e0, .e0]) [(0, (.t 46))], none⟩,
  ⟨(some 48), .app 53 12 (.t 44) (.t 47), none⟩,
  ⟨(some 6), .mv (.t 48), none⟩] [40, 6, 39, 5, 38]
def f12r13 : IC := .reg false [
  ⟨(some 49), .bin .add (.t 40) (.c (.int .i64 1)), none⟩,
  ⟨(some 40), .mv (.t 49), none⟩] [6, 40, 39, 5, 38]
def f12b14 : IC := (.seq f12r10 (.seq (.cond (.t 41) .skip (.exit 0)) (.seq (.block 1 (.seq f12r11 f12r12)) f12r13)))
def f12r15 : IC := .reg false [
  ⟨(some 50), .fld 0 (.t 5), none⟩,
  ⟨(some 51), .fld 3 (.t 50), none⟩,
  ⟨(some 52), .load false 1 (.t 51), none⟩,
  ⟨(some 53), .len (.t 52), none⟩,
  ⟨(some 54), .mv (.c (.int .i64 0)), none⟩] [6, 54, 53, 52]
def f12r16 : IC := .reg false [
  ⟨(some 55), .bin .lss (.t 54) (.t 53), none⟩] [55, 6, 54, 53, 52]
def f12r17 : IC := .reg false [
  ⟨(some 56), .idx 1 (.t 52) (.t 54), none⟩,
  ⟨(some 57), .load false 1 (.t 56), none⟩,
  ⟨(some 10), .mv (.t 57), none⟩] [6, 10, 54, 53, 52]
def f12r18 : IC := .reg false [
  ⟨(some 58), .mv (.t 6), none⟩,
  ⟨(some 59), .mv (.t 10), none⟩,
  ⟨(some 60), .build [(.int .i64 0), (.int .i64 0), (.int .i64 0), (.int .i64 0), (.int .i64 0), (.int .i64 0), (.int .i64 0), (.int .i64 0), (.str []), (.str []), .e0, .e0] [(0, 1, (.c (.int .i64 14))), (5, 1, (.t 59))], none⟩,
  ⟨(some 61), .mkrow 53 12 1 (.agg [(.int .i64 0), (.int .i64 0), (.int .i64 0), (.int .i64 0), (.int .i64 0), (.int .i64 0), (.int .i64 0), (.int .i64 0), (.str []), (.str []), .e0, .e0]) [(0, (.t 60))], none⟩,
  ⟨(some 62), .app 53 12 (.t 58) (.t 61), none⟩,
  ⟨(some 6), .mv (.t 62), none⟩] [54, 6, 53, 52]
def f12r19 : IC := .reg false [
  ⟨(some 63), .bin .add (.t 54) (.c (.int .i64 1)), none⟩,
  ⟨(some 54), .mv (.t 63), none⟩] [6, 54, 53, 52]
def f12b20 : IC := (.seq f12r16 (.seq (.cond (.t 55) .skip (.exit 2)) (.seq (.block 3 (.seq f12r17 f12r18)) f12r19)))
def f12r21 : IC := .reg false [
  ⟨(some 64), .mv (.t 6), none⟩,
  ⟨(some 4), .mv (.t 64), none⟩] [4]
def f12body : IC := (.seq f12r0 (.seq f12r1 (.seq f12r2 (.seq (.seq f12r3 (.cond (.t 16) f12r4 .skip)) (.seq (.seq f12r5 (.cond (.t 24) f12r6 .skip)) (.seq (.seq f12r7 (.cond (.t 31) f12r8 .skip)) (.seq (.seq f12r9 (.block 0 (.loop [6, 40, 39, 5, 38] f12b14))) (.seq (.seq f12r15 (.block 2 (.loop [6, 54, 53, 52] f12b20))) (.seq f12r21 .ret)))))))))
def f12 : IFn := ⟨65, 2, [.tmp 4], f12body⟩
/- 13: jobshell/jobshellref38.Child -/
def f13r0 : IC := .reg false [
  ⟨(some 2), .box 34 5 (.t 0), none⟩,
  ⟨(some 4), .nilrow 53 12, none⟩] [1, 2]
def f13r1 : IC := .reg false [
  ⟨(some 5), .nilrow 53 12, none⟩] [5, 1, 2]
def f13r2 : IC := .reg false [
  ⟨(some 10), .fld 0 (.t 2), none⟩,
  ⟨(some 11), .load false 1 (.t 10), none⟩] [11, 5, 1, 2]
def f13r3 : IC := .reg false [
  ⟨(some 12), .mv (.t 5), none⟩,
  ⟨(some 13), .mv (.t 1), none⟩,
  ⟨(some 14), .build [(.int .i64 0), (.int .i64 0), (.int .i64 0), (.int .i64 0), (.int .i64 0), (.int .i64 0), (.int .i64 0), (.int .i64 0), (.str []), (.str []), .e0, .e0] [(0, 1, (.c (.int .i64 12))), (4, 1, (.t 13))], none⟩,
  ⟨(some 15), .mkrow 53 12 1 (.agg [(.int .i64 0), (.int .i64 0), (.int .i64 0), (.int .i64 0), (.int .i64 0), (.int .i64 0), (.int .i64 0), (.int .i64 0), (.str []), (.str []), .e0, .e0]) [(0, (.t 14))], none⟩,
  ⟨(some 16), .app 53 12 (.t 12) (.t 15), none⟩,
  ⟨(some 5), .mv (.t 16), none⟩] [1, 5, 2]
def f13r4 : IC := .reg false [
  ⟨(some 17), .fld 1 (.t 2), none⟩,
  ⟨(some 18), .load false 1 (.t 17), none⟩,
  ⟨(some 19), .mv (.t 18), none⟩,
  ⟨(some 20), .mv (.t 1), (some (19, true))⟩,
  ⟨(some 21), .bin .eql (.t 20) (.c (.int .i64 0)), (some (19, true))⟩,
  ⟨(some 22), .pick (.t 19) (.t 21) (.c (.bool false)), none⟩] [22, 5, 2]
def f13r5 : IC := .reg false [
  ⟨(some 23), .mv (.t 5), none⟩,
  ⟨(some 24), .build [(.int .i64 0), (.int .i64 0), (.int .i64 0), (.int .i64 0), (.int .i64 0), (.int .i64 0), (.int .i64 0), (.int .i64 0), (.str []), (.str []), .e0, .e0] [(0, 1, (.c (.int .i64 13)))], none⟩,
  ⟨(some 25), .mkrow 53 12 1 (.agg [(.int .i64 0), (.int .i64 0), (.int .i64 0), (.int .i64 0), (.int .i64 0), (.int .i64 0), (.int .i64 0), (.int .i64 0), (.str []), (.str []), .e0, .e0]) [(0, (.t 24))], none⟩,
  ⟨(some 26), .app 53 12 (.t 23) (.t 25), none⟩,
  ⟨(some 5), .mv (.t 26), none⟩] [5, 2]
def f13r6 : IC := .reg false [
  ⟨(some 27), .fld 4 (.t 2), none⟩,
  ⟨(some 28), .load false 1 (.t 27), none⟩] [28, 5, 2]
def f13r7 : IC := .reg false [
  ⟨(some 29), .mv (.t 5), none⟩,
  ⟨(some 30), .build [(.int .i64 0), (.int .i64 0), (.int .i64 0), (.int .i64 0), (.int .i64 0), (.int .i64 0), (.int .i64 0), (.int .i64 0), (.str []), (.str []), .e0, .e0] [(0, 1, (.c (.int .i64 3))), (8, 1, (.c (.str [47, 100, 101, 118, 47, 110, 117, 108, 108]))), (7, 1, (.c (.int .i64 65)))], none⟩,
  ⟨(some 31), .mkrow 53 12 1 (.agg [(.int .i64 0), (.int .i64 0), (.int .i64 0), (.int .i64 0), (.int .i64 0), (.int .i64 0), (.int .i64 0), (.int .i64 0), (.str []), (.str []), .e0, .e0]) [(0, (.t 30))], none⟩,
  ⟨(some 32), .app 53 12 (.t 29) (.t 31), none⟩,
  ⟨(some 5), .mv (.t 32), none⟩] [5, 2]
def f13r8 : IC := .reg false [
  ⟨(some 33), .fld 2 (.t 2), none⟩,
  ⟨(some 34), .load false 1 (.t 33), none⟩,
  ⟨(some 35), .len (.t 34), none⟩,
  ⟨(some 36), .mv (.c (.int .i64 0)), none⟩] [5, 36, 35, 2, 34]
def f13r9 : IC := .reg false [
  ⟨(some 37), .bin .lss (.t 36) (.t 35), none⟩] [37, 5, 36, 35, 2, 34]
def f13r10 : IC := .reg false [
  ⟨(some 38), .idx 1 (.t 34) (.t 36), none⟩,
  ⟨(some 39), .load false 1 (.t 38), none⟩,
  ⟨(some 7), .mv (.t 39), none⟩] [5, 7, 36, 35, 2, 34]
def f13r11 : IC := .reg false [
  ⟨(some 40), .mv (.t 5), none⟩,
  ⟨(some 41), .mv (.t 7), none⟩,
  ⟨(some 42), .build [(.int .i64 0), (.int .i64 0), (.int .i64 0), (.int .i64 0), (.int .i64 0), (.int .i64 0), (.int .i64 0), (.int .i64 0), (.str []), (.str []), .e0, .e0] [(0, 1, (.c (.int .i64 14))), (5, 1, (.t 41)), (6, 1, (.c (.int .i64 1)))], none⟩,
  ⟨(some 43), .mkrow 53 12 1 (.agg [(.int .i64 0), (.int .i64 0), (.int .i64 0), (.int .i64 0), (.int .i64 0), (.int .i64 0), (.int .i64 0), (.int .i64 0), (.str []), (.str []), .e0, .e0]) [(0, (.t 42))], none⟩,
  ⟨(some 44), .app 53 12 (.t 40) (.t 43), none⟩,
  ⟨(some 5), .mv (.t 44), none⟩] [36, 5, 35, 2, 34]
def f13r12 : IC := .reg false [
  ⟨(some 45), .bin .add (.t 36) (.c (.int .i64 1)), none⟩,
  ⟨(some 36), .mv (.t 45), none⟩] [5, 36, 35, 2, 34]
def f13b13 : IC := (.seq f13r9 (.seq (.cond (.t 37) .skip (.exit 0)) (.seq (.block 1 (.seq f13r10 f13r11)) f13r12)))
def f13r14 : IC := .reg false [
  ⟨(some 46), .fld 3 (.t 2), none⟩,
  ⟨(some 47), .load false 1 (.t 46), none⟩,
  ⟨(some 48), .len (.t 47), none⟩,
  ⟨(some 49), .mv (.c (.int .i64 0)), none⟩] [5, 49, 48, 47]
def f13r15 : IC := .reg false [
  ⟨(some 50), .bin .lss (.t 49) (.t 48), none⟩] [50, 5, 49, 48, 47]
def f13r16 : IC := .reg false [
  ⟨(some 51), .idx 1 (.t 47) (.t 49), none⟩,
  ⟨(some 52), .load false 1 (.t 51), none⟩,
  ⟨(some 9), .mv (.t 52), none⟩] [5, 9, 49, 48, 47]
def f13r17 : IC := .reg false [
  ⟨(some 53), .mv (.t 5), none⟩,
  ⟨(some 54), .mv (.t 9), none⟩,
  ⟨(some 55), .build [(.int .i64 0), (.int .i64 0), (.int .i64 0), (.int .i64 0), (.int .i64 0), (.int .i64 0), (.int .i64 0), (.int .i64 0), (.str []), (.str []), .e0, .e0] [(0, 1, (.c (.int .i64 14))), (5, 1, (.t 54))], none⟩,
  ⟨(some 56), .mkrow 53 12 1 (.agg [(.int .i64 0), (.int .i64 0), (.int .i64 0), (.int .i64 0), (.int .i64 0), (.int .i64 0), (.int .i64 0), (.int .i64 0), (.str []), (.str []), .e0, .e0]) [(0, (.t 55))], none⟩,
  ⟨(some 57), .app 53 12 (.t 53) (.t 56), none⟩,
  ⟨(some 5), .mv (.t 57), none⟩] [49, 5, 48, 47]
def f13r18 : IC := .reg false [
  ⟨(some 58), .bin .add (.t 49) (.c (.int .i64 1)), none⟩,
  ⟨(some 49), .mv (.t 58), none⟩] [5, 49, 48, 47]
def f13b19 : IC := (.seq f13r15 (.seq (.cond (.t 50) .skip (.exit 2)) (.seq (.block 3 (.seq f13r16 f13r17)) f13r18)))
def f13r20 : IC := .reg false [
  ⟨(some 59), .mv (.t 5), none⟩,
  ⟨(some 4), .mv (.t 59), none⟩] [4]
def f13body : IC := (.seq f13r0 (.seq f13r1 (.seq (.seq f13r2 (.cond (.t 11) f13r3 .skip)) (.seq (.seq f13r4 (.cond (.t 22) f13r5 .skip)) (.seq (.seq f13r6 (.cond (.t 28) f13r7 .skip)) (.seq (.seq f13r8 (.block 0 (.loop [5, 36, 35, 2, 34] f13b13))) (.seq (.seq f13r14 (.block 2 (.loop [5, 49, 48, 47] f13b19))) (.seq f13r20 .ret))))))))
def f13 : IFn := ⟨60, 2, [.tmp 4], f13body⟩
/- 14: jobshell/control.Parent -/
def f14r0 : IC := .reg false [
  ⟨(some 3), .box 34 5 (.t 0), none⟩,
  ⟨(some 6), .nilrow 53 12, none⟩] [3, 1, 2]
def f14r1 : IC := .reg false [
  ⟨(some 10), .load true 5 (.t 3), none⟩,
  ⟨(some 11), .mv (.t 1), none⟩,
  ⟨(some 12), .build [(.bool false), (.bool false), .e0, .e0, (.bool false), (.int .i64 0)] [(0, 5, (.t 10)), (5, 1, (.t 11))], none⟩,
  ⟨(some 7), .new 56 6 (.agg [(.bool false), (.bool false), .e0, .e0, (.bool false), (.int .i64 0)]), none⟩,
  ⟨none, .store 6 (.t 7) (.t 12), none⟩] [7, 2]
def f14r2 : IC := .reg false [
  ⟨(some 8), .nilrow 53 12, none⟩] [8, 7, 2]
def f14r3 : IC := .reg false [
  ⟨(some 13), .fld 0 (.t 7), none⟩,
  ⟨(some 14), .fld 0 (.t 13), none⟩,
  ⟨(some 15), .load false 1 (.t 14), none⟩] [15, 8, 7, 2]
def f14r4 : IC := .reg false [
  ⟨(some 16), .fld 5 (.t 7), none⟩,
  ⟨(some 17), .load false 1 (.t 16), none⟩,
  ⟨(some 9), .mv (.t 17), none⟩] [9, 8, 7, 2]
def f14r5 : IC := .reg false [
  ⟨(some 18), .mv (.t 9), none⟩,
  ⟨(some 19), .bin .eql (.t 18) (.c (.int .i64 0)), none⟩] [19, 9, 8, 7, 2]
def f14r6 : IC := .reg false [
  ⟨(some 20), .mv (.t 2), none⟩,
  ⟨(some 9), .mv (.t 20), none⟩] [8, 9, 7, 2]
def f14r7 : IC := .reg false [
  ⟨(some 21), .mv (.t 8), none⟩,
  ⟨(some 22), .mv (.t 2), none⟩,
  ⟨(some 23), .mv (.t 9), none⟩,
  ⟨(some 24), .build [(.int .i64 0), (.int .i64 0), (.int .i64 0), (.int .i64 0), (.int .i64 0), (.int .i64 0), (.int .i64 0), (.int .i64 0), (.str []), (.str []), .e0, .e0] [(0, 1, (.c (.int .i64 12))), (3, 1, (.t 22)), (4, 1, (.t 23))], none⟩,
  ⟨(some 25), .mkrow 53 12 1 (.agg [(.int .i64 0), (.int .i64 0), (.int .i64 0), (.int .i64 0), (.int .i64 0), (.int .i64 0), (.int .i64 0), (.int .i64 0), (.str []), (.str []), .e0, .e0]) [(0, (.t 24))], none⟩,
  ⟨(some 26), .app 53 12 (.t 21) (.t 25), none⟩,
  ⟨(some 8), .mv (.t 26), none⟩] [7, 8, 2]
def f14r8 : IC := .reg false [
  ⟨(some 27), .load true 6 (.t 7), none⟩,
  ⟨(some 28), .call (.c (.fn 24 [])) [(.t 27)], none⟩] [28, 8, 2]
def f14r9 : IC := .reg false [
  ⟨(some 29), .mv (.t 8), none⟩,
  ⟨(some 30), .mv (.t 2), none⟩,
  ⟨(some 31), .build [(.int .i64 0), (.int .i64 0), (.int .i64 0), (.int .i64 0), (.int .i64 0), (.int .i64 0), (.int .i64 0), (.int .i64 0), (.str []), (.str []), .e0, .e0] [(0, 1, (.c (.int .i64 13))), (3, 1, (.t 30))], none⟩,
  ⟨(some 32), .mkrow 53 12 1 (.agg [(.int .i64 0), (.int .i64 0), (.int .i64 0), (.int .i64 0), (.int .i64 0), (.int .i64 0), (.int .i64 0), (.int .i64 0), (.str []), (.str []), .e0, .e0]) [(0, (.t 31))], none⟩,
  ⟨(some 33), .app 53 12 (.t 29) (.t 32), none⟩,
  ⟨(some 8), .mv (.t 33), none⟩] [8]
def f14r10 : IC := .reg false [
  ⟨(some 34), .mv (.t 8), none⟩,
  ⟨(some 6), .mv (.t 34), none⟩] [6]
def f14body : IC := (.seq f14r0 (.seq f14r1 (.seq f14r2 (.seq (.seq f14r3 (.cond (.t 15) (.seq f14r4 (.seq (.seq f14r5 (.cond (.t 19) f14r6 .skip)) f14r7)) .skip)) (.seq (.seq f14r8 (.cond (.t 28) f14r9 .skip)) (.seq f14r10 .ret))))))
def f14 : IFn := ⟨35, 3, [.tmp 6], f14body⟩
/- 15: jobshell/jobshellref38.Parent -/
def f15r0 : IC := .reg false [
  ⟨(some 3), .box 34 5 (.t 0), none⟩,
  ⟨(some 6), .nilrow 53 12, none⟩] [3, 1, 2]
def f15r1 : IC := .reg false [
  ⟨(some 7), .nilrow 53 12, none⟩] [7, 3, 1, 2]
def f15r2 : IC := .reg false [
  ⟨(some 9), .fld 0 (.t 3), none⟩,
  ⟨(some 10), .load false 1 (.t 9), none⟩] [10, 7, 3, 1, 2]
def f15r3 : IC := .reg false [
  ⟨(some 11), .mv (.t 1), none⟩,
  ⟨(some 8), .mv (.t 11), none⟩] [8, 7, 3, 1, 2]
def f15r4 : IC := .reg false [
  ⟨(some 12), .mv (.t 8), none⟩,
  ⟨(some 13), .bin .eql (.t 12) (.c (.int .i64 0)), none⟩] [13, 8, 7, 3, 1, 2]
def f15r5 : IC := .reg false [
  ⟨(some 14), .mv (.t 2), none⟩,
  ⟨(some 8), .mv (.t 14), none⟩] [7, 8, 3, 1, 2]
def f15r6 : IC := .reg false [
  ⟨(some 15), .mv (.t 7), none⟩,
  ⟨(some 16), .mv (.t 2), none⟩,
  ⟨(some 17), .mv (.t 8), none⟩,
  ⟨(some 18), .build [(.int .i64 0), (.int .i64 0), (.int .i64 0), (.int .i64 0), (.int .i64 0), (.int .i64 0), (.int .i64 0), (.int .i64 0), (.str []), (.str []), .e0, .e0] [(0, 1, (.c (.int .i64 12))), (3, 1, (.t 16)), (4, 1, (.t 17))], none⟩,
  ⟨(some 19), .mkrow 53 12 1 (.agg [(.int .i64 0), (.int .i64 0), (.int .i64 0), (.int .i64 0), (.int .i64 0), (.int .i64 0), (.int .i64 0), (.int .i64 0), (.str []), (.str []), .e0, .e0]) [(0, (.t 18))], none⟩,
  ⟨(some 20), .app 53 12 (.t 15) (.t 19), none⟩,
  ⟨(some 7), .mv (.t 20), none⟩] [3, 1, 7, 2]
def f15r7 : IC := .reg false [
  ⟨(some 21), .fld 1 (.t 3), none⟩,
  ⟨(some 22), .load false 1 (.t 21), none⟩,
  ⟨(some 23), .mv (.t 22), none⟩,
  ⟨(some 24), .mv (.t 1), (some (23, true))⟩,
  ⟨(some 25), .bin .eql (.t 24) (.c (.int .i64 0)), (some (23, true))⟩,
  ⟨(some 26), .pick (.t 23) (.t 25) (.c (.bool false)), none⟩] [26, 7, 2]
def f15r8 : IC := .reg false [
  ⟨(some 27), .mv (.t 7), none⟩,
  ⟨(some 28), .mv (.t 2), none⟩,
  ⟨(some 29), .build [(.int .i64 0), (.int .i64 0), (.int .i64 0), (.int .i64 0), (.int .i64 0), (.int .i64 0), (.int .i64 0), (.int .i64 0), (.str []), (.str []), .e0, .e0] [(0, 1, (.c (.int .i64 13))), (3, 1, (.t 28))], none⟩,
  ⟨(some 30), .mkrow 53 12 1 (.agg [(.int .i64 0), (.int .i64 0), (.int .i64 0), (.int .i64 0), (.int .i64 0), (.int .i64 0), (.int .i64 0), (.int .i64 0), (.str []), (.str []), .e0, .e0]) [(0, (.t 29))], none⟩,
  ⟨(some 31), .app 53 12 (.t 27) (.t 30), none⟩,
  ⟨(some 7), .mv (.t 31), none⟩] [7]
def f15r9 : IC := .reg false [
  ⟨(some 32), .mv (.t 7), none⟩,
  ⟨(some 6), .mv (.t 32), none⟩] [6]
def f15body : IC := (.seq f15r0 (.seq f15r1 (.seq (.seq f15r2 (.cond (.t 10) (.seq f15r3 (.seq (.seq f15r4 (.cond (.t 13) f15r5 .skip)) f15r6)) .skip)) (.seq (.seq f15r7 (.cond (.t 26) f15r8 .skip)) (.seq f15r9 .ret)))))
def f15 : IFn := ⟨33, 3, [.tmp 6], f15body⟩
/- 16: jobshell/control.Front -/
def f16r0 : IC := .reg false [
  ⟨(some 2), .box 40 7 (.t 0), none⟩,
  ⟨(some 4), .nilrow 53 12, none⟩] [1, 2]
def f16r1 : IC := .reg false [
  ⟨(some 5), .nilrow 53 12, none⟩] [1, 5, 2]
def f16r2 : IC := .reg false [
  ⟨(some 6), .fld 1 (.t 2), none⟩,
  ⟨(some 7), .load false 1 (.t 6), none⟩,
  ⟨(some 8), .mv (.t 1), none⟩,
  ⟨(some 9), .bin .neq (.t 7) (.t 8), none⟩] [9, 5, 2]
def f16r3 : IC := .reg false [
  ⟨(some 10), .mv (.t 5), none⟩,
  ⟨(some 11), .fld 1 (.t 2), none⟩,
  ⟨(some 12), .load false 1 (.t 11), none⟩,
  ⟨(some 13), .build [(.int .i64 0), (.int .i64 0), (.int .i64 0), (.int .i64 0), (.int .i64 0), (.int .i64 0), (.int .i64 0), (.int .i64 0), (.str []), (.str []), .e0, .e0] [(0, 1, (.c (.int .i64 13))), (3, 1, (.t 12))], none⟩,
  ⟨(some 14), .mkrow 53 12 1 (.agg [(.int .i64 0), (.int .i64 0), (.int .i64 0), (.int .i64 0), (.int .i64 0), (.int .i64 0), (.int .i64 0), (.int .i64 0), (.str []), (.str []), .e0, .e0]) [(0, (.t 13))], none⟩,
  ⟨(some 15), .app 53 12 (.t 10) (.t 14), none⟩,
  ⟨(some 5), .mv (.t 15), none⟩] [5, 2]
def f16r4 : IC := .reg false [
  ⟨(some 16), .mv (.t 5), none⟩,
  ⟨(some 17), .load true 7 (.t 2), none⟩,
  ⟨(some 18), .call (.c (.fn 18 [])) [(.t 17)], none⟩,
  ⟨(some 19), .app 53 12 (.t 16) (.t 18), none⟩,
  ⟨(some 4), .mv (.t 19), none⟩] [4]
def f16body : IC := (.seq f16r0 (.seq f16r1 (.seq (.seq f16r2 (.cond (.t 9) f16r3 .skip)) (.seq f16r4 .ret))))
def f16 : IFn := ⟨20, 2, [.tmp 4], f16body⟩
/- 17: jobshell/jobshellref38.Front -/
def f17r0 : IC := .reg false [
  ⟨(some 2), .box 40 7 (.t 0), none⟩,
  ⟨(some 4), .nilrow 53 12, none⟩] [1, 2]
def f17r1 : IC := .reg false [
  ⟨(some 5), .nilrow 53 12, none⟩] [1, 5, 2]
def f17r2 : IC := .reg false [
  ⟨(some 6), .fld 1 (.t 2), none⟩,
  ⟨(some 7), .load false 1 (.t 6), none⟩,
  ⟨(some 8), .mv (.t 1), none⟩,
  ⟨(some 9), .bin .neq (.t 7) (.t 8), none⟩] [9, 5, 2]
def f17r3 : IC := .reg false [
  ⟨(some 10), .mv (.t 5), none⟩,
  ⟨(some 11), .fld 1 (.t 2), none⟩,
  ⟨(some 12), .load false 1 (.t 11), none⟩,
  ⟨(some 13), .build [(.int .i64 0), (.int .i64 0), (.int .i64 0), (.int .i64 0), (.int .i64 0), (.int .i64 0), (.int .i64 0), (.int .i64 0), (.str []), (.str []), .e0, .e0] [(0, 1, (.c (.int .i64 13))), (3, 1, (.t 12))], none⟩,
  ⟨(some 14), .mkrow 53 12 1 (.agg [(.int .i64 0), (.int .i64 0), (.int .i64 0), (.int .i64 0), (.int .i64 0), (.int .i64 0), (.int .i64 0), (.int .i64 0), (.str []), (.str []), .e0, .e0]) [(0, (.t 13))], none⟩,
  ⟨(some 15), .app 53 12 (.t 10) (.t 14), none⟩,
  ⟨(some 5), .mv (.t 15), none⟩] [5, 2]
def f17r4 : IC := .reg false [
  ⟨(some 16), .mv (.t 5), none⟩,
  ⟨(some 17), .load true 7 (.t 2), none⟩,
  ⟨(some 18), .call (.c (.fn 19 [])) [(.t 17)], none⟩,
  ⟨(some 19), .app 53 12 (.t 16) (.t 18), none⟩,
  ⟨(some 4), .mv (.t 19), none⟩] [4]
def f17body : IC := (.seq f17r0 (.seq f17r1 (.seq (.seq f17r2 (.cond (.t 9) f17r3 .skip)) (.seq f17r4 .ret))))
def f17 : IFn := ⟨20, 2, [.tmp 4], f17body⟩
/- 18: jobshell/control.Back -/
def f18r0 : IC := .reg false [
  ⟨(some 1), .box 40 7 (.t 0), none⟩,
  ⟨(some 2), .nilrow 53 12, none⟩] [1]
def f18r1 : IC := .reg false [
  ⟨(some 7), .fld 4 (.t 1), none⟩,
  ⟨(some 8), .load false 1 (.t 7), none⟩,
  ⟨(some 9), .len (.t 8), none⟩,
  ⟨(some 10), .mv (.c (.int .i64 0)), none⟩] [9, 8, 10, 1]
def f18r2 : IC := .reg false [
  ⟨(some 11), .bin .lss (.t 10) (.t 9), none⟩] [11, 8, 9, 10, 1]
def f18r3 : IC := .reg false [
  ⟨(some 12), .idx 1 (.t 8) (.t 10), none⟩,
  ⟨(some 13), .load false 1 (.t 12), none⟩,
  ⟨(some 4), .mv (.t 13), none⟩] [4, 8, 9, 10, 1]
def f18r4 : IC := .reg false [
  ⟨(some 15), .mv (.t 4), none⟩,
  ⟨(some 16), .call (.c (.fn 25 [])) [(.t 15)], none⟩,
  ⟨(some 14), .mv (.t 16), none⟩,
  ⟨(some 17), .ext (.t 14) 0, none⟩,
  ⟨(some 18), .ext (.t 14) 1, none⟩,
  ⟨(some 5), .mv (.t 17), none⟩,
  ⟨(some 6), .mv (.t 18), none⟩] [5, 8, 9, 10, 1]
def f18r5 : IC := .reg false [
  ⟨(some 19), .mv (.t 5), none⟩,
  ⟨(some 20), .bin .eql (.t 19) (.c (.int .i64 2)), none⟩] [20, 8, 9, 10, 1]
def f18r6 : IC := .reg false [
  ⟨(some 21), .fld 1 (.t 1), none⟩,
  ⟨(some 22), .load false 1 (.t 21), none⟩,
  ⟨(some 23), .un .neg (.t 22), none⟩,
  ⟨(some 24), .build [(.int .i64 0), (.int .i64 0), (.int .i64 0), (.int .i64 0), (.int .i64 0), (.int .i64 0), (.int .i64 0), (.int .i64 0), (.str []), (.str []), .e0, .e0] [(0, 1, (.c (.int .i64 11))), (3, 1, (.t 23)), (5, 1, (.c (.int .i64 18)))], none⟩,
  ⟨(some 25), .mkrow 53 12 1 (.agg [(.int .i64 0), (.int .i64 0), (.int .i64 0), (.int .i64 0), (.int .i64 0), (.int .i64 0), (.int .i64 0), (.int .i64 0), (.str []), (.str []), .e0, .e0]) [(0, (.t 24))], none⟩,
  ⟨(some 2), .mv (.t 25), none⟩] [2]
def f18r7 : IC := .reg false [
  ⟨(some 26), .bin .add (.t 10) (.c (.int .i64 1)), none⟩,
  ⟨(some 10), .mv (.t 26), none⟩] [9, 8, 10, 1]
def f18b8 : IC := (.seq f18r2 (.seq (.cond (.t 11) .skip (.exit 0)) (.seq (.block 1 (.seq f18r3 (.seq f18r4 (.seq f18r5 (.cond (.t 20) (.seq f18r6 .ret) .skip))))) f18r7)))
def f18r9 : IC := .reg false [
  ⟨(some 2), .nilrow 53 12, none⟩] [2]
def f18body : IC := (.seq f18r0 (.seq (.seq f18r1 (.block 0 (.loop [9, 8, 10, 1] f18b8))) (.seq f18r9 .ret)))
def f18 : IFn := ⟨27, 1, [.tmp 2], f18body⟩
/- 19: jobshell/jobshellref38.Back -/
def f19r0 : IC := .reg false [
  ⟨(some 1), .box 40 7 (.t 0), none⟩,
  ⟨(some 2), .nilrow 53 12, none⟩] [1]
def f19r1 : IC := .reg false [
  ⟨(some 3), .load true 7 (.t 1), none⟩,
  ⟨(some 4), .call (.c (.fn 26 [])) [(.t 3)], none⟩,
  ⟨(some 5), .un .not (.t 4), none⟩] [5, 1]
def f19r2 : IC := .reg false [
  ⟨(some 2), .nilrow 53 12, none⟩] [2]
def f19r3 : IC := .reg false [
  ⟨(some 6), .fld 1 (.t 1), none⟩,
  ⟨(some 7), .load false 1 (.t 6), none⟩,
  ⟨(some 8), .un .neg (.t 7), none⟩,
  ⟨(some 9), .build [(.int .i64 0), (.int .i64 0), (.int .i64 0), (.int .i64 0), (.int .i64 0), (.int .i64 0), (.int .i64 0), (.int .i64 0), (.str []), (.str []), .e0, .e0] [(0, 1, (.c (.int .i64 11))), (3, 1, (.t 8)), (5, 1, (.c (.int .i64 18)))], none⟩,
  ⟨(some 10), .mkrow 53 12 1 (.agg [(.int .i64 0), (.int .i64 0), (.int .i64 0), (.int .i64 0), (.int .i64 0), (.int .i64 0), (.int .i64 0), (.int .i64 0), (.str []), (.str []), .e0, .e0]) [(0, (.t 9))], none⟩,
  ⟨(some 2), .mv (.t 10), none⟩] [2]
def f19body : IC := (.seq f19r0 (.seq (.seq f19r1 (.cond (.t 5) (.seq f19r2 .ret) .skip)) (.seq f19r3 .ret)))
def f19 : IFn := ⟨11, 1, [.tmp 2], f19body⟩
/- 20: jobshell/jobshellref38.Ints -/
def f20r0 : IC := .reg false [
  ⟨(some 4), .mv (.c (.bool false)), none⟩] [1, 0]
def f20r1 : IC := .reg false [
  ⟨(some 6), .mv (.t 0), none⟩,
  ⟨(some 7), .len (.t 6), none⟩,
  ⟨(some 8), .mv (.t 1), none⟩,
  ⟨(some 9), .len (.t 8), none⟩,
  ⟨(some 10), .bin .neq (.t 7) (.t 9), none⟩] [10, 1, 0]
def f20r2 : IC := .reg false [
  ⟨(some 4), .mv (.c (.bool false)), none⟩] [4]
def f20r3 : IC := .reg false [
  ⟨(some 11), .mv (.t 0), none⟩,
  ⟨(some 12), .len (.t 11), none⟩,
  ⟨(some 13), .mv (.c (.int .i64 0)), none⟩] [12, 0, 1, 13]
def f20r4 : IC := .reg false [
  ⟨(some 14), .bin .lss (.t 13) (.t 12), none⟩] [14, 1, 0, 12, 13]
def f20r5 : IC := .reg false [
  ⟨(some 15), .mv (.t 13), none⟩,
  ⟨(some 5), .mv (.t 15), none⟩] [5, 1, 0, 12, 13]
def f20r6 : IC := .reg true [
  ⟨(some 16), .mv (.t 0), none⟩,
  ⟨(some 17), .mv (.t 5), none⟩,
  ⟨(some 18), .idx 1 (.t 16) (.t 17), none⟩,
  ⟨(some 19), .load false 1 (.t 18), none⟩,
  ⟨(some 20), .mv (.t 1), none⟩,
  ⟨(some 21), .mv (.t 5), none⟩,
  ⟨(some 22), .idx 1 (.t 20) (.t 21), none⟩,
  ⟨(some 23), .load false 1 (.t 22), none⟩,
  ⟨(some 24), .bin .neq (.t 19) (.t 23), none⟩] [24, 1, 0, 12, 13]
def f20r7 : IC := .reg false [
  ⟨(some 4), .mv (.c (.bool false)), none⟩] [4]
def f20r8 : IC := .reg false [
  ⟨(some 25), .bin .add (.t 13) (.c (.int .i64 1)), none⟩,
  ⟨(some 13), .mv (.t 25), none⟩] [12, 0, 1, 13]
def f20b9 : IC := (.seq f20r4 (.seq (.cond (.t 14) .skip (.exit 0)) (.seq (.block 1 (.seq f20r5 (.seq f20r6 (.cond (.t 24) (.seq f20r7 .ret) .skip)))) f20r8)))
def f20r10 : IC := .reg false [
  ⟨(some 4), .mv (.c (.bool true)), none⟩] [4]
def f20body : IC := (.seq f20r0 (.seq (.seq f20r1 (.cond (.t 10) (.seq f20r2 .ret) .skip)) (.seq (.seq f20r3 (.block 0 (.loop [12, 0, 1, 13] f20b9))) (.seq f20r10 .ret))))
def f20 : IFn := ⟨26, 2, [.tmp 4], f20body⟩
/- 21: slices.Contains[[]int,int] -/
def f21r0 : IC := .reg false [
  ⟨(some 4), .mv (.c (.bool false)), none⟩] [0, 1]
def f21r1 : IC := .reg false [
  ⟨(some 5), .mv (.t 0), none⟩,
  ⟨(some 6), .mv (.t 1), none⟩,
  ⟨(some 7), .call (.c (.fn 27 [])) [(.t 5), (.t 6)], none⟩,
  ⟨(some 8), .bin .geq (.t 7) (.c (.int .i64 0)), none⟩,
  ⟨(some 4), .mv (.t 8), none⟩] [4]
def f21body : IC := (.seq f21r0 (.seq f21r1 .ret))
def f21 : IFn := ⟨9, 2, [.tmp 4], f21body⟩
/- 22: jobshell/jobshellref38.Own -/
def f22r0 : IC := .reg false [
  ⟨(some 0), .nilrow 3 1, none⟩] []
def f22r1 : IC := .reg false [
  ⟨(some 1), .mkrow 3 1 6 (.int .i64 0) [(0, (.c (.int .i64 2))), (1, (.c (.int .i64 3))), (2, (.c (.int .i64 4))), (3, (.c (.int .i64 5))), (4, (.c (.int .i64 15))), (5, (.c (.int .i64 20)))], none⟩,
  ⟨(some 0), .mv (.t 1), none⟩] [0]
def f22body : IC := (.seq f22r0 (.seq f22r1 .ret))
def f22 : IFn := ⟨2, 0, [.tmp 0], f22body⟩
/- 23: jobshell/jobshellref35.SameReq -/
def f23r0 : IC := .reg false [
  ⟨(some 2), .box 53 12 (.t 0), none⟩,
  ⟨(some 3), .box 53 12 (.t 1), none⟩,
  ⟨(some 4), .mv (.c (.bool false)), none⟩] [2, 3]
def f23r1 : IC := .reg false [
  ⟨(some 5), .fld 0 (.t 2), none⟩,
  ⟨(some 6), .load false 1 (.t 5), none⟩,
  ⟨(some 7), .fld 0 (.t 3), none⟩,
  ⟨(some 8), .load false 1 (.t 7), none⟩,
  ⟨(some 9), .bin .eql (.t 6) (.t 8), none⟩,
  ⟨(some 10), .mv (.t 9), none⟩,
  ⟨(some 11), .fld 1 (.t 2), (some (10, true))⟩,
  ⟨(some 12), .load false 1 (.t 11), (some (10, true))⟩,
  ⟨(some 13), .fld 1 (.t 3), (some (10, true))⟩,
  ⟨(some 14), .load false 1 (.t 13), (some (10, true))⟩,
  ⟨(some 15), .bin .eql (.t 12) (.t 14), (some (10, true))⟩,
  ⟨(some 16), .pick (.t 10) (.t 15) (.c (.bool false)), none⟩,
  ⟨(some 17), .mv (.t 16), none⟩,
  ⟨(some 18), .fld 2 (.t 2), (some (17, true))⟩,
  ⟨(some 19), .load false 1 (.t 18), (some (17, true))⟩,
  ⟨(some 20), .fld 2 (.t 3), (some (17, true))⟩,
  ⟨(some 21), .load false 1 (.t 20), (some (17, true))⟩,
  ⟨(some 22), .bin .eql (.t 19) (.t 21), (some (17, true))⟩,
  ⟨(some 23), .pick (.t 17) (.t 22) (.c (.bool false)), none⟩,
  ⟨(some 24), .mv (.t 23), none⟩,
  ⟨(some 25), .fld 3 (.t 2), (some (24, true))⟩,
  ⟨(some 26), .load false 1 (.t 25), (some (24, true))⟩,
  ⟨(some 27), .fld 3 (.t 3), (some (24, true))⟩,
  ⟨(some 28), .load false 1 (.t 27), (some (24, true))⟩,
  ⟨(some 29), .bin .eql (.t 26) (.t 28), (some (24, true))⟩,
  ⟨(some 30), .pick (.t 24) (.t 29) (.c (.bool false)), none⟩,
  ⟨(some 31), .mv (.t 30), none⟩,
  ⟨(some 32), .fld 4 (.t 2), (some (31, true))⟩,
  ⟨(some 33), .load false 1 (.t 32), (some (31, true))⟩,
  ⟨(some 34), .fld 4 (.t 3), (some (31, true))⟩,
  ⟨(some 35), .load false 1 (.t 34), (some (31, true))⟩,
  ⟨(some 36), .bin .eql (.t 33) (.t 35), (some (31, true))⟩,
  ⟨(some 37), .pick (.t 31) (.t 36) (.c (.bool false)), none⟩,
  ⟨(some 38), .mv (.t 37), none⟩,
  ⟨(some 39), .fld 5 (.t 2), (some (38, true))⟩,
  ⟨(some 40), .load false 1 (.t 39), (some (38, true))⟩,
  ⟨(some 41), .fld 5 (.t 3), (some (38, true))⟩,
  ⟨(some 42), .load false 1 (.t 41), (some (38, true))⟩,
  ⟨(some 43), .bin .eql (.t 40) (.t 42), (some (38, true))⟩,
  ⟨(some 44), .pick (.t 38) (.t 43) (.c (.bool false)), none⟩,
  ⟨(some 45), .mv (.t 44), none⟩,
  ⟨(some 46), .fld 6 (.t 2), (some (45, true))⟩,
  ⟨(some 47), .load false 1 (.t 46), (some (45, true))⟩,
  ⟨(some 48), .fld 6 (.t 3), (some (45, true))⟩,
  ⟨(some 49), .load false 1 (.t 48), (some (45, true))⟩,
  ⟨(some 50), .bin .eql (.t 47) (.t 49), (some (45, true))⟩,
  ⟨(some 51), .pick (.t 45) (.t 50) (.c (.bool false)), none⟩,
  ⟨(some 52), .mv (.t 51), none⟩,
  ⟨(some 53), .fld 7 (.t 2), (some (52, true))⟩,
  ⟨(some 54), .load false 1 (.t 53), (some (52, true))⟩,
  ⟨(some 55), .fld 7 (.t 3), (some (52, true))⟩,
  ⟨(some 56), .load false 1 (.t 55), (some (52, true))⟩,
  ⟨(some 57), .bin .eql (.t 54) (.t 56), (some (52, true))⟩,
  ⟨(some 58), .pick (.t 52) (.t 57) (.c (.bool false)), none⟩,
  ⟨(some 59), .mv (.t 58), none⟩,
  ⟨(some 60), .fld 8 (.t 2), (some (59, true))⟩,
  ⟨(some 61), .load false 1 (.t 60), (some (59, true))⟩,
  ⟨(some 62), .fld 8 (.t 3), (some (59, true))⟩,
  ⟨(some 63), .load false 1 (.t 62), (some (59, true))⟩,
  ⟨(some 64), .bin .eql (.t 61) (.t 63), (some (59, true))⟩,
  ⟨(some 65), .pick (.t 59) (.t 64) (.c (.bool false)), none⟩,
  ⟨(some 66), .mv (.t 65), none⟩,
  ⟨(some 67), .fld 9 (.t 2), (some (66, true))⟩,
  ⟨(some 68), .load false 1 (.t 67), (some (66, true))⟩,
  ⟨(some 69), .fld 9 (.t 3), (some (66, true))⟩,
  ⟨(some 70), .load false 1 (.t 69), (some (66, true))⟩,
  ⟨(some 71), .bin .eql (.t 68) (.t 70), (some (66, true))⟩,
  ⟨(some 72), .pick (.t 66) (.t 71) (.c (.bool false)), none⟩,
  ⟨(some 73), .mv (.t 72), none⟩,
  ⟨(some 74), .fld 10 (.t 2), (some (73, true))⟩,
  ⟨(some 75), .load false 1 (.t 74), (some (73, true))⟩,
  ⟨(some 76), .fld 10 (.t 3), (some (73, true))⟩,
  ⟨(some 77), .load false 1 (.t 76), (some (73, true))⟩,
  ⟨(some 78), .call (.c (.fn 28 [])) [(.t 75), (.t 77)], (some (73, true))⟩,
  ⟨(some 79), .pick (.t 73) (.t 78) (.c (.bool false)), none⟩,
  ⟨(some 80), .mv (.t 79), none⟩,
  ⟨(some 81), .fld 11 (.t 2), (some (80, true))⟩,
  ⟨(some 82), .load false 1 (.t 81), (some (80, true))⟩,
  ⟨(some 83), .fld 11 (.t 3), (some (80, true))⟩,
  ⟨(some 84), .load false 1 (.t 83), (some (80, true))⟩,
  ⟨(some 85), .call (.c (.fn 28 [])) [(.t 82), (.t 84)], (some (80, true))⟩,
  ⟨(some 86), .pick (.t 80) (.t 85) (.c (.bool false)), none⟩,
  ⟨(some 4), .mv (.t 86), none⟩] [4]
def f23body : IC := (.seq f23r0 (.seq f23r1 .ret))
def f23 : IFn := ⟨87, 2, [.tmp 4], f23body⟩
/- 24: (jobshell/control.plan).leads -/
def f24r0 : IC := .reg false [
  ⟨(some 1), .box 56 6 (.t 0), none⟩,
  ⟨(some 2), .mv (.c (.bool false)), none⟩] [1]
def f24r1 : IC := .reg false [
  ⟨(some 3), .fld 0 (.t 1), none⟩,
  ⟨(some 4), .fld 1 (.t 3), none⟩,
  ⟨(some 5), .load false 1 (.t 4), none⟩,
  ⟨(some 6), .mv (.t 5), none⟩,
  ⟨(some 7), .fld 5 (.t 1), (some (6, true))⟩,
  ⟨(some 8), .load false 1 (.t 7), (some (6, true))⟩,
  ⟨(some 9), .bin .eql (.t 8) (.c (.int .i64 0)), (some (6, true))⟩,
  ⟨(some 10), .pick (.t 6) (.t 9) (.c (.bool false)), none⟩,
  ⟨(some 2), .mv (.t 10), none⟩] [2]
def f24body : IC := (.seq f24r0 (.seq f24r1 .ret))
def f24 : IFn := ⟨11, 1, [.tmp 2], f24body⟩
/- 25: jobshell/status.Kind -/
def f25r0 : IC := .reg false [
  ⟨(some 2), .mv (.c (.int .i64 0)), none⟩,
  ⟨(some 3), .mv (.c (.int .i64 0)), none⟩] [0]
def f25r1 : IC := .reg false [
  ⟨(some 7), .mv (.t 0), none⟩,
  ⟨(some 8), .bin .lss (.t 7) (.c (.int .i64 0)), none⟩] [8, 0]
def f25r2 : IC := .reg false [
  ⟨(some 2), .mv (.c (.int .i64 (-1))), none⟩,
  ⟨(some 3), .mv (.c (.int .i64 0)), none⟩] [2, 3]
def f25r3 : IC := .reg false [
  ⟨(some 9), .mv (.t 0), none⟩,
  ⟨(some 10), .bin .quo (.t 9) (.c (.int .i64 256)), none⟩,
  ⟨(some 11), .mv (.t 0), none⟩,
  ⟨(some 12), .bin .rem (.t 11) (.c (.int .i64 256)), none⟩,
  ⟨(some 4), .mv (.t 10), none⟩,
  ⟨(some 5), .mv (.t 12), none⟩] [5, 4]
def f25r4 : IC := .reg false [
  ⟨(some 6), .mv (.c (.bool false)), none⟩] [6, 5, 4]
def f25r5 : IC := .reg false [
  ⟨(some 13), .mv (.t 4), none⟩] [13, 6, 5, 4]
def f25r6 : IC := .reg false [
  ⟨(some 15), .bin .eql (.t 13) (.c (.int .i64 0)), none⟩,
  ⟨(some 14), .mv (.t 15), none⟩] [14, 13, 6, 5, 4]
def f25r7 : IC := .reg false [
  ⟨(some 6), .mv (.c (.bool true)), none⟩] [6, 5, 4]
def f25r8 : IC := .reg false [
  ⟨(some 17), .bin .eql (.t 13) (.c (.int .i64 1)), none⟩,
  ⟨(some 16), .mv (.t 17), none⟩] [16, 6, 13, 5, 4]
def f25r9 : IC := .reg false [
  ⟨(some 18), .bin .eql (.t 13) (.c (.int .i64 2)), none⟩,
  ⟨(some 16), .mv (.t 18), none⟩] [16, 6, 13, 5, 4]
def f25r10 : IC := .reg false [
  ⟨(some 19), .mv (.t 5), none⟩,
  ⟨(some 20), .bin .geq (.t 19) (.c (.int .i64 1)), none⟩,
  ⟨(some 21), .mv (.t 20), none⟩,
  ⟨(some 22), .mv (.t 5), (some (21, true))⟩,
  ⟨(some 23), .bin .leq (.t 22) (.c (.int .i64 20)), (some (21, true))⟩,
  ⟨(some 24), .pick (.t 21) (.t 23) (.c (.bool false)), none⟩,
  ⟨(some 6), .mv (.t 24), none⟩] [6, 5, 4]
def f25r11 : IC := .reg false [
  ⟨(some 26), .bin .eql (.t 13) (.c (.int .i64 3)), none⟩,
  ⟨(some 25), .mv (.t 26), none⟩] [25, 6, 5, 4]
def f25r12 : IC := .reg false [
  ⟨(some 27), .mv (.t 5), none⟩,
  ⟨(some 28), .bin .eql (.t 27) (.c (.int .i64 0)), none⟩,
  ⟨(some 6), .mv (.t 28), none⟩] [6, 5, 4]
def f25r13 : IC := .reg false [
  ⟨(some 29), .mv (.t 6), none⟩,
  ⟨(some 30), .un .not (.t 29), none⟩] [30, 5, 4]
def f25r14 : IC := .reg false [
  ⟨(some 2), .mv (.c (.int .i64 (-1))), none⟩,
  ⟨(some 3), .mv (.c (.int .i64 0)), none⟩] [2, 3]
def f25r15 : IC := .reg false [
  ⟨(some 31), .mv (.t 4), none⟩,
  ⟨(some 32), .mv (.t 5), none⟩,
  ⟨(some 2), .mv (.t 31), none⟩,
  ⟨(some 3), .mv (.t 32), none⟩] [2, 3]
def f25body : IC := (.seq f25r0 (.seq (.seq f25r1 (.cond (.t 8) (.seq f25r2 .ret) .skip)) (.seq f25r3 (.seq f25r4 (.seq (.seq f25r5 (.block 0 (.seq f25r6 (.cond (.t 14) f25r7 (.seq (.seq f25r8 (.cond (.t 16) .skip f25r9)) (.cond (.t 16) f25r10 (.seq f25r11 (.cond (.t 25) f25r12 .skip)))))))) (.seq (.seq f25r13 (.cond (.t 30) (.seq f25r14 .ret) .skip)) (.seq f25r15 .ret)))))))
def f25 : IFn := ⟨33, 1, [.tmp 2, .tmp 3], f25body⟩
/- 26: jobshell/jobshellref38.stopped -/
def f26r0 : IC := .reg false [
  ⟨(some 1), .box 40 7 (.t 0), none⟩,
  ⟨(some 2), .mv (.c (.bool false)), none⟩] [1]
def f26r1 : IC := .reg false [
  ⟨(some 7), .fld 4 (.t 1), none⟩,
  ⟨(some 8), .load false 1 (.t 7), none⟩,
  ⟨(some 9), .len (.t 8), none⟩,
  ⟨(some 10), .mv (.c (.int .i64 0)), none⟩] [9, 8, 10]
def f26r2 : IC := .reg false [
  ⟨(some 11), .bin .lss (.t 10) (.t 9), none⟩] [11, 8, 9, 10]
def f26r3 : IC := .reg false [
  ⟨(some 12), .idx 1 (.t 8) (.t 10), none⟩,
  ⟨(some 13), .load false 1 (.t 12), none⟩,
  ⟨(some 4), .mv (.t 13), none⟩] [4, 8, 9, 10]
def f26r4 : IC := .reg false [
  ⟨(some 14), .mv (.t 4), none⟩,
  ⟨(some 15), .bin .geq (.t 14) (.c (.int .i64 0)), none⟩] [15, 4, 8, 9, 10]
def f26r5 : IC := .reg false [
  ⟨(some 17), .mv (.t 4), none⟩,
  ⟨(some 18), .call (.c (.fn 29 [])) [(.t 17)], none⟩,
  ⟨(some 16), .mv (.t 18), none⟩,
  ⟨(some 19), .ext (.t 16) 0, none⟩,
  ⟨(some 20), .ext (.t 16) 1, none⟩,
  ⟨(some 5), .mv (.t 19), none⟩,
  ⟨(some 6), .mv (.t 20), none⟩] [5, 8, 9, 10]
def f26r6 : IC := .reg false [
  ⟨(some 21), .mv (.t 5), none⟩,
  ⟨(some 22), .bin .eql (.t 21) (.c (.int .i64 2)), none⟩] [22, 8, 9, 10]
def f26r7 : IC := .reg false [
  ⟨(some 2), .mv (.c (.bool true)), none⟩] [2]
def f26r8 : IC := .reg false [
  ⟨(some 23), .bin .add (.t 10) (.c (.int .i64 1)), none⟩,
  ⟨(some 10), .mv (.t 23), none⟩] [9, 8, 10]
def f26b9 : IC := (.seq f26r2 (.seq (.cond (.t 11) .skip (.exit 0)) (.seq (.block 1 (.seq f26r3 (.seq f26r4 (.cond (.t 15) (.seq f26r5 (.seq f26r6 (.cond (.t 22) (.seq f26r7 .ret) .skip))) .skip)))) f26r8)))
def f26r10 : IC := .reg false [
  ⟨(some 2), .mv (.c (.bool false)), none⟩] [2]
def f26body : IC := (.seq f26r0 (.seq (.seq f26r1 (.block 0 (.loop [9, 8, 10] f26b9))) (.seq f26r10 .ret)))
def f26 : IFn := ⟨24, 1, [.tmp 2], f26body⟩
/- 27: slices.Index[[]int,int] -/
def f27r0 : IC := .reg false [
  ⟨(some 4), .mv (.c (.int .i64 0)), none⟩] [1, 0]
def f27r1 : IC := .reg false [
  ⟨(some 6), .mv (.t 0), none⟩,
  ⟨(some 7), .len (.t 6), none⟩,
  ⟨(some 8), .mv (.c (.int .i64 0)), none⟩] [7, 1, 0, 8]
def f27r2 : IC := .reg false [
  ⟨(some 9), .bin .lss (.t 8) (.t 7), none⟩] [9, 0, 1, 7, 8]
def f27r3 : IC := .reg false [
  ⟨(some 10), .mv (.t 8), none⟩,
  ⟨(some 5), .mv (.t 10), none⟩] [0, 1, 7, 8, 5]
def f27r4 : IC := .reg false [
  ⟨(some 11), .mv (.t 1), none⟩,
  ⟨(some 12), .mv (.t 0), none⟩,
  ⟨(some 13), .mv (.t 5), none⟩,
  ⟨(some 14), .idx 1 (.t 12) (.t 13), none⟩,
  ⟨(some 15), .load false 1 (.t 14), none⟩,
  ⟨(some 16), .bin .eql (.t 11) (.t 15), none⟩] [16, 0, 1, 7, 8, 5]
def f27r5 : IC := .reg false [
  ⟨(some 17), .mv (.t 5), none⟩,
  ⟨(some 4), .mv (.t 17), none⟩] [4]
def f27r6 : IC := .reg false [
  ⟨(some 18), .bin .add (.t 8) (.c (.int .i64 1)), none⟩,
  ⟨(some 8), .mv (.t 18), none⟩] [7, 1, 0, 8]
def f27b7 : IC := (.seq f27r2 (.seq (.cond (.t 9) .skip (.exit 0)) (.seq (.block 1 (.seq f27r3 (.seq f27r4 (.cond (.t 16) (.seq f27r5 .ret) .skip)))) f27r6)))
def f27r8 : IC := .reg false [
  ⟨(some 4), .mv (.c (.int .i64 (-1))), none⟩] [4]
def f27body : IC := (.seq f27r0 (.seq (.seq f27r1 (.block 0 (.loop [7, 1, 0, 8] f27b7))) (.seq f27r8 .ret)))
def f27 : IFn := ⟨19, 2, [.tmp 4], f27body⟩
/- 28: jobshell/jobshellref35.Texts -/
def f28r0 : IC := .reg false [
  ⟨(some 4), .mv (.c (.bool false)), none⟩] [1, 0]
def f28r1 : IC := .reg false [
  ⟨(some 6), .mv (.t 0), none⟩,
  ⟨(some 7), .len (.t 6), none⟩,
  ⟨(some 8), .mv (.t 1), none⟩,
  ⟨(some 9), .len (.t 8), none⟩,
  ⟨(some 10), .bin .neq (.t 7) (.t 9), none⟩] [10, 1, 0]
def f28r2 : IC := .reg false [
  ⟨(some 4), .mv (.c (.bool false)), none⟩] [4]
def f28r3 : IC := .reg false [
  ⟨(some 11), .mv (.t 0), none⟩,
  ⟨(some 12), .len (.t 11), none⟩,
  ⟨(some 13), .mv (.c (.int .i64 0)), none⟩] [12, 0, 1, 13]
def f28r4 : IC := .reg false [
  ⟨(some 14), .bin .lss (.t 13) (.t 12), none⟩] [14, 1, 0, 12, 13]
def f28r5 : IC := .reg false [
  ⟨(some 15), .mv (.t 13), none⟩,
  ⟨(some 5), .mv (.t 15), none⟩] [5, 1, 0, 12, 13]
def f28r6 : IC := .reg true [
  ⟨(some 16), .mv (.t 0), none⟩,
  ⟨(some 17), .mv (.t 5), none⟩,
  ⟨(some 18), .idx 1 (.t 16) (.t 17), none⟩,
  ⟨(some 19), .load false 1 (.t 18), none⟩,
  ⟨(some 20), .mv (.t 1), none⟩,
  ⟨(some 21), .mv (.t 5), none⟩,
  ⟨(some 22), .idx 1 (.t 20) (.t 21), none⟩,
  ⟨(some 23), .load false 1 (.t 22), none⟩,
  ⟨(some 24), .bin .neq (.t 19) (.t 23), none⟩] [24, 1, 0, 12, 13]
def f28r7 : IC := .reg false [
  ⟨(some 4), .mv (.c (.bool false)), none⟩] [4]
def f28r8 : IC := .reg false [
  ⟨(some 25), .bin .add (.t 13) (.c (.int .i64 1)), none⟩,
  ⟨(some 13), .mv (.t 25), none⟩] [12, 0, 1, 13]
def f28b9 : IC := (.seq f28r4 (.seq (.cond (.t 14) .skip (.exit 0)) (.seq (.block 1 (.seq f28r5 (.seq f28r6 (.cond (.t 24) (.seq f28r7 .ret) .skip)))) f28r8)))
def f28r10 : IC := .reg false [
  ⟨(some 4), .mv (.c (.bool true)), none⟩] [4]
def f28body : IC := (.seq f28r0 (.seq (.seq f28r1 (.cond (.t 10) (.seq f28r2 .ret) .skip)) (.seq (.seq f28r3 (.block 0 (.loop [12, 0, 1, 13] f28b9))) (.seq f28r10 .ret))))
def f28 : IFn := ⟨26, 2, [.tmp 4], f28body⟩
/- 29: jobshell/jobshellref22.Kind -/
def f29r0 : IC := .reg false [
  ⟨(some 2), .mv (.c (.int .i64 0)), none⟩,
  ⟨(some 3), .mv (.c (.int .i64 0)), none⟩] [0]
def f29r1 : IC := .reg false [
  ⟨(some 6), .mv (.t 0), none⟩,
  ⟨(some 7), .bin .lss (.t 6) (.c (.int .i64 0)), none⟩,
  ⟨(some 8), .mv (.t 7), none⟩,
  ⟨(some 9), .mv (.t 0), (some (8, false))⟩,
  ⟨(some 10), .bin .gtr (.t 9) (.c (.int .i64 768)), (some (8, false))⟩,
  ⟨(some 11), .pick (.t 8) (.c (.bool true)) (.t 10), none⟩] [11, 0]
def f29r2 : IC := .reg false [
  ⟨(some 2), .mv (.c (.int .i64 (-1))), none⟩,
  ⟨(some 3), .mv (.c (.int .i64 0)), none⟩] [2, 3]
def f29r3 : IC := .reg false [
  ⟨(some 12), .mv (.t 0), none⟩,
  ⟨(some 13), .bin .quo (.t 12) (.c (.int .i64 256)), none⟩,
  ⟨(some 14), .mv (.t 0), none⟩,
  ⟨(some 15), .bin .rem (.t 14) (.c (.int .i64 256)), none⟩,
  ⟨(some 4), .mv (.t 13), none⟩,
  ⟨(some 5), .mv (.t 15), none⟩] [5, 4]
def f29r4 : IC := .reg false [
  ⟨(some 16), .mv (.t 4), none⟩,
  ⟨(some 17), .bin .eql (.t 16) (.c (.int .i64 1)), none⟩,
  ⟨(some 18), .mv (.t 17), none⟩,
  ⟨(some 19), .mv (.t 4), (some (18, false))⟩,
  ⟨(some 20), .bin .eql (.t 19) (.c (.int .i64 2)), (some (18, false))⟩,
  ⟨(some 21), .pick (.t 18) (.c (.bool true)) (.t 20), none⟩,
  ⟨(some 22), .mv (.t 21), none⟩,
  ⟨(some 23), .mv (.t 5), (some (22, true))⟩,
  ⟨(some 24), .bin .lss (.t 23) (.c (.int .i64 1)), (some (22, true))⟩,
  ⟨(some 25), .mv (.t 24), (some (22, true))⟩,
  ⟨(some 26), .mv (.t 5), (some (25, false))⟩,
  ⟨(some 27), .bin .gtr (.t 26) (.c (.int .i64 20)), (some (25, false))⟩,
  ⟨(some 28), .pick (.t 25) (.c (.bool true)) (.t 27), (some (22, true))⟩,
  ⟨(some 29), .pick (.t 22) (.t 28) (.c (.bool false)), none⟩] [29, 5, 4]
def f29r5 : IC := .reg false [
  ⟨(some 2), .mv (.c (.int .i64 (-1))), none⟩,
  ⟨(some 3), .mv (.c (.int .i64 0)), none⟩] [2, 3]
def f29r6 : IC := .reg false [
  ⟨(some 30), .mv (.t 4), none⟩,
  ⟨(some 31), .mv (.t 5), none⟩,
  ⟨(some 2), .mv (.t 30), none⟩,
  ⟨(some 3), .mv (.t 31), none⟩] [2, 3]
def f29body : IC := (.seq f29r0 (.seq (.seq f29r1 (.cond (.t 11) (.seq f29r2 .ret) .skip)) (.seq f29r3 (.seq (.seq f29r4 (.cond (.t 29) (.seq f29r5 .ret) .skip)) (.seq f29r6 .ret)))))
def f29 : IFn := ⟨32, 1, [.tmp 2, .tmp 3], f29body⟩
def tbl : Nat → Option IFn
  | 3 => some f3
  | 4 => some f4
  | 5 => some f5
  | 6 => some f6
  | 7 => some f7
  | 8 => some f8
  | 9 => some f9
  | 10 => some f10
  | 11 => some f11
  | 12 => some f12
  | 13 => some f13
  | 14 => some f14
  | 15 => some f15
  | 16 => some f16
  | 17 => some f17
  | 18 => some f18
  | 19 => some f19
  | 20 => some f20
  | 21 => some f21
  | 22 => some f22
  | 23 => some f23
  | 24 => some f24
  | 25 => some f25
  | 26 => some f26
  | 27 => some f27
  | 28 => some f28
  | 29 => some f29
  | _ => none
theorem tbl3 : tbl 3 = some f3 := rfl
theorem tbl4 : tbl 4 = some f4 := rfl
theorem tbl5 : tbl 5 = some f5 := rfl
theorem tbl6 : tbl 6 = some f6 := rfl
theorem tbl7 : tbl 7 = some f7 := rfl
theorem tbl8 : tbl 8 = some f8 := rfl
theorem tbl9 : tbl 9 = some f9 := rfl
theorem tbl10 : tbl 10 = some f10 := rfl
theorem tbl11 : tbl 11 = some f11 := rfl
theorem tbl12 : tbl 12 = some f12 := rfl
theorem tbl13 : tbl 13 = some f13 := rfl
theorem tbl14 : tbl 14 = some f14 := rfl
theorem tbl15 : tbl 15 = some f15 := rfl
theorem tbl16 : tbl 16 = some f16 := rfl
theorem tbl17 : tbl 17 = some f17 := rfl
theorem tbl18 : tbl 18 = some f18 := rfl
theorem tbl19 : tbl 19 = some f19 := rfl
theorem tbl20 : tbl 20 = some f20 := rfl
theorem tbl21 : tbl 21 = some f21 := rfl
theorem tbl22 : tbl 22 = some f22 := rfl
theorem tbl23 : tbl 23 = some f23 := rfl
theorem tbl24 : tbl 24 = some f24 := rfl
theorem tbl25 : tbl 25 = some f25 := rfl
theorem tbl26 : tbl 26 = some f26 := rfl
theorem tbl27 : tbl 27 = some f27 := rfl
theorem tbl28 : tbl 28 = some f28 := rfl
theorem tbl29 : tbl 29 = some f29 := rfl
theorem ok3 : cFn Try.prog 3 = some f3 := by kernel_rfl
theorem ok4 : cFn Try.prog 4 = some f4 := by kernel_rfl
theorem ok5 : cFn Try.prog 5 = some f5 := by kernel_rfl
theorem ok6 : cFn Try.prog 6 = some f6 := by kernel_rfl
theorem ok7 : cFn Try.prog 7 = some f7 := by kernel_rfl
theorem ok8 : cFn Try.prog 8 = some f8 := by kernel_rfl
theorem ok9 : cFn Try.prog 9 = some f9 := by kernel_rfl
theorem ok10 : cFn Try.prog 10 = some f10 := by kernel_rfl
theorem ok11 : cFn Try.prog 11 = some f11 := by kernel_rfl
theorem ok12 : cFn Try.prog 12 = some f12 := by kernel_rfl
theorem ok13 : cFn Try.prog 13 = some f13 := by kernel_rfl
theorem ok14 : cFn Try.prog 14 = some f14 := by kernel_rfl
theorem ok15 : cFn Try.prog 15 = some f15 := by kernel_rfl
theorem ok16 : cFn Try.prog 16 = some f16 := by kernel_rfl
theorem ok17 : cFn Try.prog 17 = some f17 := by kernel_rfl
theorem ok18 : cFn Try.prog 18 = some f18 := by kernel_rfl
theorem ok19 : cFn Try.prog 19 = some f19 := by kernel_rfl
theorem ok20 : cFn Try.prog 20 = some f20 := by kernel_rfl
theorem ok21 : cFn Try.prog 21 = some f21 := by kernel_rfl
theorem ok22 : cFn Try.prog 22 = some f22 := by kernel_rfl
theorem ok23 : cFn Try.prog 23 = some f23 := by kernel_rfl
theorem ok24 : cFn Try.prog 24 = some f24 := by kernel_rfl
theorem ok25 : cFn Try.prog 25 = some f25 := by kernel_rfl
theorem ok26 : cFn Try.prog 26 = some f26 := by kernel_rfl
theorem ok27 : cFn Try.prog 27 = some f27 := by kernel_rfl
theorem ok28 : cFn Try.prog 28 = some f28 := by kernel_rfl
theorem ok29 : cFn Try.prog 29 = some f29 := by kernel_rfl
theorem tbl_ok (f : Nat) (fn : IFn) (h : tbl f = some fn) : cFn Try.prog f = some fn := by
  unfold tbl at h
  split at h
  · injection h with h; subst h; exact ok3
  · injection h with h; subst h; exact ok4
  · injection h with h; subst h; exact ok5
  · injection h with h; subst h; exact ok6
  · injection h with h; subst h; exact ok7
  · injection h with h; subst h; exact ok8
  · injection h with h; subst h; exact ok9
  · injection h with h; subst h; exact ok10
  · injection h with h; subst h; exact ok11
  · injection h with h; subst h; exact ok12
  · injection h with h; subst h; exact ok13
  · injection h with h; subst h; exact ok14
  · injection h with h; subst h; exact ok15
  · injection h with h; subst h; exact ok16
  · injection h with h; subst h; exact ok17
  · injection h with h; subst h; exact ok18
  · injection h with h; subst h; exact ok19
  · injection h with h; subst h; exact ok20
  · injection h with h; subst h; exact ok21
  · injection h with h; subst h; exact ok22
  · injection h with h; subst h; exact ok23
  · injection h with h; subst h; exact ok24
  · injection h with h; subst h; exact ok25
  · injection h with h; subst h; exact ok26
  · injection h with h; subst h; exact ok27
  · injection h with h; subst h; exact ok28
  · injection h with h; subst h; exact ok29
  · cases h
end Go.Proofs.Ytedaefjmclkifaa
