/- The interpreter's form of this seat's functions (printed by a program out of the translation), and that the translation gives just this. No condition. -/
import Derived.Test.YteinopeeicjnjaaDoorPi24
import Derived.Test.YteinopeeicjnjaaDoorProg
import Derived.KernelRfl
namespace Go.Proofs.YteinopeeicjnjaaDoor
open Go.PI
variable (tbl : TB) (fin : Fin) (K : List Fr) (e : Env) (H : List AO)
def gl2 : AV := (.agg [(.int .u8 0), (.int .u8 1), (.int .u8 28), (.int .u8 2), (.int .u8 29), (.int .u8 14), (.int .u8 24), (.int .u8 3), (.int .u8 30), (.int .u8 22), (.int .u8 20), (.int .u8 15), (.int .u8 25), (.int .u8 17), (.int .u8 4), (.int .u8 8), (.int .u8 31), (.int .u8 27), (.int .u8 13), (.int .u8 23), (.int .u8 21), (.int .u8 19), (.int .u8 16), (.int .u8 7), (.int .u8 26), (.int .u8 12), (.int .u8 18), (.int .u8 6), (.int .u8 11), (.int .u8 5), (.int .u8 10), (.int .u8 9)])
def gl3 : AV := (.agg [(.int .u8 0), (.int .u8 1), (.int .u8 56), (.int .u8 2), (.int .u8 57), (.int .u8 49), (.int .u8 28), (.int .u8 3), (.int .u8 61), (.int .u8 58), (.int .u8 42), (.int .u8 50), (.int .u8 38), (.int .u8 29), (.int .u8 17), (.int .u8 4), (.int .u8 62), (.int .u8 47), (.int .u8 59), (.int .u8 36), (.int .u8 45), (.int .u8 43), (.int .u8 51), (.int .u8 22), (.int .u8 53), (.int .u8 39), (.int .u8 33), (.int .u8 30), (.int .u8 24), (.int .u8 18), (.int .u8 12), (.int .u8 5), (.int .u8 63), (.int .u8 55), (.int .u8 48), (.int .u8 27), (.int .u8 60), (.int .u8 41), (.int .u8 37), (.int .u8 16), (.int .u8 46), (.int .u8 35), (.int .u8 44), (.int .u8 21), (.int .u8 52), (.int .u8 32), (.int .u8 23), (.int .u8 11), (.int .u8 54), (.int .u8 26), (.int .u8 40), (.int .u8 15), (.int .u8 34), (.int .u8 20), (.int .u8 31), (.int .u8 10), (.int .u8 25), (.int .u8 14), (.int .u8 19), (.int .u8 9), (.int .u8 13), (.int .u8 8), (.int .u8 7), (.int .u8 6)])
def gl1 : AV := (.agg [(.int .u64 1), (.int .u64 10), (.int .u64 100), (.int .u64 1000), (.int .u64 10000), (.int .u64 100000), (.int .u64 1000000), (.int .u64 10000000), (.int .u64 100000000), (.int .u64 1000000000), (.int .u64 10000000000), (.int .u64 100000000000), (.int .u64 1000000000000), (.int .u64 10000000000000), (.int .u64 100000000000000), (.int .u64 1000000000000000), (.int .u64 10000000000000000), (.int .u64 100000000000000000), (.int .u64 1000000000000000000), (.int .u64 10000000000000000000)])
def gl : Nat → Option AV
  | 2 => some gl2
  | 3 => some gl3
  | 1 => some gl1
  | _ => none
def cfg : Cfg := ⟨gl, fun f => [19, 20, 21, 68].contains f⟩
/- 3: jobshell/jobshelllaw48.PromptExpands -/
@[simp] def f3o0 : List IOper := [
  ⟨(some 4), .box 30 15 (.t 0), none, none⟩,
  ⟨(some 8), .mv (.c (.bool false)), none, none⟩]
def f3r0 : IC := .reg false [] f3o0 [4, 1, 2, 3]
@[simp] theorem f3r0_run : run tbl fin K f3r0 e H = regK tbl fin K [] f3o0 [4, 1, 2, 3] e H := run_regK _ _ _ _ _ _ _ _ _ rfl
@[simp] def f3o1 : List IOper := [
  ⟨(some 9), .load true 15 (.t 4), none, none⟩,
  ⟨(some 10), .call (.c (.fn 8 [])) [(.t 9)], none, none⟩,
  ⟨(some 11), .un .not (.t 10), none, none⟩,
  ⟨(some 12), .mv (.t 11), none, none⟩,
  ⟨(some 13), .mv (.t 1), (some (12, false)), none⟩,
  ⟨(some 14), .slen (.t 13), (some (12, false)), none⟩,
  ⟨(some 15), .bin .gtr (.t 14) (.c (.int .i64 5000)), (some (12, false)), none⟩,
  ⟨(some 16), .pick (.t 12) (.c (.bool true)) (.t 15), none, none⟩,
  ⟨(some 17), .mv (.t 16), none, none⟩,
  ⟨(some 18), .load true 15 (.t 4), (some (17, false)), none⟩,
  ⟨(some 19), .mv (.t 1), (some (17, false)), none⟩,
  ⟨(some 20), .mv (.t 2), (some (17, false)), none⟩,
  ⟨(some 21), .mv (.t 3), (some (17, false)), none⟩,
  ⟨(some 22), .call (.c (.fn 9 [])) [(.t 18), (.t 19), (.t 20), (.t 21)], (some (17, false)), none⟩,
  ⟨(some 23), .load true 15 (.t 4), (some (17, false)), none⟩,
  ⟨(some 24), .mv (.t 1), (some (17, false)), none⟩,
  ⟨(some 25), .mv (.t 2), (some (17, false)), none⟩,
  ⟨(some 26), .mv (.t 3), (some (17, false)), none⟩,
  ⟨(some 27), .call (.c (.fn 10 [])) [(.t 23), (.t 24), (.t 25), (.t 26)], (some (17, false)), none⟩,
  ⟨(some 28), .bin .eql (.t 22) (.t 27), (some (17, false)), none⟩,
  ⟨(some 29), .pick (.t 17) (.c (.bool true)) (.t 28), none, none⟩,
  ⟨(some 30), .mv (.t 29), none, none⟩,
  ⟨(some 31), .call (.c (.fn 11 [])) [], (some (30, true)), none⟩,
  ⟨(some 32), .pick (.t 30) (.t 31) (.c (.bool false)), none, none⟩,
  ⟨(some 8), .mv (.t 32), none, none⟩]
def f3r1 : IC := .reg true [] f3o1 [8]
@[simp] theorem f3r1_run : run tbl fin K f3r1 e H = regK tbl fin K [] f3o1 [8] e H := run_regK _ _ _ _ _ _ _ _ _ rfl
def f3body : IC := (.seq f3r0 (.seq f3r1 .ret))
def f3 : IFn := ⟨33, 4, [.tmp 8], f3body⟩
/- 4: jobshell/jobshelllaw48.PromptFirsts -/
@[simp] def f4o0 : List IOper := [
  ⟨(some 3), .box 30 15 (.t 0), none, none⟩,
  ⟨(some 6), .mv (.c (.bool false)), none, none⟩]
def f4r0 : IC := .reg false [] f4o0 [1, 2, 3]
@[simp] theorem f4r0_run : run tbl fin K f4r0 e H = regK tbl fin K [] f4o0 [1, 2, 3] e H := run_regK _ _ _ _ _ _ _ _ _ rfl
@[simp] def f4o1 : List IOper := [
  ⟨(some 7), .load true 15 (.t 3), none, none⟩,
  ⟨(some 8), .call (.c (.fn 8 [])) [(.t 7)], none, none⟩,
  ⟨(some 9), .un .not (.t 8), none, none⟩,
  ⟨(some 10), .mv (.t 9), none, none⟩,
  ⟨(some 11), .load true 15 (.t 3), (some (10, false)), none⟩,
  ⟨(some 12), .mv (.t 1), (some (10, false)), none⟩,
  ⟨(some 13), .mv (.t 2), (some (10, false)), none⟩,
  ⟨(some 14), .call (.c (.fn 12 [])) [(.t 11), (.t 12), (.t 13)], (some (10, false)), none⟩,
  ⟨(some 15), .load true 15 (.t 3), (some (10, false)), none⟩,
  ⟨(some 16), .mv (.t 1), (some (10, false)), none⟩,
  ⟨(some 17), .mv (.t 2), (some (10, false)), none⟩,
  ⟨(some 18), .call (.c (.fn 13 [])) [(.t 15), (.t 16), (.t 17)], (some (10, false)), none⟩,
  ⟨(some 19), .bin .eql (.t 14) (.t 18), (some (10, false)), none⟩,
  ⟨(some 20), .mv (.t 19), (some (10, false)), none⟩,
  ⟨(some 21), .load true 15 (.t 3), (some (20, true)), none⟩,
  ⟨(some 22), .call (.c (.fn 14 [])) [(.t 21)], (some (20, true)), none⟩,
  ⟨(some 23), .load true 15 (.t 3), (some (20, true)), none⟩,
  ⟨(some 24), .call (.c (.fn 15 [])) [(.t 23)], (some (20, true)), none⟩,
  ⟨(some 25), .bin .eql (.t 22) (.t 24), (some (20, true)), none⟩,
  ⟨(some 26), .pick (.t 20) (.t 25) (.c (.bool false)), (some (10, false)), none⟩,
  ⟨(some 27), .pick (.t 10) (.c (.bool true)) (.t 26), none, none⟩,
  ⟨(some 28), .mv (.t 27), none, none⟩,
  ⟨(some 29), .call (.c (.fn 11 [])) [], (some (28, true)), none⟩,
  ⟨(some 30), .pick (.t 28) (.t 29) (.c (.bool false)), none, none⟩,
  ⟨(some 6), .mv (.t 30), none, none⟩]
def f4r1 : IC := .reg true [] f4o1 [6]
@[simp] theorem f4r1_run : run tbl fin K f4r1 e H = regK tbl fin K [] f4o1 [6] e H := run_regK _ _ _ _ _ _ _ _ _ rfl
def f4body : IC := (.seq f4r0 (.seq f4r1 .ret))
def f4 : IFn := ⟨31, 3, [.tmp 6], f4body⟩
/- 5: jobshell/jobshelllaw48.PromptPlain -/
@[simp] def f5o0 : List IOper := [
  ⟨(some 3), .box 30 15 (.t 0), none, none⟩,
  ⟨(some 6), .mv (.c (.bool false)), none, none⟩]
def f5r0 : IC := .reg false [] f5o0 [1, 2, 3]
@[simp] theorem f5r0_run : run tbl fin K f5r0 e H = regK tbl fin K [] f5o0 [1, 2, 3] e H := run_regK _ _ _ _ _ _ _ _ _ rfl
@[simp] def f5o1 : List IOper := [
  ⟨(some 9), .load true 15 (.t 3), none, none⟩,
  ⟨(some 10), .call (.c (.fn 8 [])) [(.t 9)], none, none⟩,
  ⟨(some 11), .un .not (.t 10), none, none⟩,
  ⟨(some 12), .mv (.t 11), none, none⟩,
  ⟨(some 13), .mv (.t 1), (some (12, false)), none⟩,
  ⟨(some 14), .slen (.t 13), (some (12, false)), none⟩,
  ⟨(some 15), .bin .gtr (.t 14) (.c (.int .i64 5000)), (some (12, false)), none⟩,
  ⟨(some 16), .pick (.t 12) (.c (.bool true)) (.t 15), none, none⟩]
def f5r1 : IC := .reg false [] f5o1 [16, 1, 2, 3]
@[simp] theorem f5r1_run : run tbl fin K f5r1 e H = regK tbl fin K [] f5o1 [16, 1, 2, 3] e H := run_regK _ _ _ _ _ _ _ _ _ rfl
@[simp] def f5o2 : List IOper := [
  ⟨(some 17), .call (.c (.fn 11 [])) [], none, none⟩,
  ⟨(some 6), .mv (.t 17), none, none⟩]
def f5r2 : IC := .reg false [] f5o2 [6]
@[simp] theorem f5r2_run : run tbl fin K f5r2 e H = regK tbl fin K [] f5o2 [6] e H := run_regK _ _ _ _ _ _ _ _ _ rfl
@[simp] def f5o3 : List IOper := [
  ⟨(some 18), .load true 15 (.t 3), none, none⟩,
  ⟨(some 19), .mv (.t 1), none, none⟩,
  ⟨(some 20), .mv (.t 2), none, none⟩,
  ⟨(some 21), .mv (.t 2), none, none⟩,
  ⟨(some 22), .call (.c (.fn 9 [])) [(.t 18), (.t 19), (.t 20), (.t 21)], none, none⟩,
  ⟨(some 7), .mv (.t 22), none, none⟩]
def f5r3 : IC := .reg false [] f5o3 [7, 1]
@[simp] theorem f5r3_run : run tbl fin K f5r3 e H = regK tbl fin K [] f5o3 [7, 1] e H := run_regK _ _ _ _ _ _ _ _ _ rfl
@[simp] def f5o4 : List IOper := [
  ⟨(some 23), .mv (.t 7), none, none⟩,
  ⟨(some 24), .slen (.t 23), none, none⟩,
  ⟨(some 25), .bin .gtr (.t 24) (.c (.int .i64 4096)), none, none⟩]
def f5r4 : IC := .reg false [] f5o4 [25, 7, 1]
@[simp] theorem f5r4_run : run tbl fin K f5r4 e H = regK tbl fin K [] f5o4 [25, 7, 1] e H := run_regK _ _ _ _ _ _ _ _ _ rfl
@[simp] def f5o5 : List IOper := [
  ⟨(some 6), .mv (.c (.bool false)), none, none⟩]
def f5r5 : IC := .reg false [] f5o5 [6]
@[simp] theorem f5r5_run : run tbl fin K f5r5 e H = regK tbl fin K [] f5o5 [6] e H := run_regK _ _ _ _ _ _ _ _ _ rfl
@[simp] def f5o6 : List IOper := [
  ⟨(some 26), .mv (.t 1), none, none⟩,
  ⟨(some 27), .slen (.t 26), none, none⟩,
  ⟨(some 28), .bin .gtr (.t 27) (.c (.int .i64 4096)), none, none⟩]
def f5r6 : IC := .reg false [] f5o6 [28, 1, 7]
@[simp] theorem f5r6_run : run tbl fin K f5r6 e H = regK tbl fin K [] f5o6 [28, 1, 7] e H := run_regK _ _ _ _ _ _ _ _ _ rfl
@[simp] def f5o7 : List IOper := [
  ⟨(some 29), .call (.c (.fn 11 [])) [], none, none⟩,
  ⟨(some 6), .mv (.t 29), none, none⟩]
def f5r7 : IC := .reg false [] f5o7 [6]
@[simp] theorem f5r7_run : run tbl fin K f5r7 e H = regK tbl fin K [] f5o7 [6] e H := run_regK _ _ _ _ _ _ _ _ _ rfl
@[simp] def f5o8 : List IOper := [
  ⟨(some 8), .mv (.c (.int .i64 0)), none, none⟩]
def f5r8 : IC := .reg false [] f5o8 [7, 1, 8]
@[simp] theorem f5r8_run : run tbl fin K f5r8 e H = regK tbl fin K [] f5o8 [7, 1, 8] e H := run_regK _ _ _ _ _ _ _ _ _ rfl
@[simp] def f5o9 : List IOper := [
  ⟨(some 30), .mv (.t 8), none, none⟩,
  ⟨(some 31), .mv (.t 1), none, none⟩,
  ⟨(some 32), .slen (.t 31), none, none⟩,
  ⟨(some 33), .bin .lss (.t 30) (.t 32), none, none⟩]
def f5r9 : IC := .reg false [] f5o9 [33, 1, 7, 8]
@[simp] theorem f5r9_run : run tbl fin K f5r9 e H = regK tbl fin K [] f5o9 [33, 1, 7, 8] e H := run_regK _ _ _ _ _ _ _ _ _ rfl
@[simp] def f5o10 : List IOper := [
  ⟨(some 36), .mv (.t 1), none, none⟩,
  ⟨(some 37), .mv (.t 8), none, none⟩,
  ⟨(some 38), .sidx (.t 36) (.t 37), none, none⟩,
  ⟨(some 39), .bin .eql (.t 38) (.c (.int .u8 92)), none, none⟩,
  ⟨(some 40), .mv (.t 39), none, none⟩,
  ⟨(some 41), .mv (.t 1), (some (40, false)), none⟩,
  ⟨(some 42), .mv (.t 8), (some (40, false)), none⟩,
  ⟨(some 43), .sidx (.t 41) (.t 42), (some (40, false)), none⟩,
  ⟨(some 44), .bin .eql (.t 43) (.c (.int .u8 36)), (some (40, false)), none⟩,
  ⟨(some 45), .pick (.t 40) (.c (.bool true)) (.t 44), none, none⟩]
def f5r10 : IC := .reg false [] f5o10 [45, 1, 7, 8]
@[simp] theorem f5r10_run : run tbl fin K f5r10 e H = regK tbl fin K [] f5o10 [45, 1, 7, 8] e H := run_regK _ _ _ _ _ _ _ _ _ rfl
@[simp] def f5o11 : List IOper := [
  ⟨(some 46), .call (.c (.fn 11 [])) [], none, none⟩,
  ⟨(some 6), .mv (.t 46), none, none⟩]
def f5r11 : IC := .reg false [] f5o11 [6]
@[simp] theorem f5r11_run : run tbl fin K f5r11 e H = regK tbl fin K [] f5o11 [6] e H := run_regK _ _ _ _ _ _ _ _ _ rfl
@[simp] def f5o12 : List IOper := [
  ⟨(some 34), .mv (.t 8), none, none⟩,
  ⟨(some 35), .bin .add (.t 34) (.c (.int .i64 1)), none, none⟩,
  ⟨(some 8), .mv (.t 35), none, none⟩]
def f5r12 : IC := .reg false [] f5o12 [7, 1, 8]
@[simp] theorem f5r12_run : run tbl fin K f5r12 e H = regK tbl fin K [] f5o12 [7, 1, 8] e H := run_regK _ _ _ _ _ _ _ _ _ rfl
def f5b13 : IC := (.seq (.seq f5r9 (.cond (.t 33) .skip (.exit 0))) (.seq (.block 1 (.seq f5r10 (.cond (.t 45) (.seq f5r11 .ret) .skip))) f5r12))
theorem f5b13_eq : f5b13 = (.seq (.seq f5r9 (.cond (.t 33) .skip (.exit 0))) (.seq (.block 1 (.seq f5r10 (.cond (.t 45) (.seq f5r11 .ret) .skip))) f5r12)) := rfl
@[simp] def f5o14 : List IOper := [
  ⟨(some 47), .mv (.t 7), none, none⟩,
  ⟨(some 48), .mv (.t 1), none, none⟩,
  ⟨(some 49), .bin .eql (.t 47) (.t 48), none, none⟩,
  ⟨(some 50), .mv (.t 49), none, none⟩,
  ⟨(some 51), .call (.c (.fn 11 [])) [], (some (50, true)), none⟩,
  ⟨(some 52), .pick (.t 50) (.t 51) (.c (.bool false)), none, none⟩,
  ⟨(some 6), .mv (.t 52), none, none⟩]
def f5r14 : IC := .reg false [] f5o14 [6]
@[simp] theorem f5r14_run : run tbl fin K f5r14 e H = regK tbl fin K [] f5o14 [6] e H := run_regK _ _ _ _ _ _ _ _ _ rfl
def f5body : IC := (.seq f5r0 (.seq (.seq f5r1 (.cond (.t 16) (.seq f5r2 .ret) .skip)) (.seq f5r3 (.seq (.seq f5r4 (.cond (.t 25) (.seq f5r5 .ret) .skip)) (.seq (.seq f5r6 (.cond (.t 28) (.seq f5r7 .ret) .skip)) (.seq (.seq f5r8 (.block 0 (.loop [7, 1, 8] f5b13))) (.seq f5r14 .ret)))))))
def f5 : IFn := ⟨53, 3, [.tmp 6], f5body⟩
/- 6: jobshell/jobshelllaw48.PromptParts -/
@[simp] def f6o0 : List IOper := [
  ⟨(some 4), .box 30 15 (.t 0), none, none⟩,
  ⟨(some 8), .mv (.c (.bool false)), none, none⟩]
def f6r0 : IC := .reg false [] f6o0 [4, 1, 2, 3]
@[simp] theorem f6r0_run : run tbl fin K f6r0 e H = regK tbl fin K [] f6o0 [4, 1, 2, 3] e H := run_regK _ _ _ _ _ _ _ _ _ rfl
@[simp] def f6o1 : List IOper := [
  ⟨(some 11), .load true 15 (.t 4), none, none⟩,
  ⟨(some 12), .call (.c (.fn 8 [])) [(.t 11)], none, none⟩,
  ⟨(some 13), .un .not (.t 12), none, none⟩,
  ⟨(some 14), .mv (.t 13), none, none⟩,
  ⟨(some 15), .mv (.t 1), (some (14, false)), none⟩,
  ⟨(some 16), .slen (.t 15), (some (14, false)), none⟩,
  ⟨(some 17), .bin .gtr (.t 16) (.c (.int .i64 500)), (some (14, false)), none⟩,
  ⟨(some 18), .pick (.t 14) (.c (.bool true)) (.t 17), none, some [18, 4, 1, 2, 3]⟩,
  ⟨(some 19), .mv (.t 18), none, none⟩,
  ⟨(some 20), .mv (.t 2), (some (19, false)), none⟩,
  ⟨(some 21), .slen (.t 20), (some (19, false)), none⟩,
  ⟨(some 22), .bin .gtr (.t 21) (.c (.int .i64 500)), (some (19, false)), none⟩,
  ⟨(some 23), .pick (.t 19) (.c (.bool true)) (.t 22), none, none⟩]
def f6r1 : IC := .reg false [] f6o1 [23, 4, 1, 2, 3]
@[simp] theorem f6r1_run : run tbl fin K f6r1 e H = regK tbl fin K [] f6o1 [23, 4, 1, 2, 3] e H := run_regK _ _ _ _ _ _ _ _ _ rfl
@[simp] def f6o2 : List IOper := [
  ⟨(some 24), .call (.c (.fn 11 [])) [], none, none⟩,
  ⟨(some 8), .mv (.t 24), none, none⟩]
def f6r2 : IC := .reg false [] f6o2 [8]
@[simp] theorem f6r2_run : run tbl fin K f6r2 e H = regK tbl fin K [] f6o2 [8] e H := run_regK _ _ _ _ _ _ _ _ _ rfl
@[simp] def f6o3 : List IOper := [
  ⟨(some 25), .load true 15 (.t 4), none, none⟩,
  ⟨(some 26), .mv (.t 1), none, none⟩,
  ⟨(some 27), .bin .add (.t 26) (.c (.str [32])), none, none⟩,
  ⟨(some 28), .mv (.t 3), none, none⟩,
  ⟨(some 29), .mv (.t 3), none, none⟩,
  ⟨(some 30), .call (.c (.fn 9 [])) [(.t 25), (.t 27), (.t 28), (.t 29)], none, none⟩,
  ⟨(some 31), .load true 15 (.t 4), none, none⟩,
  ⟨(some 32), .mv (.t 2), none, none⟩,
  ⟨(some 33), .mv (.t 3), none, none⟩,
  ⟨(some 34), .mv (.t 3), none, none⟩,
  ⟨(some 35), .call (.c (.fn 9 [])) [(.t 31), (.t 32), (.t 33), (.t 34)], none, none⟩,
  ⟨(some 9), .mv (.t 30), none, none⟩,
  ⟨(some 10), .mv (.t 35), none, none⟩]
def f6r3 : IC := .reg true [] f6o3 [10, 9, 3, 2, 1, 4]
@[simp] theorem f6r3_run : run tbl fin K f6r3 e H = regK tbl fin K [] f6o3 [10, 9, 3, 2, 1, 4] e H := run_regK _ _ _ _ _ _ _ _ _ rfl
@[simp] def f6o4 : List IOper := [
  ⟨(some 36), .mv (.t 9), none, none⟩,
  ⟨(some 37), .slen (.t 36), none, none⟩,
  ⟨(some 38), .mv (.t 10), none, none⟩,
  ⟨(some 39), .slen (.t 38), none, none⟩,
  ⟨(some 40), .bin .add (.t 37) (.t 39), none, none⟩,
  ⟨(some 41), .bin .geq (.t 40) (.c (.int .i64 4096)), none, none⟩]
def f6r4 : IC := .reg false [] f6o4 [41, 10, 9, 3, 2, 1, 4]
@[simp] theorem f6r4_run : run tbl fin K f6r4 e H = regK tbl fin K [] f6o4 [41, 10, 9, 3, 2, 1, 4] e H := run_regK _ _ _ _ _ _ _ _ _ rfl
@[simp] def f6o5 : List IOper := [
  ⟨(some 42), .call (.c (.fn 11 [])) [], none, none⟩,
  ⟨(some 8), .mv (.t 42), none, none⟩]
def f6r5 : IC := .reg false [] f6o5 [8]
@[simp] theorem f6r5_run : run tbl fin K f6r5 e H = regK tbl fin K [] f6o5 [8] e H := run_regK _ _ _ _ _ _ _ _ _ rfl
@[simp] def f6o6 : List IOper := [
  ⟨(some 43), .load true 15 (.t 4), none, none⟩,
  ⟨(some 44), .mv (.t 1), none, none⟩,
  ⟨(some 45), .bin .add (.t 44) (.c (.str [32])), none, none⟩,
  ⟨(some 46), .mv (.t 2), none, none⟩,
  ⟨(some 47), .bin .add (.t 45) (.t 46), none, none⟩,
  ⟨(some 48), .mv (.t 3), none, none⟩,
  ⟨(some 49), .mv (.t 3), none, none⟩,
  ⟨(some 50), .call (.c (.fn 9 [])) [(.t 43), (.t 47), (.t 48), (.t 49)], none, some [9, 10, 50]⟩,
  ⟨(some 51), .mv (.t 9), none, none⟩,
  ⟨(some 52), .mv (.t 10), none, none⟩,
  ⟨(some 53), .bin .add (.t 51) (.t 52), none, none⟩,
  ⟨(some 54), .bin .eql (.t 50) (.t 53), none, none⟩,
  ⟨(some 55), .mv (.t 54), none, none⟩,
  ⟨(some 56), .call (.c (.fn 11 [])) [], (some (55, true)), none⟩,
  ⟨(some 57), .pick (.t 55) (.t 56) (.c (.bool false)), none, none⟩,
  ⟨(some 8), .mv (.t 57), none, none⟩]
def f6r6 : IC := .reg false [] f6o6 [8]
@[simp] theorem f6r6_run : run tbl fin K f6r6 e H = regK tbl fin K [] f6o6 [8] e H := run_regK _ _ _ _ _ _ _ _ _ rfl
def f6body : IC := (.seq f6r0 (.seq (.seq f6r1 (.cond (.t 23) (.seq f6r2 .ret) .skip)) (.seq f6r3 (.seq (.seq f6r4 (.cond (.t 41) (.seq f6r5 .ret) .skip)) (.seq f6r6 .ret)))))
def f6 : IFn := ⟨58, 4, [.tmp 8], f6body⟩
/- 7: jobshell/jobshelllaw48.PromptQuotes -/
@[simp] def f7o0 : List IOper := [
  ⟨(some 2), .box 30 15 (.t 0), none, none⟩,
  ⟨(some 4), .mv (.c (.bool false)), none, none⟩]
def f7r0 : IC := .reg false [] f7o0 [1, 2]
@[simp] theorem f7r0_run : run tbl fin K f7r0 e H = regK tbl fin K [] f7o0 [1, 2] e H := run_regK _ _ _ _ _ _ _ _ _ rfl
@[simp] def f7o1 : List IOper := [
  ⟨(some 7), .load true 15 (.t 2), none, none⟩,
  ⟨(some 8), .call (.c (.fn 8 [])) [(.t 7)], none, none⟩,
  ⟨(some 9), .un .not (.t 8), none, none⟩,
  ⟨(some 10), .mv (.t 9), none, none⟩,
  ⟨(some 11), .mv (.t 1), (some (10, false)), none⟩,
  ⟨(some 12), .slen (.t 11), (some (10, false)), none⟩,
  ⟨(some 13), .bin .gtr (.t 12) (.c (.int .i64 1000)), (some (10, false)), none⟩,
  ⟨(some 14), .pick (.t 10) (.c (.bool true)) (.t 13), none, none⟩]
def f7r1 : IC := .reg false [] f7o1 [14, 1, 2]
@[simp] theorem f7r1_run : run tbl fin K f7r1 e H = regK tbl fin K [] f7o1 [14, 1, 2] e H := run_regK _ _ _ _ _ _ _ _ _ rfl
@[simp] def f7o2 : List IOper := [
  ⟨(some 15), .call (.c (.fn 11 [])) [], none, none⟩,
  ⟨(some 4), .mv (.t 15), none, none⟩]
def f7r2 : IC := .reg false [] f7o2 [4]
@[simp] theorem f7r2_run : run tbl fin K f7r2 e H = regK tbl fin K [] f7o2 [4] e H := run_regK _ _ _ _ _ _ _ _ _ rfl
@[simp] def f7o3 : List IOper := [
  ⟨(some 5), .mv (.c (.str [])), none, none⟩]
def f7r3 : IC := .reg false [] f7o3 [5, 2, 1]
@[simp] theorem f7r3_run : run tbl fin K f7r3 e H = regK tbl fin K [] f7o3 [5, 2, 1] e H := run_regK _ _ _ _ _ _ _ _ _ rfl
@[simp] def f7o4 : List IOper := [
  ⟨(some 6), .mv (.c (.int .i64 0)), none, none⟩]
def f7r4 : IC := .reg false [] f7o4 [5, 6, 2, 1]
@[simp] theorem f7r4_run : run tbl fin K f7r4 e H = regK tbl fin K [] f7o4 [5, 6, 2, 1] e H := run_regK _ _ _ _ _ _ _ _ _ rfl
@[simp] def f7o5 : List IOper := [
  ⟨(some 16), .mv (.t 6), none, none⟩,
  ⟨(some 17), .mv (.t 1), none, none⟩,
  ⟨(some 18), .slen (.t 17), none, none⟩,
  ⟨(some 19), .bin .lss (.t 16) (.t 18), none, none⟩]
def f7r5 : IC := .reg false [] f7o5 [19, 5, 6, 2, 1]
@[simp] theorem f7r5_run : run tbl fin K f7r5 e H = regK tbl fin K [] f7o5 [19, 5, 6, 2, 1] e H := run_regK _ _ _ _ _ _ _ _ _ rfl
@[simp] def f7o6 : List IOper := [
  ⟨(some 22), .mv (.t 1), none, none⟩,
  ⟨(some 23), .mv (.t 6), none, none⟩,
  ⟨(some 24), .sidx (.t 22) (.t 23), none, none⟩,
  ⟨(some 25), .bin .eql (.t 24) (.c (.int .u8 92)), none, none⟩,
  ⟨(some 26), .mv (.t 25), none, none⟩,
  ⟨(some 27), .mv (.t 1), (some (26, false)), none⟩,
  ⟨(some 28), .mv (.t 6), (some (26, false)), none⟩,
  ⟨(some 29), .sidx (.t 27) (.t 28), (some (26, false)), none⟩,
  ⟨(some 30), .bin .eql (.t 29) (.c (.int .u8 36)), (some (26, false)), none⟩,
  ⟨(some 31), .pick (.t 26) (.c (.bool true)) (.t 30), none, none⟩]
def f7r6 : IC := .reg false [] f7o6 [31, 5, 6, 2, 1]
@[simp] theorem f7r6_run : run tbl fin K f7r6 e H = regK tbl fin K [] f7o6 [31, 5, 6, 2, 1] e H := run_regK _ _ _ _ _ _ _ _ _ rfl
@[simp] def f7o7 : List IOper := [
  ⟨(some 32), .mv (.t 5), none, none⟩,
  ⟨(some 33), .bin .add (.t 32) (.c (.str [92])), none, none⟩,
  ⟨(some 5), .mv (.t 33), none, none⟩]
def f7r7 : IC := .reg false [] f7o7 [5, 6, 2, 1]
@[simp] theorem f7r7_run : run tbl fin K f7r7 e H = regK tbl fin K [] f7o7 [5, 6, 2, 1] e H := run_regK _ _ _ _ _ _ _ _ _ rfl
@[simp] def f7o8 : List IOper := [
  ⟨(some 34), .mv (.t 5), none, none⟩,
  ⟨(some 35), .mv (.t 1), none, none⟩,
  ⟨(some 36), .mv (.t 6), none, none⟩,
  ⟨(some 37), .mv (.t 6), none, none⟩,
  ⟨(some 38), .bin .add (.t 37) (.c (.int .i64 1)), none, none⟩,
  ⟨(some 39), .sls (.t 35) (some (.t 36)) (some (.t 38)), none, none⟩,
  ⟨(some 40), .bin .add (.t 34) (.t 39), none, none⟩,
  ⟨(some 5), .mv (.t 40), none, none⟩]
def f7r8 : IC := .reg false [] f7o8 [6, 5, 2, 1]
@[simp] theorem f7r8_run : run tbl fin K f7r8 e H = regK tbl fin K [] f7o8 [6, 5, 2, 1] e H := run_regK _ _ _ _ _ _ _ _ _ rfl
@[simp] def f7o9 : List IOper := [
  ⟨(some 20), .mv (.t 6), none, none⟩,
  ⟨(some 21), .bin .add (.t 20) (.c (.int .i64 1)), none, none⟩,
  ⟨(some 6), .mv (.t 21), none, none⟩]
def f7r9 : IC := .reg false [] f7o9 [5, 6, 2, 1]
@[simp] theorem f7r9_run : run tbl fin K f7r9 e H = regK tbl fin K [] f7o9 [5, 6, 2, 1] e H := run_regK _ _ _ _ _ _ _ _ _ rfl
def f7b10 : IC := (.seq (.seq f7r5 (.cond (.t 19) .skip (.exit 0))) (.seq (.block 1 (.seq (.seq f7r6 (.cond (.t 31) f7r7 .skip)) f7r8)) f7r9))
theorem f7b10_eq : f7b10 = (.seq (.seq f7r5 (.cond (.t 19) .skip (.exit 0))) (.seq (.block 1 (.seq (.seq f7r6 (.cond (.t 31) f7r7 .skip)) f7r8)) f7r9)) := rfl
@[simp] def f7o11 : List IOper := [
  ⟨(some 41), .load true 15 (.t 2), none, none⟩,
  ⟨(some 42), .mv (.t 5), none, none⟩,
  ⟨(some 43), .call (.c (.fn 9 [])) [(.t 41), (.t 42), (.c (.int .i64 1)), (.c (.int .i64 1))], none, none⟩,
  ⟨(some 44), .mv (.t 1), none, none⟩,
  ⟨(some 45), .bin .eql (.t 43) (.t 44), none, none⟩,
  ⟨(some 46), .mv (.t 45), none, none⟩,
  ⟨(some 47), .call (.c (.fn 11 [])) [], (some (46, true)), none⟩,
  ⟨(some 48), .pick (.t 46) (.t 47) (.c (.bool false)), none, none⟩,
  ⟨(some 4), .mv (.t 48), none, none⟩]
def f7r11 : IC := .reg false [] f7o11 [4]
@[simp] theorem f7r11_run : run tbl fin K f7r11 e H = regK tbl fin K [] f7o11 [4] e H := run_regK _ _ _ _ _ _ _ _ _ rfl
def f7body : IC := (.seq f7r0 (.seq (.seq f7r1 (.cond (.t 14) (.seq f7r2 .ret) .skip)) (.seq f7r3 (.seq (.seq f7r4 (.block 0 (.loop [5, 6, 2, 1] f7b10))) (.seq f7r11 .ret)))))
def f7 : IFn := ⟨49, 2, [.tmp 4], f7body⟩
/- 8: jobshell/jobshelllaw48.small -/
@[simp] def f8o0 : List IOper := [
  ⟨(some 1), .box 30 15 (.t 0), none, none⟩,
  ⟨(some 2), .mv (.c (.bool false)), none, none⟩]
def f8r0 : IC := .reg false [] f8o0 [1]
@[simp] theorem f8r0_run : run tbl fin K f8r0 e H = regK tbl fin K [] f8o0 [1] e H := run_regK _ _ _ _ _ _ _ _ _ rfl
@[simp] def f8o1 : List IOper := [
  ⟨(some 5), .fld 1 (.t 1), none, none⟩,
  ⟨(some 6), .load false 1 (.t 5), none, none⟩,
  ⟨(some 7), .len (.t 6), none, none⟩,
  ⟨(some 8), .bin .gtr (.t 7) (.c (.int .i64 20)), none, none⟩,
  ⟨(some 9), .mv (.t 8), none, none⟩,
  ⟨(some 10), .fld 2 (.t 1), (some (9, false)), none⟩,
  ⟨(some 11), .load false 1 (.t 10), (some (9, false)), none⟩,
  ⟨(some 12), .len (.t 11), (some (9, false)), some [12, 9, 1]⟩,
  ⟨(some 13), .bin .gtr (.t 12) (.c (.int .i64 20)), (some (9, false)), none⟩,
  ⟨(some 14), .pick (.t 9) (.c (.bool true)) (.t 13), none, none⟩,
  ⟨(some 15), .mv (.t 14), none, none⟩,
  ⟨(some 16), .fld 10 (.t 1), (some (15, false)), none⟩,
  ⟨(some 17), .load false 1 (.t 16), (some (15, false)), none⟩,
  ⟨(some 18), .slen (.t 17), (some (15, false)), none⟩,
  ⟨(some 19), .bin .gtr (.t 18) (.c (.int .i64 500)), (some (15, false)), none⟩,
  ⟨(some 20), .pick (.t 15) (.c (.bool true)) (.t 19), none, some [20, 1]⟩,
  ⟨(some 21), .mv (.t 20), none, none⟩,
  ⟨(some 22), .fld 0 (.t 1), (some (21, false)), none⟩,
  ⟨(some 23), .load false 1 (.t 22), (some (21, false)), none⟩,
  ⟨(some 24), .slen (.t 23), (some (21, false)), none⟩,
  ⟨(some 25), .bin .gtr (.t 24) (.c (.int .i64 500)), (some (21, false)), none⟩,
  ⟨(some 26), .pick (.t 21) (.c (.bool true)) (.t 25), none, none⟩]
def f8r1 : IC := .reg false [] f8o1 [26, 1]
@[simp] theorem f8r1_run : run tbl fin K f8r1 e H = regK tbl fin K [] f8o1 [26, 1] e H := run_regK _ _ _ _ _ _ _ _ _ rfl
@[simp] def f8o2 : List IOper := [
  ⟨(some 2), .mv (.c (.bool false)), none, none⟩]
def f8r2 : IC := .reg false [] f8o2 [2]
@[simp] theorem f8r2_run : run tbl fin K f8r2 e H = regK tbl fin K [] f8o2 [2] e H := run_regK _ _ _ _ _ _ _ _ _ rfl
@[simp] def f8o3 : List IOper := [
  ⟨(some 3), .mv (.c (.int .i64 0)), none, none⟩]
def f8r3 : IC := .reg false [] f8o3 [1, 3]
@[simp] theorem f8r3_run : run tbl fin K f8r3 e H = regK tbl fin K [] f8o3 [1, 3] e H := run_regK _ _ _ _ _ _ _ _ _ rfl
@[simp] def f8o4 : List IOper := [
  ⟨(some 27), .mv (.t 3), none, none⟩,
  ⟨(some 28), .fld 1 (.t 1), none, none⟩,
  ⟨(some 29), .load false 1 (.t 28), none, none⟩,
  ⟨(some 30), .len (.t 29), none, none⟩,
  ⟨(some 31), .bin .lss (.t 27) (.t 30), none, none⟩]
def f8r4 : IC := .reg false [] f8o4 [31, 1, 3]
@[simp] theorem f8r4_run : run tbl fin K f8r4 e H = regK tbl fin K [] f8o4 [31, 1, 3] e H := run_regK _ _ _ _ _ _ _ _ _ rfl
@[simp] def f8o5 : List IOper := [
  ⟨(some 34), .fld 1 (.t 1), none, none⟩,
  ⟨(some 35), .load false 1 (.t 34), none, none⟩,
  ⟨(some 36), .mv (.t 3), none, none⟩,
  ⟨(some 37), .idx 5 (.t 35) (.t 36), none, none⟩,
  ⟨(some 38), .fld 1 (.t 37), none, none⟩,
  ⟨(some 39), .load false 1 (.t 38), none, none⟩,
  ⟨(some 40), .slen (.t 39), none, none⟩,
  ⟨(some 41), .bin .gtr (.t 40) (.c (.int .i64 500)), none, some [41, 1, 3]⟩,
  ⟨(some 42), .mv (.t 41), none, none⟩,
  ⟨(some 43), .fld 1 (.t 1), (some (42, false)), none⟩,
  ⟨(some 44), .load false 1 (.t 43), (some (42, false)), none⟩,
  ⟨(some 45), .mv (.t 3), (some (42, false)), none⟩,
  ⟨(some 46), .idx 5 (.t 44) (.t 45), (some (42, false)), none⟩,
  ⟨(some 47), .fld 0 (.t 46), (some (42, false)), none⟩,
  ⟨(some 48), .load false 1 (.t 47), (some (42, false)), none⟩,
  ⟨(some 49), .slen (.t 48), (some (42, false)), some [49, 42, 1, 3]⟩,
  ⟨(some 50), .bin .gtr (.t 49) (.c (.int .i64 50)), (some (42, false)), none⟩,
  ⟨(some 51), .pick (.t 42) (.c (.bool true)) (.t 50), none, none⟩]
def f8r5 : IC := .reg false [] f8o5 [51, 1, 3]
@[simp] theorem f8r5_run : run tbl fin K f8r5 e H = regK tbl fin K [] f8o5 [51, 1, 3] e H := run_regK _ _ _ _ _ _ _ _ _ rfl
@[simp] def f8o6 : List IOper := [
  ⟨(some 2), .mv (.c (.bool false)), none, none⟩]
def f8r6 : IC := .reg false [] f8o6 [2]
@[simp] theorem f8r6_run : run tbl fin K f8r6 e H = regK tbl fin K [] f8o6 [2] e H := run_regK _ _ _ _ _ _ _ _ _ rfl
@[simp] def f8o7 : List IOper := [
  ⟨(some 32), .mv (.t 3), none, none⟩,
  ⟨(some 33), .bin .add (.t 32) (.c (.int .i64 1)), none, none⟩,
  ⟨(some 3), .mv (.t 33), none, none⟩]
def f8r7 : IC := .reg false [] f8o7 [1, 3]
@[simp] theorem f8r7_run : run tbl fin K f8r7 e H = regK tbl fin K [] f8o7 [1, 3] e H := run_regK _ _ _ _ _ _ _ _ _ rfl
def f8b8 : IC := (.seq (.seq f8r4 (.cond (.t 31) .skip (.exit 0))) (.seq (.block 1 (.seq f8r5 (.cond (.t 51) (.seq f8r6 .ret) .skip))) f8r7))
theorem f8b8_eq : f8b8 = (.seq (.seq f8r4 (.cond (.t 31) .skip (.exit 0))) (.seq (.block 1 (.seq f8r5 (.cond (.t 51) (.seq f8r6 .ret) .skip))) f8r7)) := rfl
@[simp] def f8o9 : List IOper := [
  ⟨(some 4), .mv (.c (.int .i64 0)), none, none⟩]
def f8r9 : IC := .reg false [] f8o9 [1, 4]
@[simp] theorem f8r9_run : run tbl fin K f8r9 e H = regK tbl fin K [] f8o9 [1, 4] e H := run_regK _ _ _ _ _ _ _ _ _ rfl
@[simp] def f8o10 : List IOper := [
  ⟨(some 52), .mv (.t 4), none, none⟩,
  ⟨(some 53), .fld 2 (.t 1), none, none⟩,
  ⟨(some 54), .load false 1 (.t 53), none, none⟩,
  ⟨(some 55), .len (.t 54), none, none⟩,
  ⟨(some 56), .bin .lss (.t 52) (.t 55), none, none⟩]
def f8r10 : IC := .reg false [] f8o10 [56, 1, 4]
@[simp] theorem f8r10_run : run tbl fin K f8r10 e H = regK tbl fin K [] f8o10 [56, 1, 4] e H := run_regK _ _ _ _ _ _ _ _ _ rfl
@[simp] def f8o11 : List IOper := [
  ⟨(some 59), .fld 2 (.t 1), none, none⟩,
  ⟨(some 60), .load false 1 (.t 59), none, none⟩,
  ⟨(some 61), .mv (.t 4), none, none⟩,
  ⟨(some 62), .idx 1 (.t 60) (.t 61), none, none⟩,
  ⟨(some 63), .load false 1 (.t 62), none, none⟩,
  ⟨(some 64), .slen (.t 63), none, none⟩,
  ⟨(some 65), .bin .gtr (.t 64) (.c (.int .i64 500)), none, none⟩]
def f8r11 : IC := .reg false [] f8o11 [65, 1, 4]
@[simp] theorem f8r11_run : run tbl fin K f8r11 e H = regK tbl fin K [] f8o11 [65, 1, 4] e H := run_regK _ _ _ _ _ _ _ _ _ rfl
@[simp] def f8o12 : List IOper := [
  ⟨(some 2), .mv (.c (.bool false)), none, none⟩]
def f8r12 : IC := .reg false [] f8o12 [2]
@[simp] theorem f8r12_run : run tbl fin K f8r12 e H = regK tbl fin K [] f8o12 [2] e H := run_regK _ _ _ _ _ _ _ _ _ rfl
@[simp] def f8o13 : List IOper := [
  ⟨(some 57), .mv (.t 4), none, none⟩,
  ⟨(some 58), .bin .add (.t 57) (.c (.int .i64 1)), none, none⟩,
  ⟨(some 4), .mv (.t 58), none, none⟩]
def f8r13 : IC := .reg false [] f8o13 [1, 4]
@[simp] theorem f8r13_run : run tbl fin K f8r13 e H = regK tbl fin K [] f8o13 [1, 4] e H := run_regK _ _ _ _ _ _ _ _ _ rfl
def f8b14 : IC := (.seq (.seq f8r10 (.cond (.t 56) .skip (.exit 2))) (.seq (.block 3 (.seq f8r11 (.cond (.t 65) (.seq f8r12 .ret) .skip))) f8r13))
theorem f8b14_eq : f8b14 = (.seq (.seq f8r10 (.cond (.t 56) .skip (.exit 2))) (.seq (.block 3 (.seq f8r11 (.cond (.t 65) (.seq f8r12 .ret) .skip))) f8r13)) := rfl
@[simp] def f8o15 : List IOper := [
  ⟨(some 66), .fld 1 (.t 1), none, none⟩,
  ⟨(some 67), .load false 1 (.t 66), none, none⟩,
  ⟨(some 68), .call (.c (.fn 16 [])) [(.t 67)], none, none⟩,
  ⟨(some 69), .bin .eql (.t 68) (.c (.int .i64 0)), none, none⟩,
  ⟨(some 2), .mv (.t 69), none, none⟩]
def f8r15 : IC := .reg false [] f8o15 [2]
@[simp] theorem f8r15_run : run tbl fin K f8r15 e H = regK tbl fin K [] f8o15 [2] e H := run_regK _ _ _ _ _ _ _ _ _ rfl
def f8body : IC := (.seq f8r0 (.seq (.seq f8r1 (.cond (.t 26) (.seq f8r2 .ret) .skip)) (.seq (.seq f8r3 (.block 0 (.loop [1, 3] f8b8))) (.seq (.seq f8r9 (.block 2 (.loop [1, 4] f8b14))) (.seq f8r15 .ret)))))
def f8 : IFn := ⟨70, 1, [.tmp 2], f8body⟩
/- 9: jobshell/prompt.Expand -/
@[simp] def f9o0 : List IOper := [
  ⟨(some 4), .box 30 15 (.t 0), none, none⟩,
  ⟨(some 8), .mv (.c (.str [])), none, none⟩]
def f9r0 : IC := .reg false [] f9o0 [1, 4, 2, 3]
@[simp] theorem f9r0_run : run tbl fin K f9r0 e H = regK tbl fin K [] f9o0 [1, 4, 2, 3] e H := run_regK _ _ _ _ _ _ _ _ _ rfl
@[simp] def f9o1 : List IOper := [
  ⟨(some 9), .newb 47 5, none, none⟩]
def f9r1 : IC := .reg false [] f9o1 [1, 9, 4, 2, 3]
@[simp] theorem f9r1_run : run tbl fin K f9r1 e H = regK tbl fin K [] f9o1 [1, 9, 4, 2, 3] e H := run_regK _ _ _ _ _ _ _ _ _ rfl
@[simp] def f9o2 : List IOper := [
  ⟨(some 10), .mv (.c (.int .i64 0)), none, none⟩]
def f9r2 : IC := .reg false [] f9o2 [1, 10, 9, 4, 2, 3]
@[simp] theorem f9r2_run : run tbl fin K f9r2 e H = regK tbl fin K [] f9o2 [1, 10, 9, 4, 2, 3] e H := run_regK _ _ _ _ _ _ _ _ _ rfl
@[simp] def f9o3 : List IOper := [
  ⟨(some 15), .mv (.t 1), none, none⟩,
  ⟨(some 16), .rstr (.t 15), none, none⟩]
def f9r3 : IC := .reg false [] f9o3 [16, 1, 10, 9, 4, 2, 3]
@[simp] theorem f9r3_run : run tbl fin K f9r3 e H = regK tbl fin K [] f9o3 [16, 1, 10, 9, 4, 2, 3] e H := run_regK _ _ _ _ _ _ _ _ _ rfl
@[simp] def f9o4 : List IOper := [
  ⟨(some 17), .nstr (.t 16), none, none⟩,
  ⟨(some 18), .ext (.t 17) 0, none, none⟩]
def f9r4 : IC := .reg false [] f9o4 [18, 17, 16, 1, 10, 9, 4, 2, 3]
@[simp] theorem f9r4_run : run tbl fin K f9r4 e H = regK tbl fin K [] f9o4 [18, 17, 16, 1, 10, 9, 4, 2, 3] e H := run_regK _ _ _ _ _ _ _ _ _ rfl
@[simp] def f9o5 : List IOper := [
  ⟨(some 19), .ext (.t 17) 1, none, none⟩,
  ⟨(some 20), .ext (.t 17) 2, none, none⟩,
  ⟨(some 11), .mv (.t 19), none, none⟩,
  ⟨(some 12), .mv (.t 20), none, none⟩]
def f9r5 : IC := .reg false [] f9o5 [11, 12, 16, 1, 10, 9, 4, 2, 3]
@[simp] theorem f9r5_run : run tbl fin K f9r5 e H = regK tbl fin K [] f9o5 [11, 12, 16, 1, 10, 9, 4, 2, 3] e H := run_regK _ _ _ _ _ _ _ _ _ rfl
@[simp] def f9o6 : List IOper := [
  ⟨(some 21), .mv (.t 11), none, none⟩,
  ⟨(some 22), .mv (.t 10), none, none⟩,
  ⟨(some 23), .bin .lss (.t 21) (.t 22), none, none⟩,
  ⟨(some 24), .mv (.t 23), none, none⟩,
  ⟨(some 25), .mv (.t 12), (some (24, false)), none⟩,
  ⟨(some 26), .bin .neq (.t 25) (.c (.int .i32 92)), (some (24, false)), none⟩,
  ⟨(some 27), .mv (.t 26), (some (24, false)), none⟩,
  ⟨(some 28), .mv (.t 12), (some (27, true)), none⟩,
  ⟨(some 29), .bin .neq (.t 28) (.c (.int .i32 36)), (some (27, true)), none⟩,
  ⟨(some 30), .pick (.t 27) (.t 29) (.c (.bool false)), (some (24, false)), none⟩,
  ⟨(some 31), .pick (.t 24) (.c (.bool true)) (.t 30), none, none⟩]
def f9r6 : IC := .reg false [] f9o6 [31, 11, 12, 16, 1, 10, 9, 4, 2, 3]
@[simp] theorem f9r6_run : run tbl fin K f9r6 e H = regK tbl fin K [] f9o6 [31, 11, 12, 16, 1, 10, 9, 4, 2, 3] e H := run_regK _ _ _ _ _ _ _ _ _ rfl
@[simp] def f9o7 : List IOper := [
  ⟨(some 13), .mv (.c (.str [])), none, none⟩,
  ⟨(some 14), .mv (.c (.int .i64 0)), none, none⟩]
def f9r7 : IC := .reg false [] f9o7 [12, 11, 16, 1, 10, 9, 4, 2, 3]
@[simp] theorem f9r7_run : run tbl fin K f9r7 e H = regK tbl fin K [] f9o7 [12, 11, 16, 1, 10, 9, 4, 2, 3] e H := run_regK _ _ _ _ _ _ _ _ _ rfl
@[simp] def f9o8 : List IOper := [
  ⟨(some 32), .mv (.t 12), none, none⟩,
  ⟨(some 33), .bin .eql (.t 32) (.c (.int .i32 36)), none, none⟩]
def f9r8 : IC := .reg false [] f9o8 [33, 11, 16, 1, 10, 9, 4, 2, 3]
@[simp] theorem f9r8_run : run tbl fin K f9r8 e H = regK tbl fin K [] f9o8 [33, 11, 16, 1, 10, 9, 4, 2, 3] e H := run_regK _ _ _ _ _ _ _ _ _ rfl
@[simp] def f9o9 : List IOper := [
  ⟨(some 35), .load true 15 (.t 4), none, none⟩,
  ⟨(some 36), .mv (.t 1), none, none⟩,
  ⟨(some 37), .mv (.t 11), none, none⟩,
  ⟨(some 38), .sls (.t 36) (some (.t 37)) none, none, none⟩,
  ⟨(some 39), .call (.c (.fn 17 [])) [(.t 35), (.t 38)], none, none⟩,
  ⟨(some 34), .mv (.t 39), none, none⟩,
  ⟨(some 40), .ext (.t 34) 0, none, none⟩,
  ⟨(some 41), .ext (.t 34) 1, none, none⟩,
  ⟨(some 13), .mv (.t 40), none, none⟩,
  ⟨(some 14), .mv (.t 41), none, none⟩]
def f9r9 : IC := .reg true [] f9o9 [14, 11, 13, 16, 1, 10, 9, 4, 2, 3]
@[simp] theorem f9r9_run : run tbl fin K f9r9 e H = regK tbl fin K [] f9o9 [14, 11, 13, 16, 1, 10, 9, 4, 2, 3] e H := run_regK _ _ _ _ _ _ _ _ _ rfl
@[simp] def f9o10 : List IOper := [
  ⟨(some 43), .load true 15 (.t 4), none, none⟩,
  ⟨(some 44), .mv (.t 1), none, none⟩,
  ⟨(some 45), .mv (.t 11), none, none⟩,
  ⟨(some 46), .sls (.t 44) (some (.t 45)) none, none, none⟩,
  ⟨(some 47), .mv (.t 2), none, none⟩,
  ⟨(some 48), .mv (.t 3), none, none⟩,
  ⟨(some 49), .call (.c (.fn 18 [])) [(.t 43), (.t 46), (.t 47), (.t 48)], none, none⟩,
  ⟨(some 42), .mv (.t 49), none, none⟩,
  ⟨(some 50), .ext (.t 42) 0, none, none⟩,
  ⟨(some 51), .ext (.t 42) 1, none, none⟩,
  ⟨(some 13), .mv (.t 50), none, none⟩,
  ⟨(some 14), .mv (.t 51), none, none⟩]
def f9r10 : IC := .reg true [] f9o10 [14, 11, 13, 16, 1, 10, 9, 4, 2, 3]
@[simp] theorem f9r10_run : run tbl fin K f9r10 e H = regK tbl fin K [] f9o10 [14, 11, 13, 16, 1, 10, 9, 4, 2, 3] e H := run_regK _ _ _ _ _ _ _ _ _ rfl
@[simp] def f9o11 : List IOper := [
  ⟨(some 52), .mv (.t 14), none, none⟩,
  ⟨(some 53), .bin .eql (.t 52) (.c (.int .i64 0)), none, none⟩]
def f9r11 : IC := .reg false [] f9o11 [53, 14, 11, 13, 16, 1, 10, 9, 4, 2, 3]
@[simp] theorem f9r11_run : run tbl fin K f9r11 e H = regK tbl fin K [] f9o11 [53, 14, 11, 13, 16, 1, 10, 9, 4, 2, 3] e H := run_regK _ _ _ _ _ _ _ _ _ rfl
@[simp] def f9o12 : List IOper := [
  ⟨(some 54), .mv (.t 1), none, none⟩,
  ⟨(some 55), .mv (.t 10), none, none⟩,
  ⟨(some 56), .mv (.t 11), none, none⟩,
  ⟨(some 57), .sls (.t 54) (some (.t 55)) (some (.t 56)), none, none⟩,
  ⟨(some 58), .ocall (.c (.fn 19 [])) [(.t 9), (.t 57)], none, none⟩]
def f9r12 : IC := .reg false [] f9o12 [13, 11, 14, 3, 2, 4, 1, 16, 9]
@[simp] theorem f9r12_run : run tbl fin K f9r12 e H = regK tbl fin K [] f9o12 [13, 11, 14, 3, 2, 4, 1, 16, 9] e H := run_regK _ _ _ _ _ _ _ _ _ rfl
@[simp] def f9o13 : List IOper := [
  ⟨(some 59), .mv (.t 13), none, none⟩,
  ⟨(some 60), .ocall (.c (.fn 19 [])) [(.t 9), (.t 59)], none, none⟩]
def f9r13 : IC := .reg false [] f9o13 [11, 14, 3, 2, 4, 1, 16, 9]
@[simp] theorem f9r13_run : run tbl fin K f9r13 e H = regK tbl fin K [] f9o13 [11, 14, 3, 2, 4, 1, 16, 9] e H := run_regK _ _ _ _ _ _ _ _ _ rfl
@[simp] def f9o14 : List IOper := [
  ⟨(some 61), .mv (.t 11), none, none⟩,
  ⟨(some 62), .mv (.t 14), none, none⟩,
  ⟨(some 63), .bin .add (.t 61) (.t 62), none, none⟩,
  ⟨(some 10), .mv (.t 63), none, none⟩]
def f9r14 : IC := .reg false [] f9o14 [3, 2, 4, 10, 1, 16, 9]
@[simp] theorem f9r14_run : run tbl fin K f9r14 e H = regK tbl fin K [] f9o14 [3, 2, 4, 10, 1, 16, 9] e H := run_regK _ _ _ _ _ _ _ _ _ rfl
@[simp] def f9o15 : List IOper := [
  ⟨(some 64), .ocall (.c (.fn 20 [])) [(.t 9)], none, none⟩,
  ⟨(some 65), .bin .geq (.t 64) (.c (.int .i64 4096)), none, none⟩]
def f9r15 : IC := .reg false [] f9o15 [65, 3, 2, 4, 10, 1, 16, 9]
@[simp] theorem f9r15_run : run tbl fin K f9r15 e H = regK tbl fin K [] f9o15 [65, 3, 2, 4, 10, 1, 16, 9] e H := run_regK _ _ _ _ _ _ _ _ _ rfl
@[simp] def f9o16 : List IOper := [
  ⟨(some 66), .ocall (.c (.fn 21 [])) [(.t 9)], none, none⟩,
  ⟨(some 67), .sls (.t 66) none (some (.c (.int .i64 4096))), none, none⟩,
  ⟨(some 8), .mv (.t 67), none, none⟩]
def f9r16 : IC := .reg false [] f9o16 [8]
@[simp] theorem f9r16_run : run tbl fin K f9r16 e H = regK tbl fin K [] f9o16 [8] e H := run_regK _ _ _ _ _ _ _ _ _ rfl
def f9b17 : IC := (.seq f9r4 (.seq (.cond (.t 18) .skip (.exit 0)) (.block 1 (.seq f9r5 (.seq (.seq f9r6 (.cond (.t 31) (.exit 1) .skip)) (.seq f9r7 (.seq (.seq f9r8 (.cond (.t 33) f9r9 f9r10)) (.seq (.seq f9r11 (.cond (.t 53) (.exit 1) .skip)) (.seq f9r12 (.seq f9r13 (.seq f9r14 (.seq f9r15 (.cond (.t 65) (.seq f9r16 .ret) .skip)))))))))))))
theorem f9b17_eq : f9b17 = (.seq f9r4 (.seq (.cond (.t 18) .skip (.exit 0)) (.block 1 (.seq f9r5 (.seq (.seq f9r6 (.cond (.t 31) (.exit 1) .skip)) (.seq f9r7 (.seq (.seq f9r8 (.cond (.t 33) f9r9 f9r10)) (.seq (.seq f9r11 (.cond (.t 53) (.exit 1) .skip)) (.seq f9r12 (.seq f9r13 (.seq f9r14 (.seq f9r15 (.cond (.t 65) (.seq f9r16 .ret) .skip))))))))))))) := rfl
@[simp] def f9o18 : List IOper := [
  ⟨(some 68), .mv (.t 1), none, none⟩,
  ⟨(some 69), .mv (.t 10), none, none⟩,
  ⟨(some 70), .sls (.t 68) (some (.t 69)) none, none, none⟩,
  ⟨(some 71), .ocall (.c (.fn 19 [])) [(.t 9), (.t 70)], none, none⟩]
def f9r18 : IC := .reg false [] f9o18 [9]
@[simp] theorem f9r18_run : run tbl fin K f9r18 e H = regK tbl fin K [] f9o18 [9] e H := run_regK _ _ _ _ _ _ _ _ _ rfl
@[simp] def f9o19 : List IOper := [
  ⟨(some 72), .ocall (.c (.fn 21 [])) [(.t 9)], none, none⟩,
  ⟨(some 73), .ocall (.c (.fn 20 [])) [(.t 9)], none, none⟩,
  ⟨(some 74), .mn (.t 73) (.c (.int .i64 4096)), none, none⟩,
  ⟨(some 75), .sls (.t 72) none (some (.t 74)), none, none⟩,
  ⟨(some 8), .mv (.t 75), none, none⟩]
def f9r19 : IC := .reg false [] f9o19 [8]
@[simp] theorem f9r19_run : run tbl fin K f9r19 e H = regK tbl fin K [] f9o19 [8] e H := run_regK _ _ _ _ _ _ _ _ _ rfl
def f9body : IC := (.seq f9r0 (.seq f9r1 (.seq f9r2 (.seq (.seq f9r3 (.block 0 (.loop [16, 1, 10, 9, 4, 2, 3] f9b17))) (.seq f9r18 (.seq f9r19 .ret))))))
def f9 : IFn := ⟨76, 4, [.tmp 8], f9body⟩
/- 10: jobshell/jobshellref48.Expand -/
@[simp] def f10o0 : List IOper := [
  ⟨(some 4), .box 30 15 (.t 0), none, none⟩,
  ⟨(some 8), .mv (.c (.str [])), none, none⟩]
def f10r0 : IC := .reg false [] f10o0 [2, 3, 4, 1]
@[simp] theorem f10r0_run : run tbl fin K f10r0 e H = regK tbl fin K [] f10o0 [2, 3, 4, 1] e H := run_regK _ _ _ _ _ _ _ _ _ rfl
@[simp] def f10o1 : List IOper := [
  ⟨(some 9), .mv (.c (.str [])), none, none⟩]
def f10r1 : IC := .reg false [] f10o1 [9, 2, 3, 4, 1]
@[simp] theorem f10r1_run : run tbl fin K f10r1 e H = regK tbl fin K [] f10o1 [9, 2, 3, 4, 1] e H := run_regK _ _ _ _ _ _ _ _ _ rfl
@[simp] def f10o2 : List IOper := [
  ⟨(some 10), .mv (.c (.int .i64 0)), none, none⟩]
def f10r2 : IC := .reg false [] f10o2 [9, 10, 2, 3, 4, 1]
@[simp] theorem f10r2_run : run tbl fin K f10r2 e H = regK tbl fin K [] f10o2 [9, 10, 2, 3, 4, 1] e H := run_regK _ _ _ _ _ _ _ _ _ rfl
@[simp] def f10o3 : List IOper := [
  ⟨(some 15), .mv (.t 10), none, none⟩,
  ⟨(some 16), .mv (.t 1), none, none⟩,
  ⟨(some 17), .slen (.t 16), none, none⟩,
  ⟨(some 18), .bin .lss (.t 15) (.t 17), none, none⟩,
  ⟨(some 19), .mv (.t 18), none, none⟩,
  ⟨(some 20), .mv (.t 9), (some (19, true)), none⟩,
  ⟨(some 21), .slen (.t 20), (some (19, true)), none⟩,
  ⟨(some 22), .bin .leq (.t 21) (.c (.int .i64 4096)), (some (19, true)), none⟩,
  ⟨(some 23), .pick (.t 19) (.t 22) (.c (.bool false)), none, none⟩]
def f10r3 : IC := .reg false [] f10o3 [23, 9, 10, 2, 3, 4, 1]
@[simp] theorem f10r3_run : run tbl fin K f10r3 e H = regK tbl fin K [] f10o3 [23, 9, 10, 2, 3, 4, 1] e H := run_regK _ _ _ _ _ _ _ _ _ rfl
@[simp] def f10o4 : List IOper := [
  ⟨(some 24), .mv (.t 1), none, none⟩,
  ⟨(some 25), .mv (.t 10), none, none⟩,
  ⟨(some 26), .sidx (.t 24) (.t 25), none, none⟩,
  ⟨(some 27), .bin .eql (.t 26) (.c (.int .u8 92)), none, none⟩,
  ⟨(some 28), .mv (.t 27), none, none⟩,
  ⟨(some 29), .mv (.t 10), (some (28, true)), none⟩,
  ⟨(some 30), .bin .add (.t 29) (.c (.int .i64 1)), (some (28, true)), none⟩,
  ⟨(some 31), .mv (.t 1), (some (28, true)), none⟩,
  ⟨(some 32), .slen (.t 31), (some (28, true)), none⟩,
  ⟨(some 33), .bin .lss (.t 30) (.t 32), (some (28, true)), none⟩,
  ⟨(some 34), .pick (.t 28) (.t 33) (.c (.bool false)), none, none⟩]
def f10r4 : IC := .reg false [] f10o4 [34, 9, 10, 2, 3, 4, 1]
@[simp] theorem f10r4_run : run tbl fin K f10r4 e H = regK tbl fin K [] f10o4 [34, 9, 10, 2, 3, 4, 1] e H := run_regK _ _ _ _ _ _ _ _ _ rfl
@[simp] def f10o5 : List IOper := [
  ⟨(some 36), .load true 15 (.t 4), none, none⟩,
  ⟨(some 37), .mv (.t 1), none, none⟩,
  ⟨(some 38), .mv (.t 10), none, none⟩,
  ⟨(some 39), .bin .add (.t 38) (.c (.int .i64 1)), none, none⟩,
  ⟨(some 40), .sidx (.t 37) (.t 39), none, none⟩,
  ⟨(some 41), .mv (.t 2), none, none⟩,
  ⟨(some 42), .mv (.t 3), none, none⟩,
  ⟨(some 43), .call (.c (.fn 22 [])) [(.t 36), (.t 40), (.t 41), (.t 42)], none, none⟩,
  ⟨(some 35), .mv (.t 43), none, none⟩,
  ⟨(some 44), .ext (.t 35) 0, none, none⟩,
  ⟨(some 45), .ext (.t 35) 1, none, none⟩,
  ⟨(some 11), .mv (.t 44), none, none⟩,
  ⟨(some 12), .mv (.t 45), none, none⟩]
def f10r5 : IC := .reg true [] f10o5 [12, 9, 11, 10, 2, 3, 4, 1]
@[simp] theorem f10r5_run : run tbl fin K f10r5 e H = regK tbl fin K [] f10o5 [12, 9, 11, 10, 2, 3, 4, 1] e H := run_regK _ _ _ _ _ _ _ _ _ rfl
@[simp] def f10o6 : List IOper := [
  ⟨(some 46), .mv (.t 12), none, none⟩]
def f10r6 : IC := .reg false [] f10o6 [46, 9, 11, 10, 2, 3, 4, 1]
@[simp] theorem f10r6_run : run tbl fin K f10r6 e H = regK tbl fin K [] f10o6 [46, 9, 11, 10, 2, 3, 4, 1] e H := run_regK _ _ _ _ _ _ _ _ _ rfl
@[simp] def f10o7 : List IOper := [
  ⟨(some 47), .mv (.t 9), none, none⟩,
  ⟨(some 48), .mv (.t 11), none, none⟩,
  ⟨(some 49), .bin .add (.t 47) (.t 48), none, none⟩,
  ⟨(some 50), .mv (.t 10), none, none⟩,
  ⟨(some 51), .bin .add (.t 50) (.c (.int .i64 2)), none, none⟩,
  ⟨(some 9), .mv (.t 49), none, none⟩,
  ⟨(some 10), .mv (.t 51), none, none⟩]
def f10r7 : IC := .reg false [] f10o7 [9, 10, 2, 3, 4, 1]
@[simp] theorem f10r7_run : run tbl fin K f10r7 e H = regK tbl fin K [] f10o7 [9, 10, 2, 3, 4, 1] e H := run_regK _ _ _ _ _ _ _ _ _ rfl
@[simp] def f10o8 : List IOper := [
  ⟨(some 52), .mv (.t 1), none, none⟩,
  ⟨(some 53), .mv (.t 10), none, none⟩,
  ⟨(some 54), .sidx (.t 52) (.t 53), none, none⟩,
  ⟨(some 55), .bin .eql (.t 54) (.c (.int .u8 36)), none, none⟩]
def f10r8 : IC := .reg false [] f10o8 [55, 10, 9, 2, 3, 4, 1]
@[simp] theorem f10r8_run : run tbl fin K f10r8 e H = regK tbl fin K [] f10o8 [55, 10, 9, 2, 3, 4, 1] e H := run_regK _ _ _ _ _ _ _ _ _ rfl
@[simp] def f10o9 : List IOper := [
  ⟨(some 57), .mv (.t 1), none, none⟩,
  ⟨(some 58), .mv (.t 10), none, none⟩,
  ⟨(some 59), .call (.c (.fn 23 [])) [(.t 57), (.t 58)], none, none⟩,
  ⟨(some 56), .mv (.t 59), none, none⟩,
  ⟨(some 60), .ext (.t 56) 0, none, none⟩,
  ⟨(some 61), .ext (.t 56) 1, none, none⟩,
  ⟨(some 13), .mv (.t 60), none, none⟩,
  ⟨(some 14), .mv (.t 61), none, none⟩]
def f10r9 : IC := .reg false [] f10o9 [10, 9, 13, 14, 2, 3, 4, 1]
@[simp] theorem f10r9_run : run tbl fin K f10r9 e H = regK tbl fin K [] f10o9 [10, 9, 13, 14, 2, 3, 4, 1] e H := run_regK _ _ _ _ _ _ _ _ _ rfl
@[simp] def f10o10 : List IOper := [
  ⟨(some 62), .mv (.t 14), none, none⟩,
  ⟨(some 63), .mv (.t 10), none, none⟩,
  ⟨(some 64), .bin .gtr (.t 62) (.t 63), none, none⟩]
def f10r10 : IC := .reg false [] f10o10 [64, 10, 9, 13, 14, 2, 3, 4, 1]
@[simp] theorem f10r10_run : run tbl fin K f10r10 e H = regK tbl fin K [] f10o10 [64, 10, 9, 13, 14, 2, 3, 4, 1] e H := run_regK _ _ _ _ _ _ _ _ _ rfl
@[simp] def f10o11 : List IOper := [
  ⟨(some 65), .mv (.t 9), none, none⟩,
  ⟨(some 66), .load true 15 (.t 4), none, none⟩,
  ⟨(some 67), .mv (.t 13), none, none⟩,
  ⟨(some 68), .call (.c (.fn 24 [])) [(.t 66), (.t 67)], none, none⟩,
  ⟨(some 69), .bin .add (.t 65) (.t 68), none, none⟩,
  ⟨(some 70), .mv (.t 14), none, none⟩,
  ⟨(some 9), .mv (.t 69), none, none⟩,
  ⟨(some 10), .mv (.t 70), none, none⟩]
def f10r11 : IC := .reg false [] f10o11 [9, 10, 2, 3, 4, 1]
@[simp] theorem f10r11_run : run tbl fin K f10r11 e H = regK tbl fin K [] f10o11 [9, 10, 2, 3, 4, 1] e H := run_regK _ _ _ _ _ _ _ _ _ rfl
@[simp] def f10o12 : List IOper := [
  ⟨(some 71), .mv (.t 9), none, none⟩,
  ⟨(some 72), .mv (.t 1), none, none⟩,
  ⟨(some 73), .mv (.t 10), none, none⟩,
  ⟨(some 74), .mv (.t 10), none, none⟩,
  ⟨(some 75), .bin .add (.t 74) (.c (.int .i64 1)), none, none⟩,
  ⟨(some 76), .sls (.t 72) (some (.t 73)) (some (.t 75)), none, none⟩,
  ⟨(some 77), .bin .add (.t 71) (.t 76), none, none⟩,
  ⟨(some 78), .mv (.t 10), none, none⟩,
  ⟨(some 79), .bin .add (.t 78) (.c (.int .i64 1)), none, none⟩,
  ⟨(some 9), .mv (.t 77), none, none⟩,
  ⟨(some 10), .mv (.t 79), none, none⟩]
def f10r12 : IC := .reg false [] f10o12 [9, 10, 2, 3, 4, 1]
@[simp] theorem f10r12_run : run tbl fin K f10r12 e H = regK tbl fin K [] f10o12 [9, 10, 2, 3, 4, 1] e H := run_regK _ _ _ _ _ _ _ _ _ rfl
def f10b13 : IC := (.seq (.seq f10r3 (.cond (.t 23) .skip (.exit 0))) (.block 1 (.seq (.seq f10r4 (.cond (.t 34) (.seq f10r5 (.seq f10r6 (.cond (.t 46) (.seq f10r7 (.exit 1)) .skip))) .skip)) (.seq (.seq f10r8 (.cond (.t 55) (.seq f10r9 (.seq f10r10 (.cond (.t 64) (.seq f10r11 (.exit 1)) .skip))) .skip)) f10r12))))
theorem f10b13_eq : f10b13 = (.seq (.seq f10r3 (.cond (.t 23) .skip (.exit 0))) (.block 1 (.seq (.seq f10r4 (.cond (.t 34) (.seq f10r5 (.seq f10r6 (.cond (.t 46) (.seq f10r7 (.exit 1)) .skip))) .skip)) (.seq (.seq f10r8 (.cond (.t 55) (.seq f10r9 (.seq f10r10 (.cond (.t 64) (.seq f10r11 (.exit 1)) .skip))) .skip)) f10r12)))) := rfl
@[simp] def f10o14 : List IOper := [
  ⟨(some 80), .mv (.t 9), none, none⟩,
  ⟨(some 81), .slen (.t 80), none, none⟩,
  ⟨(some 82), .bin .gtr (.t 81) (.c (.int .i64 4096)), none, none⟩]
def f10r14 : IC := .reg false [] f10o14 [82, 9]
@[simp] theorem f10r14_run : run tbl fin K f10r14 e H = regK tbl fin K [] f10o14 [82, 9] e H := run_regK _ _ _ _ _ _ _ _ _ rfl
@[simp] def f10o15 : List IOper := [
  ⟨(some 83), .mv (.t 9), none, none⟩,
  ⟨(some 84), .sls (.t 83) none (some (.c (.int .i64 4096))), none, none⟩,
  ⟨(some 9), .mv (.t 84), none, none⟩]
def f10r15 : IC := .reg false [] f10o15 [9]
@[simp] theorem f10r15_run : run tbl fin K f10r15 e H = regK tbl fin K [] f10o15 [9] e H := run_regK _ _ _ _ _ _ _ _ _ rfl
@[simp] def f10o16 : List IOper := [
  ⟨(some 85), .mv (.t 9), none, none⟩,
  ⟨(some 8), .mv (.t 85), none, none⟩]
def f10r16 : IC := .reg false [] f10o16 [8]
@[simp] theorem f10r16_run : run tbl fin K f10r16 e H = regK tbl fin K [] f10o16 [8] e H := run_regK _ _ _ _ _ _ _ _ _ rfl
def f10body : IC := (.seq f10r0 (.seq f10r1 (.seq f10r2 (.seq (.block 0 (.loop [9, 10, 2, 3, 4, 1] f10b13)) (.seq (.seq f10r14 (.cond (.t 82) f10r15 .skip)) (.seq f10r16 .ret))))))
def f10 : IFn := ⟨86, 4, [.tmp 8], f10body⟩
/- 11: jobshell/jobshelllaw48.awake -/
@[simp] def f11o0 : List IOper := [
  ⟨(some 0), .mv (.c (.bool false)), none, none⟩]
def f11r0 : IC := .reg false [] f11o0 []
@[simp] theorem f11r0_run : run tbl fin K f11r0 e H = regK tbl fin K [] f11o0 [] e H := run_regK _ _ _ _ _ _ _ _ _ rfl
@[simp] def f11o1 : List IOper := [
  ⟨(some 2), .mkrow 9 1 1 (.str []) [(0, (.c (.str [112])))], none, none⟩,
  ⟨(some 3), .build [(.str []), (.str []), (.bool false), (.bool false), (.bool false)] [(0, 1, (.c (.str [85, 83, 69, 82]))), (1, 1, (.c (.str [97, 110, 110]))), (2, 1, (.c (.bool true)))], none, none⟩,
  ⟨(some 4), .mkrow 42 5 1 (.agg [(.str []), (.str []), (.bool false), (.bool false), (.bool false)]) [(0, (.t 3))], none, none⟩,
  ⟨(some 5), .build [(.str []), .e0, .e0, .e0, .e0, .e0, (.int .i64 0), (.int .i64 0), (.int .i64 0), (.int .i64 0), (.str []), (.int .i64 0), (.int .i64 0), (.int .i64 0), (.bool false)] [(10, 1, (.c (.str [47, 97]))), (7, 1, (.c (.int .i64 3))), (2, 1, (.t 2)), (1, 1, (.t 4))], none, none⟩,
  ⟨(some 1), .new 30 15 (.agg [(.str []), .e0, .e0, .e0, .e0, .e0, (.int .i64 0), (.int .i64 0), (.int .i64 0), (.int .i64 0), (.str []), (.int .i64 0), (.int .i64 0), (.int .i64 0), (.bool false)]), none, none⟩,
  ⟨none, .store 15 (.t 1) (.t 5), none, none⟩]
def f11r1 : IC := .reg false [] f11o1 [1]
@[simp] theorem f11r1_run : run tbl fin K f11r1 e H = regK tbl fin K [] f11o1 [1] e H := run_regK _ _ _ _ _ _ _ _ _ rfl
@[simp] def f11o2 : List IOper := [
  ⟨(some 6), .load true 15 (.t 1), none, none⟩,
  ⟨(some 7), .call (.c (.fn 9 [])) [(.t 6), (.c (.str [92, 117, 58, 92, 119, 32, 92, 106, 32, 92, 33, 92, 36, 32])), (.c (.int .i64 2)), (.c (.int .i64 7))], none, none⟩,
  ⟨(some 8), .bin .eql (.t 7) (.c (.str [97, 110, 110, 58, 47, 97, 32, 50, 32, 55, 36, 32])), none, none⟩,
  ⟨(some 9), .mv (.t 8), none, none⟩,
  ⟨(some 10), .load true 15 (.t 1), (some (9, true)), none⟩,
  ⟨(some 11), .call (.c (.fn 9 [])) [(.t 10), (.c (.str [92, 120, 92])), (.c (.int .i64 0)), (.c (.int .i64 0))], (some (9, true)), none⟩,
  ⟨(some 12), .bin .eql (.t 11) (.c (.str [92, 120, 92])), (some (9, true)), none⟩,
  ⟨(some 13), .pick (.t 9) (.t 12) (.c (.bool false)), none, some [13, 1]⟩,
  ⟨(some 14), .mv (.t 13), none, none⟩,
  ⟨(some 15), .load true 15 (.t 1), (some (14, true)), none⟩,
  ⟨(some 16), .call (.c (.fn 9 [])) [(.t 15), (.c (.str [91, 36, 63, 93, 32, 36, 49, 32, 36, 123, 49, 125, 120, 32, 36, 121, 46])), (.c (.int .i64 0)), (.c (.int .i64 0))], (some (14, true)), none⟩,
  ⟨(some 17), .bin .eql (.t 16) (.c (.str [91, 51, 93, 32, 112, 32, 112, 120, 32, 46])), (some (14, true)), none⟩,
  ⟨(some 18), .pick (.t 14) (.t 17) (.c (.bool false)), none, none⟩,
  ⟨(some 19), .mv (.t 18), none, none⟩,
  ⟨(some 20), .load true 15 (.t 1), (some (19, true)), none⟩,
  ⟨(some 21), .call (.c (.fn 9 [])) [(.t 20), (.c (.str [36, 123, 97, 45, 98, 125, 32, 36, 123])), (.c (.int .i64 0)), (.c (.int .i64 0))], (some (19, true)), some [21, 19, 1]⟩,
  ⟨(some 22), .bin .eql (.t 21) (.c (.str [36, 123, 97, 45, 98, 125, 32, 36, 123])), (some (19, true)), none⟩,
  ⟨(some 23), .pick (.t 19) (.t 22) (.c (.bool false)), none, none⟩,
  ⟨(some 24), .mv (.t 23), none, none⟩,
  ⟨(some 25), .load true 15 (.t 1), (some (24, true)), none⟩,
  ⟨(some 26), .call (.c (.fn 12 [])) [(.t 25), (.c (.int .i64 0)), (.c (.int .i64 0))], (some (24, true)), none⟩,
  ⟨(some 27), .bin .eql (.t 26) (.c (.str [36, 32])), (some (24, true)), none⟩,
  ⟨(some 28), .pick (.t 24) (.t 27) (.c (.bool false)), none, none⟩,
  ⟨(some 29), .mv (.t 28), none, some [1, 29]⟩,
  ⟨(some 30), .load true 15 (.t 1), (some (29, true)), none⟩,
  ⟨(some 31), .call (.c (.fn 14 [])) [(.t 30)], (some (29, true)), none⟩,
  ⟨(some 32), .bin .eql (.t 31) (.c (.str [62, 32])), (some (29, true)), none⟩,
  ⟨(some 33), .pick (.t 29) (.t 32) (.c (.bool false)), none, none⟩,
  ⟨(some 0), .mv (.t 33), none, none⟩]
def f11r2 : IC := .reg false [] f11o2 [0]
@[simp] theorem f11r2_run : run tbl fin K f11r2 e H = regK tbl fin K [] f11o2 [0] e H := run_regK _ _ _ _ _ _ _ _ _ rfl
def f11body : IC := (.seq f11r0 (.seq f11r1 (.seq f11r2 .ret)))
def f11 : IFn := ⟨34, 0, [.tmp 0], f11body⟩
/- 12: jobshell/prompt.First -/
@[simp] def f12o0 : List IOper := [
  ⟨(some 3), .box 30 15 (.t 0), none, none⟩,
  ⟨(some 6), .mv (.c (.str [])), none, none⟩]
def f12r0 : IC := .reg false [] f12o0 [2, 1, 3]
@[simp] theorem f12r0_run : run tbl fin K f12r0 e H = regK tbl fin K [] f12o0 [2, 1, 3] e H := run_regK _ _ _ _ _ _ _ _ _ rfl
@[simp] def f12o1 : List IOper := [
  ⟨(some 10), .load true 15 (.t 3), none, none⟩,
  ⟨(some 11), .call (.c (.fn 25 [])) [(.t 10), (.c (.str [80, 83, 49]))], none, none⟩,
  ⟨(some 9), .mv (.t 11), none, none⟩,
  ⟨(some 12), .ext (.t 9) 0, none, none⟩,
  ⟨(some 13), .ext (.t 9) 1, none, none⟩,
  ⟨(some 7), .mv (.t 12), none, none⟩,
  ⟨(some 8), .mv (.t 13), none, none⟩]
def f12r1 : IC := .reg false [] f12o1 [8, 2, 1, 7, 3]
@[simp] theorem f12r1_run : run tbl fin K f12r1 e H = regK tbl fin K [] f12o1 [8, 2, 1, 7, 3] e H := run_regK _ _ _ _ _ _ _ _ _ rfl
@[simp] def f12o2 : List IOper := [
  ⟨(some 14), .mv (.t 8), none, none⟩,
  ⟨(some 15), .un .not (.t 14), none, none⟩]
def f12r2 : IC := .reg false [] f12o2 [15, 2, 1, 7, 3]
@[simp] theorem f12r2_run : run tbl fin K f12r2 e H = regK tbl fin K [] f12o2 [15, 2, 1, 7, 3] e H := run_regK _ _ _ _ _ _ _ _ _ rfl
@[simp] def f12o3 : List IOper := [
  ⟨(some 6), .mv (.c (.str [36, 32])), none, none⟩]
def f12r3 : IC := .reg false [] f12o3 [6]
@[simp] theorem f12r3_run : run tbl fin K f12r3 e H = regK tbl fin K [] f12o3 [6] e H := run_regK _ _ _ _ _ _ _ _ _ rfl
@[simp] def f12o4 : List IOper := [
  ⟨(some 16), .load true 15 (.t 3), none, none⟩,
  ⟨(some 17), .mv (.t 7), none, none⟩,
  ⟨(some 18), .mv (.t 1), none, none⟩,
  ⟨(some 19), .mv (.t 2), none, none⟩,
  ⟨(some 20), .call (.c (.fn 9 [])) [(.t 16), (.t 17), (.t 18), (.t 19)], none, none⟩,
  ⟨(some 6), .mv (.t 20), none, none⟩]
def f12r4 : IC := .reg false [] f12o4 [6]
@[simp] theorem f12r4_run : run tbl fin K f12r4 e H = regK tbl fin K [] f12o4 [6] e H := run_regK _ _ _ _ _ _ _ _ _ rfl
def f12body : IC := (.seq f12r0 (.seq f12r1 (.seq (.seq f12r2 (.cond (.t 15) (.seq f12r3 .ret) .skip)) (.seq f12r4 .ret))))
def f12 : IFn := ⟨21, 3, [.tmp 6], f12body⟩
/- 13: jobshell/jobshellref48.First -/
@[simp] def f13o0 : List IOper := [
  ⟨(some 3), .box 30 15 (.t 0), none, none⟩,
  ⟨(some 6), .mv (.c (.str [])), none, none⟩]
def f13r0 : IC := .reg false [] f13o0 [2, 1, 3]
@[simp] theorem f13r0_run : run tbl fin K f13r0 e H = regK tbl fin K [] f13o0 [2, 1, 3] e H := run_regK _ _ _ _ _ _ _ _ _ rfl
@[simp] def f13o1 : List IOper := [
  ⟨(some 10), .load true 15 (.t 3), none, none⟩,
  ⟨(some 11), .call (.c (.fn 26 [])) [(.t 10), (.c (.str [80, 83, 49]))], none, none⟩,
  ⟨(some 9), .mv (.t 11), none, none⟩,
  ⟨(some 12), .ext (.t 9) 0, none, none⟩,
  ⟨(some 13), .ext (.t 9) 1, none, none⟩,
  ⟨(some 7), .mv (.t 12), none, none⟩,
  ⟨(some 8), .mv (.t 13), none, none⟩]
def f13r1 : IC := .reg false [] f13o1 [8, 2, 1, 7, 3]
@[simp] theorem f13r1_run : run tbl fin K f13r1 e H = regK tbl fin K [] f13o1 [8, 2, 1, 7, 3] e H := run_regK _ _ _ _ _ _ _ _ _ rfl
@[simp] def f13o2 : List IOper := [
  ⟨(some 14), .mv (.t 8), none, none⟩,
  ⟨(some 15), .un .not (.t 14), none, none⟩]
def f13r2 : IC := .reg false [] f13o2 [15, 2, 1, 7, 3]
@[simp] theorem f13r2_run : run tbl fin K f13r2 e H = regK tbl fin K [] f13o2 [15, 2, 1, 7, 3] e H := run_regK _ _ _ _ _ _ _ _ _ rfl
@[simp] def f13o3 : List IOper := [
  ⟨(some 6), .mv (.c (.str [36, 32])), none, none⟩]
def f13r3 : IC := .reg false [] f13o3 [6]
@[simp] theorem f13r3_run : run tbl fin K f13r3 e H = regK tbl fin K [] f13o3 [6] e H := run_regK _ _ _ _ _ _ _ _ _ rfl
@[simp] def f13o4 : List IOper := [
  ⟨(some 16), .load true 15 (.t 3), none, none⟩,
  ⟨(some 17), .mv (.t 7), none, none⟩,
  ⟨(some 18), .mv (.t 1), none, none⟩,
  ⟨(some 19), .mv (.t 2), none, none⟩,
  ⟨(some 20), .call (.c (.fn 10 [])) [(.t 16), (.t 17), (.t 18), (.t 19)], none, none⟩,
  ⟨(some 6), .mv (.t 20), none, none⟩]
def f13r4 : IC := .reg false [] f13o4 [6]
@[simp] theorem f13r4_run : run tbl fin K f13r4 e H = regK tbl fin K [] f13o4 [6] e H := run_regK _ _ _ _ _ _ _ _ _ rfl
def f13body : IC := (.seq f13r0 (.seq f13r1 (.seq (.seq f13r2 (.cond (.t 15) (.seq f13r3 .ret) .skip)) (.seq f13r4 .ret))))
def f13 : IFn := ⟨21, 3, [.tmp 6], f13body⟩
/- 14: jobshell/prompt.Second -/
@[simp] def f14o0 : List IOper := [
  ⟨(some 1), .box 30 15 (.t 0), none, none⟩,
  ⟨(some 2), .mv (.c (.str [])), none, none⟩]
def f14r0 : IC := .reg false [] f14o0 [1]
@[simp] theorem f14r0_run : run tbl fin K f14r0 e H = regK tbl fin K [] f14o0 [1] e H := run_regK _ _ _ _ _ _ _ _ _ rfl
@[simp] def f14o1 : List IOper := [
  ⟨(some 6), .load true 15 (.t 1), none, none⟩,
  ⟨(some 7), .call (.c (.fn 25 [])) [(.t 6), (.c (.str [80, 83, 50]))], none, none⟩,
  ⟨(some 5), .mv (.t 7), none, none⟩,
  ⟨(some 8), .ext (.t 5) 0, none, none⟩,
  ⟨(some 9), .ext (.t 5) 1, none, none⟩,
  ⟨(some 3), .mv (.t 8), none, none⟩,
  ⟨(some 4), .mv (.t 9), none, none⟩]
def f14r1 : IC := .reg false [] f14o1 [4, 3, 1]
@[simp] theorem f14r1_run : run tbl fin K f14r1 e H = regK tbl fin K [] f14o1 [4, 3, 1] e H := run_regK _ _ _ _ _ _ _ _ _ rfl
@[simp] def f14o2 : List IOper := [
  ⟨(some 10), .mv (.t 4), none, none⟩,
  ⟨(some 11), .un .not (.t 10), none, none⟩]
def f14r2 : IC := .reg false [] f14o2 [11, 3, 1]
@[simp] theorem f14r2_run : run tbl fin K f14r2 e H = regK tbl fin K [] f14o2 [11, 3, 1] e H := run_regK _ _ _ _ _ _ _ _ _ rfl
@[simp] def f14o3 : List IOper := [
  ⟨(some 2), .mv (.c (.str [62, 32])), none, none⟩]
def f14r3 : IC := .reg false [] f14o3 [2]
@[simp] theorem f14r3_run : run tbl fin K f14r3 e H = regK tbl fin K [] f14o3 [2] e H := run_regK _ _ _ _ _ _ _ _ _ rfl
@[simp] def f14o4 : List IOper := [
  ⟨(some 12), .load true 15 (.t 1), none, none⟩,
  ⟨(some 13), .mv (.t 3), none, none⟩,
  ⟨(some 14), .call (.c (.fn 9 [])) [(.t 12), (.t 13), (.c (.int .i64 0)), (.c (.int .i64 0))], none, none⟩,
  ⟨(some 2), .mv (.t 14), none, none⟩]
def f14r4 : IC := .reg false [] f14o4 [2]
@[simp] theorem f14r4_run : run tbl fin K f14r4 e H = regK tbl fin K [] f14o4 [2] e H := run_regK _ _ _ _ _ _ _ _ _ rfl
def f14body : IC := (.seq f14r0 (.seq f14r1 (.seq (.seq f14r2 (.cond (.t 11) (.seq f14r3 .ret) .skip)) (.seq f14r4 .ret))))
def f14 : IFn := ⟨15, 1, [.tmp 2], f14body⟩
/- 15: jobshell/jobshellref48.Second -/
@[simp] def f15o0 : List IOper := [
  ⟨(some 1), .box 30 15 (.t 0), none, none⟩,
  ⟨(some 2), .mv (.c (.str [])), none, none⟩]
def f15r0 : IC := .reg false [] f15o0 [1]
@[simp] theorem f15r0_run : run tbl fin K f15r0 e H = regK tbl fin K [] f15o0 [1] e H := run_regK _ _ _ _ _ _ _ _ _ rfl
@[simp] def f15o1 : List IOper := [
  ⟨(some 6), .load true 15 (.t 1), none, none⟩,
  ⟨(some 7), .call (.c (.fn 26 [])) [(.t 6), (.c (.str [80, 83, 50]))], none, none⟩,
  ⟨(some 5), .mv (.t 7), none, none⟩,
  ⟨(some 8), .ext (.t 5) 0, none, none⟩,
  ⟨(some 9), .ext (.t 5) 1, none, none⟩,
  ⟨(some 3), .mv (.t 8), none, none⟩,
  ⟨(some 4), .mv (.t 9), none, none⟩]
def f15r1 : IC := .reg false [] f15o1 [4, 3, 1]
@[simp] theorem f15r1_run : run tbl fin K f15r1 e H = regK tbl fin K [] f15o1 [4, 3, 1] e H := run_regK _ _ _ _ _ _ _ _ _ rfl
@[simp] def f15o2 : List IOper := [
  ⟨(some 10), .mv (.t 4), none, none⟩,
  ⟨(some 11), .un .not (.t 10), none, none⟩]
def f15r2 : IC := .reg false [] f15o2 [11, 3, 1]
@[simp] theorem f15r2_run : run tbl fin K f15r2 e H = regK tbl fin K [] f15o2 [11, 3, 1] e H := run_regK _ _ _ _ _ _ _ _ _ rfl
@[simp] def f15o3 : List IOper := [
  ⟨(some 2), .mv (.c (.str [62, 32])), none, none⟩]
def f15r3 : IC := .reg false [] f15o3 [2]
@[simp] theorem f15r3_run : run tbl fin K f15r3 e H = regK tbl fin K [] f15o3 [2] e H := run_regK _ _ _ _ _ _ _ _ _ rfl
@[simp] def f15o4 : List IOper := [
  ⟨(some 12), .load true 15 (.t 1), none, none⟩,
  ⟨(some 13), .mv (.t 3), none, none⟩,
  ⟨(some 14), .call (.c (.fn 10 [])) [(.t 12), (.t 13), (.c (.int .i64 0)), (.c (.int .i64 0))], none, none⟩,
  ⟨(some 2), .mv (.t 14), none, none⟩]
def f15r4 : IC := .reg false [] f15o4 [2]
@[simp] theorem f15r4_run : run tbl fin K f15r4 e H = regK tbl fin K [] f15o4 [2] e H := run_regK _ _ _ _ _ _ _ _ _ rfl
def f15body : IC := (.seq f15r0 (.seq f15r1 (.seq (.seq f15r2 (.cond (.t 11) (.seq f15r3 .ret) .skip)) (.seq f15r4 .ret))))
def f15 : IFn := ⟨15, 1, [.tmp 2], f15body⟩
/- 16: jobshell/jobshellref15.Valid -/
@[simp] def f16o0 : List IOper := [
  ⟨(some 2), .mv (.c (.int .i64 0)), none, none⟩]
def f16r0 : IC := .reg false [] f16o0 [0]
@[simp] theorem f16r0_run : run tbl fin K f16r0 e H = regK tbl fin K [] f16o0 [0] e H := run_regK _ _ _ _ _ _ _ _ _ rfl
@[simp] def f16o1 : List IOper := [
  ⟨(some 4), .mv (.t 0), none, none⟩,
  ⟨(some 5), .len (.t 4), none, none⟩,
  ⟨(some 6), .bin .gtr (.t 5) (.c (.int .i64 128)), none, none⟩]
def f16r1 : IC := .reg false [] f16o1 [6, 0]
@[simp] theorem f16r1_run : run tbl fin K f16r1 e H = regK tbl fin K [] f16o1 [6, 0] e H := run_regK _ _ _ _ _ _ _ _ _ rfl
@[simp] def f16o2 : List IOper := [
  ⟨(some 2), .mv (.c (.int .i64 4)), none, none⟩]
def f16r2 : IC := .reg false [] f16o2 [2]
@[simp] theorem f16r2_run : run tbl fin K f16r2 e H = regK tbl fin K [] f16o2 [2] e H := run_regK _ _ _ _ _ _ _ _ _ rfl
@[simp] def f16o3 : List IOper := [
  ⟨(some 3), .mv (.c (.int .i64 0)), none, none⟩]
def f16r3 : IC := .reg false [] f16o3 [0, 3]
@[simp] theorem f16r3_run : run tbl fin K f16r3 e H = regK tbl fin K [] f16o3 [0, 3] e H := run_regK _ _ _ _ _ _ _ _ _ rfl
@[simp] def f16o4 : List IOper := [
  ⟨(some 7), .mv (.t 3), none, none⟩,
  ⟨(some 8), .mv (.t 0), none, none⟩,
  ⟨(some 9), .len (.t 8), none, none⟩,
  ⟨(some 10), .bin .lss (.t 7) (.t 9), none, none⟩]
def f16r4 : IC := .reg false [] f16o4 [10, 0, 3]
@[simp] theorem f16r4_run : run tbl fin K f16r4 e H = regK tbl fin K [] f16o4 [10, 0, 3] e H := run_regK _ _ _ _ _ _ _ _ _ rfl
@[simp] def f16o5 : List IOper := [
  ⟨(some 13), .mv (.t 0), none, none⟩,
  ⟨(some 14), .mv (.t 3), none, none⟩,
  ⟨(some 15), .idx 5 (.t 13) (.t 14), none, none⟩,
  ⟨(some 16), .fld 0 (.t 15), none, none⟩,
  ⟨(some 17), .load false 1 (.t 16), none, none⟩,
  ⟨(some 18), .call (.c (.fn 27 [])) [(.t 17)], none, none⟩,
  ⟨(some 19), .un .not (.t 18), none, none⟩]
def f16r5 : IC := .reg false [] f16o5 [19, 0, 3]
@[simp] theorem f16r5_run : run tbl fin K f16r5 e H = regK tbl fin K [] f16o5 [19, 0, 3] e H := run_regK _ _ _ _ _ _ _ _ _ rfl
@[simp] def f16o6 : List IOper := [
  ⟨(some 2), .mv (.c (.int .i64 10)), none, none⟩]
def f16r6 : IC := .reg false [] f16o6 [2]
@[simp] theorem f16r6_run : run tbl fin K f16r6 e H = regK tbl fin K [] f16o6 [2] e H := run_regK _ _ _ _ _ _ _ _ _ rfl
@[simp] def f16o7 : List IOper := [
  ⟨(some 20), .mv (.t 0), none, none⟩,
  ⟨(some 21), .mv (.t 3), none, none⟩,
  ⟨(some 22), .idx 5 (.t 20) (.t 21), none, none⟩,
  ⟨(some 23), .fld 1 (.t 22), none, none⟩,
  ⟨(some 24), .load false 1 (.t 23), none, none⟩,
  ⟨(some 25), .slen (.t 24), none, none⟩,
  ⟨(some 26), .bin .gtr (.t 25) (.c (.int .i64 4096)), none, none⟩]
def f16r7 : IC := .reg false [] f16o7 [26, 3, 0]
@[simp] theorem f16r7_run : run tbl fin K f16r7 e H = regK tbl fin K [] f16o7 [26, 3, 0] e H := run_regK _ _ _ _ _ _ _ _ _ rfl
@[simp] def f16o8 : List IOper := [
  ⟨(some 2), .mv (.c (.int .i64 3)), none, none⟩]
def f16r8 : IC := .reg false [] f16o8 [2]
@[simp] theorem f16r8_run : run tbl fin K f16r8 e H = regK tbl fin K [] f16o8 [2] e H := run_regK _ _ _ _ _ _ _ _ _ rfl
@[simp] def f16o9 : List IOper := [
  ⟨(some 27), .mv (.t 0), none, none⟩,
  ⟨(some 28), .mv (.t 3), none, none⟩,
  ⟨(some 29), .idx 5 (.t 27) (.t 28), none, none⟩,
  ⟨(some 30), .fld 2 (.t 29), none, none⟩,
  ⟨(some 31), .load false 1 (.t 30), none, none⟩,
  ⟨(some 32), .un .not (.t 31), none, none⟩,
  ⟨(some 33), .mv (.t 32), none, none⟩,
  ⟨(some 34), .mv (.t 0), (some (33, true)), none⟩,
  ⟨(some 35), .mv (.t 3), (some (33, true)), none⟩,
  ⟨(some 36), .idx 5 (.t 34) (.t 35), (some (33, true)), none⟩,
  ⟨(some 37), .fld 1 (.t 36), (some (33, true)), none⟩,
  ⟨(some 38), .load false 1 (.t 37), (some (33, true)), none⟩,
  ⟨(some 39), .bin .neq (.t 38) (.c (.str [])), (some (33, true)), none⟩,
  ⟨(some 40), .pick (.t 33) (.t 39) (.c (.bool false)), none, none⟩,
  ⟨(some 41), .mv (.t 40), none, none⟩,
  ⟨(some 42), .mv (.t 3), (some (41, false)), none⟩,
  ⟨(some 43), .bin .gtr (.t 42) (.c (.int .i64 0)), (some (41, false)), none⟩,
  ⟨(some 44), .mv (.t 43), (some (41, false)), none⟩,
  ⟨(some 45), .mv (.t 0), (some (44, true)), none⟩,
  ⟨(some 46), .mv (.t 3), (some (44, true)), none⟩,
  ⟨(some 47), .bin .sub (.t 46) (.c (.int .i64 1)), (some (44, true)), none⟩,
  ⟨(some 48), .idx 5 (.t 45) (.t 47), (some (44, true)), none⟩,
  ⟨(some 49), .fld 0 (.t 48), (some (44, true)), none⟩,
  ⟨(some 50), .load false 1 (.t 49), (some (44, true)), none⟩,
  ⟨(some 51), .mv (.t 0), (some (44, true)), none⟩,
  ⟨(some 52), .mv (.t 3), (some (44, true)), none⟩,
  ⟨(some 53), .idx 5 (.t 51) (.t 52), (some (44, true)), none⟩,
  ⟨(some 54), .fld 0 (.t 53), (some (44, true)), none⟩,
  ⟨(some 55), .load false 1 (.t 54), (some (44, true)), none⟩,
  ⟨(some 56), .bin .geq (.t 50) (.t 55), (some (44, true)), none⟩,
  ⟨(some 57), .pick (.t 44) (.t 56) (.c (.bool false)), (some (41, false)), none⟩,
  ⟨(some 58), .pick (.t 41) (.c (.bool true)) (.t 57), none, none⟩]
def f16r9 : IC := .reg true [] f16o9 [58, 0, 3]
@[simp] theorem f16r9_run : run tbl fin K f16r9 e H = regK tbl fin K [] f16o9 [58, 0, 3] e H := run_regK _ _ _ _ _ _ _ _ _ rfl
@[simp] def f16o10 : List IOper := [
  ⟨(some 2), .mv (.c (.int .i64 1)), none, none⟩]
def f16r10 : IC := .reg false [] f16o10 [2]
@[simp] theorem f16r10_run : run tbl fin K f16r10 e H = regK tbl fin K [] f16o10 [2] e H := run_regK _ _ _ _ _ _ _ _ _ rfl
@[simp] def f16o11 : List IOper := [
  ⟨(some 11), .mv (.t 3), none, none⟩,
  ⟨(some 12), .bin .add (.t 11) (.c (.int .i64 1)), none, none⟩,
  ⟨(some 3), .mv (.t 12), none, none⟩]
def f16r11 : IC := .reg false [] f16o11 [0, 3]
@[simp] theorem f16r11_run : run tbl fin K f16r11 e H = regK tbl fin K [] f16o11 [0, 3] e H := run_regK _ _ _ _ _ _ _ _ _ rfl
def f16b12 : IC := (.seq (.seq f16r4 (.cond (.t 10) .skip (.exit 0))) (.seq (.block 1 (.seq (.seq f16r5 (.cond (.t 19) (.seq f16r6 .ret) .skip)) (.seq (.seq f16r7 (.cond (.t 26) (.seq f16r8 .ret) .skip)) (.seq f16r9 (.cond (.t 58) (.seq f16r10 .ret) .skip))))) f16r11))
theorem f16b12_eq : f16b12 = (.seq (.seq f16r4 (.cond (.t 10) .skip (.exit 0))) (.seq (.block 1 (.seq (.seq f16r5 (.cond (.t 19) (.seq f16r6 .ret) .skip)) (.seq (.seq f16r7 (.cond (.t 26) (.seq f16r8 .ret) .skip)) (.seq f16r9 (.cond (.t 58) (.seq f16r10 .ret) .skip))))) f16r11)) := rfl
@[simp] def f16o13 : List IOper := [
  ⟨(some 2), .mv (.c (.int .i64 0)), none, none⟩]
def f16r13 : IC := .reg false [] f16o13 [2]
@[simp] theorem f16r13_run : run tbl fin K f16r13 e H = regK tbl fin K [] f16o13 [2] e H := run_regK _ _ _ _ _ _ _ _ _ rfl
def f16body : IC := (.seq f16r0 (.seq (.seq f16r1 (.cond (.t 6) (.seq f16r2 .ret) .skip)) (.seq (.seq f16r3 (.block 0 (.loop [0, 3] f16b12))) (.seq f16r13 .ret))))
def f16 : IFn := ⟨59, 1, [.tmp 2], f16body⟩
/- 17: jobshell/prompt.parameter -/
@[simp] def f17o0 : List IOper := [
  ⟨(some 2), .box 30 15 (.t 0), none, none⟩,
  ⟨(some 4), .mv (.c (.str [])), none, none⟩,
  ⟨(some 5), .mv (.c (.int .i64 0)), none, none⟩]
def f17r0 : IC := .reg false [] f17o0 [2, 1]
@[simp] theorem f17r0_run : run tbl fin K f17r0 e H = regK tbl fin K [] f17o0 [2, 1] e H := run_regK _ _ _ _ _ _ _ _ _ rfl
@[simp] def f17o1 : List IOper := [
  ⟨(some 11), .mv (.t 1), none, none⟩,
  ⟨(some 12), .slen (.t 11), none, none⟩,
  ⟨(some 13), .bin .lss (.t 12) (.c (.int .i64 2)), none, none⟩]
def f17r1 : IC := .reg false [] f17o1 [13, 2, 1]
@[simp] theorem f17r1_run : run tbl fin K f17r1 e H = regK tbl fin K [] f17o1 [13, 2, 1] e H := run_regK _ _ _ _ _ _ _ _ _ rfl
@[simp] def f17o2 : List IOper := [
  ⟨(some 4), .mv (.c (.str [])), none, none⟩,
  ⟨(some 5), .mv (.c (.int .i64 0)), none, none⟩]
def f17r2 : IC := .reg false [] f17o2 [4, 5]
@[simp] theorem f17r2_run : run tbl fin K f17r2 e H = regK tbl fin K [] f17o2 [4, 5] e H := run_regK _ _ _ _ _ _ _ _ _ rfl
@[simp] def f17o3 : List IOper := [
  ⟨(some 6), .mv (.c (.int .i64 1)), none, none⟩,
  ⟨(some 7), .mv (.c (.int .i64 2)), none, none⟩]
def f17r3 : IC := .reg false [] f17o3 [7, 6, 1, 2]
@[simp] theorem f17r3_run : run tbl fin K f17r3 e H = regK tbl fin K [] f17o3 [7, 6, 1, 2] e H := run_regK _ _ _ _ _ _ _ _ _ rfl
@[simp] def f17o4 : List IOper := [
  ⟨(some 14), .mv (.t 1), none, none⟩,
  ⟨(some 15), .sidx (.t 14) (.c (.int .i64 1)), none, none⟩,
  ⟨(some 8), .mv (.t 15), none, none⟩]
def f17r4 : IC := .reg false [] f17o4 [7, 6, 8, 1, 2]
@[simp] theorem f17r4_run : run tbl fin K f17r4 e H = regK tbl fin K [] f17o4 [7, 6, 8, 1, 2] e H := run_regK _ _ _ _ _ _ _ _ _ rfl
@[simp] def f17o5 : List IOper := [
  ⟨(some 17), .mv (.t 8), none, none⟩,
  ⟨(some 18), .bin .eql (.t 17) (.c (.int .u8 123)), none, none⟩,
  ⟨(some 16), .mv (.t 18), none, none⟩]
def f17r5 : IC := .reg false [] f17o5 [16, 7, 6, 8, 1, 2]
@[simp] theorem f17r5_run : run tbl fin K f17r5 e H = regK tbl fin K [] f17o5 [16, 7, 6, 8, 1, 2] e H := run_regK _ _ _ _ _ _ _ _ _ rfl
@[simp] def f17o6 : List IOper := [
  ⟨(some 19), .mv (.t 1), none, none⟩,
  ⟨(some 20), .call (.c (.fn 28 [])) [(.t 19)], none, none⟩,
  ⟨(some 6), .mv (.c (.int .i64 2)), none, none⟩,
  ⟨(some 7), .mv (.t 20), none, none⟩]
def f17r6 : IC := .reg false [] f17o6 [7, 6, 1, 2]
@[simp] theorem f17r6_run : run tbl fin K f17r6 e H = regK tbl fin K [] f17o6 [7, 6, 1, 2] e H := run_regK _ _ _ _ _ _ _ _ _ rfl
@[simp] def f17o7 : List IOper := [
  ⟨(some 21), .mv (.t 7), none, none⟩,
  ⟨(some 22), .bin .eql (.t 21) (.c (.int .i64 0)), none, none⟩]
def f17r7 : IC := .reg false [] f17o7 [22, 7, 6, 1, 2]
@[simp] theorem f17r7_run : run tbl fin K f17r7 e H = regK tbl fin K [] f17o7 [22, 7, 6, 1, 2] e H := run_regK _ _ _ _ _ _ _ _ _ rfl
@[simp] def f17o8 : List IOper := [
  ⟨(some 4), .mv (.c (.str [])), none, none⟩,
  ⟨(some 5), .mv (.c (.int .i64 0)), none, none⟩]
def f17r8 : IC := .reg false [] f17o8 [4, 5]
@[simp] theorem f17r8_run : run tbl fin K f17r8 e H = regK tbl fin K [] f17o8 [4, 5] e H := run_regK _ _ _ _ _ _ _ _ _ rfl
@[simp] def f17o9 : List IOper := [
  ⟨(some 24), .mv (.t 8), none, none⟩,
  ⟨(some 25), .call (.c (.fn 29 [])) [(.t 24)], none, none⟩,
  ⟨(some 26), .mv (.t 25), none, none⟩,
  ⟨(some 27), .mv (.t 8), (some (26, false)), none⟩,
  ⟨(some 28), .bin .geq (.t 27) (.c (.int .u8 48)), (some (26, false)), none⟩,
  ⟨(some 29), .mv (.t 28), (some (26, false)), none⟩,
  ⟨(some 30), .mv (.t 8), (some (29, true)), none⟩,
  ⟨(some 31), .bin .leq (.t 30) (.c (.int .u8 57)), (some (29, true)), none⟩,
  ⟨(some 32), .pick (.t 29) (.t 31) (.c (.bool false)), (some (26, false)), none⟩,
  ⟨(some 33), .pick (.t 26) (.c (.bool true)) (.t 32), none, none⟩,
  ⟨(some 23), .mv (.t 33), none, none⟩]
def f17r9 : IC := .reg false [] f17o9 [23, 8, 2, 1, 6, 7]
@[simp] theorem f17r9_run : run tbl fin K f17r9 e H = regK tbl fin K [] f17o9 [23, 8, 2, 1, 6, 7] e H := run_regK _ _ _ _ _ _ _ _ _ rfl
@[simp] def f17o10 : List IOper := [
  ⟨(some 35), .mv (.t 8), none, none⟩,
  ⟨(some 36), .call (.c (.fn 30 [])) [(.t 35)], none, none⟩,
  ⟨(some 34), .mv (.t 36), none, none⟩]
def f17r10 : IC := .reg false [] f17o10 [34, 2, 1, 6]
@[simp] theorem f17r10_run : run tbl fin K f17r10 e H = regK tbl fin K [] f17o10 [34, 2, 1, 6] e H := run_regK _ _ _ _ _ _ _ _ _ rfl
@[simp] def f17o11 : List IOper := [
  ⟨(some 37), .mv (.t 1), none, none⟩,
  ⟨(some 38), .call (.c (.fn 31 [])) [(.t 37), (.c (.int .i64 1))], none, none⟩,
  ⟨(some 7), .mv (.t 38), none, none⟩]
def f17r11 : IC := .reg false [] f17o11 [2, 1, 6, 7]
@[simp] theorem f17r11_run : run tbl fin K f17r11 e H = regK tbl fin K [] f17o11 [2, 1, 6, 7] e H := run_regK _ _ _ _ _ _ _ _ _ rfl
@[simp] def f17o12 : List IOper := [
  ⟨(some 4), .mv (.c (.str [])), none, none⟩,
  ⟨(some 5), .mv (.c (.int .i64 0)), none, none⟩]
def f17r12 : IC := .reg false [] f17o12 [4, 5]
@[simp] theorem f17r12_run : run tbl fin K f17r12 e H = regK tbl fin K [] f17o12 [4, 5] e H := run_regK _ _ _ _ _ _ _ _ _ rfl
@[simp] def f17o13 : List IOper := [
  ⟨(some 40), .load true 15 (.t 2), none, none⟩,
  ⟨(some 41), .mv (.t 1), none, none⟩,
  ⟨(some 42), .mv (.t 6), none, none⟩,
  ⟨(some 43), .mv (.t 7), none, none⟩,
  ⟨(some 44), .sls (.t 41) (some (.t 42)) (some (.t 43)), none, none⟩,
  ⟨(some 45), .call (.c (.fn 25 [])) [(.t 40), (.t 44)], none, none⟩,
  ⟨(some 39), .mv (.t 45), none, none⟩,
  ⟨(some 46), .ext (.t 39) 0, none, none⟩,
  ⟨(some 47), .ext (.t 39) 1, none, none⟩,
  ⟨(some 9), .mv (.t 46), none, none⟩,
  ⟨(some 10), .mv (.t 47), none, none⟩]
def f17r13 : IC := .reg true [] f17o13 [6, 7, 9]
@[simp] theorem f17r13_run : run tbl fin K f17r13 e H = regK tbl fin K [] f17o13 [6, 7, 9] e H := run_regK _ _ _ _ _ _ _ _ _ rfl
@[simp] def f17o14 : List IOper := [
  ⟨(some 48), .mv (.t 6), none, none⟩,
  ⟨(some 49), .bin .eql (.t 48) (.c (.int .i64 2)), none, none⟩]
def f17r14 : IC := .reg false [] f17o14 [49, 7, 9]
@[simp] theorem f17r14_run : run tbl fin K f17r14 e H = regK tbl fin K [] f17o14 [49, 7, 9] e H := run_regK _ _ _ _ _ _ _ _ _ rfl
@[simp] def f17o15 : List IOper := [
  ⟨(some 50), .mv (.t 7), none, none⟩,
  ⟨(some 51), .bin .add (.t 50) (.c (.int .i64 1)), none, none⟩,
  ⟨(some 7), .mv (.t 51), none, none⟩]
def f17r15 : IC := .reg false [] f17o15 [9, 7]
@[simp] theorem f17r15_run : run tbl fin K f17r15 e H = regK tbl fin K [] f17o15 [9, 7] e H := run_regK _ _ _ _ _ _ _ _ _ rfl
@[simp] def f17o16 : List IOper := [
  ⟨(some 52), .mv (.t 9), none, none⟩,
  ⟨(some 53), .mv (.t 7), none, none⟩,
  ⟨(some 4), .mv (.t 52), none, none⟩,
  ⟨(some 5), .mv (.t 53), none, none⟩]
def f17r16 : IC := .reg false [] f17o16 [4, 5]
@[simp] theorem f17r16_run : run tbl fin K f17r16 e H = regK tbl fin K [] f17o16 [4, 5] e H := run_regK _ _ _ _ _ _ _ _ _ rfl
def f17body : IC := (.seq f17r0 (.seq (.seq f17r1 (.cond (.t 13) (.seq f17r2 .ret) .skip)) (.seq f17r3 (.seq (.seq f17r4 (.block 0 (.seq f17r5 (.cond (.t 16) (.seq f17r6 (.seq f17r7 (.cond (.t 22) (.seq f17r8 .ret) .skip))) (.seq f17r9 (.cond (.t 23) .skip (.seq f17r10 (.cond (.t 34) f17r11 (.seq f17r12 .ret))))))))) (.seq f17r13 (.seq (.seq f17r14 (.cond (.t 49) f17r15 .skip)) (.seq f17r16 .ret)))))))
def f17 : IFn := ⟨54, 2, [.tmp 4, .tmp 5], f17body⟩
/- 18: jobshell/prompt.escape -/
@[simp] def f18o0 : List IOper := [
  ⟨(some 4), .box 30 15 (.t 0), none, none⟩,
  ⟨(some 8), .mv (.c (.str [])), none, none⟩,
  ⟨(some 9), .mv (.c (.int .i64 0)), none, none⟩]
def f18r0 : IC := .reg false [] f18o0 [4, 3, 2, 1]
@[simp] theorem f18r0_run : run tbl fin K f18r0 e H = regK tbl fin K [] f18o0 [4, 3, 2, 1] e H := run_regK _ _ _ _ _ _ _ _ _ rfl
@[simp] def f18o1 : List IOper := [
  ⟨(some 12), .mv (.t 1), none, none⟩,
  ⟨(some 13), .slen (.t 12), none, none⟩,
  ⟨(some 14), .bin .lss (.t 13) (.c (.int .i64 2)), none, none⟩]
def f18r1 : IC := .reg false [] f18o1 [14, 4, 3, 2, 1]
@[simp] theorem f18r1_run : run tbl fin K f18r1 e H = regK tbl fin K [] f18o1 [14, 4, 3, 2, 1] e H := run_regK _ _ _ _ _ _ _ _ _ rfl
@[simp] def f18o2 : List IOper := [
  ⟨(some 8), .mv (.c (.str [])), none, none⟩,
  ⟨(some 9), .mv (.c (.int .i64 0)), none, none⟩]
def f18r2 : IC := .reg false [] f18o2 [8, 9]
@[simp] theorem f18r2_run : run tbl fin K f18r2 e H = regK tbl fin K [] f18o2 [8, 9] e H := run_regK _ _ _ _ _ _ _ _ _ rfl
@[simp] def f18o3 : List IOper := [
  ⟨(some 15), .mv (.t 1), none, none⟩,
  ⟨(some 16), .sidx (.t 15) (.c (.int .i64 1)), none, none⟩]
def f18r3 : IC := .reg false [] f18o3 [1, 2, 16, 3, 4]
@[simp] theorem f18r3_run : run tbl fin K f18r3 e H = regK tbl fin K [] f18o3 [1, 2, 16, 3, 4] e H := run_regK _ _ _ _ _ _ _ _ _ rfl
@[simp] def f18o4 : List IOper := [
  ⟨(some 18), .bin .eql (.t 16) (.c (.int .u8 119)), none, none⟩,
  ⟨(some 17), .mv (.t 18), none, none⟩]
def f18r4 : IC := .reg false [] f18o4 [17, 1, 2, 16, 3, 4]
@[simp] theorem f18r4_run : run tbl fin K f18r4 e H = regK tbl fin K [] f18o4 [17, 1, 2, 16, 3, 4] e H := run_regK _ _ _ _ _ _ _ _ _ rfl
@[simp] def f18o5 : List IOper := [
  ⟨(some 19), .fld 10 (.t 4), none, none⟩,
  ⟨(some 20), .load false 1 (.t 19), none, none⟩,
  ⟨(some 8), .mv (.t 20), none, none⟩,
  ⟨(some 9), .mv (.c (.int .i64 2)), none, none⟩]
def f18r5 : IC := .reg false [] f18o5 [8, 9]
@[simp] theorem f18r5_run : run tbl fin K f18r5 e H = regK tbl fin K [] f18o5 [8, 9] e H := run_regK _ _ _ _ _ _ _ _ _ rfl
@[simp] def f18o6 : List IOper := [
  ⟨(some 22), .bin .eql (.t 16) (.c (.int .u8 36)), none, none⟩,
  ⟨(some 21), .mv (.t 22), none, none⟩]
def f18r6 : IC := .reg false [] f18o6 [21, 4, 3, 16, 2, 1]
@[simp] theorem f18r6_run : run tbl fin K f18r6 e H = regK tbl fin K [] f18o6 [21, 4, 3, 16, 2, 1] e H := run_regK _ _ _ _ _ _ _ _ _ rfl
@[simp] def f18o7 : List IOper := [
  ⟨(some 23), .bin .eql (.t 16) (.c (.int .u8 92)), none, none⟩,
  ⟨(some 21), .mv (.t 23), none, none⟩]
def f18r7 : IC := .reg false [] f18o7 [21, 4, 3, 16, 2, 1]
@[simp] theorem f18r7_run : run tbl fin K f18r7 e H = regK tbl fin K [] f18o7 [21, 4, 3, 16, 2, 1] e H := run_regK _ _ _ _ _ _ _ _ _ rfl
@[simp] def f18o8 : List IOper := [
  ⟨(some 24), .mv (.t 1), none, none⟩,
  ⟨(some 25), .sls (.t 24) (some (.c (.int .i64 1))) (some (.c (.int .i64 2))), none, none⟩,
  ⟨(some 8), .mv (.t 25), none, none⟩,
  ⟨(some 9), .mv (.c (.int .i64 2)), none, none⟩]
def f18r8 : IC := .reg false [] f18o8 [8, 9]
@[simp] theorem f18r8_run : run tbl fin K f18r8 e H = regK tbl fin K [] f18o8 [8, 9] e H := run_regK _ _ _ _ _ _ _ _ _ rfl
@[simp] def f18o9 : List IOper := [
  ⟨(some 27), .bin .eql (.t 16) (.c (.int .u8 117)), none, none⟩,
  ⟨(some 26), .mv (.t 27), none, none⟩]
def f18r9 : IC := .reg false [] f18o9 [26, 2, 16, 3, 4]
@[simp] theorem f18r9_run : run tbl fin K f18r9 e H = regK tbl fin K [] f18o9 [26, 2, 16, 3, 4] e H := run_regK _ _ _ _ _ _ _ _ _ rfl
@[simp] def f18o10 : List IOper := [
  ⟨(some 29), .load true 15 (.t 4), none, none⟩,
  ⟨(some 30), .call (.c (.fn 25 [])) [(.t 29), (.c (.str [85, 83, 69, 82]))], none, none⟩,
  ⟨(some 28), .mv (.t 30), none, none⟩,
  ⟨(some 31), .ext (.t 28) 0, none, none⟩,
  ⟨(some 32), .ext (.t 28) 1, none, none⟩,
  ⟨(some 10), .mv (.t 31), none, none⟩,
  ⟨(some 11), .mv (.t 32), none, none⟩]
def f18r10 : IC := .reg false [] f18o10 [10]
@[simp] theorem f18r10_run : run tbl fin K f18r10 e H = regK tbl fin K [] f18o10 [10] e H := run_regK _ _ _ _ _ _ _ _ _ rfl
@[simp] def f18o11 : List IOper := [
  ⟨(some 33), .mv (.t 10), none, none⟩,
  ⟨(some 8), .mv (.t 33), none, none⟩,
  ⟨(some 9), .mv (.c (.int .i64 2)), none, none⟩]
def f18r11 : IC := .reg false [] f18o11 [8, 9]
@[simp] theorem f18r11_run : run tbl fin K f18r11 e H = regK tbl fin K [] f18o11 [8, 9] e H := run_regK _ _ _ _ _ _ _ _ _ rfl
@[simp] def f18o12 : List IOper := [
  ⟨(some 35), .bin .eql (.t 16) (.c (.int .u8 106)), none, none⟩,
  ⟨(some 34), .mv (.t 35), none, none⟩]
def f18r12 : IC := .reg false [] f18o12 [34, 3, 16, 2]
@[simp] theorem f18r12_run : run tbl fin K f18r12 e H = regK tbl fin K [] f18o12 [34, 3, 16, 2] e H := run_regK _ _ _ _ _ _ _ _ _ rfl
@[simp] def f18o13 : List IOper := [
  ⟨(some 36), .mv (.t 2), none, none⟩,
  ⟨(some 37), .call (.c (.fn 32 [])) [(.t 36)], none, none⟩,
  ⟨(some 8), .mv (.t 37), none, none⟩,
  ⟨(some 9), .mv (.c (.int .i64 2)), none, none⟩]
def f18r13 : IC := .reg false [] f18o13 [8, 9]
@[simp] theorem f18r13_run : run tbl fin K f18r13 e H = regK tbl fin K [] f18o13 [8, 9] e H := run_regK _ _ _ _ _ _ _ _ _ rfl
@[simp] def f18o14 : List IOper := [
  ⟨(some 39), .bin .eql (.t 16) (.c (.int .u8 33)), none, none⟩,
  ⟨(some 38), .mv (.t 39), none, none⟩]
def f18r14 : IC := .reg false [] f18o14 [38, 16, 3]
@[simp] theorem f18r14_run : run tbl fin K f18r14 e H = regK tbl fin K [] f18o14 [38, 16, 3] e H := run_regK _ _ _ _ _ _ _ _ _ rfl
@[simp] def f18o15 : List IOper := [
  ⟨(some 40), .mv (.t 3), none, none⟩,
  ⟨(some 41), .call (.c (.fn 32 [])) [(.t 40)], none, none⟩,
  ⟨(some 8), .mv (.t 41), none, none⟩,
  ⟨(some 9), .mv (.c (.int .i64 2)), none, none⟩]
def f18r15 : IC := .reg false [] f18o15 [8, 9]
@[simp] theorem f18r15_run : run tbl fin K f18r15 e H = regK tbl fin K [] f18o15 [8, 9] e H := run_regK _ _ _ _ _ _ _ _ _ rfl
@[simp] def f18o16 : List IOper := [
  ⟨(some 43), .bin .eql (.t 16) (.c (.int .u8 110)), none, none⟩,
  ⟨(some 42), .mv (.t 43), none, none⟩]
def f18r16 : IC := .reg false [] f18o16 [42]
@[simp] theorem f18r16_run : run tbl fin K f18r16 e H = regK tbl fin K [] f18o16 [42] e H := run_regK _ _ _ _ _ _ _ _ _ rfl
@[simp] def f18o17 : List IOper := [
  ⟨(some 8), .mv (.c (.str [10])), none, none⟩,
  ⟨(some 9), .mv (.c (.int .i64 2)), none, none⟩]
def f18r17 : IC := .reg false [] f18o17 [8, 9]
@[simp] theorem f18r17_run : run tbl fin K f18r17 e H = regK tbl fin K [] f18o17 [8, 9] e H := run_regK _ _ _ _ _ _ _ _ _ rfl
@[simp] def f18o18 : List IOper := [
  ⟨(some 8), .mv (.c (.str [])), none, none⟩,
  ⟨(some 9), .mv (.c (.int .i64 0)), none, none⟩]
def f18r18 : IC := .reg false [] f18o18 [8, 9]
@[simp] theorem f18r18_run : run tbl fin K f18r18 e H = regK tbl fin K [] f18o18 [8, 9] e H := run_regK _ _ _ _ _ _ _ _ _ rfl
def f18body : IC := (.seq f18r0 (.seq (.seq f18r1 (.cond (.t 14) (.seq f18r2 .ret) .skip)) (.seq (.seq f18r3 (.block 0 (.seq f18r4 (.cond (.t 17) (.seq f18r5 .ret) (.seq (.seq f18r6 (.cond (.t 21) .skip f18r7)) (.cond (.t 21) (.seq f18r8 .ret) (.seq f18r9 (.cond (.t 26) (.seq f18r10 (.seq f18r11 .ret)) (.seq f18r12 (.cond (.t 34) (.seq f18r13 .ret) (.seq f18r14 (.cond (.t 38) (.seq f18r15 .ret) (.seq f18r16 (.cond (.t 42) (.seq f18r17 .ret) .skip)))))))))))))) (.seq f18r18 .ret))))
def f18 : IFn := ⟨44, 4, [.tmp 8, .tmp 9], f18body⟩
/- 19: (*strings.Builder).WriteString is met by a contract -/
/- 20: (*strings.Builder).Len -/
@[simp] def f20o0 : List IOper := [
  ⟨(some 2), .mv (.c (.int .i64 0)), none, none⟩]
def f20r0 : IC := .reg false [] f20o0 [0]
@[simp] theorem f20r0_run : run tbl fin K f20r0 e H = regK tbl fin K [] f20o0 [0] e H := run_regK _ _ _ _ _ _ _ _ _ rfl
@[simp] def f20o1 : List IOper := [
  ⟨(some 3), .mv (.t 0), none, none⟩,
  ⟨(some 4), .chk (.t 3), none, none⟩,
  ⟨(some 5), .fld 1 (.t 4), none, none⟩,
  ⟨(some 6), .load false 1 (.t 5), none, none⟩,
  ⟨(some 7), .len (.t 6), none, none⟩,
  ⟨(some 2), .mv (.t 7), none, none⟩]
def f20r1 : IC := .reg false [] f20o1 [2]
@[simp] theorem f20r1_run : run tbl fin K f20r1 e H = regK tbl fin K [] f20o1 [2] e H := run_regK _ _ _ _ _ _ _ _ _ rfl
def f20body : IC := (.seq f20r0 (.seq f20r1 .ret))
def f20 : IFn := ⟨8, 1, [.tmp 2], f20body⟩
/- 21: (*strings.Builder).String is met by a contract -/
/- 22: jobshell/jobshellref48.escape -/
@[simp] def f22o0 : List IOper := [
  ⟨(some 4), .box 30 15 (.t 0), none, none⟩,
  ⟨(some 8), .mv (.c (.str [])), none, none⟩,
  ⟨(some 9), .mv (.c (.bool false)), none, none⟩]
def f22r0 : IC := .reg false [] f22o0 [1, 2, 3, 4]
@[simp] theorem f22r0_run : run tbl fin K f22r0 e H = regK tbl fin K [] f22o0 [1, 2, 3, 4] e H := run_regK _ _ _ _ _ _ _ _ _ rfl
@[simp] def f22o1 : List IOper := [
  ⟨(some 10), .mv (.t 1), none, none⟩]
def f22r1 : IC := .reg false [] f22o1 [2, 10, 3, 4]
@[simp] theorem f22r1_run : run tbl fin K f22r1 e H = regK tbl fin K [] f22o1 [2, 10, 3, 4] e H := run_regK _ _ _ _ _ _ _ _ _ rfl
@[simp] def f22o2 : List IOper := [
  ⟨(some 12), .bin .eql (.t 10) (.c (.int .u8 119)), none, none⟩,
  ⟨(some 11), .mv (.t 12), none, none⟩]
def f22r2 : IC := .reg false [] f22o2 [11, 2, 10, 3, 4]
@[simp] theorem f22r2_run : run tbl fin K f22r2 e H = regK tbl fin K [] f22o2 [11, 2, 10, 3, 4] e H := run_regK _ _ _ _ _ _ _ _ _ rfl
@[simp] def f22o3 : List IOper := [
  ⟨(some 13), .fld 10 (.t 4), none, none⟩,
  ⟨(some 14), .load false 1 (.t 13), none, none⟩,
  ⟨(some 8), .mv (.t 14), none, none⟩,
  ⟨(some 9), .mv (.c (.bool true)), none, none⟩]
def f22r3 : IC := .reg false [] f22o3 [8, 9]
@[simp] theorem f22r3_run : run tbl fin K f22r3 e H = regK tbl fin K [] f22o3 [8, 9] e H := run_regK _ _ _ _ _ _ _ _ _ rfl
@[simp] def f22o4 : List IOper := [
  ⟨(some 16), .bin .eql (.t 10) (.c (.int .u8 36)), none, none⟩,
  ⟨(some 15), .mv (.t 16), none, none⟩]
def f22r4 : IC := .reg false [] f22o4 [15, 4, 3, 10, 2]
@[simp] theorem f22r4_run : run tbl fin K f22r4 e H = regK tbl fin K [] f22o4 [15, 4, 3, 10, 2] e H := run_regK _ _ _ _ _ _ _ _ _ rfl
@[simp] def f22o5 : List IOper := [
  ⟨(some 8), .mv (.c (.str [36])), none, none⟩,
  ⟨(some 9), .mv (.c (.bool true)), none, none⟩]
def f22r5 : IC := .reg false [] f22o5 [8, 9]
@[simp] theorem f22r5_run : run tbl fin K f22r5 e H = regK tbl fin K [] f22o5 [8, 9] e H := run_regK _ _ _ _ _ _ _ _ _ rfl
@[simp] def f22o6 : List IOper := [
  ⟨(some 18), .bin .eql (.t 10) (.c (.int .u8 117)), none, none⟩,
  ⟨(some 17), .mv (.t 18), none, none⟩]
def f22r6 : IC := .reg false [] f22o6 [17, 2, 10, 3, 4]
@[simp] theorem f22r6_run : run tbl fin K f22r6 e H = regK tbl fin K [] f22o6 [17, 2, 10, 3, 4] e H := run_regK _ _ _ _ _ _ _ _ _ rfl
@[simp] def f22o7 : List IOper := [
  ⟨(some 19), .load true 15 (.t 4), none, none⟩,
  ⟨(some 20), .call (.c (.fn 24 [])) [(.t 19), (.c (.str [85, 83, 69, 82]))], none, none⟩,
  ⟨(some 8), .mv (.t 20), none, none⟩,
  ⟨(some 9), .mv (.c (.bool true)), none, none⟩]
def f22r7 : IC := .reg false [] f22o7 [8, 9]
@[simp] theorem f22r7_run : run tbl fin K f22r7 e H = regK tbl fin K [] f22o7 [8, 9] e H := run_regK _ _ _ _ _ _ _ _ _ rfl
@[simp] def f22o8 : List IOper := [
  ⟨(some 22), .bin .eql (.t 10) (.c (.int .u8 106)), none, none⟩,
  ⟨(some 21), .mv (.t 22), none, none⟩]
def f22r8 : IC := .reg false [] f22o8 [21, 3, 10, 2]
@[simp] theorem f22r8_run : run tbl fin K f22r8 e H = regK tbl fin K [] f22o8 [21, 3, 10, 2] e H := run_regK _ _ _ _ _ _ _ _ _ rfl
@[simp] def f22o9 : List IOper := [
  ⟨(some 23), .mv (.t 2), none, none⟩,
  ⟨(some 24), .call (.c (.fn 32 [])) [(.t 23)], none, none⟩,
  ⟨(some 8), .mv (.t 24), none, none⟩,
  ⟨(some 9), .mv (.c (.bool true)), none, none⟩]
def f22r9 : IC := .reg false [] f22o9 [8, 9]
@[simp] theorem f22r9_run : run tbl fin K f22r9 e H = regK tbl fin K [] f22o9 [8, 9] e H := run_regK _ _ _ _ _ _ _ _ _ rfl
@[simp] def f22o10 : List IOper := [
  ⟨(some 26), .bin .eql (.t 10) (.c (.int .u8 33)), none, none⟩,
  ⟨(some 25), .mv (.t 26), none, none⟩]
def f22r10 : IC := .reg false [] f22o10 [25, 10, 3]
@[simp] theorem f22r10_run : run tbl fin K f22r10 e H = regK tbl fin K [] f22o10 [25, 10, 3] e H := run_regK _ _ _ _ _ _ _ _ _ rfl
@[simp] def f22o11 : List IOper := [
  ⟨(some 27), .mv (.t 3), none, none⟩,
  ⟨(some 28), .call (.c (.fn 32 [])) [(.t 27)], none, none⟩,
  ⟨(some 8), .mv (.t 28), none, none⟩,
  ⟨(some 9), .mv (.c (.bool true)), none, none⟩]
def f22r11 : IC := .reg false [] f22o11 [8, 9]
@[simp] theorem f22r11_run : run tbl fin K f22r11 e H = regK tbl fin K [] f22o11 [8, 9] e H := run_regK _ _ _ _ _ _ _ _ _ rfl
@[simp] def f22o12 : List IOper := [
  ⟨(some 30), .bin .eql (.t 10) (.c (.int .u8 110)), none, none⟩,
  ⟨(some 29), .mv (.t 30), none, none⟩]
def f22r12 : IC := .reg false [] f22o12 [29, 10]
@[simp] theorem f22r12_run : run tbl fin K f22r12 e H = regK tbl fin K [] f22o12 [29, 10] e H := run_regK _ _ _ _ _ _ _ _ _ rfl
@[simp] def f22o13 : List IOper := [
  ⟨(some 8), .mv (.c (.str [10])), none, none⟩,
  ⟨(some 9), .mv (.c (.bool true)), none, none⟩]
def f22r13 : IC := .reg false [] f22o13 [8, 9]
@[simp] theorem f22r13_run : run tbl fin K f22r13 e H = regK tbl fin K [] f22o13 [8, 9] e H := run_regK _ _ _ _ _ _ _ _ _ rfl
@[simp] def f22o14 : List IOper := [
  ⟨(some 32), .bin .eql (.t 10) (.c (.int .u8 92)), none, none⟩,
  ⟨(some 31), .mv (.t 32), none, none⟩]
def f22r14 : IC := .reg false [] f22o14 [31]
@[simp] theorem f22r14_run : run tbl fin K f22r14 e H = regK tbl fin K [] f22o14 [31] e H := run_regK _ _ _ _ _ _ _ _ _ rfl
@[simp] def f22o15 : List IOper := [
  ⟨(some 8), .mv (.c (.str [92])), none, none⟩,
  ⟨(some 9), .mv (.c (.bool true)), none, none⟩]
def f22r15 : IC := .reg false [] f22o15 [8, 9]
@[simp] theorem f22r15_run : run tbl fin K f22r15 e H = regK tbl fin K [] f22o15 [8, 9] e H := run_regK _ _ _ _ _ _ _ _ _ rfl
@[simp] def f22o16 : List IOper := [
  ⟨(some 8), .mv (.c (.str [])), none, none⟩,
  ⟨(some 9), .mv (.c (.bool false)), none, none⟩]
def f22r16 : IC := .reg false [] f22o16 [8, 9]
@[simp] theorem f22r16_run : run tbl fin K f22r16 e H = regK tbl fin K [] f22o16 [8, 9] e H := run_regK _ _ _ _ _ _ _ _ _ rfl
def f22body : IC := (.seq f22r0 (.seq (.seq f22r1 (.block 0 (.seq f22r2 (.cond (.t 11) (.seq f22r3 .ret) (.seq f22r4 (.cond (.t 15) (.seq f22r5 .ret) (.seq f22r6 (.cond (.t 17) (.seq f22r7 .ret) (.seq f22r8 (.cond (.t 21) (.seq f22r9 .ret) (.seq f22r10 (.cond (.t 25) (.seq f22r11 .ret) (.seq f22r12 (.cond (.t 29) (.seq f22r13 .ret) (.seq f22r14 (.cond (.t 31) (.seq f22r15 .ret) .skip)))))))))))))))) (.seq f22r16 .ret)))
def f22 : IFn := ⟨33, 4, [.tmp 8, .tmp 9], f22body⟩
/- 23: jobshell/jobshellref48.parameter -/
@[simp] def f23o0 : List IOper := [
  ⟨(some 4), .mv (.c (.str [])), none, none⟩,
  ⟨(some 5), .mv (.c (.int .i64 0)), none, none⟩]
def f23r0 : IC := .reg false [] f23o0 [0, 1]
@[simp] theorem f23r0_run : run tbl fin K f23r0 e H = regK tbl fin K [] f23o0 [0, 1] e H := run_regK _ _ _ _ _ _ _ _ _ rfl
@[simp] def f23o1 : List IOper := [
  ⟨(some 9), .mv (.t 1), none, none⟩,
  ⟨(some 10), .bin .add (.t 9) (.c (.int .i64 1)), none, none⟩,
  ⟨(some 11), .mv (.t 0), none, none⟩,
  ⟨(some 12), .slen (.t 11), none, none⟩,
  ⟨(some 13), .bin .geq (.t 10) (.t 12), none, none⟩]
def f23r1 : IC := .reg false [] f23o1 [13, 0, 1]
@[simp] theorem f23r1_run : run tbl fin K f23r1 e H = regK tbl fin K [] f23o1 [13, 0, 1] e H := run_regK _ _ _ _ _ _ _ _ _ rfl
@[simp] def f23o2 : List IOper := [
  ⟨(some 14), .mv (.t 1), none, none⟩,
  ⟨(some 4), .mv (.c (.str [])), none, none⟩,
  ⟨(some 5), .mv (.t 14), none, none⟩]
def f23r2 : IC := .reg false [] f23o2 [4, 5]
@[simp] theorem f23r2_run : run tbl fin K f23r2 e H = regK tbl fin K [] f23o2 [4, 5] e H := run_regK _ _ _ _ _ _ _ _ _ rfl
@[simp] def f23o3 : List IOper := [
  ⟨(some 15), .mv (.t 0), none, none⟩,
  ⟨(some 16), .mv (.t 1), none, none⟩,
  ⟨(some 17), .bin .add (.t 16) (.c (.int .i64 1)), none, none⟩,
  ⟨(some 18), .sidx (.t 15) (.t 17), none, none⟩,
  ⟨(some 6), .mv (.t 18), none, none⟩]
def f23r3 : IC := .reg false [] f23o3 [6, 0, 1]
@[simp] theorem f23r3_run : run tbl fin K f23r3 e H = regK tbl fin K [] f23o3 [6, 0, 1] e H := run_regK _ _ _ _ _ _ _ _ _ rfl
@[simp] def f23o4 : List IOper := [
  ⟨(some 19), .mv (.t 6), none, none⟩,
  ⟨(some 20), .call (.c (.fn 34 [])) [(.t 19)], none, none⟩,
  ⟨(some 21), .mv (.t 20), none, none⟩,
  ⟨(some 22), .mv (.t 6), (some (21, false)), none⟩,
  ⟨(some 23), .call (.c (.fn 35 [])) [(.t 22)], (some (21, false)), none⟩,
  ⟨(some 24), .pick (.t 21) (.c (.bool true)) (.t 23), none, none⟩]
def f23r4 : IC := .reg false [] f23o4 [24, 6, 0, 1]
@[simp] theorem f23r4_run : run tbl fin K f23r4 e H = regK tbl fin K [] f23o4 [24, 6, 0, 1] e H := run_regK _ _ _ _ _ _ _ _ _ rfl
@[simp] def f23o5 : List IOper := [
  ⟨(some 25), .mv (.t 0), none, none⟩,
  ⟨(some 26), .mv (.t 1), none, none⟩,
  ⟨(some 27), .bin .add (.t 26) (.c (.int .i64 1)), none, none⟩,
  ⟨(some 28), .mv (.t 1), none, none⟩,
  ⟨(some 29), .bin .add (.t 28) (.c (.int .i64 2)), none, none⟩,
  ⟨(some 30), .sls (.t 25) (some (.t 27)) (some (.t 29)), none, none⟩,
  ⟨(some 31), .mv (.t 1), none, none⟩,
  ⟨(some 32), .bin .add (.t 31) (.c (.int .i64 2)), none, none⟩,
  ⟨(some 4), .mv (.t 30), none, none⟩,
  ⟨(some 5), .mv (.t 32), none, none⟩]
def f23r5 : IC := .reg false [] f23o5 [4, 5]
@[simp] theorem f23r5_run : run tbl fin K f23r5 e H = regK tbl fin K [] f23o5 [4, 5] e H := run_regK _ _ _ _ _ _ _ _ _ rfl
@[simp] def f23o6 : List IOper := [
  ⟨(some 33), .mv (.t 6), none, none⟩,
  ⟨(some 34), .call (.c (.fn 36 [])) [(.t 33)], none, none⟩]
def f23r6 : IC := .reg false [] f23o6 [34, 6, 0, 1]
@[simp] theorem f23r6_run : run tbl fin K f23r6 e H = regK tbl fin K [] f23o6 [34, 6, 0, 1] e H := run_regK _ _ _ _ _ _ _ _ _ rfl
@[simp] def f23o7 : List IOper := [
  ⟨(some 35), .mv (.t 0), none, none⟩,
  ⟨(some 36), .mv (.t 1), none, none⟩,
  ⟨(some 37), .bin .add (.t 36) (.c (.int .i64 1)), none, none⟩,
  ⟨(some 38), .call (.c (.fn 37 [])) [(.t 35), (.t 37)], none, none⟩,
  ⟨(some 7), .mv (.t 38), none, none⟩]
def f23r7 : IC := .reg false [] f23o7 [0, 1, 7]
@[simp] theorem f23r7_run : run tbl fin K f23r7 e H = regK tbl fin K [] f23o7 [0, 1, 7] e H := run_regK _ _ _ _ _ _ _ _ _ rfl
@[simp] def f23o8 : List IOper := [
  ⟨(some 39), .mv (.t 0), none, none⟩,
  ⟨(some 40), .mv (.t 1), none, none⟩,
  ⟨(some 41), .bin .add (.t 40) (.c (.int .i64 1)), none, none⟩,
  ⟨(some 42), .mv (.t 7), none, none⟩,
  ⟨(some 43), .sls (.t 39) (some (.t 41)) (some (.t 42)), none, none⟩,
  ⟨(some 44), .mv (.t 7), none, none⟩,
  ⟨(some 4), .mv (.t 43), none, none⟩,
  ⟨(some 5), .mv (.t 44), none, none⟩]
def f23r8 : IC := .reg false [] f23o8 [4, 5]
@[simp] theorem f23r8_run : run tbl fin K f23r8 e H = regK tbl fin K [] f23o8 [4, 5] e H := run_regK _ _ _ _ _ _ _ _ _ rfl
@[simp] def f23o9 : List IOper := [
  ⟨(some 45), .mv (.t 6), none, none⟩,
  ⟨(some 46), .bin .neq (.t 45) (.c (.int .u8 123)), none, none⟩,
  ⟨(some 47), .mv (.t 46), none, none⟩,
  ⟨(some 48), .mv (.t 1), (some (47, false)), none⟩,
  ⟨(some 49), .bin .add (.t 48) (.c (.int .i64 2)), (some (47, false)), none⟩,
  ⟨(some 50), .mv (.t 0), (some (47, false)), none⟩,
  ⟨(some 51), .slen (.t 50), (some (47, false)), none⟩,
  ⟨(some 52), .bin .geq (.t 49) (.t 51), (some (47, false)), none⟩,
  ⟨(some 53), .pick (.t 47) (.c (.bool true)) (.t 52), none, none⟩]
def f23r9 : IC := .reg false [] f23o9 [53, 0, 1]
@[simp] theorem f23r9_run : run tbl fin K f23r9 e H = regK tbl fin K [] f23o9 [53, 0, 1] e H := run_regK _ _ _ _ _ _ _ _ _ rfl
@[simp] def f23o10 : List IOper := [
  ⟨(some 54), .mv (.t 1), none, none⟩,
  ⟨(some 4), .mv (.c (.str [])), none, none⟩,
  ⟨(some 5), .mv (.t 54), none, none⟩]
def f23r10 : IC := .reg false [] f23o10 [4, 5]
@[simp] theorem f23r10_run : run tbl fin K f23r10 e H = regK tbl fin K [] f23o10 [4, 5] e H := run_regK _ _ _ _ _ _ _ _ _ rfl
@[simp] def f23o11 : List IOper := [
  ⟨(some 55), .mv (.t 0), none, none⟩,
  ⟨(some 56), .mv (.t 1), none, none⟩,
  ⟨(some 57), .bin .add (.t 56) (.c (.int .i64 2)), none, none⟩,
  ⟨(some 58), .call (.c (.fn 37 [])) [(.t 55), (.t 57)], none, none⟩,
  ⟨(some 8), .mv (.t 58), none, none⟩]
def f23r11 : IC := .reg false [] f23o11 [8, 0, 1]
@[simp] theorem f23r11_run : run tbl fin K f23r11 e H = regK tbl fin K [] f23o11 [8, 0, 1] e H := run_regK _ _ _ _ _ _ _ _ _ rfl
@[simp] def f23o12 : List IOper := [
  ⟨(some 59), .mv (.t 0), none, none⟩,
  ⟨(some 60), .mv (.t 1), none, none⟩,
  ⟨(some 61), .bin .add (.t 60) (.c (.int .i64 2)), none, none⟩,
  ⟨(some 62), .sidx (.t 59) (.t 61), none, none⟩,
  ⟨(some 63), .call (.c (.fn 35 [])) [(.t 62)], none, none⟩]
def f23r12 : IC := .reg false [] f23o12 [63, 8, 0, 1]
@[simp] theorem f23r12_run : run tbl fin K f23r12 e H = regK tbl fin K [] f23o12 [63, 8, 0, 1] e H := run_regK _ _ _ _ _ _ _ _ _ rfl
@[simp] def f23o13 : List IOper := [
  ⟨(some 64), .mv (.t 1), none, none⟩,
  ⟨(some 65), .bin .add (.t 64) (.c (.int .i64 3)), none, none⟩,
  ⟨(some 8), .mv (.t 65), none, none⟩]
def f23r13 : IC := .reg false [] f23o13 [8, 0, 1]
@[simp] theorem f23r13_run : run tbl fin K f23r13 e H = regK tbl fin K [] f23o13 [8, 0, 1] e H := run_regK _ _ _ _ _ _ _ _ _ rfl
@[simp] def f23o14 : List IOper := [
  ⟨(some 66), .mv (.t 8), none, none⟩,
  ⟨(some 67), .mv (.t 1), none, none⟩,
  ⟨(some 68), .bin .add (.t 67) (.c (.int .i64 2)), none, none⟩,
  ⟨(some 69), .bin .eql (.t 66) (.t 68), none, none⟩,
  ⟨(some 70), .mv (.t 69), none, none⟩,
  ⟨(some 71), .mv (.t 8), (some (70, false)), none⟩,
  ⟨(some 72), .mv (.t 0), (some (70, false)), none⟩,
  ⟨(some 73), .slen (.t 72), (some (70, false)), some [73, 71, 70, 8, 0, 1]⟩,
  ⟨(some 74), .bin .geq (.t 71) (.t 73), (some (70, false)), none⟩,
  ⟨(some 75), .pick (.t 70) (.c (.bool true)) (.t 74), none, none⟩,
  ⟨(some 76), .mv (.t 75), none, none⟩,
  ⟨(some 77), .mv (.t 0), (some (76, false)), none⟩,
  ⟨(some 78), .mv (.t 8), (some (76, false)), none⟩,
  ⟨(some 79), .sidx (.t 77) (.t 78), (some (76, false)), none⟩,
  ⟨(some 80), .bin .neq (.t 79) (.c (.int .u8 125)), (some (76, false)), none⟩,
  ⟨(some 81), .pick (.t 76) (.c (.bool true)) (.t 80), none, none⟩]
def f23r14 : IC := .reg false [] f23o14 [81, 8, 0, 1]
@[simp] theorem f23r14_run : run tbl fin K f23r14 e H = regK tbl fin K [] f23o14 [81, 8, 0, 1] e H := run_regK _ _ _ _ _ _ _ _ _ rfl
@[simp] def f23o15 : List IOper := [
  ⟨(some 82), .mv (.t 1), none, none⟩,
  ⟨(some 4), .mv (.c (.str [])), none, none⟩,
  ⟨(some 5), .mv (.t 82), none, none⟩]
def f23r15 : IC := .reg false [] f23o15 [4, 5]
@[simp] theorem f23r15_run : run tbl fin K f23r15 e H = regK tbl fin K [] f23o15 [4, 5] e H := run_regK _ _ _ _ _ _ _ _ _ rfl
@[simp] def f23o16 : List IOper := [
  ⟨(some 83), .mv (.t 0), none, none⟩,
  ⟨(some 84), .mv (.t 1), none, none⟩,
  ⟨(some 85), .bin .add (.t 84) (.c (.int .i64 2)), none, none⟩,
  ⟨(some 86), .mv (.t 8), none, none⟩,
  ⟨(some 87), .sls (.t 83) (some (.t 85)) (some (.t 86)), none, none⟩,
  ⟨(some 88), .mv (.t 8), none, none⟩,
  ⟨(some 89), .bin .add (.t 88) (.c (.int .i64 1)), none, none⟩,
  ⟨(some 4), .mv (.t 87), none, none⟩,
  ⟨(some 5), .mv (.t 89), none, none⟩]
def f23r16 : IC := .reg false [] f23o16 [4, 5]
@[simp] theorem f23r16_run : run tbl fin K f23r16 e H = regK tbl fin K [] f23o16 [4, 5] e H := run_regK _ _ _ _ _ _ _ _ _ rfl
def f23body : IC := (.seq f23r0 (.seq (.seq f23r1 (.cond (.t 13) (.seq f23r2 .ret) .skip)) (.seq f23r3 (.seq (.seq f23r4 (.cond (.t 24) (.seq f23r5 .ret) .skip)) (.seq (.seq f23r6 (.cond (.t 34) (.seq f23r7 (.seq f23r8 .ret)) .skip)) (.seq (.seq f23r9 (.cond (.t 53) (.seq f23r10 .ret) .skip)) (.seq f23r11 (.seq (.seq f23r12 (.cond (.t 63) f23r13 .skip)) (.seq (.seq f23r14 (.cond (.t 81) (.seq f23r15 .ret) .skip)) (.seq f23r16 .ret))))))))))
def f23 : IFn := ⟨90, 2, [.tmp 4, .tmp 5], f23body⟩
/- 24: jobshell/jobshellref48.value -/
@[simp] def f24o0 : List IOper := [
  ⟨(some 2), .box 30 15 (.t 0), none, none⟩,
  ⟨(some 4), .mv (.c (.str [])), none, none⟩]
def f24r0 : IC := .reg false [] f24o0 [2, 1]
@[simp] theorem f24r0_run : run tbl fin K f24r0 e H = regK tbl fin K [] f24o0 [2, 1] e H := run_regK _ _ _ _ _ _ _ _ _ rfl
@[simp] def f24o1 : List IOper := [
  ⟨(some 8), .load true 15 (.t 2), none, none⟩,
  ⟨(some 9), .mv (.t 1), none, none⟩,
  ⟨(some 10), .call (.c (.fn 26 [])) [(.t 8), (.t 9)], none, none⟩,
  ⟨(some 7), .mv (.t 10), none, none⟩,
  ⟨(some 11), .ext (.t 7) 0, none, none⟩,
  ⟨(some 12), .ext (.t 7) 1, none, none⟩,
  ⟨(some 5), .mv (.t 11), none, none⟩,
  ⟨(some 6), .mv (.t 12), none, none⟩]
def f24r1 : IC := .reg false [] f24o1 [5]
@[simp] theorem f24r1_run : run tbl fin K f24r1 e H = regK tbl fin K [] f24o1 [5] e H := run_regK _ _ _ _ _ _ _ _ _ rfl
@[simp] def f24o2 : List IOper := [
  ⟨(some 13), .mv (.t 5), none, none⟩,
  ⟨(some 4), .mv (.t 13), none, none⟩]
def f24r2 : IC := .reg false [] f24o2 [4]
@[simp] theorem f24r2_run : run tbl fin K f24r2 e H = regK tbl fin K [] f24o2 [4] e H := run_regK _ _ _ _ _ _ _ _ _ rfl
def f24body : IC := (.seq f24r0 (.seq f24r1 (.seq f24r2 .ret)))
def f24 : IFn := ⟨14, 2, [.tmp 4], f24body⟩
/- 25: jobshell/param.Value -/
@[simp] def f25o0 : List IOper := [
  ⟨(some 2), .box 30 15 (.t 0), none, none⟩,
  ⟨(some 4), .mv (.c (.str [])), none, none⟩,
  ⟨(some 5), .mv (.c (.bool false)), none, none⟩]
def f25r0 : IC := .reg false [] f25o0 [2, 1]
@[simp] theorem f25r0_run : run tbl fin K f25r0 e H = regK tbl fin K [] f25o0 [2, 1] e H := run_regK _ _ _ _ _ _ _ _ _ rfl
@[simp] def f25o1 : List IOper := [
  ⟨(some 8), .mv (.t 1), none, none⟩,
  ⟨(some 9), .call (.c (.fn 38 [])) [(.t 8)], none, none⟩]
def f25r1 : IC := .reg false [] f25o1 [9, 2, 1]
@[simp] theorem f25r1_run : run tbl fin K f25r1 e H = regK tbl fin K [] f25o1 [9, 2, 1] e H := run_regK _ _ _ _ _ _ _ _ _ rfl
@[simp] def f25o2 : List IOper := [
  ⟨(some 10), .load true 15 (.t 2), none, none⟩,
  ⟨(some 11), .mv (.t 1), none, none⟩,
  ⟨(some 12), .sidx (.t 11) (.c (.int .i64 0)), none, none⟩,
  ⟨(some 13), .call (.c (.fn 39 [])) [(.t 10), (.t 12)], none, none⟩,
  ⟨(some 14), .ext (.t 13) 0, none, none⟩,
  ⟨(some 15), .ext (.t 13) 1, none, none⟩,
  ⟨(some 4), .mv (.t 14), none, none⟩,
  ⟨(some 5), .mv (.t 15), none, none⟩]
def f25r2 : IC := .reg true [] f25o2 [4, 5]
@[simp] theorem f25r2_run : run tbl fin K f25r2 e H = regK tbl fin K [] f25o2 [4, 5] e H := run_regK _ _ _ _ _ _ _ _ _ rfl
@[simp] def f25o3 : List IOper := [
  ⟨(some 17), .mv (.t 1), none, none⟩,
  ⟨(some 18), .call (.c (.fn 40 [])) [(.t 17)], none, none⟩,
  ⟨(some 16), .mv (.t 18), none, none⟩,
  ⟨(some 19), .ext (.t 16) 0, none, none⟩,
  ⟨(some 20), .ext (.t 16) 1, none, none⟩,
  ⟨(some 6), .mv (.t 19), none, none⟩,
  ⟨(some 7), .mv (.t 20), none, none⟩]
def f25r3 : IC := .reg false [] f25o3 [7, 1, 6, 2]
@[simp] theorem f25r3_run : run tbl fin K f25r3 e H = regK tbl fin K [] f25o3 [7, 1, 6, 2] e H := run_regK _ _ _ _ _ _ _ _ _ rfl
@[simp] def f25o4 : List IOper := [
  ⟨(some 21), .mv (.t 7), none, none⟩]
def f25r4 : IC := .reg false [] f25o4 [21, 1, 6, 2]
@[simp] theorem f25r4_run : run tbl fin K f25r4 e H = regK tbl fin K [] f25o4 [21, 1, 6, 2] e H := run_regK _ _ _ _ _ _ _ _ _ rfl
@[simp] def f25o5 : List IOper := [
  ⟨(some 22), .mv (.t 6), none, none⟩,
  ⟨(some 23), .bin .lss (.t 22) (.c (.int .i64 1)), none, none⟩,
  ⟨(some 24), .mv (.t 23), none, none⟩,
  ⟨(some 25), .mv (.t 6), (some (24, false)), none⟩,
  ⟨(some 26), .fld 2 (.t 2), (some (24, false)), none⟩,
  ⟨(some 27), .load false 1 (.t 26), (some (24, false)), none⟩,
  ⟨(some 28), .len (.t 27), (some (24, false)), none⟩,
  ⟨(some 29), .bin .gtr (.t 25) (.t 28), (some (24, false)), none⟩,
  ⟨(some 30), .pick (.t 24) (.c (.bool true)) (.t 29), none, none⟩]
def f25r5 : IC := .reg false [] f25o5 [30, 6, 2]
@[simp] theorem f25r5_run : run tbl fin K f25r5 e H = regK tbl fin K [] f25o5 [30, 6, 2] e H := run_regK _ _ _ _ _ _ _ _ _ rfl
@[simp] def f25o6 : List IOper := [
  ⟨(some 4), .mv (.c (.str [])), none, none⟩,
  ⟨(some 5), .mv (.c (.bool false)), none, none⟩]
def f25r6 : IC := .reg false [] f25o6 [4, 5]
@[simp] theorem f25r6_run : run tbl fin K f25r6 e H = regK tbl fin K [] f25o6 [4, 5] e H := run_regK _ _ _ _ _ _ _ _ _ rfl
@[simp] def f25o7 : List IOper := [
  ⟨(some 31), .fld 2 (.t 2), none, none⟩,
  ⟨(some 32), .load false 1 (.t 31), none, none⟩,
  ⟨(some 33), .mv (.t 6), none, none⟩,
  ⟨(some 34), .bin .sub (.t 33) (.c (.int .i64 1)), none, none⟩,
  ⟨(some 35), .idx 1 (.t 32) (.t 34), none, none⟩,
  ⟨(some 36), .load false 1 (.t 35), none, none⟩,
  ⟨(some 4), .mv (.t 36), none, none⟩,
  ⟨(some 5), .mv (.c (.bool true)), none, none⟩]
def f25r7 : IC := .reg false [] f25o7 [4, 5]
@[simp] theorem f25r7_run : run tbl fin K f25r7 e H = regK tbl fin K [] f25o7 [4, 5] e H := run_regK _ _ _ _ _ _ _ _ _ rfl
@[simp] def f25o8 : List IOper := [
  ⟨(some 37), .mv (.t 1), none, none⟩,
  ⟨(some 38), .call (.c (.fn 41 [])) [(.t 37)], none, none⟩,
  ⟨(some 39), .un .not (.t 38), none, none⟩]
def f25r8 : IC := .reg false [] f25o8 [39, 1, 2]
@[simp] theorem f25r8_run : run tbl fin K f25r8 e H = regK tbl fin K [] f25o8 [39, 1, 2] e H := run_regK _ _ _ _ _ _ _ _ _ rfl
@[simp] def f25o9 : List IOper := [
  ⟨(some 4), .mv (.c (.str [])), none, none⟩,
  ⟨(some 5), .mv (.c (.bool false)), none, none⟩]
def f25r9 : IC := .reg false [] f25o9 [4, 5]
@[simp] theorem f25r9_run : run tbl fin K f25r9 e H = regK tbl fin K [] f25o9 [4, 5] e H := run_regK _ _ _ _ _ _ _ _ _ rfl
@[simp] def f25o10 : List IOper := [
  ⟨(some 40), .load true 15 (.t 2), none, none⟩,
  ⟨(some 41), .mv (.t 1), none, none⟩,
  ⟨(some 42), .call (.c (.fn 42 [])) [(.t 40), (.t 41)], none, none⟩,
  ⟨(some 43), .ext (.t 42) 0, none, none⟩,
  ⟨(some 44), .ext (.t 42) 1, none, none⟩,
  ⟨(some 4), .mv (.t 43), none, none⟩,
  ⟨(some 5), .mv (.t 44), none, none⟩]
def f25r10 : IC := .reg false [] f25o10 [4, 5]
@[simp] theorem f25r10_run : run tbl fin K f25r10 e H = regK tbl fin K [] f25o10 [4, 5] e H := run_regK _ _ _ _ _ _ _ _ _ rfl
def f25body : IC := (.seq f25r0 (.seq (.seq f25r1 (.cond (.t 9) (.seq f25r2 .ret) .skip)) (.seq (.seq f25r3 (.seq f25r4 (.cond (.t 21) (.seq (.seq f25r5 (.cond (.t 30) (.seq f25r6 .ret) .skip)) (.seq f25r7 .ret)) .skip))) (.seq (.seq f25r8 (.cond (.t 39) (.seq f25r9 .ret) .skip)) (.seq f25r10 .ret)))))
def f25 : IFn := ⟨45, 2, [.tmp 4, .tmp 5], f25body⟩
/- 26: jobshell/jobshellref17.Value -/
@[simp] def f26o0 : List IOper := [
  ⟨(some 2), .box 30 15 (.t 0), none, none⟩,
  ⟨(some 4), .mv (.c (.str [])), none, none⟩,
  ⟨(some 5), .mv (.c (.bool false)), none, none⟩]
def f26r0 : IC := .reg false [] f26o0 [2, 1]
@[simp] theorem f26r0_run : run tbl fin K f26r0 e H = regK tbl fin K [] f26o0 [2, 1] e H := run_regK _ _ _ _ _ _ _ _ _ rfl
@[simp] def f26o1 : List IOper := [
  ⟨(some 9), .mv (.t 1), none, none⟩,
  ⟨(some 10), .call (.c (.fn 43 [])) [(.t 9)], none, none⟩,
  ⟨(some 6), .mv (.t 10), none, none⟩]
def f26r1 : IC := .reg false [] f26o1 [6, 2, 1]
@[simp] theorem f26r1_run : run tbl fin K f26r1 e H = regK tbl fin K [] f26o1 [6, 2, 1] e H := run_regK _ _ _ _ _ _ _ _ _ rfl
@[simp] def f26o2 : List IOper := [
  ⟨(some 12), .mv (.t 1), none, none⟩,
  ⟨(some 13), .call (.c (.fn 27 [])) [(.t 12)], none, none⟩,
  ⟨(some 11), .mv (.t 13), none, none⟩]
def f26r2 : IC := .reg false [] f26o2 [11, 6, 2, 1]
@[simp] theorem f26r2_run : run tbl fin K f26r2 e H = regK tbl fin K [] f26o2 [11, 6, 2, 1] e H := run_regK _ _ _ _ _ _ _ _ _ rfl
@[simp] def f26o3 : List IOper := [
  ⟨(some 15), .fld 1 (.t 2), none, none⟩,
  ⟨(some 16), .load false 1 (.t 15), none, none⟩,
  ⟨(some 17), .mv (.t 1), none, none⟩,
  ⟨(some 18), .call (.c (.fn 44 [])) [(.t 16), (.t 17)], none, none⟩,
  ⟨(some 14), .mv (.t 18), none, none⟩,
  ⟨(some 19), .ext (.t 14) 0, none, none⟩,
  ⟨(some 20), .ext (.t 14) 1, none, none⟩,
  ⟨(some 7), .new 42 5 (.agg [(.str []), (.str []), (.bool false), (.bool false), (.bool false)]), none, none⟩,
  ⟨none, .store 5 (.t 7) (.t 19), none, none⟩,
  ⟨(some 8), .mv (.t 20), none, none⟩]
def f26r3 : IC := .reg false [] f26o3 [7]
@[simp] theorem f26r3_run : run tbl fin K f26r3 e H = regK tbl fin K [] f26o3 [7] e H := run_regK _ _ _ _ _ _ _ _ _ rfl
@[simp] def f26o4 : List IOper := [
  ⟨(some 21), .fld 2 (.t 7), none, none⟩,
  ⟨(some 22), .load false 1 (.t 21), none, none⟩,
  ⟨(some 23), .un .not (.t 22), none, none⟩]
def f26r4 : IC := .reg false [] f26o4 [23, 7]
@[simp] theorem f26r4_run : run tbl fin K f26r4 e H = regK tbl fin K [] f26o4 [23, 7] e H := run_regK _ _ _ _ _ _ _ _ _ rfl
@[simp] def f26o5 : List IOper := [
  ⟨(some 4), .mv (.c (.str [])), none, none⟩,
  ⟨(some 5), .mv (.c (.bool false)), none, none⟩]
def f26r5 : IC := .reg false [] f26o5 [4, 5]
@[simp] theorem f26r5_run : run tbl fin K f26r5 e H = regK tbl fin K [] f26o5 [4, 5] e H := run_regK _ _ _ _ _ _ _ _ _ rfl
@[simp] def f26o6 : List IOper := [
  ⟨(some 24), .fld 1 (.t 7), none, none⟩,
  ⟨(some 25), .load false 1 (.t 24), none, none⟩,
  ⟨(some 4), .mv (.t 25), none, none⟩,
  ⟨(some 5), .mv (.c (.bool true)), none, none⟩]
def f26r6 : IC := .reg false [] f26o6 [4, 5]
@[simp] theorem f26r6_run : run tbl fin K f26r6 e H = regK tbl fin K [] f26o6 [4, 5] e H := run_regK _ _ _ _ _ _ _ _ _ rfl
@[simp] def f26o7 : List IOper := [
  ⟨(some 27), .mv (.t 6), none, none⟩,
  ⟨(some 28), .bin .gtr (.t 27) (.c (.int .i64 0)), none, none⟩,
  ⟨(some 29), .mv (.t 28), none, none⟩,
  ⟨(some 30), .mv (.t 6), (some (29, true)), none⟩,
  ⟨(some 31), .fld 2 (.t 2), (some (29, true)), none⟩,
  ⟨(some 32), .load false 1 (.t 31), (some (29, true)), none⟩,
  ⟨(some 33), .len (.t 32), (some (29, true)), none⟩,
  ⟨(some 34), .bin .leq (.t 30) (.t 33), (some (29, true)), none⟩,
  ⟨(some 35), .pick (.t 29) (.t 34) (.c (.bool false)), none, none⟩,
  ⟨(some 26), .mv (.t 35), none, none⟩]
def f26r7 : IC := .reg false [] f26o7 [26, 1, 2, 6]
@[simp] theorem f26r7_run : run tbl fin K f26r7 e H = regK tbl fin K [] f26o7 [26, 1, 2, 6] e H := run_regK _ _ _ _ _ _ _ _ _ rfl
@[simp] def f26o8 : List IOper := [
  ⟨(some 36), .fld 2 (.t 2), none, none⟩,
  ⟨(some 37), .load false 1 (.t 36), none, none⟩,
  ⟨(some 38), .mv (.t 6), none, none⟩,
  ⟨(some 39), .bin .sub (.t 38) (.c (.int .i64 1)), none, none⟩,
  ⟨(some 40), .idx 1 (.t 37) (.t 39), none, none⟩,
  ⟨(some 41), .load false 1 (.t 40), none, none⟩,
  ⟨(some 4), .mv (.t 41), none, none⟩,
  ⟨(some 5), .mv (.c (.bool true)), none, none⟩]
def f26r8 : IC := .reg false [] f26o8 [4, 5]
@[simp] theorem f26r8_run : run tbl fin K f26r8 e H = regK tbl fin K [] f26o8 [4, 5] e H := run_regK _ _ _ _ _ _ _ _ _ rfl
@[simp] def f26o9 : List IOper := [
  ⟨(some 43), .mv (.t 1), none, none⟩,
  ⟨(some 44), .bin .eql (.t 43) (.c (.str [48])), none, none⟩,
  ⟨(some 42), .mv (.t 44), none, none⟩]
def f26r9 : IC := .reg false [] f26o9 [42, 1, 2]
@[simp] theorem f26r9_run : run tbl fin K f26r9 e H = regK tbl fin K [] f26o9 [42, 1, 2] e H := run_regK _ _ _ _ _ _ _ _ _ rfl
@[simp] def f26o10 : List IOper := [
  ⟨(some 45), .fld 0 (.t 2), none, none⟩,
  ⟨(some 46), .load false 1 (.t 45), none, none⟩,
  ⟨(some 4), .mv (.t 46), none, none⟩,
  ⟨(some 5), .mv (.c (.bool true)), none, none⟩]
def f26r10 : IC := .reg false [] f26o10 [4, 5]
@[simp] theorem f26r10_run : run tbl fin K f26r10 e H = regK tbl fin K [] f26o10 [4, 5] e H := run_regK _ _ _ _ _ _ _ _ _ rfl
@[simp] def f26o11 : List IOper := [
  ⟨(some 48), .mv (.t 1), none, none⟩,
  ⟨(some 49), .bin .eql (.t 48) (.c (.str [35])), none, none⟩,
  ⟨(some 47), .mv (.t 49), none, none⟩]
def f26r11 : IC := .reg false [] f26o11 [47, 1, 2]
@[simp] theorem f26r11_run : run tbl fin K f26r11 e H = regK tbl fin K [] f26o11 [47, 1, 2] e H := run_regK _ _ _ _ _ _ _ _ _ rfl
@[simp] def f26o12 : List IOper := [
  ⟨(some 50), .fld 2 (.t 2), none, none⟩,
  ⟨(some 51), .load false 1 (.t 50), none, none⟩,
  ⟨(some 52), .len (.t 51), none, none⟩,
  ⟨(some 53), .call (.c (.fn 45 [])) [(.t 52)], none, none⟩,
  ⟨(some 4), .mv (.t 53), none, none⟩,
  ⟨(some 5), .mv (.c (.bool true)), none, none⟩]
def f26r12 : IC := .reg false [] f26o12 [4, 5]
@[simp] theorem f26r12_run : run tbl fin K f26r12 e H = regK tbl fin K [] f26o12 [4, 5] e H := run_regK _ _ _ _ _ _ _ _ _ rfl
@[simp] def f26o13 : List IOper := [
  ⟨(some 55), .mv (.t 1), none, none⟩,
  ⟨(some 56), .bin .eql (.t 55) (.c (.str [63])), none, none⟩,
  ⟨(some 54), .mv (.t 56), none, none⟩]
def f26r13 : IC := .reg false [] f26o13 [54, 1, 2]
@[simp] theorem f26r13_run : run tbl fin K f26r13 e H = regK tbl fin K [] f26o13 [54, 1, 2] e H := run_regK _ _ _ _ _ _ _ _ _ rfl
@[simp] def f26o14 : List IOper := [
  ⟨(some 57), .fld 7 (.t 2), none, none⟩,
  ⟨(some 58), .load false 1 (.t 57), none, none⟩,
  ⟨(some 59), .call (.c (.fn 45 [])) [(.t 58)], none, none⟩,
  ⟨(some 4), .mv (.t 59), none, none⟩,
  ⟨(some 5), .mv (.c (.bool true)), none, none⟩]
def f26r14 : IC := .reg false [] f26o14 [4, 5]
@[simp] theorem f26r14_run : run tbl fin K f26r14 e H = regK tbl fin K [] f26o14 [4, 5] e H := run_regK _ _ _ _ _ _ _ _ _ rfl
@[simp] def f26o15 : List IOper := [
  ⟨(some 61), .mv (.t 1), none, none⟩,
  ⟨(some 62), .bin .eql (.t 61) (.c (.str [45])), none, none⟩,
  ⟨(some 60), .mv (.t 62), none, none⟩]
def f26r15 : IC := .reg false [] f26o15 [60, 1, 2]
@[simp] theorem f26r15_run : run tbl fin K f26r15 e H = regK tbl fin K [] f26o15 [60, 1, 2] e H := run_regK _ _ _ _ _ _ _ _ _ rfl
@[simp] def f26o16 : List IOper := [
  ⟨(some 63), .fld 6 (.t 2), none, none⟩,
  ⟨(some 64), .load false 1 (.t 63), none, none⟩,
  ⟨(some 65), .call (.c (.fn 46 [])) [(.t 64)], none, none⟩,
  ⟨(some 4), .mv (.t 65), none, none⟩,
  ⟨(some 5), .mv (.c (.bool true)), none, none⟩]
def f26r16 : IC := .reg false [] f26o16 [4, 5]
@[simp] theorem f26r16_run : run tbl fin K f26r16 e H = regK tbl fin K [] f26o16 [4, 5] e H := run_regK _ _ _ _ _ _ _ _ _ rfl
@[simp] def f26o17 : List IOper := [
  ⟨(some 67), .mv (.t 1), none, none⟩,
  ⟨(some 68), .bin .eql (.t 67) (.c (.str [36])), none, none⟩,
  ⟨(some 66), .mv (.t 68), none, none⟩]
def f26r17 : IC := .reg false [] f26o17 [66, 1, 2]
@[simp] theorem f26r17_run : run tbl fin K f26r17 e H = regK tbl fin K [] f26o17 [66, 1, 2] e H := run_regK _ _ _ _ _ _ _ _ _ rfl
@[simp] def f26o18 : List IOper := [
  ⟨(some 69), .fld 8 (.t 2), none, none⟩,
  ⟨(some 70), .load false 1 (.t 69), none, none⟩,
  ⟨(some 71), .call (.c (.fn 45 [])) [(.t 70)], none, none⟩,
  ⟨(some 4), .mv (.t 71), none, none⟩,
  ⟨(some 5), .mv (.c (.bool true)), none, none⟩]
def f26r18 : IC := .reg false [] f26o18 [4, 5]
@[simp] theorem f26r18_run : run tbl fin K f26r18 e H = regK tbl fin K [] f26o18 [4, 5] e H := run_regK _ _ _ _ _ _ _ _ _ rfl
@[simp] def f26o19 : List IOper := [
  ⟨(some 73), .mv (.t 1), none, none⟩,
  ⟨(some 74), .bin .eql (.t 73) (.c (.str [33])), none, none⟩,
  ⟨(some 75), .mv (.t 74), none, none⟩,
  ⟨(some 76), .fld 9 (.t 2), (some (75, true)), none⟩,
  ⟨(some 77), .load false 1 (.t 76), (some (75, true)), none⟩,
  ⟨(some 78), .bin .neq (.t 77) (.c (.int .i64 0)), (some (75, true)), none⟩,
  ⟨(some 79), .pick (.t 75) (.t 78) (.c (.bool false)), none, none⟩,
  ⟨(some 72), .mv (.t 79), none, none⟩]
def f26r19 : IC := .reg false [] f26o19 [72, 1, 2]
@[simp] theorem f26r19_run : run tbl fin K f26r19 e H = regK tbl fin K [] f26o19 [72, 1, 2] e H := run_regK _ _ _ _ _ _ _ _ _ rfl
@[simp] def f26o20 : List IOper := [
  ⟨(some 80), .fld 9 (.t 2), none, none⟩,
  ⟨(some 81), .load false 1 (.t 80), none, none⟩,
  ⟨(some 82), .call (.c (.fn 45 [])) [(.t 81)], none, none⟩,
  ⟨(some 4), .mv (.t 82), none, none⟩,
  ⟨(some 5), .mv (.c (.bool true)), none, none⟩]
def f26r20 : IC := .reg false [] f26o20 [4, 5]
@[simp] theorem f26r20_run : run tbl fin K f26r20 e H = regK tbl fin K [] f26o20 [4, 5] e H := run_regK _ _ _ _ _ _ _ _ _ rfl
@[simp] def f26o21 : List IOper := [
  ⟨(some 84), .mv (.t 1), none, none⟩,
  ⟨(some 85), .bin .eql (.t 84) (.c (.str [64])), none, none⟩,
  ⟨(some 83), .mv (.t 85), none, none⟩]
def f26r21 : IC := .reg false [] f26o21 [83, 1, 2]
@[simp] theorem f26r21_run : run tbl fin K f26r21 e H = regK tbl fin K [] f26o21 [83, 1, 2] e H := run_regK _ _ _ _ _ _ _ _ _ rfl
@[simp] def f26o22 : List IOper := [
  ⟨(some 86), .fld 2 (.t 2), none, none⟩,
  ⟨(some 87), .load false 1 (.t 86), none, none⟩,
  ⟨(some 88), .call (.c (.fn 47 [])) [(.t 87), (.c (.str [32]))], none, none⟩,
  ⟨(some 89), .fld 2 (.t 2), none, none⟩,
  ⟨(some 90), .load false 1 (.t 89), none, none⟩,
  ⟨(some 91), .len (.t 90), none, none⟩,
  ⟨(some 92), .bin .gtr (.t 91) (.c (.int .i64 0)), none, none⟩,
  ⟨(some 4), .mv (.t 88), none, none⟩,
  ⟨(some 5), .mv (.t 92), none, none⟩]
def f26r22 : IC := .reg true [] f26o22 [4, 5]
@[simp] theorem f26r22_run : run tbl fin K f26r22 e H = regK tbl fin K [] f26o22 [4, 5] e H := run_regK _ _ _ _ _ _ _ _ _ rfl
@[simp] def f26o23 : List IOper := [
  ⟨(some 94), .mv (.t 1), none, none⟩,
  ⟨(some 95), .bin .eql (.t 94) (.c (.str [42])), none, none⟩,
  ⟨(some 93), .mv (.t 95), none, none⟩]
def f26r23 : IC := .reg false [] f26o23 [93, 2]
@[simp] theorem f26r23_run : run tbl fin K f26r23 e H = regK tbl fin K [] f26o23 [93, 2] e H := run_regK _ _ _ _ _ _ _ _ _ rfl
@[simp] def f26o24 : List IOper := [
  ⟨(some 96), .fld 2 (.t 2), none, none⟩,
  ⟨(some 97), .load false 1 (.t 96), none, none⟩,
  ⟨(some 98), .fld 1 (.t 2), none, none⟩,
  ⟨(some 99), .load false 1 (.t 98), none, none⟩,
  ⟨(some 100), .call (.c (.fn 48 [])) [(.t 99)], none, none⟩,
  ⟨(some 101), .call (.c (.fn 47 [])) [(.t 97), (.t 100)], none, none⟩,
  ⟨(some 102), .fld 2 (.t 2), none, none⟩,
  ⟨(some 103), .load false 1 (.t 102), none, none⟩,
  ⟨(some 104), .len (.t 103), none, none⟩,
  ⟨(some 105), .bin .gtr (.t 104) (.c (.int .i64 0)), none, none⟩,
  ⟨(some 4), .mv (.t 101), none, none⟩,
  ⟨(some 5), .mv (.t 105), none, none⟩]
def f26r24 : IC := .reg true [] f26o24 [4, 5]
@[simp] theorem f26r24_run : run tbl fin K f26r24 e H = regK tbl fin K [] f26o24 [4, 5] e H := run_regK _ _ _ _ _ _ _ _ _ rfl
@[simp] def f26o25 : List IOper := [
  ⟨(some 4), .mv (.c (.str [])), none, none⟩,
  ⟨(some 5), .mv (.c (.bool false)), none, none⟩]
def f26r25 : IC := .reg false [] f26o25 [4, 5]
@[simp] theorem f26r25_run : run tbl fin K f26r25 e H = regK tbl fin K [] f26o25 [4, 5] e H := run_regK _ _ _ _ _ _ _ _ _ rfl
def f26body : IC := (.seq f26r0 (.seq f26r1 (.seq (.block 0 (.seq f26r2 (.cond (.t 11) (.seq f26r3 (.seq (.seq f26r4 (.cond (.t 23) (.seq f26r5 .ret) .skip)) (.seq f26r6 .ret))) (.seq f26r7 (.cond (.t 26) (.seq f26r8 .ret) (.seq f26r9 (.cond (.t 42) (.seq f26r10 .ret) (.seq f26r11 (.cond (.t 47) (.seq f26r12 .ret) (.seq f26r13 (.cond (.t 54) (.seq f26r14 .ret) (.seq f26r15 (.cond (.t 60) (.seq f26r16 .ret) (.seq f26r17 (.cond (.t 66) (.seq f26r18 .ret) (.seq f26r19 (.cond (.t 72) (.seq f26r20 .ret) (.seq f26r21 (.cond (.t 83) (.seq f26r22 .ret) (.seq f26r23 (.cond (.t 93) (.seq f26r24 .ret) .skip))))))))))))))))))))) (.seq f26r25 .ret))))
def f26 : IFn := ⟨106, 2, [.tmp 4, .tmp 5], f26body⟩
/- 27: jobshell/jobshellref01.Name -/
@[simp] def f27o0 : List IOper := [
  ⟨(some 2), .mv (.c (.bool false)), none, none⟩]
def f27r0 : IC := .reg false [] f27o0 [0]
@[simp] theorem f27r0_run : run tbl fin K f27r0 e H = regK tbl fin K [] f27o0 [0] e H := run_regK _ _ _ _ _ _ _ _ _ rfl
@[simp] def f27o1 : List IOper := [
  ⟨(some 4), .mv (.t 0), none, none⟩,
  ⟨(some 5), .bin .eql (.t 4) (.c (.str [])), none, none⟩,
  ⟨(some 6), .mv (.t 5), none, none⟩,
  ⟨(some 7), .mv (.t 0), (some (6, false)), none⟩,
  ⟨(some 8), .slen (.t 7), (some (6, false)), none⟩,
  ⟨(some 9), .bin .gtr (.t 8) (.c (.int .i64 32)), (some (6, false)), none⟩,
  ⟨(some 10), .pick (.t 6) (.c (.bool true)) (.t 9), none, none⟩,
  ⟨(some 11), .mv (.t 10), none, some [11, 0]⟩,
  ⟨(some 12), .mv (.t 0), (some (11, false)), none⟩,
  ⟨(some 13), .sidx (.t 12) (.c (.int .i64 0)), (some (11, false)), none⟩,
  ⟨(some 14), .call (.c (.fn 49 [])) [(.t 13)], (some (11, false)), none⟩,
  ⟨(some 15), .pick (.t 11) (.c (.bool true)) (.t 14), none, none⟩]
def f27r1 : IC := .reg false [] f27o1 [15, 0]
@[simp] theorem f27r1_run : run tbl fin K f27r1 e H = regK tbl fin K [] f27o1 [15, 0] e H := run_regK _ _ _ _ _ _ _ _ _ rfl
@[simp] def f27o2 : List IOper := [
  ⟨(some 2), .mv (.c (.bool false)), none, none⟩]
def f27r2 : IC := .reg false [] f27o2 [2]
@[simp] theorem f27r2_run : run tbl fin K f27r2 e H = regK tbl fin K [] f27o2 [2] e H := run_regK _ _ _ _ _ _ _ _ _ rfl
@[simp] def f27o3 : List IOper := [
  ⟨(some 3), .mv (.c (.int .i64 0)), none, none⟩]
def f27r3 : IC := .reg false [] f27o3 [0, 3]
@[simp] theorem f27r3_run : run tbl fin K f27r3 e H = regK tbl fin K [] f27o3 [0, 3] e H := run_regK _ _ _ _ _ _ _ _ _ rfl
@[simp] def f27o4 : List IOper := [
  ⟨(some 16), .mv (.t 3), none, none⟩,
  ⟨(some 17), .mv (.t 0), none, none⟩,
  ⟨(some 18), .slen (.t 17), none, none⟩,
  ⟨(some 19), .bin .lss (.t 16) (.t 18), none, none⟩]
def f27r4 : IC := .reg false [] f27o4 [19, 0, 3]
@[simp] theorem f27r4_run : run tbl fin K f27r4 e H = regK tbl fin K [] f27o4 [19, 0, 3] e H := run_regK _ _ _ _ _ _ _ _ _ rfl
@[simp] def f27o5 : List IOper := [
  ⟨(some 22), .mv (.t 0), none, none⟩,
  ⟨(some 23), .mv (.t 3), none, none⟩,
  ⟨(some 24), .sidx (.t 22) (.t 23), none, none⟩,
  ⟨(some 25), .call (.c (.fn 50 [])) [(.t 24)], none, none⟩,
  ⟨(some 26), .un .not (.t 25), none, none⟩]
def f27r5 : IC := .reg false [] f27o5 [26, 0, 3]
@[simp] theorem f27r5_run : run tbl fin K f27r5 e H = regK tbl fin K [] f27o5 [26, 0, 3] e H := run_regK _ _ _ _ _ _ _ _ _ rfl
@[simp] def f27o6 : List IOper := [
  ⟨(some 2), .mv (.c (.bool false)), none, none⟩]
def f27r6 : IC := .reg false [] f27o6 [2]
@[simp] theorem f27r6_run : run tbl fin K f27r6 e H = regK tbl fin K [] f27o6 [2] e H := run_regK _ _ _ _ _ _ _ _ _ rfl
@[simp] def f27o7 : List IOper := [
  ⟨(some 20), .mv (.t 3), none, none⟩,
  ⟨(some 21), .bin .add (.t 20) (.c (.int .i64 1)), none, none⟩,
  ⟨(some 3), .mv (.t 21), none, none⟩]
def f27r7 : IC := .reg false [] f27o7 [0, 3]
@[simp] theorem f27r7_run : run tbl fin K f27r7 e H = regK tbl fin K [] f27o7 [0, 3] e H := run_regK _ _ _ _ _ _ _ _ _ rfl
def f27b8 : IC := (.seq (.seq f27r4 (.cond (.t 19) .skip (.exit 0))) (.seq (.block 1 (.seq f27r5 (.cond (.t 26) (.seq f27r6 .ret) .skip))) f27r7))
theorem f27b8_eq : f27b8 = (.seq (.seq f27r4 (.cond (.t 19) .skip (.exit 0))) (.seq (.block 1 (.seq f27r5 (.cond (.t 26) (.seq f27r6 .ret) .skip))) f27r7)) := rfl
@[simp] def f27o9 : List IOper := [
  ⟨(some 2), .mv (.c (.bool true)), none, none⟩]
def f27r9 : IC := .reg false [] f27o9 [2]
@[simp] theorem f27r9_run : run tbl fin K f27r9 e H = regK tbl fin K [] f27o9 [2] e H := run_regK _ _ _ _ _ _ _ _ _ rfl
def f27body : IC := (.seq f27r0 (.seq (.seq f27r1 (.cond (.t 15) (.seq f27r2 .ret) .skip)) (.seq (.seq f27r3 (.block 0 (.loop [0, 3] f27b8))) (.seq f27r9 .ret))))
def f27 : IFn := ⟨27, 1, [.tmp 2], f27body⟩
/- 28: jobshell/prompt.braced -/
@[simp] def f28o0 : List IOper := [
  ⟨(some 2), .mv (.c (.int .i64 0)), none, none⟩]
def f28r0 : IC := .reg false [] f28o0 [0]
@[simp] theorem f28r0_run : run tbl fin K f28r0 e H = regK tbl fin K [] f28o0 [0] e H := run_regK _ _ _ _ _ _ _ _ _ rfl
@[simp] def f28o1 : List IOper := [
  ⟨(some 4), .mv (.t 0), none, none⟩,
  ⟨(some 5), .call (.c (.fn 31 [])) [(.t 4), (.c (.int .i64 2))], none, none⟩,
  ⟨(some 3), .mv (.t 5), none, none⟩]
def f28r1 : IC := .reg false [] f28o1 [3, 0]
@[simp] theorem f28r1_run : run tbl fin K f28r1 e H = regK tbl fin K [] f28o1 [3, 0] e H := run_regK _ _ _ _ _ _ _ _ _ rfl
@[simp] def f28o2 : List IOper := [
  ⟨(some 6), .mv (.t 3), none, none⟩,
  ⟨(some 7), .bin .eql (.t 6) (.c (.int .i64 2)), none, none⟩,
  ⟨(some 8), .mv (.t 7), none, none⟩,
  ⟨(some 9), .mv (.t 3), (some (8, true)), none⟩,
  ⟨(some 10), .mv (.t 0), (some (8, true)), none⟩,
  ⟨(some 11), .slen (.t 10), (some (8, true)), none⟩,
  ⟨(some 12), .bin .lss (.t 9) (.t 11), (some (8, true)), none⟩,
  ⟨(some 13), .pick (.t 8) (.t 12) (.c (.bool false)), none, some [13, 3, 0]⟩,
  ⟨(some 14), .mv (.t 13), none, none⟩,
  ⟨(some 15), .mv (.t 0), (some (14, true)), none⟩,
  ⟨(some 16), .sidx (.t 15) (.c (.int .i64 2)), (some (14, true)), none⟩,
  ⟨(some 17), .call (.c (.fn 29 [])) [(.t 16)], (some (14, true)), none⟩,
  ⟨(some 18), .pick (.t 14) (.t 17) (.c (.bool false)), none, none⟩]
def f28r2 : IC := .reg false [] f28o2 [18, 3, 0]
@[simp] theorem f28r2_run : run tbl fin K f28r2 e H = regK tbl fin K [] f28o2 [18, 3, 0] e H := run_regK _ _ _ _ _ _ _ _ _ rfl
@[simp] def f28o3 : List IOper := [
  ⟨(some 3), .mv (.c (.int .i64 3)), none, none⟩]
def f28r3 : IC := .reg false [] f28o3 [0, 3]
@[simp] theorem f28r3_run : run tbl fin K f28r3 e H = regK tbl fin K [] f28o3 [0, 3] e H := run_regK _ _ _ _ _ _ _ _ _ rfl
@[simp] def f28o4 : List IOper := [
  ⟨(some 19), .mv (.t 3), none, none⟩,
  ⟨(some 20), .bin .eql (.t 19) (.c (.int .i64 2)), none, none⟩,
  ⟨(some 21), .mv (.t 20), none, none⟩,
  ⟨(some 22), .mv (.t 3), (some (21, false)), none⟩,
  ⟨(some 23), .mv (.t 0), (some (21, false)), none⟩,
  ⟨(some 24), .slen (.t 23), (some (21, false)), none⟩,
  ⟨(some 25), .bin .geq (.t 22) (.t 24), (some (21, false)), none⟩,
  ⟨(some 26), .pick (.t 21) (.c (.bool true)) (.t 25), none, some [26, 0, 3]⟩,
  ⟨(some 27), .mv (.t 26), none, none⟩,
  ⟨(some 28), .mv (.t 0), (some (27, false)), none⟩,
  ⟨(some 29), .mv (.t 3), (some (27, false)), none⟩,
  ⟨(some 30), .sidx (.t 28) (.t 29), (some (27, false)), none⟩,
  ⟨(some 31), .bin .neq (.t 30) (.c (.int .u8 125)), (some (27, false)), none⟩,
  ⟨(some 32), .pick (.t 27) (.c (.bool true)) (.t 31), none, none⟩]
def f28r4 : IC := .reg false [] f28o4 [32, 3]
@[simp] theorem f28r4_run : run tbl fin K f28r4 e H = regK tbl fin K [] f28o4 [32, 3] e H := run_regK _ _ _ _ _ _ _ _ _ rfl
@[simp] def f28o5 : List IOper := [
  ⟨(some 2), .mv (.c (.int .i64 0)), none, none⟩]
def f28r5 : IC := .reg false [] f28o5 [2]
@[simp] theorem f28r5_run : run tbl fin K f28r5 e H = regK tbl fin K [] f28o5 [2] e H := run_regK _ _ _ _ _ _ _ _ _ rfl
@[simp] def f28o6 : List IOper := [
  ⟨(some 33), .mv (.t 3), none, none⟩,
  ⟨(some 2), .mv (.t 33), none, none⟩]
def f28r6 : IC := .reg false [] f28o6 [2]
@[simp] theorem f28r6_run : run tbl fin K f28r6 e H = regK tbl fin K [] f28o6 [2] e H := run_regK _ _ _ _ _ _ _ _ _ rfl
def f28body : IC := (.seq f28r0 (.seq f28r1 (.seq (.seq f28r2 (.cond (.t 18) f28r3 .skip)) (.seq (.seq f28r4 (.cond (.t 32) (.seq f28r5 .ret) .skip)) (.seq f28r6 .ret)))))
def f28 : IFn := ⟨34, 1, [.tmp 2], f28body⟩
/- 29: jobshell/prompt.special -/
@[simp] def f29o0 : List IOper := [
  ⟨(some 2), .mv (.c (.bool false)), none, none⟩]
def f29r0 : IC := .reg false [] f29o0 [0]
@[simp] theorem f29r0_run : run tbl fin K f29r0 e H = regK tbl fin K [] f29o0 [0] e H := run_regK _ _ _ _ _ _ _ _ _ rfl
@[simp] def f29o1 : List IOper := [
  ⟨(some 3), .mv (.t 0), none, none⟩,
  ⟨(some 4), .call (.c (.fn 51 [])) [(.c (.str [64, 42, 35, 63, 45, 36, 33])), (.t 3)], none, none⟩,
  ⟨(some 5), .bin .geq (.t 4) (.c (.int .i64 0)), none, none⟩,
  ⟨(some 2), .mv (.t 5), none, none⟩]
def f29r1 : IC := .reg false [] f29o1 [2]
@[simp] theorem f29r1_run : run tbl fin K f29r1 e H = regK tbl fin K [] f29o1 [2] e H := run_regK _ _ _ _ _ _ _ _ _ rfl
def f29body : IC := (.seq f29r0 (.seq f29r1 .ret))
def f29 : IFn := ⟨6, 1, [.tmp 2], f29body⟩
/- 30: jobshell/prompt.wordByte -/
@[simp] def f30o0 : List IOper := [
  ⟨(some 2), .mv (.c (.bool false)), none, none⟩]
def f30r0 : IC := .reg false [] f30o0 [0]
@[simp] theorem f30r0_run : run tbl fin K f30r0 e H = regK tbl fin K [] f30o0 [0] e H := run_regK _ _ _ _ _ _ _ _ _ rfl
@[simp] def f30o1 : List IOper := [
  ⟨(some 3), .mv (.t 0), none, none⟩,
  ⟨(some 4), .bin .eql (.t 3) (.c (.int .u8 95)), none, none⟩,
  ⟨(some 5), .mv (.t 4), none, none⟩,
  ⟨(some 6), .mv (.t 0), (some (5, false)), none⟩,
  ⟨(some 7), .bin .geq (.t 6) (.c (.int .u8 48)), (some (5, false)), none⟩,
  ⟨(some 8), .mv (.t 7), (some (5, false)), none⟩,
  ⟨(some 9), .mv (.t 0), (some (8, true)), none⟩,
  ⟨(some 10), .bin .leq (.t 9) (.c (.int .u8 57)), (some (8, true)), some [10, 8, 5, 0]⟩,
  ⟨(some 11), .pick (.t 8) (.t 10) (.c (.bool false)), (some (5, false)), none⟩,
  ⟨(some 12), .pick (.t 5) (.c (.bool true)) (.t 11), none, none⟩,
  ⟨(some 13), .mv (.t 12), none, none⟩,
  ⟨(some 14), .mv (.t 0), (some (13, false)), none⟩,
  ⟨(some 15), .bin .geq (.t 14) (.c (.int .u8 65)), (some (13, false)), none⟩,
  ⟨(some 16), .mv (.t 15), (some (13, false)), none⟩,
  ⟨(some 17), .mv (.t 0), (some (16, true)), none⟩,
  ⟨(some 18), .bin .leq (.t 17) (.c (.int .u8 90)), (some (16, true)), some [18, 16, 13, 0]⟩,
  ⟨(some 19), .pick (.t 16) (.t 18) (.c (.bool false)), (some (13, false)), none⟩,
  ⟨(some 20), .pick (.t 13) (.c (.bool true)) (.t 19), none, none⟩,
  ⟨(some 21), .mv (.t 20), none, none⟩,
  ⟨(some 22), .mv (.t 0), (some (21, false)), none⟩,
  ⟨(some 23), .bin .geq (.t 22) (.c (.int .u8 97)), (some (21, false)), none⟩,
  ⟨(some 24), .mv (.t 23), (some (21, false)), none⟩,
  ⟨(some 25), .mv (.t 0), (some (24, true)), none⟩,
  ⟨(some 26), .bin .leq (.t 25) (.c (.int .u8 122)), (some (24, true)), some [26, 24, 21]⟩,
  ⟨(some 27), .pick (.t 24) (.t 26) (.c (.bool false)), (some (21, false)), none⟩,
  ⟨(some 28), .pick (.t 21) (.c (.bool true)) (.t 27), none, none⟩,
  ⟨(some 2), .mv (.t 28), none, none⟩]
def f30r1 : IC := .reg false [] f30o1 [2]
@[simp] theorem f30r1_run : run tbl fin K f30r1 e H = regK tbl fin K [] f30o1 [2] e H := run_regK _ _ _ _ _ _ _ _ _ rfl
def f30body : IC := (.seq f30r0 (.seq f30r1 .ret))
def f30 : IFn := ⟨29, 1, [.tmp 2], f30body⟩
/- 31: jobshell/prompt.wordEnd -/
@[simp] def f31o0 : List IOper := [
  ⟨(some 4), .mv (.c (.int .i64 0)), none, none⟩]
def f31r0 : IC := .reg false [] f31o0 [1, 0]
@[simp] theorem f31r0_run : run tbl fin K f31r0 e H = regK tbl fin K [] f31o0 [1, 0] e H := run_regK _ _ _ _ _ _ _ _ _ rfl
@[simp] def f31o1 : List IOper := [
  ⟨(some 5), .mv (.t 1), none, none⟩,
  ⟨(some 6), .mv (.t 0), none, none⟩,
  ⟨(some 7), .slen (.t 6), none, none⟩,
  ⟨(some 8), .bin .lss (.t 5) (.t 7), none, none⟩,
  ⟨(some 9), .mv (.t 8), none, none⟩,
  ⟨(some 10), .mv (.t 0), (some (9, true)), none⟩,
  ⟨(some 11), .mv (.t 1), (some (9, true)), none⟩,
  ⟨(some 12), .sidx (.t 10) (.t 11), (some (9, true)), none⟩,
  ⟨(some 13), .call (.c (.fn 30 [])) [(.t 12)], (some (9, true)), none⟩,
  ⟨(some 14), .pick (.t 9) (.t 13) (.c (.bool false)), none, none⟩]
def f31r1 : IC := .reg false [] f31o1 [14, 1, 0]
@[simp] theorem f31r1_run : run tbl fin K f31r1 e H = regK tbl fin K [] f31o1 [14, 1, 0] e H := run_regK _ _ _ _ _ _ _ _ _ rfl
@[simp] def f31o2 : List IOper := [
  ⟨(some 15), .mv (.t 1), none, none⟩,
  ⟨(some 16), .bin .add (.t 15) (.c (.int .i64 1)), none, none⟩,
  ⟨(some 1), .mv (.t 16), none, none⟩]
def f31r2 : IC := .reg false [] f31o2 [1, 0]
@[simp] theorem f31r2_run : run tbl fin K f31r2 e H = regK tbl fin K [] f31o2 [1, 0] e H := run_regK _ _ _ _ _ _ _ _ _ rfl
def f31b3 : IC := (.seq (.seq f31r1 (.cond (.t 14) .skip (.exit 0))) (.block 1 f31r2))
theorem f31b3_eq : f31b3 = (.seq (.seq f31r1 (.cond (.t 14) .skip (.exit 0))) (.block 1 f31r2)) := rfl
@[simp] def f31o4 : List IOper := [
  ⟨(some 17), .mv (.t 1), none, none⟩,
  ⟨(some 4), .mv (.t 17), none, none⟩]
def f31r4 : IC := .reg false [] f31o4 [4]
@[simp] theorem f31r4_run : run tbl fin K f31r4 e H = regK tbl fin K [] f31o4 [4] e H := run_regK _ _ _ _ _ _ _ _ _ rfl
def f31body : IC := (.seq f31r0 (.seq (.block 0 (.loop [1, 0] f31b3)) (.seq f31r4 .ret)))
def f31 : IFn := ⟨18, 2, [.tmp 4], f31body⟩
/- 32: strconv.Itoa is met by a contract -/
/- 33: (*strings.Builder).copyCheck is met by a contract -/
/- 34: jobshell/jobshellref48.digit -/
@[simp] def f34o0 : List IOper := [
  ⟨(some 2), .mv (.c (.bool false)), none, none⟩]
def f34r0 : IC := .reg false [] f34o0 [0]
@[simp] theorem f34r0_run : run tbl fin K f34r0 e H = regK tbl fin K [] f34o0 [0] e H := run_regK _ _ _ _ _ _ _ _ _ rfl
@[simp] def f34o1 : List IOper := [
  ⟨(some 3), .mv (.t 0), none, none⟩,
  ⟨(some 4), .bin .geq (.t 3) (.c (.int .u8 48)), none, none⟩,
  ⟨(some 5), .mv (.t 4), none, none⟩,
  ⟨(some 6), .mv (.t 0), (some (5, true)), none⟩,
  ⟨(some 7), .bin .leq (.t 6) (.c (.int .u8 57)), (some (5, true)), none⟩,
  ⟨(some 8), .pick (.t 5) (.t 7) (.c (.bool false)), none, none⟩,
  ⟨(some 2), .mv (.t 8), none, none⟩]
def f34r1 : IC := .reg false [] f34o1 [2]
@[simp] theorem f34r1_run : run tbl fin K f34r1 e H = regK tbl fin K [] f34o1 [2] e H := run_regK _ _ _ _ _ _ _ _ _ rfl
def f34body : IC := (.seq f34r0 (.seq f34r1 .ret))
def f34 : IFn := ⟨9, 1, [.tmp 2], f34body⟩
/- 35: jobshell/jobshellref48.special -/
@[simp] def f35o0 : List IOper := [
  ⟨(some 2), .mv (.c (.bool false)), none, none⟩]
def f35r0 : IC := .reg false [] f35o0 [0]
@[simp] theorem f35r0_run : run tbl fin K f35r0 e H = regK tbl fin K [] f35o0 [0] e H := run_regK _ _ _ _ _ _ _ _ _ rfl
@[simp] def f35o1 : List IOper := [
  ⟨(some 3), .mv (.t 0), none, none⟩,
  ⟨(some 4), .bin .eql (.t 3) (.c (.int .u8 64)), none, none⟩,
  ⟨(some 5), .mv (.t 4), none, none⟩,
  ⟨(some 6), .mv (.t 0), (some (5, false)), none⟩,
  ⟨(some 7), .bin .eql (.t 6) (.c (.int .u8 42)), (some (5, false)), none⟩,
  ⟨(some 8), .pick (.t 5) (.c (.bool true)) (.t 7), none, none⟩,
  ⟨(some 9), .mv (.t 8), none, none⟩,
  ⟨(some 10), .mv (.t 0), (some (9, false)), some [10, 9, 0]⟩,
  ⟨(some 11), .bin .eql (.t 10) (.c (.int .u8 35)), (some (9, false)), none⟩,
  ⟨(some 12), .pick (.t 9) (.c (.bool true)) (.t 11), none, none⟩,
  ⟨(some 13), .mv (.t 12), none, none⟩,
  ⟨(some 14), .mv (.t 0), (some (13, false)), none⟩,
  ⟨(some 15), .bin .eql (.t 14) (.c (.int .u8 63)), (some (13, false)), none⟩,
  ⟨(some 16), .pick (.t 13) (.c (.bool true)) (.t 15), none, none⟩,
  ⟨(some 17), .mv (.t 16), none, none⟩,
  ⟨(some 18), .mv (.t 0), (some (17, false)), some [18, 17, 0]⟩,
  ⟨(some 19), .bin .eql (.t 18) (.c (.int .u8 45)), (some (17, false)), none⟩,
  ⟨(some 20), .pick (.t 17) (.c (.bool true)) (.t 19), none, none⟩,
  ⟨(some 21), .mv (.t 20), none, none⟩,
  ⟨(some 22), .mv (.t 0), (some (21, false)), none⟩,
  ⟨(some 23), .bin .eql (.t 22) (.c (.int .u8 36)), (some (21, false)), none⟩,
  ⟨(some 24), .pick (.t 21) (.c (.bool true)) (.t 23), none, none⟩,
  ⟨(some 25), .mv (.t 24), none, none⟩,
  ⟨(some 26), .mv (.t 0), (some (25, false)), some [26, 25]⟩,
  ⟨(some 27), .bin .eql (.t 26) (.c (.int .u8 33)), (some (25, false)), none⟩,
  ⟨(some 28), .pick (.t 25) (.c (.bool true)) (.t 27), none, none⟩,
  ⟨(some 2), .mv (.t 28), none, none⟩]
def f35r1 : IC := .reg false [] f35o1 [2]
@[simp] theorem f35r1_run : run tbl fin K f35r1 e H = regK tbl fin K [] f35o1 [2] e H := run_regK _ _ _ _ _ _ _ _ _ rfl
def f35body : IC := (.seq f35r0 (.seq f35r1 .ret))
def f35 : IFn := ⟨29, 1, [.tmp 2], f35body⟩
/- 36: jobshell/jobshellref48.letter -/
@[simp] def f36o0 : List IOper := [
  ⟨(some 2), .mv (.c (.bool false)), none, none⟩]
def f36r0 : IC := .reg false [] f36o0 [0]
@[simp] theorem f36r0_run : run tbl fin K f36r0 e H = regK tbl fin K [] f36o0 [0] e H := run_regK _ _ _ _ _ _ _ _ _ rfl
@[simp] def f36o1 : List IOper := [
  ⟨(some 3), .mv (.t 0), none, none⟩,
  ⟨(some 4), .bin .geq (.t 3) (.c (.int .u8 97)), none, none⟩,
  ⟨(some 5), .mv (.t 4), none, none⟩,
  ⟨(some 6), .mv (.t 0), (some (5, true)), none⟩,
  ⟨(some 7), .bin .leq (.t 6) (.c (.int .u8 122)), (some (5, true)), none⟩,
  ⟨(some 8), .pick (.t 5) (.t 7) (.c (.bool false)), none, none⟩,
  ⟨(some 9), .mv (.t 8), none, none⟩,
  ⟨(some 10), .mv (.t 0), (some (9, false)), some [10, 9, 0]⟩,
  ⟨(some 11), .bin .geq (.t 10) (.c (.int .u8 65)), (some (9, false)), none⟩,
  ⟨(some 12), .mv (.t 11), (some (9, false)), none⟩,
  ⟨(some 13), .mv (.t 0), (some (12, true)), none⟩,
  ⟨(some 14), .bin .leq (.t 13) (.c (.int .u8 90)), (some (12, true)), none⟩,
  ⟨(some 15), .pick (.t 12) (.t 14) (.c (.bool false)), (some (9, false)), none⟩,
  ⟨(some 16), .pick (.t 9) (.c (.bool true)) (.t 15), none, none⟩,
  ⟨(some 17), .mv (.t 16), none, none⟩,
  ⟨(some 18), .mv (.t 0), (some (17, false)), some [18, 17, 0]⟩,
  ⟨(some 19), .bin .eql (.t 18) (.c (.int .u8 95)), (some (17, false)), none⟩,
  ⟨(some 20), .pick (.t 17) (.c (.bool true)) (.t 19), none, none⟩,
  ⟨(some 21), .mv (.t 20), none, none⟩,
  ⟨(some 22), .mv (.t 0), (some (21, false)), none⟩,
  ⟨(some 23), .call (.c (.fn 34 [])) [(.t 22)], (some (21, false)), none⟩,
  ⟨(some 24), .pick (.t 21) (.c (.bool true)) (.t 23), none, none⟩,
  ⟨(some 2), .mv (.t 24), none, none⟩]
def f36r1 : IC := .reg false [] f36o1 [2]
@[simp] theorem f36r1_run : run tbl fin K f36r1 e H = regK tbl fin K [] f36o1 [2] e H := run_regK _ _ _ _ _ _ _ _ _ rfl
def f36body : IC := (.seq f36r0 (.seq f36r1 .ret))
def f36 : IFn := ⟨25, 1, [.tmp 2], f36body⟩
/- 37: jobshell/jobshellref48.name -/
@[simp] def f37o0 : List IOper := [
  ⟨(some 4), .mv (.c (.int .i64 0)), none, none⟩]
def f37r0 : IC := .reg false [] f37o0 [1, 0]
@[simp] theorem f37r0_run : run tbl fin K f37r0 e H = regK tbl fin K [] f37o0 [1, 0] e H := run_regK _ _ _ _ _ _ _ _ _ rfl
@[simp] def f37o1 : List IOper := [
  ⟨(some 5), .mv (.t 1), none, none⟩,
  ⟨(some 6), .mv (.t 0), none, none⟩,
  ⟨(some 7), .slen (.t 6), none, none⟩,
  ⟨(some 8), .bin .lss (.t 5) (.t 7), none, none⟩,
  ⟨(some 9), .mv (.t 8), none, none⟩,
  ⟨(some 10), .mv (.t 0), (some (9, true)), none⟩,
  ⟨(some 11), .mv (.t 1), (some (9, true)), none⟩,
  ⟨(some 12), .sidx (.t 10) (.t 11), (some (9, true)), none⟩,
  ⟨(some 13), .call (.c (.fn 36 [])) [(.t 12)], (some (9, true)), none⟩,
  ⟨(some 14), .pick (.t 9) (.t 13) (.c (.bool false)), none, none⟩]
def f37r1 : IC := .reg false [] f37o1 [14, 1, 0]
@[simp] theorem f37r1_run : run tbl fin K f37r1 e H = regK tbl fin K [] f37o1 [14, 1, 0] e H := run_regK _ _ _ _ _ _ _ _ _ rfl
@[simp] def f37o2 : List IOper := [
  ⟨(some 15), .mv (.t 1), none, none⟩,
  ⟨(some 16), .bin .add (.t 15) (.c (.int .i64 1)), none, none⟩,
  ⟨(some 1), .mv (.t 16), none, none⟩]
def f37r2 : IC := .reg false [] f37o2 [1, 0]
@[simp] theorem f37r2_run : run tbl fin K f37r2 e H = regK tbl fin K [] f37o2 [1, 0] e H := run_regK _ _ _ _ _ _ _ _ _ rfl
def f37b3 : IC := (.seq (.seq f37r1 (.cond (.t 14) .skip (.exit 0))) (.block 1 f37r2))
theorem f37b3_eq : f37b3 = (.seq (.seq f37r1 (.cond (.t 14) .skip (.exit 0))) (.block 1 f37r2)) := rfl
@[simp] def f37o4 : List IOper := [
  ⟨(some 17), .mv (.t 1), none, none⟩,
  ⟨(some 4), .mv (.t 17), none, none⟩]
def f37r4 : IC := .reg false [] f37o4 [4]
@[simp] theorem f37r4_run : run tbl fin K f37r4 e H = regK tbl fin K [] f37o4 [4] e H := run_regK _ _ _ _ _ _ _ _ _ rfl
def f37body : IC := (.seq f37r0 (.seq (.block 0 (.loop [1, 0] f37b3)) (.seq f37r4 .ret)))
def f37 : IFn := ⟨18, 2, [.tmp 4], f37body⟩
/- 38: jobshell/param.special -/
@[simp] def f38o0 : List IOper := [
  ⟨(some 2), .mv (.c (.bool false)), none, none⟩]
def f38r0 : IC := .reg false [] f38o0 [0]
@[simp] theorem f38r0_run : run tbl fin K f38r0 e H = regK tbl fin K [] f38o0 [0] e H := run_regK _ _ _ _ _ _ _ _ _ rfl
@[simp] def f38o1 : List IOper := [
  ⟨(some 3), .mv (.t 0), none, none⟩,
  ⟨(some 4), .slen (.t 3), none, none⟩,
  ⟨(some 5), .bin .eql (.t 4) (.c (.int .i64 1)), none, none⟩,
  ⟨(some 6), .mv (.t 5), none, none⟩,
  ⟨(some 7), .mv (.t 0), (some (6, true)), none⟩,
  ⟨(some 8), .call (.c (.fn 54 [])) [(.c (.str [64, 42, 35, 63, 45, 36, 33, 48])), (.t 7)], (some (6, true)), none⟩,
  ⟨(some 9), .pick (.t 6) (.t 8) (.c (.bool false)), none, none⟩,
  ⟨(some 2), .mv (.t 9), none, none⟩]
def f38r1 : IC := .reg false [] f38o1 [2]
@[simp] theorem f38r1_run : run tbl fin K f38r1 e H = regK tbl fin K [] f38o1 [2] e H := run_regK _ _ _ _ _ _ _ _ _ rfl
def f38body : IC := (.seq f38r0 (.seq f38r1 .ret))
def f38 : IFn := ⟨10, 1, [.tmp 2], f38body⟩
/- 39: jobshell/param.specialValue -/
@[simp] def f39o0 : List IOper := [
  ⟨(some 2), .box 30 15 (.t 0), none, none⟩,
  ⟨(some 4), .mv (.c (.str [])), none, none⟩,
  ⟨(some 5), .mv (.c (.bool false)), none, none⟩]
def f39r0 : IC := .reg false [] f39o0 [1, 2]
@[simp] theorem f39r0_run : run tbl fin K f39r0 e H = regK tbl fin K [] f39o0 [1, 2] e H := run_regK _ _ _ _ _ _ _ _ _ rfl
@[simp] def f39o1 : List IOper := [
  ⟨(some 6), .mv (.t 1), none, none⟩]
def f39r1 : IC := .reg false [] f39o1 [6, 2]
@[simp] theorem f39r1_run : run tbl fin K f39r1 e H = regK tbl fin K [] f39o1 [6, 2] e H := run_regK _ _ _ _ _ _ _ _ _ rfl
@[simp] def f39o2 : List IOper := [
  ⟨(some 8), .bin .eql (.t 6) (.c (.int .u8 64)), none, none⟩,
  ⟨(some 7), .mv (.t 8), none, none⟩]
def f39r2 : IC := .reg false [] f39o2 [7, 6, 2]
@[simp] theorem f39r2_run : run tbl fin K f39r2 e H = regK tbl fin K [] f39o2 [7, 6, 2] e H := run_regK _ _ _ _ _ _ _ _ _ rfl
@[simp] def f39o3 : List IOper := [
  ⟨(some 9), .fld 2 (.t 2), none, none⟩,
  ⟨(some 10), .load false 1 (.t 9), none, none⟩,
  ⟨(some 11), .call (.c (.fn 55 [])) [(.t 10), (.c (.str [32]))], none, none⟩,
  ⟨(some 12), .fld 2 (.t 2), none, none⟩,
  ⟨(some 13), .load false 1 (.t 12), none, none⟩,
  ⟨(some 14), .len (.t 13), none, none⟩,
  ⟨(some 15), .bin .gtr (.t 14) (.c (.int .i64 0)), none, none⟩,
  ⟨(some 4), .mv (.t 11), none, none⟩,
  ⟨(some 5), .mv (.t 15), none, none⟩]
def f39r3 : IC := .reg true [] f39o3 [4, 5]
@[simp] theorem f39r3_run : run tbl fin K f39r3 e H = regK tbl fin K [] f39o3 [4, 5] e H := run_regK _ _ _ _ _ _ _ _ _ rfl
@[simp] def f39o4 : List IOper := [
  ⟨(some 17), .bin .eql (.t 6) (.c (.int .u8 42)), none, none⟩,
  ⟨(some 16), .mv (.t 17), none, none⟩]
def f39r4 : IC := .reg false [] f39o4 [16, 6, 2]
@[simp] theorem f39r4_run : run tbl fin K f39r4 e H = regK tbl fin K [] f39o4 [16, 6, 2] e H := run_regK _ _ _ _ _ _ _ _ _ rfl
@[simp] def f39o5 : List IOper := [
  ⟨(some 18), .fld 2 (.t 2), none, none⟩,
  ⟨(some 19), .load false 1 (.t 18), none, none⟩,
  ⟨(some 20), .load true 15 (.t 2), none, none⟩,
  ⟨(some 21), .call (.c (.fn 56 [])) [(.t 20)], none, none⟩,
  ⟨(some 22), .call (.c (.fn 55 [])) [(.t 19), (.t 21)], none, none⟩,
  ⟨(some 23), .fld 2 (.t 2), none, none⟩,
  ⟨(some 24), .load false 1 (.t 23), none, none⟩,
  ⟨(some 25), .len (.t 24), none, none⟩,
  ⟨(some 26), .bin .gtr (.t 25) (.c (.int .i64 0)), none, none⟩,
  ⟨(some 4), .mv (.t 22), none, none⟩,
  ⟨(some 5), .mv (.t 26), none, none⟩]
def f39r5 : IC := .reg true [] f39o5 [4, 5]
@[simp] theorem f39r5_run : run tbl fin K f39r5 e H = regK tbl fin K [] f39o5 [4, 5] e H := run_regK _ _ _ _ _ _ _ _ _ rfl
@[simp] def f39o6 : List IOper := [
  ⟨(some 28), .bin .eql (.t 6) (.c (.int .u8 35)), none, none⟩,
  ⟨(some 27), .mv (.t 28), none, none⟩]
def f39r6 : IC := .reg false [] f39o6 [27, 6, 2]
@[simp] theorem f39r6_run : run tbl fin K f39r6 e H = regK tbl fin K [] f39o6 [27, 6, 2] e H := run_regK _ _ _ _ _ _ _ _ _ rfl
@[simp] def f39o7 : List IOper := [
  ⟨(some 29), .fld 2 (.t 2), none, none⟩,
  ⟨(some 30), .load false 1 (.t 29), none, none⟩,
  ⟨(some 31), .len (.t 30), none, none⟩,
  ⟨(some 32), .call (.c (.fn 32 [])) [(.t 31)], none, none⟩,
  ⟨(some 4), .mv (.t 32), none, none⟩,
  ⟨(some 5), .mv (.c (.bool true)), none, none⟩]
def f39r7 : IC := .reg false [] f39o7 [4, 5]
@[simp] theorem f39r7_run : run tbl fin K f39r7 e H = regK tbl fin K [] f39o7 [4, 5] e H := run_regK _ _ _ _ _ _ _ _ _ rfl
@[simp] def f39o8 : List IOper := [
  ⟨(some 34), .bin .eql (.t 6) (.c (.int .u8 63)), none, none⟩,
  ⟨(some 33), .mv (.t 34), none, none⟩]
def f39r8 : IC := .reg false [] f39o8 [33, 6, 2]
@[simp] theorem f39r8_run : run tbl fin K f39r8 e H = regK tbl fin K [] f39o8 [33, 6, 2] e H := run_regK _ _ _ _ _ _ _ _ _ rfl
@[simp] def f39o9 : List IOper := [
  ⟨(some 35), .fld 7 (.t 2), none, none⟩,
  ⟨(some 36), .load false 1 (.t 35), none, none⟩,
  ⟨(some 37), .call (.c (.fn 32 [])) [(.t 36)], none, none⟩,
  ⟨(some 4), .mv (.t 37), none, none⟩,
  ⟨(some 5), .mv (.c (.bool true)), none, none⟩]
def f39r9 : IC := .reg false [] f39o9 [4, 5]
@[simp] theorem f39r9_run : run tbl fin K f39r9 e H = regK tbl fin K [] f39o9 [4, 5] e H := run_regK _ _ _ _ _ _ _ _ _ rfl
@[simp] def f39o10 : List IOper := [
  ⟨(some 39), .bin .eql (.t 6) (.c (.int .u8 45)), none, none⟩,
  ⟨(some 38), .mv (.t 39), none, none⟩]
def f39r10 : IC := .reg false [] f39o10 [38, 6, 2]
@[simp] theorem f39r10_run : run tbl fin K f39r10 e H = regK tbl fin K [] f39o10 [38, 6, 2] e H := run_regK _ _ _ _ _ _ _ _ _ rfl
@[simp] def f39o11 : List IOper := [
  ⟨(some 40), .fld 6 (.t 2), none, none⟩,
  ⟨(some 41), .load false 1 (.t 40), none, none⟩,
  ⟨(some 42), .call (.c (.fn 57 [])) [(.t 41)], none, none⟩,
  ⟨(some 4), .mv (.t 42), none, none⟩,
  ⟨(some 5), .mv (.c (.bool true)), none, none⟩]
def f39r11 : IC := .reg false [] f39o11 [4, 5]
@[simp] theorem f39r11_run : run tbl fin K f39r11 e H = regK tbl fin K [] f39o11 [4, 5] e H := run_regK _ _ _ _ _ _ _ _ _ rfl
@[simp] def f39o12 : List IOper := [
  ⟨(some 44), .bin .eql (.t 6) (.c (.int .u8 36)), none, none⟩,
  ⟨(some 43), .mv (.t 44), none, none⟩]
def f39r12 : IC := .reg false [] f39o12 [43, 6, 2]
@[simp] theorem f39r12_run : run tbl fin K f39r12 e H = regK tbl fin K [] f39o12 [43, 6, 2] e H := run_regK _ _ _ _ _ _ _ _ _ rfl
@[simp] def f39o13 : List IOper := [
  ⟨(some 45), .fld 8 (.t 2), none, none⟩,
  ⟨(some 46), .load false 1 (.t 45), none, none⟩,
  ⟨(some 47), .call (.c (.fn 32 [])) [(.t 46)], none, none⟩,
  ⟨(some 4), .mv (.t 47), none, none⟩,
  ⟨(some 5), .mv (.c (.bool true)), none, none⟩]
def f39r13 : IC := .reg false [] f39o13 [4, 5]
@[simp] theorem f39r13_run : run tbl fin K f39r13 e H = regK tbl fin K [] f39o13 [4, 5] e H := run_regK _ _ _ _ _ _ _ _ _ rfl
@[simp] def f39o14 : List IOper := [
  ⟨(some 49), .bin .eql (.t 6) (.c (.int .u8 33)), none, none⟩,
  ⟨(some 48), .mv (.t 49), none, none⟩]
def f39r14 : IC := .reg false [] f39o14 [48, 2]
@[simp] theorem f39r14_run : run tbl fin K f39r14 e H = regK tbl fin K [] f39o14 [48, 2] e H := run_regK _ _ _ _ _ _ _ _ _ rfl
@[simp] def f39o15 : List IOper := [
  ⟨(some 50), .fld 9 (.t 2), none, none⟩,
  ⟨(some 51), .load false 1 (.t 50), none, none⟩,
  ⟨(some 52), .bin .eql (.t 51) (.c (.int .i64 0)), none, none⟩]
def f39r15 : IC := .reg false [] f39o15 [52, 2]
@[simp] theorem f39r15_run : run tbl fin K f39r15 e H = regK tbl fin K [] f39o15 [52, 2] e H := run_regK _ _ _ _ _ _ _ _ _ rfl
@[simp] def f39o16 : List IOper := [
  ⟨(some 4), .mv (.c (.str [])), none, none⟩,
  ⟨(some 5), .mv (.c (.bool false)), none, none⟩]
def f39r16 : IC := .reg false [] f39o16 [4, 5]
@[simp] theorem f39r16_run : run tbl fin K f39r16 e H = regK tbl fin K [] f39o16 [4, 5] e H := run_regK _ _ _ _ _ _ _ _ _ rfl
@[simp] def f39o17 : List IOper := [
  ⟨(some 53), .fld 9 (.t 2), none, none⟩,
  ⟨(some 54), .load false 1 (.t 53), none, none⟩,
  ⟨(some 55), .call (.c (.fn 32 [])) [(.t 54)], none, none⟩,
  ⟨(some 4), .mv (.t 55), none, none⟩,
  ⟨(some 5), .mv (.c (.bool true)), none, none⟩]
def f39r17 : IC := .reg false [] f39o17 [4, 5]
@[simp] theorem f39r17_run : run tbl fin K f39r17 e H = regK tbl fin K [] f39o17 [4, 5] e H := run_regK _ _ _ _ _ _ _ _ _ rfl
@[simp] def f39o18 : List IOper := [
  ⟨(some 56), .fld 0 (.t 2), none, none⟩,
  ⟨(some 57), .load false 1 (.t 56), none, none⟩,
  ⟨(some 4), .mv (.t 57), none, none⟩,
  ⟨(some 5), .mv (.c (.bool true)), none, none⟩]
def f39r18 : IC := .reg false [] f39o18 [4, 5]
@[simp] theorem f39r18_run : run tbl fin K f39r18 e H = regK tbl fin K [] f39o18 [4, 5] e H := run_regK _ _ _ _ _ _ _ _ _ rfl
def f39body : IC := (.seq f39r0 (.seq (.seq f39r1 (.block 0 (.seq f39r2 (.cond (.t 7) (.seq f39r3 .ret) (.seq f39r4 (.cond (.t 16) (.seq f39r5 .ret) (.seq f39r6 (.cond (.t 27) (.seq f39r7 .ret) (.seq f39r8 (.cond (.t 33) (.seq f39r9 .ret) (.seq f39r10 (.cond (.t 38) (.seq f39r11 .ret) (.seq f39r12 (.cond (.t 43) (.seq f39r13 .ret) (.seq f39r14 (.cond (.t 48) (.seq (.seq f39r15 (.cond (.t 52) (.seq f39r16 .ret) .skip)) (.seq f39r17 .ret)) .skip)))))))))))))))) (.seq f39r18 .ret)))
def f39 : IFn := ⟨58, 2, [.tmp 4, .tmp 5], f39body⟩
/- 40: jobshell/chars.Digits -/
@[simp] def f40o0 : List IOper := [
  ⟨(some 2), .mv (.c (.int .i64 0)), none, none⟩,
  ⟨(some 3), .mv (.c (.bool false)), none, none⟩]
def f40r0 : IC := .reg false [] f40o0 [0]
@[simp] theorem f40r0_run : run tbl fin K f40r0 e H = regK tbl fin K [] f40o0 [0] e H := run_regK _ _ _ _ _ _ _ _ _ rfl
@[simp] def f40o1 : List IOper := [
  ⟨(some 7), .mv (.t 0), none, none⟩,
  ⟨(some 8), .bin .eql (.t 7) (.c (.str [48])), none, none⟩]
def f40r1 : IC := .reg false [] f40o1 [8, 0]
@[simp] theorem f40r1_run : run tbl fin K f40r1 e H = regK tbl fin K [] f40o1 [8, 0] e H := run_regK _ _ _ _ _ _ _ _ _ rfl
@[simp] def f40o2 : List IOper := [
  ⟨(some 2), .mv (.c (.int .i64 0)), none, none⟩,
  ⟨(some 3), .mv (.c (.bool true)), none, none⟩]
def f40r2 : IC := .reg false [] f40o2 [2, 3]
@[simp] theorem f40r2_run : run tbl fin K f40r2 e H = regK tbl fin K [] f40o2 [2, 3] e H := run_regK _ _ _ _ _ _ _ _ _ rfl
@[simp] def f40o3 : List IOper := [
  ⟨(some 9), .mv (.t 0), none, none⟩,
  ⟨(some 10), .bin .eql (.t 9) (.c (.str [])), none, none⟩,
  ⟨(some 11), .mv (.t 10), none, none⟩,
  ⟨(some 12), .mv (.t 0), (some (11, false)), none⟩,
  ⟨(some 13), .sidx (.t 12) (.c (.int .i64 0)), (some (11, false)), none⟩,
  ⟨(some 14), .bin .eql (.t 13) (.c (.int .u8 48)), (some (11, false)), none⟩,
  ⟨(some 15), .pick (.t 11) (.c (.bool true)) (.t 14), none, none⟩]
def f40r3 : IC := .reg false [] f40o3 [15, 0]
@[simp] theorem f40r3_run : run tbl fin K f40r3 e H = regK tbl fin K [] f40o3 [15, 0] e H := run_regK _ _ _ _ _ _ _ _ _ rfl
@[simp] def f40o4 : List IOper := [
  ⟨(some 2), .mv (.c (.int .i64 0)), none, none⟩,
  ⟨(some 3), .mv (.c (.bool false)), none, none⟩]
def f40r4 : IC := .reg false [] f40o4 [2, 3]
@[simp] theorem f40r4_run : run tbl fin K f40r4 e H = regK tbl fin K [] f40o4 [2, 3] e H := run_regK _ _ _ _ _ _ _ _ _ rfl
@[simp] def f40o5 : List IOper := [
  ⟨(some 4), .mv (.c (.int .i64 0)), none, none⟩]
def f40r5 : IC := .reg false [] f40o5 [0, 4]
@[simp] theorem f40r5_run : run tbl fin K f40r5 e H = regK tbl fin K [] f40o5 [0, 4] e H := run_regK _ _ _ _ _ _ _ _ _ rfl
@[simp] def f40o6 : List IOper := [
  ⟨(some 16), .mv (.t 0), none, none⟩,
  ⟨(some 17), .rstr (.t 16), none, none⟩]
def f40r6 : IC := .reg false [] f40o6 [17, 4]
@[simp] theorem f40r6_run : run tbl fin K f40r6 e H = regK tbl fin K [] f40o6 [17, 4] e H := run_regK _ _ _ _ _ _ _ _ _ rfl
@[simp] def f40o7 : List IOper := [
  ⟨(some 18), .nstr (.t 17), none, none⟩,
  ⟨(some 19), .ext (.t 18) 0, none, none⟩]
def f40r7 : IC := .reg false [] f40o7 [19, 18, 17, 4]
@[simp] theorem f40r7_run : run tbl fin K f40r7 e H = regK tbl fin K [] f40o7 [19, 18, 17, 4] e H := run_regK _ _ _ _ _ _ _ _ _ rfl
@[simp] def f40o8 : List IOper := [
  ⟨(some 20), .ext (.t 18) 2, none, none⟩,
  ⟨(some 6), .mv (.t 20), none, none⟩]
def f40r8 : IC := .reg false [] f40o8 [17, 6, 4]
@[simp] theorem f40r8_run : run tbl fin K f40r8 e H = regK tbl fin K [] f40o8 [17, 6, 4] e H := run_regK _ _ _ _ _ _ _ _ _ rfl
@[simp] def f40o9 : List IOper := [
  ⟨(some 21), .mv (.t 6), none, none⟩,
  ⟨(some 22), .call (.c (.fn 58 [])) [(.t 21)], none, none⟩,
  ⟨(some 23), .un .not (.t 22), none, none⟩]
def f40r9 : IC := .reg false [] f40o9 [23, 17, 6, 4]
@[simp] theorem f40r9_run : run tbl fin K f40r9 e H = regK tbl fin K [] f40o9 [23, 17, 6, 4] e H := run_regK _ _ _ _ _ _ _ _ _ rfl
@[simp] def f40o10 : List IOper := [
  ⟨(some 2), .mv (.c (.int .i64 0)), none, none⟩,
  ⟨(some 3), .mv (.c (.bool false)), none, none⟩]
def f40r10 : IC := .reg false [] f40o10 [2, 3]
@[simp] theorem f40r10_run : run tbl fin K f40r10 e H = regK tbl fin K [] f40o10 [2, 3] e H := run_regK _ _ _ _ _ _ _ _ _ rfl
@[simp] def f40o11 : List IOper := [
  ⟨(some 24), .mv (.t 4), none, none⟩,
  ⟨(some 25), .bin .mul (.c (.int .i64 10)) (.t 24), none, none⟩,
  ⟨(some 26), .mv (.t 6), none, none⟩,
  ⟨(some 27), .bin .sub (.t 26) (.c (.int .i32 48)), none, none⟩,
  ⟨(some 28), .conv .i64 (.t 27), none, none⟩,
  ⟨(some 29), .bin .add (.t 25) (.t 28), none, none⟩,
  ⟨(some 4), .mv (.t 29), none, none⟩]
def f40r11 : IC := .reg false [] f40o11 [4, 17]
@[simp] theorem f40r11_run : run tbl fin K f40r11 e H = regK tbl fin K [] f40o11 [4, 17] e H := run_regK _ _ _ _ _ _ _ _ _ rfl
@[simp] def f40o12 : List IOper := [
  ⟨(some 30), .mv (.t 4), none, none⟩,
  ⟨(some 31), .bin .gtr (.t 30) (.c (.int .i64 2147483647)), none, none⟩]
def f40r12 : IC := .reg false [] f40o12 [31, 4, 17]
@[simp] theorem f40r12_run : run tbl fin K f40r12 e H = regK tbl fin K [] f40o12 [31, 4, 17] e H := run_regK _ _ _ _ _ _ _ _ _ rfl
@[simp] def f40o13 : List IOper := [
  ⟨(some 2), .mv (.c (.int .i64 0)), none, none⟩,
  ⟨(some 3), .mv (.c (.bool false)), none, none⟩]
def f40r13 : IC := .reg false [] f40o13 [2, 3]
@[simp] theorem f40r13_run : run tbl fin K f40r13 e H = regK tbl fin K [] f40o13 [2, 3] e H := run_regK _ _ _ _ _ _ _ _ _ rfl
def f40b14 : IC := (.seq f40r7 (.seq (.cond (.t 19) .skip (.exit 0)) (.block 1 (.seq f40r8 (.seq (.seq f40r9 (.cond (.t 23) (.seq f40r10 .ret) .skip)) (.seq f40r11 (.seq f40r12 (.cond (.t 31) (.seq f40r13 .ret) .skip))))))))
theorem f40b14_eq : f40b14 = (.seq f40r7 (.seq (.cond (.t 19) .skip (.exit 0)) (.block 1 (.seq f40r8 (.seq (.seq f40r9 (.cond (.t 23) (.seq f40r10 .ret) .skip)) (.seq f40r11 (.seq f40r12 (.cond (.t 31) (.seq f40r13 .ret) .skip)))))))) := rfl
@[simp] def f40o15 : List IOper := [
  ⟨(some 32), .mv (.t 4), none, none⟩,
  ⟨(some 2), .mv (.t 32), none, none⟩,
  ⟨(some 3), .mv (.c (.bool true)), none, none⟩]
def f40r15 : IC := .reg false [] f40o15 [2, 3]
@[simp] theorem f40r15_run : run tbl fin K f40r15 e H = regK tbl fin K [] f40o15 [2, 3] e H := run_regK _ _ _ _ _ _ _ _ _ rfl
def f40body : IC := (.seq f40r0 (.seq (.seq f40r1 (.cond (.t 8) (.seq f40r2 .ret) .skip)) (.seq (.seq f40r3 (.cond (.t 15) (.seq f40r4 .ret) .skip)) (.seq f40r5 (.seq (.seq f40r6 (.block 0 (.loop [17, 4] f40b14))) (.seq f40r15 .ret))))))
def f40 : IFn := ⟨33, 1, [.tmp 2, .tmp 3], f40body⟩
/- 41: jobshell/chars.Name -/
@[simp] def f41o0 : List IOper := [
  ⟨(some 2), .mv (.c (.bool false)), none, none⟩]
def f41r0 : IC := .reg false [] f41o0 [0]
@[simp] theorem f41r0_run : run tbl fin K f41r0 e H = regK tbl fin K [] f41o0 [0] e H := run_regK _ _ _ _ _ _ _ _ _ rfl
@[simp] def f41o1 : List IOper := [
  ⟨(some 5), .mv (.t 0), none, none⟩,
  ⟨(some 6), .slen (.t 5), none, none⟩,
  ⟨(some 7), .bin .lss (.t 6) (.c (.int .i64 1)), none, none⟩,
  ⟨(some 8), .mv (.t 7), none, none⟩,
  ⟨(some 9), .mv (.t 0), (some (8, false)), none⟩,
  ⟨(some 10), .slen (.t 9), (some (8, false)), none⟩,
  ⟨(some 11), .bin .gtr (.t 10) (.c (.int .i64 32)), (some (8, false)), none⟩,
  ⟨(some 12), .pick (.t 8) (.c (.bool true)) (.t 11), none, none⟩]
def f41r1 : IC := .reg false [] f41o1 [12, 0]
@[simp] theorem f41r1_run : run tbl fin K f41r1 e H = regK tbl fin K [] f41o1 [12, 0] e H := run_regK _ _ _ _ _ _ _ _ _ rfl
@[simp] def f41o2 : List IOper := [
  ⟨(some 2), .mv (.c (.bool false)), none, none⟩]
def f41r2 : IC := .reg false [] f41o2 [2]
@[simp] theorem f41r2_run : run tbl fin K f41r2 e H = regK tbl fin K [] f41o2 [2] e H := run_regK _ _ _ _ _ _ _ _ _ rfl
@[simp] def f41o3 : List IOper := [
  ⟨(some 13), .mv (.t 0), none, none⟩,
  ⟨(some 14), .rstr (.t 13), none, none⟩]
def f41r3 : IC := .reg false [] f41o3 [14]
@[simp] theorem f41r3_run : run tbl fin K f41r3 e H = regK tbl fin K [] f41o3 [14] e H := run_regK _ _ _ _ _ _ _ _ _ rfl
@[simp] def f41o4 : List IOper := [
  ⟨(some 15), .nstr (.t 14), none, none⟩,
  ⟨(some 16), .ext (.t 15) 0, none, none⟩]
def f41r4 : IC := .reg false [] f41o4 [16, 15, 14]
@[simp] theorem f41r4_run : run tbl fin K f41r4 e H = regK tbl fin K [] f41o4 [16, 15, 14] e H := run_regK _ _ _ _ _ _ _ _ _ rfl
@[simp] def f41o5 : List IOper := [
  ⟨(some 17), .ext (.t 15) 1, none, none⟩,
  ⟨(some 18), .ext (.t 15) 2, none, none⟩,
  ⟨(some 3), .mv (.t 17), none, none⟩,
  ⟨(some 4), .mv (.t 18), none, none⟩]
def f41r5 : IC := .reg false [] f41o5 [4, 3, 14]
@[simp] theorem f41r5_run : run tbl fin K f41r5 e H = regK tbl fin K [] f41o5 [4, 3, 14] e H := run_regK _ _ _ _ _ _ _ _ _ rfl
@[simp] def f41o6 : List IOper := [
  ⟨(some 19), .mv (.t 4), none, none⟩,
  ⟨(some 20), .call (.c (.fn 59 [])) [(.t 19)], none, none⟩,
  ⟨(some 21), .mv (.t 20), none, none⟩,
  ⟨(some 22), .mv (.t 4), (some (21, false)), none⟩,
  ⟨(some 23), .bin .eql (.t 22) (.c (.int .i32 95)), (some (21, false)), none⟩,
  ⟨(some 24), .pick (.t 21) (.c (.bool true)) (.t 23), none, none⟩,
  ⟨(some 25), .mv (.t 24), none, none⟩,
  ⟨(some 26), .mv (.t 4), (some (25, false)), some [26, 3, 25, 14]⟩,
  ⟨(some 27), .call (.c (.fn 58 [])) [(.t 26)], (some (25, false)), none⟩,
  ⟨(some 28), .mv (.t 27), (some (25, false)), none⟩,
  ⟨(some 29), .mv (.t 3), (some (28, true)), none⟩,
  ⟨(some 30), .bin .gtr (.t 29) (.c (.int .i64 0)), (some (28, true)), none⟩,
  ⟨(some 31), .pick (.t 28) (.t 30) (.c (.bool false)), (some (25, false)), none⟩,
  ⟨(some 32), .pick (.t 25) (.c (.bool true)) (.t 31), none, none⟩]
def f41r6 : IC := .reg false [] f41o6 [32, 14]
@[simp] theorem f41r6_run : run tbl fin K f41r6 e H = regK tbl fin K [] f41o6 [32, 14] e H := run_regK _ _ _ _ _ _ _ _ _ rfl
@[simp] def f41o7 : List IOper := [
  ⟨(some 2), .mv (.c (.bool false)), none, none⟩]
def f41r7 : IC := .reg false [] f41o7 [2]
@[simp] theorem f41r7_run : run tbl fin K f41r7 e H = regK tbl fin K [] f41o7 [2] e H := run_regK _ _ _ _ _ _ _ _ _ rfl
def f41b8 : IC := (.seq f41r4 (.seq (.cond (.t 16) .skip (.exit 0)) (.block 1 (.seq f41r5 (.seq (.seq f41r6 (.cond (.t 32) (.exit 1) .skip)) (.seq f41r7 .ret))))))
theorem f41b8_eq : f41b8 = (.seq f41r4 (.seq (.cond (.t 16) .skip (.exit 0)) (.block 1 (.seq f41r5 (.seq (.seq f41r6 (.cond (.t 32) (.exit 1) .skip)) (.seq f41r7 .ret)))))) := rfl
@[simp] def f41o9 : List IOper := [
  ⟨(some 2), .mv (.c (.bool true)), none, none⟩]
def f41r9 : IC := .reg false [] f41o9 [2]
@[simp] theorem f41r9_run : run tbl fin K f41r9 e H = regK tbl fin K [] f41o9 [2] e H := run_regK _ _ _ _ _ _ _ _ _ rfl
def f41body : IC := (.seq f41r0 (.seq (.seq f41r1 (.cond (.t 12) (.seq f41r2 .ret) .skip)) (.seq (.seq f41r3 (.block 0 (.loop [14] f41b8))) (.seq f41r9 .ret))))
def f41 : IFn := ⟨33, 1, [.tmp 2], f41body⟩
/- 42: jobshell/param.variable -/
@[simp] def f42o0 : List IOper := [
  ⟨(some 2), .box 30 15 (.t 0), none, none⟩,
  ⟨(some 4), .mv (.c (.str [])), none, none⟩,
  ⟨(some 5), .mv (.c (.bool false)), none, none⟩]
def f42r0 : IC := .reg false [] f42o0 [2, 1]
@[simp] theorem f42r0_run : run tbl fin K f42r0 e H = regK tbl fin K [] f42o0 [2, 1] e H := run_regK _ _ _ _ _ _ _ _ _ rfl
@[simp] def f42o1 : List IOper := [
  ⟨(some 9), .fld 1 (.t 2), none, none⟩,
  ⟨(some 10), .load false 1 (.t 9), none, none⟩,
  ⟨(some 11), .mv (.t 1), none, none⟩,
  ⟨(some 12), .call (.c (.fn 60 [])) [(.t 10), (.t 11)], none, none⟩,
  ⟨(some 8), .mv (.t 12), none, none⟩,
  ⟨(some 13), .ext (.t 8) 0, none, none⟩,
  ⟨(some 14), .ext (.t 8) 1, none, none⟩,
  ⟨(some 6), .new 42 5 (.agg [(.str []), (.str []), (.bool false), (.bool false), (.bool false)]), none, none⟩,
  ⟨none, .store 5 (.t 6) (.t 13), none, none⟩,
  ⟨(some 7), .mv (.t 14), none, none⟩]
def f42r1 : IC := .reg false [] f42o1 [7, 6]
@[simp] theorem f42r1_run : run tbl fin K f42r1 e H = regK tbl fin K [] f42o1 [7, 6] e H := run_regK _ _ _ _ _ _ _ _ _ rfl
@[simp] def f42o2 : List IOper := [
  ⟨(some 15), .mv (.t 7), none, none⟩,
  ⟨(some 16), .mv (.t 15), none, none⟩,
  ⟨(some 17), .fld 2 (.t 6), (some (16, true)), none⟩,
  ⟨(some 18), .load false 1 (.t 17), (some (16, true)), none⟩,
  ⟨(some 19), .pick (.t 16) (.t 18) (.c (.bool false)), none, none⟩]
def f42r2 : IC := .reg false [] f42o2 [19, 6]
@[simp] theorem f42r2_run : run tbl fin K f42r2 e H = regK tbl fin K [] f42o2 [19, 6] e H := run_regK _ _ _ _ _ _ _ _ _ rfl
@[simp] def f42o3 : List IOper := [
  ⟨(some 20), .fld 1 (.t 6), none, none⟩,
  ⟨(some 21), .load false 1 (.t 20), none, none⟩,
  ⟨(some 4), .mv (.t 21), none, none⟩,
  ⟨(some 5), .mv (.c (.bool true)), none, none⟩]
def f42r3 : IC := .reg false [] f42o3 [4, 5]
@[simp] theorem f42r3_run : run tbl fin K f42r3 e H = regK tbl fin K [] f42o3 [4, 5] e H := run_regK _ _ _ _ _ _ _ _ _ rfl
@[simp] def f42o4 : List IOper := [
  ⟨(some 4), .mv (.c (.str [])), none, none⟩,
  ⟨(some 5), .mv (.c (.bool false)), none, none⟩]
def f42r4 : IC := .reg false [] f42o4 [4, 5]
@[simp] theorem f42r4_run : run tbl fin K f42r4 e H = regK tbl fin K [] f42o4 [4, 5] e H := run_regK _ _ _ _ _ _ _ _ _ rfl
def f42body : IC := (.seq f42r0 (.seq (.seq f42r1 (.seq f42r2 (.cond (.t 19) (.seq f42r3 .ret) .skip))) (.seq f42r4 .ret)))
def f42 : IFn := ⟨22, 2, [.tmp 4, .tmp 5], f42body⟩
/- 43: jobshell/jobshellref17.positional -/
@[simp] def f43o0 : List IOper := [
  ⟨(some 2), .mv (.c (.int .i64 0)), none, none⟩]
def f43r0 : IC := .reg false [] f43o0 [0]
@[simp] theorem f43r0_run : run tbl fin K f43r0 e H = regK tbl fin K [] f43o0 [0] e H := run_regK _ _ _ _ _ _ _ _ _ rfl
@[simp] def f43o1 : List IOper := [
  ⟨(some 6), .mv (.t 0), none, none⟩,
  ⟨(some 7), .call (.c (.fn 61 [])) [(.t 6)], none, none⟩,
  ⟨(some 5), .mv (.t 7), none, none⟩,
  ⟨(some 8), .ext (.t 5) 0, none, none⟩,
  ⟨(some 9), .ext (.t 5) 1, none, none⟩,
  ⟨(some 3), .mv (.t 8), none, none⟩,
  ⟨(some 4), .mv (.t 9), none, none⟩]
def f43r1 : IC := .reg false [] f43o1 [4, 0, 3]
@[simp] theorem f43r1_run : run tbl fin K f43r1 e H = regK tbl fin K [] f43o1 [4, 0, 3] e H := run_regK _ _ _ _ _ _ _ _ _ rfl
@[simp] def f43o2 : List IOper := [
  ⟨(some 10), .mv (.t 4), none, none⟩,
  ⟨(some 11), .un .not (.t 10), none, none⟩,
  ⟨(some 12), .mv (.t 11), none, none⟩,
  ⟨(some 13), .mv (.t 3), (some (12, false)), none⟩,
  ⟨(some 14), .bin .lss (.t 13) (.c (.int .i64 1)), (some (12, false)), none⟩,
  ⟨(some 15), .pick (.t 12) (.c (.bool true)) (.t 14), none, none⟩,
  ⟨(some 16), .mv (.t 15), none, none⟩,
  ⟨(some 17), .mv (.t 3), (some (16, false)), some [17, 16, 0, 3]⟩,
  ⟨(some 18), .bin .gtr (.t 17) (.c (.int .i64 2147483647)), (some (16, false)), none⟩,
  ⟨(some 19), .pick (.t 16) (.c (.bool true)) (.t 18), none, none⟩,
  ⟨(some 20), .mv (.t 19), none, none⟩,
  ⟨(some 21), .mv (.t 0), (some (20, false)), none⟩,
  ⟨(some 22), .sidx (.t 21) (.c (.int .i64 0)), (some (20, false)), none⟩,
  ⟨(some 23), .bin .eql (.t 22) (.c (.int .u8 48)), (some (20, false)), none⟩,
  ⟨(some 24), .pick (.t 20) (.c (.bool true)) (.t 23), none, none⟩]
def f43r2 : IC := .reg false [] f43o2 [24, 3]
@[simp] theorem f43r2_run : run tbl fin K f43r2 e H = regK tbl fin K [] f43o2 [24, 3] e H := run_regK _ _ _ _ _ _ _ _ _ rfl
@[simp] def f43o3 : List IOper := [
  ⟨(some 2), .mv (.c (.int .i64 0)), none, none⟩]
def f43r3 : IC := .reg false [] f43o3 [2]
@[simp] theorem f43r3_run : run tbl fin K f43r3 e H = regK tbl fin K [] f43o3 [2] e H := run_regK _ _ _ _ _ _ _ _ _ rfl
@[simp] def f43o4 : List IOper := [
  ⟨(some 25), .mv (.t 3), none, none⟩,
  ⟨(some 2), .mv (.t 25), none, none⟩]
def f43r4 : IC := .reg false [] f43o4 [2]
@[simp] theorem f43r4_run : run tbl fin K f43r4 e H = regK tbl fin K [] f43o4 [2] e H := run_regK _ _ _ _ _ _ _ _ _ rfl
def f43body : IC := (.seq f43r0 (.seq f43r1 (.seq (.seq f43r2 (.cond (.t 24) (.seq f43r3 .ret) .skip)) (.seq f43r4 .ret))))
def f43 : IFn := ⟨26, 1, [.tmp 2], f43body⟩
/- 44: jobshell/jobshellref15.Get -/
@[simp] def f44o0 : List IOper := [
  ⟨(some 4), .new 42 5 (.agg [(.str []), (.str []), (.bool false), (.bool false), (.bool false)]), none, none⟩,
  ⟨(some 5), .mv (.c (.bool false)), none, none⟩]
def f44r0 : IC := .reg false [] f44o0 [1, 0, 4]
@[simp] theorem f44r0_run : run tbl fin K f44r0 e H = regK tbl fin K [] f44o0 [1, 0, 4] e H := run_regK _ _ _ _ _ _ _ _ _ rfl
@[simp] def f44o1 : List IOper := [
  ⟨(some 6), .mv (.c (.int .i64 0)), none, none⟩]
def f44r1 : IC := .reg false [] f44o1 [1, 0, 6, 4]
@[simp] theorem f44r1_run : run tbl fin K f44r1 e H = regK tbl fin K [] f44o1 [1, 0, 6, 4] e H := run_regK _ _ _ _ _ _ _ _ _ rfl
@[simp] def f44o2 : List IOper := [
  ⟨(some 7), .mv (.t 6), none, none⟩,
  ⟨(some 8), .mv (.t 0), none, none⟩,
  ⟨(some 9), .len (.t 8), none, none⟩,
  ⟨(some 10), .bin .lss (.t 7) (.t 9), none, none⟩]
def f44r2 : IC := .reg false [] f44o2 [10, 1, 0, 6, 4]
@[simp] theorem f44r2_run : run tbl fin K f44r2 e H = regK tbl fin K [] f44o2 [10, 1, 0, 6, 4] e H := run_regK _ _ _ _ _ _ _ _ _ rfl
@[simp] def f44o3 : List IOper := [
  ⟨(some 13), .mv (.t 0), none, none⟩,
  ⟨(some 14), .mv (.t 6), none, none⟩,
  ⟨(some 15), .idx 5 (.t 13) (.t 14), none, none⟩,
  ⟨(some 16), .fld 0 (.t 15), none, none⟩,
  ⟨(some 17), .load false 1 (.t 16), none, none⟩,
  ⟨(some 18), .mv (.t 1), none, none⟩,
  ⟨(some 19), .bin .eql (.t 17) (.t 18), none, none⟩]
def f44r3 : IC := .reg false [] f44o3 [19, 1, 0, 6, 4]
@[simp] theorem f44r3_run : run tbl fin K f44r3 e H = regK tbl fin K [] f44o3 [19, 1, 0, 6, 4] e H := run_regK _ _ _ _ _ _ _ _ _ rfl
@[simp] def f44o4 : List IOper := [
  ⟨(some 20), .mv (.t 0), none, none⟩,
  ⟨(some 21), .mv (.t 6), none, none⟩,
  ⟨(some 22), .idx 5 (.t 20) (.t 21), none, none⟩,
  ⟨(some 23), .load true 5 (.t 22), none, none⟩,
  ⟨none, .store 5 (.t 4) (.t 23), none, none⟩,
  ⟨(some 5), .mv (.c (.bool true)), none, none⟩]
def f44r4 : IC := .reg false [] f44o4 [4, 5]
@[simp] theorem f44r4_run : run tbl fin K f44r4 e H = regK tbl fin K [] f44o4 [4, 5] e H := run_regK _ _ _ _ _ _ _ _ _ rfl
@[simp] def f44o5 : List IOper := [
  ⟨(some 11), .mv (.t 6), none, none⟩,
  ⟨(some 12), .bin .add (.t 11) (.c (.int .i64 1)), none, none⟩,
  ⟨(some 6), .mv (.t 12), none, none⟩]
def f44r5 : IC := .reg false [] f44o5 [1, 0, 6, 4]
@[simp] theorem f44r5_run : run tbl fin K f44r5 e H = regK tbl fin K [] f44o5 [1, 0, 6, 4] e H := run_regK _ _ _ _ _ _ _ _ _ rfl
def f44b6 : IC := (.seq (.seq f44r2 (.cond (.t 10) .skip (.exit 0))) (.seq (.block 1 (.seq f44r3 (.cond (.t 19) (.seq f44r4 .ret) .skip))) f44r5))
theorem f44b6_eq : f44b6 = (.seq (.seq f44r2 (.cond (.t 10) .skip (.exit 0))) (.seq (.block 1 (.seq f44r3 (.cond (.t 19) (.seq f44r4 .ret) .skip))) f44r5)) := rfl
@[simp] def f44o7 : List IOper := [
  ⟨(some 24), .build [(.str []), (.str []), (.bool false), (.bool false), (.bool false)] [], none, none⟩,
  ⟨none, .store 5 (.t 4) (.t 24), none, none⟩,
  ⟨(some 5), .mv (.c (.bool false)), none, none⟩]
def f44r7 : IC := .reg false [] f44o7 [4, 5]
@[simp] theorem f44r7_run : run tbl fin K f44r7 e H = regK tbl fin K [] f44o7 [4, 5] e H := run_regK _ _ _ _ _ _ _ _ _ rfl
def f44body : IC := (.seq f44r0 (.seq (.seq f44r1 (.block 0 (.loop [1, 0, 6, 4] f44b6))) (.seq f44r7 .ret)))
def f44 : IFn := ⟨25, 2, [.cell 4 true 5, .tmp 5], f44body⟩
/- 45: jobshell/jobshellref05.Decimal -/
@[simp] def f45o0 : List IOper := [
  ⟨(some 2), .mv (.c (.str [])), none, none⟩]
def f45r0 : IC := .reg false [] f45o0 [0]
@[simp] theorem f45r0_run : run tbl fin K f45r0 e H = regK tbl fin K [] f45o0 [0] e H := run_regK _ _ _ _ _ _ _ _ _ rfl
@[simp] def f45o1 : List IOper := [
  ⟨(some 3), .mv (.t 0), none, none⟩,
  ⟨(some 4), .bin .lss (.t 3) (.c (.int .i64 0)), none, none⟩]
def f45r1 : IC := .reg false [] f45o1 [4, 0]
@[simp] theorem f45r1_run : run tbl fin K f45r1 e H = regK tbl fin K [] f45o1 [4, 0] e H := run_regK _ _ _ _ _ _ _ _ _ rfl
@[simp] def f45o2 : List IOper := [
  ⟨(some 5), .mv (.t 0), none, none⟩,
  ⟨(some 6), .bin .add (.t 5) (.c (.int .i64 1)), none, none⟩,
  ⟨(some 7), .un .neg (.t 6), none, none⟩,
  ⟨(some 8), .conv .u64 (.t 7), none, none⟩,
  ⟨(some 9), .bin .add (.t 8) (.c (.int .u64 1)), none, none⟩,
  ⟨(some 10), .call (.c (.fn 62 [])) [(.t 9)], none, none⟩,
  ⟨(some 11), .bin .add (.c (.str [45])) (.t 10), none, none⟩,
  ⟨(some 2), .mv (.t 11), none, none⟩]
def f45r2 : IC := .reg false [] f45o2 [2]
@[simp] theorem f45r2_run : run tbl fin K f45r2 e H = regK tbl fin K [] f45o2 [2] e H := run_regK _ _ _ _ _ _ _ _ _ rfl
@[simp] def f45o3 : List IOper := [
  ⟨(some 12), .mv (.t 0), none, none⟩,
  ⟨(some 13), .conv .u64 (.t 12), none, none⟩,
  ⟨(some 14), .call (.c (.fn 62 [])) [(.t 13)], none, none⟩,
  ⟨(some 2), .mv (.t 14), none, none⟩]
def f45r3 : IC := .reg false [] f45o3 [2]
@[simp] theorem f45r3_run : run tbl fin K f45r3 e H = regK tbl fin K [] f45o3 [2] e H := run_regK _ _ _ _ _ _ _ _ _ rfl
def f45body : IC := (.seq f45r0 (.seq (.seq f45r1 (.cond (.t 4) (.seq f45r2 .ret) .skip)) (.seq f45r3 .ret)))
def f45 : IFn := ⟨15, 1, [.tmp 2], f45body⟩
/- 46: jobshell/jobshellref17.Flags -/
@[simp] def f46o0 : List IOper := [
  ⟨(some 2), .mv (.c (.str [])), none, none⟩]
def f46r0 : IC := .reg false [] f46o0 [0]
@[simp] theorem f46r0_run : run tbl fin K f46r0 e H = regK tbl fin K [] f46o0 [0] e H := run_regK _ _ _ _ _ _ _ _ _ rfl
@[simp] def f46o1 : List IOper := [
  ⟨(some 3), .mv (.c (.str [97, 67, 101, 102, 109, 110, 117, 120])), none, none⟩]
def f46r1 : IC := .reg false [] f46o1 [0, 3]
@[simp] theorem f46r1_run : run tbl fin K f46r1 e H = regK tbl fin K [] f46o1 [0, 3] e H := run_regK _ _ _ _ _ _ _ _ _ rfl
@[simp] def f46o2 : List IOper := [
  ⟨(some 7), .mkrow 3 1 8 (.int .i64 0) [(0, (.c (.int .i64 32))), (1, (.c (.int .i64 128))), (2, (.c (.int .i64 1))), (3, (.c (.int .i64 8))), (4, (.c (.int .i64 64))), (5, (.c (.int .i64 16))), (6, (.c (.int .i64 2))), (7, (.c (.int .i64 4)))], none, none⟩,
  ⟨(some 4), .mv (.t 7), none, none⟩]
def f46r2 : IC := .reg false [] f46o2 [0, 4, 3]
@[simp] theorem f46r2_run : run tbl fin K f46r2 e H = regK tbl fin K [] f46o2 [0, 4, 3] e H := run_regK _ _ _ _ _ _ _ _ _ rfl
@[simp] def f46o3 : List IOper := [
  ⟨(some 5), .mv (.c (.str [])), none, none⟩]
def f46r3 : IC := .reg false [] f46o3 [5, 0, 4, 3]
@[simp] theorem f46r3_run : run tbl fin K f46r3 e H = regK tbl fin K [] f46o3 [5, 0, 4, 3] e H := run_regK _ _ _ _ _ _ _ _ _ rfl
@[simp] def f46o4 : List IOper := [
  ⟨(some 6), .mv (.c (.int .i64 0)), none, none⟩]
def f46r4 : IC := .reg false [] f46o4 [5, 6, 0, 4, 3]
@[simp] theorem f46r4_run : run tbl fin K f46r4 e H = regK tbl fin K [] f46o4 [5, 6, 0, 4, 3] e H := run_regK _ _ _ _ _ _ _ _ _ rfl
@[simp] def f46o5 : List IOper := [
  ⟨(some 8), .mv (.t 6), none, none⟩,
  ⟨(some 9), .mv (.t 4), none, none⟩,
  ⟨(some 10), .len (.t 9), none, none⟩,
  ⟨(some 11), .bin .lss (.t 8) (.t 10), none, none⟩]
def f46r5 : IC := .reg false [] f46o5 [11, 5, 6, 0, 4, 3]
@[simp] theorem f46r5_run : run tbl fin K f46r5 e H = regK tbl fin K [] f46o5 [11, 5, 6, 0, 4, 3] e H := run_regK _ _ _ _ _ _ _ _ _ rfl
@[simp] def f46o6 : List IOper := [
  ⟨(some 14), .mv (.t 0), none, none⟩,
  ⟨(some 15), .mv (.t 4), none, none⟩,
  ⟨(some 16), .mv (.t 6), none, none⟩,
  ⟨(some 17), .idx 1 (.t 15) (.t 16), none, none⟩,
  ⟨(some 18), .load false 1 (.t 17), none, none⟩,
  ⟨(some 19), .bin .and (.t 14) (.t 18), none, none⟩,
  ⟨(some 20), .bin .neq (.t 19) (.c (.int .i64 0)), none, none⟩]
def f46r6 : IC := .reg false [] f46o6 [20, 5, 6, 0, 4, 3]
@[simp] theorem f46r6_run : run tbl fin K f46r6 e H = regK tbl fin K [] f46o6 [20, 5, 6, 0, 4, 3] e H := run_regK _ _ _ _ _ _ _ _ _ rfl
@[simp] def f46o7 : List IOper := [
  ⟨(some 21), .mv (.t 5), none, none⟩,
  ⟨(some 22), .mv (.t 3), none, none⟩,
  ⟨(some 23), .mv (.t 6), none, none⟩,
  ⟨(some 24), .mv (.t 6), none, none⟩,
  ⟨(some 25), .bin .add (.t 24) (.c (.int .i64 1)), none, none⟩,
  ⟨(some 26), .sls (.t 22) (some (.t 23)) (some (.t 25)), none, none⟩,
  ⟨(some 27), .bin .add (.t 21) (.t 26), none, none⟩,
  ⟨(some 5), .mv (.t 27), none, none⟩]
def f46r7 : IC := .reg false [] f46o7 [6, 5, 0, 4, 3]
@[simp] theorem f46r7_run : run tbl fin K f46r7 e H = regK tbl fin K [] f46o7 [6, 5, 0, 4, 3] e H := run_regK _ _ _ _ _ _ _ _ _ rfl
@[simp] def f46o8 : List IOper := [
  ⟨(some 12), .mv (.t 6), none, none⟩,
  ⟨(some 13), .bin .add (.t 12) (.c (.int .i64 1)), none, none⟩,
  ⟨(some 6), .mv (.t 13), none, none⟩]
def f46r8 : IC := .reg false [] f46o8 [5, 6, 0, 4, 3]
@[simp] theorem f46r8_run : run tbl fin K f46r8 e H = regK tbl fin K [] f46o8 [5, 6, 0, 4, 3] e H := run_regK _ _ _ _ _ _ _ _ _ rfl
def f46b9 : IC := (.seq (.seq f46r5 (.cond (.t 11) .skip (.exit 0))) (.seq (.block 1 (.seq f46r6 (.cond (.t 20) f46r7 .skip))) f46r8))
theorem f46b9_eq : f46b9 = (.seq (.seq f46r5 (.cond (.t 11) .skip (.exit 0))) (.seq (.block 1 (.seq f46r6 (.cond (.t 20) f46r7 .skip))) f46r8)) := rfl
@[simp] def f46o10 : List IOper := [
  ⟨(some 28), .mv (.t 5), none, none⟩,
  ⟨(some 2), .mv (.t 28), none, none⟩]
def f46r10 : IC := .reg false [] f46o10 [2]
@[simp] theorem f46r10_run : run tbl fin K f46r10 e H = regK tbl fin K [] f46o10 [2] e H := run_regK _ _ _ _ _ _ _ _ _ rfl
def f46body : IC := (.seq f46r0 (.seq f46r1 (.seq f46r2 (.seq f46r3 (.seq (.seq f46r4 (.block 0 (.loop [5, 6, 0, 4, 3] f46b9))) (.seq f46r10 .ret))))))
def f46 : IFn := ⟨29, 1, [.tmp 2], f46body⟩
/- 47: jobshell/jobshellref17.Join -/
@[simp] def f47o0 : List IOper := [
  ⟨(some 4), .mv (.c (.str [])), none, none⟩]
def f47r0 : IC := .reg false [] f47o0 [1, 0]
@[simp] theorem f47r0_run : run tbl fin K f47r0 e H = regK tbl fin K [] f47o0 [1, 0] e H := run_regK _ _ _ _ _ _ _ _ _ rfl
@[simp] def f47o1 : List IOper := [
  ⟨(some 5), .mv (.c (.str [])), none, none⟩]
def f47r1 : IC := .reg false [] f47o1 [5, 1, 0]
@[simp] theorem f47r1_run : run tbl fin K f47r1 e H = regK tbl fin K [] f47o1 [5, 1, 0] e H := run_regK _ _ _ _ _ _ _ _ _ rfl
@[simp] def f47o2 : List IOper := [
  ⟨(some 6), .mv (.c (.int .i64 0)), none, none⟩]
def f47r2 : IC := .reg false [] f47o2 [5, 6, 1, 0]
@[simp] theorem f47r2_run : run tbl fin K f47r2 e H = regK tbl fin K [] f47o2 [5, 6, 1, 0] e H := run_regK _ _ _ _ _ _ _ _ _ rfl
@[simp] def f47o3 : List IOper := [
  ⟨(some 7), .mv (.t 6), none, none⟩,
  ⟨(some 8), .mv (.t 0), none, none⟩,
  ⟨(some 9), .len (.t 8), none, none⟩,
  ⟨(some 10), .bin .lss (.t 7) (.t 9), none, none⟩]
def f47r3 : IC := .reg false [] f47o3 [10, 5, 6, 1, 0]
@[simp] theorem f47r3_run : run tbl fin K f47r3 e H = regK tbl fin K [] f47o3 [10, 5, 6, 1, 0] e H := run_regK _ _ _ _ _ _ _ _ _ rfl
@[simp] def f47o4 : List IOper := [
  ⟨(some 13), .mv (.t 6), none, none⟩,
  ⟨(some 14), .bin .gtr (.t 13) (.c (.int .i64 0)), none, none⟩]
def f47r4 : IC := .reg false [] f47o4 [14, 5, 6, 1, 0]
@[simp] theorem f47r4_run : run tbl fin K f47r4 e H = regK tbl fin K [] f47o4 [14, 5, 6, 1, 0] e H := run_regK _ _ _ _ _ _ _ _ _ rfl
@[simp] def f47o5 : List IOper := [
  ⟨(some 15), .mv (.t 5), none, none⟩,
  ⟨(some 16), .mv (.t 1), none, none⟩,
  ⟨(some 17), .bin .add (.t 15) (.t 16), none, none⟩,
  ⟨(some 5), .mv (.t 17), none, none⟩]
def f47r5 : IC := .reg false [] f47o5 [5, 6, 1, 0]
@[simp] theorem f47r5_run : run tbl fin K f47r5 e H = regK tbl fin K [] f47o5 [5, 6, 1, 0] e H := run_regK _ _ _ _ _ _ _ _ _ rfl
@[simp] def f47o6 : List IOper := [
  ⟨(some 18), .mv (.t 5), none, none⟩,
  ⟨(some 19), .mv (.t 0), none, none⟩,
  ⟨(some 20), .mv (.t 6), none, none⟩,
  ⟨(some 21), .idx 1 (.t 19) (.t 20), none, none⟩,
  ⟨(some 22), .load false 1 (.t 21), none, none⟩,
  ⟨(some 23), .bin .add (.t 18) (.t 22), none, none⟩,
  ⟨(some 5), .mv (.t 23), none, none⟩]
def f47r6 : IC := .reg false [] f47o6 [6, 5, 1, 0]
@[simp] theorem f47r6_run : run tbl fin K f47r6 e H = regK tbl fin K [] f47o6 [6, 5, 1, 0] e H := run_regK _ _ _ _ _ _ _ _ _ rfl
@[simp] def f47o7 : List IOper := [
  ⟨(some 11), .mv (.t 6), none, none⟩,
  ⟨(some 12), .bin .add (.t 11) (.c (.int .i64 1)), none, none⟩,
  ⟨(some 6), .mv (.t 12), none, none⟩]
def f47r7 : IC := .reg false [] f47o7 [5, 6, 1, 0]
@[simp] theorem f47r7_run : run tbl fin K f47r7 e H = regK tbl fin K [] f47o7 [5, 6, 1, 0] e H := run_regK _ _ _ _ _ _ _ _ _ rfl
def f47b8 : IC := (.seq (.seq f47r3 (.cond (.t 10) .skip (.exit 0))) (.seq (.block 1 (.seq (.seq f47r4 (.cond (.t 14) f47r5 .skip)) f47r6)) f47r7))
theorem f47b8_eq : f47b8 = (.seq (.seq f47r3 (.cond (.t 10) .skip (.exit 0))) (.seq (.block 1 (.seq (.seq f47r4 (.cond (.t 14) f47r5 .skip)) f47r6)) f47r7)) := rfl
@[simp] def f47o9 : List IOper := [
  ⟨(some 24), .mv (.t 5), none, none⟩,
  ⟨(some 4), .mv (.t 24), none, none⟩]
def f47r9 : IC := .reg false [] f47o9 [4]
@[simp] theorem f47r9_run : run tbl fin K f47r9 e H = regK tbl fin K [] f47o9 [4] e H := run_regK _ _ _ _ _ _ _ _ _ rfl
def f47body : IC := (.seq f47r0 (.seq f47r1 (.seq (.seq f47r2 (.block 0 (.loop [5, 6, 1, 0] f47b8))) (.seq f47r9 .ret))))
def f47 : IFn := ⟨25, 2, [.tmp 4], f47body⟩
/- 48: jobshell/jobshellref17.Glue -/
@[simp] def f48o0 : List IOper := [
  ⟨(some 2), .mv (.c (.str [])), none, none⟩]
def f48r0 : IC := .reg false [] f48o0 [0]
@[simp] theorem f48r0_run : run tbl fin K f48r0 e H = regK tbl fin K [] f48o0 [0] e H := run_regK _ _ _ _ _ _ _ _ _ rfl
@[simp] def f48o1 : List IOper := [
  ⟨(some 6), .mv (.t 0), none, none⟩,
  ⟨(some 7), .call (.c (.fn 44 [])) [(.t 6), (.c (.str [73, 70, 83]))], none, none⟩,
  ⟨(some 5), .mv (.t 7), none, none⟩,
  ⟨(some 8), .ext (.t 5) 0, none, none⟩,
  ⟨(some 9), .ext (.t 5) 1, none, none⟩,
  ⟨(some 3), .new 42 5 (.agg [(.str []), (.str []), (.bool false), (.bool false), (.bool false)]), none, none⟩,
  ⟨none, .store 5 (.t 3) (.t 8), none, none⟩,
  ⟨(some 4), .mv (.t 9), none, none⟩]
def f48r1 : IC := .reg false [] f48o1 [3]
@[simp] theorem f48r1_run : run tbl fin K f48r1 e H = regK tbl fin K [] f48o1 [3] e H := run_regK _ _ _ _ _ _ _ _ _ rfl
@[simp] def f48o2 : List IOper := [
  ⟨(some 10), .fld 2 (.t 3), none, none⟩,
  ⟨(some 11), .load false 1 (.t 10), none, none⟩,
  ⟨(some 12), .un .not (.t 11), none, none⟩]
def f48r2 : IC := .reg false [] f48o2 [12, 3]
@[simp] theorem f48r2_run : run tbl fin K f48r2 e H = regK tbl fin K [] f48o2 [12, 3] e H := run_regK _ _ _ _ _ _ _ _ _ rfl
@[simp] def f48o3 : List IOper := [
  ⟨(some 2), .mv (.c (.str [32])), none, none⟩]
def f48r3 : IC := .reg false [] f48o3 [2]
@[simp] theorem f48r3_run : run tbl fin K f48r3 e H = regK tbl fin K [] f48o3 [2] e H := run_regK _ _ _ _ _ _ _ _ _ rfl
@[simp] def f48o4 : List IOper := [
  ⟨(some 13), .fld 1 (.t 3), none, none⟩,
  ⟨(some 14), .load false 1 (.t 13), none, none⟩,
  ⟨(some 15), .bin .eql (.t 14) (.c (.str [])), none, none⟩]
def f48r4 : IC := .reg false [] f48o4 [15, 3]
@[simp] theorem f48r4_run : run tbl fin K f48r4 e H = regK tbl fin K [] f48o4 [15, 3] e H := run_regK _ _ _ _ _ _ _ _ _ rfl
@[simp] def f48o5 : List IOper := [
  ⟨(some 2), .mv (.c (.str [])), none, none⟩]
def f48r5 : IC := .reg false [] f48o5 [2]
@[simp] theorem f48r5_run : run tbl fin K f48r5 e H = regK tbl fin K [] f48o5 [2] e H := run_regK _ _ _ _ _ _ _ _ _ rfl
@[simp] def f48o6 : List IOper := [
  ⟨(some 16), .fld 1 (.t 3), none, none⟩,
  ⟨(some 17), .load false 1 (.t 16), none, none⟩,
  ⟨(some 18), .sls (.t 17) none (some (.c (.int .i64 1))), none, none⟩,
  ⟨(some 2), .mv (.t 18), none, none⟩]
def f48r6 : IC := .reg false [] f48o6 [2]
@[simp] theorem f48r6_run : run tbl fin K f48r6 e H = regK tbl fin K [] f48o6 [2] e H := run_regK _ _ _ _ _ _ _ _ _ rfl
def f48body : IC := (.seq f48r0 (.seq f48r1 (.seq (.seq f48r2 (.cond (.t 12) (.seq f48r3 .ret) .skip)) (.seq (.seq f48r4 (.cond (.t 15) (.seq f48r5 .ret) .skip)) (.seq f48r6 .ret)))))
def f48 : IFn := ⟨19, 1, [.tmp 2], f48body⟩
/- 49: jobshell/jobshellref01.Digit -/
@[simp] def f49o0 : List IOper := [
  ⟨(some 2), .mv (.c (.bool false)), none, none⟩]
def f49r0 : IC := .reg false [] f49o0 [0]
@[simp] theorem f49r0_run : run tbl fin K f49r0 e H = regK tbl fin K [] f49o0 [0] e H := run_regK _ _ _ _ _ _ _ _ _ rfl
@[simp] def f49o1 : List IOper := [
  ⟨(some 3), .mv (.t 0), none, none⟩,
  ⟨(some 4), .bin .geq (.t 3) (.c (.int .u8 48)), none, none⟩,
  ⟨(some 5), .mv (.t 4), none, none⟩,
  ⟨(some 6), .mv (.t 0), (some (5, true)), none⟩,
  ⟨(some 7), .bin .leq (.t 6) (.c (.int .u8 57)), (some (5, true)), none⟩,
  ⟨(some 8), .pick (.t 5) (.t 7) (.c (.bool false)), none, none⟩,
  ⟨(some 2), .mv (.t 8), none, none⟩]
def f49r1 : IC := .reg false [] f49o1 [2]
@[simp] theorem f49r1_run : run tbl fin K f49r1 e H = regK tbl fin K [] f49o1 [2] e H := run_regK _ _ _ _ _ _ _ _ _ rfl
def f49body : IC := (.seq f49r0 (.seq f49r1 .ret))
def f49 : IFn := ⟨9, 1, [.tmp 2], f49body⟩
/- 50: jobshell/jobshellref01.Word -/
@[simp] def f50o0 : List IOper := [
  ⟨(some 2), .mv (.c (.bool false)), none, none⟩]
def f50r0 : IC := .reg false [] f50o0 [0]
@[simp] theorem f50r0_run : run tbl fin K f50r0 e H = regK tbl fin K [] f50o0 [0] e H := run_regK _ _ _ _ _ _ _ _ _ rfl
@[simp] def f50o1 : List IOper := [
  ⟨(some 3), .mv (.t 0), none, none⟩,
  ⟨(some 4), .call (.c (.fn 63 [])) [(.t 3)], none, none⟩,
  ⟨(some 5), .mv (.t 4), none, none⟩,
  ⟨(some 6), .mv (.t 0), (some (5, false)), none⟩,
  ⟨(some 7), .call (.c (.fn 49 [])) [(.t 6)], (some (5, false)), none⟩,
  ⟨(some 8), .pick (.t 5) (.c (.bool true)) (.t 7), none, none⟩,
  ⟨(some 9), .mv (.t 8), none, none⟩,
  ⟨(some 10), .mv (.t 0), (some (9, false)), none⟩,
  ⟨(some 11), .bin .eql (.t 10) (.c (.int .u8 95)), (some (9, false)), none⟩,
  ⟨(some 12), .pick (.t 9) (.c (.bool true)) (.t 11), none, none⟩,
  ⟨(some 2), .mv (.t 12), none, none⟩]
def f50r1 : IC := .reg false [] f50o1 [2]
@[simp] theorem f50r1_run : run tbl fin K f50r1 e H = regK tbl fin K [] f50o1 [2] e H := run_regK _ _ _ _ _ _ _ _ _ rfl
def f50body : IC := (.seq f50r0 (.seq f50r1 .ret))
def f50 : IFn := ⟨13, 1, [.tmp 2], f50body⟩
/- 51: strings.IndexByte is met by a contract -/
/- 52: internal/strconv.Itoa is met by a contract -/
/- 53: internal/abi.NoEscape is met by a contract -/
/- 54: strings.Contains is met by a contract -/
/- 55: strings.Join is met by a contract -/
/- 56: jobshell/param.separator -/
@[simp] def f56o0 : List IOper := [
  ⟨(some 1), .box 30 15 (.t 0), none, none⟩,
  ⟨(some 2), .mv (.c (.str [])), none, none⟩]
def f56r0 : IC := .reg false [] f56o0 [1]
@[simp] theorem f56r0_run : run tbl fin K f56r0 e H = regK tbl fin K [] f56o0 [1] e H := run_regK _ _ _ _ _ _ _ _ _ rfl
@[simp] def f56o1 : List IOper := [
  ⟨(some 6), .load true 15 (.t 1), none, none⟩,
  ⟨(some 7), .call (.c (.fn 42 [])) [(.t 6), (.c (.str [73, 70, 83]))], none, none⟩,
  ⟨(some 5), .mv (.t 7), none, none⟩,
  ⟨(some 8), .ext (.t 5) 0, none, none⟩,
  ⟨(some 9), .ext (.t 5) 1, none, none⟩,
  ⟨(some 3), .mv (.t 8), none, none⟩,
  ⟨(some 4), .mv (.t 9), none, none⟩]
def f56r1 : IC := .reg false [] f56o1 [4, 3]
@[simp] theorem f56r1_run : run tbl fin K f56r1 e H = regK tbl fin K [] f56o1 [4, 3] e H := run_regK _ _ _ _ _ _ _ _ _ rfl
@[simp] def f56o2 : List IOper := [
  ⟨(some 11), .mv (.t 4), none, none⟩,
  ⟨(some 12), .un .not (.t 11), none, none⟩,
  ⟨(some 10), .mv (.t 12), none, none⟩]
def f56r2 : IC := .reg false [] f56o2 [10, 3]
@[simp] theorem f56r2_run : run tbl fin K f56r2 e H = regK tbl fin K [] f56o2 [10, 3] e H := run_regK _ _ _ _ _ _ _ _ _ rfl
@[simp] def f56o3 : List IOper := [
  ⟨(some 2), .mv (.c (.str [32])), none, none⟩]
def f56r3 : IC := .reg false [] f56o3 [2]
@[simp] theorem f56r3_run : run tbl fin K f56r3 e H = regK tbl fin K [] f56o3 [2] e H := run_regK _ _ _ _ _ _ _ _ _ rfl
@[simp] def f56o4 : List IOper := [
  ⟨(some 14), .mv (.t 3), none, none⟩,
  ⟨(some 15), .bin .eql (.t 14) (.c (.str [])), none, none⟩,
  ⟨(some 13), .mv (.t 15), none, none⟩]
def f56r4 : IC := .reg false [] f56o4 [13, 3]
@[simp] theorem f56r4_run : run tbl fin K f56r4 e H = regK tbl fin K [] f56o4 [13, 3] e H := run_regK _ _ _ _ _ _ _ _ _ rfl
@[simp] def f56o5 : List IOper := [
  ⟨(some 2), .mv (.c (.str [])), none, none⟩]
def f56r5 : IC := .reg false [] f56o5 [2]
@[simp] theorem f56r5_run : run tbl fin K f56r5 e H = regK tbl fin K [] f56o5 [2] e H := run_regK _ _ _ _ _ _ _ _ _ rfl
@[simp] def f56o6 : List IOper := [
  ⟨(some 16), .mv (.t 3), none, none⟩,
  ⟨(some 17), .sls (.t 16) none (some (.c (.int .i64 1))), none, none⟩,
  ⟨(some 2), .mv (.t 17), none, none⟩]
def f56r6 : IC := .reg false [] f56o6 [2]
@[simp] theorem f56r6_run : run tbl fin K f56r6 e H = regK tbl fin K [] f56o6 [2] e H := run_regK _ _ _ _ _ _ _ _ _ rfl
def f56body : IC := (.seq f56r0 (.seq f56r1 (.seq (.block 0 (.seq f56r2 (.cond (.t 10) (.seq f56r3 .ret) (.seq f56r4 (.cond (.t 13) (.seq f56r5 .ret) .skip))))) (.seq f56r6 .ret))))
def f56 : IFn := ⟨18, 1, [.tmp 2], f56body⟩
/- 57: jobshell/param.flags -/
@[simp] def f57o0 : List IOper := [
  ⟨(some 2), .mv (.c (.str [])), none, none⟩]
def f57r0 : IC := .reg false [] f57o0 [0]
@[simp] theorem f57r0_run : run tbl fin K f57r0 e H = regK tbl fin K [] f57o0 [0] e H := run_regK _ _ _ _ _ _ _ _ _ rfl
@[simp] def f57o1 : List IOper := [
  ⟨(some 7), .build [(.int .i64 0), (.int .i64 0), (.int .i64 0), (.int .i64 0), (.int .i64 0), (.int .i64 0), (.int .i64 0), (.int .i64 0)] [(0, 1, (.c (.int .i64 32))), (1, 1, (.c (.int .i64 128))), (2, 1, (.c (.int .i64 1))), (3, 1, (.c (.int .i64 8))), (4, 1, (.c (.int .i64 64))), (5, 1, (.c (.int .i64 16))), (6, 1, (.c (.int .i64 2))), (7, 1, (.c (.int .i64 4)))], none, none⟩,
  ⟨(some 3), .new 86 8 (.agg [(.int .i64 0), (.int .i64 0), (.int .i64 0), (.int .i64 0), (.int .i64 0), (.int .i64 0), (.int .i64 0), (.int .i64 0)]), none, none⟩,
  ⟨none, .store 8 (.t 3) (.t 7), none, none⟩]
def f57r1 : IC := .reg false [] f57o1 [3, 0]
@[simp] theorem f57r1_run : run tbl fin K f57r1 e H = regK tbl fin K [] f57o1 [3, 0] e H := run_regK _ _ _ _ _ _ _ _ _ rfl
@[simp] def f57o2 : List IOper := [
  ⟨(some 4), .mv (.c (.str [])), none, none⟩]
def f57r2 : IC := .reg false [] f57o2 [3, 4, 0]
@[simp] theorem f57r2_run : run tbl fin K f57r2 e H = regK tbl fin K [] f57o2 [3, 4, 0] e H := run_regK _ _ _ _ _ _ _ _ _ rfl
@[simp] def f57o3 : List IOper := [
  ⟨(some 8), .load true 8 (.t 3), none, none⟩,
  ⟨(some 9), .mv (.c (.int .i64 0)), none, none⟩]
def f57r3 : IC := .reg false [] f57o3 [4, 9, 8, 0]
@[simp] theorem f57r3_run : run tbl fin K f57r3 e H = regK tbl fin K [] f57o3 [4, 9, 8, 0] e H := run_regK _ _ _ _ _ _ _ _ _ rfl
@[simp] def f57o4 : List IOper := [
  ⟨(some 10), .bin .lss (.t 9) (.c (.int .i64 8)), none, none⟩]
def f57r4 : IC := .reg false [] f57o4 [10, 4, 9, 8, 0]
@[simp] theorem f57r4_run : run tbl fin K f57r4 e H = regK tbl fin K [] f57o4 [10, 4, 9, 8, 0] e H := run_regK _ _ _ _ _ _ _ _ _ rfl
@[simp] def f57o5 : List IOper := [
  ⟨(some 11), .mv (.t 9), none, none⟩,
  ⟨(some 12), .ait false 8 1 (.t 8) (.t 9), none, none⟩,
  ⟨(some 5), .mv (.t 11), none, none⟩,
  ⟨(some 6), .mv (.t 12), none, none⟩]
def f57r5 : IC := .reg false [] f57o5 [6, 4, 5, 9, 8, 0]
@[simp] theorem f57r5_run : run tbl fin K f57r5 e H = regK tbl fin K [] f57o5 [6, 4, 5, 9, 8, 0] e H := run_regK _ _ _ _ _ _ _ _ _ rfl
@[simp] def f57o6 : List IOper := [
  ⟨(some 13), .mv (.t 0), none, none⟩,
  ⟨(some 14), .mv (.t 6), none, none⟩,
  ⟨(some 15), .bin .and (.t 13) (.t 14), none, none⟩,
  ⟨(some 16), .bin .neq (.t 15) (.c (.int .i64 0)), none, none⟩]
def f57r6 : IC := .reg false [] f57o6 [16, 4, 5, 9, 8, 0]
@[simp] theorem f57r6_run : run tbl fin K f57r6 e H = regK tbl fin K [] f57o6 [16, 4, 5, 9, 8, 0] e H := run_regK _ _ _ _ _ _ _ _ _ rfl
@[simp] def f57o7 : List IOper := [
  ⟨(some 17), .mv (.t 4), none, none⟩,
  ⟨(some 18), .mv (.t 5), none, none⟩,
  ⟨(some 19), .mv (.t 5), none, none⟩,
  ⟨(some 20), .bin .add (.t 19) (.c (.int .i64 1)), none, none⟩,
  ⟨(some 21), .sls (.c (.str [97, 67, 101, 102, 109, 110, 117, 120])) (some (.t 18)) (some (.t 20)), none, none⟩,
  ⟨(some 22), .bin .add (.t 17) (.t 21), none, none⟩,
  ⟨(some 4), .mv (.t 22), none, none⟩]
def f57r7 : IC := .reg false [] f57o7 [9, 4, 8, 0]
@[simp] theorem f57r7_run : run tbl fin K f57r7 e H = regK tbl fin K [] f57o7 [9, 4, 8, 0] e H := run_regK _ _ _ _ _ _ _ _ _ rfl
@[simp] def f57o8 : List IOper := [
  ⟨(some 23), .bin .add (.t 9) (.c (.int .i64 1)), none, none⟩,
  ⟨(some 9), .mv (.t 23), none, none⟩]
def f57r8 : IC := .reg false [] f57o8 [4, 9, 8, 0]
@[simp] theorem f57r8_run : run tbl fin K f57r8 e H = regK tbl fin K [] f57o8 [4, 9, 8, 0] e H := run_regK _ _ _ _ _ _ _ _ _ rfl
def f57b9 : IC := (.seq f57r4 (.seq (.cond (.t 10) .skip (.exit 0)) (.seq (.block 1 (.seq f57r5 (.seq f57r6 (.cond (.t 16) f57r7 .skip)))) f57r8)))
theorem f57b9_eq : f57b9 = (.seq f57r4 (.seq (.cond (.t 10) .skip (.exit 0)) (.seq (.block 1 (.seq f57r5 (.seq f57r6 (.cond (.t 16) f57r7 .skip)))) f57r8))) := rfl
@[simp] def f57o10 : List IOper := [
  ⟨(some 24), .mv (.t 4), none, none⟩,
  ⟨(some 2), .mv (.t 24), none, none⟩]
def f57r10 : IC := .reg false [] f57o10 [2]
@[simp] theorem f57r10_run : run tbl fin K f57r10 e H = regK tbl fin K [] f57o10 [2] e H := run_regK _ _ _ _ _ _ _ _ _ rfl
def f57body : IC := (.seq f57r0 (.seq f57r1 (.seq f57r2 (.seq (.seq f57r3 (.block 0 (.loop [4, 9, 8, 0] f57b9))) (.seq f57r10 .ret)))))
def f57 : IFn := ⟨25, 1, [.tmp 2], f57body⟩
/- 58: jobshell/chars.digit -/
@[simp] def f58o0 : List IOper := [
  ⟨(some 2), .mv (.c (.bool false)), none, none⟩]
def f58r0 : IC := .reg false [] f58o0 [0]
@[simp] theorem f58r0_run : run tbl fin K f58r0 e H = regK tbl fin K [] f58o0 [0] e H := run_regK _ _ _ _ _ _ _ _ _ rfl
@[simp] def f58o1 : List IOper := [
  ⟨(some 3), .mv (.t 0), none, none⟩,
  ⟨(some 4), .bin .leq (.c (.int .i32 48)) (.t 3), none, none⟩,
  ⟨(some 5), .mv (.t 4), none, none⟩,
  ⟨(some 6), .mv (.t 0), (some (5, true)), none⟩,
  ⟨(some 7), .bin .leq (.t 6) (.c (.int .i32 57)), (some (5, true)), none⟩,
  ⟨(some 8), .pick (.t 5) (.t 7) (.c (.bool false)), none, none⟩,
  ⟨(some 2), .mv (.t 8), none, none⟩]
def f58r1 : IC := .reg false [] f58o1 [2]
@[simp] theorem f58r1_run : run tbl fin K f58r1 e H = regK tbl fin K [] f58o1 [2] e H := run_regK _ _ _ _ _ _ _ _ _ rfl
def f58body : IC := (.seq f58r0 (.seq f58r1 .ret))
def f58 : IFn := ⟨9, 1, [.tmp 2], f58body⟩
/- 59: jobshell/chars.letter -/
@[simp] def f59o0 : List IOper := [
  ⟨(some 2), .mv (.c (.bool false)), none, none⟩]
def f59r0 : IC := .reg false [] f59o0 [0]
@[simp] theorem f59r0_run : run tbl fin K f59r0 e H = regK tbl fin K [] f59o0 [0] e H := run_regK _ _ _ _ _ _ _ _ _ rfl
@[simp] def f59o1 : List IOper := [
  ⟨(some 3), .mv (.t 0), none, none⟩,
  ⟨(some 4), .bin .leq (.c (.int .i32 65)) (.t 3), none, none⟩,
  ⟨(some 5), .mv (.t 4), none, none⟩,
  ⟨(some 6), .mv (.t 0), (some (5, true)), none⟩,
  ⟨(some 7), .bin .leq (.t 6) (.c (.int .i32 90)), (some (5, true)), none⟩,
  ⟨(some 8), .pick (.t 5) (.t 7) (.c (.bool false)), none, none⟩,
  ⟨(some 9), .mv (.t 8), none, none⟩,
  ⟨(some 10), .mv (.t 0), (some (9, false)), some [10, 0, 9]⟩,
  ⟨(some 11), .bin .leq (.c (.int .i32 97)) (.t 10), (some (9, false)), none⟩,
  ⟨(some 12), .mv (.t 11), (some (9, false)), none⟩,
  ⟨(some 13), .mv (.t 0), (some (12, true)), none⟩,
  ⟨(some 14), .bin .leq (.t 13) (.c (.int .i32 122)), (some (12, true)), none⟩,
  ⟨(some 15), .pick (.t 12) (.t 14) (.c (.bool false)), (some (9, false)), none⟩,
  ⟨(some 16), .pick (.t 9) (.c (.bool true)) (.t 15), none, none⟩,
  ⟨(some 2), .mv (.t 16), none, none⟩]
def f59r1 : IC := .reg false [] f59o1 [2]
@[simp] theorem f59r1_run : run tbl fin K f59r1 e H = regK tbl fin K [] f59o1 [2] e H := run_regK _ _ _ _ _ _ _ _ _ rfl
def f59body : IC := (.seq f59r0 (.seq f59r1 .ret))
def f59 : IFn := ⟨17, 1, [.tmp 2], f59body⟩
/- 60: jobshell/vars.Get -/
@[simp] def f60o0 : List IOper := [
  ⟨(some 3), .box 9 1 (.t 1), none, none⟩,
  ⟨(some 4), .new 42 5 (.agg [(.str []), (.str []), (.bool false), (.bool false), (.bool false)]), none, none⟩,
  ⟨(some 5), .mv (.c (.bool false)), none, none⟩]
def f60r0 : IC := .reg false [] f60o0 [3, 0, 4]
@[simp] theorem f60r0_run : run tbl fin K f60r0 e H = regK tbl fin K [] f60o0 [3, 0, 4] e H := run_regK _ _ _ _ _ _ _ _ _ rfl
@[simp] def f60o1 : List IOper := [
  ⟨(some 7), .mv (.t 0), none, none⟩,
  ⟨(some 8), .mkfn 69 [(.t 3)], none, none⟩,
  ⟨(some 9), .ocall (.c (.fn 68 [])) [(.t 7), (.t 8)], none, none⟩,
  ⟨(some 6), .mv (.t 9), none, none⟩]
def f60r1 : IC := .reg false [] f60o1 [0, 6, 4]
@[simp] theorem f60r1_run : run tbl fin K f60r1 e H = regK tbl fin K [] f60o1 [0, 6, 4] e H := run_regK _ _ _ _ _ _ _ _ _ rfl
@[simp] def f60o2 : List IOper := [
  ⟨(some 10), .mv (.t 6), none, none⟩,
  ⟨(some 11), .bin .geq (.t 10) (.c (.int .i64 0)), none, none⟩]
def f60r2 : IC := .reg false [] f60o2 [11, 0, 6, 4]
@[simp] theorem f60r2_run : run tbl fin K f60r2 e H = regK tbl fin K [] f60o2 [11, 0, 6, 4] e H := run_regK _ _ _ _ _ _ _ _ _ rfl
@[simp] def f60o3 : List IOper := [
  ⟨(some 12), .mv (.t 0), none, none⟩,
  ⟨(some 13), .mv (.t 6), none, none⟩,
  ⟨(some 14), .idx 5 (.t 12) (.t 13), none, none⟩,
  ⟨(some 15), .load true 5 (.t 14), none, none⟩,
  ⟨none, .store 5 (.t 4) (.t 15), none, none⟩,
  ⟨(some 5), .mv (.c (.bool true)), none, none⟩]
def f60r3 : IC := .reg false [] f60o3 [4, 5]
@[simp] theorem f60r3_run : run tbl fin K f60r3 e H = regK tbl fin K [] f60o3 [4, 5] e H := run_regK _ _ _ _ _ _ _ _ _ rfl
@[simp] def f60o4 : List IOper := [
  ⟨(some 16), .build [(.str []), (.str []), (.bool false), (.bool false), (.bool false)] [], none, none⟩,
  ⟨none, .store 5 (.t 4) (.t 16), none, none⟩,
  ⟨(some 5), .mv (.c (.bool false)), none, none⟩]
def f60r4 : IC := .reg false [] f60o4 [4, 5]
@[simp] theorem f60r4_run : run tbl fin K f60r4 e H = regK tbl fin K [] f60o4 [4, 5] e H := run_regK _ _ _ _ _ _ _ _ _ rfl
def f60body : IC := (.seq f60r0 (.seq (.seq f60r1 (.seq f60r2 (.cond (.t 11) (.seq f60r3 .ret) .skip))) (.seq f60r4 .ret)))
def f60 : IFn := ⟨17, 2, [.cell 4 true 5, .tmp 5], f60body⟩
/- 61: jobshell/jobshellref01.Digits -/
@[simp] def f61o0 : List IOper := [
  ⟨(some 2), .mv (.c (.int .i64 0)), none, none⟩,
  ⟨(some 3), .mv (.c (.bool false)), none, none⟩]
def f61r0 : IC := .reg false [] f61o0 [0]
@[simp] theorem f61r0_run : run tbl fin K f61r0 e H = regK tbl fin K [] f61o0 [0] e H := run_regK _ _ _ _ _ _ _ _ _ rfl
@[simp] def f61o1 : List IOper := [
  ⟨(some 6), .mv (.t 0), none, none⟩,
  ⟨(some 7), .bin .eql (.t 6) (.c (.str [])), none, none⟩,
  ⟨(some 8), .mv (.t 7), none, none⟩,
  ⟨(some 9), .mv (.t 0), (some (8, false)), none⟩,
  ⟨(some 10), .slen (.t 9), (some (8, false)), none⟩,
  ⟨(some 11), .bin .gtr (.t 10) (.c (.int .i64 10)), (some (8, false)), none⟩,
  ⟨(some 12), .pick (.t 8) (.c (.bool true)) (.t 11), none, none⟩,
  ⟨(some 13), .mv (.t 12), none, some [13, 0]⟩,
  ⟨(some 14), .mv (.t 0), (some (13, false)), none⟩,
  ⟨(some 15), .sidx (.t 14) (.c (.int .i64 0)), (some (13, false)), none⟩,
  ⟨(some 16), .bin .eql (.t 15) (.c (.int .u8 48)), (some (13, false)), none⟩,
  ⟨(some 17), .mv (.t 16), (some (13, false)), none⟩,
  ⟨(some 18), .mv (.t 0), (some (17, true)), none⟩,
  ⟨(some 19), .slen (.t 18), (some (17, true)), none⟩,
  ⟨(some 20), .bin .gtr (.t 19) (.c (.int .i64 1)), (some (17, true)), none⟩,
  ⟨(some 21), .pick (.t 17) (.t 20) (.c (.bool false)), (some (13, false)), some [21, 13, 0]⟩,
  ⟨(some 22), .pick (.t 13) (.c (.bool true)) (.t 21), none, none⟩]
def f61r1 : IC := .reg false [] f61o1 [22, 0]
@[simp] theorem f61r1_run : run tbl fin K f61r1 e H = regK tbl fin K [] f61o1 [22, 0] e H := run_regK _ _ _ _ _ _ _ _ _ rfl
@[simp] def f61o2 : List IOper := [
  ⟨(some 2), .mv (.c (.int .i64 0)), none, none⟩,
  ⟨(some 3), .mv (.c (.bool false)), none, none⟩]
def f61r2 : IC := .reg false [] f61o2 [2, 3]
@[simp] theorem f61r2_run : run tbl fin K f61r2 e H = regK tbl fin K [] f61o2 [2, 3] e H := run_regK _ _ _ _ _ _ _ _ _ rfl
@[simp] def f61o3 : List IOper := [
  ⟨(some 4), .mv (.c (.int .i64 0)), none, none⟩]
def f61r3 : IC := .reg false [] f61o3 [0, 4]
@[simp] theorem f61r3_run : run tbl fin K f61r3 e H = regK tbl fin K [] f61o3 [0, 4] e H := run_regK _ _ _ _ _ _ _ _ _ rfl
@[simp] def f61o4 : List IOper := [
  ⟨(some 5), .mv (.c (.int .i64 0)), none, none⟩]
def f61r4 : IC := .reg false [] f61o4 [0, 5, 4]
@[simp] theorem f61r4_run : run tbl fin K f61r4 e H = regK tbl fin K [] f61o4 [0, 5, 4] e H := run_regK _ _ _ _ _ _ _ _ _ rfl
@[simp] def f61o5 : List IOper := [
  ⟨(some 23), .mv (.t 5), none, none⟩,
  ⟨(some 24), .mv (.t 0), none, none⟩,
  ⟨(some 25), .slen (.t 24), none, none⟩,
  ⟨(some 26), .bin .lss (.t 23) (.t 25), none, none⟩]
def f61r5 : IC := .reg false [] f61o5 [26, 0, 5, 4]
@[simp] theorem f61r5_run : run tbl fin K f61r5 e H = regK tbl fin K [] f61o5 [26, 0, 5, 4] e H := run_regK _ _ _ _ _ _ _ _ _ rfl
@[simp] def f61o6 : List IOper := [
  ⟨(some 29), .mv (.t 0), none, none⟩,
  ⟨(some 30), .mv (.t 5), none, none⟩,
  ⟨(some 31), .sidx (.t 29) (.t 30), none, none⟩,
  ⟨(some 32), .call (.c (.fn 49 [])) [(.t 31)], none, none⟩,
  ⟨(some 33), .un .not (.t 32), none, none⟩]
def f61r6 : IC := .reg false [] f61o6 [33, 0, 5, 4]
@[simp] theorem f61r6_run : run tbl fin K f61r6 e H = regK tbl fin K [] f61o6 [33, 0, 5, 4] e H := run_regK _ _ _ _ _ _ _ _ _ rfl
@[simp] def f61o7 : List IOper := [
  ⟨(some 2), .mv (.c (.int .i64 0)), none, none⟩,
  ⟨(some 3), .mv (.c (.bool false)), none, none⟩]
def f61r7 : IC := .reg false [] f61o7 [2, 3]
@[simp] theorem f61r7_run : run tbl fin K f61r7 e H = regK tbl fin K [] f61o7 [2, 3] e H := run_regK _ _ _ _ _ _ _ _ _ rfl
@[simp] def f61o8 : List IOper := [
  ⟨(some 34), .mv (.t 4), none, none⟩,
  ⟨(some 35), .bin .mul (.c (.int .i64 10)) (.t 34), none, none⟩,
  ⟨(some 36), .mv (.t 0), none, none⟩,
  ⟨(some 37), .mv (.t 5), none, none⟩,
  ⟨(some 38), .sidx (.t 36) (.t 37), none, none⟩,
  ⟨(some 39), .bin .sub (.t 38) (.c (.int .u8 48)), none, none⟩,
  ⟨(some 40), .conv .i64 (.t 39), none, none⟩,
  ⟨(some 41), .bin .add (.t 35) (.t 40), none, none⟩,
  ⟨(some 4), .mv (.t 41), none, none⟩]
def f61r8 : IC := .reg false [] f61o8 [5, 0, 4]
@[simp] theorem f61r8_run : run tbl fin K f61r8 e H = regK tbl fin K [] f61o8 [5, 0, 4] e H := run_regK _ _ _ _ _ _ _ _ _ rfl
@[simp] def f61o9 : List IOper := [
  ⟨(some 27), .mv (.t 5), none, none⟩,
  ⟨(some 28), .bin .add (.t 27) (.c (.int .i64 1)), none, none⟩,
  ⟨(some 5), .mv (.t 28), none, none⟩]
def f61r9 : IC := .reg false [] f61o9 [0, 5, 4]
@[simp] theorem f61r9_run : run tbl fin K f61r9 e H = regK tbl fin K [] f61o9 [0, 5, 4] e H := run_regK _ _ _ _ _ _ _ _ _ rfl
def f61b10 : IC := (.seq (.seq f61r5 (.cond (.t 26) .skip (.exit 0))) (.seq (.block 1 (.seq (.seq f61r6 (.cond (.t 33) (.seq f61r7 .ret) .skip)) f61r8)) f61r9))
theorem f61b10_eq : f61b10 = (.seq (.seq f61r5 (.cond (.t 26) .skip (.exit 0))) (.seq (.block 1 (.seq (.seq f61r6 (.cond (.t 33) (.seq f61r7 .ret) .skip)) f61r8)) f61r9)) := rfl
@[simp] def f61o11 : List IOper := [
  ⟨(some 42), .mv (.t 4), none, none⟩,
  ⟨(some 43), .bin .gtr (.t 42) (.c (.int .i64 2147483647)), none, none⟩]
def f61r11 : IC := .reg false [] f61o11 [43, 4]
@[simp] theorem f61r11_run : run tbl fin K f61r11 e H = regK tbl fin K [] f61o11 [43, 4] e H := run_regK _ _ _ _ _ _ _ _ _ rfl
@[simp] def f61o12 : List IOper := [
  ⟨(some 2), .mv (.c (.int .i64 0)), none, none⟩,
  ⟨(some 3), .mv (.c (.bool false)), none, none⟩]
def f61r12 : IC := .reg false [] f61o12 [2, 3]
@[simp] theorem f61r12_run : run tbl fin K f61r12 e H = regK tbl fin K [] f61o12 [2, 3] e H := run_regK _ _ _ _ _ _ _ _ _ rfl
@[simp] def f61o13 : List IOper := [
  ⟨(some 44), .mv (.t 4), none, none⟩,
  ⟨(some 2), .mv (.t 44), none, none⟩,
  ⟨(some 3), .mv (.c (.bool true)), none, none⟩]
def f61r13 : IC := .reg false [] f61o13 [2, 3]
@[simp] theorem f61r13_run : run tbl fin K f61r13 e H = regK tbl fin K [] f61o13 [2, 3] e H := run_regK _ _ _ _ _ _ _ _ _ rfl
def f61body : IC := (.seq f61r0 (.seq (.seq f61r1 (.cond (.t 22) (.seq f61r2 .ret) .skip)) (.seq f61r3 (.seq (.seq f61r4 (.block 0 (.loop [0, 5, 4] f61b10))) (.seq (.seq f61r11 (.cond (.t 43) (.seq f61r12 .ret) .skip)) (.seq f61r13 .ret))))))
def f61 : IFn := ⟨45, 1, [.tmp 2, .tmp 3], f61body⟩
/- 62: jobshell/jobshellref05.digits -/
@[simp] def f62o0 : List IOper := [
  ⟨(some 2), .mv (.c (.str [])), none, none⟩]
def f62r0 : IC := .reg false [] f62o0 [0]
@[simp] theorem f62r0_run : run tbl fin K f62r0 e H = regK tbl fin K [] f62o0 [0] e H := run_regK _ _ _ _ _ _ _ _ _ rfl
@[simp] def f62o1 : List IOper := [
  ⟨(some 3), .mv (.c (.str [])), none, none⟩]
def f62r1 : IC := .reg false [] f62o1 [3, 0]
@[simp] theorem f62r1_run : run tbl fin K f62r1 e H = regK tbl fin K [] f62o1 [3, 0] e H := run_regK _ _ _ _ _ _ _ _ _ rfl
@[simp] def f62o2 : List IOper := [
  ⟨(some 4), .mv (.t 0), none, none⟩,
  ⟨(some 5), .bin .gtr (.t 4) (.c (.int .u64 9)), none, none⟩]
def f62r2 : IC := .reg false [] f62o2 [5, 3, 0]
@[simp] theorem f62r2_run : run tbl fin K f62r2 e H = regK tbl fin K [] f62o2 [5, 3, 0] e H := run_regK _ _ _ _ _ _ _ _ _ rfl
@[simp] def f62o3 : List IOper := [
  ⟨(some 6), .mv (.t 0), none, none⟩,
  ⟨(some 7), .bin .rem (.t 6) (.c (.int .u64 10)), none, none⟩,
  ⟨(some 8), .bin .add (.c (.int .u64 48)) (.t 7), none, none⟩,
  ⟨(some 9), .conv .u8 (.t 8), none, none⟩,
  ⟨(some 10), .mkrow 5 1 1 (.int .u8 0) [(0, (.t 9))], none, none⟩,
  ⟨(some 11), .b2s (.t 10), none, none⟩,
  ⟨(some 12), .mv (.t 3), none, none⟩,
  ⟨(some 13), .bin .add (.t 11) (.t 12), none, none⟩,
  ⟨(some 3), .mv (.t 13), none, none⟩]
def f62r3 : IC := .reg false [] f62o3 [0, 3]
@[simp] theorem f62r3_run : run tbl fin K f62r3 e H = regK tbl fin K [] f62o3 [0, 3] e H := run_regK _ _ _ _ _ _ _ _ _ rfl
@[simp] def f62o4 : List IOper := [
  ⟨(some 14), .mv (.t 0), none, none⟩,
  ⟨(some 15), .bin .quo (.t 14) (.c (.int .u64 10)), none, none⟩,
  ⟨(some 0), .mv (.t 15), none, none⟩]
def f62r4 : IC := .reg false [] f62o4 [3, 0]
@[simp] theorem f62r4_run : run tbl fin K f62r4 e H = regK tbl fin K [] f62o4 [3, 0] e H := run_regK _ _ _ _ _ _ _ _ _ rfl
def f62b5 : IC := (.seq (.seq f62r2 (.cond (.t 5) .skip (.exit 0))) (.block 1 (.seq f62r3 f62r4)))
theorem f62b5_eq : f62b5 = (.seq (.seq f62r2 (.cond (.t 5) .skip (.exit 0))) (.block 1 (.seq f62r3 f62r4))) := rfl
@[simp] def f62o6 : List IOper := [
  ⟨(some 16), .mv (.t 0), none, none⟩,
  ⟨(some 17), .bin .add (.c (.int .u64 48)) (.t 16), none, none⟩,
  ⟨(some 18), .conv .u8 (.t 17), none, none⟩,
  ⟨(some 19), .mkrow 5 1 1 (.int .u8 0) [(0, (.t 18))], none, none⟩,
  ⟨(some 20), .b2s (.t 19), none, none⟩,
  ⟨(some 21), .mv (.t 3), none, none⟩,
  ⟨(some 22), .bin .add (.t 20) (.t 21), none, none⟩,
  ⟨(some 2), .mv (.t 22), none, none⟩]
def f62r6 : IC := .reg false [] f62o6 [2]
@[simp] theorem f62r6_run : run tbl fin K f62r6 e H = regK tbl fin K [] f62o6 [2] e H := run_regK _ _ _ _ _ _ _ _ _ rfl
def f62body : IC := (.seq f62r0 (.seq f62r1 (.seq (.block 0 (.loop [3, 0] f62b5)) (.seq f62r6 .ret))))
def f62 : IFn := ⟨23, 1, [.tmp 2], f62body⟩
/- 63: jobshell/jobshellref01.Letter -/
@[simp] def f63o0 : List IOper := [
  ⟨(some 2), .mv (.c (.bool false)), none, none⟩]
def f63r0 : IC := .reg false [] f63o0 [0]
@[simp] theorem f63r0_run : run tbl fin K f63r0 e H = regK tbl fin K [] f63o0 [0] e H := run_regK _ _ _ _ _ _ _ _ _ rfl
@[simp] def f63o1 : List IOper := [
  ⟨(some 3), .mv (.t 0), none, none⟩,
  ⟨(some 4), .bin .geq (.t 3) (.c (.int .u8 97)), none, none⟩,
  ⟨(some 5), .mv (.t 4), none, none⟩,
  ⟨(some 6), .mv (.t 0), (some (5, true)), none⟩,
  ⟨(some 7), .bin .leq (.t 6) (.c (.int .u8 122)), (some (5, true)), none⟩,
  ⟨(some 8), .pick (.t 5) (.t 7) (.c (.bool false)), none, none⟩,
  ⟨(some 9), .mv (.t 8), none, none⟩,
  ⟨(some 10), .mv (.t 0), (some (9, false)), some [10, 0, 9]⟩,
  ⟨(some 11), .bin .geq (.t 10) (.c (.int .u8 65)), (some (9, false)), none⟩,
  ⟨(some 12), .mv (.t 11), (some (9, false)), none⟩,
  ⟨(some 13), .mv (.t 0), (some (12, true)), none⟩,
  ⟨(some 14), .bin .leq (.t 13) (.c (.int .u8 90)), (some (12, true)), none⟩,
  ⟨(some 15), .pick (.t 12) (.t 14) (.c (.bool false)), (some (9, false)), none⟩,
  ⟨(some 16), .pick (.t 9) (.c (.bool true)) (.t 15), none, none⟩,
  ⟨(some 2), .mv (.t 16), none, none⟩]
def f63r1 : IC := .reg false [] f63o1 [2]
@[simp] theorem f63r1_run : run tbl fin K f63r1 e H = regK tbl fin K [] f63o1 [2] e H := run_regK _ _ _ _ _ _ _ _ _ rfl
def f63body : IC := (.seq f63r0 (.seq f63r1 .ret))
def f63 : IFn := ⟨17, 1, [.tmp 2], f63body⟩
/- 64: internal/stringslite.IndexByte is met by a contract -/
/- 65: internal/strconv.FormatInt is met by a contract -/
/- 66: strings.Index is met by a contract -/
/- 67: (*strings.Builder).Grow is met by a contract -/
/- 68: jobshell/vars.find[jobshell/api.Var] -/
@[simp] def f68o0 : List IOper := [
  ⟨(some 4), .mv (.c (.int .i64 0)), none, none⟩]
def f68r0 : IC := .reg false [] f68o0 [0, 1]
@[simp] theorem f68r0_run : run tbl fin K f68r0 e H = regK tbl fin K [] f68o0 [0, 1] e H := run_regK _ _ _ _ _ _ _ _ _ rfl
@[simp] def f68o1 : List IOper := [
  ⟨(some 7), .mv (.t 0), none, none⟩,
  ⟨(some 8), .len (.t 7), none, none⟩,
  ⟨(some 9), .mv (.c (.int .i64 0)), none, none⟩]
def f68r1 : IC := .reg false [] f68o1 [8, 7, 1, 9]
@[simp] theorem f68r1_run : run tbl fin K f68r1 e H = regK tbl fin K [] f68o1 [8, 7, 1, 9] e H := run_regK _ _ _ _ _ _ _ _ _ rfl
@[simp] def f68o2 : List IOper := [
  ⟨(some 10), .bin .lss (.t 9) (.t 8), none, none⟩]
def f68r2 : IC := .reg false [] f68o2 [10, 1, 7, 8, 9]
@[simp] theorem f68r2_run : run tbl fin K f68r2 e H = regK tbl fin K [] f68o2 [10, 1, 7, 8, 9] e H := run_regK _ _ _ _ _ _ _ _ _ rfl
@[simp] def f68o3 : List IOper := [
  ⟨(some 11), .mv (.t 9), none, none⟩,
  ⟨(some 12), .idx 5 (.t 7) (.t 9), none, none⟩,
  ⟨(some 13), .load true 5 (.t 12), none, none⟩,
  ⟨(some 6), .new 42 5 (.agg [(.str []), (.str []), (.bool false), (.bool false), (.bool false)]), none, none⟩,
  ⟨(some 5), .mv (.t 11), none, none⟩,
  ⟨none, .store 5 (.t 6) (.t 13), none, none⟩]
def f68r3 : IC := .reg false [] f68o3 [6, 1, 7, 8, 9, 5]
@[simp] theorem f68r3_run : run tbl fin K f68r3 e H = regK tbl fin K [] f68o3 [6, 1, 7, 8, 9, 5] e H := run_regK _ _ _ _ _ _ _ _ _ rfl
@[simp] def f68o4 : List IOper := [
  ⟨(some 14), .mv (.t 1), none, none⟩,
  ⟨(some 15), .load true 5 (.t 6), none, none⟩,
  ⟨(some 16), .ocall (.t 14) [(.t 15)], none, none⟩]
def f68r4 : IC := .reg false [] f68o4 [16, 1, 7, 8, 9, 5]
@[simp] theorem f68r4_run : run tbl fin K f68r4 e H = regK tbl fin K [] f68o4 [16, 1, 7, 8, 9, 5] e H := run_regK _ _ _ _ _ _ _ _ _ rfl
@[simp] def f68o5 : List IOper := [
  ⟨(some 17), .mv (.t 5), none, none⟩,
  ⟨(some 4), .mv (.t 17), none, none⟩]
def f68r5 : IC := .reg false [] f68o5 [4]
@[simp] theorem f68r5_run : run tbl fin K f68r5 e H = regK tbl fin K [] f68o5 [4] e H := run_regK _ _ _ _ _ _ _ _ _ rfl
@[simp] def f68o6 : List IOper := [
  ⟨(some 18), .bin .add (.t 9) (.c (.int .i64 1)), none, none⟩,
  ⟨(some 9), .mv (.t 18), none, none⟩]
def f68r6 : IC := .reg false [] f68o6 [8, 7, 1, 9]
@[simp] theorem f68r6_run : run tbl fin K f68r6 e H = regK tbl fin K [] f68o6 [8, 7, 1, 9] e H := run_regK _ _ _ _ _ _ _ _ _ rfl
def f68b7 : IC := (.seq f68r2 (.seq (.cond (.t 10) .skip (.exit 0)) (.seq (.block 1 (.seq f68r3 (.seq f68r4 (.cond (.t 16) (.seq f68r5 .ret) .skip)))) f68r6)))
theorem f68b7_eq : f68b7 = (.seq f68r2 (.seq (.cond (.t 10) .skip (.exit 0)) (.seq (.block 1 (.seq f68r3 (.seq f68r4 (.cond (.t 16) (.seq f68r5 .ret) .skip)))) f68r6))) := rfl
@[simp] def f68o8 : List IOper := [
  ⟨(some 4), .mv (.c (.int .i64 (-1))), none, none⟩]
def f68r8 : IC := .reg false [] f68o8 [4]
@[simp] theorem f68r8_run : run tbl fin K f68r8 e H = regK tbl fin K [] f68o8 [4] e H := run_regK _ _ _ _ _ _ _ _ _ rfl
def f68body : IC := (.seq f68r0 (.seq (.seq f68r1 (.block 0 (.loop [8, 7, 1, 9] f68b7))) (.seq f68r8 .ret)))
def f68 : IFn := ⟨19, 2, [.tmp 4], f68body⟩
/- 69: jobshell/vars.Get$1 -/
@[simp] def f69o0 : List IOper := [
  ⟨(some 2), .box 42 5 (.t 0), none, none⟩,
  ⟨(some 3), .mv (.c (.bool false)), none, none⟩]
def f69r0 : IC := .reg false [] f69o0 [2, 1]
@[simp] theorem f69r0_run : run tbl fin K f69r0 e H = regK tbl fin K [] f69o0 [2, 1] e H := run_regK _ _ _ _ _ _ _ _ _ rfl
@[simp] def f69o1 : List IOper := [
  ⟨(some 4), .fld 0 (.t 2), none, none⟩,
  ⟨(some 5), .load false 1 (.t 4), none, none⟩,
  ⟨(some 6), .load false 1 (.t 1), none, none⟩,
  ⟨(some 7), .bin .eql (.t 5) (.t 6), none, none⟩,
  ⟨(some 3), .mv (.t 7), none, none⟩]
def f69r1 : IC := .reg false [] f69o1 [3]
@[simp] theorem f69r1_run : run tbl fin K f69r1 e H = regK tbl fin K [] f69o1 [3] e H := run_regK _ _ _ _ _ _ _ _ _ rfl
def f69body : IC := (.seq f69r0 (.seq f69r1 .ret))
def f69 : IFn := ⟨8, 2, [.tmp 3], f69body⟩
/- 70: internal/bytealg.IndexByteString is met by a contract -/
def tblF0 : Nat → Option IFn
  | 3 => some f3
  | 4 => some f4
  | 5 => some f5
  | 6 => some f6
  | 7 => some f7
  | 8 => some f8
  | 9 => some f9
  | 10 => some f10
  | 11 => some f11
  | 12 => some f12
  | 13 => some f13
  | 14 => some f14
  | 15 => some f15
  | 16 => some f16
  | 17 => some f17
  | 18 => some f18
  | 20 => some f20
  | 22 => some f22
  | 23 => some f23
  | 24 => some f24
  | 25 => some f25
  | 26 => some f26
  | 27 => some f27
  | 28 => some f28
  | 29 => some f29
  | 30 => some f30
  | 31 => some f31
  | 34 => some f34
  | 35 => some f35
  | 36 => some f36
  | 37 => some f37
  | 38 => some f38
  | 39 => some f39
  | 40 => some f40
  | 41 => some f41
  | 42 => some f42
  | 43 => some f43
  | 44 => some f44
  | 45 => some f45
  | 46 => some f46
  | _ => none
def tblF1 : Nat → Option IFn
  | 47 => some f47
  | 48 => some f48
  | 49 => some f49
  | 50 => some f50
  | 56 => some f56
  | 57 => some f57
  | 58 => some f58
  | 59 => some f59
  | 60 => some f60
  | 61 => some f61
  | 62 => some f62
  | 63 => some f63
  | 68 => some f68
  | 69 => some f69
  | _ => none
def tblF (f : Nat) : Option IFn := if f < 47 then tblF0 f else tblF1 f
theorem tbl3 : tblF 3 = some f3 := rfl
theorem tbl4 : tblF 4 = some f4 := rfl
theorem tbl5 : tblF 5 = some f5 := rfl
theorem tbl6 : tblF 6 = some f6 := rfl
theorem tbl7 : tblF 7 = some f7 := rfl
theorem tbl8 : tblF 8 = some f8 := rfl
theorem tbl9 : tblF 9 = some f9 := rfl
theorem tbl10 : tblF 10 = some f10 := rfl
theorem tbl11 : tblF 11 = some f11 := rfl
theorem tbl12 : tblF 12 = some f12 := rfl
theorem tbl13 : tblF 13 = some f13 := rfl
theorem tbl14 : tblF 14 = some f14 := rfl
theorem tbl15 : tblF 15 = some f15 := rfl
theorem tbl16 : tblF 16 = some f16 := rfl
theorem tbl17 : tblF 17 = some f17 := rfl
theorem tbl18 : tblF 18 = some f18 := rfl
theorem tbl20 : tblF 20 = some f20 := rfl
theorem tbl22 : tblF 22 = some f22 := rfl
theorem tbl23 : tblF 23 = some f23 := rfl
theorem tbl24 : tblF 24 = some f24 := rfl
theorem tbl25 : tblF 25 = some f25 := rfl
theorem tbl26 : tblF 26 = some f26 := rfl
theorem tbl27 : tblF 27 = some f27 := rfl
theorem tbl28 : tblF 28 = some f28 := rfl
theorem tbl29 : tblF 29 = some f29 := rfl
theorem tbl30 : tblF 30 = some f30 := rfl
theorem tbl31 : tblF 31 = some f31 := rfl
theorem tbl34 : tblF 34 = some f34 := rfl
theorem tbl35 : tblF 35 = some f35 := rfl
theorem tbl36 : tblF 36 = some f36 := rfl
theorem tbl37 : tblF 37 = some f37 := rfl
theorem tbl38 : tblF 38 = some f38 := rfl
theorem tbl39 : tblF 39 = some f39 := rfl
theorem tbl40 : tblF 40 = some f40 := rfl
theorem tbl41 : tblF 41 = some f41 := rfl
theorem tbl42 : tblF 42 = some f42 := rfl
theorem tbl43 : tblF 43 = some f43 := rfl
theorem tbl44 : tblF 44 = some f44 := rfl
theorem tbl45 : tblF 45 = some f45 := rfl
theorem tbl46 : tblF 46 = some f46 := rfl
theorem tbl47 : tblF 47 = some f47 := rfl
theorem tbl48 : tblF 48 = some f48 := rfl
theorem tbl49 : tblF 49 = some f49 := rfl
theorem tbl50 : tblF 50 = some f50 := rfl
theorem tbl56 : tblF 56 = some f56 := rfl
theorem tbl57 : tblF 57 = some f57 := rfl
theorem tbl58 : tblF 58 = some f58 := rfl
theorem tbl59 : tblF 59 = some f59 := rfl
theorem tbl60 : tblF 60 = some f60 := rfl
theorem tbl61 : tblF 61 = some f61 := rfl
theorem tbl62 : tblF 62 = some f62 := rfl
theorem tbl63 : tblF 63 = some f63 := rfl
theorem tbl68 : tblF 68 = some f68 := rfl
theorem tbl69 : tblF 69 = some f69 := rfl
theorem ok3 : cFn Tryd.prog cfg 3 = some f3 := by kernel_rfl
theorem ok4 : cFn Tryd.prog cfg 4 = some f4 := by kernel_rfl
theorem ok5 : cFn Tryd.prog cfg 5 = some f5 := by kernel_rfl
theorem ok6 : cFn Tryd.prog cfg 6 = some f6 := by kernel_rfl
theorem ok7 : cFn Tryd.prog cfg 7 = some f7 := by kernel_rfl
theorem ok8 : cFn Tryd.prog cfg 8 = some f8 := by kernel_rfl
theorem ok9 : cFn Tryd.prog cfg 9 = some f9 := by kernel_rfl
theorem ok10 : cFn Tryd.prog cfg 10 = some f10 := by kernel_rfl
theorem ok11 : cFn Tryd.prog cfg 11 = some f11 := by kernel_rfl
theorem ok12 : cFn Tryd.prog cfg 12 = some f12 := by kernel_rfl
theorem ok13 : cFn Tryd.prog cfg 13 = some f13 := by kernel_rfl
theorem ok14 : cFn Tryd.prog cfg 14 = some f14 := by kernel_rfl
theorem ok15 : cFn Tryd.prog cfg 15 = some f15 := by kernel_rfl
theorem ok16 : cFn Tryd.prog cfg 16 = some f16 := by kernel_rfl
theorem ok17 : cFn Tryd.prog cfg 17 = some f17 := by kernel_rfl
theorem ok18 : cFn Tryd.prog cfg 18 = some f18 := by kernel_rfl
theorem ok20 : cFn Tryd.prog cfg 20 = some f20 := by kernel_rfl
theorem ok22 : cFn Tryd.prog cfg 22 = some f22 := by kernel_rfl
theorem ok23 : cFn Tryd.prog cfg 23 = some f23 := by kernel_rfl
theorem ok24 : cFn Tryd.prog cfg 24 = some f24 := by kernel_rfl
theorem ok25 : cFn Tryd.prog cfg 25 = some f25 := by kernel_rfl
theorem ok26 : cFn Tryd.prog cfg 26 = some f26 := by kernel_rfl
theorem ok27 : cFn Tryd.prog cfg 27 = some f27 := by kernel_rfl
theorem ok28 : cFn Tryd.prog cfg 28 = some f28 := by kernel_rfl
theorem ok29 : cFn Tryd.prog cfg 29 = some f29 := by kernel_rfl
theorem ok30 : cFn Tryd.prog cfg 30 = some f30 := by kernel_rfl
theorem ok31 : cFn Tryd.prog cfg 31 = some f31 := by kernel_rfl
theorem ok34 : cFn Tryd.prog cfg 34 = some f34 := by kernel_rfl
theorem ok35 : cFn Tryd.prog cfg 35 = some f35 := by kernel_rfl
theorem ok36 : cFn Tryd.prog cfg 36 = some f36 := by kernel_rfl
theorem ok37 : cFn Tryd.prog cfg 37 = some f37 := by kernel_rfl
theorem ok38 : cFn Tryd.prog cfg 38 = some f38 := by kernel_rfl
theorem ok39 : cFn Tryd.prog cfg 39 = some f39 := by kernel_rfl
theorem ok40 : cFn Tryd.prog cfg 40 = some f40 := by kernel_rfl
theorem ok41 : cFn Tryd.prog cfg 41 = some f41 := by kernel_rfl
theorem ok42 : cFn Tryd.prog cfg 42 = some f42 := by kernel_rfl
theorem ok43 : cFn Tryd.prog cfg 43 = some f43 := by kernel_rfl
theorem ok44 : cFn Tryd.prog cfg 44 = some f44 := by kernel_rfl
theorem ok45 : cFn Tryd.prog cfg 45 = some f45 := by kernel_rfl
theorem ok46 : cFn Tryd.prog cfg 46 = some f46 := by kernel_rfl
theorem ok47 : cFn Tryd.prog cfg 47 = some f47 := by kernel_rfl
theorem ok48 : cFn Tryd.prog cfg 48 = some f48 := by kernel_rfl
theorem ok49 : cFn Tryd.prog cfg 49 = some f49 := by kernel_rfl
theorem ok50 : cFn Tryd.prog cfg 50 = some f50 := by kernel_rfl
theorem ok56 : cFn Tryd.prog cfg 56 = some f56 := by kernel_rfl
theorem ok57 : cFn Tryd.prog cfg 57 = some f57 := by kernel_rfl
theorem ok58 : cFn Tryd.prog cfg 58 = some f58 := by kernel_rfl
theorem ok59 : cFn Tryd.prog cfg 59 = some f59 := by kernel_rfl
theorem ok60 : cFn Tryd.prog cfg 60 = some f60 := by kernel_rfl
theorem ok61 : cFn Tryd.prog cfg 61 = some f61 := by kernel_rfl
theorem ok62 : cFn Tryd.prog cfg 62 = some f62 := by kernel_rfl
theorem ok63 : cFn Tryd.prog cfg 63 = some f63 := by kernel_rfl
theorem ok68 : cFn Tryd.prog cfg 68 = some f68 := by kernel_rfl
theorem ok69 : cFn Tryd.prog cfg 69 = some f69 := by kernel_rfl
theorem tbl_ok0 (f : Nat) (fn : IFn) (h : tblF0 f = some fn) : cFn Tryd.prog cfg f = some fn := by
  unfold tblF0 at h
  split at h
  · exact (congrArg (fun x => cFn Tryd.prog cfg 3 = x) h).mp ok3
  · exact (congrArg (fun x => cFn Tryd.prog cfg 4 = x) h).mp ok4
  · exact (congrArg (fun x => cFn Tryd.prog cfg 5 = x) h).mp ok5
  · exact (congrArg (fun x => cFn Tryd.prog cfg 6 = x) h).mp ok6
  · exact (congrArg (fun x => cFn Tryd.prog cfg 7 = x) h).mp ok7
  · exact (congrArg (fun x => cFn Tryd.prog cfg 8 = x) h).mp ok8
  · exact (congrArg (fun x => cFn Tryd.prog cfg 9 = x) h).mp ok9
  · exact (congrArg (fun x => cFn Tryd.prog cfg 10 = x) h).mp ok10
  · exact (congrArg (fun x => cFn Tryd.prog cfg 11 = x) h).mp ok11
  · exact (congrArg (fun x => cFn Tryd.prog cfg 12 = x) h).mp ok12
  · exact (congrArg (fun x => cFn Tryd.prog cfg 13 = x) h).mp ok13
  · exact (congrArg (fun x => cFn Tryd.prog cfg 14 = x) h).mp ok14
  · exact (congrArg (fun x => cFn Tryd.prog cfg 15 = x) h).mp ok15
  · exact (congrArg (fun x => cFn Tryd.prog cfg 16 = x) h).mp ok16
  · exact (congrArg (fun x => cFn Tryd.prog cfg 17 = x) h).mp ok17
  · exact (congrArg (fun x => cFn Tryd.prog cfg 18 = x) h).mp ok18
  · exact (congrArg (fun x => cFn Tryd.prog cfg 20 = x) h).mp ok20
  · exact (congrArg (fun x => cFn Tryd.prog cfg 22 = x) h).mp ok22
  · exact (congrArg (fun x => cFn Tryd.prog cfg 23 = x) h).mp ok23
  · exact (congrArg (fun x => cFn Tryd.prog cfg 24 = x) h).mp ok24
  · exact (congrArg (fun x => cFn Tryd.prog cfg 25 = x) h).mp ok25
  · exact (congrArg (fun x => cFn Tryd.prog cfg 26 = x) h).mp ok26
  · exact (congrArg (fun x => cFn Tryd.prog cfg 27 = x) h).mp ok27
  · exact (congrArg (fun x => cFn Tryd.prog cfg 28 = x) h).mp ok28
  · exact (congrArg (fun x => cFn Tryd.prog cfg 29 = x) h).mp ok29
  · exact (congrArg (fun x => cFn Tryd.prog cfg 30 = x) h).mp ok30
  · exact (congrArg (fun x => cFn Tryd.prog cfg 31 = x) h).mp ok31
  · exact (congrArg (fun x => cFn Tryd.prog cfg 34 = x) h).mp ok34
  · exact (congrArg (fun x => cFn Tryd.prog cfg 35 = x) h).mp ok35
  · exact (congrArg (fun x => cFn Tryd.prog cfg 36 = x) h).mp ok36
  · exact (congrArg (fun x => cFn Tryd.prog cfg 37 = x) h).mp ok37
  · exact (congrArg (fun x => cFn Tryd.prog cfg 38 = x) h).mp ok38
  · exact (congrArg (fun x => cFn Tryd.prog cfg 39 = x) h).mp ok39
  · exact (congrArg (fun x => cFn Tryd.prog cfg 40 = x) h).mp ok40
  · exact (congrArg (fun x => cFn Tryd.prog cfg 41 = x) h).mp ok41
  · exact (congrArg (fun x => cFn Tryd.prog cfg 42 = x) h).mp ok42
  · exact (congrArg (fun x => cFn Tryd.prog cfg 43 = x) h).mp ok43
  · exact (congrArg (fun x => cFn Tryd.prog cfg 44 = x) h).mp ok44
  · exact (congrArg (fun x => cFn Tryd.prog cfg 45 = x) h).mp ok45
  · exact (congrArg (fun x => cFn Tryd.prog cfg 46 = x) h).mp ok46
  · cases h
theorem tbl_ok1 (f : Nat) (fn : IFn) (h : tblF1 f = some fn) : cFn Tryd.prog cfg f = some fn := by
  unfold tblF1 at h
  split at h
  · exact (congrArg (fun x => cFn Tryd.prog cfg 47 = x) h).mp ok47
  · exact (congrArg (fun x => cFn Tryd.prog cfg 48 = x) h).mp ok48
  · exact (congrArg (fun x => cFn Tryd.prog cfg 49 = x) h).mp ok49
  · exact (congrArg (fun x => cFn Tryd.prog cfg 50 = x) h).mp ok50
  · exact (congrArg (fun x => cFn Tryd.prog cfg 56 = x) h).mp ok56
  · exact (congrArg (fun x => cFn Tryd.prog cfg 57 = x) h).mp ok57
  · exact (congrArg (fun x => cFn Tryd.prog cfg 58 = x) h).mp ok58
  · exact (congrArg (fun x => cFn Tryd.prog cfg 59 = x) h).mp ok59
  · exact (congrArg (fun x => cFn Tryd.prog cfg 60 = x) h).mp ok60
  · exact (congrArg (fun x => cFn Tryd.prog cfg 61 = x) h).mp ok61
  · exact (congrArg (fun x => cFn Tryd.prog cfg 62 = x) h).mp ok62
  · exact (congrArg (fun x => cFn Tryd.prog cfg 63 = x) h).mp ok63
  · exact (congrArg (fun x => cFn Tryd.prog cfg 68 = x) h).mp ok68
  · exact (congrArg (fun x => cFn Tryd.prog cfg 69 = x) h).mp ok69
  · cases h
theorem tbl_ok (f : Nat) (fn : IFn) (h : tblF f = some fn) : cFn Tryd.prog cfg f = some fn := by
  unfold tblF at h
  split at h
  · exact tbl_ok0 f fn h
  exact tbl_ok1 f fn h
end Go.Proofs.YteinopeeicjnjaaDoor
