/- The interpreter's form of this seat's functions (printed by a program out of the translation), and that the translation gives just this. No condition. -/
import Derived.Test.YtgppkhbidcgnlaaDoorPi24
import Derived.Test.YtgppkhbidcgnlaaDoorProg
import Derived.KernelRfl
namespace Go.Proofs.YtgppkhbidcgnlaaDoor
open Go.PI
variable (tbl : TB) (fin : Fin) (K : List Fr) (e : Env) (H : List AO)
def gl0 : AV := (.agg [(.str []), (.str [72, 85, 80]), (.str [73, 78, 84]), (.str [81, 85, 73, 84]), (.str [84, 84, 73, 78]), (.str [84, 84, 79, 85]), (.str []), (.str []), (.str []), (.str [75, 73, 76, 76]), (.str [85, 83, 82, 49]), (.str []), (.str [85, 83, 82, 50]), (.str [80, 73, 80, 69]), (.str [65, 76, 82, 77]), (.str [84, 69, 82, 77]), (.str []), (.str [67, 72, 76, 68]), (.str [67, 79, 78, 84]), (.str [83, 84, 79, 80]), (.str [84, 83, 84, 80])])
def gl : Nat → Option AV
  | 0 => some gl0
  | _ => none
def cfg : Cfg := ⟨gl, fun f => [48, 52, 55, 63, 68, 93, 103].contains f⟩
/- 3: jobshell/jobshelllaw27.ProcValid -/
@[simp] def f3o0 : List IOper := [
  ⟨(some 6), .mv (.c (.bool false)), none, none⟩]
def f3r0 : IC := .reg false [] f3o0 [2, 0, 1]
@[simp] theorem f3r0_run : run tbl fin K f3r0 e H = regK tbl fin K [] f3o0 [2, 0, 1] e H := run_regK _ _ _ _ _ _ _ _ _ rfl
@[simp] def f3o1 : List IOper := [
  ⟨(some 11), .mv (.t 0), none, none⟩,
  ⟨(some 12), .call (.c (.fn 10 [])) [(.t 11)], none, none⟩,
  ⟨(some 13), .un .not (.t 12), none, none⟩,
  ⟨(some 14), .mv (.t 13), none, none⟩,
  ⟨(some 15), .mv (.t 2), (some (14, false)), none⟩,
  ⟨(some 16), .slen (.t 15), (some (14, false)), none⟩,
  ⟨(some 17), .bin .gtr (.t 16) (.c (.int .i64 300)), (some (14, false)), none⟩,
  ⟨(some 18), .pick (.t 14) (.c (.bool true)) (.t 17), none, none⟩]
def f3r1 : IC := .reg false [] f3o1 [18, 2, 0, 1]
@[simp] theorem f3r1_run : run tbl fin K f3r1 e H = regK tbl fin K [] f3o1 [18, 2, 0, 1] e H := run_regK _ _ _ _ _ _ _ _ _ rfl
@[simp] def f3o2 : List IOper := [
  ⟨(some 19), .call (.c (.fn 11 [])) [], none, none⟩,
  ⟨(some 6), .mv (.t 19), none, none⟩]
def f3r2 : IC := .reg false [] f3o2 [6]
@[simp] theorem f3r2_run : run tbl fin K f3r2 e H = regK tbl fin K [] f3o2 [6] e H := run_regK _ _ _ _ _ _ _ _ _ rfl
@[simp] def f3o3 : List IOper := [
  ⟨(some 21), .mv (.t 0), none, none⟩,
  ⟨(some 22), .mv (.t 1), none, none⟩,
  ⟨(some 23), .call (.c (.fn 12 [])) [(.t 21), (.t 22)], none, none⟩,
  ⟨(some 20), .mv (.t 23), none, none⟩,
  ⟨(some 24), .ext (.t 20) 0, none, none⟩,
  ⟨(some 25), .ext (.t 20) 1, none, none⟩,
  ⟨(some 7), .new 30 13 (.agg [(.int .i64 0), (.int .i64 0), (.int .i64 0), (.int .i64 0), (.int .i64 0), (.int .i64 0), (.bool false), (.int .i64 0), .e0, .e0, .e0, .e0, (.str [])]), none, none⟩,
  ⟨none, .store 13 (.t 7) (.t 24), none, none⟩,
  ⟨(some 8), .mv (.t 25), none, none⟩]
def f3r3 : IC := .reg false [] f3o3 [1, 0, 7, 8, 2]
@[simp] theorem f3r3_run : run tbl fin K f3r3 e H = regK tbl fin K [] f3o3 [1, 0, 7, 8, 2] e H := run_regK _ _ _ _ _ _ _ _ _ rfl
@[simp] def f3o4 : List IOper := [
  ⟨(some 27), .mv (.t 0), none, none⟩,
  ⟨(some 28), .mv (.t 1), none, none⟩,
  ⟨(some 29), .call (.c (.fn 13 [])) [(.t 27), (.t 28)], none, none⟩,
  ⟨(some 26), .mv (.t 29), none, none⟩,
  ⟨(some 30), .ext (.t 26) 0, none, none⟩,
  ⟨(some 31), .ext (.t 26) 1, none, none⟩,
  ⟨(some 9), .new 30 13 (.agg [(.int .i64 0), (.int .i64 0), (.int .i64 0), (.int .i64 0), (.int .i64 0), (.int .i64 0), (.bool false), (.int .i64 0), .e0, .e0, .e0, .e0, (.str [])]), none, none⟩,
  ⟨none, .store 13 (.t 9) (.t 30), none, none⟩,
  ⟨(some 10), .mv (.t 31), none, none⟩]
def f3r4 : IC := .reg false [] f3o4 [0, 7, 9, 8, 10, 2]
@[simp] theorem f3r4_run : run tbl fin K f3r4 e H = regK tbl fin K [] f3o4 [0, 7, 9, 8, 10, 2] e H := run_regK _ _ _ _ _ _ _ _ _ rfl
@[simp] def f3o5 : List IOper := [
  ⟨(some 32), .mv (.t 0), none, none⟩,
  ⟨(some 33), .call (.c (.fn 14 [])) [(.t 32)], none, none⟩,
  ⟨(some 34), .mv (.t 0), none, none⟩,
  ⟨(some 35), .call (.c (.fn 15 [])) [(.t 34)], none, none⟩,
  ⟨(some 36), .bin .eql (.t 33) (.t 35), none, none⟩,
  ⟨(some 37), .mv (.t 36), none, none⟩,
  ⟨(some 38), .load true 13 (.t 7), (some (37, true)), none⟩,
  ⟨(some 39), .load true 13 (.t 9), (some (37, true)), some [39, 38, 37, 8, 10, 2]⟩,
  ⟨(some 40), .call (.c (.fn 16 [])) [(.t 38), (.t 39)], (some (37, true)), none⟩,
  ⟨(some 41), .pick (.t 37) (.t 40) (.c (.bool false)), none, none⟩,
  ⟨(some 42), .mv (.t 41), none, none⟩,
  ⟨(some 43), .mv (.t 8), (some (42, true)), none⟩,
  ⟨(some 44), .mv (.t 10), (some (42, true)), none⟩,
  ⟨(some 45), .beq false (.t 43) (.t 44), (some (42, true)), none⟩,
  ⟨(some 46), .pick (.t 42) (.t 45) (.c (.bool false)), none, none⟩,
  ⟨(some 47), .mv (.t 46), none, some [2, 47]⟩,
  ⟨(some 48), .mv (.t 2), (some (47, true)), none⟩,
  ⟨(some 49), .call (.c (.fn 18 [])) [(.t 48)], (some (47, true)), none⟩,
  ⟨(some 50), .mv (.t 2), (some (47, true)), none⟩,
  ⟨(some 51), .call (.c (.fn 19 [])) [(.t 50)], (some (47, true)), none⟩,
  ⟨(some 52), .call (.c (.fn 17 [])) [(.t 49), (.t 51)], (some (47, true)), none⟩,
  ⟨(some 53), .pick (.t 47) (.t 52) (.c (.bool false)), none, none⟩,
  ⟨(some 54), .mv (.t 53), none, none⟩,
  ⟨(some 55), .call (.c (.fn 11 [])) [], (some (54, true)), some [55, 54]⟩,
  ⟨(some 56), .pick (.t 54) (.t 55) (.c (.bool false)), none, none⟩,
  ⟨(some 6), .mv (.t 56), none, none⟩]
def f3r5 : IC := .reg false [] f3o5 [6]
@[simp] theorem f3r5_run : run tbl fin K f3r5 e H = regK tbl fin K [] f3o5 [6] e H := run_regK _ _ _ _ _ _ _ _ _ rfl
def f3body : IC := (.seq f3r0 (.seq (.seq f3r1 (.cond (.t 18) (.seq f3r2 .ret) .skip)) (.seq f3r3 (.seq f3r4 (.seq f3r5 .ret)))))
def f3 : IFn := ⟨57, 3, [.tmp 6], f3body⟩
/- 4: jobshell/jobshelllaw27.ProcWaits -/
@[simp] def f4o0 : List IOper := [
  ⟨(some 8), .mv (.c (.bool false)), none, none⟩]
def f4r0 : IC := .reg false [] f4o0 [3, 2, 1, 0]
@[simp] theorem f4r0_run : run tbl fin K f4r0 e H = regK tbl fin K [] f4o0 [3, 2, 1, 0] e H := run_regK _ _ _ _ _ _ _ _ _ rfl
@[simp] def f4o1 : List IOper := [
  ⟨(some 19), .mv (.t 0), none, none⟩,
  ⟨(some 20), .call (.c (.fn 20 [])) [(.t 19)], none, none⟩,
  ⟨(some 21), .un .not (.t 20), none, none⟩]
def f4r1 : IC := .reg false [] f4o1 [21, 3, 2, 1, 0]
@[simp] theorem f4r1_run : run tbl fin K f4r1 e H = regK tbl fin K [] f4o1 [21, 3, 2, 1, 0] e H := run_regK _ _ _ _ _ _ _ _ _ rfl
@[simp] def f4o2 : List IOper := [
  ⟨(some 22), .call (.c (.fn 11 [])) [], none, none⟩,
  ⟨(some 8), .mv (.t 22), none, none⟩]
def f4r2 : IC := .reg false [] f4o2 [8]
@[simp] theorem f4r2_run : run tbl fin K f4r2 e H = regK tbl fin K [] f4o2 [8] e H := run_regK _ _ _ _ _ _ _ _ _ rfl
@[simp] def f4o3 : List IOper := [
  ⟨(some 24), .mv (.t 0), none, none⟩,
  ⟨(some 25), .mv (.t 1), none, none⟩,
  ⟨(some 26), .mv (.t 2), none, none⟩,
  ⟨(some 27), .mv (.t 3), none, none⟩,
  ⟨(some 28), .call (.c (.fn 21 [])) [(.t 24), (.t 25), (.t 26), (.t 27)], none, none⟩,
  ⟨(some 23), .mv (.t 28), none, none⟩,
  ⟨(some 29), .ext (.t 23) 0, none, none⟩,
  ⟨(some 30), .ext (.t 23) 1, none, some [23, 29, 30, 0, 1, 2, 3]⟩,
  ⟨(some 31), .ext (.t 23) 2, none, none⟩,
  ⟨(some 32), .ext (.t 23) 3, none, none⟩,
  ⟨(some 33), .ext (.t 23) 4, none, none⟩,
  ⟨(some 9), .mv (.t 29), none, none⟩,
  ⟨(some 10), .mv (.t 30), none, none⟩,
  ⟨(some 11), .mv (.t 31), none, none⟩,
  ⟨(some 12), .mv (.t 32), none, none⟩,
  ⟨(some 13), .mv (.t 33), none, none⟩]
def f4r3 : IC := .reg false [] f4o3 [0, 1, 2, 3, 9, 10, 11, 12, 13]
@[simp] theorem f4r3_run : run tbl fin K f4r3 e H = regK tbl fin K [] f4o3 [0, 1, 2, 3, 9, 10, 11, 12, 13] e H := run_regK _ _ _ _ _ _ _ _ _ rfl
@[simp] def f4o4 : List IOper := [
  ⟨(some 35), .mv (.t 0), none, none⟩,
  ⟨(some 36), .mv (.t 1), none, none⟩,
  ⟨(some 37), .mv (.t 2), none, none⟩,
  ⟨(some 38), .mv (.t 3), none, none⟩,
  ⟨(some 39), .call (.c (.fn 22 [])) [(.t 35), (.t 36), (.t 37), (.t 38)], none, none⟩,
  ⟨(some 34), .mv (.t 39), none, none⟩,
  ⟨(some 40), .ext (.t 34) 0, none, none⟩,
  ⟨(some 41), .ext (.t 34) 1, none, some [34, 40, 41, 9, 10, 11, 12, 13]⟩,
  ⟨(some 42), .ext (.t 34) 2, none, none⟩,
  ⟨(some 43), .ext (.t 34) 3, none, none⟩,
  ⟨(some 44), .ext (.t 34) 4, none, none⟩,
  ⟨(some 14), .mv (.t 40), none, none⟩,
  ⟨(some 15), .mv (.t 41), none, none⟩,
  ⟨(some 16), .mv (.t 42), none, none⟩,
  ⟨(some 17), .mv (.t 43), none, none⟩,
  ⟨(some 18), .mv (.t 44), none, none⟩]
def f4r4 : IC := .reg false [] f4o4 [9, 14, 10, 15, 11, 16, 12, 17, 13, 18]
@[simp] theorem f4r4_run : run tbl fin K f4r4 e H = regK tbl fin K [] f4o4 [9, 14, 10, 15, 11, 16, 12, 17, 13, 18] e H := run_regK _ _ _ _ _ _ _ _ _ rfl
@[simp] def f4o5 : List IOper := [
  ⟨(some 45), .mv (.t 9), none, none⟩,
  ⟨(some 46), .mv (.t 14), none, none⟩,
  ⟨(some 47), .call (.c (.fn 17 [])) [(.t 45), (.t 46)], none, none⟩,
  ⟨(some 48), .mv (.t 47), none, none⟩,
  ⟨(some 49), .mv (.t 10), (some (48, true)), none⟩,
  ⟨(some 50), .mv (.t 15), (some (48, true)), none⟩,
  ⟨(some 51), .bin .eql (.t 49) (.t 50), (some (48, true)), none⟩,
  ⟨(some 52), .pick (.t 48) (.t 51) (.c (.bool false)), none, some [52, 11, 16, 12, 17, 13, 18]⟩,
  ⟨(some 53), .mv (.t 52), none, none⟩,
  ⟨(some 54), .mv (.t 11), (some (53, true)), none⟩,
  ⟨(some 55), .mv (.t 16), (some (53, true)), none⟩,
  ⟨(some 56), .bin .eql (.t 54) (.t 55), (some (53, true)), none⟩,
  ⟨(some 57), .pick (.t 53) (.t 56) (.c (.bool false)), none, none⟩,
  ⟨(some 58), .mv (.t 57), none, none⟩,
  ⟨(some 59), .mv (.t 12), (some (58, true)), none⟩,
  ⟨(some 60), .mv (.t 17), (some (58, true)), some [60, 59, 58, 13, 18]⟩,
  ⟨(some 61), .bin .eql (.t 59) (.t 60), (some (58, true)), none⟩,
  ⟨(some 62), .pick (.t 58) (.t 61) (.c (.bool false)), none, none⟩,
  ⟨(some 63), .mv (.t 62), none, none⟩,
  ⟨(some 64), .mv (.t 13), (some (63, true)), none⟩,
  ⟨(some 65), .mv (.t 18), (some (63, true)), none⟩,
  ⟨(some 66), .bin .eql (.t 64) (.t 65), (some (63, true)), none⟩,
  ⟨(some 67), .pick (.t 63) (.t 66) (.c (.bool false)), none, none⟩,
  ⟨(some 68), .mv (.t 67), none, some [68]⟩,
  ⟨(some 69), .call (.c (.fn 11 [])) [], (some (68, true)), none⟩,
  ⟨(some 70), .pick (.t 68) (.t 69) (.c (.bool false)), none, none⟩,
  ⟨(some 8), .mv (.t 70), none, none⟩]
def f4r5 : IC := .reg false [] f4o5 [8]
@[simp] theorem f4r5_run : run tbl fin K f4r5 e H = regK tbl fin K [] f4o5 [8] e H := run_regK _ _ _ _ _ _ _ _ _ rfl
def f4body : IC := (.seq f4r0 (.seq (.seq f4r1 (.cond (.t 21) (.seq f4r2 .ret) .skip)) (.seq f4r3 (.seq f4r4 (.seq f4r5 .ret)))))
def f4 : IFn := ⟨71, 4, [.tmp 8], f4body⟩
/- 5: jobshell/jobshelllaw27.ProcGroups -/
@[simp] def f5o0 : List IOper := [
  ⟨(some 8), .mv (.c (.bool false)), none, none⟩]
def f5r0 : IC := .reg false [] f5o0 [1, 0, 3, 2]
@[simp] theorem f5r0_run : run tbl fin K f5r0 e H = regK tbl fin K [] f5o0 [1, 0, 3, 2] e H := run_regK _ _ _ _ _ _ _ _ _ rfl
@[simp] def f5o1 : List IOper := [
  ⟨(some 17), .mv (.t 0), none, none⟩,
  ⟨(some 18), .call (.c (.fn 20 [])) [(.t 17)], none, none⟩,
  ⟨(some 19), .un .not (.t 18), none, none⟩]
def f5r1 : IC := .reg false [] f5o1 [19, 1, 0, 3, 2]
@[simp] theorem f5r1_run : run tbl fin K f5r1 e H = regK tbl fin K [] f5o1 [19, 1, 0, 3, 2] e H := run_regK _ _ _ _ _ _ _ _ _ rfl
@[simp] def f5o2 : List IOper := [
  ⟨(some 20), .call (.c (.fn 11 [])) [], none, none⟩,
  ⟨(some 8), .mv (.t 20), none, none⟩]
def f5r2 : IC := .reg false [] f5o2 [8]
@[simp] theorem f5r2_run : run tbl fin K f5r2 e H = regK tbl fin K [] f5o2 [8] e H := run_regK _ _ _ _ _ _ _ _ _ rfl
@[simp] def f5o3 : List IOper := [
  ⟨(some 22), .mv (.t 0), none, none⟩,
  ⟨(some 23), .mv (.t 1), none, none⟩,
  ⟨(some 24), .mv (.t 2), none, none⟩,
  ⟨(some 25), .mv (.t 3), none, none⟩,
  ⟨(some 26), .call (.c (.fn 23 [])) [(.t 22), (.t 23), (.t 24), (.t 25)], none, none⟩,
  ⟨(some 21), .mv (.t 26), none, none⟩,
  ⟨(some 27), .ext (.t 21) 0, none, none⟩,
  ⟨(some 28), .ext (.t 21) 1, none, none⟩,
  ⟨(some 9), .mv (.t 27), none, none⟩,
  ⟨(some 10), .mv (.t 28), none, none⟩]
def f5r3 : IC := .reg false [] f5o3 [2, 3, 0, 1, 9, 10]
@[simp] theorem f5r3_run : run tbl fin K f5r3 e H = regK tbl fin K [] f5o3 [2, 3, 0, 1, 9, 10] e H := run_regK _ _ _ _ _ _ _ _ _ rfl
@[simp] def f5o4 : List IOper := [
  ⟨(some 30), .mv (.t 0), none, none⟩,
  ⟨(some 31), .mv (.t 1), none, none⟩,
  ⟨(some 32), .mv (.t 2), none, none⟩,
  ⟨(some 33), .mv (.t 3), none, none⟩,
  ⟨(some 34), .call (.c (.fn 24 [])) [(.t 30), (.t 31), (.t 32), (.t 33)], none, none⟩,
  ⟨(some 29), .mv (.t 34), none, none⟩,
  ⟨(some 35), .ext (.t 29) 0, none, none⟩,
  ⟨(some 36), .ext (.t 29) 1, none, none⟩,
  ⟨(some 11), .mv (.t 35), none, none⟩,
  ⟨(some 12), .mv (.t 36), none, none⟩]
def f5r4 : IC := .reg false [] f5o4 [0, 1, 9, 11, 10, 12]
@[simp] theorem f5r4_run : run tbl fin K f5r4 e H = regK tbl fin K [] f5o4 [0, 1, 9, 11, 10, 12] e H := run_regK _ _ _ _ _ _ _ _ _ rfl
@[simp] def f5o5 : List IOper := [
  ⟨(some 38), .mv (.t 0), none, none⟩,
  ⟨(some 39), .mv (.t 1), none, none⟩,
  ⟨(some 40), .call (.c (.fn 25 [])) [(.t 38), (.t 39)], none, none⟩,
  ⟨(some 37), .mv (.t 40), none, none⟩,
  ⟨(some 41), .ext (.t 37) 0, none, none⟩,
  ⟨(some 42), .ext (.t 37) 1, none, none⟩,
  ⟨(some 13), .mv (.t 41), none, none⟩,
  ⟨(some 14), .mv (.t 42), none, none⟩]
def f5r5 : IC := .reg false [] f5o5 [0, 1, 9, 11, 10, 12, 13, 14]
@[simp] theorem f5r5_run : run tbl fin K f5r5 e H = regK tbl fin K [] f5o5 [0, 1, 9, 11, 10, 12, 13, 14] e H := run_regK _ _ _ _ _ _ _ _ _ rfl
@[simp] def f5o6 : List IOper := [
  ⟨(some 44), .mv (.t 0), none, none⟩,
  ⟨(some 45), .mv (.t 1), none, none⟩,
  ⟨(some 46), .call (.c (.fn 26 [])) [(.t 44), (.t 45)], none, none⟩,
  ⟨(some 43), .mv (.t 46), none, none⟩,
  ⟨(some 47), .ext (.t 43) 0, none, none⟩,
  ⟨(some 48), .ext (.t 43) 1, none, none⟩,
  ⟨(some 15), .mv (.t 47), none, none⟩,
  ⟨(some 16), .mv (.t 48), none, none⟩]
def f5r6 : IC := .reg false [] f5o6 [9, 11, 10, 12, 13, 15, 14, 16]
@[simp] theorem f5r6_run : run tbl fin K f5r6 e H = regK tbl fin K [] f5o6 [9, 11, 10, 12, 13, 15, 14, 16] e H := run_regK _ _ _ _ _ _ _ _ _ rfl
@[simp] def f5o7 : List IOper := [
  ⟨(some 49), .mv (.t 9), none, none⟩,
  ⟨(some 50), .mv (.t 11), none, none⟩,
  ⟨(some 51), .call (.c (.fn 17 [])) [(.t 49), (.t 50)], none, none⟩,
  ⟨(some 52), .mv (.t 51), none, none⟩,
  ⟨(some 53), .mv (.t 10), (some (52, true)), none⟩,
  ⟨(some 54), .mv (.t 12), (some (52, true)), none⟩,
  ⟨(some 55), .bin .eql (.t 53) (.t 54), (some (52, true)), none⟩,
  ⟨(some 56), .pick (.t 52) (.t 55) (.c (.bool false)), none, some [56, 13, 15, 14, 16]⟩,
  ⟨(some 57), .mv (.t 56), none, none⟩,
  ⟨(some 58), .mv (.t 13), (some (57, true)), none⟩,
  ⟨(some 59), .mv (.t 15), (some (57, true)), none⟩,
  ⟨(some 60), .call (.c (.fn 17 [])) [(.t 58), (.t 59)], (some (57, true)), none⟩,
  ⟨(some 61), .pick (.t 57) (.t 60) (.c (.bool false)), none, none⟩,
  ⟨(some 62), .mv (.t 61), none, none⟩,
  ⟨(some 63), .mv (.t 14), (some (62, true)), none⟩,
  ⟨(some 64), .mv (.t 16), (some (62, true)), some [64, 63, 62]⟩,
  ⟨(some 65), .bin .eql (.t 63) (.t 64), (some (62, true)), none⟩,
  ⟨(some 66), .pick (.t 62) (.t 65) (.c (.bool false)), none, none⟩,
  ⟨(some 67), .mv (.t 66), none, none⟩,
  ⟨(some 68), .call (.c (.fn 11 [])) [], (some (67, true)), none⟩,
  ⟨(some 69), .pick (.t 67) (.t 68) (.c (.bool false)), none, none⟩,
  ⟨(some 8), .mv (.t 69), none, none⟩]
def f5r7 : IC := .reg false [] f5o7 [8]
@[simp] theorem f5r7_run : run tbl fin K f5r7 e H = regK tbl fin K [] f5o7 [8] e H := run_regK _ _ _ _ _ _ _ _ _ rfl
def f5body : IC := (.seq f5r0 (.seq (.seq f5r1 (.cond (.t 19) (.seq f5r2 .ret) .skip)) (.seq f5r3 (.seq f5r4 (.seq f5r5 (.seq f5r6 (.seq f5r7 .ret)))))))
def f5 : IFn := ⟨70, 4, [.tmp 8], f5body⟩
/- 6: jobshell/jobshelllaw27.ProcOnce -/
@[simp] def f6o0 : List IOper := [
  ⟨(some 8), .mv (.c (.bool false)), none, none⟩]
def f6r0 : IC := .reg false [] f6o0 [0, 3, 2, 1]
@[simp] theorem f6r0_run : run tbl fin K f6r0 e H = regK tbl fin K [] f6o0 [0, 3, 2, 1] e H := run_regK _ _ _ _ _ _ _ _ _ rfl
@[simp] def f6o1 : List IOper := [
  ⟨(some 30), .mv (.t 0), none, none⟩,
  ⟨(some 31), .call (.c (.fn 20 [])) [(.t 30)], none, none⟩,
  ⟨(some 32), .un .not (.t 31), none, none⟩,
  ⟨(some 33), .mv (.t 32), none, none⟩,
  ⟨(some 34), .mv (.t 3), (some (33, false)), none⟩,
  ⟨(some 35), .bin .lss (.t 34) (.c (.int .i64 0)), (some (33, false)), none⟩,
  ⟨(some 36), .pick (.t 33) (.c (.bool true)) (.t 35), none, none⟩,
  ⟨(some 37), .mv (.t 36), none, none⟩,
  ⟨(some 38), .mv (.t 3), (some (37, false)), none⟩,
  ⟨(some 39), .bin .gtr (.t 38) (.c (.int .i64 255)), (some (37, false)), none⟩,
  ⟨(some 40), .pick (.t 37) (.c (.bool true)) (.t 39), none, none⟩]
def f6r1 : IC := .reg false [] f6o1 [40, 0, 3, 2, 1]
@[simp] theorem f6r1_run : run tbl fin K f6r1 e H = regK tbl fin K [] f6o1 [40, 0, 3, 2, 1] e H := run_regK _ _ _ _ _ _ _ _ _ rfl
@[simp] def f6o2 : List IOper := [
  ⟨(some 41), .call (.c (.fn 11 [])) [], none, none⟩,
  ⟨(some 8), .mv (.t 41), none, none⟩]
def f6r2 : IC := .reg false [] f6o2 [8]
@[simp] theorem f6r2_run : run tbl fin K f6r2 e H = regK tbl fin K [] f6o2 [8] e H := run_regK _ _ _ _ _ _ _ _ _ rfl
@[simp] def f6o3 : List IOper := [
  ⟨(some 43), .mv (.t 0), none, none⟩,
  ⟨(some 44), .mv (.t 1), none, none⟩,
  ⟨(some 45), .mv (.t 2), none, none⟩,
  ⟨(some 46), .call (.c (.fn 27 [])) [(.t 43), (.t 44), (.t 45)], none, none⟩,
  ⟨(some 42), .mv (.t 46), none, none⟩,
  ⟨(some 47), .ext (.t 42) 0, none, none⟩,
  ⟨(some 48), .ext (.t 42) 1, none, none⟩,
  ⟨(some 9), .mv (.t 47), none, none⟩,
  ⟨(some 10), .mv (.t 48), none, none⟩]
def f6r3 : IC := .reg false [] f6o3 [10, 1, 2, 3, 9, 0]
@[simp] theorem f6r3_run : run tbl fin K f6r3 e H = regK tbl fin K [] f6o3 [10, 1, 2, 3, 9, 0] e H := run_regK _ _ _ _ _ _ _ _ _ rfl
@[simp] def f6o4 : List IOper := [
  ⟨(some 49), .mv (.t 10), none, none⟩,
  ⟨(some 50), .bin .neq (.t 49) (.c (.int .i64 0)), none, none⟩]
def f6r4 : IC := .reg false [] f6o4 [50, 1, 2, 3, 9, 0]
@[simp] theorem f6r4_run : run tbl fin K f6r4 e H = regK tbl fin K [] f6o4 [50, 1, 2, 3, 9, 0] e H := run_regK _ _ _ _ _ _ _ _ _ rfl
@[simp] def f6o5 : List IOper := [
  ⟨(some 51), .mv (.t 9), none, none⟩,
  ⟨(some 52), .mv (.t 0), none, none⟩,
  ⟨(some 53), .call (.c (.fn 17 [])) [(.t 51), (.t 52)], none, none⟩,
  ⟨(some 54), .mv (.t 53), none, none⟩,
  ⟨(some 55), .call (.c (.fn 11 [])) [], (some (54, true)), none⟩,
  ⟨(some 56), .pick (.t 54) (.t 55) (.c (.bool false)), none, none⟩,
  ⟨(some 8), .mv (.t 56), none, none⟩]
def f6r5 : IC := .reg false [] f6o5 [8]
@[simp] theorem f6r5_run : run tbl fin K f6r5 e H = regK tbl fin K [] f6o5 [8] e H := run_regK _ _ _ _ _ _ _ _ _ rfl
@[simp] def f6o6 : List IOper := [
  ⟨(some 58), .mv (.t 9), none, none⟩,
  ⟨(some 59), .mv (.t 1), none, none⟩,
  ⟨(some 60), .mv (.t 2), none, none⟩,
  ⟨(some 61), .call (.c (.fn 21 [])) [(.t 58), (.t 59), (.t 60), (.c (.int .i64 6))], none, none⟩,
  ⟨(some 57), .mv (.t 61), none, none⟩,
  ⟨(some 62), .ext (.t 57) 0, none, none⟩,
  ⟨(some 63), .ext (.t 57) 1, none, none⟩,
  ⟨(some 64), .ext (.t 57) 2, none, some [57, 62, 63, 64, 0, 3, 2, 1, 9]⟩,
  ⟨(some 65), .ext (.t 57) 3, none, none⟩,
  ⟨(some 66), .ext (.t 57) 4, none, none⟩,
  ⟨(some 11), .mv (.t 62), none, none⟩,
  ⟨(some 12), .mv (.t 63), none, none⟩,
  ⟨(some 13), .mv (.t 64), none, none⟩,
  ⟨(some 14), .mv (.t 65), none, none⟩,
  ⟨(some 15), .mv (.t 66), none, none⟩]
def f6r6 : IC := .reg false [] f6o6 [15, 12, 14, 11, 0, 3, 2, 1, 9]
@[simp] theorem f6r6_run : run tbl fin K f6r6 e H = regK tbl fin K [] f6o6 [15, 12, 14, 11, 0, 3, 2, 1, 9] e H := run_regK _ _ _ _ _ _ _ _ _ rfl
@[simp] def f6o7 : List IOper := [
  ⟨(some 67), .mv (.t 15), none, none⟩,
  ⟨(some 68), .bin .neq (.t 67) (.c (.int .i64 0)), none, none⟩,
  ⟨(some 69), .mv (.t 68), none, none⟩,
  ⟨(some 70), .mv (.t 12), (some (69, false)), none⟩,
  ⟨(some 71), .bin .neq (.t 70) (.c (.int .i64 0)), (some (69, false)), none⟩,
  ⟨(some 72), .pick (.t 69) (.c (.bool true)) (.t 71), none, none⟩,
  ⟨(some 73), .mv (.t 72), none, none⟩,
  ⟨(some 74), .mv (.t 14), (some (73, false)), some [74, 73, 11, 0, 3, 2, 1, 9]⟩,
  ⟨(some 75), .bin .neq (.t 74) (.c (.int .i64 2)), (some (73, false)), none⟩,
  ⟨(some 76), .pick (.t 73) (.c (.bool true)) (.t 75), none, none⟩,
  ⟨(some 77), .mv (.t 76), none, none⟩,
  ⟨(some 78), .mv (.t 9), (some (77, false)), none⟩,
  ⟨(some 79), .mv (.t 11), (some (77, false)), none⟩,
  ⟨(some 80), .call (.c (.fn 17 [])) [(.t 78), (.t 79)], (some (77, false)), none⟩,
  ⟨(some 81), .un .not (.t 80), (some (77, false)), none⟩,
  ⟨(some 82), .pick (.t 77) (.c (.bool true)) (.t 81), none, none⟩]
def f6r7 : IC := .reg false [] f6o7 [82, 0, 3, 2, 1, 9]
@[simp] theorem f6r7_run : run tbl fin K f6r7 e H = regK tbl fin K [] f6o7 [82, 0, 3, 2, 1, 9] e H := run_regK _ _ _ _ _ _ _ _ _ rfl
@[simp] def f6o8 : List IOper := [
  ⟨(some 8), .mv (.c (.bool false)), none, none⟩]
def f6r8 : IC := .reg false [] f6o8 [8]
@[simp] theorem f6r8_run : run tbl fin K f6r8 e H = regK tbl fin K [] f6o8 [8] e H := run_regK _ _ _ _ _ _ _ _ _ rfl
@[simp] def f6o9 : List IOper := [
  ⟨(some 84), .mv (.t 9), none, none⟩,
  ⟨(some 85), .mv (.t 2), none, none⟩,
  ⟨(some 86), .mv (.t 3), none, none⟩,
  ⟨(some 87), .call (.c (.fn 28 [])) [(.t 84), (.t 85), (.t 86)], none, none⟩,
  ⟨(some 83), .mv (.t 87), none, none⟩,
  ⟨(some 88), .ext (.t 83) 0, none, none⟩,
  ⟨(some 89), .ext (.t 83) 1, none, none⟩,
  ⟨(some 16), .mv (.t 88), none, none⟩,
  ⟨(some 17), .mv (.t 89), none, none⟩]
def f6r9 : IC := .reg false [] f6o9 [16, 1, 17, 2, 3, 0]
@[simp] theorem f6r9_run : run tbl fin K f6r9 e H = regK tbl fin K [] f6o9 [16, 1, 17, 2, 3, 0] e H := run_regK _ _ _ _ _ _ _ _ _ rfl
@[simp] def f6o10 : List IOper := [
  ⟨(some 91), .mv (.t 16), none, none⟩,
  ⟨(some 92), .mv (.t 1), none, none⟩,
  ⟨(some 93), .mv (.t 2), none, none⟩,
  ⟨(some 94), .call (.c (.fn 21 [])) [(.t 91), (.t 92), (.t 93), (.c (.int .i64 0))], none, none⟩,
  ⟨(some 90), .mv (.t 94), none, none⟩,
  ⟨(some 95), .ext (.t 90) 0, none, none⟩,
  ⟨(some 96), .ext (.t 90) 1, none, none⟩,
  ⟨(some 97), .ext (.t 90) 2, none, some [90, 95, 96, 97, 1, 17, 2, 3, 0]⟩,
  ⟨(some 98), .ext (.t 90) 3, none, none⟩,
  ⟨(some 99), .ext (.t 90) 4, none, none⟩,
  ⟨(some 18), .mv (.t 95), none, none⟩,
  ⟨(some 19), .mv (.t 96), none, none⟩,
  ⟨(some 20), .mv (.t 97), none, none⟩,
  ⟨(some 21), .mv (.t 98), none, none⟩,
  ⟨(some 22), .mv (.t 99), none, none⟩]
def f6r10 : IC := .reg false [] f6o10 [1, 17, 22, 19, 2, 20, 3, 21, 18, 0]
@[simp] theorem f6r10_run : run tbl fin K f6r10 e H = regK tbl fin K [] f6o10 [1, 17, 22, 19, 2, 20, 3, 21, 18, 0] e H := run_regK _ _ _ _ _ _ _ _ _ rfl
@[simp] def f6o11 : List IOper := [
  ⟨(some 101), .mv (.t 18), none, none⟩,
  ⟨(some 102), .mv (.t 2), none, none⟩,
  ⟨(some 103), .call (.c (.fn 12 [])) [(.t 101), (.t 102)], none, none⟩,
  ⟨(some 100), .mv (.t 103), none, none⟩,
  ⟨(some 104), .ext (.t 100) 0, none, none⟩,
  ⟨(some 105), .ext (.t 100) 1, none, none⟩,
  ⟨(some 23), .new 30 13 (.agg [(.int .i64 0), (.int .i64 0), (.int .i64 0), (.int .i64 0), (.int .i64 0), (.int .i64 0), (.bool false), (.int .i64 0), .e0, .e0, .e0, .e0, (.str [])]), none, none⟩,
  ⟨none, .store 13 (.t 23) (.t 104), none, none⟩,
  ⟨(some 24), .mv (.t 105), none, none⟩]
def f6r11 : IC := .reg false [] f6o11 [1, 17, 22, 19, 2, 20, 3, 21, 24, 18, 0]
@[simp] theorem f6r11_run : run tbl fin K f6r11 e H = regK tbl fin K [] f6o11 [1, 17, 22, 19, 2, 20, 3, 21, 24, 18, 0] e H := run_regK _ _ _ _ _ _ _ _ _ rfl
@[simp] def f6o12 : List IOper := [
  ⟨(some 107), .mv (.t 18), none, none⟩,
  ⟨(some 108), .mv (.t 1), none, none⟩,
  ⟨(some 109), .mv (.t 2), none, none⟩,
  ⟨(some 110), .call (.c (.fn 21 [])) [(.t 107), (.t 108), (.t 109), (.c (.int .i64 0))], none, none⟩,
  ⟨(some 106), .mv (.t 110), none, none⟩,
  ⟨(some 111), .ext (.t 106) 0, none, none⟩,
  ⟨(some 112), .ext (.t 106) 1, none, none⟩,
  ⟨(some 113), .ext (.t 106) 2, none, some [106, 111, 112, 113, 17, 22, 19, 2, 20, 3, 21, 24, 18, 0]⟩,
  ⟨(some 114), .ext (.t 106) 3, none, none⟩,
  ⟨(some 115), .ext (.t 106) 4, none, none⟩,
  ⟨(some 25), .mv (.t 111), none, none⟩,
  ⟨(some 26), .mv (.t 112), none, none⟩,
  ⟨(some 27), .mv (.t 113), none, none⟩,
  ⟨(some 28), .mv (.t 114), none, none⟩,
  ⟨(some 29), .mv (.t 115), none, none⟩]
def f6r12 : IC := .reg false [] f6o12 [17, 22, 19, 2, 20, 3, 21, 24, 18, 0, 29]
@[simp] theorem f6r12_run : run tbl fin K f6r12 e H = regK tbl fin K [] f6o12 [17, 22, 19, 2, 20, 3, 21, 24, 18, 0, 29] e H := run_regK _ _ _ _ _ _ _ _ _ rfl
@[simp] def f6o13 : List IOper := [
  ⟨(some 116), .mv (.t 17), none, none⟩,
  ⟨(some 117), .bin .eql (.t 116) (.c (.int .i64 0)), none, none⟩,
  ⟨(some 118), .mv (.t 117), none, none⟩,
  ⟨(some 119), .mv (.t 22), (some (118, true)), none⟩,
  ⟨(some 120), .bin .eql (.t 119) (.c (.int .i64 0)), (some (118, true)), none⟩,
  ⟨(some 121), .pick (.t 118) (.t 120) (.c (.bool false)), none, none⟩,
  ⟨(some 122), .mv (.t 121), none, none⟩,
  ⟨(some 123), .mv (.t 19), (some (122, true)), some [2, 123, 122, 20, 3, 21, 24, 18, 0, 29]⟩,
  ⟨(some 124), .mv (.t 2), (some (122, true)), none⟩,
  ⟨(some 125), .bin .eql (.t 123) (.t 124), (some (122, true)), none⟩,
  ⟨(some 126), .pick (.t 122) (.t 125) (.c (.bool false)), none, none⟩,
  ⟨(some 127), .mv (.t 126), none, none⟩,
  ⟨(some 128), .mv (.t 20), (some (127, true)), none⟩,
  ⟨(some 129), .mv (.t 3), (some (127, true)), none⟩,
  ⟨(some 130), .bin .eql (.t 128) (.t 129), (some (127, true)), none⟩,
  ⟨(some 131), .pick (.t 127) (.t 130) (.c (.bool false)), none, some [131, 21, 24, 18, 0, 29]⟩,
  ⟨(some 132), .mv (.t 131), none, none⟩,
  ⟨(some 133), .mv (.t 21), (some (132, true)), none⟩,
  ⟨(some 134), .bin .eql (.t 133) (.c (.int .i64 1)), (some (132, true)), none⟩,
  ⟨(some 135), .pick (.t 132) (.t 134) (.c (.bool false)), none, none⟩,
  ⟨(some 136), .mv (.t 135), none, none⟩,
  ⟨(some 137), .mv (.t 24), (some (136, true)), none⟩,
  ⟨(some 138), .un .not (.t 137), (some (136, true)), none⟩,
  ⟨(some 139), .pick (.t 136) (.t 138) (.c (.bool false)), none, some [139, 18, 0, 29]⟩,
  ⟨(some 140), .mv (.t 139), none, none⟩,
  ⟨(some 141), .mv (.t 18), (some (140, true)), none⟩,
  ⟨(some 142), .mv (.t 0), (some (140, true)), none⟩,
  ⟨(some 143), .call (.c (.fn 17 [])) [(.t 141), (.t 142)], (some (140, true)), none⟩,
  ⟨(some 144), .pick (.t 140) (.t 143) (.c (.bool false)), none, none⟩,
  ⟨(some 145), .mv (.t 144), none, none⟩,
  ⟨(some 146), .mv (.t 29), (some (145, true)), none⟩,
  ⟨(some 147), .bin .eql (.t 146) (.c (.int .i64 20)), (some (145, true)), some [147, 145]⟩,
  ⟨(some 148), .pick (.t 145) (.t 147) (.c (.bool false)), none, none⟩,
  ⟨(some 149), .mv (.t 148), none, none⟩,
  ⟨(some 150), .call (.c (.fn 11 [])) [], (some (149, true)), none⟩,
  ⟨(some 151), .pick (.t 149) (.t 150) (.c (.bool false)), none, none⟩,
  ⟨(some 8), .mv (.t 151), none, none⟩]
def f6r13 : IC := .reg false [] f6o13 [8]
@[simp] theorem f6r13_run : run tbl fin K f6r13 e H = regK tbl fin K [] f6o13 [8] e H := run_regK _ _ _ _ _ _ _ _ _ rfl
def f6body : IC := (.seq f6r0 (.seq (.seq f6r1 (.cond (.t 40) (.seq f6r2 .ret) .skip)) (.seq f6r3 (.seq (.seq f6r4 (.cond (.t 50) (.seq f6r5 .ret) .skip)) (.seq f6r6 (.seq (.seq f6r7 (.cond (.t 82) (.seq f6r8 .ret) .skip)) (.seq f6r9 (.seq f6r10 (.seq f6r11 (.seq f6r12 (.seq f6r13 .ret)))))))))))
def f6 : IFn := ⟨152, 4, [.tmp 8], f6body⟩
/- 7: jobshell/jobshelllaw27.ProcMeans -/
@[simp] def f7o0 : List IOper := [
  ⟨(some 6), .mv (.c (.bool false)), none, none⟩]
def f7r0 : IC := .reg false [] f7o0 [2, 1, 0]
@[simp] theorem f7r0_run : run tbl fin K f7r0 e H = regK tbl fin K [] f7o0 [2, 1, 0] e H := run_regK _ _ _ _ _ _ _ _ _ rfl
@[simp] def f7o1 : List IOper := [
  ⟨(some 7), .mv (.t 0), none, none⟩,
  ⟨(some 8), .call (.c (.fn 20 [])) [(.t 7)], none, none⟩,
  ⟨(some 9), .un .not (.t 8), none, none⟩]
def f7r1 : IC := .reg false [] f7o1 [9, 2, 1, 0]
@[simp] theorem f7r1_run : run tbl fin K f7r1 e H = regK tbl fin K [] f7o1 [9, 2, 1, 0] e H := run_regK _ _ _ _ _ _ _ _ _ rfl
@[simp] def f7o2 : List IOper := [
  ⟨(some 10), .call (.c (.fn 11 [])) [], none, none⟩,
  ⟨(some 6), .mv (.t 10), none, none⟩]
def f7r2 : IC := .reg false [] f7o2 [6]
@[simp] theorem f7r2_run : run tbl fin K f7r2 e H = regK tbl fin K [] f7o2 [6] e H := run_regK _ _ _ _ _ _ _ _ _ rfl
@[simp] def f7o3 : List IOper := [
  ⟨(some 11), .mv (.t 0), none, none⟩,
  ⟨(some 12), .mv (.t 2), none, none⟩,
  ⟨(some 13), .call (.c (.fn 29 [])) [(.t 11), (.t 12)], none, none⟩,
  ⟨(some 14), .mv (.t 0), none, none⟩,
  ⟨(some 15), .mv (.t 2), none, none⟩,
  ⟨(some 16), .call (.c (.fn 30 [])) [(.t 14), (.t 15)], none, none⟩,
  ⟨(some 17), .beq false (.t 13) (.t 16), none, none⟩,
  ⟨(some 18), .mv (.t 17), none, some [0, 1, 2, 18]⟩,
  ⟨(some 19), .mv (.t 0), (some (18, true)), none⟩,
  ⟨(some 20), .mv (.t 1), (some (18, true)), none⟩,
  ⟨(some 21), .mv (.t 2), (some (18, true)), none⟩,
  ⟨(some 22), .call (.c (.fn 32 [])) [(.t 19), (.t 20), (.t 21)], (some (18, true)), none⟩,
  ⟨(some 23), .mv (.t 0), (some (18, true)), none⟩,
  ⟨(some 24), .mv (.t 1), (some (18, true)), none⟩,
  ⟨(some 25), .mv (.t 2), (some (18, true)), none⟩,
  ⟨(some 26), .call (.c (.fn 33 [])) [(.t 23), (.t 24), (.t 25)], (some (18, true)), some [26, 22, 18]⟩,
  ⟨(some 27), .call (.c (.fn 31 [])) [(.t 22), (.t 26)], (some (18, true)), none⟩,
  ⟨(some 28), .pick (.t 18) (.t 27) (.c (.bool false)), none, none⟩,
  ⟨(some 29), .mv (.t 28), none, none⟩,
  ⟨(some 30), .call (.c (.fn 11 [])) [], (some (29, true)), none⟩,
  ⟨(some 31), .pick (.t 29) (.t 30) (.c (.bool false)), none, none⟩,
  ⟨(some 6), .mv (.t 31), none, none⟩]
def f7r3 : IC := .reg false [] f7o3 [6]
@[simp] theorem f7r3_run : run tbl fin K f7r3 e H = regK tbl fin K [] f7o3 [6] e H := run_regK _ _ _ _ _ _ _ _ _ rfl
def f7body : IC := (.seq f7r0 (.seq (.seq f7r1 (.cond (.t 9) (.seq f7r2 .ret) .skip)) (.seq f7r3 .ret)))
def f7 : IFn := ⟨32, 3, [.tmp 6], f7body⟩
/- 8: jobshell/jobshelllaw27.ProcLives -/
@[simp] def f8o0 : List IOper := [
  ⟨(some 10), .mv (.c (.bool false)), none, none⟩]
def f8r0 : IC := .reg false [] f8o0 [4, 3, 1, 0, 2]
@[simp] theorem f8r0_run : run tbl fin K f8r0 e H = regK tbl fin K [] f8o0 [4, 3, 1, 0, 2] e H := run_regK _ _ _ _ _ _ _ _ _ rfl
@[simp] def f8o1 : List IOper := [
  ⟨(some 23), .mv (.t 0), none, none⟩,
  ⟨(some 24), .call (.c (.fn 20 [])) [(.t 23)], none, none⟩,
  ⟨(some 25), .un .not (.t 24), none, none⟩]
def f8r1 : IC := .reg false [] f8o1 [25, 4, 3, 1, 0, 2]
@[simp] theorem f8r1_run : run tbl fin K f8r1 e H = regK tbl fin K [] f8o1 [25, 4, 3, 1, 0, 2] e H := run_regK _ _ _ _ _ _ _ _ _ rfl
@[simp] def f8o2 : List IOper := [
  ⟨(some 26), .call (.c (.fn 11 [])) [], none, none⟩,
  ⟨(some 10), .mv (.t 26), none, none⟩]
def f8r2 : IC := .reg false [] f8o2 [10]
@[simp] theorem f8r2_run : run tbl fin K f8r2 e H = regK tbl fin K [] f8o2 [10] e H := run_regK _ _ _ _ _ _ _ _ _ rfl
@[simp] def f8o3 : List IOper := [
  ⟨(some 28), .mv (.t 0), none, none⟩,
  ⟨(some 29), .mv (.t 1), none, none⟩,
  ⟨(some 30), .mv (.t 2), none, none⟩,
  ⟨(some 31), .call (.c (.fn 27 [])) [(.t 28), (.t 29), (.t 30)], none, none⟩,
  ⟨(some 27), .mv (.t 31), none, none⟩,
  ⟨(some 32), .ext (.t 27) 0, none, none⟩,
  ⟨(some 33), .ext (.t 27) 1, none, none⟩,
  ⟨(some 11), .mv (.t 32), none, none⟩,
  ⟨(some 12), .mv (.t 33), none, none⟩]
def f8r3 : IC := .reg false [] f8o3 [2, 0, 1, 3, 4, 11, 12]
@[simp] theorem f8r3_run : run tbl fin K f8r3 e H = regK tbl fin K [] f8o3 [2, 0, 1, 3, 4, 11, 12] e H := run_regK _ _ _ _ _ _ _ _ _ rfl
@[simp] def f8o4 : List IOper := [
  ⟨(some 35), .mv (.t 0), none, none⟩,
  ⟨(some 36), .mv (.t 1), none, none⟩,
  ⟨(some 37), .mv (.t 2), none, none⟩,
  ⟨(some 38), .call (.c (.fn 34 [])) [(.t 35), (.t 36), (.t 37)], none, none⟩,
  ⟨(some 34), .mv (.t 38), none, none⟩,
  ⟨(some 39), .ext (.t 34) 0, none, none⟩,
  ⟨(some 40), .ext (.t 34) 1, none, none⟩,
  ⟨(some 13), .mv (.t 39), none, none⟩,
  ⟨(some 14), .mv (.t 40), none, none⟩]
def f8r4 : IC := .reg false [] f8o4 [0, 1, 3, 4, 11, 13, 12, 14]
@[simp] theorem f8r4_run : run tbl fin K f8r4 e H = regK tbl fin K [] f8o4 [0, 1, 3, 4, 11, 13, 12, 14] e H := run_regK _ _ _ _ _ _ _ _ _ rfl
@[simp] def f8o5 : List IOper := [
  ⟨(some 42), .mv (.t 0), none, none⟩,
  ⟨(some 43), .mv (.t 1), none, none⟩,
  ⟨(some 44), .mv (.t 4), none, none⟩,
  ⟨(some 45), .call (.c (.fn 28 [])) [(.t 42), (.t 43), (.t 44)], none, none⟩,
  ⟨(some 41), .mv (.t 45), none, none⟩,
  ⟨(some 46), .ext (.t 41) 0, none, none⟩,
  ⟨(some 47), .ext (.t 41) 1, none, none⟩,
  ⟨(some 15), .mv (.t 46), none, none⟩,
  ⟨(some 16), .mv (.t 47), none, none⟩]
def f8r5 : IC := .reg false [] f8o5 [0, 1, 3, 4, 11, 13, 12, 14, 15, 16]
@[simp] theorem f8r5_run : run tbl fin K f8r5 e H = regK tbl fin K [] f8o5 [0, 1, 3, 4, 11, 13, 12, 14, 15, 16] e H := run_regK _ _ _ _ _ _ _ _ _ rfl
@[simp] def f8o6 : List IOper := [
  ⟨(some 49), .mv (.t 0), none, none⟩,
  ⟨(some 50), .mv (.t 1), none, none⟩,
  ⟨(some 51), .mv (.t 4), none, none⟩,
  ⟨(some 52), .call (.c (.fn 35 [])) [(.t 49), (.t 50), (.t 51)], none, none⟩,
  ⟨(some 48), .mv (.t 52), none, none⟩,
  ⟨(some 53), .ext (.t 48) 0, none, none⟩,
  ⟨(some 54), .ext (.t 48) 1, none, none⟩,
  ⟨(some 17), .mv (.t 53), none, none⟩,
  ⟨(some 18), .mv (.t 54), none, none⟩]
def f8r6 : IC := .reg false [] f8o6 [0, 1, 3, 4, 11, 13, 12, 14, 15, 17, 16, 18]
@[simp] theorem f8r6_run : run tbl fin K f8r6 e H = regK tbl fin K [] f8o6 [0, 1, 3, 4, 11, 13, 12, 14, 15, 17, 16, 18] e H := run_regK _ _ _ _ _ _ _ _ _ rfl
@[simp] def f8o7 : List IOper := [
  ⟨(some 56), .mv (.t 0), none, none⟩,
  ⟨(some 57), .mv (.t 1), none, none⟩,
  ⟨(some 58), .mv (.t 3), none, none⟩,
  ⟨(some 59), .mv (.t 4), none, none⟩,
  ⟨(some 60), .call (.c (.fn 36 [])) [(.t 56), (.t 57), (.t 58), (.t 59)], none, none⟩,
  ⟨(some 55), .mv (.t 60), none, none⟩,
  ⟨(some 61), .ext (.t 55) 0, none, none⟩,
  ⟨(some 62), .ext (.t 55) 1, none, none⟩,
  ⟨(some 19), .mv (.t 61), none, none⟩,
  ⟨(some 20), .mv (.t 62), none, none⟩]
def f8r7 : IC := .reg false [] f8o7 [0, 1, 3, 4, 11, 13, 12, 14, 15, 17, 16, 18, 19, 20]
@[simp] theorem f8r7_run : run tbl fin K f8r7 e H = regK tbl fin K [] f8o7 [0, 1, 3, 4, 11, 13, 12, 14, 15, 17, 16, 18, 19, 20] e H := run_regK _ _ _ _ _ _ _ _ _ rfl
@[simp] def f8o8 : List IOper := [
  ⟨(some 64), .mv (.t 0), none, none⟩,
  ⟨(some 65), .mv (.t 1), none, none⟩,
  ⟨(some 66), .mv (.t 3), none, none⟩,
  ⟨(some 67), .mv (.t 4), none, none⟩,
  ⟨(some 68), .call (.c (.fn 37 [])) [(.t 64), (.t 65), (.t 66), (.t 67)], none, none⟩,
  ⟨(some 63), .mv (.t 68), none, none⟩,
  ⟨(some 69), .ext (.t 63) 0, none, none⟩,
  ⟨(some 70), .ext (.t 63) 1, none, none⟩,
  ⟨(some 21), .mv (.t 69), none, none⟩,
  ⟨(some 22), .mv (.t 70), none, none⟩]
def f8r8 : IC := .reg false [] f8o8 [11, 13, 12, 14, 15, 17, 16, 18, 19, 21, 20, 22]
@[simp] theorem f8r8_run : run tbl fin K f8r8 e H = regK tbl fin K [] f8o8 [11, 13, 12, 14, 15, 17, 16, 18, 19, 21, 20, 22] e H := run_regK _ _ _ _ _ _ _ _ _ rfl
@[simp] def f8o9 : List IOper := [
  ⟨(some 71), .mv (.t 11), none, none⟩,
  ⟨(some 72), .mv (.t 13), none, none⟩,
  ⟨(some 73), .call (.c (.fn 17 [])) [(.t 71), (.t 72)], none, none⟩,
  ⟨(some 74), .mv (.t 73), none, none⟩,
  ⟨(some 75), .mv (.t 12), (some (74, true)), none⟩,
  ⟨(some 76), .mv (.t 14), (some (74, true)), none⟩,
  ⟨(some 77), .bin .eql (.t 75) (.t 76), (some (74, true)), none⟩,
  ⟨(some 78), .pick (.t 74) (.t 77) (.c (.bool false)), none, some [78, 15, 17, 16, 18, 19, 21, 20, 22]⟩,
  ⟨(some 79), .mv (.t 78), none, none⟩,
  ⟨(some 80), .mv (.t 15), (some (79, true)), none⟩,
  ⟨(some 81), .mv (.t 17), (some (79, true)), none⟩,
  ⟨(some 82), .call (.c (.fn 17 [])) [(.t 80), (.t 81)], (some (79, true)), none⟩,
  ⟨(some 83), .pick (.t 79) (.t 82) (.c (.bool false)), none, none⟩,
  ⟨(some 84), .mv (.t 83), none, none⟩,
  ⟨(some 85), .mv (.t 16), (some (84, true)), none⟩,
  ⟨(some 86), .mv (.t 18), (some (84, true)), some [86, 85, 84, 19, 21, 20, 22]⟩,
  ⟨(some 87), .bin .eql (.t 85) (.t 86), (some (84, true)), none⟩,
  ⟨(some 88), .pick (.t 84) (.t 87) (.c (.bool false)), none, none⟩,
  ⟨(some 89), .mv (.t 88), none, none⟩,
  ⟨(some 90), .mv (.t 19), (some (89, true)), none⟩,
  ⟨(some 91), .mv (.t 21), (some (89, true)), none⟩,
  ⟨(some 92), .call (.c (.fn 17 [])) [(.t 90), (.t 91)], (some (89, true)), none⟩,
  ⟨(some 93), .pick (.t 89) (.t 92) (.c (.bool false)), none, none⟩,
  ⟨(some 94), .mv (.t 93), none, some [20, 22, 94]⟩,
  ⟨(some 95), .mv (.t 20), (some (94, true)), none⟩,
  ⟨(some 96), .mv (.t 22), (some (94, true)), none⟩,
  ⟨(some 97), .bin .eql (.t 95) (.t 96), (some (94, true)), none⟩,
  ⟨(some 98), .pick (.t 94) (.t 97) (.c (.bool false)), none, none⟩,
  ⟨(some 99), .mv (.t 98), none, none⟩,
  ⟨(some 100), .call (.c (.fn 11 [])) [], (some (99, true)), none⟩,
  ⟨(some 101), .pick (.t 99) (.t 100) (.c (.bool false)), none, none⟩,
  ⟨(some 10), .mv (.t 101), none, none⟩]
def f8r9 : IC := .reg false [] f8o9 [10]
@[simp] theorem f8r9_run : run tbl fin K f8r9 e H = regK tbl fin K [] f8o9 [10] e H := run_regK _ _ _ _ _ _ _ _ _ rfl
def f8body : IC := (.seq f8r0 (.seq (.seq f8r1 (.cond (.t 25) (.seq f8r2 .ret) .skip)) (.seq f8r3 (.seq f8r4 (.seq f8r5 (.seq f8r6 (.seq f8r7 (.seq f8r8 (.seq f8r9 .ret)))))))))
def f8 : IFn := ⟨102, 5, [.tmp 10], f8body⟩
/- 9: jobshell/jobshelllaw27.ProcStays -/
@[simp] def f9o0 : List IOper := [
  ⟨(some 2), .mv (.c (.bool false)), none, none⟩]
def f9r0 : IC := .reg false [] f9o0 [0]
@[simp] theorem f9r0_run : run tbl fin K f9r0 e H = regK tbl fin K [] f9o0 [0] e H := run_regK _ _ _ _ _ _ _ _ _ rfl
@[simp] def f9o1 : List IOper := [
  ⟨(some 8), .mv (.t 0), none, none⟩,
  ⟨(some 9), .len (.t 8), none, none⟩,
  ⟨(some 10), .bin .gtr (.t 9) (.c (.int .i64 60)), none, none⟩]
def f9r1 : IC := .reg false [] f9o1 [10, 0]
@[simp] theorem f9r1_run : run tbl fin K f9r1 e H = regK tbl fin K [] f9o1 [10, 0] e H := run_regK _ _ _ _ _ _ _ _ _ rfl
@[simp] def f9o2 : List IOper := [
  ⟨(some 11), .call (.c (.fn 11 [])) [], none, none⟩,
  ⟨(some 2), .mv (.t 11), none, none⟩]
def f9r2 : IC := .reg false [] f9o2 [2]
@[simp] theorem f9r2_run : run tbl fin K f9r2 e H = regK tbl fin K [] f9o2 [2] e H := run_regK _ _ _ _ _ _ _ _ _ rfl
@[simp] def f9o3 : List IOper := [
  ⟨(some 12), .call (.c (.fn 18 [])) [(.c (.str [47]))], none, none⟩,
  ⟨(some 3), .mv (.t 12), none, none⟩]
def f9r3 : IC := .reg false [] f9o3 [3, 0]
@[simp] theorem f9r3_run : run tbl fin K f9r3 e H = regK tbl fin K [] f9o3 [3, 0] e H := run_regK _ _ _ _ _ _ _ _ _ rfl
@[simp] def f9o4 : List IOper := [
  ⟨(some 4), .mv (.c (.int .i64 0)), none, none⟩]
def f9r4 : IC := .reg false [] f9o4 [3, 0, 4]
@[simp] theorem f9r4_run : run tbl fin K f9r4 e H = regK tbl fin K [] f9o4 [3, 0, 4] e H := run_regK _ _ _ _ _ _ _ _ _ rfl
@[simp] def f9o5 : List IOper := [
  ⟨(some 13), .mv (.t 4), none, none⟩,
  ⟨(some 14), .mv (.t 0), none, none⟩,
  ⟨(some 15), .len (.t 14), none, none⟩,
  ⟨(some 16), .bin .lss (.t 13) (.t 15), none, none⟩]
def f9r5 : IC := .reg false [] f9o5 [16, 3, 0, 4]
@[simp] theorem f9r5_run : run tbl fin K f9r5 e H = regK tbl fin K [] f9o5 [16, 3, 0, 4] e H := run_regK _ _ _ _ _ _ _ _ _ rfl
@[simp] def f9o6 : List IOper := [
  ⟨(some 19), .mv (.t 0), none, none⟩,
  ⟨(some 20), .mv (.t 4), none, none⟩,
  ⟨(some 21), .idx 4 (.t 19) (.t 20), none, none⟩,
  ⟨(some 22), .load true 4 (.t 21), none, none⟩,
  ⟨(some 5), .new 60 4 (.agg [(.int .i64 0), (.int .i64 0), (.int .i64 0), (.int .i64 0)]), none, none⟩,
  ⟨none, .store 4 (.t 5) (.t 22), none, none⟩]
def f9r6 : IC := .reg false [] f9o6 [3, 5, 0, 4]
@[simp] theorem f9r6_run : run tbl fin K f9r6 e H = regK tbl fin K [] f9o6 [3, 5, 0, 4] e H := run_regK _ _ _ _ _ _ _ _ _ rfl
@[simp] def f9o7 : List IOper := [
  ⟨(some 23), .mv (.t 3), none, none⟩,
  ⟨(some 24), .load true 4 (.t 5), none, none⟩,
  ⟨(some 25), .call (.c (.fn 38 [])) [(.t 23), (.t 24)], none, none⟩,
  ⟨(some 6), .mv (.t 25), none, none⟩]
def f9r7 : IC := .reg false [] f9o7 [3, 5, 0, 4, 6]
@[simp] theorem f9r7_run : run tbl fin K f9r7 e H = regK tbl fin K [] f9o7 [3, 5, 0, 4, 6] e H := run_regK _ _ _ _ _ _ _ _ _ rfl
@[simp] def f9o8 : List IOper := [
  ⟨(some 26), .mv (.t 6), none, none⟩,
  ⟨(some 27), .len (.t 26), none, none⟩,
  ⟨(some 28), .mv (.t 3), none, none⟩,
  ⟨(some 29), .len (.t 28), none, none⟩,
  ⟨(some 30), .bin .sub (.t 27) (.t 29), none, none⟩,
  ⟨(some 7), .mv (.t 30), none, none⟩]
def f9r8 : IC := .reg false [] f9o8 [7, 5, 0, 4, 6]
@[simp] theorem f9r8_run : run tbl fin K f9r8 e H = regK tbl fin K [] f9o8 [7, 5, 0, 4, 6] e H := run_regK _ _ _ _ _ _ _ _ _ rfl
@[simp] def f9o9 : List IOper := [
  ⟨(some 31), .mv (.t 6), none, none⟩,
  ⟨(some 32), .call (.c (.fn 14 [])) [(.t 31)], none, none⟩,
  ⟨(some 33), .bin .neq (.t 32) (.c (.int .i64 0)), none, none⟩,
  ⟨(some 34), .mv (.t 33), none, none⟩,
  ⟨(some 35), .mv (.t 7), (some (34, false)), none⟩,
  ⟨(some 36), .bin .gtr (.t 35) (.c (.int .i64 1)), (some (34, false)), none⟩,
  ⟨(some 37), .pick (.t 34) (.c (.bool true)) (.t 36), none, none⟩,
  ⟨(some 38), .mv (.t 37), none, some [38, 7, 5, 0, 4, 6]⟩,
  ⟨(some 39), .mv (.t 7), (some (38, false)), none⟩,
  ⟨(some 40), .bin .lss (.t 39) (.c (.int .i64 (-1))), (some (38, false)), none⟩,
  ⟨(some 41), .pick (.t 38) (.c (.bool true)) (.t 40), none, none⟩,
  ⟨(some 42), .mv (.t 41), none, none⟩,
  ⟨(some 43), .mv (.t 7), (some (42, false)), none⟩,
  ⟨(some 44), .bin .eql (.t 43) (.c (.int .i64 1)), (some (42, false)), none⟩,
  ⟨(some 45), .mv (.t 44), (some (42, false)), none⟩,
  ⟨(some 46), .fld 0 (.t 5), (some (45, true)), some [46, 45, 42, 7, 5, 0, 4, 6]⟩,
  ⟨(some 47), .load false 1 (.t 46), (some (45, true)), none⟩,
  ⟨(some 48), .bin .neq (.t 47) (.c (.int .i64 0)), (some (45, true)), none⟩,
  ⟨(some 49), .pick (.t 45) (.t 48) (.c (.bool false)), (some (42, false)), none⟩,
  ⟨(some 50), .pick (.t 42) (.c (.bool true)) (.t 49), none, none⟩,
  ⟨(some 51), .mv (.t 50), none, none⟩,
  ⟨(some 52), .mv (.t 7), (some (51, false)), none⟩,
  ⟨(some 53), .bin .eql (.t 52) (.c (.int .i64 (-1))), (some (51, false)), none⟩,
  ⟨(some 54), .mv (.t 53), (some (51, false)), some [5, 54, 51, 0, 4, 6]⟩,
  ⟨(some 55), .fld 0 (.t 5), (some (54, true)), none⟩,
  ⟨(some 56), .load false 1 (.t 55), (some (54, true)), none⟩,
  ⟨(some 57), .bin .neq (.t 56) (.c (.int .i64 4)), (some (54, true)), none⟩,
  ⟨(some 58), .pick (.t 54) (.t 57) (.c (.bool false)), (some (51, false)), none⟩,
  ⟨(some 59), .pick (.t 51) (.c (.bool true)) (.t 58), none, none⟩]
def f9r9 : IC := .reg false [] f9o9 [59, 0, 4, 6]
@[simp] theorem f9r9_run : run tbl fin K f9r9 e H = regK tbl fin K [] f9o9 [59, 0, 4, 6] e H := run_regK _ _ _ _ _ _ _ _ _ rfl
@[simp] def f9o10 : List IOper := [
  ⟨(some 2), .mv (.c (.bool false)), none, none⟩]
def f9r10 : IC := .reg false [] f9o10 [2]
@[simp] theorem f9r10_run : run tbl fin K f9r10 e H = regK tbl fin K [] f9o10 [2] e H := run_regK _ _ _ _ _ _ _ _ _ rfl
@[simp] def f9o11 : List IOper := [
  ⟨(some 60), .mv (.t 6), none, none⟩,
  ⟨(some 3), .mv (.t 60), none, none⟩]
def f9r11 : IC := .reg false [] f9o11 [4, 3, 0]
@[simp] theorem f9r11_run : run tbl fin K f9r11 e H = regK tbl fin K [] f9o11 [4, 3, 0] e H := run_regK _ _ _ _ _ _ _ _ _ rfl
@[simp] def f9o12 : List IOper := [
  ⟨(some 17), .mv (.t 4), none, none⟩,
  ⟨(some 18), .bin .add (.t 17) (.c (.int .i64 1)), none, none⟩,
  ⟨(some 4), .mv (.t 18), none, none⟩]
def f9r12 : IC := .reg false [] f9o12 [3, 0, 4]
@[simp] theorem f9r12_run : run tbl fin K f9r12 e H = regK tbl fin K [] f9o12 [3, 0, 4] e H := run_regK _ _ _ _ _ _ _ _ _ rfl
def f9b13 : IC := (.seq (.seq f9r5 (.cond (.t 16) .skip (.exit 0))) (.seq (.block 1 (.seq f9r6 (.seq f9r7 (.seq f9r8 (.seq (.seq f9r9 (.cond (.t 59) (.seq f9r10 .ret) .skip)) f9r11))))) f9r12))
theorem f9b13_eq : f9b13 = (.seq (.seq f9r5 (.cond (.t 16) .skip (.exit 0))) (.seq (.block 1 (.seq f9r6 (.seq f9r7 (.seq f9r8 (.seq (.seq f9r9 (.cond (.t 59) (.seq f9r10 .ret) .skip)) f9r11))))) f9r12)) := rfl
@[simp] def f9o14 : List IOper := [
  ⟨(some 61), .call (.c (.fn 11 [])) [], none, none⟩,
  ⟨(some 2), .mv (.t 61), none, none⟩]
def f9r14 : IC := .reg false [] f9o14 [2]
@[simp] theorem f9r14_run : run tbl fin K f9r14 e H = regK tbl fin K [] f9o14 [2] e H := run_regK _ _ _ _ _ _ _ _ _ rfl
def f9body : IC := (.seq f9r0 (.seq (.seq f9r1 (.cond (.t 10) (.seq f9r2 .ret) .skip)) (.seq f9r3 (.seq (.seq f9r4 (.block 0 (.loop [3, 0, 4] f9b13))) (.seq f9r14 .ret)))))
def f9 : IFn := ⟨62, 1, [.tmp 2], f9body⟩
/- 10: jobshell/jobshellref27.Small -/
@[simp] def f10o0 : List IOper := [
  ⟨(some 2), .mv (.c (.bool false)), none, none⟩]
def f10r0 : IC := .reg false [] f10o0 [0]
@[simp] theorem f10r0_run : run tbl fin K f10r0 e H = regK tbl fin K [] f10o0 [0] e H := run_regK _ _ _ _ _ _ _ _ _ rfl
@[simp] def f10o1 : List IOper := [
  ⟨(some 3), .mv (.c (.int .i64 0)), none, none⟩]
def f10r1 : IC := .reg false [] f10o1 [0, 3]
@[simp] theorem f10r1_run : run tbl fin K f10r1 e H = regK tbl fin K [] f10o1 [0, 3] e H := run_regK _ _ _ _ _ _ _ _ _ rfl
@[simp] def f10o2 : List IOper := [
  ⟨(some 5), .mv (.t 3), none, none⟩,
  ⟨(some 6), .mv (.t 0), none, none⟩,
  ⟨(some 7), .len (.t 6), none, none⟩,
  ⟨(some 8), .bin .lss (.t 5) (.t 7), none, none⟩,
  ⟨(some 9), .mv (.t 8), none, none⟩,
  ⟨(some 10), .mv (.t 3), (some (9, true)), none⟩,
  ⟨(some 11), .bin .lss (.t 10) (.c (.int .i64 80)), (some (9, true)), none⟩,
  ⟨(some 12), .pick (.t 9) (.t 11) (.c (.bool false)), none, none⟩]
def f10r2 : IC := .reg false [] f10o2 [12, 0, 3]
@[simp] theorem f10r2_run : run tbl fin K f10r2 e H = regK tbl fin K [] f10o2 [12, 0, 3] e H := run_regK _ _ _ _ _ _ _ _ _ rfl
@[simp] def f10o3 : List IOper := [
  ⟨(some 15), .mv (.t 0), none, none⟩,
  ⟨(some 16), .mv (.t 3), none, none⟩,
  ⟨(some 17), .idx 13 (.t 15) (.t 16), none, none⟩,
  ⟨(some 18), .load true 13 (.t 17), none, none⟩,
  ⟨(some 4), .new 30 13 (.agg [(.int .i64 0), (.int .i64 0), (.int .i64 0), (.int .i64 0), (.int .i64 0), (.int .i64 0), (.bool false), (.int .i64 0), .e0, .e0, .e0, .e0, (.str [])]), none, none⟩,
  ⟨none, .store 13 (.t 4) (.t 18), none, none⟩]
def f10r3 : IC := .reg false [] f10o3 [4, 0, 3]
@[simp] theorem f10r3_run : run tbl fin K f10r3 e H = regK tbl fin K [] f10o3 [4, 0, 3] e H := run_regK _ _ _ _ _ _ _ _ _ rfl
@[simp] def f10o4 : List IOper := [
  ⟨(some 19), .fld 11 (.t 4), none, none⟩,
  ⟨(some 20), .load false 1 (.t 19), none, none⟩,
  ⟨(some 21), .len (.t 20), none, none⟩,
  ⟨(some 22), .bin .gtr (.t 21) (.c (.int .i64 40)), none, none⟩,
  ⟨(some 23), .mv (.t 22), none, none⟩,
  ⟨(some 24), .fld 12 (.t 4), (some (23, false)), none⟩,
  ⟨(some 25), .load false 1 (.t 24), (some (23, false)), none⟩,
  ⟨(some 26), .slen (.t 25), (some (23, false)), some [26, 23, 4, 0, 3]⟩,
  ⟨(some 27), .bin .gtr (.t 26) (.c (.int .i64 200)), (some (23, false)), none⟩,
  ⟨(some 28), .pick (.t 23) (.c (.bool true)) (.t 27), none, none⟩,
  ⟨(some 29), .mv (.t 28), none, none⟩,
  ⟨(some 30), .fld 8 (.t 4), (some (29, false)), none⟩,
  ⟨(some 31), .fld 0 (.t 30), (some (29, false)), none⟩,
  ⟨(some 32), .load false 1 (.t 31), (some (29, false)), none⟩,
  ⟨(some 33), .len (.t 32), (some (29, false)), none⟩,
  ⟨(some 34), .bin .gtr (.t 33) (.c (.int .i64 30)), (some (29, false)), some [34, 29, 4, 0, 3]⟩,
  ⟨(some 35), .pick (.t 29) (.c (.bool true)) (.t 34), none, none⟩,
  ⟨(some 36), .mv (.t 35), none, none⟩,
  ⟨(some 37), .fld 8 (.t 4), (some (36, false)), none⟩,
  ⟨(some 38), .fld 1 (.t 37), (some (36, false)), none⟩,
  ⟨(some 39), .load false 1 (.t 38), (some (36, false)), none⟩,
  ⟨(some 40), .len (.t 39), (some (36, false)), none⟩,
  ⟨(some 41), .bin .gtr (.t 40) (.c (.int .i64 30)), (some (36, false)), none⟩,
  ⟨(some 42), .pick (.t 36) (.c (.bool true)) (.t 41), none, some [42, 4, 0, 3]⟩,
  ⟨(some 43), .mv (.t 42), none, none⟩,
  ⟨(some 44), .fld 8 (.t 4), (some (43, false)), none⟩,
  ⟨(some 45), .fld 2 (.t 44), (some (43, false)), none⟩,
  ⟨(some 46), .load false 1 (.t 45), (some (43, false)), none⟩,
  ⟨(some 47), .len (.t 46), (some (43, false)), none⟩,
  ⟨(some 48), .bin .gtr (.t 47) (.c (.int .i64 30)), (some (43, false)), none⟩,
  ⟨(some 49), .pick (.t 43) (.c (.bool true)) (.t 48), none, none⟩]
def f10r4 : IC := .reg false [] f10o4 [49, 0, 3]
@[simp] theorem f10r4_run : run tbl fin K f10r4 e H = regK tbl fin K [] f10o4 [49, 0, 3] e H := run_regK _ _ _ _ _ _ _ _ _ rfl
@[simp] def f10o5 : List IOper := [
  ⟨(some 2), .mv (.c (.bool false)), none, none⟩]
def f10r5 : IC := .reg false [] f10o5 [2]
@[simp] theorem f10r5_run : run tbl fin K f10r5 e H = regK tbl fin K [] f10o5 [2] e H := run_regK _ _ _ _ _ _ _ _ _ rfl
@[simp] def f10o6 : List IOper := [
  ⟨(some 13), .mv (.t 3), none, none⟩,
  ⟨(some 14), .bin .add (.t 13) (.c (.int .i64 1)), none, none⟩,
  ⟨(some 3), .mv (.t 14), none, none⟩]
def f10r6 : IC := .reg false [] f10o6 [0, 3]
@[simp] theorem f10r6_run : run tbl fin K f10r6 e H = regK tbl fin K [] f10o6 [0, 3] e H := run_regK _ _ _ _ _ _ _ _ _ rfl
def f10b7 : IC := (.seq (.seq f10r2 (.cond (.t 12) .skip (.exit 0))) (.seq (.block 1 (.seq f10r3 (.seq f10r4 (.cond (.t 49) (.seq f10r5 .ret) .skip)))) f10r6))
theorem f10b7_eq : f10b7 = (.seq (.seq f10r2 (.cond (.t 12) .skip (.exit 0))) (.seq (.block 1 (.seq f10r3 (.seq f10r4 (.cond (.t 49) (.seq f10r5 .ret) .skip)))) f10r6)) := rfl
@[simp] def f10o8 : List IOper := [
  ⟨(some 50), .mv (.t 0), none, none⟩,
  ⟨(some 51), .len (.t 50), none, none⟩,
  ⟨(some 52), .bin .leq (.t 51) (.c (.int .i64 80)), none, none⟩,
  ⟨(some 2), .mv (.t 52), none, none⟩]
def f10r8 : IC := .reg false [] f10o8 [2]
@[simp] theorem f10r8_run : run tbl fin K f10r8 e H = regK tbl fin K [] f10o8 [2] e H := run_regK _ _ _ _ _ _ _ _ _ rfl
def f10body : IC := (.seq f10r0 (.seq (.seq f10r1 (.block 0 (.loop [0, 3] f10b7))) (.seq f10r8 .ret)))
def f10 : IFn := ⟨53, 1, [.tmp 2], f10body⟩
/- 11: jobshell/jobshelllaw27.awake -/
@[simp] def f11o0 : List IOper := [
  ⟨(some 0), .mv (.c (.bool false)), none, none⟩]
def f11r0 : IC := .reg false [] f11o0 []
@[simp] theorem f11r0_run : run tbl fin K f11r0 e H = regK tbl fin K [] f11o0 [] e H := run_regK _ _ _ _ _ _ _ _ _ rfl
@[simp] def f11o1 : List IOper := [
  ⟨(some 25), .call (.c (.fn 18 [])) [(.c (.str [47]))], none, none⟩,
  ⟨(some 26), .call (.c (.fn 27 [])) [(.t 25), (.c (.int .i64 1)), (.c (.int .i64 2))], none, none⟩,
  ⟨(some 24), .mv (.t 26), none, none⟩,
  ⟨(some 27), .ext (.t 24) 0, none, none⟩,
  ⟨(some 28), .ext (.t 24) 1, none, none⟩,
  ⟨(some 1), .mv (.t 27), none, none⟩,
  ⟨(some 2), .mv (.t 28), none, none⟩]
def f11r1 : IC := .reg false [] f11o1 [1, 2]
@[simp] theorem f11r1_run : run tbl fin K f11r1 e H = regK tbl fin K [] f11o1 [1, 2] e H := run_regK _ _ _ _ _ _ _ _ _ rfl
@[simp] def f11o2 : List IOper := [
  ⟨(some 30), .mv (.t 1), none, none⟩,
  ⟨(some 31), .call (.c (.fn 27 [])) [(.t 30), (.c (.int .i64 2)), (.c (.int .i64 3))], none, none⟩,
  ⟨(some 29), .mv (.t 31), none, none⟩,
  ⟨(some 32), .ext (.t 29) 0, none, none⟩,
  ⟨(some 33), .ext (.t 29) 1, none, none⟩,
  ⟨(some 3), .mv (.t 32), none, none⟩,
  ⟨(some 4), .mv (.t 33), none, none⟩]
def f11r2 : IC := .reg false [] f11o2 [2, 4, 3]
@[simp] theorem f11r2_run : run tbl fin K f11r2 e H = regK tbl fin K [] f11o2 [2, 4, 3] e H := run_regK _ _ _ _ _ _ _ _ _ rfl
@[simp] def f11o3 : List IOper := [
  ⟨(some 35), .mv (.t 3), none, none⟩,
  ⟨(some 36), .call (.c (.fn 28 [])) [(.t 35), (.c (.int .i64 2)), (.c (.int .i64 5))], none, none⟩,
  ⟨(some 34), .mv (.t 36), none, none⟩,
  ⟨(some 37), .ext (.t 34) 0, none, none⟩,
  ⟨(some 38), .ext (.t 34) 1, none, none⟩,
  ⟨(some 5), .mv (.t 37), none, none⟩,
  ⟨(some 6), .mv (.t 38), none, none⟩]
def f11r3 : IC := .reg false [] f11o3 [5, 2, 4, 6, 3]
@[simp] theorem f11r3_run : run tbl fin K f11r3 e H = regK tbl fin K [] f11o3 [5, 2, 4, 6, 3] e H := run_regK _ _ _ _ _ _ _ _ _ rfl
@[simp] def f11o4 : List IOper := [
  ⟨(some 40), .mv (.t 5), none, none⟩,
  ⟨(some 41), .call (.c (.fn 12 [])) [(.t 40), (.c (.int .i64 3))], none, none⟩,
  ⟨(some 39), .mv (.t 41), none, none⟩,
  ⟨(some 42), .ext (.t 39) 0, none, none⟩,
  ⟨(some 43), .ext (.t 39) 1, none, none⟩,
  ⟨(some 7), .new 30 13 (.agg [(.int .i64 0), (.int .i64 0), (.int .i64 0), (.int .i64 0), (.int .i64 0), (.int .i64 0), (.bool false), (.int .i64 0), .e0, .e0, .e0, .e0, (.str [])]), none, none⟩,
  ⟨none, .store 13 (.t 7) (.t 42), none, none⟩,
  ⟨(some 8), .mv (.t 43), none, none⟩]
def f11r4 : IC := .reg false [] f11o4 [5, 2, 4, 6, 8, 7, 3]
@[simp] theorem f11r4_run : run tbl fin K f11r4 e H = regK tbl fin K [] f11o4 [5, 2, 4, 6, 8, 7, 3] e H := run_regK _ _ _ _ _ _ _ _ _ rfl
@[simp] def f11o5 : List IOper := [
  ⟨(some 45), .mv (.t 5), none, none⟩,
  ⟨(some 46), .call (.c (.fn 21 [])) [(.t 45), (.c (.int .i64 1)), (.c (.int .i64 0)), (.c (.int .i64 0))], none, none⟩,
  ⟨(some 44), .mv (.t 46), none, none⟩,
  ⟨(some 47), .ext (.t 44) 0, none, none⟩,
  ⟨(some 48), .ext (.t 44) 1, none, none⟩,
  ⟨(some 49), .ext (.t 44) 2, none, none⟩,
  ⟨(some 50), .ext (.t 44) 3, none, none⟩,
  ⟨(some 51), .ext (.t 44) 4, none, some [47, 48, 49, 50, 51, 2, 4, 6, 8, 7, 3]⟩,
  ⟨(some 9), .mv (.t 47), none, none⟩,
  ⟨(some 10), .mv (.t 48), none, none⟩,
  ⟨(some 11), .mv (.t 49), none, none⟩,
  ⟨(some 12), .mv (.t 50), none, none⟩,
  ⟨(some 13), .mv (.t 51), none, none⟩]
def f11r5 : IC := .reg false [] f11o5 [9, 2, 4, 6, 8, 7, 10, 11, 12, 13, 3]
@[simp] theorem f11r5_run : run tbl fin K f11r5 e H = regK tbl fin K [] f11o5 [9, 2, 4, 6, 8, 7, 10, 11, 12, 13, 3] e H := run_regK _ _ _ _ _ _ _ _ _ rfl
@[simp] def f11o6 : List IOper := [
  ⟨(some 53), .mv (.t 9), none, none⟩,
  ⟨(some 54), .call (.c (.fn 21 [])) [(.t 53), (.c (.int .i64 1)), (.c (.int .i64 0)), (.c (.int .i64 0))], none, none⟩,
  ⟨(some 52), .mv (.t 54), none, none⟩,
  ⟨(some 55), .ext (.t 52) 0, none, none⟩,
  ⟨(some 56), .ext (.t 52) 1, none, none⟩,
  ⟨(some 57), .ext (.t 52) 2, none, none⟩,
  ⟨(some 58), .ext (.t 52) 3, none, none⟩,
  ⟨(some 59), .ext (.t 52) 4, none, some [55, 56, 57, 58, 59, 2, 4, 6, 8, 7, 10, 11, 12, 13, 3]⟩,
  ⟨(some 14), .mv (.t 55), none, none⟩,
  ⟨(some 15), .mv (.t 56), none, none⟩,
  ⟨(some 16), .mv (.t 57), none, none⟩,
  ⟨(some 17), .mv (.t 58), none, none⟩,
  ⟨(some 18), .mv (.t 59), none, none⟩]
def f11r6 : IC := .reg false [] f11o6 [2, 4, 6, 8, 7, 10, 11, 12, 13, 17, 18, 3]
@[simp] theorem f11r6_run : run tbl fin K f11r6 e H = regK tbl fin K [] f11o6 [2, 4, 6, 8, 7, 10, 11, 12, 13, 17, 18, 3] e H := run_regK _ _ _ _ _ _ _ _ _ rfl
@[simp] def f11o7 : List IOper := [
  ⟨(some 61), .mv (.t 3), none, none⟩,
  ⟨(some 62), .call (.c (.fn 25 [])) [(.t 61), (.c (.int .i64 3))], none, none⟩,
  ⟨(some 60), .mv (.t 62), none, none⟩,
  ⟨(some 63), .ext (.t 60) 0, none, none⟩,
  ⟨(some 64), .ext (.t 60) 1, none, none⟩,
  ⟨(some 19), .mv (.t 63), none, none⟩,
  ⟨(some 20), .mv (.t 64), none, none⟩]
def f11r7 : IC := .reg false [] f11o7 [19, 2, 4, 6, 8, 7, 10, 11, 12, 13, 17, 18, 20, 3]
@[simp] theorem f11r7_run : run tbl fin K f11r7 e H = regK tbl fin K [] f11o7 [19, 2, 4, 6, 8, 7, 10, 11, 12, 13, 17, 18, 20, 3] e H := run_regK _ _ _ _ _ _ _ _ _ rfl
@[simp] def f11o8 : List IOper := [
  ⟨(some 66), .mv (.t 19), none, none⟩,
  ⟨(some 67), .call (.c (.fn 23 [])) [(.t 66), (.c (.int .i64 3)), (.c (.int .i64 0)), (.c (.int .i64 0))], none, none⟩,
  ⟨(some 65), .mv (.t 67), none, none⟩,
  ⟨(some 68), .ext (.t 65) 0, none, none⟩,
  ⟨(some 69), .ext (.t 65) 1, none, none⟩,
  ⟨(some 21), .mv (.t 68), none, none⟩,
  ⟨(some 22), .mv (.t 69), none, none⟩]
def f11r8 : IC := .reg false [] f11o8 [2, 4, 6, 8, 7, 10, 11, 12, 13, 17, 18, 20, 22, 3]
@[simp] theorem f11r8_run : run tbl fin K f11r8 e H = regK tbl fin K [] f11o8 [2, 4, 6, 8, 7, 10, 11, 12, 13, 17, 18, 20, 22, 3] e H := run_regK _ _ _ _ _ _ _ _ _ rfl
@[simp] def f11o9 : List IOper := [
  ⟨(some 70), .mv (.t 3), none, none⟩,
  ⟨(some 71), .call (.c (.fn 32 [])) [(.t 70), (.c (.int .i64 2)), (.c (.int .i64 0))], none, none⟩,
  ⟨(some 23), .mv (.t 71), none, none⟩]
def f11r9 : IC := .reg false [] f11o9 [2, 4, 6, 8, 7, 10, 11, 12, 13, 17, 18, 20, 22, 23, 3]
@[simp] theorem f11r9_run : run tbl fin K f11r9 e H = regK tbl fin K [] f11o9 [2, 4, 6, 8, 7, 10, 11, 12, 13, 17, 18, 20, 22, 23, 3] e H := run_regK _ _ _ _ _ _ _ _ _ rfl
@[simp] def f11o10 : List IOper := [
  ⟨(some 72), .mv (.t 2), none, none⟩,
  ⟨(some 73), .bin .eql (.t 72) (.c (.int .i64 0)), none, none⟩,
  ⟨(some 74), .mv (.t 73), none, none⟩,
  ⟨(some 75), .mv (.t 4), (some (74, true)), none⟩,
  ⟨(some 76), .bin .eql (.t 75) (.c (.int .i64 0)), (some (74, true)), none⟩,
  ⟨(some 77), .pick (.t 74) (.t 76) (.c (.bool false)), none, none⟩,
  ⟨(some 78), .mv (.t 77), none, none⟩,
  ⟨(some 79), .mv (.t 6), (some (78, true)), some [79, 78, 8, 7, 10, 11, 12, 13, 17, 18, 20, 22, 23, 3]⟩,
  ⟨(some 80), .bin .eql (.t 79) (.c (.int .i64 0)), (some (78, true)), none⟩,
  ⟨(some 81), .pick (.t 78) (.t 80) (.c (.bool false)), none, none⟩,
  ⟨(some 82), .mv (.t 81), none, none⟩,
  ⟨(some 83), .mv (.t 8), (some (82, true)), none⟩,
  ⟨(some 84), .pick (.t 82) (.t 83) (.c (.bool false)), none, none⟩,
  ⟨(some 85), .mv (.t 84), none, none⟩,
  ⟨(some 86), .fld 1 (.t 7), (some (85, true)), none⟩,
  ⟨(some 87), .load false 1 (.t 86), (some (85, true)), some [87, 85, 10, 11, 12, 13, 17, 18, 20, 22, 23, 3]⟩,
  ⟨(some 88), .bin .eql (.t 87) (.c (.int .i64 1)), (some (85, true)), none⟩,
  ⟨(some 89), .pick (.t 85) (.t 88) (.c (.bool false)), none, none⟩,
  ⟨(some 90), .mv (.t 89), none, none⟩,
  ⟨(some 91), .mv (.t 10), (some (90, true)), none⟩,
  ⟨(some 92), .bin .eql (.t 91) (.c (.int .i64 2)), (some (90, true)), none⟩,
  ⟨(some 93), .pick (.t 90) (.t 92) (.c (.bool false)), none, none⟩,
  ⟨(some 94), .mv (.t 93), none, none⟩,
  ⟨(some 95), .mv (.t 11), (some (94, true)), some [95, 94, 12, 13, 17, 18, 20, 22, 23, 3]⟩,
  ⟨(some 96), .bin .eql (.t 95) (.c (.int .i64 5)), (some (94, true)), none⟩,
  ⟨(some 97), .pick (.t 94) (.t 96) (.c (.bool false)), none, none⟩,
  ⟨(some 98), .mv (.t 97), none, none⟩,
  ⟨(some 99), .mv (.t 12), (some (98, true)), none⟩,
  ⟨(some 100), .bin .eql (.t 99) (.c (.int .i64 1)), (some (98, true)), none⟩,
  ⟨(some 101), .pick (.t 98) (.t 100) (.c (.bool false)), none, none⟩,
  ⟨(some 102), .mv (.t 101), none, none⟩,
  ⟨(some 103), .mv (.t 13), (some (102, true)), some [103, 102, 17, 18, 20, 22, 23, 3]⟩,
  ⟨(some 104), .bin .eql (.t 103) (.c (.int .i64 0)), (some (102, true)), none⟩,
  ⟨(some 105), .pick (.t 102) (.t 104) (.c (.bool false)), none, none⟩,
  ⟨(some 106), .mv (.t 105), none, none⟩,
  ⟨(some 107), .mv (.t 17), (some (106, true)), none⟩,
  ⟨(some 108), .bin .eql (.t 107) (.c (.int .i64 2)), (some (106, true)), none⟩,
  ⟨(some 109), .pick (.t 106) (.t 108) (.c (.bool false)), none, none⟩,
  ⟨(some 110), .mv (.t 109), none, none⟩,
  ⟨(some 111), .mv (.t 18), (some (110, true)), some [111, 110, 20, 22, 23, 3]⟩,
  ⟨(some 112), .bin .eql (.t 111) (.c (.int .i64 0)), (some (110, true)), none⟩,
  ⟨(some 113), .pick (.t 110) (.t 112) (.c (.bool false)), none, none⟩,
  ⟨(some 114), .mv (.t 113), none, none⟩,
  ⟨(some 115), .mv (.t 20), (some (114, true)), none⟩,
  ⟨(some 116), .bin .eql (.t 115) (.c (.int .i64 0)), (some (114, true)), none⟩,
  ⟨(some 117), .pick (.t 114) (.t 116) (.c (.bool false)), none, none⟩,
  ⟨(some 118), .mv (.t 117), none, none⟩,
  ⟨(some 119), .mv (.t 22), (some (118, true)), some [119, 118, 23, 3]⟩,
  ⟨(some 120), .bin .eql (.t 119) (.c (.int .i64 23)), (some (118, true)), none⟩,
  ⟨(some 121), .pick (.t 118) (.t 120) (.c (.bool false)), none, none⟩,
  ⟨(some 122), .mv (.t 121), none, none⟩,
  ⟨(some 123), .mv (.t 23), (some (122, true)), none⟩,
  ⟨(some 124), .len (.t 123), (some (122, true)), none⟩,
  ⟨(some 125), .bin .eql (.t 124) (.c (.int .i64 3)), (some (122, true)), none⟩,
  ⟨(some 126), .pick (.t 122) (.t 125) (.c (.bool false)), none, none⟩,
  ⟨(some 127), .mv (.t 126), none, some [23, 127, 3]⟩,
  ⟨(some 128), .mv (.t 23), (some (127, true)), none⟩,
  ⟨(some 129), .idx 1 (.t 128) (.c (.int .i64 2)), (some (127, true)), none⟩,
  ⟨(some 130), .load false 1 (.t 129), (some (127, true)), none⟩,
  ⟨(some 131), .bin .eql (.t 130) (.c (.int .i64 3)), (some (127, true)), none⟩,
  ⟨(some 132), .pick (.t 127) (.t 131) (.c (.bool false)), none, none⟩,
  ⟨(some 133), .mv (.t 132), none, none⟩,
  ⟨(some 134), .mv (.t 3), (some (133, true)), none⟩,
  ⟨(some 135), .call (.c (.fn 14 [])) [(.t 134)], (some (133, true)), some [135, 133]⟩,
  ⟨(some 136), .bin .eql (.t 135) (.c (.int .i64 0)), (some (133, true)), none⟩,
  ⟨(some 137), .pick (.t 133) (.t 136) (.c (.bool false)), none, none⟩,
  ⟨(some 0), .mv (.t 137), none, none⟩]
def f11r10 : IC := .reg false [] f11o10 [0]
@[simp] theorem f11r10_run : run tbl fin K f11r10 e H = regK tbl fin K [] f11o10 [0] e H := run_regK _ _ _ _ _ _ _ _ _ rfl
def f11body : IC := (.seq f11r0 (.seq f11r1 (.seq f11r2 (.seq f11r3 (.seq f11r4 (.seq f11r5 (.seq f11r6 (.seq f11r7 (.seq f11r8 (.seq f11r9 (.seq f11r10 .ret)))))))))))
def f11 : IFn := ⟨138, 0, [.tmp 0], f11body⟩
/- 12: jobshell/proc.Find -/
@[simp] def f12o0 : List IOper := [
  ⟨(some 4), .new 30 13 (.agg [(.int .i64 0), (.int .i64 0), (.int .i64 0), (.int .i64 0), (.int .i64 0), (.int .i64 0), (.bool false), (.int .i64 0), .e0, .e0, .e0, .e0, (.str [])]), none, none⟩,
  ⟨(some 5), .mv (.c (.bool false)), none, none⟩]
def f12r0 : IC := .reg false [] f12o0 [0, 1, 4]
@[simp] theorem f12r0_run : run tbl fin K f12r0 e H = regK tbl fin K [] f12o0 [0, 1, 4] e H := run_regK _ _ _ _ _ _ _ _ _ rfl
@[simp] def f12o1 : List IOper := [
  ⟨(some 8), .mv (.t 0), none, none⟩,
  ⟨(some 9), .len (.t 8), none, none⟩,
  ⟨(some 10), .mv (.c (.int .i64 0)), none, none⟩]
def f12r1 : IC := .reg false [] f12o1 [9, 8, 1, 10, 4]
@[simp] theorem f12r1_run : run tbl fin K f12r1 e H = regK tbl fin K [] f12o1 [9, 8, 1, 10, 4] e H := run_regK _ _ _ _ _ _ _ _ _ rfl
@[simp] def f12o2 : List IOper := [
  ⟨(some 11), .bin .lss (.t 10) (.t 9), none, none⟩]
def f12r2 : IC := .reg false [] f12o2 [11, 1, 8, 9, 10, 4]
@[simp] theorem f12r2_run : run tbl fin K f12r2 e H = regK tbl fin K [] f12o2 [11, 1, 8, 9, 10, 4] e H := run_regK _ _ _ _ _ _ _ _ _ rfl
@[simp] def f12o3 : List IOper := [
  ⟨(some 12), .idx 13 (.t 8) (.t 10), none, none⟩,
  ⟨(some 13), .load true 13 (.t 12), none, none⟩,
  ⟨(some 7), .new 30 13 (.agg [(.int .i64 0), (.int .i64 0), (.int .i64 0), (.int .i64 0), (.int .i64 0), (.int .i64 0), (.bool false), (.int .i64 0), .e0, .e0, .e0, .e0, (.str [])]), none, none⟩,
  ⟨none, .store 13 (.t 7) (.t 13), none, none⟩]
def f12r3 : IC := .reg false [] f12o3 [1, 8, 9, 10, 7, 4]
@[simp] theorem f12r3_run : run tbl fin K f12r3 e H = regK tbl fin K [] f12o3 [1, 8, 9, 10, 7, 4] e H := run_regK _ _ _ _ _ _ _ _ _ rfl
@[simp] def f12o4 : List IOper := [
  ⟨(some 14), .fld 0 (.t 7), none, none⟩,
  ⟨(some 15), .load false 1 (.t 14), none, none⟩,
  ⟨(some 16), .mv (.t 1), none, none⟩,
  ⟨(some 17), .bin .eql (.t 15) (.t 16), none, none⟩]
def f12r4 : IC := .reg false [] f12o4 [17, 1, 8, 9, 10, 7, 4]
@[simp] theorem f12r4_run : run tbl fin K f12r4 e H = regK tbl fin K [] f12o4 [17, 1, 8, 9, 10, 7, 4] e H := run_regK _ _ _ _ _ _ _ _ _ rfl
@[simp] def f12o5 : List IOper := [
  ⟨(some 18), .fld 8 (.t 7), none, none⟩,
  ⟨(some 19), .load true 3 (.t 18), none, none⟩,
  ⟨(some 20), .call (.c (.fn 39 [])) [(.t 19)], none, none⟩,
  ⟨(some 21), .fld 8 (.t 7), none, none⟩,
  ⟨none, .store 3 (.t 21) (.t 20), none, none⟩]
def f12r5 : IC := .reg false [] f12o5 [7, 4]
@[simp] theorem f12r5_run : run tbl fin K f12r5 e H = regK tbl fin K [] f12o5 [7, 4] e H := run_regK _ _ _ _ _ _ _ _ _ rfl
@[simp] def f12o6 : List IOper := [
  ⟨(some 22), .fld 11 (.t 7), none, none⟩,
  ⟨(some 23), .load false 1 (.t 22), none, none⟩,
  ⟨(some 24), .call (.c (.fn 40 [])) [(.t 23)], none, none⟩,
  ⟨(some 25), .fld 11 (.t 7), none, none⟩,
  ⟨none, .store 1 (.t 25) (.t 24), none, none⟩]
def f12r6 : IC := .reg false [] f12o6 [7, 4]
@[simp] theorem f12r6_run : run tbl fin K f12r6 e H = regK tbl fin K [] f12o6 [7, 4] e H := run_regK _ _ _ _ _ _ _ _ _ rfl
@[simp] def f12o7 : List IOper := [
  ⟨(some 26), .load true 13 (.t 7), none, none⟩,
  ⟨none, .store 13 (.t 4) (.t 26), none, none⟩,
  ⟨(some 5), .mv (.c (.bool true)), none, none⟩]
def f12r7 : IC := .reg false [] f12o7 [4, 5]
@[simp] theorem f12r7_run : run tbl fin K f12r7 e H = regK tbl fin K [] f12o7 [4, 5] e H := run_regK _ _ _ _ _ _ _ _ _ rfl
@[simp] def f12o8 : List IOper := [
  ⟨(some 27), .bin .add (.t 10) (.c (.int .i64 1)), none, none⟩,
  ⟨(some 10), .mv (.t 27), none, none⟩]
def f12r8 : IC := .reg false [] f12o8 [9, 8, 1, 10, 4]
@[simp] theorem f12r8_run : run tbl fin K f12r8 e H = regK tbl fin K [] f12o8 [9, 8, 1, 10, 4] e H := run_regK _ _ _ _ _ _ _ _ _ rfl
def f12b9 : IC := (.seq f12r2 (.seq (.cond (.t 11) .skip (.exit 0)) (.seq (.block 1 (.seq f12r3 (.seq f12r4 (.cond (.t 17) (.seq f12r5 (.seq f12r6 (.seq f12r7 .ret))) .skip)))) f12r8)))
theorem f12b9_eq : f12b9 = (.seq f12r2 (.seq (.cond (.t 11) .skip (.exit 0)) (.seq (.block 1 (.seq f12r3 (.seq f12r4 (.cond (.t 17) (.seq f12r5 (.seq f12r6 (.seq f12r7 .ret))) .skip)))) f12r8))) := rfl
@[simp] def f12o10 : List IOper := [
  ⟨(some 28), .build [(.int .i64 0), (.int .i64 0), (.int .i64 0), (.int .i64 0), (.int .i64 0), (.int .i64 0), (.bool false), (.int .i64 0), .e0, .e0, .e0, .e0, (.str [])] [], none, none⟩,
  ⟨none, .store 13 (.t 4) (.t 28), none, none⟩,
  ⟨(some 5), .mv (.c (.bool false)), none, none⟩]
def f12r10 : IC := .reg false [] f12o10 [4, 5]
@[simp] theorem f12r10_run : run tbl fin K f12r10 e H = regK tbl fin K [] f12o10 [4, 5] e H := run_regK _ _ _ _ _ _ _ _ _ rfl
def f12body : IC := (.seq f12r0 (.seq (.seq f12r1 (.block 0 (.loop [9, 8, 1, 10, 4] f12b9))) (.seq f12r10 .ret)))
def f12 : IFn := ⟨29, 2, [.cell 4 true 13, .tmp 5], f12body⟩
/- 13: jobshell/jobshellref27.Find -/
@[simp] def f13o0 : List IOper := [
  ⟨(some 4), .new 30 13 (.agg [(.int .i64 0), (.int .i64 0), (.int .i64 0), (.int .i64 0), (.int .i64 0), (.int .i64 0), (.bool false), (.int .i64 0), .e0, .e0, .e0, .e0, (.str [])]), none, none⟩,
  ⟨(some 5), .mv (.c (.bool false)), none, none⟩]
def f13r0 : IC := .reg false [] f13o0 [1, 0, 4]
@[simp] theorem f13r0_run : run tbl fin K f13r0 e H = regK tbl fin K [] f13o0 [1, 0, 4] e H := run_regK _ _ _ _ _ _ _ _ _ rfl
@[simp] def f13o1 : List IOper := [
  ⟨(some 7), .mv (.t 0), none, none⟩,
  ⟨(some 8), .mv (.t 1), none, none⟩,
  ⟨(some 9), .call (.c (.fn 41 [])) [(.t 7), (.t 8)], none, none⟩,
  ⟨(some 6), .mv (.t 9), none, none⟩]
def f13r1 : IC := .reg false [] f13o1 [6, 0, 4]
@[simp] theorem f13r1_run : run tbl fin K f13r1 e H = regK tbl fin K [] f13o1 [6, 0, 4] e H := run_regK _ _ _ _ _ _ _ _ _ rfl
@[simp] def f13o2 : List IOper := [
  ⟨(some 10), .mv (.t 6), none, none⟩,
  ⟨(some 11), .bin .lss (.t 10) (.c (.int .i64 0)), none, none⟩]
def f13r2 : IC := .reg false [] f13o2 [11, 6, 0, 4]
@[simp] theorem f13r2_run : run tbl fin K f13r2 e H = regK tbl fin K [] f13o2 [11, 6, 0, 4] e H := run_regK _ _ _ _ _ _ _ _ _ rfl
@[simp] def f13o3 : List IOper := [
  ⟨(some 12), .build [(.int .i64 0), (.int .i64 0), (.int .i64 0), (.int .i64 0), (.int .i64 0), (.int .i64 0), (.bool false), (.int .i64 0), .e0, .e0, .e0, .e0, (.str [])] [], none, none⟩,
  ⟨none, .store 13 (.t 4) (.t 12), none, none⟩,
  ⟨(some 5), .mv (.c (.bool false)), none, none⟩]
def f13r3 : IC := .reg false [] f13o3 [4, 5]
@[simp] theorem f13r3_run : run tbl fin K f13r3 e H = regK tbl fin K [] f13o3 [4, 5] e H := run_regK _ _ _ _ _ _ _ _ _ rfl
@[simp] def f13o4 : List IOper := [
  ⟨(some 13), .mv (.t 0), none, none⟩,
  ⟨(some 14), .mv (.t 6), none, none⟩,
  ⟨(some 15), .idx 13 (.t 13) (.t 14), none, none⟩,
  ⟨(some 16), .load true 13 (.t 15), none, none⟩,
  ⟨none, .store 13 (.t 4) (.t 16), none, none⟩,
  ⟨(some 5), .mv (.c (.bool true)), none, none⟩]
def f13r4 : IC := .reg false [] f13o4 [4, 5]
@[simp] theorem f13r4_run : run tbl fin K f13r4 e H = regK tbl fin K [] f13o4 [4, 5] e H := run_regK _ _ _ _ _ _ _ _ _ rfl
def f13body : IC := (.seq f13r0 (.seq f13r1 (.seq (.seq f13r2 (.cond (.t 11) (.seq f13r3 .ret) .skip)) (.seq f13r4 .ret))))
def f13 : IFn := ⟨17, 2, [.cell 4 true 13, .tmp 5], f13body⟩
/- 14: jobshell/proc.Valid -/
@[simp] def f14o0 : List IOper := [
  ⟨(some 2), .mv (.c (.int .i64 0)), none, none⟩]
def f14r0 : IC := .reg false [] f14o0 [0]
@[simp] theorem f14r0_run : run tbl fin K f14r0 e H = regK tbl fin K [] f14o0 [0] e H := run_regK _ _ _ _ _ _ _ _ _ rfl
@[simp] def f14o1 : List IOper := [
  ⟨(some 5), .mv (.t 0), none, none⟩,
  ⟨(some 6), .len (.t 5), none, none⟩,
  ⟨(some 7), .bin .gtr (.t 6) (.c (.int .i64 64)), none, none⟩]
def f14r1 : IC := .reg false [] f14o1 [7, 0]
@[simp] theorem f14r1_run : run tbl fin K f14r1 e H = regK tbl fin K [] f14o1 [7, 0] e H := run_regK _ _ _ _ _ _ _ _ _ rfl
@[simp] def f14o2 : List IOper := [
  ⟨(some 2), .mv (.c (.int .i64 4)), none, none⟩]
def f14r2 : IC := .reg false [] f14o2 [2]
@[simp] theorem f14r2_run : run tbl fin K f14r2 e H = regK tbl fin K [] f14o2 [2] e H := run_regK _ _ _ _ _ _ _ _ _ rfl
@[simp] def f14o3 : List IOper := [
  ⟨(some 8), .mv (.t 0), none, none⟩,
  ⟨(some 9), .len (.t 8), none, none⟩,
  ⟨(some 10), .bin .eql (.t 9) (.c (.int .i64 0)), none, none⟩,
  ⟨(some 11), .mv (.t 10), none, none⟩,
  ⟨(some 12), .mv (.t 0), (some (11, false)), none⟩,
  ⟨(some 13), .idx 13 (.t 12) (.c (.int .i64 0)), (some (11, false)), none⟩,
  ⟨(some 14), .fld 0 (.t 13), (some (11, false)), none⟩,
  ⟨(some 15), .load false 1 (.t 14), (some (11, false)), some [15, 11, 0]⟩,
  ⟨(some 16), .bin .neq (.t 15) (.c (.int .i64 1)), (some (11, false)), none⟩,
  ⟨(some 17), .pick (.t 11) (.c (.bool true)) (.t 16), none, none⟩,
  ⟨(some 18), .mv (.t 17), none, none⟩,
  ⟨(some 19), .mv (.t 0), (some (18, false)), none⟩,
  ⟨(some 20), .idx 13 (.t 19) (.c (.int .i64 0)), (some (18, false)), none⟩,
  ⟨(some 21), .fld 1 (.t 20), (some (18, false)), none⟩,
  ⟨(some 22), .load false 1 (.t 21), (some (18, false)), none⟩,
  ⟨(some 23), .bin .neq (.t 22) (.c (.int .i64 0)), (some (18, false)), some [23, 18, 0]⟩,
  ⟨(some 24), .pick (.t 18) (.c (.bool true)) (.t 23), none, none⟩,
  ⟨(some 25), .mv (.t 24), none, none⟩,
  ⟨(some 26), .mv (.t 0), (some (25, false)), none⟩,
  ⟨(some 27), .idx 13 (.t 26) (.c (.int .i64 0)), (some (25, false)), none⟩,
  ⟨(some 28), .fld 4 (.t 27), (some (25, false)), none⟩,
  ⟨(some 29), .load false 1 (.t 28), (some (25, false)), none⟩,
  ⟨(some 30), .bin .neq (.t 29) (.c (.int .i64 1)), (some (25, false)), none⟩,
  ⟨(some 31), .pick (.t 25) (.c (.bool true)) (.t 30), none, none⟩]
def f14r3 : IC := .reg false [] f14o3 [31, 0]
@[simp] theorem f14r3_run : run tbl fin K f14r3 e H = regK tbl fin K [] f14o3 [31, 0] e H := run_regK _ _ _ _ _ _ _ _ _ rfl
@[simp] def f14o4 : List IOper := [
  ⟨(some 2), .mv (.c (.int .i64 21)), none, none⟩]
def f14r4 : IC := .reg false [] f14o4 [2]
@[simp] theorem f14r4_run : run tbl fin K f14r4 e H = regK tbl fin K [] f14o4 [2] e H := run_regK _ _ _ _ _ _ _ _ _ rfl
@[simp] def f14o5 : List IOper := [
  ⟨(some 32), .mv (.t 0), none, none⟩,
  ⟨(some 33), .len (.t 32), none, none⟩,
  ⟨(some 34), .mv (.c (.int .i64 0)), none, none⟩]
def f14r5 : IC := .reg false [] f14o5 [33, 0, 34]
@[simp] theorem f14r5_run : run tbl fin K f14r5 e H = regK tbl fin K [] f14o5 [33, 0, 34] e H := run_regK _ _ _ _ _ _ _ _ _ rfl
@[simp] def f14o6 : List IOper := [
  ⟨(some 35), .bin .lss (.t 34) (.t 33), none, none⟩]
def f14r6 : IC := .reg false [] f14o6 [35, 0, 33, 34]
@[simp] theorem f14r6_run : run tbl fin K f14r6 e H = regK tbl fin K [] f14o6 [35, 0, 33, 34] e H := run_regK _ _ _ _ _ _ _ _ _ rfl
@[simp] def f14o7 : List IOper := [
  ⟨(some 36), .mv (.t 34), none, none⟩,
  ⟨(some 3), .mv (.t 36), none, none⟩]
def f14r7 : IC := .reg false [] f14o7 [3, 0, 33, 34]
@[simp] theorem f14r7_run : run tbl fin K f14r7 e H = regK tbl fin K [] f14o7 [3, 0, 33, 34] e H := run_regK _ _ _ _ _ _ _ _ _ rfl
@[simp] def f14o8 : List IOper := [
  ⟨(some 37), .mv (.t 0), none, none⟩,
  ⟨(some 38), .mv (.t 3), none, none⟩,
  ⟨(some 39), .call (.c (.fn 42 [])) [(.t 37), (.t 38)], none, none⟩,
  ⟨(some 4), .mv (.t 39), none, none⟩]
def f14r8 : IC := .reg false [] f14o8 [0, 33, 34, 4]
@[simp] theorem f14r8_run : run tbl fin K f14r8 e H = regK tbl fin K [] f14o8 [0, 33, 34, 4] e H := run_regK _ _ _ _ _ _ _ _ _ rfl
@[simp] def f14o9 : List IOper := [
  ⟨(some 40), .mv (.t 4), none, none⟩,
  ⟨(some 41), .bin .neq (.t 40) (.c (.int .i64 0)), none, none⟩]
def f14r9 : IC := .reg false [] f14o9 [41, 0, 33, 34, 4]
@[simp] theorem f14r9_run : run tbl fin K f14r9 e H = regK tbl fin K [] f14o9 [41, 0, 33, 34, 4] e H := run_regK _ _ _ _ _ _ _ _ _ rfl
@[simp] def f14o10 : List IOper := [
  ⟨(some 42), .mv (.t 4), none, none⟩,
  ⟨(some 2), .mv (.t 42), none, none⟩]
def f14r10 : IC := .reg false [] f14o10 [2]
@[simp] theorem f14r10_run : run tbl fin K f14r10 e H = regK tbl fin K [] f14o10 [2] e H := run_regK _ _ _ _ _ _ _ _ _ rfl
@[simp] def f14o11 : List IOper := [
  ⟨(some 43), .bin .add (.t 34) (.c (.int .i64 1)), none, none⟩,
  ⟨(some 34), .mv (.t 43), none, none⟩]
def f14r11 : IC := .reg false [] f14o11 [33, 0, 34]
@[simp] theorem f14r11_run : run tbl fin K f14r11 e H = regK tbl fin K [] f14o11 [33, 0, 34] e H := run_regK _ _ _ _ _ _ _ _ _ rfl
def f14b12 : IC := (.seq f14r6 (.seq (.cond (.t 35) .skip (.exit 0)) (.seq (.block 1 (.seq f14r7 (.seq f14r8 (.seq f14r9 (.cond (.t 41) (.seq f14r10 .ret) .skip))))) f14r11)))
theorem f14b12_eq : f14b12 = (.seq f14r6 (.seq (.cond (.t 35) .skip (.exit 0)) (.seq (.block 1 (.seq f14r7 (.seq f14r8 (.seq f14r9 (.cond (.t 41) (.seq f14r10 .ret) .skip))))) f14r11))) := rfl
@[simp] def f14o13 : List IOper := [
  ⟨(some 2), .mv (.c (.int .i64 0)), none, none⟩]
def f14r13 : IC := .reg false [] f14o13 [2]
@[simp] theorem f14r13_run : run tbl fin K f14r13 e H = regK tbl fin K [] f14o13 [2] e H := run_regK _ _ _ _ _ _ _ _ _ rfl
def f14body : IC := (.seq f14r0 (.seq (.seq f14r1 (.cond (.t 7) (.seq f14r2 .ret) .skip)) (.seq (.seq f14r3 (.cond (.t 31) (.seq f14r4 .ret) .skip)) (.seq (.seq f14r5 (.block 0 (.loop [33, 0, 34] f14b12))) (.seq f14r13 .ret)))))
def f14 : IFn := ⟨44, 1, [.tmp 2], f14body⟩
/- 15: jobshell/jobshellref27.Valid -/
@[simp] def f15o0 : List IOper := [
  ⟨(some 2), .mv (.c (.int .i64 0)), none, none⟩]
def f15r0 : IC := .reg false [] f15o0 [0]
@[simp] theorem f15r0_run : run tbl fin K f15r0 e H = regK tbl fin K [] f15o0 [0] e H := run_regK _ _ _ _ _ _ _ _ _ rfl
@[simp] def f15o1 : List IOper := [
  ⟨(some 5), .mv (.t 0), none, none⟩,
  ⟨(some 6), .len (.t 5), none, none⟩,
  ⟨(some 7), .bin .gtr (.t 6) (.c (.int .i64 64)), none, none⟩]
def f15r1 : IC := .reg false [] f15o1 [7, 0]
@[simp] theorem f15r1_run : run tbl fin K f15r1 e H = regK tbl fin K [] f15o1 [7, 0] e H := run_regK _ _ _ _ _ _ _ _ _ rfl
@[simp] def f15o2 : List IOper := [
  ⟨(some 2), .mv (.c (.int .i64 4)), none, none⟩]
def f15r2 : IC := .reg false [] f15o2 [2]
@[simp] theorem f15r2_run : run tbl fin K f15r2 e H = regK tbl fin K [] f15o2 [2] e H := run_regK _ _ _ _ _ _ _ _ _ rfl
@[simp] def f15o3 : List IOper := [
  ⟨(some 8), .mv (.t 0), none, none⟩,
  ⟨(some 9), .len (.t 8), none, none⟩,
  ⟨(some 10), .bin .eql (.t 9) (.c (.int .i64 0)), none, none⟩,
  ⟨(some 11), .mv (.t 10), none, none⟩,
  ⟨(some 12), .mv (.t 0), (some (11, false)), none⟩,
  ⟨(some 13), .idx 13 (.t 12) (.c (.int .i64 0)), (some (11, false)), none⟩,
  ⟨(some 14), .fld 0 (.t 13), (some (11, false)), none⟩,
  ⟨(some 15), .load false 1 (.t 14), (some (11, false)), some [15, 11, 0]⟩,
  ⟨(some 16), .bin .neq (.t 15) (.c (.int .i64 1)), (some (11, false)), none⟩,
  ⟨(some 17), .pick (.t 11) (.c (.bool true)) (.t 16), none, none⟩,
  ⟨(some 18), .mv (.t 17), none, none⟩,
  ⟨(some 19), .mv (.t 0), (some (18, false)), none⟩,
  ⟨(some 20), .idx 13 (.t 19) (.c (.int .i64 0)), (some (18, false)), none⟩,
  ⟨(some 21), .fld 1 (.t 20), (some (18, false)), none⟩,
  ⟨(some 22), .load false 1 (.t 21), (some (18, false)), none⟩,
  ⟨(some 23), .bin .neq (.t 22) (.c (.int .i64 0)), (some (18, false)), some [23, 18, 0]⟩,
  ⟨(some 24), .pick (.t 18) (.c (.bool true)) (.t 23), none, none⟩,
  ⟨(some 25), .mv (.t 24), none, none⟩,
  ⟨(some 26), .mv (.t 0), (some (25, false)), none⟩,
  ⟨(some 27), .idx 13 (.t 26) (.c (.int .i64 0)), (some (25, false)), none⟩,
  ⟨(some 28), .fld 4 (.t 27), (some (25, false)), none⟩,
  ⟨(some 29), .load false 1 (.t 28), (some (25, false)), none⟩,
  ⟨(some 30), .bin .neq (.t 29) (.c (.int .i64 1)), (some (25, false)), none⟩,
  ⟨(some 31), .pick (.t 25) (.c (.bool true)) (.t 30), none, none⟩]
def f15r3 : IC := .reg false [] f15o3 [31, 0]
@[simp] theorem f15r3_run : run tbl fin K f15r3 e H = regK tbl fin K [] f15o3 [31, 0] e H := run_regK _ _ _ _ _ _ _ _ _ rfl
@[simp] def f15o4 : List IOper := [
  ⟨(some 2), .mv (.c (.int .i64 21)), none, none⟩]
def f15r4 : IC := .reg false [] f15o4 [2]
@[simp] theorem f15r4_run : run tbl fin K f15r4 e H = regK tbl fin K [] f15o4 [2] e H := run_regK _ _ _ _ _ _ _ _ _ rfl
@[simp] def f15o5 : List IOper := [
  ⟨(some 3), .mv (.c (.int .i64 0)), none, none⟩]
def f15r5 : IC := .reg false [] f15o5 [3, 0]
@[simp] theorem f15r5_run : run tbl fin K f15r5 e H = regK tbl fin K [] f15o5 [3, 0] e H := run_regK _ _ _ _ _ _ _ _ _ rfl
@[simp] def f15o6 : List IOper := [
  ⟨(some 32), .mv (.t 3), none, none⟩,
  ⟨(some 33), .mv (.t 0), none, none⟩,
  ⟨(some 34), .len (.t 33), none, none⟩,
  ⟨(some 35), .bin .lss (.t 32) (.t 34), none, none⟩]
def f15r6 : IC := .reg false [] f15o6 [35, 3, 0]
@[simp] theorem f15r6_run : run tbl fin K f15r6 e H = regK tbl fin K [] f15o6 [35, 3, 0] e H := run_regK _ _ _ _ _ _ _ _ _ rfl
@[simp] def f15o7 : List IOper := [
  ⟨(some 38), .mv (.t 0), none, none⟩,
  ⟨(some 39), .mv (.t 3), none, none⟩,
  ⟨(some 40), .call (.c (.fn 43 [])) [(.t 38), (.t 39)], none, none⟩,
  ⟨(some 4), .mv (.t 40), none, none⟩]
def f15r7 : IC := .reg false [] f15o7 [3, 0, 4]
@[simp] theorem f15r7_run : run tbl fin K f15r7 e H = regK tbl fin K [] f15o7 [3, 0, 4] e H := run_regK _ _ _ _ _ _ _ _ _ rfl
@[simp] def f15o8 : List IOper := [
  ⟨(some 41), .mv (.t 4), none, none⟩,
  ⟨(some 42), .bin .neq (.t 41) (.c (.int .i64 0)), none, none⟩]
def f15r8 : IC := .reg false [] f15o8 [42, 3, 0, 4]
@[simp] theorem f15r8_run : run tbl fin K f15r8 e H = regK tbl fin K [] f15o8 [42, 3, 0, 4] e H := run_regK _ _ _ _ _ _ _ _ _ rfl
@[simp] def f15o9 : List IOper := [
  ⟨(some 43), .mv (.t 4), none, none⟩,
  ⟨(some 2), .mv (.t 43), none, none⟩]
def f15r9 : IC := .reg false [] f15o9 [2]
@[simp] theorem f15r9_run : run tbl fin K f15r9 e H = regK tbl fin K [] f15o9 [2] e H := run_regK _ _ _ _ _ _ _ _ _ rfl
@[simp] def f15o10 : List IOper := [
  ⟨(some 44), .mv (.t 0), none, none⟩,
  ⟨(some 45), .mv (.t 3), none, none⟩,
  ⟨(some 46), .call (.c (.fn 44 [])) [(.t 44), (.t 45)], none, none⟩,
  ⟨(some 4), .mv (.t 46), none, none⟩]
def f15r10 : IC := .reg false [] f15o10 [0, 3, 4]
@[simp] theorem f15r10_run : run tbl fin K f15r10 e H = regK tbl fin K [] f15o10 [0, 3, 4] e H := run_regK _ _ _ _ _ _ _ _ _ rfl
@[simp] def f15o11 : List IOper := [
  ⟨(some 47), .mv (.t 4), none, none⟩,
  ⟨(some 48), .bin .neq (.t 47) (.c (.int .i64 0)), none, none⟩]
def f15r11 : IC := .reg false [] f15o11 [48, 0, 3, 4]
@[simp] theorem f15r11_run : run tbl fin K f15r11 e H = regK tbl fin K [] f15o11 [48, 0, 3, 4] e H := run_regK _ _ _ _ _ _ _ _ _ rfl
@[simp] def f15o12 : List IOper := [
  ⟨(some 49), .mv (.t 4), none, none⟩,
  ⟨(some 2), .mv (.t 49), none, none⟩]
def f15r12 : IC := .reg false [] f15o12 [2]
@[simp] theorem f15r12_run : run tbl fin K f15r12 e H = regK tbl fin K [] f15o12 [2] e H := run_regK _ _ _ _ _ _ _ _ _ rfl
@[simp] def f15o13 : List IOper := [
  ⟨(some 36), .mv (.t 3), none, none⟩,
  ⟨(some 37), .bin .add (.t 36) (.c (.int .i64 1)), none, none⟩,
  ⟨(some 3), .mv (.t 37), none, none⟩]
def f15r13 : IC := .reg false [] f15o13 [3, 0]
@[simp] theorem f15r13_run : run tbl fin K f15r13 e H = regK tbl fin K [] f15o13 [3, 0] e H := run_regK _ _ _ _ _ _ _ _ _ rfl
def f15b14 : IC := (.seq (.seq f15r6 (.cond (.t 35) .skip (.exit 0))) (.seq (.block 1 (.seq f15r7 (.seq (.seq f15r8 (.cond (.t 42) (.seq f15r9 .ret) .skip)) (.seq f15r10 (.seq f15r11 (.cond (.t 48) (.seq f15r12 .ret) .skip)))))) f15r13))
theorem f15b14_eq : f15b14 = (.seq (.seq f15r6 (.cond (.t 35) .skip (.exit 0))) (.seq (.block 1 (.seq f15r7 (.seq (.seq f15r8 (.cond (.t 42) (.seq f15r9 .ret) .skip)) (.seq f15r10 (.seq f15r11 (.cond (.t 48) (.seq f15r12 .ret) .skip)))))) f15r13)) := rfl
@[simp] def f15o15 : List IOper := [
  ⟨(some 2), .mv (.c (.int .i64 0)), none, none⟩]
def f15r15 : IC := .reg false [] f15o15 [2]
@[simp] theorem f15r15_run : run tbl fin K f15r15 e H = regK tbl fin K [] f15o15 [2] e H := run_regK _ _ _ _ _ _ _ _ _ rfl
def f15body : IC := (.seq f15r0 (.seq (.seq f15r1 (.cond (.t 7) (.seq f15r2 .ret) .skip)) (.seq (.seq f15r3 (.cond (.t 31) (.seq f15r4 .ret) .skip)) (.seq (.seq f15r5 (.block 0 (.loop [3, 0] f15b14))) (.seq f15r15 .ret)))))
def f15 : IFn := ⟨50, 1, [.tmp 2], f15body⟩
/- 16: jobshell/jobshellref27.SameOne -/
@[simp] def f16o0 : List IOper := [
  ⟨(some 2), .box 30 13 (.t 0), none, none⟩,
  ⟨(some 3), .box 30 13 (.t 1), none, none⟩,
  ⟨(some 4), .mv (.c (.bool false)), none, none⟩]
def f16r0 : IC := .reg false [] f16o0 [2, 3]
@[simp] theorem f16r0_run : run tbl fin K f16r0 e H = regK tbl fin K [] f16o0 [2, 3] e H := run_regK _ _ _ _ _ _ _ _ _ rfl
@[simp] def f16o1 : List IOper := [
  ⟨(some 5), .fld 0 (.t 2), none, none⟩,
  ⟨(some 6), .load false 1 (.t 5), none, none⟩,
  ⟨(some 7), .fld 0 (.t 3), none, none⟩,
  ⟨(some 8), .load false 1 (.t 7), none, none⟩,
  ⟨(some 9), .bin .eql (.t 6) (.t 8), none, none⟩,
  ⟨(some 10), .mv (.t 9), none, none⟩,
  ⟨(some 11), .fld 1 (.t 2), (some (10, true)), none⟩,
  ⟨(some 12), .load false 1 (.t 11), (some (10, true)), some [12, 10, 2, 3]⟩,
  ⟨(some 13), .fld 1 (.t 3), (some (10, true)), none⟩,
  ⟨(some 14), .load false 1 (.t 13), (some (10, true)), none⟩,
  ⟨(some 15), .bin .eql (.t 12) (.t 14), (some (10, true)), none⟩,
  ⟨(some 16), .pick (.t 10) (.t 15) (.c (.bool false)), none, none⟩,
  ⟨(some 17), .mv (.t 16), none, none⟩,
  ⟨(some 18), .fld 2 (.t 2), (some (17, true)), none⟩,
  ⟨(some 19), .load false 1 (.t 18), (some (17, true)), none⟩,
  ⟨(some 20), .fld 2 (.t 3), (some (17, true)), some [20, 19, 17, 2, 3]⟩,
  ⟨(some 21), .load false 1 (.t 20), (some (17, true)), none⟩,
  ⟨(some 22), .bin .eql (.t 19) (.t 21), (some (17, true)), none⟩,
  ⟨(some 23), .pick (.t 17) (.t 22) (.c (.bool false)), none, none⟩,
  ⟨(some 24), .mv (.t 23), none, none⟩,
  ⟨(some 25), .fld 3 (.t 2), (some (24, true)), none⟩,
  ⟨(some 26), .load false 1 (.t 25), (some (24, true)), none⟩,
  ⟨(some 27), .fld 3 (.t 3), (some (24, true)), none⟩,
  ⟨(some 28), .load false 1 (.t 27), (some (24, true)), some [28, 26, 24, 2, 3]⟩,
  ⟨(some 29), .bin .eql (.t 26) (.t 28), (some (24, true)), none⟩,
  ⟨(some 30), .pick (.t 24) (.t 29) (.c (.bool false)), none, none⟩,
  ⟨(some 31), .mv (.t 30), none, none⟩,
  ⟨(some 32), .fld 4 (.t 2), (some (31, true)), none⟩,
  ⟨(some 33), .load false 1 (.t 32), (some (31, true)), none⟩,
  ⟨(some 34), .fld 4 (.t 3), (some (31, true)), none⟩,
  ⟨(some 35), .load false 1 (.t 34), (some (31, true)), none⟩,
  ⟨(some 36), .bin .eql (.t 33) (.t 35), (some (31, true)), some [36, 31, 2, 3]⟩,
  ⟨(some 37), .pick (.t 31) (.t 36) (.c (.bool false)), none, none⟩,
  ⟨(some 38), .mv (.t 37), none, none⟩,
  ⟨(some 39), .fld 5 (.t 2), (some (38, true)), none⟩,
  ⟨(some 40), .load false 1 (.t 39), (some (38, true)), none⟩,
  ⟨(some 41), .fld 5 (.t 3), (some (38, true)), none⟩,
  ⟨(some 42), .load false 1 (.t 41), (some (38, true)), none⟩,
  ⟨(some 43), .bin .eql (.t 40) (.t 42), (some (38, true)), none⟩,
  ⟨(some 44), .pick (.t 38) (.t 43) (.c (.bool false)), none, some [44, 2, 3]⟩,
  ⟨(some 45), .mv (.t 44), none, none⟩,
  ⟨(some 46), .fld 6 (.t 2), (some (45, true)), none⟩,
  ⟨(some 47), .load false 1 (.t 46), (some (45, true)), none⟩,
  ⟨(some 48), .fld 6 (.t 3), (some (45, true)), none⟩,
  ⟨(some 49), .load false 1 (.t 48), (some (45, true)), none⟩,
  ⟨(some 50), .beq false (.t 47) (.t 49), (some (45, true)), none⟩,
  ⟨(some 51), .pick (.t 45) (.t 50) (.c (.bool false)), none, none⟩,
  ⟨(some 52), .mv (.t 51), none, some [52, 2, 3]⟩,
  ⟨(some 53), .fld 7 (.t 2), (some (52, true)), none⟩,
  ⟨(some 54), .load false 1 (.t 53), (some (52, true)), none⟩,
  ⟨(some 55), .fld 7 (.t 3), (some (52, true)), none⟩,
  ⟨(some 56), .load false 1 (.t 55), (some (52, true)), none⟩,
  ⟨(some 57), .bin .eql (.t 54) (.t 56), (some (52, true)), none⟩,
  ⟨(some 58), .pick (.t 52) (.t 57) (.c (.bool false)), none, none⟩,
  ⟨(some 59), .mv (.t 58), none, none⟩,
  ⟨(some 60), .fld 12 (.t 2), (some (59, true)), some [60, 59, 2, 3]⟩,
  ⟨(some 61), .load false 1 (.t 60), (some (59, true)), none⟩,
  ⟨(some 62), .fld 12 (.t 3), (some (59, true)), none⟩,
  ⟨(some 63), .load false 1 (.t 62), (some (59, true)), none⟩,
  ⟨(some 64), .bin .eql (.t 61) (.t 63), (some (59, true)), none⟩,
  ⟨(some 65), .pick (.t 59) (.t 64) (.c (.bool false)), none, none⟩,
  ⟨(some 66), .mv (.t 65), none, none⟩,
  ⟨(some 67), .fld 8 (.t 2), (some (66, true)), none⟩,
  ⟨(some 68), .load true 3 (.t 67), (some (66, true)), some [68, 66, 2, 3]⟩,
  ⟨(some 69), .fld 8 (.t 3), (some (66, true)), none⟩,
  ⟨(some 70), .load true 3 (.t 69), (some (66, true)), none⟩,
  ⟨(some 71), .call (.c (.fn 45 [])) [(.t 68), (.t 70)], (some (66, true)), none⟩,
  ⟨(some 72), .pick (.t 66) (.t 71) (.c (.bool false)), none, none⟩,
  ⟨(some 73), .mv (.t 72), none, none⟩,
  ⟨(some 74), .fld 11 (.t 2), (some (73, true)), none⟩,
  ⟨(some 75), .load false 1 (.t 74), (some (73, true)), none⟩,
  ⟨(some 76), .fld 11 (.t 3), (some (73, true)), some [76, 75, 73]⟩,
  ⟨(some 77), .load false 1 (.t 76), (some (73, true)), none⟩,
  ⟨(some 78), .call (.c (.fn 46 [])) [(.t 75), (.t 77)], (some (73, true)), none⟩,
  ⟨(some 79), .pick (.t 73) (.t 78) (.c (.bool false)), none, none⟩,
  ⟨(some 4), .mv (.t 79), none, none⟩]
def f16r1 : IC := .reg false [] f16o1 [4]
@[simp] theorem f16r1_run : run tbl fin K f16r1 e H = regK tbl fin K [] f16o1 [4] e H := run_regK _ _ _ _ _ _ _ _ _ rfl
def f16body : IC := (.seq f16r0 (.seq f16r1 .ret))
def f16 : IFn := ⟨80, 2, [.tmp 4], f16body⟩
/- 17: jobshell/jobshellref27.Same -/
@[simp] def f17o0 : List IOper := [
  ⟨(some 4), .mv (.c (.bool false)), none, none⟩]
def f17r0 : IC := .reg false [] f17o0 [1, 0]
@[simp] theorem f17r0_run : run tbl fin K f17r0 e H = regK tbl fin K [] f17o0 [1, 0] e H := run_regK _ _ _ _ _ _ _ _ _ rfl
@[simp] def f17o1 : List IOper := [
  ⟨(some 6), .mv (.t 0), none, none⟩,
  ⟨(some 7), .len (.t 6), none, none⟩,
  ⟨(some 8), .mv (.t 1), none, none⟩,
  ⟨(some 9), .len (.t 8), none, none⟩,
  ⟨(some 10), .bin .neq (.t 7) (.t 9), none, none⟩]
def f17r1 : IC := .reg false [] f17o1 [10, 1, 0]
@[simp] theorem f17r1_run : run tbl fin K f17r1 e H = regK tbl fin K [] f17o1 [10, 1, 0] e H := run_regK _ _ _ _ _ _ _ _ _ rfl
@[simp] def f17o2 : List IOper := [
  ⟨(some 4), .mv (.c (.bool false)), none, none⟩]
def f17r2 : IC := .reg false [] f17o2 [4]
@[simp] theorem f17r2_run : run tbl fin K f17r2 e H = regK tbl fin K [] f17o2 [4] e H := run_regK _ _ _ _ _ _ _ _ _ rfl
@[simp] def f17o3 : List IOper := [
  ⟨(some 5), .mv (.c (.int .i64 0)), none, none⟩]
def f17r3 : IC := .reg false [] f17o3 [0, 1, 5]
@[simp] theorem f17r3_run : run tbl fin K f17r3 e H = regK tbl fin K [] f17o3 [0, 1, 5] e H := run_regK _ _ _ _ _ _ _ _ _ rfl
@[simp] def f17o4 : List IOper := [
  ⟨(some 11), .mv (.t 5), none, none⟩,
  ⟨(some 12), .mv (.t 0), none, none⟩,
  ⟨(some 13), .len (.t 12), none, none⟩,
  ⟨(some 14), .bin .lss (.t 11) (.t 13), none, none⟩]
def f17r4 : IC := .reg false [] f17o4 [14, 1, 0, 5]
@[simp] theorem f17r4_run : run tbl fin K f17r4 e H = regK tbl fin K [] f17o4 [14, 1, 0, 5] e H := run_regK _ _ _ _ _ _ _ _ _ rfl
@[simp] def f17o5 : List IOper := [
  ⟨(some 17), .mv (.t 0), none, none⟩,
  ⟨(some 18), .mv (.t 5), none, none⟩,
  ⟨(some 19), .idx 13 (.t 17) (.t 18), none, none⟩,
  ⟨(some 20), .load true 13 (.t 19), none, none⟩,
  ⟨(some 21), .mv (.t 1), none, none⟩,
  ⟨(some 22), .mv (.t 5), none, none⟩,
  ⟨(some 23), .idx 13 (.t 21) (.t 22), none, none⟩,
  ⟨(some 24), .load true 13 (.t 23), none, none⟩,
  ⟨(some 25), .call (.c (.fn 16 [])) [(.t 20), (.t 24)], none, none⟩,
  ⟨(some 26), .un .not (.t 25), none, none⟩]
def f17r5 : IC := .reg true [] f17o5 [26, 1, 0, 5]
@[simp] theorem f17r5_run : run tbl fin K f17r5 e H = regK tbl fin K [] f17o5 [26, 1, 0, 5] e H := run_regK _ _ _ _ _ _ _ _ _ rfl
@[simp] def f17o6 : List IOper := [
  ⟨(some 4), .mv (.c (.bool false)), none, none⟩]
def f17r6 : IC := .reg false [] f17o6 [4]
@[simp] theorem f17r6_run : run tbl fin K f17r6 e H = regK tbl fin K [] f17o6 [4] e H := run_regK _ _ _ _ _ _ _ _ _ rfl
@[simp] def f17o7 : List IOper := [
  ⟨(some 15), .mv (.t 5), none, none⟩,
  ⟨(some 16), .bin .add (.t 15) (.c (.int .i64 1)), none, none⟩,
  ⟨(some 5), .mv (.t 16), none, none⟩]
def f17r7 : IC := .reg false [] f17o7 [0, 1, 5]
@[simp] theorem f17r7_run : run tbl fin K f17r7 e H = regK tbl fin K [] f17o7 [0, 1, 5] e H := run_regK _ _ _ _ _ _ _ _ _ rfl
def f17b8 : IC := (.seq (.seq f17r4 (.cond (.t 14) .skip (.exit 0))) (.seq (.block 1 (.seq f17r5 (.cond (.t 26) (.seq f17r6 .ret) .skip))) f17r7))
theorem f17b8_eq : f17b8 = (.seq (.seq f17r4 (.cond (.t 14) .skip (.exit 0))) (.seq (.block 1 (.seq f17r5 (.cond (.t 26) (.seq f17r6 .ret) .skip))) f17r7)) := rfl
@[simp] def f17o9 : List IOper := [
  ⟨(some 4), .mv (.c (.bool true)), none, none⟩]
def f17r9 : IC := .reg false [] f17o9 [4]
@[simp] theorem f17r9_run : run tbl fin K f17r9 e H = regK tbl fin K [] f17o9 [4] e H := run_regK _ _ _ _ _ _ _ _ _ rfl
def f17body : IC := (.seq f17r0 (.seq (.seq f17r1 (.cond (.t 10) (.seq f17r2 .ret) .skip)) (.seq (.seq f17r3 (.block 0 (.loop [0, 1, 5] f17b8))) (.seq f17r9 .ret))))
def f17 : IFn := ⟨27, 2, [.tmp 4], f17body⟩
/- 18: jobshell/proc.New -/
@[simp] def f18o0 : List IOper := [
  ⟨(some 2), .nilrow 30 13, none, none⟩]
def f18r0 : IC := .reg false [] f18o0 [0]
@[simp] theorem f18r0_run : run tbl fin K f18r0 e H = regK tbl fin K [] f18o0 [0] e H := run_regK _ _ _ _ _ _ _ _ _ rfl
@[simp] def f18o1 : List IOper := [
  ⟨(some 3), .mv (.t 0), none, none⟩,
  ⟨(some 4), .build [(.int .i64 0), (.int .i64 0), (.int .i64 0), (.int .i64 0), (.int .i64 0), (.int .i64 0), (.bool false), (.int .i64 0), .e0, .e0, .e0, .e0, (.str [])] [(0, 1, (.c (.int .i64 1))), (2, 1, (.c (.int .i64 1))), (3, 1, (.c (.int .i64 1))), (4, 1, (.c (.int .i64 1))), (12, 1, (.t 3))], none, none⟩,
  ⟨(some 5), .mkrow 30 13 1 (.agg [(.int .i64 0), (.int .i64 0), (.int .i64 0), (.int .i64 0), (.int .i64 0), (.int .i64 0), (.bool false), (.int .i64 0), .e0, .e0, .e0, .e0, (.str [])]) [(0, (.t 4))], none, none⟩,
  ⟨(some 2), .mv (.t 5), none, none⟩]
def f18r1 : IC := .reg false [] f18o1 [2]
@[simp] theorem f18r1_run : run tbl fin K f18r1 e H = regK tbl fin K [] f18o1 [2] e H := run_regK _ _ _ _ _ _ _ _ _ rfl
def f18body : IC := (.seq f18r0 (.seq f18r1 .ret))
def f18 : IFn := ⟨6, 1, [.tmp 2], f18body⟩
/- 19: jobshell/jobshellref27.New -/
@[simp] def f19o0 : List IOper := [
  ⟨(some 2), .nilrow 30 13, none, none⟩]
def f19r0 : IC := .reg false [] f19o0 [0]
@[simp] theorem f19r0_run : run tbl fin K f19r0 e H = regK tbl fin K [] f19o0 [0] e H := run_regK _ _ _ _ _ _ _ _ _ rfl
@[simp] def f19o1 : List IOper := [
  ⟨(some 3), .mv (.t 0), none, none⟩,
  ⟨(some 4), .build [(.int .i64 0), (.int .i64 0), (.int .i64 0), (.int .i64 0), (.int .i64 0), (.int .i64 0), (.bool false), (.int .i64 0), .e0, .e0, .e0, .e0, (.str [])] [(0, 1, (.c (.int .i64 1))), (2, 1, (.c (.int .i64 1))), (3, 1, (.c (.int .i64 1))), (4, 1, (.c (.int .i64 1))), (12, 1, (.t 3))], none, none⟩,
  ⟨(some 5), .mkrow 30 13 1 (.agg [(.int .i64 0), (.int .i64 0), (.int .i64 0), (.int .i64 0), (.int .i64 0), (.int .i64 0), (.bool false), (.int .i64 0), .e0, .e0, .e0, .e0, (.str [])]) [(0, (.t 4))], none, none⟩,
  ⟨(some 2), .mv (.t 5), none, none⟩]
def f19r1 : IC := .reg false [] f19o1 [2]
@[simp] theorem f19r1_run : run tbl fin K f19r1 e H = regK tbl fin K [] f19o1 [2] e H := run_regK _ _ _ _ _ _ _ _ _ rfl
def f19body : IC := (.seq f19r0 (.seq f19r1 .ret))
def f19 : IFn := ⟨6, 1, [.tmp 2], f19body⟩
/- 20: jobshell/jobshelllaw27.ok -/
@[simp] def f20o0 : List IOper := [
  ⟨(some 2), .mv (.c (.bool false)), none, none⟩]
def f20r0 : IC := .reg false [] f20o0 [0]
@[simp] theorem f20r0_run : run tbl fin K f20r0 e H = regK tbl fin K [] f20o0 [0] e H := run_regK _ _ _ _ _ _ _ _ _ rfl
@[simp] def f20o1 : List IOper := [
  ⟨(some 3), .mv (.t 0), none, none⟩,
  ⟨(some 4), .call (.c (.fn 10 [])) [(.t 3)], none, none⟩,
  ⟨(some 5), .mv (.t 4), none, none⟩,
  ⟨(some 6), .mv (.t 0), (some (5, true)), none⟩,
  ⟨(some 7), .call (.c (.fn 15 [])) [(.t 6)], (some (5, true)), none⟩,
  ⟨(some 8), .bin .eql (.t 7) (.c (.int .i64 0)), (some (5, true)), none⟩,
  ⟨(some 9), .pick (.t 5) (.t 8) (.c (.bool false)), none, none⟩,
  ⟨(some 2), .mv (.t 9), none, none⟩]
def f20r1 : IC := .reg false [] f20o1 [2]
@[simp] theorem f20r1_run : run tbl fin K f20r1 e H = regK tbl fin K [] f20o1 [2] e H := run_regK _ _ _ _ _ _ _ _ _ rfl
def f20body : IC := (.seq f20r0 (.seq f20r1 .ret))
def f20 : IFn := ⟨10, 1, [.tmp 2], f20body⟩
/- 21: jobshell/proc.Wait -/
@[simp] def f21o0 : List IOper := [
  ⟨(some 5), .box 3 1 (.t 1), none, none⟩,
  ⟨(some 6), .box 3 1 (.t 2), none, none⟩,
  ⟨(some 7), .box 3 1 (.t 3), none, none⟩,
  ⟨(some 8), .nilrow 30 13, none, none⟩,
  ⟨(some 9), .mv (.c (.int .i64 0)), none, none⟩,
  ⟨(some 10), .mv (.c (.int .i64 0)), none, none⟩,
  ⟨(some 11), .mv (.c (.int .i64 0)), none, none⟩,
  ⟨(some 12), .mv (.c (.int .i64 0)), none, none⟩]
def f21r0 : IC := .reg false [] f21o0 [7, 5, 6, 0]
@[simp] theorem f21r0_run : run tbl fin K f21r0 e H = regK tbl fin K [] f21o0 [7, 5, 6, 0] e H := run_regK _ _ _ _ _ _ _ _ _ rfl
@[simp] def f21o1 : List IOper := [
  ⟨(some 18), .mv (.t 0), none, none⟩,
  ⟨(some 19), .load false 1 (.t 5), none, none⟩,
  ⟨(some 20), .call (.c (.fn 47 [])) [(.t 18), (.t 19)], none, none⟩,
  ⟨(some 21), .bin .lss (.t 20) (.c (.int .i64 0)), none, none⟩]
def f21r1 : IC := .reg false [] f21o1 [21, 7, 5, 6, 0]
@[simp] theorem f21r1_run : run tbl fin K f21r1 e H = regK tbl fin K [] f21o1 [21, 7, 5, 6, 0] e H := run_regK _ _ _ _ _ _ _ _ _ rfl
@[simp] def f21o2 : List IOper := [
  ⟨(some 22), .mv (.t 0), none, none⟩,
  ⟨(some 8), .mv (.t 22), none, none⟩,
  ⟨(some 9), .mv (.c (.int .i64 0)), none, none⟩,
  ⟨(some 10), .mv (.c (.int .i64 0)), none, none⟩,
  ⟨(some 11), .mv (.c (.int .i64 0)), none, none⟩,
  ⟨(some 12), .mv (.c (.int .i64 21)), none, none⟩]
def f21r2 : IC := .reg false [] f21o2 [8, 9, 10, 11, 12]
@[simp] theorem f21r2_run : run tbl fin K f21r2 e H = regK tbl fin K [] f21o2 [8, 9, 10, 11, 12] e H := run_regK _ _ _ _ _ _ _ _ _ rfl
@[simp] def f21o3 : List IOper := [
  ⟨(some 23), .mv (.t 0), none, none⟩,
  ⟨(some 24), .mkfn 49 [(.t 5), (.t 6)], none, none⟩,
  ⟨(some 25), .ocall (.c (.fn 48 [])) [(.t 23), (.t 24)], none, none⟩,
  ⟨(some 13), .mv (.t 25), none, none⟩]
def f21r3 : IC := .reg false [] f21o3 [7, 13, 0]
@[simp] theorem f21r3_run : run tbl fin K f21r3 e H = regK tbl fin K [] f21o3 [7, 13, 0] e H := run_regK _ _ _ _ _ _ _ _ _ rfl
@[simp] def f21o4 : List IOper := [
  ⟨(some 26), .mv (.t 13), none, none⟩,
  ⟨(some 27), .len (.t 26), none, none⟩,
  ⟨(some 28), .bin .eql (.t 27) (.c (.int .i64 0)), none, none⟩]
def f21r4 : IC := .reg false [] f21o4 [28, 7, 13, 0]
@[simp] theorem f21r4_run : run tbl fin K f21r4 e H = regK tbl fin K [] f21o4 [28, 7, 13, 0] e H := run_regK _ _ _ _ _ _ _ _ _ rfl
@[simp] def f21o5 : List IOper := [
  ⟨(some 29), .mv (.t 0), none, none⟩,
  ⟨(some 8), .mv (.t 29), none, none⟩,
  ⟨(some 9), .mv (.c (.int .i64 0)), none, none⟩,
  ⟨(some 10), .mv (.c (.int .i64 0)), none, none⟩,
  ⟨(some 11), .mv (.c (.int .i64 0)), none, none⟩,
  ⟨(some 12), .mv (.c (.int .i64 20)), none, none⟩]
def f21r5 : IC := .reg false [] f21o5 [8, 9, 10, 11, 12]
@[simp] theorem f21r5_run : run tbl fin K f21r5 e H = regK tbl fin K [] f21o5 [8, 9, 10, 11, 12] e H := run_regK _ _ _ _ _ _ _ _ _ rfl
@[simp] def f21o6 : List IOper := [
  ⟨(some 30), .mv (.t 13), none, none⟩,
  ⟨(some 31), .mkfn 50 [(.t 7)], none, none⟩,
  ⟨(some 32), .ocall (.c (.fn 48 [])) [(.t 30), (.t 31)], none, none⟩,
  ⟨(some 14), .mv (.t 32), none, none⟩]
def f21r6 : IC := .reg false [] f21o6 [14, 7, 0]
@[simp] theorem f21r6_run : run tbl fin K f21r6 e H = regK tbl fin K [] f21o6 [14, 7, 0] e H := run_regK _ _ _ _ _ _ _ _ _ rfl
@[simp] def f21o7 : List IOper := [
  ⟨(some 33), .mv (.t 14), none, none⟩,
  ⟨(some 34), .len (.t 33), none, none⟩,
  ⟨(some 35), .bin .eql (.t 34) (.c (.int .i64 0)), none, none⟩]
def f21r7 : IC := .reg false [] f21o7 [35, 14, 7, 0]
@[simp] theorem f21r7_run : run tbl fin K f21r7 e H = regK tbl fin K [] f21o7 [35, 14, 7, 0] e H := run_regK _ _ _ _ _ _ _ _ _ rfl
@[simp] def f21o8 : List IOper := [
  ⟨(some 36), .load false 1 (.t 7), none, none⟩,
  ⟨(some 37), .bin .and (.t 36) (.c (.int .i64 1)), none, none⟩,
  ⟨(some 38), .bin .neq (.t 37) (.c (.int .i64 0)), none, none⟩]
def f21r8 : IC := .reg false [] f21o8 [38, 0]
@[simp] theorem f21r8_run : run tbl fin K f21r8 e H = regK tbl fin K [] f21o8 [38, 0] e H := run_regK _ _ _ _ _ _ _ _ _ rfl
@[simp] def f21o9 : List IOper := [
  ⟨(some 39), .mv (.t 0), none, none⟩,
  ⟨(some 8), .mv (.t 39), none, none⟩,
  ⟨(some 9), .mv (.c (.int .i64 0)), none, none⟩,
  ⟨(some 10), .mv (.c (.int .i64 0)), none, none⟩,
  ⟨(some 11), .mv (.c (.int .i64 3)), none, none⟩,
  ⟨(some 12), .mv (.c (.int .i64 0)), none, none⟩]
def f21r9 : IC := .reg false [] f21o9 [8, 9, 10, 11, 12]
@[simp] theorem f21r9_run : run tbl fin K f21r9 e H = regK tbl fin K [] f21o9 [8, 9, 10, 11, 12] e H := run_regK _ _ _ _ _ _ _ _ _ rfl
@[simp] def f21o10 : List IOper := [
  ⟨(some 40), .mv (.t 0), none, none⟩,
  ⟨(some 8), .mv (.t 40), none, none⟩,
  ⟨(some 9), .mv (.c (.int .i64 0)), none, none⟩,
  ⟨(some 10), .mv (.c (.int .i64 0)), none, none⟩,
  ⟨(some 11), .mv (.c (.int .i64 2)), none, none⟩,
  ⟨(some 12), .mv (.c (.int .i64 0)), none, none⟩]
def f21r10 : IC := .reg false [] f21o10 [8, 9, 10, 11, 12]
@[simp] theorem f21r10_run : run tbl fin K f21r10 e H = regK tbl fin K [] f21o10 [8, 9, 10, 11, 12] e H := run_regK _ _ _ _ _ _ _ _ _ rfl
@[simp] def f21o11 : List IOper := [
  ⟨(some 41), .mv (.t 14), none, none⟩,
  ⟨(some 42), .idx 13 (.t 41) (.c (.int .i64 0)), none, none⟩,
  ⟨(some 43), .load true 13 (.t 42), none, none⟩,
  ⟨(some 15), .new 30 13 (.agg [(.int .i64 0), (.int .i64 0), (.int .i64 0), (.int .i64 0), (.int .i64 0), (.int .i64 0), (.bool false), (.int .i64 0), .e0, .e0, .e0, .e0, (.str [])]), none, none⟩,
  ⟨none, .store 13 (.t 15) (.t 43), none, none⟩]
def f21r11 : IC := .reg false [] f21o11 [0, 15]
@[simp] theorem f21r11_run : run tbl fin K f21r11 e H = regK tbl fin K [] f21o11 [0, 15] e H := run_regK _ _ _ _ _ _ _ _ _ rfl
@[simp] def f21o12 : List IOper := [
  ⟨(some 44), .mv (.t 0), none, none⟩,
  ⟨(some 45), .mkfn 53 [(.t 15)], none, none⟩,
  ⟨(some 46), .ocall (.c (.fn 52 [])) [(.t 44), (.t 45)], none, none⟩,
  ⟨(some 16), .mv (.t 46), none, none⟩]
def f21r12 : IC := .reg false [] f21o12 [0, 16, 15]
@[simp] theorem f21r12_run : run tbl fin K f21r12 e H = regK tbl fin K [] f21o12 [0, 16, 15] e H := run_regK _ _ _ _ _ _ _ _ _ rfl
@[simp] def f21o13 : List IOper := [
  ⟨(some 47), .mv (.t 0), none, none⟩,
  ⟨(some 48), .call (.c (.fn 54 [])) [(.t 47)], none, none⟩,
  ⟨(some 17), .mv (.t 48), none, none⟩]
def f21r13 : IC := .reg false [] f21o13 [17, 16, 15]
@[simp] theorem f21r13_run : run tbl fin K f21r13 e H = regK tbl fin K [] f21o13 [17, 16, 15] e H := run_regK _ _ _ _ _ _ _ _ _ rfl
@[simp] def f21o14 : List IOper := [
  ⟨(some 49), .fld 4 (.t 15), none, none⟩,
  ⟨(some 50), .load false 1 (.t 49), none, none⟩,
  ⟨(some 51), .bin .eql (.t 50) (.c (.int .i64 3)), none, none⟩]
def f21r14 : IC := .reg false [] f21o14 [51, 17, 16, 15]
@[simp] theorem f21r14_run : run tbl fin K f21r14 e H = regK tbl fin K [] f21o14 [51, 17, 16, 15] e H := run_regK _ _ _ _ _ _ _ _ _ rfl
@[simp] def f21o15 : List IOper := [
  ⟨(some 52), .mv (.t 17), none, none⟩,
  ⟨(some 53), .mv (.t 16), none, none⟩,
  ⟨(some 54), .mv (.t 16), none, none⟩,
  ⟨(some 55), .bin .add (.t 54) (.c (.int .i64 1)), none, none⟩,
  ⟨(some 56), .ocall (.c (.fn 55 [])) [(.t 52), (.t 53), (.t 55)], none, none⟩,
  ⟨(some 17), .mv (.t 56), none, none⟩]
def f21r15 : IC := .reg false [] f21o15 [17, 15]
@[simp] theorem f21r15_run : run tbl fin K f21r15 e H = regK tbl fin K [] f21o15 [17, 15] e H := run_regK _ _ _ _ _ _ _ _ _ rfl
@[simp] def f21o16 : List IOper := [
  ⟨(some 57), .mv (.t 17), none, none⟩,
  ⟨(some 58), .mv (.t 16), none, none⟩,
  ⟨(some 59), .idx 13 (.t 57) (.t 58), none, none⟩,
  ⟨(some 60), .fld 6 (.t 59), none, none⟩,
  ⟨none, .store 1 (.t 60) (.c (.bool false)), none, none⟩]
def f21r16 : IC := .reg false [] f21o16 [17, 15]
@[simp] theorem f21r16_run : run tbl fin K f21r16 e H = regK tbl fin K [] f21o16 [17, 15] e H := run_regK _ _ _ _ _ _ _ _ _ rfl
@[simp] def f21o17 : List IOper := [
  ⟨(some 61), .mv (.t 17), none, none⟩,
  ⟨(some 62), .fld 0 (.t 15), none, none⟩,
  ⟨(some 63), .load false 1 (.t 62), none, none⟩,
  ⟨(some 64), .fld 5 (.t 15), none, none⟩,
  ⟨(some 65), .load false 1 (.t 64), none, none⟩,
  ⟨(some 8), .mv (.t 61), none, none⟩,
  ⟨(some 9), .mv (.t 63), none, none⟩,
  ⟨(some 10), .mv (.t 65), none, none⟩,
  ⟨(some 11), .mv (.c (.int .i64 1)), none, none⟩,
  ⟨(some 12), .mv (.c (.int .i64 0)), none, none⟩]
def f21r17 : IC := .reg true [] f21o17 [8, 9, 10, 11, 12]
@[simp] theorem f21r17_run : run tbl fin K f21r17 e H = regK tbl fin K [] f21o17 [8, 9, 10, 11, 12] e H := run_regK _ _ _ _ _ _ _ _ _ rfl
def f21body : IC := (.seq f21r0 (.seq (.seq f21r1 (.cond (.t 21) (.seq f21r2 .ret) .skip)) (.seq f21r3 (.seq (.seq f21r4 (.cond (.t 28) (.seq f21r5 .ret) .skip)) (.seq f21r6 (.seq (.seq f21r7 (.cond (.t 35) (.seq (.seq f21r8 (.cond (.t 38) (.seq f21r9 .ret) .skip)) (.seq f21r10 .ret)) .skip)) (.seq f21r11 (.seq f21r12 (.seq f21r13 (.seq (.seq f21r14 (.cond (.t 51) f21r15 f21r16)) (.seq f21r17 .ret)))))))))))
def f21 : IFn := ⟨66, 4, [.tmp 8, .tmp 9, .tmp 10, .tmp 11, .tmp 12], f21body⟩
/- 22: jobshell/jobshellref27.Wait -/
@[simp] def f22o0 : List IOper := [
  ⟨(some 8), .nilrow 30 13, none, none⟩,
  ⟨(some 9), .mv (.c (.int .i64 0)), none, none⟩,
  ⟨(some 10), .mv (.c (.int .i64 0)), none, none⟩,
  ⟨(some 11), .mv (.c (.int .i64 0)), none, none⟩,
  ⟨(some 12), .mv (.c (.int .i64 0)), none, none⟩]
def f22r0 : IC := .reg false [] f22o0 [3, 2, 1, 0]
@[simp] theorem f22r0_run : run tbl fin K f22r0 e H = regK tbl fin K [] f22o0 [3, 2, 1, 0] e H := run_regK _ _ _ _ _ _ _ _ _ rfl
@[simp] def f22o1 : List IOper := [
  ⟨(some 17), .mv (.t 0), none, none⟩,
  ⟨(some 18), .mv (.t 1), none, none⟩,
  ⟨(some 19), .call (.c (.fn 56 [])) [(.t 17), (.t 18)], none, none⟩,
  ⟨(some 20), .bin .lss (.t 19) (.c (.int .i64 0)), none, none⟩]
def f22r1 : IC := .reg false [] f22o1 [20, 3, 2, 1, 0]
@[simp] theorem f22r1_run : run tbl fin K f22r1 e H = regK tbl fin K [] f22o1 [20, 3, 2, 1, 0] e H := run_regK _ _ _ _ _ _ _ _ _ rfl
@[simp] def f22o2 : List IOper := [
  ⟨(some 21), .mv (.t 0), none, none⟩,
  ⟨(some 8), .mv (.t 21), none, none⟩,
  ⟨(some 9), .mv (.c (.int .i64 0)), none, none⟩,
  ⟨(some 10), .mv (.c (.int .i64 0)), none, none⟩,
  ⟨(some 11), .mv (.c (.int .i64 0)), none, none⟩,
  ⟨(some 12), .mv (.c (.int .i64 21)), none, none⟩]
def f22r2 : IC := .reg false [] f22o2 [8, 9, 10, 11, 12]
@[simp] theorem f22r2_run : run tbl fin K f22r2 e H = regK tbl fin K [] f22o2 [8, 9, 10, 11, 12] e H := run_regK _ _ _ _ _ _ _ _ _ rfl
@[simp] def f22o3 : List IOper := [
  ⟨(some 13), .mv (.c (.bool false)), none, none⟩]
def f22r3 : IC := .reg false [] f22o3 [13, 1, 2, 0, 3]
@[simp] theorem f22r3_run : run tbl fin K f22r3 e H = regK tbl fin K [] f22o3 [13, 1, 2, 0, 3] e H := run_regK _ _ _ _ _ _ _ _ _ rfl
@[simp] def f22o4 : List IOper := [
  ⟨(some 14), .mv (.c (.int .i64 0)), none, none⟩]
def f22r4 : IC := .reg false [] f22o4 [14, 13, 1, 2, 0, 3]
@[simp] theorem f22r4_run : run tbl fin K f22r4 e H = regK tbl fin K [] f22o4 [14, 13, 1, 2, 0, 3] e H := run_regK _ _ _ _ _ _ _ _ _ rfl
@[simp] def f22o5 : List IOper := [
  ⟨(some 22), .mv (.t 14), none, none⟩,
  ⟨(some 23), .mv (.t 0), none, none⟩,
  ⟨(some 24), .len (.t 23), none, none⟩,
  ⟨(some 25), .bin .lss (.t 22) (.t 24), none, none⟩]
def f22r5 : IC := .reg false [] f22o5 [25, 14, 13, 1, 2, 0, 3]
@[simp] theorem f22r5_run : run tbl fin K f22r5 e H = regK tbl fin K [] f22o5 [25, 14, 13, 1, 2, 0, 3] e H := run_regK _ _ _ _ _ _ _ _ _ rfl
@[simp] def f22o6 : List IOper := [
  ⟨(some 28), .mv (.t 0), none, none⟩,
  ⟨(some 29), .mv (.t 14), none, none⟩,
  ⟨(some 30), .idx 13 (.t 28) (.t 29), none, none⟩,
  ⟨(some 31), .load true 13 (.t 30), none, none⟩,
  ⟨(some 15), .new 30 13 (.agg [(.int .i64 0), (.int .i64 0), (.int .i64 0), (.int .i64 0), (.int .i64 0), (.int .i64 0), (.bool false), (.int .i64 0), .e0, .e0, .e0, .e0, (.str [])]), none, none⟩,
  ⟨none, .store 13 (.t 15) (.t 31), none, none⟩]
def f22r6 : IC := .reg false [] f22o6 [15, 14, 13, 1, 2, 0, 3]
@[simp] theorem f22r6_run : run tbl fin K f22r6 e H = regK tbl fin K [] f22o6 [15, 14, 13, 1, 2, 0, 3] e H := run_regK _ _ _ _ _ _ _ _ _ rfl
@[simp] def f22o7 : List IOper := [
  ⟨(some 32), .load true 13 (.t 15), none, none⟩,
  ⟨(some 33), .mv (.t 1), none, none⟩,
  ⟨(some 34), .mv (.t 2), none, none⟩,
  ⟨(some 35), .call (.c (.fn 57 [])) [(.t 32), (.t 33), (.t 34)], none, none⟩,
  ⟨(some 36), .un .not (.t 35), none, none⟩]
def f22r7 : IC := .reg false [] f22o7 [36, 15, 14, 13, 1, 2, 0, 3]
@[simp] theorem f22r7_run : run tbl fin K f22r7 e H = regK tbl fin K [] f22o7 [36, 15, 14, 13, 1, 2, 0, 3] e H := run_regK _ _ _ _ _ _ _ _ _ rfl
@[simp] def f22o8 : List IOper := [
  ⟨(some 13), .mv (.c (.bool true)), none, none⟩]
def f22r8 : IC := .reg false [] f22o8 [15, 14, 13, 1, 2, 0, 3]
@[simp] theorem f22r8_run : run tbl fin K f22r8 e H = regK tbl fin K [] f22o8 [15, 14, 13, 1, 2, 0, 3] e H := run_regK _ _ _ _ _ _ _ _ _ rfl
@[simp] def f22o9 : List IOper := [
  ⟨(some 37), .load true 13 (.t 15), none, none⟩,
  ⟨(some 38), .mv (.t 3), none, none⟩,
  ⟨(some 39), .call (.c (.fn 58 [])) [(.t 37), (.t 38)], none, none⟩,
  ⟨(some 40), .un .not (.t 39), none, none⟩]
def f22r9 : IC := .reg false [] f22o9 [40, 15, 14, 13, 1, 2, 0, 3]
@[simp] theorem f22r9_run : run tbl fin K f22r9 e H = regK tbl fin K [] f22o9 [40, 15, 14, 13, 1, 2, 0, 3] e H := run_regK _ _ _ _ _ _ _ _ _ rfl
@[simp] def f22o10 : List IOper := [
  ⟨(some 41), .mv (.t 0), none, none⟩,
  ⟨(some 42), .call (.c (.fn 59 [])) [(.t 41)], none, none⟩,
  ⟨(some 16), .mv (.t 42), none, none⟩]
def f22r10 : IC := .reg false [] f22o10 [16, 0, 14, 15]
@[simp] theorem f22r10_run : run tbl fin K f22r10 e H = regK tbl fin K [] f22o10 [16, 0, 14, 15] e H := run_regK _ _ _ _ _ _ _ _ _ rfl
@[simp] def f22o11 : List IOper := [
  ⟨(some 43), .fld 4 (.t 15), none, none⟩,
  ⟨(some 44), .load false 1 (.t 43), none, none⟩,
  ⟨(some 45), .bin .eql (.t 44) (.c (.int .i64 3)), none, none⟩]
def f22r11 : IC := .reg false [] f22o11 [45, 16, 0, 14, 15]
@[simp] theorem f22r11_run : run tbl fin K f22r11 e H = regK tbl fin K [] f22o11 [45, 16, 0, 14, 15] e H := run_regK _ _ _ _ _ _ _ _ _ rfl
@[simp] def f22o12 : List IOper := [
  ⟨(some 46), .mv (.t 0), none, none⟩,
  ⟨(some 47), .mv (.t 14), none, none⟩,
  ⟨(some 48), .slc 13 (.t 46) none (some (.t 47)), none, none⟩,
  ⟨(some 49), .call (.c (.fn 59 [])) [(.t 48)], none, none⟩,
  ⟨(some 50), .mv (.t 0), none, none⟩,
  ⟨(some 51), .mv (.t 14), none, none⟩,
  ⟨(some 52), .bin .add (.t 51) (.c (.int .i64 1)), none, none⟩,
  ⟨(some 53), .slc 13 (.t 50) (some (.t 52)) none, none, none⟩,
  ⟨(some 54), .app 30 13 (.t 49) (.t 53), none, none⟩,
  ⟨(some 16), .mv (.t 54), none, none⟩]
def f22r12 : IC := .reg true [] f22o12 [16, 15]
@[simp] theorem f22r12_run : run tbl fin K f22r12 e H = regK tbl fin K [] f22o12 [16, 15] e H := run_regK _ _ _ _ _ _ _ _ _ rfl
@[simp] def f22o13 : List IOper := [
  ⟨(some 55), .mv (.t 16), none, none⟩,
  ⟨(some 56), .mv (.t 14), none, none⟩,
  ⟨(some 57), .idx 13 (.t 55) (.t 56), none, none⟩,
  ⟨(some 58), .fld 6 (.t 57), none, none⟩,
  ⟨none, .store 1 (.t 58) (.c (.bool false)), none, none⟩]
def f22r13 : IC := .reg false [] f22o13 [16, 15]
@[simp] theorem f22r13_run : run tbl fin K f22r13 e H = regK tbl fin K [] f22o13 [16, 15] e H := run_regK _ _ _ _ _ _ _ _ _ rfl
@[simp] def f22o14 : List IOper := [
  ⟨(some 59), .mv (.t 16), none, none⟩,
  ⟨(some 60), .fld 0 (.t 15), none, none⟩,
  ⟨(some 61), .load false 1 (.t 60), none, none⟩,
  ⟨(some 62), .fld 5 (.t 15), none, none⟩,
  ⟨(some 63), .load false 1 (.t 62), none, none⟩,
  ⟨(some 8), .mv (.t 59), none, none⟩,
  ⟨(some 9), .mv (.t 61), none, none⟩,
  ⟨(some 10), .mv (.t 63), none, none⟩,
  ⟨(some 11), .mv (.c (.int .i64 1)), none, none⟩,
  ⟨(some 12), .mv (.c (.int .i64 0)), none, none⟩]
def f22r14 : IC := .reg true [] f22o14 [8, 9, 10, 11, 12]
@[simp] theorem f22r14_run : run tbl fin K f22r14 e H = regK tbl fin K [] f22o14 [8, 9, 10, 11, 12] e H := run_regK _ _ _ _ _ _ _ _ _ rfl
@[simp] def f22o15 : List IOper := [
  ⟨(some 26), .mv (.t 14), none, none⟩,
  ⟨(some 27), .bin .add (.t 26) (.c (.int .i64 1)), none, none⟩,
  ⟨(some 14), .mv (.t 27), none, none⟩]
def f22r15 : IC := .reg false [] f22o15 [14, 13, 1, 2, 0, 3]
@[simp] theorem f22r15_run : run tbl fin K f22r15 e H = regK tbl fin K [] f22o15 [14, 13, 1, 2, 0, 3] e H := run_regK _ _ _ _ _ _ _ _ _ rfl
def f22b16 : IC := (.seq (.seq f22r5 (.cond (.t 25) .skip (.exit 0))) (.seq (.block 1 (.seq f22r6 (.seq (.seq f22r7 (.cond (.t 36) (.exit 1) .skip)) (.seq f22r8 (.seq (.seq f22r9 (.cond (.t 40) (.exit 1) .skip)) (.seq f22r10 (.seq (.seq f22r11 (.cond (.t 45) f22r12 f22r13)) (.seq f22r14 .ret)))))))) f22r15))
theorem f22b16_eq : f22b16 = (.seq (.seq f22r5 (.cond (.t 25) .skip (.exit 0))) (.seq (.block 1 (.seq f22r6 (.seq (.seq f22r7 (.cond (.t 36) (.exit 1) .skip)) (.seq f22r8 (.seq (.seq f22r9 (.cond (.t 40) (.exit 1) .skip)) (.seq f22r10 (.seq (.seq f22r11 (.cond (.t 45) f22r12 f22r13)) (.seq f22r14 .ret)))))))) f22r15)) := rfl
@[simp] def f22o17 : List IOper := [
  ⟨(some 64), .mv (.t 13), none, none⟩,
  ⟨(some 65), .un .not (.t 64), none, none⟩]
def f22r17 : IC := .reg false [] f22o17 [65, 3, 0]
@[simp] theorem f22r17_run : run tbl fin K f22r17 e H = regK tbl fin K [] f22o17 [65, 3, 0] e H := run_regK _ _ _ _ _ _ _ _ _ rfl
@[simp] def f22o18 : List IOper := [
  ⟨(some 66), .mv (.t 0), none, none⟩,
  ⟨(some 8), .mv (.t 66), none, none⟩,
  ⟨(some 9), .mv (.c (.int .i64 0)), none, none⟩,
  ⟨(some 10), .mv (.c (.int .i64 0)), none, none⟩,
  ⟨(some 11), .mv (.c (.int .i64 0)), none, none⟩,
  ⟨(some 12), .mv (.c (.int .i64 20)), none, none⟩]
def f22r18 : IC := .reg false [] f22o18 [8, 9, 10, 11, 12]
@[simp] theorem f22r18_run : run tbl fin K f22r18 e H = regK tbl fin K [] f22o18 [8, 9, 10, 11, 12] e H := run_regK _ _ _ _ _ _ _ _ _ rfl
@[simp] def f22o19 : List IOper := [
  ⟨(some 67), .mv (.t 3), none, none⟩,
  ⟨(some 68), .bin .and (.t 67) (.c (.int .i64 1)), none, none⟩,
  ⟨(some 69), .bin .neq (.t 68) (.c (.int .i64 0)), none, none⟩]
def f22r19 : IC := .reg false [] f22o19 [69, 0]
@[simp] theorem f22r19_run : run tbl fin K f22r19 e H = regK tbl fin K [] f22o19 [69, 0] e H := run_regK _ _ _ _ _ _ _ _ _ rfl
@[simp] def f22o20 : List IOper := [
  ⟨(some 70), .mv (.t 0), none, none⟩,
  ⟨(some 8), .mv (.t 70), none, none⟩,
  ⟨(some 9), .mv (.c (.int .i64 0)), none, none⟩,
  ⟨(some 10), .mv (.c (.int .i64 0)), none, none⟩,
  ⟨(some 11), .mv (.c (.int .i64 3)), none, none⟩,
  ⟨(some 12), .mv (.c (.int .i64 0)), none, none⟩]
def f22r20 : IC := .reg false [] f22o20 [8, 9, 10, 11, 12]
@[simp] theorem f22r20_run : run tbl fin K f22r20 e H = regK tbl fin K [] f22o20 [8, 9, 10, 11, 12] e H := run_regK _ _ _ _ _ _ _ _ _ rfl
@[simp] def f22o21 : List IOper := [
  ⟨(some 71), .mv (.t 0), none, none⟩,
  ⟨(some 8), .mv (.t 71), none, none⟩,
  ⟨(some 9), .mv (.c (.int .i64 0)), none, none⟩,
  ⟨(some 10), .mv (.c (.int .i64 0)), none, none⟩,
  ⟨(some 11), .mv (.c (.int .i64 2)), none, none⟩,
  ⟨(some 12), .mv (.c (.int .i64 0)), none, none⟩]
def f22r21 : IC := .reg false [] f22o21 [8, 9, 10, 11, 12]
@[simp] theorem f22r21_run : run tbl fin K f22r21 e H = regK tbl fin K [] f22o21 [8, 9, 10, 11, 12] e H := run_regK _ _ _ _ _ _ _ _ _ rfl
def f22body : IC := (.seq f22r0 (.seq (.seq f22r1 (.cond (.t 20) (.seq f22r2 .ret) .skip)) (.seq f22r3 (.seq (.seq f22r4 (.block 0 (.loop [14, 13, 1, 2, 0, 3] f22b16))) (.seq (.seq f22r17 (.cond (.t 65) (.seq f22r18 .ret) .skip)) (.seq (.seq f22r19 (.cond (.t 69) (.seq f22r20 .ret) .skip)) (.seq f22r21 .ret)))))))
def f22 : IFn := ⟨72, 4, [.tmp 8, .tmp 9, .tmp 10, .tmp 11, .tmp 12], f22body⟩
/- 23: jobshell/proc.Group -/
@[simp] def f23o0 : List IOper := [
  ⟨(some 7), .box 3 1 (.t 3), none, none⟩,
  ⟨(some 8), .nilrow 30 13, none, none⟩,
  ⟨(some 9), .mv (.c (.int .i64 0)), none, none⟩]
def f23r0 : IC := .reg false [] f23o0 [2, 1, 7, 0]
@[simp] theorem f23r0_run : run tbl fin K f23r0 e H = regK tbl fin K [] f23o0 [2, 1, 7, 0] e H := run_regK _ _ _ _ _ _ _ _ _ rfl
@[simp] def f23o1 : List IOper := [
  ⟨(some 17), .mv (.t 2), none, none⟩,
  ⟨(some 18), .bin .eql (.t 17) (.c (.int .i64 0)), none, none⟩]
def f23r1 : IC := .reg false [] f23o1 [18, 2, 1, 7, 0]
@[simp] theorem f23r1_run : run tbl fin K f23r1 e H = regK tbl fin K [] f23o1 [18, 2, 1, 7, 0] e H := run_regK _ _ _ _ _ _ _ _ _ rfl
@[simp] def f23o2 : List IOper := [
  ⟨(some 19), .mv (.t 1), none, none⟩,
  ⟨(some 2), .mv (.t 19), none, none⟩]
def f23r2 : IC := .reg false [] f23o2 [1, 2, 7, 0]
@[simp] theorem f23r2_run : run tbl fin K f23r2 e H = regK tbl fin K [] f23o2 [1, 2, 7, 0] e H := run_regK _ _ _ _ _ _ _ _ _ rfl
@[simp] def f23o3 : List IOper := [
  ⟨(some 20), .load false 1 (.t 7), none, none⟩,
  ⟨(some 21), .bin .eql (.t 20) (.c (.int .i64 0)), none, none⟩]
def f23r3 : IC := .reg false [] f23o3 [21, 1, 2, 7, 0]
@[simp] theorem f23r3_run : run tbl fin K f23r3 e H = regK tbl fin K [] f23o3 [21, 1, 2, 7, 0] e H := run_regK _ _ _ _ _ _ _ _ _ rfl
@[simp] def f23o4 : List IOper := [
  ⟨(some 22), .mv (.t 2), none, none⟩,
  ⟨none, .store 1 (.t 7) (.t 22), none, none⟩]
def f23r4 : IC := .reg false [] f23o4 [1, 2, 7, 0]
@[simp] theorem f23r4_run : run tbl fin K f23r4 e H = regK tbl fin K [] f23o4 [1, 2, 7, 0] e H := run_regK _ _ _ _ _ _ _ _ _ rfl
@[simp] def f23o5 : List IOper := [
  ⟨(some 23), .mv (.t 0), none, none⟩,
  ⟨(some 24), .mv (.t 1), none, none⟩,
  ⟨(some 25), .call (.c (.fn 47 [])) [(.t 23), (.t 24)], none, none⟩,
  ⟨(some 26), .mv (.t 0), none, none⟩,
  ⟨(some 27), .mv (.t 2), none, none⟩,
  ⟨(some 28), .call (.c (.fn 47 [])) [(.t 26), (.t 27)], none, none⟩,
  ⟨(some 10), .mv (.t 25), none, none⟩,
  ⟨(some 11), .mv (.t 28), none, none⟩]
def f23r5 : IC := .reg false [] f23o5 [1, 10, 2, 7, 11, 0]
@[simp] theorem f23r5_run : run tbl fin K f23r5 e H = regK tbl fin K [] f23o5 [1, 10, 2, 7, 11, 0] e H := run_regK _ _ _ _ _ _ _ _ _ rfl
@[simp] def f23o6 : List IOper := [
  ⟨(some 30), .mv (.t 10), none, none⟩,
  ⟨(some 31), .bin .lss (.t 30) (.c (.int .i64 0)), none, none⟩,
  ⟨(some 32), .mv (.t 31), none, none⟩,
  ⟨(some 33), .mv (.t 11), (some (32, false)), none⟩,
  ⟨(some 34), .bin .lss (.t 33) (.c (.int .i64 0)), (some (32, false)), none⟩,
  ⟨(some 35), .pick (.t 32) (.c (.bool true)) (.t 34), none, none⟩,
  ⟨(some 29), .mv (.t 35), none, none⟩]
def f23r6 : IC := .reg false [] f23o6 [1, 29, 10, 2, 7, 11, 0]
@[simp] theorem f23r6_run : run tbl fin K f23r6 e H = regK tbl fin K [] f23o6 [1, 29, 10, 2, 7, 11, 0] e H := run_regK _ _ _ _ _ _ _ _ _ rfl
@[simp] def f23o7 : List IOper := [
  ⟨(some 36), .mv (.t 2), none, none⟩,
  ⟨(some 37), .mv (.t 1), none, none⟩,
  ⟨(some 38), .bin .neq (.t 36) (.t 37), none, none⟩,
  ⟨(some 39), .mv (.t 38), none, none⟩,
  ⟨(some 40), .mv (.t 0), (some (39, true)), none⟩,
  ⟨(some 41), .mv (.t 11), (some (39, true)), none⟩,
  ⟨(some 42), .idx 13 (.t 40) (.t 41), (some (39, true)), none⟩,
  ⟨(some 43), .fld 1 (.t 42), (some (39, true)), some [43, 1, 39, 10, 2, 7, 11, 0]⟩,
  ⟨(some 44), .load false 1 (.t 43), (some (39, true)), none⟩,
  ⟨(some 45), .mv (.t 1), (some (39, true)), none⟩,
  ⟨(some 46), .bin .neq (.t 44) (.t 45), (some (39, true)), none⟩,
  ⟨(some 47), .pick (.t 39) (.t 46) (.c (.bool false)), none, none⟩,
  ⟨(some 29), .mv (.t 47), none, none⟩]
def f23r7 : IC := .reg false [] f23o7 [29, 10, 2, 7, 11, 0]
@[simp] theorem f23r7_run : run tbl fin K f23r7 e H = regK tbl fin K [] f23o7 [29, 10, 2, 7, 11, 0] e H := run_regK _ _ _ _ _ _ _ _ _ rfl
@[simp] def f23o8 : List IOper := [
  ⟨(some 48), .mv (.t 0), none, none⟩,
  ⟨(some 8), .mv (.t 48), none, none⟩,
  ⟨(some 9), .mv (.c (.int .i64 21)), none, none⟩]
def f23r8 : IC := .reg false [] f23o8 [8, 9]
@[simp] theorem f23r8_run : run tbl fin K f23r8 e H = regK tbl fin K [] f23o8 [8, 9] e H := run_regK _ _ _ _ _ _ _ _ _ rfl
@[simp] def f23o9 : List IOper := [
  ⟨(some 50), .load false 1 (.t 7), none, none⟩,
  ⟨(some 51), .bin .lss (.t 50) (.c (.int .i64 0)), none, none⟩,
  ⟨(some 52), .mv (.t 51), none, none⟩,
  ⟨(some 53), .load false 1 (.t 7), (some (52, false)), none⟩,
  ⟨(some 54), .bin .gtr (.t 53) (.c (.int .i64 2147483647)), (some (52, false)), none⟩,
  ⟨(some 55), .pick (.t 52) (.c (.bool true)) (.t 54), none, none⟩,
  ⟨(some 49), .mv (.t 55), none, none⟩]
def f23r9 : IC := .reg false [] f23o9 [49, 11, 7, 2, 10, 0]
@[simp] theorem f23r9_run : run tbl fin K f23r9 e H = regK tbl fin K [] f23o9 [49, 11, 7, 2, 10, 0] e H := run_regK _ _ _ _ _ _ _ _ _ rfl
@[simp] def f23o10 : List IOper := [
  ⟨(some 56), .mv (.t 0), none, none⟩,
  ⟨(some 8), .mv (.t 56), none, none⟩,
  ⟨(some 9), .mv (.c (.int .i64 1)), none, none⟩]
def f23r10 : IC := .reg false [] f23o10 [8, 9]
@[simp] theorem f23r10_run : run tbl fin K f23r10 e H = regK tbl fin K [] f23o10 [8, 9] e H := run_regK _ _ _ _ _ _ _ _ _ rfl
@[simp] def f23o11 : List IOper := [
  ⟨(some 57), .mv (.t 0), none, none⟩,
  ⟨(some 58), .mv (.t 11), none, none⟩,
  ⟨(some 59), .idx 13 (.t 57) (.t 58), none, none⟩,
  ⟨(some 60), .fld 3 (.t 59), none, none⟩,
  ⟨(some 61), .load false 1 (.t 60), none, none⟩,
  ⟨(some 12), .new 3 1 (.int .i64 0), none, none⟩,
  ⟨none, .store 1 (.t 12) (.t 61), none, none⟩]
def f23r11 : IC := .reg false [] f23o11 [12, 10, 2, 7, 11, 0]
@[simp] theorem f23r11_run : run tbl fin K f23r11 e H = regK tbl fin K [] f23o11 [12, 10, 2, 7, 11, 0] e H := run_regK _ _ _ _ _ _ _ _ _ rfl
@[simp] def f23o12 : List IOper := [
  ⟨(some 62), .mv (.t 0), none, none⟩,
  ⟨(some 63), .mkfn 60 [(.t 7)], none, none⟩,
  ⟨(some 64), .ocall (.c (.fn 48 [])) [(.t 62), (.t 63)], none, none⟩,
  ⟨(some 13), .mv (.t 64), none, none⟩]
def f23r12 : IC := .reg false [] f23o12 [12, 10, 13, 2, 7, 11, 0]
@[simp] theorem f23r12_run : run tbl fin K f23r12 e H = regK tbl fin K [] f23o12 [12, 10, 13, 2, 7, 11, 0] e H := run_regK _ _ _ _ _ _ _ _ _ rfl
@[simp] def f23o13 : List IOper := [
  ⟨(some 65), .mkfn 61 [(.t 12)], none, none⟩,
  ⟨(some 14), .mv (.t 65), none, none⟩]
def f23r13 : IC := .reg false [] f23o13 [12, 10, 13, 14, 2, 7, 11, 0]
@[simp] theorem f23r13_run : run tbl fin K f23r13 e H = regK tbl fin K [] f23o13 [12, 10, 13, 14, 2, 7, 11, 0] e H := run_regK _ _ _ _ _ _ _ _ _ rfl
@[simp] def f23o14 : List IOper := [
  ⟨(some 66), .mkfn 62 [(.t 12)], none, none⟩,
  ⟨(some 15), .mv (.t 66), none, none⟩]
def f23r14 : IC := .reg false [] f23o14 [12, 10, 13, 15, 14, 2, 7, 11, 0]
@[simp] theorem f23r14_run : run tbl fin K f23r14 e H = regK tbl fin K [] f23o14 [12, 10, 13, 15, 14, 2, 7, 11, 0] e H := run_regK _ _ _ _ _ _ _ _ _ rfl
@[simp] def f23o15 : List IOper := [
  ⟨(some 68), .mv (.t 0), none, none⟩,
  ⟨(some 69), .mv (.t 11), none, none⟩,
  ⟨(some 70), .idx 13 (.t 68) (.t 69), none, none⟩,
  ⟨(some 71), .fld 0 (.t 70), none, none⟩,
  ⟨(some 72), .load false 1 (.t 71), none, none⟩,
  ⟨(some 73), .load false 1 (.t 12), none, none⟩,
  ⟨(some 74), .bin .eql (.t 72) (.t 73), none, none⟩,
  ⟨(some 75), .mv (.t 74), none, none⟩,
  ⟨(some 76), .load false 1 (.t 12), (some (75, false)), none⟩,
  ⟨(some 77), .mv (.t 0), (some (75, false)), none⟩,
  ⟨(some 78), .mv (.t 10), (some (75, false)), none⟩,
  ⟨(some 79), .idx 13 (.t 77) (.t 78), (some (75, false)), none⟩,
  ⟨(some 80), .fld 3 (.t 79), (some (75, false)), none⟩,
  ⟨(some 81), .load false 1 (.t 80), (some (75, false)), none⟩,
  ⟨(some 82), .bin .neq (.t 76) (.t 81), (some (75, false)), none⟩,
  ⟨(some 83), .pick (.t 75) (.c (.bool true)) (.t 82), none, none⟩,
  ⟨(some 67), .mv (.t 83), none, none⟩]
def f23r15 : IC := .reg true [] f23o15 [13, 15, 14, 2, 67, 7, 11, 0]
@[simp] theorem f23r15_run : run tbl fin K f23r15 e H = regK tbl fin K [] f23o15 [13, 15, 14, 2, 67, 7, 11, 0] e H := run_regK _ _ _ _ _ _ _ _ _ rfl
@[simp] def f23o16 : List IOper := [
  ⟨(some 84), .load false 1 (.t 7), none, none⟩,
  ⟨(some 85), .mv (.t 2), none, none⟩,
  ⟨(some 86), .bin .neq (.t 84) (.t 85), none, none⟩,
  ⟨(some 87), .mv (.t 86), none, none⟩,
  ⟨(some 88), .mv (.t 13), (some (87, true)), none⟩,
  ⟨(some 89), .mv (.t 14), (some (87, true)), none⟩,
  ⟨(some 90), .ocall (.c (.fn 63 [])) [(.t 88), (.t 89)], (some (87, true)), none⟩,
  ⟨(some 91), .un .not (.t 90), (some (87, true)), none⟩,
  ⟨(some 92), .pick (.t 87) (.t 91) (.c (.bool false)), none, none⟩,
  ⟨(some 67), .mv (.t 92), none, none⟩]
def f23r16 : IC := .reg false [] f23o16 [15, 13, 67, 7, 11, 0]
@[simp] theorem f23r16_run : run tbl fin K f23r16 e H = regK tbl fin K [] f23o16 [15, 13, 67, 7, 11, 0] e H := run_regK _ _ _ _ _ _ _ _ _ rfl
@[simp] def f23o17 : List IOper := [
  ⟨(some 93), .mv (.t 13), none, none⟩,
  ⟨(some 94), .mv (.t 15), none, none⟩,
  ⟨(some 95), .ocall (.c (.fn 63 [])) [(.t 93), (.t 94)], none, none⟩,
  ⟨(some 67), .mv (.t 95), none, none⟩]
def f23r17 : IC := .reg false [] f23o17 [67, 7, 11, 0]
@[simp] theorem f23r17_run : run tbl fin K f23r17 e H = regK tbl fin K [] f23o17 [67, 7, 11, 0] e H := run_regK _ _ _ _ _ _ _ _ _ rfl
@[simp] def f23o18 : List IOper := [
  ⟨(some 96), .mv (.t 0), none, none⟩,
  ⟨(some 8), .mv (.t 96), none, none⟩,
  ⟨(some 9), .mv (.c (.int .i64 23)), none, none⟩]
def f23r18 : IC := .reg false [] f23o18 [8, 9]
@[simp] theorem f23r18_run : run tbl fin K f23r18 e H = regK tbl fin K [] f23o18 [8, 9] e H := run_regK _ _ _ _ _ _ _ _ _ rfl
@[simp] def f23o19 : List IOper := [
  ⟨(some 97), .mv (.t 0), none, none⟩,
  ⟨(some 98), .call (.c (.fn 54 [])) [(.t 97)], none, none⟩,
  ⟨(some 16), .mv (.t 98), none, none⟩]
def f23r19 : IC := .reg false [] f23o19 [11, 7, 16]
@[simp] theorem f23r19_run : run tbl fin K f23r19 e H = regK tbl fin K [] f23o19 [11, 7, 16] e H := run_regK _ _ _ _ _ _ _ _ _ rfl
@[simp] def f23o20 : List IOper := [
  ⟨(some 99), .mv (.t 16), none, none⟩,
  ⟨(some 100), .mv (.t 11), none, none⟩,
  ⟨(some 101), .load false 1 (.t 7), none, none⟩,
  ⟨(some 102), .idx 13 (.t 99) (.t 100), none, none⟩,
  ⟨(some 103), .fld 2 (.t 102), none, none⟩,
  ⟨none, .store 1 (.t 103) (.t 101), none, none⟩]
def f23r20 : IC := .reg false [] f23o20 [16]
@[simp] theorem f23r20_run : run tbl fin K f23r20 e H = regK tbl fin K [] f23o20 [16] e H := run_regK _ _ _ _ _ _ _ _ _ rfl
@[simp] def f23o21 : List IOper := [
  ⟨(some 104), .mv (.t 16), none, none⟩,
  ⟨(some 8), .mv (.t 104), none, none⟩,
  ⟨(some 9), .mv (.c (.int .i64 0)), none, none⟩]
def f23r21 : IC := .reg false [] f23o21 [8, 9]
@[simp] theorem f23r21_run : run tbl fin K f23r21 e H = regK tbl fin K [] f23o21 [8, 9] e H := run_regK _ _ _ _ _ _ _ _ _ rfl
def f23body : IC := (.seq f23r0 (.seq (.seq f23r1 (.cond (.t 18) f23r2 .skip)) (.seq (.seq f23r3 (.cond (.t 21) f23r4 .skip)) (.seq f23r5 (.seq (.block 0 (.seq (.seq f23r6 (.cond (.t 29) .skip f23r7)) (.cond (.t 29) (.seq f23r8 .ret) (.seq f23r9 (.cond (.t 49) (.seq f23r10 .ret) .skip))))) (.seq f23r11 (.seq f23r12 (.seq f23r13 (.seq f23r14 (.seq (.block 1 (.seq (.seq f23r15 (.cond (.t 67) .skip (.seq f23r16 (.cond (.t 67) .skip f23r17)))) (.cond (.t 67) (.seq f23r18 .ret) .skip))) (.seq f23r19 (.seq f23r20 (.seq f23r21 .ret)))))))))))))
def f23 : IFn := ⟨105, 4, [.tmp 8, .tmp 9], f23body⟩
/- 24: jobshell/jobshellref27.Group -/
@[simp] def f24o0 : List IOper := [
  ⟨(some 8), .nilrow 30 13, none, none⟩,
  ⟨(some 9), .mv (.c (.int .i64 0)), none, none⟩]
def f24r0 : IC := .reg false [] f24o0 [2, 1, 3, 0]
@[simp] theorem f24r0_run : run tbl fin K f24r0 e H = regK tbl fin K [] f24o0 [2, 1, 3, 0] e H := run_regK _ _ _ _ _ _ _ _ _ rfl
@[simp] def f24o1 : List IOper := [
  ⟨(some 15), .mv (.t 2), none, none⟩,
  ⟨(some 16), .bin .eql (.t 15) (.c (.int .i64 0)), none, none⟩]
def f24r1 : IC := .reg false [] f24o1 [16, 2, 1, 3, 0]
@[simp] theorem f24r1_run : run tbl fin K f24r1 e H = regK tbl fin K [] f24o1 [16, 2, 1, 3, 0] e H := run_regK _ _ _ _ _ _ _ _ _ rfl
@[simp] def f24o2 : List IOper := [
  ⟨(some 17), .mv (.t 1), none, none⟩,
  ⟨(some 2), .mv (.t 17), none, none⟩]
def f24r2 : IC := .reg false [] f24o2 [1, 3, 2, 0]
@[simp] theorem f24r2_run : run tbl fin K f24r2 e H = regK tbl fin K [] f24o2 [1, 3, 2, 0] e H := run_regK _ _ _ _ _ _ _ _ _ rfl
@[simp] def f24o3 : List IOper := [
  ⟨(some 18), .mv (.t 0), none, none⟩,
  ⟨(some 19), .mv (.t 1), none, none⟩,
  ⟨(some 20), .call (.c (.fn 56 [])) [(.t 18), (.t 19)], none, none⟩,
  ⟨(some 21), .mv (.t 0), none, none⟩,
  ⟨(some 22), .mv (.t 2), none, none⟩,
  ⟨(some 23), .call (.c (.fn 56 [])) [(.t 21), (.t 22)], none, none⟩,
  ⟨(some 10), .mv (.t 20), none, none⟩,
  ⟨(some 11), .mv (.t 23), none, none⟩]
def f24r3 : IC := .reg false [] f24o3 [1, 3, 10, 11, 2, 0]
@[simp] theorem f24r3_run : run tbl fin K f24r3 e H = regK tbl fin K [] f24o3 [1, 3, 10, 11, 2, 0] e H := run_regK _ _ _ _ _ _ _ _ _ rfl
@[simp] def f24o4 : List IOper := [
  ⟨(some 24), .mv (.t 10), none, none⟩,
  ⟨(some 25), .bin .lss (.t 24) (.c (.int .i64 0)), none, none⟩,
  ⟨(some 26), .mv (.t 25), none, none⟩,
  ⟨(some 27), .mv (.t 11), (some (26, false)), none⟩,
  ⟨(some 28), .bin .lss (.t 27) (.c (.int .i64 0)), (some (26, false)), none⟩,
  ⟨(some 29), .pick (.t 26) (.c (.bool true)) (.t 28), none, none⟩,
  ⟨(some 30), .mv (.t 29), none, none⟩,
  ⟨(some 31), .mv (.t 2), (some (30, false)), some [31, 1, 30, 3, 10, 11, 2, 0]⟩,
  ⟨(some 32), .mv (.t 1), (some (30, false)), none⟩,
  ⟨(some 33), .bin .neq (.t 31) (.t 32), (some (30, false)), none⟩,
  ⟨(some 34), .mv (.t 33), (some (30, false)), none⟩,
  ⟨(some 35), .mv (.t 0), (some (34, true)), none⟩,
  ⟨(some 36), .mv (.t 11), (some (34, true)), none⟩,
  ⟨(some 37), .idx 13 (.t 35) (.t 36), (some (34, true)), none⟩,
  ⟨(some 38), .fld 1 (.t 37), (some (34, true)), none⟩,
  ⟨(some 39), .load false 1 (.t 38), (some (34, true)), some [1, 39, 34, 30, 3, 10, 11, 2, 0]⟩,
  ⟨(some 40), .mv (.t 1), (some (34, true)), none⟩,
  ⟨(some 41), .bin .neq (.t 39) (.t 40), (some (34, true)), none⟩,
  ⟨(some 42), .pick (.t 34) (.t 41) (.c (.bool false)), (some (30, false)), none⟩,
  ⟨(some 43), .pick (.t 30) (.c (.bool true)) (.t 42), none, none⟩]
def f24r4 : IC := .reg false [] f24o4 [43, 3, 10, 11, 2, 0]
@[simp] theorem f24r4_run : run tbl fin K f24r4 e H = regK tbl fin K [] f24o4 [43, 3, 10, 11, 2, 0] e H := run_regK _ _ _ _ _ _ _ _ _ rfl
@[simp] def f24o5 : List IOper := [
  ⟨(some 44), .mv (.t 0), none, none⟩,
  ⟨(some 8), .mv (.t 44), none, none⟩,
  ⟨(some 9), .mv (.c (.int .i64 21)), none, none⟩]
def f24r5 : IC := .reg false [] f24o5 [8, 9]
@[simp] theorem f24r5_run : run tbl fin K f24r5 e H = regK tbl fin K [] f24o5 [8, 9] e H := run_regK _ _ _ _ _ _ _ _ _ rfl
@[simp] def f24o6 : List IOper := [
  ⟨(some 45), .mv (.t 3), none, none⟩,
  ⟨(some 46), .bin .lss (.t 45) (.c (.int .i64 0)), none, none⟩,
  ⟨(some 47), .mv (.t 46), none, none⟩,
  ⟨(some 48), .mv (.t 3), (some (47, false)), none⟩,
  ⟨(some 49), .bin .gtr (.t 48) (.c (.int .i64 2147483647)), (some (47, false)), none⟩,
  ⟨(some 50), .pick (.t 47) (.c (.bool true)) (.t 49), none, none⟩]
def f24r6 : IC := .reg false [] f24o6 [50, 2, 11, 10, 3, 0]
@[simp] theorem f24r6_run : run tbl fin K f24r6 e H = regK tbl fin K [] f24o6 [50, 2, 11, 10, 3, 0] e H := run_regK _ _ _ _ _ _ _ _ _ rfl
@[simp] def f24o7 : List IOper := [
  ⟨(some 51), .mv (.t 0), none, none⟩,
  ⟨(some 8), .mv (.t 51), none, none⟩,
  ⟨(some 9), .mv (.c (.int .i64 1)), none, none⟩]
def f24r7 : IC := .reg false [] f24o7 [8, 9]
@[simp] theorem f24r7_run : run tbl fin K f24r7 e H = regK tbl fin K [] f24o7 [8, 9] e H := run_regK _ _ _ _ _ _ _ _ _ rfl
@[simp] def f24o8 : List IOper := [
  ⟨(some 52), .mv (.t 3), none, none⟩,
  ⟨(some 53), .bin .eql (.t 52) (.c (.int .i64 0)), none, none⟩]
def f24r8 : IC := .reg false [] f24o8 [53, 3, 10, 11, 2, 0]
@[simp] theorem f24r8_run : run tbl fin K f24r8 e H = regK tbl fin K [] f24o8 [53, 3, 10, 11, 2, 0] e H := run_regK _ _ _ _ _ _ _ _ _ rfl
@[simp] def f24o9 : List IOper := [
  ⟨(some 54), .mv (.t 2), none, none⟩,
  ⟨(some 3), .mv (.t 54), none, none⟩]
def f24r9 : IC := .reg false [] f24o9 [10, 11, 3, 2, 0]
@[simp] theorem f24r9_run : run tbl fin K f24r9 e H = regK tbl fin K [] f24o9 [10, 11, 3, 2, 0] e H := run_regK _ _ _ _ _ _ _ _ _ rfl
@[simp] def f24o10 : List IOper := [
  ⟨(some 55), .mv (.t 0), none, none⟩,
  ⟨(some 56), .mv (.t 11), none, none⟩,
  ⟨(some 57), .idx 13 (.t 55) (.t 56), none, none⟩,
  ⟨(some 58), .fld 3 (.t 57), none, none⟩,
  ⟨(some 59), .load false 1 (.t 58), none, none⟩,
  ⟨(some 60), .mv (.t 2), none, none⟩,
  ⟨(some 61), .bin .eql (.t 59) (.t 60), none, none⟩,
  ⟨(some 62), .mv (.t 61), none, none⟩,
  ⟨(some 63), .mv (.t 0), (some (62, false)), none⟩,
  ⟨(some 64), .mv (.t 11), (some (62, false)), none⟩,
  ⟨(some 65), .idx 13 (.t 63) (.t 64), (some (62, false)), none⟩,
  ⟨(some 66), .fld 3 (.t 65), (some (62, false)), none⟩,
  ⟨(some 67), .load false 1 (.t 66), (some (62, false)), none⟩,
  ⟨(some 68), .mv (.t 0), (some (62, false)), none⟩,
  ⟨(some 69), .mv (.t 10), (some (62, false)), none⟩,
  ⟨(some 70), .idx 13 (.t 68) (.t 69), (some (62, false)), none⟩,
  ⟨(some 71), .fld 3 (.t 70), (some (62, false)), none⟩,
  ⟨(some 72), .load false 1 (.t 71), (some (62, false)), none⟩,
  ⟨(some 73), .bin .neq (.t 67) (.t 72), (some (62, false)), none⟩,
  ⟨(some 74), .pick (.t 62) (.c (.bool true)) (.t 73), none, none⟩]
def f24r10 : IC := .reg true [] f24o10 [74, 11, 3, 2, 0]
@[simp] theorem f24r10_run : run tbl fin K f24r10 e H = regK tbl fin K [] f24o10 [74, 11, 3, 2, 0] e H := run_regK _ _ _ _ _ _ _ _ _ rfl
@[simp] def f24o11 : List IOper := [
  ⟨(some 75), .mv (.t 0), none, none⟩,
  ⟨(some 8), .mv (.t 75), none, none⟩,
  ⟨(some 9), .mv (.c (.int .i64 23)), none, none⟩]
def f24r11 : IC := .reg false [] f24o11 [8, 9]
@[simp] theorem f24r11_run : run tbl fin K f24r11 e H = regK tbl fin K [] f24o11 [8, 9] e H := run_regK _ _ _ _ _ _ _ _ _ rfl
@[simp] def f24o12 : List IOper := [
  ⟨(some 76), .mv (.t 3), none, none⟩,
  ⟨(some 77), .mv (.t 2), none, none⟩,
  ⟨(some 78), .bin .eql (.t 76) (.t 77), none, none⟩,
  ⟨(some 12), .mv (.t 78), none, none⟩]
def f24r12 : IC := .reg false [] f24o12 [12, 3, 11, 0]
@[simp] theorem f24r12_run : run tbl fin K f24r12 e H = regK tbl fin K [] f24o12 [12, 3, 11, 0] e H := run_regK _ _ _ _ _ _ _ _ _ rfl
@[simp] def f24o13 : List IOper := [
  ⟨(some 13), .mv (.c (.int .i64 0)), none, none⟩]
def f24r13 : IC := .reg false [] f24o13 [12, 3, 11, 13, 0]
@[simp] theorem f24r13_run : run tbl fin K f24r13 e H = regK tbl fin K [] f24o13 [12, 3, 11, 13, 0] e H := run_regK _ _ _ _ _ _ _ _ _ rfl
@[simp] def f24o14 : List IOper := [
  ⟨(some 79), .mv (.t 13), none, none⟩,
  ⟨(some 80), .mv (.t 0), none, none⟩,
  ⟨(some 81), .len (.t 80), none, none⟩,
  ⟨(some 82), .bin .lss (.t 79) (.t 81), none, none⟩]
def f24r14 : IC := .reg false [] f24o14 [82, 12, 11, 3, 13, 0]
@[simp] theorem f24r14_run : run tbl fin K f24r14 e H = regK tbl fin K [] f24o14 [82, 12, 11, 3, 13, 0] e H := run_regK _ _ _ _ _ _ _ _ _ rfl
@[simp] def f24o15 : List IOper := [
  ⟨(some 85), .mv (.t 0), none, none⟩,
  ⟨(some 86), .mv (.t 13), none, none⟩,
  ⟨(some 87), .idx 13 (.t 85) (.t 86), none, none⟩,
  ⟨(some 88), .fld 2 (.t 87), none, none⟩,
  ⟨(some 89), .load false 1 (.t 88), none, none⟩,
  ⟨(some 90), .mv (.t 3), none, none⟩,
  ⟨(some 91), .bin .eql (.t 89) (.t 90), none, none⟩,
  ⟨(some 92), .mv (.t 91), none, none⟩,
  ⟨(some 93), .mv (.t 0), (some (92, true)), none⟩,
  ⟨(some 94), .mv (.t 13), (some (92, true)), none⟩,
  ⟨(some 95), .idx 13 (.t 93) (.t 94), (some (92, true)), none⟩,
  ⟨(some 96), .fld 3 (.t 95), (some (92, true)), none⟩,
  ⟨(some 97), .load false 1 (.t 96), (some (92, true)), none⟩,
  ⟨(some 98), .mv (.t 0), (some (92, true)), none⟩,
  ⟨(some 99), .mv (.t 11), (some (92, true)), none⟩,
  ⟨(some 100), .idx 13 (.t 98) (.t 99), (some (92, true)), none⟩,
  ⟨(some 101), .fld 3 (.t 100), (some (92, true)), none⟩,
  ⟨(some 102), .load false 1 (.t 101), (some (92, true)), none⟩,
  ⟨(some 103), .bin .eql (.t 97) (.t 102), (some (92, true)), none⟩,
  ⟨(some 104), .pick (.t 92) (.t 103) (.c (.bool false)), none, none⟩]
def f24r15 : IC := .reg true [] f24o15 [104, 12, 11, 3, 13, 0]
@[simp] theorem f24r15_run : run tbl fin K f24r15 e H = regK tbl fin K [] f24o15 [104, 12, 11, 3, 13, 0] e H := run_regK _ _ _ _ _ _ _ _ _ rfl
@[simp] def f24o16 : List IOper := [
  ⟨(some 12), .mv (.c (.bool true)), none, none⟩]
def f24r16 : IC := .reg false [] f24o16 [11, 3, 12, 13, 0]
@[simp] theorem f24r16_run : run tbl fin K f24r16 e H = regK tbl fin K [] f24o16 [11, 3, 12, 13, 0] e H := run_regK _ _ _ _ _ _ _ _ _ rfl
@[simp] def f24o17 : List IOper := [
  ⟨(some 105), .mv (.t 0), none, none⟩,
  ⟨(some 106), .mv (.t 13), none, none⟩,
  ⟨(some 107), .idx 13 (.t 105) (.t 106), none, none⟩,
  ⟨(some 108), .fld 2 (.t 107), none, none⟩,
  ⟨(some 109), .load false 1 (.t 108), none, none⟩,
  ⟨(some 110), .mv (.t 3), none, none⟩,
  ⟨(some 111), .bin .eql (.t 109) (.t 110), none, none⟩,
  ⟨(some 112), .mv (.t 111), none, none⟩,
  ⟨(some 113), .mv (.t 0), (some (112, true)), none⟩,
  ⟨(some 114), .mv (.t 13), (some (112, true)), none⟩,
  ⟨(some 115), .idx 13 (.t 113) (.t 114), (some (112, true)), none⟩,
  ⟨(some 116), .fld 3 (.t 115), (some (112, true)), none⟩,
  ⟨(some 117), .load false 1 (.t 116), (some (112, true)), none⟩,
  ⟨(some 118), .mv (.t 0), (some (112, true)), none⟩,
  ⟨(some 119), .mv (.t 11), (some (112, true)), none⟩,
  ⟨(some 120), .idx 13 (.t 118) (.t 119), (some (112, true)), none⟩,
  ⟨(some 121), .fld 3 (.t 120), (some (112, true)), none⟩,
  ⟨(some 122), .load false 1 (.t 121), (some (112, true)), none⟩,
  ⟨(some 123), .bin .neq (.t 117) (.t 122), (some (112, true)), none⟩,
  ⟨(some 124), .pick (.t 112) (.t 123) (.c (.bool false)), none, none⟩]
def f24r17 : IC := .reg true [] f24o17 [124, 11, 3, 12, 13, 0]
@[simp] theorem f24r17_run : run tbl fin K f24r17 e H = regK tbl fin K [] f24o17 [124, 11, 3, 12, 13, 0] e H := run_regK _ _ _ _ _ _ _ _ _ rfl
@[simp] def f24o18 : List IOper := [
  ⟨(some 125), .mv (.t 0), none, none⟩,
  ⟨(some 8), .mv (.t 125), none, none⟩,
  ⟨(some 9), .mv (.c (.int .i64 23)), none, none⟩]
def f24r18 : IC := .reg false [] f24o18 [8, 9]
@[simp] theorem f24r18_run : run tbl fin K f24r18 e H = regK tbl fin K [] f24o18 [8, 9] e H := run_regK _ _ _ _ _ _ _ _ _ rfl
@[simp] def f24o19 : List IOper := [
  ⟨(some 83), .mv (.t 13), none, none⟩,
  ⟨(some 84), .bin .add (.t 83) (.c (.int .i64 1)), none, none⟩,
  ⟨(some 13), .mv (.t 84), none, none⟩]
def f24r19 : IC := .reg false [] f24o19 [12, 3, 11, 13, 0]
@[simp] theorem f24r19_run : run tbl fin K f24r19 e H = regK tbl fin K [] f24o19 [12, 3, 11, 13, 0] e H := run_regK _ _ _ _ _ _ _ _ _ rfl
def f24b20 : IC := (.seq (.seq f24r14 (.cond (.t 82) .skip (.exit 0))) (.seq (.block 1 (.seq (.seq f24r15 (.cond (.t 104) f24r16 .skip)) (.seq f24r17 (.cond (.t 124) (.seq f24r18 .ret) .skip)))) f24r19))
theorem f24b20_eq : f24b20 = (.seq (.seq f24r14 (.cond (.t 82) .skip (.exit 0))) (.seq (.block 1 (.seq (.seq f24r15 (.cond (.t 104) f24r16 .skip)) (.seq f24r17 (.cond (.t 124) (.seq f24r18 .ret) .skip)))) f24r19)) := rfl
@[simp] def f24o21 : List IOper := [
  ⟨(some 126), .mv (.t 12), none, none⟩,
  ⟨(some 127), .un .not (.t 126), none, none⟩]
def f24r21 : IC := .reg false [] f24o21 [127, 3, 11, 0]
@[simp] theorem f24r21_run : run tbl fin K f24r21 e H = regK tbl fin K [] f24o21 [127, 3, 11, 0] e H := run_regK _ _ _ _ _ _ _ _ _ rfl
@[simp] def f24o22 : List IOper := [
  ⟨(some 128), .mv (.t 0), none, none⟩,
  ⟨(some 8), .mv (.t 128), none, none⟩,
  ⟨(some 9), .mv (.c (.int .i64 23)), none, none⟩]
def f24r22 : IC := .reg false [] f24o22 [8, 9]
@[simp] theorem f24r22_run : run tbl fin K f24r22 e H = regK tbl fin K [] f24o22 [8, 9] e H := run_regK _ _ _ _ _ _ _ _ _ rfl
@[simp] def f24o23 : List IOper := [
  ⟨(some 129), .mv (.t 0), none, none⟩,
  ⟨(some 130), .call (.c (.fn 59 [])) [(.t 129)], none, none⟩,
  ⟨(some 14), .mv (.t 130), none, none⟩]
def f24r23 : IC := .reg false [] f24o23 [11, 3, 14]
@[simp] theorem f24r23_run : run tbl fin K f24r23 e H = regK tbl fin K [] f24o23 [11, 3, 14] e H := run_regK _ _ _ _ _ _ _ _ _ rfl
@[simp] def f24o24 : List IOper := [
  ⟨(some 131), .mv (.t 14), none, none⟩,
  ⟨(some 132), .mv (.t 11), none, none⟩,
  ⟨(some 133), .mv (.t 3), none, none⟩,
  ⟨(some 134), .idx 13 (.t 131) (.t 132), none, none⟩,
  ⟨(some 135), .fld 2 (.t 134), none, none⟩,
  ⟨none, .store 1 (.t 135) (.t 133), none, none⟩]
def f24r24 : IC := .reg false [] f24o24 [14]
@[simp] theorem f24r24_run : run tbl fin K f24r24 e H = regK tbl fin K [] f24o24 [14] e H := run_regK _ _ _ _ _ _ _ _ _ rfl
@[simp] def f24o25 : List IOper := [
  ⟨(some 136), .mv (.t 14), none, none⟩,
  ⟨(some 8), .mv (.t 136), none, none⟩,
  ⟨(some 9), .mv (.c (.int .i64 0)), none, none⟩]
def f24r25 : IC := .reg false [] f24o25 [8, 9]
@[simp] theorem f24r25_run : run tbl fin K f24r25 e H = regK tbl fin K [] f24o25 [8, 9] e H := run_regK _ _ _ _ _ _ _ _ _ rfl
def f24body : IC := (.seq f24r0 (.seq (.seq f24r1 (.cond (.t 16) f24r2 .skip)) (.seq f24r3 (.seq (.seq f24r4 (.cond (.t 43) (.seq f24r5 .ret) .skip)) (.seq (.seq f24r6 (.cond (.t 50) (.seq f24r7 .ret) .skip)) (.seq (.seq f24r8 (.cond (.t 53) f24r9 .skip)) (.seq (.seq f24r10 (.cond (.t 74) (.seq f24r11 .ret) .skip)) (.seq f24r12 (.seq (.seq f24r13 (.block 0 (.loop [12, 3, 11, 13, 0] f24b20))) (.seq (.seq f24r21 (.cond (.t 127) (.seq f24r22 .ret) .skip)) (.seq f24r23 (.seq f24r24 (.seq f24r25 .ret)))))))))))))
def f24 : IFn := ⟨137, 4, [.tmp 8, .tmp 9], f24body⟩
/- 25: jobshell/proc.Session -/
@[simp] def f25o0 : List IOper := [
  ⟨(some 3), .box 3 1 (.t 1), none, none⟩,
  ⟨(some 4), .nilrow 30 13, none, none⟩,
  ⟨(some 5), .mv (.c (.int .i64 0)), none, none⟩]
def f25r0 : IC := .reg false [] f25o0 [3, 0]
@[simp] theorem f25r0_run : run tbl fin K f25r0 e H = regK tbl fin K [] f25o0 [3, 0] e H := run_regK _ _ _ _ _ _ _ _ _ rfl
@[simp] def f25o1 : List IOper := [
  ⟨(some 8), .mv (.t 0), none, none⟩,
  ⟨(some 9), .load false 1 (.t 3), none, none⟩,
  ⟨(some 10), .call (.c (.fn 47 [])) [(.t 8), (.t 9)], none, none⟩,
  ⟨(some 6), .mv (.t 10), none, none⟩]
def f25r1 : IC := .reg false [] f25o1 [6, 3, 0]
@[simp] theorem f25r1_run : run tbl fin K f25r1 e H = regK tbl fin K [] f25o1 [6, 3, 0] e H := run_regK _ _ _ _ _ _ _ _ _ rfl
@[simp] def f25o2 : List IOper := [
  ⟨(some 12), .mv (.t 6), none, none⟩,
  ⟨(some 13), .bin .lss (.t 12) (.c (.int .i64 0)), none, none⟩,
  ⟨(some 11), .mv (.t 13), none, none⟩]
def f25r2 : IC := .reg false [] f25o2 [11, 6, 3, 0]
@[simp] theorem f25r2_run : run tbl fin K f25r2 e H = regK tbl fin K [] f25o2 [11, 6, 3, 0] e H := run_regK _ _ _ _ _ _ _ _ _ rfl
@[simp] def f25o3 : List IOper := [
  ⟨(some 14), .mv (.t 0), none, none⟩,
  ⟨(some 4), .mv (.t 14), none, none⟩,
  ⟨(some 5), .mv (.c (.int .i64 21)), none, none⟩]
def f25r3 : IC := .reg false [] f25o3 [4, 5]
@[simp] theorem f25r3_run : run tbl fin K f25r3 e H = regK tbl fin K [] f25o3 [4, 5] e H := run_regK _ _ _ _ _ _ _ _ _ rfl
@[simp] def f25o4 : List IOper := [
  ⟨(some 16), .mv (.t 0), none, none⟩,
  ⟨(some 17), .mkfn 64 [(.t 3)], none, none⟩,
  ⟨(some 18), .ocall (.c (.fn 63 [])) [(.t 16), (.t 17)], none, none⟩,
  ⟨(some 15), .mv (.t 18), none, none⟩]
def f25r4 : IC := .reg false [] f25o4 [15, 3, 6, 0]
@[simp] theorem f25r4_run : run tbl fin K f25r4 e H = regK tbl fin K [] f25o4 [15, 3, 6, 0] e H := run_regK _ _ _ _ _ _ _ _ _ rfl
@[simp] def f25o5 : List IOper := [
  ⟨(some 19), .mv (.t 0), none, none⟩,
  ⟨(some 4), .mv (.t 19), none, none⟩,
  ⟨(some 5), .mv (.c (.int .i64 23)), none, none⟩]
def f25r5 : IC := .reg false [] f25o5 [4, 5]
@[simp] theorem f25r5_run : run tbl fin K f25r5 e H = regK tbl fin K [] f25o5 [4, 5] e H := run_regK _ _ _ _ _ _ _ _ _ rfl
@[simp] def f25o6 : List IOper := [
  ⟨(some 20), .mv (.t 0), none, none⟩,
  ⟨(some 21), .call (.c (.fn 54 [])) [(.t 20)], none, none⟩,
  ⟨(some 7), .mv (.t 21), none, none⟩]
def f25r6 : IC := .reg false [] f25o6 [6, 3, 7]
@[simp] theorem f25r6_run : run tbl fin K f25r6 e H = regK tbl fin K [] f25o6 [6, 3, 7] e H := run_regK _ _ _ _ _ _ _ _ _ rfl
@[simp] def f25o7 : List IOper := [
  ⟨(some 22), .mv (.t 7), none, none⟩,
  ⟨(some 23), .mv (.t 6), none, none⟩,
  ⟨(some 24), .mv (.t 7), none, none⟩,
  ⟨(some 25), .mv (.t 6), none, none⟩,
  ⟨(some 26), .loadb false 1 (.t 3), none, none⟩,
  ⟨(some 27), .loadb false 1 (.t 3), none, none⟩,
  ⟨(some 28), .idx 13 (.t 22) (.t 23), none, none⟩,
  ⟨(some 29), .fld 2 (.t 28), none, none⟩,
  ⟨none, .storer 1 (.t 29) (.t 26), none, none⟩,
  ⟨(some 30), .idx 13 (.t 24) (.t 25), none, none⟩,
  ⟨(some 31), .fld 3 (.t 30), none, none⟩,
  ⟨none, .storer 1 (.t 31) (.t 27), none, none⟩]
def f25r7 : IC := .reg true [] f25o7 [7]
@[simp] theorem f25r7_run : run tbl fin K f25r7 e H = regK tbl fin K [] f25o7 [7] e H := run_regK _ _ _ _ _ _ _ _ _ rfl
@[simp] def f25o8 : List IOper := [
  ⟨(some 32), .mv (.t 7), none, none⟩,
  ⟨(some 4), .mv (.t 32), none, none⟩,
  ⟨(some 5), .mv (.c (.int .i64 0)), none, none⟩]
def f25r8 : IC := .reg false [] f25o8 [4, 5]
@[simp] theorem f25r8_run : run tbl fin K f25r8 e H = regK tbl fin K [] f25o8 [4, 5] e H := run_regK _ _ _ _ _ _ _ _ _ rfl
def f25body : IC := (.seq f25r0 (.seq f25r1 (.seq (.block 0 (.seq f25r2 (.cond (.t 11) (.seq f25r3 .ret) (.seq f25r4 (.cond (.t 15) (.seq f25r5 .ret) .skip))))) (.seq f25r6 (.seq f25r7 (.seq f25r8 .ret))))))
def f25 : IFn := ⟨33, 2, [.tmp 4, .tmp 5], f25body⟩
/- 26: jobshell/jobshellref27.Session -/
@[simp] def f26o0 : List IOper := [
  ⟨(some 4), .nilrow 30 13, none, none⟩,
  ⟨(some 5), .mv (.c (.int .i64 0)), none, none⟩]
def f26r0 : IC := .reg false [] f26o0 [1, 0]
@[simp] theorem f26r0_run : run tbl fin K f26r0 e H = regK tbl fin K [] f26o0 [1, 0] e H := run_regK _ _ _ _ _ _ _ _ _ rfl
@[simp] def f26o1 : List IOper := [
  ⟨(some 9), .mv (.t 0), none, none⟩,
  ⟨(some 10), .mv (.t 1), none, none⟩,
  ⟨(some 11), .call (.c (.fn 56 [])) [(.t 9), (.t 10)], none, none⟩,
  ⟨(some 6), .mv (.t 11), none, none⟩]
def f26r1 : IC := .reg false [] f26o1 [1, 6, 0]
@[simp] theorem f26r1_run : run tbl fin K f26r1 e H = regK tbl fin K [] f26o1 [1, 6, 0] e H := run_regK _ _ _ _ _ _ _ _ _ rfl
@[simp] def f26o2 : List IOper := [
  ⟨(some 12), .mv (.t 6), none, none⟩,
  ⟨(some 13), .bin .lss (.t 12) (.c (.int .i64 0)), none, none⟩]
def f26r2 : IC := .reg false [] f26o2 [13, 1, 6, 0]
@[simp] theorem f26r2_run : run tbl fin K f26r2 e H = regK tbl fin K [] f26o2 [13, 1, 6, 0] e H := run_regK _ _ _ _ _ _ _ _ _ rfl
@[simp] def f26o3 : List IOper := [
  ⟨(some 14), .mv (.t 0), none, none⟩,
  ⟨(some 4), .mv (.t 14), none, none⟩,
  ⟨(some 5), .mv (.c (.int .i64 21)), none, none⟩]
def f26r3 : IC := .reg false [] f26o3 [4, 5]
@[simp] theorem f26r3_run : run tbl fin K f26r3 e H = regK tbl fin K [] f26o3 [4, 5] e H := run_regK _ _ _ _ _ _ _ _ _ rfl
@[simp] def f26o4 : List IOper := [
  ⟨(some 7), .mv (.c (.int .i64 0)), none, none⟩]
def f26r4 : IC := .reg false [] f26o4 [6, 1, 7, 0]
@[simp] theorem f26r4_run : run tbl fin K f26r4 e H = regK tbl fin K [] f26o4 [6, 1, 7, 0] e H := run_regK _ _ _ _ _ _ _ _ _ rfl
@[simp] def f26o5 : List IOper := [
  ⟨(some 15), .mv (.t 7), none, none⟩,
  ⟨(some 16), .mv (.t 0), none, none⟩,
  ⟨(some 17), .len (.t 16), none, none⟩,
  ⟨(some 18), .bin .lss (.t 15) (.t 17), none, none⟩]
def f26r5 : IC := .reg false [] f26o5 [18, 1, 6, 7, 0]
@[simp] theorem f26r5_run : run tbl fin K f26r5 e H = regK tbl fin K [] f26o5 [18, 1, 6, 7, 0] e H := run_regK _ _ _ _ _ _ _ _ _ rfl
@[simp] def f26o6 : List IOper := [
  ⟨(some 21), .mv (.t 0), none, none⟩,
  ⟨(some 22), .mv (.t 7), none, none⟩,
  ⟨(some 23), .idx 13 (.t 21) (.t 22), none, none⟩,
  ⟨(some 24), .fld 2 (.t 23), none, none⟩,
  ⟨(some 25), .load false 1 (.t 24), none, none⟩,
  ⟨(some 26), .mv (.t 1), none, none⟩,
  ⟨(some 27), .bin .eql (.t 25) (.t 26), none, none⟩]
def f26r6 : IC := .reg false [] f26o6 [27, 1, 6, 7, 0]
@[simp] theorem f26r6_run : run tbl fin K f26r6 e H = regK tbl fin K [] f26o6 [27, 1, 6, 7, 0] e H := run_regK _ _ _ _ _ _ _ _ _ rfl
@[simp] def f26o7 : List IOper := [
  ⟨(some 28), .mv (.t 0), none, none⟩,
  ⟨(some 4), .mv (.t 28), none, none⟩,
  ⟨(some 5), .mv (.c (.int .i64 23)), none, none⟩]
def f26r7 : IC := .reg false [] f26o7 [4, 5]
@[simp] theorem f26r7_run : run tbl fin K f26r7 e H = regK tbl fin K [] f26o7 [4, 5] e H := run_regK _ _ _ _ _ _ _ _ _ rfl
@[simp] def f26o8 : List IOper := [
  ⟨(some 19), .mv (.t 7), none, none⟩,
  ⟨(some 20), .bin .add (.t 19) (.c (.int .i64 1)), none, none⟩,
  ⟨(some 7), .mv (.t 20), none, none⟩]
def f26r8 : IC := .reg false [] f26o8 [6, 1, 7, 0]
@[simp] theorem f26r8_run : run tbl fin K f26r8 e H = regK tbl fin K [] f26o8 [6, 1, 7, 0] e H := run_regK _ _ _ _ _ _ _ _ _ rfl
def f26b9 : IC := (.seq (.seq f26r5 (.cond (.t 18) .skip (.exit 0))) (.seq (.block 1 (.seq f26r6 (.cond (.t 27) (.seq f26r7 .ret) .skip))) f26r8))
theorem f26b9_eq : f26b9 = (.seq (.seq f26r5 (.cond (.t 18) .skip (.exit 0))) (.seq (.block 1 (.seq f26r6 (.cond (.t 27) (.seq f26r7 .ret) .skip))) f26r8)) := rfl
@[simp] def f26o10 : List IOper := [
  ⟨(some 29), .mv (.t 0), none, none⟩,
  ⟨(some 30), .call (.c (.fn 59 [])) [(.t 29)], none, none⟩,
  ⟨(some 8), .mv (.t 30), none, none⟩]
def f26r10 : IC := .reg false [] f26o10 [6, 1, 8]
@[simp] theorem f26r10_run : run tbl fin K f26r10 e H = regK tbl fin K [] f26o10 [6, 1, 8] e H := run_regK _ _ _ _ _ _ _ _ _ rfl
@[simp] def f26o11 : List IOper := [
  ⟨(some 31), .mv (.t 8), none, none⟩,
  ⟨(some 32), .mv (.t 6), none, none⟩,
  ⟨(some 33), .mv (.t 8), none, none⟩,
  ⟨(some 34), .mv (.t 6), none, none⟩,
  ⟨(some 35), .mv (.t 1), none, none⟩,
  ⟨(some 36), .mv (.t 1), none, none⟩,
  ⟨(some 37), .idx 13 (.t 31) (.t 32), none, none⟩,
  ⟨(some 38), .fld 2 (.t 37), none, some [35, 38, 34, 33, 36, 8]⟩,
  ⟨none, .store 1 (.t 38) (.t 35), none, none⟩,
  ⟨(some 39), .idx 13 (.t 33) (.t 34), none, none⟩,
  ⟨(some 40), .fld 3 (.t 39), none, none⟩,
  ⟨none, .store 1 (.t 40) (.t 36), none, none⟩]
def f26r11 : IC := .reg false [] f26o11 [8]
@[simp] theorem f26r11_run : run tbl fin K f26r11 e H = regK tbl fin K [] f26o11 [8] e H := run_regK _ _ _ _ _ _ _ _ _ rfl
@[simp] def f26o12 : List IOper := [
  ⟨(some 41), .mv (.t 8), none, none⟩,
  ⟨(some 4), .mv (.t 41), none, none⟩,
  ⟨(some 5), .mv (.c (.int .i64 0)), none, none⟩]
def f26r12 : IC := .reg false [] f26o12 [4, 5]
@[simp] theorem f26r12_run : run tbl fin K f26r12 e H = regK tbl fin K [] f26o12 [4, 5] e H := run_regK _ _ _ _ _ _ _ _ _ rfl
def f26body : IC := (.seq f26r0 (.seq f26r1 (.seq (.seq f26r2 (.cond (.t 13) (.seq f26r3 .ret) .skip)) (.seq (.seq f26r4 (.block 0 (.loop [6, 1, 7, 0] f26b9))) (.seq f26r10 (.seq f26r11 (.seq f26r12 .ret)))))))
def f26 : IFn := ⟨42, 2, [.tmp 4, .tmp 5], f26body⟩
/- 27: jobshell/proc.Fork -/
@[simp] def f27o0 : List IOper := [
  ⟨(some 5), .box 3 1 (.t 2), none, none⟩,
  ⟨(some 6), .nilrow 30 13, none, none⟩,
  ⟨(some 7), .mv (.c (.int .i64 0)), none, none⟩]
def f27r0 : IC := .reg false [] f27o0 [1, 5, 0]
@[simp] theorem f27r0_run : run tbl fin K f27r0 e H = regK tbl fin K [] f27o0 [1, 5, 0] e H := run_regK _ _ _ _ _ _ _ _ _ rfl
@[simp] def f27o1 : List IOper := [
  ⟨(some 11), .mv (.t 0), none, none⟩,
  ⟨(some 12), .mv (.t 1), none, none⟩,
  ⟨(some 13), .call (.c (.fn 47 [])) [(.t 11), (.t 12)], none, none⟩,
  ⟨(some 8), .mv (.t 13), none, none⟩]
def f27r1 : IC := .reg false [] f27o1 [1, 8, 5, 0]
@[simp] theorem f27r1_run : run tbl fin K f27r1 e H = regK tbl fin K [] f27o1 [1, 8, 5, 0] e H := run_regK _ _ _ _ _ _ _ _ _ rfl
@[simp] def f27o2 : List IOper := [
  ⟨(some 15), .mv (.t 8), none, none⟩,
  ⟨(some 16), .bin .lss (.t 15) (.c (.int .i64 0)), none, none⟩,
  ⟨(some 14), .mv (.t 16), none, none⟩]
def f27r2 : IC := .reg false [] f27o2 [14, 1, 8, 5, 0]
@[simp] theorem f27r2_run : run tbl fin K f27r2 e H = regK tbl fin K [] f27o2 [14, 1, 8, 5, 0] e H := run_regK _ _ _ _ _ _ _ _ _ rfl
@[simp] def f27o3 : List IOper := [
  ⟨(some 17), .mv (.t 0), none, none⟩,
  ⟨(some 6), .mv (.t 17), none, none⟩,
  ⟨(some 7), .mv (.c (.int .i64 21)), none, none⟩]
def f27r3 : IC := .reg false [] f27o3 [6, 7]
@[simp] theorem f27r3_run : run tbl fin K f27r3 e H = regK tbl fin K [] f27o3 [6, 7] e H := run_regK _ _ _ _ _ _ _ _ _ rfl
@[simp] def f27o4 : List IOper := [
  ⟨(some 19), .load false 1 (.t 5), none, none⟩,
  ⟨(some 20), .call (.c (.fn 65 [])) [(.t 19)], none, none⟩,
  ⟨(some 21), .un .not (.t 20), none, none⟩,
  ⟨(some 18), .mv (.t 21), none, none⟩]
def f27r4 : IC := .reg false [] f27o4 [18, 5, 8, 1, 0]
@[simp] theorem f27r4_run : run tbl fin K f27r4 e H = regK tbl fin K [] f27o4 [18, 5, 8, 1, 0] e H := run_regK _ _ _ _ _ _ _ _ _ rfl
@[simp] def f27o5 : List IOper := [
  ⟨(some 22), .mv (.t 0), none, none⟩,
  ⟨(some 6), .mv (.t 22), none, none⟩,
  ⟨(some 7), .mv (.c (.int .i64 1)), none, none⟩]
def f27r5 : IC := .reg false [] f27o5 [6, 7]
@[simp] theorem f27r5_run : run tbl fin K f27r5 e H = regK tbl fin K [] f27o5 [6, 7] e H := run_regK _ _ _ _ _ _ _ _ _ rfl
@[simp] def f27o6 : List IOper := [
  ⟨(some 24), .mv (.t 0), none, none⟩,
  ⟨(some 25), .mkfn 66 [(.t 5)], none, none⟩,
  ⟨(some 26), .ocall (.c (.fn 63 [])) [(.t 24), (.t 25)], none, none⟩,
  ⟨(some 23), .mv (.t 26), none, none⟩]
def f27r6 : IC := .reg false [] f27o6 [23, 1, 8, 5, 0]
@[simp] theorem f27r6_run : run tbl fin K f27r6 e H = regK tbl fin K [] f27o6 [23, 1, 8, 5, 0] e H := run_regK _ _ _ _ _ _ _ _ _ rfl
@[simp] def f27o7 : List IOper := [
  ⟨(some 27), .mv (.t 0), none, none⟩,
  ⟨(some 6), .mv (.t 27), none, none⟩,
  ⟨(some 7), .mv (.c (.int .i64 9)), none, none⟩]
def f27r7 : IC := .reg false [] f27o7 [6, 7]
@[simp] theorem f27r7_run : run tbl fin K f27r7 e H = regK tbl fin K [] f27o7 [6, 7] e H := run_regK _ _ _ _ _ _ _ _ _ rfl
@[simp] def f27o8 : List IOper := [
  ⟨(some 29), .mv (.t 0), none, none⟩,
  ⟨(some 30), .len (.t 29), none, none⟩,
  ⟨(some 31), .bin .geq (.t 30) (.c (.int .i64 64)), none, none⟩,
  ⟨(some 28), .mv (.t 31), none, none⟩]
def f27r8 : IC := .reg false [] f27o8 [28, 5, 8, 1, 0]
@[simp] theorem f27r8_run : run tbl fin K f27r8 e H = regK tbl fin K [] f27o8 [28, 5, 8, 1, 0] e H := run_regK _ _ _ _ _ _ _ _ _ rfl
@[simp] def f27o9 : List IOper := [
  ⟨(some 32), .mv (.t 0), none, none⟩,
  ⟨(some 6), .mv (.t 32), none, none⟩,
  ⟨(some 7), .mv (.c (.int .i64 4)), none, none⟩]
def f27r9 : IC := .reg false [] f27o9 [6, 7]
@[simp] theorem f27r9_run : run tbl fin K f27r9 e H = regK tbl fin K [] f27o9 [6, 7] e H := run_regK _ _ _ _ _ _ _ _ _ rfl
@[simp] def f27o10 : List IOper := [
  ⟨(some 33), .loadb false 1 (.t 5), none, none⟩,
  ⟨(some 34), .mv (.t 1), none, none⟩,
  ⟨(some 35), .mv (.t 0), none, none⟩,
  ⟨(some 36), .mv (.t 8), none, none⟩,
  ⟨(some 37), .idx 13 (.t 35) (.t 36), none, none⟩,
  ⟨(some 38), .fld 2 (.t 37), none, none⟩,
  ⟨(some 39), .load false 1 (.t 38), none, none⟩,
  ⟨(some 40), .mv (.t 0), none, none⟩,
  ⟨(some 41), .mv (.t 8), none, none⟩,
  ⟨(some 42), .idx 13 (.t 40) (.t 41), none, none⟩,
  ⟨(some 43), .fld 3 (.t 42), none, none⟩,
  ⟨(some 44), .load false 1 (.t 43), none, none⟩,
  ⟨(some 45), .mv (.t 0), none, none⟩,
  ⟨(some 46), .mv (.t 8), none, none⟩,
  ⟨(some 47), .idx 13 (.t 45) (.t 46), none, none⟩,
  ⟨(some 48), .fld 8 (.t 47), none, none⟩,
  ⟨(some 49), .load true 3 (.t 48), none, none⟩,
  ⟨(some 50), .call (.c (.fn 67 [])) [(.t 49)], none, none⟩,
  ⟨(some 51), .mv (.t 0), none, none⟩,
  ⟨(some 52), .mv (.t 8), none, none⟩,
  ⟨(some 53), .idx 13 (.t 51) (.t 52), none, none⟩,
  ⟨(some 54), .fld 11 (.t 53), none, none⟩,
  ⟨(some 55), .load false 1 (.t 54), none, none⟩,
  ⟨(some 56), .call (.c (.fn 40 [])) [(.t 55)], none, none⟩,
  ⟨(some 57), .mv (.t 0), none, none⟩,
  ⟨(some 58), .mv (.t 8), none, none⟩,
  ⟨(some 59), .idx 13 (.t 57) (.t 58), none, none⟩,
  ⟨(some 60), .fld 12 (.t 59), none, none⟩,
  ⟨(some 61), .load false 1 (.t 60), none, none⟩,
  ⟨(some 62), .build [(.int .i64 0), (.int .i64 0), (.int .i64 0), (.int .i64 0), (.int .i64 0), (.int .i64 0), (.bool false), (.int .i64 0), .e0, .e0, .e0, .e0, (.str [])] [(0, 1, (.t 33)), (1, 1, (.t 34)), (2, 1, (.t 39)), (3, 1, (.t 44)), (4, 1, (.c (.int .i64 1))), (8, 3, (.t 50)), (11, 1, (.t 56)), (12, 1, (.t 61))], none, none⟩,
  ⟨(some 9), .newAt 9 30 13 (.agg [(.int .i64 0), (.int .i64 0), (.int .i64 0), (.int .i64 0), (.int .i64 0), (.int .i64 0), (.bool false), (.int .i64 0), .e0, .e0, .e0, .e0, (.str [])]), none, none⟩,
  ⟨none, .store 13 (.t 9) (.t 62), none, none⟩]
def f27r10 : IC := .reg true [9] f27o10 [5, 9, 0]
@[simp] theorem f27r10_run : run tbl fin K f27r10 e H = regK tbl fin K [9] f27o10 [5, 9, 0] e H := run_regK _ _ _ _ _ _ _ _ _ rfl
@[simp] def f27o11 : List IOper := [
  ⟨(some 10), .mv (.c (.int .i64 0)), none, none⟩]
def f27r11 : IC := .reg false [] f27o11 [10, 5, 9, 0]
@[simp] theorem f27r11_run : run tbl fin K f27r11 e H = regK tbl fin K [] f27o11 [10, 5, 9, 0] e H := run_regK _ _ _ _ _ _ _ _ _ rfl
@[simp] def f27o12 : List IOper := [
  ⟨(some 63), .mv (.t 10), none, none⟩,
  ⟨(some 64), .mv (.t 0), none, none⟩,
  ⟨(some 65), .len (.t 64), none, none⟩,
  ⟨(some 66), .bin .lss (.t 63) (.t 65), none, none⟩,
  ⟨(some 67), .mv (.t 66), none, none⟩,
  ⟨(some 68), .mv (.t 0), (some (67, true)), none⟩,
  ⟨(some 69), .mv (.t 10), (some (67, true)), none⟩,
  ⟨(some 70), .idx 13 (.t 68) (.t 69), (some (67, true)), none⟩,
  ⟨(some 71), .fld 0 (.t 70), (some (67, true)), none⟩,
  ⟨(some 72), .load false 1 (.t 71), (some (67, true)), none⟩,
  ⟨(some 73), .load false 1 (.t 5), (some (67, true)), none⟩,
  ⟨(some 74), .bin .lss (.t 72) (.t 73), (some (67, true)), none⟩,
  ⟨(some 75), .pick (.t 67) (.t 74) (.c (.bool false)), none, none⟩]
def f27r12 : IC := .reg true [] f27o12 [75, 10, 5, 9, 0]
@[simp] theorem f27r12_run : run tbl fin K f27r12 e H = regK tbl fin K [] f27o12 [75, 10, 5, 9, 0] e H := run_regK _ _ _ _ _ _ _ _ _ rfl
@[simp] def f27o13 : List IOper := [
  ⟨(some 76), .mv (.t 10), none, none⟩,
  ⟨(some 77), .bin .add (.t 76) (.c (.int .i64 1)), none, none⟩,
  ⟨(some 10), .mv (.t 77), none, none⟩]
def f27r13 : IC := .reg false [] f27o13 [10, 5, 9, 0]
@[simp] theorem f27r13_run : run tbl fin K f27r13 e H = regK tbl fin K [] f27o13 [10, 5, 9, 0] e H := run_regK _ _ _ _ _ _ _ _ _ rfl
def f27b14 : IC := (.seq (.seq f27r12 (.cond (.t 75) .skip (.exit 1))) (.block 2 f27r13))
theorem f27b14_eq : f27b14 = (.seq (.seq f27r12 (.cond (.t 75) .skip (.exit 1))) (.block 2 f27r13)) := rfl
@[simp] def f27o15 : List IOper := [
  ⟨(some 78), .mv (.t 0), none, none⟩,
  ⟨(some 79), .call (.c (.fn 54 [])) [(.t 78)], none, none⟩,
  ⟨(some 80), .mv (.t 10), none, none⟩,
  ⟨(some 81), .loadb true 13 (.t 9), none, none⟩,
  ⟨(some 82), .mkimm 13 1 (.agg [(.int .i64 0), (.int .i64 0), (.int .i64 0), (.int .i64 0), (.int .i64 0), (.int .i64 0), (.bool false), (.int .i64 0), .e0, .e0, .e0, .e0, (.str [])]) [(0, (.t 81))], none, none⟩,
  ⟨(some 83), .ocall (.c (.fn 68 [])) [(.t 79), (.t 80), (.t 82)], none, none⟩,
  ⟨(some 6), .mv (.t 83), none, none⟩,
  ⟨(some 7), .mv (.c (.int .i64 0)), none, none⟩]
def f27r15 : IC := .reg true [] f27o15 [6, 7]
@[simp] theorem f27r15_run : run tbl fin K f27r15 e H = regK tbl fin K [] f27o15 [6, 7] e H := run_regK _ _ _ _ _ _ _ _ _ rfl
def f27body : IC := (.seq f27r0 (.seq f27r1 (.seq (.block 0 (.seq f27r2 (.cond (.t 14) (.seq f27r3 .ret) (.seq f27r4 (.cond (.t 18) (.seq f27r5 .ret) (.seq f27r6 (.cond (.t 23) (.seq f27r7 .ret) (.seq f27r8 (.cond (.t 28) (.seq f27r9 .ret) .skip))))))))) (.seq f27r10 (.seq f27r11 (.seq (.block 1 (.loop [10, 5, 9, 0] f27b14)) (.seq f27r15 .ret)))))))
def f27 : IFn := ⟨84, 3, [.tmp 6, .tmp 7], f27body⟩
/- 28: jobshell/proc.Exit -/
@[simp] def f28o0 : List IOper := [
  ⟨(some 6), .nilrow 30 13, none, none⟩,
  ⟨(some 7), .mv (.c (.int .i64 0)), none, none⟩]
def f28r0 : IC := .reg false [] f28o0 [1, 2, 0]
@[simp] theorem f28r0_run : run tbl fin K f28r0 e H = regK tbl fin K [] f28o0 [1, 2, 0] e H := run_regK _ _ _ _ _ _ _ _ _ rfl
@[simp] def f28o1 : List IOper := [
  ⟨(some 13), .mv (.t 0), none, none⟩,
  ⟨(some 14), .mv (.t 1), none, none⟩,
  ⟨(some 15), .call (.c (.fn 47 [])) [(.t 13), (.t 14)], none, none⟩,
  ⟨(some 8), .mv (.t 15), none, none⟩]
def f28r1 : IC := .reg false [] f28o1 [1, 8, 2, 0]
@[simp] theorem f28r1_run : run tbl fin K f28r1 e H = regK tbl fin K [] f28o1 [1, 8, 2, 0] e H := run_regK _ _ _ _ _ _ _ _ _ rfl
@[simp] def f28o2 : List IOper := [
  ⟨(some 17), .mv (.t 2), none, none⟩,
  ⟨(some 18), .call (.c (.fn 69 [])) [(.t 17)], none, none⟩,
  ⟨(some 16), .mv (.t 18), none, none⟩,
  ⟨(some 19), .ext (.t 16) 0, none, none⟩,
  ⟨(some 20), .ext (.t 16) 1, none, none⟩,
  ⟨(some 9), .mv (.t 19), none, none⟩,
  ⟨(some 10), .mv (.t 20), none, none⟩]
def f28r2 : IC := .reg false [] f28o2 [9, 1, 8, 2, 0]
@[simp] theorem f28r2_run : run tbl fin K f28r2 e H = regK tbl fin K [] f28o2 [9, 1, 8, 2, 0] e H := run_regK _ _ _ _ _ _ _ _ _ rfl
@[simp] def f28o3 : List IOper := [
  ⟨(some 22), .mv (.t 8), none, none⟩,
  ⟨(some 23), .bin .lss (.t 22) (.c (.int .i64 0)), none, none⟩,
  ⟨(some 21), .mv (.t 23), none, none⟩]
def f28r3 : IC := .reg false [] f28o3 [21, 9, 1, 8, 2, 0]
@[simp] theorem f28r3_run : run tbl fin K f28r3 e H = regK tbl fin K [] f28o3 [21, 9, 1, 8, 2, 0] e H := run_regK _ _ _ _ _ _ _ _ _ rfl
@[simp] def f28o4 : List IOper := [
  ⟨(some 24), .mv (.t 0), none, none⟩,
  ⟨(some 6), .mv (.t 24), none, none⟩,
  ⟨(some 7), .mv (.c (.int .i64 21)), none, none⟩]
def f28r4 : IC := .reg false [] f28o4 [6, 7]
@[simp] theorem f28r4_run : run tbl fin K f28r4 e H = regK tbl fin K [] f28o4 [6, 7] e H := run_regK _ _ _ _ _ _ _ _ _ rfl
@[simp] def f28o5 : List IOper := [
  ⟨(some 26), .mv (.t 1), none, none⟩,
  ⟨(some 27), .bin .eql (.t 26) (.c (.int .i64 1)), none, none⟩,
  ⟨(some 25), .mv (.t 27), none, none⟩]
def f28r5 : IC := .reg false [] f28o5 [25, 2, 8, 1, 9, 0]
@[simp] theorem f28r5_run : run tbl fin K f28r5 e H = regK tbl fin K [] f28o5 [25, 2, 8, 1, 9, 0] e H := run_regK _ _ _ _ _ _ _ _ _ rfl
@[simp] def f28o6 : List IOper := [
  ⟨(some 28), .mv (.t 0), none, none⟩,
  ⟨(some 6), .mv (.t 28), none, none⟩,
  ⟨(some 7), .mv (.c (.int .i64 23)), none, none⟩]
def f28r6 : IC := .reg false [] f28o6 [6, 7]
@[simp] theorem f28r6_run : run tbl fin K f28r6 e H = regK tbl fin K [] f28o6 [6, 7] e H := run_regK _ _ _ _ _ _ _ _ _ rfl
@[simp] def f28o7 : List IOper := [
  ⟨(some 30), .mv (.t 9), none, none⟩,
  ⟨(some 31), .bin .neq (.t 30) (.c (.int .i64 0)), none, none⟩,
  ⟨(some 32), .mv (.t 31), none, none⟩,
  ⟨(some 33), .mv (.t 9), (some (32, true)), none⟩,
  ⟨(some 34), .bin .neq (.t 33) (.c (.int .i64 1)), (some (32, true)), none⟩,
  ⟨(some 35), .pick (.t 32) (.t 34) (.c (.bool false)), none, none⟩,
  ⟨(some 29), .mv (.t 35), none, none⟩]
def f28r7 : IC := .reg false [] f28o7 [29, 1, 8, 2, 0]
@[simp] theorem f28r7_run : run tbl fin K f28r7 e H = regK tbl fin K [] f28o7 [29, 1, 8, 2, 0] e H := run_regK _ _ _ _ _ _ _ _ _ rfl
@[simp] def f28o8 : List IOper := [
  ⟨(some 36), .mv (.t 0), none, none⟩,
  ⟨(some 6), .mv (.t 36), none, none⟩,
  ⟨(some 7), .mv (.c (.int .i64 1)), none, none⟩]
def f28r8 : IC := .reg false [] f28o8 [6, 7]
@[simp] theorem f28r8_run : run tbl fin K f28r8 e H = regK tbl fin K [] f28o8 [6, 7] e H := run_regK _ _ _ _ _ _ _ _ _ rfl
@[simp] def f28o9 : List IOper := [
  ⟨(some 37), .mv (.t 0), none, none⟩,
  ⟨(some 38), .call (.c (.fn 54 [])) [(.t 37)], none, none⟩,
  ⟨(some 11), .mv (.t 38), none, none⟩]
def f28r9 : IC := .reg false [] f28o9 [2, 8, 1, 11]
@[simp] theorem f28r9_run : run tbl fin K f28r9 e H = regK tbl fin K [] f28o9 [2, 8, 1, 11] e H := run_regK _ _ _ _ _ _ _ _ _ rfl
@[simp] def f28o10 : List IOper := [
  ⟨(some 39), .mv (.t 11), none, none⟩,
  ⟨(some 40), .mv (.t 8), none, none⟩,
  ⟨(some 41), .mv (.t 11), none, none⟩,
  ⟨(some 42), .mv (.t 8), none, none⟩,
  ⟨(some 43), .mv (.t 11), none, none⟩,
  ⟨(some 44), .mv (.t 8), none, none⟩,
  ⟨(some 45), .mv (.t 2), none, none⟩,
  ⟨(some 46), .idx 13 (.t 39) (.t 40), none, some [46, 42, 41, 45, 44, 43, 8, 1, 11]⟩,
  ⟨(some 47), .fld 4 (.t 46), none, none⟩,
  ⟨none, .store 1 (.t 47) (.c (.int .i64 3)), none, none⟩,
  ⟨(some 48), .idx 13 (.t 41) (.t 42), none, none⟩,
  ⟨(some 49), .fld 5 (.t 48), none, none⟩,
  ⟨none, .store 1 (.t 49) (.t 45), none, none⟩,
  ⟨(some 50), .idx 13 (.t 43) (.t 44), none, none⟩,
  ⟨(some 51), .fld 6 (.t 50), none, none⟩,
  ⟨none, .store 1 (.t 51) (.c (.bool true)), none, none⟩]
def f28r10 : IC := .reg false [] f28o10 [8, 1, 11]
@[simp] theorem f28r10_run : run tbl fin K f28r10 e H = regK tbl fin K [] f28o10 [8, 1, 11] e H := run_regK _ _ _ _ _ _ _ _ _ rfl
@[simp] def f28o11 : List IOper := [
  ⟨(some 52), .mv (.t 11), none, none⟩,
  ⟨(some 53), .mv (.t 8), none, none⟩,
  ⟨(some 54), .mv (.t 11), none, none⟩,
  ⟨(some 55), .mv (.t 8), none, none⟩,
  ⟨(some 56), .mv (.t 11), none, none⟩,
  ⟨(some 57), .mv (.t 8), none, none⟩,
  ⟨(some 58), .build [.e0, .e0, .e0] [], none, none⟩,
  ⟨(some 59), .idx 13 (.t 52) (.t 53), none, some [59, 55, 54, 58, 57, 56, 1, 11]⟩,
  ⟨(some 60), .fld 7 (.t 59), none, none⟩,
  ⟨none, .store 1 (.t 60) (.c (.int .i64 0)), none, none⟩,
  ⟨(some 61), .idx 13 (.t 54) (.t 55), none, none⟩,
  ⟨(some 62), .fld 8 (.t 61), none, none⟩,
  ⟨none, .store 3 (.t 62) (.t 58), none, none⟩,
  ⟨(some 63), .idx 13 (.t 56) (.t 57), none, none⟩,
  ⟨(some 64), .fld 11 (.t 63), none, none⟩,
  ⟨none, .store 1 (.t 64) (.c .e0), none, none⟩]
def f28r11 : IC := .reg false [] f28o11 [1, 11]
@[simp] theorem f28r11_run : run tbl fin K f28r11 e H = regK tbl fin K [] f28o11 [1, 11] e H := run_regK _ _ _ _ _ _ _ _ _ rfl
@[simp] def f28o12 : List IOper := [
  ⟨(some 65), .mv (.t 11), none, none⟩,
  ⟨(some 66), .len (.t 65), none, none⟩,
  ⟨(some 67), .mv (.c (.int .i64 0)), none, none⟩]
def f28r12 : IC := .reg false [] f28o12 [67, 66, 1, 11]
@[simp] theorem f28r12_run : run tbl fin K f28r12 e H = regK tbl fin K [] f28o12 [67, 66, 1, 11] e H := run_regK _ _ _ _ _ _ _ _ _ rfl
@[simp] def f28o13 : List IOper := [
  ⟨(some 68), .bin .lss (.t 67) (.t 66), none, none⟩]
def f28r13 : IC := .reg false [] f28o13 [68, 67, 66, 1, 11]
@[simp] theorem f28r13_run : run tbl fin K f28r13 e H = regK tbl fin K [] f28o13 [68, 67, 66, 1, 11] e H := run_regK _ _ _ _ _ _ _ _ _ rfl
@[simp] def f28o14 : List IOper := [
  ⟨(some 69), .mv (.t 67), none, none⟩,
  ⟨(some 12), .mv (.t 69), none, none⟩]
def f28r14 : IC := .reg false [] f28o14 [12, 67, 66, 1, 11]
@[simp] theorem f28r14_run : run tbl fin K f28r14 e H = regK tbl fin K [] f28o14 [12, 67, 66, 1, 11] e H := run_regK _ _ _ _ _ _ _ _ _ rfl
@[simp] def f28o15 : List IOper := [
  ⟨(some 70), .mv (.t 11), none, none⟩,
  ⟨(some 71), .mv (.t 12), none, none⟩,
  ⟨(some 72), .idx 13 (.t 70) (.t 71), none, none⟩,
  ⟨(some 73), .fld 1 (.t 72), none, none⟩,
  ⟨(some 74), .load false 1 (.t 73), none, none⟩,
  ⟨(some 75), .mv (.t 1), none, none⟩,
  ⟨(some 76), .bin .eql (.t 74) (.t 75), none, none⟩]
def f28r15 : IC := .reg false [] f28o15 [76, 12, 67, 66, 1, 11]
@[simp] theorem f28r15_run : run tbl fin K f28r15 e H = regK tbl fin K [] f28o15 [76, 12, 67, 66, 1, 11] e H := run_regK _ _ _ _ _ _ _ _ _ rfl
@[simp] def f28o16 : List IOper := [
  ⟨(some 77), .mv (.t 11), none, none⟩,
  ⟨(some 78), .mv (.t 12), none, none⟩,
  ⟨(some 79), .idx 13 (.t 77) (.t 78), none, none⟩,
  ⟨(some 80), .fld 1 (.t 79), none, none⟩,
  ⟨none, .store 1 (.t 80) (.c (.int .i64 1)), none, none⟩]
def f28r16 : IC := .reg false [] f28o16 [67, 66, 1, 11]
@[simp] theorem f28r16_run : run tbl fin K f28r16 e H = regK tbl fin K [] f28o16 [67, 66, 1, 11] e H := run_regK _ _ _ _ _ _ _ _ _ rfl
@[simp] def f28o17 : List IOper := [
  ⟨(some 81), .bin .add (.t 67) (.c (.int .i64 1)), none, none⟩,
  ⟨(some 67), .mv (.t 81), none, none⟩]
def f28r17 : IC := .reg false [] f28o17 [67, 66, 1, 11]
@[simp] theorem f28r17_run : run tbl fin K f28r17 e H = regK tbl fin K [] f28o17 [67, 66, 1, 11] e H := run_regK _ _ _ _ _ _ _ _ _ rfl
def f28b18 : IC := (.seq f28r13 (.seq (.cond (.t 68) .skip (.exit 1)) (.seq (.block 2 (.seq f28r14 (.seq f28r15 (.cond (.t 76) f28r16 .skip)))) f28r17)))
theorem f28b18_eq : f28b18 = (.seq f28r13 (.seq (.cond (.t 68) .skip (.exit 1)) (.seq (.block 2 (.seq f28r14 (.seq f28r15 (.cond (.t 76) f28r16 .skip)))) f28r17))) := rfl
@[simp] def f28o19 : List IOper := [
  ⟨(some 82), .mv (.t 11), none, none⟩,
  ⟨(some 6), .mv (.t 82), none, none⟩,
  ⟨(some 7), .mv (.c (.int .i64 0)), none, none⟩]
def f28r19 : IC := .reg false [] f28o19 [6, 7]
@[simp] theorem f28r19_run : run tbl fin K f28r19 e H = regK tbl fin K [] f28o19 [6, 7] e H := run_regK _ _ _ _ _ _ _ _ _ rfl
def f28body : IC := (.seq f28r0 (.seq f28r1 (.seq f28r2 (.seq (.block 0 (.seq f28r3 (.cond (.t 21) (.seq f28r4 .ret) (.seq f28r5 (.cond (.t 25) (.seq f28r6 .ret) (.seq f28r7 (.cond (.t 29) (.seq f28r8 .ret) .skip))))))) (.seq f28r9 (.seq f28r10 (.seq f28r11 (.seq (.seq f28r12 (.block 1 (.loop [67, 66, 1, 11] f28b18))) (.seq f28r19 .ret)))))))))
def f28 : IFn := ⟨83, 3, [.tmp 6, .tmp 7], f28body⟩
/- 29: jobshell/proc.Orphaned -/
@[simp] def f29o0 : List IOper := [
  ⟨(some 4), .mv (.c (.bool false)), none, none⟩]
def f29r0 : IC := .reg false [] f29o0 [1, 0]
@[simp] theorem f29r0_run : run tbl fin K f29r0 e H = regK tbl fin K [] f29o0 [1, 0] e H := run_regK _ _ _ _ _ _ _ _ _ rfl
@[simp] def f29o1 : List IOper := [
  ⟨(some 9), .mv (.t 0), none, none⟩,
  ⟨(some 10), .len (.t 9), none, none⟩,
  ⟨(some 11), .mv (.c (.int .i64 0)), none, none⟩]
def f29r1 : IC := .reg false [] f29o1 [11, 10, 9, 1, 0]
@[simp] theorem f29r1_run : run tbl fin K f29r1 e H = regK tbl fin K [] f29o1 [11, 10, 9, 1, 0] e H := run_regK _ _ _ _ _ _ _ _ _ rfl
@[simp] def f29o2 : List IOper := [
  ⟨(some 12), .bin .lss (.t 11) (.t 10), none, none⟩]
def f29r2 : IC := .reg false [] f29o2 [12, 11, 10, 9, 1, 0]
@[simp] theorem f29r2_run : run tbl fin K f29r2 e H = regK tbl fin K [] f29o2 [12, 11, 10, 9, 1, 0] e H := run_regK _ _ _ _ _ _ _ _ _ rfl
@[simp] def f29o3 : List IOper := [
  ⟨(some 13), .idx 13 (.t 9) (.t 11), none, none⟩,
  ⟨(some 14), .load true 13 (.t 13), none, none⟩,
  ⟨(some 6), .new 30 13 (.agg [(.int .i64 0), (.int .i64 0), (.int .i64 0), (.int .i64 0), (.int .i64 0), (.int .i64 0), (.bool false), (.int .i64 0), .e0, .e0, .e0, .e0, (.str [])]), none, none⟩,
  ⟨none, .store 13 (.t 6) (.t 14), none, none⟩]
def f29r3 : IC := .reg false [] f29o3 [6, 11, 10, 9, 1, 0]
@[simp] theorem f29r3_run : run tbl fin K f29r3 e H = regK tbl fin K [] f29o3 [6, 11, 10, 9, 1, 0] e H := run_regK _ _ _ _ _ _ _ _ _ rfl
@[simp] def f29o4 : List IOper := [
  ⟨(some 15), .fld 2 (.t 6), none, none⟩,
  ⟨(some 16), .load false 1 (.t 15), none, none⟩,
  ⟨(some 17), .mv (.t 1), none, none⟩,
  ⟨(some 18), .bin .neq (.t 16) (.t 17), none, none⟩,
  ⟨(some 19), .mv (.t 18), none, none⟩,
  ⟨(some 20), .load true 13 (.t 6), (some (19, false)), none⟩,
  ⟨(some 21), .call (.c (.fn 70 [])) [(.t 20)], (some (19, false)), none⟩,
  ⟨(some 22), .un .not (.t 21), (some (19, false)), none⟩,
  ⟨(some 23), .pick (.t 19) (.c (.bool true)) (.t 22), none, none⟩]
def f29r4 : IC := .reg false [] f29o4 [23, 6, 11, 10, 9, 1, 0]
@[simp] theorem f29r4_run : run tbl fin K f29r4 e H = regK tbl fin K [] f29o4 [23, 6, 11, 10, 9, 1, 0] e H := run_regK _ _ _ _ _ _ _ _ _ rfl
@[simp] def f29o5 : List IOper := [
  ⟨(some 24), .mv (.t 0), none, none⟩,
  ⟨(some 25), .len (.t 24), none, none⟩,
  ⟨(some 26), .mv (.c (.int .i64 0)), none, none⟩]
def f29r5 : IC := .reg false [] f29o5 [25, 0, 9, 10, 11, 24, 1, 6, 26]
@[simp] theorem f29r5_run : run tbl fin K f29r5 e H = regK tbl fin K [] f29o5 [25, 0, 9, 10, 11, 24, 1, 6, 26] e H := run_regK _ _ _ _ _ _ _ _ _ rfl
@[simp] def f29o6 : List IOper := [
  ⟨(some 27), .bin .lss (.t 26) (.t 25), none, none⟩]
def f29r6 : IC := .reg false [] f29o6 [27, 6, 1, 24, 11, 10, 9, 0, 25, 26]
@[simp] theorem f29r6_run : run tbl fin K f29r6 e H = regK tbl fin K [] f29o6 [27, 6, 1, 24, 11, 10, 9, 0, 25, 26] e H := run_regK _ _ _ _ _ _ _ _ _ rfl
@[simp] def f29o7 : List IOper := [
  ⟨(some 28), .idx 13 (.t 24) (.t 26), none, none⟩,
  ⟨(some 29), .load true 13 (.t 28), none, none⟩,
  ⟨(some 8), .new 30 13 (.agg [(.int .i64 0), (.int .i64 0), (.int .i64 0), (.int .i64 0), (.int .i64 0), (.int .i64 0), (.bool false), (.int .i64 0), .e0, .e0, .e0, .e0, (.str [])]), none, none⟩,
  ⟨none, .store 13 (.t 8) (.t 29), none, none⟩]
def f29r7 : IC := .reg false [] f29o7 [8, 6, 1, 24, 11, 10, 9, 0, 25, 26]
@[simp] theorem f29r7_run : run tbl fin K f29r7 e H = regK tbl fin K [] f29o7 [8, 6, 1, 24, 11, 10, 9, 0, 25, 26] e H := run_regK _ _ _ _ _ _ _ _ _ rfl
@[simp] def f29o8 : List IOper := [
  ⟨(some 30), .fld 0 (.t 8), none, none⟩,
  ⟨(some 31), .load false 1 (.t 30), none, none⟩,
  ⟨(some 32), .fld 1 (.t 6), none, none⟩,
  ⟨(some 33), .load false 1 (.t 32), none, none⟩,
  ⟨(some 34), .bin .eql (.t 31) (.t 33), none, none⟩,
  ⟨(some 35), .mv (.t 34), none, none⟩,
  ⟨(some 36), .fld 2 (.t 8), (some (35, true)), none⟩,
  ⟨(some 37), .load false 1 (.t 36), (some (35, true)), some [37, 35, 8, 6, 1, 24, 11, 10, 9, 0, 25, 26]⟩,
  ⟨(some 38), .mv (.t 1), (some (35, true)), none⟩,
  ⟨(some 39), .bin .neq (.t 37) (.t 38), (some (35, true)), none⟩,
  ⟨(some 40), .pick (.t 35) (.t 39) (.c (.bool false)), none, none⟩,
  ⟨(some 41), .mv (.t 40), none, none⟩,
  ⟨(some 42), .fld 3 (.t 8), (some (41, true)), none⟩,
  ⟨(some 43), .load false 1 (.t 42), (some (41, true)), none⟩,
  ⟨(some 44), .fld 3 (.t 6), (some (41, true)), none⟩,
  ⟨(some 45), .load false 1 (.t 44), (some (41, true)), some [45, 43, 41, 6, 1, 24, 11, 10, 9, 0, 25, 26]⟩,
  ⟨(some 46), .bin .eql (.t 43) (.t 45), (some (41, true)), none⟩,
  ⟨(some 47), .pick (.t 41) (.t 46) (.c (.bool false)), none, none⟩]
def f29r8 : IC := .reg false [] f29o8 [47, 6, 1, 24, 11, 10, 9, 0, 25, 26]
@[simp] theorem f29r8_run : run tbl fin K f29r8 e H = regK tbl fin K [] f29o8 [47, 6, 1, 24, 11, 10, 9, 0, 25, 26] e H := run_regK _ _ _ _ _ _ _ _ _ rfl
@[simp] def f29o9 : List IOper := [
  ⟨(some 4), .mv (.c (.bool false)), none, none⟩]
def f29r9 : IC := .reg false [] f29o9 [4]
@[simp] theorem f29r9_run : run tbl fin K f29r9 e H = regK tbl fin K [] f29o9 [4] e H := run_regK _ _ _ _ _ _ _ _ _ rfl
@[simp] def f29o10 : List IOper := [
  ⟨(some 48), .bin .add (.t 26) (.c (.int .i64 1)), none, none⟩,
  ⟨(some 26), .mv (.t 48), none, none⟩]
def f29r10 : IC := .reg false [] f29o10 [25, 0, 9, 10, 11, 24, 1, 6, 26]
@[simp] theorem f29r10_run : run tbl fin K f29r10 e H = regK tbl fin K [] f29o10 [25, 0, 9, 10, 11, 24, 1, 6, 26] e H := run_regK _ _ _ _ _ _ _ _ _ rfl
def f29b11 : IC := (.seq f29r6 (.seq (.cond (.t 27) .skip (.exit 2)) (.seq (.block 3 (.seq f29r7 (.seq f29r8 (.cond (.t 47) (.seq f29r9 .ret) .skip)))) f29r10)))
theorem f29b11_eq : f29b11 = (.seq f29r6 (.seq (.cond (.t 27) .skip (.exit 2)) (.seq (.block 3 (.seq f29r7 (.seq f29r8 (.cond (.t 47) (.seq f29r9 .ret) .skip)))) f29r10))) := rfl
@[simp] def f29o12 : List IOper := [
  ⟨(some 49), .bin .add (.t 11) (.c (.int .i64 1)), none, none⟩,
  ⟨(some 11), .mv (.t 49), none, none⟩]
def f29r12 : IC := .reg false [] f29o12 [11, 10, 9, 1, 0]
@[simp] theorem f29r12_run : run tbl fin K f29r12 e H = regK tbl fin K [] f29o12 [11, 10, 9, 1, 0] e H := run_regK _ _ _ _ _ _ _ _ _ rfl
def f29b13 : IC := (.seq f29r2 (.seq (.cond (.t 12) .skip (.exit 0)) (.seq (.block 1 (.seq f29r3 (.seq (.seq f29r4 (.cond (.t 23) (.exit 1) .skip)) (.seq f29r5 (.block 2 (.loop [25, 0, 9, 10, 11, 24, 1, 6, 26] f29b11)))))) f29r12)))
theorem f29b13_eq : f29b13 = (.seq f29r2 (.seq (.cond (.t 12) .skip (.exit 0)) (.seq (.block 1 (.seq f29r3 (.seq (.seq f29r4 (.cond (.t 23) (.exit 1) .skip)) (.seq f29r5 (.block 2 (.loop [25, 0, 9, 10, 11, 24, 1, 6, 26] f29b11)))))) f29r12))) := rfl
@[simp] def f29o14 : List IOper := [
  ⟨(some 4), .mv (.c (.bool true)), none, none⟩]
def f29r14 : IC := .reg false [] f29o14 [4]
@[simp] theorem f29r14_run : run tbl fin K f29r14 e H = regK tbl fin K [] f29o14 [4] e H := run_regK _ _ _ _ _ _ _ _ _ rfl
def f29body : IC := (.seq f29r0 (.seq (.seq f29r1 (.block 0 (.loop [11, 10, 9, 1, 0] f29b13))) (.seq f29r14 .ret)))
def f29 : IFn := ⟨50, 2, [.tmp 4], f29body⟩
/- 30: jobshell/jobshellref27.Orphaned -/
@[simp] def f30o0 : List IOper := [
  ⟨(some 4), .mv (.c (.bool false)), none, none⟩]
def f30r0 : IC := .reg false [] f30o0 [0, 1]
@[simp] theorem f30r0_run : run tbl fin K f30r0 e H = regK tbl fin K [] f30o0 [0, 1] e H := run_regK _ _ _ _ _ _ _ _ _ rfl
@[simp] def f30o1 : List IOper := [
  ⟨(some 5), .mv (.c (.int .i64 0)), none, none⟩]
def f30r1 : IC := .reg false [] f30o1 [5, 0, 1]
@[simp] theorem f30r1_run : run tbl fin K f30r1 e H = regK tbl fin K [] f30o1 [5, 0, 1] e H := run_regK _ _ _ _ _ _ _ _ _ rfl
@[simp] def f30o2 : List IOper := [
  ⟨(some 8), .mv (.t 5), none, none⟩,
  ⟨(some 9), .mv (.t 0), none, none⟩,
  ⟨(some 10), .len (.t 9), none, none⟩,
  ⟨(some 11), .bin .lss (.t 8) (.t 10), none, none⟩]
def f30r2 : IC := .reg false [] f30o2 [11, 5, 0, 1]
@[simp] theorem f30r2_run : run tbl fin K f30r2 e H = regK tbl fin K [] f30o2 [11, 5, 0, 1] e H := run_regK _ _ _ _ _ _ _ _ _ rfl
@[simp] def f30o3 : List IOper := [
  ⟨(some 14), .mv (.t 0), none, none⟩,
  ⟨(some 15), .mv (.t 5), none, none⟩,
  ⟨(some 16), .idx 13 (.t 14) (.t 15), none, none⟩,
  ⟨(some 17), .load true 13 (.t 16), none, none⟩,
  ⟨(some 6), .new 30 13 (.agg [(.int .i64 0), (.int .i64 0), (.int .i64 0), (.int .i64 0), (.int .i64 0), (.int .i64 0), (.bool false), (.int .i64 0), .e0, .e0, .e0, .e0, (.str [])]), none, none⟩,
  ⟨none, .store 13 (.t 6) (.t 17), none, none⟩]
def f30r3 : IC := .reg false [] f30o3 [6, 5, 0, 1]
@[simp] theorem f30r3_run : run tbl fin K f30r3 e H = regK tbl fin K [] f30o3 [6, 5, 0, 1] e H := run_regK _ _ _ _ _ _ _ _ _ rfl
@[simp] def f30o4 : List IOper := [
  ⟨(some 18), .fld 2 (.t 6), none, none⟩,
  ⟨(some 19), .load false 1 (.t 18), none, none⟩,
  ⟨(some 20), .mv (.t 1), none, none⟩,
  ⟨(some 21), .bin .neq (.t 19) (.t 20), none, none⟩,
  ⟨(some 22), .mv (.t 21), none, none⟩,
  ⟨(some 23), .fld 4 (.t 6), (some (22, false)), none⟩,
  ⟨(some 24), .load false 1 (.t 23), (some (22, false)), none⟩,
  ⟨(some 25), .bin .eql (.t 24) (.c (.int .i64 3)), (some (22, false)), none⟩,
  ⟨(some 26), .pick (.t 22) (.c (.bool true)) (.t 25), none, none⟩]
def f30r4 : IC := .reg false [] f30o4 [26, 6, 5, 0, 1]
@[simp] theorem f30r4_run : run tbl fin K f30r4 e H = regK tbl fin K [] f30o4 [26, 6, 5, 0, 1] e H := run_regK _ _ _ _ _ _ _ _ _ rfl
@[simp] def f30o5 : List IOper := [
  ⟨(some 27), .mv (.t 0), none, none⟩,
  ⟨(some 28), .fld 1 (.t 6), none, none⟩,
  ⟨(some 29), .load false 1 (.t 28), none, none⟩,
  ⟨(some 30), .call (.c (.fn 41 [])) [(.t 27), (.t 29)], none, none⟩,
  ⟨(some 7), .mv (.t 30), none, none⟩]
def f30r5 : IC := .reg false [] f30o5 [7, 6, 1, 0, 5]
@[simp] theorem f30r5_run : run tbl fin K f30r5 e H = regK tbl fin K [] f30o5 [7, 6, 1, 0, 5] e H := run_regK _ _ _ _ _ _ _ _ _ rfl
@[simp] def f30o6 : List IOper := [
  ⟨(some 31), .mv (.t 7), none, none⟩,
  ⟨(some 32), .bin .geq (.t 31) (.c (.int .i64 0)), none, none⟩,
  ⟨(some 33), .mv (.t 32), none, none⟩,
  ⟨(some 34), .mv (.t 0), (some (33, true)), none⟩,
  ⟨(some 35), .mv (.t 7), (some (33, true)), none⟩,
  ⟨(some 36), .idx 13 (.t 34) (.t 35), (some (33, true)), none⟩,
  ⟨(some 37), .fld 2 (.t 36), (some (33, true)), none⟩,
  ⟨(some 38), .load false 1 (.t 37), (some (33, true)), none⟩,
  ⟨(some 39), .mv (.t 1), (some (33, true)), none⟩,
  ⟨(some 40), .bin .neq (.t 38) (.t 39), (some (33, true)), none⟩,
  ⟨(some 41), .pick (.t 33) (.t 40) (.c (.bool false)), none, none⟩,
  ⟨(some 42), .mv (.t 41), none, none⟩,
  ⟨(some 43), .mv (.t 0), (some (42, true)), none⟩,
  ⟨(some 44), .mv (.t 7), (some (42, true)), none⟩,
  ⟨(some 45), .idx 13 (.t 43) (.t 44), (some (42, true)), none⟩,
  ⟨(some 46), .fld 3 (.t 45), (some (42, true)), none⟩,
  ⟨(some 47), .load false 1 (.t 46), (some (42, true)), none⟩,
  ⟨(some 48), .fld 3 (.t 6), (some (42, true)), none⟩,
  ⟨(some 49), .load false 1 (.t 48), (some (42, true)), none⟩,
  ⟨(some 50), .bin .eql (.t 47) (.t 49), (some (42, true)), none⟩,
  ⟨(some 51), .pick (.t 42) (.t 50) (.c (.bool false)), none, none⟩]
def f30r6 : IC := .reg true [] f30o6 [51, 1, 0, 5]
@[simp] theorem f30r6_run : run tbl fin K f30r6 e H = regK tbl fin K [] f30o6 [51, 1, 0, 5] e H := run_regK _ _ _ _ _ _ _ _ _ rfl
@[simp] def f30o7 : List IOper := [
  ⟨(some 4), .mv (.c (.bool false)), none, none⟩]
def f30r7 : IC := .reg false [] f30o7 [4]
@[simp] theorem f30r7_run : run tbl fin K f30r7 e H = regK tbl fin K [] f30o7 [4] e H := run_regK _ _ _ _ _ _ _ _ _ rfl
@[simp] def f30o8 : List IOper := [
  ⟨(some 12), .mv (.t 5), none, none⟩,
  ⟨(some 13), .bin .add (.t 12) (.c (.int .i64 1)), none, none⟩,
  ⟨(some 5), .mv (.t 13), none, none⟩]
def f30r8 : IC := .reg false [] f30o8 [5, 0, 1]
@[simp] theorem f30r8_run : run tbl fin K f30r8 e H = regK tbl fin K [] f30o8 [5, 0, 1] e H := run_regK _ _ _ _ _ _ _ _ _ rfl
def f30b9 : IC := (.seq (.seq f30r2 (.cond (.t 11) .skip (.exit 0))) (.seq (.block 1 (.seq f30r3 (.seq (.seq f30r4 (.cond (.t 26) (.exit 1) .skip)) (.seq f30r5 (.seq f30r6 (.cond (.t 51) (.seq f30r7 .ret) .skip)))))) f30r8))
theorem f30b9_eq : f30b9 = (.seq (.seq f30r2 (.cond (.t 11) .skip (.exit 0))) (.seq (.block 1 (.seq f30r3 (.seq (.seq f30r4 (.cond (.t 26) (.exit 1) .skip)) (.seq f30r5 (.seq f30r6 (.cond (.t 51) (.seq f30r7 .ret) .skip)))))) f30r8)) := rfl
@[simp] def f30o10 : List IOper := [
  ⟨(some 4), .mv (.c (.bool true)), none, none⟩]
def f30r10 : IC := .reg false [] f30o10 [4]
@[simp] theorem f30r10_run : run tbl fin K f30r10 e H = regK tbl fin K [] f30o10 [4] e H := run_regK _ _ _ _ _ _ _ _ _ rfl
def f30body : IC := (.seq f30r0 (.seq (.seq f30r1 (.block 0 (.loop [5, 0, 1] f30b9))) (.seq f30r10 .ret)))
def f30 : IFn := ⟨52, 2, [.tmp 4], f30body⟩
/- 31: jobshell/jobshelllaw27.numbers -/
@[simp] def f31o0 : List IOper := [
  ⟨(some 4), .mv (.c (.bool false)), none, none⟩]
def f31r0 : IC := .reg false [] f31o0 [1, 0]
@[simp] theorem f31r0_run : run tbl fin K f31r0 e H = regK tbl fin K [] f31o0 [1, 0] e H := run_regK _ _ _ _ _ _ _ _ _ rfl
@[simp] def f31o1 : List IOper := [
  ⟨(some 6), .mv (.t 0), none, none⟩,
  ⟨(some 7), .len (.t 6), none, none⟩,
  ⟨(some 8), .mv (.t 1), none, none⟩,
  ⟨(some 9), .len (.t 8), none, none⟩,
  ⟨(some 10), .bin .neq (.t 7) (.t 9), none, none⟩]
def f31r1 : IC := .reg false [] f31o1 [10, 1, 0]
@[simp] theorem f31r1_run : run tbl fin K f31r1 e H = regK tbl fin K [] f31o1 [10, 1, 0] e H := run_regK _ _ _ _ _ _ _ _ _ rfl
@[simp] def f31o2 : List IOper := [
  ⟨(some 4), .mv (.c (.bool false)), none, none⟩]
def f31r2 : IC := .reg false [] f31o2 [4]
@[simp] theorem f31r2_run : run tbl fin K f31r2 e H = regK tbl fin K [] f31o2 [4] e H := run_regK _ _ _ _ _ _ _ _ _ rfl
@[simp] def f31o3 : List IOper := [
  ⟨(some 5), .mv (.c (.int .i64 0)), none, none⟩]
def f31r3 : IC := .reg false [] f31o3 [0, 1, 5]
@[simp] theorem f31r3_run : run tbl fin K f31r3 e H = regK tbl fin K [] f31o3 [0, 1, 5] e H := run_regK _ _ _ _ _ _ _ _ _ rfl
@[simp] def f31o4 : List IOper := [
  ⟨(some 11), .mv (.t 5), none, none⟩,
  ⟨(some 12), .mv (.t 0), none, none⟩,
  ⟨(some 13), .len (.t 12), none, none⟩,
  ⟨(some 14), .bin .lss (.t 11) (.t 13), none, none⟩]
def f31r4 : IC := .reg false [] f31o4 [14, 1, 0, 5]
@[simp] theorem f31r4_run : run tbl fin K f31r4 e H = regK tbl fin K [] f31o4 [14, 1, 0, 5] e H := run_regK _ _ _ _ _ _ _ _ _ rfl
@[simp] def f31o5 : List IOper := [
  ⟨(some 17), .mv (.t 0), none, none⟩,
  ⟨(some 18), .mv (.t 5), none, none⟩,
  ⟨(some 19), .idx 1 (.t 17) (.t 18), none, none⟩,
  ⟨(some 20), .load false 1 (.t 19), none, none⟩,
  ⟨(some 21), .mv (.t 1), none, none⟩,
  ⟨(some 22), .mv (.t 5), none, none⟩,
  ⟨(some 23), .idx 1 (.t 21) (.t 22), none, none⟩,
  ⟨(some 24), .load false 1 (.t 23), none, none⟩,
  ⟨(some 25), .bin .neq (.t 20) (.t 24), none, none⟩]
def f31r5 : IC := .reg true [] f31o5 [25, 1, 0, 5]
@[simp] theorem f31r5_run : run tbl fin K f31r5 e H = regK tbl fin K [] f31o5 [25, 1, 0, 5] e H := run_regK _ _ _ _ _ _ _ _ _ rfl
@[simp] def f31o6 : List IOper := [
  ⟨(some 4), .mv (.c (.bool false)), none, none⟩]
def f31r6 : IC := .reg false [] f31o6 [4]
@[simp] theorem f31r6_run : run tbl fin K f31r6 e H = regK tbl fin K [] f31o6 [4] e H := run_regK _ _ _ _ _ _ _ _ _ rfl
@[simp] def f31o7 : List IOper := [
  ⟨(some 15), .mv (.t 5), none, none⟩,
  ⟨(some 16), .bin .add (.t 15) (.c (.int .i64 1)), none, none⟩,
  ⟨(some 5), .mv (.t 16), none, none⟩]
def f31r7 : IC := .reg false [] f31o7 [0, 1, 5]
@[simp] theorem f31r7_run : run tbl fin K f31r7 e H = regK tbl fin K [] f31o7 [0, 1, 5] e H := run_regK _ _ _ _ _ _ _ _ _ rfl
def f31b8 : IC := (.seq (.seq f31r4 (.cond (.t 14) .skip (.exit 0))) (.seq (.block 1 (.seq f31r5 (.cond (.t 25) (.seq f31r6 .ret) .skip))) f31r7))
theorem f31b8_eq : f31b8 = (.seq (.seq f31r4 (.cond (.t 14) .skip (.exit 0))) (.seq (.block 1 (.seq f31r5 (.cond (.t 25) (.seq f31r6 .ret) .skip))) f31r7)) := rfl
@[simp] def f31o9 : List IOper := [
  ⟨(some 4), .mv (.c (.bool true)), none, none⟩]
def f31r9 : IC := .reg false [] f31o9 [4]
@[simp] theorem f31r9_run : run tbl fin K f31r9 e H = regK tbl fin K [] f31o9 [4] e H := run_regK _ _ _ _ _ _ _ _ _ rfl
def f31body : IC := (.seq f31r0 (.seq (.seq f31r1 (.cond (.t 10) (.seq f31r2 .ret) .skip)) (.seq (.seq f31r3 (.block 0 (.loop [0, 1, 5] f31b8))) (.seq f31r9 .ret))))
def f31 : IFn := ⟨26, 2, [.tmp 4], f31body⟩
/- 32: jobshell/proc.Targets -/
@[simp] def f32o0 : List IOper := [
  ⟨(some 4), .box 3 1 (.t 1), none, none⟩,
  ⟨(some 6), .nilrow 3 1, none, none⟩]
def f32r0 : IC := .reg false [] f32o0 [0, 2, 4]
@[simp] theorem f32r0_run : run tbl fin K f32r0 e H = regK tbl fin K [] f32o0 [0, 2, 4] e H := run_regK _ _ _ _ _ _ _ _ _ rfl
@[simp] def f32o1 : List IOper := [
  ⟨(some 12), .mv (.t 2), none, none⟩,
  ⟨(some 13), .un .neg (.t 12), none, none⟩,
  ⟨(some 7), .mv (.t 13), none, none⟩]
def f32r1 : IC := .reg false [] f32o1 [0, 2, 4, 7]
@[simp] theorem f32r1_run : run tbl fin K f32r1 e H = regK tbl fin K [] f32o1 [0, 2, 4, 7] e H := run_regK _ _ _ _ _ _ _ _ _ rfl
@[simp] def f32o2 : List IOper := [
  ⟨(some 15), .mv (.t 2), none, none⟩,
  ⟨(some 16), .bin .eql (.t 15) (.c (.int .i64 (-1))), none, none⟩,
  ⟨(some 14), .mv (.t 16), none, none⟩]
def f32r2 : IC := .reg false [] f32o2 [14, 0, 2, 4, 7]
@[simp] theorem f32r2_run : run tbl fin K f32r2 e H = regK tbl fin K [] f32o2 [14, 0, 2, 4, 7] e H := run_regK _ _ _ _ _ _ _ _ _ rfl
@[simp] def f32o3 : List IOper := [
  ⟨(some 6), .nilrow 3 1, none, none⟩]
def f32r3 : IC := .reg false [] f32o3 [6]
@[simp] theorem f32r3_run : run tbl fin K f32r3 e H = regK tbl fin K [] f32o3 [6] e H := run_regK _ _ _ _ _ _ _ _ _ rfl
@[simp] def f32o4 : List IOper := [
  ⟨(some 18), .mv (.t 2), none, none⟩,
  ⟨(some 19), .bin .eql (.t 18) (.c (.int .i64 0)), none, none⟩,
  ⟨(some 17), .mv (.t 19), none, none⟩]
def f32r4 : IC := .reg false [] f32o4 [17, 7, 4, 2, 0]
@[simp] theorem f32r4_run : run tbl fin K f32r4 e H = regK tbl fin K [] f32o4 [17, 7, 4, 2, 0] e H := run_regK _ _ _ _ _ _ _ _ _ rfl
@[simp] def f32o5 : List IOper := [
  ⟨(some 20), .mv (.t 0), none, none⟩,
  ⟨(some 21), .mkfn 71 [(.t 4)], none, none⟩,
  ⟨(some 22), .ocall (.c (.fn 52 [])) [(.t 20), (.t 21)], none, none⟩,
  ⟨(some 8), .mv (.t 22), none, none⟩]
def f32r5 : IC := .reg false [] f32o5 [2, 0, 8]
@[simp] theorem f32r5_run : run tbl fin K f32r5 e H = regK tbl fin K [] f32o5 [2, 0, 8] e H := run_regK _ _ _ _ _ _ _ _ _ rfl
@[simp] def f32o6 : List IOper := [
  ⟨(some 23), .mv (.t 8), none, none⟩,
  ⟨(some 24), .bin .lss (.t 23) (.c (.int .i64 0)), none, none⟩]
def f32r6 : IC := .reg false [] f32o6 [24, 2, 0, 8]
@[simp] theorem f32r6_run : run tbl fin K f32r6 e H = regK tbl fin K [] f32o6 [24, 2, 0, 8] e H := run_regK _ _ _ _ _ _ _ _ _ rfl
@[simp] def f32o7 : List IOper := [
  ⟨(some 6), .nilrow 3 1, none, none⟩]
def f32r7 : IC := .reg false [] f32o7 [6]
@[simp] theorem f32r7_run : run tbl fin K f32r7 e H = regK tbl fin K [] f32o7 [6] e H := run_regK _ _ _ _ _ _ _ _ _ rfl
@[simp] def f32o8 : List IOper := [
  ⟨(some 25), .mv (.t 0), none, none⟩,
  ⟨(some 26), .mv (.t 8), none, none⟩,
  ⟨(some 27), .idx 13 (.t 25) (.t 26), none, none⟩,
  ⟨(some 28), .fld 2 (.t 27), none, none⟩,
  ⟨(some 29), .load false 1 (.t 28), none, none⟩,
  ⟨(some 7), .mv (.t 29), none, none⟩]
def f32r8 : IC := .reg false [] f32o8 [0, 2, 7]
@[simp] theorem f32r8_run : run tbl fin K f32r8 e H = regK tbl fin K [] f32o8 [0, 2, 7] e H := run_regK _ _ _ _ _ _ _ _ _ rfl
@[simp] def f32o9 : List IOper := [
  ⟨(some 9), .nilrow 3 1, none, none⟩]
def f32r9 : IC := .reg false [] f32o9 [0, 9, 2, 7]
@[simp] theorem f32r9_run : run tbl fin K f32r9 e H = regK tbl fin K [] f32o9 [0, 9, 2, 7] e H := run_regK _ _ _ _ _ _ _ _ _ rfl
@[simp] def f32o10 : List IOper := [
  ⟨(some 30), .mv (.t 0), none, none⟩,
  ⟨(some 31), .len (.t 30), none, none⟩,
  ⟨(some 32), .mv (.c (.int .i64 0)), none, none⟩]
def f32r10 : IC := .reg false [] f32o10 [9, 32, 31, 30, 2, 7]
@[simp] theorem f32r10_run : run tbl fin K f32r10 e H = regK tbl fin K [] f32o10 [9, 32, 31, 30, 2, 7] e H := run_regK _ _ _ _ _ _ _ _ _ rfl
@[simp] def f32o11 : List IOper := [
  ⟨(some 33), .bin .lss (.t 32) (.t 31), none, none⟩]
def f32r11 : IC := .reg false [] f32o11 [33, 9, 32, 31, 30, 2, 7]
@[simp] theorem f32r11_run : run tbl fin K f32r11 e H = regK tbl fin K [] f32o11 [33, 9, 32, 31, 30, 2, 7] e H := run_regK _ _ _ _ _ _ _ _ _ rfl
@[simp] def f32o12 : List IOper := [
  ⟨(some 34), .idx 13 (.t 30) (.t 32), none, none⟩,
  ⟨(some 35), .load true 13 (.t 34), none, none⟩,
  ⟨(some 11), .new 30 13 (.agg [(.int .i64 0), (.int .i64 0), (.int .i64 0), (.int .i64 0), (.int .i64 0), (.int .i64 0), (.bool false), (.int .i64 0), .e0, .e0, .e0, .e0, (.str [])]), none, none⟩,
  ⟨none, .store 13 (.t 11) (.t 35), none, none⟩]
def f32r12 : IC := .reg false [] f32o12 [9, 11, 32, 31, 30, 2, 7]
@[simp] theorem f32r12_run : run tbl fin K f32r12 e H = regK tbl fin K [] f32o12 [9, 11, 32, 31, 30, 2, 7] e H := run_regK _ _ _ _ _ _ _ _ _ rfl
@[simp] def f32o13 : List IOper := [
  ⟨(some 36), .load true 13 (.t 11), none, none⟩,
  ⟨(some 37), .call (.c (.fn 70 [])) [(.t 36)], none, none⟩,
  ⟨(some 38), .mv (.t 37), none, none⟩,
  ⟨(some 39), .mv (.t 2), (some (38, true)), none⟩,
  ⟨(some 40), .bin .gtr (.t 39) (.c (.int .i64 0)), (some (38, true)), none⟩,
  ⟨(some 41), .mv (.t 40), (some (38, true)), none⟩,
  ⟨(some 42), .fld 0 (.t 11), (some (41, true)), none⟩,
  ⟨(some 43), .load false 1 (.t 42), (some (41, true)), some [43, 41, 38, 9, 11, 32, 31, 30, 2, 7]⟩,
  ⟨(some 44), .mv (.t 2), (some (41, true)), none⟩,
  ⟨(some 45), .bin .eql (.t 43) (.t 44), (some (41, true)), none⟩,
  ⟨(some 46), .pick (.t 41) (.t 45) (.c (.bool false)), (some (38, true)), none⟩,
  ⟨(some 47), .mv (.t 46), (some (38, true)), none⟩,
  ⟨(some 48), .mv (.t 2), (some (47, false)), none⟩,
  ⟨(some 49), .bin .leq (.t 48) (.c (.int .i64 0)), (some (47, false)), none⟩,
  ⟨(some 50), .mv (.t 49), (some (47, false)), none⟩,
  ⟨(some 51), .fld 2 (.t 11), (some (50, true)), some [51, 50, 47, 38, 9, 11, 32, 31, 30, 2, 7]⟩,
  ⟨(some 52), .load false 1 (.t 51), (some (50, true)), none⟩,
  ⟨(some 53), .mv (.t 7), (some (50, true)), none⟩,
  ⟨(some 54), .bin .eql (.t 52) (.t 53), (some (50, true)), none⟩,
  ⟨(some 55), .pick (.t 50) (.t 54) (.c (.bool false)), (some (47, false)), none⟩,
  ⟨(some 56), .pick (.t 47) (.c (.bool true)) (.t 55), (some (38, true)), none⟩,
  ⟨(some 57), .pick (.t 38) (.t 56) (.c (.bool false)), none, none⟩]
def f32r13 : IC := .reg false [] f32o13 [57, 9, 11, 32, 31, 30, 2, 7]
@[simp] theorem f32r13_run : run tbl fin K f32r13 e H = regK tbl fin K [] f32o13 [57, 9, 11, 32, 31, 30, 2, 7] e H := run_regK _ _ _ _ _ _ _ _ _ rfl
@[simp] def f32o14 : List IOper := [
  ⟨(some 58), .mv (.t 9), none, none⟩,
  ⟨(some 59), .fld 0 (.t 11), none, none⟩,
  ⟨(some 60), .load false 1 (.t 59), none, none⟩,
  ⟨(some 61), .mkimm 1 1 (.int .i64 0) [(0, (.t 60))], none, none⟩,
  ⟨(some 62), .app 3 1 (.t 58) (.t 61), none, none⟩,
  ⟨(some 9), .mv (.t 62), none, none⟩]
def f32r14 : IC := .reg false [] f32o14 [32, 9, 31, 30, 2, 7]
@[simp] theorem f32r14_run : run tbl fin K f32r14 e H = regK tbl fin K [] f32o14 [32, 9, 31, 30, 2, 7] e H := run_regK _ _ _ _ _ _ _ _ _ rfl
@[simp] def f32o15 : List IOper := [
  ⟨(some 63), .bin .add (.t 32) (.c (.int .i64 1)), none, none⟩,
  ⟨(some 32), .mv (.t 63), none, none⟩]
def f32r15 : IC := .reg false [] f32o15 [9, 32, 31, 30, 2, 7]
@[simp] theorem f32r15_run : run tbl fin K f32r15 e H = regK tbl fin K [] f32o15 [9, 32, 31, 30, 2, 7] e H := run_regK _ _ _ _ _ _ _ _ _ rfl
def f32b16 : IC := (.seq f32r11 (.seq (.cond (.t 33) .skip (.exit 1)) (.seq (.block 2 (.seq f32r12 (.seq f32r13 (.cond (.t 57) f32r14 .skip)))) f32r15)))
theorem f32b16_eq : f32b16 = (.seq f32r11 (.seq (.cond (.t 33) .skip (.exit 1)) (.seq (.block 2 (.seq f32r12 (.seq f32r13 (.cond (.t 57) f32r14 .skip)))) f32r15))) := rfl
@[simp] def f32o17 : List IOper := [
  ⟨(some 64), .mv (.t 9), none, none⟩,
  ⟨(some 6), .mv (.t 64), none, none⟩]
def f32r17 : IC := .reg false [] f32o17 [6]
@[simp] theorem f32r17_run : run tbl fin K f32r17 e H = regK tbl fin K [] f32o17 [6] e H := run_regK _ _ _ _ _ _ _ _ _ rfl
def f32body : IC := (.seq f32r0 (.seq f32r1 (.seq (.block 0 (.seq f32r2 (.cond (.t 14) (.seq f32r3 .ret) (.seq f32r4 (.cond (.t 17) (.seq f32r5 (.seq (.seq f32r6 (.cond (.t 24) (.seq f32r7 .ret) .skip)) f32r8)) .skip))))) (.seq f32r9 (.seq (.seq f32r10 (.block 1 (.loop [9, 32, 31, 30, 2, 7] f32b16))) (.seq f32r17 .ret))))))
def f32 : IFn := ⟨65, 3, [.tmp 6], f32body⟩
/- 33: jobshell/jobshellref27.Targets -/
@[simp] def f33o0 : List IOper := [
  ⟨(some 6), .nilrow 3 1, none, none⟩]
def f33r0 : IC := .reg false [] f33o0 [1, 0, 2]
@[simp] theorem f33r0_run : run tbl fin K f33r0 e H = regK tbl fin K [] f33o0 [1, 0, 2] e H := run_regK _ _ _ _ _ _ _ _ _ rfl
@[simp] def f33o1 : List IOper := [
  ⟨(some 7), .nilrow 3 1, none, none⟩]
def f33r1 : IC := .reg false [] f33o1 [1, 0, 7, 2]
@[simp] theorem f33r1_run : run tbl fin K f33r1 e H = regK tbl fin K [] f33o1 [1, 0, 7, 2] e H := run_regK _ _ _ _ _ _ _ _ _ rfl
@[simp] def f33o2 : List IOper := [
  ⟨(some 13), .mv (.t 0), none, none⟩,
  ⟨(some 14), .mv (.t 1), none, none⟩,
  ⟨(some 15), .call (.c (.fn 13 [])) [(.t 13), (.t 14)], none, none⟩,
  ⟨(some 12), .mv (.t 15), none, none⟩,
  ⟨(some 16), .ext (.t 12) 0, none, none⟩,
  ⟨(some 17), .ext (.t 12) 1, none, none⟩,
  ⟨(some 8), .new 30 13 (.agg [(.int .i64 0), (.int .i64 0), (.int .i64 0), (.int .i64 0), (.int .i64 0), (.int .i64 0), (.bool false), (.int .i64 0), .e0, .e0, .e0, .e0, (.str [])]), none, none⟩,
  ⟨none, .store 13 (.t 8) (.t 16), none, none⟩,
  ⟨(some 9), .mv (.t 17), none, none⟩]
def f33r2 : IC := .reg false [] f33o2 [0, 7, 2, 8, 9]
@[simp] theorem f33r2_run : run tbl fin K f33r2 e H = regK tbl fin K [] f33o2 [0, 7, 2, 8, 9] e H := run_regK _ _ _ _ _ _ _ _ _ rfl
@[simp] def f33o3 : List IOper := [
  ⟨(some 10), .mv (.c (.int .i64 0)), none, none⟩]
def f33r3 : IC := .reg false [] f33o3 [10, 0, 7, 2, 8, 9]
@[simp] theorem f33r3_run : run tbl fin K f33r3 e H = regK tbl fin K [] f33o3 [10, 0, 7, 2, 8, 9] e H := run_regK _ _ _ _ _ _ _ _ _ rfl
@[simp] def f33o4 : List IOper := [
  ⟨(some 18), .mv (.t 10), none, none⟩,
  ⟨(some 19), .mv (.t 0), none, none⟩,
  ⟨(some 20), .len (.t 19), none, none⟩,
  ⟨(some 21), .bin .lss (.t 18) (.t 20), none, none⟩]
def f33r4 : IC := .reg false [] f33o4 [21, 10, 0, 7, 2, 8, 9]
@[simp] theorem f33r4_run : run tbl fin K f33r4 e H = regK tbl fin K [] f33o4 [21, 10, 0, 7, 2, 8, 9] e H := run_regK _ _ _ _ _ _ _ _ _ rfl
@[simp] def f33o5 : List IOper := [
  ⟨(some 24), .mv (.t 0), none, none⟩,
  ⟨(some 25), .mv (.t 10), none, none⟩,
  ⟨(some 26), .idx 13 (.t 24) (.t 25), none, none⟩,
  ⟨(some 27), .load true 13 (.t 26), none, none⟩,
  ⟨(some 11), .new 30 13 (.agg [(.int .i64 0), (.int .i64 0), (.int .i64 0), (.int .i64 0), (.int .i64 0), (.int .i64 0), (.bool false), (.int .i64 0), .e0, .e0, .e0, .e0, (.str [])]), none, none⟩,
  ⟨none, .store 13 (.t 11) (.t 27), none, none⟩]
def f33r5 : IC := .reg false [] f33o5 [11, 10, 0, 7, 2, 8, 9]
@[simp] theorem f33r5_run : run tbl fin K f33r5 e H = regK tbl fin K [] f33o5 [11, 10, 0, 7, 2, 8, 9] e H := run_regK _ _ _ _ _ _ _ _ _ rfl
@[simp] def f33o6 : List IOper := [
  ⟨(some 28), .fld 4 (.t 11), none, none⟩,
  ⟨(some 29), .load false 1 (.t 28), none, none⟩,
  ⟨(some 30), .bin .eql (.t 29) (.c (.int .i64 3)), none, none⟩]
def f33r6 : IC := .reg false [] f33o6 [30, 11, 10, 0, 7, 2, 8, 9]
@[simp] theorem f33r6_run : run tbl fin K f33r6 e H = regK tbl fin K [] f33o6 [30, 11, 10, 0, 7, 2, 8, 9] e H := run_regK _ _ _ _ _ _ _ _ _ rfl
@[simp] def f33o7 : List IOper := [
  ⟨(some 31), .mv (.t 2), none, none⟩,
  ⟨(some 32), .bin .gtr (.t 31) (.c (.int .i64 0)), none, none⟩,
  ⟨(some 33), .mv (.t 32), none, none⟩,
  ⟨(some 34), .fld 0 (.t 11), (some (33, true)), none⟩,
  ⟨(some 35), .load false 1 (.t 34), (some (33, true)), none⟩,
  ⟨(some 36), .mv (.t 2), (some (33, true)), none⟩,
  ⟨(some 37), .bin .eql (.t 35) (.t 36), (some (33, true)), none⟩,
  ⟨(some 38), .pick (.t 33) (.t 37) (.c (.bool false)), none, some [38, 7, 11, 10, 0, 2, 8, 9]⟩,
  ⟨(some 39), .mv (.t 38), none, none⟩,
  ⟨(some 40), .mv (.t 2), (some (39, false)), none⟩,
  ⟨(some 41), .bin .eql (.t 40) (.c (.int .i64 0)), (some (39, false)), none⟩,
  ⟨(some 42), .mv (.t 41), (some (39, false)), none⟩,
  ⟨(some 43), .mv (.t 9), (some (42, true)), none⟩,
  ⟨(some 44), .pick (.t 42) (.t 43) (.c (.bool false)), (some (39, false)), none⟩,
  ⟨(some 45), .mv (.t 44), (some (39, false)), none⟩,
  ⟨(some 46), .fld 2 (.t 11), (some (45, true)), some [46, 45, 39, 7, 11, 10, 0, 2, 8, 9]⟩,
  ⟨(some 47), .load false 1 (.t 46), (some (45, true)), none⟩,
  ⟨(some 48), .fld 2 (.t 8), (some (45, true)), none⟩,
  ⟨(some 49), .load false 1 (.t 48), (some (45, true)), none⟩,
  ⟨(some 50), .bin .eql (.t 47) (.t 49), (some (45, true)), none⟩,
  ⟨(some 51), .pick (.t 45) (.t 50) (.c (.bool false)), (some (39, false)), none⟩,
  ⟨(some 52), .pick (.t 39) (.c (.bool true)) (.t 51), none, none⟩,
  ⟨(some 53), .mv (.t 52), none, none⟩,
  ⟨(some 54), .mv (.t 2), (some (53, false)), some [54, 53, 7, 11, 10, 0, 2, 8, 9]⟩,
  ⟨(some 55), .bin .lss (.t 54) (.c (.int .i64 (-1))), (some (53, false)), none⟩,
  ⟨(some 56), .mv (.t 55), (some (53, false)), none⟩,
  ⟨(some 57), .fld 2 (.t 11), (some (56, true)), none⟩,
  ⟨(some 58), .load false 1 (.t 57), (some (56, true)), none⟩,
  ⟨(some 59), .mv (.t 2), (some (56, true)), none⟩,
  ⟨(some 60), .un .neg (.t 59), (some (56, true)), none⟩,
  ⟨(some 61), .bin .eql (.t 58) (.t 60), (some (56, true)), none⟩,
  ⟨(some 62), .pick (.t 56) (.t 61) (.c (.bool false)), (some (53, false)), some [62, 53, 7, 11, 10, 0, 2, 8, 9]⟩,
  ⟨(some 63), .pick (.t 53) (.c (.bool true)) (.t 62), none, none⟩]
def f33r7 : IC := .reg false [] f33o7 [63, 7, 11, 10, 0, 2, 8, 9]
@[simp] theorem f33r7_run : run tbl fin K f33r7 e H = regK tbl fin K [] f33o7 [63, 7, 11, 10, 0, 2, 8, 9] e H := run_regK _ _ _ _ _ _ _ _ _ rfl
@[simp] def f33o8 : List IOper := [
  ⟨(some 64), .mv (.t 7), none, none⟩,
  ⟨(some 65), .fld 0 (.t 11), none, none⟩,
  ⟨(some 66), .load false 1 (.t 65), none, none⟩,
  ⟨(some 67), .mkimm 1 1 (.int .i64 0) [(0, (.t 66))], none, none⟩,
  ⟨(some 68), .app 3 1 (.t 64) (.t 67), none, none⟩,
  ⟨(some 7), .mv (.t 68), none, none⟩]
def f33r8 : IC := .reg false [] f33o8 [10, 0, 7, 2, 8, 9]
@[simp] theorem f33r8_run : run tbl fin K f33r8 e H = regK tbl fin K [] f33o8 [10, 0, 7, 2, 8, 9] e H := run_regK _ _ _ _ _ _ _ _ _ rfl
@[simp] def f33o9 : List IOper := [
  ⟨(some 22), .mv (.t 10), none, none⟩,
  ⟨(some 23), .bin .add (.t 22) (.c (.int .i64 1)), none, none⟩,
  ⟨(some 10), .mv (.t 23), none, none⟩]
def f33r9 : IC := .reg false [] f33o9 [10, 0, 7, 2, 8, 9]
@[simp] theorem f33r9_run : run tbl fin K f33r9 e H = regK tbl fin K [] f33o9 [10, 0, 7, 2, 8, 9] e H := run_regK _ _ _ _ _ _ _ _ _ rfl
def f33b10 : IC := (.seq (.seq f33r4 (.cond (.t 21) .skip (.exit 0))) (.seq (.block 1 (.seq f33r5 (.seq (.seq f33r6 (.cond (.t 30) (.exit 1) .skip)) (.seq f33r7 (.cond (.t 63) f33r8 .skip))))) f33r9))
theorem f33b10_eq : f33b10 = (.seq (.seq f33r4 (.cond (.t 21) .skip (.exit 0))) (.seq (.block 1 (.seq f33r5 (.seq (.seq f33r6 (.cond (.t 30) (.exit 1) .skip)) (.seq f33r7 (.cond (.t 63) f33r8 .skip))))) f33r9)) := rfl
@[simp] def f33o11 : List IOper := [
  ⟨(some 69), .mv (.t 7), none, none⟩,
  ⟨(some 6), .mv (.t 69), none, none⟩]
def f33r11 : IC := .reg false [] f33o11 [6]
@[simp] theorem f33r11_run : run tbl fin K f33r11 e H = regK tbl fin K [] f33o11 [6] e H := run_regK _ _ _ _ _ _ _ _ _ rfl
def f33body : IC := (.seq f33r0 (.seq f33r1 (.seq f33r2 (.seq (.seq f33r3 (.block 0 (.loop [10, 0, 7, 2, 8, 9] f33b10))) (.seq f33r11 .ret)))))
def f33 : IFn := ⟨70, 3, [.tmp 6], f33body⟩
/- 34: jobshell/jobshellref27.Fork -/
@[simp] def f34o0 : List IOper := [
  ⟨(some 6), .nilrow 30 13, none, none⟩,
  ⟨(some 7), .mv (.c (.int .i64 0)), none, none⟩]
def f34r0 : IC := .reg false [] f34o0 [1, 2, 0]
@[simp] theorem f34r0_run : run tbl fin K f34r0 e H = regK tbl fin K [] f34o0 [1, 2, 0] e H := run_regK _ _ _ _ _ _ _ _ _ rfl
@[simp] def f34o1 : List IOper := [
  ⟨(some 14), .mv (.t 0), none, none⟩,
  ⟨(some 15), .mv (.t 1), none, none⟩,
  ⟨(some 16), .call (.c (.fn 56 [])) [(.t 14), (.t 15)], none, none⟩,
  ⟨(some 8), .mv (.t 16), none, none⟩]
def f34r1 : IC := .reg false [] f34o1 [8, 1, 2, 0]
@[simp] theorem f34r1_run : run tbl fin K f34r1 e H = regK tbl fin K [] f34o1 [8, 1, 2, 0] e H := run_regK _ _ _ _ _ _ _ _ _ rfl
@[simp] def f34o2 : List IOper := [
  ⟨(some 17), .mv (.t 8), none, none⟩,
  ⟨(some 18), .bin .lss (.t 17) (.c (.int .i64 0)), none, none⟩]
def f34r2 : IC := .reg false [] f34o2 [18, 8, 1, 2, 0]
@[simp] theorem f34r2_run : run tbl fin K f34r2 e H = regK tbl fin K [] f34o2 [18, 8, 1, 2, 0] e H := run_regK _ _ _ _ _ _ _ _ _ rfl
@[simp] def f34o3 : List IOper := [
  ⟨(some 19), .mv (.t 0), none, none⟩,
  ⟨(some 6), .mv (.t 19), none, none⟩,
  ⟨(some 7), .mv (.c (.int .i64 21)), none, none⟩]
def f34r3 : IC := .reg false [] f34o3 [6, 7]
@[simp] theorem f34r3_run : run tbl fin K f34r3 e H = regK tbl fin K [] f34o3 [6, 7] e H := run_regK _ _ _ _ _ _ _ _ _ rfl
@[simp] def f34o4 : List IOper := [
  ⟨(some 20), .mv (.t 2), none, none⟩,
  ⟨(some 21), .call (.c (.fn 72 [])) [(.t 20)], none, none⟩,
  ⟨(some 22), .un .not (.t 21), none, none⟩]
def f34r4 : IC := .reg false [] f34o4 [22, 2, 1, 8, 0]
@[simp] theorem f34r4_run : run tbl fin K f34r4 e H = regK tbl fin K [] f34o4 [22, 2, 1, 8, 0] e H := run_regK _ _ _ _ _ _ _ _ _ rfl
@[simp] def f34o5 : List IOper := [
  ⟨(some 23), .mv (.t 0), none, none⟩,
  ⟨(some 6), .mv (.t 23), none, none⟩,
  ⟨(some 7), .mv (.c (.int .i64 1)), none, none⟩]
def f34r5 : IC := .reg false [] f34o5 [6, 7]
@[simp] theorem f34r5_run : run tbl fin K f34r5 e H = regK tbl fin K [] f34o5 [6, 7] e H := run_regK _ _ _ _ _ _ _ _ _ rfl
@[simp] def f34o6 : List IOper := [
  ⟨(some 24), .mv (.t 0), none, none⟩,
  ⟨(some 25), .mv (.t 2), none, none⟩,
  ⟨(some 26), .call (.c (.fn 41 [])) [(.t 24), (.t 25)], none, none⟩,
  ⟨(some 27), .bin .geq (.t 26) (.c (.int .i64 0)), none, none⟩]
def f34r6 : IC := .reg false [] f34o6 [27, 8, 1, 2, 0]
@[simp] theorem f34r6_run : run tbl fin K f34r6 e H = regK tbl fin K [] f34o6 [27, 8, 1, 2, 0] e H := run_regK _ _ _ _ _ _ _ _ _ rfl
@[simp] def f34o7 : List IOper := [
  ⟨(some 28), .mv (.t 0), none, none⟩,
  ⟨(some 6), .mv (.t 28), none, none⟩,
  ⟨(some 7), .mv (.c (.int .i64 9)), none, none⟩]
def f34r7 : IC := .reg false [] f34o7 [6, 7]
@[simp] theorem f34r7_run : run tbl fin K f34r7 e H = regK tbl fin K [] f34o7 [6, 7] e H := run_regK _ _ _ _ _ _ _ _ _ rfl
@[simp] def f34o8 : List IOper := [
  ⟨(some 29), .mv (.t 0), none, none⟩,
  ⟨(some 30), .len (.t 29), none, none⟩,
  ⟨(some 31), .bin .geq (.t 30) (.c (.int .i64 64)), none, none⟩]
def f34r8 : IC := .reg false [] f34o8 [31, 2, 1, 8, 0]
@[simp] theorem f34r8_run : run tbl fin K f34r8 e H = regK tbl fin K [] f34o8 [31, 2, 1, 8, 0] e H := run_regK _ _ _ _ _ _ _ _ _ rfl
@[simp] def f34o9 : List IOper := [
  ⟨(some 32), .mv (.t 0), none, none⟩,
  ⟨(some 6), .mv (.t 32), none, none⟩,
  ⟨(some 7), .mv (.c (.int .i64 4)), none, none⟩]
def f34r9 : IC := .reg false [] f34o9 [6, 7]
@[simp] theorem f34r9_run : run tbl fin K f34r9 e H = regK tbl fin K [] f34o9 [6, 7] e H := run_regK _ _ _ _ _ _ _ _ _ rfl
@[simp] def f34o10 : List IOper := [
  ⟨(some 33), .mv (.t 0), none, none⟩,
  ⟨(some 34), .mv (.t 8), none, none⟩,
  ⟨(some 35), .idx 13 (.t 33) (.t 34), none, none⟩,
  ⟨(some 36), .load true 13 (.t 35), none, none⟩,
  ⟨(some 9), .new 30 13 (.agg [(.int .i64 0), (.int .i64 0), (.int .i64 0), (.int .i64 0), (.int .i64 0), (.int .i64 0), (.bool false), (.int .i64 0), .e0, .e0, .e0, .e0, (.str [])]), none, none⟩,
  ⟨none, .store 13 (.t 9) (.t 36), none, none⟩]
def f34r10 : IC := .reg false [] f34o10 [1, 9, 2, 0]
@[simp] theorem f34r10_run : run tbl fin K f34r10 e H = regK tbl fin K [] f34o10 [1, 9, 2, 0] e H := run_regK _ _ _ _ _ _ _ _ _ rfl
@[simp] def f34o11 : List IOper := [
  ⟨(some 37), .mv (.t 2), none, none⟩,
  ⟨(some 38), .mv (.t 1), none, none⟩,
  ⟨(some 39), .fld 2 (.t 9), none, none⟩,
  ⟨(some 40), .load false 1 (.t 39), none, none⟩,
  ⟨(some 41), .fld 3 (.t 9), none, none⟩,
  ⟨(some 42), .load false 1 (.t 41), none, none⟩,
  ⟨(some 43), .fld 8 (.t 9), none, none⟩,
  ⟨(some 44), .load true 3 (.t 43), none, none⟩,
  ⟨(some 45), .call (.c (.fn 73 [])) [(.t 44)], none, none⟩,
  ⟨(some 46), .fld 11 (.t 9), none, none⟩,
  ⟨(some 47), .load false 1 (.t 46), none, none⟩,
  ⟨(some 48), .fld 12 (.t 9), none, none⟩,
  ⟨(some 49), .load false 1 (.t 48), none, none⟩,
  ⟨(some 50), .build [(.int .i64 0), (.int .i64 0), (.int .i64 0), (.int .i64 0), (.int .i64 0), (.int .i64 0), (.bool false), (.int .i64 0), .e0, .e0, .e0, .e0, (.str [])] [(0, 1, (.t 37)), (1, 1, (.t 38)), (2, 1, (.t 40)), (3, 1, (.t 42)), (4, 1, (.c (.int .i64 1))), (8, 3, (.t 45)), (11, 1, (.t 47)), (12, 1, (.t 49))], none, none⟩,
  ⟨(some 10), .newAt 10 30 13 (.agg [(.int .i64 0), (.int .i64 0), (.int .i64 0), (.int .i64 0), (.int .i64 0), (.int .i64 0), (.bool false), (.int .i64 0), .e0, .e0, .e0, .e0, (.str [])]), none, none⟩,
  ⟨none, .store 13 (.t 10) (.t 50), none, none⟩]
def f34r11 : IC := .reg true [10] f34o11 [2, 10, 0]
@[simp] theorem f34r11_run : run tbl fin K f34r11 e H = regK tbl fin K [10] f34o11 [2, 10, 0] e H := run_regK _ _ _ _ _ _ _ _ _ rfl
@[simp] def f34o12 : List IOper := [
  ⟨(some 11), .nilrow 30 13, none, none⟩]
def f34r12 : IC := .reg false [] f34o12 [11, 2, 10, 0]
@[simp] theorem f34r12_run : run tbl fin K f34r12 e H = regK tbl fin K [] f34o12 [11, 2, 10, 0] e H := run_regK _ _ _ _ _ _ _ _ _ rfl
@[simp] def f34o13 : List IOper := [
  ⟨(some 12), .mv (.c (.bool false)), none, none⟩]
def f34r13 : IC := .reg false [] f34o13 [12, 11, 2, 10, 0]
@[simp] theorem f34r13_run : run tbl fin K f34r13 e H = regK tbl fin K [] f34o13 [12, 11, 2, 10, 0] e H := run_regK _ _ _ _ _ _ _ _ _ rfl
@[simp] def f34o14 : List IOper := [
  ⟨(some 13), .mv (.c (.int .i64 0)), none, none⟩]
def f34r14 : IC := .reg false [] f34o14 [12, 11, 13, 2, 10, 0]
@[simp] theorem f34r14_run : run tbl fin K f34r14 e H = regK tbl fin K [] f34o14 [12, 11, 13, 2, 10, 0] e H := run_regK _ _ _ _ _ _ _ _ _ rfl
@[simp] def f34o15 : List IOper := [
  ⟨(some 51), .mv (.t 13), none, none⟩,
  ⟨(some 52), .mv (.t 0), none, none⟩,
  ⟨(some 53), .len (.t 52), none, none⟩,
  ⟨(some 54), .bin .lss (.t 51) (.t 53), none, none⟩]
def f34r15 : IC := .reg false [] f34o15 [54, 12, 11, 13, 2, 10, 0]
@[simp] theorem f34r15_run : run tbl fin K f34r15 e H = regK tbl fin K [] f34o15 [54, 12, 11, 13, 2, 10, 0] e H := run_regK _ _ _ _ _ _ _ _ _ rfl
@[simp] def f34o16 : List IOper := [
  ⟨(some 57), .mv (.t 12), none, none⟩,
  ⟨(some 58), .un .not (.t 57), none, none⟩,
  ⟨(some 59), .mv (.t 58), none, none⟩,
  ⟨(some 60), .mv (.t 0), (some (59, true)), none⟩,
  ⟨(some 61), .mv (.t 13), (some (59, true)), none⟩,
  ⟨(some 62), .idx 13 (.t 60) (.t 61), (some (59, true)), none⟩,
  ⟨(some 63), .fld 0 (.t 62), (some (59, true)), none⟩,
  ⟨(some 64), .load false 1 (.t 63), (some (59, true)), none⟩,
  ⟨(some 65), .mv (.t 2), (some (59, true)), none⟩,
  ⟨(some 66), .bin .gtr (.t 64) (.t 65), (some (59, true)), none⟩,
  ⟨(some 67), .pick (.t 59) (.t 66) (.c (.bool false)), none, none⟩]
def f34r16 : IC := .reg false [] f34o16 [67, 12, 11, 13, 2, 10, 0]
@[simp] theorem f34r16_run : run tbl fin K f34r16 e H = regK tbl fin K [] f34o16 [67, 12, 11, 13, 2, 10, 0] e H := run_regK _ _ _ _ _ _ _ _ _ rfl
@[simp] def f34o17 : List IOper := [
  ⟨(some 68), .mv (.t 11), none, none⟩,
  ⟨(some 69), .load true 13 (.t 10), none, none⟩,
  ⟨(some 70), .mkimm 13 1 (.agg [(.int .i64 0), (.int .i64 0), (.int .i64 0), (.int .i64 0), (.int .i64 0), (.int .i64 0), (.bool false), (.int .i64 0), .e0, .e0, .e0, .e0, (.str [])]) [(0, (.t 69))], none, none⟩,
  ⟨(some 71), .app 30 13 (.t 68) (.t 70), none, none⟩,
  ⟨(some 11), .mv (.t 71), none, none⟩]
def f34r17 : IC := .reg false [] f34o17 [11, 13, 2, 10, 0]
@[simp] theorem f34r17_run : run tbl fin K f34r17 e H = regK tbl fin K [] f34o17 [11, 13, 2, 10, 0] e H := run_regK _ _ _ _ _ _ _ _ _ rfl
@[simp] def f34o18 : List IOper := [
  ⟨(some 12), .mv (.c (.bool true)), none, none⟩]
def f34r18 : IC := .reg false [] f34o18 [11, 13, 12, 2, 10, 0]
@[simp] theorem f34r18_run : run tbl fin K f34r18 e H = regK tbl fin K [] f34o18 [11, 13, 12, 2, 10, 0] e H := run_regK _ _ _ _ _ _ _ _ _ rfl
@[simp] def f34o19 : List IOper := [
  ⟨(some 72), .mv (.t 11), none, none⟩,
  ⟨(some 73), .mv (.t 0), none, none⟩,
  ⟨(some 74), .mv (.t 13), none, none⟩,
  ⟨(some 75), .idx 13 (.t 73) (.t 74), none, none⟩,
  ⟨(some 76), .load true 13 (.t 75), none, none⟩,
  ⟨(some 77), .mkimm 13 1 (.agg [(.int .i64 0), (.int .i64 0), (.int .i64 0), (.int .i64 0), (.int .i64 0), (.int .i64 0), (.bool false), (.int .i64 0), .e0, .e0, .e0, .e0, (.str [])]) [(0, (.t 76))], none, none⟩,
  ⟨(some 78), .app 30 13 (.t 72) (.t 77), none, none⟩,
  ⟨(some 11), .mv (.t 78), none, none⟩]
def f34r19 : IC := .reg false [] f34o19 [13, 12, 11, 2, 10, 0]
@[simp] theorem f34r19_run : run tbl fin K f34r19 e H = regK tbl fin K [] f34o19 [13, 12, 11, 2, 10, 0] e H := run_regK _ _ _ _ _ _ _ _ _ rfl
@[simp] def f34o20 : List IOper := [
  ⟨(some 55), .mv (.t 13), none, none⟩,
  ⟨(some 56), .bin .add (.t 55) (.c (.int .i64 1)), none, none⟩,
  ⟨(some 13), .mv (.t 56), none, none⟩]
def f34r20 : IC := .reg false [] f34o20 [12, 11, 13, 2, 10, 0]
@[simp] theorem f34r20_run : run tbl fin K f34r20 e H = regK tbl fin K [] f34o20 [12, 11, 13, 2, 10, 0] e H := run_regK _ _ _ _ _ _ _ _ _ rfl
def f34b21 : IC := (.seq (.seq f34r15 (.cond (.t 54) .skip (.exit 0))) (.seq (.block 1 (.seq (.seq f34r16 (.cond (.t 67) (.seq f34r17 f34r18) .skip)) f34r19)) f34r20))
theorem f34b21_eq : f34b21 = (.seq (.seq f34r15 (.cond (.t 54) .skip (.exit 0))) (.seq (.block 1 (.seq (.seq f34r16 (.cond (.t 67) (.seq f34r17 f34r18) .skip)) f34r19)) f34r20)) := rfl
@[simp] def f34o22 : List IOper := [
  ⟨(some 79), .mv (.t 12), none, none⟩,
  ⟨(some 80), .un .not (.t 79), none, none⟩]
def f34r22 : IC := .reg false [] f34o22 [80, 11, 10]
@[simp] theorem f34r22_run : run tbl fin K f34r22 e H = regK tbl fin K [] f34o22 [80, 11, 10] e H := run_regK _ _ _ _ _ _ _ _ _ rfl
@[simp] def f34o23 : List IOper := [
  ⟨(some 81), .mv (.t 11), none, none⟩,
  ⟨(some 82), .load true 13 (.t 10), none, none⟩,
  ⟨(some 83), .mkimm 13 1 (.agg [(.int .i64 0), (.int .i64 0), (.int .i64 0), (.int .i64 0), (.int .i64 0), (.int .i64 0), (.bool false), (.int .i64 0), .e0, .e0, .e0, .e0, (.str [])]) [(0, (.t 82))], none, none⟩,
  ⟨(some 84), .app 30 13 (.t 81) (.t 83), none, none⟩,
  ⟨(some 11), .mv (.t 84), none, none⟩]
def f34r23 : IC := .reg false [] f34o23 [11]
@[simp] theorem f34r23_run : run tbl fin K f34r23 e H = regK tbl fin K [] f34o23 [11] e H := run_regK _ _ _ _ _ _ _ _ _ rfl
@[simp] def f34o24 : List IOper := [
  ⟨(some 85), .mv (.t 11), none, none⟩,
  ⟨(some 6), .mv (.t 85), none, none⟩,
  ⟨(some 7), .mv (.c (.int .i64 0)), none, none⟩]
def f34r24 : IC := .reg false [] f34o24 [6, 7]
@[simp] theorem f34r24_run : run tbl fin K f34r24 e H = regK tbl fin K [] f34o24 [6, 7] e H := run_regK _ _ _ _ _ _ _ _ _ rfl
def f34body : IC := (.seq f34r0 (.seq f34r1 (.seq (.seq f34r2 (.cond (.t 18) (.seq f34r3 .ret) .skip)) (.seq (.seq f34r4 (.cond (.t 22) (.seq f34r5 .ret) .skip)) (.seq (.seq f34r6 (.cond (.t 27) (.seq f34r7 .ret) .skip)) (.seq (.seq f34r8 (.cond (.t 31) (.seq f34r9 .ret) .skip)) (.seq f34r10 (.seq f34r11 (.seq f34r12 (.seq f34r13 (.seq (.seq f34r14 (.block 0 (.loop [12, 11, 13, 2, 10, 0] f34b21))) (.seq (.seq f34r22 (.cond (.t 80) f34r23 .skip)) (.seq f34r24 .ret)))))))))))))
def f34 : IFn := ⟨86, 3, [.tmp 6, .tmp 7], f34body⟩
/- 35: jobshell/jobshellref27.Exit -/
@[simp] def f35o0 : List IOper := [
  ⟨(some 6), .nilrow 30 13, none, none⟩,
  ⟨(some 7), .mv (.c (.int .i64 0)), none, none⟩]
def f35r0 : IC := .reg false [] f35o0 [1, 2, 0]
@[simp] theorem f35r0_run : run tbl fin K f35r0 e H = regK tbl fin K [] f35o0 [1, 2, 0] e H := run_regK _ _ _ _ _ _ _ _ _ rfl
@[simp] def f35o1 : List IOper := [
  ⟨(some 14), .mv (.t 0), none, none⟩,
  ⟨(some 15), .mv (.t 1), none, none⟩,
  ⟨(some 16), .call (.c (.fn 56 [])) [(.t 14), (.t 15)], none, none⟩,
  ⟨(some 8), .mv (.t 16), none, none⟩]
def f35r1 : IC := .reg false [] f35o1 [1, 8, 2, 0]
@[simp] theorem f35r1_run : run tbl fin K f35r1 e H = regK tbl fin K [] f35o1 [1, 8, 2, 0] e H := run_regK _ _ _ _ _ _ _ _ _ rfl
@[simp] def f35o2 : List IOper := [
  ⟨(some 17), .mv (.t 8), none, none⟩,
  ⟨(some 18), .bin .lss (.t 17) (.c (.int .i64 0)), none, none⟩]
def f35r2 : IC := .reg false [] f35o2 [18, 1, 8, 2, 0]
@[simp] theorem f35r2_run : run tbl fin K f35r2 e H = regK tbl fin K [] f35o2 [18, 1, 8, 2, 0] e H := run_regK _ _ _ _ _ _ _ _ _ rfl
@[simp] def f35o3 : List IOper := [
  ⟨(some 19), .mv (.t 0), none, none⟩,
  ⟨(some 6), .mv (.t 19), none, none⟩,
  ⟨(some 7), .mv (.c (.int .i64 21)), none, none⟩]
def f35r3 : IC := .reg false [] f35o3 [6, 7]
@[simp] theorem f35r3_run : run tbl fin K f35r3 e H = regK tbl fin K [] f35o3 [6, 7] e H := run_regK _ _ _ _ _ _ _ _ _ rfl
@[simp] def f35o4 : List IOper := [
  ⟨(some 20), .mv (.t 1), none, none⟩,
  ⟨(some 21), .bin .eql (.t 20) (.c (.int .i64 1)), none, none⟩]
def f35r4 : IC := .reg false [] f35o4 [21, 2, 8, 1, 0]
@[simp] theorem f35r4_run : run tbl fin K f35r4 e H = regK tbl fin K [] f35o4 [21, 2, 8, 1, 0] e H := run_regK _ _ _ _ _ _ _ _ _ rfl
@[simp] def f35o5 : List IOper := [
  ⟨(some 22), .mv (.t 0), none, none⟩,
  ⟨(some 6), .mv (.t 22), none, none⟩,
  ⟨(some 7), .mv (.c (.int .i64 23)), none, none⟩]
def f35r5 : IC := .reg false [] f35o5 [6, 7]
@[simp] theorem f35r5_run : run tbl fin K f35r5 e H = regK tbl fin K [] f35o5 [6, 7] e H := run_regK _ _ _ _ _ _ _ _ _ rfl
@[simp] def f35o6 : List IOper := [
  ⟨(some 24), .mv (.t 2), none, none⟩,
  ⟨(some 25), .call (.c (.fn 74 [])) [(.t 24)], none, none⟩,
  ⟨(some 23), .mv (.t 25), none, none⟩,
  ⟨(some 26), .ext (.t 23) 0, none, none⟩,
  ⟨(some 27), .ext (.t 23) 1, none, none⟩,
  ⟨(some 9), .mv (.t 26), none, none⟩,
  ⟨(some 10), .mv (.t 27), none, none⟩]
def f35r6 : IC := .reg false [] f35o6 [9, 1, 8, 2, 0]
@[simp] theorem f35r6_run : run tbl fin K f35r6 e H = regK tbl fin K [] f35o6 [9, 1, 8, 2, 0] e H := run_regK _ _ _ _ _ _ _ _ _ rfl
@[simp] def f35o7 : List IOper := [
  ⟨(some 28), .mv (.t 9), none, none⟩,
  ⟨(some 29), .bin .neq (.t 28) (.c (.int .i64 0)), none, none⟩,
  ⟨(some 30), .mv (.t 29), none, none⟩,
  ⟨(some 31), .mv (.t 9), (some (30, true)), none⟩,
  ⟨(some 32), .bin .neq (.t 31) (.c (.int .i64 1)), (some (30, true)), none⟩,
  ⟨(some 33), .pick (.t 30) (.t 32) (.c (.bool false)), none, none⟩]
def f35r7 : IC := .reg false [] f35o7 [33, 1, 8, 2, 0]
@[simp] theorem f35r7_run : run tbl fin K f35r7 e H = regK tbl fin K [] f35o7 [33, 1, 8, 2, 0] e H := run_regK _ _ _ _ _ _ _ _ _ rfl
@[simp] def f35o8 : List IOper := [
  ⟨(some 34), .mv (.t 0), none, none⟩,
  ⟨(some 6), .mv (.t 34), none, none⟩,
  ⟨(some 7), .mv (.c (.int .i64 1)), none, none⟩]
def f35r8 : IC := .reg false [] f35o8 [6, 7]
@[simp] theorem f35r8_run : run tbl fin K f35r8 e H = regK tbl fin K [] f35o8 [6, 7] e H := run_regK _ _ _ _ _ _ _ _ _ rfl
@[simp] def f35o9 : List IOper := [
  ⟨(some 35), .mv (.t 0), none, none⟩,
  ⟨(some 36), .call (.c (.fn 59 [])) [(.t 35)], none, none⟩,
  ⟨(some 11), .mv (.t 36), none, none⟩]
def f35r9 : IC := .reg false [] f35o9 [2, 8, 1, 11]
@[simp] theorem f35r9_run : run tbl fin K f35r9 e H = regK tbl fin K [] f35o9 [2, 8, 1, 11] e H := run_regK _ _ _ _ _ _ _ _ _ rfl
@[simp] def f35o10 : List IOper := [
  ⟨(some 37), .mv (.t 11), none, none⟩,
  ⟨(some 38), .mv (.t 8), none, none⟩,
  ⟨(some 39), .idx 13 (.t 37) (.t 38), none, none⟩,
  ⟨(some 40), .load true 13 (.t 39), none, none⟩,
  ⟨(some 12), .new 30 13 (.agg [(.int .i64 0), (.int .i64 0), (.int .i64 0), (.int .i64 0), (.int .i64 0), (.int .i64 0), (.bool false), (.int .i64 0), .e0, .e0, .e0, .e0, (.str [])]), none, none⟩,
  ⟨none, .store 13 (.t 12) (.t 40), none, none⟩]
def f35r10 : IC := .reg false [] f35o10 [2, 8, 12, 1, 11]
@[simp] theorem f35r10_run : run tbl fin K f35r10 e H = regK tbl fin K [] f35o10 [2, 8, 12, 1, 11] e H := run_regK _ _ _ _ _ _ _ _ _ rfl
@[simp] def f35o11 : List IOper := [
  ⟨(some 41), .mv (.t 2), none, none⟩,
  ⟨(some 42), .build [.e0, .e0, .e0] [], none, none⟩,
  ⟨(some 43), .fld 4 (.t 12), none, none⟩,
  ⟨none, .store 1 (.t 43) (.c (.int .i64 3)), none, none⟩,
  ⟨(some 44), .fld 5 (.t 12), none, none⟩,
  ⟨none, .store 1 (.t 44) (.t 41), none, none⟩,
  ⟨(some 45), .fld 6 (.t 12), none, none⟩,
  ⟨none, .store 1 (.t 45) (.c (.bool true)), none, some [42, 8, 12, 1, 11]⟩,
  ⟨(some 46), .fld 7 (.t 12), none, none⟩,
  ⟨none, .store 1 (.t 46) (.c (.int .i64 0)), none, none⟩,
  ⟨(some 47), .fld 8 (.t 12), none, none⟩,
  ⟨none, .store 3 (.t 47) (.t 42), none, none⟩,
  ⟨(some 48), .fld 11 (.t 12), none, none⟩,
  ⟨none, .store 1 (.t 48) (.c .e0), none, none⟩]
def f35r11 : IC := .reg false [] f35o11 [8, 12, 1, 11]
@[simp] theorem f35r11_run : run tbl fin K f35r11 e H = regK tbl fin K [] f35o11 [8, 12, 1, 11] e H := run_regK _ _ _ _ _ _ _ _ _ rfl
@[simp] def f35o12 : List IOper := [
  ⟨(some 49), .mv (.t 11), none, none⟩,
  ⟨(some 50), .mv (.t 8), none, none⟩,
  ⟨(some 51), .load true 13 (.t 12), none, none⟩,
  ⟨(some 52), .idx 13 (.t 49) (.t 50), none, none⟩,
  ⟨none, .store 13 (.t 52) (.t 51), none, none⟩]
def f35r12 : IC := .reg false [] f35o12 [1, 11]
@[simp] theorem f35r12_run : run tbl fin K f35r12 e H = regK tbl fin K [] f35o12 [1, 11] e H := run_regK _ _ _ _ _ _ _ _ _ rfl
@[simp] def f35o13 : List IOper := [
  ⟨(some 13), .mv (.c (.int .i64 0)), none, none⟩]
def f35r13 : IC := .reg false [] f35o13 [13, 1, 11]
@[simp] theorem f35r13_run : run tbl fin K f35r13 e H = regK tbl fin K [] f35o13 [13, 1, 11] e H := run_regK _ _ _ _ _ _ _ _ _ rfl
@[simp] def f35o14 : List IOper := [
  ⟨(some 53), .mv (.t 13), none, none⟩,
  ⟨(some 54), .mv (.t 11), none, none⟩,
  ⟨(some 55), .len (.t 54), none, none⟩,
  ⟨(some 56), .bin .lss (.t 53) (.t 55), none, none⟩]
def f35r14 : IC := .reg false [] f35o14 [56, 13, 1, 11]
@[simp] theorem f35r14_run : run tbl fin K f35r14 e H = regK tbl fin K [] f35o14 [56, 13, 1, 11] e H := run_regK _ _ _ _ _ _ _ _ _ rfl
@[simp] def f35o15 : List IOper := [
  ⟨(some 59), .mv (.t 11), none, none⟩,
  ⟨(some 60), .mv (.t 13), none, none⟩,
  ⟨(some 61), .idx 13 (.t 59) (.t 60), none, none⟩,
  ⟨(some 62), .fld 1 (.t 61), none, none⟩,
  ⟨(some 63), .load false 1 (.t 62), none, none⟩,
  ⟨(some 64), .mv (.t 1), none, none⟩,
  ⟨(some 65), .bin .eql (.t 63) (.t 64), none, none⟩]
def f35r15 : IC := .reg false [] f35o15 [65, 13, 1, 11]
@[simp] theorem f35r15_run : run tbl fin K f35r15 e H = regK tbl fin K [] f35o15 [65, 13, 1, 11] e H := run_regK _ _ _ _ _ _ _ _ _ rfl
@[simp] def f35o16 : List IOper := [
  ⟨(some 66), .mv (.t 11), none, none⟩,
  ⟨(some 67), .mv (.t 13), none, none⟩,
  ⟨(some 68), .idx 13 (.t 66) (.t 67), none, none⟩,
  ⟨(some 69), .fld 1 (.t 68), none, none⟩,
  ⟨none, .store 1 (.t 69) (.c (.int .i64 1)), none, none⟩]
def f35r16 : IC := .reg false [] f35o16 [13, 1, 11]
@[simp] theorem f35r16_run : run tbl fin K f35r16 e H = regK tbl fin K [] f35o16 [13, 1, 11] e H := run_regK _ _ _ _ _ _ _ _ _ rfl
@[simp] def f35o17 : List IOper := [
  ⟨(some 57), .mv (.t 13), none, none⟩,
  ⟨(some 58), .bin .add (.t 57) (.c (.int .i64 1)), none, none⟩,
  ⟨(some 13), .mv (.t 58), none, none⟩]
def f35r17 : IC := .reg false [] f35o17 [13, 1, 11]
@[simp] theorem f35r17_run : run tbl fin K f35r17 e H = regK tbl fin K [] f35o17 [13, 1, 11] e H := run_regK _ _ _ _ _ _ _ _ _ rfl
def f35b18 : IC := (.seq (.seq f35r14 (.cond (.t 56) .skip (.exit 0))) (.seq (.block 1 (.seq f35r15 (.cond (.t 65) f35r16 .skip))) f35r17))
theorem f35b18_eq : f35b18 = (.seq (.seq f35r14 (.cond (.t 56) .skip (.exit 0))) (.seq (.block 1 (.seq f35r15 (.cond (.t 65) f35r16 .skip))) f35r17)) := rfl
@[simp] def f35o19 : List IOper := [
  ⟨(some 70), .mv (.t 11), none, none⟩,
  ⟨(some 6), .mv (.t 70), none, none⟩,
  ⟨(some 7), .mv (.c (.int .i64 0)), none, none⟩]
def f35r19 : IC := .reg false [] f35o19 [6, 7]
@[simp] theorem f35r19_run : run tbl fin K f35r19 e H = regK tbl fin K [] f35o19 [6, 7] e H := run_regK _ _ _ _ _ _ _ _ _ rfl
def f35body : IC := (.seq f35r0 (.seq f35r1 (.seq (.seq f35r2 (.cond (.t 18) (.seq f35r3 .ret) .skip)) (.seq (.seq f35r4 (.cond (.t 21) (.seq f35r5 .ret) .skip)) (.seq f35r6 (.seq (.seq f35r7 (.cond (.t 33) (.seq f35r8 .ret) .skip)) (.seq f35r9 (.seq f35r10 (.seq f35r11 (.seq f35r12 (.seq (.seq f35r13 (.block 0 (.loop [13, 1, 11] f35b18))) (.seq f35r19 .ret))))))))))))
def f35 : IFn := ⟨71, 3, [.tmp 6, .tmp 7], f35body⟩
/- 36: jobshell/proc.Change -/
@[simp] def f36o0 : List IOper := [
  ⟨(some 8), .nilrow 30 13, none, none⟩,
  ⟨(some 9), .mv (.c (.int .i64 0)), none, none⟩]
def f36r0 : IC := .reg false [] f36o0 [2, 3, 1, 0]
@[simp] theorem f36r0_run : run tbl fin K f36r0 e H = regK tbl fin K [] f36o0 [2, 3, 1, 0] e H := run_regK _ _ _ _ _ _ _ _ _ rfl
@[simp] def f36o1 : List IOper := [
  ⟨(some 16), .mv (.t 0), none, none⟩,
  ⟨(some 17), .mv (.t 1), none, none⟩,
  ⟨(some 18), .call (.c (.fn 47 [])) [(.t 16), (.t 17)], none, none⟩,
  ⟨(some 10), .mv (.t 18), none, none⟩]
def f36r1 : IC := .reg false [] f36o1 [10, 2, 3, 1, 0]
@[simp] theorem f36r1_run : run tbl fin K f36r1 e H = regK tbl fin K [] f36o1 [10, 2, 3, 1, 0] e H := run_regK _ _ _ _ _ _ _ _ _ rfl
@[simp] def f36o2 : List IOper := [
  ⟨(some 20), .mv (.t 3), none, none⟩,
  ⟨(some 21), .call (.c (.fn 69 [])) [(.t 20)], none, none⟩,
  ⟨(some 19), .mv (.t 21), none, none⟩,
  ⟨(some 22), .ext (.t 19) 0, none, none⟩,
  ⟨(some 23), .ext (.t 19) 1, none, none⟩,
  ⟨(some 11), .mv (.t 22), none, none⟩,
  ⟨(some 12), .mv (.t 23), none, none⟩]
def f36r2 : IC := .reg false [] f36o2 [11, 10, 2, 3, 1, 0]
@[simp] theorem f36r2_run : run tbl fin K f36r2 e H = regK tbl fin K [] f36o2 [11, 10, 2, 3, 1, 0] e H := run_regK _ _ _ _ _ _ _ _ _ rfl
@[simp] def f36o3 : List IOper := [
  ⟨(some 24), .mv (.t 2), none, none⟩,
  ⟨(some 25), .bin .eql (.t 24) (.c (.int .i64 2)), none, none⟩,
  ⟨(some 26), .mv (.t 25), none, none⟩,
  ⟨(some 27), .mv (.t 11), (some (26, true)), none⟩,
  ⟨(some 28), .bin .eql (.t 27) (.c (.int .i64 2)), (some (26, true)), none⟩,
  ⟨(some 29), .pick (.t 26) (.t 28) (.c (.bool false)), none, none⟩,
  ⟨(some 13), .mv (.t 29), none, none⟩]
def f36r3 : IC := .reg false [] f36o3 [13, 10, 2, 3, 1, 0]
@[simp] theorem f36r3_run : run tbl fin K f36r3 e H = regK tbl fin K [] f36o3 [13, 10, 2, 3, 1, 0] e H := run_regK _ _ _ _ _ _ _ _ _ rfl
@[simp] def f36o4 : List IOper := [
  ⟨(some 30), .mv (.t 2), none, none⟩,
  ⟨(some 31), .bin .eql (.t 30) (.c (.int .i64 1)), none, none⟩,
  ⟨(some 32), .mv (.t 31), none, none⟩,
  ⟨(some 33), .mv (.t 3), (some (32, true)), none⟩,
  ⟨(some 34), .call (.c (.fn 75 [])) [], (some (32, true)), none⟩,
  ⟨(some 35), .bin .eql (.t 33) (.t 34), (some (32, true)), none⟩,
  ⟨(some 36), .pick (.t 32) (.t 35) (.c (.bool false)), none, none⟩,
  ⟨(some 14), .mv (.t 36), none, none⟩]
def f36r4 : IC := .reg false [] f36o4 [13, 14, 10, 2, 3, 1, 0]
@[simp] theorem f36r4_run : run tbl fin K f36r4 e H = regK tbl fin K [] f36o4 [13, 14, 10, 2, 3, 1, 0] e H := run_regK _ _ _ _ _ _ _ _ _ rfl
@[simp] def f36o5 : List IOper := [
  ⟨(some 38), .mv (.t 10), none, none⟩,
  ⟨(some 39), .bin .lss (.t 38) (.c (.int .i64 0)), none, none⟩,
  ⟨(some 37), .mv (.t 39), none, none⟩]
def f36r5 : IC := .reg false [] f36o5 [37, 13, 14, 10, 2, 3, 1, 0]
@[simp] theorem f36r5_run : run tbl fin K f36r5 e H = regK tbl fin K [] f36o5 [37, 13, 14, 10, 2, 3, 1, 0] e H := run_regK _ _ _ _ _ _ _ _ _ rfl
@[simp] def f36o6 : List IOper := [
  ⟨(some 40), .mv (.t 0), none, none⟩,
  ⟨(some 8), .mv (.t 40), none, none⟩,
  ⟨(some 9), .mv (.c (.int .i64 21)), none, none⟩]
def f36r6 : IC := .reg false [] f36o6 [8, 9]
@[simp] theorem f36r6_run : run tbl fin K f36r6 e H = regK tbl fin K [] f36o6 [8, 9] e H := run_regK _ _ _ _ _ _ _ _ _ rfl
@[simp] def f36o7 : List IOper := [
  ⟨(some 42), .mv (.t 1), none, none⟩,
  ⟨(some 43), .bin .eql (.t 42) (.c (.int .i64 1)), none, none⟩,
  ⟨(some 41), .mv (.t 43), none, none⟩]
def f36r7 : IC := .reg false [] f36o7 [41, 3, 2, 10, 14, 13, 0]
@[simp] theorem f36r7_run : run tbl fin K f36r7 e H = regK tbl fin K [] f36o7 [41, 3, 2, 10, 14, 13, 0] e H := run_regK _ _ _ _ _ _ _ _ _ rfl
@[simp] def f36o8 : List IOper := [
  ⟨(some 44), .mv (.t 0), none, none⟩,
  ⟨(some 8), .mv (.t 44), none, none⟩,
  ⟨(some 9), .mv (.c (.int .i64 23)), none, none⟩]
def f36r8 : IC := .reg false [] f36o8 [8, 9]
@[simp] theorem f36r8_run : run tbl fin K f36r8 e H = regK tbl fin K [] f36o8 [8, 9] e H := run_regK _ _ _ _ _ _ _ _ _ rfl
@[simp] def f36o9 : List IOper := [
  ⟨(some 46), .mv (.t 13), none, none⟩,
  ⟨(some 47), .un .not (.t 46), none, none⟩,
  ⟨(some 48), .mv (.t 47), none, none⟩,
  ⟨(some 49), .mv (.t 14), (some (48, true)), none⟩,
  ⟨(some 50), .un .not (.t 49), (some (48, true)), none⟩,
  ⟨(some 51), .pick (.t 48) (.t 50) (.c (.bool false)), none, none⟩,
  ⟨(some 45), .mv (.t 51), none, none⟩]
def f36r9 : IC := .reg false [] f36o9 [45, 10, 2, 3, 0]
@[simp] theorem f36r9_run : run tbl fin K f36r9 e H = regK tbl fin K [] f36o9 [45, 10, 2, 3, 0] e H := run_regK _ _ _ _ _ _ _ _ _ rfl
@[simp] def f36o10 : List IOper := [
  ⟨(some 52), .mv (.t 0), none, none⟩,
  ⟨(some 8), .mv (.t 52), none, none⟩,
  ⟨(some 9), .mv (.c (.int .i64 1)), none, none⟩]
def f36r10 : IC := .reg false [] f36o10 [8, 9]
@[simp] theorem f36r10_run : run tbl fin K f36r10 e H = regK tbl fin K [] f36o10 [8, 9] e H := run_regK _ _ _ _ _ _ _ _ _ rfl
@[simp] def f36o11 : List IOper := [
  ⟨(some 54), .mv (.t 0), none, none⟩,
  ⟨(some 55), .mv (.t 10), none, none⟩,
  ⟨(some 56), .idx 13 (.t 54) (.t 55), none, none⟩,
  ⟨(some 57), .fld 4 (.t 56), none, none⟩,
  ⟨(some 58), .load false 1 (.t 57), none, none⟩,
  ⟨(some 59), .mv (.t 2), none, none⟩,
  ⟨(some 60), .bin .eql (.t 58) (.t 59), none, none⟩,
  ⟨(some 53), .mv (.t 60), none, none⟩]
def f36r11 : IC := .reg false [] f36o11 [53, 3, 2, 10, 0]
@[simp] theorem f36r11_run : run tbl fin K f36r11 e H = regK tbl fin K [] f36o11 [53, 3, 2, 10, 0] e H := run_regK _ _ _ _ _ _ _ _ _ rfl
@[simp] def f36o12 : List IOper := [
  ⟨(some 61), .mv (.t 0), none, none⟩,
  ⟨(some 8), .mv (.t 61), none, none⟩,
  ⟨(some 9), .mv (.c (.int .i64 25)), none, none⟩]
def f36r12 : IC := .reg false [] f36o12 [8, 9]
@[simp] theorem f36r12_run : run tbl fin K f36r12 e H = regK tbl fin K [] f36o12 [8, 9] e H := run_regK _ _ _ _ _ _ _ _ _ rfl
@[simp] def f36o13 : List IOper := [
  ⟨(some 62), .mv (.t 0), none, none⟩,
  ⟨(some 63), .call (.c (.fn 54 [])) [(.t 62)], none, none⟩,
  ⟨(some 15), .mv (.t 63), none, none⟩]
def f36r13 : IC := .reg false [] f36o13 [10, 2, 3, 15]
@[simp] theorem f36r13_run : run tbl fin K f36r13 e H = regK tbl fin K [] f36o13 [10, 2, 3, 15] e H := run_regK _ _ _ _ _ _ _ _ _ rfl
@[simp] def f36o14 : List IOper := [
  ⟨(some 64), .mv (.t 15), none, none⟩,
  ⟨(some 65), .mv (.t 10), none, none⟩,
  ⟨(some 66), .mv (.t 15), none, none⟩,
  ⟨(some 67), .mv (.t 10), none, none⟩,
  ⟨(some 68), .mv (.t 15), none, none⟩,
  ⟨(some 69), .mv (.t 10), none, none⟩,
  ⟨(some 70), .mv (.t 2), none, none⟩,
  ⟨(some 71), .mv (.t 3), none, some [65, 64, 70, 67, 66, 71, 69, 68, 15]⟩,
  ⟨(some 72), .idx 13 (.t 64) (.t 65), none, none⟩,
  ⟨(some 73), .fld 4 (.t 72), none, none⟩,
  ⟨none, .store 1 (.t 73) (.t 70), none, none⟩,
  ⟨(some 74), .idx 13 (.t 66) (.t 67), none, none⟩,
  ⟨(some 75), .fld 5 (.t 74), none, none⟩,
  ⟨none, .store 1 (.t 75) (.t 71), none, none⟩,
  ⟨(some 76), .idx 13 (.t 68) (.t 69), none, none⟩,
  ⟨(some 77), .fld 6 (.t 76), none, some [77, 15]⟩,
  ⟨none, .store 1 (.t 77) (.c (.bool true)), none, none⟩]
def f36r14 : IC := .reg false [] f36o14 [15]
@[simp] theorem f36r14_run : run tbl fin K f36r14 e H = regK tbl fin K [] f36o14 [15] e H := run_regK _ _ _ _ _ _ _ _ _ rfl
@[simp] def f36o15 : List IOper := [
  ⟨(some 78), .mv (.t 15), none, none⟩,
  ⟨(some 8), .mv (.t 78), none, none⟩,
  ⟨(some 9), .mv (.c (.int .i64 0)), none, none⟩]
def f36r15 : IC := .reg false [] f36o15 [8, 9]
@[simp] theorem f36r15_run : run tbl fin K f36r15 e H = regK tbl fin K [] f36o15 [8, 9] e H := run_regK _ _ _ _ _ _ _ _ _ rfl
def f36body : IC := (.seq f36r0 (.seq f36r1 (.seq f36r2 (.seq f36r3 (.seq f36r4 (.seq (.block 0 (.seq f36r5 (.cond (.t 37) (.seq f36r6 .ret) (.seq f36r7 (.cond (.t 41) (.seq f36r8 .ret) (.seq f36r9 (.cond (.t 45) (.seq f36r10 .ret) (.seq f36r11 (.cond (.t 53) (.seq f36r12 .ret) .skip))))))))) (.seq f36r13 (.seq f36r14 (.seq f36r15 .ret)))))))))
def f36 : IFn := ⟨79, 4, [.tmp 8, .tmp 9], f36body⟩
/- 37: jobshell/jobshellref27.Change -/
@[simp] def f37o0 : List IOper := [
  ⟨(some 8), .nilrow 30 13, none, none⟩,
  ⟨(some 9), .mv (.c (.int .i64 0)), none, none⟩]
def f37r0 : IC := .reg false [] f37o0 [2, 3, 1, 0]
@[simp] theorem f37r0_run : run tbl fin K f37r0 e H = regK tbl fin K [] f37o0 [2, 3, 1, 0] e H := run_regK _ _ _ _ _ _ _ _ _ rfl
@[simp] def f37o1 : List IOper := [
  ⟨(some 14), .mv (.t 0), none, none⟩,
  ⟨(some 15), .mv (.t 1), none, none⟩,
  ⟨(some 16), .call (.c (.fn 56 [])) [(.t 14), (.t 15)], none, none⟩,
  ⟨(some 10), .mv (.t 16), none, none⟩]
def f37r1 : IC := .reg false [] f37o1 [10, 2, 3, 1, 0]
@[simp] theorem f37r1_run : run tbl fin K f37r1 e H = regK tbl fin K [] f37o1 [10, 2, 3, 1, 0] e H := run_regK _ _ _ _ _ _ _ _ _ rfl
@[simp] def f37o2 : List IOper := [
  ⟨(some 17), .mv (.t 10), none, none⟩,
  ⟨(some 18), .bin .lss (.t 17) (.c (.int .i64 0)), none, none⟩]
def f37r2 : IC := .reg false [] f37o2 [18, 10, 2, 3, 1, 0]
@[simp] theorem f37r2_run : run tbl fin K f37r2 e H = regK tbl fin K [] f37o2 [18, 10, 2, 3, 1, 0] e H := run_regK _ _ _ _ _ _ _ _ _ rfl
@[simp] def f37o3 : List IOper := [
  ⟨(some 19), .mv (.t 0), none, none⟩,
  ⟨(some 8), .mv (.t 19), none, none⟩,
  ⟨(some 9), .mv (.c (.int .i64 21)), none, none⟩]
def f37r3 : IC := .reg false [] f37o3 [8, 9]
@[simp] theorem f37r3_run : run tbl fin K f37r3 e H = regK tbl fin K [] f37o3 [8, 9] e H := run_regK _ _ _ _ _ _ _ _ _ rfl
@[simp] def f37o4 : List IOper := [
  ⟨(some 20), .mv (.t 1), none, none⟩,
  ⟨(some 21), .bin .eql (.t 20) (.c (.int .i64 1)), none, none⟩]
def f37r4 : IC := .reg false [] f37o4 [21, 3, 2, 10, 0]
@[simp] theorem f37r4_run : run tbl fin K f37r4 e H = regK tbl fin K [] f37o4 [21, 3, 2, 10, 0] e H := run_regK _ _ _ _ _ _ _ _ _ rfl
@[simp] def f37o5 : List IOper := [
  ⟨(some 22), .mv (.t 0), none, none⟩,
  ⟨(some 8), .mv (.t 22), none, none⟩,
  ⟨(some 9), .mv (.c (.int .i64 23)), none, none⟩]
def f37r5 : IC := .reg false [] f37o5 [8, 9]
@[simp] theorem f37r5_run : run tbl fin K f37r5 e H = regK tbl fin K [] f37o5 [8, 9] e H := run_regK _ _ _ _ _ _ _ _ _ rfl
@[simp] def f37o6 : List IOper := [
  ⟨(some 24), .mv (.t 3), none, none⟩,
  ⟨(some 25), .call (.c (.fn 74 [])) [(.t 24)], none, none⟩,
  ⟨(some 23), .mv (.t 25), none, none⟩,
  ⟨(some 26), .ext (.t 23) 0, none, none⟩,
  ⟨(some 27), .ext (.t 23) 1, none, none⟩,
  ⟨(some 11), .mv (.t 26), none, none⟩,
  ⟨(some 12), .mv (.t 27), none, none⟩]
def f37r6 : IC := .reg false [] f37o6 [11, 10, 2, 3, 0]
@[simp] theorem f37r6_run : run tbl fin K f37r6 e H = regK tbl fin K [] f37o6 [11, 10, 2, 3, 0] e H := run_regK _ _ _ _ _ _ _ _ _ rfl
@[simp] def f37o7 : List IOper := [
  ⟨(some 28), .mv (.t 2), none, none⟩,
  ⟨(some 29), .bin .eql (.t 28) (.c (.int .i64 2)), none, none⟩,
  ⟨(some 30), .mv (.t 29), none, none⟩,
  ⟨(some 31), .mv (.t 11), (some (30, true)), none⟩,
  ⟨(some 32), .bin .eql (.t 31) (.c (.int .i64 2)), (some (30, true)), none⟩,
  ⟨(some 33), .pick (.t 30) (.t 32) (.c (.bool false)), none, none⟩,
  ⟨(some 34), .mv (.t 33), none, none⟩,
  ⟨(some 35), .mv (.t 2), (some (34, false)), some [35, 34, 10, 2, 3, 0]⟩,
  ⟨(some 36), .bin .eql (.t 35) (.c (.int .i64 1)), (some (34, false)), none⟩,
  ⟨(some 37), .mv (.t 36), (some (34, false)), none⟩,
  ⟨(some 38), .mv (.t 3), (some (37, true)), none⟩,
  ⟨(some 39), .call (.c (.fn 76 [])) [], (some (37, true)), none⟩,
  ⟨(some 40), .bin .eql (.t 38) (.t 39), (some (37, true)), none⟩,
  ⟨(some 41), .pick (.t 37) (.t 40) (.c (.bool false)), (some (34, false)), none⟩,
  ⟨(some 42), .pick (.t 34) (.c (.bool true)) (.t 41), none, none⟩,
  ⟨(some 43), .un .not (.t 42), none, none⟩]
def f37r7 : IC := .reg false [] f37o7 [43, 10, 2, 3, 0]
@[simp] theorem f37r7_run : run tbl fin K f37r7 e H = regK tbl fin K [] f37o7 [43, 10, 2, 3, 0] e H := run_regK _ _ _ _ _ _ _ _ _ rfl
@[simp] def f37o8 : List IOper := [
  ⟨(some 44), .mv (.t 0), none, none⟩,
  ⟨(some 8), .mv (.t 44), none, none⟩,
  ⟨(some 9), .mv (.c (.int .i64 1)), none, none⟩]
def f37r8 : IC := .reg false [] f37o8 [8, 9]
@[simp] theorem f37r8_run : run tbl fin K f37r8 e H = regK tbl fin K [] f37o8 [8, 9] e H := run_regK _ _ _ _ _ _ _ _ _ rfl
@[simp] def f37o9 : List IOper := [
  ⟨(some 45), .mv (.t 0), none, none⟩,
  ⟨(some 46), .mv (.t 10), none, none⟩,
  ⟨(some 47), .idx 13 (.t 45) (.t 46), none, none⟩,
  ⟨(some 48), .fld 4 (.t 47), none, none⟩,
  ⟨(some 49), .load false 1 (.t 48), none, none⟩,
  ⟨(some 50), .mv (.t 2), none, none⟩,
  ⟨(some 51), .bin .eql (.t 49) (.t 50), none, none⟩]
def f37r9 : IC := .reg false [] f37o9 [51, 3, 2, 10, 0]
@[simp] theorem f37r9_run : run tbl fin K f37r9 e H = regK tbl fin K [] f37o9 [51, 3, 2, 10, 0] e H := run_regK _ _ _ _ _ _ _ _ _ rfl
@[simp] def f37o10 : List IOper := [
  ⟨(some 52), .mv (.t 0), none, none⟩,
  ⟨(some 8), .mv (.t 52), none, none⟩,
  ⟨(some 9), .mv (.c (.int .i64 25)), none, none⟩]
def f37r10 : IC := .reg false [] f37o10 [8, 9]
@[simp] theorem f37r10_run : run tbl fin K f37r10 e H = regK tbl fin K [] f37o10 [8, 9] e H := run_regK _ _ _ _ _ _ _ _ _ rfl
@[simp] def f37o11 : List IOper := [
  ⟨(some 53), .mv (.t 0), none, none⟩,
  ⟨(some 54), .call (.c (.fn 59 [])) [(.t 53)], none, none⟩,
  ⟨(some 13), .mv (.t 54), none, none⟩]
def f37r11 : IC := .reg false [] f37o11 [10, 2, 3, 13]
@[simp] theorem f37r11_run : run tbl fin K f37r11 e H = regK tbl fin K [] f37o11 [10, 2, 3, 13] e H := run_regK _ _ _ _ _ _ _ _ _ rfl
@[simp] def f37o12 : List IOper := [
  ⟨(some 55), .mv (.t 13), none, none⟩,
  ⟨(some 56), .mv (.t 10), none, none⟩,
  ⟨(some 57), .mv (.t 13), none, none⟩,
  ⟨(some 58), .mv (.t 10), none, none⟩,
  ⟨(some 59), .mv (.t 13), none, none⟩,
  ⟨(some 60), .mv (.t 10), none, none⟩,
  ⟨(some 61), .mv (.t 2), none, none⟩,
  ⟨(some 62), .mv (.t 3), none, some [56, 55, 61, 58, 57, 62, 60, 59, 13]⟩,
  ⟨(some 63), .idx 13 (.t 55) (.t 56), none, none⟩,
  ⟨(some 64), .fld 4 (.t 63), none, none⟩,
  ⟨none, .store 1 (.t 64) (.t 61), none, none⟩,
  ⟨(some 65), .idx 13 (.t 57) (.t 58), none, none⟩,
  ⟨(some 66), .fld 5 (.t 65), none, none⟩,
  ⟨none, .store 1 (.t 66) (.t 62), none, none⟩,
  ⟨(some 67), .idx 13 (.t 59) (.t 60), none, none⟩,
  ⟨(some 68), .fld 6 (.t 67), none, some [68, 13]⟩,
  ⟨none, .store 1 (.t 68) (.c (.bool true)), none, none⟩]
def f37r12 : IC := .reg false [] f37o12 [13]
@[simp] theorem f37r12_run : run tbl fin K f37r12 e H = regK tbl fin K [] f37o12 [13] e H := run_regK _ _ _ _ _ _ _ _ _ rfl
@[simp] def f37o13 : List IOper := [
  ⟨(some 69), .mv (.t 13), none, none⟩,
  ⟨(some 8), .mv (.t 69), none, none⟩,
  ⟨(some 9), .mv (.c (.int .i64 0)), none, none⟩]
def f37r13 : IC := .reg false [] f37o13 [8, 9]
@[simp] theorem f37r13_run : run tbl fin K f37r13 e H = regK tbl fin K [] f37o13 [8, 9] e H := run_regK _ _ _ _ _ _ _ _ _ rfl
def f37body : IC := (.seq f37r0 (.seq f37r1 (.seq (.seq f37r2 (.cond (.t 18) (.seq f37r3 .ret) .skip)) (.seq (.seq f37r4 (.cond (.t 21) (.seq f37r5 .ret) .skip)) (.seq f37r6 (.seq (.seq f37r7 (.cond (.t 43) (.seq f37r8 .ret) .skip)) (.seq (.seq f37r9 (.cond (.t 51) (.seq f37r10 .ret) .skip)) (.seq f37r11 (.seq f37r12 (.seq f37r13 .ret))))))))))
def f37 : IFn := ⟨70, 4, [.tmp 8, .tmp 9], f37body⟩
end Go.Proofs.YtgppkhbidcgnlaaDoor
