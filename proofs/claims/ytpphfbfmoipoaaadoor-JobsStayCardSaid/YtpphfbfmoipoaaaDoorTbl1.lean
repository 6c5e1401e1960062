/- The interpreter's form of this seat's functions (printed by a program out of the translation), and that the translation gives just this. No condition. -/
import Derived.Test.YtpphfbfmoipoaaaDoorPi24
import Derived.Test.YtpphfbfmoipoaaaDoorProg
import Derived.KernelRfl
namespace Go.Proofs.YtpphfbfmoipoaaaDoor
open Go.PI
variable (tbl : TB) (fin : Fin) (K : List Fr) (e : Env) (H : List AO)
def gl3 : AV := (.agg [(.int .u8 0), (.int .u8 1), (.int .u8 28), (.int .u8 2), (.int .u8 29), (.int .u8 14), (.int .u8 24), (.int .u8 3), (.int .u8 30), (.int .u8 22), (.int .u8 20), (.int .u8 15), (.int .u8 25), (.int .u8 17), (.int .u8 4), (.int .u8 8), (.int .u8 31), (.int .u8 27), (.int .u8 13), (.int .u8 23), (.int .u8 21), (.int .u8 19), (.int .u8 16), (.int .u8 7), (.int .u8 26), (.int .u8 12), (.int .u8 18), (.int .u8 6), (.int .u8 11), (.int .u8 5), (.int .u8 10), (.int .u8 9)])
def gl4 : AV := (.agg [(.int .u8 0), (.int .u8 1), (.int .u8 56), (.int .u8 2), (.int .u8 57), (.int .u8 49), (.int .u8 28), (.int .u8 3), (.int .u8 61), (.int .u8 58), (.int .u8 42), (.int .u8 50), (.int .u8 38), (.int .u8 29), (.int .u8 17), (.int .u8 4), (.int .u8 62), (.int .u8 47), (.int .u8 59), (.int .u8 36), (.int .u8 45), (.int .u8 43), (.int .u8 51), (.int .u8 22), (.int .u8 53), (.int .u8 39), (.int .u8 33), (.int .u8 30), (.int .u8 24), (.int .u8 18), (.int .u8 12), (.int .u8 5), (.int .u8 63), (.int .u8 55), (.int .u8 48), (.int .u8 27), (.int .u8 60), (.int .u8 41), (.int .u8 37), (.int .u8 16), (.int .u8 46), (.int .u8 35), (.int .u8 44), (.int .u8 21), (.int .u8 52), (.int .u8 32), (.int .u8 23), (.int .u8 11), (.int .u8 54), (.int .u8 26), (.int .u8 40), (.int .u8 15), (.int .u8 34), (.int .u8 20), (.int .u8 31), (.int .u8 10), (.int .u8 25), (.int .u8 14), (.int .u8 19), (.int .u8 9), (.int .u8 13), (.int .u8 8), (.int .u8 7), (.int .u8 6)])
def gl2 : AV := (.agg [(.int .u64 1), (.int .u64 10), (.int .u64 100), (.int .u64 1000), (.int .u64 10000), (.int .u64 100000), (.int .u64 1000000), (.int .u64 10000000), (.int .u64 100000000), (.int .u64 1000000000), (.int .u64 10000000000), (.int .u64 100000000000), (.int .u64 1000000000000), (.int .u64 10000000000000), (.int .u64 100000000000000), (.int .u64 1000000000000000), (.int .u64 10000000000000000), (.int .u64 100000000000000000), (.int .u64 1000000000000000000), (.int .u64 10000000000000000000)])
def gl0 : AV := (.agg [(.str []), (.str [72, 85, 80]), (.str [73, 78, 84]), (.str [81, 85, 73, 84]), (.str [84, 84, 73, 78]), (.str [84, 84, 79, 85]), (.str []), (.str []), (.str []), (.str [75, 73, 76, 76]), (.str [85, 83, 82, 49]), (.str []), (.str [85, 83, 82, 50]), (.str [80, 73, 80, 69]), (.str [65, 76, 82, 77]), (.str [84, 69, 82, 77]), (.str []), (.str [67, 72, 76, 68]), (.str [67, 79, 78, 84]), (.str [83, 84, 79, 80]), (.str [84, 83, 84, 80])])
def gl : Nat → Option AV
  | 3 => some gl3
  | 4 => some gl4
  | 2 => some gl2
  | 0 => some gl0
  | _ => none
def cfg (m : Int) : Cfg := ⟨fun g => if g = 1 then some (.int .i64 m) else gl g, fun f => [36, 49].contains f, false, fun f => ([] : List Nat).contains f⟩
/- 3: jobshell/jobshelllaw36.JobsAdds -/
@[simp] def f3o0 : List IOper := [
  ⟨(some 8), .mv (.c (.bool false)), none, none⟩]
def f3r0 : IC := .reg false [] f3o0 [3, 2, 1, 0]
@[simp] theorem f3r0_run : run tbl fin K f3r0 e H = regK tbl fin K [] f3o0 [3, 2, 1, 0] e H := run_regK _ _ _ _ _ _ _ _ _ rfl
@[simp] def f3o1 : List IOper := [
  ⟨(some 15), .mv (.t 0), none, none⟩,
  ⟨(some 16), .call (.c (.fn 9 [])) [(.t 15)], none, none⟩,
  ⟨(some 17), .un .not (.t 16), none, none⟩,
  ⟨(some 18), .mv (.t 17), none, none⟩,
  ⟨(some 19), .mv (.t 2), (some (18, false)), none⟩,
  ⟨(some 20), .len (.t 19), (some (18, false)), none⟩,
  ⟨(some 21), .bin .gtr (.t 20) (.c (.int .i64 100)), (some (18, false)), none⟩,
  ⟨(some 22), .pick (.t 18) (.c (.bool true)) (.t 21), none, some [22, 3, 2, 1, 0]⟩,
  ⟨(some 23), .mv (.t 22), none, none⟩,
  ⟨(some 24), .mv (.t 3), (some (23, false)), none⟩,
  ⟨(some 25), .slen (.t 24), (some (23, false)), none⟩,
  ⟨(some 26), .bin .gtr (.t 25) (.c (.int .i64 5000)), (some (23, false)), none⟩,
  ⟨(some 27), .pick (.t 23) (.c (.bool true)) (.t 26), none, none⟩]
def f3r1 : IC := .reg false [] f3o1 [27, 3, 2, 1, 0]
@[simp] theorem f3r1_run : run tbl fin K f3r1 e H = regK tbl fin K [] f3o1 [27, 3, 2, 1, 0] e H := run_regK _ _ _ _ _ _ _ _ _ rfl
@[simp] def f3o2 : List IOper := [
  ⟨(some 28), .call (.c (.fn 10 [])) [], none, none⟩,
  ⟨(some 8), .mv (.t 28), none, none⟩]
def f3r2 : IC := .reg false [] f3o2 [8]
@[simp] theorem f3r2_run : run tbl fin K f3r2 e H = regK tbl fin K [] f3o2 [8] e H := run_regK _ _ _ _ _ _ _ _ _ rfl
@[simp] def f3o3 : List IOper := [
  ⟨(some 30), .mv (.t 0), none, none⟩,
  ⟨(some 31), .mv (.t 1), none, none⟩,
  ⟨(some 32), .mv (.t 2), none, none⟩,
  ⟨(some 33), .mv (.t 3), none, none⟩,
  ⟨(some 34), .call (.c (.fn 11 [])) [(.t 30), (.t 31), (.t 32), (.t 33)], none, none⟩,
  ⟨(some 29), .mv (.t 34), none, none⟩,
  ⟨(some 35), .ext (.t 29) 0, none, none⟩,
  ⟨(some 36), .ext (.t 29) 1, none, some [29, 35, 36, 0, 1, 2, 3]⟩,
  ⟨(some 37), .ext (.t 29) 2, none, none⟩,
  ⟨(some 9), .mv (.t 35), none, none⟩,
  ⟨(some 10), .mv (.t 36), none, none⟩,
  ⟨(some 11), .mv (.t 37), none, none⟩]
def f3r3 : IC := .reg false [] f3o3 [0, 1, 2, 3, 9, 10, 11]
@[simp] theorem f3r3_run : run tbl fin K f3r3 e H = regK tbl fin K [] f3o3 [0, 1, 2, 3, 9, 10, 11] e H := run_regK _ _ _ _ _ _ _ _ _ rfl
@[simp] def f3o4 : List IOper := [
  ⟨(some 39), .mv (.t 0), none, none⟩,
  ⟨(some 40), .mv (.t 1), none, none⟩,
  ⟨(some 41), .mv (.t 2), none, none⟩,
  ⟨(some 42), .mv (.t 3), none, none⟩,
  ⟨(some 43), .call (.c (.fn 12 [])) [(.t 39), (.t 40), (.t 41), (.t 42)], none, none⟩,
  ⟨(some 38), .mv (.t 43), none, none⟩,
  ⟨(some 44), .ext (.t 38) 0, none, none⟩,
  ⟨(some 45), .ext (.t 38) 1, none, some [38, 44, 45, 9, 10, 11]⟩,
  ⟨(some 46), .ext (.t 38) 2, none, none⟩,
  ⟨(some 12), .mv (.t 44), none, none⟩,
  ⟨(some 13), .mv (.t 45), none, none⟩,
  ⟨(some 14), .mv (.t 46), none, none⟩]
def f3r4 : IC := .reg false [] f3o4 [9, 12, 10, 13, 11, 14]
@[simp] theorem f3r4_run : run tbl fin K f3r4 e H = regK tbl fin K [] f3o4 [9, 12, 10, 13, 11, 14] e H := run_regK _ _ _ _ _ _ _ _ _ rfl
@[simp] def f3o5 : List IOper := [
  ⟨(some 47), .mv (.t 9), none, none⟩,
  ⟨(some 48), .mv (.t 12), none, none⟩,
  ⟨(some 49), .call (.c (.fn 13 [])) [(.t 47), (.t 48)], none, none⟩,
  ⟨(some 50), .mv (.t 49), none, none⟩,
  ⟨(some 51), .mv (.t 10), (some (50, true)), none⟩,
  ⟨(some 52), .mv (.t 13), (some (50, true)), none⟩,
  ⟨(some 53), .bin .eql (.t 51) (.t 52), (some (50, true)), none⟩,
  ⟨(some 54), .pick (.t 50) (.t 53) (.c (.bool false)), none, some [54, 11, 14]⟩,
  ⟨(some 55), .mv (.t 54), none, none⟩,
  ⟨(some 56), .mv (.t 11), (some (55, true)), none⟩,
  ⟨(some 57), .mv (.t 14), (some (55, true)), none⟩,
  ⟨(some 58), .bin .eql (.t 56) (.t 57), (some (55, true)), none⟩,
  ⟨(some 59), .pick (.t 55) (.t 58) (.c (.bool false)), none, none⟩,
  ⟨(some 60), .mv (.t 59), none, none⟩,
  ⟨(some 61), .call (.c (.fn 10 [])) [], (some (60, true)), none⟩,
  ⟨(some 62), .pick (.t 60) (.t 61) (.c (.bool false)), none, some [62]⟩,
  ⟨(some 8), .mv (.t 62), none, none⟩]
def f3r5 : IC := .reg false [] f3o5 [8]
@[simp] theorem f3r5_run : run tbl fin K f3r5 e H = regK tbl fin K [] f3o5 [8] e H := run_regK _ _ _ _ _ _ _ _ _ rfl
def f3body : IC := (.seq f3r0 (.seq (.seq f3r1 (.cond (.t 27) (.seq f3r2 .ret) .skip)) (.seq f3r3 (.seq f3r4 (.seq f3r5 .ret)))))
def f3 : IFn := ⟨63, 4, [.tmp 8], f3body⟩
/- 4: jobshell/jobshelllaw36.JobsLooks -/
@[simp] def f4o0 : List IOper := [
  ⟨(some 8), .mv (.c (.bool false)), none, none⟩]
def f4r0 : IC := .reg false [] f4o0 [3, 2, 0, 1]
@[simp] theorem f4r0_run : run tbl fin K f4r0 e H = regK tbl fin K [] f4o0 [3, 2, 0, 1] e H := run_regK _ _ _ _ _ _ _ _ _ rfl
@[simp] def f4o1 : List IOper := [
  ⟨(some 17), .mv (.t 0), none, none⟩,
  ⟨(some 18), .call (.c (.fn 9 [])) [(.t 17)], none, none⟩,
  ⟨(some 19), .un .not (.t 18), none, none⟩,
  ⟨(some 20), .mv (.t 19), none, none⟩,
  ⟨(some 21), .mv (.t 1), (some (20, false)), none⟩,
  ⟨(some 22), .slen (.t 21), (some (20, false)), none⟩,
  ⟨(some 23), .bin .gtr (.t 22) (.c (.int .i64 200)), (some (20, false)), none⟩,
  ⟨(some 24), .pick (.t 20) (.c (.bool true)) (.t 23), none, none⟩]
def f4r1 : IC := .reg false [] f4o1 [24, 3, 2, 0, 1]
@[simp] theorem f4r1_run : run tbl fin K f4r1 e H = regK tbl fin K [] f4o1 [24, 3, 2, 0, 1] e H := run_regK _ _ _ _ _ _ _ _ _ rfl
@[simp] def f4o2 : List IOper := [
  ⟨(some 25), .call (.c (.fn 10 [])) [], none, none⟩,
  ⟨(some 8), .mv (.t 25), none, none⟩]
def f4r2 : IC := .reg false [] f4o2 [8]
@[simp] theorem f4r2_run : run tbl fin K f4r2 e H = regK tbl fin K [] f4o2 [8] e H := run_regK _ _ _ _ _ _ _ _ _ rfl
@[simp] def f4o3 : List IOper := [
  ⟨(some 27), .mv (.t 0), none, none⟩,
  ⟨(some 28), .mv (.t 1), none, none⟩,
  ⟨(some 29), .call (.c (.fn 14 [])) [(.t 27), (.t 28)], none, none⟩,
  ⟨(some 26), .mv (.t 29), none, none⟩,
  ⟨(some 30), .ext (.t 26) 0, none, none⟩,
  ⟨(some 31), .ext (.t 26) 1, none, none⟩,
  ⟨(some 9), .mv (.t 30), none, none⟩,
  ⟨(some 10), .mv (.t 31), none, none⟩]
def f4r3 : IC := .reg false [] f4o3 [1, 9, 10, 0, 2, 3]
@[simp] theorem f4r3_run : run tbl fin K f4r3 e H = regK tbl fin K [] f4o3 [1, 9, 10, 0, 2, 3] e H := run_regK _ _ _ _ _ _ _ _ _ rfl
@[simp] def f4o4 : List IOper := [
  ⟨(some 33), .mv (.t 0), none, none⟩,
  ⟨(some 34), .mv (.t 1), none, none⟩,
  ⟨(some 35), .call (.c (.fn 15 [])) [(.t 33), (.t 34)], none, none⟩,
  ⟨(some 32), .mv (.t 35), none, none⟩,
  ⟨(some 36), .ext (.t 32) 0, none, none⟩,
  ⟨(some 37), .ext (.t 32) 1, none, none⟩,
  ⟨(some 11), .mv (.t 36), none, none⟩,
  ⟨(some 12), .mv (.t 37), none, none⟩]
def f4r4 : IC := .reg false [] f4o4 [9, 11, 10, 12, 0, 2, 3]
@[simp] theorem f4r4_run : run tbl fin K f4r4 e H = regK tbl fin K [] f4o4 [9, 11, 10, 12, 0, 2, 3] e H := run_regK _ _ _ _ _ _ _ _ _ rfl
@[simp] def f4o5 : List IOper := [
  ⟨(some 39), .mv (.t 0), none, none⟩,
  ⟨(some 40), .call (.c (.fn 16 [])) [(.t 39)], none, none⟩,
  ⟨(some 38), .mv (.t 40), none, none⟩,
  ⟨(some 41), .ext (.t 38) 0, none, none⟩,
  ⟨(some 42), .ext (.t 38) 1, none, none⟩,
  ⟨(some 13), .mv (.t 41), none, none⟩,
  ⟨(some 14), .mv (.t 42), none, none⟩]
def f4r5 : IC := .reg false [] f4o5 [9, 11, 10, 12, 13, 14, 0, 2, 3]
@[simp] theorem f4r5_run : run tbl fin K f4r5 e H = regK tbl fin K [] f4o5 [9, 11, 10, 12, 13, 14, 0, 2, 3] e H := run_regK _ _ _ _ _ _ _ _ _ rfl
@[simp] def f4o6 : List IOper := [
  ⟨(some 44), .mv (.t 0), none, none⟩,
  ⟨(some 45), .call (.c (.fn 17 [])) [(.t 44)], none, none⟩,
  ⟨(some 43), .mv (.t 45), none, none⟩,
  ⟨(some 46), .ext (.t 43) 0, none, none⟩,
  ⟨(some 47), .ext (.t 43) 1, none, none⟩,
  ⟨(some 15), .mv (.t 46), none, none⟩,
  ⟨(some 16), .mv (.t 47), none, none⟩]
def f4r6 : IC := .reg false [] f4o6 [9, 11, 10, 12, 13, 15, 14, 16, 0, 2, 3]
@[simp] theorem f4r6_run : run tbl fin K f4r6 e H = regK tbl fin K [] f4o6 [9, 11, 10, 12, 13, 15, 14, 16, 0, 2, 3] e H := run_regK _ _ _ _ _ _ _ _ _ rfl
@[simp] def f4o7 : List IOper := [
  ⟨(some 48), .mv (.t 9), none, none⟩,
  ⟨(some 49), .mv (.t 11), none, none⟩,
  ⟨(some 50), .bin .eql (.t 48) (.t 49), none, none⟩,
  ⟨(some 51), .mv (.t 50), none, none⟩,
  ⟨(some 52), .mv (.t 10), (some (51, true)), none⟩,
  ⟨(some 53), .mv (.t 12), (some (51, true)), none⟩,
  ⟨(some 54), .bin .eql (.t 52) (.t 53), (some (51, true)), none⟩,
  ⟨(some 55), .pick (.t 51) (.t 54) (.c (.bool false)), none, some [55, 13, 15, 14, 16, 0, 2, 3]⟩,
  ⟨(some 56), .mv (.t 55), none, none⟩,
  ⟨(some 57), .mv (.t 13), (some (56, true)), none⟩,
  ⟨(some 58), .mv (.t 15), (some (56, true)), none⟩,
  ⟨(some 59), .bin .eql (.t 57) (.t 58), (some (56, true)), none⟩,
  ⟨(some 60), .pick (.t 56) (.t 59) (.c (.bool false)), none, none⟩,
  ⟨(some 61), .mv (.t 60), none, none⟩,
  ⟨(some 62), .mv (.t 14), (some (61, true)), none⟩,
  ⟨(some 63), .mv (.t 16), (some (61, true)), some [63, 62, 61, 0, 2, 3]⟩,
  ⟨(some 64), .bin .eql (.t 62) (.t 63), (some (61, true)), none⟩,
  ⟨(some 65), .pick (.t 61) (.t 64) (.c (.bool false)), none, none⟩,
  ⟨(some 66), .mv (.t 65), none, none⟩,
  ⟨(some 67), .mv (.t 0), (some (66, true)), none⟩,
  ⟨(some 68), .mv (.t 2), (some (66, true)), none⟩,
  ⟨(some 69), .mv (.t 3), (some (66, true)), none⟩,
  ⟨(some 70), .call (.c (.fn 18 [])) [(.t 67), (.t 68), (.t 69)], (some (66, true)), none⟩,
  ⟨(some 71), .mv (.t 0), (some (66, true)), some [2, 3, 71, 70, 66]⟩,
  ⟨(some 72), .mv (.t 2), (some (66, true)), none⟩,
  ⟨(some 73), .mv (.t 3), (some (66, true)), none⟩,
  ⟨(some 74), .call (.c (.fn 19 [])) [(.t 71), (.t 72), (.t 73)], (some (66, true)), none⟩,
  ⟨(some 75), .bin .eql (.t 70) (.t 74), (some (66, true)), none⟩,
  ⟨(some 76), .pick (.t 66) (.t 75) (.c (.bool false)), none, none⟩,
  ⟨(some 77), .mv (.t 76), none, none⟩,
  ⟨(some 78), .call (.c (.fn 10 [])) [], (some (77, true)), none⟩,
  ⟨(some 79), .pick (.t 77) (.t 78) (.c (.bool false)), none, some [79]⟩,
  ⟨(some 8), .mv (.t 79), none, none⟩]
def f4r7 : IC := .reg false [] f4o7 [8]
@[simp] theorem f4r7_run : run tbl fin K f4r7 e H = regK tbl fin K [] f4o7 [8] e H := run_regK _ _ _ _ _ _ _ _ _ rfl
def f4body : IC := (.seq f4r0 (.seq (.seq f4r1 (.cond (.t 24) (.seq f4r2 .ret) .skip)) (.seq f4r3 (.seq f4r4 (.seq f4r5 (.seq f4r6 (.seq f4r7 .ret)))))))
def f4 : IFn := ⟨80, 4, [.tmp 8], f4body⟩
/- 5: jobshell/jobshelllaw36.JobsNumbers -/
@[simp] def f5o0 : List IOper := [
  ⟨(some 2), .mv (.c (.bool false)), none, none⟩]
def f5r0 : IC := .reg false [] f5o0 [0]
@[simp] theorem f5r0_run : run tbl fin K f5r0 e H = regK tbl fin K [] f5o0 [0] e H := run_regK _ _ _ _ _ _ _ _ _ rfl
@[simp] def f5o1 : List IOper := [
  ⟨(some 10), .mv (.t 0), none, none⟩,
  ⟨(some 11), .call (.c (.fn 9 [])) [(.t 10)], none, none⟩,
  ⟨(some 12), .un .not (.t 11), none, none⟩]
def f5r1 : IC := .reg false [] f5o1 [12, 0]
@[simp] theorem f5r1_run : run tbl fin K f5r1 e H = regK tbl fin K [] f5o1 [12, 0] e H := run_regK _ _ _ _ _ _ _ _ _ rfl
@[simp] def f5o2 : List IOper := [
  ⟨(some 13), .call (.c (.fn 10 [])) [], none, none⟩,
  ⟨(some 2), .mv (.t 13), none, none⟩]
def f5r2 : IC := .reg false [] f5o2 [2]
@[simp] theorem f5r2_run : run tbl fin K f5r2 e H = regK tbl fin K [] f5o2 [2] e H := run_regK _ _ _ _ _ _ _ _ _ rfl
@[simp] def f5o3 : List IOper := [
  ⟨(some 3), .mv (.c (.int .i64 0)), none, none⟩,
  ⟨(some 4), .mv (.c (.int .i64 0)), none, none⟩]
def f5r3 : IC := .reg false [] f5o3 [0, 4, 3]
@[simp] theorem f5r3_run : run tbl fin K f5r3 e H = regK tbl fin K [] f5o3 [0, 4, 3] e H := run_regK _ _ _ _ _ _ _ _ _ rfl
@[simp] def f5o4 : List IOper := [
  ⟨(some 5), .mv (.c (.int .i64 0)), none, none⟩]
def f5r4 : IC := .reg false [] f5o4 [0, 5, 4, 3]
@[simp] theorem f5r4_run : run tbl fin K f5r4 e H = regK tbl fin K [] f5o4 [0, 5, 4, 3] e H := run_regK _ _ _ _ _ _ _ _ _ rfl
@[simp] def f5o5 : List IOper := [
  ⟨(some 14), .mv (.t 5), none, none⟩,
  ⟨(some 15), .mv (.t 0), none, none⟩,
  ⟨(some 16), .len (.t 15), none, none⟩,
  ⟨(some 17), .bin .lss (.t 14) (.t 16), none, none⟩]
def f5r5 : IC := .reg false [] f5o5 [17, 0, 5, 4, 3]
@[simp] theorem f5r5_run : run tbl fin K f5r5 e H = regK tbl fin K [] f5o5 [17, 0, 5, 4, 3] e H := run_regK _ _ _ _ _ _ _ _ _ rfl
@[simp] def f5o6 : List IOper := [
  ⟨(some 20), .mv (.t 0), none, none⟩,
  ⟨(some 21), .mv (.t 5), none, none⟩,
  ⟨(some 22), .idx 7 (.t 20) (.t 21), none, none⟩,
  ⟨(some 23), .fld 0 (.t 22), none, none⟩,
  ⟨(some 24), .load false 1 (.t 23), none, none⟩,
  ⟨(some 25), .call (.c (.fn 20 [])) [(.t 24)], none, none⟩,
  ⟨(some 26), .bin .add (.c (.str [91])) (.t 25), none, none⟩,
  ⟨(some 27), .bin .add (.t 26) (.c (.str [93])), none, none⟩,
  ⟨(some 6), .mv (.t 27), none, none⟩]
def f5r6 : IC := .reg false [] f5o6 [0, 5, 4, 6, 3]
@[simp] theorem f5r6_run : run tbl fin K f5r6 e H = regK tbl fin K [] f5o6 [0, 5, 4, 6, 3] e H := run_regK _ _ _ _ _ _ _ _ _ rfl
@[simp] def f5o7 : List IOper := [
  ⟨(some 29), .mv (.t 0), none, none⟩,
  ⟨(some 30), .mv (.t 0), none, none⟩,
  ⟨(some 31), .mv (.t 5), none, none⟩,
  ⟨(some 32), .idx 7 (.t 30) (.t 31), none, none⟩,
  ⟨(some 33), .fld 0 (.t 32), none, none⟩,
  ⟨(some 34), .load false 1 (.t 33), none, none⟩,
  ⟨(some 35), .call (.c (.fn 20 [])) [(.t 34)], none, none⟩,
  ⟨(some 36), .bin .add (.c (.str [37])) (.t 35), none, some [36, 29, 0, 5, 4, 6, 3]⟩,
  ⟨(some 37), .call (.c (.fn 14 [])) [(.t 29), (.t 36)], none, none⟩,
  ⟨(some 28), .mv (.t 37), none, none⟩,
  ⟨(some 38), .ext (.t 28) 0, none, none⟩,
  ⟨(some 39), .ext (.t 28) 1, none, none⟩,
  ⟨(some 7), .mv (.t 38), none, none⟩,
  ⟨(some 8), .mv (.t 39), none, none⟩]
def f5r7 : IC := .reg false [] f5o7 [8, 7, 0, 5, 4, 6, 3]
@[simp] theorem f5r7_run : run tbl fin K f5r7 e H = regK tbl fin K [] f5o7 [8, 7, 0, 5, 4, 6, 3] e H := run_regK _ _ _ _ _ _ _ _ _ rfl
@[simp] def f5o8 : List IOper := [
  ⟨(some 40), .mv (.t 0), none, none⟩,
  ⟨(some 41), .mv (.t 5), none, none⟩,
  ⟨(some 42), .call (.c (.fn 18 [])) [(.t 40), (.t 41), (.c (.bool false))], none, none⟩,
  ⟨(some 9), .mv (.t 42), none, none⟩]
def f5r8 : IC := .reg false [] f5o8 [8, 7, 0, 5, 4, 6, 9, 3]
@[simp] theorem f5r8_run : run tbl fin K f5r8 e H = regK tbl fin K [] f5o8 [8, 7, 0, 5, 4, 6, 9, 3] e H := run_regK _ _ _ _ _ _ _ _ _ rfl
@[simp] def f5o9 : List IOper := [
  ⟨(some 43), .mv (.t 8), none, none⟩,
  ⟨(some 44), .bin .neq (.t 43) (.c (.int .i64 0)), none, none⟩,
  ⟨(some 45), .mv (.t 44), none, none⟩,
  ⟨(some 46), .mv (.t 7), (some (45, false)), none⟩,
  ⟨(some 47), .mv (.t 5), (some (45, false)), none⟩,
  ⟨(some 48), .bin .neq (.t 46) (.t 47), (some (45, false)), none⟩,
  ⟨(some 49), .pick (.t 45) (.c (.bool true)) (.t 48), none, none⟩,
  ⟨(some 50), .mv (.t 49), none, some [50, 0, 5, 4, 6, 9, 3]⟩,
  ⟨(some 51), .mv (.t 9), (some (50, false)), none⟩,
  ⟨(some 52), .slen (.t 51), (some (50, false)), none⟩,
  ⟨(some 53), .mv (.t 6), (some (50, false)), none⟩,
  ⟨(some 54), .slen (.t 53), (some (50, false)), none⟩,
  ⟨(some 55), .bin .add (.t 54) (.c (.int .i64 2)), (some (50, false)), none⟩,
  ⟨(some 56), .bin .lss (.t 52) (.t 55), (some (50, false)), none⟩,
  ⟨(some 57), .pick (.t 50) (.c (.bool true)) (.t 56), none, none⟩,
  ⟨(some 58), .mv (.t 57), none, some [58, 0, 5, 4, 6, 9, 3]⟩,
  ⟨(some 59), .mv (.t 9), (some (58, false)), none⟩,
  ⟨(some 60), .mv (.t 6), (some (58, false)), none⟩,
  ⟨(some 61), .slen (.t 60), (some (58, false)), none⟩,
  ⟨(some 62), .sls (.t 59) none (some (.t 61)), (some (58, false)), none⟩,
  ⟨(some 63), .mv (.t 6), (some (58, false)), none⟩,
  ⟨(some 64), .bin .neq (.t 62) (.t 63), (some (58, false)), none⟩,
  ⟨(some 65), .pick (.t 58) (.c (.bool true)) (.t 64), none, none⟩]
def f5r9 : IC := .reg false [] f5o9 [65, 0, 5, 4, 6, 9, 3]
@[simp] theorem f5r9_run : run tbl fin K f5r9 e H = regK tbl fin K [] f5o9 [65, 0, 5, 4, 6, 9, 3] e H := run_regK _ _ _ _ _ _ _ _ _ rfl
@[simp] def f5o10 : List IOper := [
  ⟨(some 2), .mv (.c (.bool false)), none, none⟩]
def f5r10 : IC := .reg false [] f5o10 [2]
@[simp] theorem f5r10_run : run tbl fin K f5r10 e H = regK tbl fin K [] f5o10 [2] e H := run_regK _ _ _ _ _ _ _ _ _ rfl
@[simp] def f5o11 : List IOper := [
  ⟨(some 66), .mv (.t 9), none, none⟩,
  ⟨(some 67), .mv (.t 6), none, none⟩,
  ⟨(some 68), .slen (.t 67), none, none⟩,
  ⟨(some 69), .sidx (.t 66) (.t 68), none, none⟩,
  ⟨(some 70), .bin .eql (.t 69) (.c (.int .u8 43)), none, none⟩]
def f5r11 : IC := .reg false [] f5o11 [70, 3, 9, 6, 4, 5, 0]
@[simp] theorem f5r11_run : run tbl fin K f5r11 e H = regK tbl fin K [] f5o11 [70, 3, 9, 6, 4, 5, 0] e H := run_regK _ _ _ _ _ _ _ _ _ rfl
@[simp] def f5o12 : List IOper := [
  ⟨(some 71), .mv (.t 3), none, none⟩,
  ⟨(some 72), .bin .add (.t 71) (.c (.int .i64 1)), none, none⟩,
  ⟨(some 3), .mv (.t 72), none, none⟩]
def f5r12 : IC := .reg false [] f5o12 [9, 6, 4, 5, 0, 3]
@[simp] theorem f5r12_run : run tbl fin K f5r12 e H = regK tbl fin K [] f5o12 [9, 6, 4, 5, 0, 3] e H := run_regK _ _ _ _ _ _ _ _ _ rfl
@[simp] def f5o13 : List IOper := [
  ⟨(some 73), .mv (.t 9), none, none⟩,
  ⟨(some 74), .mv (.t 6), none, none⟩,
  ⟨(some 75), .slen (.t 74), none, none⟩,
  ⟨(some 76), .sidx (.t 73) (.t 75), none, none⟩,
  ⟨(some 77), .bin .eql (.t 76) (.c (.int .u8 45)), none, none⟩]
def f5r13 : IC := .reg false [] f5o13 [77, 4, 5, 0, 3]
@[simp] theorem f5r13_run : run tbl fin K f5r13 e H = regK tbl fin K [] f5o13 [77, 4, 5, 0, 3] e H := run_regK _ _ _ _ _ _ _ _ _ rfl
@[simp] def f5o14 : List IOper := [
  ⟨(some 78), .mv (.t 4), none, none⟩,
  ⟨(some 79), .bin .add (.t 78) (.c (.int .i64 1)), none, none⟩,
  ⟨(some 4), .mv (.t 79), none, none⟩]
def f5r14 : IC := .reg false [] f5o14 [5, 0, 4, 3]
@[simp] theorem f5r14_run : run tbl fin K f5r14 e H = regK tbl fin K [] f5o14 [5, 0, 4, 3] e H := run_regK _ _ _ _ _ _ _ _ _ rfl
@[simp] def f5o15 : List IOper := [
  ⟨(some 18), .mv (.t 5), none, none⟩,
  ⟨(some 19), .bin .add (.t 18) (.c (.int .i64 1)), none, none⟩,
  ⟨(some 5), .mv (.t 19), none, none⟩]
def f5r15 : IC := .reg false [] f5o15 [0, 5, 4, 3]
@[simp] theorem f5r15_run : run tbl fin K f5r15 e H = regK tbl fin K [] f5o15 [0, 5, 4, 3] e H := run_regK _ _ _ _ _ _ _ _ _ rfl
def f5b16 : IC := (.seq (.seq f5r5 (.cond (.t 17) .skip (.exit 0))) (.seq (.block 1 (.seq f5r6 (.seq f5r7 (.seq f5r8 (.seq (.seq f5r9 (.cond (.t 65) (.seq f5r10 .ret) .skip)) (.seq (.seq f5r11 (.cond (.t 70) f5r12 .skip)) (.seq f5r13 (.cond (.t 77) f5r14 .skip)))))))) f5r15))
theorem f5b16_eq : f5b16 = (.seq (.seq f5r5 (.cond (.t 17) .skip (.exit 0))) (.seq (.block 1 (.seq f5r6 (.seq f5r7 (.seq f5r8 (.seq (.seq f5r9 (.cond (.t 65) (.seq f5r10 .ret) .skip)) (.seq (.seq f5r11 (.cond (.t 70) f5r12 .skip)) (.seq f5r13 (.cond (.t 77) f5r14 .skip)))))))) f5r15)) := rfl
@[simp] def f5o17 : List IOper := [
  ⟨(some 80), .mv (.t 3), none, none⟩,
  ⟨(some 81), .mv (.t 0), none, none⟩,
  ⟨(some 82), .len (.t 81), none, none⟩,
  ⟨(some 83), .mn (.t 82) (.c (.int .i64 1)), none, none⟩,
  ⟨(some 84), .bin .eql (.t 80) (.t 83), none, none⟩,
  ⟨(some 85), .mv (.t 84), none, none⟩,
  ⟨(some 86), .mv (.t 4), (some (85, true)), none⟩,
  ⟨(some 87), .mv (.t 0), (some (85, true)), some [87, 86, 85]⟩,
  ⟨(some 88), .len (.t 87), (some (85, true)), none⟩,
  ⟨(some 89), .bin .sub (.t 88) (.c (.int .i64 1)), (some (85, true)), none⟩,
  ⟨(some 90), .mx (.t 89) (.c (.int .i64 0)), (some (85, true)), none⟩,
  ⟨(some 91), .mn (.t 90) (.c (.int .i64 1)), (some (85, true)), none⟩,
  ⟨(some 92), .bin .eql (.t 86) (.t 91), (some (85, true)), none⟩,
  ⟨(some 93), .pick (.t 85) (.t 92) (.c (.bool false)), none, none⟩,
  ⟨(some 94), .mv (.t 93), none, none⟩,
  ⟨(some 95), .call (.c (.fn 10 [])) [], (some (94, true)), some [95, 94]⟩,
  ⟨(some 96), .pick (.t 94) (.t 95) (.c (.bool false)), none, none⟩,
  ⟨(some 2), .mv (.t 96), none, none⟩]
def f5r17 : IC := .reg false [] f5o17 [2]
@[simp] theorem f5r17_run : run tbl fin K f5r17 e H = regK tbl fin K [] f5o17 [2] e H := run_regK _ _ _ _ _ _ _ _ _ rfl
def f5body : IC := (.seq f5r0 (.seq (.seq f5r1 (.cond (.t 12) (.seq f5r2 .ret) .skip)) (.seq f5r3 (.seq (.seq f5r4 (.block 0 (.loop [0, 5, 4, 3] f5b16))) (.seq f5r17 .ret)))))
def f5 : IFn := ⟨97, 1, [.tmp 2], f5body⟩
/- 6: jobshell/jobshelllaw36.JobsUpdates -/
@[simp] def f6o0 : List IOper := [
  ⟨(some 6), .mv (.c (.bool false)), none, none⟩]
def f6r0 : IC := .reg false [] f6o0 [0, 2, 1]
@[simp] theorem f6r0_run : run tbl fin K f6r0 e H = regK tbl fin K [] f6o0 [0, 2, 1] e H := run_regK _ _ _ _ _ _ _ _ _ rfl
@[simp] def f6o1 : List IOper := [
  ⟨(some 15), .mv (.t 0), none, none⟩,
  ⟨(some 16), .call (.c (.fn 9 [])) [(.t 15)], none, none⟩,
  ⟨(some 17), .un .not (.t 16), none, none⟩]
def f6r1 : IC := .reg false [] f6o1 [17, 0, 2, 1]
@[simp] theorem f6r1_run : run tbl fin K f6r1 e H = regK tbl fin K [] f6o1 [17, 0, 2, 1] e H := run_regK _ _ _ _ _ _ _ _ _ rfl
@[simp] def f6o2 : List IOper := [
  ⟨(some 18), .call (.c (.fn 10 [])) [], none, none⟩,
  ⟨(some 6), .mv (.t 18), none, none⟩]
def f6r2 : IC := .reg false [] f6o2 [6]
@[simp] theorem f6r2_run : run tbl fin K f6r2 e H = regK tbl fin K [] f6o2 [6] e H := run_regK _ _ _ _ _ _ _ _ _ rfl
@[simp] def f6o3 : List IOper := [
  ⟨(some 20), .mv (.t 0), none, none⟩,
  ⟨(some 21), .mv (.t 1), none, none⟩,
  ⟨(some 22), .mv (.t 2), none, none⟩,
  ⟨(some 23), .call (.c (.fn 21 [])) [(.t 20), (.t 21), (.t 22)], none, none⟩,
  ⟨(some 19), .mv (.t 23), none, none⟩,
  ⟨(some 24), .ext (.t 19) 0, none, none⟩,
  ⟨(some 25), .ext (.t 19) 1, none, none⟩,
  ⟨(some 7), .mv (.t 24), none, none⟩,
  ⟨(some 8), .mv (.t 25), none, none⟩]
def f6r3 : IC := .reg false [] f6o3 [1, 2, 0, 7, 8]
@[simp] theorem f6r3_run : run tbl fin K f6r3 e H = regK tbl fin K [] f6o3 [1, 2, 0, 7, 8] e H := run_regK _ _ _ _ _ _ _ _ _ rfl
@[simp] def f6o4 : List IOper := [
  ⟨(some 27), .mv (.t 0), none, none⟩,
  ⟨(some 28), .mv (.t 1), none, none⟩,
  ⟨(some 29), .mv (.t 2), none, none⟩,
  ⟨(some 30), .call (.c (.fn 22 [])) [(.t 27), (.t 28), (.t 29)], none, none⟩,
  ⟨(some 26), .mv (.t 30), none, none⟩,
  ⟨(some 31), .ext (.t 26) 0, none, none⟩,
  ⟨(some 32), .ext (.t 26) 1, none, none⟩,
  ⟨(some 9), .mv (.t 31), none, none⟩,
  ⟨(some 10), .mv (.t 32), none, none⟩]
def f6r4 : IC := .reg false [] f6o4 [0, 7, 9, 8, 10]
@[simp] theorem f6r4_run : run tbl fin K f6r4 e H = regK tbl fin K [] f6o4 [0, 7, 9, 8, 10] e H := run_regK _ _ _ _ _ _ _ _ _ rfl
@[simp] def f6o5 : List IOper := [
  ⟨(some 34), .mv (.t 0), none, none⟩,
  ⟨(some 35), .call (.c (.fn 23 [])) [(.t 34)], none, none⟩,
  ⟨(some 33), .mv (.t 35), none, none⟩,
  ⟨(some 36), .ext (.t 33) 0, none, none⟩,
  ⟨(some 37), .ext (.t 33) 1, none, none⟩,
  ⟨(some 11), .mv (.t 36), none, none⟩,
  ⟨(some 12), .mv (.t 37), none, none⟩]
def f6r5 : IC := .reg false [] f6o5 [0, 7, 9, 8, 10, 11, 12]
@[simp] theorem f6r5_run : run tbl fin K f6r5 e H = regK tbl fin K [] f6o5 [0, 7, 9, 8, 10, 11, 12] e H := run_regK _ _ _ _ _ _ _ _ _ rfl
@[simp] def f6o6 : List IOper := [
  ⟨(some 39), .mv (.t 0), none, none⟩,
  ⟨(some 40), .call (.c (.fn 24 [])) [(.t 39)], none, none⟩,
  ⟨(some 38), .mv (.t 40), none, none⟩,
  ⟨(some 41), .ext (.t 38) 0, none, none⟩,
  ⟨(some 42), .ext (.t 38) 1, none, none⟩,
  ⟨(some 13), .mv (.t 41), none, none⟩,
  ⟨(some 14), .mv (.t 42), none, none⟩]
def f6r6 : IC := .reg false [] f6o6 [7, 9, 8, 10, 11, 13, 12, 14]
@[simp] theorem f6r6_run : run tbl fin K f6r6 e H = regK tbl fin K [] f6o6 [7, 9, 8, 10, 11, 13, 12, 14] e H := run_regK _ _ _ _ _ _ _ _ _ rfl
@[simp] def f6o7 : List IOper := [
  ⟨(some 43), .mv (.t 7), none, none⟩,
  ⟨(some 44), .mv (.t 9), none, none⟩,
  ⟨(some 45), .call (.c (.fn 13 [])) [(.t 43), (.t 44)], none, none⟩,
  ⟨(some 46), .mv (.t 45), none, none⟩,
  ⟨(some 47), .mv (.t 8), (some (46, true)), none⟩,
  ⟨(some 48), .mv (.t 10), (some (46, true)), none⟩,
  ⟨(some 49), .beq false (.t 47) (.t 48), (some (46, true)), none⟩,
  ⟨(some 50), .pick (.t 46) (.t 49) (.c (.bool false)), none, some [50, 11, 13, 12, 14]⟩,
  ⟨(some 51), .mv (.t 50), none, none⟩,
  ⟨(some 52), .mv (.t 11), (some (51, true)), none⟩,
  ⟨(some 53), .mv (.t 13), (some (51, true)), none⟩,
  ⟨(some 54), .call (.c (.fn 13 [])) [(.t 52), (.t 53)], (some (51, true)), none⟩,
  ⟨(some 55), .pick (.t 51) (.t 54) (.c (.bool false)), none, none⟩,
  ⟨(some 56), .mv (.t 55), none, none⟩,
  ⟨(some 57), .mv (.t 12), (some (56, true)), none⟩,
  ⟨(some 58), .mv (.t 14), (some (56, true)), some [58, 57, 56]⟩,
  ⟨(some 59), .call (.c (.fn 25 [])) [(.t 57), (.t 58)], (some (56, true)), none⟩,
  ⟨(some 60), .pick (.t 56) (.t 59) (.c (.bool false)), none, none⟩,
  ⟨(some 61), .mv (.t 60), none, none⟩,
  ⟨(some 62), .call (.c (.fn 10 [])) [], (some (61, true)), none⟩,
  ⟨(some 63), .pick (.t 61) (.t 62) (.c (.bool false)), none, none⟩,
  ⟨(some 6), .mv (.t 63), none, none⟩]
def f6r7 : IC := .reg false [] f6o7 [6]
@[simp] theorem f6r7_run : run tbl fin K f6r7 e H = regK tbl fin K [] f6o7 [6] e H := run_regK _ _ _ _ _ _ _ _ _ rfl
def f6body : IC := (.seq f6r0 (.seq (.seq f6r1 (.cond (.t 17) (.seq f6r2 .ret) .skip)) (.seq f6r3 (.seq f6r4 (.seq f6r5 (.seq f6r6 (.seq f6r7 .ret)))))))
def f6 : IFn := ⟨64, 3, [.tmp 6], f6body⟩
/- 7: jobshell/jobshelllaw36.JobsValid -/
@[simp] def f7o0 : List IOper := [
  ⟨(some 2), .mv (.c (.bool false)), none, none⟩]
def f7r0 : IC := .reg false [] f7o0 [0]
@[simp] theorem f7r0_run : run tbl fin K f7r0 e H = regK tbl fin K [] f7o0 [0] e H := run_regK _ _ _ _ _ _ _ _ _ rfl
@[simp] def f7o1 : List IOper := [
  ⟨(some 4), .mv (.t 0), none, none⟩,
  ⟨(some 5), .call (.c (.fn 26 [])) [(.t 4)], none, none⟩,
  ⟨(some 6), .un .not (.t 5), none, none⟩]
def f7r1 : IC := .reg false [] f7o1 [6, 0]
@[simp] theorem f7r1_run : run tbl fin K f7r1 e H = regK tbl fin K [] f7o1 [6, 0] e H := run_regK _ _ _ _ _ _ _ _ _ rfl
@[simp] def f7o2 : List IOper := [
  ⟨(some 7), .call (.c (.fn 10 [])) [], none, none⟩,
  ⟨(some 2), .mv (.t 7), none, none⟩]
def f7r2 : IC := .reg false [] f7o2 [2]
@[simp] theorem f7r2_run : run tbl fin K f7r2 e H = regK tbl fin K [] f7o2 [2] e H := run_regK _ _ _ _ _ _ _ _ _ rfl
@[simp] def f7o3 : List IOper := [
  ⟨(some 3), .mv (.c (.int .i64 0)), none, none⟩]
def f7r3 : IC := .reg false [] f7o3 [0, 3]
@[simp] theorem f7r3_run : run tbl fin K f7r3 e H = regK tbl fin K [] f7o3 [0, 3] e H := run_regK _ _ _ _ _ _ _ _ _ rfl
@[simp] def f7o4 : List IOper := [
  ⟨(some 8), .mv (.t 3), none, none⟩,
  ⟨(some 9), .mv (.t 0), none, none⟩,
  ⟨(some 10), .len (.t 9), none, none⟩,
  ⟨(some 11), .bin .lss (.t 8) (.t 10), none, none⟩]
def f7r4 : IC := .reg false [] f7o4 [11, 0, 3]
@[simp] theorem f7r4_run : run tbl fin K f7r4 e H = regK tbl fin K [] f7o4 [11, 0, 3] e H := run_regK _ _ _ _ _ _ _ _ _ rfl
@[simp] def f7o5 : List IOper := [
  ⟨(some 14), .mv (.t 0), none, none⟩,
  ⟨(some 15), .mv (.t 3), none, none⟩,
  ⟨(some 16), .idx 7 (.t 14) (.t 15), none, none⟩,
  ⟨(some 17), .load true 7 (.t 16), none, none⟩,
  ⟨(some 18), .call (.c (.fn 27 [])) [(.t 17)], none, none⟩,
  ⟨(some 19), .mv (.t 0), none, none⟩,
  ⟨(some 20), .mv (.t 3), none, none⟩,
  ⟨(some 21), .idx 7 (.t 19) (.t 20), none, none⟩,
  ⟨(some 22), .load true 7 (.t 21), none, none⟩,
  ⟨(some 23), .call (.c (.fn 28 [])) [(.t 22)], none, none⟩,
  ⟨(some 24), .bin .neq (.t 18) (.t 23), none, none⟩]
def f7r5 : IC := .reg true [] f7o5 [24, 0, 3]
@[simp] theorem f7r5_run : run tbl fin K f7r5 e H = regK tbl fin K [] f7o5 [24, 0, 3] e H := run_regK _ _ _ _ _ _ _ _ _ rfl
@[simp] def f7o6 : List IOper := [
  ⟨(some 2), .mv (.c (.bool false)), none, none⟩]
def f7r6 : IC := .reg false [] f7o6 [2]
@[simp] theorem f7r6_run : run tbl fin K f7r6 e H = regK tbl fin K [] f7o6 [2] e H := run_regK _ _ _ _ _ _ _ _ _ rfl
@[simp] def f7o7 : List IOper := [
  ⟨(some 12), .mv (.t 3), none, none⟩,
  ⟨(some 13), .bin .add (.t 12) (.c (.int .i64 1)), none, none⟩,
  ⟨(some 3), .mv (.t 13), none, none⟩]
def f7r7 : IC := .reg false [] f7o7 [0, 3]
@[simp] theorem f7r7_run : run tbl fin K f7r7 e H = regK tbl fin K [] f7o7 [0, 3] e H := run_regK _ _ _ _ _ _ _ _ _ rfl
def f7b8 : IC := (.seq (.seq f7r4 (.cond (.t 11) .skip (.exit 0))) (.seq (.block 1 (.seq f7r5 (.cond (.t 24) (.seq f7r6 .ret) .skip))) f7r7))
theorem f7b8_eq : f7b8 = (.seq (.seq f7r4 (.cond (.t 11) .skip (.exit 0))) (.seq (.block 1 (.seq f7r5 (.cond (.t 24) (.seq f7r6 .ret) .skip))) f7r7)) := rfl
@[simp] def f7o9 : List IOper := [
  ⟨(some 25), .mv (.t 0), none, none⟩,
  ⟨(some 26), .call (.c (.fn 29 [])) [(.t 25)], none, none⟩,
  ⟨(some 27), .mv (.t 0), none, none⟩,
  ⟨(some 28), .call (.c (.fn 30 [])) [(.t 27)], none, none⟩,
  ⟨(some 29), .bin .eql (.t 26) (.t 28), none, none⟩,
  ⟨(some 30), .mv (.t 29), none, none⟩,
  ⟨(some 31), .call (.c (.fn 10 [])) [], (some (30, true)), none⟩,
  ⟨(some 32), .pick (.t 30) (.t 31) (.c (.bool false)), none, none⟩,
  ⟨(some 2), .mv (.t 32), none, none⟩]
def f7r9 : IC := .reg false [] f7o9 [2]
@[simp] theorem f7r9_run : run tbl fin K f7r9 e H = regK tbl fin K [] f7o9 [2] e H := run_regK _ _ _ _ _ _ _ _ _ rfl
def f7body : IC := (.seq f7r0 (.seq (.seq f7r1 (.cond (.t 6) (.seq f7r2 .ret) .skip)) (.seq (.seq f7r3 (.block 0 (.loop [0, 3] f7b8))) (.seq f7r9 .ret))))
def f7 : IFn := ⟨33, 1, [.tmp 2], f7body⟩
/- 8: jobshell/jobshelllaw36.JobsStay -/
@[simp] def f8o0 : List IOper := [
  ⟨(some 2), .mv (.c (.bool false)), none, none⟩]
def f8r0 : IC := .reg false [] f8o0 [0]
@[simp] theorem f8r0_run : run tbl fin K f8r0 e H = regK tbl fin K [] f8o0 [0] e H := run_regK _ _ _ _ _ _ _ _ _ rfl
@[simp] def f8o1 : List IOper := [
  ⟨(some 12), .mv (.t 0), none, none⟩,
  ⟨(some 13), .len (.t 12), none, none⟩,
  ⟨(some 14), .bin .gtr (.t 13) (.c (.int .i64 40)), none, none⟩]
def f8r1 : IC := .reg false [] f8o1 [14, 0]
@[simp] theorem f8r1_run : run tbl fin K f8r1 e H = regK tbl fin K [] f8o1 [14, 0] e H := run_regK _ _ _ _ _ _ _ _ _ rfl
@[simp] def f8o2 : List IOper := [
  ⟨(some 15), .call (.c (.fn 10 [])) [], none, none⟩,
  ⟨(some 2), .mv (.t 15), none, none⟩]
def f8r2 : IC := .reg false [] f8o2 [2]
@[simp] theorem f8r2_run : run tbl fin K f8r2 e H = regK tbl fin K [] f8o2 [2] e H := run_regK _ _ _ _ _ _ _ _ _ rfl
@[simp] def f8o3 : List IOper := [
  ⟨(some 3), .nilrow 42 7, none, none⟩]
def f8r3 : IC := .reg false [] f8o3 [0, 3]
@[simp] theorem f8r3_run : run tbl fin K f8r3 e H = regK tbl fin K [] f8o3 [0, 3] e H := run_regK _ _ _ _ _ _ _ _ _ rfl
@[simp] def f8o4 : List IOper := [
  ⟨(some 4), .mv (.c (.int .i64 0)), none, none⟩]
def f8r4 : IC := .reg false [] f8o4 [4, 0, 3]
@[simp] theorem f8r4_run : run tbl fin K f8r4 e H = regK tbl fin K [] f8o4 [4, 0, 3] e H := run_regK _ _ _ _ _ _ _ _ _ rfl
@[simp] def f8o5 : List IOper := [
  ⟨(some 16), .mv (.t 4), none, none⟩,
  ⟨(some 17), .mv (.t 0), none, none⟩,
  ⟨(some 18), .len (.t 17), none, none⟩,
  ⟨(some 19), .bin .lss (.t 16) (.t 18), none, none⟩]
def f8r5 : IC := .reg false [] f8o5 [19, 4, 0, 3]
@[simp] theorem f8r5_run : run tbl fin K f8r5 e H = regK tbl fin K [] f8o5 [19, 4, 0, 3] e H := run_regK _ _ _ _ _ _ _ _ _ rfl
@[simp] def f8o6 : List IOper := [
  ⟨(some 22), .mv (.t 0), none, none⟩,
  ⟨(some 23), .mv (.t 4), none, none⟩,
  ⟨(some 24), .idx 4 (.t 22) (.t 23), none, none⟩,
  ⟨(some 25), .load true 4 (.t 24), none, none⟩,
  ⟨(some 5), .new 55 4 (.agg [(.int .i64 0), (.int .i64 0), (.int .i64 0), (.str [])]), none, none⟩,
  ⟨none, .store 4 (.t 5) (.t 25), none, none⟩]
def f8r6 : IC := .reg false [] f8o6 [4, 0, 3, 5]
@[simp] theorem f8r6_run : run tbl fin K f8r6 e H = regK tbl fin K [] f8o6 [4, 0, 3, 5] e H := run_regK _ _ _ _ _ _ _ _ _ rfl
@[simp] def f8o7 : List IOper := [
  ⟨(some 26), .fld 1 (.t 5), none, none⟩,
  ⟨(some 27), .load false 1 (.t 26), none, none⟩,
  ⟨(some 28), .bin .lss (.t 27) (.c (.int .i64 1)), none, none⟩,
  ⟨(some 29), .mv (.t 28), none, none⟩,
  ⟨(some 30), .fld 1 (.t 5), (some (29, false)), none⟩,
  ⟨(some 31), .load false 1 (.t 30), (some (29, false)), none⟩,
  ⟨(some 32), .bin .gtr (.t 31) (.c (.int .i64 1000)), (some (29, false)), none⟩,
  ⟨(some 33), .pick (.t 29) (.c (.bool true)) (.t 32), none, some [33, 4, 0, 3, 5]⟩,
  ⟨(some 34), .mv (.t 33), none, none⟩,
  ⟨(some 35), .fld 3 (.t 5), (some (34, false)), none⟩,
  ⟨(some 36), .load false 1 (.t 35), (some (34, false)), none⟩,
  ⟨(some 37), .slen (.t 36), (some (34, false)), none⟩,
  ⟨(some 38), .bin .gtr (.t 37) (.c (.int .i64 100)), (some (34, false)), none⟩,
  ⟨(some 39), .pick (.t 34) (.c (.bool true)) (.t 38), none, none⟩]
def f8r7 : IC := .reg false [] f8o7 [39, 4, 0, 3, 5]
@[simp] theorem f8r7_run : run tbl fin K f8r7 e H = regK tbl fin K [] f8o7 [39, 4, 0, 3, 5] e H := run_regK _ _ _ _ _ _ _ _ _ rfl
@[simp] def f8o8 : List IOper := [
  ⟨(some 40), .call (.c (.fn 10 [])) [], none, none⟩,
  ⟨(some 2), .mv (.t 40), none, none⟩]
def f8r8 : IC := .reg false [] f8o8 [2]
@[simp] theorem f8r8_run : run tbl fin K f8r8 e H = regK tbl fin K [] f8o8 [2] e H := run_regK _ _ _ _ _ _ _ _ _ rfl
@[simp] def f8o9 : List IOper := [
  ⟨(some 42), .mv (.t 3), none, none⟩,
  ⟨(some 43), .load true 4 (.t 5), none, none⟩,
  ⟨(some 44), .call (.c (.fn 31 [])) [(.t 42), (.t 43)], none, none⟩,
  ⟨(some 41), .mv (.t 44), none, none⟩,
  ⟨(some 45), .ext (.t 41) 0, none, none⟩,
  ⟨(some 46), .ext (.t 41) 1, none, none⟩,
  ⟨(some 6), .mv (.t 45), none, none⟩,
  ⟨(some 7), .mv (.t 46), none, none⟩]
def f8r9 : IC := .reg false [] f8o9 [5, 7, 3, 0, 4, 6]
@[simp] theorem f8r9_run : run tbl fin K f8r9 e H = regK tbl fin K [] f8o9 [5, 7, 3, 0, 4, 6] e H := run_regK _ _ _ _ _ _ _ _ _ rfl
@[simp] def f8o10 : List IOper := [
  ⟨(some 47), .mv (.t 6), none, none⟩,
  ⟨(some 48), .call (.c (.fn 29 [])) [(.t 47)], none, none⟩,
  ⟨(some 49), .bin .neq (.t 48) (.c (.int .i64 0)), none, none⟩,
  ⟨(some 50), .mv (.t 49), none, none⟩,
  ⟨(some 51), .fld 0 (.t 5), (some (50, false)), none⟩,
  ⟨(some 52), .load false 1 (.t 51), (some (50, false)), none⟩,
  ⟨(some 53), .bin .neq (.t 52) (.c (.int .i64 0)), (some (50, false)), none⟩,
  ⟨(some 54), .mv (.t 53), (some (50, false)), some [5, 54, 7, 3, 50, 0, 4, 6]⟩,
  ⟨(some 55), .fld 0 (.t 5), (some (54, true)), none⟩,
  ⟨(some 56), .load false 1 (.t 55), (some (54, true)), none⟩,
  ⟨(some 57), .bin .neq (.t 56) (.c (.int .i64 1)), (some (54, true)), none⟩,
  ⟨(some 58), .pick (.t 54) (.t 57) (.c (.bool false)), (some (50, false)), none⟩,
  ⟨(some 59), .mv (.t 58), (some (50, false)), none⟩,
  ⟨(some 60), .mv (.t 7), (some (59, true)), none⟩,
  ⟨(some 61), .len (.t 60), (some (59, true)), none⟩,
  ⟨(some 62), .mv (.t 3), (some (59, true)), some [62, 61, 59, 50, 0, 4, 6]⟩,
  ⟨(some 63), .call (.c (.fn 32 [])) [(.t 62)], (some (59, true)), none⟩,
  ⟨(some 64), .bin .neq (.t 61) (.t 63), (some (59, true)), none⟩,
  ⟨(some 65), .mv (.t 64), (some (59, true)), none⟩,
  ⟨(some 66), .mv (.t 6), (some (65, false)), none⟩,
  ⟨(some 67), .call (.c (.fn 32 [])) [(.t 66)], (some (65, false)), none⟩,
  ⟨(some 68), .bin .gtr (.t 67) (.c (.int .i64 0)), (some (65, false)), none⟩,
  ⟨(some 69), .pick (.t 65) (.c (.bool true)) (.t 68), (some (59, true)), none⟩,
  ⟨(some 70), .pick (.t 59) (.t 69) (.c (.bool false)), (some (50, false)), some [70, 50, 0, 4, 6]⟩,
  ⟨(some 71), .pick (.t 50) (.c (.bool true)) (.t 70), none, none⟩]
def f8r10 : IC := .reg false [] f8o10 [71, 0, 4, 6]
@[simp] theorem f8r10_run : run tbl fin K f8r10 e H = regK tbl fin K [] f8o10 [71, 0, 4, 6] e H := run_regK _ _ _ _ _ _ _ _ _ rfl
@[simp] def f8o11 : List IOper := [
  ⟨(some 2), .mv (.c (.bool false)), none, none⟩]
def f8r11 : IC := .reg false [] f8o11 [2]
@[simp] theorem f8r11_run : run tbl fin K f8r11 e H = regK tbl fin K [] f8o11 [2] e H := run_regK _ _ _ _ _ _ _ _ _ rfl
@[simp] def f8o12 : List IOper := [
  ⟨(some 72), .mv (.t 6), none, none⟩,
  ⟨(some 3), .mv (.t 72), none, none⟩]
def f8r12 : IC := .reg false [] f8o12 [4, 0, 3]
@[simp] theorem f8r12_run : run tbl fin K f8r12 e H = regK tbl fin K [] f8o12 [4, 0, 3] e H := run_regK _ _ _ _ _ _ _ _ _ rfl
@[simp] def f8o13 : List IOper := [
  ⟨(some 20), .mv (.t 4), none, none⟩,
  ⟨(some 21), .bin .add (.t 20) (.c (.int .i64 1)), none, none⟩,
  ⟨(some 4), .mv (.t 21), none, none⟩]
def f8r13 : IC := .reg false [] f8o13 [4, 0, 3]
@[simp] theorem f8r13_run : run tbl fin K f8r13 e H = regK tbl fin K [] f8o13 [4, 0, 3] e H := run_regK _ _ _ _ _ _ _ _ _ rfl
def f8b14 : IC := (.seq (.seq f8r5 (.cond (.t 19) .skip (.exit 0))) (.seq (.block 1 (.seq f8r6 (.seq (.seq f8r7 (.cond (.t 39) (.seq f8r8 .ret) .skip)) (.seq f8r9 (.seq (.seq f8r10 (.cond (.t 71) (.seq f8r11 .ret) .skip)) f8r12))))) f8r13))
theorem f8b14_eq : f8b14 = (.seq (.seq f8r5 (.cond (.t 19) .skip (.exit 0))) (.seq (.block 1 (.seq f8r6 (.seq (.seq f8r7 (.cond (.t 39) (.seq f8r8 .ret) .skip)) (.seq f8r9 (.seq (.seq f8r10 (.cond (.t 71) (.seq f8r11 .ret) .skip)) f8r12))))) f8r13)) := rfl
@[simp] def f8o15 : List IOper := [
  ⟨(some 74), .mv (.t 3), none, none⟩,
  ⟨(some 75), .call (.c (.fn 23 [])) [(.t 74)], none, none⟩,
  ⟨(some 73), .mv (.t 75), none, none⟩,
  ⟨(some 76), .ext (.t 73) 0, none, none⟩,
  ⟨(some 77), .ext (.t 73) 1, none, none⟩,
  ⟨(some 8), .mv (.t 76), none, none⟩,
  ⟨(some 9), .mv (.t 77), none, none⟩]
def f8r15 : IC := .reg false [] f8o15 [8]
@[simp] theorem f8r15_run : run tbl fin K f8r15 e H = regK tbl fin K [] f8o15 [8] e H := run_regK _ _ _ _ _ _ _ _ _ rfl
@[simp] def f8o16 : List IOper := [
  ⟨(some 79), .mv (.t 8), none, none⟩,
  ⟨(some 80), .call (.c (.fn 23 [])) [(.t 79)], none, none⟩,
  ⟨(some 78), .mv (.t 80), none, none⟩,
  ⟨(some 81), .ext (.t 78) 0, none, none⟩,
  ⟨(some 82), .ext (.t 78) 1, none, none⟩,
  ⟨(some 10), .mv (.t 81), none, none⟩,
  ⟨(some 11), .mv (.t 82), none, none⟩]
def f8r16 : IC := .reg false [] f8o16 [11]
@[simp] theorem f8r16_run : run tbl fin K f8r16 e H = regK tbl fin K [] f8o16 [11] e H := run_regK _ _ _ _ _ _ _ _ _ rfl
@[simp] def f8o17 : List IOper := [
  ⟨(some 83), .mv (.t 11), none, none⟩,
  ⟨(some 84), .len (.t 83), none, none⟩,
  ⟨(some 85), .bin .eql (.t 84) (.c (.int .i64 0)), none, none⟩,
  ⟨(some 86), .mv (.t 85), none, none⟩,
  ⟨(some 87), .call (.c (.fn 10 [])) [], (some (86, true)), none⟩,
  ⟨(some 88), .pick (.t 86) (.t 87) (.c (.bool false)), none, none⟩,
  ⟨(some 2), .mv (.t 88), none, none⟩]
def f8r17 : IC := .reg false [] f8o17 [2]
@[simp] theorem f8r17_run : run tbl fin K f8r17 e H = regK tbl fin K [] f8o17 [2] e H := run_regK _ _ _ _ _ _ _ _ _ rfl
def f8body : IC := (.seq f8r0 (.seq (.seq f8r1 (.cond (.t 14) (.seq f8r2 .ret) .skip)) (.seq f8r3 (.seq (.seq f8r4 (.block 0 (.loop [4, 0, 3] f8b14))) (.seq f8r15 (.seq f8r16 (.seq f8r17 .ret)))))))
def f8 : IFn := ⟨89, 1, [.tmp 2], f8body⟩
/- 9: jobshell/jobshelllaw36.ok -/
@[simp] def f9o0 : List IOper := [
  ⟨(some 2), .mv (.c (.bool false)), none, none⟩]
def f9r0 : IC := .reg false [] f9o0 [0]
@[simp] theorem f9r0_run : run tbl fin K f9r0 e H = regK tbl fin K [] f9o0 [0] e H := run_regK _ _ _ _ _ _ _ _ _ rfl
@[simp] def f9o1 : List IOper := [
  ⟨(some 3), .mv (.t 0), none, none⟩,
  ⟨(some 4), .call (.c (.fn 26 [])) [(.t 3)], none, none⟩,
  ⟨(some 5), .mv (.t 4), none, none⟩,
  ⟨(some 6), .mv (.t 0), (some (5, true)), none⟩,
  ⟨(some 7), .call (.c (.fn 30 [])) [(.t 6)], (some (5, true)), none⟩,
  ⟨(some 8), .bin .eql (.t 7) (.c (.int .i64 0)), (some (5, true)), none⟩,
  ⟨(some 9), .pick (.t 5) (.t 8) (.c (.bool false)), none, none⟩,
  ⟨(some 2), .mv (.t 9), none, none⟩]
def f9r1 : IC := .reg false [] f9o1 [2]
@[simp] theorem f9r1_run : run tbl fin K f9r1 e H = regK tbl fin K [] f9o1 [2] e H := run_regK _ _ _ _ _ _ _ _ _ rfl
def f9body : IC := (.seq f9r0 (.seq f9r1 .ret))
def f9 : IFn := ⟨10, 1, [.tmp 2], f9body⟩
/- 10: jobshell/jobshelllaw36.awake -/
@[simp] def f10o0 : List IOper := [
  ⟨(some 0), .mv (.c (.bool false)), none, none⟩]
def f10r0 : IC := .reg false [] f10o0 []
@[simp] theorem f10r0_run : run tbl fin K f10r0 e H = regK tbl fin K [] f10o0 [] e H := run_regK _ _ _ _ _ _ _ _ _ rfl
@[simp] def f10o1 : List IOper := [
  ⟨(some 21), .mkimm 1 2 (.int .i64 0) [(0, (.c (.int .i64 5))), (1, (.c (.int .i64 6)))], none, none⟩,
  ⟨(some 22), .call (.c (.fn 11 [])) [(.c .e0), (.c (.int .i64 5)), (.t 21), (.c (.str [99, 97, 116, 32, 124, 32, 119, 99]))], none, none⟩,
  ⟨(some 20), .mv (.t 22), none, none⟩,
  ⟨(some 23), .ext (.t 20) 0, none, none⟩,
  ⟨(some 24), .ext (.t 20) 1, none, none⟩,
  ⟨(some 25), .ext (.t 20) 2, none, none⟩,
  ⟨(some 1), .mv (.t 23), none, none⟩,
  ⟨(some 2), .mv (.t 24), none, none⟩,
  ⟨(some 3), .mv (.t 25), none, none⟩]
def f10r1 : IC := .reg false [] f10o1 [1, 3, 2]
@[simp] theorem f10r1_run : run tbl fin K f10r1 e H = regK tbl fin K [] f10o1 [1, 3, 2] e H := run_regK _ _ _ _ _ _ _ _ _ rfl
@[simp] def f10o2 : List IOper := [
  ⟨(some 27), .mv (.t 1), none, none⟩,
  ⟨(some 28), .mkimm 1 1 (.int .i64 0) [(0, (.c (.int .i64 8)))], none, none⟩,
  ⟨(some 29), .call (.c (.fn 11 [])) [(.t 27), (.c (.int .i64 8)), (.t 28), (.c (.str [115, 108, 101, 101, 112, 32, 57]))], none, none⟩,
  ⟨(some 26), .mv (.t 29), none, none⟩,
  ⟨(some 30), .ext (.t 26) 0, none, none⟩,
  ⟨(some 31), .ext (.t 26) 1, none, none⟩,
  ⟨(some 32), .ext (.t 26) 2, none, none⟩,
  ⟨(some 1), .mv (.t 30), none, none⟩,
  ⟨(some 4), .mv (.t 31), none, none⟩,
  ⟨(some 5), .mv (.t 32), none, none⟩]
def f10r2 : IC := .reg false [] f10o2 [3, 5, 1, 4, 2]
@[simp] theorem f10r2_run : run tbl fin K f10r2 e H = regK tbl fin K [] f10o2 [3, 5, 1, 4, 2] e H := run_regK _ _ _ _ _ _ _ _ _ rfl
@[simp] def f10o3 : List IOper := [
  ⟨(some 33), .mv (.t 1), none, none⟩,
  ⟨(some 34), .call (.c (.fn 18 [])) [(.t 33), (.c (.int .i64 1)), (.c (.bool false))], none, none⟩,
  ⟨(some 6), .mv (.t 34), none, none⟩]
def f10r3 : IC := .reg false [] f10o3 [3, 5, 1, 6, 4, 2]
@[simp] theorem f10r3_run : run tbl fin K f10r3 e H = regK tbl fin K [] f10o3 [3, 5, 1, 6, 4, 2] e H := run_regK _ _ _ _ _ _ _ _ _ rfl
@[simp] def f10o4 : List IOper := [
  ⟨(some 36), .mv (.t 1), none, none⟩,
  ⟨(some 37), .call (.c (.fn 16 [])) [(.t 36)], none, none⟩,
  ⟨(some 35), .mv (.t 37), none, none⟩,
  ⟨(some 38), .ext (.t 35) 0, none, none⟩,
  ⟨(some 39), .ext (.t 35) 1, none, none⟩,
  ⟨(some 7), .mv (.t 38), none, none⟩,
  ⟨(some 8), .mv (.t 39), none, none⟩]
def f10r4 : IC := .reg false [] f10o4 [3, 5, 1, 6, 8, 7, 4, 2]
@[simp] theorem f10r4_run : run tbl fin K f10r4 e H = regK tbl fin K [] f10o4 [3, 5, 1, 6, 8, 7, 4, 2] e H := run_regK _ _ _ _ _ _ _ _ _ rfl
@[simp] def f10o5 : List IOper := [
  ⟨(some 41), .mv (.t 1), none, none⟩,
  ⟨(some 42), .call (.c (.fn 21 [])) [(.t 41), (.c (.int .i64 8)), (.c (.int .i64 3))], none, none⟩,
  ⟨(some 40), .mv (.t 42), none, none⟩,
  ⟨(some 43), .ext (.t 40) 0, none, none⟩,
  ⟨(some 44), .ext (.t 40) 1, none, none⟩,
  ⟨(some 9), .mv (.t 43), none, none⟩,
  ⟨(some 10), .mv (.t 44), none, none⟩]
def f10r5 : IC := .reg false [] f10o5 [3, 5, 10, 1, 9, 6, 8, 7, 4, 2]
@[simp] theorem f10r5_run : run tbl fin K f10r5 e H = regK tbl fin K [] f10o5 [3, 5, 10, 1, 9, 6, 8, 7, 4, 2] e H := run_regK _ _ _ _ _ _ _ _ _ rfl
@[simp] def f10o6 : List IOper := [
  ⟨(some 46), .mv (.t 1), none, none⟩,
  ⟨(some 47), .call (.c (.fn 21 [])) [(.t 46), (.c (.int .i64 5)), (.c (.int .i64 0))], none, none⟩,
  ⟨(some 45), .mv (.t 47), none, none⟩,
  ⟨(some 48), .ext (.t 45) 0, none, none⟩,
  ⟨(some 49), .ext (.t 45) 1, none, none⟩,
  ⟨(some 11), .mv (.t 48), none, none⟩,
  ⟨(some 12), .mv (.t 49), none, none⟩]
def f10r6 : IC := .reg false [] f10o6 [11, 3, 5, 10, 12, 1, 9, 6, 8, 7, 4, 2]
@[simp] theorem f10r6_run : run tbl fin K f10r6 e H = regK tbl fin K [] f10o6 [11, 3, 5, 10, 12, 1, 9, 6, 8, 7, 4, 2] e H := run_regK _ _ _ _ _ _ _ _ _ rfl
@[simp] def f10o7 : List IOper := [
  ⟨(some 51), .mv (.t 11), none, none⟩,
  ⟨(some 52), .call (.c (.fn 21 [])) [(.t 51), (.c (.int .i64 6)), (.c (.int .i64 532))], none, none⟩,
  ⟨(some 50), .mv (.t 52), none, none⟩,
  ⟨(some 53), .ext (.t 50) 0, none, none⟩,
  ⟨(some 54), .ext (.t 50) 1, none, none⟩,
  ⟨(some 11), .mv (.t 53), none, none⟩,
  ⟨(some 13), .mv (.t 54), none, none⟩]
def f10r7 : IC := .reg false [] f10o7 [3, 5, 10, 12, 13, 1, 11, 9, 6, 8, 7, 4, 2]
@[simp] theorem f10r7_run : run tbl fin K f10r7 e H = regK tbl fin K [] f10o7 [3, 5, 10, 12, 13, 1, 11, 9, 6, 8, 7, 4, 2] e H := run_regK _ _ _ _ _ _ _ _ _ rfl
@[simp] def f10o8 : List IOper := [
  ⟨(some 56), .mv (.t 11), none, none⟩,
  ⟨(some 57), .call (.c (.fn 16 [])) [(.t 56)], none, none⟩,
  ⟨(some 55), .mv (.t 57), none, none⟩,
  ⟨(some 58), .ext (.t 55) 0, none, none⟩,
  ⟨(some 59), .ext (.t 55) 1, none, none⟩,
  ⟨(some 14), .mv (.t 58), none, none⟩,
  ⟨(some 15), .mv (.t 59), none, none⟩]
def f10r8 : IC := .reg false [] f10o8 [3, 5, 10, 12, 13, 1, 11, 15, 14, 9, 6, 8, 7, 4, 2]
@[simp] theorem f10r8_run : run tbl fin K f10r8 e H = regK tbl fin K [] f10o8 [3, 5, 10, 12, 13, 1, 11, 15, 14, 9, 6, 8, 7, 4, 2] e H := run_regK _ _ _ _ _ _ _ _ _ rfl
@[simp] def f10o9 : List IOper := [
  ⟨(some 61), .mv (.t 1), none, none⟩,
  ⟨(some 62), .call (.c (.fn 14 [])) [(.t 61), (.c (.str [37, 120]))], none, none⟩,
  ⟨(some 60), .mv (.t 62), none, none⟩,
  ⟨(some 63), .ext (.t 60) 0, none, none⟩,
  ⟨(some 64), .ext (.t 60) 1, none, none⟩,
  ⟨(some 16), .mv (.t 63), none, none⟩,
  ⟨(some 17), .mv (.t 64), none, none⟩]
def f10r9 : IC := .reg false [] f10o9 [3, 5, 10, 12, 13, 1, 11, 17, 15, 14, 9, 6, 8, 7, 4, 2]
@[simp] theorem f10r9_run : run tbl fin K f10r9 e H = regK tbl fin K [] f10o9 [3, 5, 10, 12, 13, 1, 11, 17, 15, 14, 9, 6, 8, 7, 4, 2] e H := run_regK _ _ _ _ _ _ _ _ _ rfl
@[simp] def f10o10 : List IOper := [
  ⟨(some 66), .mv (.t 11), none, none⟩,
  ⟨(some 67), .call (.c (.fn 14 [])) [(.t 66), (.c (.str [37, 50]))], none, none⟩,
  ⟨(some 65), .mv (.t 67), none, none⟩,
  ⟨(some 68), .ext (.t 65) 0, none, none⟩,
  ⟨(some 69), .ext (.t 65) 1, none, none⟩,
  ⟨(some 18), .mv (.t 68), none, none⟩,
  ⟨(some 19), .mv (.t 69), none, none⟩]
def f10r10 : IC := .reg false [] f10o10 [3, 5, 10, 12, 13, 1, 11, 19, 18, 17, 15, 14, 9, 6, 8, 7, 4, 2]
@[simp] theorem f10r10_run : run tbl fin K f10r10 e H = regK tbl fin K [] f10o10 [3, 5, 10, 12, 13, 1, 11, 19, 18, 17, 15, 14, 9, 6, 8, 7, 4, 2] e H := run_regK _ _ _ _ _ _ _ _ _ rfl
@[simp] def f10o11 : List IOper := [
  ⟨(some 70), .mv (.t 3), none, none⟩,
  ⟨(some 71), .bin .neq (.t 70) (.c (.int .i64 0)), none, none⟩,
  ⟨(some 72), .mv (.t 71), none, none⟩,
  ⟨(some 73), .mv (.t 5), (some (72, false)), none⟩,
  ⟨(some 74), .bin .neq (.t 73) (.c (.int .i64 0)), (some (72, false)), none⟩,
  ⟨(some 75), .pick (.t 72) (.c (.bool true)) (.t 74), none, none⟩,
  ⟨(some 76), .mv (.t 75), none, none⟩,
  ⟨(some 77), .mv (.t 10), (some (76, false)), some [77, 76, 12, 13, 1, 11, 19, 18, 17, 15, 14, 9, 6, 8, 7, 4, 2]⟩,
  ⟨(some 78), .un .not (.t 77), (some (76, false)), none⟩,
  ⟨(some 79), .pick (.t 76) (.c (.bool true)) (.t 78), none, none⟩,
  ⟨(some 80), .mv (.t 79), none, none⟩,
  ⟨(some 81), .mv (.t 12), (some (80, false)), none⟩,
  ⟨(some 82), .un .not (.t 81), (some (80, false)), none⟩,
  ⟨(some 83), .pick (.t 80) (.c (.bool true)) (.t 82), none, none⟩,
  ⟨(some 84), .mv (.t 83), none, none⟩,
  ⟨(some 85), .mv (.t 13), (some (84, false)), some [85, 84, 1, 11, 19, 18, 17, 15, 14, 9, 6, 8, 7, 4, 2]⟩,
  ⟨(some 86), .un .not (.t 85), (some (84, false)), none⟩,
  ⟨(some 87), .pick (.t 84) (.c (.bool true)) (.t 86), none, none⟩,
  ⟨(some 88), .mv (.t 87), none, none⟩,
  ⟨(some 89), .mv (.t 1), (some (88, false)), none⟩,
  ⟨(some 90), .len (.t 89), (some (88, false)), none⟩,
  ⟨(some 91), .bin .neq (.t 90) (.c (.int .i64 2)), (some (88, false)), none⟩,
  ⟨(some 92), .pick (.t 88) (.c (.bool true)) (.t 91), none, none⟩,
  ⟨(some 93), .mv (.t 92), none, some [93, 11, 19, 18, 17, 15, 14, 9, 6, 8, 7, 4, 2]⟩,
  ⟨(some 94), .mv (.t 11), (some (93, false)), none⟩,
  ⟨(some 95), .len (.t 94), (some (93, false)), none⟩,
  ⟨(some 96), .bin .neq (.t 95) (.c (.int .i64 2)), (some (93, false)), none⟩,
  ⟨(some 97), .pick (.t 93) (.c (.bool true)) (.t 96), none, none⟩]
def f10r11 : IC := .reg false [] f10o11 [97, 11, 19, 18, 17, 15, 14, 9, 6, 8, 7, 4, 2]
@[simp] theorem f10r11_run : run tbl fin K f10r11 e H = regK tbl fin K [] f10o11 [97, 11, 19, 18, 17, 15, 14, 9, 6, 8, 7, 4, 2] e H := run_regK _ _ _ _ _ _ _ _ _ rfl
@[simp] def f10o12 : List IOper := [
  ⟨(some 0), .mv (.c (.bool false)), none, none⟩]
def f10r12 : IC := .reg false [] f10o12 [0]
@[simp] theorem f10r12_run : run tbl fin K f10r12 e H = regK tbl fin K [] f10o12 [0] e H := run_regK _ _ _ _ _ _ _ _ _ rfl
@[simp] def f10o13 : List IOper := [
  ⟨(some 98), .mv (.t 2), none, none⟩,
  ⟨(some 99), .bin .eql (.t 98) (.c (.int .i64 1)), none, none⟩,
  ⟨(some 100), .mv (.t 99), none, none⟩,
  ⟨(some 101), .mv (.t 4), (some (100, true)), none⟩,
  ⟨(some 102), .bin .eql (.t 101) (.c (.int .i64 2)), (some (100, true)), none⟩,
  ⟨(some 103), .pick (.t 100) (.t 102) (.c (.bool false)), none, none⟩,
  ⟨(some 104), .mv (.t 103), none, none⟩,
  ⟨(some 105), .mv (.t 7), (some (104, true)), some [105, 104, 8, 6, 9, 14, 15, 17, 18, 19, 11]⟩,
  ⟨(some 106), .bin .eql (.t 105) (.c (.int .i64 1)), (some (104, true)), none⟩,
  ⟨(some 107), .pick (.t 104) (.t 106) (.c (.bool false)), none, none⟩,
  ⟨(some 108), .mv (.t 107), none, none⟩,
  ⟨(some 109), .mv (.t 8), (some (108, true)), none⟩,
  ⟨(some 110), .bin .eql (.t 109) (.c (.int .i64 0)), (some (108, true)), none⟩,
  ⟨(some 111), .pick (.t 108) (.t 110) (.c (.bool false)), none, none⟩,
  ⟨(some 112), .mv (.t 111), none, none⟩,
  ⟨(some 113), .mv (.t 6), (some (112, true)), some [113, 112, 9, 14, 15, 17, 18, 19, 11]⟩,
  ⟨(some 114), .bin .eql (.t 113) (.c (.str [91, 50, 93, 43, 32, 82, 117, 110, 110, 105, 110, 103, 32, 32, 115, 108, 101, 101, 112, 32, 57])), (some (112, true)), none⟩,
  ⟨(some 115), .pick (.t 112) (.t 114) (.c (.bool false)), none, none⟩,
  ⟨(some 116), .mv (.t 115), none, none⟩,
  ⟨(some 117), .mv (.t 9), (some (116, true)), none⟩,
  ⟨(some 118), .call (.c (.fn 18 [])) [(.t 117), (.c (.int .i64 1)), (.c (.bool false))], (some (116, true)), none⟩,
  ⟨(some 119), .bin .eql (.t 118) (.c (.str [91, 50, 93, 43, 32, 69, 120, 105, 116, 32, 51, 32, 32, 115, 108, 101, 101, 112, 32, 57])), (some (116, true)), none⟩,
  ⟨(some 120), .pick (.t 116) (.t 119) (.c (.bool false)), none, none⟩,
  ⟨(some 121), .mv (.t 120), none, some [9, 121, 14, 15, 17, 18, 19, 11]⟩,
  ⟨(some 122), .mv (.t 9), (some (121, true)), none⟩,
  ⟨(some 123), .call (.c (.fn 18 [])) [(.t 122), (.c (.int .i64 1)), (.c (.bool true))], (some (121, true)), none⟩,
  ⟨(some 124), .bin .eql (.t 123) (.c (.str [91, 50, 93, 43, 32, 56, 32, 69, 120, 105, 116, 32, 51, 32, 32, 115, 108, 101, 101, 112, 32, 57])), (some (121, true)), none⟩,
  ⟨(some 125), .pick (.t 121) (.t 124) (.c (.bool false)), none, none⟩,
  ⟨(some 126), .mv (.t 125), none, none⟩,
  ⟨(some 127), .mv (.t 14), (some (126, true)), none⟩,
  ⟨(some 128), .bin .eql (.t 127) (.c (.int .i64 1)), (some (126, true)), none⟩,
  ⟨(some 129), .pick (.t 126) (.t 128) (.c (.bool false)), none, some [129, 15, 17, 18, 19, 11]⟩,
  ⟨(some 130), .mv (.t 129), none, none⟩,
  ⟨(some 131), .mv (.t 15), (some (130, true)), none⟩,
  ⟨(some 132), .bin .eql (.t 131) (.c (.int .i64 0)), (some (130, true)), none⟩,
  ⟨(some 133), .pick (.t 130) (.t 132) (.c (.bool false)), none, none⟩,
  ⟨(some 134), .mv (.t 133), none, none⟩,
  ⟨(some 135), .mv (.t 11), (some (134, true)), none⟩,
  ⟨(some 136), .idx 7 (.t 135) (.c (.int .i64 1)), (some (134, true)), none⟩,
  ⟨(some 137), .fld 0 (.t 136), (some (134, true)), some [137, 134, 17, 18, 19, 11]⟩,
  ⟨(some 138), .load false 1 (.t 137), (some (134, true)), none⟩,
  ⟨(some 139), .bin .eql (.t 138) (.c (.int .i64 1)), (some (134, true)), none⟩,
  ⟨(some 140), .pick (.t 134) (.t 139) (.c (.bool false)), none, none⟩,
  ⟨(some 141), .mv (.t 140), none, none⟩,
  ⟨(some 142), .mv (.t 11), (some (141, true)), none⟩,
  ⟨(some 143), .idx 7 (.t 142) (.c (.int .i64 1)), (some (141, true)), none⟩,
  ⟨(some 144), .fld 2 (.t 143), (some (141, true)), none⟩,
  ⟨(some 145), .load false 1 (.t 144), (some (141, true)), some [145, 141, 17, 18, 19, 11]⟩,
  ⟨(some 146), .bin .eql (.t 145) (.c (.int .i64 2)), (some (141, true)), none⟩,
  ⟨(some 147), .pick (.t 141) (.t 146) (.c (.bool false)), none, none⟩,
  ⟨(some 148), .mv (.t 147), none, none⟩,
  ⟨(some 149), .mv (.t 17), (some (148, true)), none⟩,
  ⟨(some 150), .bin .eql (.t 149) (.c (.int .i64 8)), (some (148, true)), none⟩,
  ⟨(some 151), .pick (.t 148) (.t 150) (.c (.bool false)), none, none⟩,
  ⟨(some 152), .mv (.t 151), none, none⟩,
  ⟨(some 153), .mv (.t 18), (some (152, true)), some [153, 152, 19, 11]⟩,
  ⟨(some 154), .bin .eql (.t 153) (.c (.int .i64 0)), (some (152, true)), none⟩,
  ⟨(some 155), .pick (.t 152) (.t 154) (.c (.bool false)), none, none⟩,
  ⟨(some 156), .mv (.t 155), none, none⟩,
  ⟨(some 157), .mv (.t 19), (some (156, true)), none⟩,
  ⟨(some 158), .bin .eql (.t 157) (.c (.int .i64 0)), (some (156, true)), none⟩,
  ⟨(some 159), .pick (.t 156) (.t 158) (.c (.bool false)), none, none⟩,
  ⟨(some 160), .mv (.t 159), none, none⟩,
  ⟨(some 161), .mv (.t 11), (some (160, true)), some [161, 160]⟩,
  ⟨(some 162), .idx 7 (.t 161) (.c (.int .i64 1)), (some (160, true)), none⟩,
  ⟨(some 163), .load true 7 (.t 162), (some (160, true)), none⟩,
  ⟨(some 164), .call (.c (.fn 27 [])) [(.t 163)], (some (160, true)), none⟩,
  ⟨(some 165), .bin .eql (.t 164) (.c (.int .i64 148)), (some (160, true)), none⟩,
  ⟨(some 166), .pick (.t 160) (.t 165) (.c (.bool false)), none, none⟩,
  ⟨(some 0), .mv (.t 166), none, none⟩]
def f10r13 : IC := .reg false [] f10o13 [0]
@[simp] theorem f10r13_run : run tbl fin K f10r13 e H = regK tbl fin K [] f10o13 [0] e H := run_regK _ _ _ _ _ _ _ _ _ rfl
def f10body : IC := (.seq f10r0 (.seq f10r1 (.seq f10r2 (.seq f10r3 (.seq f10r4 (.seq f10r5 (.seq f10r6 (.seq f10r7 (.seq f10r8 (.seq f10r9 (.seq f10r10 (.seq (.seq f10r11 (.cond (.t 97) (.seq f10r12 .ret) .skip)) (.seq f10r13 .ret)))))))))))))
def f10 : IFn := ⟨167, 0, [.tmp 0], f10body⟩
/- 11: jobshell/jobs.Add -/
@[simp] def f11o0 : List IOper := [
  ⟨(some 8), .nilrow 42 7, none, none⟩,
  ⟨(some 9), .mv (.c (.int .i64 0)), none, none⟩,
  ⟨(some 10), .mv (.c (.int .i64 0)), none, none⟩]
def f11r0 : IC := .reg false [] f11o0 [2, 1, 3, 0]
@[simp] theorem f11r0_run : run tbl fin K f11r0 e H = regK tbl fin K [] f11o0 [2, 1, 3, 0] e H := run_regK _ _ _ _ _ _ _ _ _ rfl
@[simp] def f11o1 : List IOper := [
  ⟨(some 19), .mv (.t 0), none, none⟩,
  ⟨(some 20), .len (.t 19), none, none⟩,
  ⟨(some 21), .bin .geq (.t 20) (.c (.int .i64 32)), none, none⟩]
def f11r1 : IC := .reg false [] f11o1 [21, 2, 1, 3, 0]
@[simp] theorem f11r1_run : run tbl fin K f11r1 e H = regK tbl fin K [] f11o1 [21, 2, 1, 3, 0] e H := run_regK _ _ _ _ _ _ _ _ _ rfl
@[simp] def f11o2 : List IOper := [
  ⟨(some 22), .mv (.t 0), none, none⟩,
  ⟨(some 8), .mv (.t 22), none, none⟩,
  ⟨(some 9), .mv (.c (.int .i64 0)), none, none⟩,
  ⟨(some 10), .mv (.c (.int .i64 4)), none, none⟩]
def f11r2 : IC := .reg false [] f11o2 [8, 9, 10]
@[simp] theorem f11r2_run : run tbl fin K f11r2 e H = regK tbl fin K [] f11o2 [8, 9, 10] e H := run_regK _ _ _ _ _ _ _ _ _ rfl
@[simp] def f11o3 : List IOper := [
  ⟨(some 23), .mv (.t 1), none, none⟩,
  ⟨(some 24), .call (.c (.fn 33 [])) [(.t 23)], none, none⟩,
  ⟨(some 25), .un .not (.t 24), none, none⟩,
  ⟨(some 26), .mv (.t 25), none, none⟩,
  ⟨(some 27), .mv (.t 2), (some (26, false)), none⟩,
  ⟨(some 28), .len (.t 27), (some (26, false)), none⟩,
  ⟨(some 29), .bin .eql (.t 28) (.c (.int .i64 0)), (some (26, false)), none⟩,
  ⟨(some 30), .pick (.t 26) (.c (.bool true)) (.t 29), none, none⟩]
def f11r3 : IC := .reg false [] f11o3 [30, 3, 1, 2, 0]
@[simp] theorem f11r3_run : run tbl fin K f11r3 e H = regK tbl fin K [] f11o3 [30, 3, 1, 2, 0] e H := run_regK _ _ _ _ _ _ _ _ _ rfl
@[simp] def f11o4 : List IOper := [
  ⟨(some 31), .mv (.t 0), none, none⟩,
  ⟨(some 8), .mv (.t 31), none, none⟩,
  ⟨(some 9), .mv (.c (.int .i64 0)), none, none⟩,
  ⟨(some 10), .mv (.c (.int .i64 1)), none, none⟩]
def f11r4 : IC := .reg false [] f11o4 [8, 9, 10]
@[simp] theorem f11r4_run : run tbl fin K f11r4 e H = regK tbl fin K [] f11o4 [8, 9, 10] e H := run_regK _ _ _ _ _ _ _ _ _ rfl
@[simp] def f11o5 : List IOper := [
  ⟨(some 32), .mv (.t 2), none, none⟩,
  ⟨(some 33), .len (.t 32), none, none⟩,
  ⟨(some 34), .mv (.c (.int .i64 0)), none, none⟩]
def f11r5 : IC := .reg false [] f11o5 [33, 2, 1, 3, 32, 34, 0]
@[simp] theorem f11r5_run : run tbl fin K f11r5 e H = regK tbl fin K [] f11o5 [33, 2, 1, 3, 32, 34, 0] e H := run_regK _ _ _ _ _ _ _ _ _ rfl
@[simp] def f11o6 : List IOper := [
  ⟨(some 35), .bin .lss (.t 34) (.t 33), none, none⟩]
def f11r6 : IC := .reg false [] f11o6 [35, 32, 3, 1, 2, 33, 34, 0]
@[simp] theorem f11r6_run : run tbl fin K f11r6 e H = regK tbl fin K [] f11o6 [35, 32, 3, 1, 2, 33, 34, 0] e H := run_regK _ _ _ _ _ _ _ _ _ rfl
@[simp] def f11o7 : List IOper := [
  ⟨(some 36), .idx 1 (.t 32) (.t 34), none, none⟩,
  ⟨(some 37), .load false 1 (.t 36), none, none⟩,
  ⟨(some 12), .mv (.t 37), none, none⟩]
def f11r7 : IC := .reg false [] f11o7 [12, 32, 3, 1, 2, 33, 34, 0]
@[simp] theorem f11r7_run : run tbl fin K f11r7 e H = regK tbl fin K [] f11o7 [12, 32, 3, 1, 2, 33, 34, 0] e H := run_regK _ _ _ _ _ _ _ _ _ rfl
@[simp] def f11o8 : List IOper := [
  ⟨(some 38), .mv (.t 12), none, none⟩,
  ⟨(some 39), .call (.c (.fn 33 [])) [(.t 38)], none, none⟩,
  ⟨(some 40), .un .not (.t 39), none, none⟩]
def f11r8 : IC := .reg false [] f11o8 [40, 32, 3, 1, 2, 33, 34, 0]
@[simp] theorem f11r8_run : run tbl fin K f11r8 e H = regK tbl fin K [] f11o8 [40, 32, 3, 1, 2, 33, 34, 0] e H := run_regK _ _ _ _ _ _ _ _ _ rfl
@[simp] def f11o9 : List IOper := [
  ⟨(some 41), .mv (.t 0), none, none⟩,
  ⟨(some 8), .mv (.t 41), none, none⟩,
  ⟨(some 9), .mv (.c (.int .i64 0)), none, none⟩,
  ⟨(some 10), .mv (.c (.int .i64 1)), none, none⟩]
def f11r9 : IC := .reg false [] f11o9 [8, 9, 10]
@[simp] theorem f11r9_run : run tbl fin K f11r9 e H = regK tbl fin K [] f11o9 [8, 9, 10] e H := run_regK _ _ _ _ _ _ _ _ _ rfl
@[simp] def f11o10 : List IOper := [
  ⟨(some 42), .bin .add (.t 34) (.c (.int .i64 1)), none, none⟩,
  ⟨(some 34), .mv (.t 42), none, none⟩]
def f11r10 : IC := .reg false [] f11o10 [33, 2, 1, 3, 32, 34, 0]
@[simp] theorem f11r10_run : run tbl fin K f11r10 e H = regK tbl fin K [] f11o10 [33, 2, 1, 3, 32, 34, 0] e H := run_regK _ _ _ _ _ _ _ _ _ rfl
def f11b11 : IC := (.seq f11r6 (.seq (.cond (.t 35) .skip (.exit 0)) (.seq (.block 1 (.seq f11r7 (.seq f11r8 (.cond (.t 40) (.seq f11r9 .ret) .skip)))) f11r10)))
theorem f11b11_eq : f11b11 = (.seq f11r6 (.seq (.cond (.t 35) .skip (.exit 0)) (.seq (.block 1 (.seq f11r7 (.seq f11r8 (.cond (.t 40) (.seq f11r9 .ret) .skip)))) f11r10))) := rfl
@[simp] def f11o12 : List IOper := [
  ⟨(some 43), .mv (.t 2), none, none⟩,
  ⟨(some 44), .len (.t 43), none, none⟩,
  ⟨(some 45), .mv (.c (.int .i64 0)), none, none⟩]
def f11r12 : IC := .reg false [] f11o12 [44, 3, 1, 43, 2, 45, 0]
@[simp] theorem f11r12_run : run tbl fin K f11r12 e H = regK tbl fin K [] f11o12 [44, 3, 1, 43, 2, 45, 0] e H := run_regK _ _ _ _ _ _ _ _ _ rfl
@[simp] def f11o13 : List IOper := [
  ⟨(some 46), .bin .lss (.t 45) (.t 44), none, none⟩]
def f11r13 : IC := .reg false [] f11o13 [46, 2, 43, 1, 3, 44, 45, 0]
@[simp] theorem f11r13_run : run tbl fin K f11r13 e H = regK tbl fin K [] f11o13 [46, 2, 43, 1, 3, 44, 45, 0] e H := run_regK _ _ _ _ _ _ _ _ _ rfl
@[simp] def f11o14 : List IOper := [
  ⟨(some 47), .mv (.t 45), none, none⟩,
  ⟨(some 48), .idx 1 (.t 43) (.t 45), none, none⟩,
  ⟨(some 49), .load false 1 (.t 48), none, none⟩,
  ⟨(some 13), .mv (.t 47), none, none⟩,
  ⟨(some 14), .mv (.t 49), none, none⟩]
def f11r14 : IC := .reg false [] f11o14 [13, 14, 2, 43, 1, 3, 44, 45, 0]
@[simp] theorem f11r14_run : run tbl fin K f11r14 e H = regK tbl fin K [] f11o14 [13, 14, 2, 43, 1, 3, 44, 45, 0] e H := run_regK _ _ _ _ _ _ _ _ _ rfl
@[simp] def f11o15 : List IOper := [
  ⟨(some 51), .mv (.t 0), none, none⟩,
  ⟨(some 52), .mv (.t 14), none, none⟩,
  ⟨(some 53), .call (.c (.fn 34 [])) [(.t 51), (.t 52)], none, none⟩,
  ⟨(some 50), .mv (.t 53), none, none⟩,
  ⟨(some 54), .ext (.t 50) 0, none, none⟩,
  ⟨(some 55), .ext (.t 50) 1, none, none⟩,
  ⟨(some 15), .mv (.t 54), none, none⟩,
  ⟨(some 16), .mv (.t 55), none, none⟩]
def f11r15 : IC := .reg false [] f11o15 [15, 13, 14, 2, 43, 1, 3, 44, 45, 0]
@[simp] theorem f11r15_run : run tbl fin K f11r15 e H = regK tbl fin K [] f11o15 [15, 13, 14, 2, 43, 1, 3, 44, 45, 0] e H := run_regK _ _ _ _ _ _ _ _ _ rfl
@[simp] def f11o16 : List IOper := [
  ⟨(some 56), .mv (.t 15), none, none⟩,
  ⟨(some 57), .bin .geq (.t 56) (.c (.int .i64 0)), none, none⟩,
  ⟨(some 58), .mv (.t 57), none, none⟩,
  ⟨(some 59), .mv (.t 2), (some (58, false)), none⟩,
  ⟨(some 60), .mv (.t 13), (some (58, false)), none⟩,
  ⟨(some 61), .slc 1 (.t 59) none (some (.t 60)), (some (58, false)), none⟩,
  ⟨(some 62), .mv (.t 14), (some (58, false)), none⟩,
  ⟨(some 63), .call (.c (.fn 35 [])) [(.t 61), (.t 62)], (some (58, false)), none⟩,
  ⟨(some 64), .pick (.t 58) (.c (.bool true)) (.t 63), none, none⟩]
def f11r16 : IC := .reg false [] f11o16 [64, 2, 43, 1, 3, 44, 45, 0]
@[simp] theorem f11r16_run : run tbl fin K f11r16 e H = regK tbl fin K [] f11o16 [64, 2, 43, 1, 3, 44, 45, 0] e H := run_regK _ _ _ _ _ _ _ _ _ rfl
@[simp] def f11o17 : List IOper := [
  ⟨(some 65), .mv (.t 0), none, none⟩,
  ⟨(some 8), .mv (.t 65), none, none⟩,
  ⟨(some 9), .mv (.c (.int .i64 0)), none, none⟩,
  ⟨(some 10), .mv (.c (.int .i64 9)), none, none⟩]
def f11r17 : IC := .reg false [] f11o17 [8, 9, 10]
@[simp] theorem f11r17_run : run tbl fin K f11r17 e H = regK tbl fin K [] f11o17 [8, 9, 10] e H := run_regK _ _ _ _ _ _ _ _ _ rfl
@[simp] def f11o18 : List IOper := [
  ⟨(some 66), .bin .add (.t 45) (.c (.int .i64 1)), none, none⟩,
  ⟨(some 45), .mv (.t 66), none, none⟩]
def f11r18 : IC := .reg false [] f11o18 [44, 3, 1, 43, 2, 45, 0]
@[simp] theorem f11r18_run : run tbl fin K f11r18 e H = regK tbl fin K [] f11o18 [44, 3, 1, 43, 2, 45, 0] e H := run_regK _ _ _ _ _ _ _ _ _ rfl
def f11b19 : IC := (.seq f11r13 (.seq (.cond (.t 46) .skip (.exit 2)) (.seq (.block 3 (.seq f11r14 (.seq f11r15 (.seq f11r16 (.cond (.t 64) (.seq f11r17 .ret) .skip))))) f11r18)))
theorem f11b19_eq : f11b19 = (.seq f11r13 (.seq (.cond (.t 46) .skip (.exit 2)) (.seq (.block 3 (.seq f11r14 (.seq f11r15 (.seq f11r16 (.cond (.t 64) (.seq f11r17 .ret) .skip))))) f11r18))) := rfl
@[simp] def f11o20 : List IOper := [
  ⟨(some 67), .mv (.t 3), none, none⟩,
  ⟨(some 68), .slen (.t 67), none, none⟩,
  ⟨(some 69), .bin .gtr (.t 68) (.c (.int .i64 4096)), none, none⟩]
def f11r20 : IC := .reg false [] f11o20 [69, 1, 3, 2, 0]
@[simp] theorem f11r20_run : run tbl fin K f11r20 e H = regK tbl fin K [] f11o20 [69, 1, 3, 2, 0] e H := run_regK _ _ _ _ _ _ _ _ _ rfl
@[simp] def f11o21 : List IOper := [
  ⟨(some 70), .mv (.t 0), none, none⟩,
  ⟨(some 8), .mv (.t 70), none, none⟩,
  ⟨(some 9), .mv (.c (.int .i64 0)), none, none⟩,
  ⟨(some 10), .mv (.c (.int .i64 3)), none, none⟩]
def f11r21 : IC := .reg false [] f11o21 [8, 9, 10]
@[simp] theorem f11r21_run : run tbl fin K f11r21 e H = regK tbl fin K [] f11o21 [8, 9, 10] e H := run_regK _ _ _ _ _ _ _ _ _ rfl
@[simp] def f11o22 : List IOper := [
  ⟨(some 17), .new 3 1 (.int .i64 0), none, none⟩,
  ⟨none, .store 1 (.t 17) (.c (.int .i64 1)), none, none⟩]
def f11r22 : IC := .reg false [] f11o22 [0, 2, 3, 1, 17]
@[simp] theorem f11r22_run : run tbl fin K f11r22 e H = regK tbl fin K [] f11o22 [0, 2, 3, 1, 17] e H := run_regK _ _ _ _ _ _ _ _ _ rfl
@[simp] def f11o23 : List IOper := [
  ⟨(some 71), .mv (.t 0), none, none⟩,
  ⟨(some 72), .mkfn 37 [(.t 17)], none, none⟩,
  ⟨(some 73), .ocall (.c (.fn 36 [])) [(.t 71), (.t 72)], none, none⟩]
def f11r23 : IC := .reg false [] f11o23 [73, 0, 2, 3, 1, 17]
@[simp] theorem f11r23_run : run tbl fin K f11r23 e H = regK tbl fin K [] f11o23 [73, 0, 2, 3, 1, 17] e H := run_regK _ _ _ _ _ _ _ _ _ rfl
@[simp] def f11o24 : List IOper := [
  ⟨(some 74), .load false 1 (.t 17), none, none⟩,
  ⟨(some 75), .bin .add (.t 74) (.c (.int .i64 1)), none, none⟩,
  ⟨none, .store 1 (.t 17) (.t 75), none, none⟩]
def f11r24 : IC := .reg false [] f11o24 [0, 2, 3, 1, 17]
@[simp] theorem f11r24_run : run tbl fin K f11r24 e H = regK tbl fin K [] f11o24 [0, 2, 3, 1, 17] e H := run_regK _ _ _ _ _ _ _ _ _ rfl
def f11b25 : IC := (.seq (.seq f11r23 (.cond (.t 73) .skip (.exit 4))) (.block 5 f11r24))
theorem f11b25_eq : f11b25 = (.seq (.seq f11r23 (.cond (.t 73) .skip (.exit 4))) (.block 5 f11r24)) := rfl
@[simp] def f11o26 : List IOper := [
  ⟨(some 76), .loadb false 1 (.t 17), none, none⟩,
  ⟨(some 77), .mv (.t 1), none, none⟩,
  ⟨(some 78), .mv (.t 2), none, none⟩,
  ⟨(some 79), .call (.c (.fn 38 [])) [(.t 78)], none, none⟩,
  ⟨(some 80), .mv (.t 3), none, none⟩,
  ⟨(some 81), .build [(.int .i64 0), (.int .i64 0), (.int .i64 0), .e0, .e0, (.str []), (.bool false)] [(0, 1, (.t 76)), (1, 1, (.t 77)), (2, 1, (.c (.int .i64 1))), (3, 1, (.t 79)), (5, 1, (.t 80)), (6, 1, (.c (.bool true)))], none, none⟩,
  ⟨(some 18), .newAt 18 42 7 (.agg [(.int .i64 0), (.int .i64 0), (.int .i64 0), .e0, .e0, (.str []), (.bool false)]), none, none⟩,
  ⟨none, .store 7 (.t 18) (.t 81), none, none⟩]
def f11r26 : IC := .reg true [18] f11o26 [2, 17, 0, 18]
@[simp] theorem f11r26_run : run tbl fin K f11r26 e H = regK tbl fin K [18] f11o26 [2, 17, 0, 18] e H := run_regK _ _ _ _ _ _ _ _ _ rfl
@[simp] def f11o27 : List IOper := [
  ⟨(some 82), .mv (.t 2), none, none⟩,
  ⟨(some 83), .len (.t 82), none, none⟩,
  ⟨(some 84), .mv (.c (.int .i64 0)), none, none⟩]
def f11r27 : IC := .reg false [] f11o27 [84, 83, 17, 0, 18]
@[simp] theorem f11r27_run : run tbl fin K f11r27 e H = regK tbl fin K [] f11o27 [84, 83, 17, 0, 18] e H := run_regK _ _ _ _ _ _ _ _ _ rfl
@[simp] def f11o28 : List IOper := [
  ⟨(some 85), .bin .lss (.t 84) (.t 83), none, none⟩]
def f11r28 : IC := .reg false [] f11o28 [85, 84, 83, 17, 0, 18]
@[simp] theorem f11r28_run : run tbl fin K f11r28 e H = regK tbl fin K [] f11o28 [85, 84, 83, 17, 0, 18] e H := run_regK _ _ _ _ _ _ _ _ _ rfl
@[simp] def f11o29 : List IOper := [
  ⟨(some 86), .fld 4 (.t 18), none, none⟩,
  ⟨(some 87), .load false 1 (.t 86), none, none⟩,
  ⟨(some 88), .mkimm 1 1 (.int .i64 0) [(0, (.c (.int .i64 (-1))))], none, none⟩,
  ⟨(some 89), .app 3 1 (.t 87) (.t 88), none, none⟩,
  ⟨(some 90), .fld 4 (.t 18), none, none⟩,
  ⟨none, .store 1 (.t 90) (.t 89), none, none⟩]
def f11r29 : IC := .reg false [] f11o29 [84, 83, 17, 0, 18]
@[simp] theorem f11r29_run : run tbl fin K f11r29 e H = regK tbl fin K [] f11o29 [84, 83, 17, 0, 18] e H := run_regK _ _ _ _ _ _ _ _ _ rfl
@[simp] def f11o30 : List IOper := [
  ⟨(some 91), .bin .add (.t 84) (.c (.int .i64 1)), none, none⟩,
  ⟨(some 84), .mv (.t 91), none, none⟩]
def f11r30 : IC := .reg false [] f11o30 [84, 83, 17, 0, 18]
@[simp] theorem f11r30_run : run tbl fin K f11r30 e H = regK tbl fin K [] f11o30 [84, 83, 17, 0, 18] e H := run_regK _ _ _ _ _ _ _ _ _ rfl
def f11b31 : IC := (.seq f11r28 (.seq (.cond (.t 85) .skip (.exit 6)) (.seq (.block 7 f11r29) f11r30)))
theorem f11b31_eq : f11b31 = (.seq f11r28 (.seq (.cond (.t 85) .skip (.exit 6)) (.seq (.block 7 f11r29) f11r30))) := rfl
@[simp] def f11o32 : List IOper := [
  ⟨(some 92), .mv (.t 0), none, none⟩,
  ⟨(some 93), .call (.c (.fn 39 [])) [(.t 92)], none, none⟩,
  ⟨(some 94), .loadb true 7 (.t 18), none, none⟩,
  ⟨(some 95), .mkimm 7 1 (.agg [(.int .i64 0), (.int .i64 0), (.int .i64 0), .e0, .e0, (.str []), (.bool false)]) [(0, (.t 94))], none, none⟩,
  ⟨(some 96), .app 42 7 (.t 93) (.t 95), none, none⟩,
  ⟨(some 97), .loadb false 1 (.t 17), none, none⟩,
  ⟨(some 8), .mv (.t 96), none, none⟩,
  ⟨(some 9), .mv (.t 97), none, none⟩,
  ⟨(some 10), .mv (.c (.int .i64 0)), none, none⟩]
def f11r32 : IC := .reg true [] f11o32 [8, 9, 10]
@[simp] theorem f11r32_run : run tbl fin K f11r32 e H = regK tbl fin K [] f11o32 [8, 9, 10] e H := run_regK _ _ _ _ _ _ _ _ _ rfl
def f11body : IC := (.seq f11r0 (.seq (.seq f11r1 (.cond (.t 21) (.seq f11r2 .ret) .skip)) (.seq (.seq f11r3 (.cond (.t 30) (.seq f11r4 .ret) .skip)) (.seq (.seq f11r5 (.block 0 (.loop [33, 2, 1, 3, 32, 34, 0] f11b11))) (.seq (.seq f11r12 (.block 2 (.loop [44, 3, 1, 43, 2, 45, 0] f11b19))) (.seq (.seq f11r20 (.cond (.t 69) (.seq f11r21 .ret) .skip)) (.seq f11r22 (.seq (.block 4 (.loop [0, 2, 3, 1, 17] f11b25)) (.seq f11r26 (.seq (.seq f11r27 (.block 6 (.loop [84, 83, 17, 0, 18] f11b31))) (.seq f11r32 .ret)))))))))))
def f11 : IFn := ⟨98, 4, [.tmp 8, .tmp 9, .tmp 10], f11body⟩
/- 12: jobshell/jobshellref36.Add -/
@[simp] def f12o0 : List IOper := [
  ⟨(some 8), .nilrow 42 7, none, none⟩,
  ⟨(some 9), .mv (.c (.int .i64 0)), none, none⟩,
  ⟨(some 10), .mv (.c (.int .i64 0)), none, none⟩]
def f12r0 : IC := .reg false [] f12o0 [1, 3, 2, 0]
@[simp] theorem f12r0_run : run tbl fin K f12r0 e H = regK tbl fin K [] f12o0 [1, 3, 2, 0] e H := run_regK _ _ _ _ _ _ _ _ _ rfl
@[simp] def f12o1 : List IOper := [
  ⟨(some 16), .mv (.t 0), none, none⟩,
  ⟨(some 17), .len (.t 16), none, none⟩,
  ⟨(some 18), .bin .geq (.t 17) (.c (.int .i64 32)), none, none⟩]
def f12r1 : IC := .reg false [] f12o1 [18, 1, 3, 2, 0]
@[simp] theorem f12r1_run : run tbl fin K f12r1 e H = regK tbl fin K [] f12o1 [18, 1, 3, 2, 0] e H := run_regK _ _ _ _ _ _ _ _ _ rfl
@[simp] def f12o2 : List IOper := [
  ⟨(some 19), .mv (.t 0), none, none⟩,
  ⟨(some 8), .mv (.t 19), none, none⟩,
  ⟨(some 9), .mv (.c (.int .i64 0)), none, none⟩,
  ⟨(some 10), .mv (.c (.int .i64 4)), none, none⟩]
def f12r2 : IC := .reg false [] f12o2 [8, 9, 10]
@[simp] theorem f12r2_run : run tbl fin K f12r2 e H = regK tbl fin K [] f12o2 [8, 9, 10] e H := run_regK _ _ _ _ _ _ _ _ _ rfl
@[simp] def f12o3 : List IOper := [
  ⟨(some 20), .mv (.t 1), none, none⟩,
  ⟨(some 21), .call (.c (.fn 40 [])) [(.t 20)], none, none⟩,
  ⟨(some 22), .un .not (.t 21), none, none⟩,
  ⟨(some 23), .mv (.t 22), none, none⟩,
  ⟨(some 24), .mv (.t 2), (some (23, false)), none⟩,
  ⟨(some 25), .len (.t 24), (some (23, false)), none⟩,
  ⟨(some 26), .bin .eql (.t 25) (.c (.int .i64 0)), (some (23, false)), none⟩,
  ⟨(some 27), .pick (.t 23) (.c (.bool true)) (.t 26), none, none⟩]
def f12r3 : IC := .reg false [] f12o3 [27, 2, 3, 1, 0]
@[simp] theorem f12r3_run : run tbl fin K f12r3 e H = regK tbl fin K [] f12o3 [27, 2, 3, 1, 0] e H := run_regK _ _ _ _ _ _ _ _ _ rfl
@[simp] def f12o4 : List IOper := [
  ⟨(some 28), .mv (.t 0), none, none⟩,
  ⟨(some 8), .mv (.t 28), none, none⟩,
  ⟨(some 9), .mv (.c (.int .i64 0)), none, none⟩,
  ⟨(some 10), .mv (.c (.int .i64 1)), none, none⟩]
def f12r4 : IC := .reg false [] f12o4 [8, 9, 10]
@[simp] theorem f12r4_run : run tbl fin K f12r4 e H = regK tbl fin K [] f12o4 [8, 9, 10] e H := run_regK _ _ _ _ _ _ _ _ _ rfl
@[simp] def f12o5 : List IOper := [
  ⟨(some 11), .mv (.c (.int .i64 0)), none, none⟩]
def f12r5 : IC := .reg false [] f12o5 [1, 3, 2, 11, 0]
@[simp] theorem f12r5_run : run tbl fin K f12r5 e H = regK tbl fin K [] f12o5 [1, 3, 2, 11, 0] e H := run_regK _ _ _ _ _ _ _ _ _ rfl
@[simp] def f12o6 : List IOper := [
  ⟨(some 29), .mv (.t 11), none, none⟩,
  ⟨(some 30), .mv (.t 2), none, none⟩,
  ⟨(some 31), .len (.t 30), none, none⟩,
  ⟨(some 32), .bin .lss (.t 29) (.t 31), none, none⟩]
def f12r6 : IC := .reg false [] f12o6 [32, 2, 3, 1, 11, 0]
@[simp] theorem f12r6_run : run tbl fin K f12r6 e H = regK tbl fin K [] f12o6 [32, 2, 3, 1, 11, 0] e H := run_regK _ _ _ _ _ _ _ _ _ rfl
@[simp] def f12o7 : List IOper := [
  ⟨(some 35), .mv (.t 2), none, none⟩,
  ⟨(some 36), .mv (.t 11), none, none⟩,
  ⟨(some 37), .idx 1 (.t 35) (.t 36), none, none⟩,
  ⟨(some 38), .load false 1 (.t 37), none, none⟩,
  ⟨(some 39), .call (.c (.fn 40 [])) [(.t 38)], none, none⟩,
  ⟨(some 40), .un .not (.t 39), none, none⟩]
def f12r7 : IC := .reg false [] f12o7 [40, 2, 3, 1, 11, 0]
@[simp] theorem f12r7_run : run tbl fin K f12r7 e H = regK tbl fin K [] f12o7 [40, 2, 3, 1, 11, 0] e H := run_regK _ _ _ _ _ _ _ _ _ rfl
@[simp] def f12o8 : List IOper := [
  ⟨(some 41), .mv (.t 0), none, none⟩,
  ⟨(some 8), .mv (.t 41), none, none⟩,
  ⟨(some 9), .mv (.c (.int .i64 0)), none, none⟩,
  ⟨(some 10), .mv (.c (.int .i64 1)), none, none⟩]
def f12r8 : IC := .reg false [] f12o8 [8, 9, 10]
@[simp] theorem f12r8_run : run tbl fin K f12r8 e H = regK tbl fin K [] f12o8 [8, 9, 10] e H := run_regK _ _ _ _ _ _ _ _ _ rfl
@[simp] def f12o9 : List IOper := [
  ⟨(some 33), .mv (.t 11), none, none⟩,
  ⟨(some 34), .bin .add (.t 33) (.c (.int .i64 1)), none, none⟩,
  ⟨(some 11), .mv (.t 34), none, none⟩]
def f12r9 : IC := .reg false [] f12o9 [1, 3, 2, 11, 0]
@[simp] theorem f12r9_run : run tbl fin K f12r9 e H = regK tbl fin K [] f12o9 [1, 3, 2, 11, 0] e H := run_regK _ _ _ _ _ _ _ _ _ rfl
def f12b10 : IC := (.seq (.seq f12r6 (.cond (.t 32) .skip (.exit 0))) (.seq (.block 1 (.seq f12r7 (.cond (.t 40) (.seq f12r8 .ret) .skip))) f12r9))
theorem f12b10_eq : f12b10 = (.seq (.seq f12r6 (.cond (.t 32) .skip (.exit 0))) (.seq (.block 1 (.seq f12r7 (.cond (.t 40) (.seq f12r8 .ret) .skip))) f12r9)) := rfl
@[simp] def f12o11 : List IOper := [
  ⟨(some 12), .nilrow 3 1, none, none⟩]
def f12r11 : IC := .reg false [] f12o11 [3, 1, 2, 12, 0]
@[simp] theorem f12r11_run : run tbl fin K f12r11 e H = regK tbl fin K [] f12o11 [3, 1, 2, 12, 0] e H := run_regK _ _ _ _ _ _ _ _ _ rfl
@[simp] def f12o12 : List IOper := [
  ⟨(some 13), .mv (.c (.int .i64 0)), none, none⟩]
def f12r12 : IC := .reg false [] f12o12 [3, 1, 2, 13, 12, 0]
@[simp] theorem f12r12_run : run tbl fin K f12r12 e H = regK tbl fin K [] f12o12 [3, 1, 2, 13, 12, 0] e H := run_regK _ _ _ _ _ _ _ _ _ rfl
@[simp] def f12o13 : List IOper := [
  ⟨(some 42), .mv (.t 13), none, none⟩,
  ⟨(some 43), .mv (.t 2), none, none⟩,
  ⟨(some 44), .len (.t 43), none, none⟩,
  ⟨(some 45), .bin .lss (.t 42) (.t 44), none, none⟩]
def f12r13 : IC := .reg false [] f12o13 [45, 2, 1, 3, 13, 12, 0]
@[simp] theorem f12r13_run : run tbl fin K f12r13 e H = regK tbl fin K [] f12o13 [45, 2, 1, 3, 13, 12, 0] e H := run_regK _ _ _ _ _ _ _ _ _ rfl
@[simp] def f12o14 : List IOper := [
  ⟨(some 48), .mv (.t 2), none, none⟩,
  ⟨(some 49), .mv (.t 13), none, none⟩,
  ⟨(some 50), .slc 1 (.t 48) none (some (.t 49)), none, none⟩,
  ⟨(some 51), .mv (.t 2), none, none⟩,
  ⟨(some 52), .mv (.t 13), none, none⟩,
  ⟨(some 53), .idx 1 (.t 51) (.t 52), none, none⟩,
  ⟨(some 54), .load false 1 (.t 53), none, none⟩,
  ⟨(some 55), .call (.c (.fn 41 [])) [(.t 50), (.t 54)], none, none⟩,
  ⟨(some 56), .mv (.t 55), none, none⟩,
  ⟨(some 57), .mv (.t 0), (some (56, false)), none⟩,
  ⟨(some 58), .mv (.t 2), (some (56, false)), none⟩,
  ⟨(some 59), .mv (.t 13), (some (56, false)), none⟩,
  ⟨(some 60), .idx 1 (.t 58) (.t 59), (some (56, false)), none⟩,
  ⟨(some 61), .load false 1 (.t 60), (some (56, false)), none⟩,
  ⟨(some 62), .call (.c (.fn 42 [])) [(.t 57), (.t 61)], (some (56, false)), none⟩,
  ⟨(some 63), .pick (.t 56) (.c (.bool true)) (.t 62), none, none⟩]
def f12r14 : IC := .reg true [] f12o14 [63, 2, 1, 3, 13, 12, 0]
@[simp] theorem f12r14_run : run tbl fin K f12r14 e H = regK tbl fin K [] f12o14 [63, 2, 1, 3, 13, 12, 0] e H := run_regK _ _ _ _ _ _ _ _ _ rfl
@[simp] def f12o15 : List IOper := [
  ⟨(some 64), .mv (.t 0), none, none⟩,
  ⟨(some 8), .mv (.t 64), none, none⟩,
  ⟨(some 9), .mv (.c (.int .i64 0)), none, none⟩,
  ⟨(some 10), .mv (.c (.int .i64 9)), none, none⟩]
def f12r15 : IC := .reg false [] f12o15 [8, 9, 10]
@[simp] theorem f12r15_run : run tbl fin K f12r15 e H = regK tbl fin K [] f12o15 [8, 9, 10] e H := run_regK _ _ _ _ _ _ _ _ _ rfl
@[simp] def f12o16 : List IOper := [
  ⟨(some 65), .mv (.t 12), none, none⟩,
  ⟨(some 66), .mkimm 1 1 (.int .i64 0) [(0, (.c (.int .i64 (-1))))], none, none⟩,
  ⟨(some 67), .app 3 1 (.t 65) (.t 66), none, none⟩,
  ⟨(some 12), .mv (.t 67), none, none⟩]
def f12r16 : IC := .reg false [] f12o16 [13, 3, 1, 2, 12, 0]
@[simp] theorem f12r16_run : run tbl fin K f12r16 e H = regK tbl fin K [] f12o16 [13, 3, 1, 2, 12, 0] e H := run_regK _ _ _ _ _ _ _ _ _ rfl
@[simp] def f12o17 : List IOper := [
  ⟨(some 46), .mv (.t 13), none, none⟩,
  ⟨(some 47), .bin .add (.t 46) (.c (.int .i64 1)), none, none⟩,
  ⟨(some 13), .mv (.t 47), none, none⟩]
def f12r17 : IC := .reg false [] f12o17 [3, 1, 2, 13, 12, 0]
@[simp] theorem f12r17_run : run tbl fin K f12r17 e H = regK tbl fin K [] f12o17 [3, 1, 2, 13, 12, 0] e H := run_regK _ _ _ _ _ _ _ _ _ rfl
def f12b18 : IC := (.seq (.seq f12r13 (.cond (.t 45) .skip (.exit 2))) (.seq (.block 3 (.seq (.seq f12r14 (.cond (.t 63) (.seq f12r15 .ret) .skip)) f12r16)) f12r17))
theorem f12b18_eq : f12b18 = (.seq (.seq f12r13 (.cond (.t 45) .skip (.exit 2))) (.seq (.block 3 (.seq (.seq f12r14 (.cond (.t 63) (.seq f12r15 .ret) .skip)) f12r16)) f12r17)) := rfl
@[simp] def f12o19 : List IOper := [
  ⟨(some 68), .mv (.t 3), none, none⟩,
  ⟨(some 69), .slen (.t 68), none, none⟩,
  ⟨(some 70), .bin .gtr (.t 69) (.c (.int .i64 4096)), none, none⟩]
def f12r19 : IC := .reg false [] f12o19 [70, 1, 2, 12, 3, 0]
@[simp] theorem f12r19_run : run tbl fin K f12r19 e H = regK tbl fin K [] f12o19 [70, 1, 2, 12, 3, 0] e H := run_regK _ _ _ _ _ _ _ _ _ rfl
@[simp] def f12o20 : List IOper := [
  ⟨(some 71), .mv (.t 0), none, none⟩,
  ⟨(some 8), .mv (.t 71), none, none⟩,
  ⟨(some 9), .mv (.c (.int .i64 0)), none, none⟩,
  ⟨(some 10), .mv (.c (.int .i64 3)), none, none⟩]
def f12r20 : IC := .reg false [] f12o20 [8, 9, 10]
@[simp] theorem f12r20_run : run tbl fin K f12r20 e H = regK tbl fin K [] f12o20 [8, 9, 10] e H := run_regK _ _ _ _ _ _ _ _ _ rfl
@[simp] def f12o21 : List IOper := [
  ⟨(some 14), .mv (.c (.int .i64 1)), none, none⟩]
def f12r21 : IC := .reg false [] f12o21 [14, 0, 3, 12, 2, 1]
@[simp] theorem f12r21_run : run tbl fin K f12r21 e H = regK tbl fin K [] f12o21 [14, 0, 3, 12, 2, 1] e H := run_regK _ _ _ _ _ _ _ _ _ rfl
@[simp] def f12o22 : List IOper := [
  ⟨(some 72), .mv (.t 0), none, none⟩,
  ⟨(some 73), .mv (.t 14), none, none⟩,
  ⟨(some 74), .call (.c (.fn 43 [])) [(.t 72), (.t 73)], none, none⟩,
  ⟨(some 75), .bin .geq (.t 74) (.c (.int .i64 0)), none, none⟩]
def f12r22 : IC := .reg false [] f12o22 [75, 14, 0, 3, 12, 2, 1]
@[simp] theorem f12r22_run : run tbl fin K f12r22 e H = regK tbl fin K [] f12o22 [75, 14, 0, 3, 12, 2, 1] e H := run_regK _ _ _ _ _ _ _ _ _ rfl
@[simp] def f12o23 : List IOper := [
  ⟨(some 76), .mv (.t 14), none, none⟩,
  ⟨(some 77), .bin .add (.t 76) (.c (.int .i64 1)), none, none⟩,
  ⟨(some 14), .mv (.t 77), none, none⟩]
def f12r23 : IC := .reg false [] f12o23 [14, 0, 3, 12, 2, 1]
@[simp] theorem f12r23_run : run tbl fin K f12r23 e H = regK tbl fin K [] f12o23 [14, 0, 3, 12, 2, 1] e H := run_regK _ _ _ _ _ _ _ _ _ rfl
def f12b24 : IC := (.seq (.seq f12r22 (.cond (.t 75) .skip (.exit 4))) (.block 5 f12r23))
theorem f12b24_eq : f12b24 = (.seq (.seq f12r22 (.cond (.t 75) .skip (.exit 4))) (.block 5 f12r23)) := rfl
@[simp] def f12o25 : List IOper := [
  ⟨(some 78), .mv (.t 14), none, none⟩,
  ⟨(some 79), .mv (.t 1), none, none⟩,
  ⟨(some 80), .mv (.t 2), none, none⟩,
  ⟨(some 81), .mv (.t 12), none, none⟩,
  ⟨(some 82), .mv (.t 3), none, none⟩,
  ⟨(some 83), .build [(.int .i64 0), (.int .i64 0), (.int .i64 0), .e0, .e0, (.str []), (.bool false)] [(0, 1, (.t 78)), (1, 1, (.t 79)), (2, 1, (.c (.int .i64 1))), (3, 1, (.t 80)), (4, 1, (.t 81)), (5, 1, (.t 82)), (6, 1, (.c (.bool true)))], none, none⟩,
  ⟨(some 15), .new 42 7 (.agg [(.int .i64 0), (.int .i64 0), (.int .i64 0), .e0, .e0, (.str []), (.bool false)]), none, none⟩,
  ⟨none, .store 7 (.t 15) (.t 83), none, none⟩]
def f12r25 : IC := .reg false [] f12o25 [0, 15, 14]
@[simp] theorem f12r25_run : run tbl fin K f12r25 e H = regK tbl fin K [] f12o25 [0, 15, 14] e H := run_regK _ _ _ _ _ _ _ _ _ rfl
@[simp] def f12o26 : List IOper := [
  ⟨(some 84), .mv (.t 0), none, none⟩,
  ⟨(some 85), .call (.c (.fn 44 [])) [(.t 84)], none, none⟩,
  ⟨(some 86), .load true 7 (.t 15), none, none⟩,
  ⟨(some 87), .mkimm 7 1 (.agg [(.int .i64 0), (.int .i64 0), (.int .i64 0), .e0, .e0, (.str []), (.bool false)]) [(0, (.t 86))], none, none⟩,
  ⟨(some 88), .app 42 7 (.t 85) (.t 87), none, none⟩,
  ⟨(some 89), .mv (.t 14), none, none⟩,
  ⟨(some 8), .mv (.t 88), none, none⟩,
  ⟨(some 9), .mv (.t 89), none, none⟩,
  ⟨(some 10), .mv (.c (.int .i64 0)), none, none⟩]
def f12r26 : IC := .reg true [] f12o26 [8, 9, 10]
@[simp] theorem f12r26_run : run tbl fin K f12r26 e H = regK tbl fin K [] f12o26 [8, 9, 10] e H := run_regK _ _ _ _ _ _ _ _ _ rfl
def f12body : IC := (.seq f12r0 (.seq (.seq f12r1 (.cond (.t 18) (.seq f12r2 .ret) .skip)) (.seq (.seq f12r3 (.cond (.t 27) (.seq f12r4 .ret) .skip)) (.seq (.seq f12r5 (.block 0 (.loop [1, 3, 2, 11, 0] f12b10))) (.seq f12r11 (.seq (.seq f12r12 (.block 2 (.loop [3, 1, 2, 13, 12, 0] f12b18))) (.seq (.seq f12r19 (.cond (.t 70) (.seq f12r20 .ret) .skip)) (.seq f12r21 (.seq (.block 4 (.loop [14, 0, 3, 12, 2, 1] f12b24)) (.seq f12r25 (.seq f12r26 .ret)))))))))))
def f12 : IFn := ⟨90, 4, [.tmp 8, .tmp 9, .tmp 10], f12body⟩
/- 13: jobshell/jobshellref36.Same -/
@[simp] def f13o0 : List IOper := [
  ⟨(some 4), .mv (.c (.bool false)), none, none⟩]
def f13r0 : IC := .reg false [] f13o0 [1, 0]
@[simp] theorem f13r0_run : run tbl fin K f13r0 e H = regK tbl fin K [] f13o0 [1, 0] e H := run_regK _ _ _ _ _ _ _ _ _ rfl
@[simp] def f13o1 : List IOper := [
  ⟨(some 6), .mv (.t 0), none, none⟩,
  ⟨(some 7), .len (.t 6), none, none⟩,
  ⟨(some 8), .mv (.t 1), none, none⟩,
  ⟨(some 9), .len (.t 8), none, none⟩,
  ⟨(some 10), .bin .neq (.t 7) (.t 9), none, none⟩]
def f13r1 : IC := .reg false [] f13o1 [10, 1, 0]
@[simp] theorem f13r1_run : run tbl fin K f13r1 e H = regK tbl fin K [] f13o1 [10, 1, 0] e H := run_regK _ _ _ _ _ _ _ _ _ rfl
@[simp] def f13o2 : List IOper := [
  ⟨(some 4), .mv (.c (.bool false)), none, none⟩]
def f13r2 : IC := .reg false [] f13o2 [4]
@[simp] theorem f13r2_run : run tbl fin K f13r2 e H = regK tbl fin K [] f13o2 [4] e H := run_regK _ _ _ _ _ _ _ _ _ rfl
@[simp] def f13o3 : List IOper := [
  ⟨(some 5), .mv (.c (.int .i64 0)), none, none⟩]
def f13r3 : IC := .reg false [] f13o3 [0, 1, 5]
@[simp] theorem f13r3_run : run tbl fin K f13r3 e H = regK tbl fin K [] f13o3 [0, 1, 5] e H := run_regK _ _ _ _ _ _ _ _ _ rfl
@[simp] def f13o4 : List IOper := [
  ⟨(some 11), .mv (.t 5), none, none⟩,
  ⟨(some 12), .mv (.t 0), none, none⟩,
  ⟨(some 13), .len (.t 12), none, none⟩,
  ⟨(some 14), .bin .lss (.t 11) (.t 13), none, none⟩]
def f13r4 : IC := .reg false [] f13o4 [14, 1, 0, 5]
@[simp] theorem f13r4_run : run tbl fin K f13r4 e H = regK tbl fin K [] f13o4 [14, 1, 0, 5] e H := run_regK _ _ _ _ _ _ _ _ _ rfl
@[simp] def f13o5 : List IOper := [
  ⟨(some 17), .mv (.t 0), none, none⟩,
  ⟨(some 18), .mv (.t 5), none, none⟩,
  ⟨(some 19), .idx 7 (.t 17) (.t 18), none, none⟩,
  ⟨(some 20), .load true 7 (.t 19), none, none⟩,
  ⟨(some 21), .mv (.t 1), none, none⟩,
  ⟨(some 22), .mv (.t 5), none, none⟩,
  ⟨(some 23), .idx 7 (.t 21) (.t 22), none, none⟩,
  ⟨(some 24), .load true 7 (.t 23), none, none⟩,
  ⟨(some 25), .call (.c (.fn 45 [])) [(.t 20), (.t 24)], none, none⟩,
  ⟨(some 26), .un .not (.t 25), none, none⟩]
def f13r5 : IC := .reg true [] f13o5 [26, 1, 0, 5]
@[simp] theorem f13r5_run : run tbl fin K f13r5 e H = regK tbl fin K [] f13o5 [26, 1, 0, 5] e H := run_regK _ _ _ _ _ _ _ _ _ rfl
@[simp] def f13o6 : List IOper := [
  ⟨(some 4), .mv (.c (.bool false)), none, none⟩]
def f13r6 : IC := .reg false [] f13o6 [4]
@[simp] theorem f13r6_run : run tbl fin K f13r6 e H = regK tbl fin K [] f13o6 [4] e H := run_regK _ _ _ _ _ _ _ _ _ rfl
@[simp] def f13o7 : List IOper := [
  ⟨(some 15), .mv (.t 5), none, none⟩,
  ⟨(some 16), .bin .add (.t 15) (.c (.int .i64 1)), none, none⟩,
  ⟨(some 5), .mv (.t 16), none, none⟩]
def f13r7 : IC := .reg false [] f13o7 [0, 1, 5]
@[simp] theorem f13r7_run : run tbl fin K f13r7 e H = regK tbl fin K [] f13o7 [0, 1, 5] e H := run_regK _ _ _ _ _ _ _ _ _ rfl
def f13b8 : IC := (.seq (.seq f13r4 (.cond (.t 14) .skip (.exit 0))) (.seq (.block 1 (.seq f13r5 (.cond (.t 26) (.seq f13r6 .ret) .skip))) f13r7))
theorem f13b8_eq : f13b8 = (.seq (.seq f13r4 (.cond (.t 14) .skip (.exit 0))) (.seq (.block 1 (.seq f13r5 (.cond (.t 26) (.seq f13r6 .ret) .skip))) f13r7)) := rfl
@[simp] def f13o9 : List IOper := [
  ⟨(some 4), .mv (.c (.bool true)), none, none⟩]
def f13r9 : IC := .reg false [] f13o9 [4]
@[simp] theorem f13r9_run : run tbl fin K f13r9 e H = regK tbl fin K [] f13o9 [4] e H := run_regK _ _ _ _ _ _ _ _ _ rfl
def f13body : IC := (.seq f13r0 (.seq (.seq f13r1 (.cond (.t 10) (.seq f13r2 .ret) .skip)) (.seq (.seq f13r3 (.block 0 (.loop [0, 1, 5] f13b8))) (.seq f13r9 .ret))))
def f13 : IFn := ⟨27, 2, [.tmp 4], f13body⟩
/- 14: jobshell/jobs.Find -/
@[simp] def f14o0 : List IOper := [
  ⟨(some 4), .mv (.c (.int .i64 0)), none, none⟩,
  ⟨(some 5), .mv (.c (.int .i64 0)), none, none⟩]
def f14r0 : IC := .reg false [] f14o0 [1, 0]
@[simp] theorem f14r0_run : run tbl fin K f14r0 e H = regK tbl fin K [] f14o0 [1, 0] e H := run_regK _ _ _ _ _ _ _ _ _ rfl
@[simp] def f14o1 : List IOper := [
  ⟨(some 15), .mv (.t 1), none, none⟩,
  ⟨(some 16), .call (.c (.fn 46 [])) [(.t 15), (.c (.str [37]))], none, none⟩,
  ⟨(some 14), .mv (.t 16), none, none⟩,
  ⟨(some 17), .ext (.t 14) 0, none, none⟩,
  ⟨(some 18), .ext (.t 14) 1, none, none⟩,
  ⟨(some 6), .new 9 1 (.str []), none, none⟩,
  ⟨none, .store 1 (.t 6) (.t 17), none, none⟩,
  ⟨(some 7), .mv (.t 18), none, none⟩]
def f14r1 : IC := .reg false [] f14o1 [7, 6, 0]
@[simp] theorem f14r1_run : run tbl fin K f14r1 e H = regK tbl fin K [] f14o1 [7, 6, 0] e H := run_regK _ _ _ _ _ _ _ _ _ rfl
@[simp] def f14o2 : List IOper := [
  ⟨(some 19), .mv (.t 7), none, none⟩,
  ⟨(some 20), .un .not (.t 19), none, none⟩,
  ⟨(some 21), .mv (.t 20), none, none⟩,
  ⟨(some 22), .load false 1 (.t 6), (some (21, false)), none⟩,
  ⟨(some 23), .bin .eql (.t 22) (.c (.str [63])), (some (21, false)), none⟩,
  ⟨(some 24), .pick (.t 21) (.c (.bool true)) (.t 23), none, none⟩]
def f14r2 : IC := .reg false [] f14o2 [24, 6, 0]
@[simp] theorem f14r2_run : run tbl fin K f14r2 e H = regK tbl fin K [] f14o2 [24, 6, 0] e H := run_regK _ _ _ _ _ _ _ _ _ rfl
@[simp] def f14o3 : List IOper := [
  ⟨(some 4), .mv (.c (.int .i64 0)), none, none⟩,
  ⟨(some 5), .mv (.c (.int .i64 6)), none, none⟩]
def f14r3 : IC := .reg false [] f14o3 [4, 5]
@[simp] theorem f14r3_run : run tbl fin K f14r3 e H = regK tbl fin K [] f14o3 [4, 5] e H := run_regK _ _ _ _ _ _ _ _ _ rfl
@[simp] def f14o4 : List IOper := [
  ⟨(some 26), .mv (.t 0), none, none⟩,
  ⟨(some 27), .call (.c (.fn 16 [])) [(.t 26)], none, none⟩,
  ⟨(some 25), .mv (.t 27), none, none⟩,
  ⟨(some 28), .ext (.t 25) 0, none, none⟩,
  ⟨(some 29), .ext (.t 25) 1, none, none⟩,
  ⟨(some 8), .mv (.t 28), none, none⟩,
  ⟨(some 9), .mv (.t 29), none, none⟩]
def f14r4 : IC := .reg false [] f14o4 [9, 0, 6, 8]
@[simp] theorem f14r4_run : run tbl fin K f14r4 e H = regK tbl fin K [] f14o4 [9, 0, 6, 8] e H := run_regK _ _ _ _ _ _ _ _ _ rfl
@[simp] def f14o5 : List IOper := [
  ⟨(some 31), .load false 1 (.t 6), none, none⟩,
  ⟨(some 32), .bin .eql (.t 31) (.c (.str [])), none, none⟩,
  ⟨(some 33), .mv (.t 32), none, none⟩,
  ⟨(some 34), .load false 1 (.t 6), (some (33, false)), none⟩,
  ⟨(some 35), .bin .eql (.t 34) (.c (.str [37])), (some (33, false)), none⟩,
  ⟨(some 36), .pick (.t 33) (.c (.bool true)) (.t 35), none, none⟩,
  ⟨(some 37), .mv (.t 36), none, none⟩,
  ⟨(some 38), .load false 1 (.t 6), (some (37, false)), none⟩,
  ⟨(some 39), .bin .eql (.t 38) (.c (.str [43])), (some (37, false)), none⟩,
  ⟨(some 40), .pick (.t 37) (.c (.bool true)) (.t 39), none, none⟩,
  ⟨(some 30), .mv (.t 40), none, none⟩]
def f14r5 : IC := .reg false [] f14o5 [30, 9, 0, 6, 8]
@[simp] theorem f14r5_run : run tbl fin K f14r5 e H = regK tbl fin K [] f14o5 [30, 9, 0, 6, 8] e H := run_regK _ _ _ _ _ _ _ _ _ rfl
@[simp] def f14o6 : List IOper := [
  ⟨(some 41), .mv (.t 8), none, none⟩,
  ⟨(some 42), .call (.c (.fn 47 [])) [(.t 41)], none, none⟩,
  ⟨(some 43), .ext (.t 42) 0, none, none⟩,
  ⟨(some 44), .ext (.t 42) 1, none, none⟩,
  ⟨(some 4), .mv (.t 43), none, none⟩,
  ⟨(some 5), .mv (.t 44), none, none⟩]
def f14r6 : IC := .reg false [] f14o6 [4, 5]
@[simp] theorem f14r6_run : run tbl fin K f14r6 e H = regK tbl fin K [] f14o6 [4, 5] e H := run_regK _ _ _ _ _ _ _ _ _ rfl
@[simp] def f14o7 : List IOper := [
  ⟨(some 46), .load false 1 (.t 6), none, none⟩,
  ⟨(some 47), .bin .eql (.t 46) (.c (.str [45])), none, none⟩,
  ⟨(some 45), .mv (.t 47), none, none⟩]
def f14r7 : IC := .reg false [] f14o7 [45, 6, 0, 9]
@[simp] theorem f14r7_run : run tbl fin K f14r7 e H = regK tbl fin K [] f14o7 [45, 6, 0, 9] e H := run_regK _ _ _ _ _ _ _ _ _ rfl
@[simp] def f14o8 : List IOper := [
  ⟨(some 48), .mv (.t 9), none, none⟩,
  ⟨(some 49), .call (.c (.fn 47 [])) [(.t 48)], none, none⟩,
  ⟨(some 50), .ext (.t 49) 0, none, none⟩,
  ⟨(some 51), .ext (.t 49) 1, none, none⟩,
  ⟨(some 4), .mv (.t 50), none, none⟩,
  ⟨(some 5), .mv (.t 51), none, none⟩]
def f14r8 : IC := .reg false [] f14o8 [4, 5]
@[simp] theorem f14r8_run : run tbl fin K f14r8 e H = regK tbl fin K [] f14o8 [4, 5] e H := run_regK _ _ _ _ _ _ _ _ _ rfl
@[simp] def f14o9 : List IOper := [
  ⟨(some 53), .load false 1 (.t 6), none, none⟩,
  ⟨(some 54), .call (.c (.fn 48 [])) [(.t 53)], none, none⟩,
  ⟨(some 52), .mv (.t 54), none, none⟩]
def f14r9 : IC := .reg false [] f14o9 [52, 0, 6]
@[simp] theorem f14r9_run : run tbl fin K f14r9 e H = regK tbl fin K [] f14o9 [52, 0, 6] e H := run_regK _ _ _ _ _ _ _ _ _ rfl
@[simp] def f14o10 : List IOper := [
  ⟨(some 55), .mv (.t 0), none, none⟩,
  ⟨(some 56), .mkfn 50 [(.t 6)], none, none⟩,
  ⟨(some 57), .ocall (.c (.fn 49 [])) [(.t 55), (.t 56)], none, none⟩,
  ⟨(some 58), .call (.c (.fn 47 [])) [(.t 57)], none, none⟩,
  ⟨(some 59), .ext (.t 58) 0, none, none⟩,
  ⟨(some 60), .ext (.t 58) 1, none, none⟩,
  ⟨(some 4), .mv (.t 59), none, none⟩,
  ⟨(some 5), .mv (.t 60), none, none⟩]
def f14r10 : IC := .reg false [] f14o10 [4, 5]
@[simp] theorem f14r10_run : run tbl fin K f14r10 e H = regK tbl fin K [] f14o10 [4, 5] e H := run_regK _ _ _ _ _ _ _ _ _ rfl
@[simp] def f14o11 : List IOper := [
  ⟨(some 10), .mv (.c (.fn 51 [])), none, none⟩]
def f14r11 : IC := .reg false [] f14o11 [10, 0, 6]
@[simp] theorem f14r11_run : run tbl fin K f14r11 e H = regK tbl fin K [] f14o11 [10, 0, 6] e H := run_regK _ _ _ _ _ _ _ _ _ rfl
@[simp] def f14o12 : List IOper := [
  ⟨(some 61), .load false 1 (.t 6), none, none⟩,
  ⟨(some 62), .sidx (.t 61) (.c (.int .i64 0)), none, none⟩,
  ⟨(some 63), .bin .eql (.t 62) (.c (.int .u8 63)), none, none⟩]
def f14r12 : IC := .reg false [] f14o12 [63, 10, 0, 6]
@[simp] theorem f14r12_run : run tbl fin K f14r12 e H = regK tbl fin K [] f14o12 [63, 10, 0, 6] e H := run_regK _ _ _ _ _ _ _ _ _ rfl
@[simp] def f14o13 : List IOper := [
  ⟨(some 64), .load false 1 (.t 6), none, none⟩,
  ⟨(some 65), .sls (.t 64) (some (.c (.int .i64 1))) none, none, none⟩,
  ⟨none, .store 1 (.t 6) (.t 65), none, none⟩,
  ⟨(some 10), .mv (.c (.fn 52 [])), none, none⟩]
def f14r13 : IC := .reg false [] f14o13 [0, 10, 6]
@[simp] theorem f14r13_run : run tbl fin K f14r13 e H = regK tbl fin K [] f14o13 [0, 10, 6] e H := run_regK _ _ _ _ _ _ _ _ _ rfl
@[simp] def f14o14 : List IOper := [
  ⟨(some 11), .mv (.c (.int .i64 (-1))), none, none⟩]
def f14r14 : IC := .reg false [] f14o14 [0, 10, 6, 11]
@[simp] theorem f14r14_run : run tbl fin K f14r14 e H = regK tbl fin K [] f14o14 [0, 10, 6, 11] e H := run_regK _ _ _ _ _ _ _ _ _ rfl
@[simp] def f14o15 : List IOper := [
  ⟨(some 66), .mv (.t 0), none, none⟩,
  ⟨(some 67), .len (.t 66), none, none⟩,
  ⟨(some 68), .mv (.c (.int .i64 0)), none, none⟩]
def f14r15 : IC := .reg false [] f14o15 [68, 67, 66, 10, 6, 11]
@[simp] theorem f14r15_run : run tbl fin K f14r15 e H = regK tbl fin K [] f14o15 [68, 67, 66, 10, 6, 11] e H := run_regK _ _ _ _ _ _ _ _ _ rfl
@[simp] def f14o16 : List IOper := [
  ⟨(some 69), .bin .lss (.t 68) (.t 67), none, none⟩]
def f14r16 : IC := .reg false [] f14o16 [69, 68, 67, 66, 10, 6, 11]
@[simp] theorem f14r16_run : run tbl fin K f14r16 e H = regK tbl fin K [] f14o16 [69, 68, 67, 66, 10, 6, 11] e H := run_regK _ _ _ _ _ _ _ _ _ rfl
@[simp] def f14o17 : List IOper := [
  ⟨(some 70), .mv (.t 68), none, none⟩,
  ⟨(some 71), .idx 7 (.t 66) (.t 68), none, none⟩,
  ⟨(some 72), .load true 7 (.t 71), none, none⟩,
  ⟨(some 13), .new 42 7 (.agg [(.int .i64 0), (.int .i64 0), (.int .i64 0), .e0, .e0, (.str []), (.bool false)]), none, none⟩,
  ⟨(some 12), .mv (.t 70), none, none⟩,
  ⟨none, .store 7 (.t 13) (.t 72), none, none⟩]
def f14r17 : IC := .reg false [] f14o17 [13, 12, 68, 67, 66, 10, 6, 11]
@[simp] theorem f14r17_run : run tbl fin K f14r17 e H = regK tbl fin K [] f14o17 [13, 12, 68, 67, 66, 10, 6, 11] e H := run_regK _ _ _ _ _ _ _ _ _ rfl
@[simp] def f14o18 : List IOper := [
  ⟨(some 73), .mv (.t 10), none, none⟩,
  ⟨(some 74), .fld 5 (.t 13), none, none⟩,
  ⟨(some 75), .load false 1 (.t 74), none, none⟩,
  ⟨(some 76), .load false 1 (.t 6), none, none⟩,
  ⟨(some 77), .ocall (.t 73) [(.t 75), (.t 76)], none, none⟩,
  ⟨(some 78), .un .not (.t 77), none, none⟩]
def f14r18 : IC := .reg false [] f14o18 [78, 12, 68, 67, 66, 10, 6, 11]
@[simp] theorem f14r18_run : run tbl fin K f14r18 e H = regK tbl fin K [] f14o18 [78, 12, 68, 67, 66, 10, 6, 11] e H := run_regK _ _ _ _ _ _ _ _ _ rfl
@[simp] def f14o19 : List IOper := [
  ⟨(some 79), .mv (.t 11), none, none⟩,
  ⟨(some 80), .bin .geq (.t 79) (.c (.int .i64 0)), none, none⟩]
def f14r19 : IC := .reg false [] f14o19 [80, 6, 10, 66, 67, 68, 12]
@[simp] theorem f14r19_run : run tbl fin K f14r19 e H = regK tbl fin K [] f14o19 [80, 6, 10, 66, 67, 68, 12] e H := run_regK _ _ _ _ _ _ _ _ _ rfl
@[simp] def f14o20 : List IOper := [
  ⟨(some 4), .mv (.c (.int .i64 0)), none, none⟩,
  ⟨(some 5), .mv (.c (.int .i64 26)), none, none⟩]
def f14r20 : IC := .reg false [] f14o20 [4, 5]
@[simp] theorem f14r20_run : run tbl fin K f14r20 e H = regK tbl fin K [] f14o20 [4, 5] e H := run_regK _ _ _ _ _ _ _ _ _ rfl
@[simp] def f14o21 : List IOper := [
  ⟨(some 81), .mv (.t 12), none, none⟩,
  ⟨(some 11), .mv (.t 81), none, none⟩]
def f14r21 : IC := .reg false [] f14o21 [68, 67, 66, 10, 6, 11]
@[simp] theorem f14r21_run : run tbl fin K f14r21 e H = regK tbl fin K [] f14o21 [68, 67, 66, 10, 6, 11] e H := run_regK _ _ _ _ _ _ _ _ _ rfl
@[simp] def f14o22 : List IOper := [
  ⟨(some 82), .bin .add (.t 68) (.c (.int .i64 1)), none, none⟩,
  ⟨(some 68), .mv (.t 82), none, none⟩]
def f14r22 : IC := .reg false [] f14o22 [68, 67, 66, 10, 6, 11]
@[simp] theorem f14r22_run : run tbl fin K f14r22 e H = regK tbl fin K [] f14o22 [68, 67, 66, 10, 6, 11] e H := run_regK _ _ _ _ _ _ _ _ _ rfl
def f14b23 : IC := (.seq f14r16 (.seq (.cond (.t 69) .skip (.exit 1)) (.seq (.block 2 (.seq f14r17 (.seq (.seq f14r18 (.cond (.t 78) (.exit 2) .skip)) (.seq (.seq f14r19 (.cond (.t 80) (.seq f14r20 .ret) .skip)) f14r21)))) f14r22)))
theorem f14b23_eq : f14b23 = (.seq f14r16 (.seq (.cond (.t 69) .skip (.exit 1)) (.seq (.block 2 (.seq f14r17 (.seq (.seq f14r18 (.cond (.t 78) (.exit 2) .skip)) (.seq (.seq f14r19 (.cond (.t 80) (.seq f14r20 .ret) .skip)) f14r21)))) f14r22))) := rfl
@[simp] def f14o24 : List IOper := [
  ⟨(some 83), .mv (.t 11), none, none⟩,
  ⟨(some 84), .call (.c (.fn 47 [])) [(.t 83)], none, none⟩,
  ⟨(some 85), .ext (.t 84) 0, none, none⟩,
  ⟨(some 86), .ext (.t 84) 1, none, none⟩,
  ⟨(some 4), .mv (.t 85), none, none⟩,
  ⟨(some 5), .mv (.t 86), none, none⟩]
def f14r24 : IC := .reg false [] f14o24 [4, 5]
@[simp] theorem f14r24_run : run tbl fin K f14r24 e H = regK tbl fin K [] f14o24 [4, 5] e H := run_regK _ _ _ _ _ _ _ _ _ rfl
def f14body : IC := (.seq f14r0 (.seq f14r1 (.seq (.seq f14r2 (.cond (.t 24) (.seq f14r3 .ret) .skip)) (.seq f14r4 (.seq (.block 0 (.seq f14r5 (.cond (.t 30) (.seq f14r6 .ret) (.seq f14r7 (.cond (.t 45) (.seq f14r8 .ret) (.seq f14r9 (.cond (.t 52) (.seq f14r10 .ret) .skip))))))) (.seq f14r11 (.seq (.seq f14r12 (.cond (.t 63) f14r13 .skip)) (.seq f14r14 (.seq (.seq f14r15 (.block 1 (.loop [68, 67, 66, 10, 6, 11] f14b23))) (.seq f14r24 .ret))))))))))
def f14 : IFn := ⟨87, 2, [.tmp 4, .tmp 5], f14body⟩
/- 15: jobshell/jobshellref36.Find -/
@[simp] def f15o0 : List IOper := [
  ⟨(some 4), .mv (.c (.int .i64 0)), none, none⟩,
  ⟨(some 5), .mv (.c (.int .i64 0)), none, none⟩]
def f15r0 : IC := .reg false [] f15o0 [0, 1]
@[simp] theorem f15r0_run : run tbl fin K f15r0 e H = regK tbl fin K [] f15o0 [0, 1] e H := run_regK _ _ _ _ _ _ _ _ _ rfl
@[simp] def f15o1 : List IOper := [
  ⟨(some 10), .mv (.t 1), none, none⟩,
  ⟨(some 11), .bin .eql (.t 10) (.c (.str [])), none, none⟩,
  ⟨(some 12), .mv (.t 11), none, none⟩,
  ⟨(some 13), .mv (.t 1), (some (12, false)), none⟩,
  ⟨(some 14), .sidx (.t 13) (.c (.int .i64 0)), (some (12, false)), none⟩,
  ⟨(some 15), .bin .neq (.t 14) (.c (.int .u8 37)), (some (12, false)), none⟩,
  ⟨(some 16), .pick (.t 12) (.c (.bool true)) (.t 15), none, none⟩,
  ⟨(some 17), .mv (.t 16), none, none⟩,
  ⟨(some 18), .mv (.t 1), (some (17, false)), none⟩,
  ⟨(some 19), .bin .eql (.t 18) (.c (.str [37, 63])), (some (17, false)), none⟩,
  ⟨(some 20), .pick (.t 17) (.c (.bool true)) (.t 19), none, none⟩]
def f15r1 : IC := .reg false [] f15o1 [20, 0, 1]
@[simp] theorem f15r1_run : run tbl fin K f15r1 e H = regK tbl fin K [] f15o1 [20, 0, 1] e H := run_regK _ _ _ _ _ _ _ _ _ rfl
@[simp] def f15o2 : List IOper := [
  ⟨(some 4), .mv (.c (.int .i64 0)), none, none⟩,
  ⟨(some 5), .mv (.c (.int .i64 6)), none, none⟩]
def f15r2 : IC := .reg false [] f15o2 [4, 5]
@[simp] theorem f15r2_run : run tbl fin K f15r2 e H = regK tbl fin K [] f15o2 [4, 5] e H := run_regK _ _ _ _ _ _ _ _ _ rfl
@[simp] def f15o3 : List IOper := [
  ⟨(some 22), .mv (.t 0), none, none⟩,
  ⟨(some 23), .call (.c (.fn 17 [])) [(.t 22)], none, none⟩,
  ⟨(some 21), .mv (.t 23), none, none⟩,
  ⟨(some 24), .ext (.t 21) 0, none, none⟩,
  ⟨(some 25), .ext (.t 21) 1, none, none⟩,
  ⟨(some 6), .mv (.t 24), none, none⟩,
  ⟨(some 7), .mv (.t 25), none, none⟩]
def f15r3 : IC := .reg false [] f15o3 [1, 7, 0, 6]
@[simp] theorem f15r3_run : run tbl fin K f15r3 e H = regK tbl fin K [] f15o3 [1, 7, 0, 6] e H := run_regK _ _ _ _ _ _ _ _ _ rfl
@[simp] def f15o4 : List IOper := [
  ⟨(some 26), .mv (.t 1), none, none⟩,
  ⟨(some 27), .sls (.t 26) (some (.c (.int .i64 1))) none, none, none⟩,
  ⟨(some 8), .mv (.t 27), none, none⟩]
def f15r4 : IC := .reg false [] f15o4 [7, 0, 8, 6]
@[simp] theorem f15r4_run : run tbl fin K f15r4 e H = regK tbl fin K [] f15o4 [7, 0, 8, 6] e H := run_regK _ _ _ _ _ _ _ _ _ rfl
@[simp] def f15o5 : List IOper := [
  ⟨(some 28), .mv (.t 8), none, none⟩,
  ⟨(some 29), .bin .eql (.t 28) (.c (.str [])), none, none⟩,
  ⟨(some 30), .mv (.t 29), none, none⟩,
  ⟨(some 31), .mv (.t 8), (some (30, false)), none⟩,
  ⟨(some 32), .bin .eql (.t 31) (.c (.str [37])), (some (30, false)), none⟩,
  ⟨(some 33), .pick (.t 30) (.c (.bool true)) (.t 32), none, none⟩,
  ⟨(some 34), .mv (.t 33), none, none⟩,
  ⟨(some 35), .mv (.t 8), (some (34, false)), none⟩,
  ⟨(some 36), .bin .eql (.t 35) (.c (.str [43])), (some (34, false)), none⟩,
  ⟨(some 37), .pick (.t 34) (.c (.bool true)) (.t 36), none, none⟩]
def f15r5 : IC := .reg false [] f15o5 [37, 7, 0, 8, 6]
@[simp] theorem f15r5_run : run tbl fin K f15r5 e H = regK tbl fin K [] f15o5 [37, 7, 0, 8, 6] e H := run_regK _ _ _ _ _ _ _ _ _ rfl
@[simp] def f15o6 : List IOper := [
  ⟨(some 38), .mv (.t 6), none, none⟩,
  ⟨(some 39), .call (.c (.fn 53 [])) [(.t 38)], none, none⟩,
  ⟨(some 40), .ext (.t 39) 0, none, none⟩,
  ⟨(some 41), .ext (.t 39) 1, none, none⟩,
  ⟨(some 4), .mv (.t 40), none, none⟩,
  ⟨(some 5), .mv (.t 41), none, none⟩]
def f15r6 : IC := .reg false [] f15o6 [4, 5]
@[simp] theorem f15r6_run : run tbl fin K f15r6 e H = regK tbl fin K [] f15o6 [4, 5] e H := run_regK _ _ _ _ _ _ _ _ _ rfl
@[simp] def f15o7 : List IOper := [
  ⟨(some 42), .mv (.t 8), none, none⟩,
  ⟨(some 43), .bin .eql (.t 42) (.c (.str [45])), none, none⟩]
def f15r7 : IC := .reg false [] f15o7 [43, 8, 0, 7]
@[simp] theorem f15r7_run : run tbl fin K f15r7 e H = regK tbl fin K [] f15o7 [43, 8, 0, 7] e H := run_regK _ _ _ _ _ _ _ _ _ rfl
@[simp] def f15o8 : List IOper := [
  ⟨(some 44), .mv (.t 7), none, none⟩,
  ⟨(some 45), .call (.c (.fn 53 [])) [(.t 44)], none, none⟩,
  ⟨(some 46), .ext (.t 45) 0, none, none⟩,
  ⟨(some 47), .ext (.t 45) 1, none, none⟩,
  ⟨(some 4), .mv (.t 46), none, none⟩,
  ⟨(some 5), .mv (.t 47), none, none⟩]
def f15r8 : IC := .reg false [] f15o8 [4, 5]
@[simp] theorem f15r8_run : run tbl fin K f15r8 e H = regK tbl fin K [] f15o8 [4, 5] e H := run_regK _ _ _ _ _ _ _ _ _ rfl
@[simp] def f15o9 : List IOper := [
  ⟨(some 48), .mv (.t 8), none, none⟩,
  ⟨(some 49), .call (.c (.fn 54 [])) [(.t 48)], none, none⟩]
def f15r9 : IC := .reg false [] f15o9 [49, 0, 8]
@[simp] theorem f15r9_run : run tbl fin K f15r9 e H = regK tbl fin K [] f15o9 [49, 0, 8] e H := run_regK _ _ _ _ _ _ _ _ _ rfl
@[simp] def f15o10 : List IOper := [
  ⟨(some 9), .mv (.c (.int .i64 0)), none, none⟩]
def f15r10 : IC := .reg false [] f15o10 [0, 8, 9]
@[simp] theorem f15r10_run : run tbl fin K f15r10 e H = regK tbl fin K [] f15o10 [0, 8, 9] e H := run_regK _ _ _ _ _ _ _ _ _ rfl
@[simp] def f15o11 : List IOper := [
  ⟨(some 50), .mv (.t 9), none, none⟩,
  ⟨(some 51), .mv (.t 0), none, none⟩,
  ⟨(some 52), .len (.t 51), none, none⟩,
  ⟨(some 53), .bin .lss (.t 50) (.t 52), none, none⟩]
def f15r11 : IC := .reg false [] f15o11 [53, 8, 0, 9]
@[simp] theorem f15r11_run : run tbl fin K f15r11 e H = regK tbl fin K [] f15o11 [53, 8, 0, 9] e H := run_regK _ _ _ _ _ _ _ _ _ rfl
@[simp] def f15o12 : List IOper := [
  ⟨(some 56), .mv (.t 0), none, none⟩,
  ⟨(some 57), .mv (.t 9), none, none⟩,
  ⟨(some 58), .idx 7 (.t 56) (.t 57), none, none⟩,
  ⟨(some 59), .fld 0 (.t 58), none, none⟩,
  ⟨(some 60), .load false 1 (.t 59), none, none⟩,
  ⟨(some 61), .call (.c (.fn 20 [])) [(.t 60)], none, none⟩,
  ⟨(some 62), .mv (.t 8), none, none⟩,
  ⟨(some 63), .bin .eql (.t 61) (.t 62), none, none⟩]
def f15r12 : IC := .reg false [] f15o12 [63, 8, 0, 9]
@[simp] theorem f15r12_run : run tbl fin K f15r12 e H = regK tbl fin K [] f15o12 [63, 8, 0, 9] e H := run_regK _ _ _ _ _ _ _ _ _ rfl
@[simp] def f15o13 : List IOper := [
  ⟨(some 64), .mv (.t 9), none, none⟩,
  ⟨(some 4), .mv (.t 64), none, none⟩,
  ⟨(some 5), .mv (.c (.int .i64 0)), none, none⟩]
def f15r13 : IC := .reg false [] f15o13 [4, 5]
@[simp] theorem f15r13_run : run tbl fin K f15r13 e H = regK tbl fin K [] f15o13 [4, 5] e H := run_regK _ _ _ _ _ _ _ _ _ rfl
@[simp] def f15o14 : List IOper := [
  ⟨(some 54), .mv (.t 9), none, none⟩,
  ⟨(some 55), .bin .add (.t 54) (.c (.int .i64 1)), none, none⟩,
  ⟨(some 9), .mv (.t 55), none, none⟩]
def f15r14 : IC := .reg false [] f15o14 [0, 8, 9]
@[simp] theorem f15r14_run : run tbl fin K f15r14 e H = regK tbl fin K [] f15o14 [0, 8, 9] e H := run_regK _ _ _ _ _ _ _ _ _ rfl
def f15b15 : IC := (.seq (.seq f15r11 (.cond (.t 53) .skip (.exit 0))) (.seq (.block 1 (.seq f15r12 (.cond (.t 63) (.seq f15r13 .ret) .skip))) f15r14))
theorem f15b15_eq : f15b15 = (.seq (.seq f15r11 (.cond (.t 53) .skip (.exit 0))) (.seq (.block 1 (.seq f15r12 (.cond (.t 63) (.seq f15r13 .ret) .skip))) f15r14)) := rfl
@[simp] def f15o16 : List IOper := [
  ⟨(some 4), .mv (.c (.int .i64 0)), none, none⟩,
  ⟨(some 5), .mv (.c (.int .i64 8)), none, none⟩]
def f15r16 : IC := .reg false [] f15o16 [4, 5]
@[simp] theorem f15r16_run : run tbl fin K f15r16 e H = regK tbl fin K [] f15o16 [4, 5] e H := run_regK _ _ _ _ _ _ _ _ _ rfl
@[simp] def f15o17 : List IOper := [
  ⟨(some 65), .mv (.t 8), none, none⟩,
  ⟨(some 66), .sidx (.t 65) (.c (.int .i64 0)), none, none⟩,
  ⟨(some 67), .bin .eql (.t 66) (.c (.int .u8 63)), none, none⟩]
def f15r17 : IC := .reg false [] f15o17 [67, 0, 8]
@[simp] theorem f15r17_run : run tbl fin K f15r17 e H = regK tbl fin K [] f15o17 [67, 0, 8] e H := run_regK _ _ _ _ _ _ _ _ _ rfl
@[simp] def f15o18 : List IOper := [
  ⟨(some 68), .mv (.t 0), none, none⟩,
  ⟨(some 69), .mv (.t 8), none, none⟩,
  ⟨(some 70), .sls (.t 69) (some (.c (.int .i64 1))) none, none, none⟩,
  ⟨(some 71), .call (.c (.fn 55 [])) [(.t 68), (.t 70), (.c (.bool true))], none, none⟩,
  ⟨(some 72), .ext (.t 71) 0, none, none⟩,
  ⟨(some 73), .ext (.t 71) 1, none, none⟩,
  ⟨(some 4), .mv (.t 72), none, none⟩,
  ⟨(some 5), .mv (.t 73), none, none⟩]
def f15r18 : IC := .reg false [] f15o18 [4, 5]
@[simp] theorem f15r18_run : run tbl fin K f15r18 e H = regK tbl fin K [] f15o18 [4, 5] e H := run_regK _ _ _ _ _ _ _ _ _ rfl
@[simp] def f15o19 : List IOper := [
  ⟨(some 74), .mv (.t 0), none, none⟩,
  ⟨(some 75), .mv (.t 8), none, none⟩,
  ⟨(some 76), .call (.c (.fn 55 [])) [(.t 74), (.t 75), (.c (.bool false))], none, none⟩,
  ⟨(some 77), .ext (.t 76) 0, none, none⟩,
  ⟨(some 78), .ext (.t 76) 1, none, none⟩,
  ⟨(some 4), .mv (.t 77), none, none⟩,
  ⟨(some 5), .mv (.t 78), none, none⟩]
def f15r19 : IC := .reg false [] f15o19 [4, 5]
@[simp] theorem f15r19_run : run tbl fin K f15r19 e H = regK tbl fin K [] f15o19 [4, 5] e H := run_regK _ _ _ _ _ _ _ _ _ rfl
def f15body : IC := (.seq f15r0 (.seq (.seq f15r1 (.cond (.t 20) (.seq f15r2 .ret) .skip)) (.seq f15r3 (.seq f15r4 (.seq (.seq f15r5 (.cond (.t 37) (.seq f15r6 .ret) .skip)) (.seq (.seq f15r7 (.cond (.t 43) (.seq f15r8 .ret) .skip)) (.seq (.seq f15r9 (.cond (.t 49) (.seq (.seq f15r10 (.block 0 (.loop [0, 8, 9] f15b15))) (.seq f15r16 .ret)) .skip)) (.seq (.seq f15r17 (.cond (.t 67) (.seq f15r18 .ret) .skip)) (.seq f15r19 .ret)))))))))
def f15 : IFn := ⟨79, 2, [.tmp 4, .tmp 5], f15body⟩
/- 16: jobshell/jobs.Current -/
@[simp] def f16o0 : List IOper := [
  ⟨(some 2), .mv (.c (.int .i64 0)), none, none⟩,
  ⟨(some 3), .mv (.c (.int .i64 0)), none, none⟩]
def f16r0 : IC := .reg false [] f16o0 [0]
@[simp] theorem f16r0_run : run tbl fin K f16r0 e H = regK tbl fin K [] f16o0 [0] e H := run_regK _ _ _ _ _ _ _ _ _ rfl
@[simp] def f16o1 : List IOper := [
  ⟨(some 5), .mv (.t 0), none, none⟩,
  ⟨(some 6), .call (.c (.fn 56 [])) [(.t 5), (.c (.int .i64 (-1)))], none, none⟩,
  ⟨(some 4), .mv (.t 6), none, none⟩]
def f16r1 : IC := .reg false [] f16o1 [0, 4]
@[simp] theorem f16r1_run : run tbl fin K f16r1 e H = regK tbl fin K [] f16o1 [0, 4] e H := run_regK _ _ _ _ _ _ _ _ _ rfl
@[simp] def f16o2 : List IOper := [
  ⟨(some 7), .mv (.t 4), none, none⟩,
  ⟨(some 8), .mv (.t 0), none, none⟩,
  ⟨(some 9), .mv (.t 4), none, none⟩,
  ⟨(some 10), .call (.c (.fn 56 [])) [(.t 8), (.t 9)], none, none⟩,
  ⟨(some 2), .mv (.t 7), none, none⟩,
  ⟨(some 3), .mv (.t 10), none, none⟩]
def f16r2 : IC := .reg false [] f16o2 [2, 3]
@[simp] theorem f16r2_run : run tbl fin K f16r2 e H = regK tbl fin K [] f16o2 [2, 3] e H := run_regK _ _ _ _ _ _ _ _ _ rfl
def f16body : IC := (.seq f16r0 (.seq f16r1 (.seq f16r2 .ret)))
def f16 : IFn := ⟨11, 1, [.tmp 2, .tmp 3], f16body⟩
/- 17: jobshell/jobshellref36.Current -/
@[simp] def f17o0 : List IOper := [
  ⟨(some 2), .mv (.c (.int .i64 0)), none, none⟩,
  ⟨(some 3), .mv (.c (.int .i64 0)), none, none⟩]
def f17r0 : IC := .reg false [] f17o0 [0]
@[simp] theorem f17r0_run : run tbl fin K f17r0 e H = regK tbl fin K [] f17o0 [0] e H := run_regK _ _ _ _ _ _ _ _ _ rfl
@[simp] def f17o1 : List IOper := [
  ⟨(some 5), .mv (.t 0), none, none⟩,
  ⟨(some 6), .call (.c (.fn 57 [])) [(.t 5), (.c (.int .i64 (-1)))], none, none⟩,
  ⟨(some 4), .mv (.t 6), none, none⟩]
def f17r1 : IC := .reg false [] f17o1 [4, 0]
@[simp] theorem f17r1_run : run tbl fin K f17r1 e H = regK tbl fin K [] f17o1 [4, 0] e H := run_regK _ _ _ _ _ _ _ _ _ rfl
@[simp] def f17o2 : List IOper := [
  ⟨(some 7), .mv (.t 4), none, none⟩,
  ⟨(some 8), .bin .lss (.t 7) (.c (.int .i64 0)), none, none⟩]
def f17r2 : IC := .reg false [] f17o2 [8, 4, 0]
@[simp] theorem f17r2_run : run tbl fin K f17r2 e H = regK tbl fin K [] f17o2 [8, 4, 0] e H := run_regK _ _ _ _ _ _ _ _ _ rfl
@[simp] def f17o3 : List IOper := [
  ⟨(some 2), .mv (.c (.int .i64 (-1))), none, none⟩,
  ⟨(some 3), .mv (.c (.int .i64 (-1))), none, none⟩]
def f17r3 : IC := .reg false [] f17o3 [2, 3]
@[simp] theorem f17r3_run : run tbl fin K f17r3 e H = regK tbl fin K [] f17o3 [2, 3] e H := run_regK _ _ _ _ _ _ _ _ _ rfl
@[simp] def f17o4 : List IOper := [
  ⟨(some 9), .mv (.t 4), none, none⟩,
  ⟨(some 10), .mv (.t 0), none, none⟩,
  ⟨(some 11), .mv (.t 4), none, none⟩,
  ⟨(some 12), .call (.c (.fn 57 [])) [(.t 10), (.t 11)], none, none⟩,
  ⟨(some 2), .mv (.t 9), none, none⟩,
  ⟨(some 3), .mv (.t 12), none, none⟩]
def f17r4 : IC := .reg false [] f17o4 [2, 3]
@[simp] theorem f17r4_run : run tbl fin K f17r4 e H = regK tbl fin K [] f17o4 [2, 3] e H := run_regK _ _ _ _ _ _ _ _ _ rfl
def f17body : IC := (.seq f17r0 (.seq f17r1 (.seq (.seq f17r2 (.cond (.t 8) (.seq f17r3 .ret) .skip)) (.seq f17r4 .ret))))
def f17 : IFn := ⟨13, 1, [.tmp 2, .tmp 3], f17body⟩
/- 18: jobshell/jobs.Line -/
@[simp] def f18o0 : List IOper := [
  ⟨(some 6), .mv (.c (.str [])), none, none⟩]
def f18r0 : IC := .reg false [] f18o0 [2, 1, 0]
@[simp] theorem f18r0_run : run tbl fin K f18r0 e H = regK tbl fin K [] f18o0 [2, 1, 0] e H := run_regK _ _ _ _ _ _ _ _ _ rfl
@[simp] def f18o1 : List IOper := [
  ⟨(some 12), .mv (.t 1), none, none⟩,
  ⟨(some 13), .bin .lss (.t 12) (.c (.int .i64 0)), none, none⟩,
  ⟨(some 14), .mv (.t 13), none, none⟩,
  ⟨(some 15), .mv (.t 1), (some (14, false)), none⟩,
  ⟨(some 16), .mv (.t 0), (some (14, false)), none⟩,
  ⟨(some 17), .len (.t 16), (some (14, false)), none⟩,
  ⟨(some 18), .bin .geq (.t 15) (.t 17), (some (14, false)), none⟩,
  ⟨(some 19), .pick (.t 14) (.c (.bool true)) (.t 18), none, none⟩]
def f18r1 : IC := .reg false [] f18o1 [19, 2, 1, 0]
@[simp] theorem f18r1_run : run tbl fin K f18r1 e H = regK tbl fin K [] f18o1 [19, 2, 1, 0] e H := run_regK _ _ _ _ _ _ _ _ _ rfl
@[simp] def f18o2 : List IOper := [
  ⟨(some 6), .mv (.c (.str [])), none, none⟩]
def f18r2 : IC := .reg false [] f18o2 [6]
@[simp] theorem f18r2_run : run tbl fin K f18r2 e H = regK tbl fin K [] f18o2 [6] e H := run_regK _ _ _ _ _ _ _ _ _ rfl
@[simp] def f18o3 : List IOper := [
  ⟨(some 20), .mv (.t 0), none, none⟩,
  ⟨(some 21), .mv (.t 1), none, none⟩,
  ⟨(some 22), .idx 7 (.t 20) (.t 21), none, none⟩,
  ⟨(some 23), .load true 7 (.t 22), none, none⟩,
  ⟨(some 7), .new 42 7 (.agg [(.int .i64 0), (.int .i64 0), (.int .i64 0), .e0, .e0, (.str []), (.bool false)]), none, none⟩,
  ⟨none, .store 7 (.t 7) (.t 23), none, none⟩,
  ⟨(some 8), .mv (.c (.str [32])), none, none⟩,
  ⟨(some 9), .mv (.c (.str [])), none, none⟩]
def f18r3 : IC := .reg false [] f18o3 [0, 1, 8, 2, 9, 7]
@[simp] theorem f18r3_run : run tbl fin K f18r3 e H = regK tbl fin K [] f18o3 [0, 1, 8, 2, 9, 7] e H := run_regK _ _ _ _ _ _ _ _ _ rfl
@[simp] def f18o4 : List IOper := [
  ⟨(some 25), .mv (.t 0), none, none⟩,
  ⟨(some 26), .call (.c (.fn 16 [])) [(.t 25)], none, none⟩,
  ⟨(some 24), .mv (.t 26), none, none⟩,
  ⟨(some 27), .ext (.t 24) 0, none, none⟩,
  ⟨(some 28), .ext (.t 24) 1, none, none⟩,
  ⟨(some 10), .mv (.t 27), none, none⟩,
  ⟨(some 11), .mv (.t 28), none, none⟩]
def f18r4 : IC := .reg false [] f18o4 [1, 10, 8, 11, 2, 9, 7]
@[simp] theorem f18r4_run : run tbl fin K f18r4 e H = regK tbl fin K [] f18o4 [1, 10, 8, 11, 2, 9, 7] e H := run_regK _ _ _ _ _ _ _ _ _ rfl
@[simp] def f18o5 : List IOper := [
  ⟨(some 29), .mv (.t 1), none, none⟩]
def f18r5 : IC := .reg false [] f18o5 [10, 8, 29, 11, 2, 9, 7]
@[simp] theorem f18r5_run : run tbl fin K f18r5 e H = regK tbl fin K [] f18o5 [10, 8, 29, 11, 2, 9, 7] e H := run_regK _ _ _ _ _ _ _ _ _ rfl
@[simp] def f18o6 : List IOper := [
  ⟨(some 31), .mv (.t 10), none, none⟩,
  ⟨(some 32), .bin .eql (.t 29) (.t 31), none, none⟩,
  ⟨(some 30), .mv (.t 32), none, none⟩]
def f18r6 : IC := .reg false [] f18o6 [30, 8, 29, 11, 2, 9, 7]
@[simp] theorem f18r6_run : run tbl fin K f18r6 e H = regK tbl fin K [] f18o6 [30, 8, 29, 11, 2, 9, 7] e H := run_regK _ _ _ _ _ _ _ _ _ rfl
@[simp] def f18o7 : List IOper := [
  ⟨(some 8), .mv (.c (.str [43])), none, none⟩]
def f18r7 : IC := .reg false [] f18o7 [2, 9, 8, 7]
@[simp] theorem f18r7_run : run tbl fin K f18r7 e H = regK tbl fin K [] f18o7 [2, 9, 8, 7] e H := run_regK _ _ _ _ _ _ _ _ _ rfl
@[simp] def f18o8 : List IOper := [
  ⟨(some 34), .mv (.t 11), none, none⟩,
  ⟨(some 35), .bin .eql (.t 29) (.t 34), none, none⟩,
  ⟨(some 33), .mv (.t 35), none, none⟩]
def f18r8 : IC := .reg false [] f18o8 [33, 8, 2, 9, 7]
@[simp] theorem f18r8_run : run tbl fin K f18r8 e H = regK tbl fin K [] f18o8 [33, 8, 2, 9, 7] e H := run_regK _ _ _ _ _ _ _ _ _ rfl
@[simp] def f18o9 : List IOper := [
  ⟨(some 8), .mv (.c (.str [45])), none, none⟩]
def f18r9 : IC := .reg false [] f18o9 [2, 9, 8, 7]
@[simp] theorem f18r9_run : run tbl fin K f18r9 e H = regK tbl fin K [] f18o9 [2, 9, 8, 7] e H := run_regK _ _ _ _ _ _ _ _ _ rfl
@[simp] def f18o10 : List IOper := [
  ⟨(some 36), .mv (.t 2), none, none⟩]
def f18r10 : IC := .reg false [] f18o10 [36, 9, 8, 7]
@[simp] theorem f18r10_run : run tbl fin K f18r10 e H = regK tbl fin K [] f18o10 [36, 9, 8, 7] e H := run_regK _ _ _ _ _ _ _ _ _ rfl
@[simp] def f18o11 : List IOper := [
  ⟨(some 37), .fld 1 (.t 7), none, none⟩,
  ⟨(some 38), .load false 1 (.t 37), none, none⟩,
  ⟨(some 39), .call (.c (.fn 20 [])) [(.t 38)], none, none⟩,
  ⟨(some 40), .mkimm 1 2 (.str []) [(0, (.t 39)), (1, (.c (.str [32])))], none, none⟩,
  ⟨(some 41), .call (.c (.fn 58 [])) [(.t 40)], none, none⟩,
  ⟨(some 9), .mv (.t 41), none, none⟩]
def f18r11 : IC := .reg false [] f18o11 [8, 9, 7]
@[simp] theorem f18r11_run : run tbl fin K f18r11 e H = regK tbl fin K [] f18o11 [8, 9, 7] e H := run_regK _ _ _ _ _ _ _ _ _ rfl
@[simp] def f18o12 : List IOper := [
  ⟨(some 42), .fld 0 (.t 7), none, none⟩,
  ⟨(some 43), .load false 1 (.t 42), none, none⟩,
  ⟨(some 44), .call (.c (.fn 20 [])) [(.t 43)], none, none⟩,
  ⟨(some 45), .mv (.t 8), none, none⟩,
  ⟨(some 46), .mv (.t 9), none, none⟩,
  ⟨(some 47), .load true 7 (.t 7), none, none⟩,
  ⟨(some 48), .call (.c (.fn 59 [])) [(.t 47)], none, none⟩,
  ⟨(some 49), .fld 5 (.t 7), none, none⟩,
  ⟨(some 50), .load false 1 (.t 49), none, none⟩,
  ⟨(some 51), .mkimm 1 9 (.str []) [(0, (.c (.str [91]))), (1, (.t 44)), (2, (.c (.str [93]))), (3, (.t 45)), (4, (.c (.str [32]))), (5, (.t 46)), (6, (.t 48)), (7, (.c (.str [32, 32]))), (8, (.t 50))], none, none⟩,
  ⟨(some 52), .call (.c (.fn 58 [])) [(.t 51)], none, none⟩,
  ⟨(some 6), .mv (.t 52), none, none⟩]
def f18r12 : IC := .reg true [] f18o12 [6]
@[simp] theorem f18r12_run : run tbl fin K f18r12 e H = regK tbl fin K [] f18o12 [6] e H := run_regK _ _ _ _ _ _ _ _ _ rfl
def f18body : IC := (.seq f18r0 (.seq (.seq f18r1 (.cond (.t 19) (.seq f18r2 .ret) .skip)) (.seq f18r3 (.seq (.seq f18r4 (.seq f18r5 (.block 0 (.seq f18r6 (.cond (.t 30) f18r7 (.seq f18r8 (.cond (.t 33) f18r9 .skip))))))) (.seq (.seq f18r10 (.cond (.t 36) f18r11 .skip)) (.seq f18r12 .ret))))))
def f18 : IFn := ⟨53, 3, [.tmp 6], f18body⟩
/- 19: jobshell/jobshellref36.Line -/
@[simp] def f19o0 : List IOper := [
  ⟨(some 6), .mv (.c (.str [])), none, none⟩]
def f19r0 : IC := .reg false [] f19o0 [1, 0, 2]
@[simp] theorem f19r0_run : run tbl fin K f19r0 e H = regK tbl fin K [] f19o0 [1, 0, 2] e H := run_regK _ _ _ _ _ _ _ _ _ rfl
@[simp] def f19o1 : List IOper := [
  ⟨(some 10), .mv (.t 1), none, none⟩,
  ⟨(some 11), .bin .lss (.t 10) (.c (.int .i64 0)), none, none⟩,
  ⟨(some 12), .mv (.t 11), none, none⟩,
  ⟨(some 13), .mv (.t 1), (some (12, false)), none⟩,
  ⟨(some 14), .mv (.t 0), (some (12, false)), none⟩,
  ⟨(some 15), .len (.t 14), (some (12, false)), none⟩,
  ⟨(some 16), .bin .geq (.t 13) (.t 15), (some (12, false)), none⟩,
  ⟨(some 17), .pick (.t 12) (.c (.bool true)) (.t 16), none, none⟩]
def f19r1 : IC := .reg false [] f19o1 [17, 1, 0, 2]
@[simp] theorem f19r1_run : run tbl fin K f19r1 e H = regK tbl fin K [] f19o1 [17, 1, 0, 2] e H := run_regK _ _ _ _ _ _ _ _ _ rfl
@[simp] def f19o2 : List IOper := [
  ⟨(some 6), .mv (.c (.str [])), none, none⟩]
def f19r2 : IC := .reg false [] f19o2 [6]
@[simp] theorem f19r2_run : run tbl fin K f19r2 e H = regK tbl fin K [] f19o2 [6] e H := run_regK _ _ _ _ _ _ _ _ _ rfl
@[simp] def f19o3 : List IOper := [
  ⟨(some 19), .mv (.t 0), none, none⟩,
  ⟨(some 20), .call (.c (.fn 17 [])) [(.t 19)], none, none⟩,
  ⟨(some 18), .mv (.t 20), none, none⟩,
  ⟨(some 21), .ext (.t 18) 0, none, none⟩,
  ⟨(some 22), .ext (.t 18) 1, none, none⟩,
  ⟨(some 7), .mv (.t 21), none, none⟩,
  ⟨(some 8), .mv (.t 22), none, none⟩]
def f19r3 : IC := .reg false [] f19o3 [7, 8, 2, 0, 1]
@[simp] theorem f19r3_run : run tbl fin K f19r3 e H = regK tbl fin K [] f19o3 [7, 8, 2, 0, 1] e H := run_regK _ _ _ _ _ _ _ _ _ rfl
@[simp] def f19o4 : List IOper := [
  ⟨(some 23), .mv (.t 0), none, none⟩,
  ⟨(some 24), .mv (.t 1), none, none⟩,
  ⟨(some 25), .idx 7 (.t 23) (.t 24), none, none⟩,
  ⟨(some 26), .fld 0 (.t 25), none, none⟩,
  ⟨(some 27), .load false 1 (.t 26), none, none⟩,
  ⟨(some 28), .call (.c (.fn 20 [])) [(.t 27)], none, none⟩,
  ⟨(some 29), .bin .add (.c (.str [91])) (.t 28), none, none⟩,
  ⟨(some 30), .bin .add (.t 29) (.c (.str [93])), none, none⟩,
  ⟨(some 9), .mv (.t 30), none, none⟩]
def f19r4 : IC := .reg false [] f19o4 [7, 8, 9, 2, 0, 1]
@[simp] theorem f19r4_run : run tbl fin K f19r4 e H = regK tbl fin K [] f19o4 [7, 8, 9, 2, 0, 1] e H := run_regK _ _ _ _ _ _ _ _ _ rfl
@[simp] def f19o5 : List IOper := [
  ⟨(some 31), .mv (.t 1), none, none⟩]
def f19r5 : IC := .reg false [] f19o5 [7, 31, 8, 9, 2, 0, 1]
@[simp] theorem f19r5_run : run tbl fin K f19r5 e H = regK tbl fin K [] f19o5 [7, 31, 8, 9, 2, 0, 1] e H := run_regK _ _ _ _ _ _ _ _ _ rfl
@[simp] def f19o6 : List IOper := [
  ⟨(some 35), .mv (.t 7), none, none⟩,
  ⟨(some 36), .bin .eql (.t 31) (.t 35), none, none⟩,
  ⟨(some 34), .mv (.t 36), none, none⟩]
def f19r6 : IC := .reg false [] f19o6 [34, 31, 8, 9, 2, 0, 1]
@[simp] theorem f19r6_run : run tbl fin K f19r6 e H = regK tbl fin K [] f19o6 [34, 31, 8, 9, 2, 0, 1] e H := run_regK _ _ _ _ _ _ _ _ _ rfl
@[simp] def f19o7 : List IOper := [
  ⟨(some 37), .mv (.t 9), none, none⟩,
  ⟨(some 38), .bin .add (.t 37) (.c (.str [43, 32])), none, none⟩,
  ⟨(some 9), .mv (.t 38), none, none⟩]
def f19r7 : IC := .reg false [] f19o7 [2, 9, 0, 1]
@[simp] theorem f19r7_run : run tbl fin K f19r7 e H = regK tbl fin K [] f19o7 [2, 9, 0, 1] e H := run_regK _ _ _ _ _ _ _ _ _ rfl
@[simp] def f19o8 : List IOper := [
  ⟨(some 40), .mv (.t 8), none, none⟩,
  ⟨(some 41), .bin .eql (.t 31) (.t 40), none, none⟩,
  ⟨(some 39), .mv (.t 41), none, none⟩]
def f19r8 : IC := .reg false [] f19o8 [39, 9, 2, 0, 1]
@[simp] theorem f19r8_run : run tbl fin K f19r8 e H = regK tbl fin K [] f19o8 [39, 9, 2, 0, 1] e H := run_regK _ _ _ _ _ _ _ _ _ rfl
@[simp] def f19o9 : List IOper := [
  ⟨(some 42), .mv (.t 9), none, none⟩,
  ⟨(some 43), .bin .add (.t 42) (.c (.str [45, 32])), none, none⟩,
  ⟨(some 9), .mv (.t 43), none, none⟩]
def f19r9 : IC := .reg false [] f19o9 [2, 9, 0, 1]
@[simp] theorem f19r9_run : run tbl fin K f19r9 e H = regK tbl fin K [] f19o9 [2, 9, 0, 1] e H := run_regK _ _ _ _ _ _ _ _ _ rfl
@[simp] def f19o10 : List IOper := [
  ⟨(some 32), .mv (.t 9), none, none⟩,
  ⟨(some 33), .bin .add (.t 32) (.c (.str [32, 32])), none, none⟩,
  ⟨(some 9), .mv (.t 33), none, none⟩]
def f19r10 : IC := .reg false [] f19o10 [2, 9, 0, 1]
@[simp] theorem f19r10_run : run tbl fin K f19r10 e H = regK tbl fin K [] f19o10 [2, 9, 0, 1] e H := run_regK _ _ _ _ _ _ _ _ _ rfl
@[simp] def f19o11 : List IOper := [
  ⟨(some 44), .mv (.t 2), none, none⟩]
def f19r11 : IC := .reg false [] f19o11 [44, 9, 0, 1]
@[simp] theorem f19r11_run : run tbl fin K f19r11 e H = regK tbl fin K [] f19o11 [44, 9, 0, 1] e H := run_regK _ _ _ _ _ _ _ _ _ rfl
@[simp] def f19o12 : List IOper := [
  ⟨(some 45), .mv (.t 9), none, none⟩,
  ⟨(some 46), .mv (.t 0), none, none⟩,
  ⟨(some 47), .mv (.t 1), none, none⟩,
  ⟨(some 48), .idx 7 (.t 46) (.t 47), none, none⟩,
  ⟨(some 49), .fld 1 (.t 48), none, none⟩,
  ⟨(some 50), .load false 1 (.t 49), none, none⟩,
  ⟨(some 51), .call (.c (.fn 20 [])) [(.t 50)], none, none⟩,
  ⟨(some 52), .bin .add (.t 45) (.t 51), none, none⟩,
  ⟨(some 53), .bin .add (.t 52) (.c (.str [32])), none, none⟩,
  ⟨(some 9), .mv (.t 53), none, none⟩]
def f19r12 : IC := .reg false [] f19o12 [9, 0, 1]
@[simp] theorem f19r12_run : run tbl fin K f19r12 e H = regK tbl fin K [] f19o12 [9, 0, 1] e H := run_regK _ _ _ _ _ _ _ _ _ rfl
@[simp] def f19o13 : List IOper := [
  ⟨(some 54), .mv (.t 9), none, none⟩,
  ⟨(some 55), .mv (.t 0), none, none⟩,
  ⟨(some 56), .mv (.t 1), none, none⟩,
  ⟨(some 57), .idx 7 (.t 55) (.t 56), none, none⟩,
  ⟨(some 58), .load true 7 (.t 57), none, none⟩,
  ⟨(some 59), .call (.c (.fn 60 [])) [(.t 58)], none, none⟩,
  ⟨(some 60), .bin .add (.t 54) (.t 59), none, none⟩,
  ⟨(some 61), .bin .add (.t 60) (.c (.str [32, 32])), none, none⟩,
  ⟨(some 62), .mv (.t 0), none, none⟩,
  ⟨(some 63), .mv (.t 1), none, none⟩,
  ⟨(some 64), .idx 7 (.t 62) (.t 63), none, none⟩,
  ⟨(some 65), .fld 5 (.t 64), none, none⟩,
  ⟨(some 66), .load false 1 (.t 65), none, none⟩,
  ⟨(some 67), .bin .add (.t 61) (.t 66), none, none⟩,
  ⟨(some 6), .mv (.t 67), none, none⟩]
def f19r13 : IC := .reg true [] f19o13 [6]
@[simp] theorem f19r13_run : run tbl fin K f19r13 e H = regK tbl fin K [] f19o13 [6] e H := run_regK _ _ _ _ _ _ _ _ _ rfl
def f19body : IC := (.seq f19r0 (.seq (.seq f19r1 (.cond (.t 17) (.seq f19r2 .ret) .skip)) (.seq f19r3 (.seq f19r4 (.seq (.seq f19r5 (.block 0 (.seq f19r6 (.cond (.t 34) f19r7 (.seq f19r8 (.cond (.t 39) f19r9 f19r10)))))) (.seq (.seq f19r11 (.cond (.t 44) f19r12 .skip)) (.seq f19r13 .ret)))))))
def f19 : IFn := ⟨68, 3, [.tmp 6], f19body⟩
/- 20: strconv.Itoa is met by a contract -/
/- 21: jobshell/jobs.Update is met by a contract -/
/- 22: jobshell/jobshellref36.Update -/
@[simp] def f22o0 : List IOper := [
  ⟨(some 6), .nilrow 42 7, none, none⟩,
  ⟨(some 7), .mv (.c (.bool false)), none, none⟩]
def f22r0 : IC := .reg false [] f22o0 [1, 2, 0]
@[simp] theorem f22r0_run : run tbl fin K f22r0 e H = regK tbl fin K [] f22o0 [1, 2, 0] e H := run_regK _ _ _ _ _ _ _ _ _ rfl
@[simp] def f22o1 : List IOper := [
  ⟨(some 18), .mv (.t 2), none, none⟩,
  ⟨(some 19), .call (.c (.fn 66 [])) [(.t 18)], none, none⟩,
  ⟨(some 17), .mv (.t 19), none, none⟩,
  ⟨(some 20), .ext (.t 17) 0, none, none⟩,
  ⟨(some 21), .ext (.t 17) 1, none, none⟩,
  ⟨(some 8), .mv (.t 20), none, none⟩,
  ⟨(some 9), .mv (.t 21), none, none⟩]
def f22r1 : IC := .reg false [] f22o1 [1, 2, 8, 0]
@[simp] theorem f22r1_run : run tbl fin K f22r1 e H = regK tbl fin K [] f22o1 [1, 2, 8, 0] e H := run_regK _ _ _ _ _ _ _ _ _ rfl
@[simp] def f22o2 : List IOper := [
  ⟨(some 22), .mv (.t 8), none, none⟩,
  ⟨(some 23), .bin .lss (.t 22) (.c (.int .i64 0)), none, none⟩,
  ⟨(some 24), .mv (.t 23), none, none⟩,
  ⟨(some 25), .mv (.t 0), (some (24, false)), none⟩,
  ⟨(some 26), .mv (.t 1), (some (24, false)), none⟩,
  ⟨(some 27), .call (.c (.fn 42 [])) [(.t 25), (.t 26)], (some (24, false)), none⟩,
  ⟨(some 28), .un .not (.t 27), (some (24, false)), none⟩,
  ⟨(some 29), .pick (.t 24) (.c (.bool true)) (.t 28), none, none⟩]
def f22r2 : IC := .reg false [] f22o2 [29, 1, 2, 8, 0]
@[simp] theorem f22r2_run : run tbl fin K f22r2 e H = regK tbl fin K [] f22o2 [29, 1, 2, 8, 0] e H := run_regK _ _ _ _ _ _ _ _ _ rfl
@[simp] def f22o3 : List IOper := [
  ⟨(some 30), .mv (.t 0), none, none⟩,
  ⟨(some 6), .mv (.t 30), none, none⟩,
  ⟨(some 7), .mv (.c (.bool false)), none, none⟩]
def f22r3 : IC := .reg false [] f22o3 [6, 7]
@[simp] theorem f22r3_run : run tbl fin K f22r3 e H = regK tbl fin K [] f22o3 [6, 7] e H := run_regK _ _ _ _ _ _ _ _ _ rfl
@[simp] def f22o4 : List IOper := [
  ⟨(some 31), .mv (.t 8), none, none⟩,
  ⟨(some 32), .bin .eql (.t 31) (.c (.int .i64 3)), none, none⟩]
def f22r4 : IC := .reg false [] f22o4 [32, 2, 0, 1]
@[simp] theorem f22r4_run : run tbl fin K f22r4 e H = regK tbl fin K [] f22o4 [32, 2, 0, 1] e H := run_regK _ _ _ _ _ _ _ _ _ rfl
@[simp] def f22o5 : List IOper := [
  ⟨(some 2), .mv (.c (.int .i64 (-1))), none, none⟩]
def f22r5 : IC := .reg false [] f22o5 [0, 2, 1]
@[simp] theorem f22r5_run : run tbl fin K f22r5 e H = regK tbl fin K [] f22o5 [0, 2, 1] e H := run_regK _ _ _ _ _ _ _ _ _ rfl
@[simp] def f22o6 : List IOper := [
  ⟨(some 10), .nilrow 42 7, none, none⟩]
def f22r6 : IC := .reg false [] f22o6 [10, 0, 2, 1]
@[simp] theorem f22r6_run : run tbl fin K f22r6 e H = regK tbl fin K [] f22o6 [10, 0, 2, 1] e H := run_regK _ _ _ _ _ _ _ _ _ rfl
@[simp] def f22o7 : List IOper := [
  ⟨(some 11), .nilrow 42 7, none, none⟩]
def f22r7 : IC := .reg false [] f22o7 [10, 0, 2, 1, 11]
@[simp] theorem f22r7_run : run tbl fin K f22r7 e H = regK tbl fin K [] f22o7 [10, 0, 2, 1, 11] e H := run_regK _ _ _ _ _ _ _ _ _ rfl
@[simp] def f22o8 : List IOper := [
  ⟨(some 12), .mv (.c (.int .i64 0)), none, none⟩]
def f22r8 : IC := .reg false [] f22o8 [10, 12, 0, 2, 1, 11]
@[simp] theorem f22r8_run : run tbl fin K f22r8 e H = regK tbl fin K [] f22o8 [10, 12, 0, 2, 1, 11] e H := run_regK _ _ _ _ _ _ _ _ _ rfl
@[simp] def f22o9 : List IOper := [
  ⟨(some 33), .mv (.t 12), none, none⟩,
  ⟨(some 34), .mv (.t 0), none, none⟩,
  ⟨(some 35), .len (.t 34), none, none⟩,
  ⟨(some 36), .bin .lss (.t 33) (.t 35), none, none⟩]
def f22r9 : IC := .reg false [] f22o9 [36, 10, 12, 0, 2, 1, 11]
@[simp] theorem f22r9_run : run tbl fin K f22r9 e H = regK tbl fin K [] f22o9 [36, 10, 12, 0, 2, 1, 11] e H := run_regK _ _ _ _ _ _ _ _ _ rfl
@[simp] def f22o10 : List IOper := [
  ⟨(some 39), .mv (.t 0), none, none⟩,
  ⟨(some 40), .mv (.t 12), none, none⟩,
  ⟨(some 41), .idx 7 (.t 39) (.t 40), none, none⟩,
  ⟨(some 42), .load true 7 (.t 41), none, none⟩,
  ⟨(some 13), .new 42 7 (.agg [(.int .i64 0), (.int .i64 0), (.int .i64 0), .e0, .e0, (.str []), (.bool false)]), none, none⟩,
  ⟨none, .store 7 (.t 13) (.t 42), none, none⟩]
def f22r10 : IC := .reg false [] f22o10 [10, 13, 12, 0, 2, 1, 11]
@[simp] theorem f22r10_run : run tbl fin K f22r10 e H = regK tbl fin K [] f22o10 [10, 13, 12, 0, 2, 1, 11] e H := run_regK _ _ _ _ _ _ _ _ _ rfl
@[simp] def f22o11 : List IOper := [
  ⟨(some 43), .fld 3 (.t 13), none, none⟩,
  ⟨(some 44), .load false 1 (.t 43), none, none⟩,
  ⟨(some 45), .mv (.t 1), none, none⟩,
  ⟨(some 46), .call (.c (.fn 41 [])) [(.t 44), (.t 45)], none, none⟩,
  ⟨(some 47), .un .not (.t 46), none, none⟩]
def f22r11 : IC := .reg false [] f22o11 [47, 10, 13, 12, 0, 2, 1, 11]
@[simp] theorem f22r11_run : run tbl fin K f22r11 e H = regK tbl fin K [] f22o11 [47, 10, 13, 12, 0, 2, 1, 11] e H := run_regK _ _ _ _ _ _ _ _ _ rfl
@[simp] def f22o12 : List IOper := [
  ⟨(some 48), .mv (.t 10), none, none⟩,
  ⟨(some 49), .load true 7 (.t 13), none, none⟩,
  ⟨(some 50), .mkimm 7 1 (.agg [(.int .i64 0), (.int .i64 0), (.int .i64 0), .e0, .e0, (.str []), (.bool false)]) [(0, (.t 49))], none, none⟩,
  ⟨(some 51), .app 42 7 (.t 48) (.t 50), none, none⟩,
  ⟨(some 10), .mv (.t 51), none, none⟩]
def f22r12 : IC := .reg false [] f22o12 [12, 10, 0, 2, 1, 11]
@[simp] theorem f22r12_run : run tbl fin K f22r12 e H = regK tbl fin K [] f22o12 [12, 10, 0, 2, 1, 11] e H := run_regK _ _ _ _ _ _ _ _ _ rfl
@[simp] def f22o13 : List IOper := [
  ⟨(some 14), .nilrow 3 1, none, none⟩]
def f22r13 : IC := .reg false [] f22o13 [14, 0, 10, 12, 11, 1, 13, 2]
@[simp] theorem f22r13_run : run tbl fin K f22r13 e H = regK tbl fin K [] f22o13 [14, 0, 10, 12, 11, 1, 13, 2] e H := run_regK _ _ _ _ _ _ _ _ _ rfl
@[simp] def f22o14 : List IOper := [
  ⟨(some 15), .mv (.c (.int .i64 0)), none, none⟩]
def f22r14 : IC := .reg false [] f22o14 [14, 15, 0, 10, 12, 11, 1, 13, 2]
@[simp] theorem f22r14_run : run tbl fin K f22r14 e H = regK tbl fin K [] f22o14 [14, 15, 0, 10, 12, 11, 1, 13, 2] e H := run_regK _ _ _ _ _ _ _ _ _ rfl
@[simp] def f22o15 : List IOper := [
  ⟨(some 52), .mv (.t 15), none, none⟩,
  ⟨(some 53), .fld 3 (.t 13), none, none⟩,
  ⟨(some 54), .load false 1 (.t 53), none, none⟩,
  ⟨(some 55), .len (.t 54), none, none⟩,
  ⟨(some 56), .bin .lss (.t 52) (.t 55), none, none⟩]
def f22r15 : IC := .reg false [] f22o15 [56, 14, 15, 0, 10, 12, 11, 1, 13, 2]
@[simp] theorem f22r15_run : run tbl fin K f22r15 e H = regK tbl fin K [] f22o15 [56, 14, 15, 0, 10, 12, 11, 1, 13, 2] e H := run_regK _ _ _ _ _ _ _ _ _ rfl
@[simp] def f22o16 : List IOper := [
  ⟨(some 59), .fld 3 (.t 13), none, none⟩,
  ⟨(some 60), .load false 1 (.t 59), none, none⟩,
  ⟨(some 61), .mv (.t 15), none, none⟩,
  ⟨(some 62), .idx 1 (.t 60) (.t 61), none, none⟩,
  ⟨(some 63), .load false 1 (.t 62), none, none⟩,
  ⟨(some 64), .mv (.t 1), none, none⟩,
  ⟨(some 65), .bin .eql (.t 63) (.t 64), none, none⟩]
def f22r16 : IC := .reg false [] f22o16 [65, 14, 15, 0, 10, 12, 11, 1, 13, 2]
@[simp] theorem f22r16_run : run tbl fin K f22r16 e H = regK tbl fin K [] f22o16 [65, 14, 15, 0, 10, 12, 11, 1, 13, 2] e H := run_regK _ _ _ _ _ _ _ _ _ rfl
@[simp] def f22o17 : List IOper := [
  ⟨(some 66), .mv (.t 14), none, none⟩,
  ⟨(some 67), .mv (.t 2), none, none⟩,
  ⟨(some 68), .mkimm 1 1 (.int .i64 0) [(0, (.t 67))], none, none⟩,
  ⟨(some 69), .app 3 1 (.t 66) (.t 68), none, none⟩,
  ⟨(some 14), .mv (.t 69), none, none⟩]
def f22r17 : IC := .reg false [] f22o17 [15, 14, 0, 10, 12, 11, 1, 13, 2]
@[simp] theorem f22r17_run : run tbl fin K f22r17 e H = regK tbl fin K [] f22o17 [15, 14, 0, 10, 12, 11, 1, 13, 2] e H := run_regK _ _ _ _ _ _ _ _ _ rfl
@[simp] def f22o18 : List IOper := [
  ⟨(some 70), .mv (.t 14), none, none⟩,
  ⟨(some 71), .fld 4 (.t 13), none, none⟩,
  ⟨(some 72), .load false 1 (.t 71), none, none⟩,
  ⟨(some 73), .mv (.t 15), none, none⟩,
  ⟨(some 74), .idx 1 (.t 72) (.t 73), none, none⟩,
  ⟨(some 75), .load false 1 (.t 74), none, none⟩,
  ⟨(some 76), .mkimm 1 1 (.int .i64 0) [(0, (.t 75))], none, none⟩,
  ⟨(some 77), .app 3 1 (.t 70) (.t 76), none, none⟩,
  ⟨(some 14), .mv (.t 77), none, none⟩]
def f22r18 : IC := .reg false [] f22o18 [15, 14, 0, 10, 12, 11, 1, 13, 2]
@[simp] theorem f22r18_run : run tbl fin K f22r18 e H = regK tbl fin K [] f22o18 [15, 14, 0, 10, 12, 11, 1, 13, 2] e H := run_regK _ _ _ _ _ _ _ _ _ rfl
@[simp] def f22o19 : List IOper := [
  ⟨(some 57), .mv (.t 15), none, none⟩,
  ⟨(some 58), .bin .add (.t 57) (.c (.int .i64 1)), none, none⟩,
  ⟨(some 15), .mv (.t 58), none, none⟩]
def f22r19 : IC := .reg false [] f22o19 [14, 15, 0, 10, 12, 11, 1, 13, 2]
@[simp] theorem f22r19_run : run tbl fin K f22r19 e H = regK tbl fin K [] f22o19 [14, 15, 0, 10, 12, 11, 1, 13, 2] e H := run_regK _ _ _ _ _ _ _ _ _ rfl
def f22b20 : IC := (.seq (.seq f22r15 (.cond (.t 56) .skip (.exit 2))) (.seq (.block 3 (.seq f22r16 (.cond (.t 65) f22r17 f22r18))) f22r19))
theorem f22b20_eq : f22b20 = (.seq (.seq f22r15 (.cond (.t 56) .skip (.exit 2))) (.seq (.block 3 (.seq f22r16 (.cond (.t 65) f22r17 f22r18))) f22r19)) := rfl
@[simp] def f22o21 : List IOper := [
  ⟨(some 78), .fld 2 (.t 13), none, none⟩,
  ⟨(some 79), .load false 1 (.t 78), none, none⟩,
  ⟨(some 16), .mv (.t 79), none, none⟩]
def f22r21 : IC := .reg false [] f22o21 [14, 16, 11, 13, 12, 10, 0, 2, 1]
@[simp] theorem f22r21_run : run tbl fin K f22r21 e H = regK tbl fin K [] f22o21 [14, 16, 11, 13, 12, 10, 0, 2, 1] e H := run_regK _ _ _ _ _ _ _ _ _ rfl
@[simp] def f22o22 : List IOper := [
  ⟨(some 80), .mv (.t 14), none, none⟩,
  ⟨(some 81), .fld 4 (.t 13), none, none⟩,
  ⟨none, .store 1 (.t 81) (.t 80), none, none⟩]
def f22r22 : IC := .reg false [] f22o22 [14, 16, 11, 13, 12, 10, 0, 2, 1]
@[simp] theorem f22r22_run : run tbl fin K f22r22 e H = regK tbl fin K [] f22o22 [14, 16, 11, 13, 12, 10, 0, 2, 1] e H := run_regK _ _ _ _ _ _ _ _ _ rfl
@[simp] def f22o23 : List IOper := [
  ⟨(some 82), .mv (.t 14), none, none⟩,
  ⟨(some 83), .call (.c (.fn 67 [])) [(.t 82)], none, none⟩,
  ⟨(some 84), .fld 2 (.t 13), none, none⟩,
  ⟨none, .store 1 (.t 84) (.t 83), none, none⟩]
def f22r23 : IC := .reg false [] f22o23 [16, 11, 13, 12, 10, 0, 2, 1]
@[simp] theorem f22r23_run : run tbl fin K f22r23 e H = regK tbl fin K [] f22o23 [16, 11, 13, 12, 10, 0, 2, 1] e H := run_regK _ _ _ _ _ _ _ _ _ rfl
@[simp] def f22o24 : List IOper := [
  ⟨(some 85), .fld 2 (.t 13), none, none⟩,
  ⟨(some 86), .load false 1 (.t 85), none, none⟩,
  ⟨(some 87), .mv (.t 16), none, none⟩,
  ⟨(some 88), .bin .neq (.t 86) (.t 87), none, none⟩]
def f22r24 : IC := .reg false [] f22o24 [88, 16, 11, 13, 12, 10, 0, 2, 1]
@[simp] theorem f22r24_run : run tbl fin K f22r24 e H = regK tbl fin K [] f22o24 [88, 16, 11, 13, 12, 10, 0, 2, 1] e H := run_regK _ _ _ _ _ _ _ _ _ rfl
@[simp] def f22o25 : List IOper := [
  ⟨(some 89), .fld 6 (.t 13), none, none⟩,
  ⟨none, .store 1 (.t 89) (.c (.bool false)), none, none⟩]
def f22r25 : IC := .reg false [] f22o25 [16, 11, 13, 12, 10, 0, 2, 1]
@[simp] theorem f22r25_run : run tbl fin K f22r25 e H = regK tbl fin K [] f22o25 [16, 11, 13, 12, 10, 0, 2, 1] e H := run_regK _ _ _ _ _ _ _ _ _ rfl
@[simp] def f22o26 : List IOper := [
  ⟨(some 90), .fld 2 (.t 13), none, none⟩,
  ⟨(some 91), .load false 1 (.t 90), none, none⟩,
  ⟨(some 92), .mv (.t 16), none, none⟩,
  ⟨(some 93), .bin .neq (.t 91) (.t 92), none, none⟩,
  ⟨(some 94), .mv (.t 93), none, none⟩,
  ⟨(some 95), .fld 2 (.t 13), (some (94, true)), none⟩,
  ⟨(some 96), .load false 1 (.t 95), (some (94, true)), none⟩,
  ⟨(some 97), .bin .eql (.t 96) (.c (.int .i64 2)), (some (94, true)), none⟩,
  ⟨(some 98), .pick (.t 94) (.t 97) (.c (.bool false)), none, none⟩]
def f22r26 : IC := .reg false [] f22o26 [98, 11, 13, 12, 10, 0, 2, 1]
@[simp] theorem f22r26_run : run tbl fin K f22r26 e H = regK tbl fin K [] f22o26 [98, 11, 13, 12, 10, 0, 2, 1] e H := run_regK _ _ _ _ _ _ _ _ _ rfl
@[simp] def f22o27 : List IOper := [
  ⟨(some 99), .mv (.t 11), none, none⟩,
  ⟨(some 100), .load true 7 (.t 13), none, none⟩,
  ⟨(some 101), .mkimm 7 1 (.agg [(.int .i64 0), (.int .i64 0), (.int .i64 0), .e0, .e0, (.str []), (.bool false)]) [(0, (.t 100))], none, none⟩,
  ⟨(some 102), .app 42 7 (.t 99) (.t 101), none, none⟩,
  ⟨(some 11), .mv (.t 102), none, none⟩]
def f22r27 : IC := .reg false [] f22o27 [12, 10, 0, 2, 1, 11]
@[simp] theorem f22r27_run : run tbl fin K f22r27 e H = regK tbl fin K [] f22o27 [12, 10, 0, 2, 1, 11] e H := run_regK _ _ _ _ _ _ _ _ _ rfl
@[simp] def f22o28 : List IOper := [
  ⟨(some 103), .mv (.t 10), none, none⟩,
  ⟨(some 104), .load true 7 (.t 13), none, none⟩,
  ⟨(some 105), .mkimm 7 1 (.agg [(.int .i64 0), (.int .i64 0), (.int .i64 0), .e0, .e0, (.str []), (.bool false)]) [(0, (.t 104))], none, none⟩,
  ⟨(some 106), .app 42 7 (.t 103) (.t 105), none, none⟩,
  ⟨(some 10), .mv (.t 106), none, none⟩]
def f22r28 : IC := .reg false [] f22o28 [12, 10, 0, 2, 1, 11]
@[simp] theorem f22r28_run : run tbl fin K f22r28 e H = regK tbl fin K [] f22o28 [12, 10, 0, 2, 1, 11] e H := run_regK _ _ _ _ _ _ _ _ _ rfl
@[simp] def f22o29 : List IOper := [
  ⟨(some 37), .mv (.t 12), none, none⟩,
  ⟨(some 38), .bin .add (.t 37) (.c (.int .i64 1)), none, none⟩,
  ⟨(some 12), .mv (.t 38), none, none⟩]
def f22r29 : IC := .reg false [] f22o29 [10, 12, 0, 2, 1, 11]
@[simp] theorem f22r29_run : run tbl fin K f22r29 e H = regK tbl fin K [] f22o29 [10, 12, 0, 2, 1, 11] e H := run_regK _ _ _ _ _ _ _ _ _ rfl
def f22b30 : IC := (.seq (.seq f22r9 (.cond (.t 36) .skip (.exit 0))) (.seq (.block 1 (.seq f22r10 (.seq (.seq f22r11 (.cond (.t 47) (.seq f22r12 (.exit 1)) .skip)) (.seq f22r13 (.seq (.seq f22r14 (.block 2 (.loop [14, 15, 0, 10, 12, 11, 1, 13, 2] f22b20))) (.seq f22r21 (.seq f22r22 (.seq f22r23 (.seq (.seq f22r24 (.cond (.t 88) f22r25 .skip)) (.seq f22r26 (.cond (.t 98) f22r27 f22r28))))))))))) f22r29))
theorem f22b30_eq : f22b30 = (.seq (.seq f22r9 (.cond (.t 36) .skip (.exit 0))) (.seq (.block 1 (.seq f22r10 (.seq (.seq f22r11 (.cond (.t 47) (.seq f22r12 (.exit 1)) .skip)) (.seq f22r13 (.seq (.seq f22r14 (.block 2 (.loop [14, 15, 0, 10, 12, 11, 1, 13, 2] f22b20))) (.seq f22r21 (.seq f22r22 (.seq f22r23 (.seq (.seq f22r24 (.cond (.t 88) f22r25 .skip)) (.seq f22r26 (.cond (.t 98) f22r27 f22r28))))))))))) f22r29)) := rfl
@[simp] def f22o31 : List IOper := [
  ⟨(some 107), .mv (.t 10), none, none⟩,
  ⟨(some 108), .mv (.t 11), none, none⟩,
  ⟨(some 109), .app 42 7 (.t 107) (.t 108), none, none⟩,
  ⟨(some 6), .mv (.t 109), none, none⟩,
  ⟨(some 7), .mv (.c (.bool true)), none, none⟩]
def f22r31 : IC := .reg false [] f22o31 [6, 7]
@[simp] theorem f22r31_run : run tbl fin K f22r31 e H = regK tbl fin K [] f22o31 [6, 7] e H := run_regK _ _ _ _ _ _ _ _ _ rfl
def f22body : IC := (.seq f22r0 (.seq f22r1 (.seq (.seq f22r2 (.cond (.t 29) (.seq f22r3 .ret) .skip)) (.seq (.seq f22r4 (.cond (.t 32) f22r5 .skip)) (.seq f22r6 (.seq f22r7 (.seq (.seq f22r8 (.block 0 (.loop [10, 12, 0, 2, 1, 11] f22b30))) (.seq f22r31 .ret))))))))
def f22 : IFn := ⟨110, 3, [.tmp 6, .tmp 7], f22body⟩
/- 23: jobshell/jobs.News -/
@[simp] def f23o0 : List IOper := [
  ⟨(some 2), .nilrow 42 7, none, none⟩,
  ⟨(some 3), .nilrow 9 1, none, none⟩]
def f23r0 : IC := .reg false [] f23o0 [0]
@[simp] theorem f23r0_run : run tbl fin K f23r0 e H = regK tbl fin K [] f23o0 [0] e H := run_regK _ _ _ _ _ _ _ _ _ rfl
@[simp] def f23o1 : List IOper := [
  ⟨(some 4), .nilrow 42 7, none, none⟩]
def f23r1 : IC := .reg false [] f23o1 [4, 0]
@[simp] theorem f23r1_run : run tbl fin K f23r1 e H = regK tbl fin K [] f23o1 [4, 0] e H := run_regK _ _ _ _ _ _ _ _ _ rfl
@[simp] def f23o2 : List IOper := [
  ⟨(some 5), .nilrow 9 1, none, none⟩]
def f23r2 : IC := .reg false [] f23o2 [5, 4, 0]
@[simp] theorem f23r2_run : run tbl fin K f23r2 e H = regK tbl fin K [] f23o2 [5, 4, 0] e H := run_regK _ _ _ _ _ _ _ _ _ rfl
@[simp] def f23o3 : List IOper := [
  ⟨(some 8), .mv (.t 0), none, none⟩,
  ⟨(some 9), .call (.c (.fn 39 [])) [(.t 8)], none, none⟩,
  ⟨(some 10), .len (.t 9), none, none⟩,
  ⟨(some 11), .mv (.c (.int .i64 0)), none, none⟩]
def f23r3 : IC := .reg false [] f23o3 [5, 4, 11, 10, 9, 0]
@[simp] theorem f23r3_run : run tbl fin K f23r3 e H = regK tbl fin K [] f23o3 [5, 4, 11, 10, 9, 0] e H := run_regK _ _ _ _ _ _ _ _ _ rfl
@[simp] def f23o4 : List IOper := [
  ⟨(some 12), .bin .lss (.t 11) (.t 10), none, none⟩]
def f23r4 : IC := .reg false [] f23o4 [12, 5, 4, 11, 10, 9, 0]
@[simp] theorem f23r4_run : run tbl fin K f23r4 e H = regK tbl fin K [] f23o4 [12, 5, 4, 11, 10, 9, 0] e H := run_regK _ _ _ _ _ _ _ _ _ rfl
@[simp] def f23o5 : List IOper := [
  ⟨(some 13), .mv (.t 11), none, none⟩,
  ⟨(some 14), .idx 7 (.t 9) (.t 11), none, none⟩,
  ⟨(some 15), .load true 7 (.t 14), none, none⟩,
  ⟨(some 7), .new 42 7 (.agg [(.int .i64 0), (.int .i64 0), (.int .i64 0), .e0, .e0, (.str []), (.bool false)]), none, none⟩,
  ⟨(some 6), .mv (.t 13), none, none⟩,
  ⟨none, .store 7 (.t 7) (.t 15), none, none⟩]
def f23r5 : IC := .reg false [] f23o5 [5, 6, 4, 7, 11, 10, 9, 0]
@[simp] theorem f23r5_run : run tbl fin K f23r5 e H = regK tbl fin K [] f23o5 [5, 6, 4, 7, 11, 10, 9, 0] e H := run_regK _ _ _ _ _ _ _ _ _ rfl
@[simp] def f23o6 : List IOper := [
  ⟨(some 16), .fld 6 (.t 7), none, none⟩,
  ⟨(some 17), .load false 1 (.t 16), none, none⟩,
  ⟨(some 18), .un .not (.t 17), none, none⟩]
def f23r6 : IC := .reg false [] f23o6 [18, 5, 6, 4, 7, 11, 10, 9, 0]
@[simp] theorem f23r6_run : run tbl fin K f23r6 e H = regK tbl fin K [] f23o6 [18, 5, 6, 4, 7, 11, 10, 9, 0] e H := run_regK _ _ _ _ _ _ _ _ _ rfl
@[simp] def f23o7 : List IOper := [
  ⟨(some 19), .mv (.t 5), none, none⟩,
  ⟨(some 20), .mv (.t 0), none, none⟩,
  ⟨(some 21), .mv (.t 6), none, none⟩,
  ⟨(some 22), .call (.c (.fn 18 [])) [(.t 20), (.t 21), (.c (.bool false))], none, none⟩,
  ⟨(some 23), .mkimm 1 1 (.str []) [(0, (.t 22))], none, none⟩,
  ⟨(some 24), .app 9 1 (.t 19) (.t 23), none, none⟩,
  ⟨(some 5), .mv (.t 24), none, none⟩]
def f23r7 : IC := .reg false [] f23o7 [4, 7, 11, 5, 10, 9, 0]
@[simp] theorem f23r7_run : run tbl fin K f23r7 e H = regK tbl fin K [] f23o7 [4, 7, 11, 5, 10, 9, 0] e H := run_regK _ _ _ _ _ _ _ _ _ rfl
@[simp] def f23o8 : List IOper := [
  ⟨(some 25), .fld 2 (.t 7), none, none⟩,
  ⟨(some 26), .load false 1 (.t 25), none, none⟩,
  ⟨(some 27), .bin .neq (.t 26) (.c (.int .i64 3)), none, none⟩]
def f23r8 : IC := .reg false [] f23o8 [27, 4, 7, 11, 5, 10, 9, 0]
@[simp] theorem f23r8_run : run tbl fin K f23r8 e H = regK tbl fin K [] f23o8 [27, 4, 7, 11, 5, 10, 9, 0] e H := run_regK _ _ _ _ _ _ _ _ _ rfl
@[simp] def f23o9 : List IOper := [
  ⟨(some 28), .fld 6 (.t 7), none, none⟩,
  ⟨none, .store 1 (.t 28) (.c (.bool true)), none, none⟩]
def f23r9 : IC := .reg false [] f23o9 [4, 7, 11, 5, 10, 9, 0]
@[simp] theorem f23r9_run : run tbl fin K f23r9 e H = regK tbl fin K [] f23o9 [4, 7, 11, 5, 10, 9, 0] e H := run_regK _ _ _ _ _ _ _ _ _ rfl
@[simp] def f23o10 : List IOper := [
  ⟨(some 29), .mv (.t 4), none, none⟩,
  ⟨(some 30), .load true 7 (.t 7), none, none⟩,
  ⟨(some 31), .mkimm 7 1 (.agg [(.int .i64 0), (.int .i64 0), (.int .i64 0), .e0, .e0, (.str []), (.bool false)]) [(0, (.t 30))], none, none⟩,
  ⟨(some 32), .app 42 7 (.t 29) (.t 31), none, none⟩,
  ⟨(some 4), .mv (.t 32), none, none⟩]
def f23r10 : IC := .reg false [] f23o10 [11, 5, 4, 10, 9, 0]
@[simp] theorem f23r10_run : run tbl fin K f23r10 e H = regK tbl fin K [] f23o10 [11, 5, 4, 10, 9, 0] e H := run_regK _ _ _ _ _ _ _ _ _ rfl
@[simp] def f23o11 : List IOper := [
  ⟨(some 33), .bin .add (.t 11) (.c (.int .i64 1)), none, none⟩,
  ⟨(some 11), .mv (.t 33), none, none⟩]
def f23r11 : IC := .reg false [] f23o11 [5, 4, 11, 10, 9, 0]
@[simp] theorem f23r11_run : run tbl fin K f23r11 e H = regK tbl fin K [] f23o11 [5, 4, 11, 10, 9, 0] e H := run_regK _ _ _ _ _ _ _ _ _ rfl
def f23b12 : IC := (.seq f23r4 (.seq (.cond (.t 12) .skip (.exit 0)) (.seq (.block 1 (.seq f23r5 (.seq (.seq f23r6 (.cond (.t 18) f23r7 .skip)) (.seq f23r8 (.cond (.t 27) (.seq f23r9 f23r10) .skip))))) f23r11)))
theorem f23b12_eq : f23b12 = (.seq f23r4 (.seq (.cond (.t 12) .skip (.exit 0)) (.seq (.block 1 (.seq f23r5 (.seq (.seq f23r6 (.cond (.t 18) f23r7 .skip)) (.seq f23r8 (.cond (.t 27) (.seq f23r9 f23r10) .skip))))) f23r11))) := rfl
@[simp] def f23o13 : List IOper := [
  ⟨(some 34), .mv (.t 4), none, none⟩,
  ⟨(some 35), .mv (.t 5), none, none⟩,
  ⟨(some 2), .mv (.t 34), none, none⟩,
  ⟨(some 3), .mv (.t 35), none, none⟩]
def f23r13 : IC := .reg false [] f23o13 [2, 3]
@[simp] theorem f23r13_run : run tbl fin K f23r13 e H = regK tbl fin K [] f23o13 [2, 3] e H := run_regK _ _ _ _ _ _ _ _ _ rfl
def f23body : IC := (.seq f23r0 (.seq f23r1 (.seq f23r2 (.seq (.seq f23r3 (.block 0 (.loop [5, 4, 11, 10, 9, 0] f23b12))) (.seq f23r13 .ret)))))
def f23 : IFn := ⟨36, 1, [.tmp 2, .tmp 3], f23body⟩
/- 24: jobshell/jobshellref36.News -/
@[simp] def f24o0 : List IOper := [
  ⟨(some 2), .nilrow 42 7, none, none⟩,
  ⟨(some 3), .nilrow 9 1, none, none⟩]
def f24r0 : IC := .reg false [] f24o0 [0]
@[simp] theorem f24r0_run : run tbl fin K f24r0 e H = regK tbl fin K [] f24o0 [0] e H := run_regK _ _ _ _ _ _ _ _ _ rfl
@[simp] def f24o1 : List IOper := [
  ⟨(some 4), .nilrow 42 7, none, none⟩]
def f24r1 : IC := .reg false [] f24o1 [4, 0]
@[simp] theorem f24r1_run : run tbl fin K f24r1 e H = regK tbl fin K [] f24o1 [4, 0] e H := run_regK _ _ _ _ _ _ _ _ _ rfl
@[simp] def f24o2 : List IOper := [
  ⟨(some 5), .nilrow 9 1, none, none⟩]
def f24r2 : IC := .reg false [] f24o2 [5, 4, 0]
@[simp] theorem f24r2_run : run tbl fin K f24r2 e H = regK tbl fin K [] f24o2 [5, 4, 0] e H := run_regK _ _ _ _ _ _ _ _ _ rfl
@[simp] def f24o3 : List IOper := [
  ⟨(some 6), .mv (.c (.int .i64 0)), none, none⟩]
def f24r3 : IC := .reg false [] f24o3 [5, 4, 6, 0]
@[simp] theorem f24r3_run : run tbl fin K f24r3 e H = regK tbl fin K [] f24o3 [5, 4, 6, 0] e H := run_regK _ _ _ _ _ _ _ _ _ rfl
@[simp] def f24o4 : List IOper := [
  ⟨(some 8), .mv (.t 6), none, none⟩,
  ⟨(some 9), .mv (.t 0), none, none⟩,
  ⟨(some 10), .len (.t 9), none, none⟩,
  ⟨(some 11), .bin .lss (.t 8) (.t 10), none, none⟩]
def f24r4 : IC := .reg false [] f24o4 [11, 5, 4, 6, 0]
@[simp] theorem f24r4_run : run tbl fin K f24r4 e H = regK tbl fin K [] f24o4 [11, 5, 4, 6, 0] e H := run_regK _ _ _ _ _ _ _ _ _ rfl
@[simp] def f24o5 : List IOper := [
  ⟨(some 14), .mv (.t 0), none, none⟩,
  ⟨(some 15), .mv (.t 6), none, none⟩,
  ⟨(some 16), .idx 7 (.t 14) (.t 15), none, none⟩,
  ⟨(some 17), .load true 7 (.t 16), none, none⟩,
  ⟨(some 7), .new 42 7 (.agg [(.int .i64 0), (.int .i64 0), (.int .i64 0), .e0, .e0, (.str []), (.bool false)]), none, none⟩,
  ⟨none, .store 7 (.t 7) (.t 17), none, none⟩]
def f24r5 : IC := .reg false [] f24o5 [5, 4, 7, 6, 0]
@[simp] theorem f24r5_run : run tbl fin K f24r5 e H = regK tbl fin K [] f24o5 [5, 4, 7, 6, 0] e H := run_regK _ _ _ _ _ _ _ _ _ rfl
@[simp] def f24o6 : List IOper := [
  ⟨(some 18), .fld 6 (.t 7), none, none⟩,
  ⟨(some 19), .load false 1 (.t 18), none, none⟩,
  ⟨(some 20), .un .not (.t 19), none, none⟩]
def f24r6 : IC := .reg false [] f24o6 [20, 5, 4, 7, 6, 0]
@[simp] theorem f24r6_run : run tbl fin K f24r6 e H = regK tbl fin K [] f24o6 [20, 5, 4, 7, 6, 0] e H := run_regK _ _ _ _ _ _ _ _ _ rfl
@[simp] def f24o7 : List IOper := [
  ⟨(some 21), .mv (.t 5), none, none⟩,
  ⟨(some 22), .mv (.t 0), none, none⟩,
  ⟨(some 23), .mv (.t 6), none, none⟩,
  ⟨(some 24), .call (.c (.fn 19 [])) [(.t 22), (.t 23), (.c (.bool false))], none, none⟩,
  ⟨(some 25), .mkimm 1 1 (.str []) [(0, (.t 24))], none, none⟩,
  ⟨(some 26), .app 9 1 (.t 21) (.t 25), none, none⟩,
  ⟨(some 5), .mv (.t 26), none, none⟩]
def f24r7 : IC := .reg false [] f24o7 [4, 7, 6, 5, 0]
@[simp] theorem f24r7_run : run tbl fin K f24r7 e H = regK tbl fin K [] f24o7 [4, 7, 6, 5, 0] e H := run_regK _ _ _ _ _ _ _ _ _ rfl
@[simp] def f24o8 : List IOper := [
  ⟨(some 27), .fld 2 (.t 7), none, none⟩,
  ⟨(some 28), .load false 1 (.t 27), none, none⟩,
  ⟨(some 29), .bin .neq (.t 28) (.c (.int .i64 3)), none, none⟩]
def f24r8 : IC := .reg false [] f24o8 [29, 4, 7, 6, 5, 0]
@[simp] theorem f24r8_run : run tbl fin K f24r8 e H = regK tbl fin K [] f24o8 [29, 4, 7, 6, 5, 0] e H := run_regK _ _ _ _ _ _ _ _ _ rfl
@[simp] def f24o9 : List IOper := [
  ⟨(some 30), .fld 6 (.t 7), none, none⟩,
  ⟨none, .store 1 (.t 30) (.c (.bool true)), none, none⟩]
def f24r9 : IC := .reg false [] f24o9 [4, 7, 6, 5, 0]
@[simp] theorem f24r9_run : run tbl fin K f24r9 e H = regK tbl fin K [] f24o9 [4, 7, 6, 5, 0] e H := run_regK _ _ _ _ _ _ _ _ _ rfl
@[simp] def f24o10 : List IOper := [
  ⟨(some 31), .mv (.t 4), none, none⟩,
  ⟨(some 32), .load true 7 (.t 7), none, none⟩,
  ⟨(some 33), .mkimm 7 1 (.agg [(.int .i64 0), (.int .i64 0), (.int .i64 0), .e0, .e0, (.str []), (.bool false)]) [(0, (.t 32))], none, none⟩,
  ⟨(some 34), .app 42 7 (.t 31) (.t 33), none, none⟩,
  ⟨(some 4), .mv (.t 34), none, none⟩]
def f24r10 : IC := .reg false [] f24o10 [6, 5, 4, 0]
@[simp] theorem f24r10_run : run tbl fin K f24r10 e H = regK tbl fin K [] f24o10 [6, 5, 4, 0] e H := run_regK _ _ _ _ _ _ _ _ _ rfl
@[simp] def f24o11 : List IOper := [
  ⟨(some 12), .mv (.t 6), none, none⟩,
  ⟨(some 13), .bin .add (.t 12) (.c (.int .i64 1)), none, none⟩,
  ⟨(some 6), .mv (.t 13), none, none⟩]
def f24r11 : IC := .reg false [] f24o11 [5, 4, 6, 0]
@[simp] theorem f24r11_run : run tbl fin K f24r11 e H = regK tbl fin K [] f24o11 [5, 4, 6, 0] e H := run_regK _ _ _ _ _ _ _ _ _ rfl
def f24b12 : IC := (.seq (.seq f24r4 (.cond (.t 11) .skip (.exit 0))) (.seq (.block 1 (.seq f24r5 (.seq (.seq f24r6 (.cond (.t 20) f24r7 .skip)) (.seq f24r8 (.cond (.t 29) (.seq f24r9 f24r10) .skip))))) f24r11))
theorem f24b12_eq : f24b12 = (.seq (.seq f24r4 (.cond (.t 11) .skip (.exit 0))) (.seq (.block 1 (.seq f24r5 (.seq (.seq f24r6 (.cond (.t 20) f24r7 .skip)) (.seq f24r8 (.cond (.t 29) (.seq f24r9 f24r10) .skip))))) f24r11)) := rfl
@[simp] def f24o13 : List IOper := [
  ⟨(some 35), .mv (.t 4), none, none⟩,
  ⟨(some 36), .mv (.t 5), none, none⟩,
  ⟨(some 2), .mv (.t 35), none, none⟩,
  ⟨(some 3), .mv (.t 36), none, none⟩]
def f24r13 : IC := .reg false [] f24o13 [2, 3]
@[simp] theorem f24r13_run : run tbl fin K f24r13 e H = regK tbl fin K [] f24o13 [2, 3] e H := run_regK _ _ _ _ _ _ _ _ _ rfl
def f24body : IC := (.seq f24r0 (.seq f24r1 (.seq f24r2 (.seq (.seq f24r3 (.block 0 (.loop [5, 4, 6, 0] f24b12))) (.seq f24r13 .ret)))))
def f24 : IFn := ⟨37, 1, [.tmp 2, .tmp 3], f24body⟩
/- 25: jobshell/jobshelllaw36.texts -/
@[simp] def f25o0 : List IOper := [
  ⟨(some 4), .mv (.c (.bool false)), none, none⟩]
def f25r0 : IC := .reg false [] f25o0 [1, 0]
@[simp] theorem f25r0_run : run tbl fin K f25r0 e H = regK tbl fin K [] f25o0 [1, 0] e H := run_regK _ _ _ _ _ _ _ _ _ rfl
@[simp] def f25o1 : List IOper := [
  ⟨(some 6), .mv (.t 0), none, none⟩,
  ⟨(some 7), .len (.t 6), none, none⟩,
  ⟨(some 8), .mv (.t 1), none, none⟩,
  ⟨(some 9), .len (.t 8), none, none⟩,
  ⟨(some 10), .bin .neq (.t 7) (.t 9), none, none⟩]
def f25r1 : IC := .reg false [] f25o1 [10, 1, 0]
@[simp] theorem f25r1_run : run tbl fin K f25r1 e H = regK tbl fin K [] f25o1 [10, 1, 0] e H := run_regK _ _ _ _ _ _ _ _ _ rfl
@[simp] def f25o2 : List IOper := [
  ⟨(some 4), .mv (.c (.bool false)), none, none⟩]
def f25r2 : IC := .reg false [] f25o2 [4]
@[simp] theorem f25r2_run : run tbl fin K f25r2 e H = regK tbl fin K [] f25o2 [4] e H := run_regK _ _ _ _ _ _ _ _ _ rfl
@[simp] def f25o3 : List IOper := [
  ⟨(some 5), .mv (.c (.int .i64 0)), none, none⟩]
def f25r3 : IC := .reg false [] f25o3 [0, 1, 5]
@[simp] theorem f25r3_run : run tbl fin K f25r3 e H = regK tbl fin K [] f25o3 [0, 1, 5] e H := run_regK _ _ _ _ _ _ _ _ _ rfl
@[simp] def f25o4 : List IOper := [
  ⟨(some 11), .mv (.t 5), none, none⟩,
  ⟨(some 12), .mv (.t 0), none, none⟩,
  ⟨(some 13), .len (.t 12), none, none⟩,
  ⟨(some 14), .bin .lss (.t 11) (.t 13), none, none⟩]
def f25r4 : IC := .reg false [] f25o4 [14, 1, 0, 5]
@[simp] theorem f25r4_run : run tbl fin K f25r4 e H = regK tbl fin K [] f25o4 [14, 1, 0, 5] e H := run_regK _ _ _ _ _ _ _ _ _ rfl
@[simp] def f25o5 : List IOper := [
  ⟨(some 17), .mv (.t 0), none, none⟩,
  ⟨(some 18), .mv (.t 5), none, none⟩,
  ⟨(some 19), .idx 1 (.t 17) (.t 18), none, none⟩,
  ⟨(some 20), .load false 1 (.t 19), none, none⟩,
  ⟨(some 21), .mv (.t 1), none, none⟩,
  ⟨(some 22), .mv (.t 5), none, none⟩,
  ⟨(some 23), .idx 1 (.t 21) (.t 22), none, none⟩,
  ⟨(some 24), .load false 1 (.t 23), none, none⟩,
  ⟨(some 25), .bin .neq (.t 20) (.t 24), none, none⟩]
def f25r5 : IC := .reg true [] f25o5 [25, 1, 0, 5]
@[simp] theorem f25r5_run : run tbl fin K f25r5 e H = regK tbl fin K [] f25o5 [25, 1, 0, 5] e H := run_regK _ _ _ _ _ _ _ _ _ rfl
@[simp] def f25o6 : List IOper := [
  ⟨(some 4), .mv (.c (.bool false)), none, none⟩]
def f25r6 : IC := .reg false [] f25o6 [4]
@[simp] theorem f25r6_run : run tbl fin K f25r6 e H = regK tbl fin K [] f25o6 [4] e H := run_regK _ _ _ _ _ _ _ _ _ rfl
@[simp] def f25o7 : List IOper := [
  ⟨(some 15), .mv (.t 5), none, none⟩,
  ⟨(some 16), .bin .add (.t 15) (.c (.int .i64 1)), none, none⟩,
  ⟨(some 5), .mv (.t 16), none, none⟩]
def f25r7 : IC := .reg false [] f25o7 [0, 1, 5]
@[simp] theorem f25r7_run : run tbl fin K f25r7 e H = regK tbl fin K [] f25o7 [0, 1, 5] e H := run_regK _ _ _ _ _ _ _ _ _ rfl
def f25b8 : IC := (.seq (.seq f25r4 (.cond (.t 14) .skip (.exit 0))) (.seq (.block 1 (.seq f25r5 (.cond (.t 25) (.seq f25r6 .ret) .skip))) f25r7))
theorem f25b8_eq : f25b8 = (.seq (.seq f25r4 (.cond (.t 14) .skip (.exit 0))) (.seq (.block 1 (.seq f25r5 (.cond (.t 25) (.seq f25r6 .ret) .skip))) f25r7)) := rfl
@[simp] def f25o9 : List IOper := [
  ⟨(some 4), .mv (.c (.bool true)), none, none⟩]
def f25r9 : IC := .reg false [] f25o9 [4]
@[simp] theorem f25r9_run : run tbl fin K f25r9 e H = regK tbl fin K [] f25o9 [4] e H := run_regK _ _ _ _ _ _ _ _ _ rfl
def f25body : IC := (.seq f25r0 (.seq (.seq f25r1 (.cond (.t 10) (.seq f25r2 .ret) .skip)) (.seq (.seq f25r3 (.block 0 (.loop [0, 1, 5] f25b8))) (.seq f25r9 .ret))))
def f25 : IFn := ⟨26, 2, [.tmp 4], f25body⟩
/- 26: jobshell/jobshellref36.Small -/
@[simp] def f26o0 : List IOper := [
  ⟨(some 2), .mv (.c (.bool false)), none, none⟩]
def f26r0 : IC := .reg false [] f26o0 [0]
@[simp] theorem f26r0_run : run tbl fin K f26r0 e H = regK tbl fin K [] f26o0 [0] e H := run_regK _ _ _ _ _ _ _ _ _ rfl
@[simp] def f26o1 : List IOper := [
  ⟨(some 3), .mv (.c (.int .i64 0)), none, none⟩]
def f26r1 : IC := .reg false [] f26o1 [0, 3]
@[simp] theorem f26r1_run : run tbl fin K f26r1 e H = regK tbl fin K [] f26o1 [0, 3] e H := run_regK _ _ _ _ _ _ _ _ _ rfl
@[simp] def f26o2 : List IOper := [
  ⟨(some 4), .mv (.c (.int .i64 0)), none, none⟩]
def f26r2 : IC := .reg false [] f26o2 [0, 4, 3]
@[simp] theorem f26r2_run : run tbl fin K f26r2 e H = regK tbl fin K [] f26o2 [0, 4, 3] e H := run_regK _ _ _ _ _ _ _ _ _ rfl
@[simp] def f26o3 : List IOper := [
  ⟨(some 5), .mv (.t 4), none, none⟩,
  ⟨(some 6), .mv (.t 0), none, none⟩,
  ⟨(some 7), .len (.t 6), none, none⟩,
  ⟨(some 8), .bin .lss (.t 5) (.t 7), none, none⟩,
  ⟨(some 9), .mv (.t 8), none, none⟩,
  ⟨(some 10), .mv (.t 4), (some (9, true)), none⟩,
  ⟨(some 11), .bin .lss (.t 10) (.c (.int .i64 40)), (some (9, true)), none⟩,
  ⟨(some 12), .pick (.t 9) (.t 11) (.c (.bool false)), none, some [12, 0, 4, 3]⟩,
  ⟨(some 13), .mv (.t 12), none, none⟩,
  ⟨(some 14), .mv (.t 3), (some (13, true)), none⟩,
  ⟨(some 15), .bin .lss (.t 14) (.c (.int .i64 20000)), (some (13, true)), none⟩,
  ⟨(some 16), .pick (.t 13) (.t 15) (.c (.bool false)), none, none⟩]
def f26r3 : IC := .reg false [] f26o3 [16, 0, 4, 3]
@[simp] theorem f26r3_run : run tbl fin K f26r3 e H = regK tbl fin K [] f26o3 [16, 0, 4, 3] e H := run_regK _ _ _ _ _ _ _ _ _ rfl
@[simp] def f26o4 : List IOper := [
  ⟨(some 19), .mv (.t 0), none, none⟩,
  ⟨(some 20), .mv (.t 4), none, none⟩,
  ⟨(some 21), .idx 7 (.t 19) (.t 20), none, none⟩,
  ⟨(some 22), .fld 3 (.t 21), none, none⟩,
  ⟨(some 23), .load false 1 (.t 22), none, none⟩,
  ⟨(some 24), .len (.t 23), none, none⟩,
  ⟨(some 25), .bin .gtr (.t 24) (.c (.int .i64 40)), none, none⟩,
  ⟨(some 26), .mv (.t 25), none, some [26, 0, 4, 3]⟩,
  ⟨(some 27), .mv (.t 0), (some (26, false)), none⟩,
  ⟨(some 28), .mv (.t 4), (some (26, false)), none⟩,
  ⟨(some 29), .idx 7 (.t 27) (.t 28), (some (26, false)), none⟩,
  ⟨(some 30), .fld 4 (.t 29), (some (26, false)), none⟩,
  ⟨(some 31), .load false 1 (.t 30), (some (26, false)), none⟩,
  ⟨(some 32), .len (.t 31), (some (26, false)), none⟩,
  ⟨(some 33), .bin .gtr (.t 32) (.c (.int .i64 40)), (some (26, false)), none⟩,
  ⟨(some 34), .pick (.t 26) (.c (.bool true)) (.t 33), none, some [34, 0, 4, 3]⟩,
  ⟨(some 35), .mv (.t 34), none, none⟩,
  ⟨(some 36), .mv (.t 0), (some (35, false)), none⟩,
  ⟨(some 37), .mv (.t 4), (some (35, false)), none⟩,
  ⟨(some 38), .idx 7 (.t 36) (.t 37), (some (35, false)), none⟩,
  ⟨(some 39), .fld 5 (.t 38), (some (35, false)), none⟩,
  ⟨(some 40), .load false 1 (.t 39), (some (35, false)), none⟩,
  ⟨(some 41), .slen (.t 40), (some (35, false)), none⟩,
  ⟨(some 42), .bin .gtr (.t 41) (.c (.int .i64 5000)), (some (35, false)), some [42, 35, 0, 4, 3]⟩,
  ⟨(some 43), .pick (.t 35) (.c (.bool true)) (.t 42), none, none⟩]
def f26r4 : IC := .reg false [] f26o4 [43, 0, 4, 3]
@[simp] theorem f26r4_run : run tbl fin K f26r4 e H = regK tbl fin K [] f26o4 [43, 0, 4, 3] e H := run_regK _ _ _ _ _ _ _ _ _ rfl
@[simp] def f26o5 : List IOper := [
  ⟨(some 2), .mv (.c (.bool false)), none, none⟩]
def f26r5 : IC := .reg false [] f26o5 [2]
@[simp] theorem f26r5_run : run tbl fin K f26r5 e H = regK tbl fin K [] f26o5 [2] e H := run_regK _ _ _ _ _ _ _ _ _ rfl
@[simp] def f26o6 : List IOper := [
  ⟨(some 44), .mv (.t 3), none, none⟩,
  ⟨(some 45), .mv (.t 0), none, none⟩,
  ⟨(some 46), .mv (.t 4), none, none⟩,
  ⟨(some 47), .idx 7 (.t 45) (.t 46), none, none⟩,
  ⟨(some 48), .fld 5 (.t 47), none, none⟩,
  ⟨(some 49), .load false 1 (.t 48), none, none⟩,
  ⟨(some 50), .slen (.t 49), none, none⟩,
  ⟨(some 51), .bin .add (.t 44) (.t 50), none, none⟩,
  ⟨(some 3), .mv (.t 51), none, none⟩]
def f26r6 : IC := .reg false [] f26o6 [4, 0, 3]
@[simp] theorem f26r6_run : run tbl fin K f26r6 e H = regK tbl fin K [] f26o6 [4, 0, 3] e H := run_regK _ _ _ _ _ _ _ _ _ rfl
@[simp] def f26o7 : List IOper := [
  ⟨(some 17), .mv (.t 4), none, none⟩,
  ⟨(some 18), .bin .add (.t 17) (.c (.int .i64 1)), none, none⟩,
  ⟨(some 4), .mv (.t 18), none, none⟩]
def f26r7 : IC := .reg false [] f26o7 [0, 4, 3]
@[simp] theorem f26r7_run : run tbl fin K f26r7 e H = regK tbl fin K [] f26o7 [0, 4, 3] e H := run_regK _ _ _ _ _ _ _ _ _ rfl
def f26b8 : IC := (.seq (.seq f26r3 (.cond (.t 16) .skip (.exit 0))) (.seq (.block 1 (.seq (.seq f26r4 (.cond (.t 43) (.seq f26r5 .ret) .skip)) f26r6)) f26r7))
theorem f26b8_eq : f26b8 = (.seq (.seq f26r3 (.cond (.t 16) .skip (.exit 0))) (.seq (.block 1 (.seq (.seq f26r4 (.cond (.t 43) (.seq f26r5 .ret) .skip)) f26r6)) f26r7)) := rfl
@[simp] def f26o9 : List IOper := [
  ⟨(some 52), .mv (.t 0), none, none⟩,
  ⟨(some 53), .len (.t 52), none, none⟩,
  ⟨(some 54), .bin .leq (.t 53) (.c (.int .i64 40)), none, none⟩,
  ⟨(some 55), .mv (.t 54), none, none⟩,
  ⟨(some 56), .mv (.t 3), (some (55, true)), none⟩,
  ⟨(some 57), .bin .lss (.t 56) (.c (.int .i64 20000)), (some (55, true)), none⟩,
  ⟨(some 58), .pick (.t 55) (.t 57) (.c (.bool false)), none, none⟩,
  ⟨(some 2), .mv (.t 58), none, none⟩]
def f26r9 : IC := .reg false [] f26o9 [2]
@[simp] theorem f26r9_run : run tbl fin K f26r9 e H = regK tbl fin K [] f26o9 [2] e H := run_regK _ _ _ _ _ _ _ _ _ rfl
def f26body : IC := (.seq f26r0 (.seq f26r1 (.seq (.seq f26r2 (.block 0 (.loop [0, 4, 3] f26b8))) (.seq f26r9 .ret))))
def f26 : IFn := ⟨59, 1, [.tmp 2], f26body⟩
/- 27: jobshell/jobs.Status -/
@[simp] def f27o0 : List IOper := [
  ⟨(some 1), .box 42 7 (.t 0), none, none⟩,
  ⟨(some 2), .mv (.c (.int .i64 0)), none, none⟩]
def f27r0 : IC := .reg false [] f27o0 [1]
@[simp] theorem f27r0_run : run tbl fin K f27r0 e H = regK tbl fin K [] f27o0 [1] e H := run_regK _ _ _ _ _ _ _ _ _ rfl
@[simp] def f27o1 : List IOper := [
  ⟨(some 4), .fld 4 (.t 1), none, none⟩,
  ⟨(some 5), .load false 1 (.t 4), none, none⟩,
  ⟨(some 6), .len (.t 5), none, none⟩,
  ⟨(some 3), .mv (.t 6), none, none⟩]
def f27r1 : IC := .reg false [] f27o1 [3, 1]
@[simp] theorem f27r1_run : run tbl fin K f27r1 e H = regK tbl fin K [] f27o1 [3, 1] e H := run_regK _ _ _ _ _ _ _ _ _ rfl
@[simp] def f27o2 : List IOper := [
  ⟨(some 7), .mv (.t 3), none, none⟩,
  ⟨(some 8), .bin .eql (.t 7) (.c (.int .i64 0)), none, none⟩,
  ⟨(some 9), .mv (.t 8), none, none⟩,
  ⟨(some 10), .fld 4 (.t 1), (some (9, false)), none⟩,
  ⟨(some 11), .load false 1 (.t 10), (some (9, false)), none⟩,
  ⟨(some 12), .mv (.t 3), (some (9, false)), none⟩,
  ⟨(some 13), .bin .sub (.t 12) (.c (.int .i64 1)), (some (9, false)), none⟩,
  ⟨(some 14), .idx 1 (.t 11) (.t 13), (some (9, false)), none⟩,
  ⟨(some 15), .load false 1 (.t 14), (some (9, false)), none⟩,
  ⟨(some 16), .bin .eql (.t 15) (.c (.int .i64 (-1))), (some (9, false)), none⟩,
  ⟨(some 17), .pick (.t 9) (.c (.bool true)) (.t 16), none, none⟩]
def f27r2 : IC := .reg false [] f27o2 [17, 3, 1]
@[simp] theorem f27r2_run : run tbl fin K f27r2 e H = regK tbl fin K [] f27o2 [17, 3, 1] e H := run_regK _ _ _ _ _ _ _ _ _ rfl
@[simp] def f27o3 : List IOper := [
  ⟨(some 2), .mv (.c (.int .i64 0)), none, none⟩]
def f27r3 : IC := .reg false [] f27o3 [2]
@[simp] theorem f27r3_run : run tbl fin K f27r3 e H = regK tbl fin K [] f27o3 [2] e H := run_regK _ _ _ _ _ _ _ _ _ rfl
@[simp] def f27o4 : List IOper := [
  ⟨(some 18), .fld 4 (.t 1), none, none⟩,
  ⟨(some 19), .load false 1 (.t 18), none, none⟩,
  ⟨(some 20), .mv (.t 3), none, none⟩,
  ⟨(some 21), .bin .sub (.t 20) (.c (.int .i64 1)), none, none⟩,
  ⟨(some 22), .idx 1 (.t 19) (.t 21), none, none⟩,
  ⟨(some 23), .load false 1 (.t 22), none, none⟩,
  ⟨(some 24), .call (.c (.fn 68 [])) [(.t 23)], none, none⟩,
  ⟨(some 2), .mv (.t 24), none, none⟩]
def f27r4 : IC := .reg false [] f27o4 [2]
@[simp] theorem f27r4_run : run tbl fin K f27r4 e H = regK tbl fin K [] f27o4 [2] e H := run_regK _ _ _ _ _ _ _ _ _ rfl
def f27body : IC := (.seq f27r0 (.seq f27r1 (.seq (.seq f27r2 (.cond (.t 17) (.seq f27r3 .ret) .skip)) (.seq f27r4 .ret))))
def f27 : IFn := ⟨25, 1, [.tmp 2], f27body⟩
/- 28: jobshell/jobshellref36.Status -/
@[simp] def f28o0 : List IOper := [
  ⟨(some 1), .box 42 7 (.t 0), none, none⟩,
  ⟨(some 2), .mv (.c (.int .i64 0)), none, none⟩]
def f28r0 : IC := .reg false [] f28o0 [1]
@[simp] theorem f28r0_run : run tbl fin K f28r0 e H = regK tbl fin K [] f28o0 [1] e H := run_regK _ _ _ _ _ _ _ _ _ rfl
@[simp] def f28o1 : List IOper := [
  ⟨(some 3), .fld 4 (.t 1), none, none⟩,
  ⟨(some 4), .load false 1 (.t 3), none, none⟩,
  ⟨(some 5), .len (.t 4), none, none⟩,
  ⟨(some 6), .bin .eql (.t 5) (.c (.int .i64 0)), none, none⟩,
  ⟨(some 7), .mv (.t 6), none, none⟩,
  ⟨(some 8), .fld 4 (.t 1), (some (7, false)), none⟩,
  ⟨(some 9), .load false 1 (.t 8), (some (7, false)), none⟩,
  ⟨(some 10), .fld 4 (.t 1), (some (7, false)), some [10, 9, 7, 1]⟩,
  ⟨(some 11), .load false 1 (.t 10), (some (7, false)), none⟩,
  ⟨(some 12), .len (.t 11), (some (7, false)), none⟩,
  ⟨(some 13), .bin .sub (.t 12) (.c (.int .i64 1)), (some (7, false)), none⟩,
  ⟨(some 14), .idx 1 (.t 9) (.t 13), (some (7, false)), none⟩,
  ⟨(some 15), .load false 1 (.t 14), (some (7, false)), none⟩,
  ⟨(some 16), .bin .eql (.t 15) (.c (.int .i64 (-1))), (some (7, false)), none⟩,
  ⟨(some 17), .pick (.t 7) (.c (.bool true)) (.t 16), none, none⟩]
def f28r1 : IC := .reg false [] f28o1 [17, 1]
@[simp] theorem f28r1_run : run tbl fin K f28r1 e H = regK tbl fin K [] f28o1 [17, 1] e H := run_regK _ _ _ _ _ _ _ _ _ rfl
@[simp] def f28o2 : List IOper := [
  ⟨(some 2), .mv (.c (.int .i64 0)), none, none⟩]
def f28r2 : IC := .reg false [] f28o2 [2]
@[simp] theorem f28r2_run : run tbl fin K f28r2 e H = regK tbl fin K [] f28o2 [2] e H := run_regK _ _ _ _ _ _ _ _ _ rfl
@[simp] def f28o3 : List IOper := [
  ⟨(some 18), .fld 4 (.t 1), none, none⟩,
  ⟨(some 19), .load false 1 (.t 18), none, none⟩,
  ⟨(some 20), .fld 4 (.t 1), none, none⟩,
  ⟨(some 21), .load false 1 (.t 20), none, none⟩,
  ⟨(some 22), .len (.t 21), none, none⟩,
  ⟨(some 23), .bin .sub (.t 22) (.c (.int .i64 1)), none, none⟩,
  ⟨(some 24), .idx 1 (.t 19) (.t 23), none, none⟩,
  ⟨(some 25), .load false 1 (.t 24), none, none⟩,
  ⟨(some 26), .call (.c (.fn 69 [])) [(.t 25)], none, none⟩,
  ⟨(some 2), .mv (.t 26), none, none⟩]
def f28r3 : IC := .reg false [] f28o3 [2]
@[simp] theorem f28r3_run : run tbl fin K f28r3 e H = regK tbl fin K [] f28o3 [2] e H := run_regK _ _ _ _ _ _ _ _ _ rfl
def f28body : IC := (.seq f28r0 (.seq (.seq f28r1 (.cond (.t 17) (.seq f28r2 .ret) .skip)) (.seq f28r3 .ret)))
def f28 : IFn := ⟨27, 1, [.tmp 2], f28body⟩
/- 29: jobshell/jobs.Valid -/
@[simp] def f29o0 : List IOper := [
  ⟨(some 2), .mv (.c (.int .i64 0)), none, none⟩]
def f29r0 : IC := .reg false [] f29o0 [0]
@[simp] theorem f29r0_run : run tbl fin K f29r0 e H = regK tbl fin K [] f29o0 [0] e H := run_regK _ _ _ _ _ _ _ _ _ rfl
@[simp] def f29o1 : List IOper := [
  ⟨(some 10), .mv (.t 0), none, none⟩,
  ⟨(some 11), .len (.t 10), none, none⟩,
  ⟨(some 12), .bin .gtr (.t 11) (.c (.int .i64 32)), none, none⟩]
def f29r1 : IC := .reg false [] f29o1 [12, 0]
@[simp] theorem f29r1_run : run tbl fin K f29r1 e H = regK tbl fin K [] f29o1 [12, 0] e H := run_regK _ _ _ _ _ _ _ _ _ rfl
@[simp] def f29o2 : List IOper := [
  ⟨(some 2), .mv (.c (.int .i64 4)), none, none⟩]
def f29r2 : IC := .reg false [] f29o2 [2]
@[simp] theorem f29r2_run : run tbl fin K f29r2 e H = regK tbl fin K [] f29o2 [2] e H := run_regK _ _ _ _ _ _ _ _ _ rfl
@[simp] def f29o3 : List IOper := [
  ⟨(some 13), .mkmap, none, none⟩,
  ⟨(some 14), .mkmap, none, none⟩,
  ⟨(some 3), .mv (.t 13), none, none⟩,
  ⟨(some 4), .mv (.t 14), none, none⟩]
def f29r3 : IC := .reg false [] f29o3 [0, 3, 4]
@[simp] theorem f29r3_run : run tbl fin K f29r3 e H = regK tbl fin K [] f29o3 [0, 3, 4] e H := run_regK _ _ _ _ _ _ _ _ _ rfl
@[simp] def f29o4 : List IOper := [
  ⟨(some 15), .mv (.t 0), none, none⟩,
  ⟨(some 16), .len (.t 15), none, none⟩,
  ⟨(some 17), .mv (.c (.int .i64 0)), none, none⟩]
def f29r4 : IC := .reg false [] f29o4 [17, 16, 15, 3, 4]
@[simp] theorem f29r4_run : run tbl fin K f29r4 e H = regK tbl fin K [] f29o4 [17, 16, 15, 3, 4] e H := run_regK _ _ _ _ _ _ _ _ _ rfl
@[simp] def f29o5 : List IOper := [
  ⟨(some 18), .bin .lss (.t 17) (.t 16), none, none⟩]
def f29r5 : IC := .reg false [] f29o5 [18, 17, 16, 15, 3, 4]
@[simp] theorem f29r5_run : run tbl fin K f29r5 e H = regK tbl fin K [] f29o5 [18, 17, 16, 15, 3, 4] e H := run_regK _ _ _ _ _ _ _ _ _ rfl
@[simp] def f29o6 : List IOper := [
  ⟨(some 19), .idx 7 (.t 15) (.t 17), none, none⟩,
  ⟨(some 20), .load true 7 (.t 19), none, none⟩,
  ⟨(some 6), .new 42 7 (.agg [(.int .i64 0), (.int .i64 0), (.int .i64 0), .e0, .e0, (.str []), (.bool false)]), none, none⟩,
  ⟨none, .store 7 (.t 6) (.t 20), none, none⟩]
def f29r6 : IC := .reg false [] f29o6 [17, 16, 15, 3, 6, 4]
@[simp] theorem f29r6_run : run tbl fin K f29r6 e H = regK tbl fin K [] f29o6 [17, 16, 15, 3, 6, 4] e H := run_regK _ _ _ _ _ _ _ _ _ rfl
@[simp] def f29o7 : List IOper := [
  ⟨(some 21), .load true 7 (.t 6), none, none⟩,
  ⟨(some 22), .call (.c (.fn 70 [])) [(.t 21)], none, none⟩,
  ⟨(some 7), .mv (.t 22), none, none⟩]
def f29r7 : IC := .reg false [] f29o7 [17, 16, 15, 3, 6, 4, 7]
@[simp] theorem f29r7_run : run tbl fin K f29r7 e H = regK tbl fin K [] f29o7 [17, 16, 15, 3, 6, 4, 7] e H := run_regK _ _ _ _ _ _ _ _ _ rfl
@[simp] def f29o8 : List IOper := [
  ⟨(some 23), .mv (.t 7), none, none⟩,
  ⟨(some 24), .bin .neq (.t 23) (.c (.int .i64 0)), none, none⟩]
def f29r8 : IC := .reg false [] f29o8 [24, 17, 16, 15, 3, 6, 4, 7]
@[simp] theorem f29r8_run : run tbl fin K f29r8 e H = regK tbl fin K [] f29o8 [24, 17, 16, 15, 3, 6, 4, 7] e H := run_regK _ _ _ _ _ _ _ _ _ rfl
@[simp] def f29o9 : List IOper := [
  ⟨(some 25), .mv (.t 7), none, none⟩,
  ⟨(some 2), .mv (.t 25), none, none⟩]
def f29r9 : IC := .reg false [] f29o9 [2]
@[simp] theorem f29r9_run : run tbl fin K f29r9 e H = regK tbl fin K [] f29o9 [2] e H := run_regK _ _ _ _ _ _ _ _ _ rfl
@[simp] def f29o10 : List IOper := [
  ⟨(some 26), .mv (.t 3), none, none⟩,
  ⟨(some 27), .fld 0 (.t 6), none, none⟩,
  ⟨(some 28), .load false 1 (.t 27), none, none⟩,
  ⟨(some 29), .mlook false (.bool false) (.t 26) (.t 28), none, none⟩]
def f29r10 : IC := .reg false [] f29o10 [29, 4, 6, 3, 15, 16, 17]
@[simp] theorem f29r10_run : run tbl fin K f29r10 e H = regK tbl fin K [] f29o10 [29, 4, 6, 3, 15, 16, 17] e H := run_regK _ _ _ _ _ _ _ _ _ rfl
@[simp] def f29o11 : List IOper := [
  ⟨(some 2), .mv (.c (.int .i64 9)), none, none⟩]
def f29r11 : IC := .reg false [] f29o11 [2]
@[simp] theorem f29r11_run : run tbl fin K f29r11 e H = regK tbl fin K [] f29o11 [2] e H := run_regK _ _ _ _ _ _ _ _ _ rfl
@[simp] def f29o12 : List IOper := [
  ⟨(some 30), .mv (.t 3), none, none⟩,
  ⟨(some 31), .fld 0 (.t 6), none, none⟩,
  ⟨(some 32), .load false 1 (.t 31), none, none⟩,
  ⟨none, .mput (.t 30) (.t 32) (.c (.bool true)), none, none⟩]
def f29r12 : IC := .reg false [] f29o12 [17, 16, 15, 3, 6, 4]
@[simp] theorem f29r12_run : run tbl fin K f29r12 e H = regK tbl fin K [] f29o12 [17, 16, 15, 3, 6, 4] e H := run_regK _ _ _ _ _ _ _ _ _ rfl
@[simp] def f29o13 : List IOper := [
  ⟨(some 33), .fld 3 (.t 6), none, none⟩,
  ⟨(some 34), .load false 1 (.t 33), none, none⟩,
  ⟨(some 35), .len (.t 34), none, none⟩,
  ⟨(some 36), .mv (.c (.int .i64 0)), none, none⟩]
def f29r13 : IC := .reg false [] f29o13 [35, 17, 16, 15, 3, 6, 34, 4, 36]
@[simp] theorem f29r13_run : run tbl fin K f29r13 e H = regK tbl fin K [] f29o13 [35, 17, 16, 15, 3, 6, 34, 4, 36] e H := run_regK _ _ _ _ _ _ _ _ _ rfl
@[simp] def f29o14 : List IOper := [
  ⟨(some 37), .bin .lss (.t 36) (.t 35), none, none⟩]
def f29r14 : IC := .reg false [] f29o14 [37, 4, 34, 6, 3, 15, 16, 17, 35, 36]
@[simp] theorem f29r14_run : run tbl fin K f29r14 e H = regK tbl fin K [] f29o14 [37, 4, 34, 6, 3, 15, 16, 17, 35, 36] e H := run_regK _ _ _ _ _ _ _ _ _ rfl
@[simp] def f29o15 : List IOper := [
  ⟨(some 38), .idx 1 (.t 34) (.t 36), none, none⟩,
  ⟨(some 39), .load false 1 (.t 38), none, none⟩,
  ⟨(some 9), .mv (.t 39), none, none⟩]
def f29r15 : IC := .reg false [] f29o15 [4, 34, 6, 3, 15, 16, 17, 35, 36, 9]
@[simp] theorem f29r15_run : run tbl fin K f29r15 e H = regK tbl fin K [] f29o15 [4, 34, 6, 3, 15, 16, 17, 35, 36, 9] e H := run_regK _ _ _ _ _ _ _ _ _ rfl
@[simp] def f29o16 : List IOper := [
  ⟨(some 40), .mv (.t 4), none, none⟩,
  ⟨(some 41), .mv (.t 9), none, none⟩,
  ⟨(some 42), .mlook false (.bool false) (.t 40) (.t 41), none, none⟩]
def f29r16 : IC := .reg false [] f29o16 [42, 4, 34, 6, 3, 15, 16, 17, 35, 36, 9]
@[simp] theorem f29r16_run : run tbl fin K f29r16 e H = regK tbl fin K [] f29o16 [42, 4, 34, 6, 3, 15, 16, 17, 35, 36, 9] e H := run_regK _ _ _ _ _ _ _ _ _ rfl
@[simp] def f29o17 : List IOper := [
  ⟨(some 2), .mv (.c (.int .i64 9)), none, none⟩]
def f29r17 : IC := .reg false [] f29o17 [2]
@[simp] theorem f29r17_run : run tbl fin K f29r17 e H = regK tbl fin K [] f29o17 [2] e H := run_regK _ _ _ _ _ _ _ _ _ rfl
@[simp] def f29o18 : List IOper := [
  ⟨(some 43), .mv (.t 4), none, none⟩,
  ⟨(some 44), .mv (.t 9), none, none⟩,
  ⟨none, .mput (.t 43) (.t 44) (.c (.bool true)), none, none⟩]
def f29r18 : IC := .reg false [] f29o18 [36, 35, 17, 16, 15, 3, 6, 34, 4]
@[simp] theorem f29r18_run : run tbl fin K f29r18 e H = regK tbl fin K [] f29o18 [36, 35, 17, 16, 15, 3, 6, 34, 4] e H := run_regK _ _ _ _ _ _ _ _ _ rfl
@[simp] def f29o19 : List IOper := [
  ⟨(some 45), .bin .add (.t 36) (.c (.int .i64 1)), none, none⟩,
  ⟨(some 36), .mv (.t 45), none, none⟩]
def f29r19 : IC := .reg false [] f29o19 [35, 17, 16, 15, 3, 6, 34, 4, 36]
@[simp] theorem f29r19_run : run tbl fin K f29r19 e H = regK tbl fin K [] f29o19 [35, 17, 16, 15, 3, 6, 34, 4, 36] e H := run_regK _ _ _ _ _ _ _ _ _ rfl
def f29b20 : IC := (.seq f29r14 (.seq (.cond (.t 37) .skip (.exit 2)) (.seq (.block 3 (.seq f29r15 (.seq (.seq f29r16 (.cond (.t 42) (.seq f29r17 .ret) .skip)) f29r18))) f29r19)))
theorem f29b20_eq : f29b20 = (.seq f29r14 (.seq (.cond (.t 37) .skip (.exit 2)) (.seq (.block 3 (.seq f29r15 (.seq (.seq f29r16 (.cond (.t 42) (.seq f29r17 .ret) .skip)) f29r18))) f29r19))) := rfl
@[simp] def f29o21 : List IOper := [
  ⟨(some 46), .fld 2 (.t 6), none, none⟩,
  ⟨(some 47), .load false 1 (.t 46), none, none⟩,
  ⟨(some 48), .fld 4 (.t 6), none, none⟩,
  ⟨(some 49), .load false 1 (.t 48), none, none⟩,
  ⟨(some 50), .call (.c (.fn 64 [])) [(.t 49)], none, none⟩,
  ⟨(some 51), .bin .neq (.t 47) (.t 50), none, none⟩]
def f29r21 : IC := .reg true [] f29o21 [51, 4, 3, 15, 16, 17]
@[simp] theorem f29r21_run : run tbl fin K f29r21 e H = regK tbl fin K [] f29o21 [51, 4, 3, 15, 16, 17] e H := run_regK _ _ _ _ _ _ _ _ _ rfl
@[simp] def f29o22 : List IOper := [
  ⟨(some 2), .mv (.c (.int .i64 25)), none, none⟩]
def f29r22 : IC := .reg false [] f29o22 [2]
@[simp] theorem f29r22_run : run tbl fin K f29r22 e H = regK tbl fin K [] f29o22 [2] e H := run_regK _ _ _ _ _ _ _ _ _ rfl
@[simp] def f29o23 : List IOper := [
  ⟨(some 52), .bin .add (.t 17) (.c (.int .i64 1)), none, none⟩,
  ⟨(some 17), .mv (.t 52), none, none⟩]
def f29r23 : IC := .reg false [] f29o23 [17, 16, 15, 3, 4]
@[simp] theorem f29r23_run : run tbl fin K f29r23 e H = regK tbl fin K [] f29o23 [17, 16, 15, 3, 4] e H := run_regK _ _ _ _ _ _ _ _ _ rfl
def f29b24 : IC := (.seq f29r5 (.seq (.cond (.t 18) .skip (.exit 0)) (.seq (.block 1 (.seq f29r6 (.seq (.seq f29r7 (.seq f29r8 (.cond (.t 24) (.seq f29r9 .ret) .skip))) (.seq (.seq f29r10 (.cond (.t 29) (.seq f29r11 .ret) .skip)) (.seq f29r12 (.seq (.seq f29r13 (.block 2 (.loop [35, 17, 16, 15, 3, 6, 34, 4, 36] f29b20))) (.seq f29r21 (.cond (.t 51) (.seq f29r22 .ret) .skip)))))))) f29r23)))
theorem f29b24_eq : f29b24 = (.seq f29r5 (.seq (.cond (.t 18) .skip (.exit 0)) (.seq (.block 1 (.seq f29r6 (.seq (.seq f29r7 (.seq f29r8 (.cond (.t 24) (.seq f29r9 .ret) .skip))) (.seq (.seq f29r10 (.cond (.t 29) (.seq f29r11 .ret) .skip)) (.seq f29r12 (.seq (.seq f29r13 (.block 2 (.loop [35, 17, 16, 15, 3, 6, 34, 4, 36] f29b20))) (.seq f29r21 (.cond (.t 51) (.seq f29r22 .ret) .skip)))))))) f29r23))) := rfl
@[simp] def f29o25 : List IOper := [
  ⟨(some 2), .mv (.c (.int .i64 0)), none, none⟩]
def f29r25 : IC := .reg false [] f29o25 [2]
@[simp] theorem f29r25_run : run tbl fin K f29r25 e H = regK tbl fin K [] f29o25 [2] e H := run_regK _ _ _ _ _ _ _ _ _ rfl
def f29body : IC := (.seq f29r0 (.seq (.seq f29r1 (.cond (.t 12) (.seq f29r2 .ret) .skip)) (.seq f29r3 (.seq (.seq f29r4 (.block 0 (.loop [17, 16, 15, 3, 4] f29b24))) (.seq f29r25 .ret)))))
def f29 : IFn := ⟨53, 1, [.tmp 2], f29body⟩
/- 30: jobshell/jobshellref36.Valid -/
@[simp] def f30o0 : List IOper := [
  ⟨(some 2), .mv (.c (.int .i64 0)), none, none⟩]
def f30r0 : IC := .reg false [] f30o0 [0]
@[simp] theorem f30r0_run : run tbl fin K f30r0 e H = regK tbl fin K [] f30o0 [0] e H := run_regK _ _ _ _ _ _ _ _ _ rfl
@[simp] def f30o1 : List IOper := [
  ⟨(some 5), .mv (.t 0), none, none⟩,
  ⟨(some 6), .len (.t 5), none, none⟩,
  ⟨(some 7), .bin .gtr (.t 6) (.c (.int .i64 32)), none, none⟩]
def f30r1 : IC := .reg false [] f30o1 [7, 0]
@[simp] theorem f30r1_run : run tbl fin K f30r1 e H = regK tbl fin K [] f30o1 [7, 0] e H := run_regK _ _ _ _ _ _ _ _ _ rfl
@[simp] def f30o2 : List IOper := [
  ⟨(some 2), .mv (.c (.int .i64 4)), none, none⟩]
def f30r2 : IC := .reg false [] f30o2 [2]
@[simp] theorem f30r2_run : run tbl fin K f30r2 e H = regK tbl fin K [] f30o2 [2] e H := run_regK _ _ _ _ _ _ _ _ _ rfl
@[simp] def f30o3 : List IOper := [
  ⟨(some 3), .mv (.c (.int .i64 0)), none, none⟩]
def f30r3 : IC := .reg false [] f30o3 [0, 3]
@[simp] theorem f30r3_run : run tbl fin K f30r3 e H = regK tbl fin K [] f30o3 [0, 3] e H := run_regK _ _ _ _ _ _ _ _ _ rfl
@[simp] def f30o4 : List IOper := [
  ⟨(some 8), .mv (.t 3), none, none⟩,
  ⟨(some 9), .mv (.t 0), none, none⟩,
  ⟨(some 10), .len (.t 9), none, none⟩,
  ⟨(some 11), .bin .lss (.t 8) (.t 10), none, none⟩]
def f30r4 : IC := .reg false [] f30o4 [11, 0, 3]
@[simp] theorem f30r4_run : run tbl fin K f30r4 e H = regK tbl fin K [] f30o4 [11, 0, 3] e H := run_regK _ _ _ _ _ _ _ _ _ rfl
@[simp] def f30o5 : List IOper := [
  ⟨(some 14), .mv (.t 0), none, none⟩,
  ⟨(some 15), .mv (.t 3), none, none⟩,
  ⟨(some 16), .slc 7 (.t 14) none (some (.t 15)), none, none⟩,
  ⟨(some 17), .mv (.t 0), none, none⟩,
  ⟨(some 18), .mv (.t 3), none, none⟩,
  ⟨(some 19), .idx 7 (.t 17) (.t 18), none, none⟩,
  ⟨(some 20), .load true 7 (.t 19), none, none⟩,
  ⟨(some 21), .call (.c (.fn 71 [])) [(.t 16), (.t 20)], none, none⟩,
  ⟨(some 4), .mv (.t 21), none, none⟩]
def f30r5 : IC := .reg true [] f30o5 [0, 3, 4]
@[simp] theorem f30r5_run : run tbl fin K f30r5 e H = regK tbl fin K [] f30o5 [0, 3, 4] e H := run_regK _ _ _ _ _ _ _ _ _ rfl
@[simp] def f30o6 : List IOper := [
  ⟨(some 22), .mv (.t 4), none, none⟩,
  ⟨(some 23), .bin .neq (.t 22) (.c (.int .i64 0)), none, none⟩]
def f30r6 : IC := .reg false [] f30o6 [23, 0, 3, 4]
@[simp] theorem f30r6_run : run tbl fin K f30r6 e H = regK tbl fin K [] f30o6 [23, 0, 3, 4] e H := run_regK _ _ _ _ _ _ _ _ _ rfl
@[simp] def f30o7 : List IOper := [
  ⟨(some 24), .mv (.t 4), none, none⟩,
  ⟨(some 2), .mv (.t 24), none, none⟩]
def f30r7 : IC := .reg false [] f30o7 [2]
@[simp] theorem f30r7_run : run tbl fin K f30r7 e H = regK tbl fin K [] f30o7 [2] e H := run_regK _ _ _ _ _ _ _ _ _ rfl
@[simp] def f30o8 : List IOper := [
  ⟨(some 12), .mv (.t 3), none, none⟩,
  ⟨(some 13), .bin .add (.t 12) (.c (.int .i64 1)), none, none⟩,
  ⟨(some 3), .mv (.t 13), none, none⟩]
def f30r8 : IC := .reg false [] f30o8 [0, 3]
@[simp] theorem f30r8_run : run tbl fin K f30r8 e H = regK tbl fin K [] f30o8 [0, 3] e H := run_regK _ _ _ _ _ _ _ _ _ rfl
def f30b9 : IC := (.seq (.seq f30r4 (.cond (.t 11) .skip (.exit 0))) (.seq (.block 1 (.seq f30r5 (.seq f30r6 (.cond (.t 23) (.seq f30r7 .ret) .skip)))) f30r8))
theorem f30b9_eq : f30b9 = (.seq (.seq f30r4 (.cond (.t 11) .skip (.exit 0))) (.seq (.block 1 (.seq f30r5 (.seq f30r6 (.cond (.t 23) (.seq f30r7 .ret) .skip)))) f30r8)) := rfl
@[simp] def f30o10 : List IOper := [
  ⟨(some 2), .mv (.c (.int .i64 0)), none, none⟩]
def f30r10 : IC := .reg false [] f30o10 [2]
@[simp] theorem f30r10_run : run tbl fin K f30r10 e H = regK tbl fin K [] f30o10 [2] e H := run_regK _ _ _ _ _ _ _ _ _ rfl
def f30body : IC := (.seq f30r0 (.seq (.seq f30r1 (.cond (.t 7) (.seq f30r2 .ret) .skip)) (.seq (.seq f30r3 (.block 0 (.loop [0, 3] f30b9))) (.seq f30r10 .ret))))
def f30 : IFn := ⟨25, 1, [.tmp 2], f30body⟩
/- 31: jobshell/jobshelllaw36.play -/
@[simp] def f31o0 : List IOper := [
  ⟨(some 3), .box 55 4 (.t 1), none, none⟩,
  ⟨(some 4), .nilrow 42 7, none, none⟩,
  ⟨(some 5), .nilrow 9 1, none, none⟩]
def f31r0 : IC := .reg false [] f31o0 [0, 3]
@[simp] theorem f31r0_run : run tbl fin K f31r0 e H = regK tbl fin K [] f31o0 [0, 3] e H := run_regK _ _ _ _ _ _ _ _ _ rfl
@[simp] def f31o1 : List IOper := [
  ⟨(some 11), .fld 0 (.t 3), none, none⟩,
  ⟨(some 12), .load false 1 (.t 11), none, none⟩]
def f31r1 : IC := .reg false [] f31o1 [12, 0, 3]
@[simp] theorem f31r1_run : run tbl fin K f31r1 e H = regK tbl fin K [] f31o1 [12, 0, 3] e H := run_regK _ _ _ _ _ _ _ _ _ rfl
@[simp] def f31o2 : List IOper := [
  ⟨(some 14), .bin .eql (.t 12) (.c (.int .i64 0)), none, none⟩,
  ⟨(some 13), .mv (.t 14), none, none⟩]
def f31r2 : IC := .reg false [] f31o2 [13, 12, 0, 3]
@[simp] theorem f31r2_run : run tbl fin K f31r2 e H = regK tbl fin K [] f31o2 [13, 12, 0, 3] e H := run_regK _ _ _ _ _ _ _ _ _ rfl
@[simp] def f31o3 : List IOper := [
  ⟨(some 16), .mv (.t 0), none, none⟩,
  ⟨(some 17), .fld 1 (.t 3), none, none⟩,
  ⟨(some 18), .load false 1 (.t 17), none, none⟩,
  ⟨(some 19), .fld 1 (.t 3), none, none⟩,
  ⟨(some 20), .load false 1 (.t 19), none, none⟩,
  ⟨(some 21), .fld 1 (.t 3), none, none⟩,
  ⟨(some 22), .load false 1 (.t 21), none, none⟩,
  ⟨(some 23), .bin .add (.t 22) (.c (.int .i64 1)), none, some [23, 20, 3, 18, 16]⟩,
  ⟨(some 24), .mkimm 1 2 (.int .i64 0) [(0, (.t 20)), (1, (.t 23))], none, none⟩,
  ⟨(some 25), .fld 3 (.t 3), none, none⟩,
  ⟨(some 26), .load false 1 (.t 25), none, none⟩,
  ⟨(some 27), .call (.c (.fn 11 [])) [(.t 16), (.t 18), (.t 24), (.t 26)], none, none⟩,
  ⟨(some 15), .mv (.t 27), none, none⟩,
  ⟨(some 28), .ext (.t 15) 0, none, none⟩,
  ⟨(some 29), .ext (.t 15) 1, none, none⟩,
  ⟨(some 30), .ext (.t 15) 2, none, some [28, 29, 30]⟩,
  ⟨(some 6), .mv (.t 28), none, none⟩,
  ⟨(some 7), .mv (.t 29), none, none⟩,
  ⟨(some 8), .mv (.t 30), none, none⟩]
def f31r3 : IC := .reg false [] f31o3 [6]
@[simp] theorem f31r3_run : run tbl fin K f31r3 e H = regK tbl fin K [] f31o3 [6] e H := run_regK _ _ _ _ _ _ _ _ _ rfl
@[simp] def f31o4 : List IOper := [
  ⟨(some 31), .mv (.t 6), none, none⟩,
  ⟨(some 4), .mv (.t 31), none, none⟩,
  ⟨(some 5), .nilrow 9 1, none, none⟩]
def f31r4 : IC := .reg false [] f31o4 [4, 5]
@[simp] theorem f31r4_run : run tbl fin K f31r4 e H = regK tbl fin K [] f31o4 [4, 5] e H := run_regK _ _ _ _ _ _ _ _ _ rfl
@[simp] def f31o5 : List IOper := [
  ⟨(some 33), .bin .eql (.t 12) (.c (.int .i64 1)), none, none⟩,
  ⟨(some 32), .mv (.t 33), none, none⟩]
def f31r5 : IC := .reg false [] f31o5 [32, 0, 3]
@[simp] theorem f31r5_run : run tbl fin K f31r5 e H = regK tbl fin K [] f31o5 [32, 0, 3] e H := run_regK _ _ _ _ _ _ _ _ _ rfl
@[simp] def f31o6 : List IOper := [
  ⟨(some 35), .mv (.t 0), none, none⟩,
  ⟨(some 36), .fld 1 (.t 3), none, none⟩,
  ⟨(some 37), .load false 1 (.t 36), none, none⟩,
  ⟨(some 38), .fld 2 (.t 3), none, none⟩,
  ⟨(some 39), .load false 1 (.t 38), none, none⟩,
  ⟨(some 40), .call (.c (.fn 21 [])) [(.t 35), (.t 37), (.t 39)], none, none⟩,
  ⟨(some 34), .mv (.t 40), none, none⟩,
  ⟨(some 41), .ext (.t 34) 0, none, none⟩,
  ⟨(some 42), .ext (.t 34) 1, none, none⟩,
  ⟨(some 9), .mv (.t 41), none, none⟩,
  ⟨(some 10), .mv (.t 42), none, none⟩]
def f31r6 : IC := .reg false [] f31o6 [9]
@[simp] theorem f31r6_run : run tbl fin K f31r6 e H = regK tbl fin K [] f31o6 [9] e H := run_regK _ _ _ _ _ _ _ _ _ rfl
@[simp] def f31o7 : List IOper := [
  ⟨(some 43), .mv (.t 9), none, none⟩,
  ⟨(some 4), .mv (.t 43), none, none⟩,
  ⟨(some 5), .nilrow 9 1, none, none⟩]
def f31r7 : IC := .reg false [] f31o7 [4, 5]
@[simp] theorem f31r7_run : run tbl fin K f31r7 e H = regK tbl fin K [] f31o7 [4, 5] e H := run_regK _ _ _ _ _ _ _ _ _ rfl
@[simp] def f31o8 : List IOper := [
  ⟨(some 44), .mv (.t 0), none, none⟩,
  ⟨(some 45), .call (.c (.fn 23 [])) [(.t 44)], none, none⟩,
  ⟨(some 46), .ext (.t 45) 0, none, none⟩,
  ⟨(some 47), .ext (.t 45) 1, none, none⟩,
  ⟨(some 4), .mv (.t 46), none, none⟩,
  ⟨(some 5), .mv (.t 47), none, none⟩]
def f31r8 : IC := .reg false [] f31o8 [4, 5]
@[simp] theorem f31r8_run : run tbl fin K f31r8 e H = regK tbl fin K [] f31o8 [4, 5] e H := run_regK _ _ _ _ _ _ _ _ _ rfl
def f31body : IC := (.seq f31r0 (.seq (.seq f31r1 (.block 0 (.seq f31r2 (.cond (.t 13) (.seq f31r3 (.seq f31r4 .ret)) (.seq f31r5 (.cond (.t 32) (.seq f31r6 (.seq f31r7 .ret)) .skip)))))) (.seq f31r8 .ret)))
def f31 : IFn := ⟨48, 2, [.tmp 4, .tmp 5], f31body⟩
/- 32: jobshell/jobshelllaw36.unnoted -/
@[simp] def f32o0 : List IOper := [
  ⟨(some 2), .mv (.c (.int .i64 0)), none, none⟩]
def f32r0 : IC := .reg false [] f32o0 [0]
@[simp] theorem f32r0_run : run tbl fin K f32r0 e H = regK tbl fin K [] f32o0 [0] e H := run_regK _ _ _ _ _ _ _ _ _ rfl
@[simp] def f32o1 : List IOper := [
  ⟨(some 3), .mv (.c (.int .i64 0)), none, none⟩]
def f32r1 : IC := .reg false [] f32o1 [3, 0]
@[simp] theorem f32r1_run : run tbl fin K f32r1 e H = regK tbl fin K [] f32o1 [3, 0] e H := run_regK _ _ _ _ _ _ _ _ _ rfl
@[simp] def f32o2 : List IOper := [
  ⟨(some 4), .mv (.c (.int .i64 0)), none, none⟩]
def f32r2 : IC := .reg false [] f32o2 [3, 4, 0]
@[simp] theorem f32r2_run : run tbl fin K f32r2 e H = regK tbl fin K [] f32o2 [3, 4, 0] e H := run_regK _ _ _ _ _ _ _ _ _ rfl
@[simp] def f32o3 : List IOper := [
  ⟨(some 5), .mv (.t 4), none, none⟩,
  ⟨(some 6), .mv (.t 0), none, none⟩,
  ⟨(some 7), .len (.t 6), none, none⟩,
  ⟨(some 8), .bin .lss (.t 5) (.t 7), none, none⟩]
def f32r3 : IC := .reg false [] f32o3 [8, 3, 4, 0]
@[simp] theorem f32r3_run : run tbl fin K f32r3 e H = regK tbl fin K [] f32o3 [8, 3, 4, 0] e H := run_regK _ _ _ _ _ _ _ _ _ rfl
@[simp] def f32o4 : List IOper := [
  ⟨(some 11), .mv (.t 0), none, none⟩,
  ⟨(some 12), .mv (.t 4), none, none⟩,
  ⟨(some 13), .idx 7 (.t 11) (.t 12), none, none⟩,
  ⟨(some 14), .fld 6 (.t 13), none, none⟩,
  ⟨(some 15), .load false 1 (.t 14), none, none⟩,
  ⟨(some 16), .un .not (.t 15), none, none⟩]
def f32r4 : IC := .reg false [] f32o4 [16, 3, 4, 0]
@[simp] theorem f32r4_run : run tbl fin K f32r4 e H = regK tbl fin K [] f32o4 [16, 3, 4, 0] e H := run_regK _ _ _ _ _ _ _ _ _ rfl
@[simp] def f32o5 : List IOper := [
  ⟨(some 17), .mv (.t 3), none, none⟩,
  ⟨(some 18), .bin .add (.t 17) (.c (.int .i64 1)), none, none⟩,
  ⟨(some 3), .mv (.t 18), none, none⟩]
def f32r5 : IC := .reg false [] f32o5 [4, 3, 0]
@[simp] theorem f32r5_run : run tbl fin K f32r5 e H = regK tbl fin K [] f32o5 [4, 3, 0] e H := run_regK _ _ _ _ _ _ _ _ _ rfl
@[simp] def f32o6 : List IOper := [
  ⟨(some 9), .mv (.t 4), none, none⟩,
  ⟨(some 10), .bin .add (.t 9) (.c (.int .i64 1)), none, none⟩,
  ⟨(some 4), .mv (.t 10), none, none⟩]
def f32r6 : IC := .reg false [] f32o6 [3, 4, 0]
@[simp] theorem f32r6_run : run tbl fin K f32r6 e H = regK tbl fin K [] f32o6 [3, 4, 0] e H := run_regK _ _ _ _ _ _ _ _ _ rfl
def f32b7 : IC := (.seq (.seq f32r3 (.cond (.t 8) .skip (.exit 0))) (.seq (.block 1 (.seq f32r4 (.cond (.t 16) f32r5 .skip))) f32r6))
theorem f32b7_eq : f32b7 = (.seq (.seq f32r3 (.cond (.t 8) .skip (.exit 0))) (.seq (.block 1 (.seq f32r4 (.cond (.t 16) f32r5 .skip))) f32r6)) := rfl
@[simp] def f32o8 : List IOper := [
  ⟨(some 19), .mv (.t 3), none, none⟩,
  ⟨(some 2), .mv (.t 19), none, none⟩]
def f32r8 : IC := .reg false [] f32o8 [2]
@[simp] theorem f32r8_run : run tbl fin K f32r8 e H = regK tbl fin K [] f32o8 [2] e H := run_regK _ _ _ _ _ _ _ _ _ rfl
def f32body : IC := (.seq f32r0 (.seq f32r1 (.seq (.seq f32r2 (.block 0 (.loop [3, 4, 0] f32b7))) (.seq f32r8 .ret))))
def f32 : IFn := ⟨20, 1, [.tmp 2], f32body⟩
/- 33: jobshell/jobs.positive -/
@[simp] def f33o0 : List IOper := [
  ⟨(some 2), .mv (.c (.bool false)), none, none⟩]
def f33r0 : IC := .reg false [] f33o0 [0]
@[simp] theorem f33r0_run : run tbl fin K f33r0 e H = regK tbl fin K [] f33o0 [0] e H := run_regK _ _ _ _ _ _ _ _ _ rfl
@[simp] def f33o1 : List IOper := [
  ⟨(some 3), .mv (.t 0), none, none⟩,
  ⟨(some 4), .bin .geq (.t 3) (.c (.int .i64 1)), none, none⟩,
  ⟨(some 5), .mv (.t 4), none, none⟩,
  ⟨(some 6), .mv (.t 0), (some (5, true)), none⟩,
  ⟨(some 7), .bin .leq (.t 6) (.c (.int .i64 2147483647)), (some (5, true)), none⟩,
  ⟨(some 8), .pick (.t 5) (.t 7) (.c (.bool false)), none, none⟩,
  ⟨(some 2), .mv (.t 8), none, none⟩]
def f33r1 : IC := .reg false [] f33o1 [2]
@[simp] theorem f33r1_run : run tbl fin K f33r1 e H = regK tbl fin K [] f33o1 [2] e H := run_regK _ _ _ _ _ _ _ _ _ rfl
def f33body : IC := (.seq f33r0 (.seq f33r1 .ret))
def f33 : IFn := ⟨9, 1, [.tmp 2], f33body⟩
/- 34: jobshell/jobs.member -/
@[simp] def f34o0 : List IOper := [
  ⟨(some 4), .mv (.c (.int .i64 0)), none, none⟩,
  ⟨(some 5), .mv (.c (.int .i64 0)), none, none⟩]
def f34r0 : IC := .reg false [] f34o0 [0, 1]
@[simp] theorem f34r0_run : run tbl fin K f34r0 e H = regK tbl fin K [] f34o0 [0, 1] e H := run_regK _ _ _ _ _ _ _ _ _ rfl
@[simp] def f34o1 : List IOper := [
  ⟨(some 9), .mv (.t 0), none, none⟩,
  ⟨(some 10), .len (.t 9), none, none⟩,
  ⟨(some 11), .mv (.c (.int .i64 0)), none, none⟩]
def f34r1 : IC := .reg false [] f34o1 [10, 9, 1, 11]
@[simp] theorem f34r1_run : run tbl fin K f34r1 e H = regK tbl fin K [] f34o1 [10, 9, 1, 11] e H := run_regK _ _ _ _ _ _ _ _ _ rfl
@[simp] def f34o2 : List IOper := [
  ⟨(some 12), .bin .lss (.t 11) (.t 10), none, none⟩]
def f34r2 : IC := .reg false [] f34o2 [12, 1, 9, 10, 11]
@[simp] theorem f34r2_run : run tbl fin K f34r2 e H = regK tbl fin K [] f34o2 [12, 1, 9, 10, 11] e H := run_regK _ _ _ _ _ _ _ _ _ rfl
@[simp] def f34o3 : List IOper := [
  ⟨(some 13), .mv (.t 11), none, none⟩,
  ⟨(some 14), .idx 7 (.t 9) (.t 11), none, none⟩,
  ⟨(some 15), .load true 7 (.t 14), none, none⟩,
  ⟨(some 7), .new 42 7 (.agg [(.int .i64 0), (.int .i64 0), (.int .i64 0), .e0, .e0, (.str []), (.bool false)]), none, none⟩,
  ⟨(some 6), .mv (.t 13), none, none⟩,
  ⟨none, .store 7 (.t 7) (.t 15), none, none⟩]
def f34r3 : IC := .reg false [] f34o3 [7, 1, 9, 10, 11, 6]
@[simp] theorem f34r3_run : run tbl fin K f34r3 e H = regK tbl fin K [] f34o3 [7, 1, 9, 10, 11, 6] e H := run_regK _ _ _ _ _ _ _ _ _ rfl
@[simp] def f34o4 : List IOper := [
  ⟨(some 16), .fld 3 (.t 7), none, none⟩,
  ⟨(some 17), .load false 1 (.t 16), none, none⟩,
  ⟨(some 18), .mv (.t 1), none, none⟩,
  ⟨(some 19), .call (.c (.fn 72 [])) [(.t 17), (.t 18)], none, none⟩,
  ⟨(some 8), .mv (.t 19), none, none⟩]
def f34r4 : IC := .reg false [] f34o4 [7, 1, 9, 10, 11, 6, 8]
@[simp] theorem f34r4_run : run tbl fin K f34r4 e H = regK tbl fin K [] f34o4 [7, 1, 9, 10, 11, 6, 8] e H := run_regK _ _ _ _ _ _ _ _ _ rfl
@[simp] def f34o5 : List IOper := [
  ⟨(some 20), .mv (.t 8), none, none⟩,
  ⟨(some 21), .bin .geq (.t 20) (.c (.int .i64 0)), none, none⟩,
  ⟨(some 22), .mv (.t 21), none, none⟩,
  ⟨(some 23), .mv (.t 8), (some (22, true)), none⟩,
  ⟨(some 24), .fld 4 (.t 7), (some (22, true)), none⟩,
  ⟨(some 25), .load false 1 (.t 24), (some (22, true)), none⟩,
  ⟨(some 26), .len (.t 25), (some (22, true)), none⟩,
  ⟨(some 27), .bin .lss (.t 23) (.t 26), (some (22, true)), none⟩,
  ⟨(some 28), .pick (.t 22) (.t 27) (.c (.bool false)), none, none⟩]
def f34r5 : IC := .reg false [] f34o5 [28, 1, 9, 10, 11, 6, 8]
@[simp] theorem f34r5_run : run tbl fin K f34r5 e H = regK tbl fin K [] f34o5 [28, 1, 9, 10, 11, 6, 8] e H := run_regK _ _ _ _ _ _ _ _ _ rfl
@[simp] def f34o6 : List IOper := [
  ⟨(some 29), .mv (.t 6), none, none⟩,
  ⟨(some 30), .mv (.t 8), none, none⟩,
  ⟨(some 4), .mv (.t 29), none, none⟩,
  ⟨(some 5), .mv (.t 30), none, none⟩]
def f34r6 : IC := .reg false [] f34o6 [4, 5]
@[simp] theorem f34r6_run : run tbl fin K f34r6 e H = regK tbl fin K [] f34o6 [4, 5] e H := run_regK _ _ _ _ _ _ _ _ _ rfl
@[simp] def f34o7 : List IOper := [
  ⟨(some 31), .bin .add (.t 11) (.c (.int .i64 1)), none, none⟩,
  ⟨(some 11), .mv (.t 31), none, none⟩]
def f34r7 : IC := .reg false [] f34o7 [10, 9, 1, 11]
@[simp] theorem f34r7_run : run tbl fin K f34r7 e H = regK tbl fin K [] f34o7 [10, 9, 1, 11] e H := run_regK _ _ _ _ _ _ _ _ _ rfl
def f34b8 : IC := (.seq f34r2 (.seq (.cond (.t 12) .skip (.exit 0)) (.seq (.block 1 (.seq f34r3 (.seq f34r4 (.seq f34r5 (.cond (.t 28) (.seq f34r6 .ret) .skip))))) f34r7)))
theorem f34b8_eq : f34b8 = (.seq f34r2 (.seq (.cond (.t 12) .skip (.exit 0)) (.seq (.block 1 (.seq f34r3 (.seq f34r4 (.seq f34r5 (.cond (.t 28) (.seq f34r6 .ret) .skip))))) f34r7))) := rfl
@[simp] def f34o9 : List IOper := [
  ⟨(some 4), .mv (.c (.int .i64 (-1))), none, none⟩,
  ⟨(some 5), .mv (.c (.int .i64 (-1))), none, none⟩]
def f34r9 : IC := .reg false [] f34o9 [4, 5]
@[simp] theorem f34r9_run : run tbl fin K f34r9 e H = regK tbl fin K [] f34o9 [4, 5] e H := run_regK _ _ _ _ _ _ _ _ _ rfl
def f34body : IC := (.seq f34r0 (.seq (.seq f34r1 (.block 0 (.loop [10, 9, 1, 11] f34b8))) (.seq f34r9 .ret)))
def f34 : IFn := ⟨32, 2, [.tmp 4, .tmp 5], f34body⟩
/- 35: slices.Contains[[]int,int] -/
@[simp] def f35o0 : List IOper := [
  ⟨(some 4), .mv (.c (.bool false)), none, none⟩]
def f35r0 : IC := .reg false [] f35o0 [0, 1]
@[simp] theorem f35r0_run : run tbl fin K f35r0 e H = regK tbl fin K [] f35o0 [0, 1] e H := run_regK _ _ _ _ _ _ _ _ _ rfl
@[simp] def f35o1 : List IOper := [
  ⟨(some 5), .mv (.t 0), none, none⟩,
  ⟨(some 6), .mv (.t 1), none, none⟩,
  ⟨(some 7), .call (.c (.fn 72 [])) [(.t 5), (.t 6)], none, none⟩,
  ⟨(some 8), .bin .geq (.t 7) (.c (.int .i64 0)), none, none⟩,
  ⟨(some 4), .mv (.t 8), none, none⟩]
def f35r1 : IC := .reg false [] f35o1 [4]
@[simp] theorem f35r1_run : run tbl fin K f35r1 e H = regK tbl fin K [] f35o1 [4] e H := run_regK _ _ _ _ _ _ _ _ _ rfl
def f35body : IC := (.seq f35r0 (.seq f35r1 .ret))
def f35 : IFn := ⟨9, 2, [.tmp 4], f35body⟩
/- 36: slices.ContainsFunc[[]jobshell/api.Job,jobshell/api.Job] -/
@[simp] def f36o0 : List IOper := [
  ⟨(some 4), .mv (.c (.bool false)), none, none⟩]
def f36r0 : IC := .reg false [] f36o0 [0, 1]
@[simp] theorem f36r0_run : run tbl fin K f36r0 e H = regK tbl fin K [] f36o0 [0, 1] e H := run_regK _ _ _ _ _ _ _ _ _ rfl
@[simp] def f36o1 : List IOper := [
  ⟨(some 5), .mv (.t 0), none, none⟩,
  ⟨(some 6), .mv (.t 1), none, none⟩,
  ⟨(some 7), .ocall (.c (.fn 49 [])) [(.t 5), (.t 6)], none, none⟩,
  ⟨(some 8), .bin .geq (.t 7) (.c (.int .i64 0)), none, none⟩,
  ⟨(some 4), .mv (.t 8), none, none⟩]
def f36r1 : IC := .reg false [] f36o1 [4]
@[simp] theorem f36r1_run : run tbl fin K f36r1 e H = regK tbl fin K [] f36o1 [4] e H := run_regK _ _ _ _ _ _ _ _ _ rfl
def f36body : IC := (.seq f36r0 (.seq f36r1 .ret))
def f36 : IFn := ⟨9, 2, [.tmp 4], f36body⟩
/- 37: jobshell/jobs.Add$1 -/
@[simp] def f37o0 : List IOper := [
  ⟨(some 2), .box 42 7 (.t 0), none, none⟩,
  ⟨(some 3), .mv (.c (.bool false)), none, none⟩]
def f37r0 : IC := .reg false [] f37o0 [2, 1]
@[simp] theorem f37r0_run : run tbl fin K f37r0 e H = regK tbl fin K [] f37o0 [2, 1] e H := run_regK _ _ _ _ _ _ _ _ _ rfl
@[simp] def f37o1 : List IOper := [
  ⟨(some 4), .fld 0 (.t 2), none, none⟩,
  ⟨(some 5), .load false 1 (.t 4), none, none⟩,
  ⟨(some 6), .load false 1 (.t 1), none, none⟩,
  ⟨(some 7), .bin .eql (.t 5) (.t 6), none, none⟩,
  ⟨(some 3), .mv (.t 7), none, none⟩]
def f37r1 : IC := .reg false [] f37o1 [3]
@[simp] theorem f37r1_run : run tbl fin K f37r1 e H = regK tbl fin K [] f37o1 [3] e H := run_regK _ _ _ _ _ _ _ _ _ rfl
def f37body : IC := (.seq f37r0 (.seq f37r1 .ret))
def f37 : IFn := ⟨8, 2, [.tmp 3], f37body⟩
/- 38: slices.Clone[[]int,int] -/
@[simp] def f38o0 : List IOper := [
  ⟨(some 2), .nilrow 3 1, none, none⟩]
def f38r0 : IC := .reg false [] f38o0 [0]
@[simp] theorem f38r0_run : run tbl fin K f38r0 e H = regK tbl fin K [] f38o0 [0] e H := run_regK _ _ _ _ _ _ _ _ _ rfl
@[simp] def f38o1 : List IOper := [
  ⟨(some 3), .mv (.t 0), none, none⟩,
  ⟨(some 4), .eqnil false (.t 3), none, none⟩]
def f38r1 : IC := .reg false [] f38o1 [4, 0]
@[simp] theorem f38r1_run : run tbl fin K f38r1 e H = regK tbl fin K [] f38o1 [4, 0] e H := run_regK _ _ _ _ _ _ _ _ _ rfl
@[simp] def f38o2 : List IOper := [
  ⟨(some 2), .nilrow 3 1, none, none⟩]
def f38r2 : IC := .reg false [] f38o2 [2]
@[simp] theorem f38r2_run : run tbl fin K f38r2 e H = regK tbl fin K [] f38o2 [2] e H := run_regK _ _ _ _ _ _ _ _ _ rfl
@[simp] def f38o3 : List IOper := [
  ⟨(some 5), .mkrow 3 1 0 (.int .i64 0) [], none, none⟩,
  ⟨(some 6), .mv (.t 0), none, none⟩,
  ⟨(some 7), .app 3 1 (.t 5) (.t 6), none, none⟩,
  ⟨(some 2), .mv (.t 7), none, none⟩]
def f38r3 : IC := .reg false [] f38o3 [2]
@[simp] theorem f38r3_run : run tbl fin K f38r3 e H = regK tbl fin K [] f38o3 [2] e H := run_regK _ _ _ _ _ _ _ _ _ rfl
def f38body : IC := (.seq f38r0 (.seq (.seq f38r1 (.cond (.t 4) (.seq f38r2 .ret) .skip)) (.seq f38r3 .ret)))
def f38 : IFn := ⟨8, 1, [.tmp 2], f38body⟩
/- 39: jobshell/jobs.clone -/
@[simp] def f39o0 : List IOper := [
  ⟨(some 2), .nilrow 42 7, none, none⟩]
def f39r0 : IC := .reg false [] f39o0 [0]
@[simp] theorem f39r0_run : run tbl fin K f39r0 e H = regK tbl fin K [] f39o0 [0] e H := run_regK _ _ _ _ _ _ _ _ _ rfl
@[simp] def f39o1 : List IOper := [
  ⟨(some 5), .mv (.t 0), none, none⟩,
  ⟨(some 6), .call (.c (.fn 73 [])) [(.t 5)], none, none⟩,
  ⟨(some 3), .mv (.t 6), none, none⟩]
def f39r1 : IC := .reg false [] f39o1 [3]
@[simp] theorem f39r1_run : run tbl fin K f39r1 e H = regK tbl fin K [] f39o1 [3] e H := run_regK _ _ _ _ _ _ _ _ _ rfl
@[simp] def f39o2 : List IOper := [
  ⟨(some 7), .mv (.t 3), none, none⟩,
  ⟨(some 8), .len (.t 7), none, none⟩,
  ⟨(some 9), .mv (.c (.int .i64 0)), none, none⟩]
def f39r2 : IC := .reg false [] f39o2 [9, 8, 3]
@[simp] theorem f39r2_run : run tbl fin K f39r2 e H = regK tbl fin K [] f39o2 [9, 8, 3] e H := run_regK _ _ _ _ _ _ _ _ _ rfl
@[simp] def f39o3 : List IOper := [
  ⟨(some 10), .bin .lss (.t 9) (.t 8), none, none⟩]
def f39r3 : IC := .reg false [] f39o3 [10, 9, 8, 3]
@[simp] theorem f39r3_run : run tbl fin K f39r3 e H = regK tbl fin K [] f39o3 [10, 9, 8, 3] e H := run_regK _ _ _ _ _ _ _ _ _ rfl
@[simp] def f39o4 : List IOper := [
  ⟨(some 11), .mv (.t 9), none, none⟩,
  ⟨(some 4), .mv (.t 11), none, none⟩]
def f39r4 : IC := .reg false [] f39o4 [4, 9, 8, 3]
@[simp] theorem f39r4_run : run tbl fin K f39r4 e H = regK tbl fin K [] f39o4 [4, 9, 8, 3] e H := run_regK _ _ _ _ _ _ _ _ _ rfl
@[simp] def f39o5 : List IOper := [
  ⟨(some 12), .mv (.t 3), none, none⟩,
  ⟨(some 13), .mv (.t 4), none, none⟩,
  ⟨(some 14), .mv (.t 3), none, none⟩,
  ⟨(some 15), .mv (.t 4), none, none⟩,
  ⟨(some 16), .idx 7 (.t 14) (.t 15), none, none⟩,
  ⟨(some 17), .fld 3 (.t 16), none, none⟩,
  ⟨(some 18), .load false 1 (.t 17), none, none⟩,
  ⟨(some 19), .call (.c (.fn 38 [])) [(.t 18)], none, none⟩,
  ⟨(some 20), .idx 7 (.t 12) (.t 13), none, none⟩,
  ⟨(some 21), .fld 3 (.t 20), none, none⟩,
  ⟨none, .store 1 (.t 21) (.t 19), none, none⟩]
def f39r5 : IC := .reg false [] f39o5 [4, 9, 8, 3]
@[simp] theorem f39r5_run : run tbl fin K f39r5 e H = regK tbl fin K [] f39o5 [4, 9, 8, 3] e H := run_regK _ _ _ _ _ _ _ _ _ rfl
@[simp] def f39o6 : List IOper := [
  ⟨(some 22), .mv (.t 3), none, none⟩,
  ⟨(some 23), .mv (.t 4), none, none⟩,
  ⟨(some 24), .mv (.t 3), none, none⟩,
  ⟨(some 25), .mv (.t 4), none, none⟩,
  ⟨(some 26), .idx 7 (.t 24) (.t 25), none, none⟩,
  ⟨(some 27), .fld 4 (.t 26), none, none⟩,
  ⟨(some 28), .load false 1 (.t 27), none, none⟩,
  ⟨(some 29), .call (.c (.fn 38 [])) [(.t 28)], none, none⟩,
  ⟨(some 30), .idx 7 (.t 22) (.t 23), none, none⟩,
  ⟨(some 31), .fld 4 (.t 30), none, none⟩,
  ⟨none, .store 1 (.t 31) (.t 29), none, none⟩]
def f39r6 : IC := .reg false [] f39o6 [9, 8, 3]
@[simp] theorem f39r6_run : run tbl fin K f39r6 e H = regK tbl fin K [] f39o6 [9, 8, 3] e H := run_regK _ _ _ _ _ _ _ _ _ rfl
@[simp] def f39o7 : List IOper := [
  ⟨(some 32), .bin .add (.t 9) (.c (.int .i64 1)), none, none⟩,
  ⟨(some 9), .mv (.t 32), none, none⟩]
def f39r7 : IC := .reg false [] f39o7 [9, 8, 3]
@[simp] theorem f39r7_run : run tbl fin K f39r7 e H = regK tbl fin K [] f39o7 [9, 8, 3] e H := run_regK _ _ _ _ _ _ _ _ _ rfl
def f39b8 : IC := (.seq f39r3 (.seq (.cond (.t 10) .skip (.exit 0)) (.seq (.block 1 (.seq f39r4 (.seq f39r5 f39r6))) f39r7)))
theorem f39b8_eq : f39b8 = (.seq f39r3 (.seq (.cond (.t 10) .skip (.exit 0)) (.seq (.block 1 (.seq f39r4 (.seq f39r5 f39r6))) f39r7))) := rfl
@[simp] def f39o9 : List IOper := [
  ⟨(some 33), .mv (.t 3), none, none⟩,
  ⟨(some 2), .mv (.t 33), none, none⟩]
def f39r9 : IC := .reg false [] f39o9 [2]
@[simp] theorem f39r9_run : run tbl fin K f39r9 e H = regK tbl fin K [] f39o9 [2] e H := run_regK _ _ _ _ _ _ _ _ _ rfl
def f39body : IC := (.seq f39r0 (.seq f39r1 (.seq (.seq f39r2 (.block 0 (.loop [9, 8, 3] f39b8))) (.seq f39r9 .ret))))
def f39 : IFn := ⟨34, 1, [.tmp 2], f39body⟩
/- 40: jobshell/jobshellref36.number -/
@[simp] def f40o0 : List IOper := [
  ⟨(some 2), .mv (.c (.bool false)), none, none⟩]
def f40r0 : IC := .reg false [] f40o0 [0]
@[simp] theorem f40r0_run : run tbl fin K f40r0 e H = regK tbl fin K [] f40o0 [0] e H := run_regK _ _ _ _ _ _ _ _ _ rfl
@[simp] def f40o1 : List IOper := [
  ⟨(some 3), .mv (.t 0), none, none⟩,
  ⟨(some 4), .bin .geq (.t 3) (.c (.int .i64 1)), none, none⟩,
  ⟨(some 5), .mv (.t 4), none, none⟩,
  ⟨(some 6), .mv (.t 0), (some (5, true)), none⟩,
  ⟨(some 7), .bin .leq (.t 6) (.c (.int .i64 2147483647)), (some (5, true)), none⟩,
  ⟨(some 8), .pick (.t 5) (.t 7) (.c (.bool false)), none, none⟩,
  ⟨(some 2), .mv (.t 8), none, none⟩]
def f40r1 : IC := .reg false [] f40o1 [2]
@[simp] theorem f40r1_run : run tbl fin K f40r1 e H = regK tbl fin K [] f40o1 [2] e H := run_regK _ _ _ _ _ _ _ _ _ rfl
def f40body : IC := (.seq f40r0 (.seq f40r1 .ret))
def f40 : IFn := ⟨9, 1, [.tmp 2], f40body⟩
/- 41: jobshell/jobshellref36.has -/
@[simp] def f41o0 : List IOper := [
  ⟨(some 4), .mv (.c (.bool false)), none, none⟩]
def f41r0 : IC := .reg false [] f41o0 [0, 1]
@[simp] theorem f41r0_run : run tbl fin K f41r0 e H = regK tbl fin K [] f41o0 [0, 1] e H := run_regK _ _ _ _ _ _ _ _ _ rfl
@[simp] def f41o1 : List IOper := [
  ⟨(some 5), .mv (.c (.int .i64 0)), none, none⟩]
def f41r1 : IC := .reg false [] f41o1 [0, 1, 5]
@[simp] theorem f41r1_run : run tbl fin K f41r1 e H = regK tbl fin K [] f41o1 [0, 1, 5] e H := run_regK _ _ _ _ _ _ _ _ _ rfl
@[simp] def f41o2 : List IOper := [
  ⟨(some 6), .mv (.t 5), none, none⟩,
  ⟨(some 7), .mv (.t 0), none, none⟩,
  ⟨(some 8), .len (.t 7), none, none⟩,
  ⟨(some 9), .bin .lss (.t 6) (.t 8), none, none⟩]
def f41r2 : IC := .reg false [] f41o2 [9, 1, 0, 5]
@[simp] theorem f41r2_run : run tbl fin K f41r2 e H = regK tbl fin K [] f41o2 [9, 1, 0, 5] e H := run_regK _ _ _ _ _ _ _ _ _ rfl
@[simp] def f41o3 : List IOper := [
  ⟨(some 12), .mv (.t 0), none, none⟩,
  ⟨(some 13), .mv (.t 5), none, none⟩,
  ⟨(some 14), .idx 1 (.t 12) (.t 13), none, none⟩,
  ⟨(some 15), .load false 1 (.t 14), none, none⟩,
  ⟨(some 16), .mv (.t 1), none, none⟩,
  ⟨(some 17), .bin .eql (.t 15) (.t 16), none, none⟩]
def f41r3 : IC := .reg false [] f41o3 [17, 1, 0, 5]
@[simp] theorem f41r3_run : run tbl fin K f41r3 e H = regK tbl fin K [] f41o3 [17, 1, 0, 5] e H := run_regK _ _ _ _ _ _ _ _ _ rfl
@[simp] def f41o4 : List IOper := [
  ⟨(some 4), .mv (.c (.bool true)), none, none⟩]
def f41r4 : IC := .reg false [] f41o4 [4]
@[simp] theorem f41r4_run : run tbl fin K f41r4 e H = regK tbl fin K [] f41o4 [4] e H := run_regK _ _ _ _ _ _ _ _ _ rfl
@[simp] def f41o5 : List IOper := [
  ⟨(some 10), .mv (.t 5), none, none⟩,
  ⟨(some 11), .bin .add (.t 10) (.c (.int .i64 1)), none, none⟩,
  ⟨(some 5), .mv (.t 11), none, none⟩]
def f41r5 : IC := .reg false [] f41o5 [0, 1, 5]
@[simp] theorem f41r5_run : run tbl fin K f41r5 e H = regK tbl fin K [] f41o5 [0, 1, 5] e H := run_regK _ _ _ _ _ _ _ _ _ rfl
def f41b6 : IC := (.seq (.seq f41r2 (.cond (.t 9) .skip (.exit 0))) (.seq (.block 1 (.seq f41r3 (.cond (.t 17) (.seq f41r4 .ret) .skip))) f41r5))
theorem f41b6_eq : f41b6 = (.seq (.seq f41r2 (.cond (.t 9) .skip (.exit 0))) (.seq (.block 1 (.seq f41r3 (.cond (.t 17) (.seq f41r4 .ret) .skip))) f41r5)) := rfl
@[simp] def f41o7 : List IOper := [
  ⟨(some 4), .mv (.c (.bool false)), none, none⟩]
def f41r7 : IC := .reg false [] f41o7 [4]
@[simp] theorem f41r7_run : run tbl fin K f41r7 e H = regK tbl fin K [] f41o7 [4] e H := run_regK _ _ _ _ _ _ _ _ _ rfl
def f41body : IC := (.seq f41r0 (.seq (.seq f41r1 (.block 0 (.loop [0, 1, 5] f41b6))) (.seq f41r7 .ret)))
def f41 : IFn := ⟨18, 2, [.tmp 4], f41body⟩
/- 42: jobshell/jobshellref36.member -/
@[simp] def f42o0 : List IOper := [
  ⟨(some 4), .mv (.c (.bool false)), none, none⟩]
def f42r0 : IC := .reg false [] f42o0 [0, 1]
@[simp] theorem f42r0_run : run tbl fin K f42r0 e H = regK tbl fin K [] f42o0 [0, 1] e H := run_regK _ _ _ _ _ _ _ _ _ rfl
@[simp] def f42o1 : List IOper := [
  ⟨(some 5), .mv (.c (.int .i64 0)), none, none⟩]
def f42r1 : IC := .reg false [] f42o1 [0, 1, 5]
@[simp] theorem f42r1_run : run tbl fin K f42r1 e H = regK tbl fin K [] f42o1 [0, 1, 5] e H := run_regK _ _ _ _ _ _ _ _ _ rfl
@[simp] def f42o2 : List IOper := [
  ⟨(some 6), .mv (.t 5), none, none⟩,
  ⟨(some 7), .mv (.t 0), none, none⟩,
  ⟨(some 8), .len (.t 7), none, none⟩,
  ⟨(some 9), .bin .lss (.t 6) (.t 8), none, none⟩]
def f42r2 : IC := .reg false [] f42o2 [9, 1, 0, 5]
@[simp] theorem f42r2_run : run tbl fin K f42r2 e H = regK tbl fin K [] f42o2 [9, 1, 0, 5] e H := run_regK _ _ _ _ _ _ _ _ _ rfl
@[simp] def f42o3 : List IOper := [
  ⟨(some 12), .mv (.t 0), none, none⟩,
  ⟨(some 13), .mv (.t 5), none, none⟩,
  ⟨(some 14), .idx 7 (.t 12) (.t 13), none, none⟩,
  ⟨(some 15), .fld 3 (.t 14), none, none⟩,
  ⟨(some 16), .load false 1 (.t 15), none, none⟩,
  ⟨(some 17), .mv (.t 1), none, none⟩,
  ⟨(some 18), .call (.c (.fn 41 [])) [(.t 16), (.t 17)], none, none⟩]
def f42r3 : IC := .reg false [] f42o3 [18, 1, 0, 5]
@[simp] theorem f42r3_run : run tbl fin K f42r3 e H = regK tbl fin K [] f42o3 [18, 1, 0, 5] e H := run_regK _ _ _ _ _ _ _ _ _ rfl
@[simp] def f42o4 : List IOper := [
  ⟨(some 4), .mv (.c (.bool true)), none, none⟩]
def f42r4 : IC := .reg false [] f42o4 [4]
@[simp] theorem f42r4_run : run tbl fin K f42r4 e H = regK tbl fin K [] f42o4 [4] e H := run_regK _ _ _ _ _ _ _ _ _ rfl
@[simp] def f42o5 : List IOper := [
  ⟨(some 10), .mv (.t 5), none, none⟩,
  ⟨(some 11), .bin .add (.t 10) (.c (.int .i64 1)), none, none⟩,
  ⟨(some 5), .mv (.t 11), none, none⟩]
def f42r5 : IC := .reg false [] f42o5 [0, 1, 5]
@[simp] theorem f42r5_run : run tbl fin K f42r5 e H = regK tbl fin K [] f42o5 [0, 1, 5] e H := run_regK _ _ _ _ _ _ _ _ _ rfl
def f42b6 : IC := (.seq (.seq f42r2 (.cond (.t 9) .skip (.exit 0))) (.seq (.block 1 (.seq f42r3 (.cond (.t 18) (.seq f42r4 .ret) .skip))) f42r5))
theorem f42b6_eq : f42b6 = (.seq (.seq f42r2 (.cond (.t 9) .skip (.exit 0))) (.seq (.block 1 (.seq f42r3 (.cond (.t 18) (.seq f42r4 .ret) .skip))) f42r5)) := rfl
@[simp] def f42o7 : List IOper := [
  ⟨(some 4), .mv (.c (.bool false)), none, none⟩]
def f42r7 : IC := .reg false [] f42o7 [4]
@[simp] theorem f42r7_run : run tbl fin K f42r7 e H = regK tbl fin K [] f42o7 [4] e H := run_regK _ _ _ _ _ _ _ _ _ rfl
def f42body : IC := (.seq f42r0 (.seq (.seq f42r1 (.block 0 (.loop [0, 1, 5] f42b6))) (.seq f42r7 .ret)))
def f42 : IFn := ⟨19, 2, [.tmp 4], f42body⟩
/- 43: jobshell/jobshellref36.named -/
@[simp] def f43o0 : List IOper := [
  ⟨(some 4), .mv (.c (.int .i64 0)), none, none⟩]
def f43r0 : IC := .reg false [] f43o0 [0, 1]
@[simp] theorem f43r0_run : run tbl fin K f43r0 e H = regK tbl fin K [] f43o0 [0, 1] e H := run_regK _ _ _ _ _ _ _ _ _ rfl
@[simp] def f43o1 : List IOper := [
  ⟨(some 5), .mv (.c (.int .i64 0)), none, none⟩]
def f43r1 : IC := .reg false [] f43o1 [0, 1, 5]
@[simp] theorem f43r1_run : run tbl fin K f43r1 e H = regK tbl fin K [] f43o1 [0, 1, 5] e H := run_regK _ _ _ _ _ _ _ _ _ rfl
@[simp] def f43o2 : List IOper := [
  ⟨(some 6), .mv (.t 5), none, none⟩,
  ⟨(some 7), .mv (.t 0), none, none⟩,
  ⟨(some 8), .len (.t 7), none, none⟩,
  ⟨(some 9), .bin .lss (.t 6) (.t 8), none, none⟩]
def f43r2 : IC := .reg false [] f43o2 [9, 1, 0, 5]
@[simp] theorem f43r2_run : run tbl fin K f43r2 e H = regK tbl fin K [] f43o2 [9, 1, 0, 5] e H := run_regK _ _ _ _ _ _ _ _ _ rfl
@[simp] def f43o3 : List IOper := [
  ⟨(some 12), .mv (.t 0), none, none⟩,
  ⟨(some 13), .mv (.t 5), none, none⟩,
  ⟨(some 14), .idx 7 (.t 12) (.t 13), none, none⟩,
  ⟨(some 15), .fld 0 (.t 14), none, none⟩,
  ⟨(some 16), .load false 1 (.t 15), none, none⟩,
  ⟨(some 17), .mv (.t 1), none, none⟩,
  ⟨(some 18), .bin .eql (.t 16) (.t 17), none, none⟩]
def f43r3 : IC := .reg false [] f43o3 [18, 1, 0, 5]
@[simp] theorem f43r3_run : run tbl fin K f43r3 e H = regK tbl fin K [] f43o3 [18, 1, 0, 5] e H := run_regK _ _ _ _ _ _ _ _ _ rfl
@[simp] def f43o4 : List IOper := [
  ⟨(some 19), .mv (.t 5), none, none⟩,
  ⟨(some 4), .mv (.t 19), none, none⟩]
def f43r4 : IC := .reg false [] f43o4 [4]
@[simp] theorem f43r4_run : run tbl fin K f43r4 e H = regK tbl fin K [] f43o4 [4] e H := run_regK _ _ _ _ _ _ _ _ _ rfl
@[simp] def f43o5 : List IOper := [
  ⟨(some 10), .mv (.t 5), none, none⟩,
  ⟨(some 11), .bin .add (.t 10) (.c (.int .i64 1)), none, none⟩,
  ⟨(some 5), .mv (.t 11), none, none⟩]
def f43r5 : IC := .reg false [] f43o5 [0, 1, 5]
@[simp] theorem f43r5_run : run tbl fin K f43r5 e H = regK tbl fin K [] f43o5 [0, 1, 5] e H := run_regK _ _ _ _ _ _ _ _ _ rfl
def f43b6 : IC := (.seq (.seq f43r2 (.cond (.t 9) .skip (.exit 0))) (.seq (.block 1 (.seq f43r3 (.cond (.t 18) (.seq f43r4 .ret) .skip))) f43r5))
theorem f43b6_eq : f43b6 = (.seq (.seq f43r2 (.cond (.t 9) .skip (.exit 0))) (.seq (.block 1 (.seq f43r3 (.cond (.t 18) (.seq f43r4 .ret) .skip))) f43r5)) := rfl
@[simp] def f43o7 : List IOper := [
  ⟨(some 4), .mv (.c (.int .i64 (-1))), none, none⟩]
def f43r7 : IC := .reg false [] f43o7 [4]
@[simp] theorem f43r7_run : run tbl fin K f43r7 e H = regK tbl fin K [] f43o7 [4] e H := run_regK _ _ _ _ _ _ _ _ _ rfl
def f43body : IC := (.seq f43r0 (.seq (.seq f43r1 (.block 0 (.loop [0, 1, 5] f43b6))) (.seq f43r7 .ret)))
def f43 : IFn := ⟨20, 2, [.tmp 4], f43body⟩
/- 44: jobshell/jobshellref36.copied -/
@[simp] def f44o0 : List IOper := [
  ⟨(some 2), .nilrow 42 7, none, none⟩]
def f44r0 : IC := .reg false [] f44o0 [0]
@[simp] theorem f44r0_run : run tbl fin K f44r0 e H = regK tbl fin K [] f44o0 [0] e H := run_regK _ _ _ _ _ _ _ _ _ rfl
@[simp] def f44o1 : List IOper := [
  ⟨(some 3), .nilrow 42 7, none, none⟩]
def f44r1 : IC := .reg false [] f44o1 [3, 0]
@[simp] theorem f44r1_run : run tbl fin K f44r1 e H = regK tbl fin K [] f44o1 [3, 0] e H := run_regK _ _ _ _ _ _ _ _ _ rfl
@[simp] def f44o2 : List IOper := [
  ⟨(some 4), .mv (.c (.int .i64 0)), none, none⟩]
def f44r2 : IC := .reg false [] f44o2 [3, 4, 0]
@[simp] theorem f44r2_run : run tbl fin K f44r2 e H = regK tbl fin K [] f44o2 [3, 4, 0] e H := run_regK _ _ _ _ _ _ _ _ _ rfl
@[simp] def f44o3 : List IOper := [
  ⟨(some 5), .mv (.t 4), none, none⟩,
  ⟨(some 6), .mv (.t 0), none, none⟩,
  ⟨(some 7), .len (.t 6), none, none⟩,
  ⟨(some 8), .bin .lss (.t 5) (.t 7), none, none⟩]
def f44r3 : IC := .reg false [] f44o3 [8, 3, 4, 0]
@[simp] theorem f44r3_run : run tbl fin K f44r3 e H = regK tbl fin K [] f44o3 [8, 3, 4, 0] e H := run_regK _ _ _ _ _ _ _ _ _ rfl
@[simp] def f44o4 : List IOper := [
  ⟨(some 11), .mv (.t 3), none, none⟩,
  ⟨(some 12), .mv (.t 0), none, none⟩,
  ⟨(some 13), .mv (.t 4), none, none⟩,
  ⟨(some 14), .idx 7 (.t 12) (.t 13), none, none⟩,
  ⟨(some 15), .load true 7 (.t 14), none, none⟩,
  ⟨(some 16), .mkimm 7 1 (.agg [(.int .i64 0), (.int .i64 0), (.int .i64 0), .e0, .e0, (.str []), (.bool false)]) [(0, (.t 15))], none, none⟩,
  ⟨(some 17), .app 42 7 (.t 11) (.t 16), none, none⟩,
  ⟨(some 3), .mv (.t 17), none, none⟩]
def f44r4 : IC := .reg false [] f44o4 [4, 3, 0]
@[simp] theorem f44r4_run : run tbl fin K f44r4 e H = regK tbl fin K [] f44o4 [4, 3, 0] e H := run_regK _ _ _ _ _ _ _ _ _ rfl
@[simp] def f44o5 : List IOper := [
  ⟨(some 9), .mv (.t 4), none, none⟩,
  ⟨(some 10), .bin .add (.t 9) (.c (.int .i64 1)), none, none⟩,
  ⟨(some 4), .mv (.t 10), none, none⟩]
def f44r5 : IC := .reg false [] f44o5 [3, 4, 0]
@[simp] theorem f44r5_run : run tbl fin K f44r5 e H = regK tbl fin K [] f44o5 [3, 4, 0] e H := run_regK _ _ _ _ _ _ _ _ _ rfl
def f44b6 : IC := (.seq (.seq f44r3 (.cond (.t 8) .skip (.exit 0))) (.seq (.block 1 f44r4) f44r5))
theorem f44b6_eq : f44b6 = (.seq (.seq f44r3 (.cond (.t 8) .skip (.exit 0))) (.seq (.block 1 f44r4) f44r5)) := rfl
@[simp] def f44o7 : List IOper := [
  ⟨(some 18), .mv (.t 3), none, none⟩,
  ⟨(some 2), .mv (.t 18), none, none⟩]
def f44r7 : IC := .reg false [] f44o7 [2]
@[simp] theorem f44r7_run : run tbl fin K f44r7 e H = regK tbl fin K [] f44o7 [2] e H := run_regK _ _ _ _ _ _ _ _ _ rfl
def f44body : IC := (.seq f44r0 (.seq f44r1 (.seq (.seq f44r2 (.block 0 (.loop [3, 4, 0] f44b6))) (.seq f44r7 .ret))))
def f44 : IFn := ⟨19, 1, [.tmp 2], f44body⟩
/- 45: jobshell/jobshellref36.SameOne -/
@[simp] def f45o0 : List IOper := [
  ⟨(some 2), .box 42 7 (.t 0), none, none⟩,
  ⟨(some 3), .box 42 7 (.t 1), none, none⟩,
  ⟨(some 4), .mv (.c (.bool false)), none, none⟩]
def f45r0 : IC := .reg false [] f45o0 [2, 3]
@[simp] theorem f45r0_run : run tbl fin K f45r0 e H = regK tbl fin K [] f45o0 [2, 3] e H := run_regK _ _ _ _ _ _ _ _ _ rfl
@[simp] def f45o1 : List IOper := [
  ⟨(some 5), .fld 0 (.t 2), none, none⟩,
  ⟨(some 6), .load false 1 (.t 5), none, none⟩,
  ⟨(some 7), .fld 0 (.t 3), none, none⟩,
  ⟨(some 8), .load false 1 (.t 7), none, none⟩,
  ⟨(some 9), .bin .eql (.t 6) (.t 8), none, none⟩,
  ⟨(some 10), .mv (.t 9), none, none⟩,
  ⟨(some 11), .fld 1 (.t 2), (some (10, true)), none⟩,
  ⟨(some 12), .load false 1 (.t 11), (some (10, true)), some [12, 10, 2, 3]⟩,
  ⟨(some 13), .fld 1 (.t 3), (some (10, true)), none⟩,
  ⟨(some 14), .load false 1 (.t 13), (some (10, true)), none⟩,
  ⟨(some 15), .bin .eql (.t 12) (.t 14), (some (10, true)), none⟩,
  ⟨(some 16), .pick (.t 10) (.t 15) (.c (.bool false)), none, none⟩,
  ⟨(some 17), .mv (.t 16), none, none⟩,
  ⟨(some 18), .fld 2 (.t 2), (some (17, true)), none⟩,
  ⟨(some 19), .load false 1 (.t 18), (some (17, true)), none⟩,
  ⟨(some 20), .fld 2 (.t 3), (some (17, true)), some [20, 19, 17, 2, 3]⟩,
  ⟨(some 21), .load false 1 (.t 20), (some (17, true)), none⟩,
  ⟨(some 22), .bin .eql (.t 19) (.t 21), (some (17, true)), none⟩,
  ⟨(some 23), .pick (.t 17) (.t 22) (.c (.bool false)), none, none⟩,
  ⟨(some 24), .mv (.t 23), none, none⟩,
  ⟨(some 25), .fld 5 (.t 2), (some (24, true)), none⟩,
  ⟨(some 26), .load false 1 (.t 25), (some (24, true)), none⟩,
  ⟨(some 27), .fld 5 (.t 3), (some (24, true)), none⟩,
  ⟨(some 28), .load false 1 (.t 27), (some (24, true)), some [28, 26, 24, 2, 3]⟩,
  ⟨(some 29), .bin .eql (.t 26) (.t 28), (some (24, true)), none⟩,
  ⟨(some 30), .pick (.t 24) (.t 29) (.c (.bool false)), none, none⟩,
  ⟨(some 31), .mv (.t 30), none, none⟩,
  ⟨(some 32), .fld 6 (.t 2), (some (31, true)), none⟩,
  ⟨(some 33), .load false 1 (.t 32), (some (31, true)), none⟩,
  ⟨(some 34), .fld 6 (.t 3), (some (31, true)), none⟩,
  ⟨(some 35), .load false 1 (.t 34), (some (31, true)), none⟩,
  ⟨(some 36), .beq false (.t 33) (.t 35), (some (31, true)), some [36, 31, 2, 3]⟩,
  ⟨(some 37), .pick (.t 31) (.t 36) (.c (.bool false)), none, none⟩,
  ⟨(some 38), .mv (.t 37), none, none⟩,
  ⟨(some 39), .fld 3 (.t 2), (some (38, true)), none⟩,
  ⟨(some 40), .load false 1 (.t 39), (some (38, true)), none⟩,
  ⟨(some 41), .fld 3 (.t 3), (some (38, true)), none⟩,
  ⟨(some 42), .load false 1 (.t 41), (some (38, true)), none⟩,
  ⟨(some 43), .call (.c (.fn 74 [])) [(.t 40), (.t 42)], (some (38, true)), none⟩,
  ⟨(some 44), .pick (.t 38) (.t 43) (.c (.bool false)), none, some [44, 2, 3]⟩,
  ⟨(some 45), .mv (.t 44), none, none⟩,
  ⟨(some 46), .fld 4 (.t 2), (some (45, true)), none⟩,
  ⟨(some 47), .load false 1 (.t 46), (some (45, true)), none⟩,
  ⟨(some 48), .fld 4 (.t 3), (some (45, true)), none⟩,
  ⟨(some 49), .load false 1 (.t 48), (some (45, true)), none⟩,
  ⟨(some 50), .call (.c (.fn 74 [])) [(.t 47), (.t 49)], (some (45, true)), none⟩,
  ⟨(some 51), .pick (.t 45) (.t 50) (.c (.bool false)), none, none⟩,
  ⟨(some 4), .mv (.t 51), none, none⟩]
def f45r1 : IC := .reg false [] f45o1 [4]
@[simp] theorem f45r1_run : run tbl fin K f45r1 e H = regK tbl fin K [] f45o1 [4] e H := run_regK _ _ _ _ _ _ _ _ _ rfl
def f45body : IC := (.seq f45r0 (.seq f45r1 .ret))
def f45 : IFn := ⟨52, 2, [.tmp 4], f45body⟩
/- 46: strings.CutPrefix -/
@[simp] def f46o0 : List IOper := [
  ⟨(some 4), .mv (.c (.str [])), none, none⟩,
  ⟨(some 5), .mv (.c (.bool false)), none, none⟩]
def f46r0 : IC := .reg false [] f46o0 [0, 1]
@[simp] theorem f46r0_run : run tbl fin K f46r0 e H = regK tbl fin K [] f46o0 [0, 1] e H := run_regK _ _ _ _ _ _ _ _ _ rfl
@[simp] def f46o1 : List IOper := [
  ⟨(some 6), .mv (.t 0), none, none⟩,
  ⟨(some 7), .mv (.t 1), none, none⟩,
  ⟨(some 8), .call (.c (.fn 75 [])) [(.t 6), (.t 7)], none, none⟩,
  ⟨(some 9), .ext (.t 8) 0, none, none⟩,
  ⟨(some 10), .ext (.t 8) 1, none, none⟩,
  ⟨(some 4), .mv (.t 9), none, none⟩,
  ⟨(some 5), .mv (.t 10), none, none⟩]
def f46r1 : IC := .reg false [] f46o1 [4, 5]
@[simp] theorem f46r1_run : run tbl fin K f46r1 e H = regK tbl fin K [] f46o1 [4, 5] e H := run_regK _ _ _ _ _ _ _ _ _ rfl
def f46body : IC := (.seq f46r0 (.seq f46r1 .ret))
def f46 : IFn := ⟨11, 2, [.tmp 4, .tmp 5], f46body⟩
/- 47: jobshell/jobs.found -/
@[simp] def f47o0 : List IOper := [
  ⟨(some 2), .mv (.c (.int .i64 0)), none, none⟩,
  ⟨(some 3), .mv (.c (.int .i64 0)), none, none⟩]
def f47r0 : IC := .reg false [] f47o0 [0]
@[simp] theorem f47r0_run : run tbl fin K f47r0 e H = regK tbl fin K [] f47o0 [0] e H := run_regK _ _ _ _ _ _ _ _ _ rfl
@[simp] def f47o1 : List IOper := [
  ⟨(some 4), .mv (.t 0), none, none⟩,
  ⟨(some 5), .bin .lss (.t 4) (.c (.int .i64 0)), none, none⟩]
def f47r1 : IC := .reg false [] f47o1 [5, 0]
@[simp] theorem f47r1_run : run tbl fin K f47r1 e H = regK tbl fin K [] f47o1 [5, 0] e H := run_regK _ _ _ _ _ _ _ _ _ rfl
@[simp] def f47o2 : List IOper := [
  ⟨(some 2), .mv (.c (.int .i64 0)), none, none⟩,
  ⟨(some 3), .mv (.c (.int .i64 8)), none, none⟩]
def f47r2 : IC := .reg false [] f47o2 [2, 3]
@[simp] theorem f47r2_run : run tbl fin K f47r2 e H = regK tbl fin K [] f47o2 [2, 3] e H := run_regK _ _ _ _ _ _ _ _ _ rfl
@[simp] def f47o3 : List IOper := [
  ⟨(some 6), .mv (.t 0), none, none⟩,
  ⟨(some 2), .mv (.t 6), none, none⟩,
  ⟨(some 3), .mv (.c (.int .i64 0)), none, none⟩]
def f47r3 : IC := .reg false [] f47o3 [2, 3]
@[simp] theorem f47r3_run : run tbl fin K f47r3 e H = regK tbl fin K [] f47o3 [2, 3] e H := run_regK _ _ _ _ _ _ _ _ _ rfl
def f47body : IC := (.seq f47r0 (.seq (.seq f47r1 (.cond (.t 5) (.seq f47r2 .ret) .skip)) (.seq f47r3 .ret)))
def f47 : IFn := ⟨7, 1, [.tmp 2, .tmp 3], f47body⟩
/- 48: jobshell/jobs.number -/
@[simp] def f48o0 : List IOper := [
  ⟨(some 2), .mv (.c (.bool false)), none, none⟩]
def f48r0 : IC := .reg false [] f48o0 [0]
@[simp] theorem f48r0_run : run tbl fin K f48r0 e H = regK tbl fin K [] f48o0 [0] e H := run_regK _ _ _ _ _ _ _ _ _ rfl
@[simp] def f48o1 : List IOper := [
  ⟨(some 3), .mv (.c (.int .i64 0)), none, none⟩]
def f48r1 : IC := .reg false [] f48o1 [0, 3]
@[simp] theorem f48r1_run : run tbl fin K f48r1 e H = regK tbl fin K [] f48o1 [0, 3] e H := run_regK _ _ _ _ _ _ _ _ _ rfl
@[simp] def f48o2 : List IOper := [
  ⟨(some 4), .mv (.t 3), none, none⟩,
  ⟨(some 5), .mv (.t 0), none, none⟩,
  ⟨(some 6), .slen (.t 5), none, none⟩,
  ⟨(some 7), .bin .lss (.t 4) (.t 6), none, none⟩]
def f48r2 : IC := .reg false [] f48o2 [7, 0, 3]
@[simp] theorem f48r2_run : run tbl fin K f48r2 e H = regK tbl fin K [] f48o2 [7, 0, 3] e H := run_regK _ _ _ _ _ _ _ _ _ rfl
@[simp] def f48o3 : List IOper := [
  ⟨(some 10), .mv (.t 0), none, none⟩,
  ⟨(some 11), .mv (.t 3), none, none⟩,
  ⟨(some 12), .sidx (.t 10) (.t 11), none, none⟩,
  ⟨(some 13), .bin .lss (.t 12) (.c (.int .u8 48)), none, none⟩,
  ⟨(some 14), .mv (.t 13), none, none⟩,
  ⟨(some 15), .mv (.t 0), (some (14, false)), none⟩,
  ⟨(some 16), .mv (.t 3), (some (14, false)), none⟩,
  ⟨(some 17), .sidx (.t 15) (.t 16), (some (14, false)), none⟩,
  ⟨(some 18), .bin .gtr (.t 17) (.c (.int .u8 57)), (some (14, false)), none⟩,
  ⟨(some 19), .pick (.t 14) (.c (.bool true)) (.t 18), none, none⟩]
def f48r3 : IC := .reg false [] f48o3 [19, 0, 3]
@[simp] theorem f48r3_run : run tbl fin K f48r3 e H = regK tbl fin K [] f48o3 [19, 0, 3] e H := run_regK _ _ _ _ _ _ _ _ _ rfl
@[simp] def f48o4 : List IOper := [
  ⟨(some 2), .mv (.c (.bool false)), none, none⟩]
def f48r4 : IC := .reg false [] f48o4 [2]
@[simp] theorem f48r4_run : run tbl fin K f48r4 e H = regK tbl fin K [] f48o4 [2] e H := run_regK _ _ _ _ _ _ _ _ _ rfl
@[simp] def f48o5 : List IOper := [
  ⟨(some 8), .mv (.t 3), none, none⟩,
  ⟨(some 9), .bin .add (.t 8) (.c (.int .i64 1)), none, none⟩,
  ⟨(some 3), .mv (.t 9), none, none⟩]
def f48r5 : IC := .reg false [] f48o5 [0, 3]
@[simp] theorem f48r5_run : run tbl fin K f48r5 e H = regK tbl fin K [] f48o5 [0, 3] e H := run_regK _ _ _ _ _ _ _ _ _ rfl
def f48b6 : IC := (.seq (.seq f48r2 (.cond (.t 7) .skip (.exit 0))) (.seq (.block 1 (.seq f48r3 (.cond (.t 19) (.seq f48r4 .ret) .skip))) f48r5))
theorem f48b6_eq : f48b6 = (.seq (.seq f48r2 (.cond (.t 7) .skip (.exit 0))) (.seq (.block 1 (.seq f48r3 (.cond (.t 19) (.seq f48r4 .ret) .skip))) f48r5)) := rfl
@[simp] def f48o7 : List IOper := [
  ⟨(some 20), .mv (.t 0), none, none⟩,
  ⟨(some 21), .bin .neq (.t 20) (.c (.str [])), none, none⟩,
  ⟨(some 22), .mv (.t 21), none, none⟩,
  ⟨(some 23), .mv (.t 0), (some (22, true)), none⟩,
  ⟨(some 24), .sidx (.t 23) (.c (.int .i64 0)), (some (22, true)), none⟩,
  ⟨(some 25), .bin .neq (.t 24) (.c (.int .u8 48)), (some (22, true)), none⟩,
  ⟨(some 26), .pick (.t 22) (.t 25) (.c (.bool false)), none, none⟩,
  ⟨(some 2), .mv (.t 26), none, none⟩]
def f48r7 : IC := .reg false [] f48o7 [2]
@[simp] theorem f48r7_run : run tbl fin K f48r7 e H = regK tbl fin K [] f48o7 [2] e H := run_regK _ _ _ _ _ _ _ _ _ rfl
def f48body : IC := (.seq f48r0 (.seq (.seq f48r1 (.block 0 (.loop [0, 3] f48b6))) (.seq f48r7 .ret)))
def f48 : IFn := ⟨27, 1, [.tmp 2], f48body⟩
/- 49: slices.IndexFunc[[]jobshell/api.Job,jobshell/api.Job] -/
@[simp] def f49o0 : List IOper := [
  ⟨(some 4), .mv (.c (.int .i64 0)), none, none⟩]
def f49r0 : IC := .reg false [] f49o0 [1, 0]
@[simp] theorem f49r0_run : run tbl fin K f49r0 e H = regK tbl fin K [] f49o0 [1, 0] e H := run_regK _ _ _ _ _ _ _ _ _ rfl
@[simp] def f49o1 : List IOper := [
  ⟨(some 6), .mv (.t 0), none, none⟩,
  ⟨(some 7), .len (.t 6), none, none⟩,
  ⟨(some 8), .mv (.c (.int .i64 0)), none, none⟩]
def f49r1 : IC := .reg false [] f49o1 [7, 1, 0, 8]
@[simp] theorem f49r1_run : run tbl fin K f49r1 e H = regK tbl fin K [] f49o1 [7, 1, 0, 8] e H := run_regK _ _ _ _ _ _ _ _ _ rfl
@[simp] def f49o2 : List IOper := [
  ⟨(some 9), .bin .lss (.t 8) (.t 7), none, none⟩]
def f49r2 : IC := .reg false [] f49o2 [9, 0, 1, 7, 8]
@[simp] theorem f49r2_run : run tbl fin K f49r2 e H = regK tbl fin K [] f49o2 [9, 0, 1, 7, 8] e H := run_regK _ _ _ _ _ _ _ _ _ rfl
@[simp] def f49o3 : List IOper := [
  ⟨(some 10), .mv (.t 8), none, none⟩,
  ⟨(some 5), .mv (.t 10), none, none⟩]
def f49r3 : IC := .reg false [] f49o3 [0, 1, 7, 8, 5]
@[simp] theorem f49r3_run : run tbl fin K f49r3 e H = regK tbl fin K [] f49o3 [0, 1, 7, 8, 5] e H := run_regK _ _ _ _ _ _ _ _ _ rfl
@[simp] def f49o4 : List IOper := [
  ⟨(some 11), .mv (.t 1), none, none⟩,
  ⟨(some 12), .mv (.t 0), none, none⟩,
  ⟨(some 13), .mv (.t 5), none, none⟩,
  ⟨(some 14), .idx 7 (.t 12) (.t 13), none, none⟩,
  ⟨(some 15), .load true 7 (.t 14), none, none⟩,
  ⟨(some 16), .ocall (.t 11) [(.t 15)], none, none⟩]
def f49r4 : IC := .reg false [] f49o4 [16, 0, 1, 7, 8, 5]
@[simp] theorem f49r4_run : run tbl fin K f49r4 e H = regK tbl fin K [] f49o4 [16, 0, 1, 7, 8, 5] e H := run_regK _ _ _ _ _ _ _ _ _ rfl
@[simp] def f49o5 : List IOper := [
  ⟨(some 17), .mv (.t 5), none, none⟩,
  ⟨(some 4), .mv (.t 17), none, none⟩]
def f49r5 : IC := .reg false [] f49o5 [4]
@[simp] theorem f49r5_run : run tbl fin K f49r5 e H = regK tbl fin K [] f49o5 [4] e H := run_regK _ _ _ _ _ _ _ _ _ rfl
@[simp] def f49o6 : List IOper := [
  ⟨(some 18), .bin .add (.t 8) (.c (.int .i64 1)), none, none⟩,
  ⟨(some 8), .mv (.t 18), none, none⟩]
def f49r6 : IC := .reg false [] f49o6 [7, 1, 0, 8]
@[simp] theorem f49r6_run : run tbl fin K f49r6 e H = regK tbl fin K [] f49o6 [7, 1, 0, 8] e H := run_regK _ _ _ _ _ _ _ _ _ rfl
def f49b7 : IC := (.seq f49r2 (.seq (.cond (.t 9) .skip (.exit 0)) (.seq (.block 1 (.seq f49r3 (.seq f49r4 (.cond (.t 16) (.seq f49r5 .ret) .skip)))) f49r6)))
theorem f49b7_eq : f49b7 = (.seq f49r2 (.seq (.cond (.t 9) .skip (.exit 0)) (.seq (.block 1 (.seq f49r3 (.seq f49r4 (.cond (.t 16) (.seq f49r5 .ret) .skip)))) f49r6))) := rfl
@[simp] def f49o8 : List IOper := [
  ⟨(some 4), .mv (.c (.int .i64 (-1))), none, none⟩]
def f49r8 : IC := .reg false [] f49o8 [4]
@[simp] theorem f49r8_run : run tbl fin K f49r8 e H = regK tbl fin K [] f49o8 [4] e H := run_regK _ _ _ _ _ _ _ _ _ rfl
def f49body : IC := (.seq f49r0 (.seq (.seq f49r1 (.block 0 (.loop [7, 1, 0, 8] f49b7))) (.seq f49r8 .ret)))
def f49 : IFn := ⟨19, 2, [.tmp 4], f49body⟩
/- 50: jobshell/jobs.Find$1 -/
@[simp] def f50o0 : List IOper := [
  ⟨(some 2), .box 42 7 (.t 0), none, none⟩,
  ⟨(some 3), .mv (.c (.bool false)), none, none⟩]
def f50r0 : IC := .reg false [] f50o0 [2, 1]
@[simp] theorem f50r0_run : run tbl fin K f50r0 e H = regK tbl fin K [] f50o0 [2, 1] e H := run_regK _ _ _ _ _ _ _ _ _ rfl
@[simp] def f50o1 : List IOper := [
  ⟨(some 4), .fld 0 (.t 2), none, none⟩,
  ⟨(some 5), .load false 1 (.t 4), none, none⟩,
  ⟨(some 6), .call (.c (.fn 20 [])) [(.t 5)], none, none⟩,
  ⟨(some 7), .load false 1 (.t 1), none, none⟩,
  ⟨(some 8), .bin .eql (.t 6) (.t 7), none, none⟩,
  ⟨(some 3), .mv (.t 8), none, none⟩]
def f50r1 : IC := .reg true [] f50o1 [3]
@[simp] theorem f50r1_run : run tbl fin K f50r1 e H = regK tbl fin K [] f50o1 [3] e H := run_regK _ _ _ _ _ _ _ _ _ rfl
def f50body : IC := (.seq f50r0 (.seq f50r1 .ret))
def f50 : IFn := ⟨9, 2, [.tmp 3], f50body⟩
/- 51: strings.HasPrefix -/
@[simp] def f51o0 : List IOper := [
  ⟨(some 4), .mv (.c (.bool false)), none, none⟩]
def f51r0 : IC := .reg false [] f51o0 [0, 1]
@[simp] theorem f51r0_run : run tbl fin K f51r0 e H = regK tbl fin K [] f51o0 [0, 1] e H := run_regK _ _ _ _ _ _ _ _ _ rfl
@[simp] def f51o1 : List IOper := [
  ⟨(some 5), .mv (.t 0), none, none⟩,
  ⟨(some 6), .mv (.t 1), none, none⟩,
  ⟨(some 7), .call (.c (.fn 76 [])) [(.t 5), (.t 6)], none, none⟩,
  ⟨(some 4), .mv (.t 7), none, none⟩]
def f51r1 : IC := .reg false [] f51o1 [4]
@[simp] theorem f51r1_run : run tbl fin K f51r1 e H = regK tbl fin K [] f51o1 [4] e H := run_regK _ _ _ _ _ _ _ _ _ rfl
def f51body : IC := (.seq f51r0 (.seq f51r1 .ret))
def f51 : IFn := ⟨8, 2, [.tmp 4], f51body⟩
/- 52: strings.Contains is met by a contract -/
/- 53: jobshell/jobshellref36.at -/
@[simp] def f53o0 : List IOper := [
  ⟨(some 2), .mv (.c (.int .i64 0)), none, none⟩,
  ⟨(some 3), .mv (.c (.int .i64 0)), none, none⟩]
def f53r0 : IC := .reg false [] f53o0 [0]
@[simp] theorem f53r0_run : run tbl fin K f53r0 e H = regK tbl fin K [] f53o0 [0] e H := run_regK _ _ _ _ _ _ _ _ _ rfl
@[simp] def f53o1 : List IOper := [
  ⟨(some 4), .mv (.t 0), none, none⟩,
  ⟨(some 5), .bin .lss (.t 4) (.c (.int .i64 0)), none, none⟩]
def f53r1 : IC := .reg false [] f53o1 [5, 0]
@[simp] theorem f53r1_run : run tbl fin K f53r1 e H = regK tbl fin K [] f53o1 [5, 0] e H := run_regK _ _ _ _ _ _ _ _ _ rfl
@[simp] def f53o2 : List IOper := [
  ⟨(some 2), .mv (.c (.int .i64 0)), none, none⟩,
  ⟨(some 3), .mv (.c (.int .i64 8)), none, none⟩]
def f53r2 : IC := .reg false [] f53o2 [2, 3]
@[simp] theorem f53r2_run : run tbl fin K f53r2 e H = regK tbl fin K [] f53o2 [2, 3] e H := run_regK _ _ _ _ _ _ _ _ _ rfl
@[simp] def f53o3 : List IOper := [
  ⟨(some 6), .mv (.t 0), none, none⟩,
  ⟨(some 2), .mv (.t 6), none, none⟩,
  ⟨(some 3), .mv (.c (.int .i64 0)), none, none⟩]
def f53r3 : IC := .reg false [] f53o3 [2, 3]
@[simp] theorem f53r3_run : run tbl fin K f53r3 e H = regK tbl fin K [] f53o3 [2, 3] e H := run_regK _ _ _ _ _ _ _ _ _ rfl
def f53body : IC := (.seq f53r0 (.seq (.seq f53r1 (.cond (.t 5) (.seq f53r2 .ret) .skip)) (.seq f53r3 .ret)))
def f53 : IFn := ⟨7, 1, [.tmp 2, .tmp 3], f53body⟩
/- 54: jobshell/jobshellref36.decimal -/
@[simp] def f54o0 : List IOper := [
  ⟨(some 2), .mv (.c (.bool false)), none, none⟩]
def f54r0 : IC := .reg false [] f54o0 [0]
@[simp] theorem f54r0_run : run tbl fin K f54r0 e H = regK tbl fin K [] f54o0 [0] e H := run_regK _ _ _ _ _ _ _ _ _ rfl
@[simp] def f54o1 : List IOper := [
  ⟨(some 3), .mv (.c (.int .i64 0)), none, none⟩]
def f54r1 : IC := .reg false [] f54o1 [0, 3]
@[simp] theorem f54r1_run : run tbl fin K f54r1 e H = regK tbl fin K [] f54o1 [0, 3] e H := run_regK _ _ _ _ _ _ _ _ _ rfl
@[simp] def f54o2 : List IOper := [
  ⟨(some 4), .mv (.t 3), none, none⟩,
  ⟨(some 5), .mv (.t 0), none, none⟩,
  ⟨(some 6), .slen (.t 5), none, none⟩,
  ⟨(some 7), .bin .lss (.t 4) (.t 6), none, none⟩]
def f54r2 : IC := .reg false [] f54o2 [7, 0, 3]
@[simp] theorem f54r2_run : run tbl fin K f54r2 e H = regK tbl fin K [] f54o2 [7, 0, 3] e H := run_regK _ _ _ _ _ _ _ _ _ rfl
@[simp] def f54o3 : List IOper := [
  ⟨(some 10), .mv (.t 0), none, none⟩,
  ⟨(some 11), .mv (.t 3), none, none⟩,
  ⟨(some 12), .sidx (.t 10) (.t 11), none, none⟩,
  ⟨(some 13), .bin .lss (.t 12) (.c (.int .u8 48)), none, none⟩,
  ⟨(some 14), .mv (.t 13), none, none⟩,
  ⟨(some 15), .mv (.t 0), (some (14, false)), none⟩,
  ⟨(some 16), .mv (.t 3), (some (14, false)), none⟩,
  ⟨(some 17), .sidx (.t 15) (.t 16), (some (14, false)), none⟩,
  ⟨(some 18), .bin .gtr (.t 17) (.c (.int .u8 57)), (some (14, false)), none⟩,
  ⟨(some 19), .pick (.t 14) (.c (.bool true)) (.t 18), none, none⟩]
def f54r3 : IC := .reg false [] f54o3 [19, 0, 3]
@[simp] theorem f54r3_run : run tbl fin K f54r3 e H = regK tbl fin K [] f54o3 [19, 0, 3] e H := run_regK _ _ _ _ _ _ _ _ _ rfl
@[simp] def f54o4 : List IOper := [
  ⟨(some 2), .mv (.c (.bool false)), none, none⟩]
def f54r4 : IC := .reg false [] f54o4 [2]
@[simp] theorem f54r4_run : run tbl fin K f54r4 e H = regK tbl fin K [] f54o4 [2] e H := run_regK _ _ _ _ _ _ _ _ _ rfl
@[simp] def f54o5 : List IOper := [
  ⟨(some 8), .mv (.t 3), none, none⟩,
  ⟨(some 9), .bin .add (.t 8) (.c (.int .i64 1)), none, none⟩,
  ⟨(some 3), .mv (.t 9), none, none⟩]
def f54r5 : IC := .reg false [] f54o5 [0, 3]
@[simp] theorem f54r5_run : run tbl fin K f54r5 e H = regK tbl fin K [] f54o5 [0, 3] e H := run_regK _ _ _ _ _ _ _ _ _ rfl
def f54b6 : IC := (.seq (.seq f54r2 (.cond (.t 7) .skip (.exit 0))) (.seq (.block 1 (.seq f54r3 (.cond (.t 19) (.seq f54r4 .ret) .skip))) f54r5))
theorem f54b6_eq : f54b6 = (.seq (.seq f54r2 (.cond (.t 7) .skip (.exit 0))) (.seq (.block 1 (.seq f54r3 (.cond (.t 19) (.seq f54r4 .ret) .skip))) f54r5)) := rfl
@[simp] def f54o7 : List IOper := [
  ⟨(some 20), .mv (.t 0), none, none⟩,
  ⟨(some 21), .bin .neq (.t 20) (.c (.str [])), none, none⟩,
  ⟨(some 22), .mv (.t 21), none, none⟩,
  ⟨(some 23), .mv (.t 0), (some (22, true)), none⟩,
  ⟨(some 24), .sidx (.t 23) (.c (.int .i64 0)), (some (22, true)), none⟩,
  ⟨(some 25), .bin .neq (.t 24) (.c (.int .u8 48)), (some (22, true)), none⟩,
  ⟨(some 26), .pick (.t 22) (.t 25) (.c (.bool false)), none, none⟩,
  ⟨(some 2), .mv (.t 26), none, none⟩]
def f54r7 : IC := .reg false [] f54o7 [2]
@[simp] theorem f54r7_run : run tbl fin K f54r7 e H = regK tbl fin K [] f54o7 [2] e H := run_regK _ _ _ _ _ _ _ _ _ rfl
def f54body : IC := (.seq f54r0 (.seq (.seq f54r1 (.block 0 (.loop [0, 3] f54b6))) (.seq f54r7 .ret)))
def f54 : IFn := ⟨27, 1, [.tmp 2], f54body⟩
/- 55: jobshell/jobshellref36.only -/
@[simp] def f55o0 : List IOper := [
  ⟨(some 6), .mv (.c (.int .i64 0)), none, none⟩,
  ⟨(some 7), .mv (.c (.int .i64 0)), none, none⟩]
def f55r0 : IC := .reg false [] f55o0 [2, 0, 1]
@[simp] theorem f55r0_run : run tbl fin K f55r0 e H = regK tbl fin K [] f55o0 [2, 0, 1] e H := run_regK _ _ _ _ _ _ _ _ _ rfl
@[simp] def f55o1 : List IOper := [
  ⟨(some 8), .mv (.c (.int .i64 (-1))), none, none⟩]
def f55r1 : IC := .reg false [] f55o1 [8, 2, 0, 1]
@[simp] theorem f55r1_run : run tbl fin K f55r1 e H = regK tbl fin K [] f55o1 [8, 2, 0, 1] e H := run_regK _ _ _ _ _ _ _ _ _ rfl
@[simp] def f55o2 : List IOper := [
  ⟨(some 9), .mv (.c (.int .i64 0)), none, none⟩]
def f55r2 : IC := .reg false [] f55o2 [8, 2, 0, 1, 9]
@[simp] theorem f55r2_run : run tbl fin K f55r2 e H = regK tbl fin K [] f55o2 [8, 2, 0, 1, 9] e H := run_regK _ _ _ _ _ _ _ _ _ rfl
@[simp] def f55o3 : List IOper := [
  ⟨(some 10), .mv (.t 9), none, none⟩,
  ⟨(some 11), .mv (.t 0), none, none⟩,
  ⟨(some 12), .len (.t 11), none, none⟩,
  ⟨(some 13), .bin .lss (.t 10) (.t 12), none, none⟩]
def f55r3 : IC := .reg false [] f55o3 [13, 8, 1, 0, 2, 9]
@[simp] theorem f55r3_run : run tbl fin K f55r3 e H = regK tbl fin K [] f55o3 [13, 8, 1, 0, 2, 9] e H := run_regK _ _ _ _ _ _ _ _ _ rfl
@[simp] def f55o4 : List IOper := [
  ⟨(some 16), .mv (.t 2), none, none⟩,
  ⟨(some 17), .mv (.t 16), none, none⟩,
  ⟨(some 18), .mv (.t 0), (some (17, true)), none⟩,
  ⟨(some 19), .mv (.t 9), (some (17, true)), none⟩,
  ⟨(some 20), .idx 7 (.t 18) (.t 19), (some (17, true)), none⟩,
  ⟨(some 21), .fld 5 (.t 20), (some (17, true)), none⟩,
  ⟨(some 22), .load false 1 (.t 21), (some (17, true)), none⟩,
  ⟨(some 23), .mv (.t 1), (some (17, true)), some [23, 22, 17, 8, 1, 0, 2, 9]⟩,
  ⟨(some 24), .call (.c (.fn 78 [])) [(.t 22), (.t 23)], (some (17, true)), none⟩,
  ⟨(some 25), .pick (.t 17) (.t 24) (.c (.bool false)), none, none⟩,
  ⟨(some 26), .mv (.t 25), none, none⟩,
  ⟨(some 27), .mv (.t 2), (some (26, false)), none⟩,
  ⟨(some 28), .un .not (.t 27), (some (26, false)), none⟩,
  ⟨(some 29), .mv (.t 28), (some (26, false)), none⟩,
  ⟨(some 30), .mv (.t 0), (some (29, true)), none⟩,
  ⟨(some 31), .mv (.t 9), (some (29, true)), some [31, 30, 29, 26, 8, 1, 0, 2, 9]⟩,
  ⟨(some 32), .idx 7 (.t 30) (.t 31), (some (29, true)), none⟩,
  ⟨(some 33), .fld 5 (.t 32), (some (29, true)), none⟩,
  ⟨(some 34), .load false 1 (.t 33), (some (29, true)), none⟩,
  ⟨(some 35), .mv (.t 1), (some (29, true)), none⟩,
  ⟨(some 36), .call (.c (.fn 79 [])) [(.t 34), (.t 35)], (some (29, true)), none⟩,
  ⟨(some 37), .pick (.t 29) (.t 36) (.c (.bool false)), (some (26, false)), none⟩,
  ⟨(some 38), .pick (.t 26) (.c (.bool true)) (.t 37), none, none⟩]
def f55r4 : IC := .reg false [] f55o4 [38, 8, 1, 0, 2, 9]
@[simp] theorem f55r4_run : run tbl fin K f55r4 e H = regK tbl fin K [] f55o4 [38, 8, 1, 0, 2, 9] e H := run_regK _ _ _ _ _ _ _ _ _ rfl
@[simp] def f55o5 : List IOper := [
  ⟨(some 39), .mv (.t 8), none, none⟩,
  ⟨(some 40), .bin .geq (.t 39) (.c (.int .i64 0)), none, none⟩]
def f55r5 : IC := .reg false [] f55o5 [40, 1, 0, 2, 9]
@[simp] theorem f55r5_run : run tbl fin K f55r5 e H = regK tbl fin K [] f55o5 [40, 1, 0, 2, 9] e H := run_regK _ _ _ _ _ _ _ _ _ rfl
@[simp] def f55o6 : List IOper := [
  ⟨(some 6), .mv (.c (.int .i64 0)), none, none⟩,
  ⟨(some 7), .mv (.c (.int .i64 26)), none, none⟩]
def f55r6 : IC := .reg false [] f55o6 [6, 7]
@[simp] theorem f55r6_run : run tbl fin K f55r6 e H = regK tbl fin K [] f55o6 [6, 7] e H := run_regK _ _ _ _ _ _ _ _ _ rfl
@[simp] def f55o7 : List IOper := [
  ⟨(some 41), .mv (.t 9), none, none⟩,
  ⟨(some 8), .mv (.t 41), none, none⟩]
def f55r7 : IC := .reg false [] f55o7 [9, 8, 2, 0, 1]
@[simp] theorem f55r7_run : run tbl fin K f55r7 e H = regK tbl fin K [] f55o7 [9, 8, 2, 0, 1] e H := run_regK _ _ _ _ _ _ _ _ _ rfl
@[simp] def f55o8 : List IOper := [
  ⟨(some 14), .mv (.t 9), none, none⟩,
  ⟨(some 15), .bin .add (.t 14) (.c (.int .i64 1)), none, none⟩,
  ⟨(some 9), .mv (.t 15), none, none⟩]
def f55r8 : IC := .reg false [] f55o8 [8, 2, 0, 1, 9]
@[simp] theorem f55r8_run : run tbl fin K f55r8 e H = regK tbl fin K [] f55o8 [8, 2, 0, 1, 9] e H := run_regK _ _ _ _ _ _ _ _ _ rfl
def f55b9 : IC := (.seq (.seq f55r3 (.cond (.t 13) .skip (.exit 0))) (.seq (.block 1 (.seq f55r4 (.cond (.t 38) (.seq (.seq f55r5 (.cond (.t 40) (.seq f55r6 .ret) .skip)) f55r7) .skip))) f55r8))
theorem f55b9_eq : f55b9 = (.seq (.seq f55r3 (.cond (.t 13) .skip (.exit 0))) (.seq (.block 1 (.seq f55r4 (.cond (.t 38) (.seq (.seq f55r5 (.cond (.t 40) (.seq f55r6 .ret) .skip)) f55r7) .skip))) f55r8)) := rfl
@[simp] def f55o10 : List IOper := [
  ⟨(some 42), .mv (.t 8), none, none⟩,
  ⟨(some 43), .call (.c (.fn 53 [])) [(.t 42)], none, none⟩,
  ⟨(some 44), .ext (.t 43) 0, none, none⟩,
  ⟨(some 45), .ext (.t 43) 1, none, none⟩,
  ⟨(some 6), .mv (.t 44), none, none⟩,
  ⟨(some 7), .mv (.t 45), none, none⟩]
def f55r10 : IC := .reg false [] f55o10 [6, 7]
@[simp] theorem f55r10_run : run tbl fin K f55r10 e H = regK tbl fin K [] f55o10 [6, 7] e H := run_regK _ _ _ _ _ _ _ _ _ rfl
def f55body : IC := (.seq f55r0 (.seq f55r1 (.seq (.seq f55r2 (.block 0 (.loop [8, 2, 0, 1, 9] f55b9))) (.seq f55r10 .ret))))
def f55 : IFn := ⟨46, 3, [.tmp 6, .tmp 7], f55body⟩
/- 56: jobshell/jobs.last -/
@[simp] def f56o0 : List IOper := [
  ⟨(some 4), .mv (.c (.int .i64 0)), none, none⟩]
def f56r0 : IC := .reg false [] f56o0 [1, 0]
@[simp] theorem f56r0_run : run tbl fin K f56r0 e H = regK tbl fin K [] f56o0 [1, 0] e H := run_regK _ _ _ _ _ _ _ _ _ rfl
@[simp] def f56o1 : List IOper := [
  ⟨(some 5), .mv (.c (.int .i64 (-1))), none, none⟩]
def f56r1 : IC := .reg false [] f56o1 [1, 5, 0]
@[simp] theorem f56r1_run : run tbl fin K f56r1 e H = regK tbl fin K [] f56o1 [1, 5, 0] e H := run_regK _ _ _ _ _ _ _ _ _ rfl
@[simp] def f56o2 : List IOper := [
  ⟨(some 7), .mv (.t 0), none, none⟩,
  ⟨(some 8), .len (.t 7), none, none⟩,
  ⟨(some 9), .bin .sub (.t 8) (.c (.int .i64 1)), none, none⟩,
  ⟨(some 6), .mv (.t 9), none, none⟩]
def f56r2 : IC := .reg false [] f56o2 [6, 1, 5, 0]
@[simp] theorem f56r2_run : run tbl fin K f56r2 e H = regK tbl fin K [] f56o2 [6, 1, 5, 0] e H := run_regK _ _ _ _ _ _ _ _ _ rfl
@[simp] def f56o3 : List IOper := [
  ⟨(some 10), .mv (.t 6), none, none⟩,
  ⟨(some 11), .bin .geq (.t 10) (.c (.int .i64 0)), none, none⟩]
def f56r3 : IC := .reg false [] f56o3 [11, 6, 1, 5, 0]
@[simp] theorem f56r3_run : run tbl fin K f56r3 e H = regK tbl fin K [] f56o3 [11, 6, 1, 5, 0] e H := run_regK _ _ _ _ _ _ _ _ _ rfl
@[simp] def f56o4 : List IOper := [
  ⟨(some 14), .mv (.t 6), none, none⟩,
  ⟨(some 15), .mv (.t 1), none, none⟩,
  ⟨(some 16), .bin .eql (.t 14) (.t 15), none, none⟩]
def f56r4 : IC := .reg false [] f56o4 [16, 6, 1, 5, 0]
@[simp] theorem f56r4_run : run tbl fin K f56r4 e H = regK tbl fin K [] f56o4 [16, 6, 1, 5, 0] e H := run_regK _ _ _ _ _ _ _ _ _ rfl
@[simp] def f56o5 : List IOper := [
  ⟨(some 17), .mv (.t 0), none, none⟩,
  ⟨(some 18), .mv (.t 6), none, none⟩,
  ⟨(some 19), .idx 7 (.t 17) (.t 18), none, none⟩,
  ⟨(some 20), .fld 2 (.t 19), none, none⟩,
  ⟨(some 21), .load false 1 (.t 20), none, none⟩,
  ⟨(some 22), .bin .eql (.t 21) (.c (.int .i64 2)), none, none⟩]
def f56r5 : IC := .reg false [] f56o5 [22, 0, 1, 5, 6]
@[simp] theorem f56r5_run : run tbl fin K f56r5 e H = regK tbl fin K [] f56o5 [22, 0, 1, 5, 6] e H := run_regK _ _ _ _ _ _ _ _ _ rfl
@[simp] def f56o6 : List IOper := [
  ⟨(some 23), .mv (.t 6), none, none⟩,
  ⟨(some 4), .mv (.t 23), none, none⟩]
def f56r6 : IC := .reg false [] f56o6 [4]
@[simp] theorem f56r6_run : run tbl fin K f56r6 e H = regK tbl fin K [] f56o6 [4] e H := run_regK _ _ _ _ _ _ _ _ _ rfl
@[simp] def f56o7 : List IOper := [
  ⟨(some 24), .mv (.t 5), none, none⟩,
  ⟨(some 25), .bin .lss (.t 24) (.c (.int .i64 0)), none, none⟩]
def f56r7 : IC := .reg false [] f56o7 [25, 5, 6, 1, 0]
@[simp] theorem f56r7_run : run tbl fin K f56r7 e H = regK tbl fin K [] f56o7 [25, 5, 6, 1, 0] e H := run_regK _ _ _ _ _ _ _ _ _ rfl
@[simp] def f56o8 : List IOper := [
  ⟨(some 26), .mv (.t 6), none, none⟩,
  ⟨(some 5), .mv (.t 26), none, none⟩]
def f56r8 : IC := .reg false [] f56o8 [6, 1, 5, 0]
@[simp] theorem f56r8_run : run tbl fin K f56r8 e H = regK tbl fin K [] f56o8 [6, 1, 5, 0] e H := run_regK _ _ _ _ _ _ _ _ _ rfl
@[simp] def f56o9 : List IOper := [
  ⟨(some 12), .mv (.t 6), none, none⟩,
  ⟨(some 13), .bin .sub (.t 12) (.c (.int .i64 1)), none, none⟩,
  ⟨(some 6), .mv (.t 13), none, none⟩]
def f56r9 : IC := .reg false [] f56o9 [6, 1, 5, 0]
@[simp] theorem f56r9_run : run tbl fin K f56r9 e H = regK tbl fin K [] f56o9 [6, 1, 5, 0] e H := run_regK _ _ _ _ _ _ _ _ _ rfl
def f56b10 : IC := (.seq (.seq f56r3 (.cond (.t 11) .skip (.exit 0))) (.seq (.block 1 (.seq (.seq f56r4 (.cond (.t 16) (.exit 1) .skip)) (.seq (.seq f56r5 (.cond (.t 22) (.seq f56r6 .ret) .skip)) (.seq f56r7 (.cond (.t 25) f56r8 .skip))))) f56r9))
theorem f56b10_eq : f56b10 = (.seq (.seq f56r3 (.cond (.t 11) .skip (.exit 0))) (.seq (.block 1 (.seq (.seq f56r4 (.cond (.t 16) (.exit 1) .skip)) (.seq (.seq f56r5 (.cond (.t 22) (.seq f56r6 .ret) .skip)) (.seq f56r7 (.cond (.t 25) f56r8 .skip))))) f56r9)) := rfl
@[simp] def f56o11 : List IOper := [
  ⟨(some 27), .mv (.t 5), none, none⟩,
  ⟨(some 4), .mv (.t 27), none, none⟩]
def f56r11 : IC := .reg false [] f56o11 [4]
@[simp] theorem f56r11_run : run tbl fin K f56r11 e H = regK tbl fin K [] f56o11 [4] e H := run_regK _ _ _ _ _ _ _ _ _ rfl
def f56body : IC := (.seq f56r0 (.seq f56r1 (.seq (.seq f56r2 (.block 0 (.loop [6, 1, 5, 0] f56b10))) (.seq f56r11 .ret))))
def f56 : IFn := ⟨28, 2, [.tmp 4], f56body⟩
end Go.Proofs.YtpphfbfmoipoaaaDoor
