/- The interpreter's form of this seat's functions (printed by a program out of the translation), and that the translation gives just this. No condition. -/
import Derived.Test.YtpphfbfmoipoaaaDoorTbl1
namespace Go.Proofs.YtpphfbfmoipoaaaDoor
open Go.PI
variable (tbl : TB) (fin : Fin) (K : List Fr) (e : Env) (H : List AO)
/- 57: jobshell/jobshellref36.last -/
@[simp] def f57o0 : List IOper := [
  ⟨(some 4), .mv (.c (.int .i64 0)), none, none⟩]
def f57r0 : IC := .reg false [] f57o0 [1, 0]
@[simp] theorem f57r0_run : run tbl fin K f57r0 e H = regK tbl fin K [] f57o0 [1, 0] e H := run_regK _ _ _ _ _ _ _ _ _ rfl
@[simp] def f57o1 : List IOper := [
  ⟨(some 5), .mv (.c (.int .i64 (-1))), none, none⟩]
def f57r1 : IC := .reg false [] f57o1 [5, 1, 0]
@[simp] theorem f57r1_run : run tbl fin K f57r1 e H = regK tbl fin K [] f57o1 [5, 1, 0] e H := run_regK _ _ _ _ _ _ _ _ _ rfl
@[simp] def f57o2 : List IOper := [
  ⟨(some 6), .mv (.c (.int .i64 0)), none, none⟩]
def f57r2 : IC := .reg false [] f57o2 [5, 6, 1, 0]
@[simp] theorem f57r2_run : run tbl fin K f57r2 e H = regK tbl fin K [] f57o2 [5, 6, 1, 0] e H := run_regK _ _ _ _ _ _ _ _ _ rfl
@[simp] def f57o3 : List IOper := [
  ⟨(some 8), .mv (.t 6), none, none⟩,
  ⟨(some 9), .mv (.t 0), none, none⟩,
  ⟨(some 10), .len (.t 9), none, none⟩,
  ⟨(some 11), .bin .lss (.t 8) (.t 10), none, none⟩]
def f57r3 : IC := .reg false [] f57o3 [11, 5, 6, 1, 0]
@[simp] theorem f57r3_run : run tbl fin K f57r3 e H = regK tbl fin K [] f57o3 [11, 5, 6, 1, 0] e H := run_regK _ _ _ _ _ _ _ _ _ rfl
@[simp] def f57o4 : List IOper := [
  ⟨(some 14), .mv (.t 6), none, none⟩,
  ⟨(some 15), .mv (.t 1), none, none⟩,
  ⟨(some 16), .bin .neq (.t 14) (.t 15), none, none⟩,
  ⟨(some 17), .mv (.t 16), none, none⟩,
  ⟨(some 18), .mv (.t 0), (some (17, true)), none⟩,
  ⟨(some 19), .mv (.t 6), (some (17, true)), none⟩,
  ⟨(some 20), .idx 7 (.t 18) (.t 19), (some (17, true)), none⟩,
  ⟨(some 21), .fld 2 (.t 20), (some (17, true)), none⟩,
  ⟨(some 22), .load false 1 (.t 21), (some (17, true)), none⟩,
  ⟨(some 23), .bin .eql (.t 22) (.c (.int .i64 2)), (some (17, true)), none⟩,
  ⟨(some 24), .pick (.t 17) (.t 23) (.c (.bool false)), none, none⟩]
def f57r4 : IC := .reg false [] f57o4 [24, 5, 6, 1, 0]
@[simp] theorem f57r4_run : run tbl fin K f57r4 e H = regK tbl fin K [] f57o4 [24, 5, 6, 1, 0] e H := run_regK _ _ _ _ _ _ _ _ _ rfl
@[simp] def f57o5 : List IOper := [
  ⟨(some 25), .mv (.t 6), none, none⟩,
  ⟨(some 5), .mv (.t 25), none, none⟩]
def f57r5 : IC := .reg false [] f57o5 [6, 5, 1, 0]
@[simp] theorem f57r5_run : run tbl fin K f57r5 e H = regK tbl fin K [] f57o5 [6, 5, 1, 0] e H := run_regK _ _ _ _ _ _ _ _ _ rfl
@[simp] def f57o6 : List IOper := [
  ⟨(some 12), .mv (.t 6), none, none⟩,
  ⟨(some 13), .bin .add (.t 12) (.c (.int .i64 1)), none, none⟩,
  ⟨(some 6), .mv (.t 13), none, none⟩]
def f57r6 : IC := .reg false [] f57o6 [5, 6, 1, 0]
@[simp] theorem f57r6_run : run tbl fin K f57r6 e H = regK tbl fin K [] f57o6 [5, 6, 1, 0] e H := run_regK _ _ _ _ _ _ _ _ _ rfl
def f57b7 : IC := (.seq (.seq f57r3 (.cond (.t 11) .skip (.exit 0))) (.seq (.block 1 (.seq f57r4 (.cond (.t 24) f57r5 .skip))) f57r6))
theorem f57b7_eq : f57b7 = (.seq (.seq f57r3 (.cond (.t 11) .skip (.exit 0))) (.seq (.block 1 (.seq f57r4 (.cond (.t 24) f57r5 .skip))) f57r6)) := rfl
@[simp] def f57o8 : List IOper := [
  ⟨(some 26), .mv (.t 5), none, none⟩,
  ⟨(some 27), .bin .geq (.t 26) (.c (.int .i64 0)), none, none⟩]
def f57r8 : IC := .reg false [] f57o8 [27, 1, 0, 5]
@[simp] theorem f57r8_run : run tbl fin K f57r8 e H = regK tbl fin K [] f57o8 [27, 1, 0, 5] e H := run_regK _ _ _ _ _ _ _ _ _ rfl
@[simp] def f57o9 : List IOper := [
  ⟨(some 28), .mv (.t 5), none, none⟩,
  ⟨(some 4), .mv (.t 28), none, none⟩]
def f57r9 : IC := .reg false [] f57o9 [4]
@[simp] theorem f57r9_run : run tbl fin K f57r9 e H = regK tbl fin K [] f57o9 [4] e H := run_regK _ _ _ _ _ _ _ _ _ rfl
@[simp] def f57o10 : List IOper := [
  ⟨(some 7), .mv (.c (.int .i64 0)), none, none⟩]
def f57r10 : IC := .reg false [] f57o10 [5, 7, 0, 1]
@[simp] theorem f57r10_run : run tbl fin K f57r10 e H = regK tbl fin K [] f57o10 [5, 7, 0, 1] e H := run_regK _ _ _ _ _ _ _ _ _ rfl
@[simp] def f57o11 : List IOper := [
  ⟨(some 29), .mv (.t 7), none, none⟩,
  ⟨(some 30), .mv (.t 0), none, none⟩,
  ⟨(some 31), .len (.t 30), none, none⟩,
  ⟨(some 32), .bin .lss (.t 29) (.t 31), none, none⟩]
def f57r11 : IC := .reg false [] f57o11 [32, 5, 7, 0, 1]
@[simp] theorem f57r11_run : run tbl fin K f57r11 e H = regK tbl fin K [] f57o11 [32, 5, 7, 0, 1] e H := run_regK _ _ _ _ _ _ _ _ _ rfl
@[simp] def f57o12 : List IOper := [
  ⟨(some 35), .mv (.t 7), none, none⟩,
  ⟨(some 36), .mv (.t 1), none, none⟩,
  ⟨(some 37), .bin .neq (.t 35) (.t 36), none, none⟩]
def f57r12 : IC := .reg false [] f57o12 [37, 5, 7, 0, 1]
@[simp] theorem f57r12_run : run tbl fin K f57r12 e H = regK tbl fin K [] f57o12 [37, 5, 7, 0, 1] e H := run_regK _ _ _ _ _ _ _ _ _ rfl
@[simp] def f57o13 : List IOper := [
  ⟨(some 38), .mv (.t 7), none, none⟩,
  ⟨(some 5), .mv (.t 38), none, none⟩]
def f57r13 : IC := .reg false [] f57o13 [7, 5, 0, 1]
@[simp] theorem f57r13_run : run tbl fin K f57r13 e H = regK tbl fin K [] f57o13 [7, 5, 0, 1] e H := run_regK _ _ _ _ _ _ _ _ _ rfl
@[simp] def f57o14 : List IOper := [
  ⟨(some 33), .mv (.t 7), none, none⟩,
  ⟨(some 34), .bin .add (.t 33) (.c (.int .i64 1)), none, none⟩,
  ⟨(some 7), .mv (.t 34), none, none⟩]
def f57r14 : IC := .reg false [] f57o14 [5, 7, 0, 1]
@[simp] theorem f57r14_run : run tbl fin K f57r14 e H = regK tbl fin K [] f57o14 [5, 7, 0, 1] e H := run_regK _ _ _ _ _ _ _ _ _ rfl
def f57b15 : IC := (.seq (.seq f57r11 (.cond (.t 32) .skip (.exit 2))) (.seq (.block 3 (.seq f57r12 (.cond (.t 37) f57r13 .skip))) f57r14))
theorem f57b15_eq : f57b15 = (.seq (.seq f57r11 (.cond (.t 32) .skip (.exit 2))) (.seq (.block 3 (.seq f57r12 (.cond (.t 37) f57r13 .skip))) f57r14)) := rfl
@[simp] def f57o16 : List IOper := [
  ⟨(some 39), .mv (.t 5), none, none⟩,
  ⟨(some 4), .mv (.t 39), none, none⟩]
def f57r16 : IC := .reg false [] f57o16 [4]
@[simp] theorem f57r16_run : run tbl fin K f57r16 e H = regK tbl fin K [] f57o16 [4] e H := run_regK _ _ _ _ _ _ _ _ _ rfl
def f57body : IC := (.seq f57r0 (.seq f57r1 (.seq (.seq f57r2 (.block 0 (.loop [5, 6, 1, 0] f57b7))) (.seq (.seq f57r8 (.cond (.t 27) (.seq f57r9 .ret) .skip)) (.seq (.seq f57r10 (.block 2 (.loop [5, 7, 0, 1] f57b15))) (.seq f57r16 .ret))))))
def f57 : IFn := ⟨40, 2, [.tmp 4], f57body⟩
/- 58: jobshell/jobs.join -/
@[simp] def f58o0 : List IOper := [
  ⟨(some 2), .mv (.c (.str [])), none, none⟩]
def f58r0 : IC := .reg false [] f58o0 [0]
@[simp] theorem f58r0_run : run tbl fin K f58r0 e H = regK tbl fin K [] f58o0 [0] e H := run_regK _ _ _ _ _ _ _ _ _ rfl
@[simp] def f58o1 : List IOper := [
  ⟨(some 3), .mv (.t 0), none, none⟩,
  ⟨(some 4), .call (.c (.fn 80 [])) [(.t 3), (.c (.str []))], none, none⟩,
  ⟨(some 2), .mv (.t 4), none, none⟩]
def f58r1 : IC := .reg false [] f58o1 [2]
@[simp] theorem f58r1_run : run tbl fin K f58r1 e H = regK tbl fin K [] f58o1 [2] e H := run_regK _ _ _ _ _ _ _ _ _ rfl
def f58body : IC := (.seq f58r0 (.seq f58r1 .ret))
def f58 : IFn := ⟨5, 1, [.tmp 2], f58body⟩
/- 59: jobshell/jobs.words -/
@[simp] def f59o0 : List IOper := [
  ⟨(some 1), .box 42 7 (.t 0), none, none⟩,
  ⟨(some 2), .mv (.c (.str [])), none, none⟩]
def f59r0 : IC := .reg false [] f59o0 [1]
@[simp] theorem f59r0_run : run tbl fin K f59r0 e H = regK tbl fin K [] f59o0 [1] e H := run_regK _ _ _ _ _ _ _ _ _ rfl
@[simp] def f59o1 : List IOper := [
  ⟨(some 4), .fld 2 (.t 1), none, none⟩,
  ⟨(some 5), .load false 1 (.t 4), none, none⟩]
def f59r1 : IC := .reg false [] f59o1 [1, 5]
@[simp] theorem f59r1_run : run tbl fin K f59r1 e H = regK tbl fin K [] f59o1 [1, 5] e H := run_regK _ _ _ _ _ _ _ _ _ rfl
@[simp] def f59o2 : List IOper := [
  ⟨(some 7), .bin .eql (.t 5) (.c (.int .i64 2)), none, none⟩,
  ⟨(some 6), .mv (.t 7), none, none⟩]
def f59r2 : IC := .reg false [] f59o2 [6, 1, 5]
@[simp] theorem f59r2_run : run tbl fin K f59r2 e H = regK tbl fin K [] f59o2 [6, 1, 5] e H := run_regK _ _ _ _ _ _ _ _ _ rfl
@[simp] def f59o3 : List IOper := [
  ⟨(some 2), .mv (.c (.str [83, 116, 111, 112, 112, 101, 100])), none, none⟩]
def f59r3 : IC := .reg false [] f59o3 [2]
@[simp] theorem f59r3_run : run tbl fin K f59r3 e H = regK tbl fin K [] f59o3 [2] e H := run_regK _ _ _ _ _ _ _ _ _ rfl
@[simp] def f59o4 : List IOper := [
  ⟨(some 9), .bin .eql (.t 5) (.c (.int .i64 3)), none, none⟩,
  ⟨(some 8), .mv (.t 9), none, none⟩]
def f59r4 : IC := .reg false [] f59o4 [8, 1]
@[simp] theorem f59r4_run : run tbl fin K f59r4 e H = regK tbl fin K [] f59o4 [8, 1] e H := run_regK _ _ _ _ _ _ _ _ _ rfl
@[simp] def f59o5 : List IOper := [
  ⟨(some 10), .fld 4 (.t 1), none, none⟩,
  ⟨(some 11), .load false 1 (.t 10), none, none⟩,
  ⟨(some 12), .len (.t 11), none, none⟩,
  ⟨(some 3), .mv (.t 12), none, none⟩]
def f59r5 : IC := .reg false [] f59o5 [1, 3]
@[simp] theorem f59r5_run : run tbl fin K f59r5 e H = regK tbl fin K [] f59o5 [1, 3] e H := run_regK _ _ _ _ _ _ _ _ _ rfl
@[simp] def f59o6 : List IOper := [
  ⟨(some 13), .mv (.t 3), none, none⟩,
  ⟨(some 14), .bin .gtr (.t 13) (.c (.int .i64 0)), none, none⟩]
def f59r6 : IC := .reg false [] f59o6 [14, 1, 3]
@[simp] theorem f59r6_run : run tbl fin K f59r6 e H = regK tbl fin K [] f59o6 [14, 1, 3] e H := run_regK _ _ _ _ _ _ _ _ _ rfl
@[simp] def f59o7 : List IOper := [
  ⟨(some 15), .fld 4 (.t 1), none, none⟩,
  ⟨(some 16), .load false 1 (.t 15), none, none⟩,
  ⟨(some 17), .mv (.t 3), none, none⟩,
  ⟨(some 18), .bin .sub (.t 17) (.c (.int .i64 1)), none, none⟩,
  ⟨(some 19), .idx 1 (.t 16) (.t 18), none, none⟩,
  ⟨(some 20), .load false 1 (.t 19), none, none⟩,
  ⟨(some 21), .call (.c (.fn 81 [])) [(.t 20)], none, none⟩,
  ⟨(some 2), .mv (.t 21), none, none⟩]
def f59r7 : IC := .reg false [] f59o7 [2]
@[simp] theorem f59r7_run : run tbl fin K f59r7 e H = regK tbl fin K [] f59o7 [2] e H := run_regK _ _ _ _ _ _ _ _ _ rfl
@[simp] def f59o8 : List IOper := [
  ⟨(some 2), .mv (.c (.str [])), none, none⟩]
def f59r8 : IC := .reg false [] f59o8 [2]
@[simp] theorem f59r8_run : run tbl fin K f59r8 e H = regK tbl fin K [] f59o8 [2] e H := run_regK _ _ _ _ _ _ _ _ _ rfl
@[simp] def f59o9 : List IOper := [
  ⟨(some 2), .mv (.c (.str [82, 117, 110, 110, 105, 110, 103])), none, none⟩]
def f59r9 : IC := .reg false [] f59o9 [2]
@[simp] theorem f59r9_run : run tbl fin K f59r9 e H = regK tbl fin K [] f59o9 [2] e H := run_regK _ _ _ _ _ _ _ _ _ rfl
def f59body : IC := (.seq f59r0 (.seq (.seq f59r1 (.block 0 (.seq f59r2 (.cond (.t 6) (.seq f59r3 .ret) (.seq f59r4 (.cond (.t 8) (.seq (.seq f59r5 (.seq f59r6 (.cond (.t 14) (.seq f59r7 .ret) .skip))) (.seq f59r8 .ret)) .skip)))))) (.seq f59r9 .ret)))
def f59 : IFn := ⟨22, 1, [.tmp 2], f59body⟩
/- 60: jobshell/jobshellref36.word -/
@[simp] def f60o0 : List IOper := [
  ⟨(some 1), .box 42 7 (.t 0), none, none⟩,
  ⟨(some 2), .mv (.c (.str [])), none, none⟩]
def f60r0 : IC := .reg false [] f60o0 [1]
@[simp] theorem f60r0_run : run tbl fin K f60r0 e H = regK tbl fin K [] f60o0 [1] e H := run_regK _ _ _ _ _ _ _ _ _ rfl
@[simp] def f60o1 : List IOper := [
  ⟨(some 3), .fld 2 (.t 1), none, none⟩,
  ⟨(some 4), .load false 1 (.t 3), none, none⟩]
def f60r1 : IC := .reg false [] f60o1 [4, 1]
@[simp] theorem f60r1_run : run tbl fin K f60r1 e H = regK tbl fin K [] f60o1 [4, 1] e H := run_regK _ _ _ _ _ _ _ _ _ rfl
@[simp] def f60o2 : List IOper := [
  ⟨(some 6), .bin .eql (.t 4) (.c (.int .i64 3)), none, none⟩,
  ⟨(some 5), .mv (.t 6), none, none⟩]
def f60r2 : IC := .reg false [] f60o2 [5, 4, 1]
@[simp] theorem f60r2_run : run tbl fin K f60r2 e H = regK tbl fin K [] f60o2 [5, 4, 1] e H := run_regK _ _ _ _ _ _ _ _ _ rfl
@[simp] def f60o3 : List IOper := [
  ⟨(some 7), .fld 4 (.t 1), none, none⟩,
  ⟨(some 8), .load false 1 (.t 7), none, none⟩,
  ⟨(some 9), .len (.t 8), none, none⟩,
  ⟨(some 10), .bin .eql (.t 9) (.c (.int .i64 0)), none, none⟩]
def f60r3 : IC := .reg false [] f60o3 [10, 1]
@[simp] theorem f60r3_run : run tbl fin K f60r3 e H = regK tbl fin K [] f60o3 [10, 1] e H := run_regK _ _ _ _ _ _ _ _ _ rfl
@[simp] def f60o4 : List IOper := [
  ⟨(some 2), .mv (.c (.str [])), none, none⟩]
def f60r4 : IC := .reg false [] f60o4 [2]
@[simp] theorem f60r4_run : run tbl fin K f60r4 e H = regK tbl fin K [] f60o4 [2] e H := run_regK _ _ _ _ _ _ _ _ _ rfl
@[simp] def f60o5 : List IOper := [
  ⟨(some 11), .fld 4 (.t 1), none, none⟩,
  ⟨(some 12), .load false 1 (.t 11), none, none⟩,
  ⟨(some 13), .fld 4 (.t 1), none, none⟩,
  ⟨(some 14), .load false 1 (.t 13), none, none⟩,
  ⟨(some 15), .len (.t 14), none, none⟩,
  ⟨(some 16), .bin .sub (.t 15) (.c (.int .i64 1)), none, none⟩,
  ⟨(some 17), .idx 1 (.t 12) (.t 16), none, none⟩,
  ⟨(some 18), .load false 1 (.t 17), none, none⟩,
  ⟨(some 19), .call (.c (.fn 82 [])) [(.t 18)], none, none⟩,
  ⟨(some 2), .mv (.t 19), none, none⟩]
def f60r5 : IC := .reg false [] f60o5 [2]
@[simp] theorem f60r5_run : run tbl fin K f60r5 e H = regK tbl fin K [] f60o5 [2] e H := run_regK _ _ _ _ _ _ _ _ _ rfl
@[simp] def f60o6 : List IOper := [
  ⟨(some 21), .bin .eql (.t 4) (.c (.int .i64 2)), none, none⟩,
  ⟨(some 20), .mv (.t 21), none, none⟩]
def f60r6 : IC := .reg false [] f60o6 [20]
@[simp] theorem f60r6_run : run tbl fin K f60r6 e H = regK tbl fin K [] f60o6 [20] e H := run_regK _ _ _ _ _ _ _ _ _ rfl
@[simp] def f60o7 : List IOper := [
  ⟨(some 2), .mv (.c (.str [83, 116, 111, 112, 112, 101, 100])), none, none⟩]
def f60r7 : IC := .reg false [] f60o7 [2]
@[simp] theorem f60r7_run : run tbl fin K f60r7 e H = regK tbl fin K [] f60o7 [2] e H := run_regK _ _ _ _ _ _ _ _ _ rfl
@[simp] def f60o8 : List IOper := [
  ⟨(some 2), .mv (.c (.str [82, 117, 110, 110, 105, 110, 103])), none, none⟩]
def f60r8 : IC := .reg false [] f60o8 [2]
@[simp] theorem f60r8_run : run tbl fin K f60r8 e H = regK tbl fin K [] f60o8 [2] e H := run_regK _ _ _ _ _ _ _ _ _ rfl
def f60body : IC := (.seq f60r0 (.seq (.seq f60r1 (.block 0 (.seq f60r2 (.cond (.t 5) (.seq (.seq f60r3 (.cond (.t 10) (.seq f60r4 .ret) .skip)) (.seq f60r5 .ret)) (.seq f60r6 (.cond (.t 20) (.seq f60r7 .ret) .skip)))))) (.seq f60r8 .ret)))
def f60 : IFn := ⟨22, 1, [.tmp 2], f60body⟩
/- 61: internal/strconv.Itoa is met by a contract -/
/- 62: jobshell/status.Kind -/
@[simp] def f62o0 : List IOper := [
  ⟨(some 2), .mv (.c (.int .i64 0)), none, none⟩,
  ⟨(some 3), .mv (.c (.int .i64 0)), none, none⟩]
def f62r0 : IC := .reg false [] f62o0 [0]
@[simp] theorem f62r0_run : run tbl fin K f62r0 e H = regK tbl fin K [] f62o0 [0] e H := run_regK _ _ _ _ _ _ _ _ _ rfl
@[simp] def f62o1 : List IOper := [
  ⟨(some 7), .mv (.t 0), none, none⟩,
  ⟨(some 8), .bin .lss (.t 7) (.c (.int .i64 0)), none, none⟩]
def f62r1 : IC := .reg false [] f62o1 [8, 0]
@[simp] theorem f62r1_run : run tbl fin K f62r1 e H = regK tbl fin K [] f62o1 [8, 0] e H := run_regK _ _ _ _ _ _ _ _ _ rfl
@[simp] def f62o2 : List IOper := [
  ⟨(some 2), .mv (.c (.int .i64 (-1))), none, none⟩,
  ⟨(some 3), .mv (.c (.int .i64 0)), none, none⟩]
def f62r2 : IC := .reg false [] f62o2 [2, 3]
@[simp] theorem f62r2_run : run tbl fin K f62r2 e H = regK tbl fin K [] f62o2 [2, 3] e H := run_regK _ _ _ _ _ _ _ _ _ rfl
@[simp] def f62o3 : List IOper := [
  ⟨(some 9), .mv (.t 0), none, none⟩,
  ⟨(some 10), .bin .quo (.t 9) (.c (.int .i64 256)), none, none⟩,
  ⟨(some 11), .mv (.t 0), none, none⟩,
  ⟨(some 12), .bin .rem (.t 11) (.c (.int .i64 256)), none, none⟩,
  ⟨(some 4), .mv (.t 10), none, none⟩,
  ⟨(some 5), .mv (.t 12), none, none⟩]
def f62r3 : IC := .reg false [] f62o3 [5, 4]
@[simp] theorem f62r3_run : run tbl fin K f62r3 e H = regK tbl fin K [] f62o3 [5, 4] e H := run_regK _ _ _ _ _ _ _ _ _ rfl
@[simp] def f62o4 : List IOper := [
  ⟨(some 6), .mv (.c (.bool false)), none, none⟩]
def f62r4 : IC := .reg false [] f62o4 [6, 5, 4]
@[simp] theorem f62r4_run : run tbl fin K f62r4 e H = regK tbl fin K [] f62o4 [6, 5, 4] e H := run_regK _ _ _ _ _ _ _ _ _ rfl
@[simp] def f62o5 : List IOper := [
  ⟨(some 13), .mv (.t 4), none, none⟩]
def f62r5 : IC := .reg false [] f62o5 [13, 6, 5, 4]
@[simp] theorem f62r5_run : run tbl fin K f62r5 e H = regK tbl fin K [] f62o5 [13, 6, 5, 4] e H := run_regK _ _ _ _ _ _ _ _ _ rfl
@[simp] def f62o6 : List IOper := [
  ⟨(some 15), .bin .eql (.t 13) (.c (.int .i64 0)), none, none⟩,
  ⟨(some 14), .mv (.t 15), none, none⟩]
def f62r6 : IC := .reg false [] f62o6 [14, 13, 6, 5, 4]
@[simp] theorem f62r6_run : run tbl fin K f62r6 e H = regK tbl fin K [] f62o6 [14, 13, 6, 5, 4] e H := run_regK _ _ _ _ _ _ _ _ _ rfl
@[simp] def f62o7 : List IOper := [
  ⟨(some 6), .mv (.c (.bool true)), none, none⟩]
def f62r7 : IC := .reg false [] f62o7 [6, 5, 4]
@[simp] theorem f62r7_run : run tbl fin K f62r7 e H = regK tbl fin K [] f62o7 [6, 5, 4] e H := run_regK _ _ _ _ _ _ _ _ _ rfl
@[simp] def f62o8 : List IOper := [
  ⟨(some 17), .bin .eql (.t 13) (.c (.int .i64 1)), none, none⟩,
  ⟨(some 16), .mv (.t 17), none, none⟩]
def f62r8 : IC := .reg false [] f62o8 [16, 6, 13, 5, 4]
@[simp] theorem f62r8_run : run tbl fin K f62r8 e H = regK tbl fin K [] f62o8 [16, 6, 13, 5, 4] e H := run_regK _ _ _ _ _ _ _ _ _ rfl
@[simp] def f62o9 : List IOper := [
  ⟨(some 18), .bin .eql (.t 13) (.c (.int .i64 2)), none, none⟩,
  ⟨(some 16), .mv (.t 18), none, none⟩]
def f62r9 : IC := .reg false [] f62o9 [16, 6, 13, 5, 4]
@[simp] theorem f62r9_run : run tbl fin K f62r9 e H = regK tbl fin K [] f62o9 [16, 6, 13, 5, 4] e H := run_regK _ _ _ _ _ _ _ _ _ rfl
@[simp] def f62o10 : List IOper := [
  ⟨(some 19), .mv (.t 5), none, none⟩,
  ⟨(some 20), .bin .geq (.t 19) (.c (.int .i64 1)), none, none⟩,
  ⟨(some 21), .mv (.t 20), none, none⟩,
  ⟨(some 22), .mv (.t 5), (some (21, true)), none⟩,
  ⟨(some 23), .bin .leq (.t 22) (.c (.int .i64 20)), (some (21, true)), none⟩,
  ⟨(some 24), .pick (.t 21) (.t 23) (.c (.bool false)), none, none⟩,
  ⟨(some 6), .mv (.t 24), none, none⟩]
def f62r10 : IC := .reg false [] f62o10 [6, 5, 4]
@[simp] theorem f62r10_run : run tbl fin K f62r10 e H = regK tbl fin K [] f62o10 [6, 5, 4] e H := run_regK _ _ _ _ _ _ _ _ _ rfl
@[simp] def f62o11 : List IOper := [
  ⟨(some 26), .bin .eql (.t 13) (.c (.int .i64 3)), none, none⟩,
  ⟨(some 25), .mv (.t 26), none, none⟩]
def f62r11 : IC := .reg false [] f62o11 [25, 6, 5, 4]
@[simp] theorem f62r11_run : run tbl fin K f62r11 e H = regK tbl fin K [] f62o11 [25, 6, 5, 4] e H := run_regK _ _ _ _ _ _ _ _ _ rfl
@[simp] def f62o12 : List IOper := [
  ⟨(some 27), .mv (.t 5), none, none⟩,
  ⟨(some 28), .bin .eql (.t 27) (.c (.int .i64 0)), none, none⟩,
  ⟨(some 6), .mv (.t 28), none, none⟩]
def f62r12 : IC := .reg false [] f62o12 [6, 5, 4]
@[simp] theorem f62r12_run : run tbl fin K f62r12 e H = regK tbl fin K [] f62o12 [6, 5, 4] e H := run_regK _ _ _ _ _ _ _ _ _ rfl
@[simp] def f62o13 : List IOper := [
  ⟨(some 29), .mv (.t 6), none, none⟩,
  ⟨(some 30), .un .not (.t 29), none, none⟩]
def f62r13 : IC := .reg false [] f62o13 [30, 5, 4]
@[simp] theorem f62r13_run : run tbl fin K f62r13 e H = regK tbl fin K [] f62o13 [30, 5, 4] e H := run_regK _ _ _ _ _ _ _ _ _ rfl
@[simp] def f62o14 : List IOper := [
  ⟨(some 2), .mv (.c (.int .i64 (-1))), none, none⟩,
  ⟨(some 3), .mv (.c (.int .i64 0)), none, none⟩]
def f62r14 : IC := .reg false [] f62o14 [2, 3]
@[simp] theorem f62r14_run : run tbl fin K f62r14 e H = regK tbl fin K [] f62o14 [2, 3] e H := run_regK _ _ _ _ _ _ _ _ _ rfl
@[simp] def f62o15 : List IOper := [
  ⟨(some 31), .mv (.t 4), none, none⟩,
  ⟨(some 32), .mv (.t 5), none, none⟩,
  ⟨(some 2), .mv (.t 31), none, none⟩,
  ⟨(some 3), .mv (.t 32), none, none⟩]
def f62r15 : IC := .reg false [] f62o15 [2, 3]
@[simp] theorem f62r15_run : run tbl fin K f62r15 e H = regK tbl fin K [] f62o15 [2, 3] e H := run_regK _ _ _ _ _ _ _ _ _ rfl
def f62body : IC := (.seq f62r0 (.seq (.seq f62r1 (.cond (.t 8) (.seq f62r2 .ret) .skip)) (.seq f62r3 (.seq f62r4 (.seq (.seq f62r5 (.block 0 (.seq f62r6 (.cond (.t 14) f62r7 (.seq (.seq f62r8 (.cond (.t 16) .skip f62r9)) (.cond (.t 16) f62r10 (.seq f62r11 (.cond (.t 25) f62r12 .skip)))))))) (.seq (.seq f62r13 (.cond (.t 30) (.seq f62r14 .ret) .skip)) (.seq f62r15 .ret)))))))
def f62 : IFn := ⟨33, 1, [.tmp 2, .tmp 3], f62body⟩
/- 63: jobshell/status.Continued -/
@[simp] def f63o0 : List IOper := [
  ⟨(some 0), .mv (.c (.int .i64 0)), none, none⟩]
def f63r0 : IC := .reg false [] f63o0 []
@[simp] theorem f63r0_run : run tbl fin K f63r0 e H = regK tbl fin K [] f63o0 [] e H := run_regK _ _ _ _ _ _ _ _ _ rfl
@[simp] def f63o1 : List IOper := [
  ⟨(some 0), .mv (.c (.int .i64 768)), none, none⟩]
def f63r1 : IC := .reg false [] f63o1 [0]
@[simp] theorem f63r1_run : run tbl fin K f63r1 e H = regK tbl fin K [] f63o1 [0] e H := run_regK _ _ _ _ _ _ _ _ _ rfl
def f63body : IC := (.seq f63r0 (.seq f63r1 .ret))
def f63 : IFn := ⟨1, 0, [.tmp 0], f63body⟩
/- 64: jobshell/jobs.state -/
@[simp] def f64o0 : List IOper := [
  ⟨(some 2), .mv (.c (.int .i64 0)), none, none⟩]
def f64r0 : IC := .reg false [] f64o0 [0]
@[simp] theorem f64r0_run : run tbl fin K f64r0 e H = regK tbl fin K [] f64o0 [0] e H := run_regK _ _ _ _ _ _ _ _ _ rfl
@[simp] def f64o1 : List IOper := [
  ⟨(some 3), .mv (.c (.bool false)), none, none⟩]
def f64r1 : IC := .reg false [] f64o1 [0, 3]
@[simp] theorem f64r1_run : run tbl fin K f64r1 e H = regK tbl fin K [] f64o1 [0, 3] e H := run_regK _ _ _ _ _ _ _ _ _ rfl
@[simp] def f64o2 : List IOper := [
  ⟨(some 8), .mv (.t 0), none, none⟩,
  ⟨(some 9), .len (.t 8), none, none⟩,
  ⟨(some 10), .mv (.c (.int .i64 0)), none, none⟩]
def f64r2 : IC := .reg false [] f64o2 [10, 9, 3, 8]
@[simp] theorem f64r2_run : run tbl fin K f64r2 e H = regK tbl fin K [] f64o2 [10, 9, 3, 8] e H := run_regK _ _ _ _ _ _ _ _ _ rfl
@[simp] def f64o3 : List IOper := [
  ⟨(some 11), .bin .lss (.t 10) (.t 9), none, none⟩]
def f64r3 : IC := .reg false [] f64o3 [11, 10, 9, 3, 8]
@[simp] theorem f64r3_run : run tbl fin K f64r3 e H = regK tbl fin K [] f64o3 [11, 10, 9, 3, 8] e H := run_regK _ _ _ _ _ _ _ _ _ rfl
@[simp] def f64o4 : List IOper := [
  ⟨(some 12), .idx 1 (.t 8) (.t 10), none, none⟩,
  ⟨(some 13), .load false 1 (.t 12), none, none⟩,
  ⟨(some 5), .mv (.t 13), none, none⟩]
def f64r4 : IC := .reg false [] f64o4 [5, 10, 9, 3, 8]
@[simp] theorem f64r4_run : run tbl fin K f64r4 e H = regK tbl fin K [] f64o4 [5, 10, 9, 3, 8] e H := run_regK _ _ _ _ _ _ _ _ _ rfl
@[simp] def f64o5 : List IOper := [
  ⟨(some 15), .mv (.t 5), none, none⟩,
  ⟨(some 16), .call (.c (.fn 62 [])) [(.t 15)], none, none⟩,
  ⟨(some 14), .mv (.t 16), none, none⟩,
  ⟨(some 17), .ext (.t 14) 0, none, none⟩,
  ⟨(some 18), .ext (.t 14) 1, none, none⟩,
  ⟨(some 6), .mv (.t 17), none, none⟩,
  ⟨(some 7), .mv (.t 18), none, none⟩]
def f64r5 : IC := .reg false [] f64o5 [6, 10, 9, 3, 8]
@[simp] theorem f64r5_run : run tbl fin K f64r5 e H = regK tbl fin K [] f64o5 [6, 10, 9, 3, 8] e H := run_regK _ _ _ _ _ _ _ _ _ rfl
@[simp] def f64o6 : List IOper := [
  ⟨(some 19), .mv (.t 6), none, none⟩]
def f64r6 : IC := .reg false [] f64o6 [19, 10, 9, 3, 8]
@[simp] theorem f64r6_run : run tbl fin K f64r6 e H = regK tbl fin K [] f64o6 [19, 10, 9, 3, 8] e H := run_regK _ _ _ _ _ _ _ _ _ rfl
@[simp] def f64o7 : List IOper := [
  ⟨(some 21), .bin .eql (.t 19) (.c (.int .i64 0)), none, none⟩,
  ⟨(some 20), .mv (.t 21), none, none⟩]
def f64r7 : IC := .reg false [] f64o7 [20, 19, 10, 9, 3, 8]
@[simp] theorem f64r7_run : run tbl fin K f64r7 e H = regK tbl fin K [] f64o7 [20, 19, 10, 9, 3, 8] e H := run_regK _ _ _ _ _ _ _ _ _ rfl
@[simp] def f64o8 : List IOper := [
  ⟨(some 22), .bin .eql (.t 19) (.c (.int .i64 1)), none, none⟩,
  ⟨(some 20), .mv (.t 22), none, none⟩]
def f64r8 : IC := .reg false [] f64o8 [20, 19, 10, 9, 3, 8]
@[simp] theorem f64r8_run : run tbl fin K f64r8 e H = regK tbl fin K [] f64o8 [20, 19, 10, 9, 3, 8] e H := run_regK _ _ _ _ _ _ _ _ _ rfl
@[simp] def f64o9 : List IOper := [
  ⟨(some 24), .bin .eql (.t 19) (.c (.int .i64 2)), none, none⟩,
  ⟨(some 23), .mv (.t 24), none, none⟩]
def f64r9 : IC := .reg false [] f64o9 [23, 10, 9, 8]
@[simp] theorem f64r9_run : run tbl fin K f64r9 e H = regK tbl fin K [] f64o9 [23, 10, 9, 8] e H := run_regK _ _ _ _ _ _ _ _ _ rfl
@[simp] def f64o10 : List IOper := [
  ⟨(some 3), .mv (.c (.bool true)), none, none⟩]
def f64r10 : IC := .reg false [] f64o10 [10, 9, 3, 8]
@[simp] theorem f64r10_run : run tbl fin K f64r10 e H = regK tbl fin K [] f64o10 [10, 9, 3, 8] e H := run_regK _ _ _ _ _ _ _ _ _ rfl
@[simp] def f64o11 : List IOper := [
  ⟨(some 2), .mv (.c (.int .i64 1)), none, none⟩]
def f64r11 : IC := .reg false [] f64o11 [2]
@[simp] theorem f64r11_run : run tbl fin K f64r11 e H = regK tbl fin K [] f64o11 [2] e H := run_regK _ _ _ _ _ _ _ _ _ rfl
@[simp] def f64o12 : List IOper := [
  ⟨(some 25), .bin .add (.t 10) (.c (.int .i64 1)), none, none⟩,
  ⟨(some 10), .mv (.t 25), none, none⟩]
def f64r12 : IC := .reg false [] f64o12 [10, 9, 3, 8]
@[simp] theorem f64r12_run : run tbl fin K f64r12 e H = regK tbl fin K [] f64o12 [10, 9, 3, 8] e H := run_regK _ _ _ _ _ _ _ _ _ rfl
def f64b13 : IC := (.seq f64r3 (.seq (.cond (.t 11) .skip (.exit 0)) (.seq (.block 1 (.seq f64r4 (.seq f64r5 (.seq f64r6 (.block 2 (.seq (.seq f64r7 (.cond (.t 20) .skip f64r8)) (.cond (.t 20) .skip (.seq f64r9 (.cond (.t 23) f64r10 (.seq f64r11 .ret)))))))))) f64r12)))
theorem f64b13_eq : f64b13 = (.seq f64r3 (.seq (.cond (.t 11) .skip (.exit 0)) (.seq (.block 1 (.seq f64r4 (.seq f64r5 (.seq f64r6 (.block 2 (.seq (.seq f64r7 (.cond (.t 20) .skip f64r8)) (.cond (.t 20) .skip (.seq f64r9 (.cond (.t 23) f64r10 (.seq f64r11 .ret)))))))))) f64r12))) := rfl
@[simp] def f64o14 : List IOper := [
  ⟨(some 26), .mv (.t 3), none, none⟩]
def f64r14 : IC := .reg false [] f64o14 [26]
@[simp] theorem f64r14_run : run tbl fin K f64r14 e H = regK tbl fin K [] f64o14 [26] e H := run_regK _ _ _ _ _ _ _ _ _ rfl
@[simp] def f64o15 : List IOper := [
  ⟨(some 2), .mv (.c (.int .i64 2)), none, none⟩]
def f64r15 : IC := .reg false [] f64o15 [2]
@[simp] theorem f64r15_run : run tbl fin K f64r15 e H = regK tbl fin K [] f64o15 [2] e H := run_regK _ _ _ _ _ _ _ _ _ rfl
@[simp] def f64o16 : List IOper := [
  ⟨(some 2), .mv (.c (.int .i64 3)), none, none⟩]
def f64r16 : IC := .reg false [] f64o16 [2]
@[simp] theorem f64r16_run : run tbl fin K f64r16 e H = regK tbl fin K [] f64o16 [2] e H := run_regK _ _ _ _ _ _ _ _ _ rfl
def f64body : IC := (.seq f64r0 (.seq f64r1 (.seq (.seq f64r2 (.block 0 (.loop [10, 9, 3, 8] f64b13))) (.seq (.seq f64r14 (.cond (.t 26) (.seq f64r15 .ret) .skip)) (.seq f64r16 .ret)))))
def f64 : IFn := ⟨27, 1, [.tmp 2], f64body⟩
/- 65: slices.Delete[[]jobshell/api.Job,jobshell/api.Job] is met by a contract -/
/- 66: jobshell/jobshellref22.Kind -/
@[simp] def f66o0 : List IOper := [
  ⟨(some 2), .mv (.c (.int .i64 0)), none, none⟩,
  ⟨(some 3), .mv (.c (.int .i64 0)), none, none⟩]
def f66r0 : IC := .reg false [] f66o0 [0]
@[simp] theorem f66r0_run : run tbl fin K f66r0 e H = regK tbl fin K [] f66o0 [0] e H := run_regK _ _ _ _ _ _ _ _ _ rfl
@[simp] def f66o1 : List IOper := [
  ⟨(some 6), .mv (.t 0), none, none⟩,
  ⟨(some 7), .bin .lss (.t 6) (.c (.int .i64 0)), none, none⟩,
  ⟨(some 8), .mv (.t 7), none, none⟩,
  ⟨(some 9), .mv (.t 0), (some (8, false)), none⟩,
  ⟨(some 10), .bin .gtr (.t 9) (.c (.int .i64 768)), (some (8, false)), none⟩,
  ⟨(some 11), .pick (.t 8) (.c (.bool true)) (.t 10), none, none⟩]
def f66r1 : IC := .reg false [] f66o1 [11, 0]
@[simp] theorem f66r1_run : run tbl fin K f66r1 e H = regK tbl fin K [] f66o1 [11, 0] e H := run_regK _ _ _ _ _ _ _ _ _ rfl
@[simp] def f66o2 : List IOper := [
  ⟨(some 2), .mv (.c (.int .i64 (-1))), none, none⟩,
  ⟨(some 3), .mv (.c (.int .i64 0)), none, none⟩]
def f66r2 : IC := .reg false [] f66o2 [2, 3]
@[simp] theorem f66r2_run : run tbl fin K f66r2 e H = regK tbl fin K [] f66o2 [2, 3] e H := run_regK _ _ _ _ _ _ _ _ _ rfl
@[simp] def f66o3 : List IOper := [
  ⟨(some 12), .mv (.t 0), none, none⟩,
  ⟨(some 13), .bin .quo (.t 12) (.c (.int .i64 256)), none, none⟩,
  ⟨(some 14), .mv (.t 0), none, none⟩,
  ⟨(some 15), .bin .rem (.t 14) (.c (.int .i64 256)), none, none⟩,
  ⟨(some 4), .mv (.t 13), none, none⟩,
  ⟨(some 5), .mv (.t 15), none, none⟩]
def f66r3 : IC := .reg false [] f66o3 [5, 4]
@[simp] theorem f66r3_run : run tbl fin K f66r3 e H = regK tbl fin K [] f66o3 [5, 4] e H := run_regK _ _ _ _ _ _ _ _ _ rfl
@[simp] def f66o4 : List IOper := [
  ⟨(some 16), .mv (.t 4), none, none⟩,
  ⟨(some 17), .bin .eql (.t 16) (.c (.int .i64 1)), none, none⟩,
  ⟨(some 18), .mv (.t 17), none, none⟩,
  ⟨(some 19), .mv (.t 4), (some (18, false)), none⟩,
  ⟨(some 20), .bin .eql (.t 19) (.c (.int .i64 2)), (some (18, false)), none⟩,
  ⟨(some 21), .pick (.t 18) (.c (.bool true)) (.t 20), none, none⟩,
  ⟨(some 22), .mv (.t 21), none, none⟩,
  ⟨(some 23), .mv (.t 5), (some (22, true)), some [23, 22, 5, 4]⟩,
  ⟨(some 24), .bin .lss (.t 23) (.c (.int .i64 1)), (some (22, true)), none⟩,
  ⟨(some 25), .mv (.t 24), (some (22, true)), none⟩,
  ⟨(some 26), .mv (.t 5), (some (25, false)), none⟩,
  ⟨(some 27), .bin .gtr (.t 26) (.c (.int .i64 20)), (some (25, false)), none⟩,
  ⟨(some 28), .pick (.t 25) (.c (.bool true)) (.t 27), (some (22, true)), none⟩,
  ⟨(some 29), .pick (.t 22) (.t 28) (.c (.bool false)), none, none⟩]
def f66r4 : IC := .reg false [] f66o4 [29, 5, 4]
@[simp] theorem f66r4_run : run tbl fin K f66r4 e H = regK tbl fin K [] f66o4 [29, 5, 4] e H := run_regK _ _ _ _ _ _ _ _ _ rfl
@[simp] def f66o5 : List IOper := [
  ⟨(some 2), .mv (.c (.int .i64 (-1))), none, none⟩,
  ⟨(some 3), .mv (.c (.int .i64 0)), none, none⟩]
def f66r5 : IC := .reg false [] f66o5 [2, 3]
@[simp] theorem f66r5_run : run tbl fin K f66r5 e H = regK tbl fin K [] f66o5 [2, 3] e H := run_regK _ _ _ _ _ _ _ _ _ rfl
@[simp] def f66o6 : List IOper := [
  ⟨(some 30), .mv (.t 4), none, none⟩,
  ⟨(some 31), .mv (.t 5), none, none⟩,
  ⟨(some 2), .mv (.t 30), none, none⟩,
  ⟨(some 3), .mv (.t 31), none, none⟩]
def f66r6 : IC := .reg false [] f66o6 [2, 3]
@[simp] theorem f66r6_run : run tbl fin K f66r6 e H = regK tbl fin K [] f66o6 [2, 3] e H := run_regK _ _ _ _ _ _ _ _ _ rfl
def f66body : IC := (.seq f66r0 (.seq (.seq f66r1 (.cond (.t 11) (.seq f66r2 .ret) .skip)) (.seq f66r3 (.seq (.seq f66r4 (.cond (.t 29) (.seq f66r5 .ret) .skip)) (.seq f66r6 .ret)))))
def f66 : IFn := ⟨32, 1, [.tmp 2, .tmp 3], f66body⟩
/- 67: jobshell/jobshellref36.state -/
@[simp] def f67o0 : List IOper := [
  ⟨(some 2), .mv (.c (.int .i64 0)), none, none⟩]
def f67r0 : IC := .reg false [] f67o0 [0]
@[simp] theorem f67r0_run : run tbl fin K f67r0 e H = regK tbl fin K [] f67o0 [0] e H := run_regK _ _ _ _ _ _ _ _ _ rfl
@[simp] def f67o1 : List IOper := [
  ⟨(some 3), .mv (.c (.bool true)), none, none⟩,
  ⟨(some 4), .mv (.c (.bool false)), none, none⟩]
def f67r1 : IC := .reg false [] f67o1 [0, 4, 3]
@[simp] theorem f67r1_run : run tbl fin K f67r1 e H = regK tbl fin K [] f67o1 [0, 4, 3] e H := run_regK _ _ _ _ _ _ _ _ _ rfl
@[simp] def f67o2 : List IOper := [
  ⟨(some 5), .mv (.c (.int .i64 0)), none, none⟩]
def f67r2 : IC := .reg false [] f67o2 [0, 5, 4, 3]
@[simp] theorem f67r2_run : run tbl fin K f67r2 e H = regK tbl fin K [] f67o2 [0, 5, 4, 3] e H := run_regK _ _ _ _ _ _ _ _ _ rfl
@[simp] def f67o3 : List IOper := [
  ⟨(some 6), .mv (.t 5), none, none⟩,
  ⟨(some 7), .mv (.t 0), none, none⟩,
  ⟨(some 8), .len (.t 7), none, none⟩,
  ⟨(some 9), .bin .lss (.t 6) (.t 8), none, none⟩]
def f67r3 : IC := .reg false [] f67o3 [9, 0, 5, 4, 3]
@[simp] theorem f67r3_run : run tbl fin K f67r3 e H = regK tbl fin K [] f67o3 [9, 0, 5, 4, 3] e H := run_regK _ _ _ _ _ _ _ _ _ rfl
@[simp] def f67o4 : List IOper := [
  ⟨(some 12), .mv (.t 0), none, none⟩,
  ⟨(some 13), .mv (.t 5), none, none⟩,
  ⟨(some 14), .idx 1 (.t 12) (.t 13), none, none⟩,
  ⟨(some 15), .load false 1 (.t 14), none, none⟩,
  ⟨(some 16), .bin .eql (.t 15) (.c (.int .i64 (-1))), none, none⟩]
def f67r4 : IC := .reg false [] f67o4 [16, 0, 5, 4, 3]
@[simp] theorem f67r4_run : run tbl fin K f67r4 e H = regK tbl fin K [] f67o4 [16, 0, 5, 4, 3] e H := run_regK _ _ _ _ _ _ _ _ _ rfl
@[simp] def f67o5 : List IOper := [
  ⟨(some 2), .mv (.c (.int .i64 1)), none, none⟩]
def f67r5 : IC := .reg false [] f67o5 [2]
@[simp] theorem f67r5_run : run tbl fin K f67r5 e H = regK tbl fin K [] f67o5 [2] e H := run_regK _ _ _ _ _ _ _ _ _ rfl
@[simp] def f67o6 : List IOper := [
  ⟨(some 17), .mv (.t 0), none, none⟩,
  ⟨(some 18), .mv (.t 5), none, none⟩,
  ⟨(some 19), .idx 1 (.t 17) (.t 18), none, none⟩,
  ⟨(some 20), .load false 1 (.t 19), none, none⟩,
  ⟨(some 21), .call (.c (.fn 84 [])) [(.t 20)], none, none⟩,
  ⟨(some 22), .un .not (.t 21), none, none⟩]
def f67r6 : IC := .reg false [] f67o6 [22, 3, 4, 5, 0]
@[simp] theorem f67r6_run : run tbl fin K f67r6 e H = regK tbl fin K [] f67o6 [22, 3, 4, 5, 0] e H := run_regK _ _ _ _ _ _ _ _ _ rfl
@[simp] def f67o7 : List IOper := [
  ⟨(some 3), .mv (.c (.bool false)), none, none⟩]
def f67r7 : IC := .reg false [] f67o7 [4, 5, 0, 3]
@[simp] theorem f67r7_run : run tbl fin K f67r7 e H = regK tbl fin K [] f67o7 [4, 5, 0, 3] e H := run_regK _ _ _ _ _ _ _ _ _ rfl
@[simp] def f67o8 : List IOper := [
  ⟨(some 23), .mv (.t 0), none, none⟩,
  ⟨(some 24), .mv (.t 5), none, none⟩,
  ⟨(some 25), .idx 1 (.t 23) (.t 24), none, none⟩,
  ⟨(some 26), .load false 1 (.t 25), none, none⟩,
  ⟨(some 27), .call (.c (.fn 85 [])) [(.t 26)], none, none⟩]
def f67r8 : IC := .reg false [] f67o8 [27, 4, 5, 0, 3]
@[simp] theorem f67r8_run : run tbl fin K f67r8 e H = regK tbl fin K [] f67o8 [27, 4, 5, 0, 3] e H := run_regK _ _ _ _ _ _ _ _ _ rfl
@[simp] def f67o9 : List IOper := [
  ⟨(some 4), .mv (.c (.bool true)), none, none⟩]
def f67r9 : IC := .reg false [] f67o9 [5, 0, 4, 3]
@[simp] theorem f67r9_run : run tbl fin K f67r9 e H = regK tbl fin K [] f67o9 [5, 0, 4, 3] e H := run_regK _ _ _ _ _ _ _ _ _ rfl
@[simp] def f67o10 : List IOper := [
  ⟨(some 10), .mv (.t 5), none, none⟩,
  ⟨(some 11), .bin .add (.t 10) (.c (.int .i64 1)), none, none⟩,
  ⟨(some 5), .mv (.t 11), none, none⟩]
def f67r10 : IC := .reg false [] f67o10 [0, 5, 4, 3]
@[simp] theorem f67r10_run : run tbl fin K f67r10 e H = regK tbl fin K [] f67o10 [0, 5, 4, 3] e H := run_regK _ _ _ _ _ _ _ _ _ rfl
def f67b11 : IC := (.seq (.seq f67r3 (.cond (.t 9) .skip (.exit 0))) (.seq (.block 1 (.seq (.seq f67r4 (.cond (.t 16) (.seq f67r5 .ret) .skip)) (.seq (.seq f67r6 (.cond (.t 22) f67r7 .skip)) (.seq f67r8 (.cond (.t 27) f67r9 .skip))))) f67r10))
theorem f67b11_eq : f67b11 = (.seq (.seq f67r3 (.cond (.t 9) .skip (.exit 0))) (.seq (.block 1 (.seq (.seq f67r4 (.cond (.t 16) (.seq f67r5 .ret) .skip)) (.seq (.seq f67r6 (.cond (.t 22) f67r7 .skip)) (.seq f67r8 (.cond (.t 27) f67r9 .skip))))) f67r10)) := rfl
@[simp] def f67o12 : List IOper := [
  ⟨(some 28), .mv (.t 3), none, none⟩]
def f67r12 : IC := .reg false [] f67o12 [28, 4]
@[simp] theorem f67r12_run : run tbl fin K f67r12 e H = regK tbl fin K [] f67o12 [28, 4] e H := run_regK _ _ _ _ _ _ _ _ _ rfl
@[simp] def f67o13 : List IOper := [
  ⟨(some 2), .mv (.c (.int .i64 3)), none, none⟩]
def f67r13 : IC := .reg false [] f67o13 [2]
@[simp] theorem f67r13_run : run tbl fin K f67r13 e H = regK tbl fin K [] f67o13 [2] e H := run_regK _ _ _ _ _ _ _ _ _ rfl
@[simp] def f67o14 : List IOper := [
  ⟨(some 29), .mv (.t 4), none, none⟩]
def f67r14 : IC := .reg false [] f67o14 [29]
@[simp] theorem f67r14_run : run tbl fin K f67r14 e H = regK tbl fin K [] f67o14 [29] e H := run_regK _ _ _ _ _ _ _ _ _ rfl
@[simp] def f67o15 : List IOper := [
  ⟨(some 2), .mv (.c (.int .i64 2)), none, none⟩]
def f67r15 : IC := .reg false [] f67o15 [2]
@[simp] theorem f67r15_run : run tbl fin K f67r15 e H = regK tbl fin K [] f67o15 [2] e H := run_regK _ _ _ _ _ _ _ _ _ rfl
@[simp] def f67o16 : List IOper := [
  ⟨(some 2), .mv (.c (.int .i64 1)), none, none⟩]
def f67r16 : IC := .reg false [] f67o16 [2]
@[simp] theorem f67r16_run : run tbl fin K f67r16 e H = regK tbl fin K [] f67o16 [2] e H := run_regK _ _ _ _ _ _ _ _ _ rfl
def f67body : IC := (.seq f67r0 (.seq f67r1 (.seq (.seq f67r2 (.block 0 (.loop [0, 5, 4, 3] f67b11))) (.seq (.seq f67r12 (.cond (.t 28) (.seq f67r13 .ret) .skip)) (.seq (.seq f67r14 (.cond (.t 29) (.seq f67r15 .ret) .skip)) (.seq f67r16 .ret))))))
def f67 : IFn := ⟨30, 1, [.tmp 2], f67body⟩
/- 68: jobshell/status.Shell -/
@[simp] def f68o0 : List IOper := [
  ⟨(some 2), .mv (.c (.int .i64 0)), none, none⟩]
def f68r0 : IC := .reg false [] f68o0 [0]
@[simp] theorem f68r0_run : run tbl fin K f68r0 e H = regK tbl fin K [] f68o0 [0] e H := run_regK _ _ _ _ _ _ _ _ _ rfl
@[simp] def f68o1 : List IOper := [
  ⟨(some 6), .mv (.t 0), none, none⟩,
  ⟨(some 7), .call (.c (.fn 62 [])) [(.t 6)], none, none⟩,
  ⟨(some 5), .mv (.t 7), none, none⟩,
  ⟨(some 8), .ext (.t 5) 0, none, none⟩,
  ⟨(some 9), .ext (.t 5) 1, none, none⟩,
  ⟨(some 3), .mv (.t 8), none, none⟩,
  ⟨(some 4), .mv (.t 9), none, none⟩]
def f68r1 : IC := .reg false [] f68o1 [3, 4]
@[simp] theorem f68r1_run : run tbl fin K f68r1 e H = regK tbl fin K [] f68o1 [3, 4] e H := run_regK _ _ _ _ _ _ _ _ _ rfl
@[simp] def f68o2 : List IOper := [
  ⟨(some 10), .mv (.t 3), none, none⟩]
def f68r2 : IC := .reg false [] f68o2 [10, 4]
@[simp] theorem f68r2_run : run tbl fin K f68r2 e H = regK tbl fin K [] f68o2 [10, 4] e H := run_regK _ _ _ _ _ _ _ _ _ rfl
@[simp] def f68o3 : List IOper := [
  ⟨(some 12), .bin .eql (.t 10) (.c (.int .i64 0)), none, none⟩,
  ⟨(some 11), .mv (.t 12), none, none⟩]
def f68r3 : IC := .reg false [] f68o3 [11, 10, 4]
@[simp] theorem f68r3_run : run tbl fin K f68r3 e H = regK tbl fin K [] f68o3 [11, 10, 4] e H := run_regK _ _ _ _ _ _ _ _ _ rfl
@[simp] def f68o4 : List IOper := [
  ⟨(some 13), .mv (.t 4), none, none⟩,
  ⟨(some 2), .mv (.t 13), none, none⟩]
def f68r4 : IC := .reg false [] f68o4 [2]
@[simp] theorem f68r4_run : run tbl fin K f68r4 e H = regK tbl fin K [] f68o4 [2] e H := run_regK _ _ _ _ _ _ _ _ _ rfl
@[simp] def f68o5 : List IOper := [
  ⟨(some 15), .bin .eql (.t 10) (.c (.int .i64 1)), none, none⟩,
  ⟨(some 14), .mv (.t 15), none, none⟩]
def f68r5 : IC := .reg false [] f68o5 [14, 10, 4]
@[simp] theorem f68r5_run : run tbl fin K f68r5 e H = regK tbl fin K [] f68o5 [14, 10, 4] e H := run_regK _ _ _ _ _ _ _ _ _ rfl
@[simp] def f68o6 : List IOper := [
  ⟨(some 16), .bin .eql (.t 10) (.c (.int .i64 2)), none, none⟩,
  ⟨(some 14), .mv (.t 16), none, none⟩]
def f68r6 : IC := .reg false [] f68o6 [14, 10, 4]
@[simp] theorem f68r6_run : run tbl fin K f68r6 e H = regK tbl fin K [] f68o6 [14, 10, 4] e H := run_regK _ _ _ _ _ _ _ _ _ rfl
@[simp] def f68o7 : List IOper := [
  ⟨(some 17), .mv (.t 4), none, none⟩,
  ⟨(some 18), .bin .add (.c (.int .i64 128)) (.t 17), none, none⟩,
  ⟨(some 2), .mv (.t 18), none, none⟩]
def f68r7 : IC := .reg false [] f68o7 [2]
@[simp] theorem f68r7_run : run tbl fin K f68r7 e H = regK tbl fin K [] f68o7 [2] e H := run_regK _ _ _ _ _ _ _ _ _ rfl
@[simp] def f68o8 : List IOper := [
  ⟨(some 20), .bin .eql (.t 10) (.c (.int .i64 3)), none, none⟩,
  ⟨(some 19), .mv (.t 20), none, none⟩]
def f68r8 : IC := .reg false [] f68o8 [19]
@[simp] theorem f68r8_run : run tbl fin K f68r8 e H = regK tbl fin K [] f68o8 [19] e H := run_regK _ _ _ _ _ _ _ _ _ rfl
@[simp] def f68o9 : List IOper := [
  ⟨(some 2), .mv (.c (.int .i64 0)), none, none⟩]
def f68r9 : IC := .reg false [] f68o9 [2]
@[simp] theorem f68r9_run : run tbl fin K f68r9 e H = regK tbl fin K [] f68o9 [2] e H := run_regK _ _ _ _ _ _ _ _ _ rfl
@[simp] def f68o10 : List IOper := [
  ⟨(some 2), .mv (.c (.int .i64 255)), none, none⟩]
def f68r10 : IC := .reg false [] f68o10 [2]
@[simp] theorem f68r10_run : run tbl fin K f68r10 e H = regK tbl fin K [] f68o10 [2] e H := run_regK _ _ _ _ _ _ _ _ _ rfl
def f68body : IC := (.seq f68r0 (.seq f68r1 (.seq (.seq f68r2 (.block 0 (.seq f68r3 (.cond (.t 11) (.seq f68r4 .ret) (.seq (.seq f68r5 (.cond (.t 14) .skip f68r6)) (.cond (.t 14) (.seq f68r7 .ret) (.seq f68r8 (.cond (.t 19) (.seq f68r9 .ret) .skip)))))))) (.seq f68r10 .ret))))
def f68 : IFn := ⟨21, 1, [.tmp 2], f68body⟩
/- 69: jobshell/jobshellref22.Shell -/
@[simp] def f69o0 : List IOper := [
  ⟨(some 2), .mv (.c (.int .i64 0)), none, none⟩]
def f69r0 : IC := .reg false [] f69o0 [0]
@[simp] theorem f69r0_run : run tbl fin K f69r0 e H = regK tbl fin K [] f69o0 [0] e H := run_regK _ _ _ _ _ _ _ _ _ rfl
@[simp] def f69o1 : List IOper := [
  ⟨(some 6), .mv (.t 0), none, none⟩,
  ⟨(some 7), .call (.c (.fn 66 [])) [(.t 6)], none, none⟩,
  ⟨(some 5), .mv (.t 7), none, none⟩,
  ⟨(some 8), .ext (.t 5) 0, none, none⟩,
  ⟨(some 9), .ext (.t 5) 1, none, none⟩,
  ⟨(some 3), .mv (.t 8), none, none⟩,
  ⟨(some 4), .mv (.t 9), none, none⟩]
def f69r1 : IC := .reg false [] f69o1 [3, 4]
@[simp] theorem f69r1_run : run tbl fin K f69r1 e H = regK tbl fin K [] f69o1 [3, 4] e H := run_regK _ _ _ _ _ _ _ _ _ rfl
@[simp] def f69o2 : List IOper := [
  ⟨(some 10), .mv (.t 3), none, none⟩]
def f69r2 : IC := .reg false [] f69o2 [10, 4]
@[simp] theorem f69r2_run : run tbl fin K f69r2 e H = regK tbl fin K [] f69o2 [10, 4] e H := run_regK _ _ _ _ _ _ _ _ _ rfl
@[simp] def f69o3 : List IOper := [
  ⟨(some 12), .bin .eql (.t 10) (.c (.int .i64 0)), none, none⟩,
  ⟨(some 11), .mv (.t 12), none, none⟩]
def f69r3 : IC := .reg false [] f69o3 [11, 10, 4]
@[simp] theorem f69r3_run : run tbl fin K f69r3 e H = regK tbl fin K [] f69o3 [11, 10, 4] e H := run_regK _ _ _ _ _ _ _ _ _ rfl
@[simp] def f69o4 : List IOper := [
  ⟨(some 13), .mv (.t 4), none, none⟩,
  ⟨(some 2), .mv (.t 13), none, none⟩]
def f69r4 : IC := .reg false [] f69o4 [2]
@[simp] theorem f69r4_run : run tbl fin K f69r4 e H = regK tbl fin K [] f69o4 [2] e H := run_regK _ _ _ _ _ _ _ _ _ rfl
@[simp] def f69o5 : List IOper := [
  ⟨(some 15), .bin .eql (.t 10) (.c (.int .i64 1)), none, none⟩,
  ⟨(some 14), .mv (.t 15), none, none⟩]
def f69r5 : IC := .reg false [] f69o5 [14, 10, 4]
@[simp] theorem f69r5_run : run tbl fin K f69r5 e H = regK tbl fin K [] f69o5 [14, 10, 4] e H := run_regK _ _ _ _ _ _ _ _ _ rfl
@[simp] def f69o6 : List IOper := [
  ⟨(some 16), .bin .eql (.t 10) (.c (.int .i64 2)), none, none⟩,
  ⟨(some 14), .mv (.t 16), none, none⟩]
def f69r6 : IC := .reg false [] f69o6 [14, 10, 4]
@[simp] theorem f69r6_run : run tbl fin K f69r6 e H = regK tbl fin K [] f69o6 [14, 10, 4] e H := run_regK _ _ _ _ _ _ _ _ _ rfl
@[simp] def f69o7 : List IOper := [
  ⟨(some 17), .mv (.t 4), none, none⟩,
  ⟨(some 18), .bin .add (.c (.int .i64 128)) (.t 17), none, none⟩,
  ⟨(some 2), .mv (.t 18), none, none⟩]
def f69r7 : IC := .reg false [] f69o7 [2]
@[simp] theorem f69r7_run : run tbl fin K f69r7 e H = regK tbl fin K [] f69o7 [2] e H := run_regK _ _ _ _ _ _ _ _ _ rfl
@[simp] def f69o8 : List IOper := [
  ⟨(some 20), .bin .eql (.t 10) (.c (.int .i64 3)), none, none⟩,
  ⟨(some 19), .mv (.t 20), none, none⟩]
def f69r8 : IC := .reg false [] f69o8 [19]
@[simp] theorem f69r8_run : run tbl fin K f69r8 e H = regK tbl fin K [] f69o8 [19] e H := run_regK _ _ _ _ _ _ _ _ _ rfl
@[simp] def f69o9 : List IOper := [
  ⟨(some 2), .mv (.c (.int .i64 0)), none, none⟩]
def f69r9 : IC := .reg false [] f69o9 [2]
@[simp] theorem f69r9_run : run tbl fin K f69r9 e H = regK tbl fin K [] f69o9 [2] e H := run_regK _ _ _ _ _ _ _ _ _ rfl
@[simp] def f69o10 : List IOper := [
  ⟨(some 2), .mv (.c (.int .i64 255)), none, none⟩]
def f69r10 : IC := .reg false [] f69o10 [2]
@[simp] theorem f69r10_run : run tbl fin K f69r10 e H = regK tbl fin K [] f69o10 [2] e H := run_regK _ _ _ _ _ _ _ _ _ rfl
def f69body : IC := (.seq f69r0 (.seq f69r1 (.seq (.seq f69r2 (.block 0 (.seq f69r3 (.cond (.t 11) (.seq f69r4 .ret) (.seq (.seq f69r5 (.cond (.t 14) .skip f69r6)) (.cond (.t 14) (.seq f69r7 .ret) (.seq f69r8 (.cond (.t 19) (.seq f69r9 .ret) .skip)))))))) (.seq f69r10 .ret))))
def f69 : IFn := ⟨21, 1, [.tmp 2], f69body⟩
/- 70: jobshell/jobs.shape -/
@[simp] def f70o0 : List IOper := [
  ⟨(some 1), .box 42 7 (.t 0), none, none⟩,
  ⟨(some 2), .mv (.c (.int .i64 0)), none, none⟩]
def f70r0 : IC := .reg false [] f70o0 [1]
@[simp] theorem f70r0_run : run tbl fin K f70r0 e H = regK tbl fin K [] f70o0 [1] e H := run_regK _ _ _ _ _ _ _ _ _ rfl
@[simp] def f70o1 : List IOper := [
  ⟨(some 9), .fld 0 (.t 1), none, none⟩,
  ⟨(some 10), .load false 1 (.t 9), none, none⟩,
  ⟨(some 11), .bin .lss (.t 10) (.c (.int .i64 1)), none, none⟩,
  ⟨(some 12), .mv (.t 11), none, none⟩,
  ⟨(some 13), .fld 0 (.t 1), (some (12, false)), none⟩,
  ⟨(some 14), .load false 1 (.t 13), (some (12, false)), none⟩,
  ⟨(some 15), .bin .gtr (.t 14) (.c (.int .i64 32)), (some (12, false)), none⟩,
  ⟨(some 16), .pick (.t 12) (.c (.bool true)) (.t 15), none, some [16, 1]⟩,
  ⟨(some 17), .mv (.t 16), none, none⟩,
  ⟨(some 18), .fld 1 (.t 1), (some (17, false)), none⟩,
  ⟨(some 19), .load false 1 (.t 18), (some (17, false)), none⟩,
  ⟨(some 20), .call (.c (.fn 33 [])) [(.t 19)], (some (17, false)), none⟩,
  ⟨(some 21), .un .not (.t 20), (some (17, false)), none⟩,
  ⟨(some 22), .pick (.t 17) (.c (.bool true)) (.t 21), none, none⟩,
  ⟨(some 23), .mv (.t 22), none, none⟩,
  ⟨(some 24), .fld 3 (.t 1), (some (23, false)), some [24, 23, 1]⟩,
  ⟨(some 25), .load false 1 (.t 24), (some (23, false)), none⟩,
  ⟨(some 26), .len (.t 25), (some (23, false)), none⟩,
  ⟨(some 27), .bin .eql (.t 26) (.c (.int .i64 0)), (some (23, false)), none⟩,
  ⟨(some 28), .pick (.t 23) (.c (.bool true)) (.t 27), none, none⟩,
  ⟨(some 29), .mv (.t 28), none, none⟩,
  ⟨(some 30), .fld 4 (.t 1), (some (29, false)), none⟩,
  ⟨(some 31), .load false 1 (.t 30), (some (29, false)), none⟩,
  ⟨(some 32), .len (.t 31), (some (29, false)), some [32, 29, 1]⟩,
  ⟨(some 33), .fld 3 (.t 1), (some (29, false)), none⟩,
  ⟨(some 34), .load false 1 (.t 33), (some (29, false)), none⟩,
  ⟨(some 35), .len (.t 34), (some (29, false)), none⟩,
  ⟨(some 36), .bin .neq (.t 32) (.t 35), (some (29, false)), none⟩,
  ⟨(some 37), .pick (.t 29) (.c (.bool true)) (.t 36), none, none⟩]
def f70r1 : IC := .reg false [] f70o1 [37, 1]
@[simp] theorem f70r1_run : run tbl fin K f70r1 e H = regK tbl fin K [] f70o1 [37, 1] e H := run_regK _ _ _ _ _ _ _ _ _ rfl
@[simp] def f70o2 : List IOper := [
  ⟨(some 2), .mv (.c (.int .i64 1)), none, none⟩]
def f70r2 : IC := .reg false [] f70o2 [2]
@[simp] theorem f70r2_run : run tbl fin K f70r2 e H = regK tbl fin K [] f70o2 [2] e H := run_regK _ _ _ _ _ _ _ _ _ rfl
@[simp] def f70o3 : List IOper := [
  ⟨(some 38), .fld 5 (.t 1), none, none⟩,
  ⟨(some 39), .load false 1 (.t 38), none, none⟩,
  ⟨(some 40), .slen (.t 39), none, none⟩,
  ⟨(some 41), .bin .gtr (.t 40) (.c (.int .i64 4096)), none, none⟩]
def f70r3 : IC := .reg false [] f70o3 [41, 1]
@[simp] theorem f70r3_run : run tbl fin K f70r3 e H = regK tbl fin K [] f70o3 [41, 1] e H := run_regK _ _ _ _ _ _ _ _ _ rfl
@[simp] def f70o4 : List IOper := [
  ⟨(some 2), .mv (.c (.int .i64 3)), none, none⟩]
def f70r4 : IC := .reg false [] f70o4 [2]
@[simp] theorem f70r4_run : run tbl fin K f70r4 e H = regK tbl fin K [] f70o4 [2] e H := run_regK _ _ _ _ _ _ _ _ _ rfl
@[simp] def f70o5 : List IOper := [
  ⟨(some 42), .fld 3 (.t 1), none, none⟩,
  ⟨(some 43), .load false 1 (.t 42), none, none⟩,
  ⟨(some 44), .len (.t 43), none, none⟩,
  ⟨(some 45), .mv (.c (.int .i64 0)), none, none⟩]
def f70r5 : IC := .reg false [] f70o5 [44, 1, 43, 45]
@[simp] theorem f70r5_run : run tbl fin K f70r5 e H = regK tbl fin K [] f70o5 [44, 1, 43, 45] e H := run_regK _ _ _ _ _ _ _ _ _ rfl
@[simp] def f70o6 : List IOper := [
  ⟨(some 46), .bin .lss (.t 45) (.t 44), none, none⟩]
def f70r6 : IC := .reg false [] f70o6 [46, 43, 1, 44, 45]
@[simp] theorem f70r6_run : run tbl fin K f70r6 e H = regK tbl fin K [] f70o6 [46, 43, 1, 44, 45] e H := run_regK _ _ _ _ _ _ _ _ _ rfl
@[simp] def f70o7 : List IOper := [
  ⟨(some 47), .idx 1 (.t 43) (.t 45), none, none⟩,
  ⟨(some 48), .load false 1 (.t 47), none, none⟩,
  ⟨(some 4), .mv (.t 48), none, none⟩]
def f70r7 : IC := .reg false [] f70o7 [4, 43, 1, 44, 45]
@[simp] theorem f70r7_run : run tbl fin K f70r7 e H = regK tbl fin K [] f70o7 [4, 43, 1, 44, 45] e H := run_regK _ _ _ _ _ _ _ _ _ rfl
@[simp] def f70o8 : List IOper := [
  ⟨(some 49), .mv (.t 4), none, none⟩,
  ⟨(some 50), .call (.c (.fn 33 [])) [(.t 49)], none, none⟩,
  ⟨(some 51), .un .not (.t 50), none, none⟩]
def f70r8 : IC := .reg false [] f70o8 [51, 43, 1, 44, 45]
@[simp] theorem f70r8_run : run tbl fin K f70r8 e H = regK tbl fin K [] f70o8 [51, 43, 1, 44, 45] e H := run_regK _ _ _ _ _ _ _ _ _ rfl
@[simp] def f70o9 : List IOper := [
  ⟨(some 2), .mv (.c (.int .i64 1)), none, none⟩]
def f70r9 : IC := .reg false [] f70o9 [2]
@[simp] theorem f70r9_run : run tbl fin K f70r9 e H = regK tbl fin K [] f70o9 [2] e H := run_regK _ _ _ _ _ _ _ _ _ rfl
@[simp] def f70o10 : List IOper := [
  ⟨(some 52), .bin .add (.t 45) (.c (.int .i64 1)), none, none⟩,
  ⟨(some 45), .mv (.t 52), none, none⟩]
def f70r10 : IC := .reg false [] f70o10 [44, 1, 43, 45]
@[simp] theorem f70r10_run : run tbl fin K f70r10 e H = regK tbl fin K [] f70o10 [44, 1, 43, 45] e H := run_regK _ _ _ _ _ _ _ _ _ rfl
def f70b11 : IC := (.seq f70r6 (.seq (.cond (.t 46) .skip (.exit 0)) (.seq (.block 1 (.seq f70r7 (.seq f70r8 (.cond (.t 51) (.seq f70r9 .ret) .skip)))) f70r10)))
theorem f70b11_eq : f70b11 = (.seq f70r6 (.seq (.cond (.t 46) .skip (.exit 0)) (.seq (.block 1 (.seq f70r7 (.seq f70r8 (.cond (.t 51) (.seq f70r9 .ret) .skip)))) f70r10))) := rfl
@[simp] def f70o12 : List IOper := [
  ⟨(some 53), .fld 4 (.t 1), none, none⟩,
  ⟨(some 54), .load false 1 (.t 53), none, none⟩,
  ⟨(some 55), .len (.t 54), none, none⟩,
  ⟨(some 56), .mv (.c (.int .i64 0)), none, none⟩]
def f70r12 : IC := .reg false [] f70o12 [55, 54, 56]
@[simp] theorem f70r12_run : run tbl fin K f70r12 e H = regK tbl fin K [] f70o12 [55, 54, 56] e H := run_regK _ _ _ _ _ _ _ _ _ rfl
@[simp] def f70o13 : List IOper := [
  ⟨(some 57), .bin .lss (.t 56) (.t 55), none, none⟩]
def f70r13 : IC := .reg false [] f70o13 [57, 54, 55, 56]
@[simp] theorem f70r13_run : run tbl fin K f70r13 e H = regK tbl fin K [] f70o13 [57, 54, 55, 56] e H := run_regK _ _ _ _ _ _ _ _ _ rfl
@[simp] def f70o14 : List IOper := [
  ⟨(some 58), .idx 1 (.t 54) (.t 56), none, none⟩,
  ⟨(some 59), .load false 1 (.t 58), none, none⟩,
  ⟨(some 6), .mv (.t 59), none, none⟩]
def f70r14 : IC := .reg false [] f70o14 [6, 54, 55, 56]
@[simp] theorem f70r14_run : run tbl fin K f70r14 e H = regK tbl fin K [] f70o14 [6, 54, 55, 56] e H := run_regK _ _ _ _ _ _ _ _ _ rfl
@[simp] def f70o15 : List IOper := [
  ⟨(some 61), .mv (.t 6), none, none⟩,
  ⟨(some 62), .call (.c (.fn 62 [])) [(.t 61)], none, none⟩,
  ⟨(some 60), .mv (.t 62), none, none⟩,
  ⟨(some 63), .ext (.t 60) 0, none, none⟩,
  ⟨(some 64), .ext (.t 60) 1, none, none⟩,
  ⟨(some 7), .mv (.t 63), none, none⟩,
  ⟨(some 8), .mv (.t 64), none, none⟩]
def f70r15 : IC := .reg false [] f70o15 [6, 7, 54, 55, 56]
@[simp] theorem f70r15_run : run tbl fin K f70r15 e H = regK tbl fin K [] f70o15 [6, 7, 54, 55, 56] e H := run_regK _ _ _ _ _ _ _ _ _ rfl
@[simp] def f70o16 : List IOper := [
  ⟨(some 65), .mv (.t 6), none, none⟩,
  ⟨(some 66), .bin .neq (.t 65) (.c (.int .i64 (-1))), none, none⟩,
  ⟨(some 67), .mv (.t 66), none, none⟩,
  ⟨(some 68), .mv (.t 7), (some (67, true)), none⟩,
  ⟨(some 69), .bin .neq (.t 68) (.c (.int .i64 0)), (some (67, true)), none⟩,
  ⟨(some 70), .pick (.t 67) (.t 69) (.c (.bool false)), none, none⟩,
  ⟨(some 71), .mv (.t 70), none, none⟩,
  ⟨(some 72), .mv (.t 7), (some (71, true)), some [72, 71, 7, 54, 55, 56]⟩,
  ⟨(some 73), .bin .neq (.t 72) (.c (.int .i64 1)), (some (71, true)), none⟩,
  ⟨(some 74), .pick (.t 71) (.t 73) (.c (.bool false)), none, none⟩,
  ⟨(some 75), .mv (.t 74), none, none⟩,
  ⟨(some 76), .mv (.t 7), (some (75, true)), none⟩,
  ⟨(some 77), .bin .neq (.t 76) (.c (.int .i64 2)), (some (75, true)), none⟩,
  ⟨(some 78), .pick (.t 75) (.t 77) (.c (.bool false)), none, none⟩]
def f70r16 : IC := .reg false [] f70o16 [78, 54, 55, 56]
@[simp] theorem f70r16_run : run tbl fin K f70r16 e H = regK tbl fin K [] f70o16 [78, 54, 55, 56] e H := run_regK _ _ _ _ _ _ _ _ _ rfl
@[simp] def f70o17 : List IOper := [
  ⟨(some 2), .mv (.c (.int .i64 1)), none, none⟩]
def f70r17 : IC := .reg false [] f70o17 [2]
@[simp] theorem f70r17_run : run tbl fin K f70r17 e H = regK tbl fin K [] f70o17 [2] e H := run_regK _ _ _ _ _ _ _ _ _ rfl
@[simp] def f70o18 : List IOper := [
  ⟨(some 79), .bin .add (.t 56) (.c (.int .i64 1)), none, none⟩,
  ⟨(some 56), .mv (.t 79), none, none⟩]
def f70r18 : IC := .reg false [] f70o18 [55, 54, 56]
@[simp] theorem f70r18_run : run tbl fin K f70r18 e H = regK tbl fin K [] f70o18 [55, 54, 56] e H := run_regK _ _ _ _ _ _ _ _ _ rfl
def f70b19 : IC := (.seq f70r13 (.seq (.cond (.t 57) .skip (.exit 2)) (.seq (.block 3 (.seq f70r14 (.seq f70r15 (.seq f70r16 (.cond (.t 78) (.seq f70r17 .ret) .skip))))) f70r18)))
theorem f70b19_eq : f70b19 = (.seq f70r13 (.seq (.cond (.t 57) .skip (.exit 2)) (.seq (.block 3 (.seq f70r14 (.seq f70r15 (.seq f70r16 (.cond (.t 78) (.seq f70r17 .ret) .skip))))) f70r18))) := rfl
@[simp] def f70o20 : List IOper := [
  ⟨(some 2), .mv (.c (.int .i64 0)), none, none⟩]
def f70r20 : IC := .reg false [] f70o20 [2]
@[simp] theorem f70r20_run : run tbl fin K f70r20 e H = regK tbl fin K [] f70o20 [2] e H := run_regK _ _ _ _ _ _ _ _ _ rfl
def f70body : IC := (.seq f70r0 (.seq (.seq f70r1 (.cond (.t 37) (.seq f70r2 .ret) .skip)) (.seq (.seq f70r3 (.cond (.t 41) (.seq f70r4 .ret) .skip)) (.seq (.seq f70r5 (.block 0 (.loop [44, 1, 43, 45] f70b11))) (.seq (.seq f70r12 (.block 2 (.loop [55, 54, 56] f70b19))) (.seq f70r20 .ret))))))
def f70 : IFn := ⟨80, 1, [.tmp 2], f70body⟩
/- 71: jobshell/jobshellref36.one -/
@[simp] def f71o0 : List IOper := [
  ⟨(some 3), .box 42 7 (.t 1), none, none⟩,
  ⟨(some 4), .mv (.c (.int .i64 0)), none, none⟩]
def f71r0 : IC := .reg false [] f71o0 [0, 3]
@[simp] theorem f71r0_run : run tbl fin K f71r0 e H = regK tbl fin K [] f71o0 [0, 3] e H := run_regK _ _ _ _ _ _ _ _ _ rfl
@[simp] def f71o1 : List IOper := [
  ⟨(some 7), .fld 0 (.t 3), none, none⟩,
  ⟨(some 8), .load false 1 (.t 7), none, none⟩,
  ⟨(some 9), .bin .lss (.t 8) (.c (.int .i64 1)), none, none⟩,
  ⟨(some 10), .mv (.t 9), none, none⟩,
  ⟨(some 11), .fld 0 (.t 3), (some (10, false)), none⟩,
  ⟨(some 12), .load false 1 (.t 11), (some (10, false)), none⟩,
  ⟨(some 13), .bin .gtr (.t 12) (.c (.int .i64 32)), (some (10, false)), none⟩,
  ⟨(some 14), .pick (.t 10) (.c (.bool true)) (.t 13), none, some [14, 0, 3]⟩,
  ⟨(some 15), .mv (.t 14), none, none⟩,
  ⟨(some 16), .fld 1 (.t 3), (some (15, false)), none⟩,
  ⟨(some 17), .load false 1 (.t 16), (some (15, false)), none⟩,
  ⟨(some 18), .call (.c (.fn 40 [])) [(.t 17)], (some (15, false)), none⟩,
  ⟨(some 19), .un .not (.t 18), (some (15, false)), none⟩,
  ⟨(some 20), .pick (.t 15) (.c (.bool true)) (.t 19), none, none⟩,
  ⟨(some 21), .mv (.t 20), none, none⟩,
  ⟨(some 22), .fld 3 (.t 3), (some (21, false)), some [22, 21, 0, 3]⟩,
  ⟨(some 23), .load false 1 (.t 22), (some (21, false)), none⟩,
  ⟨(some 24), .len (.t 23), (some (21, false)), none⟩,
  ⟨(some 25), .bin .eql (.t 24) (.c (.int .i64 0)), (some (21, false)), none⟩,
  ⟨(some 26), .pick (.t 21) (.c (.bool true)) (.t 25), none, none⟩,
  ⟨(some 27), .mv (.t 26), none, none⟩,
  ⟨(some 28), .fld 4 (.t 3), (some (27, false)), none⟩,
  ⟨(some 29), .load false 1 (.t 28), (some (27, false)), none⟩,
  ⟨(some 30), .len (.t 29), (some (27, false)), some [30, 27, 0, 3]⟩,
  ⟨(some 31), .fld 3 (.t 3), (some (27, false)), none⟩,
  ⟨(some 32), .load false 1 (.t 31), (some (27, false)), none⟩,
  ⟨(some 33), .len (.t 32), (some (27, false)), none⟩,
  ⟨(some 34), .bin .neq (.t 30) (.t 33), (some (27, false)), none⟩,
  ⟨(some 35), .pick (.t 27) (.c (.bool true)) (.t 34), none, none⟩]
def f71r1 : IC := .reg false [] f71o1 [35, 0, 3]
@[simp] theorem f71r1_run : run tbl fin K f71r1 e H = regK tbl fin K [] f71o1 [35, 0, 3] e H := run_regK _ _ _ _ _ _ _ _ _ rfl
@[simp] def f71o2 : List IOper := [
  ⟨(some 4), .mv (.c (.int .i64 1)), none, none⟩]
def f71r2 : IC := .reg false [] f71o2 [4]
@[simp] theorem f71r2_run : run tbl fin K f71r2 e H = regK tbl fin K [] f71o2 [4] e H := run_regK _ _ _ _ _ _ _ _ _ rfl
@[simp] def f71o3 : List IOper := [
  ⟨(some 36), .fld 5 (.t 3), none, none⟩,
  ⟨(some 37), .load false 1 (.t 36), none, none⟩,
  ⟨(some 38), .slen (.t 37), none, none⟩,
  ⟨(some 39), .bin .gtr (.t 38) (.c (.int .i64 4096)), none, none⟩]
def f71r3 : IC := .reg false [] f71o3 [39, 3, 0]
@[simp] theorem f71r3_run : run tbl fin K f71r3 e H = regK tbl fin K [] f71o3 [39, 3, 0] e H := run_regK _ _ _ _ _ _ _ _ _ rfl
@[simp] def f71o4 : List IOper := [
  ⟨(some 4), .mv (.c (.int .i64 3)), none, none⟩]
def f71r4 : IC := .reg false [] f71o4 [4]
@[simp] theorem f71r4_run : run tbl fin K f71r4 e H = regK tbl fin K [] f71o4 [4] e H := run_regK _ _ _ _ _ _ _ _ _ rfl
@[simp] def f71o5 : List IOper := [
  ⟨(some 5), .mv (.c (.int .i64 0)), none, none⟩]
def f71r5 : IC := .reg false [] f71o5 [0, 3, 5]
@[simp] theorem f71r5_run : run tbl fin K f71r5 e H = regK tbl fin K [] f71o5 [0, 3, 5] e H := run_regK _ _ _ _ _ _ _ _ _ rfl
@[simp] def f71o6 : List IOper := [
  ⟨(some 40), .mv (.t 5), none, none⟩,
  ⟨(some 41), .fld 3 (.t 3), none, none⟩,
  ⟨(some 42), .load false 1 (.t 41), none, none⟩,
  ⟨(some 43), .len (.t 42), none, none⟩,
  ⟨(some 44), .bin .lss (.t 40) (.t 43), none, none⟩]
def f71r6 : IC := .reg false [] f71o6 [44, 3, 0, 5]
@[simp] theorem f71r6_run : run tbl fin K f71r6 e H = regK tbl fin K [] f71o6 [44, 3, 0, 5] e H := run_regK _ _ _ _ _ _ _ _ _ rfl
@[simp] def f71o7 : List IOper := [
  ⟨(some 47), .fld 3 (.t 3), none, none⟩,
  ⟨(some 48), .load false 1 (.t 47), none, none⟩,
  ⟨(some 49), .mv (.t 5), none, none⟩,
  ⟨(some 50), .idx 1 (.t 48) (.t 49), none, none⟩,
  ⟨(some 51), .load false 1 (.t 50), none, none⟩,
  ⟨(some 52), .call (.c (.fn 40 [])) [(.t 51)], none, none⟩,
  ⟨(some 53), .un .not (.t 52), none, none⟩,
  ⟨(some 54), .mv (.t 53), none, some [54, 3, 0, 5]⟩,
  ⟨(some 55), .fld 4 (.t 3), (some (54, false)), none⟩,
  ⟨(some 56), .load false 1 (.t 55), (some (54, false)), none⟩,
  ⟨(some 57), .mv (.t 5), (some (54, false)), none⟩,
  ⟨(some 58), .idx 1 (.t 56) (.t 57), (some (54, false)), none⟩,
  ⟨(some 59), .load false 1 (.t 58), (some (54, false)), none⟩,
  ⟨(some 60), .bin .neq (.t 59) (.c (.int .i64 (-1))), (some (54, false)), none⟩,
  ⟨(some 61), .mv (.t 60), (some (54, false)), none⟩,
  ⟨(some 62), .fld 4 (.t 3), (some (61, true)), some [62, 61, 54, 3, 0, 5]⟩,
  ⟨(some 63), .load false 1 (.t 62), (some (61, true)), none⟩,
  ⟨(some 64), .mv (.t 5), (some (61, true)), none⟩,
  ⟨(some 65), .idx 1 (.t 63) (.t 64), (some (61, true)), none⟩,
  ⟨(some 66), .load false 1 (.t 65), (some (61, true)), none⟩,
  ⟨(some 67), .call (.c (.fn 84 [])) [(.t 66)], (some (61, true)), none⟩,
  ⟨(some 68), .un .not (.t 67), (some (61, true)), none⟩,
  ⟨(some 69), .pick (.t 61) (.t 68) (.c (.bool false)), (some (54, false)), none⟩,
  ⟨(some 70), .mv (.t 69), (some (54, false)), some [70, 54, 3, 0, 5]⟩,
  ⟨(some 71), .fld 4 (.t 3), (some (70, true)), none⟩,
  ⟨(some 72), .load false 1 (.t 71), (some (70, true)), none⟩,
  ⟨(some 73), .mv (.t 5), (some (70, true)), none⟩,
  ⟨(some 74), .idx 1 (.t 72) (.t 73), (some (70, true)), none⟩,
  ⟨(some 75), .load false 1 (.t 74), (some (70, true)), none⟩,
  ⟨(some 76), .call (.c (.fn 85 [])) [(.t 75)], (some (70, true)), none⟩,
  ⟨(some 77), .un .not (.t 76), (some (70, true)), none⟩,
  ⟨(some 78), .pick (.t 70) (.t 77) (.c (.bool false)), (some (54, false)), some [78, 54, 3, 0, 5]⟩,
  ⟨(some 79), .pick (.t 54) (.c (.bool true)) (.t 78), none, none⟩]
def f71r7 : IC := .reg false [] f71o7 [79, 3, 0, 5]
@[simp] theorem f71r7_run : run tbl fin K f71r7 e H = regK tbl fin K [] f71o7 [79, 3, 0, 5] e H := run_regK _ _ _ _ _ _ _ _ _ rfl
@[simp] def f71o8 : List IOper := [
  ⟨(some 4), .mv (.c (.int .i64 1)), none, none⟩]
def f71r8 : IC := .reg false [] f71o8 [4]
@[simp] theorem f71r8_run : run tbl fin K f71r8 e H = regK tbl fin K [] f71o8 [4] e H := run_regK _ _ _ _ _ _ _ _ _ rfl
@[simp] def f71o9 : List IOper := [
  ⟨(some 45), .mv (.t 5), none, none⟩,
  ⟨(some 46), .bin .add (.t 45) (.c (.int .i64 1)), none, none⟩,
  ⟨(some 5), .mv (.t 46), none, none⟩]
def f71r9 : IC := .reg false [] f71o9 [0, 3, 5]
@[simp] theorem f71r9_run : run tbl fin K f71r9 e H = regK tbl fin K [] f71o9 [0, 3, 5] e H := run_regK _ _ _ _ _ _ _ _ _ rfl
def f71b10 : IC := (.seq (.seq f71r6 (.cond (.t 44) .skip (.exit 0))) (.seq (.block 1 (.seq f71r7 (.cond (.t 79) (.seq f71r8 .ret) .skip))) f71r9))
theorem f71b10_eq : f71b10 = (.seq (.seq f71r6 (.cond (.t 44) .skip (.exit 0))) (.seq (.block 1 (.seq f71r7 (.cond (.t 79) (.seq f71r8 .ret) .skip))) f71r9)) := rfl
@[simp] def f71o11 : List IOper := [
  ⟨(some 80), .mv (.t 0), none, none⟩,
  ⟨(some 81), .fld 0 (.t 3), none, none⟩,
  ⟨(some 82), .load false 1 (.t 81), none, none⟩,
  ⟨(some 83), .call (.c (.fn 43 [])) [(.t 80), (.t 82)], none, none⟩,
  ⟨(some 84), .bin .geq (.t 83) (.c (.int .i64 0)), none, none⟩]
def f71r11 : IC := .reg false [] f71o11 [84, 3, 0]
@[simp] theorem f71r11_run : run tbl fin K f71r11 e H = regK tbl fin K [] f71o11 [84, 3, 0] e H := run_regK _ _ _ _ _ _ _ _ _ rfl
@[simp] def f71o12 : List IOper := [
  ⟨(some 4), .mv (.c (.int .i64 9)), none, none⟩]
def f71r12 : IC := .reg false [] f71o12 [4]
@[simp] theorem f71r12_run : run tbl fin K f71r12 e H = regK tbl fin K [] f71o12 [4] e H := run_regK _ _ _ _ _ _ _ _ _ rfl
@[simp] def f71o13 : List IOper := [
  ⟨(some 6), .mv (.c (.int .i64 0)), none, none⟩]
def f71r13 : IC := .reg false [] f71o13 [0, 3, 6]
@[simp] theorem f71r13_run : run tbl fin K f71r13 e H = regK tbl fin K [] f71o13 [0, 3, 6] e H := run_regK _ _ _ _ _ _ _ _ _ rfl
@[simp] def f71o14 : List IOper := [
  ⟨(some 85), .mv (.t 6), none, none⟩,
  ⟨(some 86), .fld 3 (.t 3), none, none⟩,
  ⟨(some 87), .load false 1 (.t 86), none, none⟩,
  ⟨(some 88), .len (.t 87), none, none⟩,
  ⟨(some 89), .bin .lss (.t 85) (.t 88), none, none⟩]
def f71r14 : IC := .reg false [] f71o14 [89, 3, 0, 6]
@[simp] theorem f71r14_run : run tbl fin K f71r14 e H = regK tbl fin K [] f71o14 [89, 3, 0, 6] e H := run_regK _ _ _ _ _ _ _ _ _ rfl
@[simp] def f71o15 : List IOper := [
  ⟨(some 92), .mv (.t 0), none, none⟩,
  ⟨(some 93), .fld 3 (.t 3), none, none⟩,
  ⟨(some 94), .load false 1 (.t 93), none, none⟩,
  ⟨(some 95), .mv (.t 6), none, none⟩,
  ⟨(some 96), .idx 1 (.t 94) (.t 95), none, none⟩,
  ⟨(some 97), .load false 1 (.t 96), none, none⟩,
  ⟨(some 98), .call (.c (.fn 42 [])) [(.t 92), (.t 97)], none, none⟩,
  ⟨(some 99), .mv (.t 98), none, none⟩,
  ⟨(some 100), .fld 3 (.t 3), (some (99, false)), none⟩,
  ⟨(some 101), .load false 1 (.t 100), (some (99, false)), none⟩,
  ⟨(some 102), .mv (.t 6), (some (99, false)), none⟩,
  ⟨(some 103), .slc 1 (.t 101) none (some (.t 102)), (some (99, false)), none⟩,
  ⟨(some 104), .fld 3 (.t 3), (some (99, false)), none⟩,
  ⟨(some 105), .load false 1 (.t 104), (some (99, false)), none⟩,
  ⟨(some 106), .mv (.t 6), (some (99, false)), none⟩,
  ⟨(some 107), .idx 1 (.t 105) (.t 106), (some (99, false)), none⟩,
  ⟨(some 108), .load false 1 (.t 107), (some (99, false)), none⟩,
  ⟨(some 109), .call (.c (.fn 41 [])) [(.t 103), (.t 108)], (some (99, false)), none⟩,
  ⟨(some 110), .pick (.t 99) (.c (.bool true)) (.t 109), none, none⟩]
def f71r15 : IC := .reg true [] f71o15 [110, 3, 0, 6]
@[simp] theorem f71r15_run : run tbl fin K f71r15 e H = regK tbl fin K [] f71o15 [110, 3, 0, 6] e H := run_regK _ _ _ _ _ _ _ _ _ rfl
@[simp] def f71o16 : List IOper := [
  ⟨(some 4), .mv (.c (.int .i64 9)), none, none⟩]
def f71r16 : IC := .reg false [] f71o16 [4]
@[simp] theorem f71r16_run : run tbl fin K f71r16 e H = regK tbl fin K [] f71o16 [4] e H := run_regK _ _ _ _ _ _ _ _ _ rfl
@[simp] def f71o17 : List IOper := [
  ⟨(some 90), .mv (.t 6), none, none⟩,
  ⟨(some 91), .bin .add (.t 90) (.c (.int .i64 1)), none, none⟩,
  ⟨(some 6), .mv (.t 91), none, none⟩]
def f71r17 : IC := .reg false [] f71o17 [0, 3, 6]
@[simp] theorem f71r17_run : run tbl fin K f71r17 e H = regK tbl fin K [] f71o17 [0, 3, 6] e H := run_regK _ _ _ _ _ _ _ _ _ rfl
def f71b18 : IC := (.seq (.seq f71r14 (.cond (.t 89) .skip (.exit 2))) (.seq (.block 3 (.seq f71r15 (.cond (.t 110) (.seq f71r16 .ret) .skip))) f71r17))
theorem f71b18_eq : f71b18 = (.seq (.seq f71r14 (.cond (.t 89) .skip (.exit 2))) (.seq (.block 3 (.seq f71r15 (.cond (.t 110) (.seq f71r16 .ret) .skip))) f71r17)) := rfl
@[simp] def f71o19 : List IOper := [
  ⟨(some 111), .fld 2 (.t 3), none, none⟩,
  ⟨(some 112), .load false 1 (.t 111), none, none⟩,
  ⟨(some 113), .fld 4 (.t 3), none, none⟩,
  ⟨(some 114), .load false 1 (.t 113), none, none⟩,
  ⟨(some 115), .call (.c (.fn 67 [])) [(.t 114)], none, none⟩,
  ⟨(some 116), .bin .neq (.t 112) (.t 115), none, none⟩]
def f71r19 : IC := .reg true [] f71o19 [116]
@[simp] theorem f71r19_run : run tbl fin K f71r19 e H = regK tbl fin K [] f71o19 [116] e H := run_regK _ _ _ _ _ _ _ _ _ rfl
@[simp] def f71o20 : List IOper := [
  ⟨(some 4), .mv (.c (.int .i64 25)), none, none⟩]
def f71r20 : IC := .reg false [] f71o20 [4]
@[simp] theorem f71r20_run : run tbl fin K f71r20 e H = regK tbl fin K [] f71o20 [4] e H := run_regK _ _ _ _ _ _ _ _ _ rfl
@[simp] def f71o21 : List IOper := [
  ⟨(some 4), .mv (.c (.int .i64 0)), none, none⟩]
def f71r21 : IC := .reg false [] f71o21 [4]
@[simp] theorem f71r21_run : run tbl fin K f71r21 e H = regK tbl fin K [] f71o21 [4] e H := run_regK _ _ _ _ _ _ _ _ _ rfl
def f71body : IC := (.seq f71r0 (.seq (.seq f71r1 (.cond (.t 35) (.seq f71r2 .ret) .skip)) (.seq (.seq f71r3 (.cond (.t 39) (.seq f71r4 .ret) .skip)) (.seq (.seq f71r5 (.block 0 (.loop [0, 3, 5] f71b10))) (.seq (.seq f71r11 (.cond (.t 84) (.seq f71r12 .ret) .skip)) (.seq (.seq f71r13 (.block 2 (.loop [0, 3, 6] f71b18))) (.seq (.seq f71r19 (.cond (.t 116) (.seq f71r20 .ret) .skip)) (.seq f71r21 .ret))))))))
def f71 : IFn := ⟨117, 2, [.tmp 4], f71body⟩
/- 72: slices.Index[[]int,int] -/
@[simp] def f72o0 : List IOper := [
  ⟨(some 4), .mv (.c (.int .i64 0)), none, none⟩]
def f72r0 : IC := .reg false [] f72o0 [1, 0]
@[simp] theorem f72r0_run : run tbl fin K f72r0 e H = regK tbl fin K [] f72o0 [1, 0] e H := run_regK _ _ _ _ _ _ _ _ _ rfl
@[simp] def f72o1 : List IOper := [
  ⟨(some 6), .mv (.t 0), none, none⟩,
  ⟨(some 7), .len (.t 6), none, none⟩,
  ⟨(some 8), .mv (.c (.int .i64 0)), none, none⟩]
def f72r1 : IC := .reg false [] f72o1 [7, 1, 0, 8]
@[simp] theorem f72r1_run : run tbl fin K f72r1 e H = regK tbl fin K [] f72o1 [7, 1, 0, 8] e H := run_regK _ _ _ _ _ _ _ _ _ rfl
@[simp] def f72o2 : List IOper := [
  ⟨(some 9), .bin .lss (.t 8) (.t 7), none, none⟩]
def f72r2 : IC := .reg false [] f72o2 [9, 0, 1, 7, 8]
@[simp] theorem f72r2_run : run tbl fin K f72r2 e H = regK tbl fin K [] f72o2 [9, 0, 1, 7, 8] e H := run_regK _ _ _ _ _ _ _ _ _ rfl
@[simp] def f72o3 : List IOper := [
  ⟨(some 10), .mv (.t 8), none, none⟩,
  ⟨(some 5), .mv (.t 10), none, none⟩]
def f72r3 : IC := .reg false [] f72o3 [0, 1, 7, 8, 5]
@[simp] theorem f72r3_run : run tbl fin K f72r3 e H = regK tbl fin K [] f72o3 [0, 1, 7, 8, 5] e H := run_regK _ _ _ _ _ _ _ _ _ rfl
@[simp] def f72o4 : List IOper := [
  ⟨(some 11), .mv (.t 1), none, none⟩,
  ⟨(some 12), .mv (.t 0), none, none⟩,
  ⟨(some 13), .mv (.t 5), none, none⟩,
  ⟨(some 14), .idx 1 (.t 12) (.t 13), none, none⟩,
  ⟨(some 15), .load false 1 (.t 14), none, none⟩,
  ⟨(some 16), .bin .eql (.t 11) (.t 15), none, none⟩]
def f72r4 : IC := .reg false [] f72o4 [16, 0, 1, 7, 8, 5]
@[simp] theorem f72r4_run : run tbl fin K f72r4 e H = regK tbl fin K [] f72o4 [16, 0, 1, 7, 8, 5] e H := run_regK _ _ _ _ _ _ _ _ _ rfl
@[simp] def f72o5 : List IOper := [
  ⟨(some 17), .mv (.t 5), none, none⟩,
  ⟨(some 4), .mv (.t 17), none, none⟩]
def f72r5 : IC := .reg false [] f72o5 [4]
@[simp] theorem f72r5_run : run tbl fin K f72r5 e H = regK tbl fin K [] f72o5 [4] e H := run_regK _ _ _ _ _ _ _ _ _ rfl
@[simp] def f72o6 : List IOper := [
  ⟨(some 18), .bin .add (.t 8) (.c (.int .i64 1)), none, none⟩,
  ⟨(some 8), .mv (.t 18), none, none⟩]
def f72r6 : IC := .reg false [] f72o6 [7, 1, 0, 8]
@[simp] theorem f72r6_run : run tbl fin K f72r6 e H = regK tbl fin K [] f72o6 [7, 1, 0, 8] e H := run_regK _ _ _ _ _ _ _ _ _ rfl
def f72b7 : IC := (.seq f72r2 (.seq (.cond (.t 9) .skip (.exit 0)) (.seq (.block 1 (.seq f72r3 (.seq f72r4 (.cond (.t 16) (.seq f72r5 .ret) .skip)))) f72r6)))
theorem f72b7_eq : f72b7 = (.seq f72r2 (.seq (.cond (.t 9) .skip (.exit 0)) (.seq (.block 1 (.seq f72r3 (.seq f72r4 (.cond (.t 16) (.seq f72r5 .ret) .skip)))) f72r6))) := rfl
@[simp] def f72o8 : List IOper := [
  ⟨(some 4), .mv (.c (.int .i64 (-1))), none, none⟩]
def f72r8 : IC := .reg false [] f72o8 [4]
@[simp] theorem f72r8_run : run tbl fin K f72r8 e H = regK tbl fin K [] f72o8 [4] e H := run_regK _ _ _ _ _ _ _ _ _ rfl
def f72body : IC := (.seq f72r0 (.seq (.seq f72r1 (.block 0 (.loop [7, 1, 0, 8] f72b7))) (.seq f72r8 .ret)))
def f72 : IFn := ⟨19, 2, [.tmp 4], f72body⟩
/- 73: slices.Clone[[]jobshell/api.Job,jobshell/api.Job] -/
@[simp] def f73o0 : List IOper := [
  ⟨(some 2), .nilrow 42 7, none, none⟩]
def f73r0 : IC := .reg false [] f73o0 [0]
@[simp] theorem f73r0_run : run tbl fin K f73r0 e H = regK tbl fin K [] f73o0 [0] e H := run_regK _ _ _ _ _ _ _ _ _ rfl
@[simp] def f73o1 : List IOper := [
  ⟨(some 3), .mv (.t 0), none, none⟩,
  ⟨(some 4), .eqnil false (.t 3), none, none⟩]
def f73r1 : IC := .reg false [] f73o1 [4, 0]
@[simp] theorem f73r1_run : run tbl fin K f73r1 e H = regK tbl fin K [] f73o1 [4, 0] e H := run_regK _ _ _ _ _ _ _ _ _ rfl
@[simp] def f73o2 : List IOper := [
  ⟨(some 2), .nilrow 42 7, none, none⟩]
def f73r2 : IC := .reg false [] f73o2 [2]
@[simp] theorem f73r2_run : run tbl fin K f73r2 e H = regK tbl fin K [] f73o2 [2] e H := run_regK _ _ _ _ _ _ _ _ _ rfl
@[simp] def f73o3 : List IOper := [
  ⟨(some 5), .mkrow 42 7 0 (.agg [(.int .i64 0), (.int .i64 0), (.int .i64 0), .e0, .e0, (.str []), (.bool false)]) [], none, none⟩,
  ⟨(some 6), .mv (.t 0), none, none⟩,
  ⟨(some 7), .app 42 7 (.t 5) (.t 6), none, none⟩,
  ⟨(some 2), .mv (.t 7), none, none⟩]
def f73r3 : IC := .reg false [] f73o3 [2]
@[simp] theorem f73r3_run : run tbl fin K f73r3 e H = regK tbl fin K [] f73o3 [2] e H := run_regK _ _ _ _ _ _ _ _ _ rfl
def f73body : IC := (.seq f73r0 (.seq (.seq f73r1 (.cond (.t 4) (.seq f73r2 .ret) .skip)) (.seq f73r3 .ret)))
def f73 : IFn := ⟨8, 1, [.tmp 2], f73body⟩
/- 74: jobshell/jobshellref36.ints -/
@[simp] def f74o0 : List IOper := [
  ⟨(some 4), .mv (.c (.bool false)), none, none⟩]
def f74r0 : IC := .reg false [] f74o0 [1, 0]
@[simp] theorem f74r0_run : run tbl fin K f74r0 e H = regK tbl fin K [] f74o0 [1, 0] e H := run_regK _ _ _ _ _ _ _ _ _ rfl
@[simp] def f74o1 : List IOper := [
  ⟨(some 6), .mv (.t 0), none, none⟩,
  ⟨(some 7), .len (.t 6), none, none⟩,
  ⟨(some 8), .mv (.t 1), none, none⟩,
  ⟨(some 9), .len (.t 8), none, none⟩,
  ⟨(some 10), .bin .neq (.t 7) (.t 9), none, none⟩]
def f74r1 : IC := .reg false [] f74o1 [10, 1, 0]
@[simp] theorem f74r1_run : run tbl fin K f74r1 e H = regK tbl fin K [] f74o1 [10, 1, 0] e H := run_regK _ _ _ _ _ _ _ _ _ rfl
@[simp] def f74o2 : List IOper := [
  ⟨(some 4), .mv (.c (.bool false)), none, none⟩]
def f74r2 : IC := .reg false [] f74o2 [4]
@[simp] theorem f74r2_run : run tbl fin K f74r2 e H = regK tbl fin K [] f74o2 [4] e H := run_regK _ _ _ _ _ _ _ _ _ rfl
@[simp] def f74o3 : List IOper := [
  ⟨(some 5), .mv (.c (.int .i64 0)), none, none⟩]
def f74r3 : IC := .reg false [] f74o3 [0, 1, 5]
@[simp] theorem f74r3_run : run tbl fin K f74r3 e H = regK tbl fin K [] f74o3 [0, 1, 5] e H := run_regK _ _ _ _ _ _ _ _ _ rfl
@[simp] def f74o4 : List IOper := [
  ⟨(some 11), .mv (.t 5), none, none⟩,
  ⟨(some 12), .mv (.t 0), none, none⟩,
  ⟨(some 13), .len (.t 12), none, none⟩,
  ⟨(some 14), .bin .lss (.t 11) (.t 13), none, none⟩]
def f74r4 : IC := .reg false [] f74o4 [14, 1, 0, 5]
@[simp] theorem f74r4_run : run tbl fin K f74r4 e H = regK tbl fin K [] f74o4 [14, 1, 0, 5] e H := run_regK _ _ _ _ _ _ _ _ _ rfl
@[simp] def f74o5 : List IOper := [
  ⟨(some 17), .mv (.t 0), none, none⟩,
  ⟨(some 18), .mv (.t 5), none, none⟩,
  ⟨(some 19), .idx 1 (.t 17) (.t 18), none, none⟩,
  ⟨(some 20), .load false 1 (.t 19), none, none⟩,
  ⟨(some 21), .mv (.t 1), none, none⟩,
  ⟨(some 22), .mv (.t 5), none, none⟩,
  ⟨(some 23), .idx 1 (.t 21) (.t 22), none, none⟩,
  ⟨(some 24), .load false 1 (.t 23), none, none⟩,
  ⟨(some 25), .bin .neq (.t 20) (.t 24), none, none⟩]
def f74r5 : IC := .reg true [] f74o5 [25, 1, 0, 5]
@[simp] theorem f74r5_run : run tbl fin K f74r5 e H = regK tbl fin K [] f74o5 [25, 1, 0, 5] e H := run_regK _ _ _ _ _ _ _ _ _ rfl
@[simp] def f74o6 : List IOper := [
  ⟨(some 4), .mv (.c (.bool false)), none, none⟩]
def f74r6 : IC := .reg false [] f74o6 [4]
@[simp] theorem f74r6_run : run tbl fin K f74r6 e H = regK tbl fin K [] f74o6 [4] e H := run_regK _ _ _ _ _ _ _ _ _ rfl
@[simp] def f74o7 : List IOper := [
  ⟨(some 15), .mv (.t 5), none, none⟩,
  ⟨(some 16), .bin .add (.t 15) (.c (.int .i64 1)), none, none⟩,
  ⟨(some 5), .mv (.t 16), none, none⟩]
def f74r7 : IC := .reg false [] f74o7 [0, 1, 5]
@[simp] theorem f74r7_run : run tbl fin K f74r7 e H = regK tbl fin K [] f74o7 [0, 1, 5] e H := run_regK _ _ _ _ _ _ _ _ _ rfl
def f74b8 : IC := (.seq (.seq f74r4 (.cond (.t 14) .skip (.exit 0))) (.seq (.block 1 (.seq f74r5 (.cond (.t 25) (.seq f74r6 .ret) .skip))) f74r7))
theorem f74b8_eq : f74b8 = (.seq (.seq f74r4 (.cond (.t 14) .skip (.exit 0))) (.seq (.block 1 (.seq f74r5 (.cond (.t 25) (.seq f74r6 .ret) .skip))) f74r7)) := rfl
@[simp] def f74o9 : List IOper := [
  ⟨(some 4), .mv (.c (.bool true)), none, none⟩]
def f74r9 : IC := .reg false [] f74o9 [4]
@[simp] theorem f74r9_run : run tbl fin K f74r9 e H = regK tbl fin K [] f74o9 [4] e H := run_regK _ _ _ _ _ _ _ _ _ rfl
def f74body : IC := (.seq f74r0 (.seq (.seq f74r1 (.cond (.t 10) (.seq f74r2 .ret) .skip)) (.seq (.seq f74r3 (.block 0 (.loop [0, 1, 5] f74b8))) (.seq f74r9 .ret))))
def f74 : IFn := ⟨26, 2, [.tmp 4], f74body⟩
/- 75: internal/stringslite.CutPrefix -/
@[simp] def f75o0 : List IOper := [
  ⟨(some 4), .mv (.c (.str [])), none, none⟩,
  ⟨(some 5), .mv (.c (.bool false)), none, none⟩]
def f75r0 : IC := .reg false [] f75o0 [1, 0]
@[simp] theorem f75r0_run : run tbl fin K f75r0 e H = regK tbl fin K [] f75o0 [1, 0] e H := run_regK _ _ _ _ _ _ _ _ _ rfl
@[simp] def f75o1 : List IOper := [
  ⟨(some 6), .mv (.t 0), none, none⟩,
  ⟨(some 7), .mv (.t 1), none, none⟩,
  ⟨(some 8), .call (.c (.fn 76 [])) [(.t 6), (.t 7)], none, none⟩,
  ⟨(some 9), .un .not (.t 8), none, none⟩]
def f75r1 : IC := .reg false [] f75o1 [9, 1, 0]
@[simp] theorem f75r1_run : run tbl fin K f75r1 e H = regK tbl fin K [] f75o1 [9, 1, 0] e H := run_regK _ _ _ _ _ _ _ _ _ rfl
@[simp] def f75o2 : List IOper := [
  ⟨(some 10), .mv (.t 0), none, none⟩,
  ⟨(some 4), .mv (.t 10), none, none⟩,
  ⟨(some 5), .mv (.c (.bool false)), none, none⟩]
def f75r2 : IC := .reg false [] f75o2 [4, 5]
@[simp] theorem f75r2_run : run tbl fin K f75r2 e H = regK tbl fin K [] f75o2 [4, 5] e H := run_regK _ _ _ _ _ _ _ _ _ rfl
@[simp] def f75o3 : List IOper := [
  ⟨(some 11), .mv (.t 0), none, none⟩,
  ⟨(some 12), .mv (.t 1), none, none⟩,
  ⟨(some 13), .slen (.t 12), none, none⟩,
  ⟨(some 14), .sls (.t 11) (some (.t 13)) none, none, none⟩,
  ⟨(some 4), .mv (.t 14), none, none⟩,
  ⟨(some 5), .mv (.c (.bool true)), none, none⟩]
def f75r3 : IC := .reg false [] f75o3 [4, 5]
@[simp] theorem f75r3_run : run tbl fin K f75r3 e H = regK tbl fin K [] f75o3 [4, 5] e H := run_regK _ _ _ _ _ _ _ _ _ rfl
def f75body : IC := (.seq f75r0 (.seq (.seq f75r1 (.cond (.t 9) (.seq f75r2 .ret) .skip)) (.seq f75r3 .ret)))
def f75 : IFn := ⟨15, 2, [.tmp 4, .tmp 5], f75body⟩
/- 76: internal/stringslite.HasPrefix -/
@[simp] def f76o0 : List IOper := [
  ⟨(some 4), .mv (.c (.bool false)), none, none⟩]
def f76r0 : IC := .reg false [] f76o0 [0, 1]
@[simp] theorem f76r0_run : run tbl fin K f76r0 e H = regK tbl fin K [] f76o0 [0, 1] e H := run_regK _ _ _ _ _ _ _ _ _ rfl
@[simp] def f76o1 : List IOper := [
  ⟨(some 5), .mv (.t 0), none, none⟩,
  ⟨(some 6), .slen (.t 5), none, none⟩,
  ⟨(some 7), .mv (.t 1), none, none⟩,
  ⟨(some 8), .slen (.t 7), none, none⟩,
  ⟨(some 9), .bin .geq (.t 6) (.t 8), none, none⟩,
  ⟨(some 10), .mv (.t 9), none, none⟩,
  ⟨(some 11), .mv (.t 0), (some (10, true)), none⟩,
  ⟨(some 12), .mv (.t 1), (some (10, true)), some [12, 11, 1, 10]⟩,
  ⟨(some 13), .slen (.t 12), (some (10, true)), none⟩,
  ⟨(some 14), .sls (.t 11) none (some (.t 13)), (some (10, true)), none⟩,
  ⟨(some 15), .mv (.t 1), (some (10, true)), none⟩,
  ⟨(some 16), .bin .eql (.t 14) (.t 15), (some (10, true)), none⟩,
  ⟨(some 17), .pick (.t 10) (.t 16) (.c (.bool false)), none, none⟩,
  ⟨(some 4), .mv (.t 17), none, none⟩]
def f76r1 : IC := .reg false [] f76o1 [4]
@[simp] theorem f76r1_run : run tbl fin K f76r1 e H = regK tbl fin K [] f76o1 [4] e H := run_regK _ _ _ _ _ _ _ _ _ rfl
def f76body : IC := (.seq f76r0 (.seq f76r1 .ret))
def f76 : IFn := ⟨18, 2, [.tmp 4], f76body⟩
/- 77: strings.Index is met by a contract -/
/- 78: jobshell/jobshellref36.contains -/
@[simp] def f78o0 : List IOper := [
  ⟨(some 4), .mv (.c (.bool false)), none, none⟩]
def f78r0 : IC := .reg false [] f78o0 [0, 1]
@[simp] theorem f78r0_run : run tbl fin K f78r0 e H = regK tbl fin K [] f78o0 [0, 1] e H := run_regK _ _ _ _ _ _ _ _ _ rfl
@[simp] def f78o1 : List IOper := [
  ⟨(some 5), .mv (.c (.int .i64 0)), none, none⟩]
def f78r1 : IC := .reg false [] f78o1 [0, 1, 5]
@[simp] theorem f78r1_run : run tbl fin K f78r1 e H = regK tbl fin K [] f78o1 [0, 1, 5] e H := run_regK _ _ _ _ _ _ _ _ _ rfl
@[simp] def f78o2 : List IOper := [
  ⟨(some 6), .mv (.t 5), none, none⟩,
  ⟨(some 7), .mv (.t 1), none, none⟩,
  ⟨(some 8), .slen (.t 7), none, none⟩,
  ⟨(some 9), .bin .add (.t 6) (.t 8), none, none⟩,
  ⟨(some 10), .mv (.t 0), none, none⟩,
  ⟨(some 11), .slen (.t 10), none, none⟩,
  ⟨(some 12), .bin .leq (.t 9) (.t 11), none, none⟩]
def f78r2 : IC := .reg false [] f78o2 [12, 1, 0, 5]
@[simp] theorem f78r2_run : run tbl fin K f78r2 e H = regK tbl fin K [] f78o2 [12, 1, 0, 5] e H := run_regK _ _ _ _ _ _ _ _ _ rfl
@[simp] def f78o3 : List IOper := [
  ⟨(some 15), .mv (.t 0), none, none⟩,
  ⟨(some 16), .mv (.t 5), none, none⟩,
  ⟨(some 17), .mv (.t 5), none, none⟩,
  ⟨(some 18), .mv (.t 1), none, none⟩,
  ⟨(some 19), .slen (.t 18), none, none⟩,
  ⟨(some 20), .bin .add (.t 17) (.t 19), none, none⟩,
  ⟨(some 21), .sls (.t 15) (some (.t 16)) (some (.t 20)), none, none⟩,
  ⟨(some 22), .mv (.t 1), none, none⟩,
  ⟨(some 23), .bin .eql (.t 21) (.t 22), none, none⟩]
def f78r3 : IC := .reg false [] f78o3 [23, 1, 0, 5]
@[simp] theorem f78r3_run : run tbl fin K f78r3 e H = regK tbl fin K [] f78o3 [23, 1, 0, 5] e H := run_regK _ _ _ _ _ _ _ _ _ rfl
@[simp] def f78o4 : List IOper := [
  ⟨(some 4), .mv (.c (.bool true)), none, none⟩]
def f78r4 : IC := .reg false [] f78o4 [4]
@[simp] theorem f78r4_run : run tbl fin K f78r4 e H = regK tbl fin K [] f78o4 [4] e H := run_regK _ _ _ _ _ _ _ _ _ rfl
@[simp] def f78o5 : List IOper := [
  ⟨(some 13), .mv (.t 5), none, none⟩,
  ⟨(some 14), .bin .add (.t 13) (.c (.int .i64 1)), none, none⟩,
  ⟨(some 5), .mv (.t 14), none, none⟩]
def f78r5 : IC := .reg false [] f78o5 [0, 1, 5]
@[simp] theorem f78r5_run : run tbl fin K f78r5 e H = regK tbl fin K [] f78o5 [0, 1, 5] e H := run_regK _ _ _ _ _ _ _ _ _ rfl
def f78b6 : IC := (.seq (.seq f78r2 (.cond (.t 12) .skip (.exit 0))) (.seq (.block 1 (.seq f78r3 (.cond (.t 23) (.seq f78r4 .ret) .skip))) f78r5))
theorem f78b6_eq : f78b6 = (.seq (.seq f78r2 (.cond (.t 12) .skip (.exit 0))) (.seq (.block 1 (.seq f78r3 (.cond (.t 23) (.seq f78r4 .ret) .skip))) f78r5)) := rfl
@[simp] def f78o7 : List IOper := [
  ⟨(some 4), .mv (.c (.bool false)), none, none⟩]
def f78r7 : IC := .reg false [] f78o7 [4]
@[simp] theorem f78r7_run : run tbl fin K f78r7 e H = regK tbl fin K [] f78o7 [4] e H := run_regK _ _ _ _ _ _ _ _ _ rfl
def f78body : IC := (.seq f78r0 (.seq (.seq f78r1 (.block 0 (.loop [0, 1, 5] f78b6))) (.seq f78r7 .ret)))
def f78 : IFn := ⟨24, 2, [.tmp 4], f78body⟩
/- 79: jobshell/jobshellref36.begins -/
@[simp] def f79o0 : List IOper := [
  ⟨(some 4), .mv (.c (.bool false)), none, none⟩]
def f79r0 : IC := .reg false [] f79o0 [0, 1]
@[simp] theorem f79r0_run : run tbl fin K f79r0 e H = regK tbl fin K [] f79o0 [0, 1] e H := run_regK _ _ _ _ _ _ _ _ _ rfl
@[simp] def f79o1 : List IOper := [
  ⟨(some 5), .mv (.t 0), none, none⟩,
  ⟨(some 6), .slen (.t 5), none, none⟩,
  ⟨(some 7), .mv (.t 1), none, none⟩,
  ⟨(some 8), .slen (.t 7), none, none⟩,
  ⟨(some 9), .bin .geq (.t 6) (.t 8), none, none⟩,
  ⟨(some 10), .mv (.t 9), none, none⟩,
  ⟨(some 11), .mv (.t 0), (some (10, true)), none⟩,
  ⟨(some 12), .mv (.t 1), (some (10, true)), some [12, 11, 1, 10]⟩,
  ⟨(some 13), .slen (.t 12), (some (10, true)), none⟩,
  ⟨(some 14), .sls (.t 11) none (some (.t 13)), (some (10, true)), none⟩,
  ⟨(some 15), .mv (.t 1), (some (10, true)), none⟩,
  ⟨(some 16), .bin .eql (.t 14) (.t 15), (some (10, true)), none⟩,
  ⟨(some 17), .pick (.t 10) (.t 16) (.c (.bool false)), none, none⟩,
  ⟨(some 4), .mv (.t 17), none, none⟩]
def f79r1 : IC := .reg false [] f79o1 [4]
@[simp] theorem f79r1_run : run tbl fin K f79r1 e H = regK tbl fin K [] f79o1 [4] e H := run_regK _ _ _ _ _ _ _ _ _ rfl
def f79body : IC := (.seq f79r0 (.seq f79r1 .ret))
def f79 : IFn := ⟨18, 2, [.tmp 4], f79body⟩
/- 80: strings.Join is met by a contract -/
/- 81: jobshell/status.Describe -/
@[simp] def f81o0 : List IOper := [
  ⟨(some 2), .mv (.c (.str [])), none, none⟩]
def f81r0 : IC := .reg false [] f81o0 [0]
@[simp] theorem f81r0_run : run tbl fin K f81r0 e H = regK tbl fin K [] f81o0 [0] e H := run_regK _ _ _ _ _ _ _ _ _ rfl
@[simp] def f81o1 : List IOper := [
  ⟨(some 6), .mv (.t 0), none, none⟩,
  ⟨(some 7), .call (.c (.fn 62 [])) [(.t 6)], none, none⟩,
  ⟨(some 5), .mv (.t 7), none, none⟩,
  ⟨(some 8), .ext (.t 5) 0, none, none⟩,
  ⟨(some 9), .ext (.t 5) 1, none, none⟩,
  ⟨(some 3), .mv (.t 8), none, none⟩,
  ⟨(some 4), .mv (.t 9), none, none⟩]
def f81r1 : IC := .reg false [] f81o1 [3, 4]
@[simp] theorem f81r1_run : run tbl fin K f81r1 e H = regK tbl fin K [] f81o1 [3, 4] e H := run_regK _ _ _ _ _ _ _ _ _ rfl
@[simp] def f81o2 : List IOper := [
  ⟨(some 10), .mv (.t 3), none, none⟩]
def f81r2 : IC := .reg false [] f81o2 [10, 4]
@[simp] theorem f81r2_run : run tbl fin K f81r2 e H = regK tbl fin K [] f81o2 [10, 4] e H := run_regK _ _ _ _ _ _ _ _ _ rfl
@[simp] def f81o3 : List IOper := [
  ⟨(some 12), .bin .eql (.t 10) (.c (.int .i64 0)), none, none⟩,
  ⟨(some 11), .mv (.t 12), none, none⟩]
def f81r3 : IC := .reg false [] f81o3 [11, 10, 4]
@[simp] theorem f81r3_run : run tbl fin K f81r3 e H = regK tbl fin K [] f81o3 [11, 10, 4] e H := run_regK _ _ _ _ _ _ _ _ _ rfl
@[simp] def f81o4 : List IOper := [
  ⟨(some 13), .mv (.t 4), none, none⟩,
  ⟨(some 14), .bin .eql (.t 13) (.c (.int .i64 0)), none, none⟩]
def f81r4 : IC := .reg false [] f81o4 [14, 4]
@[simp] theorem f81r4_run : run tbl fin K f81r4 e H = regK tbl fin K [] f81o4 [14, 4] e H := run_regK _ _ _ _ _ _ _ _ _ rfl
@[simp] def f81o5 : List IOper := [
  ⟨(some 2), .mv (.c (.str [68, 111, 110, 101])), none, none⟩]
def f81r5 : IC := .reg false [] f81o5 [2]
@[simp] theorem f81r5_run : run tbl fin K f81r5 e H = regK tbl fin K [] f81o5 [2] e H := run_regK _ _ _ _ _ _ _ _ _ rfl
@[simp] def f81o6 : List IOper := [
  ⟨(some 15), .mv (.t 4), none, none⟩,
  ⟨(some 16), .call (.c (.fn 20 [])) [(.t 15)], none, none⟩,
  ⟨(some 17), .bin .add (.c (.str [69, 120, 105, 116, 32])) (.t 16), none, none⟩,
  ⟨(some 2), .mv (.t 17), none, none⟩]
def f81r6 : IC := .reg false [] f81o6 [2]
@[simp] theorem f81r6_run : run tbl fin K f81r6 e H = regK tbl fin K [] f81o6 [2] e H := run_regK _ _ _ _ _ _ _ _ _ rfl
@[simp] def f81o7 : List IOper := [
  ⟨(some 19), .bin .eql (.t 10) (.c (.int .i64 1)), none, none⟩,
  ⟨(some 18), .mv (.t 19), none, none⟩]
def f81r7 : IC := .reg false [] f81o7 [18, 10, 4]
@[simp] theorem f81r7_run : run tbl fin K f81r7 e H = regK tbl fin K [] f81o7 [18, 10, 4] e H := run_regK _ _ _ _ _ _ _ _ _ rfl
@[simp] def f81o8 : List IOper := [
  ⟨(some 20), .mv (.t 4), none, none⟩,
  ⟨(some 21), .bin .lss (.t 20) (.c (.int .i64 21)), none, none⟩,
  ⟨(some 22), .mv (.t 21), none, none⟩,
  ⟨(some 23), .mv (.t 4), (some (22, true)), none⟩,
  ⟨(some 24), .pix 21 1 (.c (.cptr (.agg [(.str []), (.str [72, 85, 80]), (.str [73, 78, 84]), (.str [81, 85, 73, 84]), (.str [84, 84, 73, 78]), (.str [84, 84, 79, 85]), (.str []), (.str []), (.str []), (.str [75, 73, 76, 76]), (.str [85, 83, 82, 49]), (.str []), (.str [85, 83, 82, 50]), (.str [80, 73, 80, 69]), (.str [65, 76, 82, 77]), (.str [84, 69, 82, 77]), (.str []), (.str [67, 72, 76, 68]), (.str [67, 79, 78, 84]), (.str [83, 84, 79, 80]), (.str [84, 83, 84, 80])]) 0)) (.t 23), (some (22, true)), none⟩,
  ⟨(some 25), .load false 1 (.t 24), (some (22, true)), none⟩,
  ⟨(some 26), .bin .neq (.t 25) (.c (.str [])), (some (22, true)), none⟩,
  ⟨(some 27), .pick (.t 22) (.t 26) (.c (.bool false)), none, none⟩]
def f81r8 : IC := .reg false [] f81o8 [27, 4]
@[simp] theorem f81r8_run : run tbl fin K f81r8 e H = regK tbl fin K [] f81o8 [27, 4] e H := run_regK _ _ _ _ _ _ _ _ _ rfl
@[simp] def f81o9 : List IOper := [
  ⟨(some 28), .mv (.t 4), none, none⟩,
  ⟨(some 29), .pix 21 1 (.c (.cptr (.agg [(.str []), (.str [72, 85, 80]), (.str [73, 78, 84]), (.str [81, 85, 73, 84]), (.str [84, 84, 73, 78]), (.str [84, 84, 79, 85]), (.str []), (.str []), (.str []), (.str [75, 73, 76, 76]), (.str [85, 83, 82, 49]), (.str []), (.str [85, 83, 82, 50]), (.str [80, 73, 80, 69]), (.str [65, 76, 82, 77]), (.str [84, 69, 82, 77]), (.str []), (.str [67, 72, 76, 68]), (.str [67, 79, 78, 84]), (.str [83, 84, 79, 80]), (.str [84, 83, 84, 80])]) 0)) (.t 28), none, none⟩,
  ⟨(some 30), .load false 1 (.t 29), none, none⟩,
  ⟨(some 2), .mv (.t 30), none, none⟩]
def f81r9 : IC := .reg false [] f81o9 [2]
@[simp] theorem f81r9_run : run tbl fin K f81r9 e H = regK tbl fin K [] f81o9 [2] e H := run_regK _ _ _ _ _ _ _ _ _ rfl
@[simp] def f81o10 : List IOper := [
  ⟨(some 31), .mv (.t 4), none, none⟩,
  ⟨(some 32), .call (.c (.fn 20 [])) [(.t 31)], none, none⟩,
  ⟨(some 33), .bin .add (.c (.str [83, 105, 103, 110, 97, 108, 32])) (.t 32), none, none⟩,
  ⟨(some 2), .mv (.t 33), none, none⟩]
def f81r10 : IC := .reg false [] f81o10 [2]
@[simp] theorem f81r10_run : run tbl fin K f81r10 e H = regK tbl fin K [] f81o10 [2] e H := run_regK _ _ _ _ _ _ _ _ _ rfl
@[simp] def f81o11 : List IOper := [
  ⟨(some 35), .bin .eql (.t 10) (.c (.int .i64 2)), none, none⟩,
  ⟨(some 34), .mv (.t 35), none, none⟩]
def f81r11 : IC := .reg false [] f81o11 [34, 10]
@[simp] theorem f81r11_run : run tbl fin K f81r11 e H = regK tbl fin K [] f81o11 [34, 10] e H := run_regK _ _ _ _ _ _ _ _ _ rfl
@[simp] def f81o12 : List IOper := [
  ⟨(some 2), .mv (.c (.str [83, 116, 111, 112, 112, 101, 100])), none, none⟩]
def f81r12 : IC := .reg false [] f81o12 [2]
@[simp] theorem f81r12_run : run tbl fin K f81r12 e H = regK tbl fin K [] f81o12 [2] e H := run_regK _ _ _ _ _ _ _ _ _ rfl
@[simp] def f81o13 : List IOper := [
  ⟨(some 37), .bin .eql (.t 10) (.c (.int .i64 3)), none, none⟩,
  ⟨(some 36), .mv (.t 37), none, none⟩]
def f81r13 : IC := .reg false [] f81o13 [36]
@[simp] theorem f81r13_run : run tbl fin K f81r13 e H = regK tbl fin K [] f81o13 [36] e H := run_regK _ _ _ _ _ _ _ _ _ rfl
@[simp] def f81o14 : List IOper := [
  ⟨(some 2), .mv (.c (.str [82, 117, 110, 110, 105, 110, 103])), none, none⟩]
def f81r14 : IC := .reg false [] f81o14 [2]
@[simp] theorem f81r14_run : run tbl fin K f81r14 e H = regK tbl fin K [] f81o14 [2] e H := run_regK _ _ _ _ _ _ _ _ _ rfl
@[simp] def f81o15 : List IOper := [
  ⟨(some 2), .mv (.c (.str [])), none, none⟩]
def f81r15 : IC := .reg false [] f81o15 [2]
@[simp] theorem f81r15_run : run tbl fin K f81r15 e H = regK tbl fin K [] f81o15 [2] e H := run_regK _ _ _ _ _ _ _ _ _ rfl
def f81body : IC := (.seq f81r0 (.seq f81r1 (.seq (.seq f81r2 (.block 0 (.seq f81r3 (.cond (.t 11) (.seq (.seq f81r4 (.cond (.t 14) (.seq f81r5 .ret) .skip)) (.seq f81r6 .ret)) (.seq f81r7 (.cond (.t 18) (.seq (.seq f81r8 (.cond (.t 27) (.seq f81r9 .ret) .skip)) (.seq f81r10 .ret)) (.seq f81r11 (.cond (.t 34) (.seq f81r12 .ret) (.seq f81r13 (.cond (.t 36) (.seq f81r14 .ret) .skip)))))))))) (.seq f81r15 .ret))))
def f81 : IFn := ⟨38, 1, [.tmp 2], f81body⟩
/- 82: jobshell/jobshellref22.Describe -/
@[simp] def f82o0 : List IOper := [
  ⟨(some 2), .mv (.c (.str [])), none, none⟩]
def f82r0 : IC := .reg false [] f82o0 [0]
@[simp] theorem f82r0_run : run tbl fin K f82r0 e H = regK tbl fin K [] f82o0 [0] e H := run_regK _ _ _ _ _ _ _ _ _ rfl
@[simp] def f82o1 : List IOper := [
  ⟨(some 6), .mv (.t 0), none, none⟩,
  ⟨(some 7), .call (.c (.fn 66 [])) [(.t 6)], none, none⟩,
  ⟨(some 5), .mv (.t 7), none, none⟩,
  ⟨(some 8), .ext (.t 5) 0, none, none⟩,
  ⟨(some 9), .ext (.t 5) 1, none, none⟩,
  ⟨(some 3), .mv (.t 8), none, none⟩,
  ⟨(some 4), .mv (.t 9), none, none⟩]
def f82r1 : IC := .reg false [] f82o1 [3, 4]
@[simp] theorem f82r1_run : run tbl fin K f82r1 e H = regK tbl fin K [] f82o1 [3, 4] e H := run_regK _ _ _ _ _ _ _ _ _ rfl
@[simp] def f82o2 : List IOper := [
  ⟨(some 10), .mv (.t 3), none, none⟩]
def f82r2 : IC := .reg false [] f82o2 [10, 4]
@[simp] theorem f82r2_run : run tbl fin K f82r2 e H = regK tbl fin K [] f82o2 [10, 4] e H := run_regK _ _ _ _ _ _ _ _ _ rfl
@[simp] def f82o3 : List IOper := [
  ⟨(some 12), .bin .eql (.t 10) (.c (.int .i64 0)), none, none⟩,
  ⟨(some 11), .mv (.t 12), none, none⟩]
def f82r3 : IC := .reg false [] f82o3 [11, 10, 4]
@[simp] theorem f82r3_run : run tbl fin K f82r3 e H = regK tbl fin K [] f82o3 [11, 10, 4] e H := run_regK _ _ _ _ _ _ _ _ _ rfl
@[simp] def f82o4 : List IOper := [
  ⟨(some 13), .mv (.t 4), none, none⟩,
  ⟨(some 14), .bin .eql (.t 13) (.c (.int .i64 0)), none, none⟩]
def f82r4 : IC := .reg false [] f82o4 [14, 4]
@[simp] theorem f82r4_run : run tbl fin K f82r4 e H = regK tbl fin K [] f82o4 [14, 4] e H := run_regK _ _ _ _ _ _ _ _ _ rfl
@[simp] def f82o5 : List IOper := [
  ⟨(some 2), .mv (.c (.str [68, 111, 110, 101])), none, none⟩]
def f82r5 : IC := .reg false [] f82o5 [2]
@[simp] theorem f82r5_run : run tbl fin K f82r5 e H = regK tbl fin K [] f82o5 [2] e H := run_regK _ _ _ _ _ _ _ _ _ rfl
@[simp] def f82o6 : List IOper := [
  ⟨(some 15), .mv (.t 4), none, none⟩,
  ⟨(some 16), .call (.c (.fn 20 [])) [(.t 15)], none, none⟩,
  ⟨(some 17), .bin .add (.c (.str [69, 120, 105, 116, 32])) (.t 16), none, none⟩,
  ⟨(some 2), .mv (.t 17), none, none⟩]
def f82r6 : IC := .reg false [] f82o6 [2]
@[simp] theorem f82r6_run : run tbl fin K f82r6 e H = regK tbl fin K [] f82o6 [2] e H := run_regK _ _ _ _ _ _ _ _ _ rfl
@[simp] def f82o7 : List IOper := [
  ⟨(some 19), .bin .eql (.t 10) (.c (.int .i64 1)), none, none⟩,
  ⟨(some 18), .mv (.t 19), none, none⟩]
def f82r7 : IC := .reg false [] f82o7 [18, 10, 4]
@[simp] theorem f82r7_run : run tbl fin K f82r7 e H = regK tbl fin K [] f82o7 [18, 10, 4] e H := run_regK _ _ _ _ _ _ _ _ _ rfl
@[simp] def f82o8 : List IOper := [
  ⟨(some 20), .mv (.t 4), none, none⟩,
  ⟨(some 21), .call (.c (.fn 90 [])) [(.t 20)], none, none⟩,
  ⟨(some 2), .mv (.t 21), none, none⟩]
def f82r8 : IC := .reg false [] f82o8 [2]
@[simp] theorem f82r8_run : run tbl fin K f82r8 e H = regK tbl fin K [] f82o8 [2] e H := run_regK _ _ _ _ _ _ _ _ _ rfl
@[simp] def f82o9 : List IOper := [
  ⟨(some 23), .bin .eql (.t 10) (.c (.int .i64 2)), none, none⟩,
  ⟨(some 22), .mv (.t 23), none, none⟩]
def f82r9 : IC := .reg false [] f82o9 [22, 10]
@[simp] theorem f82r9_run : run tbl fin K f82r9 e H = regK tbl fin K [] f82o9 [22, 10] e H := run_regK _ _ _ _ _ _ _ _ _ rfl
@[simp] def f82o10 : List IOper := [
  ⟨(some 2), .mv (.c (.str [83, 116, 111, 112, 112, 101, 100])), none, none⟩]
def f82r10 : IC := .reg false [] f82o10 [2]
@[simp] theorem f82r10_run : run tbl fin K f82r10 e H = regK tbl fin K [] f82o10 [2] e H := run_regK _ _ _ _ _ _ _ _ _ rfl
@[simp] def f82o11 : List IOper := [
  ⟨(some 25), .bin .eql (.t 10) (.c (.int .i64 3)), none, none⟩,
  ⟨(some 24), .mv (.t 25), none, none⟩]
def f82r11 : IC := .reg false [] f82o11 [24]
@[simp] theorem f82r11_run : run tbl fin K f82r11 e H = regK tbl fin K [] f82o11 [24] e H := run_regK _ _ _ _ _ _ _ _ _ rfl
@[simp] def f82o12 : List IOper := [
  ⟨(some 2), .mv (.c (.str [82, 117, 110, 110, 105, 110, 103])), none, none⟩]
def f82r12 : IC := .reg false [] f82o12 [2]
@[simp] theorem f82r12_run : run tbl fin K f82r12 e H = regK tbl fin K [] f82o12 [2] e H := run_regK _ _ _ _ _ _ _ _ _ rfl
@[simp] def f82o13 : List IOper := [
  ⟨(some 2), .mv (.c (.str [])), none, none⟩]
def f82r13 : IC := .reg false [] f82o13 [2]
@[simp] theorem f82r13_run : run tbl fin K f82r13 e H = regK tbl fin K [] f82o13 [2] e H := run_regK _ _ _ _ _ _ _ _ _ rfl
def f82body : IC := (.seq f82r0 (.seq f82r1 (.seq (.seq f82r2 (.block 0 (.seq f82r3 (.cond (.t 11) (.seq (.seq f82r4 (.cond (.t 14) (.seq f82r5 .ret) .skip)) (.seq f82r6 .ret)) (.seq f82r7 (.cond (.t 18) (.seq f82r8 .ret) (.seq f82r9 (.cond (.t 22) (.seq f82r10 .ret) (.seq f82r11 (.cond (.t 24) (.seq f82r12 .ret) .skip)))))))))) (.seq f82r13 .ret))))
def f82 : IFn := ⟨26, 1, [.tmp 2], f82body⟩
/- 83: internal/strconv.FormatInt is met by a contract -/
/- 84: jobshell/jobshellref36.ended -/
@[simp] def f84o0 : List IOper := [
  ⟨(some 2), .mv (.c (.bool false)), none, none⟩]
def f84r0 : IC := .reg false [] f84o0 [0]
@[simp] theorem f84r0_run : run tbl fin K f84r0 e H = regK tbl fin K [] f84o0 [0] e H := run_regK _ _ _ _ _ _ _ _ _ rfl
@[simp] def f84o1 : List IOper := [
  ⟨(some 6), .mv (.t 0), none, none⟩,
  ⟨(some 7), .call (.c (.fn 66 [])) [(.t 6)], none, none⟩,
  ⟨(some 5), .mv (.t 7), none, none⟩,
  ⟨(some 8), .ext (.t 5) 0, none, none⟩,
  ⟨(some 9), .ext (.t 5) 1, none, none⟩,
  ⟨(some 3), .mv (.t 8), none, none⟩,
  ⟨(some 4), .mv (.t 9), none, none⟩]
def f84r1 : IC := .reg false [] f84o1 [3]
@[simp] theorem f84r1_run : run tbl fin K f84r1 e H = regK tbl fin K [] f84o1 [3] e H := run_regK _ _ _ _ _ _ _ _ _ rfl
@[simp] def f84o2 : List IOper := [
  ⟨(some 10), .mv (.t 3), none, none⟩,
  ⟨(some 11), .bin .eql (.t 10) (.c (.int .i64 0)), none, none⟩,
  ⟨(some 12), .mv (.t 11), none, none⟩,
  ⟨(some 13), .mv (.t 3), (some (12, false)), none⟩,
  ⟨(some 14), .bin .eql (.t 13) (.c (.int .i64 1)), (some (12, false)), none⟩,
  ⟨(some 15), .pick (.t 12) (.c (.bool true)) (.t 14), none, none⟩,
  ⟨(some 2), .mv (.t 15), none, none⟩]
def f84r2 : IC := .reg false [] f84o2 [2]
@[simp] theorem f84r2_run : run tbl fin K f84r2 e H = regK tbl fin K [] f84o2 [2] e H := run_regK _ _ _ _ _ _ _ _ _ rfl
def f84body : IC := (.seq f84r0 (.seq f84r1 (.seq f84r2 .ret)))
def f84 : IFn := ⟨16, 1, [.tmp 2], f84body⟩
/- 85: jobshell/jobshellref36.stopped -/
@[simp] def f85o0 : List IOper := [
  ⟨(some 2), .mv (.c (.bool false)), none, none⟩]
def f85r0 : IC := .reg false [] f85o0 [0]
@[simp] theorem f85r0_run : run tbl fin K f85r0 e H = regK tbl fin K [] f85o0 [0] e H := run_regK _ _ _ _ _ _ _ _ _ rfl
@[simp] def f85o1 : List IOper := [
  ⟨(some 6), .mv (.t 0), none, none⟩,
  ⟨(some 7), .call (.c (.fn 66 [])) [(.t 6)], none, none⟩,
  ⟨(some 5), .mv (.t 7), none, none⟩,
  ⟨(some 8), .ext (.t 5) 0, none, none⟩,
  ⟨(some 9), .ext (.t 5) 1, none, none⟩,
  ⟨(some 3), .mv (.t 8), none, none⟩,
  ⟨(some 4), .mv (.t 9), none, none⟩]
def f85r1 : IC := .reg false [] f85o1 [3]
@[simp] theorem f85r1_run : run tbl fin K f85r1 e H = regK tbl fin K [] f85o1 [3] e H := run_regK _ _ _ _ _ _ _ _ _ rfl
@[simp] def f85o2 : List IOper := [
  ⟨(some 10), .mv (.t 3), none, none⟩,
  ⟨(some 11), .bin .eql (.t 10) (.c (.int .i64 2)), none, none⟩,
  ⟨(some 2), .mv (.t 11), none, none⟩]
def f85r2 : IC := .reg false [] f85o2 [2]
@[simp] theorem f85r2_run : run tbl fin K f85r2 e H = regK tbl fin K [] f85o2 [2] e H := run_regK _ _ _ _ _ _ _ _ _ rfl
def f85body : IC := (.seq f85r0 (.seq f85r1 (.seq f85r2 .ret)))
def f85 : IFn := ⟨12, 1, [.tmp 2], f85body⟩
/- 86: internal/stringslite.Index is met by a contract -/
/- 87: (*strings.Builder).Grow is met by a contract -/
/- 88: (*strings.Builder).WriteString is met by a contract -/
/- 89: (*strings.Builder).String is met by a contract -/
/- 90: jobshell/jobshellref22.Word -/
@[simp] def f90o0 : List IOper := [
  ⟨(some 2), .mv (.c (.str [])), none, none⟩]
def f90r0 : IC := .reg false [] f90o0 [0]
@[simp] theorem f90r0_run : run tbl fin K f90r0 e H = regK tbl fin K [] f90o0 [0] e H := run_regK _ _ _ _ _ _ _ _ _ rfl
@[simp] def f90o1 : List IOper := [
  ⟨(some 3), .mv (.t 0), none, none⟩]
def f90r1 : IC := .reg false [] f90o1 [3, 0]
@[simp] theorem f90r1_run : run tbl fin K f90r1 e H = regK tbl fin K [] f90o1 [3, 0] e H := run_regK _ _ _ _ _ _ _ _ _ rfl
@[simp] def f90o2 : List IOper := [
  ⟨(some 5), .bin .eql (.t 3) (.c (.int .i64 1)), none, none⟩,
  ⟨(some 4), .mv (.t 5), none, none⟩]
def f90r2 : IC := .reg false [] f90o2 [4, 3, 0]
@[simp] theorem f90r2_run : run tbl fin K f90r2 e H = regK tbl fin K [] f90o2 [4, 3, 0] e H := run_regK _ _ _ _ _ _ _ _ _ rfl
@[simp] def f90o3 : List IOper := [
  ⟨(some 2), .mv (.c (.str [72, 85, 80])), none, none⟩]
def f90r3 : IC := .reg false [] f90o3 [2]
@[simp] theorem f90r3_run : run tbl fin K f90r3 e H = regK tbl fin K [] f90o3 [2] e H := run_regK _ _ _ _ _ _ _ _ _ rfl
@[simp] def f90o4 : List IOper := [
  ⟨(some 7), .bin .eql (.t 3) (.c (.int .i64 2)), none, none⟩,
  ⟨(some 6), .mv (.t 7), none, none⟩]
def f90r4 : IC := .reg false [] f90o4 [6, 0, 3]
@[simp] theorem f90r4_run : run tbl fin K f90r4 e H = regK tbl fin K [] f90o4 [6, 0, 3] e H := run_regK _ _ _ _ _ _ _ _ _ rfl
@[simp] def f90o5 : List IOper := [
  ⟨(some 2), .mv (.c (.str [73, 78, 84])), none, none⟩]
def f90r5 : IC := .reg false [] f90o5 [2]
@[simp] theorem f90r5_run : run tbl fin K f90r5 e H = regK tbl fin K [] f90o5 [2] e H := run_regK _ _ _ _ _ _ _ _ _ rfl
@[simp] def f90o6 : List IOper := [
  ⟨(some 9), .bin .eql (.t 3) (.c (.int .i64 3)), none, none⟩,
  ⟨(some 8), .mv (.t 9), none, none⟩]
def f90r6 : IC := .reg false [] f90o6 [8, 3, 0]
@[simp] theorem f90r6_run : run tbl fin K f90r6 e H = regK tbl fin K [] f90o6 [8, 3, 0] e H := run_regK _ _ _ _ _ _ _ _ _ rfl
@[simp] def f90o7 : List IOper := [
  ⟨(some 2), .mv (.c (.str [81, 85, 73, 84])), none, none⟩]
def f90r7 : IC := .reg false [] f90o7 [2]
@[simp] theorem f90r7_run : run tbl fin K f90r7 e H = regK tbl fin K [] f90o7 [2] e H := run_regK _ _ _ _ _ _ _ _ _ rfl
@[simp] def f90o8 : List IOper := [
  ⟨(some 11), .bin .eql (.t 3) (.c (.int .i64 4)), none, none⟩,
  ⟨(some 10), .mv (.t 11), none, none⟩]
def f90r8 : IC := .reg false [] f90o8 [10, 0, 3]
@[simp] theorem f90r8_run : run tbl fin K f90r8 e H = regK tbl fin K [] f90o8 [10, 0, 3] e H := run_regK _ _ _ _ _ _ _ _ _ rfl
@[simp] def f90o9 : List IOper := [
  ⟨(some 2), .mv (.c (.str [84, 84, 73, 78])), none, none⟩]
def f90r9 : IC := .reg false [] f90o9 [2]
@[simp] theorem f90r9_run : run tbl fin K f90r9 e H = regK tbl fin K [] f90o9 [2] e H := run_regK _ _ _ _ _ _ _ _ _ rfl
@[simp] def f90o10 : List IOper := [
  ⟨(some 13), .bin .eql (.t 3) (.c (.int .i64 5)), none, none⟩,
  ⟨(some 12), .mv (.t 13), none, none⟩]
def f90r10 : IC := .reg false [] f90o10 [12, 3, 0]
@[simp] theorem f90r10_run : run tbl fin K f90r10 e H = regK tbl fin K [] f90o10 [12, 3, 0] e H := run_regK _ _ _ _ _ _ _ _ _ rfl
@[simp] def f90o11 : List IOper := [
  ⟨(some 2), .mv (.c (.str [84, 84, 79, 85])), none, none⟩]
def f90r11 : IC := .reg false [] f90o11 [2]
@[simp] theorem f90r11_run : run tbl fin K f90r11 e H = regK tbl fin K [] f90o11 [2] e H := run_regK _ _ _ _ _ _ _ _ _ rfl
@[simp] def f90o12 : List IOper := [
  ⟨(some 15), .bin .eql (.t 3) (.c (.int .i64 9)), none, none⟩,
  ⟨(some 14), .mv (.t 15), none, none⟩]
def f90r12 : IC := .reg false [] f90o12 [14, 0, 3]
@[simp] theorem f90r12_run : run tbl fin K f90r12 e H = regK tbl fin K [] f90o12 [14, 0, 3] e H := run_regK _ _ _ _ _ _ _ _ _ rfl
@[simp] def f90o13 : List IOper := [
  ⟨(some 2), .mv (.c (.str [75, 73, 76, 76])), none, none⟩]
def f90r13 : IC := .reg false [] f90o13 [2]
@[simp] theorem f90r13_run : run tbl fin K f90r13 e H = regK tbl fin K [] f90o13 [2] e H := run_regK _ _ _ _ _ _ _ _ _ rfl
@[simp] def f90o14 : List IOper := [
  ⟨(some 17), .bin .eql (.t 3) (.c (.int .i64 10)), none, none⟩,
  ⟨(some 16), .mv (.t 17), none, none⟩]
def f90r14 : IC := .reg false [] f90o14 [16, 3, 0]
@[simp] theorem f90r14_run : run tbl fin K f90r14 e H = regK tbl fin K [] f90o14 [16, 3, 0] e H := run_regK _ _ _ _ _ _ _ _ _ rfl
@[simp] def f90o15 : List IOper := [
  ⟨(some 2), .mv (.c (.str [85, 83, 82, 49])), none, none⟩]
def f90r15 : IC := .reg false [] f90o15 [2]
@[simp] theorem f90r15_run : run tbl fin K f90r15 e H = regK tbl fin K [] f90o15 [2] e H := run_regK _ _ _ _ _ _ _ _ _ rfl
@[simp] def f90o16 : List IOper := [
  ⟨(some 19), .bin .eql (.t 3) (.c (.int .i64 12)), none, none⟩,
  ⟨(some 18), .mv (.t 19), none, none⟩]
def f90r16 : IC := .reg false [] f90o16 [18, 0, 3]
@[simp] theorem f90r16_run : run tbl fin K f90r16 e H = regK tbl fin K [] f90o16 [18, 0, 3] e H := run_regK _ _ _ _ _ _ _ _ _ rfl
@[simp] def f90o17 : List IOper := [
  ⟨(some 2), .mv (.c (.str [85, 83, 82, 50])), none, none⟩]
def f90r17 : IC := .reg false [] f90o17 [2]
@[simp] theorem f90r17_run : run tbl fin K f90r17 e H = regK tbl fin K [] f90o17 [2] e H := run_regK _ _ _ _ _ _ _ _ _ rfl
@[simp] def f90o18 : List IOper := [
  ⟨(some 21), .bin .eql (.t 3) (.c (.int .i64 13)), none, none⟩,
  ⟨(some 20), .mv (.t 21), none, none⟩]
def f90r18 : IC := .reg false [] f90o18 [20, 3, 0]
@[simp] theorem f90r18_run : run tbl fin K f90r18 e H = regK tbl fin K [] f90o18 [20, 3, 0] e H := run_regK _ _ _ _ _ _ _ _ _ rfl
@[simp] def f90o19 : List IOper := [
  ⟨(some 2), .mv (.c (.str [80, 73, 80, 69])), none, none⟩]
def f90r19 : IC := .reg false [] f90o19 [2]
@[simp] theorem f90r19_run : run tbl fin K f90r19 e H = regK tbl fin K [] f90o19 [2] e H := run_regK _ _ _ _ _ _ _ _ _ rfl
@[simp] def f90o20 : List IOper := [
  ⟨(some 23), .bin .eql (.t 3) (.c (.int .i64 14)), none, none⟩,
  ⟨(some 22), .mv (.t 23), none, none⟩]
def f90r20 : IC := .reg false [] f90o20 [22, 0, 3]
@[simp] theorem f90r20_run : run tbl fin K f90r20 e H = regK tbl fin K [] f90o20 [22, 0, 3] e H := run_regK _ _ _ _ _ _ _ _ _ rfl
@[simp] def f90o21 : List IOper := [
  ⟨(some 2), .mv (.c (.str [65, 76, 82, 77])), none, none⟩]
def f90r21 : IC := .reg false [] f90o21 [2]
@[simp] theorem f90r21_run : run tbl fin K f90r21 e H = regK tbl fin K [] f90o21 [2] e H := run_regK _ _ _ _ _ _ _ _ _ rfl
@[simp] def f90o22 : List IOper := [
  ⟨(some 25), .bin .eql (.t 3) (.c (.int .i64 15)), none, none⟩,
  ⟨(some 24), .mv (.t 25), none, none⟩]
def f90r22 : IC := .reg false [] f90o22 [24, 3, 0]
@[simp] theorem f90r22_run : run tbl fin K f90r22 e H = regK tbl fin K [] f90o22 [24, 3, 0] e H := run_regK _ _ _ _ _ _ _ _ _ rfl
@[simp] def f90o23 : List IOper := [
  ⟨(some 2), .mv (.c (.str [84, 69, 82, 77])), none, none⟩]
def f90r23 : IC := .reg false [] f90o23 [2]
@[simp] theorem f90r23_run : run tbl fin K f90r23 e H = regK tbl fin K [] f90o23 [2] e H := run_regK _ _ _ _ _ _ _ _ _ rfl
@[simp] def f90o24 : List IOper := [
  ⟨(some 27), .bin .eql (.t 3) (.c (.int .i64 17)), none, none⟩,
  ⟨(some 26), .mv (.t 27), none, none⟩]
def f90r24 : IC := .reg false [] f90o24 [26, 0, 3]
@[simp] theorem f90r24_run : run tbl fin K f90r24 e H = regK tbl fin K [] f90o24 [26, 0, 3] e H := run_regK _ _ _ _ _ _ _ _ _ rfl
@[simp] def f90o25 : List IOper := [
  ⟨(some 2), .mv (.c (.str [67, 72, 76, 68])), none, none⟩]
def f90r25 : IC := .reg false [] f90o25 [2]
@[simp] theorem f90r25_run : run tbl fin K f90r25 e H = regK tbl fin K [] f90o25 [2] e H := run_regK _ _ _ _ _ _ _ _ _ rfl
@[simp] def f90o26 : List IOper := [
  ⟨(some 29), .bin .eql (.t 3) (.c (.int .i64 18)), none, none⟩,
  ⟨(some 28), .mv (.t 29), none, none⟩]
def f90r26 : IC := .reg false [] f90o26 [28, 3, 0]
@[simp] theorem f90r26_run : run tbl fin K f90r26 e H = regK tbl fin K [] f90o26 [28, 3, 0] e H := run_regK _ _ _ _ _ _ _ _ _ rfl
@[simp] def f90o27 : List IOper := [
  ⟨(some 2), .mv (.c (.str [67, 79, 78, 84])), none, none⟩]
def f90r27 : IC := .reg false [] f90o27 [2]
@[simp] theorem f90r27_run : run tbl fin K f90r27 e H = regK tbl fin K [] f90o27 [2] e H := run_regK _ _ _ _ _ _ _ _ _ rfl
@[simp] def f90o28 : List IOper := [
  ⟨(some 31), .bin .eql (.t 3) (.c (.int .i64 19)), none, none⟩,
  ⟨(some 30), .mv (.t 31), none, none⟩]
def f90r28 : IC := .reg false [] f90o28 [30, 0, 3]
@[simp] theorem f90r28_run : run tbl fin K f90r28 e H = regK tbl fin K [] f90o28 [30, 0, 3] e H := run_regK _ _ _ _ _ _ _ _ _ rfl
@[simp] def f90o29 : List IOper := [
  ⟨(some 2), .mv (.c (.str [83, 84, 79, 80])), none, none⟩]
def f90r29 : IC := .reg false [] f90o29 [2]
@[simp] theorem f90r29_run : run tbl fin K f90r29 e H = regK tbl fin K [] f90o29 [2] e H := run_regK _ _ _ _ _ _ _ _ _ rfl
@[simp] def f90o30 : List IOper := [
  ⟨(some 33), .bin .eql (.t 3) (.c (.int .i64 20)), none, none⟩,
  ⟨(some 32), .mv (.t 33), none, none⟩]
def f90r30 : IC := .reg false [] f90o30 [32, 0]
@[simp] theorem f90r30_run : run tbl fin K f90r30 e H = regK tbl fin K [] f90o30 [32, 0] e H := run_regK _ _ _ _ _ _ _ _ _ rfl
@[simp] def f90o31 : List IOper := [
  ⟨(some 2), .mv (.c (.str [84, 83, 84, 80])), none, none⟩]
def f90r31 : IC := .reg false [] f90o31 [2]
@[simp] theorem f90r31_run : run tbl fin K f90r31 e H = regK tbl fin K [] f90o31 [2] e H := run_regK _ _ _ _ _ _ _ _ _ rfl
@[simp] def f90o32 : List IOper := [
  ⟨(some 34), .mv (.t 0), none, none⟩,
  ⟨(some 35), .call (.c (.fn 20 [])) [(.t 34)], none, none⟩,
  ⟨(some 36), .bin .add (.c (.str [83, 105, 103, 110, 97, 108, 32])) (.t 35), none, none⟩,
  ⟨(some 2), .mv (.t 36), none, none⟩]
def f90r32 : IC := .reg false [] f90o32 [2]
@[simp] theorem f90r32_run : run tbl fin K f90r32 e H = regK tbl fin K [] f90o32 [2] e H := run_regK _ _ _ _ _ _ _ _ _ rfl
def f90body : IC := (.seq f90r0 (.seq (.seq f90r1 (.block 0 (.seq f90r2 (.cond (.t 4) (.seq f90r3 .ret) (.seq f90r4 (.cond (.t 6) (.seq f90r5 .ret) (.seq f90r6 (.cond (.t 8) (.seq f90r7 .ret) (.seq f90r8 (.cond (.t 10) (.seq f90r9 .ret) (.seq f90r10 (.cond (.t 12) (.seq f90r11 .ret) (.seq f90r12 (.cond (.t 14) (.seq f90r13 .ret) (.seq f90r14 (.cond (.t 16) (.seq f90r15 .ret) (.seq f90r16 (.cond (.t 18) (.seq f90r17 .ret) (.seq f90r18 (.cond (.t 20) (.seq f90r19 .ret) (.seq f90r20 (.cond (.t 22) (.seq f90r21 .ret) (.seq f90r22 (.cond (.t 24) (.seq f90r23 .ret) (.seq f90r24 (.cond (.t 26) (.seq f90r25 .ret) (.seq f90r26 (.cond (.t 28) (.seq f90r27 .ret) (.seq f90r28 (.cond (.t 30) (.seq f90r29 .ret) (.seq f90r30 (.cond (.t 32) (.seq f90r31 .ret) .skip)))))))))))))))))))))))))))))))) (.seq f90r32 .ret)))
def f90 : IFn := ⟨37, 1, [.tmp 2], f90body⟩
/- 91: internal/strconv.small is met by a contract -/
/- 92: internal/strconv.numDigits is met by a contract -/
/- 93: internal/strconv.formatBase10 is met by a contract -/
/- 94: internal/strconv.formatBits is met by a contract -/
/- 95: internal/stringslite.IndexByte is met by a contract -/
/- 96: internal/bytealg.IndexString is met by a contract -/
/- 97: internal/bytealg.Cutover is met by a contract -/
/- 98: internal/bytealg.IndexRabinKarp[string] is met by a contract -/
/- 99: (*strings.Builder).copyCheck is met by a contract -/
/- 100: (*strings.Builder).grow is met by a contract -/
/- 101: internal/strconv.log10Pow2 is met by a contract -/
/- 102: math/bits.Len64 is met by a contract -/
/- 103: internal/strconv.bool2[int] is met by a contract -/
/- 104: internal/strconv.isPowerOfTwo is met by a contract -/
/- 105: math/bits.TrailingZeros is met by a contract -/
/- 106: internal/bytealg.IndexByteString is met by a contract -/
/- 107: internal/bytealg.hashStr[string] is met by a contract -/
/- 108: internal/abi.NoEscape is met by a contract -/
/- 109: internal/bytealg.MakeNoZero is met by a contract -/
/- 110: math/bits.TrailingZeros32 is met by a contract -/
/- 111: math/bits.TrailingZeros64 is met by a contract -/
def tblF0 : Nat → Option IFn
  | 3 => some f3
  | 4 => some f4
  | 5 => some f5
  | 6 => some f6
  | 7 => some f7
  | 8 => some f8
  | 9 => some f9
  | 10 => some f10
  | 11 => some f11
  | 12 => some f12
  | 13 => some f13
  | 14 => some f14
  | 15 => some f15
  | 16 => some f16
  | 17 => some f17
  | 18 => some f18
  | 19 => some f19
  | 22 => some f22
  | 23 => some f23
  | 24 => some f24
  | 25 => some f25
  | 26 => some f26
  | 27 => some f27
  | 28 => some f28
  | 29 => some f29
  | 30 => some f30
  | 31 => some f31
  | 32 => some f32
  | 33 => some f33
  | 34 => some f34
  | 35 => some f35
  | 36 => some f36
  | 37 => some f37
  | 38 => some f38
  | 39 => some f39
  | 40 => some f40
  | 41 => some f41
  | 42 => some f42
  | 43 => some f43
  | 44 => some f44
  | _ => none
def tblF1 : Nat → Option IFn
  | 45 => some f45
  | 46 => some f46
  | 47 => some f47
  | 48 => some f48
  | 49 => some f49
  | 50 => some f50
  | 51 => some f51
  | 53 => some f53
  | 54 => some f54
  | 55 => some f55
  | 56 => some f56
  | 57 => some f57
  | 58 => some f58
  | 59 => some f59
  | 60 => some f60
  | 62 => some f62
  | 63 => some f63
  | 64 => some f64
  | 66 => some f66
  | 67 => some f67
  | 68 => some f68
  | 69 => some f69
  | 70 => some f70
  | 71 => some f71
  | 72 => some f72
  | 73 => some f73
  | 74 => some f74
  | 75 => some f75
  | 76 => some f76
  | 78 => some f78
  | 79 => some f79
  | 81 => some f81
  | 82 => some f82
  | 84 => some f84
  | 85 => some f85
  | 90 => some f90
  | _ => none
def tblF (f : Nat) : Option IFn := if f < 45 then tblF0 f else tblF1 f
theorem tbl3 : tblF 3 = some f3 := rfl
theorem tbl4 : tblF 4 = some f4 := rfl
theorem tbl5 : tblF 5 = some f5 := rfl
theorem tbl6 : tblF 6 = some f6 := rfl
theorem tbl7 : tblF 7 = some f7 := rfl
theorem tbl8 : tblF 8 = some f8 := rfl
theorem tbl9 : tblF 9 = some f9 := rfl
theorem tbl10 : tblF 10 = some f10 := rfl
theorem tbl11 : tblF 11 = some f11 := rfl
theorem tbl12 : tblF 12 = some f12 := rfl
theorem tbl13 : tblF 13 = some f13 := rfl
theorem tbl14 : tblF 14 = some f14 := rfl
theorem tbl15 : tblF 15 = some f15 := rfl
theorem tbl16 : tblF 16 = some f16 := rfl
theorem tbl17 : tblF 17 = some f17 := rfl
theorem tbl18 : tblF 18 = some f18 := rfl
theorem tbl19 : tblF 19 = some f19 := rfl
theorem tbl22 : tblF 22 = some f22 := rfl
theorem tbl23 : tblF 23 = some f23 := rfl
theorem tbl24 : tblF 24 = some f24 := rfl
theorem tbl25 : tblF 25 = some f25 := rfl
theorem tbl26 : tblF 26 = some f26 := rfl
theorem tbl27 : tblF 27 = some f27 := rfl
theorem tbl28 : tblF 28 = some f28 := rfl
theorem tbl29 : tblF 29 = some f29 := rfl
theorem tbl30 : tblF 30 = some f30 := rfl
theorem tbl31 : tblF 31 = some f31 := rfl
theorem tbl32 : tblF 32 = some f32 := rfl
theorem tbl33 : tblF 33 = some f33 := rfl
theorem tbl34 : tblF 34 = some f34 := rfl
theorem tbl35 : tblF 35 = some f35 := rfl
theorem tbl36 : tblF 36 = some f36 := rfl
theorem tbl37 : tblF 37 = some f37 := rfl
theorem tbl38 : tblF 38 = some f38 := rfl
theorem tbl39 : tblF 39 = some f39 := rfl
theorem tbl40 : tblF 40 = some f40 := rfl
theorem tbl41 : tblF 41 = some f41 := rfl
theorem tbl42 : tblF 42 = some f42 := rfl
theorem tbl43 : tblF 43 = some f43 := rfl
theorem tbl44 : tblF 44 = some f44 := rfl
theorem tbl45 : tblF 45 = some f45 := rfl
theorem tbl46 : tblF 46 = some f46 := rfl
theorem tbl47 : tblF 47 = some f47 := rfl
theorem tbl48 : tblF 48 = some f48 := rfl
theorem tbl49 : tblF 49 = some f49 := rfl
theorem tbl50 : tblF 50 = some f50 := rfl
theorem tbl51 : tblF 51 = some f51 := rfl
theorem tbl53 : tblF 53 = some f53 := rfl
theorem tbl54 : tblF 54 = some f54 := rfl
theorem tbl55 : tblF 55 = some f55 := rfl
theorem tbl56 : tblF 56 = some f56 := rfl
theorem tbl57 : tblF 57 = some f57 := rfl
theorem tbl58 : tblF 58 = some f58 := rfl
theorem tbl59 : tblF 59 = some f59 := rfl
theorem tbl60 : tblF 60 = some f60 := rfl
theorem tbl62 : tblF 62 = some f62 := rfl
theorem tbl63 : tblF 63 = some f63 := rfl
theorem tbl64 : tblF 64 = some f64 := rfl
theorem tbl66 : tblF 66 = some f66 := rfl
theorem tbl67 : tblF 67 = some f67 := rfl
theorem tbl68 : tblF 68 = some f68 := rfl
theorem tbl69 : tblF 69 = some f69 := rfl
theorem tbl70 : tblF 70 = some f70 := rfl
theorem tbl71 : tblF 71 = some f71 := rfl
theorem tbl72 : tblF 72 = some f72 := rfl
theorem tbl73 : tblF 73 = some f73 := rfl
theorem tbl74 : tblF 74 = some f74 := rfl
theorem tbl75 : tblF 75 = some f75 := rfl
theorem tbl76 : tblF 76 = some f76 := rfl
theorem tbl78 : tblF 78 = some f78 := rfl
theorem tbl79 : tblF 79 = some f79 := rfl
theorem tbl81 : tblF 81 = some f81 := rfl
theorem tbl82 : tblF 82 = some f82 := rfl
theorem tbl84 : tblF 84 = some f84 := rfl
theorem tbl85 : tblF 85 = some f85 := rfl
theorem tbl90 : tblF 90 = some f90 := rfl
theorem ok3 (m : Int) : cFn Tryd.prog (cfg m) 3 = some f3 := by kernel_rfl
theorem ok4 (m : Int) : cFn Tryd.prog (cfg m) 4 = some f4 := by kernel_rfl
theorem ok5 (m : Int) : cFn Tryd.prog (cfg m) 5 = some f5 := by kernel_rfl
theorem ok6 (m : Int) : cFn Tryd.prog (cfg m) 6 = some f6 := by kernel_rfl
theorem ok7 (m : Int) : cFn Tryd.prog (cfg m) 7 = some f7 := by kernel_rfl
theorem ok8 (m : Int) : cFn Tryd.prog (cfg m) 8 = some f8 := by kernel_rfl
theorem ok9 (m : Int) : cFn Tryd.prog (cfg m) 9 = some f9 := by kernel_rfl
theorem ok10 (m : Int) : cFn Tryd.prog (cfg m) 10 = some f10 := by kernel_rfl
theorem ok11 (m : Int) : cFn Tryd.prog (cfg m) 11 = some f11 := by kernel_rfl
theorem ok12 (m : Int) : cFn Tryd.prog (cfg m) 12 = some f12 := by kernel_rfl
theorem ok13 (m : Int) : cFn Tryd.prog (cfg m) 13 = some f13 := by kernel_rfl
theorem ok14 (m : Int) : cFn Tryd.prog (cfg m) 14 = some f14 := by kernel_rfl
theorem ok15 (m : Int) : cFn Tryd.prog (cfg m) 15 = some f15 := by kernel_rfl
theorem ok16 (m : Int) : cFn Tryd.prog (cfg m) 16 = some f16 := by kernel_rfl
theorem ok17 (m : Int) : cFn Tryd.prog (cfg m) 17 = some f17 := by kernel_rfl
theorem ok18 (m : Int) : cFn Tryd.prog (cfg m) 18 = some f18 := by kernel_rfl
theorem ok19 (m : Int) : cFn Tryd.prog (cfg m) 19 = some f19 := by kernel_rfl
theorem ok22 (m : Int) : cFn Tryd.prog (cfg m) 22 = some f22 := by kernel_rfl
theorem ok23 (m : Int) : cFn Tryd.prog (cfg m) 23 = some f23 := by kernel_rfl
theorem ok24 (m : Int) : cFn Tryd.prog (cfg m) 24 = some f24 := by kernel_rfl
theorem ok25 (m : Int) : cFn Tryd.prog (cfg m) 25 = some f25 := by kernel_rfl
theorem ok26 (m : Int) : cFn Tryd.prog (cfg m) 26 = some f26 := by kernel_rfl
theorem ok27 (m : Int) : cFn Tryd.prog (cfg m) 27 = some f27 := by kernel_rfl
theorem ok28 (m : Int) : cFn Tryd.prog (cfg m) 28 = some f28 := by kernel_rfl
theorem ok29 (m : Int) : cFn Tryd.prog (cfg m) 29 = some f29 := by kernel_rfl
theorem ok30 (m : Int) : cFn Tryd.prog (cfg m) 30 = some f30 := by kernel_rfl
theorem ok31 (m : Int) : cFn Tryd.prog (cfg m) 31 = some f31 := by kernel_rfl
theorem ok32 (m : Int) : cFn Tryd.prog (cfg m) 32 = some f32 := by kernel_rfl
theorem ok33 (m : Int) : cFn Tryd.prog (cfg m) 33 = some f33 := by kernel_rfl
theorem ok34 (m : Int) : cFn Tryd.prog (cfg m) 34 = some f34 := by kernel_rfl
theorem ok35 (m : Int) : cFn Tryd.prog (cfg m) 35 = some f35 := by kernel_rfl
theorem ok36 (m : Int) : cFn Tryd.prog (cfg m) 36 = some f36 := by kernel_rfl
theorem ok37 (m : Int) : cFn Tryd.prog (cfg m) 37 = some f37 := by kernel_rfl
theorem ok38 (m : Int) : cFn Tryd.prog (cfg m) 38 = some f38 := by kernel_rfl
theorem ok39 (m : Int) : cFn Tryd.prog (cfg m) 39 = some f39 := by kernel_rfl
theorem ok40 (m : Int) : cFn Tryd.prog (cfg m) 40 = some f40 := by kernel_rfl
theorem ok41 (m : Int) : cFn Tryd.prog (cfg m) 41 = some f41 := by kernel_rfl
theorem ok42 (m : Int) : cFn Tryd.prog (cfg m) 42 = some f42 := by kernel_rfl
theorem ok43 (m : Int) : cFn Tryd.prog (cfg m) 43 = some f43 := by kernel_rfl
theorem ok44 (m : Int) : cFn Tryd.prog (cfg m) 44 = some f44 := by kernel_rfl
theorem ok45 (m : Int) : cFn Tryd.prog (cfg m) 45 = some f45 := by kernel_rfl
theorem ok46 (m : Int) : cFn Tryd.prog (cfg m) 46 = some f46 := by kernel_rfl
theorem ok47 (m : Int) : cFn Tryd.prog (cfg m) 47 = some f47 := by kernel_rfl
theorem ok48 (m : Int) : cFn Tryd.prog (cfg m) 48 = some f48 := by kernel_rfl
theorem ok49 (m : Int) : cFn Tryd.prog (cfg m) 49 = some f49 := by kernel_rfl
theorem ok50 (m : Int) : cFn Tryd.prog (cfg m) 50 = some f50 := by kernel_rfl
theorem ok51 (m : Int) : cFn Tryd.prog (cfg m) 51 = some f51 := by kernel_rfl
theorem ok53 (m : Int) : cFn Tryd.prog (cfg m) 53 = some f53 := by kernel_rfl
theorem ok54 (m : Int) : cFn Tryd.prog (cfg m) 54 = some f54 := by kernel_rfl
theorem ok55 (m : Int) : cFn Tryd.prog (cfg m) 55 = some f55 := by kernel_rfl
theorem ok56 (m : Int) : cFn Tryd.prog (cfg m) 56 = some f56 := by kernel_rfl
theorem ok57 (m : Int) : cFn Tryd.prog (cfg m) 57 = some f57 := by kernel_rfl
theorem ok58 (m : Int) : cFn Tryd.prog (cfg m) 58 = some f58 := by kernel_rfl
theorem ok59 (m : Int) : cFn Tryd.prog (cfg m) 59 = some f59 := by kernel_rfl
theorem ok60 (m : Int) : cFn Tryd.prog (cfg m) 60 = some f60 := by kernel_rfl
theorem ok62 (m : Int) : cFn Tryd.prog (cfg m) 62 = some f62 := by kernel_rfl
theorem ok63 (m : Int) : cFn Tryd.prog (cfg m) 63 = some f63 := by kernel_rfl
theorem ok64 (m : Int) : cFn Tryd.prog (cfg m) 64 = some f64 := by kernel_rfl
theorem ok66 (m : Int) : cFn Tryd.prog (cfg m) 66 = some f66 := by kernel_rfl
theorem ok67 (m : Int) : cFn Tryd.prog (cfg m) 67 = some f67 := by kernel_rfl
theorem ok68 (m : Int) : cFn Tryd.prog (cfg m) 68 = some f68 := by kernel_rfl
theorem ok69 (m : Int) : cFn Tryd.prog (cfg m) 69 = some f69 := by kernel_rfl
theorem ok70 (m : Int) : cFn Tryd.prog (cfg m) 70 = some f70 := by kernel_rfl
theorem ok71 (m : Int) : cFn Tryd.prog (cfg m) 71 = some f71 := by kernel_rfl
theorem ok72 (m : Int) : cFn Tryd.prog (cfg m) 72 = some f72 := by kernel_rfl
theorem ok73 (m : Int) : cFn Tryd.prog (cfg m) 73 = some f73 := by kernel_rfl
theorem ok74 (m : Int) : cFn Tryd.prog (cfg m) 74 = some f74 := by kernel_rfl
theorem ok75 (m : Int) : cFn Tryd.prog (cfg m) 75 = some f75 := by kernel_rfl
theorem ok76 (m : Int) : cFn Tryd.prog (cfg m) 76 = some f76 := by kernel_rfl
theorem ok78 (m : Int) : cFn Tryd.prog (cfg m) 78 = some f78 := by kernel_rfl
theorem ok79 (m : Int) : cFn Tryd.prog (cfg m) 79 = some f79 := by kernel_rfl
theorem ok81 (m : Int) : cFn Tryd.prog (cfg m) 81 = some f81 := by kernel_rfl
theorem ok82 (m : Int) : cFn Tryd.prog (cfg m) 82 = some f82 := by kernel_rfl
theorem ok84 (m : Int) : cFn Tryd.prog (cfg m) 84 = some f84 := by kernel_rfl
theorem ok85 (m : Int) : cFn Tryd.prog (cfg m) 85 = some f85 := by kernel_rfl
theorem ok90 (m : Int) : cFn Tryd.prog (cfg m) 90 = some f90 := by kernel_rfl
theorem tbl_ok0 (m : Int) (f : Nat) (fn : IFn) (h : tblF0 f = some fn) : cFn Tryd.prog (cfg m) f = some fn := by
  unfold tblF0 at h
  split at h
  · exact (congrArg (fun x => cFn Tryd.prog (cfg m) 3 = x) h).mp (ok3 m)
  · exact (congrArg (fun x => cFn Tryd.prog (cfg m) 4 = x) h).mp (ok4 m)
  · exact (congrArg (fun x => cFn Tryd.prog (cfg m) 5 = x) h).mp (ok5 m)
  · exact (congrArg (fun x => cFn Tryd.prog (cfg m) 6 = x) h).mp (ok6 m)
  · exact (congrArg (fun x => cFn Tryd.prog (cfg m) 7 = x) h).mp (ok7 m)
  · exact (congrArg (fun x => cFn Tryd.prog (cfg m) 8 = x) h).mp (ok8 m)
  · exact (congrArg (fun x => cFn Tryd.prog (cfg m) 9 = x) h).mp (ok9 m)
  · exact (congrArg (fun x => cFn Tryd.prog (cfg m) 10 = x) h).mp (ok10 m)
  · exact (congrArg (fun x => cFn Tryd.prog (cfg m) 11 = x) h).mp (ok11 m)
  · exact (congrArg (fun x => cFn Tryd.prog (cfg m) 12 = x) h).mp (ok12 m)
  · exact (congrArg (fun x => cFn Tryd.prog (cfg m) 13 = x) h).mp (ok13 m)
  · exact (congrArg (fun x => cFn Tryd.prog (cfg m) 14 = x) h).mp (ok14 m)
  · exact (congrArg (fun x => cFn Tryd.prog (cfg m) 15 = x) h).mp (ok15 m)
  · exact (congrArg (fun x => cFn Tryd.prog (cfg m) 16 = x) h).mp (ok16 m)
  · exact (congrArg (fun x => cFn Tryd.prog (cfg m) 17 = x) h).mp (ok17 m)
  · exact (congrArg (fun x => cFn Tryd.prog (cfg m) 18 = x) h).mp (ok18 m)
  · exact (congrArg (fun x => cFn Tryd.prog (cfg m) 19 = x) h).mp (ok19 m)
  · exact (congrArg (fun x => cFn Tryd.prog (cfg m) 22 = x) h).mp (ok22 m)
  · exact (congrArg (fun x => cFn Tryd.prog (cfg m) 23 = x) h).mp (ok23 m)
  · exact (congrArg (fun x => cFn Tryd.prog (cfg m) 24 = x) h).mp (ok24 m)
  · exact (congrArg (fun x => cFn Tryd.prog (cfg m) 25 = x) h).mp (ok25 m)
  · exact (congrArg (fun x => cFn Tryd.prog (cfg m) 26 = x) h).mp (ok26 m)
  · exact (congrArg (fun x => cFn Tryd.prog (cfg m) 27 = x) h).mp (ok27 m)
  · exact (congrArg (fun x => cFn Tryd.prog (cfg m) 28 = x) h).mp (ok28 m)
  · exact (congrArg (fun x => cFn Tryd.prog (cfg m) 29 = x) h).mp (ok29 m)
  · exact (congrArg (fun x => cFn Tryd.prog (cfg m) 30 = x) h).mp (ok30 m)
  · exact (congrArg (fun x => cFn Tryd.prog (cfg m) 31 = x) h).mp (ok31 m)
  · exact (congrArg (fun x => cFn Tryd.prog (cfg m) 32 = x) h).mp (ok32 m)
  · exact (congrArg (fun x => cFn Tryd.prog (cfg m) 33 = x) h).mp (ok33 m)
  · exact (congrArg (fun x => cFn Tryd.prog (cfg m) 34 = x) h).mp (ok34 m)
  · exact (congrArg (fun x => cFn Tryd.prog (cfg m) 35 = x) h).mp (ok35 m)
  · exact (congrArg (fun x => cFn Tryd.prog (cfg m) 36 = x) h).mp (ok36 m)
  · exact (congrArg (fun x => cFn Tryd.prog (cfg m) 37 = x) h).mp (ok37 m)
  · exact (congrArg (fun x => cFn Tryd.prog (cfg m) 38 = x) h).mp (ok38 m)
  · exact (congrArg (fun x => cFn Tryd.prog (cfg m) 39 = x) h).mp (ok39 m)
  · exact (congrArg (fun x => cFn Tryd.prog (cfg m) 40 = x) h).mp (ok40 m)
  · exact (congrArg (fun x => cFn Tryd.prog (cfg m) 41 = x) h).mp (ok41 m)
  · exact (congrArg (fun x => cFn Tryd.prog (cfg m) 42 = x) h).mp (ok42 m)
  · exact (congrArg (fun x => cFn Tryd.prog (cfg m) 43 = x) h).mp (ok43 m)
  · exact (congrArg (fun x => cFn Tryd.prog (cfg m) 44 = x) h).mp (ok44 m)
  · cases h
theorem tbl_ok1 (m : Int) (f : Nat) (fn : IFn) (h : tblF1 f = some fn) : cFn Tryd.prog (cfg m) f = some fn := by
  unfold tblF1 at h
  split at h
  · exact (congrArg (fun x => cFn Tryd.prog (cfg m) 45 = x) h).mp (ok45 m)
  · exact (congrArg (fun x => cFn Tryd.prog (cfg m) 46 = x) h).mp (ok46 m)
  · exact (congrArg (fun x => cFn Tryd.prog (cfg m) 47 = x) h).mp (ok47 m)
  · exact (congrArg (fun x => cFn Tryd.prog (cfg m) 48 = x) h).mp (ok48 m)
  · exact (congrArg (fun x => cFn Tryd.prog (cfg m) 49 = x) h).mp (ok49 m)
  · exact (congrArg (fun x => cFn Tryd.prog (cfg m) 50 = x) h).mp (ok50 m)
  · exact (congrArg (fun x => cFn Tryd.prog (cfg m) 51 = x) h).mp (ok51 m)
  · exact (congrArg (fun x => cFn Tryd.prog (cfg m) 53 = x) h).mp (ok53 m)
  · exact (congrArg (fun x => cFn Tryd.prog (cfg m) 54 = x) h).mp (ok54 m)
  · exact (congrArg (fun x => cFn Tryd.prog (cfg m) 55 = x) h).mp (ok55 m)
  · exact (congrArg (fun x => cFn Tryd.prog (cfg m) 56 = x) h).mp (ok56 m)
  · exact (congrArg (fun x => cFn Tryd.prog (cfg m) 57 = x) h).mp (ok57 m)
  · exact (congrArg (fun x => cFn Tryd.prog (cfg m) 58 = x) h).mp (ok58 m)
  · exact (congrArg (fun x => cFn Tryd.prog (cfg m) 59 = x) h).mp (ok59 m)
  · exact (congrArg (fun x => cFn Tryd.prog (cfg m) 60 = x) h).mp (ok60 m)
  · exact (congrArg (fun x => cFn Tryd.prog (cfg m) 62 = x) h).mp (ok62 m)
  · exact (congrArg (fun x => cFn Tryd.prog (cfg m) 63 = x) h).mp (ok63 m)
  · exact (congrArg (fun x => cFn Tryd.prog (cfg m) 64 = x) h).mp (ok64 m)
  · exact (congrArg (fun x => cFn Tryd.prog (cfg m) 66 = x) h).mp (ok66 m)
  · exact (congrArg (fun x => cFn Tryd.prog (cfg m) 67 = x) h).mp (ok67 m)
  · exact (congrArg (fun x => cFn Tryd.prog (cfg m) 68 = x) h).mp (ok68 m)
  · exact (congrArg (fun x => cFn Tryd.prog (cfg m) 69 = x) h).mp (ok69 m)
  · exact (congrArg (fun x => cFn Tryd.prog (cfg m) 70 = x) h).mp (ok70 m)
  · exact (congrArg (fun x => cFn Tryd.prog (cfg m) 71 = x) h).mp (ok71 m)
  · exact (congrArg (fun x => cFn Tryd.prog (cfg m) 72 = x) h).mp (ok72 m)
  · exact (congrArg (fun x => cFn Tryd.prog (cfg m) 73 = x) h).mp (ok73 m)
  · exact (congrArg (fun x => cFn Tryd.prog (cfg m) 74 = x) h).mp (ok74 m)
  · exact (congrArg (fun x => cFn Tryd.prog (cfg m) 75 = x) h).mp (ok75 m)
  · exact (congrArg (fun x => cFn Tryd.prog (cfg m) 76 = x) h).mp (ok76 m)
  · exact (congrArg (fun x => cFn Tryd.prog (cfg m) 78 = x) h).mp (ok78 m)
  · exact (congrArg (fun x => cFn Tryd.prog (cfg m) 79 = x) h).mp (ok79 m)
  · exact (congrArg (fun x => cFn Tryd.prog (cfg m) 81 = x) h).mp (ok81 m)
  · exact (congrArg (fun x => cFn Tryd.prog (cfg m) 82 = x) h).mp (ok82 m)
  · exact (congrArg (fun x => cFn Tryd.prog (cfg m) 84 = x) h).mp (ok84 m)
  · exact (congrArg (fun x => cFn Tryd.prog (cfg m) 85 = x) h).mp (ok85 m)
  · exact (congrArg (fun x => cFn Tryd.prog (cfg m) 90 = x) h).mp (ok90 m)
  · cases h
theorem tbl_ok (m : Int) (f : Nat) (fn : IFn) (h : tblF f = some fn) : cFn Tryd.prog (cfg m) f = some fn := by
  unfold tblF at h
  split at h
  · exact tbl_ok0 m f fn h
  exact tbl_ok1 m f fn h
end Go.Proofs.YtpphfbfmoipoaaaDoor
