/- The interpreter's form of this seat's functions (printed by a program out of the translation), and that the translation gives just this. No condition. -/
import Derived.Test.YtmlmijmnekdkpaaDoorTbl1
namespace Go.Proofs.YtmlmijmnekdkpaaDoor
open Go.PI
variable (tbl : TB) (fin : Fin) (K : List Fr) (e : Env) (H : List AO)
/- 75: slices.Index[[]bool,bool] -/
@[simp] def f75o0 : List IOper := [
  ⟨(some 4), .mv (.c (.int .i64 0)), none, none⟩]
def f75r0 : IC := .reg false [] f75o0 [1, 0]
@[simp] theorem f75r0_run : run tbl fin K f75r0 e H = regK tbl fin K [] f75o0 [1, 0] e H := run_regK _ _ _ _ _ _ _ _ _ rfl
@[simp] def f75o1 : List IOper := [
  ⟨(some 6), .mv (.t 0), none, none⟩,
  ⟨(some 7), .len (.t 6), none, none⟩,
  ⟨(some 8), .mv (.c (.int .i64 0)), none, none⟩]
def f75r1 : IC := .reg false [] f75o1 [7, 1, 0, 8]
@[simp] theorem f75r1_run : run tbl fin K f75r1 e H = regK tbl fin K [] f75o1 [7, 1, 0, 8] e H := run_regK _ _ _ _ _ _ _ _ _ rfl
@[simp] def f75o2 : List IOper := [
  ⟨(some 9), .bin .lss (.t 8) (.t 7), none, none⟩]
def f75r2 : IC := .reg false [] f75o2 [9, 0, 1, 7, 8]
@[simp] theorem f75r2_run : run tbl fin K f75r2 e H = regK tbl fin K [] f75o2 [9, 0, 1, 7, 8] e H := run_regK _ _ _ _ _ _ _ _ _ rfl
@[simp] def f75o3 : List IOper := [
  ⟨(some 10), .mv (.t 8), none, none⟩,
  ⟨(some 5), .mv (.t 10), none, none⟩]
def f75r3 : IC := .reg false [] f75o3 [0, 1, 7, 8, 5]
@[simp] theorem f75r3_run : run tbl fin K f75r3 e H = regK tbl fin K [] f75o3 [0, 1, 7, 8, 5] e H := run_regK _ _ _ _ _ _ _ _ _ rfl
@[simp] def f75o4 : List IOper := [
  ⟨(some 11), .mv (.t 1), none, none⟩,
  ⟨(some 12), .mv (.t 0), none, none⟩,
  ⟨(some 13), .mv (.t 5), none, none⟩,
  ⟨(some 14), .idx 1 (.t 12) (.t 13), none, none⟩,
  ⟨(some 15), .load false 1 (.t 14), none, none⟩,
  ⟨(some 16), .beq false (.t 11) (.t 15), none, none⟩]
def f75r4 : IC := .reg false [] f75o4 [16, 0, 1, 7, 8, 5]
@[simp] theorem f75r4_run : run tbl fin K f75r4 e H = regK tbl fin K [] f75o4 [16, 0, 1, 7, 8, 5] e H := run_regK _ _ _ _ _ _ _ _ _ rfl
@[simp] def f75o5 : List IOper := [
  ⟨(some 17), .mv (.t 5), none, none⟩,
  ⟨(some 4), .mv (.t 17), none, none⟩]
def f75r5 : IC := .reg false [] f75o5 [4]
@[simp] theorem f75r5_run : run tbl fin K f75r5 e H = regK tbl fin K [] f75o5 [4] e H := run_regK _ _ _ _ _ _ _ _ _ rfl
@[simp] def f75o6 : List IOper := [
  ⟨(some 18), .bin .add (.t 8) (.c (.int .i64 1)), none, none⟩,
  ⟨(some 8), .mv (.t 18), none, none⟩]
def f75r6 : IC := .reg false [] f75o6 [7, 1, 0, 8]
@[simp] theorem f75r6_run : run tbl fin K f75r6 e H = regK tbl fin K [] f75o6 [7, 1, 0, 8] e H := run_regK _ _ _ _ _ _ _ _ _ rfl
def f75b7 : IC := (.seq f75r2 (.seq (.cond (.t 9) .skip (.exit 0)) (.seq (.block 1 (.seq f75r3 (.seq f75r4 (.cond (.t 16) (.seq f75r5 .ret) .skip)))) f75r6)))
theorem f75b7_eq : f75b7 = (.seq f75r2 (.seq (.cond (.t 9) .skip (.exit 0)) (.seq (.block 1 (.seq f75r3 (.seq f75r4 (.cond (.t 16) (.seq f75r5 .ret) .skip)))) f75r6))) := rfl
@[simp] def f75o8 : List IOper := [
  ⟨(some 4), .mv (.c (.int .i64 (-1))), none, none⟩]
def f75r8 : IC := .reg false [] f75o8 [4]
@[simp] theorem f75r8_run : run tbl fin K f75r8 e H = regK tbl fin K [] f75o8 [4] e H := run_regK _ _ _ _ _ _ _ _ _ rfl
def f75body : IC := (.seq f75r0 (.seq (.seq f75r1 (.block 0 (.loop [7, 1, 0, 8] f75b7))) (.seq f75r8 .ret)))
def f75 : IFn := ⟨19, 2, [.tmp 4], f75body⟩
/- 76: jobshell/pattern.fits -/
@[simp] def f76o0 : List IOper := [
  ⟨(some 2), .box 52 4 (.t 0), none, none⟩,
  ⟨(some 4), .mv (.c (.bool false)), none, none⟩]
def f76r0 : IC := .reg false [] f76o0 [2, 1]
@[simp] theorem f76r0_run : run tbl fin K f76r0 e H = regK tbl fin K [] f76o0 [2, 1] e H := run_regK _ _ _ _ _ _ _ _ _ rfl
@[simp] def f76o1 : List IOper := [
  ⟨(some 8), .fld 0 (.t 2), none, none⟩,
  ⟨(some 9), .load false 1 (.t 8), none, none⟩]
def f76r1 : IC := .reg false [] f76o1 [9, 2, 1]
@[simp] theorem f76r1_run : run tbl fin K f76r1 e H = regK tbl fin K [] f76o1 [9, 2, 1] e H := run_regK _ _ _ _ _ _ _ _ _ rfl
@[simp] def f76o2 : List IOper := [
  ⟨(some 11), .bin .eql (.t 9) (.c (.int .i64 1)), none, none⟩,
  ⟨(some 10), .mv (.t 11), none, none⟩]
def f76r2 : IC := .reg false [] f76o2 [10, 9, 2, 1]
@[simp] theorem f76r2_run : run tbl fin K f76r2 e H = regK tbl fin K [] f76o2 [10, 9, 2, 1] e H := run_regK _ _ _ _ _ _ _ _ _ rfl
@[simp] def f76o3 : List IOper := [
  ⟨(some 12), .fld 1 (.t 2), none, none⟩,
  ⟨(some 13), .load false 1 (.t 12), none, none⟩,
  ⟨(some 14), .sidx (.t 13) (.c (.int .i64 0)), none, none⟩,
  ⟨(some 15), .mv (.t 1), none, none⟩,
  ⟨(some 16), .bin .eql (.t 14) (.t 15), none, none⟩,
  ⟨(some 4), .mv (.t 16), none, none⟩]
def f76r3 : IC := .reg false [] f76o3 [4]
@[simp] theorem f76r3_run : run tbl fin K f76r3 e H = regK tbl fin K [] f76o3 [4] e H := run_regK _ _ _ _ _ _ _ _ _ rfl
@[simp] def f76o4 : List IOper := [
  ⟨(some 18), .bin .eql (.t 9) (.c (.int .i64 4)), none, none⟩,
  ⟨(some 17), .mv (.t 18), none, none⟩]
def f76r4 : IC := .reg false [] f76o4 [17, 2, 1]
@[simp] theorem f76r4_run : run tbl fin K f76r4 e H = regK tbl fin K [] f76o4 [17, 2, 1] e H := run_regK _ _ _ _ _ _ _ _ _ rfl
@[simp] def f76o5 : List IOper := [
  ⟨(some 5), .mv (.c (.bool false)), none, none⟩]
def f76r5 : IC := .reg false [] f76o5 [5, 2, 1]
@[simp] theorem f76r5_run : run tbl fin K f76r5 e H = regK tbl fin K [] f76o5 [5, 2, 1] e H := run_regK _ _ _ _ _ _ _ _ _ rfl
@[simp] def f76o6 : List IOper := [
  ⟨(some 19), .fld 3 (.t 2), none, none⟩,
  ⟨(some 20), .load false 1 (.t 19), none, none⟩,
  ⟨(some 21), .len (.t 20), none, none⟩,
  ⟨(some 22), .mv (.c (.int .i64 0)), none, none⟩]
def f76r6 : IC := .reg false [] f76o6 [5, 22, 21, 2, 20, 1]
@[simp] theorem f76r6_run : run tbl fin K f76r6 e H = regK tbl fin K [] f76o6 [5, 22, 21, 2, 20, 1] e H := run_regK _ _ _ _ _ _ _ _ _ rfl
@[simp] def f76o7 : List IOper := [
  ⟨(some 23), .bin .lss (.t 22) (.t 21), none, none⟩]
def f76r7 : IC := .reg false [] f76o7 [23, 5, 22, 21, 2, 20, 1]
@[simp] theorem f76r7_run : run tbl fin K f76r7 e H = regK tbl fin K [] f76o7 [23, 5, 22, 21, 2, 20, 1] e H := run_regK _ _ _ _ _ _ _ _ _ rfl
@[simp] def f76o8 : List IOper := [
  ⟨(some 24), .idx 2 (.t 20) (.t 22), none, none⟩,
  ⟨(some 25), .load true 2 (.t 24), none, none⟩,
  ⟨(some 7), .new 98 2 (.agg [(.int .u8 0), (.int .u8 0)]), none, none⟩,
  ⟨none, .store 2 (.t 7) (.t 25), none, none⟩]
def f76r8 : IC := .reg false [] f76o8 [5, 7, 22, 21, 2, 20, 1]
@[simp] theorem f76r8_run : run tbl fin K f76r8 e H = regK tbl fin K [] f76o8 [5, 7, 22, 21, 2, 20, 1] e H := run_regK _ _ _ _ _ _ _ _ _ rfl
@[simp] def f76o9 : List IOper := [
  ⟨(some 26), .mv (.t 5), none, none⟩,
  ⟨(some 27), .mv (.t 26), none, none⟩,
  ⟨(some 28), .fld 0 (.t 7), (some (27, false)), none⟩,
  ⟨(some 29), .load false 1 (.t 28), (some (27, false)), none⟩,
  ⟨(some 30), .mv (.t 1), (some (27, false)), none⟩,
  ⟨(some 31), .bin .leq (.t 29) (.t 30), (some (27, false)), none⟩,
  ⟨(some 32), .mv (.t 31), (some (27, false)), none⟩,
  ⟨(some 33), .mv (.t 1), (some (32, true)), some [7, 33, 32, 27, 22, 21, 2, 20, 1]⟩,
  ⟨(some 34), .fld 1 (.t 7), (some (32, true)), none⟩,
  ⟨(some 35), .load false 1 (.t 34), (some (32, true)), none⟩,
  ⟨(some 36), .bin .leq (.t 33) (.t 35), (some (32, true)), none⟩,
  ⟨(some 37), .pick (.t 32) (.t 36) (.c (.bool false)), (some (27, false)), none⟩,
  ⟨(some 38), .pick (.t 27) (.c (.bool true)) (.t 37), none, none⟩,
  ⟨(some 5), .mv (.t 38), none, none⟩]
def f76r9 : IC := .reg false [] f76o9 [22, 5, 21, 2, 20, 1]
@[simp] theorem f76r9_run : run tbl fin K f76r9 e H = regK tbl fin K [] f76o9 [22, 5, 21, 2, 20, 1] e H := run_regK _ _ _ _ _ _ _ _ _ rfl
@[simp] def f76o10 : List IOper := [
  ⟨(some 39), .bin .add (.t 22) (.c (.int .i64 1)), none, none⟩,
  ⟨(some 22), .mv (.t 39), none, none⟩]
def f76r10 : IC := .reg false [] f76o10 [5, 22, 21, 2, 20, 1]
@[simp] theorem f76r10_run : run tbl fin K f76r10 e H = regK tbl fin K [] f76o10 [5, 22, 21, 2, 20, 1] e H := run_regK _ _ _ _ _ _ _ _ _ rfl
def f76b11 : IC := (.seq f76r7 (.seq (.cond (.t 23) .skip (.exit 1)) (.seq (.block 2 (.seq f76r8 f76r9)) f76r10)))
theorem f76b11_eq : f76b11 = (.seq f76r7 (.seq (.cond (.t 23) .skip (.exit 1)) (.seq (.block 2 (.seq f76r8 f76r9)) f76r10))) := rfl
@[simp] def f76o12 : List IOper := [
  ⟨(some 40), .mv (.t 5), none, none⟩,
  ⟨(some 41), .fld 2 (.t 2), none, none⟩,
  ⟨(some 42), .load false 1 (.t 41), none, none⟩,
  ⟨(some 43), .beq true (.t 40) (.t 42), none, none⟩,
  ⟨(some 4), .mv (.t 43), none, none⟩]
def f76r12 : IC := .reg false [] f76o12 [4]
@[simp] theorem f76r12_run : run tbl fin K f76r12 e H = regK tbl fin K [] f76o12 [4] e H := run_regK _ _ _ _ _ _ _ _ _ rfl
@[simp] def f76o13 : List IOper := [
  ⟨(some 4), .mv (.c (.bool true)), none, none⟩]
def f76r13 : IC := .reg false [] f76o13 [4]
@[simp] theorem f76r13_run : run tbl fin K f76r13 e H = regK tbl fin K [] f76o13 [4] e H := run_regK _ _ _ _ _ _ _ _ _ rfl
def f76body : IC := (.seq f76r0 (.seq (.seq f76r1 (.block 0 (.seq f76r2 (.cond (.t 10) (.seq f76r3 .ret) (.seq f76r4 (.cond (.t 17) (.seq f76r5 (.seq (.seq f76r6 (.block 1 (.loop [5, 22, 21, 2, 20, 1] f76b11))) (.seq f76r12 .ret))) .skip)))))) (.seq f76r13 .ret)))
def f76 : IFn := ⟨44, 2, [.tmp 4], f76body⟩
/- 77: jobshell/jobshellref04.in -/
@[simp] def f77o0 : List IOper := [
  ⟨(some 4), .mv (.c (.bool false)), none, none⟩]
def f77r0 : IC := .reg false [] f77o0 [1, 0]
@[simp] theorem f77r0_run : run tbl fin K f77r0 e H = regK tbl fin K [] f77o0 [1, 0] e H := run_regK _ _ _ _ _ _ _ _ _ rfl
@[simp] def f77o1 : List IOper := [
  ⟨(some 5), .mv (.c (.int .i64 0)), none, none⟩]
def f77r1 : IC := .reg false [] f77o1 [1, 0, 5]
@[simp] theorem f77r1_run : run tbl fin K f77r1 e H = regK tbl fin K [] f77o1 [1, 0, 5] e H := run_regK _ _ _ _ _ _ _ _ _ rfl
@[simp] def f77o2 : List IOper := [
  ⟨(some 6), .mv (.t 5), none, none⟩,
  ⟨(some 7), .mv (.t 0), none, none⟩,
  ⟨(some 8), .len (.t 7), none, none⟩,
  ⟨(some 9), .bin .lss (.t 6) (.t 8), none, none⟩]
def f77r2 : IC := .reg false [] f77o2 [9, 0, 1, 5]
@[simp] theorem f77r2_run : run tbl fin K f77r2 e H = regK tbl fin K [] f77o2 [9, 0, 1, 5] e H := run_regK _ _ _ _ _ _ _ _ _ rfl
@[simp] def f77o3 : List IOper := [
  ⟨(some 12), .mv (.t 0), none, none⟩,
  ⟨(some 13), .mv (.t 5), none, none⟩,
  ⟨(some 14), .idx 2 (.t 12) (.t 13), none, none⟩,
  ⟨(some 15), .fld 0 (.t 14), none, none⟩,
  ⟨(some 16), .load false 1 (.t 15), none, none⟩,
  ⟨(some 17), .mv (.t 1), none, none⟩,
  ⟨(some 18), .bin .leq (.t 16) (.t 17), none, none⟩,
  ⟨(some 19), .mv (.t 18), none, some [19, 0, 1, 5]⟩,
  ⟨(some 20), .mv (.t 1), (some (19, true)), none⟩,
  ⟨(some 21), .mv (.t 0), (some (19, true)), none⟩,
  ⟨(some 22), .mv (.t 5), (some (19, true)), none⟩,
  ⟨(some 23), .idx 2 (.t 21) (.t 22), (some (19, true)), none⟩,
  ⟨(some 24), .fld 1 (.t 23), (some (19, true)), none⟩,
  ⟨(some 25), .load false 1 (.t 24), (some (19, true)), none⟩,
  ⟨(some 26), .bin .leq (.t 20) (.t 25), (some (19, true)), none⟩,
  ⟨(some 27), .pick (.t 19) (.t 26) (.c (.bool false)), none, none⟩]
def f77r3 : IC := .reg false [] f77o3 [27, 0, 1, 5]
@[simp] theorem f77r3_run : run tbl fin K f77r3 e H = regK tbl fin K [] f77o3 [27, 0, 1, 5] e H := run_regK _ _ _ _ _ _ _ _ _ rfl
@[simp] def f77o4 : List IOper := [
  ⟨(some 4), .mv (.c (.bool true)), none, none⟩]
def f77r4 : IC := .reg false [] f77o4 [4]
@[simp] theorem f77r4_run : run tbl fin K f77r4 e H = regK tbl fin K [] f77o4 [4] e H := run_regK _ _ _ _ _ _ _ _ _ rfl
@[simp] def f77o5 : List IOper := [
  ⟨(some 10), .mv (.t 5), none, none⟩,
  ⟨(some 11), .bin .add (.t 10) (.c (.int .i64 1)), none, none⟩,
  ⟨(some 5), .mv (.t 11), none, none⟩]
def f77r5 : IC := .reg false [] f77o5 [1, 0, 5]
@[simp] theorem f77r5_run : run tbl fin K f77r5 e H = regK tbl fin K [] f77o5 [1, 0, 5] e H := run_regK _ _ _ _ _ _ _ _ _ rfl
def f77b6 : IC := (.seq (.seq f77r2 (.cond (.t 9) .skip (.exit 0))) (.seq (.block 1 (.seq f77r3 (.cond (.t 27) (.seq f77r4 .ret) .skip))) f77r5))
theorem f77b6_eq : f77b6 = (.seq (.seq f77r2 (.cond (.t 9) .skip (.exit 0))) (.seq (.block 1 (.seq f77r3 (.cond (.t 27) (.seq f77r4 .ret) .skip))) f77r5)) := rfl
@[simp] def f77o7 : List IOper := [
  ⟨(some 4), .mv (.c (.bool false)), none, none⟩]
def f77r7 : IC := .reg false [] f77o7 [4]
@[simp] theorem f77r7_run : run tbl fin K f77r7 e H = regK tbl fin K [] f77o7 [4] e H := run_regK _ _ _ _ _ _ _ _ _ rfl
def f77body : IC := (.seq f77r0 (.seq (.seq f77r1 (.block 0 (.loop [1, 0, 5] f77b6))) (.seq f77r7 .ret)))
def f77 : IFn := ⟨28, 2, [.tmp 4], f77body⟩
def tblF0 : Nat → Option IFn
  | 3 => some f3
  | 4 => some f4
  | 5 => some f5
  | 6 => some f6
  | 7 => some f7
  | 8 => some f8
  | 9 => some f9
  | 10 => some f10
  | 11 => some f11
  | 12 => some f12
  | 13 => some f13
  | 14 => some f14
  | 15 => some f15
  | 16 => some f16
  | 17 => some f17
  | 18 => some f18
  | 19 => some f19
  | 20 => some f20
  | 21 => some f21
  | 22 => some f22
  | 23 => some f23
  | 24 => some f24
  | 25 => some f25
  | 26 => some f26
  | 27 => some f27
  | 28 => some f28
  | 29 => some f29
  | 30 => some f30
  | 31 => some f31
  | 32 => some f32
  | 33 => some f33
  | 34 => some f34
  | 35 => some f35
  | 36 => some f36
  | 37 => some f37
  | 40 => some f40
  | 42 => some f42
  | 43 => some f43
  | 44 => some f44
  | 45 => some f45
  | _ => none
def tblF1 : Nat → Option IFn
  | 46 => some f46
  | 47 => some f47
  | 48 => some f48
  | 49 => some f49
  | 50 => some f50
  | 51 => some f51
  | 53 => some f53
  | 54 => some f54
  | 55 => some f55
  | 56 => some f56
  | 62 => some f62
  | 63 => some f63
  | 64 => some f64
  | 65 => some f65
  | 66 => some f66
  | 67 => some f67
  | 68 => some f68
  | 69 => some f69
  | 70 => some f70
  | 75 => some f75
  | 76 => some f76
  | 77 => some f77
  | _ => none
def tblF (f : Nat) : Option IFn := if f < 46 then tblF0 f else tblF1 f
theorem tbl3 : tblF 3 = some f3 := rfl
theorem tbl4 : tblF 4 = some f4 := rfl
theorem tbl5 : tblF 5 = some f5 := rfl
theorem tbl6 : tblF 6 = some f6 := rfl
theorem tbl7 : tblF 7 = some f7 := rfl
theorem tbl8 : tblF 8 = some f8 := rfl
theorem tbl9 : tblF 9 = some f9 := rfl
theorem tbl10 : tblF 10 = some f10 := rfl
theorem tbl11 : tblF 11 = some f11 := rfl
theorem tbl12 : tblF 12 = some f12 := rfl
theorem tbl13 : tblF 13 = some f13 := rfl
theorem tbl14 : tblF 14 = some f14 := rfl
theorem tbl15 : tblF 15 = some f15 := rfl
theorem tbl16 : tblF 16 = some f16 := rfl
theorem tbl17 : tblF 17 = some f17 := rfl
theorem tbl18 : tblF 18 = some f18 := rfl
theorem tbl19 : tblF 19 = some f19 := rfl
theorem tbl20 : tblF 20 = some f20 := rfl
theorem tbl21 : tblF 21 = some f21 := rfl
theorem tbl22 : tblF 22 = some f22 := rfl
theorem tbl23 : tblF 23 = some f23 := rfl
theorem tbl24 : tblF 24 = some f24 := rfl
theorem tbl25 : tblF 25 = some f25 := rfl
theorem tbl26 : tblF 26 = some f26 := rfl
theorem tbl27 : tblF 27 = some f27 := rfl
theorem tbl28 : tblF 28 = some f28 := rfl
theorem tbl29 : tblF 29 = some f29 := rfl
theorem tbl30 : tblF 30 = some f30 := rfl
theorem tbl31 : tblF 31 = some f31 := rfl
theorem tbl32 : tblF 32 = some f32 := rfl
theorem tbl33 : tblF 33 = some f33 := rfl
theorem tbl34 : tblF 34 = some f34 := rfl
theorem tbl35 : tblF 35 = some f35 := rfl
theorem tbl36 : tblF 36 = some f36 := rfl
theorem tbl37 : tblF 37 = some f37 := rfl
theorem tbl40 : tblF 40 = some f40 := rfl
theorem tbl42 : tblF 42 = some f42 := rfl
theorem tbl43 : tblF 43 = some f43 := rfl
theorem tbl44 : tblF 44 = some f44 := rfl
theorem tbl45 : tblF 45 = some f45 := rfl
theorem tbl46 : tblF 46 = some f46 := rfl
theorem tbl47 : tblF 47 = some f47 := rfl
theorem tbl48 : tblF 48 = some f48 := rfl
theorem tbl49 : tblF 49 = some f49 := rfl
theorem tbl50 : tblF 50 = some f50 := rfl
theorem tbl51 : tblF 51 = some f51 := rfl
theorem tbl53 : tblF 53 = some f53 := rfl
theorem tbl54 : tblF 54 = some f54 := rfl
theorem tbl55 : tblF 55 = some f55 := rfl
theorem tbl56 : tblF 56 = some f56 := rfl
theorem tbl62 : tblF 62 = some f62 := rfl
theorem tbl63 : tblF 63 = some f63 := rfl
theorem tbl64 : tblF 64 = some f64 := rfl
theorem tbl65 : tblF 65 = some f65 := rfl
theorem tbl66 : tblF 66 = some f66 := rfl
theorem tbl67 : tblF 67 = some f67 := rfl
theorem tbl68 : tblF 68 = some f68 := rfl
theorem tbl69 : tblF 69 = some f69 := rfl
theorem tbl70 : tblF 70 = some f70 := rfl
theorem tbl75 : tblF 75 = some f75 := rfl
theorem tbl76 : tblF 76 = some f76 := rfl
theorem tbl77 : tblF 77 = some f77 := rfl
theorem ok3 : cFn Tryd.prog cfg 3 = some f3 := by kernel_rfl
theorem ok4 : cFn Tryd.prog cfg 4 = some f4 := by kernel_rfl
theorem ok5 : cFn Tryd.prog cfg 5 = some f5 := by kernel_rfl
theorem ok6 : cFn Tryd.prog cfg 6 = some f6 := by kernel_rfl
theorem ok7 : cFn Tryd.prog cfg 7 = some f7 := by kernel_rfl
theorem ok8 : cFn Tryd.prog cfg 8 = some f8 := by kernel_rfl
theorem ok9 : cFn Tryd.prog cfg 9 = some f9 := by kernel_rfl
theorem ok10 : cFn Tryd.prog cfg 10 = some f10 := by kernel_rfl
theorem ok11 : cFn Tryd.prog cfg 11 = some f11 := by kernel_rfl
theorem ok12 : cFn Tryd.prog cfg 12 = some f12 := by kernel_rfl
theorem ok13 : cFn Tryd.prog cfg 13 = some f13 := by kernel_rfl
theorem ok14 : cFn Tryd.prog cfg 14 = some f14 := by kernel_rfl
theorem ok15 : cFn Tryd.prog cfg 15 = some f15 := by kernel_rfl
theorem ok16 : cFn Tryd.prog cfg 16 = some f16 := by kernel_rfl
theorem ok17 : cFn Tryd.prog cfg 17 = some f17 := by kernel_rfl
theorem ok18 : cFn Tryd.prog cfg 18 = some f18 := by kernel_rfl
theorem ok19 : cFn Tryd.prog cfg 19 = some f19 := by kernel_rfl
theorem ok20 : cFn Tryd.prog cfg 20 = some f20 := by kernel_rfl
theorem ok21 : cFn Tryd.prog cfg 21 = some f21 := by kernel_rfl
theorem ok22 : cFn Tryd.prog cfg 22 = some f22 := by kernel_rfl
theorem ok23 : cFn Tryd.prog cfg 23 = some f23 := by kernel_rfl
theorem ok24 : cFn Tryd.prog cfg 24 = some f24 := by kernel_rfl
theorem ok25 : cFn Tryd.prog cfg 25 = some f25 := by kernel_rfl
theorem ok26 : cFn Tryd.prog cfg 26 = some f26 := by kernel_rfl
theorem ok27 : cFn Tryd.prog cfg 27 = some f27 := by kernel_rfl
theorem ok28 : cFn Tryd.prog cfg 28 = some f28 := by kernel_rfl
theorem ok29 : cFn Tryd.prog cfg 29 = some f29 := by kernel_rfl
theorem ok30 : cFn Tryd.prog cfg 30 = some f30 := by kernel_rfl
theorem ok31 : cFn Tryd.prog cfg 31 = some f31 := by kernel_rfl
theorem ok32 : cFn Tryd.prog cfg 32 = some f32 := by kernel_rfl
theorem ok33 : cFn Tryd.prog cfg 33 = some f33 := by kernel_rfl
theorem ok34 : cFn Tryd.prog cfg 34 = some f34 := by kernel_rfl
theorem ok35 : cFn Tryd.prog cfg 35 = some f35 := by kernel_rfl
theorem ok36 : cFn Tryd.prog cfg 36 = some f36 := by kernel_rfl
theorem ok37 : cFn Tryd.prog cfg 37 = some f37 := by kernel_rfl
theorem ok40 : cFn Tryd.prog cfg 40 = some f40 := by kernel_rfl
theorem ok42 : cFn Tryd.prog cfg 42 = some f42 := by kernel_rfl
theorem ok43 : cFn Tryd.prog cfg 43 = some f43 := by kernel_rfl
theorem ok44 : cFn Tryd.prog cfg 44 = some f44 := by kernel_rfl
theorem ok45 : cFn Tryd.prog cfg 45 = some f45 := by kernel_rfl
theorem ok46 : cFn Tryd.prog cfg 46 = some f46 := by kernel_rfl
theorem ok47 : cFn Tryd.prog cfg 47 = some f47 := by kernel_rfl
theorem ok48 : cFn Tryd.prog cfg 48 = some f48 := by kernel_rfl
theorem ok49 : cFn Tryd.prog cfg 49 = some f49 := by kernel_rfl
theorem ok50 : cFn Tryd.prog cfg 50 = some f50 := by kernel_rfl
theorem ok51 : cFn Tryd.prog cfg 51 = some f51 := by kernel_rfl
theorem ok53 : cFn Tryd.prog cfg 53 = some f53 := by kernel_rfl
theorem ok54 : cFn Tryd.prog cfg 54 = some f54 := by kernel_rfl
theorem ok55 : cFn Tryd.prog cfg 55 = some f55 := by kernel_rfl
theorem ok56 : cFn Tryd.prog cfg 56 = some f56 := by kernel_rfl
theorem ok62 : cFn Tryd.prog cfg 62 = some f62 := by kernel_rfl
theorem ok63 : cFn Tryd.prog cfg 63 = some f63 := by kernel_rfl
theorem ok64 : cFn Tryd.prog cfg 64 = some f64 := by kernel_rfl
theorem ok65 : cFn Tryd.prog cfg 65 = some f65 := by kernel_rfl
theorem ok66 : cFn Tryd.prog cfg 66 = some f66 := by kernel_rfl
theorem ok67 : cFn Tryd.prog cfg 67 = some f67 := by kernel_rfl
theorem ok68 : cFn Tryd.prog cfg 68 = some f68 := by kernel_rfl
theorem ok69 : cFn Tryd.prog cfg 69 = some f69 := by kernel_rfl
theorem ok70 : cFn Tryd.prog cfg 70 = some f70 := by kernel_rfl
theorem ok75 : cFn Tryd.prog cfg 75 = some f75 := by kernel_rfl
theorem ok76 : cFn Tryd.prog cfg 76 = some f76 := by kernel_rfl
theorem ok77 : cFn Tryd.prog cfg 77 = some f77 := by kernel_rfl
theorem tbl_ok0 (f : Nat) (fn : IFn) (h : tblF0 f = some fn) : cFn Tryd.prog cfg f = some fn := by
  unfold tblF0 at h
  split at h
  · exact (congrArg (fun x => cFn Tryd.prog cfg 3 = x) h).mp ok3
  · exact (congrArg (fun x => cFn Tryd.prog cfg 4 = x) h).mp ok4
  · exact (congrArg (fun x => cFn Tryd.prog cfg 5 = x) h).mp ok5
  · exact (congrArg (fun x => cFn Tryd.prog cfg 6 = x) h).mp ok6
  · exact (congrArg (fun x => cFn Tryd.prog cfg 7 = x) h).mp ok7
  · exact (congrArg (fun x => cFn Tryd.prog cfg 8 = x) h).mp ok8
  · exact (congrArg (fun x => cFn Tryd.prog cfg 9 = x) h).mp ok9
  · exact (congrArg (fun x => cFn Tryd.prog cfg 10 = x) h).mp ok10
  · exact (congrArg (fun x => cFn Tryd.prog cfg 11 = x) h).mp ok11
  · exact (congrArg (fun x => cFn Tryd.prog cfg 12 = x) h).mp ok12
  · exact (congrArg (fun x => cFn Tryd.prog cfg 13 = x) h).mp ok13
  · exact (congrArg (fun x => cFn Tryd.prog cfg 14 = x) h).mp ok14
  · exact (congrArg (fun x => cFn Tryd.prog cfg 15 = x) h).mp ok15
  · exact (congrArg (fun x => cFn Tryd.prog cfg 16 = x) h).mp ok16
  · exact (congrArg (fun x => cFn Tryd.prog cfg 17 = x) h).mp ok17
  · exact (congrArg (fun x => cFn Tryd.prog cfg 18 = x) h).mp ok18
  · exact (congrArg (fun x => cFn Tryd.prog cfg 19 = x) h).mp ok19
  · exact (congrArg (fun x => cFn Tryd.prog cfg 20 = x) h).mp ok20
  · exact (congrArg (fun x => cFn Tryd.prog cfg 21 = x) h).mp ok21
  · exact (congrArg (fun x => cFn Tryd.prog cfg 22 = x) h).mp ok22
  · exact (congrArg (fun x => cFn Tryd.prog cfg 23 = x) h).mp ok23
  · exact (congrArg (fun x => cFn Tryd.prog cfg 24 = x) h).mp ok24
  · exact (congrArg (fun x => cFn Tryd.prog cfg 25 = x) h).mp ok25
  · exact (congrArg (fun x => cFn Tryd.prog cfg 26 = x) h).mp ok26
  · exact (congrArg (fun x => cFn Tryd.prog cfg 27 = x) h).mp ok27
  · exact (congrArg (fun x => cFn Tryd.prog cfg 28 = x) h).mp ok28
  · exact (congrArg (fun x => cFn Tryd.prog cfg 29 = x) h).mp ok29
  · exact (congrArg (fun x => cFn Tryd.prog cfg 30 = x) h).mp ok30
  · exact (congrArg (fun x => cFn Tryd.prog cfg 31 = x) h).mp ok31
  · exact (congrArg (fun x => cFn Tryd.prog cfg 32 = x) h).mp ok32
  · exact (congrArg (fun x => cFn Tryd.prog cfg 33 = x) h).mp ok33
  · exact (congrArg (fun x => cFn Tryd.prog cfg 34 = x) h).mp ok34
  · exact (congrArg (fun x => cFn Tryd.prog cfg 35 = x) h).mp ok35
  · exact (congrArg (fun x => cFn Tryd.prog cfg 36 = x) h).mp ok36
  · exact (congrArg (fun x => cFn Tryd.prog cfg 37 = x) h).mp ok37
  · exact (congrArg (fun x => cFn Tryd.prog cfg 40 = x) h).mp ok40
  · exact (congrArg (fun x => cFn Tryd.prog cfg 42 = x) h).mp ok42
  · exact (congrArg (fun x => cFn Tryd.prog cfg 43 = x) h).mp ok43
  · exact (congrArg (fun x => cFn Tryd.prog cfg 44 = x) h).mp ok44
  · exact (congrArg (fun x => cFn Tryd.prog cfg 45 = x) h).mp ok45
  · cases h
theorem tbl_ok1 (f : Nat) (fn : IFn) (h : tblF1 f = some fn) : cFn Tryd.prog cfg f = some fn := by
  unfold tblF1 at h
  split at h
  · exact (congrArg (fun x => cFn Tryd.prog cfg 46 = x) h).mp ok46
  · exact (congrArg (fun x => cFn Tryd.prog cfg 47 = x) h).mp ok47
  · exact (congrArg (fun x => cFn Tryd.prog cfg 48 = x) h).mp ok48
  · exact (congrArg (fun x => cFn Tryd.prog cfg 49 = x) h).mp ok49
  · exact (congrArg (fun x => cFn Tryd.prog cfg 50 = x) h).mp ok50
  · exact (congrArg (fun x => cFn Tryd.prog cfg 51 = x) h).mp ok51
  · exact (congrArg (fun x => cFn Tryd.prog cfg 53 = x) h).mp ok53
  · exact (congrArg (fun x => cFn Tryd.prog cfg 54 = x) h).mp ok54
  · exact (congrArg (fun x => cFn Tryd.prog cfg 55 = x) h).mp ok55
  · exact (congrArg (fun x => cFn Tryd.prog cfg 56 = x) h).mp ok56
  · exact (congrArg (fun x => cFn Tryd.prog cfg 62 = x) h).mp ok62
  · exact (congrArg (fun x => cFn Tryd.prog cfg 63 = x) h).mp ok63
  · exact (congrArg (fun x => cFn Tryd.prog cfg 64 = x) h).mp ok64
  · exact (congrArg (fun x => cFn Tryd.prog cfg 65 = x) h).mp ok65
  · exact (congrArg (fun x => cFn Tryd.prog cfg 66 = x) h).mp ok66
  · exact (congrArg (fun x => cFn Tryd.prog cfg 67 = x) h).mp ok67
  · exact (congrArg (fun x => cFn Tryd.prog cfg 68 = x) h).mp ok68
  · exact (congrArg (fun x => cFn Tryd.prog cfg 69 = x) h).mp ok69
  · exact (congrArg (fun x => cFn Tryd.prog cfg 70 = x) h).mp ok70
  · exact (congrArg (fun x => cFn Tryd.prog cfg 75 = x) h).mp ok75
  · exact (congrArg (fun x => cFn Tryd.prog cfg 76 = x) h).mp ok76
  · exact (congrArg (fun x => cFn Tryd.prog cfg 77 = x) h).mp ok77
  · cases h
theorem tbl_ok (f : Nat) (fn : IFn) (h : tblF f = some fn) : cFn Tryd.prog cfg f = some fn := by
  unfold tblF at h
  split at h
  · exact tbl_ok0 f fn h
  exact tbl_ok1 f fn h
end Go.Proofs.YtmlmijmnekdkpaaDoor
