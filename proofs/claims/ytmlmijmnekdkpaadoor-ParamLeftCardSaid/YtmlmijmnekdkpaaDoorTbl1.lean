/- The interpreter's form of this seat's functions (printed by a program out of the translation), and that the translation gives just this. No condition. -/
import Derived.Test.YtmlmijmnekdkpaaDoorPi24
import Derived.Test.YtmlmijmnekdkpaaDoorProg
import Derived.KernelRfl
namespace Go.Proofs.YtmlmijmnekdkpaaDoor
open Go.PI
variable (tbl : TB) (fin : Fin) (K : List Fr) (e : Env) (H : List AO)
def gl2 : AV := (.agg [(.int .u8 0), (.int .u8 1), (.int .u8 28), (.int .u8 2), (.int .u8 29), (.int .u8 14), (.int .u8 24), (.int .u8 3), (.int .u8 30), (.int .u8 22), (.int .u8 20), (.int .u8 15), (.int .u8 25), (.int .u8 17), (.int .u8 4), (.int .u8 8), (.int .u8 31), (.int .u8 27), (.int .u8 13), (.int .u8 23), (.int .u8 21), (.int .u8 19), (.int .u8 16), (.int .u8 7), (.int .u8 26), (.int .u8 12), (.int .u8 18), (.int .u8 6), (.int .u8 11), (.int .u8 5), (.int .u8 10), (.int .u8 9)])
def gl3 : AV := (.agg [(.int .u8 0), (.int .u8 1), (.int .u8 56), (.int .u8 2), (.int .u8 57), (.int .u8 49), (.int .u8 28), (.int .u8 3), (.int .u8 61), (.int .u8 58), (.int .u8 42), (.int .u8 50), (.int .u8 38), (.int .u8 29), (.int .u8 17), (.int .u8 4), (.int .u8 62), (.int .u8 47), (.int .u8 59), (.int .u8 36), (.int .u8 45), (.int .u8 43), (.int .u8 51), (.int .u8 22), (.int .u8 53), (.int .u8 39), (.int .u8 33), (.int .u8 30), (.int .u8 24), (.int .u8 18), (.int .u8 12), (.int .u8 5), (.int .u8 63), (.int .u8 55), (.int .u8 48), (.int .u8 27), (.int .u8 60), (.int .u8 41), (.int .u8 37), (.int .u8 16), (.int .u8 46), (.int .u8 35), (.int .u8 44), (.int .u8 21), (.int .u8 52), (.int .u8 32), (.int .u8 23), (.int .u8 11), (.int .u8 54), (.int .u8 26), (.int .u8 40), (.int .u8 15), (.int .u8 34), (.int .u8 20), (.int .u8 31), (.int .u8 10), (.int .u8 25), (.int .u8 14), (.int .u8 19), (.int .u8 9), (.int .u8 13), (.int .u8 8), (.int .u8 7), (.int .u8 6)])
def gl1 : AV := (.agg [(.int .u64 1), (.int .u64 10), (.int .u64 100), (.int .u64 1000), (.int .u64 10000), (.int .u64 100000), (.int .u64 1000000), (.int .u64 10000000), (.int .u64 100000000), (.int .u64 1000000000), (.int .u64 10000000000), (.int .u64 100000000000), (.int .u64 1000000000000), (.int .u64 10000000000000), (.int .u64 100000000000000), (.int .u64 1000000000000000), (.int .u64 10000000000000000), (.int .u64 100000000000000000), (.int .u64 1000000000000000000), (.int .u64 10000000000000000000)])
def gl : Nat → Option AV
  | 2 => some gl2
  | 3 => some gl3
  | 1 => some gl1
  | _ => none
def cfg : Cfg := ⟨gl, fun f => [51, 52, 62, 66].contains f⟩
/- 3: jobshell/jobshelllaw17.ParamValues -/
@[simp] def f3o0 : List IOper := [
  ⟨(some 2), .box 30 15 (.t 0), none, none⟩,
  ⟨(some 4), .mv (.c (.bool false)), none, none⟩]
def f3r0 : IC := .reg false [] f3o0 [1, 2]
@[simp] theorem f3r0_run : run tbl fin K f3r0 e H = regK tbl fin K [] f3o0 [1, 2] e H := run_regK _ _ _ _ _ _ _ _ _ rfl
@[simp] def f3o1 : List IOper := [
  ⟨(some 9), .load true 15 (.t 2), none, none⟩,
  ⟨(some 10), .call (.c (.fn 9 [])) [(.t 9)], none, none⟩,
  ⟨(some 11), .un .not (.t 10), none, none⟩,
  ⟨(some 12), .mv (.t 11), none, none⟩,
  ⟨(some 13), .mv (.t 1), (some (12, false)), none⟩,
  ⟨(some 14), .slen (.t 13), (some (12, false)), none⟩,
  ⟨(some 15), .bin .gtr (.t 14) (.c (.int .i64 60)), (some (12, false)), none⟩,
  ⟨(some 16), .pick (.t 12) (.c (.bool true)) (.t 15), none, none⟩]
def f3r1 : IC := .reg false [] f3o1 [16, 1, 2]
@[simp] theorem f3r1_run : run tbl fin K f3r1 e H = regK tbl fin K [] f3o1 [16, 1, 2] e H := run_regK _ _ _ _ _ _ _ _ _ rfl
@[simp] def f3o2 : List IOper := [
  ⟨(some 17), .call (.c (.fn 10 [])) [], none, none⟩,
  ⟨(some 4), .mv (.t 17), none, none⟩]
def f3r2 : IC := .reg false [] f3o2 [4]
@[simp] theorem f3r2_run : run tbl fin K f3r2 e H = regK tbl fin K [] f3o2 [4] e H := run_regK _ _ _ _ _ _ _ _ _ rfl
@[simp] def f3o3 : List IOper := [
  ⟨(some 19), .load true 15 (.t 2), none, none⟩,
  ⟨(some 20), .mv (.t 1), none, none⟩,
  ⟨(some 21), .call (.c (.fn 11 [])) [(.t 19), (.t 20)], none, none⟩,
  ⟨(some 18), .mv (.t 21), none, none⟩,
  ⟨(some 22), .ext (.t 18) 0, none, none⟩,
  ⟨(some 23), .ext (.t 18) 1, none, none⟩,
  ⟨(some 5), .mv (.t 22), none, none⟩,
  ⟨(some 6), .mv (.t 23), none, none⟩]
def f3r3 : IC := .reg false [] f3o3 [2, 5, 6, 1]
@[simp] theorem f3r3_run : run tbl fin K f3r3 e H = regK tbl fin K [] f3o3 [2, 5, 6, 1] e H := run_regK _ _ _ _ _ _ _ _ _ rfl
@[simp] def f3o4 : List IOper := [
  ⟨(some 25), .load true 15 (.t 2), none, none⟩,
  ⟨(some 26), .mv (.t 1), none, none⟩,
  ⟨(some 27), .call (.c (.fn 12 [])) [(.t 25), (.t 26)], none, none⟩,
  ⟨(some 24), .mv (.t 27), none, none⟩,
  ⟨(some 28), .ext (.t 24) 0, none, none⟩,
  ⟨(some 29), .ext (.t 24) 1, none, none⟩,
  ⟨(some 7), .mv (.t 28), none, none⟩,
  ⟨(some 8), .mv (.t 29), none, none⟩]
def f3r4 : IC := .reg false [] f3o4 [5, 7, 6, 8, 1]
@[simp] theorem f3r4_run : run tbl fin K f3r4 e H = regK tbl fin K [] f3o4 [5, 7, 6, 8, 1] e H := run_regK _ _ _ _ _ _ _ _ _ rfl
@[simp] def f3o5 : List IOper := [
  ⟨(some 30), .mv (.t 5), none, none⟩,
  ⟨(some 31), .mv (.t 7), none, none⟩,
  ⟨(some 32), .bin .eql (.t 30) (.t 31), none, none⟩,
  ⟨(some 33), .mv (.t 32), none, none⟩,
  ⟨(some 34), .mv (.t 6), (some (33, true)), none⟩,
  ⟨(some 35), .mv (.t 8), (some (33, true)), none⟩,
  ⟨(some 36), .beq false (.t 34) (.t 35), (some (33, true)), none⟩,
  ⟨(some 37), .pick (.t 33) (.t 36) (.c (.bool false)), none, some [37, 1]⟩,
  ⟨(some 38), .mv (.t 37), none, none⟩,
  ⟨(some 39), .mv (.t 1), (some (38, true)), none⟩,
  ⟨(some 40), .call (.c (.fn 13 [])) [(.t 39)], (some (38, true)), none⟩,
  ⟨(some 41), .mv (.t 1), (some (38, true)), none⟩,
  ⟨(some 42), .call (.c (.fn 14 [])) [(.t 41)], (some (38, true)), none⟩,
  ⟨(some 43), .beq false (.t 40) (.t 42), (some (38, true)), none⟩,
  ⟨(some 44), .pick (.t 38) (.t 43) (.c (.bool false)), none, none⟩,
  ⟨(some 45), .mv (.t 44), none, some [45]⟩,
  ⟨(some 46), .call (.c (.fn 10 [])) [], (some (45, true)), none⟩,
  ⟨(some 47), .pick (.t 45) (.t 46) (.c (.bool false)), none, none⟩,
  ⟨(some 4), .mv (.t 47), none, none⟩]
def f3r5 : IC := .reg false [] f3o5 [4]
@[simp] theorem f3r5_run : run tbl fin K f3r5 e H = regK tbl fin K [] f3o5 [4] e H := run_regK _ _ _ _ _ _ _ _ _ rfl
def f3body : IC := (.seq f3r0 (.seq (.seq f3r1 (.cond (.t 16) (.seq f3r2 .ret) .skip)) (.seq f3r3 (.seq f3r4 (.seq f3r5 .ret)))))
def f3 : IFn := ⟨48, 2, [.tmp 4], f3body⟩
/- 4: jobshell/jobshelllaw17.ParamChooses -/
@[simp] def f4o0 : List IOper := [
  ⟨(some 4), .box 37 2 (.t 1), none, none⟩,
  ⟨(some 6), .mv (.c (.bool false)), none, none⟩]
def f4r0 : IC := .reg false [] f4o0 [2, 4, 0]
@[simp] theorem f4r0_run : run tbl fin K f4r0 e H = regK tbl fin K [] f4o0 [2, 4, 0] e H := run_regK _ _ _ _ _ _ _ _ _ rfl
@[simp] def f4o1 : List IOper := [
  ⟨(some 7), .mv (.t 2), none, none⟩,
  ⟨(some 8), .slen (.t 7), none, none⟩,
  ⟨(some 9), .bin .gtr (.t 8) (.c (.int .i64 300)), none, none⟩]
def f4r1 : IC := .reg false [] f4o1 [9, 2, 4, 0]
@[simp] theorem f4r1_run : run tbl fin K f4r1 e H = regK tbl fin K [] f4o1 [9, 2, 4, 0] e H := run_regK _ _ _ _ _ _ _ _ _ rfl
@[simp] def f4o2 : List IOper := [
  ⟨(some 10), .call (.c (.fn 10 [])) [], none, none⟩,
  ⟨(some 6), .mv (.t 10), none, none⟩]
def f4r2 : IC := .reg false [] f4o2 [6]
@[simp] theorem f4r2_run : run tbl fin K f4r2 e H = regK tbl fin K [] f4o2 [6] e H := run_regK _ _ _ _ _ _ _ _ _ rfl
@[simp] def f4o3 : List IOper := [
  ⟨(some 11), .mv (.t 0), none, none⟩,
  ⟨(some 12), .pix 2 1 (.t 4) (.c (.int .i64 0)), none, none⟩,
  ⟨(some 13), .load false 1 (.t 12), none, none⟩,
  ⟨(some 14), .pix 2 1 (.t 4) (.c (.int .i64 1)), none, none⟩,
  ⟨(some 15), .load false 1 (.t 14), none, none⟩,
  ⟨(some 16), .mv (.t 2), none, none⟩,
  ⟨(some 17), .call (.c (.fn 15 [])) [(.t 11), (.t 13), (.t 15), (.t 16)], none, none⟩,
  ⟨(some 18), .mv (.t 0), none, none⟩,
  ⟨(some 19), .pix 2 1 (.t 4) (.c (.int .i64 0)), none, none⟩,
  ⟨(some 20), .load false 1 (.t 19), none, none⟩,
  ⟨(some 21), .pix 2 1 (.t 4) (.c (.int .i64 1)), none, none⟩,
  ⟨(some 22), .load false 1 (.t 21), none, none⟩,
  ⟨(some 23), .mv (.t 2), none, none⟩,
  ⟨(some 24), .call (.c (.fn 16 [])) [(.t 18), (.t 20), (.t 22), (.t 23)], none, none⟩,
  ⟨(some 25), .bin .eql (.t 17) (.t 24), none, none⟩,
  ⟨(some 26), .mv (.t 25), none, none⟩,
  ⟨(some 27), .mv (.t 2), (some (26, true)), none⟩,
  ⟨(some 28), .call (.c (.fn 17 [])) [(.t 27)], (some (26, true)), none⟩,
  ⟨(some 29), .mv (.t 2), (some (26, true)), none⟩,
  ⟨(some 30), .slen (.t 29), (some (26, true)), none⟩,
  ⟨(some 31), .bin .eql (.t 28) (.t 30), (some (26, true)), none⟩,
  ⟨(some 32), .pick (.t 26) (.t 31) (.c (.bool false)), none, none⟩,
  ⟨(some 33), .mv (.t 32), none, none⟩,
  ⟨(some 34), .call (.c (.fn 10 [])) [], (some (33, true)), none⟩,
  ⟨(some 35), .pick (.t 33) (.t 34) (.c (.bool false)), none, none⟩,
  ⟨(some 6), .mv (.t 35), none, none⟩]
def f4r3 : IC := .reg true [] f4o3 [6]
@[simp] theorem f4r3_run : run tbl fin K f4r3 e H = regK tbl fin K [] f4o3 [6] e H := run_regK _ _ _ _ _ _ _ _ _ rfl
def f4body : IC := (.seq f4r0 (.seq (.seq f4r1 (.cond (.t 9) (.seq f4r2 .ret) .skip)) (.seq f4r3 .ret)))
def f4 : IFn := ⟨36, 3, [.tmp 6], f4body⟩
/- 5: jobshell/jobshelllaw17.ParamTrims -/
@[simp] def f5o0 : List IOper := [
  ⟨(some 6), .mv (.c (.bool false)), none, none⟩]
def f5r0 : IC := .reg false [] f5o0 [2, 1, 0]
@[simp] theorem f5r0_run : run tbl fin K f5r0 e H = regK tbl fin K [] f5o0 [2, 1, 0] e H := run_regK _ _ _ _ _ _ _ _ _ rfl
@[simp] def f5o1 : List IOper := [
  ⟨(some 7), .mv (.t 1), none, none⟩,
  ⟨(some 8), .slen (.t 7), none, none⟩,
  ⟨(some 9), .bin .gtr (.t 8) (.c (.int .i64 40)), none, none⟩,
  ⟨(some 10), .mv (.t 9), none, none⟩,
  ⟨(some 11), .mv (.t 2), (some (10, false)), none⟩,
  ⟨(some 12), .call (.c (.fn 18 [])) [(.t 11), (.c (.int .i64 12))], (some (10, false)), none⟩,
  ⟨(some 13), .un .not (.t 12), (some (10, false)), none⟩,
  ⟨(some 14), .pick (.t 10) (.c (.bool true)) (.t 13), none, none⟩]
def f5r1 : IC := .reg false [] f5o1 [14, 2, 1, 0]
@[simp] theorem f5r1_run : run tbl fin K f5r1 e H = regK tbl fin K [] f5o1 [14, 2, 1, 0] e H := run_regK _ _ _ _ _ _ _ _ _ rfl
@[simp] def f5o2 : List IOper := [
  ⟨(some 15), .call (.c (.fn 10 [])) [], none, none⟩,
  ⟨(some 6), .mv (.t 15), none, none⟩]
def f5r2 : IC := .reg false [] f5o2 [6]
@[simp] theorem f5r2_run : run tbl fin K f5r2 e H = regK tbl fin K [] f5o2 [6] e H := run_regK _ _ _ _ _ _ _ _ _ rfl
@[simp] def f5o3 : List IOper := [
  ⟨(some 16), .mv (.t 0), none, none⟩,
  ⟨(some 17), .mv (.t 1), none, none⟩,
  ⟨(some 18), .mv (.t 2), none, none⟩,
  ⟨(some 19), .call (.c (.fn 19 [])) [(.t 16), (.t 17), (.t 18)], none, none⟩,
  ⟨(some 20), .mv (.t 0), none, none⟩,
  ⟨(some 21), .mv (.t 1), none, none⟩,
  ⟨(some 22), .mv (.t 2), none, none⟩,
  ⟨(some 23), .call (.c (.fn 20 [])) [(.t 20), (.t 21), (.t 22)], none, some [23, 19]⟩,
  ⟨(some 24), .bin .eql (.t 19) (.t 23), none, none⟩,
  ⟨(some 25), .mv (.t 24), none, none⟩,
  ⟨(some 26), .call (.c (.fn 10 [])) [], (some (25, true)), none⟩,
  ⟨(some 27), .pick (.t 25) (.t 26) (.c (.bool false)), none, none⟩,
  ⟨(some 6), .mv (.t 27), none, none⟩]
def f5r3 : IC := .reg false [] f5o3 [6]
@[simp] theorem f5r3_run : run tbl fin K f5r3 e H = regK tbl fin K [] f5o3 [6] e H := run_regK _ _ _ _ _ _ _ _ _ rfl
def f5body : IC := (.seq f5r0 (.seq (.seq f5r1 (.cond (.t 14) (.seq f5r2 .ret) .skip)) (.seq f5r3 .ret)))
def f5 : IFn := ⟨28, 3, [.tmp 6], f5body⟩
/- 6: jobshell/jobshelllaw17.ParamUnset -/
@[simp] def f6o0 : List IOper := [
  ⟨(some 2), .box 30 15 (.t 0), none, none⟩,
  ⟨(some 4), .mv (.c (.bool false)), none, none⟩]
def f6r0 : IC := .reg false [] f6o0 [2, 1]
@[simp] theorem f6r0_run : run tbl fin K f6r0 e H = regK tbl fin K [] f6o0 [2, 1] e H := run_regK _ _ _ _ _ _ _ _ _ rfl
@[simp] def f6o1 : List IOper := [
  ⟨(some 10), .load true 15 (.t 2), none, none⟩,
  ⟨(some 11), .call (.c (.fn 9 [])) [(.t 10)], none, none⟩,
  ⟨(some 12), .un .not (.t 11), none, none⟩,
  ⟨(some 13), .mv (.t 12), none, none⟩,
  ⟨(some 14), .mv (.t 1), (some (13, false)), none⟩,
  ⟨(some 15), .slen (.t 14), (some (13, false)), none⟩,
  ⟨(some 16), .bin .gtr (.t 15) (.c (.int .i64 60)), (some (13, false)), none⟩,
  ⟨(some 17), .pick (.t 13) (.c (.bool true)) (.t 16), none, none⟩]
def f6r1 : IC := .reg false [] f6o1 [17, 2, 1]
@[simp] theorem f6r1_run : run tbl fin K f6r1 e H = regK tbl fin K [] f6o1 [17, 2, 1] e H := run_regK _ _ _ _ _ _ _ _ _ rfl
@[simp] def f6o2 : List IOper := [
  ⟨(some 18), .call (.c (.fn 10 [])) [], none, none⟩,
  ⟨(some 4), .mv (.t 18), none, none⟩]
def f6r2 : IC := .reg false [] f6o2 [4]
@[simp] theorem f6r2_run : run tbl fin K f6r2 e H = regK tbl fin K [] f6o2 [4] e H := run_regK _ _ _ _ _ _ _ _ _ rfl
@[simp] def f6o3 : List IOper := [
  ⟨(some 20), .load true 15 (.t 2), none, none⟩,
  ⟨(some 21), .mv (.t 1), none, none⟩,
  ⟨(some 22), .call (.c (.fn 11 [])) [(.t 20), (.t 21)], none, none⟩,
  ⟨(some 19), .mv (.t 22), none, none⟩,
  ⟨(some 23), .ext (.t 19) 0, none, none⟩,
  ⟨(some 24), .ext (.t 19) 1, none, none⟩,
  ⟨(some 5), .mv (.t 23), none, none⟩,
  ⟨(some 6), .mv (.t 24), none, none⟩]
def f6r3 : IC := .reg false [] f6o3 [5, 6, 1, 2]
@[simp] theorem f6r3_run : run tbl fin K f6r3 e H = regK tbl fin K [] f6o3 [5, 6, 1, 2] e H := run_regK _ _ _ _ _ _ _ _ _ rfl
@[simp] def f6o4 : List IOper := [
  ⟨(some 25), .mv (.t 6), none, none⟩,
  ⟨(some 26), .un .not (.t 25), none, none⟩,
  ⟨(some 27), .mv (.t 26), none, none⟩,
  ⟨(some 28), .mv (.t 5), (some (27, true)), none⟩,
  ⟨(some 29), .bin .neq (.t 28) (.c (.str [])), (some (27, true)), none⟩,
  ⟨(some 30), .pick (.t 27) (.t 29) (.c (.bool false)), none, none⟩,
  ⟨(some 31), .mv (.t 30), none, none⟩,
  ⟨(some 32), .mv (.t 6), (some (31, false)), some [32, 1, 31, 2]⟩,
  ⟨(some 33), .mv (.t 32), (some (31, false)), none⟩,
  ⟨(some 34), .mv (.t 1), (some (33, true)), none⟩,
  ⟨(some 35), .call (.c (.fn 13 [])) [(.t 34)], (some (33, true)), none⟩,
  ⟨(some 36), .un .not (.t 35), (some (33, true)), none⟩,
  ⟨(some 37), .pick (.t 33) (.t 36) (.c (.bool false)), (some (31, false)), none⟩,
  ⟨(some 38), .pick (.t 31) (.c (.bool true)) (.t 37), none, none⟩]
def f6r4 : IC := .reg false [] f6o4 [38, 2]
@[simp] theorem f6r4_run : run tbl fin K f6r4 e H = regK tbl fin K [] f6o4 [38, 2] e H := run_regK _ _ _ _ _ _ _ _ _ rfl
@[simp] def f6o5 : List IOper := [
  ⟨(some 4), .mv (.c (.bool false)), none, none⟩]
def f6r5 : IC := .reg false [] f6o5 [4]
@[simp] theorem f6r5_run : run tbl fin K f6r5 e H = regK tbl fin K [] f6o5 [4] e H := run_regK _ _ _ _ _ _ _ _ _ rfl
@[simp] def f6o6 : List IOper := [
  ⟨(some 7), .mv (.c (.int .i64 0)), none, none⟩]
def f6r6 : IC := .reg false [] f6o6 [2, 7]
@[simp] theorem f6r6_run : run tbl fin K f6r6 e H = regK tbl fin K [] f6o6 [2, 7] e H := run_regK _ _ _ _ _ _ _ _ _ rfl
@[simp] def f6o7 : List IOper := [
  ⟨(some 39), .mv (.t 7), none, none⟩,
  ⟨(some 40), .fld 2 (.t 2), none, none⟩,
  ⟨(some 41), .load false 1 (.t 40), none, none⟩,
  ⟨(some 42), .len (.t 41), none, none⟩,
  ⟨(some 43), .bin .lss (.t 39) (.t 42), none, none⟩]
def f6r7 : IC := .reg false [] f6o7 [43, 2, 7]
@[simp] theorem f6r7_run : run tbl fin K f6r7 e H = regK tbl fin K [] f6o7 [43, 2, 7] e H := run_regK _ _ _ _ _ _ _ _ _ rfl
@[simp] def f6o8 : List IOper := [
  ⟨(some 47), .load true 15 (.t 2), none, none⟩,
  ⟨(some 48), .mv (.t 7), none, none⟩,
  ⟨(some 49), .bin .add (.c (.int .i64 49)) (.t 48), none, none⟩,
  ⟨(some 50), .conv .u8 (.t 49), none, none⟩,
  ⟨(some 51), .mkrow 5 1 1 (.int .u8 0) [(0, (.t 50))], none, none⟩,
  ⟨(some 52), .b2s (.t 51), none, none⟩,
  ⟨(some 53), .call (.c (.fn 11 [])) [(.t 47), (.t 52)], none, none⟩,
  ⟨(some 46), .mv (.t 53), none, some [46, 2, 7]⟩,
  ⟨(some 54), .ext (.t 46) 0, none, none⟩,
  ⟨(some 55), .ext (.t 46) 1, none, none⟩,
  ⟨(some 8), .mv (.t 54), none, none⟩,
  ⟨(some 9), .mv (.t 55), none, none⟩]
def f6r8 : IC := .reg false [] f6o8 [9, 8, 2, 7]
@[simp] theorem f6r8_run : run tbl fin K f6r8 e H = regK tbl fin K [] f6o8 [9, 8, 2, 7] e H := run_regK _ _ _ _ _ _ _ _ _ rfl
@[simp] def f6o9 : List IOper := [
  ⟨(some 56), .mv (.t 7), none, none⟩,
  ⟨(some 57), .bin .lss (.t 56) (.c (.int .i64 9)), none, none⟩,
  ⟨(some 58), .mv (.t 57), none, none⟩,
  ⟨(some 59), .mv (.t 9), (some (58, true)), none⟩,
  ⟨(some 60), .un .not (.t 59), (some (58, true)), none⟩,
  ⟨(some 61), .mv (.t 60), (some (58, true)), none⟩,
  ⟨(some 62), .mv (.t 8), (some (61, false)), none⟩,
  ⟨(some 63), .fld 2 (.t 2), (some (61, false)), some [63, 62, 61, 58, 2, 7]⟩,
  ⟨(some 64), .load false 1 (.t 63), (some (61, false)), none⟩,
  ⟨(some 65), .mv (.t 7), (some (61, false)), none⟩,
  ⟨(some 66), .idx 1 (.t 64) (.t 65), (some (61, false)), none⟩,
  ⟨(some 67), .load false 1 (.t 66), (some (61, false)), none⟩,
  ⟨(some 68), .bin .neq (.t 62) (.t 67), (some (61, false)), none⟩,
  ⟨(some 69), .pick (.t 61) (.c (.bool true)) (.t 68), (some (58, true)), none⟩,
  ⟨(some 70), .pick (.t 58) (.t 69) (.c (.bool false)), none, none⟩]
def f6r9 : IC := .reg false [] f6o9 [70, 2, 7]
@[simp] theorem f6r9_run : run tbl fin K f6r9 e H = regK tbl fin K [] f6o9 [70, 2, 7] e H := run_regK _ _ _ _ _ _ _ _ _ rfl
@[simp] def f6o10 : List IOper := [
  ⟨(some 4), .mv (.c (.bool false)), none, none⟩]
def f6r10 : IC := .reg false [] f6o10 [4]
@[simp] theorem f6r10_run : run tbl fin K f6r10 e H = regK tbl fin K [] f6o10 [4] e H := run_regK _ _ _ _ _ _ _ _ _ rfl
@[simp] def f6o11 : List IOper := [
  ⟨(some 44), .mv (.t 7), none, none⟩,
  ⟨(some 45), .bin .add (.t 44) (.c (.int .i64 1)), none, none⟩,
  ⟨(some 7), .mv (.t 45), none, none⟩]
def f6r11 : IC := .reg false [] f6o11 [2, 7]
@[simp] theorem f6r11_run : run tbl fin K f6r11 e H = regK tbl fin K [] f6o11 [2, 7] e H := run_regK _ _ _ _ _ _ _ _ _ rfl
def f6b12 : IC := (.seq (.seq f6r7 (.cond (.t 43) .skip (.exit 0))) (.seq (.block 1 (.seq f6r8 (.seq f6r9 (.cond (.t 70) (.seq f6r10 .ret) .skip)))) f6r11))
theorem f6b12_eq : f6b12 = (.seq (.seq f6r7 (.cond (.t 43) .skip (.exit 0))) (.seq (.block 1 (.seq f6r8 (.seq f6r9 (.cond (.t 70) (.seq f6r10 .ret) .skip)))) f6r11)) := rfl
@[simp] def f6o13 : List IOper := [
  ⟨(some 71), .call (.c (.fn 10 [])) [], none, none⟩,
  ⟨(some 4), .mv (.t 71), none, none⟩]
def f6r13 : IC := .reg false [] f6o13 [4]
@[simp] theorem f6r13_run : run tbl fin K f6r13 e H = regK tbl fin K [] f6o13 [4] e H := run_regK _ _ _ _ _ _ _ _ _ rfl
def f6body : IC := (.seq f6r0 (.seq (.seq f6r1 (.cond (.t 17) (.seq f6r2 .ret) .skip)) (.seq f6r3 (.seq (.seq f6r4 (.cond (.t 38) (.seq f6r5 .ret) .skip)) (.seq (.seq f6r6 (.block 0 (.loop [2, 7] f6b12))) (.seq f6r13 .ret))))))
def f6 : IFn := ⟨72, 2, [.tmp 4], f6body⟩
/- 7: jobshell/jobshelllaw17.ParamLeft -/
@[simp] def f7o0 : List IOper := [
  ⟨(some 4), .mv (.c (.bool false)), none, none⟩]
def f7r0 : IC := .reg false [] f7o0 [0, 1]
@[simp] theorem f7r0_run : run tbl fin K f7r0 e H = regK tbl fin K [] f7o0 [0, 1] e H := run_regK _ _ _ _ _ _ _ _ _ rfl
@[simp] def f7o1 : List IOper := [
  ⟨(some 9), .mv (.t 0), none, none⟩,
  ⟨(some 10), .slen (.t 9), none, none⟩,
  ⟨(some 11), .bin .gtr (.t 10) (.c (.int .i64 40)), none, none⟩,
  ⟨(some 12), .mv (.t 11), none, none⟩,
  ⟨(some 13), .mv (.t 1), (some (12, false)), none⟩,
  ⟨(some 14), .call (.c (.fn 18 [])) [(.t 13), (.c (.int .i64 12))], (some (12, false)), none⟩,
  ⟨(some 15), .un .not (.t 14), (some (12, false)), none⟩,
  ⟨(some 16), .pick (.t 12) (.c (.bool true)) (.t 15), none, none⟩]
def f7r1 : IC := .reg false [] f7o1 [16, 0, 1]
@[simp] theorem f7r1_run : run tbl fin K f7r1 e H = regK tbl fin K [] f7o1 [16, 0, 1] e H := run_regK _ _ _ _ _ _ _ _ _ rfl
@[simp] def f7o2 : List IOper := [
  ⟨(some 17), .call (.c (.fn 10 [])) [], none, none⟩,
  ⟨(some 4), .mv (.t 17), none, none⟩]
def f7r2 : IC := .reg false [] f7o2 [4]
@[simp] theorem f7r2_run : run tbl fin K f7r2 e H = regK tbl fin K [] f7o2 [4] e H := run_regK _ _ _ _ _ _ _ _ _ rfl
@[simp] def f7o3 : List IOper := [
  ⟨(some 18), .mv (.t 0), none, none⟩,
  ⟨(some 19), .mv (.t 1), none, none⟩,
  ⟨(some 20), .call (.c (.fn 19 [])) [(.c (.int .i64 6)), (.t 18), (.t 19)], none, none⟩,
  ⟨(some 21), .mv (.t 0), none, none⟩,
  ⟨(some 22), .mv (.t 1), none, none⟩,
  ⟨(some 23), .call (.c (.fn 19 [])) [(.c (.int .i64 7)), (.t 21), (.t 22)], none, none⟩,
  ⟨(some 5), .mv (.t 20), none, none⟩,
  ⟨(some 6), .mv (.t 23), none, none⟩]
def f7r3 : IC := .reg false [] f7o3 [1, 0, 6, 5]
@[simp] theorem f7r3_run : run tbl fin K f7r3 e H = regK tbl fin K [] f7o3 [1, 0, 6, 5] e H := run_regK _ _ _ _ _ _ _ _ _ rfl
@[simp] def f7o4 : List IOper := [
  ⟨(some 24), .mv (.t 0), none, none⟩,
  ⟨(some 25), .mv (.t 1), none, none⟩,
  ⟨(some 26), .call (.c (.fn 19 [])) [(.c (.int .i64 8)), (.t 24), (.t 25)], none, none⟩,
  ⟨(some 27), .mv (.t 0), none, none⟩,
  ⟨(some 28), .mv (.t 1), none, none⟩,
  ⟨(some 29), .call (.c (.fn 19 [])) [(.c (.int .i64 9)), (.t 27), (.t 28)], none, none⟩,
  ⟨(some 7), .mv (.t 26), none, none⟩,
  ⟨(some 8), .mv (.t 29), none, none⟩]
def f7r4 : IC := .reg false [] f7o4 [8, 0, 7, 6, 5]
@[simp] theorem f7r4_run : run tbl fin K f7r4 e H = regK tbl fin K [] f7o4 [8, 0, 7, 6, 5] e H := run_regK _ _ _ _ _ _ _ _ _ rfl
@[simp] def f7o5 : List IOper := [
  ⟨(some 30), .mv (.t 5), none, none⟩,
  ⟨(some 31), .slen (.t 30), none, none⟩,
  ⟨(some 32), .mv (.t 0), none, none⟩,
  ⟨(some 33), .slen (.t 32), none, none⟩,
  ⟨(some 34), .bin .gtr (.t 31) (.t 33), none, none⟩,
  ⟨(some 35), .mv (.t 34), none, none⟩,
  ⟨(some 36), .mv (.t 6), (some (35, false)), none⟩,
  ⟨(some 37), .slen (.t 36), (some (35, false)), some [37, 35, 8, 0, 7, 6, 5]⟩,
  ⟨(some 38), .mv (.t 5), (some (35, false)), none⟩,
  ⟨(some 39), .slen (.t 38), (some (35, false)), none⟩,
  ⟨(some 40), .bin .gtr (.t 37) (.t 39), (some (35, false)), none⟩,
  ⟨(some 41), .pick (.t 35) (.c (.bool true)) (.t 40), none, none⟩,
  ⟨(some 42), .mv (.t 41), none, none⟩,
  ⟨(some 43), .mv (.t 7), (some (42, false)), none⟩,
  ⟨(some 44), .slen (.t 43), (some (42, false)), none⟩,
  ⟨(some 45), .mv (.t 0), (some (42, false)), some [45, 44, 42, 8, 0, 7, 6, 5]⟩,
  ⟨(some 46), .slen (.t 45), (some (42, false)), none⟩,
  ⟨(some 47), .bin .gtr (.t 44) (.t 46), (some (42, false)), none⟩,
  ⟨(some 48), .pick (.t 42) (.c (.bool true)) (.t 47), none, none⟩,
  ⟨(some 49), .mv (.t 48), none, none⟩,
  ⟨(some 50), .mv (.t 8), (some (49, false)), none⟩,
  ⟨(some 51), .slen (.t 50), (some (49, false)), none⟩,
  ⟨(some 52), .mv (.t 7), (some (49, false)), none⟩,
  ⟨(some 53), .slen (.t 52), (some (49, false)), some [53, 51, 49, 8, 0, 7, 6, 5]⟩,
  ⟨(some 54), .bin .gtr (.t 51) (.t 53), (some (49, false)), none⟩,
  ⟨(some 55), .pick (.t 49) (.c (.bool true)) (.t 54), none, none⟩]
def f7r5 : IC := .reg false [] f7o5 [55, 8, 0, 7, 6, 5]
@[simp] theorem f7r5_run : run tbl fin K f7r5 e H = regK tbl fin K [] f7o5 [55, 8, 0, 7, 6, 5] e H := run_regK _ _ _ _ _ _ _ _ _ rfl
@[simp] def f7o6 : List IOper := [
  ⟨(some 4), .mv (.c (.bool false)), none, none⟩]
def f7r6 : IC := .reg false [] f7o6 [4]
@[simp] theorem f7r6_run : run tbl fin K f7r6 e H = regK tbl fin K [] f7o6 [4] e H := run_regK _ _ _ _ _ _ _ _ _ rfl
@[simp] def f7o7 : List IOper := [
  ⟨(some 56), .mv (.t 0), none, none⟩,
  ⟨(some 57), .mv (.t 5), none, none⟩,
  ⟨(some 58), .slen (.t 57), none, none⟩,
  ⟨(some 59), .sls (.t 56) none (some (.t 58)), none, none⟩,
  ⟨(some 60), .mv (.t 5), none, none⟩,
  ⟨(some 61), .bin .eql (.t 59) (.t 60), none, none⟩,
  ⟨(some 62), .mv (.t 61), none, none⟩,
  ⟨(some 63), .mv (.t 0), (some (62, true)), some [63, 6, 62, 7, 0, 8]⟩,
  ⟨(some 64), .mv (.t 6), (some (62, true)), none⟩,
  ⟨(some 65), .slen (.t 64), (some (62, true)), none⟩,
  ⟨(some 66), .sls (.t 63) none (some (.t 65)), (some (62, true)), none⟩,
  ⟨(some 67), .mv (.t 6), (some (62, true)), none⟩,
  ⟨(some 68), .bin .eql (.t 66) (.t 67), (some (62, true)), none⟩,
  ⟨(some 69), .pick (.t 62) (.t 68) (.c (.bool false)), none, none⟩,
  ⟨(some 70), .mv (.t 69), none, none⟩,
  ⟨(some 71), .mv (.t 0), (some (70, true)), some [71, 7, 70, 0, 8]⟩,
  ⟨(some 72), .mv (.t 0), (some (70, true)), none⟩,
  ⟨(some 73), .slen (.t 72), (some (70, true)), none⟩,
  ⟨(some 74), .mv (.t 7), (some (70, true)), none⟩,
  ⟨(some 75), .slen (.t 74), (some (70, true)), none⟩,
  ⟨(some 76), .bin .sub (.t 73) (.t 75), (some (70, true)), none⟩,
  ⟨(some 77), .sls (.t 71) (some (.t 76)) none, (some (70, true)), none⟩,
  ⟨(some 78), .mv (.t 7), (some (70, true)), none⟩,
  ⟨(some 79), .bin .eql (.t 77) (.t 78), (some (70, true)), some [79, 70, 0, 8]⟩,
  ⟨(some 80), .pick (.t 70) (.t 79) (.c (.bool false)), none, none⟩,
  ⟨(some 81), .mv (.t 80), none, none⟩,
  ⟨(some 82), .mv (.t 0), (some (81, true)), none⟩,
  ⟨(some 83), .mv (.t 0), (some (81, true)), none⟩,
  ⟨(some 84), .slen (.t 83), (some (81, true)), none⟩,
  ⟨(some 85), .mv (.t 8), (some (81, true)), none⟩,
  ⟨(some 86), .slen (.t 85), (some (81, true)), none⟩,
  ⟨(some 87), .bin .sub (.t 84) (.t 86), (some (81, true)), some [87, 82, 8, 81]⟩,
  ⟨(some 88), .sls (.t 82) (some (.t 87)) none, (some (81, true)), none⟩,
  ⟨(some 89), .mv (.t 8), (some (81, true)), none⟩,
  ⟨(some 90), .bin .eql (.t 88) (.t 89), (some (81, true)), none⟩,
  ⟨(some 91), .pick (.t 81) (.t 90) (.c (.bool false)), none, none⟩,
  ⟨(some 92), .mv (.t 91), none, none⟩,
  ⟨(some 93), .call (.c (.fn 10 [])) [], (some (92, true)), none⟩,
  ⟨(some 94), .pick (.t 92) (.t 93) (.c (.bool false)), none, none⟩,
  ⟨(some 4), .mv (.t 94), none, none⟩]
def f7r7 : IC := .reg false [] f7o7 [4]
@[simp] theorem f7r7_run : run tbl fin K f7r7 e H = regK tbl fin K [] f7o7 [4] e H := run_regK _ _ _ _ _ _ _ _ _ rfl
def f7body : IC := (.seq f7r0 (.seq (.seq f7r1 (.cond (.t 16) (.seq f7r2 .ret) .skip)) (.seq f7r3 (.seq f7r4 (.seq (.seq f7r5 (.cond (.t 55) (.seq f7r6 .ret) .skip)) (.seq f7r7 .ret))))))
def f7 : IFn := ⟨95, 2, [.tmp 4], f7body⟩
/- 8: jobshell/jobshelllaw17.ParamVariables -/
@[simp] def f8o0 : List IOper := [
  ⟨(some 3), .box 30 15 (.t 0), none, none⟩,
  ⟨(some 6), .mv (.c (.bool false)), none, none⟩]
def f8r0 : IC := .reg false [] f8o0 [1, 3, 2]
@[simp] theorem f8r0_run : run tbl fin K f8r0 e H = regK tbl fin K [] f8o0 [1, 3, 2] e H := run_regK _ _ _ _ _ _ _ _ _ rfl
@[simp] def f8o1 : List IOper := [
  ⟨(some 12), .load true 15 (.t 3), none, none⟩,
  ⟨(some 7), .new 30 15 (.agg [(.str []), .e0, .e0, .e0, .e0, .e0, (.int .i64 0), (.int .i64 0), (.int .i64 0), (.int .i64 0), (.str []), (.int .i64 0), (.int .i64 0), (.int .i64 0), (.bool false)]), none, none⟩,
  ⟨none, .store 15 (.t 7) (.t 12), none, none⟩]
def f8r1 : IC := .reg false [] f8o1 [1, 3, 7, 2]
@[simp] theorem f8r1_run : run tbl fin K f8r1 e H = regK tbl fin K [] f8o1 [1, 3, 7, 2] e H := run_regK _ _ _ _ _ _ _ _ _ rfl
@[simp] def f8o2 : List IOper := [
  ⟨(some 13), .mv (.t 1), none, none⟩,
  ⟨(some 14), .fld 1 (.t 7), none, none⟩,
  ⟨none, .store 1 (.t 14) (.t 13), none, none⟩]
def f8r2 : IC := .reg false [] f8o2 [3, 7, 2]
@[simp] theorem f8r2_run : run tbl fin K f8r2 e H = regK tbl fin K [] f8o2 [3, 7, 2] e H := run_regK _ _ _ _ _ _ _ _ _ rfl
@[simp] def f8o3 : List IOper := [
  ⟨(some 15), .load true 15 (.t 3), none, none⟩,
  ⟨(some 16), .call (.c (.fn 9 [])) [(.t 15)], none, none⟩,
  ⟨(some 17), .un .not (.t 16), none, none⟩,
  ⟨(some 18), .mv (.t 17), none, none⟩,
  ⟨(some 19), .load true 15 (.t 7), (some (18, false)), none⟩,
  ⟨(some 20), .call (.c (.fn 9 [])) [(.t 19)], (some (18, false)), none⟩,
  ⟨(some 21), .un .not (.t 20), (some (18, false)), none⟩,
  ⟨(some 22), .pick (.t 18) (.c (.bool true)) (.t 21), none, some [22, 3, 7, 2]⟩,
  ⟨(some 23), .mv (.t 22), none, none⟩,
  ⟨(some 24), .mv (.t 2), (some (23, false)), none⟩,
  ⟨(some 25), .slen (.t 24), (some (23, false)), none⟩,
  ⟨(some 26), .bin .gtr (.t 25) (.c (.int .i64 60)), (some (23, false)), none⟩,
  ⟨(some 27), .pick (.t 23) (.c (.bool true)) (.t 26), none, none⟩]
def f8r3 : IC := .reg false [] f8o3 [27, 3, 7, 2]
@[simp] theorem f8r3_run : run tbl fin K f8r3 e H = regK tbl fin K [] f8o3 [27, 3, 7, 2] e H := run_regK _ _ _ _ _ _ _ _ _ rfl
@[simp] def f8o4 : List IOper := [
  ⟨(some 28), .call (.c (.fn 10 [])) [], none, none⟩,
  ⟨(some 6), .mv (.t 28), none, none⟩]
def f8r4 : IC := .reg false [] f8o4 [6]
@[simp] theorem f8r4_run : run tbl fin K f8r4 e H = regK tbl fin K [] f8o4 [6] e H := run_regK _ _ _ _ _ _ _ _ _ rfl
@[simp] def f8o5 : List IOper := [
  ⟨(some 29), .mv (.t 2), none, none⟩,
  ⟨(some 30), .bin .eql (.t 29) (.c (.str [])), none, none⟩,
  ⟨(some 31), .mv (.t 30), none, none⟩,
  ⟨(some 32), .mv (.t 2), (some (31, false)), none⟩,
  ⟨(some 33), .bin .eql (.t 32) (.c (.str [42])), (some (31, false)), none⟩,
  ⟨(some 34), .pick (.t 31) (.c (.bool true)) (.t 33), none, none⟩,
  ⟨(some 35), .mv (.t 34), none, none⟩,
  ⟨(some 36), .mv (.t 2), (some (35, false)), some [36, 35, 2, 7, 3]⟩,
  ⟨(some 37), .sidx (.t 36) (.c (.int .i64 0)), (some (35, false)), none⟩,
  ⟨(some 38), .bin .eql (.t 37) (.c (.int .u8 95)), (some (35, false)), none⟩,
  ⟨(some 39), .pick (.t 35) (.c (.bool true)) (.t 38), none, none⟩,
  ⟨(some 40), .mv (.t 39), none, none⟩,
  ⟨(some 41), .mv (.t 2), (some (40, false)), none⟩,
  ⟨(some 42), .sidx (.t 41) (.c (.int .i64 0)), (some (40, false)), none⟩,
  ⟨(some 43), .bin .geq (.t 42) (.c (.int .u8 97)), (some (40, false)), none⟩,
  ⟨(some 44), .mv (.t 43), (some (40, false)), some [44, 40, 2, 7, 3]⟩,
  ⟨(some 45), .mv (.t 2), (some (44, true)), none⟩,
  ⟨(some 46), .sidx (.t 45) (.c (.int .i64 0)), (some (44, true)), none⟩,
  ⟨(some 47), .bin .leq (.t 46) (.c (.int .u8 122)), (some (44, true)), none⟩,
  ⟨(some 48), .pick (.t 44) (.t 47) (.c (.bool false)), (some (40, false)), none⟩,
  ⟨(some 49), .pick (.t 40) (.c (.bool true)) (.t 48), none, none⟩,
  ⟨(some 50), .mv (.t 49), none, none⟩,
  ⟨(some 51), .mv (.t 2), (some (50, false)), none⟩,
  ⟨(some 52), .sidx (.t 51) (.c (.int .i64 0)), (some (50, false)), some [52, 50, 2, 7, 3]⟩,
  ⟨(some 53), .bin .geq (.t 52) (.c (.int .u8 65)), (some (50, false)), none⟩,
  ⟨(some 54), .mv (.t 53), (some (50, false)), none⟩,
  ⟨(some 55), .mv (.t 2), (some (54, true)), none⟩,
  ⟨(some 56), .sidx (.t 55) (.c (.int .i64 0)), (some (54, true)), none⟩,
  ⟨(some 57), .bin .leq (.t 56) (.c (.int .u8 90)), (some (54, true)), none⟩,
  ⟨(some 58), .pick (.t 54) (.t 57) (.c (.bool false)), (some (50, false)), none⟩,
  ⟨(some 59), .pick (.t 50) (.c (.bool true)) (.t 58), none, none⟩]
def f8r5 : IC := .reg false [] f8o5 [59, 2, 7, 3]
@[simp] theorem f8r5_run : run tbl fin K f8r5 e H = regK tbl fin K [] f8o5 [59, 2, 7, 3] e H := run_regK _ _ _ _ _ _ _ _ _ rfl
@[simp] def f8o6 : List IOper := [
  ⟨(some 60), .call (.c (.fn 10 [])) [], none, none⟩,
  ⟨(some 6), .mv (.t 60), none, none⟩]
def f8r6 : IC := .reg false [] f8o6 [6]
@[simp] theorem f8r6_run : run tbl fin K f8r6 e H = regK tbl fin K [] f8o6 [6] e H := run_regK _ _ _ _ _ _ _ _ _ rfl
@[simp] def f8o7 : List IOper := [
  ⟨(some 62), .load true 15 (.t 3), none, none⟩,
  ⟨(some 63), .mv (.t 2), none, none⟩,
  ⟨(some 64), .call (.c (.fn 11 [])) [(.t 62), (.t 63)], none, none⟩,
  ⟨(some 61), .mv (.t 64), none, none⟩,
  ⟨(some 65), .ext (.t 61) 0, none, none⟩,
  ⟨(some 66), .ext (.t 61) 1, none, none⟩,
  ⟨(some 8), .mv (.t 65), none, none⟩,
  ⟨(some 9), .mv (.t 66), none, none⟩]
def f8r7 : IC := .reg false [] f8o7 [7, 2, 8, 9]
@[simp] theorem f8r7_run : run tbl fin K f8r7 e H = regK tbl fin K [] f8o7 [7, 2, 8, 9] e H := run_regK _ _ _ _ _ _ _ _ _ rfl
@[simp] def f8o8 : List IOper := [
  ⟨(some 68), .load true 15 (.t 7), none, none⟩,
  ⟨(some 69), .mv (.t 2), none, none⟩,
  ⟨(some 70), .call (.c (.fn 11 [])) [(.t 68), (.t 69)], none, none⟩,
  ⟨(some 67), .mv (.t 70), none, none⟩,
  ⟨(some 71), .ext (.t 67) 0, none, none⟩,
  ⟨(some 72), .ext (.t 67) 1, none, none⟩,
  ⟨(some 10), .mv (.t 71), none, none⟩,
  ⟨(some 11), .mv (.t 72), none, none⟩]
def f8r8 : IC := .reg false [] f8o8 [8, 10, 9, 11]
@[simp] theorem f8r8_run : run tbl fin K f8r8 e H = regK tbl fin K [] f8o8 [8, 10, 9, 11] e H := run_regK _ _ _ _ _ _ _ _ _ rfl
@[simp] def f8o9 : List IOper := [
  ⟨(some 73), .mv (.t 8), none, none⟩,
  ⟨(some 74), .mv (.t 10), none, none⟩,
  ⟨(some 75), .bin .eql (.t 73) (.t 74), none, none⟩,
  ⟨(some 76), .mv (.t 75), none, none⟩,
  ⟨(some 77), .mv (.t 9), (some (76, true)), none⟩,
  ⟨(some 78), .mv (.t 11), (some (76, true)), none⟩,
  ⟨(some 79), .beq false (.t 77) (.t 78), (some (76, true)), none⟩,
  ⟨(some 80), .pick (.t 76) (.t 79) (.c (.bool false)), none, some [80]⟩,
  ⟨(some 81), .mv (.t 80), none, none⟩,
  ⟨(some 82), .call (.c (.fn 10 [])) [], (some (81, true)), none⟩,
  ⟨(some 83), .pick (.t 81) (.t 82) (.c (.bool false)), none, none⟩,
  ⟨(some 6), .mv (.t 83), none, none⟩]
def f8r9 : IC := .reg false [] f8o9 [6]
@[simp] theorem f8r9_run : run tbl fin K f8r9 e H = regK tbl fin K [] f8o9 [6] e H := run_regK _ _ _ _ _ _ _ _ _ rfl
def f8body : IC := (.seq f8r0 (.seq f8r1 (.seq f8r2 (.seq (.seq f8r3 (.cond (.t 27) (.seq f8r4 .ret) .skip)) (.seq (.seq f8r5 (.cond (.t 59) (.seq f8r6 .ret) .skip)) (.seq f8r7 (.seq f8r8 (.seq f8r9 .ret))))))))
def f8 : IFn := ⟨84, 3, [.tmp 6], f8body⟩
/- 9: jobshell/jobshellref17.Small -/
@[simp] def f9o0 : List IOper := [
  ⟨(some 1), .box 30 15 (.t 0), none, none⟩,
  ⟨(some 2), .mv (.c (.bool false)), none, none⟩]
def f9r0 : IC := .reg false [] f9o0 [1]
@[simp] theorem f9r0_run : run tbl fin K f9r0 e H = regK tbl fin K [] f9o0 [1] e H := run_regK _ _ _ _ _ _ _ _ _ rfl
@[simp] def f9o1 : List IOper := [
  ⟨(some 5), .fld 1 (.t 1), none, none⟩,
  ⟨(some 6), .load false 1 (.t 5), none, none⟩,
  ⟨(some 7), .len (.t 6), none, none⟩,
  ⟨(some 8), .bin .gtr (.t 7) (.c (.int .i64 12)), none, none⟩,
  ⟨(some 9), .mv (.t 8), none, none⟩,
  ⟨(some 10), .fld 2 (.t 1), (some (9, false)), none⟩,
  ⟨(some 11), .load false 1 (.t 10), (some (9, false)), none⟩,
  ⟨(some 12), .len (.t 11), (some (9, false)), some [12, 9, 1]⟩,
  ⟨(some 13), .bin .gtr (.t 12) (.c (.int .i64 12)), (some (9, false)), none⟩,
  ⟨(some 14), .pick (.t 9) (.c (.bool true)) (.t 13), none, none⟩,
  ⟨(some 15), .mv (.t 14), none, none⟩,
  ⟨(some 16), .fld 0 (.t 1), (some (15, false)), none⟩,
  ⟨(some 17), .load false 1 (.t 16), (some (15, false)), none⟩,
  ⟨(some 18), .slen (.t 17), (some (15, false)), none⟩,
  ⟨(some 19), .bin .gtr (.t 18) (.c (.int .i64 60)), (some (15, false)), none⟩,
  ⟨(some 20), .pick (.t 15) (.c (.bool true)) (.t 19), none, none⟩]
def f9r1 : IC := .reg false [] f9o1 [20, 1]
@[simp] theorem f9r1_run : run tbl fin K f9r1 e H = regK tbl fin K [] f9o1 [20, 1] e H := run_regK _ _ _ _ _ _ _ _ _ rfl
@[simp] def f9o2 : List IOper := [
  ⟨(some 2), .mv (.c (.bool false)), none, none⟩]
def f9r2 : IC := .reg false [] f9o2 [2]
@[simp] theorem f9r2_run : run tbl fin K f9r2 e H = regK tbl fin K [] f9o2 [2] e H := run_regK _ _ _ _ _ _ _ _ _ rfl
@[simp] def f9o3 : List IOper := [
  ⟨(some 3), .mv (.c (.int .i64 0)), none, none⟩]
def f9r3 : IC := .reg false [] f9o3 [1, 3]
@[simp] theorem f9r3_run : run tbl fin K f9r3 e H = regK tbl fin K [] f9o3 [1, 3] e H := run_regK _ _ _ _ _ _ _ _ _ rfl
@[simp] def f9o4 : List IOper := [
  ⟨(some 21), .mv (.t 3), none, none⟩,
  ⟨(some 22), .fld 1 (.t 1), none, none⟩,
  ⟨(some 23), .load false 1 (.t 22), none, none⟩,
  ⟨(some 24), .len (.t 23), none, none⟩,
  ⟨(some 25), .bin .lss (.t 21) (.t 24), none, none⟩]
def f9r4 : IC := .reg false [] f9o4 [25, 1, 3]
@[simp] theorem f9r4_run : run tbl fin K f9r4 e H = regK tbl fin K [] f9o4 [25, 1, 3] e H := run_regK _ _ _ _ _ _ _ _ _ rfl
@[simp] def f9o5 : List IOper := [
  ⟨(some 28), .fld 1 (.t 1), none, none⟩,
  ⟨(some 29), .load false 1 (.t 28), none, none⟩,
  ⟨(some 30), .mv (.t 3), none, none⟩,
  ⟨(some 31), .idx 5 (.t 29) (.t 30), none, none⟩,
  ⟨(some 32), .fld 0 (.t 31), none, none⟩,
  ⟨(some 33), .load false 1 (.t 32), none, none⟩,
  ⟨(some 34), .slen (.t 33), none, none⟩,
  ⟨(some 35), .bin .gtr (.t 34) (.c (.int .i64 60)), none, some [35, 1, 3]⟩,
  ⟨(some 36), .mv (.t 35), none, none⟩,
  ⟨(some 37), .fld 1 (.t 1), (some (36, false)), none⟩,
  ⟨(some 38), .load false 1 (.t 37), (some (36, false)), none⟩,
  ⟨(some 39), .mv (.t 3), (some (36, false)), none⟩,
  ⟨(some 40), .idx 5 (.t 38) (.t 39), (some (36, false)), none⟩,
  ⟨(some 41), .fld 1 (.t 40), (some (36, false)), none⟩,
  ⟨(some 42), .load false 1 (.t 41), (some (36, false)), none⟩,
  ⟨(some 43), .slen (.t 42), (some (36, false)), some [43, 36, 1, 3]⟩,
  ⟨(some 44), .bin .gtr (.t 43) (.c (.int .i64 60)), (some (36, false)), none⟩,
  ⟨(some 45), .pick (.t 36) (.c (.bool true)) (.t 44), none, none⟩]
def f9r5 : IC := .reg false [] f9o5 [45, 1, 3]
@[simp] theorem f9r5_run : run tbl fin K f9r5 e H = regK tbl fin K [] f9o5 [45, 1, 3] e H := run_regK _ _ _ _ _ _ _ _ _ rfl
@[simp] def f9o6 : List IOper := [
  ⟨(some 2), .mv (.c (.bool false)), none, none⟩]
def f9r6 : IC := .reg false [] f9o6 [2]
@[simp] theorem f9r6_run : run tbl fin K f9r6 e H = regK tbl fin K [] f9o6 [2] e H := run_regK _ _ _ _ _ _ _ _ _ rfl
@[simp] def f9o7 : List IOper := [
  ⟨(some 26), .mv (.t 3), none, none⟩,
  ⟨(some 27), .bin .add (.t 26) (.c (.int .i64 1)), none, none⟩,
  ⟨(some 3), .mv (.t 27), none, none⟩]
def f9r7 : IC := .reg false [] f9o7 [1, 3]
@[simp] theorem f9r7_run : run tbl fin K f9r7 e H = regK tbl fin K [] f9o7 [1, 3] e H := run_regK _ _ _ _ _ _ _ _ _ rfl
def f9b8 : IC := (.seq (.seq f9r4 (.cond (.t 25) .skip (.exit 0))) (.seq (.block 1 (.seq f9r5 (.cond (.t 45) (.seq f9r6 .ret) .skip))) f9r7))
theorem f9b8_eq : f9b8 = (.seq (.seq f9r4 (.cond (.t 25) .skip (.exit 0))) (.seq (.block 1 (.seq f9r5 (.cond (.t 45) (.seq f9r6 .ret) .skip))) f9r7)) := rfl
@[simp] def f9o9 : List IOper := [
  ⟨(some 4), .mv (.c (.int .i64 0)), none, none⟩]
def f9r9 : IC := .reg false [] f9o9 [1, 4]
@[simp] theorem f9r9_run : run tbl fin K f9r9 e H = regK tbl fin K [] f9o9 [1, 4] e H := run_regK _ _ _ _ _ _ _ _ _ rfl
@[simp] def f9o10 : List IOper := [
  ⟨(some 46), .mv (.t 4), none, none⟩,
  ⟨(some 47), .fld 2 (.t 1), none, none⟩,
  ⟨(some 48), .load false 1 (.t 47), none, none⟩,
  ⟨(some 49), .len (.t 48), none, none⟩,
  ⟨(some 50), .bin .lss (.t 46) (.t 49), none, none⟩]
def f9r10 : IC := .reg false [] f9o10 [50, 1, 4]
@[simp] theorem f9r10_run : run tbl fin K f9r10 e H = regK tbl fin K [] f9o10 [50, 1, 4] e H := run_regK _ _ _ _ _ _ _ _ _ rfl
@[simp] def f9o11 : List IOper := [
  ⟨(some 53), .fld 2 (.t 1), none, none⟩,
  ⟨(some 54), .load false 1 (.t 53), none, none⟩,
  ⟨(some 55), .mv (.t 4), none, none⟩,
  ⟨(some 56), .idx 1 (.t 54) (.t 55), none, none⟩,
  ⟨(some 57), .load false 1 (.t 56), none, none⟩,
  ⟨(some 58), .slen (.t 57), none, none⟩,
  ⟨(some 59), .bin .gtr (.t 58) (.c (.int .i64 60)), none, none⟩]
def f9r11 : IC := .reg false [] f9o11 [59, 1, 4]
@[simp] theorem f9r11_run : run tbl fin K f9r11 e H = regK tbl fin K [] f9o11 [59, 1, 4] e H := run_regK _ _ _ _ _ _ _ _ _ rfl
@[simp] def f9o12 : List IOper := [
  ⟨(some 2), .mv (.c (.bool false)), none, none⟩]
def f9r12 : IC := .reg false [] f9o12 [2]
@[simp] theorem f9r12_run : run tbl fin K f9r12 e H = regK tbl fin K [] f9o12 [2] e H := run_regK _ _ _ _ _ _ _ _ _ rfl
@[simp] def f9o13 : List IOper := [
  ⟨(some 51), .mv (.t 4), none, none⟩,
  ⟨(some 52), .bin .add (.t 51) (.c (.int .i64 1)), none, none⟩,
  ⟨(some 4), .mv (.t 52), none, none⟩]
def f9r13 : IC := .reg false [] f9o13 [1, 4]
@[simp] theorem f9r13_run : run tbl fin K f9r13 e H = regK tbl fin K [] f9o13 [1, 4] e H := run_regK _ _ _ _ _ _ _ _ _ rfl
def f9b14 : IC := (.seq (.seq f9r10 (.cond (.t 50) .skip (.exit 2))) (.seq (.block 3 (.seq f9r11 (.cond (.t 59) (.seq f9r12 .ret) .skip))) f9r13))
theorem f9b14_eq : f9b14 = (.seq (.seq f9r10 (.cond (.t 50) .skip (.exit 2))) (.seq (.block 3 (.seq f9r11 (.cond (.t 59) (.seq f9r12 .ret) .skip))) f9r13)) := rfl
@[simp] def f9o15 : List IOper := [
  ⟨(some 2), .mv (.c (.bool true)), none, none⟩]
def f9r15 : IC := .reg false [] f9o15 [2]
@[simp] theorem f9r15_run : run tbl fin K f9r15 e H = regK tbl fin K [] f9o15 [2] e H := run_regK _ _ _ _ _ _ _ _ _ rfl
def f9body : IC := (.seq f9r0 (.seq (.seq f9r1 (.cond (.t 20) (.seq f9r2 .ret) .skip)) (.seq (.seq f9r3 (.block 0 (.loop [1, 3] f9b8))) (.seq (.seq f9r9 (.block 2 (.loop [1, 4] f9b14))) (.seq f9r15 .ret)))))
def f9 : IFn := ⟨60, 1, [.tmp 2], f9body⟩
/- 10: jobshell/jobshelllaw17.awake -/
@[simp] def f10o0 : List IOper := [
  ⟨(some 0), .mv (.c (.bool false)), none, none⟩]
def f10r0 : IC := .reg false [] f10o0 []
@[simp] theorem f10r0_run : run tbl fin K f10r0 e H = regK tbl fin K [] f10o0 [] e H := run_regK _ _ _ _ _ _ _ _ _ rfl
@[simp] def f10o1 : List IOper := [
  ⟨(some 11), .build [(.str []), (.str []), (.bool false), (.bool false), (.bool false)] [(0, 1, (.c (.str [73, 70, 83]))), (1, 1, (.c (.str [58]))), (2, 1, (.c (.bool true)))], none, none⟩,
  ⟨(some 12), .mkrow 49 5 1 (.agg [(.str []), (.str []), (.bool false), (.bool false), (.bool false)]) [(0, (.t 11))], none, none⟩,
  ⟨(some 13), .mkrow 9 1 2 (.str []) [(0, (.c (.str [97]))), (1, (.c (.str [98])))], none, none⟩,
  ⟨(some 14), .build [(.str []), .e0, .e0, .e0, .e0, .e0, (.int .i64 0), (.int .i64 0), (.int .i64 0), (.int .i64 0), (.str []), (.int .i64 0), (.int .i64 0), (.int .i64 0), (.bool false)] [(0, 1, (.c (.str [115, 104]))), (1, 1, (.t 12)), (2, 1, (.t 13)), (6, 1, (.c (.int .i64 5)))], none, none⟩,
  ⟨(some 1), .new 30 15 (.agg [(.str []), .e0, .e0, .e0, .e0, .e0, (.int .i64 0), (.int .i64 0), (.int .i64 0), (.int .i64 0), (.str []), (.int .i64 0), (.int .i64 0), (.int .i64 0), (.bool false)]), none, none⟩,
  ⟨none, .store 15 (.t 1) (.t 14), none, none⟩]
def f10r1 : IC := .reg false [] f10o1 [1]
@[simp] theorem f10r1_run : run tbl fin K f10r1 e H = regK tbl fin K [] f10o1 [1] e H := run_regK _ _ _ _ _ _ _ _ _ rfl
@[simp] def f10o2 : List IOper := [
  ⟨(some 16), .load true 15 (.t 1), none, none⟩,
  ⟨(some 17), .call (.c (.fn 11 [])) [(.t 16), (.c (.str [42]))], none, none⟩,
  ⟨(some 15), .mv (.t 17), none, none⟩,
  ⟨(some 18), .ext (.t 15) 0, none, none⟩,
  ⟨(some 19), .ext (.t 15) 1, none, none⟩,
  ⟨(some 2), .mv (.t 18), none, none⟩,
  ⟨(some 3), .mv (.t 19), none, none⟩]
def f10r2 : IC := .reg false [] f10o2 [1, 2, 3]
@[simp] theorem f10r2_run : run tbl fin K f10r2 e H = regK tbl fin K [] f10o2 [1, 2, 3] e H := run_regK _ _ _ _ _ _ _ _ _ rfl
@[simp] def f10o3 : List IOper := [
  ⟨(some 21), .load true 15 (.t 1), none, none⟩,
  ⟨(some 22), .call (.c (.fn 11 [])) [(.t 21), (.c (.str [35]))], none, none⟩,
  ⟨(some 20), .mv (.t 22), none, none⟩,
  ⟨(some 23), .ext (.t 20) 0, none, none⟩,
  ⟨(some 24), .ext (.t 20) 1, none, none⟩,
  ⟨(some 4), .mv (.t 23), none, none⟩,
  ⟨(some 5), .mv (.t 24), none, none⟩]
def f10r3 : IC := .reg false [] f10o3 [1, 2, 3, 4, 5]
@[simp] theorem f10r3_run : run tbl fin K f10r3 e H = regK tbl fin K [] f10o3 [1, 2, 3, 4, 5] e H := run_regK _ _ _ _ _ _ _ _ _ rfl
@[simp] def f10o4 : List IOper := [
  ⟨(some 26), .load true 15 (.t 1), none, none⟩,
  ⟨(some 27), .call (.c (.fn 11 [])) [(.t 26), (.c (.str [51]))], none, none⟩,
  ⟨(some 25), .mv (.t 27), none, none⟩,
  ⟨(some 28), .ext (.t 25) 0, none, none⟩,
  ⟨(some 29), .ext (.t 25) 1, none, none⟩,
  ⟨(some 6), .mv (.t 28), none, none⟩,
  ⟨(some 7), .mv (.t 29), none, none⟩]
def f10r4 : IC := .reg false [] f10o4 [1, 2, 3, 4, 5, 6, 7]
@[simp] theorem f10r4_run : run tbl fin K f10r4 e H = regK tbl fin K [] f10o4 [1, 2, 3, 4, 5, 6, 7] e H := run_regK _ _ _ _ _ _ _ _ _ rfl
@[simp] def f10o5 : List IOper := [
  ⟨(some 31), .load true 15 (.t 1), none, none⟩,
  ⟨(some 32), .call (.c (.fn 11 [])) [(.t 31), (.c (.str [45]))], none, none⟩,
  ⟨(some 30), .mv (.t 32), none, none⟩,
  ⟨(some 33), .ext (.t 30) 0, none, none⟩,
  ⟨(some 34), .ext (.t 30) 1, none, none⟩,
  ⟨(some 8), .mv (.t 33), none, none⟩,
  ⟨(some 9), .mv (.t 34), none, none⟩]
def f10r5 : IC := .reg false [] f10o5 [2, 3, 4, 5, 6, 7, 8, 9]
@[simp] theorem f10r5_run : run tbl fin K f10r5 e H = regK tbl fin K [] f10o5 [2, 3, 4, 5, 6, 7, 8, 9] e H := run_regK _ _ _ _ _ _ _ _ _ rfl
@[simp] def f10o6 : List IOper := [
  ⟨(some 35), .build [(.int .i64 0), (.str []), (.bool false), .e0] [(0, 1, (.c (.int .i64 1))), (1, 1, (.c (.str [46])))], none, none⟩,
  ⟨(some 36), .build [(.int .i64 0), (.str []), (.bool false), .e0] [(0, 1, (.c (.int .i64 3)))], none, none⟩,
  ⟨(some 37), .mkrow 52 4 2 (.agg [(.int .i64 0), (.str []), (.bool false), .e0]) [(0, (.t 35)), (1, (.t 36))], none, none⟩,
  ⟨(some 10), .mv (.t 37), none, none⟩]
def f10r6 : IC := .reg false [] f10o6 [2, 3, 4, 5, 6, 7, 8, 9, 10]
@[simp] theorem f10r6_run : run tbl fin K f10r6 e H = regK tbl fin K [] f10o6 [2, 3, 4, 5, 6, 7, 8, 9, 10] e H := run_regK _ _ _ _ _ _ _ _ _ rfl
@[simp] def f10o7 : List IOper := [
  ⟨(some 38), .mv (.t 2), none, none⟩,
  ⟨(some 39), .bin .neq (.t 38) (.c (.str [97, 58, 98])), none, none⟩,
  ⟨(some 40), .mv (.t 39), none, none⟩,
  ⟨(some 41), .mv (.t 3), (some (40, false)), none⟩,
  ⟨(some 42), .un .not (.t 41), (some (40, false)), none⟩,
  ⟨(some 43), .pick (.t 40) (.c (.bool true)) (.t 42), none, none⟩,
  ⟨(some 44), .mv (.t 43), none, none⟩,
  ⟨(some 45), .mv (.t 4), (some (44, false)), some [45, 44, 5, 6, 7, 8, 9, 10]⟩,
  ⟨(some 46), .bin .neq (.t 45) (.c (.str [50])), (some (44, false)), none⟩,
  ⟨(some 47), .pick (.t 44) (.c (.bool true)) (.t 46), none, none⟩,
  ⟨(some 48), .mv (.t 47), none, none⟩,
  ⟨(some 49), .mv (.t 5), (some (48, false)), none⟩,
  ⟨(some 50), .un .not (.t 49), (some (48, false)), none⟩,
  ⟨(some 51), .pick (.t 48) (.c (.bool true)) (.t 50), none, none⟩,
  ⟨(some 52), .mv (.t 51), none, none⟩,
  ⟨(some 53), .mv (.t 6), (some (52, false)), some [53, 52, 7, 8, 9, 10]⟩,
  ⟨(some 54), .bin .neq (.t 53) (.c (.str [])), (some (52, false)), none⟩,
  ⟨(some 55), .pick (.t 52) (.c (.bool true)) (.t 54), none, none⟩,
  ⟨(some 56), .mv (.t 55), none, none⟩,
  ⟨(some 57), .mv (.t 7), (some (56, false)), none⟩,
  ⟨(some 58), .pick (.t 56) (.c (.bool true)) (.t 57), none, none⟩,
  ⟨(some 59), .mv (.t 58), none, none⟩,
  ⟨(some 60), .mv (.t 8), (some (59, false)), none⟩,
  ⟨(some 61), .bin .neq (.t 60) (.c (.str [101, 120])), (some (59, false)), some [61, 59, 9, 10]⟩,
  ⟨(some 62), .pick (.t 59) (.c (.bool true)) (.t 61), none, none⟩,
  ⟨(some 63), .mv (.t 62), none, none⟩,
  ⟨(some 64), .mv (.t 9), (some (63, false)), none⟩,
  ⟨(some 65), .un .not (.t 64), (some (63, false)), none⟩,
  ⟨(some 66), .pick (.t 63) (.c (.bool true)) (.t 65), none, none⟩,
  ⟨(some 67), .mv (.t 66), none, none⟩,
  ⟨(some 68), .call (.c (.fn 13 [])) [(.c (.str [48, 49]))], (some (67, false)), none⟩,
  ⟨(some 69), .pick (.t 67) (.c (.bool true)) (.t 68), none, some [69, 10]⟩,
  ⟨(some 70), .mv (.t 69), none, none⟩,
  ⟨(some 71), .call (.c (.fn 13 [])) [(.c (.str [49, 48]))], (some (70, false)), none⟩,
  ⟨(some 72), .un .not (.t 71), (some (70, false)), none⟩,
  ⟨(some 73), .pick (.t 70) (.c (.bool true)) (.t 72), none, none⟩]
def f10r7 : IC := .reg false [] f10o7 [73, 10]
@[simp] theorem f10r7_run : run tbl fin K f10r7 e H = regK tbl fin K [] f10o7 [73, 10] e H := run_regK _ _ _ _ _ _ _ _ _ rfl
@[simp] def f10o8 : List IOper := [
  ⟨(some 0), .mv (.c (.bool false)), none, none⟩]
def f10r8 : IC := .reg false [] f10o8 [0]
@[simp] theorem f10r8_run : run tbl fin K f10r8 e H = regK tbl fin K [] f10o8 [0] e H := run_regK _ _ _ _ _ _ _ _ _ rfl
@[simp] def f10o9 : List IOper := [
  ⟨(some 74), .call (.c (.fn 15 [])) [(.c (.int .i64 1)), (.c (.bool true)), (.c (.bool true)), (.c (.str []))], none, none⟩,
  ⟨(some 75), .bin .eql (.t 74) (.c (.int .i64 1)), none, none⟩,
  ⟨(some 76), .mv (.t 75), none, none⟩,
  ⟨(some 77), .call (.c (.fn 17 [])) [(.c (.str [97, 98, 99]))], (some (76, true)), none⟩,
  ⟨(some 78), .bin .eql (.t 77) (.c (.int .i64 3)), (some (76, true)), none⟩,
  ⟨(some 79), .pick (.t 76) (.t 78) (.c (.bool false)), none, none⟩,
  ⟨(some 80), .mv (.t 79), none, none⟩,
  ⟨(some 81), .mv (.t 10), (some (80, true)), some [81, 80, 10]⟩,
  ⟨(some 82), .call (.c (.fn 19 [])) [(.c (.int .i64 6)), (.c (.str [97, 46, 98, 46, 99])), (.t 81)], (some (80, true)), none⟩,
  ⟨(some 83), .bin .eql (.t 82) (.c (.str [97, 46, 98])), (some (80, true)), none⟩,
  ⟨(some 84), .pick (.t 80) (.t 83) (.c (.bool false)), none, none⟩,
  ⟨(some 85), .mv (.t 84), none, none⟩,
  ⟨(some 86), .mv (.t 10), (some (85, true)), none⟩,
  ⟨(some 87), .call (.c (.fn 19 [])) [(.c (.int .i64 7)), (.c (.str [97, 46, 98, 46, 99])), (.t 86)], (some (85, true)), none⟩,
  ⟨(some 88), .bin .eql (.t 87) (.c (.str [97])), (some (85, true)), none⟩,
  ⟨(some 89), .pick (.t 85) (.t 88) (.c (.bool false)), none, some [89]⟩,
  ⟨(some 0), .mv (.t 89), none, none⟩]
def f10r9 : IC := .reg false [] f10o9 [0]
@[simp] theorem f10r9_run : run tbl fin K f10r9 e H = regK tbl fin K [] f10o9 [0] e H := run_regK _ _ _ _ _ _ _ _ _ rfl
def f10body : IC := (.seq f10r0 (.seq f10r1 (.seq f10r2 (.seq f10r3 (.seq f10r4 (.seq f10r5 (.seq f10r6 (.seq (.seq f10r7 (.cond (.t 73) (.seq f10r8 .ret) .skip)) (.seq f10r9 .ret)))))))))
def f10 : IFn := ⟨90, 0, [.tmp 0], f10body⟩
/- 11: jobshell/param.Value -/
@[simp] def f11o0 : List IOper := [
  ⟨(some 2), .box 30 15 (.t 0), none, none⟩,
  ⟨(some 4), .mv (.c (.str [])), none, none⟩,
  ⟨(some 5), .mv (.c (.bool false)), none, none⟩]
def f11r0 : IC := .reg false [] f11o0 [2, 1]
@[simp] theorem f11r0_run : run tbl fin K f11r0 e H = regK tbl fin K [] f11o0 [2, 1] e H := run_regK _ _ _ _ _ _ _ _ _ rfl
@[simp] def f11o1 : List IOper := [
  ⟨(some 8), .mv (.t 1), none, none⟩,
  ⟨(some 9), .call (.c (.fn 21 [])) [(.t 8)], none, none⟩]
def f11r1 : IC := .reg false [] f11o1 [9, 2, 1]
@[simp] theorem f11r1_run : run tbl fin K f11r1 e H = regK tbl fin K [] f11o1 [9, 2, 1] e H := run_regK _ _ _ _ _ _ _ _ _ rfl
@[simp] def f11o2 : List IOper := [
  ⟨(some 10), .load true 15 (.t 2), none, none⟩,
  ⟨(some 11), .mv (.t 1), none, none⟩,
  ⟨(some 12), .sidx (.t 11) (.c (.int .i64 0)), none, none⟩,
  ⟨(some 13), .call (.c (.fn 22 [])) [(.t 10), (.t 12)], none, none⟩,
  ⟨(some 14), .ext (.t 13) 0, none, none⟩,
  ⟨(some 15), .ext (.t 13) 1, none, none⟩,
  ⟨(some 4), .mv (.t 14), none, none⟩,
  ⟨(some 5), .mv (.t 15), none, none⟩]
def f11r2 : IC := .reg true [] f11o2 [4, 5]
@[simp] theorem f11r2_run : run tbl fin K f11r2 e H = regK tbl fin K [] f11o2 [4, 5] e H := run_regK _ _ _ _ _ _ _ _ _ rfl
@[simp] def f11o3 : List IOper := [
  ⟨(some 17), .mv (.t 1), none, none⟩,
  ⟨(some 18), .call (.c (.fn 23 [])) [(.t 17)], none, none⟩,
  ⟨(some 16), .mv (.t 18), none, none⟩,
  ⟨(some 19), .ext (.t 16) 0, none, none⟩,
  ⟨(some 20), .ext (.t 16) 1, none, none⟩,
  ⟨(some 6), .mv (.t 19), none, none⟩,
  ⟨(some 7), .mv (.t 20), none, none⟩]
def f11r3 : IC := .reg false [] f11o3 [7, 1, 6, 2]
@[simp] theorem f11r3_run : run tbl fin K f11r3 e H = regK tbl fin K [] f11o3 [7, 1, 6, 2] e H := run_regK _ _ _ _ _ _ _ _ _ rfl
@[simp] def f11o4 : List IOper := [
  ⟨(some 21), .mv (.t 7), none, none⟩]
def f11r4 : IC := .reg false [] f11o4 [21, 1, 6, 2]
@[simp] theorem f11r4_run : run tbl fin K f11r4 e H = regK tbl fin K [] f11o4 [21, 1, 6, 2] e H := run_regK _ _ _ _ _ _ _ _ _ rfl
@[simp] def f11o5 : List IOper := [
  ⟨(some 22), .mv (.t 6), none, none⟩,
  ⟨(some 23), .bin .lss (.t 22) (.c (.int .i64 1)), none, none⟩,
  ⟨(some 24), .mv (.t 23), none, none⟩,
  ⟨(some 25), .mv (.t 6), (some (24, false)), none⟩,
  ⟨(some 26), .fld 2 (.t 2), (some (24, false)), none⟩,
  ⟨(some 27), .load false 1 (.t 26), (some (24, false)), none⟩,
  ⟨(some 28), .len (.t 27), (some (24, false)), none⟩,
  ⟨(some 29), .bin .gtr (.t 25) (.t 28), (some (24, false)), none⟩,
  ⟨(some 30), .pick (.t 24) (.c (.bool true)) (.t 29), none, none⟩]
def f11r5 : IC := .reg false [] f11o5 [30, 6, 2]
@[simp] theorem f11r5_run : run tbl fin K f11r5 e H = regK tbl fin K [] f11o5 [30, 6, 2] e H := run_regK _ _ _ _ _ _ _ _ _ rfl
@[simp] def f11o6 : List IOper := [
  ⟨(some 4), .mv (.c (.str [])), none, none⟩,
  ⟨(some 5), .mv (.c (.bool false)), none, none⟩]
def f11r6 : IC := .reg false [] f11o6 [4, 5]
@[simp] theorem f11r6_run : run tbl fin K f11r6 e H = regK tbl fin K [] f11o6 [4, 5] e H := run_regK _ _ _ _ _ _ _ _ _ rfl
@[simp] def f11o7 : List IOper := [
  ⟨(some 31), .fld 2 (.t 2), none, none⟩,
  ⟨(some 32), .load false 1 (.t 31), none, none⟩,
  ⟨(some 33), .mv (.t 6), none, none⟩,
  ⟨(some 34), .bin .sub (.t 33) (.c (.int .i64 1)), none, none⟩,
  ⟨(some 35), .idx 1 (.t 32) (.t 34), none, none⟩,
  ⟨(some 36), .load false 1 (.t 35), none, none⟩,
  ⟨(some 4), .mv (.t 36), none, none⟩,
  ⟨(some 5), .mv (.c (.bool true)), none, none⟩]
def f11r7 : IC := .reg false [] f11o7 [4, 5]
@[simp] theorem f11r7_run : run tbl fin K f11r7 e H = regK tbl fin K [] f11o7 [4, 5] e H := run_regK _ _ _ _ _ _ _ _ _ rfl
@[simp] def f11o8 : List IOper := [
  ⟨(some 37), .mv (.t 1), none, none⟩,
  ⟨(some 38), .call (.c (.fn 24 [])) [(.t 37)], none, none⟩,
  ⟨(some 39), .un .not (.t 38), none, none⟩]
def f11r8 : IC := .reg false [] f11o8 [39, 1, 2]
@[simp] theorem f11r8_run : run tbl fin K f11r8 e H = regK tbl fin K [] f11o8 [39, 1, 2] e H := run_regK _ _ _ _ _ _ _ _ _ rfl
@[simp] def f11o9 : List IOper := [
  ⟨(some 4), .mv (.c (.str [])), none, none⟩,
  ⟨(some 5), .mv (.c (.bool false)), none, none⟩]
def f11r9 : IC := .reg false [] f11o9 [4, 5]
@[simp] theorem f11r9_run : run tbl fin K f11r9 e H = regK tbl fin K [] f11o9 [4, 5] e H := run_regK _ _ _ _ _ _ _ _ _ rfl
@[simp] def f11o10 : List IOper := [
  ⟨(some 40), .load true 15 (.t 2), none, none⟩,
  ⟨(some 41), .mv (.t 1), none, none⟩,
  ⟨(some 42), .call (.c (.fn 25 [])) [(.t 40), (.t 41)], none, none⟩,
  ⟨(some 43), .ext (.t 42) 0, none, none⟩,
  ⟨(some 44), .ext (.t 42) 1, none, none⟩,
  ⟨(some 4), .mv (.t 43), none, none⟩,
  ⟨(some 5), .mv (.t 44), none, none⟩]
def f11r10 : IC := .reg false [] f11o10 [4, 5]
@[simp] theorem f11r10_run : run tbl fin K f11r10 e H = regK tbl fin K [] f11o10 [4, 5] e H := run_regK _ _ _ _ _ _ _ _ _ rfl
def f11body : IC := (.seq f11r0 (.seq (.seq f11r1 (.cond (.t 9) (.seq f11r2 .ret) .skip)) (.seq (.seq f11r3 (.seq f11r4 (.cond (.t 21) (.seq (.seq f11r5 (.cond (.t 30) (.seq f11r6 .ret) .skip)) (.seq f11r7 .ret)) .skip))) (.seq (.seq f11r8 (.cond (.t 39) (.seq f11r9 .ret) .skip)) (.seq f11r10 .ret)))))
def f11 : IFn := ⟨45, 2, [.tmp 4, .tmp 5], f11body⟩
/- 12: jobshell/jobshellref17.Value -/
@[simp] def f12o0 : List IOper := [
  ⟨(some 2), .box 30 15 (.t 0), none, none⟩,
  ⟨(some 4), .mv (.c (.str [])), none, none⟩,
  ⟨(some 5), .mv (.c (.bool false)), none, none⟩]
def f12r0 : IC := .reg false [] f12o0 [2, 1]
@[simp] theorem f12r0_run : run tbl fin K f12r0 e H = regK tbl fin K [] f12o0 [2, 1] e H := run_regK _ _ _ _ _ _ _ _ _ rfl
@[simp] def f12o1 : List IOper := [
  ⟨(some 9), .mv (.t 1), none, none⟩,
  ⟨(some 10), .call (.c (.fn 26 [])) [(.t 9)], none, none⟩,
  ⟨(some 6), .mv (.t 10), none, none⟩]
def f12r1 : IC := .reg false [] f12o1 [6, 2, 1]
@[simp] theorem f12r1_run : run tbl fin K f12r1 e H = regK tbl fin K [] f12o1 [6, 2, 1] e H := run_regK _ _ _ _ _ _ _ _ _ rfl
@[simp] def f12o2 : List IOper := [
  ⟨(some 12), .mv (.t 1), none, none⟩,
  ⟨(some 13), .call (.c (.fn 27 [])) [(.t 12)], none, none⟩,
  ⟨(some 11), .mv (.t 13), none, none⟩]
def f12r2 : IC := .reg false [] f12o2 [11, 6, 2, 1]
@[simp] theorem f12r2_run : run tbl fin K f12r2 e H = regK tbl fin K [] f12o2 [11, 6, 2, 1] e H := run_regK _ _ _ _ _ _ _ _ _ rfl
@[simp] def f12o3 : List IOper := [
  ⟨(some 15), .fld 1 (.t 2), none, none⟩,
  ⟨(some 16), .load false 1 (.t 15), none, none⟩,
  ⟨(some 17), .mv (.t 1), none, none⟩,
  ⟨(some 18), .call (.c (.fn 28 [])) [(.t 16), (.t 17)], none, none⟩,
  ⟨(some 14), .mv (.t 18), none, none⟩,
  ⟨(some 19), .ext (.t 14) 0, none, none⟩,
  ⟨(some 20), .ext (.t 14) 1, none, none⟩,
  ⟨(some 7), .new 49 5 (.agg [(.str []), (.str []), (.bool false), (.bool false), (.bool false)]), none, none⟩,
  ⟨none, .store 5 (.t 7) (.t 19), none, none⟩,
  ⟨(some 8), .mv (.t 20), none, none⟩]
def f12r3 : IC := .reg false [] f12o3 [7]
@[simp] theorem f12r3_run : run tbl fin K f12r3 e H = regK tbl fin K [] f12o3 [7] e H := run_regK _ _ _ _ _ _ _ _ _ rfl
@[simp] def f12o4 : List IOper := [
  ⟨(some 21), .fld 2 (.t 7), none, none⟩,
  ⟨(some 22), .load false 1 (.t 21), none, none⟩,
  ⟨(some 23), .un .not (.t 22), none, none⟩]
def f12r4 : IC := .reg false [] f12o4 [23, 7]
@[simp] theorem f12r4_run : run tbl fin K f12r4 e H = regK tbl fin K [] f12o4 [23, 7] e H := run_regK _ _ _ _ _ _ _ _ _ rfl
@[simp] def f12o5 : List IOper := [
  ⟨(some 4), .mv (.c (.str [])), none, none⟩,
  ⟨(some 5), .mv (.c (.bool false)), none, none⟩]
def f12r5 : IC := .reg false [] f12o5 [4, 5]
@[simp] theorem f12r5_run : run tbl fin K f12r5 e H = regK tbl fin K [] f12o5 [4, 5] e H := run_regK _ _ _ _ _ _ _ _ _ rfl
@[simp] def f12o6 : List IOper := [
  ⟨(some 24), .fld 1 (.t 7), none, none⟩,
  ⟨(some 25), .load false 1 (.t 24), none, none⟩,
  ⟨(some 4), .mv (.t 25), none, none⟩,
  ⟨(some 5), .mv (.c (.bool true)), none, none⟩]
def f12r6 : IC := .reg false [] f12o6 [4, 5]
@[simp] theorem f12r6_run : run tbl fin K f12r6 e H = regK tbl fin K [] f12o6 [4, 5] e H := run_regK _ _ _ _ _ _ _ _ _ rfl
@[simp] def f12o7 : List IOper := [
  ⟨(some 27), .mv (.t 6), none, none⟩,
  ⟨(some 28), .bin .gtr (.t 27) (.c (.int .i64 0)), none, none⟩,
  ⟨(some 29), .mv (.t 28), none, none⟩,
  ⟨(some 30), .mv (.t 6), (some (29, true)), none⟩,
  ⟨(some 31), .fld 2 (.t 2), (some (29, true)), none⟩,
  ⟨(some 32), .load false 1 (.t 31), (some (29, true)), none⟩,
  ⟨(some 33), .len (.t 32), (some (29, true)), none⟩,
  ⟨(some 34), .bin .leq (.t 30) (.t 33), (some (29, true)), none⟩,
  ⟨(some 35), .pick (.t 29) (.t 34) (.c (.bool false)), none, none⟩,
  ⟨(some 26), .mv (.t 35), none, none⟩]
def f12r7 : IC := .reg false [] f12o7 [26, 1, 2, 6]
@[simp] theorem f12r7_run : run tbl fin K f12r7 e H = regK tbl fin K [] f12o7 [26, 1, 2, 6] e H := run_regK _ _ _ _ _ _ _ _ _ rfl
@[simp] def f12o8 : List IOper := [
  ⟨(some 36), .fld 2 (.t 2), none, none⟩,
  ⟨(some 37), .load false 1 (.t 36), none, none⟩,
  ⟨(some 38), .mv (.t 6), none, none⟩,
  ⟨(some 39), .bin .sub (.t 38) (.c (.int .i64 1)), none, none⟩,
  ⟨(some 40), .idx 1 (.t 37) (.t 39), none, none⟩,
  ⟨(some 41), .load false 1 (.t 40), none, none⟩,
  ⟨(some 4), .mv (.t 41), none, none⟩,
  ⟨(some 5), .mv (.c (.bool true)), none, none⟩]
def f12r8 : IC := .reg false [] f12o8 [4, 5]
@[simp] theorem f12r8_run : run tbl fin K f12r8 e H = regK tbl fin K [] f12o8 [4, 5] e H := run_regK _ _ _ _ _ _ _ _ _ rfl
@[simp] def f12o9 : List IOper := [
  ⟨(some 43), .mv (.t 1), none, none⟩,
  ⟨(some 44), .bin .eql (.t 43) (.c (.str [48])), none, none⟩,
  ⟨(some 42), .mv (.t 44), none, none⟩]
def f12r9 : IC := .reg false [] f12o9 [42, 1, 2]
@[simp] theorem f12r9_run : run tbl fin K f12r9 e H = regK tbl fin K [] f12o9 [42, 1, 2] e H := run_regK _ _ _ _ _ _ _ _ _ rfl
@[simp] def f12o10 : List IOper := [
  ⟨(some 45), .fld 0 (.t 2), none, none⟩,
  ⟨(some 46), .load false 1 (.t 45), none, none⟩,
  ⟨(some 4), .mv (.t 46), none, none⟩,
  ⟨(some 5), .mv (.c (.bool true)), none, none⟩]
def f12r10 : IC := .reg false [] f12o10 [4, 5]
@[simp] theorem f12r10_run : run tbl fin K f12r10 e H = regK tbl fin K [] f12o10 [4, 5] e H := run_regK _ _ _ _ _ _ _ _ _ rfl
@[simp] def f12o11 : List IOper := [
  ⟨(some 48), .mv (.t 1), none, none⟩,
  ⟨(some 49), .bin .eql (.t 48) (.c (.str [35])), none, none⟩,
  ⟨(some 47), .mv (.t 49), none, none⟩]
def f12r11 : IC := .reg false [] f12o11 [47, 1, 2]
@[simp] theorem f12r11_run : run tbl fin K f12r11 e H = regK tbl fin K [] f12o11 [47, 1, 2] e H := run_regK _ _ _ _ _ _ _ _ _ rfl
@[simp] def f12o12 : List IOper := [
  ⟨(some 50), .fld 2 (.t 2), none, none⟩,
  ⟨(some 51), .load false 1 (.t 50), none, none⟩,
  ⟨(some 52), .len (.t 51), none, none⟩,
  ⟨(some 53), .call (.c (.fn 29 [])) [(.t 52)], none, none⟩,
  ⟨(some 4), .mv (.t 53), none, none⟩,
  ⟨(some 5), .mv (.c (.bool true)), none, none⟩]
def f12r12 : IC := .reg false [] f12o12 [4, 5]
@[simp] theorem f12r12_run : run tbl fin K f12r12 e H = regK tbl fin K [] f12o12 [4, 5] e H := run_regK _ _ _ _ _ _ _ _ _ rfl
@[simp] def f12o13 : List IOper := [
  ⟨(some 55), .mv (.t 1), none, none⟩,
  ⟨(some 56), .bin .eql (.t 55) (.c (.str [63])), none, none⟩,
  ⟨(some 54), .mv (.t 56), none, none⟩]
def f12r13 : IC := .reg false [] f12o13 [54, 1, 2]
@[simp] theorem f12r13_run : run tbl fin K f12r13 e H = regK tbl fin K [] f12o13 [54, 1, 2] e H := run_regK _ _ _ _ _ _ _ _ _ rfl
@[simp] def f12o14 : List IOper := [
  ⟨(some 57), .fld 7 (.t 2), none, none⟩,
  ⟨(some 58), .load false 1 (.t 57), none, none⟩,
  ⟨(some 59), .call (.c (.fn 29 [])) [(.t 58)], none, none⟩,
  ⟨(some 4), .mv (.t 59), none, none⟩,
  ⟨(some 5), .mv (.c (.bool true)), none, none⟩]
def f12r14 : IC := .reg false [] f12o14 [4, 5]
@[simp] theorem f12r14_run : run tbl fin K f12r14 e H = regK tbl fin K [] f12o14 [4, 5] e H := run_regK _ _ _ _ _ _ _ _ _ rfl
@[simp] def f12o15 : List IOper := [
  ⟨(some 61), .mv (.t 1), none, none⟩,
  ⟨(some 62), .bin .eql (.t 61) (.c (.str [45])), none, none⟩,
  ⟨(some 60), .mv (.t 62), none, none⟩]
def f12r15 : IC := .reg false [] f12o15 [60, 1, 2]
@[simp] theorem f12r15_run : run tbl fin K f12r15 e H = regK tbl fin K [] f12o15 [60, 1, 2] e H := run_regK _ _ _ _ _ _ _ _ _ rfl
@[simp] def f12o16 : List IOper := [
  ⟨(some 63), .fld 6 (.t 2), none, none⟩,
  ⟨(some 64), .load false 1 (.t 63), none, none⟩,
  ⟨(some 65), .call (.c (.fn 30 [])) [(.t 64)], none, none⟩,
  ⟨(some 4), .mv (.t 65), none, none⟩,
  ⟨(some 5), .mv (.c (.bool true)), none, none⟩]
def f12r16 : IC := .reg false [] f12o16 [4, 5]
@[simp] theorem f12r16_run : run tbl fin K f12r16 e H = regK tbl fin K [] f12o16 [4, 5] e H := run_regK _ _ _ _ _ _ _ _ _ rfl
@[simp] def f12o17 : List IOper := [
  ⟨(some 67), .mv (.t 1), none, none⟩,
  ⟨(some 68), .bin .eql (.t 67) (.c (.str [36])), none, none⟩,
  ⟨(some 66), .mv (.t 68), none, none⟩]
def f12r17 : IC := .reg false [] f12o17 [66, 1, 2]
@[simp] theorem f12r17_run : run tbl fin K f12r17 e H = regK tbl fin K [] f12o17 [66, 1, 2] e H := run_regK _ _ _ _ _ _ _ _ _ rfl
@[simp] def f12o18 : List IOper := [
  ⟨(some 69), .fld 8 (.t 2), none, none⟩,
  ⟨(some 70), .load false 1 (.t 69), none, none⟩,
  ⟨(some 71), .call (.c (.fn 29 [])) [(.t 70)], none, none⟩,
  ⟨(some 4), .mv (.t 71), none, none⟩,
  ⟨(some 5), .mv (.c (.bool true)), none, none⟩]
def f12r18 : IC := .reg false [] f12o18 [4, 5]
@[simp] theorem f12r18_run : run tbl fin K f12r18 e H = regK tbl fin K [] f12o18 [4, 5] e H := run_regK _ _ _ _ _ _ _ _ _ rfl
@[simp] def f12o19 : List IOper := [
  ⟨(some 73), .mv (.t 1), none, none⟩,
  ⟨(some 74), .bin .eql (.t 73) (.c (.str [33])), none, none⟩,
  ⟨(some 75), .mv (.t 74), none, none⟩,
  ⟨(some 76), .fld 9 (.t 2), (some (75, true)), none⟩,
  ⟨(some 77), .load false 1 (.t 76), (some (75, true)), none⟩,
  ⟨(some 78), .bin .neq (.t 77) (.c (.int .i64 0)), (some (75, true)), none⟩,
  ⟨(some 79), .pick (.t 75) (.t 78) (.c (.bool false)), none, none⟩,
  ⟨(some 72), .mv (.t 79), none, none⟩]
def f12r19 : IC := .reg false [] f12o19 [72, 1, 2]
@[simp] theorem f12r19_run : run tbl fin K f12r19 e H = regK tbl fin K [] f12o19 [72, 1, 2] e H := run_regK _ _ _ _ _ _ _ _ _ rfl
@[simp] def f12o20 : List IOper := [
  ⟨(some 80), .fld 9 (.t 2), none, none⟩,
  ⟨(some 81), .load false 1 (.t 80), none, none⟩,
  ⟨(some 82), .call (.c (.fn 29 [])) [(.t 81)], none, none⟩,
  ⟨(some 4), .mv (.t 82), none, none⟩,
  ⟨(some 5), .mv (.c (.bool true)), none, none⟩]
def f12r20 : IC := .reg false [] f12o20 [4, 5]
@[simp] theorem f12r20_run : run tbl fin K f12r20 e H = regK tbl fin K [] f12o20 [4, 5] e H := run_regK _ _ _ _ _ _ _ _ _ rfl
@[simp] def f12o21 : List IOper := [
  ⟨(some 84), .mv (.t 1), none, none⟩,
  ⟨(some 85), .bin .eql (.t 84) (.c (.str [64])), none, none⟩,
  ⟨(some 83), .mv (.t 85), none, none⟩]
def f12r21 : IC := .reg false [] f12o21 [83, 1, 2]
@[simp] theorem f12r21_run : run tbl fin K f12r21 e H = regK tbl fin K [] f12o21 [83, 1, 2] e H := run_regK _ _ _ _ _ _ _ _ _ rfl
@[simp] def f12o22 : List IOper := [
  ⟨(some 86), .fld 2 (.t 2), none, none⟩,
  ⟨(some 87), .load false 1 (.t 86), none, none⟩,
  ⟨(some 88), .call (.c (.fn 31 [])) [(.t 87), (.c (.str [32]))], none, none⟩,
  ⟨(some 89), .fld 2 (.t 2), none, none⟩,
  ⟨(some 90), .load false 1 (.t 89), none, none⟩,
  ⟨(some 91), .len (.t 90), none, none⟩,
  ⟨(some 92), .bin .gtr (.t 91) (.c (.int .i64 0)), none, none⟩,
  ⟨(some 4), .mv (.t 88), none, none⟩,
  ⟨(some 5), .mv (.t 92), none, none⟩]
def f12r22 : IC := .reg true [] f12o22 [4, 5]
@[simp] theorem f12r22_run : run tbl fin K f12r22 e H = regK tbl fin K [] f12o22 [4, 5] e H := run_regK _ _ _ _ _ _ _ _ _ rfl
@[simp] def f12o23 : List IOper := [
  ⟨(some 94), .mv (.t 1), none, none⟩,
  ⟨(some 95), .bin .eql (.t 94) (.c (.str [42])), none, none⟩,
  ⟨(some 93), .mv (.t 95), none, none⟩]
def f12r23 : IC := .reg false [] f12o23 [93, 2]
@[simp] theorem f12r23_run : run tbl fin K f12r23 e H = regK tbl fin K [] f12o23 [93, 2] e H := run_regK _ _ _ _ _ _ _ _ _ rfl
@[simp] def f12o24 : List IOper := [
  ⟨(some 96), .fld 2 (.t 2), none, none⟩,
  ⟨(some 97), .load false 1 (.t 96), none, none⟩,
  ⟨(some 98), .fld 1 (.t 2), none, none⟩,
  ⟨(some 99), .load false 1 (.t 98), none, none⟩,
  ⟨(some 100), .call (.c (.fn 32 [])) [(.t 99)], none, none⟩,
  ⟨(some 101), .call (.c (.fn 31 [])) [(.t 97), (.t 100)], none, none⟩,
  ⟨(some 102), .fld 2 (.t 2), none, none⟩,
  ⟨(some 103), .load false 1 (.t 102), none, none⟩,
  ⟨(some 104), .len (.t 103), none, none⟩,
  ⟨(some 105), .bin .gtr (.t 104) (.c (.int .i64 0)), none, none⟩,
  ⟨(some 4), .mv (.t 101), none, none⟩,
  ⟨(some 5), .mv (.t 105), none, none⟩]
def f12r24 : IC := .reg true [] f12o24 [4, 5]
@[simp] theorem f12r24_run : run tbl fin K f12r24 e H = regK tbl fin K [] f12o24 [4, 5] e H := run_regK _ _ _ _ _ _ _ _ _ rfl
@[simp] def f12o25 : List IOper := [
  ⟨(some 4), .mv (.c (.str [])), none, none⟩,
  ⟨(some 5), .mv (.c (.bool false)), none, none⟩]
def f12r25 : IC := .reg false [] f12o25 [4, 5]
@[simp] theorem f12r25_run : run tbl fin K f12r25 e H = regK tbl fin K [] f12o25 [4, 5] e H := run_regK _ _ _ _ _ _ _ _ _ rfl
def f12body : IC := (.seq f12r0 (.seq f12r1 (.seq (.block 0 (.seq f12r2 (.cond (.t 11) (.seq f12r3 (.seq (.seq f12r4 (.cond (.t 23) (.seq f12r5 .ret) .skip)) (.seq f12r6 .ret))) (.seq f12r7 (.cond (.t 26) (.seq f12r8 .ret) (.seq f12r9 (.cond (.t 42) (.seq f12r10 .ret) (.seq f12r11 (.cond (.t 47) (.seq f12r12 .ret) (.seq f12r13 (.cond (.t 54) (.seq f12r14 .ret) (.seq f12r15 (.cond (.t 60) (.seq f12r16 .ret) (.seq f12r17 (.cond (.t 66) (.seq f12r18 .ret) (.seq f12r19 (.cond (.t 72) (.seq f12r20 .ret) (.seq f12r21 (.cond (.t 83) (.seq f12r22 .ret) (.seq f12r23 (.cond (.t 93) (.seq f12r24 .ret) .skip))))))))))))))))))))) (.seq f12r25 .ret))))
def f12 : IFn := ⟨106, 2, [.tmp 4, .tmp 5], f12body⟩
/- 13: jobshell/param.Valid -/
@[simp] def f13o0 : List IOper := [
  ⟨(some 2), .mv (.c (.bool false)), none, none⟩]
def f13r0 : IC := .reg false [] f13o0 [0]
@[simp] theorem f13r0_run : run tbl fin K f13r0 e H = regK tbl fin K [] f13o0 [0] e H := run_regK _ _ _ _ _ _ _ _ _ rfl
@[simp] def f13o1 : List IOper := [
  ⟨(some 6), .mv (.t 0), none, none⟩,
  ⟨(some 7), .call (.c (.fn 23 [])) [(.t 6)], none, none⟩,
  ⟨(some 5), .mv (.t 7), none, none⟩,
  ⟨(some 8), .ext (.t 5) 0, none, none⟩,
  ⟨(some 9), .ext (.t 5) 1, none, none⟩,
  ⟨(some 3), .mv (.t 8), none, none⟩,
  ⟨(some 4), .mv (.t 9), none, none⟩]
def f13r1 : IC := .reg false [] f13o1 [4, 0]
@[simp] theorem f13r1_run : run tbl fin K f13r1 e H = regK tbl fin K [] f13o1 [4, 0] e H := run_regK _ _ _ _ _ _ _ _ _ rfl
@[simp] def f13o2 : List IOper := [
  ⟨(some 10), .mv (.t 4), none, none⟩,
  ⟨(some 11), .mv (.t 10), none, none⟩,
  ⟨(some 12), .mv (.t 0), (some (11, false)), none⟩,
  ⟨(some 13), .call (.c (.fn 21 [])) [(.t 12)], (some (11, false)), none⟩,
  ⟨(some 14), .pick (.t 11) (.c (.bool true)) (.t 13), none, none⟩,
  ⟨(some 15), .mv (.t 14), none, none⟩,
  ⟨(some 16), .mv (.t 0), (some (15, false)), none⟩,
  ⟨(some 17), .call (.c (.fn 24 [])) [(.t 16)], (some (15, false)), none⟩,
  ⟨(some 18), .pick (.t 15) (.c (.bool true)) (.t 17), none, none⟩,
  ⟨(some 2), .mv (.t 18), none, none⟩]
def f13r2 : IC := .reg false [] f13o2 [2]
@[simp] theorem f13r2_run : run tbl fin K f13r2 e H = regK tbl fin K [] f13o2 [2] e H := run_regK _ _ _ _ _ _ _ _ _ rfl
def f13body : IC := (.seq f13r0 (.seq f13r1 (.seq f13r2 .ret)))
def f13 : IFn := ⟨19, 1, [.tmp 2], f13body⟩
/- 14: jobshell/jobshellref17.Valid -/
@[simp] def f14o0 : List IOper := [
  ⟨(some 2), .mv (.c (.bool false)), none, none⟩]
def f14r0 : IC := .reg false [] f14o0 [0]
@[simp] theorem f14r0_run : run tbl fin K f14r0 e H = regK tbl fin K [] f14o0 [0] e H := run_regK _ _ _ _ _ _ _ _ _ rfl
@[simp] def f14o1 : List IOper := [
  ⟨(some 3), .mv (.t 0), none, none⟩,
  ⟨(some 4), .call (.c (.fn 27 [])) [(.t 3)], none, none⟩,
  ⟨(some 5), .mv (.t 4), none, none⟩,
  ⟨(some 6), .mv (.t 0), (some (5, false)), none⟩,
  ⟨(some 7), .call (.c (.fn 26 [])) [(.t 6)], (some (5, false)), none⟩,
  ⟨(some 8), .bin .gtr (.t 7) (.c (.int .i64 0)), (some (5, false)), none⟩,
  ⟨(some 9), .pick (.t 5) (.c (.bool true)) (.t 8), none, none⟩,
  ⟨(some 10), .mv (.t 9), none, some [0, 10]⟩,
  ⟨(some 11), .mv (.t 0), (some (10, false)), none⟩,
  ⟨(some 12), .call (.c (.fn 33 [])) [(.t 11)], (some (10, false)), none⟩,
  ⟨(some 13), .pick (.t 10) (.c (.bool true)) (.t 12), none, none⟩,
  ⟨(some 2), .mv (.t 13), none, none⟩]
def f14r1 : IC := .reg false [] f14o1 [2]
@[simp] theorem f14r1_run : run tbl fin K f14r1 e H = regK tbl fin K [] f14o1 [2] e H := run_regK _ _ _ _ _ _ _ _ _ rfl
def f14body : IC := (.seq f14r0 (.seq f14r1 .ret))
def f14 : IFn := ⟨14, 1, [.tmp 2], f14body⟩
/- 15: jobshell/param.Choose -/
@[simp] def f15o0 : List IOper := [
  ⟨(some 8), .mv (.c (.int .i64 0)), none, none⟩]
def f15r0 : IC := .reg false [] f15o0 [2, 1, 3, 0]
@[simp] theorem f15r0_run : run tbl fin K f15r0 e H = regK tbl fin K [] f15o0 [2, 1, 3, 0] e H := run_regK _ _ _ _ _ _ _ _ _ rfl
@[simp] def f15o1 : List IOper := [
  ⟨(some 10), .mv (.t 2), none, none⟩,
  ⟨(some 11), .un .not (.t 10), none, none⟩,
  ⟨(some 12), .mv (.t 11), none, none⟩,
  ⟨(some 13), .mv (.t 1), (some (12, false)), none⟩,
  ⟨(some 14), .mv (.t 13), (some (12, false)), none⟩,
  ⟨(some 15), .mv (.t 3), (some (14, true)), none⟩,
  ⟨(some 16), .bin .eql (.t 15) (.c (.str [])), (some (14, true)), none⟩,
  ⟨(some 17), .pick (.t 14) (.t 16) (.c (.bool false)), (some (12, false)), none⟩,
  ⟨(some 18), .pick (.t 12) (.c (.bool true)) (.t 17), none, none⟩,
  ⟨(some 9), .mv (.t 18), none, none⟩]
def f15r1 : IC := .reg false [] f15o1 [0, 9]
@[simp] theorem f15r1_run : run tbl fin K f15r1 e H = regK tbl fin K [] f15o1 [0, 9] e H := run_regK _ _ _ _ _ _ _ _ _ rfl
@[simp] def f15o2 : List IOper := [
  ⟨(some 19), .mv (.t 0), none, none⟩]
def f15r2 : IC := .reg false [] f15o2 [19, 9]
@[simp] theorem f15r2_run : run tbl fin K f15r2 e H = regK tbl fin K [] f15o2 [19, 9] e H := run_regK _ _ _ _ _ _ _ _ _ rfl
@[simp] def f15o3 : List IOper := [
  ⟨(some 21), .bin .eql (.t 19) (.c (.int .i64 1)), none, none⟩,
  ⟨(some 20), .mv (.t 21), none, none⟩]
def f15r3 : IC := .reg false [] f15o3 [20, 19, 9]
@[simp] theorem f15r3_run : run tbl fin K f15r3 e H = regK tbl fin K [] f15o3 [20, 19, 9] e H := run_regK _ _ _ _ _ _ _ _ _ rfl
@[simp] def f15o4 : List IOper := [
  ⟨(some 22), .mv (.t 9), none, none⟩]
def f15r4 : IC := .reg false [] f15o4 [22]
@[simp] theorem f15r4_run : run tbl fin K f15r4 e H = regK tbl fin K [] f15o4 [22] e H := run_regK _ _ _ _ _ _ _ _ _ rfl
@[simp] def f15o5 : List IOper := [
  ⟨(some 8), .mv (.c (.int .i64 1)), none, none⟩]
def f15r5 : IC := .reg false [] f15o5 [8]
@[simp] theorem f15r5_run : run tbl fin K f15r5 e H = regK tbl fin K [] f15o5 [8] e H := run_regK _ _ _ _ _ _ _ _ _ rfl
@[simp] def f15o6 : List IOper := [
  ⟨(some 24), .bin .eql (.t 19) (.c (.int .i64 2)), none, none⟩,
  ⟨(some 23), .mv (.t 24), none, none⟩]
def f15r6 : IC := .reg false [] f15o6 [23, 19, 9]
@[simp] theorem f15r6_run : run tbl fin K f15r6 e H = regK tbl fin K [] f15o6 [23, 19, 9] e H := run_regK _ _ _ _ _ _ _ _ _ rfl
@[simp] def f15o7 : List IOper := [
  ⟨(some 25), .mv (.t 9), none, none⟩]
def f15r7 : IC := .reg false [] f15o7 [25]
@[simp] theorem f15r7_run : run tbl fin K f15r7 e H = regK tbl fin K [] f15o7 [25] e H := run_regK _ _ _ _ _ _ _ _ _ rfl
@[simp] def f15o8 : List IOper := [
  ⟨(some 8), .mv (.c (.int .i64 3)), none, none⟩]
def f15r8 : IC := .reg false [] f15o8 [8]
@[simp] theorem f15r8_run : run tbl fin K f15r8 e H = regK tbl fin K [] f15o8 [8] e H := run_regK _ _ _ _ _ _ _ _ _ rfl
@[simp] def f15o9 : List IOper := [
  ⟨(some 27), .bin .eql (.t 19) (.c (.int .i64 3)), none, none⟩,
  ⟨(some 26), .mv (.t 27), none, none⟩]
def f15r9 : IC := .reg false [] f15o9 [26, 19, 9]
@[simp] theorem f15r9_run : run tbl fin K f15r9 e H = regK tbl fin K [] f15o9 [26, 19, 9] e H := run_regK _ _ _ _ _ _ _ _ _ rfl
@[simp] def f15o10 : List IOper := [
  ⟨(some 28), .mv (.t 9), none, none⟩]
def f15r10 : IC := .reg false [] f15o10 [28]
@[simp] theorem f15r10_run : run tbl fin K f15r10 e H = regK tbl fin K [] f15o10 [28] e H := run_regK _ _ _ _ _ _ _ _ _ rfl
@[simp] def f15o11 : List IOper := [
  ⟨(some 8), .mv (.c (.int .i64 4)), none, none⟩]
def f15r11 : IC := .reg false [] f15o11 [8]
@[simp] theorem f15r11_run : run tbl fin K f15r11 e H = regK tbl fin K [] f15o11 [8] e H := run_regK _ _ _ _ _ _ _ _ _ rfl
@[simp] def f15o12 : List IOper := [
  ⟨(some 30), .bin .eql (.t 19) (.c (.int .i64 4)), none, none⟩,
  ⟨(some 29), .mv (.t 30), none, none⟩]
def f15r12 : IC := .reg false [] f15o12 [29, 9]
@[simp] theorem f15r12_run : run tbl fin K f15r12 e H = regK tbl fin K [] f15o12 [29, 9] e H := run_regK _ _ _ _ _ _ _ _ _ rfl
@[simp] def f15o13 : List IOper := [
  ⟨(some 31), .mv (.t 9), none, none⟩]
def f15r13 : IC := .reg false [] f15o13 [31]
@[simp] theorem f15r13_run : run tbl fin K f15r13 e H = regK tbl fin K [] f15o13 [31] e H := run_regK _ _ _ _ _ _ _ _ _ rfl
@[simp] def f15o14 : List IOper := [
  ⟨(some 8), .mv (.c (.int .i64 2)), none, none⟩]
def f15r14 : IC := .reg false [] f15o14 [8]
@[simp] theorem f15r14_run : run tbl fin K f15r14 e H = regK tbl fin K [] f15o14 [8] e H := run_regK _ _ _ _ _ _ _ _ _ rfl
@[simp] def f15o15 : List IOper := [
  ⟨(some 8), .mv (.c (.int .i64 1)), none, none⟩]
def f15r15 : IC := .reg false [] f15o15 [8]
@[simp] theorem f15r15_run : run tbl fin K f15r15 e H = regK tbl fin K [] f15o15 [8] e H := run_regK _ _ _ _ _ _ _ _ _ rfl
@[simp] def f15o16 : List IOper := [
  ⟨(some 8), .mv (.c (.int .i64 0)), none, none⟩]
def f15r16 : IC := .reg false [] f15o16 [8]
@[simp] theorem f15r16_run : run tbl fin K f15r16 e H = regK tbl fin K [] f15o16 [8] e H := run_regK _ _ _ _ _ _ _ _ _ rfl
def f15body : IC := (.seq f15r0 (.seq f15r1 (.seq (.seq f15r2 (.block 0 (.seq f15r3 (.cond (.t 20) (.seq f15r4 (.cond (.t 22) (.seq f15r5 .ret) .skip)) (.seq f15r6 (.cond (.t 23) (.seq f15r7 (.cond (.t 25) (.seq f15r8 .ret) .skip)) (.seq f15r9 (.cond (.t 26) (.seq f15r10 (.cond (.t 28) (.seq f15r11 .ret) .skip)) (.seq f15r12 (.cond (.t 29) (.seq (.seq f15r13 (.cond (.t 31) (.seq f15r14 .ret) .skip)) (.seq f15r15 .ret)) .skip)))))))))) (.seq f15r16 .ret))))
def f15 : IFn := ⟨32, 4, [.tmp 8], f15body⟩
/- 16: jobshell/jobshellref17.Choose -/
@[simp] def f16o0 : List IOper := [
  ⟨(some 8), .mv (.c (.int .i64 0)), none, none⟩]
def f16r0 : IC := .reg false [] f16o0 [2, 1, 3, 0]
@[simp] theorem f16r0_run : run tbl fin K f16r0 e H = regK tbl fin K [] f16o0 [2, 1, 3, 0] e H := run_regK _ _ _ _ _ _ _ _ _ rfl
@[simp] def f16o1 : List IOper := [
  ⟨(some 10), .mv (.t 2), none, none⟩,
  ⟨(some 11), .un .not (.t 10), none, none⟩,
  ⟨(some 12), .mv (.t 11), none, none⟩,
  ⟨(some 13), .mv (.t 1), (some (12, false)), none⟩,
  ⟨(some 14), .mv (.t 13), (some (12, false)), none⟩,
  ⟨(some 15), .mv (.t 3), (some (14, true)), none⟩,
  ⟨(some 16), .bin .eql (.t 15) (.c (.str [])), (some (14, true)), none⟩,
  ⟨(some 17), .pick (.t 14) (.t 16) (.c (.bool false)), (some (12, false)), none⟩,
  ⟨(some 18), .pick (.t 12) (.c (.bool true)) (.t 17), none, none⟩,
  ⟨(some 9), .mv (.t 18), none, none⟩]
def f16r1 : IC := .reg false [] f16o1 [0, 9]
@[simp] theorem f16r1_run : run tbl fin K f16r1 e H = regK tbl fin K [] f16o1 [0, 9] e H := run_regK _ _ _ _ _ _ _ _ _ rfl
@[simp] def f16o2 : List IOper := [
  ⟨(some 20), .mv (.t 0), none, none⟩,
  ⟨(some 21), .bin .eql (.t 20) (.c (.int .i64 4)), none, none⟩,
  ⟨(some 22), .mv (.t 21), none, none⟩,
  ⟨(some 23), .mv (.t 9), (some (22, true)), none⟩,
  ⟨(some 24), .pick (.t 22) (.t 23) (.c (.bool false)), none, none⟩,
  ⟨(some 19), .mv (.t 24), none, none⟩]
def f16r2 : IC := .reg false [] f16o2 [19, 0, 9]
@[simp] theorem f16r2_run : run tbl fin K f16r2 e H = regK tbl fin K [] f16o2 [19, 0, 9] e H := run_regK _ _ _ _ _ _ _ _ _ rfl
@[simp] def f16o3 : List IOper := [
  ⟨(some 8), .mv (.c (.int .i64 2)), none, none⟩]
def f16r3 : IC := .reg false [] f16o3 [8]
@[simp] theorem f16r3_run : run tbl fin K f16r3 e H = regK tbl fin K [] f16o3 [8] e H := run_regK _ _ _ _ _ _ _ _ _ rfl
@[simp] def f16o4 : List IOper := [
  ⟨(some 26), .mv (.t 0), none, none⟩,
  ⟨(some 27), .bin .eql (.t 26) (.c (.int .i64 4)), none, none⟩,
  ⟨(some 25), .mv (.t 27), none, none⟩]
def f16r4 : IC := .reg false [] f16o4 [25, 9, 0]
@[simp] theorem f16r4_run : run tbl fin K f16r4 e H = regK tbl fin K [] f16o4 [25, 9, 0] e H := run_regK _ _ _ _ _ _ _ _ _ rfl
@[simp] def f16o5 : List IOper := [
  ⟨(some 8), .mv (.c (.int .i64 1)), none, none⟩]
def f16r5 : IC := .reg false [] f16o5 [8]
@[simp] theorem f16r5_run : run tbl fin K f16r5 e H = regK tbl fin K [] f16o5 [8] e H := run_regK _ _ _ _ _ _ _ _ _ rfl
@[simp] def f16o6 : List IOper := [
  ⟨(some 29), .mv (.t 0), none, none⟩,
  ⟨(some 30), .bin .eql (.t 29) (.c (.int .i64 1)), none, none⟩,
  ⟨(some 31), .mv (.t 30), none, none⟩,
  ⟨(some 32), .mv (.t 9), (some (31, true)), none⟩,
  ⟨(some 33), .pick (.t 31) (.t 32) (.c (.bool false)), none, none⟩,
  ⟨(some 28), .mv (.t 33), none, none⟩]
def f16r6 : IC := .reg false [] f16o6 [28, 0, 9]
@[simp] theorem f16r6_run : run tbl fin K f16r6 e H = regK tbl fin K [] f16o6 [28, 0, 9] e H := run_regK _ _ _ _ _ _ _ _ _ rfl
@[simp] def f16o7 : List IOper := [
  ⟨(some 8), .mv (.c (.int .i64 1)), none, none⟩]
def f16r7 : IC := .reg false [] f16o7 [8]
@[simp] theorem f16r7_run : run tbl fin K f16r7 e H = regK tbl fin K [] f16o7 [8] e H := run_regK _ _ _ _ _ _ _ _ _ rfl
@[simp] def f16o8 : List IOper := [
  ⟨(some 35), .mv (.t 0), none, none⟩,
  ⟨(some 36), .bin .eql (.t 35) (.c (.int .i64 2)), none, none⟩,
  ⟨(some 37), .mv (.t 36), none, none⟩,
  ⟨(some 38), .mv (.t 9), (some (37, true)), none⟩,
  ⟨(some 39), .pick (.t 37) (.t 38) (.c (.bool false)), none, none⟩,
  ⟨(some 34), .mv (.t 39), none, none⟩]
def f16r8 : IC := .reg false [] f16o8 [34, 9, 0]
@[simp] theorem f16r8_run : run tbl fin K f16r8 e H = regK tbl fin K [] f16o8 [34, 9, 0] e H := run_regK _ _ _ _ _ _ _ _ _ rfl
@[simp] def f16o9 : List IOper := [
  ⟨(some 8), .mv (.c (.int .i64 3)), none, none⟩]
def f16r9 : IC := .reg false [] f16o9 [8]
@[simp] theorem f16r9_run : run tbl fin K f16r9 e H = regK tbl fin K [] f16o9 [8] e H := run_regK _ _ _ _ _ _ _ _ _ rfl
@[simp] def f16o10 : List IOper := [
  ⟨(some 41), .mv (.t 0), none, none⟩,
  ⟨(some 42), .bin .eql (.t 41) (.c (.int .i64 3)), none, none⟩,
  ⟨(some 43), .mv (.t 42), none, none⟩,
  ⟨(some 44), .mv (.t 9), (some (43, true)), none⟩,
  ⟨(some 45), .pick (.t 43) (.t 44) (.c (.bool false)), none, none⟩,
  ⟨(some 40), .mv (.t 45), none, none⟩]
def f16r10 : IC := .reg false [] f16o10 [40]
@[simp] theorem f16r10_run : run tbl fin K f16r10 e H = regK tbl fin K [] f16o10 [40] e H := run_regK _ _ _ _ _ _ _ _ _ rfl
@[simp] def f16o11 : List IOper := [
  ⟨(some 8), .mv (.c (.int .i64 4)), none, none⟩]
def f16r11 : IC := .reg false [] f16o11 [8]
@[simp] theorem f16r11_run : run tbl fin K f16r11 e H = regK tbl fin K [] f16o11 [8] e H := run_regK _ _ _ _ _ _ _ _ _ rfl
@[simp] def f16o12 : List IOper := [
  ⟨(some 8), .mv (.c (.int .i64 0)), none, none⟩]
def f16r12 : IC := .reg false [] f16o12 [8]
@[simp] theorem f16r12_run : run tbl fin K f16r12 e H = regK tbl fin K [] f16o12 [8] e H := run_regK _ _ _ _ _ _ _ _ _ rfl
def f16body : IC := (.seq f16r0 (.seq f16r1 (.seq (.block 0 (.seq f16r2 (.cond (.t 19) (.seq f16r3 .ret) (.seq f16r4 (.cond (.t 25) (.seq f16r5 .ret) (.seq f16r6 (.cond (.t 28) (.seq f16r7 .ret) (.seq f16r8 (.cond (.t 34) (.seq f16r9 .ret) (.seq f16r10 (.cond (.t 40) (.seq f16r11 .ret) .skip))))))))))) (.seq f16r12 .ret))))
def f16 : IFn := ⟨46, 4, [.tmp 8], f16body⟩
/- 17: jobshell/param.Length -/
@[simp] def f17o0 : List IOper := [
  ⟨(some 2), .mv (.c (.int .i64 0)), none, none⟩]
def f17r0 : IC := .reg false [] f17o0 [0]
@[simp] theorem f17r0_run : run tbl fin K f17r0 e H = regK tbl fin K [] f17o0 [0] e H := run_regK _ _ _ _ _ _ _ _ _ rfl
@[simp] def f17o1 : List IOper := [
  ⟨(some 3), .mv (.t 0), none, none⟩,
  ⟨(some 4), .slen (.t 3), none, none⟩,
  ⟨(some 2), .mv (.t 4), none, none⟩]
def f17r1 : IC := .reg false [] f17o1 [2]
@[simp] theorem f17r1_run : run tbl fin K f17r1 e H = regK tbl fin K [] f17o1 [2] e H := run_regK _ _ _ _ _ _ _ _ _ rfl
def f17body : IC := (.seq f17r0 (.seq f17r1 .ret))
def f17 : IFn := ⟨5, 1, [.tmp 2], f17body⟩
/- 18: jobshell/jobshellref04.Few -/
@[simp] def f18o0 : List IOper := [
  ⟨(some 4), .mv (.c (.bool false)), none, none⟩]
def f18r0 : IC := .reg false [] f18o0 [1, 0]
@[simp] theorem f18r0_run : run tbl fin K f18r0 e H = regK tbl fin K [] f18o0 [1, 0] e H := run_regK _ _ _ _ _ _ _ _ _ rfl
@[simp] def f18o1 : List IOper := [
  ⟨(some 5), .mv (.c (.int .i64 0)), none, none⟩]
def f18r1 : IC := .reg false [] f18o1 [1, 0, 5]
@[simp] theorem f18r1_run : run tbl fin K f18r1 e H = regK tbl fin K [] f18o1 [1, 0, 5] e H := run_regK _ _ _ _ _ _ _ _ _ rfl
@[simp] def f18o2 : List IOper := [
  ⟨(some 6), .mv (.t 5), none, none⟩,
  ⟨(some 7), .mv (.t 0), none, none⟩,
  ⟨(some 8), .len (.t 7), none, none⟩,
  ⟨(some 9), .bin .lss (.t 6) (.t 8), none, none⟩,
  ⟨(some 10), .mv (.t 9), none, none⟩,
  ⟨(some 11), .mv (.t 5), (some (10, true)), none⟩,
  ⟨(some 12), .mv (.t 1), (some (10, true)), none⟩,
  ⟨(some 13), .bin .leq (.t 11) (.t 12), (some (10, true)), none⟩,
  ⟨(some 14), .pick (.t 10) (.t 13) (.c (.bool false)), none, none⟩]
def f18r2 : IC := .reg false [] f18o2 [14, 0, 1, 5]
@[simp] theorem f18r2_run : run tbl fin K f18r2 e H = regK tbl fin K [] f18o2 [14, 0, 1, 5] e H := run_regK _ _ _ _ _ _ _ _ _ rfl
@[simp] def f18o3 : List IOper := [
  ⟨(some 17), .mv (.t 0), none, none⟩,
  ⟨(some 18), .mv (.t 5), none, none⟩,
  ⟨(some 19), .idx 4 (.t 17) (.t 18), none, none⟩,
  ⟨(some 20), .fld 3 (.t 19), none, none⟩,
  ⟨(some 21), .load false 1 (.t 20), none, none⟩,
  ⟨(some 22), .len (.t 21), none, none⟩,
  ⟨(some 23), .bin .gtr (.t 22) (.c (.int .i64 40)), none, none⟩,
  ⟨(some 24), .mv (.t 23), none, some [24, 0, 1, 5]⟩,
  ⟨(some 25), .mv (.t 0), (some (24, false)), none⟩,
  ⟨(some 26), .mv (.t 5), (some (24, false)), none⟩,
  ⟨(some 27), .idx 4 (.t 25) (.t 26), (some (24, false)), none⟩,
  ⟨(some 28), .fld 1 (.t 27), (some (24, false)), none⟩,
  ⟨(some 29), .load false 1 (.t 28), (some (24, false)), none⟩,
  ⟨(some 30), .slen (.t 29), (some (24, false)), none⟩,
  ⟨(some 31), .bin .gtr (.t 30) (.c (.int .i64 40)), (some (24, false)), none⟩,
  ⟨(some 32), .pick (.t 24) (.c (.bool true)) (.t 31), none, none⟩]
def f18r3 : IC := .reg false [] f18o3 [32, 0, 1, 5]
@[simp] theorem f18r3_run : run tbl fin K f18r3 e H = regK tbl fin K [] f18o3 [32, 0, 1, 5] e H := run_regK _ _ _ _ _ _ _ _ _ rfl
@[simp] def f18o4 : List IOper := [
  ⟨(some 4), .mv (.c (.bool false)), none, none⟩]
def f18r4 : IC := .reg false [] f18o4 [4]
@[simp] theorem f18r4_run : run tbl fin K f18r4 e H = regK tbl fin K [] f18o4 [4] e H := run_regK _ _ _ _ _ _ _ _ _ rfl
@[simp] def f18o5 : List IOper := [
  ⟨(some 15), .mv (.t 5), none, none⟩,
  ⟨(some 16), .bin .add (.t 15) (.c (.int .i64 1)), none, none⟩,
  ⟨(some 5), .mv (.t 16), none, none⟩]
def f18r5 : IC := .reg false [] f18o5 [1, 0, 5]
@[simp] theorem f18r5_run : run tbl fin K f18r5 e H = regK tbl fin K [] f18o5 [1, 0, 5] e H := run_regK _ _ _ _ _ _ _ _ _ rfl
def f18b6 : IC := (.seq (.seq f18r2 (.cond (.t 14) .skip (.exit 0))) (.seq (.block 1 (.seq f18r3 (.cond (.t 32) (.seq f18r4 .ret) .skip))) f18r5))
theorem f18b6_eq : f18b6 = (.seq (.seq f18r2 (.cond (.t 14) .skip (.exit 0))) (.seq (.block 1 (.seq f18r3 (.cond (.t 32) (.seq f18r4 .ret) .skip))) f18r5)) := rfl
@[simp] def f18o7 : List IOper := [
  ⟨(some 33), .mv (.t 0), none, none⟩,
  ⟨(some 34), .len (.t 33), none, none⟩,
  ⟨(some 35), .mv (.t 1), none, none⟩,
  ⟨(some 36), .bin .leq (.t 34) (.t 35), none, none⟩,
  ⟨(some 4), .mv (.t 36), none, none⟩]
def f18r7 : IC := .reg false [] f18o7 [4]
@[simp] theorem f18r7_run : run tbl fin K f18r7 e H = regK tbl fin K [] f18o7 [4] e H := run_regK _ _ _ _ _ _ _ _ _ rfl
def f18body : IC := (.seq f18r0 (.seq (.seq f18r1 (.block 0 (.loop [1, 0, 5] f18b6))) (.seq f18r7 .ret)))
def f18 : IFn := ⟨37, 2, [.tmp 4], f18body⟩
/- 19: jobshell/param.Trim -/
@[simp] def f19o0 : List IOper := [
  ⟨(some 6), .mv (.c (.str [])), none, none⟩]
def f19r0 : IC := .reg false [] f19o0 [0, 2, 1]
@[simp] theorem f19r0_run : run tbl fin K f19r0 e H = regK tbl fin K [] f19o0 [0, 2, 1] e H := run_regK _ _ _ _ _ _ _ _ _ rfl
@[simp] def f19o1 : List IOper := [
  ⟨(some 7), .mv (.c (.bool false)), none, none⟩]
def f19r1 : IC := .reg false [] f19o1 [0, 7, 2, 1]
@[simp] theorem f19r1_run : run tbl fin K f19r1 e H = regK tbl fin K [] f19o1 [0, 7, 2, 1] e H := run_regK _ _ _ _ _ _ _ _ _ rfl
@[simp] def f19o2 : List IOper := [
  ⟨(some 12), .mv (.t 0), none, none⟩]
def f19r2 : IC := .reg false [] f19o2 [7, 12, 2, 1]
@[simp] theorem f19r2_run : run tbl fin K f19r2 e H = regK tbl fin K [] f19o2 [7, 12, 2, 1] e H := run_regK _ _ _ _ _ _ _ _ _ rfl
@[simp] def f19o3 : List IOper := [
  ⟨(some 14), .bin .eql (.t 12) (.c (.int .i64 7)), none, none⟩,
  ⟨(some 13), .mv (.t 14), none, none⟩]
def f19r3 : IC := .reg false [] f19o3 [13, 7, 12, 2, 1]
@[simp] theorem f19r3_run : run tbl fin K f19r3 e H = regK tbl fin K [] f19o3 [13, 7, 12, 2, 1] e H := run_regK _ _ _ _ _ _ _ _ _ rfl
@[simp] def f19o4 : List IOper := [
  ⟨(some 16), .bin .eql (.t 12) (.c (.int .i64 6)), none, none⟩,
  ⟨(some 15), .mv (.t 16), none, none⟩]
def f19r4 : IC := .reg false [] f19o4 [15, 12, 2, 7, 1]
@[simp] theorem f19r4_run : run tbl fin K f19r4 e H = regK tbl fin K [] f19o4 [15, 12, 2, 7, 1] e H := run_regK _ _ _ _ _ _ _ _ _ rfl
@[simp] def f19o5 : List IOper := [
  ⟨(some 18), .bin .eql (.t 12) (.c (.int .i64 9)), none, none⟩,
  ⟨(some 17), .mv (.t 18), none, none⟩]
def f19r5 : IC := .reg false [] f19o5 [17, 7, 12, 2, 1]
@[simp] theorem f19r5_run : run tbl fin K f19r5 e H = regK tbl fin K [] f19o5 [17, 7, 12, 2, 1] e H := run_regK _ _ _ _ _ _ _ _ _ rfl
@[simp] def f19o6 : List IOper := [
  ⟨(some 20), .bin .eql (.t 12) (.c (.int .i64 8)), none, none⟩,
  ⟨(some 19), .mv (.t 20), none, none⟩]
def f19r6 : IC := .reg false [] f19o6 [19, 2, 7, 1]
@[simp] theorem f19r6_run : run tbl fin K f19r6 e H = regK tbl fin K [] f19o6 [19, 2, 7, 1] e H := run_regK _ _ _ _ _ _ _ _ _ rfl
@[simp] def f19o7 : List IOper := [
  ⟨(some 7), .mv (.c (.bool true)), none, none⟩]
def f19r7 : IC := .reg false [] f19o7 [2, 7, 1]
@[simp] theorem f19r7_run : run tbl fin K f19r7 e H = regK tbl fin K [] f19o7 [2, 7, 1] e H := run_regK _ _ _ _ _ _ _ _ _ rfl
@[simp] def f19o8 : List IOper := [
  ⟨(some 22), .mv (.t 2), none, none⟩,
  ⟨(some 23), .mv (.t 1), none, none⟩,
  ⟨(some 24), .mv (.t 7), none, none⟩,
  ⟨(some 25), .call (.c (.fn 34 [])) [(.t 22), (.t 23), (.t 24)], none, none⟩,
  ⟨(some 21), .mv (.t 25), none, none⟩,
  ⟨(some 26), .ext (.t 21) 0, none, none⟩,
  ⟨(some 27), .ext (.t 21) 1, none, none⟩,
  ⟨(some 8), .mv (.t 26), none, none⟩,
  ⟨(some 9), .mv (.t 27), none, none⟩]
def f19r8 : IC := .reg false [] f19o8 [9, 1, 8]
@[simp] theorem f19r8_run : run tbl fin K f19r8 e H = regK tbl fin K [] f19o8 [9, 1, 8] e H := run_regK _ _ _ _ _ _ _ _ _ rfl
@[simp] def f19o9 : List IOper := [
  ⟨(some 28), .mv (.t 9), none, none⟩]
def f19r9 : IC := .reg false [] f19o9 [28, 1, 8]
@[simp] theorem f19r9_run : run tbl fin K f19r9 e H = regK tbl fin K [] f19o9 [28, 1, 8] e H := run_regK _ _ _ _ _ _ _ _ _ rfl
@[simp] def f19o10 : List IOper := [
  ⟨(some 29), .mv (.t 1), none, none⟩,
  ⟨(some 30), .mv (.t 1), none, none⟩,
  ⟨(some 31), .slen (.t 30), none, none⟩,
  ⟨(some 32), .mv (.t 8), none, none⟩,
  ⟨(some 33), .bin .sub (.t 31) (.t 32), none, none⟩,
  ⟨(some 34), .sls (.t 29) none (some (.t 33)), none, none⟩,
  ⟨(some 6), .mv (.t 34), none, none⟩]
def f19r10 : IC := .reg false [] f19o10 [6]
@[simp] theorem f19r10_run : run tbl fin K f19r10 e H = regK tbl fin K [] f19o10 [6] e H := run_regK _ _ _ _ _ _ _ _ _ rfl
@[simp] def f19o11 : List IOper := [
  ⟨(some 7), .mv (.c (.bool true)), none, none⟩]
def f19r11 : IC := .reg false [] f19o11 [2, 7, 1]
@[simp] theorem f19r11_run : run tbl fin K f19r11 e H = regK tbl fin K [] f19o11 [2, 7, 1] e H := run_regK _ _ _ _ _ _ _ _ _ rfl
@[simp] def f19o12 : List IOper := [
  ⟨(some 36), .mv (.t 2), none, none⟩,
  ⟨(some 37), .mv (.t 1), none, none⟩,
  ⟨(some 38), .mv (.t 7), none, none⟩,
  ⟨(some 39), .call (.c (.fn 35 [])) [(.t 36), (.t 37), (.t 38)], none, none⟩,
  ⟨(some 35), .mv (.t 39), none, none⟩,
  ⟨(some 40), .ext (.t 35) 0, none, none⟩,
  ⟨(some 41), .ext (.t 35) 1, none, none⟩,
  ⟨(some 10), .mv (.t 40), none, none⟩,
  ⟨(some 11), .mv (.t 41), none, none⟩]
def f19r12 : IC := .reg false [] f19o12 [11, 1, 10]
@[simp] theorem f19r12_run : run tbl fin K f19r12 e H = regK tbl fin K [] f19o12 [11, 1, 10] e H := run_regK _ _ _ _ _ _ _ _ _ rfl
@[simp] def f19o13 : List IOper := [
  ⟨(some 42), .mv (.t 11), none, none⟩]
def f19r13 : IC := .reg false [] f19o13 [42, 1, 10]
@[simp] theorem f19r13_run : run tbl fin K f19r13 e H = regK tbl fin K [] f19o13 [42, 1, 10] e H := run_regK _ _ _ _ _ _ _ _ _ rfl
@[simp] def f19o14 : List IOper := [
  ⟨(some 43), .mv (.t 1), none, none⟩,
  ⟨(some 44), .mv (.t 10), none, none⟩,
  ⟨(some 45), .sls (.t 43) (some (.t 44)) none, none, none⟩,
  ⟨(some 6), .mv (.t 45), none, none⟩]
def f19r14 : IC := .reg false [] f19o14 [6]
@[simp] theorem f19r14_run : run tbl fin K f19r14 e H = regK tbl fin K [] f19o14 [6] e H := run_regK _ _ _ _ _ _ _ _ _ rfl
@[simp] def f19o15 : List IOper := [
  ⟨(some 46), .mv (.t 1), none, none⟩,
  ⟨(some 6), .mv (.t 46), none, none⟩]
def f19r15 : IC := .reg false [] f19o15 [6]
@[simp] theorem f19r15_run : run tbl fin K f19r15 e H = regK tbl fin K [] f19o15 [6] e H := run_regK _ _ _ _ _ _ _ _ _ rfl
def f19body : IC := (.seq f19r0 (.seq f19r1 (.seq (.seq f19r2 (.block 0 (.seq (.block 4 (.seq (.block 3 (.seq (.block 2 (.seq (.block 1 (.seq (.seq (.seq f19r3 (.cond (.t 13) (.exit 1) .skip)) (.seq (.seq f19r4 (.cond (.t 15) (.exit 2) .skip)) (.seq (.seq f19r5 (.cond (.t 17) (.exit 3) .skip)) (.seq f19r6 (.cond (.t 19) (.exit 4) .skip))))) (.exit 0))) f19r7)) (.seq (.seq f19r8 (.seq f19r9 (.cond (.t 28) (.seq f19r10 .ret) .skip))) (.exit 0)))) f19r11)) (.seq (.seq f19r12 (.seq f19r13 (.cond (.t 42) (.seq f19r14 .ret) .skip))) (.exit 0))))) (.seq f19r15 .ret))))
def f19 : IFn := ⟨47, 3, [.tmp 6], f19body⟩
/- 20: jobshell/jobshellref17.Trim -/
@[simp] def f20o0 : List IOper := [
  ⟨(some 6), .mv (.c (.str [])), none, none⟩]
def f20r0 : IC := .reg false [] f20o0 [2, 0, 1]
@[simp] theorem f20r0_run : run tbl fin K f20r0 e H = regK tbl fin K [] f20o0 [2, 0, 1] e H := run_regK _ _ _ _ _ _ _ _ _ rfl
@[simp] def f20o1 : List IOper := [
  ⟨(some 11), .mv (.t 0), none, none⟩]
def f20r1 : IC := .reg false [] f20o1 [11, 2, 0, 1]
@[simp] theorem f20r1_run : run tbl fin K f20r1 e H = regK tbl fin K [] f20o1 [11, 2, 0, 1] e H := run_regK _ _ _ _ _ _ _ _ _ rfl
@[simp] def f20o2 : List IOper := [
  ⟨(some 13), .bin .eql (.t 11) (.c (.int .i64 6)), none, none⟩,
  ⟨(some 12), .mv (.t 13), none, none⟩]
def f20r2 : IC := .reg false [] f20o2 [12, 11, 2, 0, 1]
@[simp] theorem f20r2_run : run tbl fin K f20r2 e H = regK tbl fin K [] f20o2 [12, 11, 2, 0, 1] e H := run_regK _ _ _ _ _ _ _ _ _ rfl
@[simp] def f20o3 : List IOper := [
  ⟨(some 14), .bin .eql (.t 11) (.c (.int .i64 7)), none, none⟩,
  ⟨(some 12), .mv (.t 14), none, none⟩]
def f20r3 : IC := .reg false [] f20o3 [12, 11, 2, 0, 1]
@[simp] theorem f20r3_run : run tbl fin K f20r3 e H = regK tbl fin K [] f20o3 [12, 11, 2, 0, 1] e H := run_regK _ _ _ _ _ _ _ _ _ rfl
@[simp] def f20o4 : List IOper := [
  ⟨(some 16), .mv (.t 2), none, none⟩,
  ⟨(some 17), .mv (.t 1), none, none⟩,
  ⟨(some 18), .mv (.t 0), none, none⟩,
  ⟨(some 19), .bin .eql (.t 18) (.c (.int .i64 7)), none, none⟩,
  ⟨(some 20), .call (.c (.fn 36 [])) [(.t 16), (.t 17), (.t 19)], none, none⟩,
  ⟨(some 15), .mv (.t 20), none, none⟩,
  ⟨(some 21), .ext (.t 15) 0, none, none⟩,
  ⟨(some 22), .ext (.t 15) 1, none, none⟩,
  ⟨(some 7), .mv (.t 21), none, none⟩,
  ⟨(some 8), .mv (.t 22), none, none⟩]
def f20r4 : IC := .reg false [] f20o4 [1, 7]
@[simp] theorem f20r4_run : run tbl fin K f20r4 e H = regK tbl fin K [] f20o4 [1, 7] e H := run_regK _ _ _ _ _ _ _ _ _ rfl
@[simp] def f20o5 : List IOper := [
  ⟨(some 23), .mv (.t 1), none, none⟩,
  ⟨(some 24), .mv (.t 1), none, none⟩,
  ⟨(some 25), .slen (.t 24), none, none⟩,
  ⟨(some 26), .mv (.t 7), none, none⟩,
  ⟨(some 27), .bin .sub (.t 25) (.t 26), none, none⟩,
  ⟨(some 28), .sls (.t 23) none (some (.t 27)), none, none⟩,
  ⟨(some 6), .mv (.t 28), none, none⟩]
def f20r5 : IC := .reg false [] f20o5 [6]
@[simp] theorem f20r5_run : run tbl fin K f20r5 e H = regK tbl fin K [] f20o5 [6] e H := run_regK _ _ _ _ _ _ _ _ _ rfl
@[simp] def f20o6 : List IOper := [
  ⟨(some 30), .bin .eql (.t 11) (.c (.int .i64 8)), none, none⟩,
  ⟨(some 29), .mv (.t 30), none, none⟩]
def f20r6 : IC := .reg false [] f20o6 [11, 29, 2, 0, 1]
@[simp] theorem f20r6_run : run tbl fin K f20r6 e H = regK tbl fin K [] f20o6 [11, 29, 2, 0, 1] e H := run_regK _ _ _ _ _ _ _ _ _ rfl
@[simp] def f20o7 : List IOper := [
  ⟨(some 31), .bin .eql (.t 11) (.c (.int .i64 9)), none, none⟩,
  ⟨(some 29), .mv (.t 31), none, none⟩]
def f20r7 : IC := .reg false [] f20o7 [29, 2, 0, 1]
@[simp] theorem f20r7_run : run tbl fin K f20r7 e H = regK tbl fin K [] f20o7 [29, 2, 0, 1] e H := run_regK _ _ _ _ _ _ _ _ _ rfl
@[simp] def f20o8 : List IOper := [
  ⟨(some 33), .mv (.t 2), none, none⟩,
  ⟨(some 34), .mv (.t 1), none, none⟩,
  ⟨(some 35), .mv (.t 0), none, none⟩,
  ⟨(some 36), .bin .eql (.t 35) (.c (.int .i64 9)), none, none⟩,
  ⟨(some 37), .call (.c (.fn 37 [])) [(.t 33), (.t 34), (.t 36)], none, none⟩,
  ⟨(some 32), .mv (.t 37), none, none⟩,
  ⟨(some 38), .ext (.t 32) 0, none, none⟩,
  ⟨(some 39), .ext (.t 32) 1, none, none⟩,
  ⟨(some 9), .mv (.t 38), none, none⟩,
  ⟨(some 10), .mv (.t 39), none, none⟩]
def f20r8 : IC := .reg false [] f20o8 [1, 9]
@[simp] theorem f20r8_run : run tbl fin K f20r8 e H = regK tbl fin K [] f20o8 [1, 9] e H := run_regK _ _ _ _ _ _ _ _ _ rfl
@[simp] def f20o9 : List IOper := [
  ⟨(some 40), .mv (.t 1), none, none⟩,
  ⟨(some 41), .mv (.t 9), none, none⟩,
  ⟨(some 42), .sls (.t 40) (some (.t 41)) none, none, none⟩,
  ⟨(some 6), .mv (.t 42), none, none⟩]
def f20r9 : IC := .reg false [] f20o9 [6]
@[simp] theorem f20r9_run : run tbl fin K f20r9 e H = regK tbl fin K [] f20o9 [6] e H := run_regK _ _ _ _ _ _ _ _ _ rfl
@[simp] def f20o10 : List IOper := [
  ⟨(some 43), .mv (.t 1), none, none⟩,
  ⟨(some 6), .mv (.t 43), none, none⟩]
def f20r10 : IC := .reg false [] f20o10 [6]
@[simp] theorem f20r10_run : run tbl fin K f20r10 e H = regK tbl fin K [] f20o10 [6] e H := run_regK _ _ _ _ _ _ _ _ _ rfl
def f20body : IC := (.seq f20r0 (.seq (.seq f20r1 (.block 0 (.seq (.seq f20r2 (.cond (.t 12) .skip f20r3)) (.cond (.t 12) (.seq f20r4 (.seq f20r5 .ret)) (.seq (.seq f20r6 (.cond (.t 29) .skip f20r7)) (.cond (.t 29) (.seq f20r8 (.seq f20r9 .ret)) .skip)))))) (.seq f20r10 .ret)))
def f20 : IFn := ⟨44, 3, [.tmp 6], f20body⟩
/- 21: jobshell/param.special -/
@[simp] def f21o0 : List IOper := [
  ⟨(some 2), .mv (.c (.bool false)), none, none⟩]
def f21r0 : IC := .reg false [] f21o0 [0]
@[simp] theorem f21r0_run : run tbl fin K f21r0 e H = regK tbl fin K [] f21o0 [0] e H := run_regK _ _ _ _ _ _ _ _ _ rfl
@[simp] def f21o1 : List IOper := [
  ⟨(some 3), .mv (.t 0), none, none⟩,
  ⟨(some 4), .slen (.t 3), none, none⟩,
  ⟨(some 5), .bin .eql (.t 4) (.c (.int .i64 1)), none, none⟩,
  ⟨(some 6), .mv (.t 5), none, none⟩,
  ⟨(some 7), .mv (.t 0), (some (6, true)), none⟩,
  ⟨(some 8), .call (.c (.fn 38 [])) [(.c (.str [64, 42, 35, 63, 45, 36, 33, 48])), (.t 7)], (some (6, true)), none⟩,
  ⟨(some 9), .pick (.t 6) (.t 8) (.c (.bool false)), none, none⟩,
  ⟨(some 2), .mv (.t 9), none, none⟩]
def f21r1 : IC := .reg false [] f21o1 [2]
@[simp] theorem f21r1_run : run tbl fin K f21r1 e H = regK tbl fin K [] f21o1 [2] e H := run_regK _ _ _ _ _ _ _ _ _ rfl
def f21body : IC := (.seq f21r0 (.seq f21r1 .ret))
def f21 : IFn := ⟨10, 1, [.tmp 2], f21body⟩
/- 22: jobshell/param.specialValue -/
@[simp] def f22o0 : List IOper := [
  ⟨(some 2), .box 30 15 (.t 0), none, none⟩,
  ⟨(some 4), .mv (.c (.str [])), none, none⟩,
  ⟨(some 5), .mv (.c (.bool false)), none, none⟩]
def f22r0 : IC := .reg false [] f22o0 [1, 2]
@[simp] theorem f22r0_run : run tbl fin K f22r0 e H = regK tbl fin K [] f22o0 [1, 2] e H := run_regK _ _ _ _ _ _ _ _ _ rfl
@[simp] def f22o1 : List IOper := [
  ⟨(some 6), .mv (.t 1), none, none⟩]
def f22r1 : IC := .reg false [] f22o1 [6, 2]
@[simp] theorem f22r1_run : run tbl fin K f22r1 e H = regK tbl fin K [] f22o1 [6, 2] e H := run_regK _ _ _ _ _ _ _ _ _ rfl
@[simp] def f22o2 : List IOper := [
  ⟨(some 8), .bin .eql (.t 6) (.c (.int .u8 64)), none, none⟩,
  ⟨(some 7), .mv (.t 8), none, none⟩]
def f22r2 : IC := .reg false [] f22o2 [7, 6, 2]
@[simp] theorem f22r2_run : run tbl fin K f22r2 e H = regK tbl fin K [] f22o2 [7, 6, 2] e H := run_regK _ _ _ _ _ _ _ _ _ rfl
@[simp] def f22o3 : List IOper := [
  ⟨(some 9), .fld 2 (.t 2), none, none⟩,
  ⟨(some 10), .load false 1 (.t 9), none, none⟩,
  ⟨(some 11), .call (.c (.fn 39 [])) [(.t 10), (.c (.str [32]))], none, none⟩,
  ⟨(some 12), .fld 2 (.t 2), none, none⟩,
  ⟨(some 13), .load false 1 (.t 12), none, none⟩,
  ⟨(some 14), .len (.t 13), none, none⟩,
  ⟨(some 15), .bin .gtr (.t 14) (.c (.int .i64 0)), none, none⟩,
  ⟨(some 4), .mv (.t 11), none, none⟩,
  ⟨(some 5), .mv (.t 15), none, none⟩]
def f22r3 : IC := .reg true [] f22o3 [4, 5]
@[simp] theorem f22r3_run : run tbl fin K f22r3 e H = regK tbl fin K [] f22o3 [4, 5] e H := run_regK _ _ _ _ _ _ _ _ _ rfl
@[simp] def f22o4 : List IOper := [
  ⟨(some 17), .bin .eql (.t 6) (.c (.int .u8 42)), none, none⟩,
  ⟨(some 16), .mv (.t 17), none, none⟩]
def f22r4 : IC := .reg false [] f22o4 [16, 6, 2]
@[simp] theorem f22r4_run : run tbl fin K f22r4 e H = regK tbl fin K [] f22o4 [16, 6, 2] e H := run_regK _ _ _ _ _ _ _ _ _ rfl
@[simp] def f22o5 : List IOper := [
  ⟨(some 18), .fld 2 (.t 2), none, none⟩,
  ⟨(some 19), .load false 1 (.t 18), none, none⟩,
  ⟨(some 20), .load true 15 (.t 2), none, none⟩,
  ⟨(some 21), .call (.c (.fn 40 [])) [(.t 20)], none, none⟩,
  ⟨(some 22), .call (.c (.fn 39 [])) [(.t 19), (.t 21)], none, none⟩,
  ⟨(some 23), .fld 2 (.t 2), none, none⟩,
  ⟨(some 24), .load false 1 (.t 23), none, none⟩,
  ⟨(some 25), .len (.t 24), none, none⟩,
  ⟨(some 26), .bin .gtr (.t 25) (.c (.int .i64 0)), none, none⟩,
  ⟨(some 4), .mv (.t 22), none, none⟩,
  ⟨(some 5), .mv (.t 26), none, none⟩]
def f22r5 : IC := .reg true [] f22o5 [4, 5]
@[simp] theorem f22r5_run : run tbl fin K f22r5 e H = regK tbl fin K [] f22o5 [4, 5] e H := run_regK _ _ _ _ _ _ _ _ _ rfl
@[simp] def f22o6 : List IOper := [
  ⟨(some 28), .bin .eql (.t 6) (.c (.int .u8 35)), none, none⟩,
  ⟨(some 27), .mv (.t 28), none, none⟩]
def f22r6 : IC := .reg false [] f22o6 [27, 6, 2]
@[simp] theorem f22r6_run : run tbl fin K f22r6 e H = regK tbl fin K [] f22o6 [27, 6, 2] e H := run_regK _ _ _ _ _ _ _ _ _ rfl
@[simp] def f22o7 : List IOper := [
  ⟨(some 29), .fld 2 (.t 2), none, none⟩,
  ⟨(some 30), .load false 1 (.t 29), none, none⟩,
  ⟨(some 31), .len (.t 30), none, none⟩,
  ⟨(some 32), .call (.c (.fn 41 [])) [(.t 31)], none, none⟩,
  ⟨(some 4), .mv (.t 32), none, none⟩,
  ⟨(some 5), .mv (.c (.bool true)), none, none⟩]
def f22r7 : IC := .reg false [] f22o7 [4, 5]
@[simp] theorem f22r7_run : run tbl fin K f22r7 e H = regK tbl fin K [] f22o7 [4, 5] e H := run_regK _ _ _ _ _ _ _ _ _ rfl
@[simp] def f22o8 : List IOper := [
  ⟨(some 34), .bin .eql (.t 6) (.c (.int .u8 63)), none, none⟩,
  ⟨(some 33), .mv (.t 34), none, none⟩]
def f22r8 : IC := .reg false [] f22o8 [33, 6, 2]
@[simp] theorem f22r8_run : run tbl fin K f22r8 e H = regK tbl fin K [] f22o8 [33, 6, 2] e H := run_regK _ _ _ _ _ _ _ _ _ rfl
@[simp] def f22o9 : List IOper := [
  ⟨(some 35), .fld 7 (.t 2), none, none⟩,
  ⟨(some 36), .load false 1 (.t 35), none, none⟩,
  ⟨(some 37), .call (.c (.fn 41 [])) [(.t 36)], none, none⟩,
  ⟨(some 4), .mv (.t 37), none, none⟩,
  ⟨(some 5), .mv (.c (.bool true)), none, none⟩]
def f22r9 : IC := .reg false [] f22o9 [4, 5]
@[simp] theorem f22r9_run : run tbl fin K f22r9 e H = regK tbl fin K [] f22o9 [4, 5] e H := run_regK _ _ _ _ _ _ _ _ _ rfl
@[simp] def f22o10 : List IOper := [
  ⟨(some 39), .bin .eql (.t 6) (.c (.int .u8 45)), none, none⟩,
  ⟨(some 38), .mv (.t 39), none, none⟩]
def f22r10 : IC := .reg false [] f22o10 [38, 6, 2]
@[simp] theorem f22r10_run : run tbl fin K f22r10 e H = regK tbl fin K [] f22o10 [38, 6, 2] e H := run_regK _ _ _ _ _ _ _ _ _ rfl
@[simp] def f22o11 : List IOper := [
  ⟨(some 40), .fld 6 (.t 2), none, none⟩,
  ⟨(some 41), .load false 1 (.t 40), none, none⟩,
  ⟨(some 42), .call (.c (.fn 42 [])) [(.t 41)], none, none⟩,
  ⟨(some 4), .mv (.t 42), none, none⟩,
  ⟨(some 5), .mv (.c (.bool true)), none, none⟩]
def f22r11 : IC := .reg false [] f22o11 [4, 5]
@[simp] theorem f22r11_run : run tbl fin K f22r11 e H = regK tbl fin K [] f22o11 [4, 5] e H := run_regK _ _ _ _ _ _ _ _ _ rfl
@[simp] def f22o12 : List IOper := [
  ⟨(some 44), .bin .eql (.t 6) (.c (.int .u8 36)), none, none⟩,
  ⟨(some 43), .mv (.t 44), none, none⟩]
def f22r12 : IC := .reg false [] f22o12 [43, 6, 2]
@[simp] theorem f22r12_run : run tbl fin K f22r12 e H = regK tbl fin K [] f22o12 [43, 6, 2] e H := run_regK _ _ _ _ _ _ _ _ _ rfl
@[simp] def f22o13 : List IOper := [
  ⟨(some 45), .fld 8 (.t 2), none, none⟩,
  ⟨(some 46), .load false 1 (.t 45), none, none⟩,
  ⟨(some 47), .call (.c (.fn 41 [])) [(.t 46)], none, none⟩,
  ⟨(some 4), .mv (.t 47), none, none⟩,
  ⟨(some 5), .mv (.c (.bool true)), none, none⟩]
def f22r13 : IC := .reg false [] f22o13 [4, 5]
@[simp] theorem f22r13_run : run tbl fin K f22r13 e H = regK tbl fin K [] f22o13 [4, 5] e H := run_regK _ _ _ _ _ _ _ _ _ rfl
@[simp] def f22o14 : List IOper := [
  ⟨(some 49), .bin .eql (.t 6) (.c (.int .u8 33)), none, none⟩,
  ⟨(some 48), .mv (.t 49), none, none⟩]
def f22r14 : IC := .reg false [] f22o14 [48, 2]
@[simp] theorem f22r14_run : run tbl fin K f22r14 e H = regK tbl fin K [] f22o14 [48, 2] e H := run_regK _ _ _ _ _ _ _ _ _ rfl
@[simp] def f22o15 : List IOper := [
  ⟨(some 50), .fld 9 (.t 2), none, none⟩,
  ⟨(some 51), .load false 1 (.t 50), none, none⟩,
  ⟨(some 52), .bin .eql (.t 51) (.c (.int .i64 0)), none, none⟩]
def f22r15 : IC := .reg false [] f22o15 [52, 2]
@[simp] theorem f22r15_run : run tbl fin K f22r15 e H = regK tbl fin K [] f22o15 [52, 2] e H := run_regK _ _ _ _ _ _ _ _ _ rfl
@[simp] def f22o16 : List IOper := [
  ⟨(some 4), .mv (.c (.str [])), none, none⟩,
  ⟨(some 5), .mv (.c (.bool false)), none, none⟩]
def f22r16 : IC := .reg false [] f22o16 [4, 5]
@[simp] theorem f22r16_run : run tbl fin K f22r16 e H = regK tbl fin K [] f22o16 [4, 5] e H := run_regK _ _ _ _ _ _ _ _ _ rfl
@[simp] def f22o17 : List IOper := [
  ⟨(some 53), .fld 9 (.t 2), none, none⟩,
  ⟨(some 54), .load false 1 (.t 53), none, none⟩,
  ⟨(some 55), .call (.c (.fn 41 [])) [(.t 54)], none, none⟩,
  ⟨(some 4), .mv (.t 55), none, none⟩,
  ⟨(some 5), .mv (.c (.bool true)), none, none⟩]
def f22r17 : IC := .reg false [] f22o17 [4, 5]
@[simp] theorem f22r17_run : run tbl fin K f22r17 e H = regK tbl fin K [] f22o17 [4, 5] e H := run_regK _ _ _ _ _ _ _ _ _ rfl
@[simp] def f22o18 : List IOper := [
  ⟨(some 56), .fld 0 (.t 2), none, none⟩,
  ⟨(some 57), .load false 1 (.t 56), none, none⟩,
  ⟨(some 4), .mv (.t 57), none, none⟩,
  ⟨(some 5), .mv (.c (.bool true)), none, none⟩]
def f22r18 : IC := .reg false [] f22o18 [4, 5]
@[simp] theorem f22r18_run : run tbl fin K f22r18 e H = regK tbl fin K [] f22o18 [4, 5] e H := run_regK _ _ _ _ _ _ _ _ _ rfl
def f22body : IC := (.seq f22r0 (.seq (.seq f22r1 (.block 0 (.seq f22r2 (.cond (.t 7) (.seq f22r3 .ret) (.seq f22r4 (.cond (.t 16) (.seq f22r5 .ret) (.seq f22r6 (.cond (.t 27) (.seq f22r7 .ret) (.seq f22r8 (.cond (.t 33) (.seq f22r9 .ret) (.seq f22r10 (.cond (.t 38) (.seq f22r11 .ret) (.seq f22r12 (.cond (.t 43) (.seq f22r13 .ret) (.seq f22r14 (.cond (.t 48) (.seq (.seq f22r15 (.cond (.t 52) (.seq f22r16 .ret) .skip)) (.seq f22r17 .ret)) .skip)))))))))))))))) (.seq f22r18 .ret)))
def f22 : IFn := ⟨58, 2, [.tmp 4, .tmp 5], f22body⟩
/- 23: jobshell/chars.Digits -/
@[simp] def f23o0 : List IOper := [
  ⟨(some 2), .mv (.c (.int .i64 0)), none, none⟩,
  ⟨(some 3), .mv (.c (.bool false)), none, none⟩]
def f23r0 : IC := .reg false [] f23o0 [0]
@[simp] theorem f23r0_run : run tbl fin K f23r0 e H = regK tbl fin K [] f23o0 [0] e H := run_regK _ _ _ _ _ _ _ _ _ rfl
@[simp] def f23o1 : List IOper := [
  ⟨(some 7), .mv (.t 0), none, none⟩,
  ⟨(some 8), .bin .eql (.t 7) (.c (.str [48])), none, none⟩]
def f23r1 : IC := .reg false [] f23o1 [8, 0]
@[simp] theorem f23r1_run : run tbl fin K f23r1 e H = regK tbl fin K [] f23o1 [8, 0] e H := run_regK _ _ _ _ _ _ _ _ _ rfl
@[simp] def f23o2 : List IOper := [
  ⟨(some 2), .mv (.c (.int .i64 0)), none, none⟩,
  ⟨(some 3), .mv (.c (.bool true)), none, none⟩]
def f23r2 : IC := .reg false [] f23o2 [2, 3]
@[simp] theorem f23r2_run : run tbl fin K f23r2 e H = regK tbl fin K [] f23o2 [2, 3] e H := run_regK _ _ _ _ _ _ _ _ _ rfl
@[simp] def f23o3 : List IOper := [
  ⟨(some 9), .mv (.t 0), none, none⟩,
  ⟨(some 10), .bin .eql (.t 9) (.c (.str [])), none, none⟩,
  ⟨(some 11), .mv (.t 10), none, none⟩,
  ⟨(some 12), .mv (.t 0), (some (11, false)), none⟩,
  ⟨(some 13), .sidx (.t 12) (.c (.int .i64 0)), (some (11, false)), none⟩,
  ⟨(some 14), .bin .eql (.t 13) (.c (.int .u8 48)), (some (11, false)), none⟩,
  ⟨(some 15), .pick (.t 11) (.c (.bool true)) (.t 14), none, none⟩]
def f23r3 : IC := .reg false [] f23o3 [15, 0]
@[simp] theorem f23r3_run : run tbl fin K f23r3 e H = regK tbl fin K [] f23o3 [15, 0] e H := run_regK _ _ _ _ _ _ _ _ _ rfl
@[simp] def f23o4 : List IOper := [
  ⟨(some 2), .mv (.c (.int .i64 0)), none, none⟩,
  ⟨(some 3), .mv (.c (.bool false)), none, none⟩]
def f23r4 : IC := .reg false [] f23o4 [2, 3]
@[simp] theorem f23r4_run : run tbl fin K f23r4 e H = regK tbl fin K [] f23o4 [2, 3] e H := run_regK _ _ _ _ _ _ _ _ _ rfl
@[simp] def f23o5 : List IOper := [
  ⟨(some 4), .mv (.c (.int .i64 0)), none, none⟩]
def f23r5 : IC := .reg false [] f23o5 [0, 4]
@[simp] theorem f23r5_run : run tbl fin K f23r5 e H = regK tbl fin K [] f23o5 [0, 4] e H := run_regK _ _ _ _ _ _ _ _ _ rfl
@[simp] def f23o6 : List IOper := [
  ⟨(some 16), .mv (.t 0), none, none⟩,
  ⟨(some 17), .rstr (.t 16), none, none⟩]
def f23r6 : IC := .reg false [] f23o6 [17, 4]
@[simp] theorem f23r6_run : run tbl fin K f23r6 e H = regK tbl fin K [] f23o6 [17, 4] e H := run_regK _ _ _ _ _ _ _ _ _ rfl
@[simp] def f23o7 : List IOper := [
  ⟨(some 18), .nstr (.t 17), none, none⟩,
  ⟨(some 19), .ext (.t 18) 0, none, none⟩]
def f23r7 : IC := .reg false [] f23o7 [19, 18, 17, 4]
@[simp] theorem f23r7_run : run tbl fin K f23r7 e H = regK tbl fin K [] f23o7 [19, 18, 17, 4] e H := run_regK _ _ _ _ _ _ _ _ _ rfl
@[simp] def f23o8 : List IOper := [
  ⟨(some 20), .ext (.t 18) 2, none, none⟩,
  ⟨(some 6), .mv (.t 20), none, none⟩]
def f23r8 : IC := .reg false [] f23o8 [17, 6, 4]
@[simp] theorem f23r8_run : run tbl fin K f23r8 e H = regK tbl fin K [] f23o8 [17, 6, 4] e H := run_regK _ _ _ _ _ _ _ _ _ rfl
@[simp] def f23o9 : List IOper := [
  ⟨(some 21), .mv (.t 6), none, none⟩,
  ⟨(some 22), .call (.c (.fn 43 [])) [(.t 21)], none, none⟩,
  ⟨(some 23), .un .not (.t 22), none, none⟩]
def f23r9 : IC := .reg false [] f23o9 [23, 17, 6, 4]
@[simp] theorem f23r9_run : run tbl fin K f23r9 e H = regK tbl fin K [] f23o9 [23, 17, 6, 4] e H := run_regK _ _ _ _ _ _ _ _ _ rfl
@[simp] def f23o10 : List IOper := [
  ⟨(some 2), .mv (.c (.int .i64 0)), none, none⟩,
  ⟨(some 3), .mv (.c (.bool false)), none, none⟩]
def f23r10 : IC := .reg false [] f23o10 [2, 3]
@[simp] theorem f23r10_run : run tbl fin K f23r10 e H = regK tbl fin K [] f23o10 [2, 3] e H := run_regK _ _ _ _ _ _ _ _ _ rfl
@[simp] def f23o11 : List IOper := [
  ⟨(some 24), .mv (.t 4), none, none⟩,
  ⟨(some 25), .bin .mul (.c (.int .i64 10)) (.t 24), none, none⟩,
  ⟨(some 26), .mv (.t 6), none, none⟩,
  ⟨(some 27), .bin .sub (.t 26) (.c (.int .i32 48)), none, none⟩,
  ⟨(some 28), .conv .i64 (.t 27), none, none⟩,
  ⟨(some 29), .bin .add (.t 25) (.t 28), none, none⟩,
  ⟨(some 4), .mv (.t 29), none, none⟩]
def f23r11 : IC := .reg false [] f23o11 [4, 17]
@[simp] theorem f23r11_run : run tbl fin K f23r11 e H = regK tbl fin K [] f23o11 [4, 17] e H := run_regK _ _ _ _ _ _ _ _ _ rfl
@[simp] def f23o12 : List IOper := [
  ⟨(some 30), .mv (.t 4), none, none⟩,
  ⟨(some 31), .bin .gtr (.t 30) (.c (.int .i64 2147483647)), none, none⟩]
def f23r12 : IC := .reg false [] f23o12 [31, 4, 17]
@[simp] theorem f23r12_run : run tbl fin K f23r12 e H = regK tbl fin K [] f23o12 [31, 4, 17] e H := run_regK _ _ _ _ _ _ _ _ _ rfl
@[simp] def f23o13 : List IOper := [
  ⟨(some 2), .mv (.c (.int .i64 0)), none, none⟩,
  ⟨(some 3), .mv (.c (.bool false)), none, none⟩]
def f23r13 : IC := .reg false [] f23o13 [2, 3]
@[simp] theorem f23r13_run : run tbl fin K f23r13 e H = regK tbl fin K [] f23o13 [2, 3] e H := run_regK _ _ _ _ _ _ _ _ _ rfl
def f23b14 : IC := (.seq f23r7 (.seq (.cond (.t 19) .skip (.exit 0)) (.block 1 (.seq f23r8 (.seq (.seq f23r9 (.cond (.t 23) (.seq f23r10 .ret) .skip)) (.seq f23r11 (.seq f23r12 (.cond (.t 31) (.seq f23r13 .ret) .skip))))))))
theorem f23b14_eq : f23b14 = (.seq f23r7 (.seq (.cond (.t 19) .skip (.exit 0)) (.block 1 (.seq f23r8 (.seq (.seq f23r9 (.cond (.t 23) (.seq f23r10 .ret) .skip)) (.seq f23r11 (.seq f23r12 (.cond (.t 31) (.seq f23r13 .ret) .skip)))))))) := rfl
@[simp] def f23o15 : List IOper := [
  ⟨(some 32), .mv (.t 4), none, none⟩,
  ⟨(some 2), .mv (.t 32), none, none⟩,
  ⟨(some 3), .mv (.c (.bool true)), none, none⟩]
def f23r15 : IC := .reg false [] f23o15 [2, 3]
@[simp] theorem f23r15_run : run tbl fin K f23r15 e H = regK tbl fin K [] f23o15 [2, 3] e H := run_regK _ _ _ _ _ _ _ _ _ rfl
def f23body : IC := (.seq f23r0 (.seq (.seq f23r1 (.cond (.t 8) (.seq f23r2 .ret) .skip)) (.seq (.seq f23r3 (.cond (.t 15) (.seq f23r4 .ret) .skip)) (.seq f23r5 (.seq (.seq f23r6 (.block 0 (.loop [17, 4] f23b14))) (.seq f23r15 .ret))))))
def f23 : IFn := ⟨33, 1, [.tmp 2, .tmp 3], f23body⟩
/- 24: jobshell/chars.Name -/
@[simp] def f24o0 : List IOper := [
  ⟨(some 2), .mv (.c (.bool false)), none, none⟩]
def f24r0 : IC := .reg false [] f24o0 [0]
@[simp] theorem f24r0_run : run tbl fin K f24r0 e H = regK tbl fin K [] f24o0 [0] e H := run_regK _ _ _ _ _ _ _ _ _ rfl
@[simp] def f24o1 : List IOper := [
  ⟨(some 5), .mv (.t 0), none, none⟩,
  ⟨(some 6), .slen (.t 5), none, none⟩,
  ⟨(some 7), .bin .lss (.t 6) (.c (.int .i64 1)), none, none⟩,
  ⟨(some 8), .mv (.t 7), none, none⟩,
  ⟨(some 9), .mv (.t 0), (some (8, false)), none⟩,
  ⟨(some 10), .slen (.t 9), (some (8, false)), none⟩,
  ⟨(some 11), .bin .gtr (.t 10) (.c (.int .i64 32)), (some (8, false)), none⟩,
  ⟨(some 12), .pick (.t 8) (.c (.bool true)) (.t 11), none, none⟩]
def f24r1 : IC := .reg false [] f24o1 [12, 0]
@[simp] theorem f24r1_run : run tbl fin K f24r1 e H = regK tbl fin K [] f24o1 [12, 0] e H := run_regK _ _ _ _ _ _ _ _ _ rfl
@[simp] def f24o2 : List IOper := [
  ⟨(some 2), .mv (.c (.bool false)), none, none⟩]
def f24r2 : IC := .reg false [] f24o2 [2]
@[simp] theorem f24r2_run : run tbl fin K f24r2 e H = regK tbl fin K [] f24o2 [2] e H := run_regK _ _ _ _ _ _ _ _ _ rfl
@[simp] def f24o3 : List IOper := [
  ⟨(some 13), .mv (.t 0), none, none⟩,
  ⟨(some 14), .rstr (.t 13), none, none⟩]
def f24r3 : IC := .reg false [] f24o3 [14]
@[simp] theorem f24r3_run : run tbl fin K f24r3 e H = regK tbl fin K [] f24o3 [14] e H := run_regK _ _ _ _ _ _ _ _ _ rfl
@[simp] def f24o4 : List IOper := [
  ⟨(some 15), .nstr (.t 14), none, none⟩,
  ⟨(some 16), .ext (.t 15) 0, none, none⟩]
def f24r4 : IC := .reg false [] f24o4 [16, 15, 14]
@[simp] theorem f24r4_run : run tbl fin K f24r4 e H = regK tbl fin K [] f24o4 [16, 15, 14] e H := run_regK _ _ _ _ _ _ _ _ _ rfl
@[simp] def f24o5 : List IOper := [
  ⟨(some 17), .ext (.t 15) 1, none, none⟩,
  ⟨(some 18), .ext (.t 15) 2, none, none⟩,
  ⟨(some 3), .mv (.t 17), none, none⟩,
  ⟨(some 4), .mv (.t 18), none, none⟩]
def f24r5 : IC := .reg false [] f24o5 [4, 3, 14]
@[simp] theorem f24r5_run : run tbl fin K f24r5 e H = regK tbl fin K [] f24o5 [4, 3, 14] e H := run_regK _ _ _ _ _ _ _ _ _ rfl
@[simp] def f24o6 : List IOper := [
  ⟨(some 19), .mv (.t 4), none, none⟩,
  ⟨(some 20), .call (.c (.fn 44 [])) [(.t 19)], none, none⟩,
  ⟨(some 21), .mv (.t 20), none, none⟩,
  ⟨(some 22), .mv (.t 4), (some (21, false)), none⟩,
  ⟨(some 23), .bin .eql (.t 22) (.c (.int .i32 95)), (some (21, false)), none⟩,
  ⟨(some 24), .pick (.t 21) (.c (.bool true)) (.t 23), none, none⟩,
  ⟨(some 25), .mv (.t 24), none, none⟩,
  ⟨(some 26), .mv (.t 4), (some (25, false)), some [26, 3, 25, 14]⟩,
  ⟨(some 27), .call (.c (.fn 43 [])) [(.t 26)], (some (25, false)), none⟩,
  ⟨(some 28), .mv (.t 27), (some (25, false)), none⟩,
  ⟨(some 29), .mv (.t 3), (some (28, true)), none⟩,
  ⟨(some 30), .bin .gtr (.t 29) (.c (.int .i64 0)), (some (28, true)), none⟩,
  ⟨(some 31), .pick (.t 28) (.t 30) (.c (.bool false)), (some (25, false)), none⟩,
  ⟨(some 32), .pick (.t 25) (.c (.bool true)) (.t 31), none, none⟩]
def f24r6 : IC := .reg false [] f24o6 [32, 14]
@[simp] theorem f24r6_run : run tbl fin K f24r6 e H = regK tbl fin K [] f24o6 [32, 14] e H := run_regK _ _ _ _ _ _ _ _ _ rfl
@[simp] def f24o7 : List IOper := [
  ⟨(some 2), .mv (.c (.bool false)), none, none⟩]
def f24r7 : IC := .reg false [] f24o7 [2]
@[simp] theorem f24r7_run : run tbl fin K f24r7 e H = regK tbl fin K [] f24o7 [2] e H := run_regK _ _ _ _ _ _ _ _ _ rfl
def f24b8 : IC := (.seq f24r4 (.seq (.cond (.t 16) .skip (.exit 0)) (.block 1 (.seq f24r5 (.seq (.seq f24r6 (.cond (.t 32) (.exit 1) .skip)) (.seq f24r7 .ret))))))
theorem f24b8_eq : f24b8 = (.seq f24r4 (.seq (.cond (.t 16) .skip (.exit 0)) (.block 1 (.seq f24r5 (.seq (.seq f24r6 (.cond (.t 32) (.exit 1) .skip)) (.seq f24r7 .ret)))))) := rfl
@[simp] def f24o9 : List IOper := [
  ⟨(some 2), .mv (.c (.bool true)), none, none⟩]
def f24r9 : IC := .reg false [] f24o9 [2]
@[simp] theorem f24r9_run : run tbl fin K f24r9 e H = regK tbl fin K [] f24o9 [2] e H := run_regK _ _ _ _ _ _ _ _ _ rfl
def f24body : IC := (.seq f24r0 (.seq (.seq f24r1 (.cond (.t 12) (.seq f24r2 .ret) .skip)) (.seq (.seq f24r3 (.block 0 (.loop [14] f24b8))) (.seq f24r9 .ret))))
def f24 : IFn := ⟨33, 1, [.tmp 2], f24body⟩
/- 25: jobshell/param.variable -/
@[simp] def f25o0 : List IOper := [
  ⟨(some 2), .box 30 15 (.t 0), none, none⟩,
  ⟨(some 4), .mv (.c (.str [])), none, none⟩,
  ⟨(some 5), .mv (.c (.bool false)), none, none⟩]
def f25r0 : IC := .reg false [] f25o0 [2, 1]
@[simp] theorem f25r0_run : run tbl fin K f25r0 e H = regK tbl fin K [] f25o0 [2, 1] e H := run_regK _ _ _ _ _ _ _ _ _ rfl
@[simp] def f25o1 : List IOper := [
  ⟨(some 9), .fld 1 (.t 2), none, none⟩,
  ⟨(some 10), .load false 1 (.t 9), none, none⟩,
  ⟨(some 11), .mv (.t 1), none, none⟩,
  ⟨(some 12), .call (.c (.fn 45 [])) [(.t 10), (.t 11)], none, none⟩,
  ⟨(some 8), .mv (.t 12), none, none⟩,
  ⟨(some 13), .ext (.t 8) 0, none, none⟩,
  ⟨(some 14), .ext (.t 8) 1, none, none⟩,
  ⟨(some 6), .new 49 5 (.agg [(.str []), (.str []), (.bool false), (.bool false), (.bool false)]), none, none⟩,
  ⟨none, .store 5 (.t 6) (.t 13), none, none⟩,
  ⟨(some 7), .mv (.t 14), none, none⟩]
def f25r1 : IC := .reg false [] f25o1 [7, 6]
@[simp] theorem f25r1_run : run tbl fin K f25r1 e H = regK tbl fin K [] f25o1 [7, 6] e H := run_regK _ _ _ _ _ _ _ _ _ rfl
@[simp] def f25o2 : List IOper := [
  ⟨(some 15), .mv (.t 7), none, none⟩,
  ⟨(some 16), .mv (.t 15), none, none⟩,
  ⟨(some 17), .fld 2 (.t 6), (some (16, true)), none⟩,
  ⟨(some 18), .load false 1 (.t 17), (some (16, true)), none⟩,
  ⟨(some 19), .pick (.t 16) (.t 18) (.c (.bool false)), none, none⟩]
def f25r2 : IC := .reg false [] f25o2 [19, 6]
@[simp] theorem f25r2_run : run tbl fin K f25r2 e H = regK tbl fin K [] f25o2 [19, 6] e H := run_regK _ _ _ _ _ _ _ _ _ rfl
@[simp] def f25o3 : List IOper := [
  ⟨(some 20), .fld 1 (.t 6), none, none⟩,
  ⟨(some 21), .load false 1 (.t 20), none, none⟩,
  ⟨(some 4), .mv (.t 21), none, none⟩,
  ⟨(some 5), .mv (.c (.bool true)), none, none⟩]
def f25r3 : IC := .reg false [] f25o3 [4, 5]
@[simp] theorem f25r3_run : run tbl fin K f25r3 e H = regK tbl fin K [] f25o3 [4, 5] e H := run_regK _ _ _ _ _ _ _ _ _ rfl
@[simp] def f25o4 : List IOper := [
  ⟨(some 4), .mv (.c (.str [])), none, none⟩,
  ⟨(some 5), .mv (.c (.bool false)), none, none⟩]
def f25r4 : IC := .reg false [] f25o4 [4, 5]
@[simp] theorem f25r4_run : run tbl fin K f25r4 e H = regK tbl fin K [] f25o4 [4, 5] e H := run_regK _ _ _ _ _ _ _ _ _ rfl
def f25body : IC := (.seq f25r0 (.seq (.seq f25r1 (.seq f25r2 (.cond (.t 19) (.seq f25r3 .ret) .skip))) (.seq f25r4 .ret)))
def f25 : IFn := ⟨22, 2, [.tmp 4, .tmp 5], f25body⟩
/- 26: jobshell/jobshellref17.positional -/
@[simp] def f26o0 : List IOper := [
  ⟨(some 2), .mv (.c (.int .i64 0)), none, none⟩]
def f26r0 : IC := .reg false [] f26o0 [0]
@[simp] theorem f26r0_run : run tbl fin K f26r0 e H = regK tbl fin K [] f26o0 [0] e H := run_regK _ _ _ _ _ _ _ _ _ rfl
@[simp] def f26o1 : List IOper := [
  ⟨(some 6), .mv (.t 0), none, none⟩,
  ⟨(some 7), .call (.c (.fn 46 [])) [(.t 6)], none, none⟩,
  ⟨(some 5), .mv (.t 7), none, none⟩,
  ⟨(some 8), .ext (.t 5) 0, none, none⟩,
  ⟨(some 9), .ext (.t 5) 1, none, none⟩,
  ⟨(some 3), .mv (.t 8), none, none⟩,
  ⟨(some 4), .mv (.t 9), none, none⟩]
def f26r1 : IC := .reg false [] f26o1 [4, 0, 3]
@[simp] theorem f26r1_run : run tbl fin K f26r1 e H = regK tbl fin K [] f26o1 [4, 0, 3] e H := run_regK _ _ _ _ _ _ _ _ _ rfl
@[simp] def f26o2 : List IOper := [
  ⟨(some 10), .mv (.t 4), none, none⟩,
  ⟨(some 11), .un .not (.t 10), none, none⟩,
  ⟨(some 12), .mv (.t 11), none, none⟩,
  ⟨(some 13), .mv (.t 3), (some (12, false)), none⟩,
  ⟨(some 14), .bin .lss (.t 13) (.c (.int .i64 1)), (some (12, false)), none⟩,
  ⟨(some 15), .pick (.t 12) (.c (.bool true)) (.t 14), none, none⟩,
  ⟨(some 16), .mv (.t 15), none, none⟩,
  ⟨(some 17), .mv (.t 3), (some (16, false)), some [17, 16, 0, 3]⟩,
  ⟨(some 18), .bin .gtr (.t 17) (.c (.int .i64 2147483647)), (some (16, false)), none⟩,
  ⟨(some 19), .pick (.t 16) (.c (.bool true)) (.t 18), none, none⟩,
  ⟨(some 20), .mv (.t 19), none, none⟩,
  ⟨(some 21), .mv (.t 0), (some (20, false)), none⟩,
  ⟨(some 22), .sidx (.t 21) (.c (.int .i64 0)), (some (20, false)), none⟩,
  ⟨(some 23), .bin .eql (.t 22) (.c (.int .u8 48)), (some (20, false)), none⟩,
  ⟨(some 24), .pick (.t 20) (.c (.bool true)) (.t 23), none, none⟩]
def f26r2 : IC := .reg false [] f26o2 [24, 3]
@[simp] theorem f26r2_run : run tbl fin K f26r2 e H = regK tbl fin K [] f26o2 [24, 3] e H := run_regK _ _ _ _ _ _ _ _ _ rfl
@[simp] def f26o3 : List IOper := [
  ⟨(some 2), .mv (.c (.int .i64 0)), none, none⟩]
def f26r3 : IC := .reg false [] f26o3 [2]
@[simp] theorem f26r3_run : run tbl fin K f26r3 e H = regK tbl fin K [] f26o3 [2] e H := run_regK _ _ _ _ _ _ _ _ _ rfl
@[simp] def f26o4 : List IOper := [
  ⟨(some 25), .mv (.t 3), none, none⟩,
  ⟨(some 2), .mv (.t 25), none, none⟩]
def f26r4 : IC := .reg false [] f26o4 [2]
@[simp] theorem f26r4_run : run tbl fin K f26r4 e H = regK tbl fin K [] f26o4 [2] e H := run_regK _ _ _ _ _ _ _ _ _ rfl
def f26body : IC := (.seq f26r0 (.seq f26r1 (.seq (.seq f26r2 (.cond (.t 24) (.seq f26r3 .ret) .skip)) (.seq f26r4 .ret))))
def f26 : IFn := ⟨26, 1, [.tmp 2], f26body⟩
/- 27: jobshell/jobshellref01.Name -/
@[simp] def f27o0 : List IOper := [
  ⟨(some 2), .mv (.c (.bool false)), none, none⟩]
def f27r0 : IC := .reg false [] f27o0 [0]
@[simp] theorem f27r0_run : run tbl fin K f27r0 e H = regK tbl fin K [] f27o0 [0] e H := run_regK _ _ _ _ _ _ _ _ _ rfl
@[simp] def f27o1 : List IOper := [
  ⟨(some 4), .mv (.t 0), none, none⟩,
  ⟨(some 5), .bin .eql (.t 4) (.c (.str [])), none, none⟩,
  ⟨(some 6), .mv (.t 5), none, none⟩,
  ⟨(some 7), .mv (.t 0), (some (6, false)), none⟩,
  ⟨(some 8), .slen (.t 7), (some (6, false)), none⟩,
  ⟨(some 9), .bin .gtr (.t 8) (.c (.int .i64 32)), (some (6, false)), none⟩,
  ⟨(some 10), .pick (.t 6) (.c (.bool true)) (.t 9), none, none⟩,
  ⟨(some 11), .mv (.t 10), none, some [11, 0]⟩,
  ⟨(some 12), .mv (.t 0), (some (11, false)), none⟩,
  ⟨(some 13), .sidx (.t 12) (.c (.int .i64 0)), (some (11, false)), none⟩,
  ⟨(some 14), .call (.c (.fn 47 [])) [(.t 13)], (some (11, false)), none⟩,
  ⟨(some 15), .pick (.t 11) (.c (.bool true)) (.t 14), none, none⟩]
def f27r1 : IC := .reg false [] f27o1 [15, 0]
@[simp] theorem f27r1_run : run tbl fin K f27r1 e H = regK tbl fin K [] f27o1 [15, 0] e H := run_regK _ _ _ _ _ _ _ _ _ rfl
@[simp] def f27o2 : List IOper := [
  ⟨(some 2), .mv (.c (.bool false)), none, none⟩]
def f27r2 : IC := .reg false [] f27o2 [2]
@[simp] theorem f27r2_run : run tbl fin K f27r2 e H = regK tbl fin K [] f27o2 [2] e H := run_regK _ _ _ _ _ _ _ _ _ rfl
@[simp] def f27o3 : List IOper := [
  ⟨(some 3), .mv (.c (.int .i64 0)), none, none⟩]
def f27r3 : IC := .reg false [] f27o3 [0, 3]
@[simp] theorem f27r3_run : run tbl fin K f27r3 e H = regK tbl fin K [] f27o3 [0, 3] e H := run_regK _ _ _ _ _ _ _ _ _ rfl
@[simp] def f27o4 : List IOper := [
  ⟨(some 16), .mv (.t 3), none, none⟩,
  ⟨(some 17), .mv (.t 0), none, none⟩,
  ⟨(some 18), .slen (.t 17), none, none⟩,
  ⟨(some 19), .bin .lss (.t 16) (.t 18), none, none⟩]
def f27r4 : IC := .reg false [] f27o4 [19, 0, 3]
@[simp] theorem f27r4_run : run tbl fin K f27r4 e H = regK tbl fin K [] f27o4 [19, 0, 3] e H := run_regK _ _ _ _ _ _ _ _ _ rfl
@[simp] def f27o5 : List IOper := [
  ⟨(some 22), .mv (.t 0), none, none⟩,
  ⟨(some 23), .mv (.t 3), none, none⟩,
  ⟨(some 24), .sidx (.t 22) (.t 23), none, none⟩,
  ⟨(some 25), .call (.c (.fn 48 [])) [(.t 24)], none, none⟩,
  ⟨(some 26), .un .not (.t 25), none, none⟩]
def f27r5 : IC := .reg false [] f27o5 [26, 0, 3]
@[simp] theorem f27r5_run : run tbl fin K f27r5 e H = regK tbl fin K [] f27o5 [26, 0, 3] e H := run_regK _ _ _ _ _ _ _ _ _ rfl
@[simp] def f27o6 : List IOper := [
  ⟨(some 2), .mv (.c (.bool false)), none, none⟩]
def f27r6 : IC := .reg false [] f27o6 [2]
@[simp] theorem f27r6_run : run tbl fin K f27r6 e H = regK tbl fin K [] f27o6 [2] e H := run_regK _ _ _ _ _ _ _ _ _ rfl
@[simp] def f27o7 : List IOper := [
  ⟨(some 20), .mv (.t 3), none, none⟩,
  ⟨(some 21), .bin .add (.t 20) (.c (.int .i64 1)), none, none⟩,
  ⟨(some 3), .mv (.t 21), none, none⟩]
def f27r7 : IC := .reg false [] f27o7 [0, 3]
@[simp] theorem f27r7_run : run tbl fin K f27r7 e H = regK tbl fin K [] f27o7 [0, 3] e H := run_regK _ _ _ _ _ _ _ _ _ rfl
def f27b8 : IC := (.seq (.seq f27r4 (.cond (.t 19) .skip (.exit 0))) (.seq (.block 1 (.seq f27r5 (.cond (.t 26) (.seq f27r6 .ret) .skip))) f27r7))
theorem f27b8_eq : f27b8 = (.seq (.seq f27r4 (.cond (.t 19) .skip (.exit 0))) (.seq (.block 1 (.seq f27r5 (.cond (.t 26) (.seq f27r6 .ret) .skip))) f27r7)) := rfl
@[simp] def f27o9 : List IOper := [
  ⟨(some 2), .mv (.c (.bool true)), none, none⟩]
def f27r9 : IC := .reg false [] f27o9 [2]
@[simp] theorem f27r9_run : run tbl fin K f27r9 e H = regK tbl fin K [] f27o9 [2] e H := run_regK _ _ _ _ _ _ _ _ _ rfl
def f27body : IC := (.seq f27r0 (.seq (.seq f27r1 (.cond (.t 15) (.seq f27r2 .ret) .skip)) (.seq (.seq f27r3 (.block 0 (.loop [0, 3] f27b8))) (.seq f27r9 .ret))))
def f27 : IFn := ⟨27, 1, [.tmp 2], f27body⟩
/- 28: jobshell/jobshellref15.Get -/
@[simp] def f28o0 : List IOper := [
  ⟨(some 4), .new 49 5 (.agg [(.str []), (.str []), (.bool false), (.bool false), (.bool false)]), none, none⟩,
  ⟨(some 5), .mv (.c (.bool false)), none, none⟩]
def f28r0 : IC := .reg false [] f28o0 [1, 0, 4]
@[simp] theorem f28r0_run : run tbl fin K f28r0 e H = regK tbl fin K [] f28o0 [1, 0, 4] e H := run_regK _ _ _ _ _ _ _ _ _ rfl
@[simp] def f28o1 : List IOper := [
  ⟨(some 6), .mv (.c (.int .i64 0)), none, none⟩]
def f28r1 : IC := .reg false [] f28o1 [1, 0, 6, 4]
@[simp] theorem f28r1_run : run tbl fin K f28r1 e H = regK tbl fin K [] f28o1 [1, 0, 6, 4] e H := run_regK _ _ _ _ _ _ _ _ _ rfl
@[simp] def f28o2 : List IOper := [
  ⟨(some 7), .mv (.t 6), none, none⟩,
  ⟨(some 8), .mv (.t 0), none, none⟩,
  ⟨(some 9), .len (.t 8), none, none⟩,
  ⟨(some 10), .bin .lss (.t 7) (.t 9), none, none⟩]
def f28r2 : IC := .reg false [] f28o2 [10, 1, 0, 6, 4]
@[simp] theorem f28r2_run : run tbl fin K f28r2 e H = regK tbl fin K [] f28o2 [10, 1, 0, 6, 4] e H := run_regK _ _ _ _ _ _ _ _ _ rfl
@[simp] def f28o3 : List IOper := [
  ⟨(some 13), .mv (.t 0), none, none⟩,
  ⟨(some 14), .mv (.t 6), none, none⟩,
  ⟨(some 15), .idx 5 (.t 13) (.t 14), none, none⟩,
  ⟨(some 16), .fld 0 (.t 15), none, none⟩,
  ⟨(some 17), .load false 1 (.t 16), none, none⟩,
  ⟨(some 18), .mv (.t 1), none, none⟩,
  ⟨(some 19), .bin .eql (.t 17) (.t 18), none, none⟩]
def f28r3 : IC := .reg false [] f28o3 [19, 1, 0, 6, 4]
@[simp] theorem f28r3_run : run tbl fin K f28r3 e H = regK tbl fin K [] f28o3 [19, 1, 0, 6, 4] e H := run_regK _ _ _ _ _ _ _ _ _ rfl
@[simp] def f28o4 : List IOper := [
  ⟨(some 20), .mv (.t 0), none, none⟩,
  ⟨(some 21), .mv (.t 6), none, none⟩,
  ⟨(some 22), .idx 5 (.t 20) (.t 21), none, none⟩,
  ⟨(some 23), .load true 5 (.t 22), none, none⟩,
  ⟨none, .store 5 (.t 4) (.t 23), none, none⟩,
  ⟨(some 5), .mv (.c (.bool true)), none, none⟩]
def f28r4 : IC := .reg false [] f28o4 [4, 5]
@[simp] theorem f28r4_run : run tbl fin K f28r4 e H = regK tbl fin K [] f28o4 [4, 5] e H := run_regK _ _ _ _ _ _ _ _ _ rfl
@[simp] def f28o5 : List IOper := [
  ⟨(some 11), .mv (.t 6), none, none⟩,
  ⟨(some 12), .bin .add (.t 11) (.c (.int .i64 1)), none, none⟩,
  ⟨(some 6), .mv (.t 12), none, none⟩]
def f28r5 : IC := .reg false [] f28o5 [1, 0, 6, 4]
@[simp] theorem f28r5_run : run tbl fin K f28r5 e H = regK tbl fin K [] f28o5 [1, 0, 6, 4] e H := run_regK _ _ _ _ _ _ _ _ _ rfl
def f28b6 : IC := (.seq (.seq f28r2 (.cond (.t 10) .skip (.exit 0))) (.seq (.block 1 (.seq f28r3 (.cond (.t 19) (.seq f28r4 .ret) .skip))) f28r5))
theorem f28b6_eq : f28b6 = (.seq (.seq f28r2 (.cond (.t 10) .skip (.exit 0))) (.seq (.block 1 (.seq f28r3 (.cond (.t 19) (.seq f28r4 .ret) .skip))) f28r5)) := rfl
@[simp] def f28o7 : List IOper := [
  ⟨(some 24), .build [(.str []), (.str []), (.bool false), (.bool false), (.bool false)] [], none, none⟩,
  ⟨none, .store 5 (.t 4) (.t 24), none, none⟩,
  ⟨(some 5), .mv (.c (.bool false)), none, none⟩]
def f28r7 : IC := .reg false [] f28o7 [4, 5]
@[simp] theorem f28r7_run : run tbl fin K f28r7 e H = regK tbl fin K [] f28o7 [4, 5] e H := run_regK _ _ _ _ _ _ _ _ _ rfl
def f28body : IC := (.seq f28r0 (.seq (.seq f28r1 (.block 0 (.loop [1, 0, 6, 4] f28b6))) (.seq f28r7 .ret)))
def f28 : IFn := ⟨25, 2, [.cell 4 true 5, .tmp 5], f28body⟩
/- 29: jobshell/jobshellref05.Decimal -/
@[simp] def f29o0 : List IOper := [
  ⟨(some 2), .mv (.c (.str [])), none, none⟩]
def f29r0 : IC := .reg false [] f29o0 [0]
@[simp] theorem f29r0_run : run tbl fin K f29r0 e H = regK tbl fin K [] f29o0 [0] e H := run_regK _ _ _ _ _ _ _ _ _ rfl
@[simp] def f29o1 : List IOper := [
  ⟨(some 3), .mv (.t 0), none, none⟩,
  ⟨(some 4), .bin .lss (.t 3) (.c (.int .i64 0)), none, none⟩]
def f29r1 : IC := .reg false [] f29o1 [4, 0]
@[simp] theorem f29r1_run : run tbl fin K f29r1 e H = regK tbl fin K [] f29o1 [4, 0] e H := run_regK _ _ _ _ _ _ _ _ _ rfl
@[simp] def f29o2 : List IOper := [
  ⟨(some 5), .mv (.t 0), none, none⟩,
  ⟨(some 6), .bin .add (.t 5) (.c (.int .i64 1)), none, none⟩,
  ⟨(some 7), .un .neg (.t 6), none, none⟩,
  ⟨(some 8), .conv .u64 (.t 7), none, none⟩,
  ⟨(some 9), .bin .add (.t 8) (.c (.int .u64 1)), none, none⟩,
  ⟨(some 10), .call (.c (.fn 49 [])) [(.t 9)], none, none⟩,
  ⟨(some 11), .bin .add (.c (.str [45])) (.t 10), none, none⟩,
  ⟨(some 2), .mv (.t 11), none, none⟩]
def f29r2 : IC := .reg false [] f29o2 [2]
@[simp] theorem f29r2_run : run tbl fin K f29r2 e H = regK tbl fin K [] f29o2 [2] e H := run_regK _ _ _ _ _ _ _ _ _ rfl
@[simp] def f29o3 : List IOper := [
  ⟨(some 12), .mv (.t 0), none, none⟩,
  ⟨(some 13), .conv .u64 (.t 12), none, none⟩,
  ⟨(some 14), .call (.c (.fn 49 [])) [(.t 13)], none, none⟩,
  ⟨(some 2), .mv (.t 14), none, none⟩]
def f29r3 : IC := .reg false [] f29o3 [2]
@[simp] theorem f29r3_run : run tbl fin K f29r3 e H = regK tbl fin K [] f29o3 [2] e H := run_regK _ _ _ _ _ _ _ _ _ rfl
def f29body : IC := (.seq f29r0 (.seq (.seq f29r1 (.cond (.t 4) (.seq f29r2 .ret) .skip)) (.seq f29r3 .ret)))
def f29 : IFn := ⟨15, 1, [.tmp 2], f29body⟩
/- 30: jobshell/jobshellref17.Flags -/
@[simp] def f30o0 : List IOper := [
  ⟨(some 2), .mv (.c (.str [])), none, none⟩]
def f30r0 : IC := .reg false [] f30o0 [0]
@[simp] theorem f30r0_run : run tbl fin K f30r0 e H = regK tbl fin K [] f30o0 [0] e H := run_regK _ _ _ _ _ _ _ _ _ rfl
@[simp] def f30o1 : List IOper := [
  ⟨(some 3), .mv (.c (.str [97, 67, 101, 102, 109, 110, 117, 120])), none, none⟩]
def f30r1 : IC := .reg false [] f30o1 [0, 3]
@[simp] theorem f30r1_run : run tbl fin K f30r1 e H = regK tbl fin K [] f30o1 [0, 3] e H := run_regK _ _ _ _ _ _ _ _ _ rfl
@[simp] def f30o2 : List IOper := [
  ⟨(some 7), .mkrow 3 1 8 (.int .i64 0) [(0, (.c (.int .i64 32))), (1, (.c (.int .i64 128))), (2, (.c (.int .i64 1))), (3, (.c (.int .i64 8))), (4, (.c (.int .i64 64))), (5, (.c (.int .i64 16))), (6, (.c (.int .i64 2))), (7, (.c (.int .i64 4)))], none, none⟩,
  ⟨(some 4), .mv (.t 7), none, none⟩]
def f30r2 : IC := .reg false [] f30o2 [0, 4, 3]
@[simp] theorem f30r2_run : run tbl fin K f30r2 e H = regK tbl fin K [] f30o2 [0, 4, 3] e H := run_regK _ _ _ _ _ _ _ _ _ rfl
@[simp] def f30o3 : List IOper := [
  ⟨(some 5), .mv (.c (.str [])), none, none⟩]
def f30r3 : IC := .reg false [] f30o3 [5, 0, 4, 3]
@[simp] theorem f30r3_run : run tbl fin K f30r3 e H = regK tbl fin K [] f30o3 [5, 0, 4, 3] e H := run_regK _ _ _ _ _ _ _ _ _ rfl
@[simp] def f30o4 : List IOper := [
  ⟨(some 6), .mv (.c (.int .i64 0)), none, none⟩]
def f30r4 : IC := .reg false [] f30o4 [5, 6, 0, 4, 3]
@[simp] theorem f30r4_run : run tbl fin K f30r4 e H = regK tbl fin K [] f30o4 [5, 6, 0, 4, 3] e H := run_regK _ _ _ _ _ _ _ _ _ rfl
@[simp] def f30o5 : List IOper := [
  ⟨(some 8), .mv (.t 6), none, none⟩,
  ⟨(some 9), .mv (.t 4), none, none⟩,
  ⟨(some 10), .len (.t 9), none, none⟩,
  ⟨(some 11), .bin .lss (.t 8) (.t 10), none, none⟩]
def f30r5 : IC := .reg false [] f30o5 [11, 5, 6, 0, 4, 3]
@[simp] theorem f30r5_run : run tbl fin K f30r5 e H = regK tbl fin K [] f30o5 [11, 5, 6, 0, 4, 3] e H := run_regK _ _ _ _ _ _ _ _ _ rfl
@[simp] def f30o6 : List IOper := [
  ⟨(some 14), .mv (.t 0), none, none⟩,
  ⟨(some 15), .mv (.t 4), none, none⟩,
  ⟨(some 16), .mv (.t 6), none, none⟩,
  ⟨(some 17), .idx 1 (.t 15) (.t 16), none, none⟩,
  ⟨(some 18), .load false 1 (.t 17), none, none⟩,
  ⟨(some 19), .bin .and (.t 14) (.t 18), none, none⟩,
  ⟨(some 20), .bin .neq (.t 19) (.c (.int .i64 0)), none, none⟩]
def f30r6 : IC := .reg false [] f30o6 [20, 5, 6, 0, 4, 3]
@[simp] theorem f30r6_run : run tbl fin K f30r6 e H = regK tbl fin K [] f30o6 [20, 5, 6, 0, 4, 3] e H := run_regK _ _ _ _ _ _ _ _ _ rfl
@[simp] def f30o7 : List IOper := [
  ⟨(some 21), .mv (.t 5), none, none⟩,
  ⟨(some 22), .mv (.t 3), none, none⟩,
  ⟨(some 23), .mv (.t 6), none, none⟩,
  ⟨(some 24), .mv (.t 6), none, none⟩,
  ⟨(some 25), .bin .add (.t 24) (.c (.int .i64 1)), none, none⟩,
  ⟨(some 26), .sls (.t 22) (some (.t 23)) (some (.t 25)), none, none⟩,
  ⟨(some 27), .bin .add (.t 21) (.t 26), none, none⟩,
  ⟨(some 5), .mv (.t 27), none, none⟩]
def f30r7 : IC := .reg false [] f30o7 [6, 5, 0, 4, 3]
@[simp] theorem f30r7_run : run tbl fin K f30r7 e H = regK tbl fin K [] f30o7 [6, 5, 0, 4, 3] e H := run_regK _ _ _ _ _ _ _ _ _ rfl
@[simp] def f30o8 : List IOper := [
  ⟨(some 12), .mv (.t 6), none, none⟩,
  ⟨(some 13), .bin .add (.t 12) (.c (.int .i64 1)), none, none⟩,
  ⟨(some 6), .mv (.t 13), none, none⟩]
def f30r8 : IC := .reg false [] f30o8 [5, 6, 0, 4, 3]
@[simp] theorem f30r8_run : run tbl fin K f30r8 e H = regK tbl fin K [] f30o8 [5, 6, 0, 4, 3] e H := run_regK _ _ _ _ _ _ _ _ _ rfl
def f30b9 : IC := (.seq (.seq f30r5 (.cond (.t 11) .skip (.exit 0))) (.seq (.block 1 (.seq f30r6 (.cond (.t 20) f30r7 .skip))) f30r8))
theorem f30b9_eq : f30b9 = (.seq (.seq f30r5 (.cond (.t 11) .skip (.exit 0))) (.seq (.block 1 (.seq f30r6 (.cond (.t 20) f30r7 .skip))) f30r8)) := rfl
@[simp] def f30o10 : List IOper := [
  ⟨(some 28), .mv (.t 5), none, none⟩,
  ⟨(some 2), .mv (.t 28), none, none⟩]
def f30r10 : IC := .reg false [] f30o10 [2]
@[simp] theorem f30r10_run : run tbl fin K f30r10 e H = regK tbl fin K [] f30o10 [2] e H := run_regK _ _ _ _ _ _ _ _ _ rfl
def f30body : IC := (.seq f30r0 (.seq f30r1 (.seq f30r2 (.seq f30r3 (.seq (.seq f30r4 (.block 0 (.loop [5, 6, 0, 4, 3] f30b9))) (.seq f30r10 .ret))))))
def f30 : IFn := ⟨29, 1, [.tmp 2], f30body⟩
/- 31: jobshell/jobshellref17.Join -/
@[simp] def f31o0 : List IOper := [
  ⟨(some 4), .mv (.c (.str [])), none, none⟩]
def f31r0 : IC := .reg false [] f31o0 [1, 0]
@[simp] theorem f31r0_run : run tbl fin K f31r0 e H = regK tbl fin K [] f31o0 [1, 0] e H := run_regK _ _ _ _ _ _ _ _ _ rfl
@[simp] def f31o1 : List IOper := [
  ⟨(some 5), .mv (.c (.str [])), none, none⟩]
def f31r1 : IC := .reg false [] f31o1 [5, 1, 0]
@[simp] theorem f31r1_run : run tbl fin K f31r1 e H = regK tbl fin K [] f31o1 [5, 1, 0] e H := run_regK _ _ _ _ _ _ _ _ _ rfl
@[simp] def f31o2 : List IOper := [
  ⟨(some 6), .mv (.c (.int .i64 0)), none, none⟩]
def f31r2 : IC := .reg false [] f31o2 [5, 6, 1, 0]
@[simp] theorem f31r2_run : run tbl fin K f31r2 e H = regK tbl fin K [] f31o2 [5, 6, 1, 0] e H := run_regK _ _ _ _ _ _ _ _ _ rfl
@[simp] def f31o3 : List IOper := [
  ⟨(some 7), .mv (.t 6), none, none⟩,
  ⟨(some 8), .mv (.t 0), none, none⟩,
  ⟨(some 9), .len (.t 8), none, none⟩,
  ⟨(some 10), .bin .lss (.t 7) (.t 9), none, none⟩]
def f31r3 : IC := .reg false [] f31o3 [10, 5, 6, 1, 0]
@[simp] theorem f31r3_run : run tbl fin K f31r3 e H = regK tbl fin K [] f31o3 [10, 5, 6, 1, 0] e H := run_regK _ _ _ _ _ _ _ _ _ rfl
@[simp] def f31o4 : List IOper := [
  ⟨(some 13), .mv (.t 6), none, none⟩,
  ⟨(some 14), .bin .gtr (.t 13) (.c (.int .i64 0)), none, none⟩]
def f31r4 : IC := .reg false [] f31o4 [14, 5, 6, 1, 0]
@[simp] theorem f31r4_run : run tbl fin K f31r4 e H = regK tbl fin K [] f31o4 [14, 5, 6, 1, 0] e H := run_regK _ _ _ _ _ _ _ _ _ rfl
@[simp] def f31o5 : List IOper := [
  ⟨(some 15), .mv (.t 5), none, none⟩,
  ⟨(some 16), .mv (.t 1), none, none⟩,
  ⟨(some 17), .bin .add (.t 15) (.t 16), none, none⟩,
  ⟨(some 5), .mv (.t 17), none, none⟩]
def f31r5 : IC := .reg false [] f31o5 [5, 6, 1, 0]
@[simp] theorem f31r5_run : run tbl fin K f31r5 e H = regK tbl fin K [] f31o5 [5, 6, 1, 0] e H := run_regK _ _ _ _ _ _ _ _ _ rfl
@[simp] def f31o6 : List IOper := [
  ⟨(some 18), .mv (.t 5), none, none⟩,
  ⟨(some 19), .mv (.t 0), none, none⟩,
  ⟨(some 20), .mv (.t 6), none, none⟩,
  ⟨(some 21), .idx 1 (.t 19) (.t 20), none, none⟩,
  ⟨(some 22), .load false 1 (.t 21), none, none⟩,
  ⟨(some 23), .bin .add (.t 18) (.t 22), none, none⟩,
  ⟨(some 5), .mv (.t 23), none, none⟩]
def f31r6 : IC := .reg false [] f31o6 [6, 5, 1, 0]
@[simp] theorem f31r6_run : run tbl fin K f31r6 e H = regK tbl fin K [] f31o6 [6, 5, 1, 0] e H := run_regK _ _ _ _ _ _ _ _ _ rfl
@[simp] def f31o7 : List IOper := [
  ⟨(some 11), .mv (.t 6), none, none⟩,
  ⟨(some 12), .bin .add (.t 11) (.c (.int .i64 1)), none, none⟩,
  ⟨(some 6), .mv (.t 12), none, none⟩]
def f31r7 : IC := .reg false [] f31o7 [5, 6, 1, 0]
@[simp] theorem f31r7_run : run tbl fin K f31r7 e H = regK tbl fin K [] f31o7 [5, 6, 1, 0] e H := run_regK _ _ _ _ _ _ _ _ _ rfl
def f31b8 : IC := (.seq (.seq f31r3 (.cond (.t 10) .skip (.exit 0))) (.seq (.block 1 (.seq (.seq f31r4 (.cond (.t 14) f31r5 .skip)) f31r6)) f31r7))
theorem f31b8_eq : f31b8 = (.seq (.seq f31r3 (.cond (.t 10) .skip (.exit 0))) (.seq (.block 1 (.seq (.seq f31r4 (.cond (.t 14) f31r5 .skip)) f31r6)) f31r7)) := rfl
@[simp] def f31o9 : List IOper := [
  ⟨(some 24), .mv (.t 5), none, none⟩,
  ⟨(some 4), .mv (.t 24), none, none⟩]
def f31r9 : IC := .reg false [] f31o9 [4]
@[simp] theorem f31r9_run : run tbl fin K f31r9 e H = regK tbl fin K [] f31o9 [4] e H := run_regK _ _ _ _ _ _ _ _ _ rfl
def f31body : IC := (.seq f31r0 (.seq f31r1 (.seq (.seq f31r2 (.block 0 (.loop [5, 6, 1, 0] f31b8))) (.seq f31r9 .ret))))
def f31 : IFn := ⟨25, 2, [.tmp 4], f31body⟩
/- 32: jobshell/jobshellref17.Glue -/
@[simp] def f32o0 : List IOper := [
  ⟨(some 2), .mv (.c (.str [])), none, none⟩]
def f32r0 : IC := .reg false [] f32o0 [0]
@[simp] theorem f32r0_run : run tbl fin K f32r0 e H = regK tbl fin K [] f32o0 [0] e H := run_regK _ _ _ _ _ _ _ _ _ rfl
@[simp] def f32o1 : List IOper := [
  ⟨(some 6), .mv (.t 0), none, none⟩,
  ⟨(some 7), .call (.c (.fn 28 [])) [(.t 6), (.c (.str [73, 70, 83]))], none, none⟩,
  ⟨(some 5), .mv (.t 7), none, none⟩,
  ⟨(some 8), .ext (.t 5) 0, none, none⟩,
  ⟨(some 9), .ext (.t 5) 1, none, none⟩,
  ⟨(some 3), .new 49 5 (.agg [(.str []), (.str []), (.bool false), (.bool false), (.bool false)]), none, none⟩,
  ⟨none, .store 5 (.t 3) (.t 8), none, none⟩,
  ⟨(some 4), .mv (.t 9), none, none⟩]
def f32r1 : IC := .reg false [] f32o1 [3]
@[simp] theorem f32r1_run : run tbl fin K f32r1 e H = regK tbl fin K [] f32o1 [3] e H := run_regK _ _ _ _ _ _ _ _ _ rfl
@[simp] def f32o2 : List IOper := [
  ⟨(some 10), .fld 2 (.t 3), none, none⟩,
  ⟨(some 11), .load false 1 (.t 10), none, none⟩,
  ⟨(some 12), .un .not (.t 11), none, none⟩]
def f32r2 : IC := .reg false [] f32o2 [12, 3]
@[simp] theorem f32r2_run : run tbl fin K f32r2 e H = regK tbl fin K [] f32o2 [12, 3] e H := run_regK _ _ _ _ _ _ _ _ _ rfl
@[simp] def f32o3 : List IOper := [
  ⟨(some 2), .mv (.c (.str [32])), none, none⟩]
def f32r3 : IC := .reg false [] f32o3 [2]
@[simp] theorem f32r3_run : run tbl fin K f32r3 e H = regK tbl fin K [] f32o3 [2] e H := run_regK _ _ _ _ _ _ _ _ _ rfl
@[simp] def f32o4 : List IOper := [
  ⟨(some 13), .fld 1 (.t 3), none, none⟩,
  ⟨(some 14), .load false 1 (.t 13), none, none⟩,
  ⟨(some 15), .bin .eql (.t 14) (.c (.str [])), none, none⟩]
def f32r4 : IC := .reg false [] f32o4 [15, 3]
@[simp] theorem f32r4_run : run tbl fin K f32r4 e H = regK tbl fin K [] f32o4 [15, 3] e H := run_regK _ _ _ _ _ _ _ _ _ rfl
@[simp] def f32o5 : List IOper := [
  ⟨(some 2), .mv (.c (.str [])), none, none⟩]
def f32r5 : IC := .reg false [] f32o5 [2]
@[simp] theorem f32r5_run : run tbl fin K f32r5 e H = regK tbl fin K [] f32o5 [2] e H := run_regK _ _ _ _ _ _ _ _ _ rfl
@[simp] def f32o6 : List IOper := [
  ⟨(some 16), .fld 1 (.t 3), none, none⟩,
  ⟨(some 17), .load false 1 (.t 16), none, none⟩,
  ⟨(some 18), .sls (.t 17) none (some (.c (.int .i64 1))), none, none⟩,
  ⟨(some 2), .mv (.t 18), none, none⟩]
def f32r6 : IC := .reg false [] f32o6 [2]
@[simp] theorem f32r6_run : run tbl fin K f32r6 e H = regK tbl fin K [] f32o6 [2] e H := run_regK _ _ _ _ _ _ _ _ _ rfl
def f32body : IC := (.seq f32r0 (.seq f32r1 (.seq (.seq f32r2 (.cond (.t 12) (.seq f32r3 .ret) .skip)) (.seq (.seq f32r4 (.cond (.t 15) (.seq f32r5 .ret) .skip)) (.seq f32r6 .ret)))))
def f32 : IFn := ⟨19, 1, [.tmp 2], f32body⟩
/- 33: jobshell/jobshellref17.special -/
@[simp] def f33o0 : List IOper := [
  ⟨(some 2), .mv (.c (.bool false)), none, none⟩]
def f33r0 : IC := .reg false [] f33o0 [0]
@[simp] theorem f33r0_run : run tbl fin K f33r0 e H = regK tbl fin K [] f33o0 [0] e H := run_regK _ _ _ _ _ _ _ _ _ rfl
@[simp] def f33o1 : List IOper := [
  ⟨(some 5), .mkrow 9 1 8 (.str []) [(0, (.c (.str [64]))), (1, (.c (.str [42]))), (2, (.c (.str [35]))), (3, (.c (.str [63]))), (4, (.c (.str [45]))), (5, (.c (.str [36]))), (6, (.c (.str [33]))), (7, (.c (.str [48])))], none, none⟩,
  ⟨(some 3), .mv (.t 5), none, none⟩]
def f33r1 : IC := .reg false [] f33o1 [3, 0]
@[simp] theorem f33r1_run : run tbl fin K f33r1 e H = regK tbl fin K [] f33o1 [3, 0] e H := run_regK _ _ _ _ _ _ _ _ _ rfl
@[simp] def f33o2 : List IOper := [
  ⟨(some 4), .mv (.c (.int .i64 0)), none, none⟩]
def f33r2 : IC := .reg false [] f33o2 [3, 0, 4]
@[simp] theorem f33r2_run : run tbl fin K f33r2 e H = regK tbl fin K [] f33o2 [3, 0, 4] e H := run_regK _ _ _ _ _ _ _ _ _ rfl
@[simp] def f33o3 : List IOper := [
  ⟨(some 6), .mv (.t 4), none, none⟩,
  ⟨(some 7), .mv (.t 3), none, none⟩,
  ⟨(some 8), .len (.t 7), none, none⟩,
  ⟨(some 9), .bin .lss (.t 6) (.t 8), none, none⟩]
def f33r3 : IC := .reg false [] f33o3 [9, 0, 3, 4]
@[simp] theorem f33r3_run : run tbl fin K f33r3 e H = regK tbl fin K [] f33o3 [9, 0, 3, 4] e H := run_regK _ _ _ _ _ _ _ _ _ rfl
@[simp] def f33o4 : List IOper := [
  ⟨(some 12), .mv (.t 3), none, none⟩,
  ⟨(some 13), .mv (.t 4), none, none⟩,
  ⟨(some 14), .idx 1 (.t 12) (.t 13), none, none⟩,
  ⟨(some 15), .load false 1 (.t 14), none, none⟩,
  ⟨(some 16), .mv (.t 0), none, none⟩,
  ⟨(some 17), .bin .eql (.t 15) (.t 16), none, none⟩]
def f33r4 : IC := .reg false [] f33o4 [17, 0, 3, 4]
@[simp] theorem f33r4_run : run tbl fin K f33r4 e H = regK tbl fin K [] f33o4 [17, 0, 3, 4] e H := run_regK _ _ _ _ _ _ _ _ _ rfl
@[simp] def f33o5 : List IOper := [
  ⟨(some 2), .mv (.c (.bool true)), none, none⟩]
def f33r5 : IC := .reg false [] f33o5 [2]
@[simp] theorem f33r5_run : run tbl fin K f33r5 e H = regK tbl fin K [] f33o5 [2] e H := run_regK _ _ _ _ _ _ _ _ _ rfl
@[simp] def f33o6 : List IOper := [
  ⟨(some 10), .mv (.t 4), none, none⟩,
  ⟨(some 11), .bin .add (.t 10) (.c (.int .i64 1)), none, none⟩,
  ⟨(some 4), .mv (.t 11), none, none⟩]
def f33r6 : IC := .reg false [] f33o6 [3, 0, 4]
@[simp] theorem f33r6_run : run tbl fin K f33r6 e H = regK tbl fin K [] f33o6 [3, 0, 4] e H := run_regK _ _ _ _ _ _ _ _ _ rfl
def f33b7 : IC := (.seq (.seq f33r3 (.cond (.t 9) .skip (.exit 0))) (.seq (.block 1 (.seq f33r4 (.cond (.t 17) (.seq f33r5 .ret) .skip))) f33r6))
theorem f33b7_eq : f33b7 = (.seq (.seq f33r3 (.cond (.t 9) .skip (.exit 0))) (.seq (.block 1 (.seq f33r4 (.cond (.t 17) (.seq f33r5 .ret) .skip))) f33r6)) := rfl
@[simp] def f33o8 : List IOper := [
  ⟨(some 2), .mv (.c (.bool false)), none, none⟩]
def f33r8 : IC := .reg false [] f33o8 [2]
@[simp] theorem f33r8_run : run tbl fin K f33r8 e H = regK tbl fin K [] f33o8 [2] e H := run_regK _ _ _ _ _ _ _ _ _ rfl
def f33body : IC := (.seq f33r0 (.seq f33r1 (.seq (.seq f33r2 (.block 0 (.loop [3, 0, 4] f33b7))) (.seq f33r8 .ret))))
def f33 : IFn := ⟨18, 1, [.tmp 2], f33body⟩
/- 34: jobshell/pattern.Suffix -/
@[simp] def f34o0 : List IOper := [
  ⟨(some 6), .mv (.c (.int .i64 0)), none, none⟩,
  ⟨(some 7), .mv (.c (.bool false)), none, none⟩]
def f34r0 : IC := .reg false [] f34o0 [0, 1, 2]
@[simp] theorem f34r0_run : run tbl fin K f34r0 e H = regK tbl fin K [] f34o0 [0, 1, 2] e H := run_regK _ _ _ _ _ _ _ _ _ rfl
@[simp] def f34o1 : List IOper := [
  ⟨(some 10), .mv (.t 0), none, none⟩,
  ⟨(some 11), .call (.c (.fn 50 [])) [(.t 10)], none, none⟩,
  ⟨(some 8), .mv (.t 11), none, none⟩]
def f34r1 : IC := .reg false [] f34o1 [1, 8, 2]
@[simp] theorem f34r1_run : run tbl fin K f34r1 e H = regK tbl fin K [] f34o1 [1, 8, 2] e H := run_regK _ _ _ _ _ _ _ _ _ rfl
@[simp] def f34o2 : List IOper := [
  ⟨(some 12), .mv (.t 8), none, none⟩,
  ⟨(some 13), .ocall (.c (.fn 51 [])) [(.t 12)], none, none⟩]
def f34r2 : IC := .reg false [] f34o2 [1, 8, 2]
@[simp] theorem f34r2_run : run tbl fin K f34r2 e H = regK tbl fin K [] f34o2 [1, 8, 2] e H := run_regK _ _ _ _ _ _ _ _ _ rfl
@[simp] def f34o3 : List IOper := [
  ⟨(some 14), .mv (.t 1), none, none⟩,
  ⟨(some 15), .s2b (.t 14), none, none⟩,
  ⟨(some 9), .mv (.t 15), none, none⟩]
def f34r3 : IC := .reg false [] f34o3 [8, 9, 2]
@[simp] theorem f34r3_run : run tbl fin K f34r3 e H = regK tbl fin K [] f34o3 [8, 9, 2] e H := run_regK _ _ _ _ _ _ _ _ _ rfl
@[simp] def f34o4 : List IOper := [
  ⟨(some 16), .mv (.t 9), none, none⟩,
  ⟨(some 17), .ocall (.c (.fn 52 [])) [(.t 16)], none, none⟩]
def f34r4 : IC := .reg false [] f34o4 [8, 9, 2]
@[simp] theorem f34r4_run : run tbl fin K f34r4 e H = regK tbl fin K [] f34o4 [8, 9, 2] e H := run_regK _ _ _ _ _ _ _ _ _ rfl
@[simp] def f34o5 : List IOper := [
  ⟨(some 18), .mv (.t 8), none, none⟩,
  ⟨(some 19), .mv (.t 9), none, none⟩,
  ⟨(some 20), .b2s (.t 19), none, none⟩,
  ⟨(some 21), .mv (.t 2), none, none⟩,
  ⟨(some 22), .call (.c (.fn 53 [])) [(.t 18), (.t 20), (.c (.int .i64 0)), (.t 21)], none, none⟩,
  ⟨(some 23), .ext (.t 22) 0, none, none⟩,
  ⟨(some 24), .ext (.t 22) 1, none, none⟩,
  ⟨(some 6), .mv (.t 23), none, none⟩,
  ⟨(some 7), .mv (.t 24), none, none⟩]
def f34r5 : IC := .reg false [] f34o5 [6, 7]
@[simp] theorem f34r5_run : run tbl fin K f34r5 e H = regK tbl fin K [] f34o5 [6, 7] e H := run_regK _ _ _ _ _ _ _ _ _ rfl
def f34body : IC := (.seq f34r0 (.seq f34r1 (.seq f34r2 (.seq f34r3 (.seq f34r4 (.seq f34r5 .ret))))))
def f34 : IFn := ⟨25, 3, [.tmp 6, .tmp 7], f34body⟩
/- 35: jobshell/pattern.Prefix -/
@[simp] def f35o0 : List IOper := [
  ⟨(some 6), .mv (.c (.int .i64 0)), none, none⟩,
  ⟨(some 7), .mv (.c (.bool false)), none, none⟩]
def f35r0 : IC := .reg false [] f35o0 [0, 1, 2]
@[simp] theorem f35r0_run : run tbl fin K f35r0 e H = regK tbl fin K [] f35o0 [0, 1, 2] e H := run_regK _ _ _ _ _ _ _ _ _ rfl
@[simp] def f35o1 : List IOper := [
  ⟨(some 8), .mv (.t 0), none, none⟩,
  ⟨(some 9), .mv (.t 1), none, none⟩,
  ⟨(some 10), .mv (.t 2), none, none⟩,
  ⟨(some 11), .call (.c (.fn 53 [])) [(.t 8), (.t 9), (.c (.int .i64 0)), (.t 10)], none, none⟩,
  ⟨(some 12), .ext (.t 11) 0, none, none⟩,
  ⟨(some 13), .ext (.t 11) 1, none, none⟩,
  ⟨(some 6), .mv (.t 12), none, none⟩,
  ⟨(some 7), .mv (.t 13), none, none⟩]
def f35r1 : IC := .reg false [] f35o1 [6, 7]
@[simp] theorem f35r1_run : run tbl fin K f35r1 e H = regK tbl fin K [] f35o1 [6, 7] e H := run_regK _ _ _ _ _ _ _ _ _ rfl
def f35body : IC := (.seq f35r0 (.seq f35r1 .ret))
def f35 : IFn := ⟨14, 3, [.tmp 6, .tmp 7], f35body⟩
/- 36: jobshell/jobshellref04.Suffix -/
@[simp] def f36o0 : List IOper := [
  ⟨(some 6), .mv (.c (.int .i64 0)), none, none⟩,
  ⟨(some 7), .mv (.c (.bool false)), none, none⟩]
def f36r0 : IC := .reg false [] f36o0 [2, 0, 1]
@[simp] theorem f36r0_run : run tbl fin K f36r0 e H = regK tbl fin K [] f36o0 [2, 0, 1] e H := run_regK _ _ _ _ _ _ _ _ _ rfl
@[simp] def f36o1 : List IOper := [
  ⟨(some 8), .mv (.c (.int .i64 0)), none, none⟩,
  ⟨(some 9), .mv (.c (.bool false)), none, none⟩]
def f36r1 : IC := .reg false [] f36o1 [8, 9, 2, 0, 1]
@[simp] theorem f36r1_run : run tbl fin K f36r1 e H = regK tbl fin K [] f36o1 [8, 9, 2, 0, 1] e H := run_regK _ _ _ _ _ _ _ _ _ rfl
@[simp] def f36o2 : List IOper := [
  ⟨(some 10), .mv (.c (.int .i64 0)), none, none⟩]
def f36r2 : IC := .reg false [] f36o2 [8, 9, 10, 2, 0, 1]
@[simp] theorem f36r2_run : run tbl fin K f36r2 e H = regK tbl fin K [] f36o2 [8, 9, 10, 2, 0, 1] e H := run_regK _ _ _ _ _ _ _ _ _ rfl
@[simp] def f36o3 : List IOper := [
  ⟨(some 11), .mv (.t 10), none, none⟩,
  ⟨(some 12), .mv (.t 1), none, none⟩,
  ⟨(some 13), .slen (.t 12), none, none⟩,
  ⟨(some 14), .bin .leq (.t 11) (.t 13), none, none⟩]
def f36r3 : IC := .reg false [] f36o3 [14, 9, 8, 10, 2, 0, 1]
@[simp] theorem f36r3_run : run tbl fin K f36r3 e H = regK tbl fin K [] f36o3 [14, 9, 8, 10, 2, 0, 1] e H := run_regK _ _ _ _ _ _ _ _ _ rfl
@[simp] def f36o4 : List IOper := [
  ⟨(some 17), .mv (.t 2), none, none⟩,
  ⟨(some 18), .mv (.t 17), none, none⟩,
  ⟨(some 19), .mv (.t 9), (some (18, false)), none⟩,
  ⟨(some 20), .un .not (.t 19), (some (18, false)), none⟩,
  ⟨(some 21), .pick (.t 18) (.c (.bool true)) (.t 20), none, none⟩,
  ⟨(some 22), .mv (.t 21), none, none⟩,
  ⟨(some 23), .mv (.t 0), (some (22, true)), none⟩,
  ⟨(some 24), .mv (.t 1), (some (22, true)), some [24, 23, 22, 9, 8, 10, 2, 0, 1]⟩,
  ⟨(some 25), .mv (.t 1), (some (22, true)), none⟩,
  ⟨(some 26), .slen (.t 25), (some (22, true)), none⟩,
  ⟨(some 27), .mv (.t 10), (some (22, true)), none⟩,
  ⟨(some 28), .bin .sub (.t 26) (.t 27), (some (22, true)), none⟩,
  ⟨(some 29), .sls (.t 24) (some (.t 28)) none, (some (22, true)), none⟩,
  ⟨(some 30), .call (.c (.fn 54 [])) [(.t 23), (.t 29)], (some (22, true)), none⟩,
  ⟨(some 31), .pick (.t 22) (.t 30) (.c (.bool false)), none, none⟩]
def f36r4 : IC := .reg false [] f36o4 [31, 9, 8, 10, 2, 0, 1]
@[simp] theorem f36r4_run : run tbl fin K f36r4 e H = regK tbl fin K [] f36o4 [31, 9, 8, 10, 2, 0, 1] e H := run_regK _ _ _ _ _ _ _ _ _ rfl
@[simp] def f36o5 : List IOper := [
  ⟨(some 32), .mv (.t 10), none, none⟩,
  ⟨(some 8), .mv (.t 32), none, none⟩,
  ⟨(some 9), .mv (.c (.bool true)), none, none⟩]
def f36r5 : IC := .reg false [] f36o5 [10, 8, 9, 2, 0, 1]
@[simp] theorem f36r5_run : run tbl fin K f36r5 e H = regK tbl fin K [] f36o5 [10, 8, 9, 2, 0, 1] e H := run_regK _ _ _ _ _ _ _ _ _ rfl
@[simp] def f36o6 : List IOper := [
  ⟨(some 15), .mv (.t 10), none, none⟩,
  ⟨(some 16), .bin .add (.t 15) (.c (.int .i64 1)), none, none⟩,
  ⟨(some 10), .mv (.t 16), none, none⟩]
def f36r6 : IC := .reg false [] f36o6 [8, 9, 10, 2, 0, 1]
@[simp] theorem f36r6_run : run tbl fin K f36r6 e H = regK tbl fin K [] f36o6 [8, 9, 10, 2, 0, 1] e H := run_regK _ _ _ _ _ _ _ _ _ rfl
def f36b7 : IC := (.seq (.seq f36r3 (.cond (.t 14) .skip (.exit 0))) (.seq (.block 1 (.seq f36r4 (.cond (.t 31) f36r5 .skip))) f36r6))
theorem f36b7_eq : f36b7 = (.seq (.seq f36r3 (.cond (.t 14) .skip (.exit 0))) (.seq (.block 1 (.seq f36r4 (.cond (.t 31) f36r5 .skip))) f36r6)) := rfl
@[simp] def f36o8 : List IOper := [
  ⟨(some 33), .mv (.t 8), none, none⟩,
  ⟨(some 34), .mv (.t 9), none, none⟩,
  ⟨(some 6), .mv (.t 33), none, none⟩,
  ⟨(some 7), .mv (.t 34), none, none⟩]
def f36r8 : IC := .reg false [] f36o8 [6, 7]
@[simp] theorem f36r8_run : run tbl fin K f36r8 e H = regK tbl fin K [] f36o8 [6, 7] e H := run_regK _ _ _ _ _ _ _ _ _ rfl
def f36body : IC := (.seq f36r0 (.seq f36r1 (.seq (.seq f36r2 (.block 0 (.loop [8, 9, 10, 2, 0, 1] f36b7))) (.seq f36r8 .ret))))
def f36 : IFn := ⟨35, 3, [.tmp 6, .tmp 7], f36body⟩
/- 37: jobshell/jobshellref04.Prefix -/
@[simp] def f37o0 : List IOper := [
  ⟨(some 6), .mv (.c (.int .i64 0)), none, none⟩,
  ⟨(some 7), .mv (.c (.bool false)), none, none⟩]
def f37r0 : IC := .reg false [] f37o0 [2, 1, 0]
@[simp] theorem f37r0_run : run tbl fin K f37r0 e H = regK tbl fin K [] f37o0 [2, 1, 0] e H := run_regK _ _ _ _ _ _ _ _ _ rfl
@[simp] def f37o1 : List IOper := [
  ⟨(some 12), .mv (.t 0), none, none⟩,
  ⟨(some 13), .call (.c (.fn 55 [])) [(.t 12)], none, none⟩,
  ⟨(some 14), .un .not (.t 13), none, none⟩]
def f37r1 : IC := .reg false [] f37o1 [14, 2, 1, 0]
@[simp] theorem f37r1_run : run tbl fin K f37r1 e H = regK tbl fin K [] f37o1 [14, 2, 1, 0] e H := run_regK _ _ _ _ _ _ _ _ _ rfl
@[simp] def f37o2 : List IOper := [
  ⟨(some 6), .mv (.c (.int .i64 0)), none, none⟩,
  ⟨(some 7), .mv (.c (.bool false)), none, none⟩]
def f37r2 : IC := .reg false [] f37o2 [6, 7]
@[simp] theorem f37r2_run : run tbl fin K f37r2 e H = regK tbl fin K [] f37o2 [6, 7] e H := run_regK _ _ _ _ _ _ _ _ _ rfl
@[simp] def f37o3 : List IOper := [
  ⟨(some 15), .mv (.t 0), none, none⟩,
  ⟨(some 16), .mv (.t 1), none, none⟩,
  ⟨(some 17), .call (.c (.fn 56 [])) [(.t 15), (.t 16)], none, none⟩,
  ⟨(some 8), .mv (.t 17), none, none⟩]
def f37r3 : IC := .reg false [] f37o3 [1, 8, 2]
@[simp] theorem f37r3_run : run tbl fin K f37r3 e H = regK tbl fin K [] f37o3 [1, 8, 2] e H := run_regK _ _ _ _ _ _ _ _ _ rfl
@[simp] def f37o4 : List IOper := [
  ⟨(some 9), .mv (.c (.int .i64 0)), none, none⟩,
  ⟨(some 10), .mv (.c (.bool false)), none, none⟩]
def f37r4 : IC := .reg false [] f37o4 [9, 10, 1, 8, 2]
@[simp] theorem f37r4_run : run tbl fin K f37r4 e H = regK tbl fin K [] f37o4 [9, 10, 1, 8, 2] e H := run_regK _ _ _ _ _ _ _ _ _ rfl
@[simp] def f37o5 : List IOper := [
  ⟨(some 11), .mv (.c (.int .i64 0)), none, none⟩]
def f37r5 : IC := .reg false [] f37o5 [9, 10, 11, 1, 8, 2]
@[simp] theorem f37r5_run : run tbl fin K f37r5 e H = regK tbl fin K [] f37o5 [9, 10, 11, 1, 8, 2] e H := run_regK _ _ _ _ _ _ _ _ _ rfl
@[simp] def f37o6 : List IOper := [
  ⟨(some 18), .mv (.t 11), none, none⟩,
  ⟨(some 19), .mv (.t 1), none, none⟩,
  ⟨(some 20), .slen (.t 19), none, none⟩,
  ⟨(some 21), .bin .leq (.t 18) (.t 20), none, none⟩]
def f37r6 : IC := .reg false [] f37o6 [21, 10, 9, 11, 1, 8, 2]
@[simp] theorem f37r6_run : run tbl fin K f37r6 e H = regK tbl fin K [] f37o6 [21, 10, 9, 11, 1, 8, 2] e H := run_regK _ _ _ _ _ _ _ _ _ rfl
@[simp] def f37o7 : List IOper := [
  ⟨(some 24), .mv (.t 8), none, none⟩,
  ⟨(some 25), .mv (.t 11), none, none⟩,
  ⟨(some 26), .idx 1 (.t 24) (.t 25), none, none⟩,
  ⟨(some 27), .load false 1 (.t 26), none, none⟩,
  ⟨(some 28), .mv (.t 27), none, none⟩,
  ⟨(some 29), .mv (.t 2), (some (28, true)), none⟩,
  ⟨(some 30), .mv (.t 29), (some (28, true)), none⟩,
  ⟨(some 31), .mv (.t 10), (some (30, false)), none⟩,
  ⟨(some 32), .un .not (.t 31), (some (30, false)), none⟩,
  ⟨(some 33), .pick (.t 30) (.c (.bool true)) (.t 32), (some (28, true)), none⟩,
  ⟨(some 34), .pick (.t 28) (.t 33) (.c (.bool false)), none, none⟩]
def f37r7 : IC := .reg false [] f37o7 [34, 10, 9, 11, 1, 8, 2]
@[simp] theorem f37r7_run : run tbl fin K f37r7 e H = regK tbl fin K [] f37o7 [34, 10, 9, 11, 1, 8, 2] e H := run_regK _ _ _ _ _ _ _ _ _ rfl
@[simp] def f37o8 : List IOper := [
  ⟨(some 35), .mv (.t 11), none, none⟩,
  ⟨(some 9), .mv (.t 35), none, none⟩,
  ⟨(some 10), .mv (.c (.bool true)), none, none⟩]
def f37r8 : IC := .reg false [] f37o8 [11, 9, 10, 1, 8, 2]
@[simp] theorem f37r8_run : run tbl fin K f37r8 e H = regK tbl fin K [] f37o8 [11, 9, 10, 1, 8, 2] e H := run_regK _ _ _ _ _ _ _ _ _ rfl
@[simp] def f37o9 : List IOper := [
  ⟨(some 22), .mv (.t 11), none, none⟩,
  ⟨(some 23), .bin .add (.t 22) (.c (.int .i64 1)), none, none⟩,
  ⟨(some 11), .mv (.t 23), none, none⟩]
def f37r9 : IC := .reg false [] f37o9 [9, 10, 11, 1, 8, 2]
@[simp] theorem f37r9_run : run tbl fin K f37r9 e H = regK tbl fin K [] f37o9 [9, 10, 11, 1, 8, 2] e H := run_regK _ _ _ _ _ _ _ _ _ rfl
def f37b10 : IC := (.seq (.seq f37r6 (.cond (.t 21) .skip (.exit 0))) (.seq (.block 1 (.seq f37r7 (.cond (.t 34) f37r8 .skip))) f37r9))
theorem f37b10_eq : f37b10 = (.seq (.seq f37r6 (.cond (.t 21) .skip (.exit 0))) (.seq (.block 1 (.seq f37r7 (.cond (.t 34) f37r8 .skip))) f37r9)) := rfl
@[simp] def f37o11 : List IOper := [
  ⟨(some 36), .mv (.t 9), none, none⟩,
  ⟨(some 37), .mv (.t 10), none, none⟩,
  ⟨(some 6), .mv (.t 36), none, none⟩,
  ⟨(some 7), .mv (.t 37), none, none⟩]
def f37r11 : IC := .reg false [] f37o11 [6, 7]
@[simp] theorem f37r11_run : run tbl fin K f37r11 e H = regK tbl fin K [] f37o11 [6, 7] e H := run_regK _ _ _ _ _ _ _ _ _ rfl
def f37body : IC := (.seq f37r0 (.seq (.seq f37r1 (.cond (.t 14) (.seq f37r2 .ret) .skip)) (.seq f37r3 (.seq f37r4 (.seq (.seq f37r5 (.block 0 (.loop [9, 10, 11, 1, 8, 2] f37b10))) (.seq f37r11 .ret))))))
def f37 : IFn := ⟨38, 3, [.tmp 6, .tmp 7], f37body⟩
/- 38: strings.Contains is met by a contract -/
/- 39: strings.Join is met by a contract -/
/- 40: jobshell/param.separator -/
@[simp] def f40o0 : List IOper := [
  ⟨(some 1), .box 30 15 (.t 0), none, none⟩,
  ⟨(some 2), .mv (.c (.str [])), none, none⟩]
def f40r0 : IC := .reg false [] f40o0 [1]
@[simp] theorem f40r0_run : run tbl fin K f40r0 e H = regK tbl fin K [] f40o0 [1] e H := run_regK _ _ _ _ _ _ _ _ _ rfl
@[simp] def f40o1 : List IOper := [
  ⟨(some 6), .load true 15 (.t 1), none, none⟩,
  ⟨(some 7), .call (.c (.fn 25 [])) [(.t 6), (.c (.str [73, 70, 83]))], none, none⟩,
  ⟨(some 5), .mv (.t 7), none, none⟩,
  ⟨(some 8), .ext (.t 5) 0, none, none⟩,
  ⟨(some 9), .ext (.t 5) 1, none, none⟩,
  ⟨(some 3), .mv (.t 8), none, none⟩,
  ⟨(some 4), .mv (.t 9), none, none⟩]
def f40r1 : IC := .reg false [] f40o1 [4, 3]
@[simp] theorem f40r1_run : run tbl fin K f40r1 e H = regK tbl fin K [] f40o1 [4, 3] e H := run_regK _ _ _ _ _ _ _ _ _ rfl
@[simp] def f40o2 : List IOper := [
  ⟨(some 11), .mv (.t 4), none, none⟩,
  ⟨(some 12), .un .not (.t 11), none, none⟩,
  ⟨(some 10), .mv (.t 12), none, none⟩]
def f40r2 : IC := .reg false [] f40o2 [10, 3]
@[simp] theorem f40r2_run : run tbl fin K f40r2 e H = regK tbl fin K [] f40o2 [10, 3] e H := run_regK _ _ _ _ _ _ _ _ _ rfl
@[simp] def f40o3 : List IOper := [
  ⟨(some 2), .mv (.c (.str [32])), none, none⟩]
def f40r3 : IC := .reg false [] f40o3 [2]
@[simp] theorem f40r3_run : run tbl fin K f40r3 e H = regK tbl fin K [] f40o3 [2] e H := run_regK _ _ _ _ _ _ _ _ _ rfl
@[simp] def f40o4 : List IOper := [
  ⟨(some 14), .mv (.t 3), none, none⟩,
  ⟨(some 15), .bin .eql (.t 14) (.c (.str [])), none, none⟩,
  ⟨(some 13), .mv (.t 15), none, none⟩]
def f40r4 : IC := .reg false [] f40o4 [13, 3]
@[simp] theorem f40r4_run : run tbl fin K f40r4 e H = regK tbl fin K [] f40o4 [13, 3] e H := run_regK _ _ _ _ _ _ _ _ _ rfl
@[simp] def f40o5 : List IOper := [
  ⟨(some 2), .mv (.c (.str [])), none, none⟩]
def f40r5 : IC := .reg false [] f40o5 [2]
@[simp] theorem f40r5_run : run tbl fin K f40r5 e H = regK tbl fin K [] f40o5 [2] e H := run_regK _ _ _ _ _ _ _ _ _ rfl
@[simp] def f40o6 : List IOper := [
  ⟨(some 16), .mv (.t 3), none, none⟩,
  ⟨(some 17), .sls (.t 16) none (some (.c (.int .i64 1))), none, none⟩,
  ⟨(some 2), .mv (.t 17), none, none⟩]
def f40r6 : IC := .reg false [] f40o6 [2]
@[simp] theorem f40r6_run : run tbl fin K f40r6 e H = regK tbl fin K [] f40o6 [2] e H := run_regK _ _ _ _ _ _ _ _ _ rfl
def f40body : IC := (.seq f40r0 (.seq f40r1 (.seq (.block 0 (.seq f40r2 (.cond (.t 10) (.seq f40r3 .ret) (.seq f40r4 (.cond (.t 13) (.seq f40r5 .ret) .skip))))) (.seq f40r6 .ret))))
def f40 : IFn := ⟨18, 1, [.tmp 2], f40body⟩
/- 41: strconv.Itoa is met by a contract -/
/- 42: jobshell/param.flags -/
@[simp] def f42o0 : List IOper := [
  ⟨(some 2), .mv (.c (.str [])), none, none⟩]
def f42r0 : IC := .reg false [] f42o0 [0]
@[simp] theorem f42r0_run : run tbl fin K f42r0 e H = regK tbl fin K [] f42o0 [0] e H := run_regK _ _ _ _ _ _ _ _ _ rfl
@[simp] def f42o1 : List IOper := [
  ⟨(some 7), .build [(.int .i64 0), (.int .i64 0), (.int .i64 0), (.int .i64 0), (.int .i64 0), (.int .i64 0), (.int .i64 0), (.int .i64 0)] [(0, 1, (.c (.int .i64 32))), (1, 1, (.c (.int .i64 128))), (2, 1, (.c (.int .i64 1))), (3, 1, (.c (.int .i64 8))), (4, 1, (.c (.int .i64 64))), (5, 1, (.c (.int .i64 16))), (6, 1, (.c (.int .i64 2))), (7, 1, (.c (.int .i64 4)))], none, none⟩,
  ⟨(some 3), .new 87 8 (.agg [(.int .i64 0), (.int .i64 0), (.int .i64 0), (.int .i64 0), (.int .i64 0), (.int .i64 0), (.int .i64 0), (.int .i64 0)]), none, none⟩,
  ⟨none, .store 8 (.t 3) (.t 7), none, none⟩]
def f42r1 : IC := .reg false [] f42o1 [3, 0]
@[simp] theorem f42r1_run : run tbl fin K f42r1 e H = regK tbl fin K [] f42o1 [3, 0] e H := run_regK _ _ _ _ _ _ _ _ _ rfl
@[simp] def f42o2 : List IOper := [
  ⟨(some 4), .mv (.c (.str [])), none, none⟩]
def f42r2 : IC := .reg false [] f42o2 [3, 4, 0]
@[simp] theorem f42r2_run : run tbl fin K f42r2 e H = regK tbl fin K [] f42o2 [3, 4, 0] e H := run_regK _ _ _ _ _ _ _ _ _ rfl
@[simp] def f42o3 : List IOper := [
  ⟨(some 8), .load true 8 (.t 3), none, none⟩,
  ⟨(some 9), .mv (.c (.int .i64 0)), none, none⟩]
def f42r3 : IC := .reg false [] f42o3 [4, 9, 8, 0]
@[simp] theorem f42r3_run : run tbl fin K f42r3 e H = regK tbl fin K [] f42o3 [4, 9, 8, 0] e H := run_regK _ _ _ _ _ _ _ _ _ rfl
@[simp] def f42o4 : List IOper := [
  ⟨(some 10), .bin .lss (.t 9) (.c (.int .i64 8)), none, none⟩]
def f42r4 : IC := .reg false [] f42o4 [10, 4, 9, 8, 0]
@[simp] theorem f42r4_run : run tbl fin K f42r4 e H = regK tbl fin K [] f42o4 [10, 4, 9, 8, 0] e H := run_regK _ _ _ _ _ _ _ _ _ rfl
@[simp] def f42o5 : List IOper := [
  ⟨(some 11), .mv (.t 9), none, none⟩,
  ⟨(some 12), .ait false 8 1 (.t 8) (.t 9), none, none⟩,
  ⟨(some 5), .mv (.t 11), none, none⟩,
  ⟨(some 6), .mv (.t 12), none, none⟩]
def f42r5 : IC := .reg false [] f42o5 [6, 4, 5, 9, 8, 0]
@[simp] theorem f42r5_run : run tbl fin K f42r5 e H = regK tbl fin K [] f42o5 [6, 4, 5, 9, 8, 0] e H := run_regK _ _ _ _ _ _ _ _ _ rfl
@[simp] def f42o6 : List IOper := [
  ⟨(some 13), .mv (.t 0), none, none⟩,
  ⟨(some 14), .mv (.t 6), none, none⟩,
  ⟨(some 15), .bin .and (.t 13) (.t 14), none, none⟩,
  ⟨(some 16), .bin .neq (.t 15) (.c (.int .i64 0)), none, none⟩]
def f42r6 : IC := .reg false [] f42o6 [16, 4, 5, 9, 8, 0]
@[simp] theorem f42r6_run : run tbl fin K f42r6 e H = regK tbl fin K [] f42o6 [16, 4, 5, 9, 8, 0] e H := run_regK _ _ _ _ _ _ _ _ _ rfl
@[simp] def f42o7 : List IOper := [
  ⟨(some 17), .mv (.t 4), none, none⟩,
  ⟨(some 18), .mv (.t 5), none, none⟩,
  ⟨(some 19), .mv (.t 5), none, none⟩,
  ⟨(some 20), .bin .add (.t 19) (.c (.int .i64 1)), none, none⟩,
  ⟨(some 21), .sls (.c (.str [97, 67, 101, 102, 109, 110, 117, 120])) (some (.t 18)) (some (.t 20)), none, none⟩,
  ⟨(some 22), .bin .add (.t 17) (.t 21), none, none⟩,
  ⟨(some 4), .mv (.t 22), none, none⟩]
def f42r7 : IC := .reg false [] f42o7 [9, 4, 8, 0]
@[simp] theorem f42r7_run : run tbl fin K f42r7 e H = regK tbl fin K [] f42o7 [9, 4, 8, 0] e H := run_regK _ _ _ _ _ _ _ _ _ rfl
@[simp] def f42o8 : List IOper := [
  ⟨(some 23), .bin .add (.t 9) (.c (.int .i64 1)), none, none⟩,
  ⟨(some 9), .mv (.t 23), none, none⟩]
def f42r8 : IC := .reg false [] f42o8 [4, 9, 8, 0]
@[simp] theorem f42r8_run : run tbl fin K f42r8 e H = regK tbl fin K [] f42o8 [4, 9, 8, 0] e H := run_regK _ _ _ _ _ _ _ _ _ rfl
def f42b9 : IC := (.seq f42r4 (.seq (.cond (.t 10) .skip (.exit 0)) (.seq (.block 1 (.seq f42r5 (.seq f42r6 (.cond (.t 16) f42r7 .skip)))) f42r8)))
theorem f42b9_eq : f42b9 = (.seq f42r4 (.seq (.cond (.t 10) .skip (.exit 0)) (.seq (.block 1 (.seq f42r5 (.seq f42r6 (.cond (.t 16) f42r7 .skip)))) f42r8))) := rfl
@[simp] def f42o10 : List IOper := [
  ⟨(some 24), .mv (.t 4), none, none⟩,
  ⟨(some 2), .mv (.t 24), none, none⟩]
def f42r10 : IC := .reg false [] f42o10 [2]
@[simp] theorem f42r10_run : run tbl fin K f42r10 e H = regK tbl fin K [] f42o10 [2] e H := run_regK _ _ _ _ _ _ _ _ _ rfl
def f42body : IC := (.seq f42r0 (.seq f42r1 (.seq f42r2 (.seq (.seq f42r3 (.block 0 (.loop [4, 9, 8, 0] f42b9))) (.seq f42r10 .ret)))))
def f42 : IFn := ⟨25, 1, [.tmp 2], f42body⟩
/- 43: jobshell/chars.digit -/
@[simp] def f43o0 : List IOper := [
  ⟨(some 2), .mv (.c (.bool false)), none, none⟩]
def f43r0 : IC := .reg false [] f43o0 [0]
@[simp] theorem f43r0_run : run tbl fin K f43r0 e H = regK tbl fin K [] f43o0 [0] e H := run_regK _ _ _ _ _ _ _ _ _ rfl
@[simp] def f43o1 : List IOper := [
  ⟨(some 3), .mv (.t 0), none, none⟩,
  ⟨(some 4), .bin .leq (.c (.int .i32 48)) (.t 3), none, none⟩,
  ⟨(some 5), .mv (.t 4), none, none⟩,
  ⟨(some 6), .mv (.t 0), (some (5, true)), none⟩,
  ⟨(some 7), .bin .leq (.t 6) (.c (.int .i32 57)), (some (5, true)), none⟩,
  ⟨(some 8), .pick (.t 5) (.t 7) (.c (.bool false)), none, none⟩,
  ⟨(some 2), .mv (.t 8), none, none⟩]
def f43r1 : IC := .reg false [] f43o1 [2]
@[simp] theorem f43r1_run : run tbl fin K f43r1 e H = regK tbl fin K [] f43o1 [2] e H := run_regK _ _ _ _ _ _ _ _ _ rfl
def f43body : IC := (.seq f43r0 (.seq f43r1 .ret))
def f43 : IFn := ⟨9, 1, [.tmp 2], f43body⟩
/- 44: jobshell/chars.letter -/
@[simp] def f44o0 : List IOper := [
  ⟨(some 2), .mv (.c (.bool false)), none, none⟩]
def f44r0 : IC := .reg false [] f44o0 [0]
@[simp] theorem f44r0_run : run tbl fin K f44r0 e H = regK tbl fin K [] f44o0 [0] e H := run_regK _ _ _ _ _ _ _ _ _ rfl
@[simp] def f44o1 : List IOper := [
  ⟨(some 3), .mv (.t 0), none, none⟩,
  ⟨(some 4), .bin .leq (.c (.int .i32 65)) (.t 3), none, none⟩,
  ⟨(some 5), .mv (.t 4), none, none⟩,
  ⟨(some 6), .mv (.t 0), (some (5, true)), none⟩,
  ⟨(some 7), .bin .leq (.t 6) (.c (.int .i32 90)), (some (5, true)), none⟩,
  ⟨(some 8), .pick (.t 5) (.t 7) (.c (.bool false)), none, none⟩,
  ⟨(some 9), .mv (.t 8), none, none⟩,
  ⟨(some 10), .mv (.t 0), (some (9, false)), some [10, 0, 9]⟩,
  ⟨(some 11), .bin .leq (.c (.int .i32 97)) (.t 10), (some (9, false)), none⟩,
  ⟨(some 12), .mv (.t 11), (some (9, false)), none⟩,
  ⟨(some 13), .mv (.t 0), (some (12, true)), none⟩,
  ⟨(some 14), .bin .leq (.t 13) (.c (.int .i32 122)), (some (12, true)), none⟩,
  ⟨(some 15), .pick (.t 12) (.t 14) (.c (.bool false)), (some (9, false)), none⟩,
  ⟨(some 16), .pick (.t 9) (.c (.bool true)) (.t 15), none, none⟩,
  ⟨(some 2), .mv (.t 16), none, none⟩]
def f44r1 : IC := .reg false [] f44o1 [2]
@[simp] theorem f44r1_run : run tbl fin K f44r1 e H = regK tbl fin K [] f44o1 [2] e H := run_regK _ _ _ _ _ _ _ _ _ rfl
def f44body : IC := (.seq f44r0 (.seq f44r1 .ret))
def f44 : IFn := ⟨17, 1, [.tmp 2], f44body⟩
/- 45: jobshell/vars.Get -/
@[simp] def f45o0 : List IOper := [
  ⟨(some 3), .box 9 1 (.t 1), none, none⟩,
  ⟨(some 4), .new 49 5 (.agg [(.str []), (.str []), (.bool false), (.bool false), (.bool false)]), none, none⟩,
  ⟨(some 5), .mv (.c (.bool false)), none, none⟩]
def f45r0 : IC := .reg false [] f45o0 [3, 0, 4]
@[simp] theorem f45r0_run : run tbl fin K f45r0 e H = regK tbl fin K [] f45o0 [3, 0, 4] e H := run_regK _ _ _ _ _ _ _ _ _ rfl
@[simp] def f45o1 : List IOper := [
  ⟨(some 7), .mv (.t 0), none, none⟩,
  ⟨(some 8), .mkfn 63 [(.t 3)], none, none⟩,
  ⟨(some 9), .ocall (.c (.fn 62 [])) [(.t 7), (.t 8)], none, none⟩,
  ⟨(some 6), .mv (.t 9), none, none⟩]
def f45r1 : IC := .reg false [] f45o1 [0, 6, 4]
@[simp] theorem f45r1_run : run tbl fin K f45r1 e H = regK tbl fin K [] f45o1 [0, 6, 4] e H := run_regK _ _ _ _ _ _ _ _ _ rfl
@[simp] def f45o2 : List IOper := [
  ⟨(some 10), .mv (.t 6), none, none⟩,
  ⟨(some 11), .bin .geq (.t 10) (.c (.int .i64 0)), none, none⟩]
def f45r2 : IC := .reg false [] f45o2 [11, 0, 6, 4]
@[simp] theorem f45r2_run : run tbl fin K f45r2 e H = regK tbl fin K [] f45o2 [11, 0, 6, 4] e H := run_regK _ _ _ _ _ _ _ _ _ rfl
@[simp] def f45o3 : List IOper := [
  ⟨(some 12), .mv (.t 0), none, none⟩,
  ⟨(some 13), .mv (.t 6), none, none⟩,
  ⟨(some 14), .idx 5 (.t 12) (.t 13), none, none⟩,
  ⟨(some 15), .load true 5 (.t 14), none, none⟩,
  ⟨none, .store 5 (.t 4) (.t 15), none, none⟩,
  ⟨(some 5), .mv (.c (.bool true)), none, none⟩]
def f45r3 : IC := .reg false [] f45o3 [4, 5]
@[simp] theorem f45r3_run : run tbl fin K f45r3 e H = regK tbl fin K [] f45o3 [4, 5] e H := run_regK _ _ _ _ _ _ _ _ _ rfl
@[simp] def f45o4 : List IOper := [
  ⟨(some 16), .build [(.str []), (.str []), (.bool false), (.bool false), (.bool false)] [], none, none⟩,
  ⟨none, .store 5 (.t 4) (.t 16), none, none⟩,
  ⟨(some 5), .mv (.c (.bool false)), none, none⟩]
def f45r4 : IC := .reg false [] f45o4 [4, 5]
@[simp] theorem f45r4_run : run tbl fin K f45r4 e H = regK tbl fin K [] f45o4 [4, 5] e H := run_regK _ _ _ _ _ _ _ _ _ rfl
def f45body : IC := (.seq f45r0 (.seq (.seq f45r1 (.seq f45r2 (.cond (.t 11) (.seq f45r3 .ret) .skip))) (.seq f45r4 .ret)))
def f45 : IFn := ⟨17, 2, [.cell 4 true 5, .tmp 5], f45body⟩
/- 46: jobshell/jobshellref01.Digits -/
@[simp] def f46o0 : List IOper := [
  ⟨(some 2), .mv (.c (.int .i64 0)), none, none⟩,
  ⟨(some 3), .mv (.c (.bool false)), none, none⟩]
def f46r0 : IC := .reg false [] f46o0 [0]
@[simp] theorem f46r0_run : run tbl fin K f46r0 e H = regK tbl fin K [] f46o0 [0] e H := run_regK _ _ _ _ _ _ _ _ _ rfl
@[simp] def f46o1 : List IOper := [
  ⟨(some 6), .mv (.t 0), none, none⟩,
  ⟨(some 7), .bin .eql (.t 6) (.c (.str [])), none, none⟩,
  ⟨(some 8), .mv (.t 7), none, none⟩,
  ⟨(some 9), .mv (.t 0), (some (8, false)), none⟩,
  ⟨(some 10), .slen (.t 9), (some (8, false)), none⟩,
  ⟨(some 11), .bin .gtr (.t 10) (.c (.int .i64 10)), (some (8, false)), none⟩,
  ⟨(some 12), .pick (.t 8) (.c (.bool true)) (.t 11), none, none⟩,
  ⟨(some 13), .mv (.t 12), none, some [13, 0]⟩,
  ⟨(some 14), .mv (.t 0), (some (13, false)), none⟩,
  ⟨(some 15), .sidx (.t 14) (.c (.int .i64 0)), (some (13, false)), none⟩,
  ⟨(some 16), .bin .eql (.t 15) (.c (.int .u8 48)), (some (13, false)), none⟩,
  ⟨(some 17), .mv (.t 16), (some (13, false)), none⟩,
  ⟨(some 18), .mv (.t 0), (some (17, true)), none⟩,
  ⟨(some 19), .slen (.t 18), (some (17, true)), none⟩,
  ⟨(some 20), .bin .gtr (.t 19) (.c (.int .i64 1)), (some (17, true)), none⟩,
  ⟨(some 21), .pick (.t 17) (.t 20) (.c (.bool false)), (some (13, false)), some [21, 13, 0]⟩,
  ⟨(some 22), .pick (.t 13) (.c (.bool true)) (.t 21), none, none⟩]
def f46r1 : IC := .reg false [] f46o1 [22, 0]
@[simp] theorem f46r1_run : run tbl fin K f46r1 e H = regK tbl fin K [] f46o1 [22, 0] e H := run_regK _ _ _ _ _ _ _ _ _ rfl
@[simp] def f46o2 : List IOper := [
  ⟨(some 2), .mv (.c (.int .i64 0)), none, none⟩,
  ⟨(some 3), .mv (.c (.bool false)), none, none⟩]
def f46r2 : IC := .reg false [] f46o2 [2, 3]
@[simp] theorem f46r2_run : run tbl fin K f46r2 e H = regK tbl fin K [] f46o2 [2, 3] e H := run_regK _ _ _ _ _ _ _ _ _ rfl
@[simp] def f46o3 : List IOper := [
  ⟨(some 4), .mv (.c (.int .i64 0)), none, none⟩]
def f46r3 : IC := .reg false [] f46o3 [0, 4]
@[simp] theorem f46r3_run : run tbl fin K f46r3 e H = regK tbl fin K [] f46o3 [0, 4] e H := run_regK _ _ _ _ _ _ _ _ _ rfl
@[simp] def f46o4 : List IOper := [
  ⟨(some 5), .mv (.c (.int .i64 0)), none, none⟩]
def f46r4 : IC := .reg false [] f46o4 [0, 5, 4]
@[simp] theorem f46r4_run : run tbl fin K f46r4 e H = regK tbl fin K [] f46o4 [0, 5, 4] e H := run_regK _ _ _ _ _ _ _ _ _ rfl
@[simp] def f46o5 : List IOper := [
  ⟨(some 23), .mv (.t 5), none, none⟩,
  ⟨(some 24), .mv (.t 0), none, none⟩,
  ⟨(some 25), .slen (.t 24), none, none⟩,
  ⟨(some 26), .bin .lss (.t 23) (.t 25), none, none⟩]
def f46r5 : IC := .reg false [] f46o5 [26, 0, 5, 4]
@[simp] theorem f46r5_run : run tbl fin K f46r5 e H = regK tbl fin K [] f46o5 [26, 0, 5, 4] e H := run_regK _ _ _ _ _ _ _ _ _ rfl
@[simp] def f46o6 : List IOper := [
  ⟨(some 29), .mv (.t 0), none, none⟩,
  ⟨(some 30), .mv (.t 5), none, none⟩,
  ⟨(some 31), .sidx (.t 29) (.t 30), none, none⟩,
  ⟨(some 32), .call (.c (.fn 47 [])) [(.t 31)], none, none⟩,
  ⟨(some 33), .un .not (.t 32), none, none⟩]
def f46r6 : IC := .reg false [] f46o6 [33, 0, 5, 4]
@[simp] theorem f46r6_run : run tbl fin K f46r6 e H = regK tbl fin K [] f46o6 [33, 0, 5, 4] e H := run_regK _ _ _ _ _ _ _ _ _ rfl
@[simp] def f46o7 : List IOper := [
  ⟨(some 2), .mv (.c (.int .i64 0)), none, none⟩,
  ⟨(some 3), .mv (.c (.bool false)), none, none⟩]
def f46r7 : IC := .reg false [] f46o7 [2, 3]
@[simp] theorem f46r7_run : run tbl fin K f46r7 e H = regK tbl fin K [] f46o7 [2, 3] e H := run_regK _ _ _ _ _ _ _ _ _ rfl
@[simp] def f46o8 : List IOper := [
  ⟨(some 34), .mv (.t 4), none, none⟩,
  ⟨(some 35), .bin .mul (.c (.int .i64 10)) (.t 34), none, none⟩,
  ⟨(some 36), .mv (.t 0), none, none⟩,
  ⟨(some 37), .mv (.t 5), none, none⟩,
  ⟨(some 38), .sidx (.t 36) (.t 37), none, none⟩,
  ⟨(some 39), .bin .sub (.t 38) (.c (.int .u8 48)), none, none⟩,
  ⟨(some 40), .conv .i64 (.t 39), none, none⟩,
  ⟨(some 41), .bin .add (.t 35) (.t 40), none, none⟩,
  ⟨(some 4), .mv (.t 41), none, none⟩]
def f46r8 : IC := .reg false [] f46o8 [5, 0, 4]
@[simp] theorem f46r8_run : run tbl fin K f46r8 e H = regK tbl fin K [] f46o8 [5, 0, 4] e H := run_regK _ _ _ _ _ _ _ _ _ rfl
@[simp] def f46o9 : List IOper := [
  ⟨(some 27), .mv (.t 5), none, none⟩,
  ⟨(some 28), .bin .add (.t 27) (.c (.int .i64 1)), none, none⟩,
  ⟨(some 5), .mv (.t 28), none, none⟩]
def f46r9 : IC := .reg false [] f46o9 [0, 5, 4]
@[simp] theorem f46r9_run : run tbl fin K f46r9 e H = regK tbl fin K [] f46o9 [0, 5, 4] e H := run_regK _ _ _ _ _ _ _ _ _ rfl
def f46b10 : IC := (.seq (.seq f46r5 (.cond (.t 26) .skip (.exit 0))) (.seq (.block 1 (.seq (.seq f46r6 (.cond (.t 33) (.seq f46r7 .ret) .skip)) f46r8)) f46r9))
theorem f46b10_eq : f46b10 = (.seq (.seq f46r5 (.cond (.t 26) .skip (.exit 0))) (.seq (.block 1 (.seq (.seq f46r6 (.cond (.t 33) (.seq f46r7 .ret) .skip)) f46r8)) f46r9)) := rfl
@[simp] def f46o11 : List IOper := [
  ⟨(some 42), .mv (.t 4), none, none⟩,
  ⟨(some 43), .bin .gtr (.t 42) (.c (.int .i64 2147483647)), none, none⟩]
def f46r11 : IC := .reg false [] f46o11 [43, 4]
@[simp] theorem f46r11_run : run tbl fin K f46r11 e H = regK tbl fin K [] f46o11 [43, 4] e H := run_regK _ _ _ _ _ _ _ _ _ rfl
@[simp] def f46o12 : List IOper := [
  ⟨(some 2), .mv (.c (.int .i64 0)), none, none⟩,
  ⟨(some 3), .mv (.c (.bool false)), none, none⟩]
def f46r12 : IC := .reg false [] f46o12 [2, 3]
@[simp] theorem f46r12_run : run tbl fin K f46r12 e H = regK tbl fin K [] f46o12 [2, 3] e H := run_regK _ _ _ _ _ _ _ _ _ rfl
@[simp] def f46o13 : List IOper := [
  ⟨(some 44), .mv (.t 4), none, none⟩,
  ⟨(some 2), .mv (.t 44), none, none⟩,
  ⟨(some 3), .mv (.c (.bool true)), none, none⟩]
def f46r13 : IC := .reg false [] f46o13 [2, 3]
@[simp] theorem f46r13_run : run tbl fin K f46r13 e H = regK tbl fin K [] f46o13 [2, 3] e H := run_regK _ _ _ _ _ _ _ _ _ rfl
def f46body : IC := (.seq f46r0 (.seq (.seq f46r1 (.cond (.t 22) (.seq f46r2 .ret) .skip)) (.seq f46r3 (.seq (.seq f46r4 (.block 0 (.loop [0, 5, 4] f46b10))) (.seq (.seq f46r11 (.cond (.t 43) (.seq f46r12 .ret) .skip)) (.seq f46r13 .ret))))))
def f46 : IFn := ⟨45, 1, [.tmp 2, .tmp 3], f46body⟩
/- 47: jobshell/jobshellref01.Digit -/
@[simp] def f47o0 : List IOper := [
  ⟨(some 2), .mv (.c (.bool false)), none, none⟩]
def f47r0 : IC := .reg false [] f47o0 [0]
@[simp] theorem f47r0_run : run tbl fin K f47r0 e H = regK tbl fin K [] f47o0 [0] e H := run_regK _ _ _ _ _ _ _ _ _ rfl
@[simp] def f47o1 : List IOper := [
  ⟨(some 3), .mv (.t 0), none, none⟩,
  ⟨(some 4), .bin .geq (.t 3) (.c (.int .u8 48)), none, none⟩,
  ⟨(some 5), .mv (.t 4), none, none⟩,
  ⟨(some 6), .mv (.t 0), (some (5, true)), none⟩,
  ⟨(some 7), .bin .leq (.t 6) (.c (.int .u8 57)), (some (5, true)), none⟩,
  ⟨(some 8), .pick (.t 5) (.t 7) (.c (.bool false)), none, none⟩,
  ⟨(some 2), .mv (.t 8), none, none⟩]
def f47r1 : IC := .reg false [] f47o1 [2]
@[simp] theorem f47r1_run : run tbl fin K f47r1 e H = regK tbl fin K [] f47o1 [2] e H := run_regK _ _ _ _ _ _ _ _ _ rfl
def f47body : IC := (.seq f47r0 (.seq f47r1 .ret))
def f47 : IFn := ⟨9, 1, [.tmp 2], f47body⟩
/- 48: jobshell/jobshellref01.Word -/
@[simp] def f48o0 : List IOper := [
  ⟨(some 2), .mv (.c (.bool false)), none, none⟩]
def f48r0 : IC := .reg false [] f48o0 [0]
@[simp] theorem f48r0_run : run tbl fin K f48r0 e H = regK tbl fin K [] f48o0 [0] e H := run_regK _ _ _ _ _ _ _ _ _ rfl
@[simp] def f48o1 : List IOper := [
  ⟨(some 3), .mv (.t 0), none, none⟩,
  ⟨(some 4), .call (.c (.fn 64 [])) [(.t 3)], none, none⟩,
  ⟨(some 5), .mv (.t 4), none, none⟩,
  ⟨(some 6), .mv (.t 0), (some (5, false)), none⟩,
  ⟨(some 7), .call (.c (.fn 47 [])) [(.t 6)], (some (5, false)), none⟩,
  ⟨(some 8), .pick (.t 5) (.c (.bool true)) (.t 7), none, none⟩,
  ⟨(some 9), .mv (.t 8), none, none⟩,
  ⟨(some 10), .mv (.t 0), (some (9, false)), none⟩,
  ⟨(some 11), .bin .eql (.t 10) (.c (.int .u8 95)), (some (9, false)), none⟩,
  ⟨(some 12), .pick (.t 9) (.c (.bool true)) (.t 11), none, none⟩,
  ⟨(some 2), .mv (.t 12), none, none⟩]
def f48r1 : IC := .reg false [] f48o1 [2]
@[simp] theorem f48r1_run : run tbl fin K f48r1 e H = regK tbl fin K [] f48o1 [2] e H := run_regK _ _ _ _ _ _ _ _ _ rfl
def f48body : IC := (.seq f48r0 (.seq f48r1 .ret))
def f48 : IFn := ⟨13, 1, [.tmp 2], f48body⟩
/- 49: jobshell/jobshellref05.digits -/
@[simp] def f49o0 : List IOper := [
  ⟨(some 2), .mv (.c (.str [])), none, none⟩]
def f49r0 : IC := .reg false [] f49o0 [0]
@[simp] theorem f49r0_run : run tbl fin K f49r0 e H = regK tbl fin K [] f49o0 [0] e H := run_regK _ _ _ _ _ _ _ _ _ rfl
@[simp] def f49o1 : List IOper := [
  ⟨(some 3), .mv (.c (.str [])), none, none⟩]
def f49r1 : IC := .reg false [] f49o1 [3, 0]
@[simp] theorem f49r1_run : run tbl fin K f49r1 e H = regK tbl fin K [] f49o1 [3, 0] e H := run_regK _ _ _ _ _ _ _ _ _ rfl
@[simp] def f49o2 : List IOper := [
  ⟨(some 4), .mv (.t 0), none, none⟩,
  ⟨(some 5), .bin .gtr (.t 4) (.c (.int .u64 9)), none, none⟩]
def f49r2 : IC := .reg false [] f49o2 [5, 3, 0]
@[simp] theorem f49r2_run : run tbl fin K f49r2 e H = regK tbl fin K [] f49o2 [5, 3, 0] e H := run_regK _ _ _ _ _ _ _ _ _ rfl
@[simp] def f49o3 : List IOper := [
  ⟨(some 6), .mv (.t 0), none, none⟩,
  ⟨(some 7), .bin .rem (.t 6) (.c (.int .u64 10)), none, none⟩,
  ⟨(some 8), .bin .add (.c (.int .u64 48)) (.t 7), none, none⟩,
  ⟨(some 9), .conv .u8 (.t 8), none, none⟩,
  ⟨(some 10), .mkrow 5 1 1 (.int .u8 0) [(0, (.t 9))], none, none⟩,
  ⟨(some 11), .b2s (.t 10), none, none⟩,
  ⟨(some 12), .mv (.t 3), none, none⟩,
  ⟨(some 13), .bin .add (.t 11) (.t 12), none, none⟩,
  ⟨(some 3), .mv (.t 13), none, none⟩]
def f49r3 : IC := .reg false [] f49o3 [0, 3]
@[simp] theorem f49r3_run : run tbl fin K f49r3 e H = regK tbl fin K [] f49o3 [0, 3] e H := run_regK _ _ _ _ _ _ _ _ _ rfl
@[simp] def f49o4 : List IOper := [
  ⟨(some 14), .mv (.t 0), none, none⟩,
  ⟨(some 15), .bin .quo (.t 14) (.c (.int .u64 10)), none, none⟩,
  ⟨(some 0), .mv (.t 15), none, none⟩]
def f49r4 : IC := .reg false [] f49o4 [3, 0]
@[simp] theorem f49r4_run : run tbl fin K f49r4 e H = regK tbl fin K [] f49o4 [3, 0] e H := run_regK _ _ _ _ _ _ _ _ _ rfl
def f49b5 : IC := (.seq (.seq f49r2 (.cond (.t 5) .skip (.exit 0))) (.block 1 (.seq f49r3 f49r4)))
theorem f49b5_eq : f49b5 = (.seq (.seq f49r2 (.cond (.t 5) .skip (.exit 0))) (.block 1 (.seq f49r3 f49r4))) := rfl
@[simp] def f49o6 : List IOper := [
  ⟨(some 16), .mv (.t 0), none, none⟩,
  ⟨(some 17), .bin .add (.c (.int .u64 48)) (.t 16), none, none⟩,
  ⟨(some 18), .conv .u8 (.t 17), none, none⟩,
  ⟨(some 19), .mkrow 5 1 1 (.int .u8 0) [(0, (.t 18))], none, none⟩,
  ⟨(some 20), .b2s (.t 19), none, none⟩,
  ⟨(some 21), .mv (.t 3), none, none⟩,
  ⟨(some 22), .bin .add (.t 20) (.t 21), none, none⟩,
  ⟨(some 2), .mv (.t 22), none, none⟩]
def f49r6 : IC := .reg false [] f49o6 [2]
@[simp] theorem f49r6_run : run tbl fin K f49r6 e H = regK tbl fin K [] f49o6 [2] e H := run_regK _ _ _ _ _ _ _ _ _ rfl
def f49body : IC := (.seq f49r0 (.seq f49r1 (.seq (.block 0 (.loop [3, 0] f49b5)) (.seq f49r6 .ret))))
def f49 : IFn := ⟨23, 1, [.tmp 2], f49body⟩
/- 50: slices.Clone[[]jobshell/api.PatItem,jobshell/api.PatItem] -/
@[simp] def f50o0 : List IOper := [
  ⟨(some 2), .nilrow 52 4, none, none⟩]
def f50r0 : IC := .reg false [] f50o0 [0]
@[simp] theorem f50r0_run : run tbl fin K f50r0 e H = regK tbl fin K [] f50o0 [0] e H := run_regK _ _ _ _ _ _ _ _ _ rfl
@[simp] def f50o1 : List IOper := [
  ⟨(some 3), .mv (.t 0), none, none⟩,
  ⟨(some 4), .eqnil false (.t 3), none, none⟩]
def f50r1 : IC := .reg false [] f50o1 [4, 0]
@[simp] theorem f50r1_run : run tbl fin K f50r1 e H = regK tbl fin K [] f50o1 [4, 0] e H := run_regK _ _ _ _ _ _ _ _ _ rfl
@[simp] def f50o2 : List IOper := [
  ⟨(some 2), .nilrow 52 4, none, none⟩]
def f50r2 : IC := .reg false [] f50o2 [2]
@[simp] theorem f50r2_run : run tbl fin K f50r2 e H = regK tbl fin K [] f50o2 [2] e H := run_regK _ _ _ _ _ _ _ _ _ rfl
@[simp] def f50o3 : List IOper := [
  ⟨(some 5), .mkrow 52 4 0 (.agg [(.int .i64 0), (.str []), (.bool false), .e0]) [], none, none⟩,
  ⟨(some 6), .mv (.t 0), none, none⟩,
  ⟨(some 7), .app 52 4 (.t 5) (.t 6), none, none⟩,
  ⟨(some 2), .mv (.t 7), none, none⟩]
def f50r3 : IC := .reg false [] f50o3 [2]
@[simp] theorem f50r3_run : run tbl fin K f50r3 e H = regK tbl fin K [] f50o3 [2] e H := run_regK _ _ _ _ _ _ _ _ _ rfl
def f50body : IC := (.seq f50r0 (.seq (.seq f50r1 (.cond (.t 4) (.seq f50r2 .ret) .skip)) (.seq f50r3 .ret)))
def f50 : IFn := ⟨8, 1, [.tmp 2], f50body⟩
/- 51: slices.Reverse[[]jobshell/api.PatItem,jobshell/api.PatItem] -/
@[simp] def f51o0 : List IOper := [
  ⟨(some 4), .mv (.t 0), none, none⟩,
  ⟨(some 5), .len (.t 4), none, none⟩,
  ⟨(some 6), .bin .sub (.t 5) (.c (.int .i64 1)), none, none⟩,
  ⟨(some 2), .mv (.c (.int .i64 0)), none, none⟩,
  ⟨(some 3), .mv (.t 6), none, none⟩]
def f51r0 : IC := .reg false [] f51o0 [2, 3, 0]
@[simp] theorem f51r0_run : run tbl fin K f51r0 e H = regK tbl fin K [] f51o0 [2, 3, 0] e H := run_regK _ _ _ _ _ _ _ _ _ rfl
@[simp] def f51o1 : List IOper := [
  ⟨(some 7), .mv (.t 2), none, none⟩,
  ⟨(some 8), .mv (.t 3), none, none⟩,
  ⟨(some 9), .bin .lss (.t 7) (.t 8), none, none⟩]
def f51r1 : IC := .reg false [] f51o1 [9, 2, 3, 0]
@[simp] theorem f51r1_run : run tbl fin K f51r1 e H = regK tbl fin K [] f51o1 [9, 2, 3, 0] e H := run_regK _ _ _ _ _ _ _ _ _ rfl
@[simp] def f51o2 : List IOper := [
  ⟨(some 14), .mv (.t 0), none, none⟩,
  ⟨(some 15), .mv (.t 2), none, none⟩,
  ⟨(some 16), .mv (.t 0), none, none⟩,
  ⟨(some 17), .mv (.t 3), none, none⟩,
  ⟨(some 18), .mv (.t 0), none, none⟩,
  ⟨(some 19), .mv (.t 3), none, none⟩,
  ⟨(some 20), .idx 4 (.t 18) (.t 19), none, none⟩,
  ⟨(some 21), .load true 4 (.t 20), none, none⟩,
  ⟨(some 22), .mv (.t 0), none, none⟩,
  ⟨(some 23), .mv (.t 2), none, none⟩,
  ⟨(some 24), .idx 4 (.t 22) (.t 23), none, none⟩,
  ⟨(some 25), .load true 4 (.t 24), none, none⟩,
  ⟨(some 26), .idx 4 (.t 14) (.t 15), none, none⟩,
  ⟨none, .store 4 (.t 26) (.t 21), none, none⟩,
  ⟨(some 27), .idx 4 (.t 16) (.t 17), none, none⟩,
  ⟨none, .store 4 (.t 27) (.t 25), none, none⟩]
def f51r2 : IC := .reg true [] f51o2 [2, 3, 0]
@[simp] theorem f51r2_run : run tbl fin K f51r2 e H = regK tbl fin K [] f51o2 [2, 3, 0] e H := run_regK _ _ _ _ _ _ _ _ _ rfl
@[simp] def f51o3 : List IOper := [
  ⟨(some 10), .mv (.t 2), none, none⟩,
  ⟨(some 11), .bin .add (.t 10) (.c (.int .i64 1)), none, none⟩,
  ⟨(some 12), .mv (.t 3), none, none⟩,
  ⟨(some 13), .bin .sub (.t 12) (.c (.int .i64 1)), none, none⟩,
  ⟨(some 2), .mv (.t 11), none, none⟩,
  ⟨(some 3), .mv (.t 13), none, none⟩]
def f51r3 : IC := .reg false [] f51o3 [2, 3, 0]
@[simp] theorem f51r3_run : run tbl fin K f51r3 e H = regK tbl fin K [] f51o3 [2, 3, 0] e H := run_regK _ _ _ _ _ _ _ _ _ rfl
def f51b4 : IC := (.seq (.seq f51r1 (.cond (.t 9) .skip (.exit 0))) (.seq (.block 1 f51r2) f51r3))
theorem f51b4_eq : f51b4 = (.seq (.seq f51r1 (.cond (.t 9) .skip (.exit 0))) (.seq (.block 1 f51r2) f51r3)) := rfl
def f51body : IC := (.seq f51r0 (.block 0 (.loop [2, 3, 0] f51b4)))
def f51 : IFn := ⟨28, 1, [], f51body⟩
/- 52: slices.Reverse[[]byte,byte] is met by a contract -/
/- 53: jobshell/pattern.search -/
@[simp] def f53o0 : List IOper := [
  ⟨(some 8), .mv (.c (.int .i64 0)), none, none⟩,
  ⟨(some 9), .mv (.c (.bool false)), none, none⟩]
def f53r0 : IC := .reg false [] f53o0 [1, 0, 3, 2]
@[simp] theorem f53r0_run : run tbl fin K f53r0 e H = regK tbl fin K [] f53o0 [1, 0, 3, 2] e H := run_regK _ _ _ _ _ _ _ _ _ rfl
@[simp] def f53o1 : List IOper := [
  ⟨(some 14), .mv (.t 0), none, none⟩,
  ⟨(some 15), .call (.c (.fn 65 [])) [(.t 14)], none, none⟩,
  ⟨(some 16), .un .not (.t 15), none, none⟩]
def f53r1 : IC := .reg false [] f53o1 [16, 1, 0, 3, 2]
@[simp] theorem f53r1_run : run tbl fin K f53r1 e H = regK tbl fin K [] f53o1 [16, 1, 0, 3, 2] e H := run_regK _ _ _ _ _ _ _ _ _ rfl
@[simp] def f53o2 : List IOper := [
  ⟨(some 8), .mv (.c (.int .i64 0)), none, none⟩,
  ⟨(some 9), .mv (.c (.bool false)), none, none⟩]
def f53r2 : IC := .reg false [] f53o2 [8, 9]
@[simp] theorem f53r2_run : run tbl fin K f53r2 e H = regK tbl fin K [] f53o2 [8, 9] e H := run_regK _ _ _ _ _ _ _ _ _ rfl
@[simp] def f53o3 : List IOper := [
  ⟨(some 17), .mv (.t 0), none, none⟩,
  ⟨(some 18), .len (.t 17), none, none⟩,
  ⟨(some 19), .bin .add (.t 18) (.c (.int .i64 1)), none, none⟩,
  ⟨(some 20), .mk 4 1 (.bool false) (.t 19) (.t 19), none, none⟩,
  ⟨(some 10), .mv (.t 20), none, none⟩]
def f53r3 : IC := .reg false [] f53o3 [10, 2, 3, 0, 1]
@[simp] theorem f53r3_run : run tbl fin K f53r3 e H = regK tbl fin K [] f53o3 [10, 2, 3, 0, 1] e H := run_regK _ _ _ _ _ _ _ _ _ rfl
@[simp] def f53o4 : List IOper := [
  ⟨(some 21), .mv (.t 10), none, none⟩,
  ⟨(some 22), .idx 1 (.t 21) (.c (.int .i64 0)), none, none⟩,
  ⟨none, .store 1 (.t 22) (.c (.bool true)), none, none⟩]
def f53r4 : IC := .reg false [] f53o4 [10, 2, 3, 0, 1]
@[simp] theorem f53r4_run : run tbl fin K f53r4 e H = regK tbl fin K [] f53o4 [10, 2, 3, 0, 1] e H := run_regK _ _ _ _ _ _ _ _ _ rfl
@[simp] def f53o5 : List IOper := [
  ⟨(some 23), .mv (.t 0), none, none⟩,
  ⟨(some 24), .mv (.t 10), none, none⟩,
  ⟨(some 25), .ocall (.c (.fn 66 [])) [(.t 23), (.t 24)], none, none⟩]
def f53r5 : IC := .reg false [] f53o5 [10, 2, 3, 0, 1]
@[simp] theorem f53r5_run : run tbl fin K f53r5 e H = regK tbl fin K [] f53o5 [10, 2, 3, 0, 1] e H := run_regK _ _ _ _ _ _ _ _ _ rfl
@[simp] def f53o6 : List IOper := [
  ⟨(some 11), .mv (.c (.int .i64 0)), none, none⟩,
  ⟨(some 12), .mv (.c (.bool false)), none, none⟩]
def f53r6 : IC := .reg false [] f53o6 [12, 11, 10, 2, 3, 0, 1]
@[simp] theorem f53r6_run : run tbl fin K f53r6 e H = regK tbl fin K [] f53o6 [12, 11, 10, 2, 3, 0, 1] e H := run_regK _ _ _ _ _ _ _ _ _ rfl
@[simp] def f53o7 : List IOper := [
  ⟨(some 13), .mv (.c (.int .i64 0)), none, none⟩]
def f53r7 : IC := .reg false [] f53o7 [12, 11, 10, 13, 2, 3, 0, 1]
@[simp] theorem f53r7_run : run tbl fin K f53r7 e H = regK tbl fin K [] f53o7 [12, 11, 10, 13, 2, 3, 0, 1] e H := run_regK _ _ _ _ _ _ _ _ _ rfl
@[simp] def f53o8 : List IOper := [
  ⟨(some 28), .mv (.t 10), none, none⟩,
  ⟨(some 29), .mv (.t 0), none, none⟩,
  ⟨(some 30), .len (.t 29), none, none⟩,
  ⟨(some 31), .idx 1 (.t 28) (.t 30), none, none⟩,
  ⟨(some 32), .load false 1 (.t 31), none, none⟩,
  ⟨(some 33), .mv (.t 32), none, none⟩,
  ⟨(some 34), .mv (.t 13), (some (33, true)), none⟩,
  ⟨(some 35), .mv (.t 2), (some (33, true)), none⟩,
  ⟨(some 36), .bin .geq (.t 34) (.t 35), (some (33, true)), none⟩,
  ⟨(some 37), .pick (.t 33) (.t 36) (.c (.bool false)), none, none⟩]
def f53r8 : IC := .reg false [] f53o8 [37, 12, 11, 10, 13, 2, 3, 0, 1]
@[simp] theorem f53r8_run : run tbl fin K f53r8 e H = regK tbl fin K [] f53o8 [37, 12, 11, 10, 13, 2, 3, 0, 1] e H := run_regK _ _ _ _ _ _ _ _ _ rfl
@[simp] def f53o9 : List IOper := [
  ⟨(some 38), .mv (.t 13), none, none⟩,
  ⟨(some 11), .mv (.t 38), none, none⟩,
  ⟨(some 12), .mv (.c (.bool true)), none, none⟩]
def f53r9 : IC := .reg false [] f53o9 [10, 13, 2, 3, 0, 1, 11, 12]
@[simp] theorem f53r9_run : run tbl fin K f53r9 e H = regK tbl fin K [] f53o9 [10, 13, 2, 3, 0, 1, 11, 12] e H := run_regK _ _ _ _ _ _ _ _ _ rfl
@[simp] def f53o10 : List IOper := [
  ⟨(some 39), .mv (.t 3), none, none⟩,
  ⟨(some 40), .un .not (.t 39), none, none⟩]
def f53r10 : IC := .reg false [] f53o10 [40, 10, 13, 2, 3, 0, 1, 11, 12]
@[simp] theorem f53r10_run : run tbl fin K f53r10 e H = regK tbl fin K [] f53o10 [40, 10, 13, 2, 3, 0, 1, 11, 12] e H := run_regK _ _ _ _ _ _ _ _ _ rfl
@[simp] def f53o11 : List IOper := [
  ⟨(some 41), .mv (.t 13), none, none⟩,
  ⟨(some 42), .mv (.t 1), none, none⟩,
  ⟨(some 43), .slen (.t 42), none, none⟩,
  ⟨(some 44), .bin .eql (.t 41) (.t 43), none, none⟩,
  ⟨(some 45), .mv (.t 44), none, none⟩,
  ⟨(some 46), .mv (.t 10), (some (45, false)), none⟩,
  ⟨(some 47), .call (.c (.fn 67 [])) [(.t 46), (.c (.bool true))], (some (45, false)), none⟩,
  ⟨(some 48), .un .not (.t 47), (some (45, false)), none⟩,
  ⟨(some 49), .pick (.t 45) (.c (.bool true)) (.t 48), none, none⟩]
def f53r11 : IC := .reg false [] f53o11 [49, 1, 0, 3, 2, 13, 10, 11, 12]
@[simp] theorem f53r11_run : run tbl fin K f53r11 e H = regK tbl fin K [] f53o11 [49, 1, 0, 3, 2, 13, 10, 11, 12] e H := run_regK _ _ _ _ _ _ _ _ _ rfl
@[simp] def f53o12 : List IOper := [
  ⟨(some 50), .mv (.t 0), none, none⟩,
  ⟨(some 51), .mv (.t 10), none, none⟩,
  ⟨(some 52), .mv (.t 1), none, none⟩,
  ⟨(some 53), .mv (.t 13), none, none⟩,
  ⟨(some 54), .sidx (.t 52) (.t 53), none, none⟩,
  ⟨(some 55), .call (.c (.fn 68 [])) [(.t 50), (.t 51), (.t 54)], none, none⟩,
  ⟨(some 10), .mv (.t 55), none, none⟩]
def f53r12 : IC := .reg false [] f53o12 [13, 12, 11, 10, 2, 3, 0, 1]
@[simp] theorem f53r12_run : run tbl fin K f53r12 e H = regK tbl fin K [] f53o12 [13, 12, 11, 10, 2, 3, 0, 1] e H := run_regK _ _ _ _ _ _ _ _ _ rfl
@[simp] def f53o13 : List IOper := [
  ⟨(some 26), .mv (.t 13), none, none⟩,
  ⟨(some 27), .bin .add (.t 26) (.c (.int .i64 1)), none, none⟩,
  ⟨(some 13), .mv (.t 27), none, none⟩]
def f53r13 : IC := .reg false [] f53o13 [12, 11, 10, 13, 2, 3, 0, 1]
@[simp] theorem f53r13_run : run tbl fin K f53r13 e H = regK tbl fin K [] f53o13 [12, 11, 10, 13, 2, 3, 0, 1] e H := run_regK _ _ _ _ _ _ _ _ _ rfl
def f53b14 : IC := (.seq (.block 1 (.seq (.seq f53r8 (.cond (.t 37) (.seq f53r9 (.seq f53r10 (.cond (.t 40) (.exit 0) .skip))) .skip)) (.seq (.seq f53r11 (.cond (.t 49) (.exit 0) .skip)) f53r12))) f53r13)
theorem f53b14_eq : f53b14 = (.seq (.block 1 (.seq (.seq f53r8 (.cond (.t 37) (.seq f53r9 (.seq f53r10 (.cond (.t 40) (.exit 0) .skip))) .skip)) (.seq (.seq f53r11 (.cond (.t 49) (.exit 0) .skip)) f53r12))) f53r13) := rfl
@[simp] def f53o15 : List IOper := [
  ⟨(some 56), .mv (.t 11), none, none⟩,
  ⟨(some 57), .mv (.t 12), none, none⟩,
  ⟨(some 8), .mv (.t 56), none, none⟩,
  ⟨(some 9), .mv (.t 57), none, none⟩]
def f53r15 : IC := .reg false [] f53o15 [8, 9]
@[simp] theorem f53r15_run : run tbl fin K f53r15 e H = regK tbl fin K [] f53o15 [8, 9] e H := run_regK _ _ _ _ _ _ _ _ _ rfl
def f53body : IC := (.seq f53r0 (.scope (.seq (.seq f53r1 (.cond (.t 16) (.seq f53r2 .ret) .skip)) (.seq f53r3 (.seq f53r4 (.seq f53r5 (.seq f53r6 (.seq .skip (.seq (.seq f53r7 (.block 0 (.loop [12, 11, 10, 13, 2, 3, 0, 1] f53b14))) (.seq f53r15 .ret))))))))))
def f53 : IFn := ⟨58, 4, [.tmp 8, .tmp 9], f53body⟩
/- 54: jobshell/jobshellref04.Match -/
@[simp] def f54o0 : List IOper := [
  ⟨(some 4), .mv (.c (.bool false)), none, none⟩]
def f54r0 : IC := .reg false [] f54o0 [0, 1]
@[simp] theorem f54r0_run : run tbl fin K f54r0 e H = regK tbl fin K [] f54o0 [0, 1] e H := run_regK _ _ _ _ _ _ _ _ _ rfl
@[simp] def f54o1 : List IOper := [
  ⟨(some 5), .mv (.t 0), none, none⟩,
  ⟨(some 6), .call (.c (.fn 55 [])) [(.t 5)], none, none⟩,
  ⟨(some 7), .mv (.t 6), none, none⟩,
  ⟨(some 8), .mv (.t 0), (some (7, true)), none⟩,
  ⟨(some 9), .mv (.t 1), (some (7, true)), none⟩,
  ⟨(some 10), .call (.c (.fn 56 [])) [(.t 8), (.t 9)], (some (7, true)), none⟩,
  ⟨(some 11), .mv (.t 1), (some (7, true)), none⟩,
  ⟨(some 12), .slen (.t 11), (some (7, true)), some [12, 10, 7]⟩,
  ⟨(some 13), .idx 1 (.t 10) (.t 12), (some (7, true)), none⟩,
  ⟨(some 14), .load false 1 (.t 13), (some (7, true)), none⟩,
  ⟨(some 15), .pick (.t 7) (.t 14) (.c (.bool false)), none, none⟩,
  ⟨(some 4), .mv (.t 15), none, none⟩]
def f54r1 : IC := .reg false [] f54o1 [4]
@[simp] theorem f54r1_run : run tbl fin K f54r1 e H = regK tbl fin K [] f54o1 [4] e H := run_regK _ _ _ _ _ _ _ _ _ rfl
def f54body : IC := (.seq f54r0 (.seq f54r1 .ret))
def f54 : IFn := ⟨16, 2, [.tmp 4], f54body⟩
/- 55: jobshell/jobshellref04.Valid -/
@[simp] def f55o0 : List IOper := [
  ⟨(some 2), .mv (.c (.bool false)), none, none⟩]
def f55r0 : IC := .reg false [] f55o0 [0]
@[simp] theorem f55r0_run : run tbl fin K f55r0 e H = regK tbl fin K [] f55o0 [0] e H := run_regK _ _ _ _ _ _ _ _ _ rfl
@[simp] def f55o1 : List IOper := [
  ⟨(some 3), .mv (.c (.int .i64 0)), none, none⟩]
def f55r1 : IC := .reg false [] f55o1 [0, 3]
@[simp] theorem f55r1_run : run tbl fin K f55r1 e H = regK tbl fin K [] f55o1 [0, 3] e H := run_regK _ _ _ _ _ _ _ _ _ rfl
@[simp] def f55o2 : List IOper := [
  ⟨(some 6), .mv (.t 3), none, none⟩,
  ⟨(some 7), .mv (.t 0), none, none⟩,
  ⟨(some 8), .len (.t 7), none, none⟩,
  ⟨(some 9), .bin .lss (.t 6) (.t 8), none, none⟩]
def f55r2 : IC := .reg false [] f55o2 [9, 0, 3]
@[simp] theorem f55r2_run : run tbl fin K f55r2 e H = regK tbl fin K [] f55o2 [9, 0, 3] e H := run_regK _ _ _ _ _ _ _ _ _ rfl
@[simp] def f55o3 : List IOper := [
  ⟨(some 12), .mv (.t 0), none, none⟩,
  ⟨(some 13), .mv (.t 3), none, none⟩,
  ⟨(some 14), .idx 4 (.t 12) (.t 13), none, none⟩,
  ⟨(some 15), .load true 4 (.t 14), none, none⟩,
  ⟨(some 4), .new 52 4 (.agg [(.int .i64 0), (.str []), (.bool false), .e0]), none, none⟩,
  ⟨none, .store 4 (.t 4) (.t 15), none, none⟩]
def f55r3 : IC := .reg false [] f55o3 [4, 0, 3]
@[simp] theorem f55r3_run : run tbl fin K f55r3 e H = regK tbl fin K [] f55o3 [4, 0, 3] e H := run_regK _ _ _ _ _ _ _ _ _ rfl
@[simp] def f55o4 : List IOper := [
  ⟨(some 5), .mv (.c (.int .i64 0)), none, none⟩]
def f55r4 : IC := .reg false [] f55o4 [5, 4, 0, 3]
@[simp] theorem f55r4_run : run tbl fin K f55r4 e H = regK tbl fin K [] f55o4 [5, 4, 0, 3] e H := run_regK _ _ _ _ _ _ _ _ _ rfl
@[simp] def f55o5 : List IOper := [
  ⟨(some 16), .fld 0 (.t 4), none, none⟩,
  ⟨(some 17), .load false 1 (.t 16), none, none⟩,
  ⟨(some 18), .bin .eql (.t 17) (.c (.int .i64 1)), none, none⟩]
def f55r5 : IC := .reg false [] f55o5 [18, 5, 4, 0, 3]
@[simp] theorem f55r5_run : run tbl fin K f55r5 e H = regK tbl fin K [] f55o5 [18, 5, 4, 0, 3] e H := run_regK _ _ _ _ _ _ _ _ _ rfl
@[simp] def f55o6 : List IOper := [
  ⟨(some 5), .mv (.c (.int .i64 1)), none, none⟩]
def f55r6 : IC := .reg false [] f55o6 [5, 4, 0, 3]
@[simp] theorem f55r6_run : run tbl fin K f55r6 e H = regK tbl fin K [] f55o6 [5, 4, 0, 3] e H := run_regK _ _ _ _ _ _ _ _ _ rfl
@[simp] def f55o7 : List IOper := [
  ⟨(some 19), .fld 0 (.t 4), none, none⟩,
  ⟨(some 20), .load false 1 (.t 19), none, none⟩,
  ⟨(some 21), .bin .lss (.t 20) (.c (.int .i64 1)), none, none⟩,
  ⟨(some 22), .mv (.t 21), none, none⟩,
  ⟨(some 23), .fld 0 (.t 4), (some (22, false)), none⟩,
  ⟨(some 24), .load false 1 (.t 23), (some (22, false)), none⟩,
  ⟨(some 25), .bin .gtr (.t 24) (.c (.int .i64 4)), (some (22, false)), none⟩,
  ⟨(some 26), .pick (.t 22) (.c (.bool true)) (.t 25), none, some [26, 5, 4, 0, 3]⟩,
  ⟨(some 27), .mv (.t 26), none, none⟩,
  ⟨(some 28), .fld 1 (.t 4), (some (27, false)), none⟩,
  ⟨(some 29), .load false 1 (.t 28), (some (27, false)), none⟩,
  ⟨(some 30), .slen (.t 29), (some (27, false)), none⟩,
  ⟨(some 31), .mv (.t 5), (some (27, false)), none⟩,
  ⟨(some 32), .bin .neq (.t 30) (.t 31), (some (27, false)), none⟩,
  ⟨(some 33), .pick (.t 27) (.c (.bool true)) (.t 32), none, none⟩,
  ⟨(some 34), .mv (.t 33), none, some [34, 4, 0, 3]⟩,
  ⟨(some 35), .fld 0 (.t 4), (some (34, false)), none⟩,
  ⟨(some 36), .load false 1 (.t 35), (some (34, false)), none⟩,
  ⟨(some 37), .bin .neq (.t 36) (.c (.int .i64 4)), (some (34, false)), none⟩,
  ⟨(some 38), .mv (.t 37), (some (34, false)), none⟩,
  ⟨(some 39), .fld 2 (.t 4), (some (38, true)), none⟩,
  ⟨(some 40), .load false 1 (.t 39), (some (38, true)), none⟩,
  ⟨(some 41), .mv (.t 40), (some (38, true)), none⟩,
  ⟨(some 42), .fld 3 (.t 4), (some (41, false)), some [42, 41, 38, 34, 4, 0, 3]⟩,
  ⟨(some 43), .load false 1 (.t 42), (some (41, false)), none⟩,
  ⟨(some 44), .len (.t 43), (some (41, false)), none⟩,
  ⟨(some 45), .bin .gtr (.t 44) (.c (.int .i64 0)), (some (41, false)), none⟩,
  ⟨(some 46), .pick (.t 41) (.c (.bool true)) (.t 45), (some (38, true)), none⟩,
  ⟨(some 47), .pick (.t 38) (.t 46) (.c (.bool false)), (some (34, false)), none⟩,
  ⟨(some 48), .pick (.t 34) (.c (.bool true)) (.t 47), none, none⟩,
  ⟨(some 49), .mv (.t 48), none, none⟩,
  ⟨(some 50), .fld 3 (.t 4), (some (49, false)), some [50, 49, 0, 3]⟩,
  ⟨(some 51), .load false 1 (.t 50), (some (49, false)), none⟩,
  ⟨(some 52), .call (.c (.fn 69 [])) [(.t 51)], (some (49, false)), none⟩,
  ⟨(some 53), .un .not (.t 52), (some (49, false)), none⟩,
  ⟨(some 54), .pick (.t 49) (.c (.bool true)) (.t 53), none, none⟩]
def f55r7 : IC := .reg false [] f55o7 [54, 0, 3]
@[simp] theorem f55r7_run : run tbl fin K f55r7 e H = regK tbl fin K [] f55o7 [54, 0, 3] e H := run_regK _ _ _ _ _ _ _ _ _ rfl
@[simp] def f55o8 : List IOper := [
  ⟨(some 2), .mv (.c (.bool false)), none, none⟩]
def f55r8 : IC := .reg false [] f55o8 [2]
@[simp] theorem f55r8_run : run tbl fin K f55r8 e H = regK tbl fin K [] f55o8 [2] e H := run_regK _ _ _ _ _ _ _ _ _ rfl
@[simp] def f55o9 : List IOper := [
  ⟨(some 10), .mv (.t 3), none, none⟩,
  ⟨(some 11), .bin .add (.t 10) (.c (.int .i64 1)), none, none⟩,
  ⟨(some 3), .mv (.t 11), none, none⟩]
def f55r9 : IC := .reg false [] f55o9 [0, 3]
@[simp] theorem f55r9_run : run tbl fin K f55r9 e H = regK tbl fin K [] f55o9 [0, 3] e H := run_regK _ _ _ _ _ _ _ _ _ rfl
def f55b10 : IC := (.seq (.seq f55r2 (.cond (.t 9) .skip (.exit 0))) (.seq (.block 1 (.seq f55r3 (.seq f55r4 (.seq (.seq f55r5 (.cond (.t 18) f55r6 .skip)) (.seq f55r7 (.cond (.t 54) (.seq f55r8 .ret) .skip)))))) f55r9))
theorem f55b10_eq : f55b10 = (.seq (.seq f55r2 (.cond (.t 9) .skip (.exit 0))) (.seq (.block 1 (.seq f55r3 (.seq f55r4 (.seq (.seq f55r5 (.cond (.t 18) f55r6 .skip)) (.seq f55r7 (.cond (.t 54) (.seq f55r8 .ret) .skip)))))) f55r9)) := rfl
@[simp] def f55o11 : List IOper := [
  ⟨(some 2), .mv (.c (.bool true)), none, none⟩]
def f55r11 : IC := .reg false [] f55o11 [2]
@[simp] theorem f55r11_run : run tbl fin K f55r11 e H = regK tbl fin K [] f55o11 [2] e H := run_regK _ _ _ _ _ _ _ _ _ rfl
def f55body : IC := (.seq f55r0 (.seq (.seq f55r1 (.block 0 (.loop [0, 3] f55b10))) (.seq f55r11 .ret)))
def f55 : IFn := ⟨55, 1, [.tmp 2], f55body⟩
/- 56: jobshell/jobshellref04.ends -/
@[simp] def f56o0 : List IOper := [
  ⟨(some 4), .nilrow 4 1, none, none⟩]
def f56r0 : IC := .reg false [] f56o0 [1, 0]
@[simp] theorem f56r0_run : run tbl fin K f56r0 e H = regK tbl fin K [] f56o0 [1, 0] e H := run_regK _ _ _ _ _ _ _ _ _ rfl
@[simp] def f56o1 : List IOper := [
  ⟨(some 9), .mv (.t 1), none, none⟩,
  ⟨(some 10), .slen (.t 9), none, none⟩,
  ⟨(some 11), .bin .add (.t 10) (.c (.int .i64 1)), none, none⟩,
  ⟨(some 12), .mk 4 1 (.bool false) (.t 11) (.t 11), none, none⟩,
  ⟨(some 5), .mv (.t 12), none, none⟩]
def f56r1 : IC := .reg false [] f56o1 [1, 0, 5]
@[simp] theorem f56r1_run : run tbl fin K f56r1 e H = regK tbl fin K [] f56o1 [1, 0, 5] e H := run_regK _ _ _ _ _ _ _ _ _ rfl
@[simp] def f56o2 : List IOper := [
  ⟨(some 13), .mv (.t 5), none, none⟩,
  ⟨(some 14), .idx 1 (.t 13) (.c (.int .i64 0)), none, none⟩,
  ⟨none, .store 1 (.t 14) (.c (.bool true)), none, none⟩]
def f56r2 : IC := .reg false [] f56o2 [1, 0, 5]
@[simp] theorem f56r2_run : run tbl fin K f56r2 e H = regK tbl fin K [] f56o2 [1, 0, 5] e H := run_regK _ _ _ _ _ _ _ _ _ rfl
@[simp] def f56o3 : List IOper := [
  ⟨(some 6), .mv (.c (.int .i64 0)), none, none⟩]
def f56r3 : IC := .reg false [] f56o3 [1, 6, 0, 5]
@[simp] theorem f56r3_run : run tbl fin K f56r3 e H = regK tbl fin K [] f56o3 [1, 6, 0, 5] e H := run_regK _ _ _ _ _ _ _ _ _ rfl
@[simp] def f56o4 : List IOper := [
  ⟨(some 15), .mv (.t 6), none, none⟩,
  ⟨(some 16), .mv (.t 0), none, none⟩,
  ⟨(some 17), .len (.t 16), none, none⟩,
  ⟨(some 18), .bin .lss (.t 15) (.t 17), none, none⟩]
def f56r4 : IC := .reg false [] f56o4 [18, 1, 6, 0, 5]
@[simp] theorem f56r4_run : run tbl fin K f56r4 e H = regK tbl fin K [] f56o4 [18, 1, 6, 0, 5] e H := run_regK _ _ _ _ _ _ _ _ _ rfl
@[simp] def f56o5 : List IOper := [
  ⟨(some 21), .mv (.t 1), none, none⟩,
  ⟨(some 22), .slen (.t 21), none, none⟩,
  ⟨(some 23), .bin .add (.t 22) (.c (.int .i64 1)), none, none⟩,
  ⟨(some 24), .mk 4 1 (.bool false) (.t 23) (.t 23), none, none⟩,
  ⟨(some 7), .mv (.t 24), none, none⟩]
def f56r5 : IC := .reg false [] f56o5 [1, 6, 0, 5, 7]
@[simp] theorem f56r5_run : run tbl fin K f56r5 e H = regK tbl fin K [] f56o5 [1, 6, 0, 5, 7] e H := run_regK _ _ _ _ _ _ _ _ _ rfl
@[simp] def f56o6 : List IOper := [
  ⟨(some 8), .mv (.c (.int .i64 0)), none, none⟩]
def f56r6 : IC := .reg false [] f56o6 [8, 1, 6, 0, 5, 7]
@[simp] theorem f56r6_run : run tbl fin K f56r6 e H = regK tbl fin K [] f56o6 [8, 1, 6, 0, 5, 7] e H := run_regK _ _ _ _ _ _ _ _ _ rfl
@[simp] def f56o7 : List IOper := [
  ⟨(some 25), .mv (.t 8), none, none⟩,
  ⟨(some 26), .mv (.t 1), none, none⟩,
  ⟨(some 27), .slen (.t 26), none, none⟩,
  ⟨(some 28), .bin .leq (.t 25) (.t 27), none, none⟩]
def f56r7 : IC := .reg false [] f56o7 [28, 8, 1, 6, 0, 5, 7]
@[simp] theorem f56r7_run : run tbl fin K f56r7 e H = regK tbl fin K [] f56o7 [28, 8, 1, 6, 0, 5, 7] e H := run_regK _ _ _ _ _ _ _ _ _ rfl
@[simp] def f56o8 : List IOper := [
  ⟨(some 31), .mv (.t 0), none, none⟩,
  ⟨(some 32), .mv (.t 6), none, none⟩,
  ⟨(some 33), .idx 4 (.t 31) (.t 32), none, none⟩,
  ⟨(some 34), .fld 0 (.t 33), none, none⟩,
  ⟨(some 35), .load false 1 (.t 34), none, none⟩,
  ⟨(some 36), .bin .eql (.t 35) (.c (.int .i64 3)), none, none⟩]
def f56r8 : IC := .reg false [] f56o8 [36, 8, 1, 6, 0, 5, 7]
@[simp] theorem f56r8_run : run tbl fin K f56r8 e H = regK tbl fin K [] f56o8 [36, 8, 1, 6, 0, 5, 7] e H := run_regK _ _ _ _ _ _ _ _ _ rfl
@[simp] def f56o9 : List IOper := [
  ⟨(some 37), .mv (.t 7), none, none⟩,
  ⟨(some 38), .mv (.t 8), none, none⟩,
  ⟨(some 39), .mv (.t 5), none, none⟩,
  ⟨(some 40), .mv (.t 8), none, none⟩,
  ⟨(some 41), .idx 1 (.t 39) (.t 40), none, none⟩,
  ⟨(some 42), .load false 1 (.t 41), none, none⟩,
  ⟨(some 43), .mv (.t 42), none, none⟩,
  ⟨(some 44), .mv (.t 8), (some (43, false)), some [44, 43, 38, 37, 8, 1, 6, 0, 5, 7]⟩,
  ⟨(some 45), .bin .gtr (.t 44) (.c (.int .i64 0)), (some (43, false)), none⟩,
  ⟨(some 46), .mv (.t 45), (some (43, false)), none⟩,
  ⟨(some 47), .mv (.t 7), (some (46, true)), none⟩,
  ⟨(some 48), .mv (.t 8), (some (46, true)), none⟩,
  ⟨(some 49), .bin .sub (.t 48) (.c (.int .i64 1)), (some (46, true)), none⟩,
  ⟨(some 50), .idx 1 (.t 47) (.t 49), (some (46, true)), none⟩,
  ⟨(some 51), .load false 1 (.t 50), (some (46, true)), none⟩,
  ⟨(some 52), .pick (.t 46) (.t 51) (.c (.bool false)), (some (43, false)), some [52, 43, 38, 37, 8, 1, 6, 0, 5, 7]⟩,
  ⟨(some 53), .pick (.t 43) (.c (.bool true)) (.t 52), none, none⟩,
  ⟨(some 54), .idx 1 (.t 37) (.t 38), none, none⟩,
  ⟨none, .store 1 (.t 54) (.t 53), none, none⟩]
def f56r9 : IC := .reg false [] f56o9 [8, 1, 6, 0, 5, 7]
@[simp] theorem f56r9_run : run tbl fin K f56r9 e H = regK tbl fin K [] f56o9 [8, 1, 6, 0, 5, 7] e H := run_regK _ _ _ _ _ _ _ _ _ rfl
@[simp] def f56o10 : List IOper := [
  ⟨(some 55), .mv (.t 7), none, none⟩,
  ⟨(some 56), .mv (.t 8), none, none⟩,
  ⟨(some 57), .mv (.t 8), none, none⟩,
  ⟨(some 58), .bin .gtr (.t 57) (.c (.int .i64 0)), none, none⟩,
  ⟨(some 59), .mv (.t 58), none, none⟩,
  ⟨(some 60), .mv (.t 5), (some (59, true)), none⟩,
  ⟨(some 61), .mv (.t 8), (some (59, true)), none⟩,
  ⟨(some 62), .bin .sub (.t 61) (.c (.int .i64 1)), (some (59, true)), none⟩,
  ⟨(some 63), .idx 1 (.t 60) (.t 62), (some (59, true)), none⟩,
  ⟨(some 64), .load false 1 (.t 63), (some (59, true)), none⟩,
  ⟨(some 65), .pick (.t 59) (.t 64) (.c (.bool false)), none, none⟩,
  ⟨(some 66), .mv (.t 65), none, none⟩,
  ⟨(some 67), .mv (.t 0), (some (66, true)), none⟩,
  ⟨(some 68), .mv (.t 6), (some (66, true)), none⟩,
  ⟨(some 69), .idx 4 (.t 67) (.t 68), (some (66, true)), none⟩,
  ⟨(some 70), .load true 4 (.t 69), (some (66, true)), none⟩,
  ⟨(some 71), .mv (.t 1), (some (66, true)), none⟩,
  ⟨(some 72), .mv (.t 8), (some (66, true)), none⟩,
  ⟨(some 73), .bin .sub (.t 72) (.c (.int .i64 1)), (some (66, true)), none⟩,
  ⟨(some 74), .sidx (.t 71) (.t 73), (some (66, true)), none⟩,
  ⟨(some 75), .call (.c (.fn 70 [])) [(.t 70), (.t 74)], (some (66, true)), none⟩,
  ⟨(some 76), .pick (.t 66) (.t 75) (.c (.bool false)), none, none⟩,
  ⟨(some 77), .idx 1 (.t 55) (.t 56), none, none⟩,
  ⟨none, .store 1 (.t 77) (.t 76), none, none⟩]
def f56r10 : IC := .reg true [] f56o10 [8, 1, 6, 0, 5, 7]
@[simp] theorem f56r10_run : run tbl fin K f56r10 e H = regK tbl fin K [] f56o10 [8, 1, 6, 0, 5, 7] e H := run_regK _ _ _ _ _ _ _ _ _ rfl
@[simp] def f56o11 : List IOper := [
  ⟨(some 29), .mv (.t 8), none, none⟩,
  ⟨(some 30), .bin .add (.t 29) (.c (.int .i64 1)), none, none⟩,
  ⟨(some 8), .mv (.t 30), none, none⟩]
def f56r11 : IC := .reg false [] f56o11 [8, 1, 6, 0, 5, 7]
@[simp] theorem f56r11_run : run tbl fin K f56r11 e H = regK tbl fin K [] f56o11 [8, 1, 6, 0, 5, 7] e H := run_regK _ _ _ _ _ _ _ _ _ rfl
def f56b12 : IC := (.seq (.seq f56r7 (.cond (.t 28) .skip (.exit 2))) (.seq (.block 3 (.seq f56r8 (.cond (.t 36) f56r9 f56r10))) f56r11))
theorem f56b12_eq : f56b12 = (.seq (.seq f56r7 (.cond (.t 28) .skip (.exit 2))) (.seq (.block 3 (.seq f56r8 (.cond (.t 36) f56r9 f56r10))) f56r11)) := rfl
@[simp] def f56o13 : List IOper := [
  ⟨(some 78), .mv (.t 7), none, none⟩,
  ⟨(some 5), .mv (.t 78), none, none⟩]
def f56r13 : IC := .reg false [] f56o13 [6, 1, 0, 5]
@[simp] theorem f56r13_run : run tbl fin K f56r13 e H = regK tbl fin K [] f56o13 [6, 1, 0, 5] e H := run_regK _ _ _ _ _ _ _ _ _ rfl
@[simp] def f56o14 : List IOper := [
  ⟨(some 19), .mv (.t 6), none, none⟩,
  ⟨(some 20), .bin .add (.t 19) (.c (.int .i64 1)), none, none⟩,
  ⟨(some 6), .mv (.t 20), none, none⟩]
def f56r14 : IC := .reg false [] f56o14 [1, 6, 0, 5]
@[simp] theorem f56r14_run : run tbl fin K f56r14 e H = regK tbl fin K [] f56o14 [1, 6, 0, 5] e H := run_regK _ _ _ _ _ _ _ _ _ rfl
def f56b15 : IC := (.seq (.seq f56r4 (.cond (.t 18) .skip (.exit 0))) (.seq (.block 1 (.seq f56r5 (.seq (.seq f56r6 (.block 2 (.loop [8, 1, 6, 0, 5, 7] f56b12))) f56r13))) f56r14))
theorem f56b15_eq : f56b15 = (.seq (.seq f56r4 (.cond (.t 18) .skip (.exit 0))) (.seq (.block 1 (.seq f56r5 (.seq (.seq f56r6 (.block 2 (.loop [8, 1, 6, 0, 5, 7] f56b12))) f56r13))) f56r14)) := rfl
@[simp] def f56o16 : List IOper := [
  ⟨(some 79), .mv (.t 5), none, none⟩,
  ⟨(some 4), .mv (.t 79), none, none⟩]
def f56r16 : IC := .reg false [] f56o16 [4]
@[simp] theorem f56r16_run : run tbl fin K f56r16 e H = regK tbl fin K [] f56o16 [4] e H := run_regK _ _ _ _ _ _ _ _ _ rfl
def f56body : IC := (.seq f56r0 (.seq f56r1 (.seq f56r2 (.seq (.seq f56r3 (.block 0 (.loop [1, 6, 0, 5] f56b15))) (.seq f56r16 .ret)))))
def f56 : IFn := ⟨80, 2, [.tmp 4], f56body⟩
/- 57: strings.Index is met by a contract -/
/- 58: (*strings.Builder).Grow is met by a contract -/
/- 59: (*strings.Builder).WriteString is met by a contract -/
/- 60: (*strings.Builder).String is met by a contract -/
/- 61: internal/strconv.Itoa is met by a contract -/
/- 62: jobshell/vars.find[jobshell/api.Var] -/
@[simp] def f62o0 : List IOper := [
  ⟨(some 4), .mv (.c (.int .i64 0)), none, none⟩]
def f62r0 : IC := .reg false [] f62o0 [0, 1]
@[simp] theorem f62r0_run : run tbl fin K f62r0 e H = regK tbl fin K [] f62o0 [0, 1] e H := run_regK _ _ _ _ _ _ _ _ _ rfl
@[simp] def f62o1 : List IOper := [
  ⟨(some 7), .mv (.t 0), none, none⟩,
  ⟨(some 8), .len (.t 7), none, none⟩,
  ⟨(some 9), .mv (.c (.int .i64 0)), none, none⟩]
def f62r1 : IC := .reg false [] f62o1 [8, 7, 1, 9]
@[simp] theorem f62r1_run : run tbl fin K f62r1 e H = regK tbl fin K [] f62o1 [8, 7, 1, 9] e H := run_regK _ _ _ _ _ _ _ _ _ rfl
@[simp] def f62o2 : List IOper := [
  ⟨(some 10), .bin .lss (.t 9) (.t 8), none, none⟩]
def f62r2 : IC := .reg false [] f62o2 [10, 1, 7, 8, 9]
@[simp] theorem f62r2_run : run tbl fin K f62r2 e H = regK tbl fin K [] f62o2 [10, 1, 7, 8, 9] e H := run_regK _ _ _ _ _ _ _ _ _ rfl
@[simp] def f62o3 : List IOper := [
  ⟨(some 11), .mv (.t 9), none, none⟩,
  ⟨(some 12), .idx 5 (.t 7) (.t 9), none, none⟩,
  ⟨(some 13), .load true 5 (.t 12), none, none⟩,
  ⟨(some 6), .new 49 5 (.agg [(.str []), (.str []), (.bool false), (.bool false), (.bool false)]), none, none⟩,
  ⟨(some 5), .mv (.t 11), none, none⟩,
  ⟨none, .store 5 (.t 6) (.t 13), none, none⟩]
def f62r3 : IC := .reg false [] f62o3 [6, 1, 7, 8, 9, 5]
@[simp] theorem f62r3_run : run tbl fin K f62r3 e H = regK tbl fin K [] f62o3 [6, 1, 7, 8, 9, 5] e H := run_regK _ _ _ _ _ _ _ _ _ rfl
@[simp] def f62o4 : List IOper := [
  ⟨(some 14), .mv (.t 1), none, none⟩,
  ⟨(some 15), .load true 5 (.t 6), none, none⟩,
  ⟨(some 16), .ocall (.t 14) [(.t 15)], none, none⟩]
def f62r4 : IC := .reg false [] f62o4 [16, 1, 7, 8, 9, 5]
@[simp] theorem f62r4_run : run tbl fin K f62r4 e H = regK tbl fin K [] f62o4 [16, 1, 7, 8, 9, 5] e H := run_regK _ _ _ _ _ _ _ _ _ rfl
@[simp] def f62o5 : List IOper := [
  ⟨(some 17), .mv (.t 5), none, none⟩,
  ⟨(some 4), .mv (.t 17), none, none⟩]
def f62r5 : IC := .reg false [] f62o5 [4]
@[simp] theorem f62r5_run : run tbl fin K f62r5 e H = regK tbl fin K [] f62o5 [4] e H := run_regK _ _ _ _ _ _ _ _ _ rfl
@[simp] def f62o6 : List IOper := [
  ⟨(some 18), .bin .add (.t 9) (.c (.int .i64 1)), none, none⟩,
  ⟨(some 9), .mv (.t 18), none, none⟩]
def f62r6 : IC := .reg false [] f62o6 [8, 7, 1, 9]
@[simp] theorem f62r6_run : run tbl fin K f62r6 e H = regK tbl fin K [] f62o6 [8, 7, 1, 9] e H := run_regK _ _ _ _ _ _ _ _ _ rfl
def f62b7 : IC := (.seq f62r2 (.seq (.cond (.t 10) .skip (.exit 0)) (.seq (.block 1 (.seq f62r3 (.seq f62r4 (.cond (.t 16) (.seq f62r5 .ret) .skip)))) f62r6)))
theorem f62b7_eq : f62b7 = (.seq f62r2 (.seq (.cond (.t 10) .skip (.exit 0)) (.seq (.block 1 (.seq f62r3 (.seq f62r4 (.cond (.t 16) (.seq f62r5 .ret) .skip)))) f62r6))) := rfl
@[simp] def f62o8 : List IOper := [
  ⟨(some 4), .mv (.c (.int .i64 (-1))), none, none⟩]
def f62r8 : IC := .reg false [] f62o8 [4]
@[simp] theorem f62r8_run : run tbl fin K f62r8 e H = regK tbl fin K [] f62o8 [4] e H := run_regK _ _ _ _ _ _ _ _ _ rfl
def f62body : IC := (.seq f62r0 (.seq (.seq f62r1 (.block 0 (.loop [8, 7, 1, 9] f62b7))) (.seq f62r8 .ret)))
def f62 : IFn := ⟨19, 2, [.tmp 4], f62body⟩
/- 63: jobshell/vars.Get$1 -/
@[simp] def f63o0 : List IOper := [
  ⟨(some 2), .box 49 5 (.t 0), none, none⟩,
  ⟨(some 3), .mv (.c (.bool false)), none, none⟩]
def f63r0 : IC := .reg false [] f63o0 [2, 1]
@[simp] theorem f63r0_run : run tbl fin K f63r0 e H = regK tbl fin K [] f63o0 [2, 1] e H := run_regK _ _ _ _ _ _ _ _ _ rfl
@[simp] def f63o1 : List IOper := [
  ⟨(some 4), .fld 0 (.t 2), none, none⟩,
  ⟨(some 5), .load false 1 (.t 4), none, none⟩,
  ⟨(some 6), .load false 1 (.t 1), none, none⟩,
  ⟨(some 7), .bin .eql (.t 5) (.t 6), none, none⟩,
  ⟨(some 3), .mv (.t 7), none, none⟩]
def f63r1 : IC := .reg false [] f63o1 [3]
@[simp] theorem f63r1_run : run tbl fin K f63r1 e H = regK tbl fin K [] f63o1 [3] e H := run_regK _ _ _ _ _ _ _ _ _ rfl
def f63body : IC := (.seq f63r0 (.seq f63r1 .ret))
def f63 : IFn := ⟨8, 2, [.tmp 3], f63body⟩
/- 64: jobshell/jobshellref01.Letter -/
@[simp] def f64o0 : List IOper := [
  ⟨(some 2), .mv (.c (.bool false)), none, none⟩]
def f64r0 : IC := .reg false [] f64o0 [0]
@[simp] theorem f64r0_run : run tbl fin K f64r0 e H = regK tbl fin K [] f64o0 [0] e H := run_regK _ _ _ _ _ _ _ _ _ rfl
@[simp] def f64o1 : List IOper := [
  ⟨(some 3), .mv (.t 0), none, none⟩,
  ⟨(some 4), .bin .geq (.t 3) (.c (.int .u8 97)), none, none⟩,
  ⟨(some 5), .mv (.t 4), none, none⟩,
  ⟨(some 6), .mv (.t 0), (some (5, true)), none⟩,
  ⟨(some 7), .bin .leq (.t 6) (.c (.int .u8 122)), (some (5, true)), none⟩,
  ⟨(some 8), .pick (.t 5) (.t 7) (.c (.bool false)), none, none⟩,
  ⟨(some 9), .mv (.t 8), none, none⟩,
  ⟨(some 10), .mv (.t 0), (some (9, false)), some [10, 0, 9]⟩,
  ⟨(some 11), .bin .geq (.t 10) (.c (.int .u8 65)), (some (9, false)), none⟩,
  ⟨(some 12), .mv (.t 11), (some (9, false)), none⟩,
  ⟨(some 13), .mv (.t 0), (some (12, true)), none⟩,
  ⟨(some 14), .bin .leq (.t 13) (.c (.int .u8 90)), (some (12, true)), none⟩,
  ⟨(some 15), .pick (.t 12) (.t 14) (.c (.bool false)), (some (9, false)), none⟩,
  ⟨(some 16), .pick (.t 9) (.c (.bool true)) (.t 15), none, none⟩,
  ⟨(some 2), .mv (.t 16), none, none⟩]
def f64r1 : IC := .reg false [] f64o1 [2]
@[simp] theorem f64r1_run : run tbl fin K f64r1 e H = regK tbl fin K [] f64o1 [2] e H := run_regK _ _ _ _ _ _ _ _ _ rfl
def f64body : IC := (.seq f64r0 (.seq f64r1 .ret))
def f64 : IFn := ⟨17, 1, [.tmp 2], f64body⟩
/- 65: jobshell/pattern.valid -/
@[simp] def f65o0 : List IOper := [
  ⟨(some 2), .mv (.c (.bool false)), none, none⟩]
def f65r0 : IC := .reg false [] f65o0 [0]
@[simp] theorem f65r0_run : run tbl fin K f65r0 e H = regK tbl fin K [] f65o0 [0] e H := run_regK _ _ _ _ _ _ _ _ _ rfl
@[simp] def f65o1 : List IOper := [
  ⟨(some 8), .mv (.t 0), none, none⟩,
  ⟨(some 9), .len (.t 8), none, none⟩,
  ⟨(some 10), .mv (.c (.int .i64 0)), none, none⟩]
def f65r1 : IC := .reg false [] f65o1 [9, 8, 10]
@[simp] theorem f65r1_run : run tbl fin K f65r1 e H = regK tbl fin K [] f65o1 [9, 8, 10] e H := run_regK _ _ _ _ _ _ _ _ _ rfl
@[simp] def f65o2 : List IOper := [
  ⟨(some 11), .bin .lss (.t 10) (.t 9), none, none⟩]
def f65r2 : IC := .reg false [] f65o2 [11, 8, 9, 10]
@[simp] theorem f65r2_run : run tbl fin K f65r2 e H = regK tbl fin K [] f65o2 [11, 8, 9, 10] e H := run_regK _ _ _ _ _ _ _ _ _ rfl
@[simp] def f65o3 : List IOper := [
  ⟨(some 12), .idx 4 (.t 8) (.t 10), none, none⟩,
  ⟨(some 13), .load true 4 (.t 12), none, none⟩,
  ⟨(some 4), .new 52 4 (.agg [(.int .i64 0), (.str []), (.bool false), .e0]), none, none⟩,
  ⟨none, .store 4 (.t 4) (.t 13), none, none⟩]
def f65r3 : IC := .reg false [] f65o3 [8, 9, 10, 4]
@[simp] theorem f65r3_run : run tbl fin K f65r3 e H = regK tbl fin K [] f65o3 [8, 9, 10, 4] e H := run_regK _ _ _ _ _ _ _ _ _ rfl
@[simp] def f65o4 : List IOper := [
  ⟨(some 5), .mv (.c (.int .i64 0)), none, none⟩]
def f65r4 : IC := .reg false [] f65o4 [5, 8, 9, 10, 4]
@[simp] theorem f65r4_run : run tbl fin K f65r4 e H = regK tbl fin K [] f65o4 [5, 8, 9, 10, 4] e H := run_regK _ _ _ _ _ _ _ _ _ rfl
@[simp] def f65o5 : List IOper := [
  ⟨(some 14), .fld 0 (.t 4), none, none⟩,
  ⟨(some 15), .load false 1 (.t 14), none, none⟩,
  ⟨(some 16), .bin .eql (.t 15) (.c (.int .i64 1)), none, none⟩]
def f65r5 : IC := .reg false [] f65o5 [16, 5, 8, 9, 10, 4]
@[simp] theorem f65r5_run : run tbl fin K f65r5 e H = regK tbl fin K [] f65o5 [16, 5, 8, 9, 10, 4] e H := run_regK _ _ _ _ _ _ _ _ _ rfl
@[simp] def f65o6 : List IOper := [
  ⟨(some 5), .mv (.c (.int .i64 1)), none, none⟩]
def f65r6 : IC := .reg false [] f65o6 [5, 8, 9, 10, 4]
@[simp] theorem f65r6_run : run tbl fin K f65r6 e H = regK tbl fin K [] f65o6 [5, 8, 9, 10, 4] e H := run_regK _ _ _ _ _ _ _ _ _ rfl
@[simp] def f65o7 : List IOper := [
  ⟨(some 17), .fld 0 (.t 4), none, none⟩,
  ⟨(some 18), .load false 1 (.t 17), none, none⟩,
  ⟨(some 19), .bin .lss (.t 18) (.c (.int .i64 1)), none, none⟩,
  ⟨(some 20), .mv (.t 19), none, none⟩,
  ⟨(some 21), .fld 0 (.t 4), (some (20, false)), none⟩,
  ⟨(some 22), .load false 1 (.t 21), (some (20, false)), none⟩,
  ⟨(some 23), .bin .gtr (.t 22) (.c (.int .i64 4)), (some (20, false)), none⟩,
  ⟨(some 24), .pick (.t 20) (.c (.bool true)) (.t 23), none, some [24, 5, 8, 9, 10, 4]⟩,
  ⟨(some 25), .mv (.t 24), none, none⟩,
  ⟨(some 26), .fld 1 (.t 4), (some (25, false)), none⟩,
  ⟨(some 27), .load false 1 (.t 26), (some (25, false)), none⟩,
  ⟨(some 28), .slen (.t 27), (some (25, false)), none⟩,
  ⟨(some 29), .mv (.t 5), (some (25, false)), none⟩,
  ⟨(some 30), .bin .neq (.t 28) (.t 29), (some (25, false)), none⟩,
  ⟨(some 31), .pick (.t 25) (.c (.bool true)) (.t 30), none, none⟩]
def f65r7 : IC := .reg false [] f65o7 [31, 8, 9, 10, 4]
@[simp] theorem f65r7_run : run tbl fin K f65r7 e H = regK tbl fin K [] f65o7 [31, 8, 9, 10, 4] e H := run_regK _ _ _ _ _ _ _ _ _ rfl
@[simp] def f65o8 : List IOper := [
  ⟨(some 2), .mv (.c (.bool false)), none, none⟩]
def f65r8 : IC := .reg false [] f65o8 [2]
@[simp] theorem f65r8_run : run tbl fin K f65r8 e H = regK tbl fin K [] f65o8 [2] e H := run_regK _ _ _ _ _ _ _ _ _ rfl
@[simp] def f65o9 : List IOper := [
  ⟨(some 32), .fld 0 (.t 4), none, none⟩,
  ⟨(some 33), .load false 1 (.t 32), none, none⟩,
  ⟨(some 34), .bin .neq (.t 33) (.c (.int .i64 4)), none, none⟩,
  ⟨(some 35), .mv (.t 34), none, none⟩,
  ⟨(some 36), .fld 2 (.t 4), (some (35, true)), none⟩,
  ⟨(some 37), .load false 1 (.t 36), (some (35, true)), none⟩,
  ⟨(some 38), .mv (.t 37), (some (35, true)), none⟩,
  ⟨(some 39), .fld 3 (.t 4), (some (38, false)), some [39, 38, 35, 4, 10, 9, 8]⟩,
  ⟨(some 40), .load false 1 (.t 39), (some (38, false)), none⟩,
  ⟨(some 41), .len (.t 40), (some (38, false)), none⟩,
  ⟨(some 42), .bin .gtr (.t 41) (.c (.int .i64 0)), (some (38, false)), none⟩,
  ⟨(some 43), .pick (.t 38) (.c (.bool true)) (.t 42), (some (35, true)), none⟩,
  ⟨(some 44), .pick (.t 35) (.t 43) (.c (.bool false)), none, none⟩]
def f65r9 : IC := .reg false [] f65o9 [44, 4, 10, 9, 8]
@[simp] theorem f65r9_run : run tbl fin K f65r9 e H = regK tbl fin K [] f65o9 [44, 4, 10, 9, 8] e H := run_regK _ _ _ _ _ _ _ _ _ rfl
@[simp] def f65o10 : List IOper := [
  ⟨(some 2), .mv (.c (.bool false)), none, none⟩]
def f65r10 : IC := .reg false [] f65o10 [2]
@[simp] theorem f65r10_run : run tbl fin K f65r10 e H = regK tbl fin K [] f65o10 [2] e H := run_regK _ _ _ _ _ _ _ _ _ rfl
@[simp] def f65o11 : List IOper := [
  ⟨(some 45), .fld 3 (.t 4), none, none⟩,
  ⟨(some 46), .load false 1 (.t 45), none, none⟩,
  ⟨(some 47), .len (.t 46), none, none⟩,
  ⟨(some 48), .mv (.c (.int .i64 0)), none, none⟩]
def f65r11 : IC := .reg false [] f65o11 [47, 8, 9, 10, 46, 4, 48]
@[simp] theorem f65r11_run : run tbl fin K f65r11 e H = regK tbl fin K [] f65o11 [47, 8, 9, 10, 46, 4, 48] e H := run_regK _ _ _ _ _ _ _ _ _ rfl
@[simp] def f65o12 : List IOper := [
  ⟨(some 49), .bin .lss (.t 48) (.t 47), none, none⟩]
def f65r12 : IC := .reg false [] f65o12 [49, 4, 46, 10, 9, 8, 47, 48]
@[simp] theorem f65r12_run : run tbl fin K f65r12 e H = regK tbl fin K [] f65o12 [49, 4, 46, 10, 9, 8, 47, 48] e H := run_regK _ _ _ _ _ _ _ _ _ rfl
@[simp] def f65o13 : List IOper := [
  ⟨(some 50), .mv (.t 48), none, none⟩,
  ⟨(some 51), .idx 2 (.t 46) (.t 48), none, none⟩,
  ⟨(some 52), .load true 2 (.t 51), none, none⟩,
  ⟨(some 7), .new 98 2 (.agg [(.int .u8 0), (.int .u8 0)]), none, none⟩,
  ⟨(some 6), .mv (.t 50), none, none⟩,
  ⟨none, .store 2 (.t 7) (.t 52), none, none⟩]
def f65r13 : IC := .reg false [] f65o13 [7, 6, 4, 46, 10, 9, 8, 47, 48]
@[simp] theorem f65r13_run : run tbl fin K f65r13 e H = regK tbl fin K [] f65o13 [7, 6, 4, 46, 10, 9, 8, 47, 48] e H := run_regK _ _ _ _ _ _ _ _ _ rfl
@[simp] def f65o14 : List IOper := [
  ⟨(some 53), .fld 0 (.t 7), none, none⟩,
  ⟨(some 54), .load false 1 (.t 53), none, none⟩,
  ⟨(some 55), .fld 1 (.t 7), none, none⟩,
  ⟨(some 56), .load false 1 (.t 55), none, none⟩,
  ⟨(some 57), .bin .gtr (.t 54) (.t 56), none, none⟩,
  ⟨(some 58), .mv (.t 57), none, none⟩,
  ⟨(some 59), .mv (.t 6), (some (58, false)), none⟩,
  ⟨(some 60), .bin .gtr (.t 59) (.c (.int .i64 0)), (some (58, false)), none⟩,
  ⟨(some 61), .mv (.t 60), (some (58, false)), none⟩,
  ⟨(some 62), .fld 0 (.t 7), (some (61, true)), none⟩,
  ⟨(some 63), .load false 1 (.t 62), (some (61, true)), none⟩,
  ⟨(some 64), .conv .i64 (.t 63), (some (61, true)), none⟩,
  ⟨(some 65), .fld 3 (.t 4), (some (61, true)), none⟩,
  ⟨(some 66), .load false 1 (.t 65), (some (61, true)), none⟩,
  ⟨(some 67), .mv (.t 6), (some (61, true)), none⟩,
  ⟨(some 68), .bin .sub (.t 67) (.c (.int .i64 1)), (some (61, true)), none⟩,
  ⟨(some 69), .idx 2 (.t 66) (.t 68), (some (61, true)), none⟩,
  ⟨(some 70), .fld 1 (.t 69), (some (61, true)), none⟩,
  ⟨(some 71), .load false 1 (.t 70), (some (61, true)), none⟩,
  ⟨(some 72), .conv .i64 (.t 71), (some (61, true)), none⟩,
  ⟨(some 73), .bin .add (.t 72) (.c (.int .i64 1)), (some (61, true)), none⟩,
  ⟨(some 74), .bin .leq (.t 64) (.t 73), (some (61, true)), none⟩,
  ⟨(some 75), .pick (.t 61) (.t 74) (.c (.bool false)), (some (58, false)), none⟩,
  ⟨(some 76), .pick (.t 58) (.c (.bool true)) (.t 75), none, none⟩]
def f65r14 : IC := .reg true [] f65o14 [76, 4, 46, 10, 9, 8, 47, 48]
@[simp] theorem f65r14_run : run tbl fin K f65r14 e H = regK tbl fin K [] f65o14 [76, 4, 46, 10, 9, 8, 47, 48] e H := run_regK _ _ _ _ _ _ _ _ _ rfl
@[simp] def f65o15 : List IOper := [
  ⟨(some 2), .mv (.c (.bool false)), none, none⟩]
def f65r15 : IC := .reg false [] f65o15 [2]
@[simp] theorem f65r15_run : run tbl fin K f65r15 e H = regK tbl fin K [] f65o15 [2] e H := run_regK _ _ _ _ _ _ _ _ _ rfl
@[simp] def f65o16 : List IOper := [
  ⟨(some 77), .bin .add (.t 48) (.c (.int .i64 1)), none, none⟩,
  ⟨(some 48), .mv (.t 77), none, none⟩]
def f65r16 : IC := .reg false [] f65o16 [47, 8, 9, 10, 46, 4, 48]
@[simp] theorem f65r16_run : run tbl fin K f65r16 e H = regK tbl fin K [] f65o16 [47, 8, 9, 10, 46, 4, 48] e H := run_regK _ _ _ _ _ _ _ _ _ rfl
def f65b17 : IC := (.seq f65r12 (.seq (.cond (.t 49) .skip (.exit 2)) (.seq (.block 3 (.seq f65r13 (.seq f65r14 (.cond (.t 76) (.seq f65r15 .ret) .skip)))) f65r16)))
theorem f65b17_eq : f65b17 = (.seq f65r12 (.seq (.cond (.t 49) .skip (.exit 2)) (.seq (.block 3 (.seq f65r13 (.seq f65r14 (.cond (.t 76) (.seq f65r15 .ret) .skip)))) f65r16))) := rfl
@[simp] def f65o18 : List IOper := [
  ⟨(some 78), .bin .add (.t 10) (.c (.int .i64 1)), none, none⟩,
  ⟨(some 10), .mv (.t 78), none, none⟩]
def f65r18 : IC := .reg false [] f65o18 [9, 8, 10]
@[simp] theorem f65r18_run : run tbl fin K f65r18 e H = regK tbl fin K [] f65o18 [9, 8, 10] e H := run_regK _ _ _ _ _ _ _ _ _ rfl
def f65b19 : IC := (.seq f65r2 (.seq (.cond (.t 11) .skip (.exit 0)) (.seq (.block 1 (.seq f65r3 (.seq f65r4 (.seq (.seq f65r5 (.cond (.t 16) f65r6 .skip)) (.seq (.seq f65r7 (.cond (.t 31) (.seq f65r8 .ret) .skip)) (.seq (.seq f65r9 (.cond (.t 44) (.seq f65r10 .ret) .skip)) (.seq f65r11 (.block 2 (.loop [47, 8, 9, 10, 46, 4, 48] f65b17))))))))) f65r18)))
theorem f65b19_eq : f65b19 = (.seq f65r2 (.seq (.cond (.t 11) .skip (.exit 0)) (.seq (.block 1 (.seq f65r3 (.seq f65r4 (.seq (.seq f65r5 (.cond (.t 16) f65r6 .skip)) (.seq (.seq f65r7 (.cond (.t 31) (.seq f65r8 .ret) .skip)) (.seq (.seq f65r9 (.cond (.t 44) (.seq f65r10 .ret) .skip)) (.seq f65r11 (.block 2 (.loop [47, 8, 9, 10, 46, 4, 48] f65b17))))))))) f65r18))) := rfl
@[simp] def f65o20 : List IOper := [
  ⟨(some 2), .mv (.c (.bool true)), none, none⟩]
def f65r20 : IC := .reg false [] f65o20 [2]
@[simp] theorem f65r20_run : run tbl fin K f65r20 e H = regK tbl fin K [] f65o20 [2] e H := run_regK _ _ _ _ _ _ _ _ _ rfl
def f65body : IC := (.seq f65r0 (.seq (.seq f65r1 (.block 0 (.loop [9, 8, 10] f65b19))) (.seq f65r20 .ret)))
def f65 : IFn := ⟨79, 1, [.tmp 2], f65body⟩
/- 66: jobshell/pattern.spread -/
@[simp] def f66o0 : List IOper := [
  ⟨(some 6), .mv (.t 0), none, none⟩,
  ⟨(some 7), .len (.t 6), none, none⟩,
  ⟨(some 8), .mv (.c (.int .i64 0)), none, none⟩]
def f66r0 : IC := .reg false [] f66o0 [8, 7, 6, 1]
@[simp] theorem f66r0_run : run tbl fin K f66r0 e H = regK tbl fin K [] f66o0 [8, 7, 6, 1] e H := run_regK _ _ _ _ _ _ _ _ _ rfl
@[simp] def f66o1 : List IOper := [
  ⟨(some 9), .bin .lss (.t 8) (.t 7), none, none⟩]
def f66r1 : IC := .reg false [] f66o1 [9, 8, 7, 6, 1]
@[simp] theorem f66r1_run : run tbl fin K f66r1 e H = regK tbl fin K [] f66o1 [9, 8, 7, 6, 1] e H := run_regK _ _ _ _ _ _ _ _ _ rfl
@[simp] def f66o2 : List IOper := [
  ⟨(some 10), .mv (.t 8), none, none⟩,
  ⟨(some 11), .idx 4 (.t 6) (.t 8), none, none⟩,
  ⟨(some 12), .load true 4 (.t 11), none, none⟩,
  ⟨(some 5), .new 52 4 (.agg [(.int .i64 0), (.str []), (.bool false), .e0]), none, none⟩,
  ⟨(some 4), .mv (.t 10), none, none⟩,
  ⟨none, .store 4 (.t 5) (.t 12), none, none⟩]
def f66r2 : IC := .reg false [] f66o2 [5, 4, 8, 7, 6, 1]
@[simp] theorem f66r2_run : run tbl fin K f66r2 e H = regK tbl fin K [] f66o2 [5, 4, 8, 7, 6, 1] e H := run_regK _ _ _ _ _ _ _ _ _ rfl
@[simp] def f66o3 : List IOper := [
  ⟨(some 13), .mv (.t 1), none, none⟩,
  ⟨(some 14), .mv (.t 4), none, none⟩,
  ⟨(some 15), .idx 1 (.t 13) (.t 14), none, none⟩,
  ⟨(some 16), .load false 1 (.t 15), none, none⟩,
  ⟨(some 17), .mv (.t 16), none, none⟩,
  ⟨(some 18), .fld 0 (.t 5), (some (17, true)), none⟩,
  ⟨(some 19), .load false 1 (.t 18), (some (17, true)), none⟩,
  ⟨(some 20), .bin .eql (.t 19) (.c (.int .i64 3)), (some (17, true)), none⟩,
  ⟨(some 21), .pick (.t 17) (.t 20) (.c (.bool false)), none, none⟩]
def f66r3 : IC := .reg false [] f66o3 [21, 4, 8, 7, 6, 1]
@[simp] theorem f66r3_run : run tbl fin K f66r3 e H = regK tbl fin K [] f66o3 [21, 4, 8, 7, 6, 1] e H := run_regK _ _ _ _ _ _ _ _ _ rfl
@[simp] def f66o4 : List IOper := [
  ⟨(some 22), .mv (.t 1), none, none⟩,
  ⟨(some 23), .mv (.t 4), none, none⟩,
  ⟨(some 24), .bin .add (.t 23) (.c (.int .i64 1)), none, none⟩,
  ⟨(some 25), .idx 1 (.t 22) (.t 24), none, none⟩,
  ⟨none, .store 1 (.t 25) (.c (.bool true)), none, none⟩]
def f66r4 : IC := .reg false [] f66o4 [8, 7, 6, 1]
@[simp] theorem f66r4_run : run tbl fin K f66r4 e H = regK tbl fin K [] f66o4 [8, 7, 6, 1] e H := run_regK _ _ _ _ _ _ _ _ _ rfl
@[simp] def f66o5 : List IOper := [
  ⟨(some 26), .bin .add (.t 8) (.c (.int .i64 1)), none, none⟩,
  ⟨(some 8), .mv (.t 26), none, none⟩]
def f66r5 : IC := .reg false [] f66o5 [8, 7, 6, 1]
@[simp] theorem f66r5_run : run tbl fin K f66r5 e H = regK tbl fin K [] f66o5 [8, 7, 6, 1] e H := run_regK _ _ _ _ _ _ _ _ _ rfl
def f66b6 : IC := (.seq f66r1 (.seq (.cond (.t 9) .skip (.exit 0)) (.seq (.block 1 (.seq f66r2 (.seq f66r3 (.cond (.t 21) f66r4 .skip)))) f66r5)))
theorem f66b6_eq : f66b6 = (.seq f66r1 (.seq (.cond (.t 9) .skip (.exit 0)) (.seq (.block 1 (.seq f66r2 (.seq f66r3 (.cond (.t 21) f66r4 .skip)))) f66r5))) := rfl
def f66body : IC := (.seq f66r0 (.block 0 (.loop [8, 7, 6, 1] f66b6)))
def f66 : IFn := ⟨27, 2, [], f66body⟩
/- 67: slices.Contains[[]bool,bool] -/
@[simp] def f67o0 : List IOper := [
  ⟨(some 4), .mv (.c (.bool false)), none, none⟩]
def f67r0 : IC := .reg false [] f67o0 [0, 1]
@[simp] theorem f67r0_run : run tbl fin K f67r0 e H = regK tbl fin K [] f67o0 [0, 1] e H := run_regK _ _ _ _ _ _ _ _ _ rfl
@[simp] def f67o1 : List IOper := [
  ⟨(some 5), .mv (.t 0), none, none⟩,
  ⟨(some 6), .mv (.t 1), none, none⟩,
  ⟨(some 7), .call (.c (.fn 75 [])) [(.t 5), (.t 6)], none, none⟩,
  ⟨(some 8), .bin .geq (.t 7) (.c (.int .i64 0)), none, none⟩,
  ⟨(some 4), .mv (.t 8), none, none⟩]
def f67r1 : IC := .reg false [] f67o1 [4]
@[simp] theorem f67r1_run : run tbl fin K f67r1 e H = regK tbl fin K [] f67o1 [4] e H := run_regK _ _ _ _ _ _ _ _ _ rfl
def f67body : IC := (.seq f67r0 (.seq f67r1 .ret))
def f67 : IFn := ⟨9, 2, [.tmp 4], f67body⟩
/- 68: jobshell/pattern.advance -/
@[simp] def f68o0 : List IOper := [
  ⟨(some 6), .nilrow 4 1, none, none⟩]
def f68r0 : IC := .reg false [] f68o0 [0, 1, 2]
@[simp] theorem f68r0_run : run tbl fin K f68r0 e H = regK tbl fin K [] f68o0 [0, 1, 2] e H := run_regK _ _ _ _ _ _ _ _ _ rfl
@[simp] def f68o1 : List IOper := [
  ⟨(some 10), .mv (.t 0), none, none⟩,
  ⟨(some 11), .len (.t 10), none, none⟩,
  ⟨(some 12), .bin .add (.t 11) (.c (.int .i64 1)), none, none⟩,
  ⟨(some 13), .mk 4 1 (.bool false) (.t 12) (.t 12), none, none⟩,
  ⟨(some 7), .mv (.t 13), none, none⟩]
def f68r1 : IC := .reg false [] f68o1 [0, 1, 7, 2]
@[simp] theorem f68r1_run : run tbl fin K f68r1 e H = regK tbl fin K [] f68o1 [0, 1, 7, 2] e H := run_regK _ _ _ _ _ _ _ _ _ rfl
@[simp] def f68o2 : List IOper := [
  ⟨(some 14), .mv (.t 0), none, none⟩,
  ⟨(some 15), .len (.t 14), none, none⟩,
  ⟨(some 16), .mv (.c (.int .i64 0)), none, none⟩]
def f68r2 : IC := .reg false [] f68o2 [16, 15, 0, 14, 1, 7, 2]
@[simp] theorem f68r2_run : run tbl fin K f68r2 e H = regK tbl fin K [] f68o2 [16, 15, 0, 14, 1, 7, 2] e H := run_regK _ _ _ _ _ _ _ _ _ rfl
@[simp] def f68o3 : List IOper := [
  ⟨(some 17), .bin .lss (.t 16) (.t 15), none, none⟩]
def f68r3 : IC := .reg false [] f68o3 [17, 16, 15, 0, 14, 1, 7, 2]
@[simp] theorem f68r3_run : run tbl fin K f68r3 e H = regK tbl fin K [] f68o3 [17, 16, 15, 0, 14, 1, 7, 2] e H := run_regK _ _ _ _ _ _ _ _ _ rfl
@[simp] def f68o4 : List IOper := [
  ⟨(some 18), .mv (.t 16), none, none⟩,
  ⟨(some 19), .idx 4 (.t 14) (.t 16), none, none⟩,
  ⟨(some 20), .load true 4 (.t 19), none, none⟩,
  ⟨(some 9), .new 52 4 (.agg [(.int .i64 0), (.str []), (.bool false), .e0]), none, none⟩,
  ⟨(some 8), .mv (.t 18), none, none⟩,
  ⟨none, .store 4 (.t 9) (.t 20), none, none⟩]
def f68r4 : IC := .reg false [] f68o4 [8, 9, 16, 15, 0, 14, 1, 7, 2]
@[simp] theorem f68r4_run : run tbl fin K f68r4 e H = regK tbl fin K [] f68o4 [8, 9, 16, 15, 0, 14, 1, 7, 2] e H := run_regK _ _ _ _ _ _ _ _ _ rfl
@[simp] def f68o5 : List IOper := [
  ⟨(some 22), .mv (.t 1), none, none⟩,
  ⟨(some 23), .mv (.t 8), none, none⟩,
  ⟨(some 24), .idx 1 (.t 22) (.t 23), none, none⟩,
  ⟨(some 25), .load false 1 (.t 24), none, none⟩,
  ⟨(some 26), .un .not (.t 25), none, none⟩,
  ⟨(some 21), .mv (.t 26), none, none⟩]
def f68r5 : IC := .reg false [] f68o5 [21, 8, 9, 16, 15, 0, 14, 1, 7, 2]
@[simp] theorem f68r5_run : run tbl fin K f68r5 e H = regK tbl fin K [] f68o5 [21, 8, 9, 16, 15, 0, 14, 1, 7, 2] e H := run_regK _ _ _ _ _ _ _ _ _ rfl
@[simp] def f68o6 : List IOper := [
  ⟨(some 28), .fld 0 (.t 9), none, none⟩,
  ⟨(some 29), .load false 1 (.t 28), none, none⟩,
  ⟨(some 30), .bin .eql (.t 29) (.c (.int .i64 3)), none, none⟩,
  ⟨(some 27), .mv (.t 30), none, none⟩]
def f68r6 : IC := .reg false [] f68o6 [27, 9, 8, 16, 15, 0, 14, 1, 7, 2]
@[simp] theorem f68r6_run : run tbl fin K f68r6 e H = regK tbl fin K [] f68o6 [27, 9, 8, 16, 15, 0, 14, 1, 7, 2] e H := run_regK _ _ _ _ _ _ _ _ _ rfl
@[simp] def f68o7 : List IOper := [
  ⟨(some 31), .mv (.t 7), none, none⟩,
  ⟨(some 32), .mv (.t 8), none, none⟩,
  ⟨(some 33), .idx 1 (.t 31) (.t 32), none, none⟩,
  ⟨none, .store 1 (.t 33) (.c (.bool true)), none, none⟩]
def f68r7 : IC := .reg false [] f68o7 [16, 15, 0, 14, 1, 7, 2]
@[simp] theorem f68r7_run : run tbl fin K f68r7 e H = regK tbl fin K [] f68o7 [16, 15, 0, 14, 1, 7, 2] e H := run_regK _ _ _ _ _ _ _ _ _ rfl
@[simp] def f68o8 : List IOper := [
  ⟨(some 35), .load true 4 (.t 9), none, none⟩,
  ⟨(some 36), .mv (.t 2), none, none⟩,
  ⟨(some 37), .call (.c (.fn 76 [])) [(.t 35), (.t 36)], none, none⟩,
  ⟨(some 34), .mv (.t 37), none, none⟩]
def f68r8 : IC := .reg false [] f68o8 [34, 8, 16, 15, 0, 14, 1, 7, 2]
@[simp] theorem f68r8_run : run tbl fin K f68r8 e H = regK tbl fin K [] f68o8 [34, 8, 16, 15, 0, 14, 1, 7, 2] e H := run_regK _ _ _ _ _ _ _ _ _ rfl
@[simp] def f68o9 : List IOper := [
  ⟨(some 38), .mv (.t 7), none, none⟩,
  ⟨(some 39), .mv (.t 8), none, none⟩,
  ⟨(some 40), .bin .add (.t 39) (.c (.int .i64 1)), none, none⟩,
  ⟨(some 41), .idx 1 (.t 38) (.t 40), none, none⟩,
  ⟨none, .store 1 (.t 41) (.c (.bool true)), none, none⟩]
def f68r9 : IC := .reg false [] f68o9 [16, 15, 0, 14, 1, 7, 2]
@[simp] theorem f68r9_run : run tbl fin K f68r9 e H = regK tbl fin K [] f68o9 [16, 15, 0, 14, 1, 7, 2] e H := run_regK _ _ _ _ _ _ _ _ _ rfl
@[simp] def f68o10 : List IOper := [
  ⟨(some 42), .bin .add (.t 16) (.c (.int .i64 1)), none, none⟩,
  ⟨(some 16), .mv (.t 42), none, none⟩]
def f68r10 : IC := .reg false [] f68o10 [16, 15, 0, 14, 1, 7, 2]
@[simp] theorem f68r10_run : run tbl fin K f68r10 e H = regK tbl fin K [] f68o10 [16, 15, 0, 14, 1, 7, 2] e H := run_regK _ _ _ _ _ _ _ _ _ rfl
def f68b11 : IC := (.seq f68r3 (.seq (.cond (.t 17) .skip (.exit 0)) (.seq (.block 1 (.seq f68r4 (.block 2 (.seq f68r5 (.cond (.t 21) .skip (.seq f68r6 (.cond (.t 27) f68r7 (.seq f68r8 (.cond (.t 34) f68r9 .skip))))))))) f68r10)))
theorem f68b11_eq : f68b11 = (.seq f68r3 (.seq (.cond (.t 17) .skip (.exit 0)) (.seq (.block 1 (.seq f68r4 (.block 2 (.seq f68r5 (.cond (.t 21) .skip (.seq f68r6 (.cond (.t 27) f68r7 (.seq f68r8 (.cond (.t 34) f68r9 .skip))))))))) f68r10))) := rfl
@[simp] def f68o12 : List IOper := [
  ⟨(some 43), .mv (.t 0), none, none⟩,
  ⟨(some 44), .mv (.t 7), none, none⟩,
  ⟨(some 45), .ocall (.c (.fn 66 [])) [(.t 43), (.t 44)], none, none⟩]
def f68r12 : IC := .reg false [] f68o12 [7]
@[simp] theorem f68r12_run : run tbl fin K f68r12 e H = regK tbl fin K [] f68o12 [7] e H := run_regK _ _ _ _ _ _ _ _ _ rfl
@[simp] def f68o13 : List IOper := [
  ⟨(some 46), .mv (.t 7), none, none⟩,
  ⟨(some 6), .mv (.t 46), none, none⟩]
def f68r13 : IC := .reg false [] f68o13 [6]
@[simp] theorem f68r13_run : run tbl fin K f68r13 e H = regK tbl fin K [] f68o13 [6] e H := run_regK _ _ _ _ _ _ _ _ _ rfl
def f68body : IC := (.seq f68r0 (.seq f68r1 (.seq (.seq f68r2 (.block 0 (.loop [16, 15, 0, 14, 1, 7, 2] f68b11))) (.seq f68r12 (.seq f68r13 .ret)))))
def f68 : IFn := ⟨47, 3, [.tmp 6], f68body⟩
/- 69: jobshell/jobshellref04.ascending -/
@[simp] def f69o0 : List IOper := [
  ⟨(some 2), .mv (.c (.bool false)), none, none⟩]
def f69r0 : IC := .reg false [] f69o0 [0]
@[simp] theorem f69r0_run : run tbl fin K f69r0 e H = regK tbl fin K [] f69o0 [0] e H := run_regK _ _ _ _ _ _ _ _ _ rfl
@[simp] def f69o1 : List IOper := [
  ⟨(some 3), .mv (.c (.int .i64 0)), none, none⟩]
def f69r1 : IC := .reg false [] f69o1 [0, 3]
@[simp] theorem f69r1_run : run tbl fin K f69r1 e H = regK tbl fin K [] f69o1 [0, 3] e H := run_regK _ _ _ _ _ _ _ _ _ rfl
@[simp] def f69o2 : List IOper := [
  ⟨(some 4), .mv (.t 3), none, none⟩,
  ⟨(some 5), .mv (.t 0), none, none⟩,
  ⟨(some 6), .len (.t 5), none, none⟩,
  ⟨(some 7), .bin .lss (.t 4) (.t 6), none, none⟩]
def f69r2 : IC := .reg false [] f69o2 [7, 0, 3]
@[simp] theorem f69r2_run : run tbl fin K f69r2 e H = regK tbl fin K [] f69o2 [7, 0, 3] e H := run_regK _ _ _ _ _ _ _ _ _ rfl
@[simp] def f69o3 : List IOper := [
  ⟨(some 10), .mv (.t 0), none, none⟩,
  ⟨(some 11), .mv (.t 3), none, none⟩,
  ⟨(some 12), .idx 2 (.t 10) (.t 11), none, none⟩,
  ⟨(some 13), .fld 0 (.t 12), none, none⟩,
  ⟨(some 14), .load false 1 (.t 13), none, none⟩,
  ⟨(some 15), .mv (.t 0), none, none⟩,
  ⟨(some 16), .mv (.t 3), none, none⟩,
  ⟨(some 17), .idx 2 (.t 15) (.t 16), none, none⟩,
  ⟨(some 18), .fld 1 (.t 17), none, none⟩,
  ⟨(some 19), .load false 1 (.t 18), none, none⟩,
  ⟨(some 20), .bin .gtr (.t 14) (.t 19), none, none⟩,
  ⟨(some 21), .mv (.t 20), none, none⟩,
  ⟨(some 22), .mv (.t 3), (some (21, false)), none⟩,
  ⟨(some 23), .bin .gtr (.t 22) (.c (.int .i64 0)), (some (21, false)), none⟩,
  ⟨(some 24), .mv (.t 23), (some (21, false)), none⟩,
  ⟨(some 25), .mv (.t 0), (some (24, true)), none⟩,
  ⟨(some 26), .mv (.t 3), (some (24, true)), none⟩,
  ⟨(some 27), .idx 2 (.t 25) (.t 26), (some (24, true)), none⟩,
  ⟨(some 28), .fld 0 (.t 27), (some (24, true)), none⟩,
  ⟨(some 29), .load false 1 (.t 28), (some (24, true)), none⟩,
  ⟨(some 30), .conv .i64 (.t 29), (some (24, true)), none⟩,
  ⟨(some 31), .mv (.t 0), (some (24, true)), none⟩,
  ⟨(some 32), .mv (.t 3), (some (24, true)), none⟩,
  ⟨(some 33), .bin .sub (.t 32) (.c (.int .i64 1)), (some (24, true)), none⟩,
  ⟨(some 34), .idx 2 (.t 31) (.t 33), (some (24, true)), none⟩,
  ⟨(some 35), .fld 1 (.t 34), (some (24, true)), none⟩,
  ⟨(some 36), .load false 1 (.t 35), (some (24, true)), none⟩,
  ⟨(some 37), .conv .i64 (.t 36), (some (24, true)), none⟩,
  ⟨(some 38), .bin .add (.t 37) (.c (.int .i64 1)), (some (24, true)), none⟩,
  ⟨(some 39), .bin .leq (.t 30) (.t 38), (some (24, true)), none⟩,
  ⟨(some 40), .pick (.t 24) (.t 39) (.c (.bool false)), (some (21, false)), none⟩,
  ⟨(some 41), .pick (.t 21) (.c (.bool true)) (.t 40), none, none⟩]
def f69r3 : IC := .reg true [] f69o3 [41, 0, 3]
@[simp] theorem f69r3_run : run tbl fin K f69r3 e H = regK tbl fin K [] f69o3 [41, 0, 3] e H := run_regK _ _ _ _ _ _ _ _ _ rfl
@[simp] def f69o4 : List IOper := [
  ⟨(some 2), .mv (.c (.bool false)), none, none⟩]
def f69r4 : IC := .reg false [] f69o4 [2]
@[simp] theorem f69r4_run : run tbl fin K f69r4 e H = regK tbl fin K [] f69o4 [2] e H := run_regK _ _ _ _ _ _ _ _ _ rfl
@[simp] def f69o5 : List IOper := [
  ⟨(some 8), .mv (.t 3), none, none⟩,
  ⟨(some 9), .bin .add (.t 8) (.c (.int .i64 1)), none, none⟩,
  ⟨(some 3), .mv (.t 9), none, none⟩]
def f69r5 : IC := .reg false [] f69o5 [0, 3]
@[simp] theorem f69r5_run : run tbl fin K f69r5 e H = regK tbl fin K [] f69o5 [0, 3] e H := run_regK _ _ _ _ _ _ _ _ _ rfl
def f69b6 : IC := (.seq (.seq f69r2 (.cond (.t 7) .skip (.exit 0))) (.seq (.block 1 (.seq f69r3 (.cond (.t 41) (.seq f69r4 .ret) .skip))) f69r5))
theorem f69b6_eq : f69b6 = (.seq (.seq f69r2 (.cond (.t 7) .skip (.exit 0))) (.seq (.block 1 (.seq f69r3 (.cond (.t 41) (.seq f69r4 .ret) .skip))) f69r5)) := rfl
@[simp] def f69o7 : List IOper := [
  ⟨(some 2), .mv (.c (.bool true)), none, none⟩]
def f69r7 : IC := .reg false [] f69o7 [2]
@[simp] theorem f69r7_run : run tbl fin K f69r7 e H = regK tbl fin K [] f69o7 [2] e H := run_regK _ _ _ _ _ _ _ _ _ rfl
def f69body : IC := (.seq f69r0 (.seq (.seq f69r1 (.block 0 (.loop [0, 3] f69b6))) (.seq f69r7 .ret)))
def f69 : IFn := ⟨42, 1, [.tmp 2], f69body⟩
/- 70: jobshell/jobshellref04.takes -/
@[simp] def f70o0 : List IOper := [
  ⟨(some 2), .box 52 4 (.t 0), none, none⟩,
  ⟨(some 4), .mv (.c (.bool false)), none, none⟩]
def f70r0 : IC := .reg false [] f70o0 [2, 1]
@[simp] theorem f70r0_run : run tbl fin K f70r0 e H = regK tbl fin K [] f70o0 [2, 1] e H := run_regK _ _ _ _ _ _ _ _ _ rfl
@[simp] def f70o1 : List IOper := [
  ⟨(some 5), .fld 0 (.t 2), none, none⟩,
  ⟨(some 6), .load false 1 (.t 5), none, none⟩]
def f70r1 : IC := .reg false [] f70o1 [6, 2, 1]
@[simp] theorem f70r1_run : run tbl fin K f70r1 e H = regK tbl fin K [] f70o1 [6, 2, 1] e H := run_regK _ _ _ _ _ _ _ _ _ rfl
@[simp] def f70o2 : List IOper := [
  ⟨(some 8), .bin .eql (.t 6) (.c (.int .i64 1)), none, none⟩,
  ⟨(some 7), .mv (.t 8), none, none⟩]
def f70r2 : IC := .reg false [] f70o2 [7, 6, 2, 1]
@[simp] theorem f70r2_run : run tbl fin K f70r2 e H = regK tbl fin K [] f70o2 [7, 6, 2, 1] e H := run_regK _ _ _ _ _ _ _ _ _ rfl
@[simp] def f70o3 : List IOper := [
  ⟨(some 9), .fld 1 (.t 2), none, none⟩,
  ⟨(some 10), .load false 1 (.t 9), none, none⟩,
  ⟨(some 11), .sidx (.t 10) (.c (.int .i64 0)), none, none⟩,
  ⟨(some 12), .mv (.t 1), none, none⟩,
  ⟨(some 13), .bin .eql (.t 11) (.t 12), none, none⟩,
  ⟨(some 4), .mv (.t 13), none, none⟩]
def f70r3 : IC := .reg false [] f70o3 [4]
@[simp] theorem f70r3_run : run tbl fin K f70r3 e H = regK tbl fin K [] f70o3 [4] e H := run_regK _ _ _ _ _ _ _ _ _ rfl
@[simp] def f70o4 : List IOper := [
  ⟨(some 15), .bin .eql (.t 6) (.c (.int .i64 4)), none, none⟩,
  ⟨(some 14), .mv (.t 15), none, none⟩]
def f70r4 : IC := .reg false [] f70o4 [14, 1, 2]
@[simp] theorem f70r4_run : run tbl fin K f70r4 e H = regK tbl fin K [] f70o4 [14, 1, 2] e H := run_regK _ _ _ _ _ _ _ _ _ rfl
@[simp] def f70o5 : List IOper := [
  ⟨(some 16), .fld 3 (.t 2), none, none⟩,
  ⟨(some 17), .load false 1 (.t 16), none, none⟩,
  ⟨(some 18), .mv (.t 1), none, none⟩,
  ⟨(some 19), .call (.c (.fn 77 [])) [(.t 17), (.t 18)], none, none⟩,
  ⟨(some 20), .fld 2 (.t 2), none, none⟩,
  ⟨(some 21), .load false 1 (.t 20), none, none⟩,
  ⟨(some 22), .beq true (.t 19) (.t 21), none, none⟩,
  ⟨(some 4), .mv (.t 22), none, none⟩]
def f70r5 : IC := .reg true [] f70o5 [4]
@[simp] theorem f70r5_run : run tbl fin K f70r5 e H = regK tbl fin K [] f70o5 [4] e H := run_regK _ _ _ _ _ _ _ _ _ rfl
@[simp] def f70o6 : List IOper := [
  ⟨(some 4), .mv (.c (.bool true)), none, none⟩]
def f70r6 : IC := .reg false [] f70o6 [4]
@[simp] theorem f70r6_run : run tbl fin K f70r6 e H = regK tbl fin K [] f70o6 [4] e H := run_regK _ _ _ _ _ _ _ _ _ rfl
def f70body : IC := (.seq f70r0 (.seq (.seq f70r1 (.block 0 (.seq f70r2 (.cond (.t 7) (.seq f70r3 .ret) (.seq f70r4 (.cond (.t 14) (.seq f70r5 .ret) .skip)))))) (.seq f70r6 .ret)))
def f70 : IFn := ⟨23, 2, [.tmp 4], f70body⟩
/- 71: internal/stringslite.Index is met by a contract -/
/- 72: (*strings.Builder).copyCheck is met by a contract -/
/- 73: (*strings.Builder).grow is met by a contract -/
/- 74: internal/strconv.FormatInt is met by a contract -/
end Go.Proofs.YtmlmijmnekdkpaaDoor
