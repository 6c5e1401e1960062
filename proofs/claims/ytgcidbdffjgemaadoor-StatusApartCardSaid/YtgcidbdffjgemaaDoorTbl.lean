/- The interpreter's form of this seat's functions (printed by a program out of the translation), and that the translation gives just this. No condition. -/
import Derived.Test.YtgcidbdffjgemaaDoorPi24
import Derived.Test.YtgcidbdffjgemaaDoorProg
import Derived.KernelRfl
namespace Go.Proofs.YtgcidbdffjgemaaDoor
open Go.PI
def gl2 : AV := (.agg [(.int .u8 0), (.int .u8 1), (.int .u8 28), (.int .u8 2), (.int .u8 29), (.int .u8 14), (.int .u8 24), (.int .u8 3), (.int .u8 30), (.int .u8 22), (.int .u8 20), (.int .u8 15), (.int .u8 25), (.int .u8 17), (.int .u8 4), (.int .u8 8), (.int .u8 31), (.int .u8 27), (.int .u8 13), (.int .u8 23), (.int .u8 21), (.int .u8 19), (.int .u8 16), (.int .u8 7), (.int .u8 26), (.int .u8 12), (.int .u8 18), (.int .u8 6), (.int .u8 11), (.int .u8 5), (.int .u8 10), (.int .u8 9)])
def gl3 : AV := (.agg [(.int .u8 0), (.int .u8 1), (.int .u8 56), (.int .u8 2), (.int .u8 57), (.int .u8 49), (.int .u8 28), (.int .u8 3), (.int .u8 61), (.int .u8 58), (.int .u8 42), (.int .u8 50), (.int .u8 38), (.int .u8 29), (.int .u8 17), (.int .u8 4), (.int .u8 62), (.int .u8 47), (.int .u8 59), (.int .u8 36), (.int .u8 45), (.int .u8 43), (.int .u8 51), (.int .u8 22), (.int .u8 53), (.int .u8 39), (.int .u8 33), (.int .u8 30), (.int .u8 24), (.int .u8 18), (.int .u8 12), (.int .u8 5), (.int .u8 63), (.int .u8 55), (.int .u8 48), (.int .u8 27), (.int .u8 60), (.int .u8 41), (.int .u8 37), (.int .u8 16), (.int .u8 46), (.int .u8 35), (.int .u8 44), (.int .u8 21), (.int .u8 52), (.int .u8 32), (.int .u8 23), (.int .u8 11), (.int .u8 54), (.int .u8 26), (.int .u8 40), (.int .u8 15), (.int .u8 34), (.int .u8 20), (.int .u8 31), (.int .u8 10), (.int .u8 25), (.int .u8 14), (.int .u8 19), (.int .u8 9), (.int .u8 13), (.int .u8 8), (.int .u8 7), (.int .u8 6)])
def gl1 : AV := (.agg [(.int .u64 1), (.int .u64 10), (.int .u64 100), (.int .u64 1000), (.int .u64 10000), (.int .u64 100000), (.int .u64 1000000), (.int .u64 10000000), (.int .u64 100000000), (.int .u64 1000000000), (.int .u64 10000000000), (.int .u64 100000000000), (.int .u64 1000000000000), (.int .u64 10000000000000), (.int .u64 100000000000000), (.int .u64 1000000000000000), (.int .u64 10000000000000000), (.int .u64 100000000000000000), (.int .u64 1000000000000000000), (.int .u64 10000000000000000000)])
def gl0 : AV := (.agg [(.str []), (.str [72, 85, 80]), (.str [73, 78, 84]), (.str [81, 85, 73, 84]), (.str [84, 84, 73, 78]), (.str [84, 84, 79, 85]), (.str []), (.str []), (.str []), (.str [75, 73, 76, 76]), (.str [85, 83, 82, 49]), (.str []), (.str [85, 83, 82, 50]), (.str [80, 73, 80, 69]), (.str [65, 76, 82, 77]), (.str [84, 69, 82, 77]), (.str []), (.str [67, 72, 76, 68]), (.str [67, 79, 78, 84]), (.str [83, 84, 79, 80]), (.str [84, 83, 84, 80])])
def gl : Nat → Option AV
  | 2 => some gl2
  | 3 => some gl3
  | 1 => some gl1
  | 0 => some gl0
  | _ => none
def cfg : Cfg := ⟨gl, fun f => [].contains f⟩
/- 2: gosem.cut.init -/
@[simp] def f2o0 : List IOper := [
  ⟨(some 0), .call (.c (.fn 1 [])) [], none, none⟩]
def f2r0 : IC := .reg false [] f2o0 []
@[simp] theorem f2r0_run (tbl : TB) (fin : Fin) (K : List Fr) (e : Env) (H : List AO) : run tbl fin K f2r0 e H = regK tbl fin K [] f2o0 [] e H := run_regK tbl fin K false [] f2o0 [] e H rfl
def f2body : IC := f2r0
def f2 : IFn := ⟨1, 0, [], f2body⟩
/- 3: jobshell/jobshelllaw22.StatusMakes -/
@[simp] def f3o0 : List IOper := [
  ⟨(some 4), .mv (.c (.bool false)), none, none⟩]
def f3r0 : IC := .reg false [] f3o0 [0, 1]
@[simp] theorem f3r0_run (tbl : TB) (fin : Fin) (K : List Fr) (e : Env) (H : List AO) : run tbl fin K f3r0 e H = regK tbl fin K [] f3o0 [0, 1] e H := run_regK tbl fin K false [] f3o0 [0, 1] e H rfl
@[simp] def f3o1 : List IOper := [
  ⟨(some 5), .mv (.t 0), none, none⟩,
  ⟨(some 6), .call (.c (.fn 8 [])) [(.t 5)], none, none⟩,
  ⟨(some 7), .mv (.t 0), none, none⟩,
  ⟨(some 8), .call (.c (.fn 9 [])) [(.t 7)], none, none⟩,
  ⟨(some 9), .bin .eql (.t 6) (.t 8), none, none⟩,
  ⟨(some 10), .mv (.t 9), none, none⟩,
  ⟨(some 11), .mv (.t 1), (some (10, true)), none⟩,
  ⟨(some 12), .call (.c (.fn 10 [])) [(.t 11)], (some (10, true)), some [12, 10, 1]⟩,
  ⟨(some 13), .mv (.t 1), (some (10, true)), none⟩,
  ⟨(some 14), .call (.c (.fn 11 [])) [(.t 13)], (some (10, true)), none⟩,
  ⟨(some 15), .bin .eql (.t 12) (.t 14), (some (10, true)), none⟩,
  ⟨(some 16), .pick (.t 10) (.t 15) (.c (.bool false)), none, none⟩,
  ⟨(some 17), .mv (.t 16), none, none⟩,
  ⟨(some 18), .mv (.t 1), (some (17, true)), none⟩,
  ⟨(some 19), .call (.c (.fn 12 [])) [(.t 18)], (some (17, true)), none⟩,
  ⟨(some 20), .mv (.t 1), (some (17, true)), some [20, 19, 17]⟩,
  ⟨(some 21), .call (.c (.fn 13 [])) [(.t 20)], (some (17, true)), none⟩,
  ⟨(some 22), .bin .eql (.t 19) (.t 21), (some (17, true)), none⟩,
  ⟨(some 23), .pick (.t 17) (.t 22) (.c (.bool false)), none, none⟩,
  ⟨(some 24), .mv (.t 23), none, none⟩,
  ⟨(some 25), .call (.c (.fn 14 [])) [], (some (24, true)), none⟩,
  ⟨(some 26), .call (.c (.fn 15 [])) [], (some (24, true)), none⟩,
  ⟨(some 27), .bin .eql (.t 25) (.t 26), (some (24, true)), none⟩,
  ⟨(some 28), .pick (.t 24) (.t 27) (.c (.bool false)), none, some [28]⟩,
  ⟨(some 29), .mv (.t 28), none, none⟩,
  ⟨(some 30), .call (.c (.fn 16 [])) [], (some (29, true)), none⟩,
  ⟨(some 31), .pick (.t 29) (.t 30) (.c (.bool false)), none, none⟩,
  ⟨(some 4), .mv (.t 31), none, none⟩]
def f3r1 : IC := .reg false [] f3o1 [4]
@[simp] theorem f3r1_run (tbl : TB) (fin : Fin) (K : List Fr) (e : Env) (H : List AO) : run tbl fin K f3r1 e H = regK tbl fin K [] f3o1 [4] e H := run_regK tbl fin K false [] f3o1 [4] e H rfl
def f3body : IC := (.seq f3r0 (.seq f3r1 .ret))
def f3 : IFn := ⟨32, 2, [.tmp 4], f3body⟩
/- 4: jobshell/jobshelllaw22.StatusTells -/
@[simp] def f4o0 : List IOper := [
  ⟨(some 2), .mv (.c (.bool false)), none, none⟩]
def f4r0 : IC := .reg false [] f4o0 [0]
@[simp] theorem f4r0_run (tbl : TB) (fin : Fin) (K : List Fr) (e : Env) (H : List AO) : run tbl fin K f4r0 e H = regK tbl fin K [] f4o0 [0] e H := run_regK tbl fin K false [] f4o0 [0] e H rfl
@[simp] def f4o1 : List IOper := [
  ⟨(some 8), .mv (.t 0), none, none⟩,
  ⟨(some 9), .call (.c (.fn 17 [])) [(.t 8)], none, none⟩,
  ⟨(some 7), .mv (.t 9), none, none⟩,
  ⟨(some 10), .ext (.t 7) 0, none, none⟩,
  ⟨(some 11), .ext (.t 7) 1, none, none⟩,
  ⟨(some 3), .mv (.t 10), none, none⟩,
  ⟨(some 4), .mv (.t 11), none, none⟩]
def f4r1 : IC := .reg false [] f4o1 [3, 4, 0]
@[simp] theorem f4r1_run (tbl : TB) (fin : Fin) (K : List Fr) (e : Env) (H : List AO) : run tbl fin K f4r1 e H = regK tbl fin K [] f4o1 [3, 4, 0] e H := run_regK tbl fin K false [] f4o1 [3, 4, 0] e H rfl
@[simp] def f4o2 : List IOper := [
  ⟨(some 13), .mv (.t 0), none, none⟩,
  ⟨(some 14), .call (.c (.fn 18 [])) [(.t 13)], none, none⟩,
  ⟨(some 12), .mv (.t 14), none, none⟩,
  ⟨(some 15), .ext (.t 12) 0, none, none⟩,
  ⟨(some 16), .ext (.t 12) 1, none, none⟩,
  ⟨(some 5), .mv (.t 15), none, none⟩,
  ⟨(some 6), .mv (.t 16), none, none⟩]
def f4r2 : IC := .reg false [] f4o2 [3, 5, 4, 6, 0]
@[simp] theorem f4r2_run (tbl : TB) (fin : Fin) (K : List Fr) (e : Env) (H : List AO) : run tbl fin K f4r2 e H = regK tbl fin K [] f4o2 [3, 5, 4, 6, 0] e H := run_regK tbl fin K false [] f4o2 [3, 5, 4, 6, 0] e H rfl
@[simp] def f4o3 : List IOper := [
  ⟨(some 17), .mv (.t 3), none, none⟩,
  ⟨(some 18), .mv (.t 5), none, none⟩,
  ⟨(some 19), .bin .eql (.t 17) (.t 18), none, none⟩,
  ⟨(some 20), .mv (.t 19), none, none⟩,
  ⟨(some 21), .mv (.t 4), (some (20, true)), none⟩,
  ⟨(some 22), .mv (.t 6), (some (20, true)), none⟩,
  ⟨(some 23), .bin .eql (.t 21) (.t 22), (some (20, true)), none⟩,
  ⟨(some 24), .pick (.t 20) (.t 23) (.c (.bool false)), none, some [24, 0]⟩,
  ⟨(some 25), .mv (.t 24), none, none⟩,
  ⟨(some 26), .mv (.t 0), (some (25, true)), none⟩,
  ⟨(some 27), .call (.c (.fn 19 [])) [(.t 26)], (some (25, true)), none⟩,
  ⟨(some 28), .mv (.t 0), (some (25, true)), none⟩,
  ⟨(some 29), .call (.c (.fn 20 [])) [(.t 28)], (some (25, true)), none⟩,
  ⟨(some 30), .bin .eql (.t 27) (.t 29), (some (25, true)), none⟩,
  ⟨(some 31), .pick (.t 25) (.t 30) (.c (.bool false)), none, none⟩,
  ⟨(some 32), .mv (.t 31), none, some [0, 32]⟩,
  ⟨(some 33), .mv (.t 0), (some (32, true)), none⟩,
  ⟨(some 34), .call (.c (.fn 21 [])) [(.t 33)], (some (32, true)), none⟩,
  ⟨(some 35), .mv (.t 0), (some (32, true)), none⟩,
  ⟨(some 36), .call (.c (.fn 22 [])) [(.t 35)], (some (32, true)), none⟩,
  ⟨(some 37), .bin .eql (.t 34) (.t 36), (some (32, true)), none⟩,
  ⟨(some 38), .pick (.t 32) (.t 37) (.c (.bool false)), none, none⟩,
  ⟨(some 39), .mv (.t 38), none, none⟩,
  ⟨(some 40), .call (.c (.fn 16 [])) [], (some (39, true)), some [40, 39]⟩,
  ⟨(some 41), .pick (.t 39) (.t 40) (.c (.bool false)), none, none⟩,
  ⟨(some 2), .mv (.t 41), none, none⟩]
def f4r3 : IC := .reg false [] f4o3 [2]
@[simp] theorem f4r3_run (tbl : TB) (fin : Fin) (K : List Fr) (e : Env) (H : List AO) : run tbl fin K f4r3 e H = regK tbl fin K [] f4o3 [2] e H := run_regK tbl fin K false [] f4o3 [2] e H rfl
def f4body : IC := (.seq f4r0 (.seq f4r1 (.seq f4r2 (.seq f4r3 .ret))))
def f4 : IFn := ⟨42, 1, [.tmp 2], f4body⟩
/- 5: jobshell/jobshelllaw22.StatusBack -/
@[simp] def f5o0 : List IOper := [
  ⟨(some 4), .mv (.c (.bool false)), none, none⟩]
def f5r0 : IC := .reg false [] f5o0 [0, 1]
@[simp] theorem f5r0_run (tbl : TB) (fin : Fin) (K : List Fr) (e : Env) (H : List AO) : run tbl fin K f5r0 e H = regK tbl fin K [] f5o0 [0, 1] e H := run_regK tbl fin K false [] f5o0 [0, 1] e H rfl
@[simp] def f5o1 : List IOper := [
  ⟨(some 14), .mv (.t 0), none, none⟩,
  ⟨(some 15), .call (.c (.fn 8 [])) [(.t 14)], none, none⟩,
  ⟨(some 16), .call (.c (.fn 17 [])) [(.t 15)], none, none⟩,
  ⟨(some 13), .mv (.t 16), none, none⟩,
  ⟨(some 17), .ext (.t 13) 0, none, none⟩,
  ⟨(some 18), .ext (.t 13) 1, none, none⟩,
  ⟨(some 5), .mv (.t 17), none, none⟩,
  ⟨(some 6), .mv (.t 18), none, none⟩]
def f5r1 : IC := .reg false [] f5o1 [5, 0, 6, 1]
@[simp] theorem f5r1_run (tbl : TB) (fin : Fin) (K : List Fr) (e : Env) (H : List AO) : run tbl fin K f5r1 e H = regK tbl fin K [] f5o1 [5, 0, 6, 1] e H := run_regK tbl fin K false [] f5o1 [5, 0, 6, 1] e H rfl
@[simp] def f5o2 : List IOper := [
  ⟨(some 19), .mv (.t 5), none, none⟩,
  ⟨(some 20), .bin .neq (.t 19) (.c (.int .i64 0)), none, none⟩,
  ⟨(some 21), .mv (.t 20), none, none⟩,
  ⟨(some 22), .mv (.t 6), (some (21, false)), none⟩,
  ⟨(some 23), .bin .lss (.t 22) (.c (.int .i64 0)), (some (21, false)), none⟩,
  ⟨(some 24), .pick (.t 21) (.c (.bool true)) (.t 23), none, none⟩,
  ⟨(some 25), .mv (.t 24), none, none⟩,
  ⟨(some 26), .mv (.t 6), (some (25, false)), some [26, 25, 0, 6, 1]⟩,
  ⟨(some 27), .bin .gtr (.t 26) (.c (.int .i64 255)), (some (25, false)), none⟩,
  ⟨(some 28), .pick (.t 25) (.c (.bool true)) (.t 27), none, none⟩,
  ⟨(some 29), .mv (.t 28), none, none⟩,
  ⟨(some 30), .mv (.t 0), (some (29, false)), none⟩,
  ⟨(some 31), .call (.c (.fn 8 [])) [(.t 30)], (some (29, false)), none⟩,
  ⟨(some 32), .call (.c (.fn 19 [])) [(.t 31)], (some (29, false)), none⟩,
  ⟨(some 33), .mv (.t 6), (some (29, false)), none⟩,
  ⟨(some 34), .bin .neq (.t 32) (.t 33), (some (29, false)), some [34, 29, 0, 6, 1]⟩,
  ⟨(some 35), .pick (.t 29) (.c (.bool true)) (.t 34), none, none⟩,
  ⟨(some 36), .mv (.t 35), none, none⟩,
  ⟨(some 37), .mv (.t 0), (some (36, false)), none⟩,
  ⟨(some 38), .conv .u8 (.t 37), (some (36, false)), none⟩,
  ⟨(some 39), .conv .i64 (.t 38), (some (36, false)), none⟩,
  ⟨(some 40), .mv (.t 6), (some (36, false)), none⟩,
  ⟨(some 41), .bin .neq (.t 39) (.t 40), (some (36, false)), none⟩,
  ⟨(some 42), .pick (.t 36) (.c (.bool true)) (.t 41), none, none⟩]
def f5r2 : IC := .reg false [] f5o2 [42, 1]
@[simp] theorem f5r2_run (tbl : TB) (fin : Fin) (K : List Fr) (e : Env) (H : List AO) : run tbl fin K f5r2 e H = regK tbl fin K [] f5o2 [42, 1] e H := run_regK tbl fin K false [] f5o2 [42, 1] e H rfl
@[simp] def f5o3 : List IOper := [
  ⟨(some 4), .mv (.c (.bool false)), none, none⟩]
def f5r3 : IC := .reg false [] f5o3 [4]
@[simp] theorem f5r3_run (tbl : TB) (fin : Fin) (K : List Fr) (e : Env) (H : List AO) : run tbl fin K f5r3 e H = regK tbl fin K [] f5o3 [4] e H := run_regK tbl fin K false [] f5o3 [4] e H rfl
@[simp] def f5o4 : List IOper := [
  ⟨(some 43), .mv (.t 1), none, none⟩,
  ⟨(some 44), .bin .lss (.t 43) (.c (.int .i64 1)), none, none⟩,
  ⟨(some 45), .mv (.t 44), none, none⟩,
  ⟨(some 46), .mv (.t 1), (some (45, false)), none⟩,
  ⟨(some 47), .bin .gtr (.t 46) (.c (.int .i64 20)), (some (45, false)), none⟩,
  ⟨(some 48), .pick (.t 45) (.c (.bool true)) (.t 47), none, none⟩]
def f5r4 : IC := .reg false [] f5o4 [48, 1]
@[simp] theorem f5r4_run (tbl : TB) (fin : Fin) (K : List Fr) (e : Env) (H : List AO) : run tbl fin K f5r4 e H = regK tbl fin K [] f5o4 [48, 1] e H := run_regK tbl fin K false [] f5o4 [48, 1] e H rfl
@[simp] def f5o5 : List IOper := [
  ⟨(some 49), .mv (.t 1), none, none⟩,
  ⟨(some 50), .call (.c (.fn 10 [])) [(.t 49)], none, none⟩,
  ⟨(some 51), .bin .eql (.t 50) (.c (.int .i64 (-1))), none, none⟩,
  ⟨(some 52), .mv (.t 51), none, none⟩,
  ⟨(some 53), .mv (.t 1), (some (52, true)), none⟩,
  ⟨(some 54), .call (.c (.fn 12 [])) [(.t 53)], (some (52, true)), none⟩,
  ⟨(some 55), .bin .eql (.t 54) (.c (.int .i64 (-1))), (some (52, true)), none⟩,
  ⟨(some 56), .pick (.t 52) (.t 55) (.c (.bool false)), none, some [56]⟩,
  ⟨(some 57), .mv (.t 56), none, none⟩,
  ⟨(some 58), .call (.c (.fn 16 [])) [], (some (57, true)), none⟩,
  ⟨(some 59), .pick (.t 57) (.t 58) (.c (.bool false)), none, none⟩,
  ⟨(some 4), .mv (.t 59), none, none⟩]
def f5r5 : IC := .reg false [] f5o5 [4]
@[simp] theorem f5r5_run (tbl : TB) (fin : Fin) (K : List Fr) (e : Env) (H : List AO) : run tbl fin K f5r5 e H = regK tbl fin K [] f5o5 [4] e H := run_regK tbl fin K false [] f5o5 [4] e H rfl
@[simp] def f5o6 : List IOper := [
  ⟨(some 61), .mv (.t 1), none, none⟩,
  ⟨(some 62), .call (.c (.fn 10 [])) [(.t 61)], none, none⟩,
  ⟨(some 63), .call (.c (.fn 17 [])) [(.t 62)], none, none⟩,
  ⟨(some 60), .mv (.t 63), none, none⟩,
  ⟨(some 64), .ext (.t 60) 0, none, none⟩,
  ⟨(some 65), .ext (.t 60) 1, none, none⟩,
  ⟨(some 7), .mv (.t 64), none, none⟩,
  ⟨(some 8), .mv (.t 65), none, none⟩]
def f5r6 : IC := .reg false [] f5o6 [7, 8, 1]
@[simp] theorem f5r6_run (tbl : TB) (fin : Fin) (K : List Fr) (e : Env) (H : List AO) : run tbl fin K f5r6 e H = regK tbl fin K [] f5o6 [7, 8, 1] e H := run_regK tbl fin K false [] f5o6 [7, 8, 1] e H rfl
@[simp] def f5o7 : List IOper := [
  ⟨(some 67), .mv (.t 1), none, none⟩,
  ⟨(some 68), .call (.c (.fn 12 [])) [(.t 67)], none, none⟩,
  ⟨(some 69), .call (.c (.fn 17 [])) [(.t 68)], none, none⟩,
  ⟨(some 66), .mv (.t 69), none, none⟩,
  ⟨(some 70), .ext (.t 66) 0, none, none⟩,
  ⟨(some 71), .ext (.t 66) 1, none, none⟩,
  ⟨(some 9), .mv (.t 70), none, none⟩,
  ⟨(some 10), .mv (.t 71), none, none⟩]
def f5r7 : IC := .reg false [] f5o7 [7, 8, 9, 10, 1]
@[simp] theorem f5r7_run (tbl : TB) (fin : Fin) (K : List Fr) (e : Env) (H : List AO) : run tbl fin K f5r7 e H = regK tbl fin K [] f5o7 [7, 8, 9, 10, 1] e H := run_regK tbl fin K false [] f5o7 [7, 8, 9, 10, 1] e H rfl
@[simp] def f5o8 : List IOper := [
  ⟨(some 73), .call (.c (.fn 14 [])) [], none, none⟩,
  ⟨(some 74), .call (.c (.fn 17 [])) [(.t 73)], none, none⟩,
  ⟨(some 72), .mv (.t 74), none, none⟩,
  ⟨(some 75), .ext (.t 72) 0, none, none⟩,
  ⟨(some 76), .ext (.t 72) 1, none, none⟩,
  ⟨(some 11), .mv (.t 75), none, none⟩,
  ⟨(some 12), .mv (.t 76), none, none⟩]
def f5r8 : IC := .reg false [] f5o8 [7, 8, 9, 10, 11, 12, 1]
@[simp] theorem f5r8_run (tbl : TB) (fin : Fin) (K : List Fr) (e : Env) (H : List AO) : run tbl fin K f5r8 e H = regK tbl fin K [] f5o8 [7, 8, 9, 10, 11, 12, 1] e H := run_regK tbl fin K false [] f5o8 [7, 8, 9, 10, 11, 12, 1] e H rfl
@[simp] def f5o9 : List IOper := [
  ⟨(some 77), .mv (.t 7), none, none⟩,
  ⟨(some 78), .bin .eql (.t 77) (.c (.int .i64 1)), none, none⟩,
  ⟨(some 79), .mv (.t 78), none, none⟩,
  ⟨(some 80), .mv (.t 8), (some (79, true)), none⟩,
  ⟨(some 81), .mv (.t 1), (some (79, true)), none⟩,
  ⟨(some 82), .bin .eql (.t 80) (.t 81), (some (79, true)), none⟩,
  ⟨(some 83), .pick (.t 79) (.t 82) (.c (.bool false)), none, none⟩,
  ⟨(some 84), .mv (.t 83), none, some [9, 84, 10, 11, 12, 1]⟩,
  ⟨(some 85), .mv (.t 9), (some (84, true)), none⟩,
  ⟨(some 86), .bin .eql (.t 85) (.c (.int .i64 2)), (some (84, true)), none⟩,
  ⟨(some 87), .pick (.t 84) (.t 86) (.c (.bool false)), none, none⟩,
  ⟨(some 88), .mv (.t 87), none, none⟩,
  ⟨(some 89), .mv (.t 10), (some (88, true)), none⟩,
  ⟨(some 90), .mv (.t 1), (some (88, true)), none⟩,
  ⟨(some 91), .bin .eql (.t 89) (.t 90), (some (88, true)), none⟩,
  ⟨(some 92), .pick (.t 88) (.t 91) (.c (.bool false)), none, some [92, 11, 12, 1]⟩,
  ⟨(some 93), .mv (.t 92), none, none⟩,
  ⟨(some 94), .mv (.t 11), (some (93, true)), none⟩,
  ⟨(some 95), .bin .eql (.t 94) (.c (.int .i64 3)), (some (93, true)), none⟩,
  ⟨(some 96), .pick (.t 93) (.t 95) (.c (.bool false)), none, none⟩,
  ⟨(some 97), .mv (.t 96), none, none⟩,
  ⟨(some 98), .mv (.t 12), (some (97, true)), none⟩,
  ⟨(some 99), .bin .eql (.t 98) (.c (.int .i64 0)), (some (97, true)), none⟩,
  ⟨(some 100), .pick (.t 97) (.t 99) (.c (.bool false)), none, some [100, 1]⟩,
  ⟨(some 101), .mv (.t 100), none, none⟩,
  ⟨(some 102), .mv (.t 1), (some (101, true)), none⟩,
  ⟨(some 103), .call (.c (.fn 10 [])) [(.t 102)], (some (101, true)), none⟩,
  ⟨(some 104), .call (.c (.fn 19 [])) [(.t 103)], (some (101, true)), none⟩,
  ⟨(some 105), .mv (.t 1), (some (101, true)), none⟩,
  ⟨(some 106), .bin .add (.c (.int .i64 128)) (.t 105), (some (101, true)), none⟩,
  ⟨(some 107), .bin .eql (.t 104) (.t 106), (some (101, true)), none⟩,
  ⟨(some 108), .pick (.t 101) (.t 107) (.c (.bool false)), none, some [108, 1]⟩,
  ⟨(some 109), .mv (.t 108), none, none⟩,
  ⟨(some 110), .mv (.t 1), (some (109, true)), none⟩,
  ⟨(some 111), .call (.c (.fn 12 [])) [(.t 110)], (some (109, true)), none⟩,
  ⟨(some 112), .call (.c (.fn 19 [])) [(.t 111)], (some (109, true)), none⟩,
  ⟨(some 113), .mv (.t 1), (some (109, true)), none⟩,
  ⟨(some 114), .bin .add (.c (.int .i64 128)) (.t 113), (some (109, true)), none⟩,
  ⟨(some 115), .bin .eql (.t 112) (.t 114), (some (109, true)), none⟩,
  ⟨(some 116), .pick (.t 109) (.t 115) (.c (.bool false)), none, some [116]⟩,
  ⟨(some 117), .mv (.t 116), none, none⟩,
  ⟨(some 118), .call (.c (.fn 16 [])) [], (some (117, true)), none⟩,
  ⟨(some 119), .pick (.t 117) (.t 118) (.c (.bool false)), none, none⟩,
  ⟨(some 4), .mv (.t 119), none, none⟩]
def f5r9 : IC := .reg false [] f5o9 [4]
@[simp] theorem f5r9_run (tbl : TB) (fin : Fin) (K : List Fr) (e : Env) (H : List AO) : run tbl fin K f5r9 e H = regK tbl fin K [] f5o9 [4] e H := run_regK tbl fin K false [] f5o9 [4] e H rfl
def f5body : IC := (.seq f5r0 (.seq f5r1 (.seq (.seq f5r2 (.cond (.t 42) (.seq f5r3 .ret) .skip)) (.seq (.seq f5r4 (.cond (.t 48) (.seq f5r5 .ret) .skip)) (.seq f5r6 (.seq f5r7 (.seq f5r8 (.seq f5r9 .ret))))))))
def f5 : IFn := ⟨120, 2, [.tmp 4], f5body⟩
/- 6: jobshell/jobshelllaw22.StatusApart -/
@[simp] def f6o0 : List IOper := [
  ⟨(some 4), .mv (.c (.bool false)), none, none⟩]
def f6r0 : IC := .reg false [] f6o0 [1, 0]
@[simp] theorem f6r0_run (tbl : TB) (fin : Fin) (K : List Fr) (e : Env) (H : List AO) : run tbl fin K f6r0 e H = regK tbl fin K [] f6o0 [1, 0] e H := run_regK tbl fin K false [] f6o0 [1, 0] e H rfl
@[simp] def f6o1 : List IOper := [
  ⟨(some 10), .mv (.t 0), none, none⟩,
  ⟨(some 11), .call (.c (.fn 17 [])) [(.t 10)], none, none⟩,
  ⟨(some 9), .mv (.t 11), none, none⟩,
  ⟨(some 12), .ext (.t 9) 0, none, none⟩,
  ⟨(some 13), .ext (.t 9) 1, none, none⟩,
  ⟨(some 5), .mv (.t 12), none, none⟩,
  ⟨(some 6), .mv (.t 13), none, none⟩]
def f6r1 : IC := .reg false [] f6o1 [1, 0, 6, 5]
@[simp] theorem f6r1_run (tbl : TB) (fin : Fin) (K : List Fr) (e : Env) (H : List AO) : run tbl fin K f6r1 e H = regK tbl fin K [] f6o1 [1, 0, 6, 5] e H := run_regK tbl fin K false [] f6o1 [1, 0, 6, 5] e H rfl
@[simp] def f6o2 : List IOper := [
  ⟨(some 15), .mv (.t 1), none, none⟩,
  ⟨(some 16), .call (.c (.fn 17 [])) [(.t 15)], none, none⟩,
  ⟨(some 14), .mv (.t 16), none, none⟩,
  ⟨(some 17), .ext (.t 14) 0, none, none⟩,
  ⟨(some 18), .ext (.t 14) 1, none, none⟩,
  ⟨(some 7), .mv (.t 17), none, none⟩,
  ⟨(some 8), .mv (.t 18), none, none⟩]
def f6r2 : IC := .reg false [] f6o2 [1, 0, 8, 6, 7, 5]
@[simp] theorem f6r2_run (tbl : TB) (fin : Fin) (K : List Fr) (e : Env) (H : List AO) : run tbl fin K f6r2 e H = regK tbl fin K [] f6o2 [1, 0, 8, 6, 7, 5] e H := run_regK tbl fin K false [] f6o2 [1, 0, 8, 6, 7, 5] e H rfl
@[simp] def f6o3 : List IOper := [
  ⟨(some 19), .mv (.t 5), none, none⟩,
  ⟨(some 20), .bin .lss (.t 19) (.c (.int .i64 (-1))), none, none⟩,
  ⟨(some 21), .mv (.t 20), none, none⟩,
  ⟨(some 22), .mv (.t 5), (some (21, false)), none⟩,
  ⟨(some 23), .bin .gtr (.t 22) (.c (.int .i64 3)), (some (21, false)), none⟩,
  ⟨(some 24), .pick (.t 21) (.c (.bool true)) (.t 23), none, none⟩,
  ⟨(some 25), .mv (.t 24), none, none⟩,
  ⟨(some 26), .mv (.t 0), (some (25, false)), some [26, 25, 1, 0, 8, 6, 7, 5]⟩,
  ⟨(some 27), .call (.c (.fn 21 [])) [(.t 26)], (some (25, false)), none⟩,
  ⟨(some 28), .bin .eql (.t 27) (.c (.str [])), (some (25, false)), none⟩,
  ⟨(some 29), .mv (.t 5), (some (25, false)), none⟩,
  ⟨(some 30), .bin .eql (.t 29) (.c (.int .i64 (-1))), (some (25, false)), none⟩,
  ⟨(some 31), .beq true (.t 28) (.t 30), (some (25, false)), none⟩,
  ⟨(some 32), .pick (.t 25) (.c (.bool true)) (.t 31), none, none⟩,
  ⟨(some 33), .mv (.t 32), none, none⟩,
  ⟨(some 34), .mv (.t 5), (some (33, false)), some [34, 33, 1, 0, 8, 6, 7, 5]⟩,
  ⟨(some 35), .bin .eql (.t 34) (.c (.int .i64 (-1))), (some (33, false)), none⟩,
  ⟨(some 36), .mv (.t 35), (some (33, false)), none⟩,
  ⟨(some 37), .mv (.t 6), (some (36, true)), none⟩,
  ⟨(some 38), .bin .neq (.t 37) (.c (.int .i64 0)), (some (36, true)), none⟩,
  ⟨(some 39), .pick (.t 36) (.t 38) (.c (.bool false)), (some (33, false)), none⟩,
  ⟨(some 40), .pick (.t 33) (.c (.bool true)) (.t 39), none, none⟩]
def f6r3 : IC := .reg false [] f6o3 [40, 1, 0, 8, 6, 7, 5]
@[simp] theorem f6r3_run (tbl : TB) (fin : Fin) (K : List Fr) (e : Env) (H : List AO) : run tbl fin K f6r3 e H = regK tbl fin K [] f6o3 [40, 1, 0, 8, 6, 7, 5] e H := run_regK tbl fin K false [] f6o3 [40, 1, 0, 8, 6, 7, 5] e H rfl
@[simp] def f6o4 : List IOper := [
  ⟨(some 4), .mv (.c (.bool false)), none, none⟩]
def f6r4 : IC := .reg false [] f6o4 [4]
@[simp] theorem f6r4_run (tbl : TB) (fin : Fin) (K : List Fr) (e : Env) (H : List AO) : run tbl fin K f6r4 e H = regK tbl fin K [] f6o4 [4] e H := run_regK tbl fin K false [] f6o4 [4] e H rfl
@[simp] def f6o5 : List IOper := [
  ⟨(some 41), .mv (.t 5), none, none⟩,
  ⟨(some 42), .bin .eql (.t 41) (.c (.int .i64 (-1))), none, none⟩,
  ⟨(some 43), .mv (.t 42), none, none⟩,
  ⟨(some 44), .mv (.t 5), (some (43, false)), none⟩,
  ⟨(some 45), .mv (.t 7), (some (43, false)), none⟩,
  ⟨(some 46), .bin .neq (.t 44) (.t 45), (some (43, false)), none⟩,
  ⟨(some 47), .pick (.t 43) (.c (.bool true)) (.t 46), none, none⟩,
  ⟨(some 48), .mv (.t 47), none, some [6, 8, 48, 0, 1]⟩,
  ⟨(some 49), .mv (.t 6), (some (48, false)), none⟩,
  ⟨(some 50), .mv (.t 8), (some (48, false)), none⟩,
  ⟨(some 51), .bin .neq (.t 49) (.t 50), (some (48, false)), none⟩,
  ⟨(some 52), .pick (.t 48) (.c (.bool true)) (.t 51), none, none⟩,
  ⟨(some 53), .mv (.t 52), none, none⟩,
  ⟨(some 54), .mv (.t 0), (some (53, false)), none⟩,
  ⟨(some 55), .mv (.t 1), (some (53, false)), none⟩,
  ⟨(some 56), .bin .eql (.t 54) (.t 55), (some (53, false)), some [56, 53]⟩,
  ⟨(some 57), .pick (.t 53) (.c (.bool true)) (.t 56), none, none⟩,
  ⟨(some 58), .mv (.t 57), none, none⟩,
  ⟨(some 59), .call (.c (.fn 16 [])) [], (some (58, true)), none⟩,
  ⟨(some 60), .pick (.t 58) (.t 59) (.c (.bool false)), none, none⟩,
  ⟨(some 4), .mv (.t 60), none, none⟩]
def f6r5 : IC := .reg false [] f6o5 [4]
@[simp] theorem f6r5_run (tbl : TB) (fin : Fin) (K : List Fr) (e : Env) (H : List AO) : run tbl fin K f6r5 e H = regK tbl fin K [] f6o5 [4] e H := run_regK tbl fin K false [] f6o5 [4] e H rfl
def f6body : IC := (.seq f6r0 (.seq f6r1 (.seq f6r2 (.seq (.seq f6r3 (.cond (.t 40) (.seq f6r4 .ret) .skip)) (.seq f6r5 .ret)))))
def f6 : IFn := ⟨61, 2, [.tmp 4], f6body⟩
/- 7: jobshell/jobshelllaw22.StatusEnds -/
@[simp] def f7o0 : List IOper := [
  ⟨(some 6), .mv (.c (.bool false)), none, none⟩]
def f7r0 : IC := .reg false [] f7o0 [0, 1, 2]
@[simp] theorem f7r0_run (tbl : TB) (fin : Fin) (K : List Fr) (e : Env) (H : List AO) : run tbl fin K f7r0 e H = regK tbl fin K [] f7o0 [0, 1, 2] e H := run_regK tbl fin K false [] f7o0 [0, 1, 2] e H rfl
@[simp] def f7o1 : List IOper := [
  ⟨(some 7), .mv (.t 0), none, none⟩,
  ⟨(some 8), .mv (.t 1), none, none⟩,
  ⟨(some 9), .mv (.t 2), none, none⟩,
  ⟨(some 10), .call (.c (.fn 23 [])) [(.t 7), (.t 8), (.t 9)], none, none⟩,
  ⟨(some 11), .mv (.t 0), none, none⟩,
  ⟨(some 12), .mv (.t 1), none, none⟩,
  ⟨(some 13), .mv (.t 2), none, none⟩,
  ⟨(some 14), .call (.c (.fn 24 [])) [(.t 11), (.t 12), (.t 13)], none, some [14, 10]⟩,
  ⟨(some 15), .beq false (.t 10) (.t 14), none, none⟩,
  ⟨(some 16), .mv (.t 15), none, none⟩,
  ⟨(some 17), .call (.c (.fn 16 [])) [], (some (16, true)), none⟩,
  ⟨(some 18), .pick (.t 16) (.t 17) (.c (.bool false)), none, none⟩,
  ⟨(some 6), .mv (.t 18), none, none⟩]
def f7r1 : IC := .reg false [] f7o1 [6]
@[simp] theorem f7r1_run (tbl : TB) (fin : Fin) (K : List Fr) (e : Env) (H : List AO) : run tbl fin K f7r1 e H = regK tbl fin K [] f7o1 [6] e H := run_regK tbl fin K false [] f7o1 [6] e H rfl
def f7body : IC := (.seq f7r0 (.seq f7r1 .ret))
def f7 : IFn := ⟨19, 3, [.tmp 6], f7body⟩
/- 8: jobshell/status.Exited -/
@[simp] def f8o0 : List IOper := [
  ⟨(some 2), .mv (.c (.int .i64 0)), none, none⟩]
def f8r0 : IC := .reg false [] f8o0 [0]
@[simp] theorem f8r0_run (tbl : TB) (fin : Fin) (K : List Fr) (e : Env) (H : List AO) : run tbl fin K f8r0 e H = regK tbl fin K [] f8o0 [0] e H := run_regK tbl fin K false [] f8o0 [0] e H rfl
@[simp] def f8o1 : List IOper := [
  ⟨(some 3), .mv (.t 0), none, none⟩,
  ⟨(some 4), .bin .rem (.t 3) (.c (.int .i64 256)), none, none⟩,
  ⟨(some 5), .bin .add (.t 4) (.c (.int .i64 256)), none, none⟩,
  ⟨(some 6), .bin .rem (.t 5) (.c (.int .i64 256)), none, none⟩,
  ⟨(some 7), .bin .add (.c (.int .i64 0)) (.t 6), none, none⟩,
  ⟨(some 2), .mv (.t 7), none, none⟩]
def f8r1 : IC := .reg false [] f8o1 [2]
@[simp] theorem f8r1_run (tbl : TB) (fin : Fin) (K : List Fr) (e : Env) (H : List AO) : run tbl fin K f8r1 e H = regK tbl fin K [] f8o1 [2] e H := run_regK tbl fin K false [] f8o1 [2] e H rfl
def f8body : IC := (.seq f8r0 (.seq f8r1 .ret))
def f8 : IFn := ⟨8, 1, [.tmp 2], f8body⟩
/- 9: jobshell/jobshellref22.Exited -/
@[simp] def f9o0 : List IOper := [
  ⟨(some 2), .mv (.c (.int .i64 0)), none, none⟩]
def f9r0 : IC := .reg false [] f9o0 [0]
@[simp] theorem f9r0_run (tbl : TB) (fin : Fin) (K : List Fr) (e : Env) (H : List AO) : run tbl fin K f9r0 e H = regK tbl fin K [] f9o0 [0] e H := run_regK tbl fin K false [] f9o0 [0] e H rfl
@[simp] def f9o1 : List IOper := [
  ⟨(some 4), .mv (.t 0), none, none⟩,
  ⟨(some 5), .bin .rem (.t 4) (.c (.int .i64 256)), none, none⟩,
  ⟨(some 3), .mv (.t 5), none, none⟩]
def f9r1 : IC := .reg false [] f9o1 [3]
@[simp] theorem f9r1_run (tbl : TB) (fin : Fin) (K : List Fr) (e : Env) (H : List AO) : run tbl fin K f9r1 e H = regK tbl fin K [] f9o1 [3] e H := run_regK tbl fin K false [] f9o1 [3] e H rfl
@[simp] def f9o2 : List IOper := [
  ⟨(some 6), .mv (.t 3), none, none⟩,
  ⟨(some 7), .bin .lss (.t 6) (.c (.int .i64 0)), none, none⟩]
def f9r2 : IC := .reg false [] f9o2 [7, 3]
@[simp] theorem f9r2_run (tbl : TB) (fin : Fin) (K : List Fr) (e : Env) (H : List AO) : run tbl fin K f9r2 e H = regK tbl fin K [] f9o2 [7, 3] e H := run_regK tbl fin K false [] f9o2 [7, 3] e H rfl
@[simp] def f9o3 : List IOper := [
  ⟨(some 8), .mv (.t 3), none, none⟩,
  ⟨(some 9), .bin .add (.t 8) (.c (.int .i64 256)), none, none⟩,
  ⟨(some 3), .mv (.t 9), none, none⟩]
def f9r3 : IC := .reg false [] f9o3 [3]
@[simp] theorem f9r3_run (tbl : TB) (fin : Fin) (K : List Fr) (e : Env) (H : List AO) : run tbl fin K f9r3 e H = regK tbl fin K [] f9o3 [3] e H := run_regK tbl fin K false [] f9o3 [3] e H rfl
@[simp] def f9o4 : List IOper := [
  ⟨(some 10), .mv (.t 3), none, none⟩,
  ⟨(some 2), .mv (.t 10), none, none⟩]
def f9r4 : IC := .reg false [] f9o4 [2]
@[simp] theorem f9r4_run (tbl : TB) (fin : Fin) (K : List Fr) (e : Env) (H : List AO) : run tbl fin K f9r4 e H = regK tbl fin K [] f9o4 [2] e H := run_regK tbl fin K false [] f9o4 [2] e H rfl
def f9body : IC := (.seq f9r0 (.seq f9r1 (.seq (.seq f9r2 (.cond (.t 7) f9r3 .skip)) (.seq f9r4 .ret))))
def f9 : IFn := ⟨11, 1, [.tmp 2], f9body⟩
/- 10: jobshell/status.Killed -/
@[simp] def f10o0 : List IOper := [
  ⟨(some 2), .mv (.c (.int .i64 0)), none, none⟩]
def f10r0 : IC := .reg false [] f10o0 [0]
@[simp] theorem f10r0_run (tbl : TB) (fin : Fin) (K : List Fr) (e : Env) (H : List AO) : run tbl fin K f10r0 e H = regK tbl fin K [] f10o0 [0] e H := run_regK tbl fin K false [] f10o0 [0] e H rfl
@[simp] def f10o1 : List IOper := [
  ⟨(some 3), .mv (.t 0), none, none⟩,
  ⟨(some 4), .call (.c (.fn 25 [])) [(.c (.int .i64 1)), (.t 3)], none, none⟩,
  ⟨(some 2), .mv (.t 4), none, none⟩]
def f10r1 : IC := .reg false [] f10o1 [2]
@[simp] theorem f10r1_run (tbl : TB) (fin : Fin) (K : List Fr) (e : Env) (H : List AO) : run tbl fin K f10r1 e H = regK tbl fin K [] f10o1 [2] e H := run_regK tbl fin K false [] f10o1 [2] e H rfl
def f10body : IC := (.seq f10r0 (.seq f10r1 .ret))
def f10 : IFn := ⟨5, 1, [.tmp 2], f10body⟩
/- 11: jobshell/jobshellref22.Killed -/
@[simp] def f11o0 : List IOper := [
  ⟨(some 2), .mv (.c (.int .i64 0)), none, none⟩]
def f11r0 : IC := .reg false [] f11o0 [0]
@[simp] theorem f11r0_run (tbl : TB) (fin : Fin) (K : List Fr) (e : Env) (H : List AO) : run tbl fin K f11r0 e H = regK tbl fin K [] f11o0 [0] e H := run_regK tbl fin K false [] f11o0 [0] e H rfl
@[simp] def f11o1 : List IOper := [
  ⟨(some 3), .mv (.t 0), none, none⟩,
  ⟨(some 4), .bin .lss (.t 3) (.c (.int .i64 1)), none, none⟩,
  ⟨(some 5), .mv (.t 4), none, none⟩,
  ⟨(some 6), .mv (.t 0), (some (5, false)), none⟩,
  ⟨(some 7), .bin .gtr (.t 6) (.c (.int .i64 20)), (some (5, false)), none⟩,
  ⟨(some 8), .pick (.t 5) (.c (.bool true)) (.t 7), none, none⟩]
def f11r1 : IC := .reg false [] f11o1 [8, 0]
@[simp] theorem f11r1_run (tbl : TB) (fin : Fin) (K : List Fr) (e : Env) (H : List AO) : run tbl fin K f11r1 e H = regK tbl fin K [] f11o1 [8, 0] e H := run_regK tbl fin K false [] f11o1 [8, 0] e H rfl
@[simp] def f11o2 : List IOper := [
  ⟨(some 2), .mv (.c (.int .i64 (-1))), none, none⟩]
def f11r2 : IC := .reg false [] f11o2 [2]
@[simp] theorem f11r2_run (tbl : TB) (fin : Fin) (K : List Fr) (e : Env) (H : List AO) : run tbl fin K f11r2 e H = regK tbl fin K [] f11o2 [2] e H := run_regK tbl fin K false [] f11o2 [2] e H rfl
@[simp] def f11o3 : List IOper := [
  ⟨(some 9), .mv (.t 0), none, none⟩,
  ⟨(some 10), .bin .add (.c (.int .i64 256)) (.t 9), none, none⟩,
  ⟨(some 2), .mv (.t 10), none, none⟩]
def f11r3 : IC := .reg false [] f11o3 [2]
@[simp] theorem f11r3_run (tbl : TB) (fin : Fin) (K : List Fr) (e : Env) (H : List AO) : run tbl fin K f11r3 e H = regK tbl fin K [] f11o3 [2] e H := run_regK tbl fin K false [] f11o3 [2] e H rfl
def f11body : IC := (.seq f11r0 (.seq (.seq f11r1 (.cond (.t 8) (.seq f11r2 .ret) .skip)) (.seq f11r3 .ret)))
def f11 : IFn := ⟨11, 1, [.tmp 2], f11body⟩
/- 12: jobshell/status.Stopped -/
@[simp] def f12o0 : List IOper := [
  ⟨(some 2), .mv (.c (.int .i64 0)), none, none⟩]
def f12r0 : IC := .reg false [] f12o0 [0]
@[simp] theorem f12r0_run (tbl : TB) (fin : Fin) (K : List Fr) (e : Env) (H : List AO) : run tbl fin K f12r0 e H = regK tbl fin K [] f12o0 [0] e H := run_regK tbl fin K false [] f12o0 [0] e H rfl
@[simp] def f12o1 : List IOper := [
  ⟨(some 3), .mv (.t 0), none, none⟩,
  ⟨(some 4), .call (.c (.fn 25 [])) [(.c (.int .i64 2)), (.t 3)], none, none⟩,
  ⟨(some 2), .mv (.t 4), none, none⟩]
def f12r1 : IC := .reg false [] f12o1 [2]
@[simp] theorem f12r1_run (tbl : TB) (fin : Fin) (K : List Fr) (e : Env) (H : List AO) : run tbl fin K f12r1 e H = regK tbl fin K [] f12o1 [2] e H := run_regK tbl fin K false [] f12o1 [2] e H rfl
def f12body : IC := (.seq f12r0 (.seq f12r1 .ret))
def f12 : IFn := ⟨5, 1, [.tmp 2], f12body⟩
/- 13: jobshell/jobshellref22.Stopped -/
@[simp] def f13o0 : List IOper := [
  ⟨(some 2), .mv (.c (.int .i64 0)), none, none⟩]
def f13r0 : IC := .reg false [] f13o0 [0]
@[simp] theorem f13r0_run (tbl : TB) (fin : Fin) (K : List Fr) (e : Env) (H : List AO) : run tbl fin K f13r0 e H = regK tbl fin K [] f13o0 [0] e H := run_regK tbl fin K false [] f13o0 [0] e H rfl
@[simp] def f13o1 : List IOper := [
  ⟨(some 3), .mv (.t 0), none, none⟩,
  ⟨(some 4), .bin .lss (.t 3) (.c (.int .i64 1)), none, none⟩,
  ⟨(some 5), .mv (.t 4), none, none⟩,
  ⟨(some 6), .mv (.t 0), (some (5, false)), none⟩,
  ⟨(some 7), .bin .gtr (.t 6) (.c (.int .i64 20)), (some (5, false)), none⟩,
  ⟨(some 8), .pick (.t 5) (.c (.bool true)) (.t 7), none, none⟩]
def f13r1 : IC := .reg false [] f13o1 [8, 0]
@[simp] theorem f13r1_run (tbl : TB) (fin : Fin) (K : List Fr) (e : Env) (H : List AO) : run tbl fin K f13r1 e H = regK tbl fin K [] f13o1 [8, 0] e H := run_regK tbl fin K false [] f13o1 [8, 0] e H rfl
@[simp] def f13o2 : List IOper := [
  ⟨(some 2), .mv (.c (.int .i64 (-1))), none, none⟩]
def f13r2 : IC := .reg false [] f13o2 [2]
@[simp] theorem f13r2_run (tbl : TB) (fin : Fin) (K : List Fr) (e : Env) (H : List AO) : run tbl fin K f13r2 e H = regK tbl fin K [] f13o2 [2] e H := run_regK tbl fin K false [] f13o2 [2] e H rfl
@[simp] def f13o3 : List IOper := [
  ⟨(some 9), .mv (.t 0), none, none⟩,
  ⟨(some 10), .bin .add (.c (.int .i64 512)) (.t 9), none, none⟩,
  ⟨(some 2), .mv (.t 10), none, none⟩]
def f13r3 : IC := .reg false [] f13o3 [2]
@[simp] theorem f13r3_run (tbl : TB) (fin : Fin) (K : List Fr) (e : Env) (H : List AO) : run tbl fin K f13r3 e H = regK tbl fin K [] f13o3 [2] e H := run_regK tbl fin K false [] f13o3 [2] e H rfl
def f13body : IC := (.seq f13r0 (.seq (.seq f13r1 (.cond (.t 8) (.seq f13r2 .ret) .skip)) (.seq f13r3 .ret)))
def f13 : IFn := ⟨11, 1, [.tmp 2], f13body⟩
/- 14: jobshell/status.Continued -/
@[simp] def f14o0 : List IOper := [
  ⟨(some 0), .mv (.c (.int .i64 0)), none, none⟩]
def f14r0 : IC := .reg false [] f14o0 []
@[simp] theorem f14r0_run (tbl : TB) (fin : Fin) (K : List Fr) (e : Env) (H : List AO) : run tbl fin K f14r0 e H = regK tbl fin K [] f14o0 [] e H := run_regK tbl fin K false [] f14o0 [] e H rfl
@[simp] def f14o1 : List IOper := [
  ⟨(some 0), .mv (.c (.int .i64 768)), none, none⟩]
def f14r1 : IC := .reg false [] f14o1 [0]
@[simp] theorem f14r1_run (tbl : TB) (fin : Fin) (K : List Fr) (e : Env) (H : List AO) : run tbl fin K f14r1 e H = regK tbl fin K [] f14o1 [0] e H := run_regK tbl fin K false [] f14o1 [0] e H rfl
def f14body : IC := (.seq f14r0 (.seq f14r1 .ret))
def f14 : IFn := ⟨1, 0, [.tmp 0], f14body⟩
/- 15: jobshell/jobshellref22.Continued -/
@[simp] def f15o0 : List IOper := [
  ⟨(some 0), .mv (.c (.int .i64 0)), none, none⟩]
def f15r0 : IC := .reg false [] f15o0 []
@[simp] theorem f15r0_run (tbl : TB) (fin : Fin) (K : List Fr) (e : Env) (H : List AO) : run tbl fin K f15r0 e H = regK tbl fin K [] f15o0 [] e H := run_regK tbl fin K false [] f15o0 [] e H rfl
@[simp] def f15o1 : List IOper := [
  ⟨(some 0), .mv (.c (.int .i64 768)), none, none⟩]
def f15r1 : IC := .reg false [] f15o1 [0]
@[simp] theorem f15r1_run (tbl : TB) (fin : Fin) (K : List Fr) (e : Env) (H : List AO) : run tbl fin K f15r1 e H = regK tbl fin K [] f15o1 [0] e H := run_regK tbl fin K false [] f15o1 [0] e H rfl
def f15body : IC := (.seq f15r0 (.seq f15r1 .ret))
def f15 : IFn := ⟨1, 0, [.tmp 0], f15body⟩
/- 16: jobshell/jobshelllaw22.awake -/
@[simp] def f16o0 : List IOper := [
  ⟨(some 0), .mv (.c (.bool false)), none, none⟩]
def f16r0 : IC := .reg false [] f16o0 []
@[simp] theorem f16r0_run (tbl : TB) (fin : Fin) (K : List Fr) (e : Env) (H : List AO) : run tbl fin K f16r0 e H = regK tbl fin K [] f16o0 [] e H := run_regK tbl fin K false [] f16o0 [] e H rfl
@[simp] def f16o1 : List IOper := [
  ⟨(some 4), .call (.c (.fn 17 [])) [(.c (.int .i64 265))], none, none⟩,
  ⟨(some 3), .mv (.t 4), none, none⟩,
  ⟨(some 5), .ext (.t 3) 0, none, none⟩,
  ⟨(some 6), .ext (.t 3) 1, none, none⟩,
  ⟨(some 1), .mv (.t 5), none, none⟩,
  ⟨(some 2), .mv (.t 6), none, none⟩]
def f16r1 : IC := .reg false [] f16o1 [1, 2]
@[simp] theorem f16r1_run (tbl : TB) (fin : Fin) (K : List Fr) (e : Env) (H : List AO) : run tbl fin K f16r1 e H = regK tbl fin K [] f16o1 [1, 2] e H := run_regK tbl fin K false [] f16o1 [1, 2] e H rfl
@[simp] def f16o2 : List IOper := [
  ⟨(some 7), .call (.c (.fn 8 [])) [(.c (.int .i64 3))], none, none⟩,
  ⟨(some 8), .bin .eql (.t 7) (.c (.int .i64 3)), none, none⟩,
  ⟨(some 9), .mv (.t 8), none, none⟩,
  ⟨(some 10), .call (.c (.fn 8 [])) [(.c (.int .i64 (-1)))], (some (9, true)), none⟩,
  ⟨(some 11), .bin .eql (.t 10) (.c (.int .i64 255)), (some (9, true)), none⟩,
  ⟨(some 12), .pick (.t 9) (.t 11) (.c (.bool false)), none, none⟩,
  ⟨(some 13), .mv (.t 12), none, none⟩,
  ⟨(some 14), .call (.c (.fn 8 [])) [(.c (.int .i64 256))], (some (13, true)), some [14, 13, 1, 2]⟩,
  ⟨(some 15), .bin .eql (.t 14) (.c (.int .i64 0)), (some (13, true)), none⟩,
  ⟨(some 16), .pick (.t 13) (.t 15) (.c (.bool false)), none, none⟩,
  ⟨(some 17), .mv (.t 16), none, none⟩,
  ⟨(some 18), .call (.c (.fn 10 [])) [(.c (.int .i64 9))], (some (17, true)), none⟩,
  ⟨(some 19), .bin .eql (.t 18) (.c (.int .i64 265)), (some (17, true)), none⟩,
  ⟨(some 20), .pick (.t 17) (.t 19) (.c (.bool false)), none, none⟩,
  ⟨(some 21), .mv (.t 20), none, none⟩,
  ⟨(some 22), .call (.c (.fn 12 [])) [(.c (.int .i64 20))], (some (21, true)), some [22, 21, 1, 2]⟩,
  ⟨(some 23), .bin .eql (.t 22) (.c (.int .i64 532)), (some (21, true)), none⟩,
  ⟨(some 24), .pick (.t 21) (.t 23) (.c (.bool false)), none, none⟩,
  ⟨(some 25), .mv (.t 24), none, none⟩,
  ⟨(some 26), .call (.c (.fn 14 [])) [], (some (25, true)), none⟩,
  ⟨(some 27), .bin .eql (.t 26) (.c (.int .i64 768)), (some (25, true)), none⟩,
  ⟨(some 28), .pick (.t 25) (.t 27) (.c (.bool false)), none, none⟩,
  ⟨(some 29), .mv (.t 28), none, none⟩,
  ⟨(some 30), .call (.c (.fn 10 [])) [(.c (.int .i64 0))], (some (29, true)), some [30, 29, 1, 2]⟩,
  ⟨(some 31), .bin .eql (.t 30) (.c (.int .i64 (-1))), (some (29, true)), none⟩,
  ⟨(some 32), .pick (.t 29) (.t 31) (.c (.bool false)), none, none⟩,
  ⟨(some 33), .mv (.t 32), none, none⟩,
  ⟨(some 34), .mv (.t 1), (some (33, true)), none⟩,
  ⟨(some 35), .bin .eql (.t 34) (.c (.int .i64 1)), (some (33, true)), none⟩,
  ⟨(some 36), .pick (.t 33) (.t 35) (.c (.bool false)), none, none⟩,
  ⟨(some 37), .mv (.t 36), none, none⟩,
  ⟨(some 38), .mv (.t 2), (some (37, true)), some [38, 37]⟩,
  ⟨(some 39), .bin .eql (.t 38) (.c (.int .i64 9)), (some (37, true)), none⟩,
  ⟨(some 40), .pick (.t 37) (.t 39) (.c (.bool false)), none, none⟩,
  ⟨(some 41), .mv (.t 40), none, none⟩,
  ⟨(some 42), .call (.c (.fn 19 [])) [(.c (.int .i64 265))], (some (41, true)), none⟩,
  ⟨(some 43), .bin .eql (.t 42) (.c (.int .i64 137)), (some (41, true)), none⟩,
  ⟨(some 44), .pick (.t 41) (.t 43) (.c (.bool false)), none, none⟩,
  ⟨(some 45), .mv (.t 44), none, none⟩,
  ⟨(some 46), .call (.c (.fn 21 [])) [(.c (.int .i64 265))], (some (45, true)), some [46, 45]⟩,
  ⟨(some 47), .bin .eql (.t 46) (.c (.str [75, 73, 76, 76])), (some (45, true)), none⟩,
  ⟨(some 48), .pick (.t 45) (.t 47) (.c (.bool false)), none, none⟩,
  ⟨(some 49), .mv (.t 48), none, none⟩,
  ⟨(some 50), .call (.c (.fn 21 [])) [(.c (.int .i64 262))], (some (49, true)), none⟩,
  ⟨(some 51), .bin .eql (.t 50) (.c (.str [83, 105, 103, 110, 97, 108, 32, 54])), (some (49, true)), none⟩,
  ⟨(some 52), .pick (.t 49) (.t 51) (.c (.bool false)), none, none⟩,
  ⟨(some 53), .mv (.t 52), none, none⟩,
  ⟨(some 54), .call (.c (.fn 21 [])) [(.c (.int .i64 3))], (some (53, true)), some [54, 53]⟩,
  ⟨(some 55), .bin .eql (.t 54) (.c (.str [69, 120, 105, 116, 32, 51])), (some (53, true)), none⟩,
  ⟨(some 56), .pick (.t 53) (.t 55) (.c (.bool false)), none, none⟩,
  ⟨(some 0), .mv (.t 56), none, none⟩]
def f16r2 : IC := .reg false [] f16o2 [0]
@[simp] theorem f16r2_run (tbl : TB) (fin : Fin) (K : List Fr) (e : Env) (H : List AO) : run tbl fin K f16r2 e H = regK tbl fin K [] f16o2 [0] e H := run_regK tbl fin K false [] f16o2 [0] e H rfl
def f16body : IC := (.seq f16r0 (.seq f16r1 (.seq f16r2 .ret)))
def f16 : IFn := ⟨57, 0, [.tmp 0], f16body⟩
/- 17: jobshell/status.Kind -/
@[simp] def f17o0 : List IOper := [
  ⟨(some 2), .mv (.c (.int .i64 0)), none, none⟩,
  ⟨(some 3), .mv (.c (.int .i64 0)), none, none⟩]
def f17r0 : IC := .reg false [] f17o0 [0]
@[simp] theorem f17r0_run (tbl : TB) (fin : Fin) (K : List Fr) (e : Env) (H : List AO) : run tbl fin K f17r0 e H = regK tbl fin K [] f17o0 [0] e H := run_regK tbl fin K false [] f17o0 [0] e H rfl
@[simp] def f17o1 : List IOper := [
  ⟨(some 7), .mv (.t 0), none, none⟩,
  ⟨(some 8), .bin .lss (.t 7) (.c (.int .i64 0)), none, none⟩]
def f17r1 : IC := .reg false [] f17o1 [8, 0]
@[simp] theorem f17r1_run (tbl : TB) (fin : Fin) (K : List Fr) (e : Env) (H : List AO) : run tbl fin K f17r1 e H = regK tbl fin K [] f17o1 [8, 0] e H := run_regK tbl fin K false [] f17o1 [8, 0] e H rfl
@[simp] def f17o2 : List IOper := [
  ⟨(some 2), .mv (.c (.int .i64 (-1))), none, none⟩,
  ⟨(some 3), .mv (.c (.int .i64 0)), none, none⟩]
def f17r2 : IC := .reg false [] f17o2 [2, 3]
@[simp] theorem f17r2_run (tbl : TB) (fin : Fin) (K : List Fr) (e : Env) (H : List AO) : run tbl fin K f17r2 e H = regK tbl fin K [] f17o2 [2, 3] e H := run_regK tbl fin K false [] f17o2 [2, 3] e H rfl
@[simp] def f17o3 : List IOper := [
  ⟨(some 9), .mv (.t 0), none, none⟩,
  ⟨(some 10), .bin .quo (.t 9) (.c (.int .i64 256)), none, none⟩,
  ⟨(some 11), .mv (.t 0), none, none⟩,
  ⟨(some 12), .bin .rem (.t 11) (.c (.int .i64 256)), none, none⟩,
  ⟨(some 4), .mv (.t 10), none, none⟩,
  ⟨(some 5), .mv (.t 12), none, none⟩]
def f17r3 : IC := .reg false [] f17o3 [5, 4]
@[simp] theorem f17r3_run (tbl : TB) (fin : Fin) (K : List Fr) (e : Env) (H : List AO) : run tbl fin K f17r3 e H = regK tbl fin K [] f17o3 [5, 4] e H := run_regK tbl fin K false [] f17o3 [5, 4] e H rfl
@[simp] def f17o4 : List IOper := [
  ⟨(some 6), .mv (.c (.bool false)), none, none⟩]
def f17r4 : IC := .reg false [] f17o4 [6, 5, 4]
@[simp] theorem f17r4_run (tbl : TB) (fin : Fin) (K : List Fr) (e : Env) (H : List AO) : run tbl fin K f17r4 e H = regK tbl fin K [] f17o4 [6, 5, 4] e H := run_regK tbl fin K false [] f17o4 [6, 5, 4] e H rfl
@[simp] def f17o5 : List IOper := [
  ⟨(some 13), .mv (.t 4), none, none⟩]
def f17r5 : IC := .reg false [] f17o5 [13, 6, 5, 4]
@[simp] theorem f17r5_run (tbl : TB) (fin : Fin) (K : List Fr) (e : Env) (H : List AO) : run tbl fin K f17r5 e H = regK tbl fin K [] f17o5 [13, 6, 5, 4] e H := run_regK tbl fin K false [] f17o5 [13, 6, 5, 4] e H rfl
@[simp] def f17o6 : List IOper := [
  ⟨(some 15), .bin .eql (.t 13) (.c (.int .i64 0)), none, none⟩,
  ⟨(some 14), .mv (.t 15), none, none⟩]
def f17r6 : IC := .reg false [] f17o6 [14, 13, 6, 5, 4]
@[simp] theorem f17r6_run (tbl : TB) (fin : Fin) (K : List Fr) (e : Env) (H : List AO) : run tbl fin K f17r6 e H = regK tbl fin K [] f17o6 [14, 13, 6, 5, 4] e H := run_regK tbl fin K false [] f17o6 [14, 13, 6, 5, 4] e H rfl
@[simp] def f17o7 : List IOper := [
  ⟨(some 6), .mv (.c (.bool true)), none, none⟩]
def f17r7 : IC := .reg false [] f17o7 [6, 5, 4]
@[simp] theorem f17r7_run (tbl : TB) (fin : Fin) (K : List Fr) (e : Env) (H : List AO) : run tbl fin K f17r7 e H = regK tbl fin K [] f17o7 [6, 5, 4] e H := run_regK tbl fin K false [] f17o7 [6, 5, 4] e H rfl
@[simp] def f17o8 : List IOper := [
  ⟨(some 17), .bin .eql (.t 13) (.c (.int .i64 1)), none, none⟩,
  ⟨(some 16), .mv (.t 17), none, none⟩]
def f17r8 : IC := .reg false [] f17o8 [16, 6, 13, 5, 4]
@[simp] theorem f17r8_run (tbl : TB) (fin : Fin) (K : List Fr) (e : Env) (H : List AO) : run tbl fin K f17r8 e H = regK tbl fin K [] f17o8 [16, 6, 13, 5, 4] e H := run_regK tbl fin K false [] f17o8 [16, 6, 13, 5, 4] e H rfl
@[simp] def f17o9 : List IOper := [
  ⟨(some 18), .bin .eql (.t 13) (.c (.int .i64 2)), none, none⟩,
  ⟨(some 16), .mv (.t 18), none, none⟩]
def f17r9 : IC := .reg false [] f17o9 [16, 6, 13, 5, 4]
@[simp] theorem f17r9_run (tbl : TB) (fin : Fin) (K : List Fr) (e : Env) (H : List AO) : run tbl fin K f17r9 e H = regK tbl fin K [] f17o9 [16, 6, 13, 5, 4] e H := run_regK tbl fin K false [] f17o9 [16, 6, 13, 5, 4] e H rfl
@[simp] def f17o10 : List IOper := [
  ⟨(some 19), .mv (.t 5), none, none⟩,
  ⟨(some 20), .bin .geq (.t 19) (.c (.int .i64 1)), none, none⟩,
  ⟨(some 21), .mv (.t 20), none, none⟩,
  ⟨(some 22), .mv (.t 5), (some (21, true)), none⟩,
  ⟨(some 23), .bin .leq (.t 22) (.c (.int .i64 20)), (some (21, true)), none⟩,
  ⟨(some 24), .pick (.t 21) (.t 23) (.c (.bool false)), none, none⟩,
  ⟨(some 6), .mv (.t 24), none, none⟩]
def f17r10 : IC := .reg false [] f17o10 [6, 5, 4]
@[simp] theorem f17r10_run (tbl : TB) (fin : Fin) (K : List Fr) (e : Env) (H : List AO) : run tbl fin K f17r10 e H = regK tbl fin K [] f17o10 [6, 5, 4] e H := run_regK tbl fin K false [] f17o10 [6, 5, 4] e H rfl
@[simp] def f17o11 : List IOper := [
  ⟨(some 26), .bin .eql (.t 13) (.c (.int .i64 3)), none, none⟩,
  ⟨(some 25), .mv (.t 26), none, none⟩]
def f17r11 : IC := .reg false [] f17o11 [25, 6, 5, 4]
@[simp] theorem f17r11_run (tbl : TB) (fin : Fin) (K : List Fr) (e : Env) (H : List AO) : run tbl fin K f17r11 e H = regK tbl fin K [] f17o11 [25, 6, 5, 4] e H := run_regK tbl fin K false [] f17o11 [25, 6, 5, 4] e H rfl
@[simp] def f17o12 : List IOper := [
  ⟨(some 27), .mv (.t 5), none, none⟩,
  ⟨(some 28), .bin .eql (.t 27) (.c (.int .i64 0)), none, none⟩,
  ⟨(some 6), .mv (.t 28), none, none⟩]
def f17r12 : IC := .reg false [] f17o12 [6, 5, 4]
@[simp] theorem f17r12_run (tbl : TB) (fin : Fin) (K : List Fr) (e : Env) (H : List AO) : run tbl fin K f17r12 e H = regK tbl fin K [] f17o12 [6, 5, 4] e H := run_regK tbl fin K false [] f17o12 [6, 5, 4] e H rfl
@[simp] def f17o13 : List IOper := [
  ⟨(some 29), .mv (.t 6), none, none⟩,
  ⟨(some 30), .un .not (.t 29), none, none⟩]
def f17r13 : IC := .reg false [] f17o13 [30, 5, 4]
@[simp] theorem f17r13_run (tbl : TB) (fin : Fin) (K : List Fr) (e : Env) (H : List AO) : run tbl fin K f17r13 e H = regK tbl fin K [] f17o13 [30, 5, 4] e H := run_regK tbl fin K false [] f17o13 [30, 5, 4] e H rfl
@[simp] def f17o14 : List IOper := [
  ⟨(some 2), .mv (.c (.int .i64 (-1))), none, none⟩,
  ⟨(some 3), .mv (.c (.int .i64 0)), none, none⟩]
def f17r14 : IC := .reg false [] f17o14 [2, 3]
@[simp] theorem f17r14_run (tbl : TB) (fin : Fin) (K : List Fr) (e : Env) (H : List AO) : run tbl fin K f17r14 e H = regK tbl fin K [] f17o14 [2, 3] e H := run_regK tbl fin K false [] f17o14 [2, 3] e H rfl
@[simp] def f17o15 : List IOper := [
  ⟨(some 31), .mv (.t 4), none, none⟩,
  ⟨(some 32), .mv (.t 5), none, none⟩,
  ⟨(some 2), .mv (.t 31), none, none⟩,
  ⟨(some 3), .mv (.t 32), none, none⟩]
def f17r15 : IC := .reg false [] f17o15 [2, 3]
@[simp] theorem f17r15_run (tbl : TB) (fin : Fin) (K : List Fr) (e : Env) (H : List AO) : run tbl fin K f17r15 e H = regK tbl fin K [] f17o15 [2, 3] e H := run_regK tbl fin K false [] f17o15 [2, 3] e H rfl
def f17body : IC := (.seq f17r0 (.seq (.seq f17r1 (.cond (.t 8) (.seq f17r2 .ret) .skip)) (.seq f17r3 (.seq f17r4 (.seq (.seq f17r5 (.block 0 (.seq f17r6 (.cond (.t 14) f17r7 (.seq (.seq f17r8 (.cond (.t 16) .skip f17r9)) (.cond (.t 16) f17r10 (.seq f17r11 (.cond (.t 25) f17r12 .skip)))))))) (.seq (.seq f17r13 (.cond (.t 30) (.seq f17r14 .ret) .skip)) (.seq f17r15 .ret)))))))
def f17 : IFn := ⟨33, 1, [.tmp 2, .tmp 3], f17body⟩
/- 18: jobshell/jobshellref22.Kind -/
@[simp] def f18o0 : List IOper := [
  ⟨(some 2), .mv (.c (.int .i64 0)), none, none⟩,
  ⟨(some 3), .mv (.c (.int .i64 0)), none, none⟩]
def f18r0 : IC := .reg false [] f18o0 [0]
@[simp] theorem f18r0_run (tbl : TB) (fin : Fin) (K : List Fr) (e : Env) (H : List AO) : run tbl fin K f18r0 e H = regK tbl fin K [] f18o0 [0] e H := run_regK tbl fin K false [] f18o0 [0] e H rfl
@[simp] def f18o1 : List IOper := [
  ⟨(some 6), .mv (.t 0), none, none⟩,
  ⟨(some 7), .bin .lss (.t 6) (.c (.int .i64 0)), none, none⟩,
  ⟨(some 8), .mv (.t 7), none, none⟩,
  ⟨(some 9), .mv (.t 0), (some (8, false)), none⟩,
  ⟨(some 10), .bin .gtr (.t 9) (.c (.int .i64 768)), (some (8, false)), none⟩,
  ⟨(some 11), .pick (.t 8) (.c (.bool true)) (.t 10), none, none⟩]
def f18r1 : IC := .reg false [] f18o1 [11, 0]
@[simp] theorem f18r1_run (tbl : TB) (fin : Fin) (K : List Fr) (e : Env) (H : List AO) : run tbl fin K f18r1 e H = regK tbl fin K [] f18o1 [11, 0] e H := run_regK tbl fin K false [] f18o1 [11, 0] e H rfl
@[simp] def f18o2 : List IOper := [
  ⟨(some 2), .mv (.c (.int .i64 (-1))), none, none⟩,
  ⟨(some 3), .mv (.c (.int .i64 0)), none, none⟩]
def f18r2 : IC := .reg false [] f18o2 [2, 3]
@[simp] theorem f18r2_run (tbl : TB) (fin : Fin) (K : List Fr) (e : Env) (H : List AO) : run tbl fin K f18r2 e H = regK tbl fin K [] f18o2 [2, 3] e H := run_regK tbl fin K false [] f18o2 [2, 3] e H rfl
@[simp] def f18o3 : List IOper := [
  ⟨(some 12), .mv (.t 0), none, none⟩,
  ⟨(some 13), .bin .quo (.t 12) (.c (.int .i64 256)), none, none⟩,
  ⟨(some 14), .mv (.t 0), none, none⟩,
  ⟨(some 15), .bin .rem (.t 14) (.c (.int .i64 256)), none, none⟩,
  ⟨(some 4), .mv (.t 13), none, none⟩,
  ⟨(some 5), .mv (.t 15), none, none⟩]
def f18r3 : IC := .reg false [] f18o3 [5, 4]
@[simp] theorem f18r3_run (tbl : TB) (fin : Fin) (K : List Fr) (e : Env) (H : List AO) : run tbl fin K f18r3 e H = regK tbl fin K [] f18o3 [5, 4] e H := run_regK tbl fin K false [] f18o3 [5, 4] e H rfl
@[simp] def f18o4 : List IOper := [
  ⟨(some 16), .mv (.t 4), none, none⟩,
  ⟨(some 17), .bin .eql (.t 16) (.c (.int .i64 1)), none, none⟩,
  ⟨(some 18), .mv (.t 17), none, none⟩,
  ⟨(some 19), .mv (.t 4), (some (18, false)), none⟩,
  ⟨(some 20), .bin .eql (.t 19) (.c (.int .i64 2)), (some (18, false)), none⟩,
  ⟨(some 21), .pick (.t 18) (.c (.bool true)) (.t 20), none, none⟩,
  ⟨(some 22), .mv (.t 21), none, none⟩,
  ⟨(some 23), .mv (.t 5), (some (22, true)), some [23, 22, 5, 4]⟩,
  ⟨(some 24), .bin .lss (.t 23) (.c (.int .i64 1)), (some (22, true)), none⟩,
  ⟨(some 25), .mv (.t 24), (some (22, true)), none⟩,
  ⟨(some 26), .mv (.t 5), (some (25, false)), none⟩,
  ⟨(some 27), .bin .gtr (.t 26) (.c (.int .i64 20)), (some (25, false)), none⟩,
  ⟨(some 28), .pick (.t 25) (.c (.bool true)) (.t 27), (some (22, true)), none⟩,
  ⟨(some 29), .pick (.t 22) (.t 28) (.c (.bool false)), none, none⟩]
def f18r4 : IC := .reg false [] f18o4 [29, 5, 4]
@[simp] theorem f18r4_run (tbl : TB) (fin : Fin) (K : List Fr) (e : Env) (H : List AO) : run tbl fin K f18r4 e H = regK tbl fin K [] f18o4 [29, 5, 4] e H := run_regK tbl fin K false [] f18o4 [29, 5, 4] e H rfl
@[simp] def f18o5 : List IOper := [
  ⟨(some 2), .mv (.c (.int .i64 (-1))), none, none⟩,
  ⟨(some 3), .mv (.c (.int .i64 0)), none, none⟩]
def f18r5 : IC := .reg false [] f18o5 [2, 3]
@[simp] theorem f18r5_run (tbl : TB) (fin : Fin) (K : List Fr) (e : Env) (H : List AO) : run tbl fin K f18r5 e H = regK tbl fin K [] f18o5 [2, 3] e H := run_regK tbl fin K false [] f18o5 [2, 3] e H rfl
@[simp] def f18o6 : List IOper := [
  ⟨(some 30), .mv (.t 4), none, none⟩,
  ⟨(some 31), .mv (.t 5), none, none⟩,
  ⟨(some 2), .mv (.t 30), none, none⟩,
  ⟨(some 3), .mv (.t 31), none, none⟩]
def f18r6 : IC := .reg false [] f18o6 [2, 3]
@[simp] theorem f18r6_run (tbl : TB) (fin : Fin) (K : List Fr) (e : Env) (H : List AO) : run tbl fin K f18r6 e H = regK tbl fin K [] f18o6 [2, 3] e H := run_regK tbl fin K false [] f18o6 [2, 3] e H rfl
def f18body : IC := (.seq f18r0 (.seq (.seq f18r1 (.cond (.t 11) (.seq f18r2 .ret) .skip)) (.seq f18r3 (.seq (.seq f18r4 (.cond (.t 29) (.seq f18r5 .ret) .skip)) (.seq f18r6 .ret)))))
def f18 : IFn := ⟨32, 1, [.tmp 2, .tmp 3], f18body⟩
/- 19: jobshell/status.Shell -/
@[simp] def f19o0 : List IOper := [
  ⟨(some 2), .mv (.c (.int .i64 0)), none, none⟩]
def f19r0 : IC := .reg false [] f19o0 [0]
@[simp] theorem f19r0_run (tbl : TB) (fin : Fin) (K : List Fr) (e : Env) (H : List AO) : run tbl fin K f19r0 e H = regK tbl fin K [] f19o0 [0] e H := run_regK tbl fin K false [] f19o0 [0] e H rfl
@[simp] def f19o1 : List IOper := [
  ⟨(some 6), .mv (.t 0), none, none⟩,
  ⟨(some 7), .call (.c (.fn 17 [])) [(.t 6)], none, none⟩,
  ⟨(some 5), .mv (.t 7), none, none⟩,
  ⟨(some 8), .ext (.t 5) 0, none, none⟩,
  ⟨(some 9), .ext (.t 5) 1, none, none⟩,
  ⟨(some 3), .mv (.t 8), none, none⟩,
  ⟨(some 4), .mv (.t 9), none, none⟩]
def f19r1 : IC := .reg false [] f19o1 [3, 4]
@[simp] theorem f19r1_run (tbl : TB) (fin : Fin) (K : List Fr) (e : Env) (H : List AO) : run tbl fin K f19r1 e H = regK tbl fin K [] f19o1 [3, 4] e H := run_regK tbl fin K false [] f19o1 [3, 4] e H rfl
@[simp] def f19o2 : List IOper := [
  ⟨(some 10), .mv (.t 3), none, none⟩]
def f19r2 : IC := .reg false [] f19o2 [10, 4]
@[simp] theorem f19r2_run (tbl : TB) (fin : Fin) (K : List Fr) (e : Env) (H : List AO) : run tbl fin K f19r2 e H = regK tbl fin K [] f19o2 [10, 4] e H := run_regK tbl fin K false [] f19o2 [10, 4] e H rfl
@[simp] def f19o3 : List IOper := [
  ⟨(some 12), .bin .eql (.t 10) (.c (.int .i64 0)), none, none⟩,
  ⟨(some 11), .mv (.t 12), none, none⟩]
def f19r3 : IC := .reg false [] f19o3 [11, 10, 4]
@[simp] theorem f19r3_run (tbl : TB) (fin : Fin) (K : List Fr) (e : Env) (H : List AO) : run tbl fin K f19r3 e H = regK tbl fin K [] f19o3 [11, 10, 4] e H := run_regK tbl fin K false [] f19o3 [11, 10, 4] e H rfl
@[simp] def f19o4 : List IOper := [
  ⟨(some 13), .mv (.t 4), none, none⟩,
  ⟨(some 2), .mv (.t 13), none, none⟩]
def f19r4 : IC := .reg false [] f19o4 [2]
@[simp] theorem f19r4_run (tbl : TB) (fin : Fin) (K : List Fr) (e : Env) (H : List AO) : run tbl fin K f19r4 e H = regK tbl fin K [] f19o4 [2] e H := run_regK tbl fin K false [] f19o4 [2] e H rfl
@[simp] def f19o5 : List IOper := [
  ⟨(some 15), .bin .eql (.t 10) (.c (.int .i64 1)), none, none⟩,
  ⟨(some 14), .mv (.t 15), none, none⟩]
def f19r5 : IC := .reg false [] f19o5 [14, 10, 4]
@[simp] theorem f19r5_run (tbl : TB) (fin : Fin) (K : List Fr) (e : Env) (H : List AO) : run tbl fin K f19r5 e H = regK tbl fin K [] f19o5 [14, 10, 4] e H := run_regK tbl fin K false [] f19o5 [14, 10, 4] e H rfl
@[simp] def f19o6 : List IOper := [
  ⟨(some 16), .bin .eql (.t 10) (.c (.int .i64 2)), none, none⟩,
  ⟨(some 14), .mv (.t 16), none, none⟩]
def f19r6 : IC := .reg false [] f19o6 [14, 10, 4]
@[simp] theorem f19r6_run (tbl : TB) (fin : Fin) (K : List Fr) (e : Env) (H : List AO) : run tbl fin K f19r6 e H = regK tbl fin K [] f19o6 [14, 10, 4] e H := run_regK tbl fin K false [] f19o6 [14, 10, 4] e H rfl
@[simp] def f19o7 : List IOper := [
  ⟨(some 17), .mv (.t 4), none, none⟩,
  ⟨(some 18), .bin .add (.c (.int .i64 128)) (.t 17), none, none⟩,
  ⟨(some 2), .mv (.t 18), none, none⟩]
def f19r7 : IC := .reg false [] f19o7 [2]
@[simp] theorem f19r7_run (tbl : TB) (fin : Fin) (K : List Fr) (e : Env) (H : List AO) : run tbl fin K f19r7 e H = regK tbl fin K [] f19o7 [2] e H := run_regK tbl fin K false [] f19o7 [2] e H rfl
@[simp] def f19o8 : List IOper := [
  ⟨(some 20), .bin .eql (.t 10) (.c (.int .i64 3)), none, none⟩,
  ⟨(some 19), .mv (.t 20), none, none⟩]
def f19r8 : IC := .reg false [] f19o8 [19]
@[simp] theorem f19r8_run (tbl : TB) (fin : Fin) (K : List Fr) (e : Env) (H : List AO) : run tbl fin K f19r8 e H = regK tbl fin K [] f19o8 [19] e H := run_regK tbl fin K false [] f19o8 [19] e H rfl
@[simp] def f19o9 : List IOper := [
  ⟨(some 2), .mv (.c (.int .i64 0)), none, none⟩]
def f19r9 : IC := .reg false [] f19o9 [2]
@[simp] theorem f19r9_run (tbl : TB) (fin : Fin) (K : List Fr) (e : Env) (H : List AO) : run tbl fin K f19r9 e H = regK tbl fin K [] f19o9 [2] e H := run_regK tbl fin K false [] f19o9 [2] e H rfl
@[simp] def f19o10 : List IOper := [
  ⟨(some 2), .mv (.c (.int .i64 255)), none, none⟩]
def f19r10 : IC := .reg false [] f19o10 [2]
@[simp] theorem f19r10_run (tbl : TB) (fin : Fin) (K : List Fr) (e : Env) (H : List AO) : run tbl fin K f19r10 e H = regK tbl fin K [] f19o10 [2] e H := run_regK tbl fin K false [] f19o10 [2] e H rfl
def f19body : IC := (.seq f19r0 (.seq f19r1 (.seq (.seq f19r2 (.block 0 (.seq f19r3 (.cond (.t 11) (.seq f19r4 .ret) (.seq (.seq f19r5 (.cond (.t 14) .skip f19r6)) (.cond (.t 14) (.seq f19r7 .ret) (.seq f19r8 (.cond (.t 19) (.seq f19r9 .ret) .skip)))))))) (.seq f19r10 .ret))))
def f19 : IFn := ⟨21, 1, [.tmp 2], f19body⟩
/- 20: jobshell/jobshellref22.Shell -/
@[simp] def f20o0 : List IOper := [
  ⟨(some 2), .mv (.c (.int .i64 0)), none, none⟩]
def f20r0 : IC := .reg false [] f20o0 [0]
@[simp] theorem f20r0_run (tbl : TB) (fin : Fin) (K : List Fr) (e : Env) (H : List AO) : run tbl fin K f20r0 e H = regK tbl fin K [] f20o0 [0] e H := run_regK tbl fin K false [] f20o0 [0] e H rfl
@[simp] def f20o1 : List IOper := [
  ⟨(some 6), .mv (.t 0), none, none⟩,
  ⟨(some 7), .call (.c (.fn 18 [])) [(.t 6)], none, none⟩,
  ⟨(some 5), .mv (.t 7), none, none⟩,
  ⟨(some 8), .ext (.t 5) 0, none, none⟩,
  ⟨(some 9), .ext (.t 5) 1, none, none⟩,
  ⟨(some 3), .mv (.t 8), none, none⟩,
  ⟨(some 4), .mv (.t 9), none, none⟩]
def f20r1 : IC := .reg false [] f20o1 [3, 4]
@[simp] theorem f20r1_run (tbl : TB) (fin : Fin) (K : List Fr) (e : Env) (H : List AO) : run tbl fin K f20r1 e H = regK tbl fin K [] f20o1 [3, 4] e H := run_regK tbl fin K false [] f20o1 [3, 4] e H rfl
@[simp] def f20o2 : List IOper := [
  ⟨(some 10), .mv (.t 3), none, none⟩]
def f20r2 : IC := .reg false [] f20o2 [10, 4]
@[simp] theorem f20r2_run (tbl : TB) (fin : Fin) (K : List Fr) (e : Env) (H : List AO) : run tbl fin K f20r2 e H = regK tbl fin K [] f20o2 [10, 4] e H := run_regK tbl fin K false [] f20o2 [10, 4] e H rfl
@[simp] def f20o3 : List IOper := [
  ⟨(some 12), .bin .eql (.t 10) (.c (.int .i64 0)), none, none⟩,
  ⟨(some 11), .mv (.t 12), none, none⟩]
def f20r3 : IC := .reg false [] f20o3 [11, 10, 4]
@[simp] theorem f20r3_run (tbl : TB) (fin : Fin) (K : List Fr) (e : Env) (H : List AO) : run tbl fin K f20r3 e H = regK tbl fin K [] f20o3 [11, 10, 4] e H := run_regK tbl fin K false [] f20o3 [11, 10, 4] e H rfl
@[simp] def f20o4 : List IOper := [
  ⟨(some 13), .mv (.t 4), none, none⟩,
  ⟨(some 2), .mv (.t 13), none, none⟩]
def f20r4 : IC := .reg false [] f20o4 [2]
@[simp] theorem f20r4_run (tbl : TB) (fin : Fin) (K : List Fr) (e : Env) (H : List AO) : run tbl fin K f20r4 e H = regK tbl fin K [] f20o4 [2] e H := run_regK tbl fin K false [] f20o4 [2] e H rfl
@[simp] def f20o5 : List IOper := [
  ⟨(some 15), .bin .eql (.t 10) (.c (.int .i64 1)), none, none⟩,
  ⟨(some 14), .mv (.t 15), none, none⟩]
def f20r5 : IC := .reg false [] f20o5 [14, 10, 4]
@[simp] theorem f20r5_run (tbl : TB) (fin : Fin) (K : List Fr) (e : Env) (H : List AO) : run tbl fin K f20r5 e H = regK tbl fin K [] f20o5 [14, 10, 4] e H := run_regK tbl fin K false [] f20o5 [14, 10, 4] e H rfl
@[simp] def f20o6 : List IOper := [
  ⟨(some 16), .bin .eql (.t 10) (.c (.int .i64 2)), none, none⟩,
  ⟨(some 14), .mv (.t 16), none, none⟩]
def f20r6 : IC := .reg false [] f20o6 [14, 10, 4]
@[simp] theorem f20r6_run (tbl : TB) (fin : Fin) (K : List Fr) (e : Env) (H : List AO) : run tbl fin K f20r6 e H = regK tbl fin K [] f20o6 [14, 10, 4] e H := run_regK tbl fin K false [] f20o6 [14, 10, 4] e H rfl
@[simp] def f20o7 : List IOper := [
  ⟨(some 17), .mv (.t 4), none, none⟩,
  ⟨(some 18), .bin .add (.c (.int .i64 128)) (.t 17), none, none⟩,
  ⟨(some 2), .mv (.t 18), none, none⟩]
def f20r7 : IC := .reg false [] f20o7 [2]
@[simp] theorem f20r7_run (tbl : TB) (fin : Fin) (K : List Fr) (e : Env) (H : List AO) : run tbl fin K f20r7 e H = regK tbl fin K [] f20o7 [2] e H := run_regK tbl fin K false [] f20o7 [2] e H rfl
@[simp] def f20o8 : List IOper := [
  ⟨(some 20), .bin .eql (.t 10) (.c (.int .i64 3)), none, none⟩,
  ⟨(some 19), .mv (.t 20), none, none⟩]
def f20r8 : IC := .reg false [] f20o8 [19]
@[simp] theorem f20r8_run (tbl : TB) (fin : Fin) (K : List Fr) (e : Env) (H : List AO) : run tbl fin K f20r8 e H = regK tbl fin K [] f20o8 [19] e H := run_regK tbl fin K false [] f20o8 [19] e H rfl
@[simp] def f20o9 : List IOper := [
  ⟨(some 2), .mv (.c (.int .i64 0)), none, none⟩]
def f20r9 : IC := .reg false [] f20o9 [2]
@[simp] theorem f20r9_run (tbl : TB) (fin : Fin) (K : List Fr) (e : Env) (H : List AO) : run tbl fin K f20r9 e H = regK tbl fin K [] f20o9 [2] e H := run_regK tbl fin K false [] f20o9 [2] e H rfl
@[simp] def f20o10 : List IOper := [
  ⟨(some 2), .mv (.c (.int .i64 255)), none, none⟩]
def f20r10 : IC := .reg false [] f20o10 [2]
@[simp] theorem f20r10_run (tbl : TB) (fin : Fin) (K : List Fr) (e : Env) (H : List AO) : run tbl fin K f20r10 e H = regK tbl fin K [] f20o10 [2] e H := run_regK tbl fin K false [] f20o10 [2] e H rfl
def f20body : IC := (.seq f20r0 (.seq f20r1 (.seq (.seq f20r2 (.block 0 (.seq f20r3 (.cond (.t 11) (.seq f20r4 .ret) (.seq (.seq f20r5 (.cond (.t 14) .skip f20r6)) (.cond (.t 14) (.seq f20r7 .ret) (.seq f20r8 (.cond (.t 19) (.seq f20r9 .ret) .skip)))))))) (.seq f20r10 .ret))))
def f20 : IFn := ⟨21, 1, [.tmp 2], f20body⟩
/- 21: jobshell/status.Describe -/
@[simp] def f21o0 : List IOper := [
  ⟨(some 2), .mv (.c (.str [])), none, none⟩]
def f21r0 : IC := .reg false [] f21o0 [0]
@[simp] theorem f21r0_run (tbl : TB) (fin : Fin) (K : List Fr) (e : Env) (H : List AO) : run tbl fin K f21r0 e H = regK tbl fin K [] f21o0 [0] e H := run_regK tbl fin K false [] f21o0 [0] e H rfl
@[simp] def f21o1 : List IOper := [
  ⟨(some 6), .mv (.t 0), none, none⟩,
  ⟨(some 7), .call (.c (.fn 17 [])) [(.t 6)], none, none⟩,
  ⟨(some 5), .mv (.t 7), none, none⟩,
  ⟨(some 8), .ext (.t 5) 0, none, none⟩,
  ⟨(some 9), .ext (.t 5) 1, none, none⟩,
  ⟨(some 3), .mv (.t 8), none, none⟩,
  ⟨(some 4), .mv (.t 9), none, none⟩]
def f21r1 : IC := .reg false [] f21o1 [3, 4]
@[simp] theorem f21r1_run (tbl : TB) (fin : Fin) (K : List Fr) (e : Env) (H : List AO) : run tbl fin K f21r1 e H = regK tbl fin K [] f21o1 [3, 4] e H := run_regK tbl fin K false [] f21o1 [3, 4] e H rfl
@[simp] def f21o2 : List IOper := [
  ⟨(some 10), .mv (.t 3), none, none⟩]
def f21r2 : IC := .reg false [] f21o2 [10, 4]
@[simp] theorem f21r2_run (tbl : TB) (fin : Fin) (K : List Fr) (e : Env) (H : List AO) : run tbl fin K f21r2 e H = regK tbl fin K [] f21o2 [10, 4] e H := run_regK tbl fin K false [] f21o2 [10, 4] e H rfl
@[simp] def f21o3 : List IOper := [
  ⟨(some 12), .bin .eql (.t 10) (.c (.int .i64 0)), none, none⟩,
  ⟨(some 11), .mv (.t 12), none, none⟩]
def f21r3 : IC := .reg false [] f21o3 [11, 10, 4]
@[simp] theorem f21r3_run (tbl : TB) (fin : Fin) (K : List Fr) (e : Env) (H : List AO) : run tbl fin K f21r3 e H = regK tbl fin K [] f21o3 [11, 10, 4] e H := run_regK tbl fin K false [] f21o3 [11, 10, 4] e H rfl
@[simp] def f21o4 : List IOper := [
  ⟨(some 13), .mv (.t 4), none, none⟩,
  ⟨(some 14), .bin .eql (.t 13) (.c (.int .i64 0)), none, none⟩]
def f21r4 : IC := .reg false [] f21o4 [14, 4]
@[simp] theorem f21r4_run (tbl : TB) (fin : Fin) (K : List Fr) (e : Env) (H : List AO) : run tbl fin K f21r4 e H = regK tbl fin K [] f21o4 [14, 4] e H := run_regK tbl fin K false [] f21o4 [14, 4] e H rfl
@[simp] def f21o5 : List IOper := [
  ⟨(some 2), .mv (.c (.str [68, 111, 110, 101])), none, none⟩]
def f21r5 : IC := .reg false [] f21o5 [2]
@[simp] theorem f21r5_run (tbl : TB) (fin : Fin) (K : List Fr) (e : Env) (H : List AO) : run tbl fin K f21r5 e H = regK tbl fin K [] f21o5 [2] e H := run_regK tbl fin K false [] f21o5 [2] e H rfl
@[simp] def f21o6 : List IOper := [
  ⟨(some 15), .mv (.t 4), none, none⟩,
  ⟨(some 16), .call (.c (.fn 26 [])) [(.t 15)], none, none⟩,
  ⟨(some 17), .bin .add (.c (.str [69, 120, 105, 116, 32])) (.t 16), none, none⟩,
  ⟨(some 2), .mv (.t 17), none, none⟩]
def f21r6 : IC := .reg false [] f21o6 [2]
@[simp] theorem f21r6_run (tbl : TB) (fin : Fin) (K : List Fr) (e : Env) (H : List AO) : run tbl fin K f21r6 e H = regK tbl fin K [] f21o6 [2] e H := run_regK tbl fin K false [] f21o6 [2] e H rfl
@[simp] def f21o7 : List IOper := [
  ⟨(some 19), .bin .eql (.t 10) (.c (.int .i64 1)), none, none⟩,
  ⟨(some 18), .mv (.t 19), none, none⟩]
def f21r7 : IC := .reg false [] f21o7 [18, 10, 4]
@[simp] theorem f21r7_run (tbl : TB) (fin : Fin) (K : List Fr) (e : Env) (H : List AO) : run tbl fin K f21r7 e H = regK tbl fin K [] f21o7 [18, 10, 4] e H := run_regK tbl fin K false [] f21o7 [18, 10, 4] e H rfl
@[simp] def f21o8 : List IOper := [
  ⟨(some 20), .mv (.t 4), none, none⟩,
  ⟨(some 21), .bin .lss (.t 20) (.c (.int .i64 21)), none, none⟩,
  ⟨(some 22), .mv (.t 21), none, none⟩,
  ⟨(some 23), .mv (.t 4), (some (22, true)), none⟩,
  ⟨(some 24), .pix 21 1 (.c (.cptr (.agg [(.str []), (.str [72, 85, 80]), (.str [73, 78, 84]), (.str [81, 85, 73, 84]), (.str [84, 84, 73, 78]), (.str [84, 84, 79, 85]), (.str []), (.str []), (.str []), (.str [75, 73, 76, 76]), (.str [85, 83, 82, 49]), (.str []), (.str [85, 83, 82, 50]), (.str [80, 73, 80, 69]), (.str [65, 76, 82, 77]), (.str [84, 69, 82, 77]), (.str []), (.str [67, 72, 76, 68]), (.str [67, 79, 78, 84]), (.str [83, 84, 79, 80]), (.str [84, 83, 84, 80])]) 0)) (.t 23), (some (22, true)), none⟩,
  ⟨(some 25), .load false 1 (.t 24), (some (22, true)), none⟩,
  ⟨(some 26), .bin .neq (.t 25) (.c (.str [])), (some (22, true)), none⟩,
  ⟨(some 27), .pick (.t 22) (.t 26) (.c (.bool false)), none, none⟩]
def f21r8 : IC := .reg false [] f21o8 [27, 4]
@[simp] theorem f21r8_run (tbl : TB) (fin : Fin) (K : List Fr) (e : Env) (H : List AO) : run tbl fin K f21r8 e H = regK tbl fin K [] f21o8 [27, 4] e H := run_regK tbl fin K false [] f21o8 [27, 4] e H rfl
@[simp] def f21o9 : List IOper := [
  ⟨(some 28), .mv (.t 4), none, none⟩,
  ⟨(some 29), .pix 21 1 (.c (.cptr (.agg [(.str []), (.str [72, 85, 80]), (.str [73, 78, 84]), (.str [81, 85, 73, 84]), (.str [84, 84, 73, 78]), (.str [84, 84, 79, 85]), (.str []), (.str []), (.str []), (.str [75, 73, 76, 76]), (.str [85, 83, 82, 49]), (.str []), (.str [85, 83, 82, 50]), (.str [80, 73, 80, 69]), (.str [65, 76, 82, 77]), (.str [84, 69, 82, 77]), (.str []), (.str [67, 72, 76, 68]), (.str [67, 79, 78, 84]), (.str [83, 84, 79, 80]), (.str [84, 83, 84, 80])]) 0)) (.t 28), none, none⟩,
  ⟨(some 30), .load false 1 (.t 29), none, none⟩,
  ⟨(some 2), .mv (.t 30), none, none⟩]
def f21r9 : IC := .reg false [] f21o9 [2]
@[simp] theorem f21r9_run (tbl : TB) (fin : Fin) (K : List Fr) (e : Env) (H : List AO) : run tbl fin K f21r9 e H = regK tbl fin K [] f21o9 [2] e H := run_regK tbl fin K false [] f21o9 [2] e H rfl
@[simp] def f21o10 : List IOper := [
  ⟨(some 31), .mv (.t 4), none, none⟩,
  ⟨(some 32), .call (.c (.fn 26 [])) [(.t 31)], none, none⟩,
  ⟨(some 33), .bin .add (.c (.str [83, 105, 103, 110, 97, 108, 32])) (.t 32), none, none⟩,
  ⟨(some 2), .mv (.t 33), none, none⟩]
def f21r10 : IC := .reg false [] f21o10 [2]
@[simp] theorem f21r10_run (tbl : TB) (fin : Fin) (K : List Fr) (e : Env) (H : List AO) : run tbl fin K f21r10 e H = regK tbl fin K [] f21o10 [2] e H := run_regK tbl fin K false [] f21o10 [2] e H rfl
@[simp] def f21o11 : List IOper := [
  ⟨(some 35), .bin .eql (.t 10) (.c (.int .i64 2)), none, none⟩,
  ⟨(some 34), .mv (.t 35), none, none⟩]
def f21r11 : IC := .reg false [] f21o11 [34, 10]
@[simp] theorem f21r11_run (tbl : TB) (fin : Fin) (K : List Fr) (e : Env) (H : List AO) : run tbl fin K f21r11 e H = regK tbl fin K [] f21o11 [34, 10] e H := run_regK tbl fin K false [] f21o11 [34, 10] e H rfl
@[simp] def f21o12 : List IOper := [
  ⟨(some 2), .mv (.c (.str [83, 116, 111, 112, 112, 101, 100])), none, none⟩]
def f21r12 : IC := .reg false [] f21o12 [2]
@[simp] theorem f21r12_run (tbl : TB) (fin : Fin) (K : List Fr) (e : Env) (H : List AO) : run tbl fin K f21r12 e H = regK tbl fin K [] f21o12 [2] e H := run_regK tbl fin K false [] f21o12 [2] e H rfl
@[simp] def f21o13 : List IOper := [
  ⟨(some 37), .bin .eql (.t 10) (.c (.int .i64 3)), none, none⟩,
  ⟨(some 36), .mv (.t 37), none, none⟩]
def f21r13 : IC := .reg false [] f21o13 [36]
@[simp] theorem f21r13_run (tbl : TB) (fin : Fin) (K : List Fr) (e : Env) (H : List AO) : run tbl fin K f21r13 e H = regK tbl fin K [] f21o13 [36] e H := run_regK tbl fin K false [] f21o13 [36] e H rfl
@[simp] def f21o14 : List IOper := [
  ⟨(some 2), .mv (.c (.str [82, 117, 110, 110, 105, 110, 103])), none, none⟩]
def f21r14 : IC := .reg false [] f21o14 [2]
@[simp] theorem f21r14_run (tbl : TB) (fin : Fin) (K : List Fr) (e : Env) (H : List AO) : run tbl fin K f21r14 e H = regK tbl fin K [] f21o14 [2] e H := run_regK tbl fin K false [] f21o14 [2] e H rfl
@[simp] def f21o15 : List IOper := [
  ⟨(some 2), .mv (.c (.str [])), none, none⟩]
def f21r15 : IC := .reg false [] f21o15 [2]
@[simp] theorem f21r15_run (tbl : TB) (fin : Fin) (K : List Fr) (e : Env) (H : List AO) : run tbl fin K f21r15 e H = regK tbl fin K [] f21o15 [2] e H := run_regK tbl fin K false [] f21o15 [2] e H rfl
def f21body : IC := (.seq f21r0 (.seq f21r1 (.seq (.seq f21r2 (.block 0 (.seq f21r3 (.cond (.t 11) (.seq (.seq f21r4 (.cond (.t 14) (.seq f21r5 .ret) .skip)) (.seq f21r6 .ret)) (.seq f21r7 (.cond (.t 18) (.seq (.seq f21r8 (.cond (.t 27) (.seq f21r9 .ret) .skip)) (.seq f21r10 .ret)) (.seq f21r11 (.cond (.t 34) (.seq f21r12 .ret) (.seq f21r13 (.cond (.t 36) (.seq f21r14 .ret) .skip)))))))))) (.seq f21r15 .ret))))
def f21 : IFn := ⟨38, 1, [.tmp 2], f21body⟩
/- 22: jobshell/jobshellref22.Describe -/
@[simp] def f22o0 : List IOper := [
  ⟨(some 2), .mv (.c (.str [])), none, none⟩]
def f22r0 : IC := .reg false [] f22o0 [0]
@[simp] theorem f22r0_run (tbl : TB) (fin : Fin) (K : List Fr) (e : Env) (H : List AO) : run tbl fin K f22r0 e H = regK tbl fin K [] f22o0 [0] e H := run_regK tbl fin K false [] f22o0 [0] e H rfl
@[simp] def f22o1 : List IOper := [
  ⟨(some 6), .mv (.t 0), none, none⟩,
  ⟨(some 7), .call (.c (.fn 18 [])) [(.t 6)], none, none⟩,
  ⟨(some 5), .mv (.t 7), none, none⟩,
  ⟨(some 8), .ext (.t 5) 0, none, none⟩,
  ⟨(some 9), .ext (.t 5) 1, none, none⟩,
  ⟨(some 3), .mv (.t 8), none, none⟩,
  ⟨(some 4), .mv (.t 9), none, none⟩]
def f22r1 : IC := .reg false [] f22o1 [3, 4]
@[simp] theorem f22r1_run (tbl : TB) (fin : Fin) (K : List Fr) (e : Env) (H : List AO) : run tbl fin K f22r1 e H = regK tbl fin K [] f22o1 [3, 4] e H := run_regK tbl fin K false [] f22o1 [3, 4] e H rfl
@[simp] def f22o2 : List IOper := [
  ⟨(some 10), .mv (.t 3), none, none⟩]
def f22r2 : IC := .reg false [] f22o2 [10, 4]
@[simp] theorem f22r2_run (tbl : TB) (fin : Fin) (K : List Fr) (e : Env) (H : List AO) : run tbl fin K f22r2 e H = regK tbl fin K [] f22o2 [10, 4] e H := run_regK tbl fin K false [] f22o2 [10, 4] e H rfl
@[simp] def f22o3 : List IOper := [
  ⟨(some 12), .bin .eql (.t 10) (.c (.int .i64 0)), none, none⟩,
  ⟨(some 11), .mv (.t 12), none, none⟩]
def f22r3 : IC := .reg false [] f22o3 [11, 10, 4]
@[simp] theorem f22r3_run (tbl : TB) (fin : Fin) (K : List Fr) (e : Env) (H : List AO) : run tbl fin K f22r3 e H = regK tbl fin K [] f22o3 [11, 10, 4] e H := run_regK tbl fin K false [] f22o3 [11, 10, 4] e H rfl
@[simp] def f22o4 : List IOper := [
  ⟨(some 13), .mv (.t 4), none, none⟩,
  ⟨(some 14), .bin .eql (.t 13) (.c (.int .i64 0)), none, none⟩]
def f22r4 : IC := .reg false [] f22o4 [14, 4]
@[simp] theorem f22r4_run (tbl : TB) (fin : Fin) (K : List Fr) (e : Env) (H : List AO) : run tbl fin K f22r4 e H = regK tbl fin K [] f22o4 [14, 4] e H := run_regK tbl fin K false [] f22o4 [14, 4] e H rfl
@[simp] def f22o5 : List IOper := [
  ⟨(some 2), .mv (.c (.str [68, 111, 110, 101])), none, none⟩]
def f22r5 : IC := .reg false [] f22o5 [2]
@[simp] theorem f22r5_run (tbl : TB) (fin : Fin) (K : List Fr) (e : Env) (H : List AO) : run tbl fin K f22r5 e H = regK tbl fin K [] f22o5 [2] e H := run_regK tbl fin K false [] f22o5 [2] e H rfl
@[simp] def f22o6 : List IOper := [
  ⟨(some 15), .mv (.t 4), none, none⟩,
  ⟨(some 16), .call (.c (.fn 26 [])) [(.t 15)], none, none⟩,
  ⟨(some 17), .bin .add (.c (.str [69, 120, 105, 116, 32])) (.t 16), none, none⟩,
  ⟨(some 2), .mv (.t 17), none, none⟩]
def f22r6 : IC := .reg false [] f22o6 [2]
@[simp] theorem f22r6_run (tbl : TB) (fin : Fin) (K : List Fr) (e : Env) (H : List AO) : run tbl fin K f22r6 e H = regK tbl fin K [] f22o6 [2] e H := run_regK tbl fin K false [] f22o6 [2] e H rfl
@[simp] def f22o7 : List IOper := [
  ⟨(some 19), .bin .eql (.t 10) (.c (.int .i64 1)), none, none⟩,
  ⟨(some 18), .mv (.t 19), none, none⟩]
def f22r7 : IC := .reg false [] f22o7 [18, 10, 4]
@[simp] theorem f22r7_run (tbl : TB) (fin : Fin) (K : List Fr) (e : Env) (H : List AO) : run tbl fin K f22r7 e H = regK tbl fin K [] f22o7 [18, 10, 4] e H := run_regK tbl fin K false [] f22o7 [18, 10, 4] e H rfl
@[simp] def f22o8 : List IOper := [
  ⟨(some 20), .mv (.t 4), none, none⟩,
  ⟨(some 21), .call (.c (.fn 27 [])) [(.t 20)], none, none⟩,
  ⟨(some 2), .mv (.t 21), none, none⟩]
def f22r8 : IC := .reg false [] f22o8 [2]
@[simp] theorem f22r8_run (tbl : TB) (fin : Fin) (K : List Fr) (e : Env) (H : List AO) : run tbl fin K f22r8 e H = regK tbl fin K [] f22o8 [2] e H := run_regK tbl fin K false [] f22o8 [2] e H rfl
@[simp] def f22o9 : List IOper := [
  ⟨(some 23), .bin .eql (.t 10) (.c (.int .i64 2)), none, none⟩,
  ⟨(some 22), .mv (.t 23), none, none⟩]
def f22r9 : IC := .reg false [] f22o9 [22, 10]
@[simp] theorem f22r9_run (tbl : TB) (fin : Fin) (K : List Fr) (e : Env) (H : List AO) : run tbl fin K f22r9 e H = regK tbl fin K [] f22o9 [22, 10] e H := run_regK tbl fin K false [] f22o9 [22, 10] e H rfl
@[simp] def f22o10 : List IOper := [
  ⟨(some 2), .mv (.c (.str [83, 116, 111, 112, 112, 101, 100])), none, none⟩]
def f22r10 : IC := .reg false [] f22o10 [2]
@[simp] theorem f22r10_run (tbl : TB) (fin : Fin) (K : List Fr) (e : Env) (H : List AO) : run tbl fin K f22r10 e H = regK tbl fin K [] f22o10 [2] e H := run_regK tbl fin K false [] f22o10 [2] e H rfl
@[simp] def f22o11 : List IOper := [
  ⟨(some 25), .bin .eql (.t 10) (.c (.int .i64 3)), none, none⟩,
  ⟨(some 24), .mv (.t 25), none, none⟩]
def f22r11 : IC := .reg false [] f22o11 [24]
@[simp] theorem f22r11_run (tbl : TB) (fin : Fin) (K : List Fr) (e : Env) (H : List AO) : run tbl fin K f22r11 e H = regK tbl fin K [] f22o11 [24] e H := run_regK tbl fin K false [] f22o11 [24] e H rfl
@[simp] def f22o12 : List IOper := [
  ⟨(some 2), .mv (.c (.str [82, 117, 110, 110, 105, 110, 103])), none, none⟩]
def f22r12 : IC := .reg false [] f22o12 [2]
@[simp] theorem f22r12_run (tbl : TB) (fin : Fin) (K : List Fr) (e : Env) (H : List AO) : run tbl fin K f22r12 e H = regK tbl fin K [] f22o12 [2] e H := run_regK tbl fin K false [] f22o12 [2] e H rfl
@[simp] def f22o13 : List IOper := [
  ⟨(some 2), .mv (.c (.str [])), none, none⟩]
def f22r13 : IC := .reg false [] f22o13 [2]
@[simp] theorem f22r13_run (tbl : TB) (fin : Fin) (K : List Fr) (e : Env) (H : List AO) : run tbl fin K f22r13 e H = regK tbl fin K [] f22o13 [2] e H := run_regK tbl fin K false [] f22o13 [2] e H rfl
def f22body : IC := (.seq f22r0 (.seq f22r1 (.seq (.seq f22r2 (.block 0 (.seq f22r3 (.cond (.t 11) (.seq (.seq f22r4 (.cond (.t 14) (.seq f22r5 .ret) .skip)) (.seq f22r6 .ret)) (.seq f22r7 (.cond (.t 18) (.seq f22r8 .ret) (.seq f22r9 (.cond (.t 22) (.seq f22r10 .ret) (.seq f22r11 (.cond (.t 24) (.seq f22r12 .ret) .skip)))))))))) (.seq f22r13 .ret))))
def f22 : IFn := ⟨26, 1, [.tmp 2], f22body⟩
/- 23: jobshell/status.Ends -/
@[simp] def f23o0 : List IOper := [
  ⟨(some 6), .mv (.c (.bool false)), none, none⟩]
def f23r0 : IC := .reg false [] f23o0 [0, 1, 2]
@[simp] theorem f23r0_run (tbl : TB) (fin : Fin) (K : List Fr) (e : Env) (H : List AO) : run tbl fin K f23r0 e H = regK tbl fin K [] f23o0 [0, 1, 2] e H := run_regK tbl fin K false [] f23o0 [0, 1, 2] e H rfl
@[simp] def f23o1 : List IOper := [
  ⟨(some 7), .mv (.t 0), none, none⟩,
  ⟨(some 8), .bin .and (.t 7) (.c (.int .i64 1)), none, none⟩,
  ⟨(some 9), .bin .neq (.t 8) (.c (.int .i64 0)), none, none⟩,
  ⟨(some 10), .mv (.t 9), none, none⟩,
  ⟨(some 11), .mv (.t 1), (some (10, true)), none⟩,
  ⟨(some 12), .bin .neq (.t 11) (.c (.int .i64 0)), (some (10, true)), none⟩,
  ⟨(some 13), .pick (.t 10) (.t 12) (.c (.bool false)), none, none⟩,
  ⟨(some 14), .mv (.t 13), none, some [2, 14]⟩,
  ⟨(some 15), .mv (.t 2), (some (14, true)), none⟩,
  ⟨(some 16), .un .not (.t 15), (some (14, true)), none⟩,
  ⟨(some 17), .pick (.t 14) (.t 16) (.c (.bool false)), none, none⟩,
  ⟨(some 6), .mv (.t 17), none, none⟩]
def f23r1 : IC := .reg false [] f23o1 [6]
@[simp] theorem f23r1_run (tbl : TB) (fin : Fin) (K : List Fr) (e : Env) (H : List AO) : run tbl fin K f23r1 e H = regK tbl fin K [] f23o1 [6] e H := run_regK tbl fin K false [] f23o1 [6] e H rfl
def f23body : IC := (.seq f23r0 (.seq f23r1 .ret))
def f23 : IFn := ⟨18, 3, [.tmp 6], f23body⟩
/- 24: jobshell/jobshellref22.Ends -/
@[simp] def f24o0 : List IOper := [
  ⟨(some 6), .mv (.c (.bool false)), none, none⟩]
def f24r0 : IC := .reg false [] f24o0 [0, 1, 2]
@[simp] theorem f24r0_run (tbl : TB) (fin : Fin) (K : List Fr) (e : Env) (H : List AO) : run tbl fin K f24r0 e H = regK tbl fin K [] f24o0 [0, 1, 2] e H := run_regK tbl fin K false [] f24o0 [0, 1, 2] e H rfl
@[simp] def f24o1 : List IOper := [
  ⟨(some 7), .mv (.t 0), none, none⟩,
  ⟨(some 8), .bin .and (.t 7) (.c (.int .i64 1)), none, none⟩,
  ⟨(some 9), .bin .neq (.t 8) (.c (.int .i64 0)), none, none⟩,
  ⟨(some 10), .mv (.t 9), none, none⟩,
  ⟨(some 11), .mv (.t 1), (some (10, true)), none⟩,
  ⟨(some 12), .bin .neq (.t 11) (.c (.int .i64 0)), (some (10, true)), none⟩,
  ⟨(some 13), .pick (.t 10) (.t 12) (.c (.bool false)), none, none⟩,
  ⟨(some 14), .mv (.t 13), none, some [2, 14]⟩,
  ⟨(some 15), .mv (.t 2), (some (14, true)), none⟩,
  ⟨(some 16), .un .not (.t 15), (some (14, true)), none⟩,
  ⟨(some 17), .pick (.t 14) (.t 16) (.c (.bool false)), none, none⟩,
  ⟨(some 6), .mv (.t 17), none, none⟩]
def f24r1 : IC := .reg false [] f24o1 [6]
@[simp] theorem f24r1_run (tbl : TB) (fin : Fin) (K : List Fr) (e : Env) (H : List AO) : run tbl fin K f24r1 e H = regK tbl fin K [] f24o1 [6] e H := run_regK tbl fin K false [] f24o1 [6] e H rfl
def f24body : IC := (.seq f24r0 (.seq f24r1 .ret))
def f24 : IFn := ⟨18, 3, [.tmp 6], f24body⟩
/- 25: jobshell/status.bySignal -/
@[simp] def f25o0 : List IOper := [
  ⟨(some 4), .mv (.c (.int .i64 0)), none, none⟩]
def f25r0 : IC := .reg false [] f25o0 [1, 0]
@[simp] theorem f25r0_run (tbl : TB) (fin : Fin) (K : List Fr) (e : Env) (H : List AO) : run tbl fin K f25r0 e H = regK tbl fin K [] f25o0 [1, 0] e H := run_regK tbl fin K false [] f25o0 [1, 0] e H rfl
@[simp] def f25o1 : List IOper := [
  ⟨(some 5), .mv (.t 1), none, none⟩,
  ⟨(some 6), .bin .lss (.t 5) (.c (.int .i64 1)), none, none⟩,
  ⟨(some 7), .mv (.t 6), none, none⟩,
  ⟨(some 8), .mv (.t 1), (some (7, false)), none⟩,
  ⟨(some 9), .bin .gtr (.t 8) (.c (.int .i64 20)), (some (7, false)), none⟩,
  ⟨(some 10), .pick (.t 7) (.c (.bool true)) (.t 9), none, none⟩]
def f25r1 : IC := .reg false [] f25o1 [10, 1, 0]
@[simp] theorem f25r1_run (tbl : TB) (fin : Fin) (K : List Fr) (e : Env) (H : List AO) : run tbl fin K f25r1 e H = regK tbl fin K [] f25o1 [10, 1, 0] e H := run_regK tbl fin K false [] f25o1 [10, 1, 0] e H rfl
@[simp] def f25o2 : List IOper := [
  ⟨(some 4), .mv (.c (.int .i64 (-1))), none, none⟩]
def f25r2 : IC := .reg false [] f25o2 [4]
@[simp] theorem f25r2_run (tbl : TB) (fin : Fin) (K : List Fr) (e : Env) (H : List AO) : run tbl fin K f25r2 e H = regK tbl fin K [] f25o2 [4] e H := run_regK tbl fin K false [] f25o2 [4] e H rfl
@[simp] def f25o3 : List IOper := [
  ⟨(some 11), .mv (.t 0), none, none⟩,
  ⟨(some 12), .bin .mul (.t 11) (.c (.int .i64 256)), none, none⟩,
  ⟨(some 13), .mv (.t 1), none, none⟩,
  ⟨(some 14), .bin .add (.t 12) (.t 13), none, none⟩,
  ⟨(some 4), .mv (.t 14), none, none⟩]
def f25r3 : IC := .reg false [] f25o3 [4]
@[simp] theorem f25r3_run (tbl : TB) (fin : Fin) (K : List Fr) (e : Env) (H : List AO) : run tbl fin K f25r3 e H = regK tbl fin K [] f25o3 [4] e H := run_regK tbl fin K false [] f25o3 [4] e H rfl
def f25body : IC := (.seq f25r0 (.seq (.seq f25r1 (.cond (.t 10) (.seq f25r2 .ret) .skip)) (.seq f25r3 .ret)))
def f25 : IFn := ⟨15, 2, [.tmp 4], f25body⟩
/- 26: strconv.Itoa is met by a contract -/
/- 27: jobshell/jobshellref22.Word -/
@[simp] def f27o0 : List IOper := [
  ⟨(some 2), .mv (.c (.str [])), none, none⟩]
def f27r0 : IC := .reg false [] f27o0 [0]
@[simp] theorem f27r0_run (tbl : TB) (fin : Fin) (K : List Fr) (e : Env) (H : List AO) : run tbl fin K f27r0 e H = regK tbl fin K [] f27o0 [0] e H := run_regK tbl fin K false [] f27o0 [0] e H rfl
@[simp] def f27o1 : List IOper := [
  ⟨(some 3), .mv (.t 0), none, none⟩]
def f27r1 : IC := .reg false [] f27o1 [3, 0]
@[simp] theorem f27r1_run (tbl : TB) (fin : Fin) (K : List Fr) (e : Env) (H : List AO) : run tbl fin K f27r1 e H = regK tbl fin K [] f27o1 [3, 0] e H := run_regK tbl fin K false [] f27o1 [3, 0] e H rfl
@[simp] def f27o2 : List IOper := [
  ⟨(some 5), .bin .eql (.t 3) (.c (.int .i64 1)), none, none⟩,
  ⟨(some 4), .mv (.t 5), none, none⟩]
def f27r2 : IC := .reg false [] f27o2 [4, 3, 0]
@[simp] theorem f27r2_run (tbl : TB) (fin : Fin) (K : List Fr) (e : Env) (H : List AO) : run tbl fin K f27r2 e H = regK tbl fin K [] f27o2 [4, 3, 0] e H := run_regK tbl fin K false [] f27o2 [4, 3, 0] e H rfl
@[simp] def f27o3 : List IOper := [
  ⟨(some 2), .mv (.c (.str [72, 85, 80])), none, none⟩]
def f27r3 : IC := .reg false [] f27o3 [2]
@[simp] theorem f27r3_run (tbl : TB) (fin : Fin) (K : List Fr) (e : Env) (H : List AO) : run tbl fin K f27r3 e H = regK tbl fin K [] f27o3 [2] e H := run_regK tbl fin K false [] f27o3 [2] e H rfl
@[simp] def f27o4 : List IOper := [
  ⟨(some 7), .bin .eql (.t 3) (.c (.int .i64 2)), none, none⟩,
  ⟨(some 6), .mv (.t 7), none, none⟩]
def f27r4 : IC := .reg false [] f27o4 [6, 0, 3]
@[simp] theorem f27r4_run (tbl : TB) (fin : Fin) (K : List Fr) (e : Env) (H : List AO) : run tbl fin K f27r4 e H = regK tbl fin K [] f27o4 [6, 0, 3] e H := run_regK tbl fin K false [] f27o4 [6, 0, 3] e H rfl
@[simp] def f27o5 : List IOper := [
  ⟨(some 2), .mv (.c (.str [73, 78, 84])), none, none⟩]
def f27r5 : IC := .reg false [] f27o5 [2]
@[simp] theorem f27r5_run (tbl : TB) (fin : Fin) (K : List Fr) (e : Env) (H : List AO) : run tbl fin K f27r5 e H = regK tbl fin K [] f27o5 [2] e H := run_regK tbl fin K false [] f27o5 [2] e H rfl
@[simp] def f27o6 : List IOper := [
  ⟨(some 9), .bin .eql (.t 3) (.c (.int .i64 3)), none, none⟩,
  ⟨(some 8), .mv (.t 9), none, none⟩]
def f27r6 : IC := .reg false [] f27o6 [8, 3, 0]
@[simp] theorem f27r6_run (tbl : TB) (fin : Fin) (K : List Fr) (e : Env) (H : List AO) : run tbl fin K f27r6 e H = regK tbl fin K [] f27o6 [8, 3, 0] e H := run_regK tbl fin K false [] f27o6 [8, 3, 0] e H rfl
@[simp] def f27o7 : List IOper := [
  ⟨(some 2), .mv (.c (.str [81, 85, 73, 84])), none, none⟩]
def f27r7 : IC := .reg false [] f27o7 [2]
@[simp] theorem f27r7_run (tbl : TB) (fin : Fin) (K : List Fr) (e : Env) (H : List AO) : run tbl fin K f27r7 e H = regK tbl fin K [] f27o7 [2] e H := run_regK tbl fin K false [] f27o7 [2] e H rfl
@[simp] def f27o8 : List IOper := [
  ⟨(some 11), .bin .eql (.t 3) (.c (.int .i64 4)), none, none⟩,
  ⟨(some 10), .mv (.t 11), none, none⟩]
def f27r8 : IC := .reg false [] f27o8 [10, 0, 3]
@[simp] theorem f27r8_run (tbl : TB) (fin : Fin) (K : List Fr) (e : Env) (H : List AO) : run tbl fin K f27r8 e H = regK tbl fin K [] f27o8 [10, 0, 3] e H := run_regK tbl fin K false [] f27o8 [10, 0, 3] e H rfl
@[simp] def f27o9 : List IOper := [
  ⟨(some 2), .mv (.c (.str [84, 84, 73, 78])), none, none⟩]
def f27r9 : IC := .reg false [] f27o9 [2]
@[simp] theorem f27r9_run (tbl : TB) (fin : Fin) (K : List Fr) (e : Env) (H : List AO) : run tbl fin K f27r9 e H = regK tbl fin K [] f27o9 [2] e H := run_regK tbl fin K false [] f27o9 [2] e H rfl
@[simp] def f27o10 : List IOper := [
  ⟨(some 13), .bin .eql (.t 3) (.c (.int .i64 5)), none, none⟩,
  ⟨(some 12), .mv (.t 13), none, none⟩]
def f27r10 : IC := .reg false [] f27o10 [12, 3, 0]
@[simp] theorem f27r10_run (tbl : TB) (fin : Fin) (K : List Fr) (e : Env) (H : List AO) : run tbl fin K f27r10 e H = regK tbl fin K [] f27o10 [12, 3, 0] e H := run_regK tbl fin K false [] f27o10 [12, 3, 0] e H rfl
@[simp] def f27o11 : List IOper := [
  ⟨(some 2), .mv (.c (.str [84, 84, 79, 85])), none, none⟩]
def f27r11 : IC := .reg false [] f27o11 [2]
@[simp] theorem f27r11_run (tbl : TB) (fin : Fin) (K : List Fr) (e : Env) (H : List AO) : run tbl fin K f27r11 e H = regK tbl fin K [] f27o11 [2] e H := run_regK tbl fin K false [] f27o11 [2] e H rfl
@[simp] def f27o12 : List IOper := [
  ⟨(some 15), .bin .eql (.t 3) (.c (.int .i64 9)), none, none⟩,
  ⟨(some 14), .mv (.t 15), none, none⟩]
def f27r12 : IC := .reg false [] f27o12 [14, 0, 3]
@[simp] theorem f27r12_run (tbl : TB) (fin : Fin) (K : List Fr) (e : Env) (H : List AO) : run tbl fin K f27r12 e H = regK tbl fin K [] f27o12 [14, 0, 3] e H := run_regK tbl fin K false [] f27o12 [14, 0, 3] e H rfl
@[simp] def f27o13 : List IOper := [
  ⟨(some 2), .mv (.c (.str [75, 73, 76, 76])), none, none⟩]
def f27r13 : IC := .reg false [] f27o13 [2]
@[simp] theorem f27r13_run (tbl : TB) (fin : Fin) (K : List Fr) (e : Env) (H : List AO) : run tbl fin K f27r13 e H = regK tbl fin K [] f27o13 [2] e H := run_regK tbl fin K false [] f27o13 [2] e H rfl
@[simp] def f27o14 : List IOper := [
  ⟨(some 17), .bin .eql (.t 3) (.c (.int .i64 10)), none, none⟩,
  ⟨(some 16), .mv (.t 17), none, none⟩]
def f27r14 : IC := .reg false [] f27o14 [16, 3, 0]
@[simp] theorem f27r14_run (tbl : TB) (fin : Fin) (K : List Fr) (e : Env) (H : List AO) : run tbl fin K f27r14 e H = regK tbl fin K [] f27o14 [16, 3, 0] e H := run_regK tbl fin K false [] f27o14 [16, 3, 0] e H rfl
@[simp] def f27o15 : List IOper := [
  ⟨(some 2), .mv (.c (.str [85, 83, 82, 49])), none, none⟩]
def f27r15 : IC := .reg false [] f27o15 [2]
@[simp] theorem f27r15_run (tbl : TB) (fin : Fin) (K : List Fr) (e : Env) (H : List AO) : run tbl fin K f27r15 e H = regK tbl fin K [] f27o15 [2] e H := run_regK tbl fin K false [] f27o15 [2] e H rfl
@[simp] def f27o16 : List IOper := [
  ⟨(some 19), .bin .eql (.t 3) (.c (.int .i64 12)), none, none⟩,
  ⟨(some 18), .mv (.t 19), none, none⟩]
def f27r16 : IC := .reg false [] f27o16 [18, 0, 3]
@[simp] theorem f27r16_run (tbl : TB) (fin : Fin) (K : List Fr) (e : Env) (H : List AO) : run tbl fin K f27r16 e H = regK tbl fin K [] f27o16 [18, 0, 3] e H := run_regK tbl fin K false [] f27o16 [18, 0, 3] e H rfl
@[simp] def f27o17 : List IOper := [
  ⟨(some 2), .mv (.c (.str [85, 83, 82, 50])), none, none⟩]
def f27r17 : IC := .reg false [] f27o17 [2]
@[simp] theorem f27r17_run (tbl : TB) (fin : Fin) (K : List Fr) (e : Env) (H : List AO) : run tbl fin K f27r17 e H = regK tbl fin K [] f27o17 [2] e H := run_regK tbl fin K false [] f27o17 [2] e H rfl
@[simp] def f27o18 : List IOper := [
  ⟨(some 21), .bin .eql (.t 3) (.c (.int .i64 13)), none, none⟩,
  ⟨(some 20), .mv (.t 21), none, none⟩]
def f27r18 : IC := .reg false [] f27o18 [20, 3, 0]
@[simp] theorem f27r18_run (tbl : TB) (fin : Fin) (K : List Fr) (e : Env) (H : List AO) : run tbl fin K f27r18 e H = regK tbl fin K [] f27o18 [20, 3, 0] e H := run_regK tbl fin K false [] f27o18 [20, 3, 0] e H rfl
@[simp] def f27o19 : List IOper := [
  ⟨(some 2), .mv (.c (.str [80, 73, 80, 69])), none, none⟩]
def f27r19 : IC := .reg false [] f27o19 [2]
@[simp] theorem f27r19_run (tbl : TB) (fin : Fin) (K : List Fr) (e : Env) (H : List AO) : run tbl fin K f27r19 e H = regK tbl fin K [] f27o19 [2] e H := run_regK tbl fin K false [] f27o19 [2] e H rfl
@[simp] def f27o20 : List IOper := [
  ⟨(some 23), .bin .eql (.t 3) (.c (.int .i64 14)), none, none⟩,
  ⟨(some 22), .mv (.t 23), none, none⟩]
def f27r20 : IC := .reg false [] f27o20 [22, 0, 3]
@[simp] theorem f27r20_run (tbl : TB) (fin : Fin) (K : List Fr) (e : Env) (H : List AO) : run tbl fin K f27r20 e H = regK tbl fin K [] f27o20 [22, 0, 3] e H := run_regK tbl fin K false [] f27o20 [22, 0, 3] e H rfl
@[simp] def f27o21 : List IOper := [
  ⟨(some 2), .mv (.c (.str [65, 76, 82, 77])), none, none⟩]
def f27r21 : IC := .reg false [] f27o21 [2]
@[simp] theorem f27r21_run (tbl : TB) (fin : Fin) (K : List Fr) (e : Env) (H : List AO) : run tbl fin K f27r21 e H = regK tbl fin K [] f27o21 [2] e H := run_regK tbl fin K false [] f27o21 [2] e H rfl
@[simp] def f27o22 : List IOper := [
  ⟨(some 25), .bin .eql (.t 3) (.c (.int .i64 15)), none, none⟩,
  ⟨(some 24), .mv (.t 25), none, none⟩]
def f27r22 : IC := .reg false [] f27o22 [24, 3, 0]
@[simp] theorem f27r22_run (tbl : TB) (fin : Fin) (K : List Fr) (e : Env) (H : List AO) : run tbl fin K f27r22 e H = regK tbl fin K [] f27o22 [24, 3, 0] e H := run_regK tbl fin K false [] f27o22 [24, 3, 0] e H rfl
@[simp] def f27o23 : List IOper := [
  ⟨(some 2), .mv (.c (.str [84, 69, 82, 77])), none, none⟩]
def f27r23 : IC := .reg false [] f27o23 [2]
@[simp] theorem f27r23_run (tbl : TB) (fin : Fin) (K : List Fr) (e : Env) (H : List AO) : run tbl fin K f27r23 e H = regK tbl fin K [] f27o23 [2] e H := run_regK tbl fin K false [] f27o23 [2] e H rfl
@[simp] def f27o24 : List IOper := [
  ⟨(some 27), .bin .eql (.t 3) (.c (.int .i64 17)), none, none⟩,
  ⟨(some 26), .mv (.t 27), none, none⟩]
def f27r24 : IC := .reg false [] f27o24 [26, 0, 3]
@[simp] theorem f27r24_run (tbl : TB) (fin : Fin) (K : List Fr) (e : Env) (H : List AO) : run tbl fin K f27r24 e H = regK tbl fin K [] f27o24 [26, 0, 3] e H := run_regK tbl fin K false [] f27o24 [26, 0, 3] e H rfl
@[simp] def f27o25 : List IOper := [
  ⟨(some 2), .mv (.c (.str [67, 72, 76, 68])), none, none⟩]
def f27r25 : IC := .reg false [] f27o25 [2]
@[simp] theorem f27r25_run (tbl : TB) (fin : Fin) (K : List Fr) (e : Env) (H : List AO) : run tbl fin K f27r25 e H = regK tbl fin K [] f27o25 [2] e H := run_regK tbl fin K false [] f27o25 [2] e H rfl
@[simp] def f27o26 : List IOper := [
  ⟨(some 29), .bin .eql (.t 3) (.c (.int .i64 18)), none, none⟩,
  ⟨(some 28), .mv (.t 29), none, none⟩]
def f27r26 : IC := .reg false [] f27o26 [28, 3, 0]
@[simp] theorem f27r26_run (tbl : TB) (fin : Fin) (K : List Fr) (e : Env) (H : List AO) : run tbl fin K f27r26 e H = regK tbl fin K [] f27o26 [28, 3, 0] e H := run_regK tbl fin K false [] f27o26 [28, 3, 0] e H rfl
@[simp] def f27o27 : List IOper := [
  ⟨(some 2), .mv (.c (.str [67, 79, 78, 84])), none, none⟩]
def f27r27 : IC := .reg false [] f27o27 [2]
@[simp] theorem f27r27_run (tbl : TB) (fin : Fin) (K : List Fr) (e : Env) (H : List AO) : run tbl fin K f27r27 e H = regK tbl fin K [] f27o27 [2] e H := run_regK tbl fin K false [] f27o27 [2] e H rfl
@[simp] def f27o28 : List IOper := [
  ⟨(some 31), .bin .eql (.t 3) (.c (.int .i64 19)), none, none⟩,
  ⟨(some 30), .mv (.t 31), none, none⟩]
def f27r28 : IC := .reg false [] f27o28 [30, 0, 3]
@[simp] theorem f27r28_run (tbl : TB) (fin : Fin) (K : List Fr) (e : Env) (H : List AO) : run tbl fin K f27r28 e H = regK tbl fin K [] f27o28 [30, 0, 3] e H := run_regK tbl fin K false [] f27o28 [30, 0, 3] e H rfl
@[simp] def f27o29 : List IOper := [
  ⟨(some 2), .mv (.c (.str [83, 84, 79, 80])), none, none⟩]
def f27r29 : IC := .reg false [] f27o29 [2]
@[simp] theorem f27r29_run (tbl : TB) (fin : Fin) (K : List Fr) (e : Env) (H : List AO) : run tbl fin K f27r29 e H = regK tbl fin K [] f27o29 [2] e H := run_regK tbl fin K false [] f27o29 [2] e H rfl
@[simp] def f27o30 : List IOper := [
  ⟨(some 33), .bin .eql (.t 3) (.c (.int .i64 20)), none, none⟩,
  ⟨(some 32), .mv (.t 33), none, none⟩]
def f27r30 : IC := .reg false [] f27o30 [32, 0]
@[simp] theorem f27r30_run (tbl : TB) (fin : Fin) (K : List Fr) (e : Env) (H : List AO) : run tbl fin K f27r30 e H = regK tbl fin K [] f27o30 [32, 0] e H := run_regK tbl fin K false [] f27o30 [32, 0] e H rfl
@[simp] def f27o31 : List IOper := [
  ⟨(some 2), .mv (.c (.str [84, 83, 84, 80])), none, none⟩]
def f27r31 : IC := .reg false [] f27o31 [2]
@[simp] theorem f27r31_run (tbl : TB) (fin : Fin) (K : List Fr) (e : Env) (H : List AO) : run tbl fin K f27r31 e H = regK tbl fin K [] f27o31 [2] e H := run_regK tbl fin K false [] f27o31 [2] e H rfl
@[simp] def f27o32 : List IOper := [
  ⟨(some 34), .mv (.t 0), none, none⟩,
  ⟨(some 35), .call (.c (.fn 26 [])) [(.t 34)], none, none⟩,
  ⟨(some 36), .bin .add (.c (.str [83, 105, 103, 110, 97, 108, 32])) (.t 35), none, none⟩,
  ⟨(some 2), .mv (.t 36), none, none⟩]
def f27r32 : IC := .reg false [] f27o32 [2]
@[simp] theorem f27r32_run (tbl : TB) (fin : Fin) (K : List Fr) (e : Env) (H : List AO) : run tbl fin K f27r32 e H = regK tbl fin K [] f27o32 [2] e H := run_regK tbl fin K false [] f27o32 [2] e H rfl
def f27body : IC := (.seq f27r0 (.seq (.seq f27r1 (.block 0 (.seq f27r2 (.cond (.t 4) (.seq f27r3 .ret) (.seq f27r4 (.cond (.t 6) (.seq f27r5 .ret) (.seq f27r6 (.cond (.t 8) (.seq f27r7 .ret) (.seq f27r8 (.cond (.t 10) (.seq f27r9 .ret) (.seq f27r10 (.cond (.t 12) (.seq f27r11 .ret) (.seq f27r12 (.cond (.t 14) (.seq f27r13 .ret) (.seq f27r14 (.cond (.t 16) (.seq f27r15 .ret) (.seq f27r16 (.cond (.t 18) (.seq f27r17 .ret) (.seq f27r18 (.cond (.t 20) (.seq f27r19 .ret) (.seq f27r20 (.cond (.t 22) (.seq f27r21 .ret) (.seq f27r22 (.cond (.t 24) (.seq f27r23 .ret) (.seq f27r24 (.cond (.t 26) (.seq f27r25 .ret) (.seq f27r26 (.cond (.t 28) (.seq f27r27 .ret) (.seq f27r28 (.cond (.t 30) (.seq f27r29 .ret) (.seq f27r30 (.cond (.t 32) (.seq f27r31 .ret) .skip)))))))))))))))))))))))))))))))) (.seq f27r32 .ret)))
def f27 : IFn := ⟨37, 1, [.tmp 2], f27body⟩
def tblF : Nat → Option IFn
  | 2 => some f2
  | 3 => some f3
  | 4 => some f4
  | 5 => some f5
  | 6 => some f6
  | 7 => some f7
  | 8 => some f8
  | 9 => some f9
  | 10 => some f10
  | 11 => some f11
  | 12 => some f12
  | 13 => some f13
  | 14 => some f14
  | 15 => some f15
  | 16 => some f16
  | 17 => some f17
  | 18 => some f18
  | 19 => some f19
  | 20 => some f20
  | 21 => some f21
  | 22 => some f22
  | 23 => some f23
  | 24 => some f24
  | 25 => some f25
  | 27 => some f27
  | _ => none
theorem tbl2 : tblF 2 = some f2 := rfl
theorem tbl3 : tblF 3 = some f3 := rfl
theorem tbl4 : tblF 4 = some f4 := rfl
theorem tbl5 : tblF 5 = some f5 := rfl
theorem tbl6 : tblF 6 = some f6 := rfl
theorem tbl7 : tblF 7 = some f7 := rfl
theorem tbl8 : tblF 8 = some f8 := rfl
theorem tbl9 : tblF 9 = some f9 := rfl
theorem tbl10 : tblF 10 = some f10 := rfl
theorem tbl11 : tblF 11 = some f11 := rfl
theorem tbl12 : tblF 12 = some f12 := rfl
theorem tbl13 : tblF 13 = some f13 := rfl
theorem tbl14 : tblF 14 = some f14 := rfl
theorem tbl15 : tblF 15 = some f15 := rfl
theorem tbl16 : tblF 16 = some f16 := rfl
theorem tbl17 : tblF 17 = some f17 := rfl
theorem tbl18 : tblF 18 = some f18 := rfl
theorem tbl19 : tblF 19 = some f19 := rfl
theorem tbl20 : tblF 20 = some f20 := rfl
theorem tbl21 : tblF 21 = some f21 := rfl
theorem tbl22 : tblF 22 = some f22 := rfl
theorem tbl23 : tblF 23 = some f23 := rfl
theorem tbl24 : tblF 24 = some f24 := rfl
theorem tbl25 : tblF 25 = some f25 := rfl
theorem tbl27 : tblF 27 = some f27 := rfl
theorem ok2 : cFn Tryd.prog cfg 2 = some f2 := by kernel_rfl
theorem ok3 : cFn Tryd.prog cfg 3 = some f3 := by kernel_rfl
theorem ok4 : cFn Tryd.prog cfg 4 = some f4 := by kernel_rfl
theorem ok5 : cFn Tryd.prog cfg 5 = some f5 := by kernel_rfl
theorem ok6 : cFn Tryd.prog cfg 6 = some f6 := by kernel_rfl
theorem ok7 : cFn Tryd.prog cfg 7 = some f7 := by kernel_rfl
theorem ok8 : cFn Tryd.prog cfg 8 = some f8 := by kernel_rfl
theorem ok9 : cFn Tryd.prog cfg 9 = some f9 := by kernel_rfl
theorem ok10 : cFn Tryd.prog cfg 10 = some f10 := by kernel_rfl
theorem ok11 : cFn Tryd.prog cfg 11 = some f11 := by kernel_rfl
theorem ok12 : cFn Tryd.prog cfg 12 = some f12 := by kernel_rfl
theorem ok13 : cFn Tryd.prog cfg 13 = some f13 := by kernel_rfl
theorem ok14 : cFn Tryd.prog cfg 14 = some f14 := by kernel_rfl
theorem ok15 : cFn Tryd.prog cfg 15 = some f15 := by kernel_rfl
theorem ok16 : cFn Tryd.prog cfg 16 = some f16 := by kernel_rfl
theorem ok17 : cFn Tryd.prog cfg 17 = some f17 := by kernel_rfl
theorem ok18 : cFn Tryd.prog cfg 18 = some f18 := by kernel_rfl
theorem ok19 : cFn Tryd.prog cfg 19 = some f19 := by kernel_rfl
theorem ok20 : cFn Tryd.prog cfg 20 = some f20 := by kernel_rfl
theorem ok21 : cFn Tryd.prog cfg 21 = some f21 := by kernel_rfl
theorem ok22 : cFn Tryd.prog cfg 22 = some f22 := by kernel_rfl
theorem ok23 : cFn Tryd.prog cfg 23 = some f23 := by kernel_rfl
theorem ok24 : cFn Tryd.prog cfg 24 = some f24 := by kernel_rfl
theorem ok25 : cFn Tryd.prog cfg 25 = some f25 := by kernel_rfl
theorem ok27 : cFn Tryd.prog cfg 27 = some f27 := by kernel_rfl
theorem tbl_ok (f : Nat) (fn : IFn) (h : tblF f = some fn) : cFn Tryd.prog cfg f = some fn := by
  unfold tblF at h
  split at h
  · injection h with h; subst h; exact ok2
  · injection h with h; subst h; exact ok3
  · injection h with h; subst h; exact ok4
  · injection h with h; subst h; exact ok5
  · injection h with h; subst h; exact ok6
  · injection h with h; subst h; exact ok7
  · injection h with h; subst h; exact ok8
  · injection h with h; subst h; exact ok9
  · injection h with h; subst h; exact ok10
  · injection h with h; subst h; exact ok11
  · injection h with h; subst h; exact ok12
  · injection h with h; subst h; exact ok13
  · injection h with h; subst h; exact ok14
  · injection h with h; subst h; exact ok15
  · injection h with h; subst h; exact ok16
  · injection h with h; subst h; exact ok17
  · injection h with h; subst h; exact ok18
  · injection h with h; subst h; exact ok19
  · injection h with h; subst h; exact ok20
  · injection h with h; subst h; exact ok21
  · injection h with h; subst h; exact ok22
  · injection h with h; subst h; exact ok23
  · injection h with h; subst h; exact ok24
  · injection h with h; subst h; exact ok25
  · injection h with h; subst h; exact ok27
  · cases h
end Go.Proofs.YtgcidbdffjgemaaDoor
