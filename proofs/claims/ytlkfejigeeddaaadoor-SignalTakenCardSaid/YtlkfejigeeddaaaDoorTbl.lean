/- The interpreter's form of this seat's functions (printed by a program out of the translation), and that the translation gives just this. No condition. -/
import Derived.Test.YtlkfejigeeddaaaDoorPi24
import Derived.Test.YtlkfejigeeddaaaDoorProg
import Derived.KernelRfl
namespace Go.Proofs.YtlkfejigeeddaaaDoor
open Go.PI
def gl2 : AV := (.agg [(.int .u8 0), (.int .u8 1), (.int .u8 28), (.int .u8 2), (.int .u8 29), (.int .u8 14), (.int .u8 24), (.int .u8 3), (.int .u8 30), (.int .u8 22), (.int .u8 20), (.int .u8 15), (.int .u8 25), (.int .u8 17), (.int .u8 4), (.int .u8 8), (.int .u8 31), (.int .u8 27), (.int .u8 13), (.int .u8 23), (.int .u8 21), (.int .u8 19), (.int .u8 16), (.int .u8 7), (.int .u8 26), (.int .u8 12), (.int .u8 18), (.int .u8 6), (.int .u8 11), (.int .u8 5), (.int .u8 10), (.int .u8 9)])
def gl3 : AV := (.agg [(.int .u8 0), (.int .u8 1), (.int .u8 56), (.int .u8 2), (.int .u8 57), (.int .u8 49), (.int .u8 28), (.int .u8 3), (.int .u8 61), (.int .u8 58), (.int .u8 42), (.int .u8 50), (.int .u8 38), (.int .u8 29), (.int .u8 17), (.int .u8 4), (.int .u8 62), (.int .u8 47), (.int .u8 59), (.int .u8 36), (.int .u8 45), (.int .u8 43), (.int .u8 51), (.int .u8 22), (.int .u8 53), (.int .u8 39), (.int .u8 33), (.int .u8 30), (.int .u8 24), (.int .u8 18), (.int .u8 12), (.int .u8 5), (.int .u8 63), (.int .u8 55), (.int .u8 48), (.int .u8 27), (.int .u8 60), (.int .u8 41), (.int .u8 37), (.int .u8 16), (.int .u8 46), (.int .u8 35), (.int .u8 44), (.int .u8 21), (.int .u8 52), (.int .u8 32), (.int .u8 23), (.int .u8 11), (.int .u8 54), (.int .u8 26), (.int .u8 40), (.int .u8 15), (.int .u8 34), (.int .u8 20), (.int .u8 31), (.int .u8 10), (.int .u8 25), (.int .u8 14), (.int .u8 19), (.int .u8 9), (.int .u8 13), (.int .u8 8), (.int .u8 7), (.int .u8 6)])
def gl1 : AV := (.agg [(.int .u64 1), (.int .u64 10), (.int .u64 100), (.int .u64 1000), (.int .u64 10000), (.int .u64 100000), (.int .u64 1000000), (.int .u64 10000000), (.int .u64 100000000), (.int .u64 1000000000), (.int .u64 10000000000), (.int .u64 100000000000), (.int .u64 1000000000000), (.int .u64 10000000000000), (.int .u64 100000000000000), (.int .u64 1000000000000000), (.int .u64 10000000000000000), (.int .u64 100000000000000000), (.int .u64 1000000000000000000), (.int .u64 10000000000000000000)])
def gl0 : AV := (.agg [(.str []), (.str [72, 85, 80]), (.str [73, 78, 84]), (.str [81, 85, 73, 84]), (.str [84, 84, 73, 78]), (.str [84, 84, 79, 85]), (.str []), (.str []), (.str []), (.str [75, 73, 76, 76]), (.str [85, 83, 82, 49]), (.str []), (.str [85, 83, 82, 50]), (.str [80, 73, 80, 69]), (.str [65, 76, 82, 77]), (.str [84, 69, 82, 77]), (.str []), (.str [67, 72, 76, 68]), (.str [67, 79, 78, 84]), (.str [83, 84, 79, 80]), (.str [84, 83, 84, 80])])
def gl : Nat → Option AV
  | 2 => some gl2
  | 3 => some gl3
  | 1 => some gl1
  | 0 => some gl0
  | _ => none
def cfg : Cfg := ⟨gl, fun f => [41, 44, 45, 48, 53, 54, 55].contains f⟩
/- 2: gosem.cut.init -/
@[simp] def f2o0 : List IOper := [
  ⟨(some 0), .call (.c (.fn 1 [])) [], none, none⟩]
def f2r0 : IC := .reg false [] f2o0 []
@[simp] theorem f2r0_run (tbl : TB) (fin : Fin) (K : List Fr) (e : Env) (H : List AO) : run tbl fin K f2r0 e H = regK tbl fin K [] f2o0 [] e H := run_regK tbl fin K false [] f2o0 [] e H rfl
def f2body : IC := f2r0
def f2 : IFn := ⟨1, 0, [], f2body⟩
/- 3: jobshell/jobshelllaw25.SignalNames -/
@[simp] def f3o0 : List IOper := [
  ⟨(some 4), .mv (.c (.bool false)), none, none⟩]
def f3r0 : IC := .reg false [] f3o0 [0, 1]
@[simp] theorem f3r0_run (tbl : TB) (fin : Fin) (K : List Fr) (e : Env) (H : List AO) : run tbl fin K f3r0 e H = regK tbl fin K [] f3o0 [0, 1] e H := run_regK tbl fin K false [] f3o0 [0, 1] e H rfl
@[simp] def f3o1 : List IOper := [
  ⟨(some 9), .mv (.t 1), none, none⟩,
  ⟨(some 10), .slen (.t 9), none, none⟩,
  ⟨(some 11), .bin .gtr (.t 10) (.c (.int .i64 100)), none, none⟩]
def f3r1 : IC := .reg false [] f3o1 [11, 0, 1]
@[simp] theorem f3r1_run (tbl : TB) (fin : Fin) (K : List Fr) (e : Env) (H : List AO) : run tbl fin K f3r1 e H = regK tbl fin K [] f3o1 [11, 0, 1] e H := run_regK tbl fin K false [] f3o1 [11, 0, 1] e H rfl
@[simp] def f3o2 : List IOper := [
  ⟨(some 12), .call (.c (.fn 10 [])) [], none, none⟩,
  ⟨(some 4), .mv (.t 12), none, none⟩]
def f3r2 : IC := .reg false [] f3o2 [4]
@[simp] theorem f3r2_run (tbl : TB) (fin : Fin) (K : List Fr) (e : Env) (H : List AO) : run tbl fin K f3r2 e H = regK tbl fin K [] f3o2 [4] e H := run_regK tbl fin K false [] f3o2 [4] e H rfl
@[simp] def f3o3 : List IOper := [
  ⟨(some 14), .mv (.t 1), none, none⟩,
  ⟨(some 15), .call (.c (.fn 11 [])) [(.t 14)], none, none⟩,
  ⟨(some 13), .mv (.t 15), none, none⟩,
  ⟨(some 16), .ext (.t 13) 0, none, none⟩,
  ⟨(some 17), .ext (.t 13) 1, none, none⟩,
  ⟨(some 5), .mv (.t 16), none, none⟩,
  ⟨(some 6), .mv (.t 17), none, none⟩]
def f3r3 : IC := .reg false [] f3o3 [1, 0, 5, 6]
@[simp] theorem f3r3_run (tbl : TB) (fin : Fin) (K : List Fr) (e : Env) (H : List AO) : run tbl fin K f3r3 e H = regK tbl fin K [] f3o3 [1, 0, 5, 6] e H := run_regK tbl fin K false [] f3o3 [1, 0, 5, 6] e H rfl
@[simp] def f3o4 : List IOper := [
  ⟨(some 19), .mv (.t 1), none, none⟩,
  ⟨(some 20), .call (.c (.fn 12 [])) [(.t 19)], none, none⟩,
  ⟨(some 18), .mv (.t 20), none, none⟩,
  ⟨(some 21), .ext (.t 18) 0, none, none⟩,
  ⟨(some 22), .ext (.t 18) 1, none, none⟩,
  ⟨(some 7), .mv (.t 21), none, none⟩,
  ⟨(some 8), .mv (.t 22), none, none⟩]
def f3r4 : IC := .reg false [] f3o4 [0, 5, 7, 6, 8]
@[simp] theorem f3r4_run (tbl : TB) (fin : Fin) (K : List Fr) (e : Env) (H : List AO) : run tbl fin K f3r4 e H = regK tbl fin K [] f3o4 [0, 5, 7, 6, 8] e H := run_regK tbl fin K false [] f3o4 [0, 5, 7, 6, 8] e H rfl
@[simp] def f3o5 : List IOper := [
  ⟨(some 23), .mv (.t 0), none, none⟩,
  ⟨(some 24), .call (.c (.fn 13 [])) [(.t 23)], none, none⟩,
  ⟨(some 25), .mv (.t 0), none, none⟩,
  ⟨(some 26), .call (.c (.fn 14 [])) [(.t 25)], none, none⟩,
  ⟨(some 27), .bin .eql (.t 24) (.t 26), none, none⟩,
  ⟨(some 28), .mv (.t 27), none, none⟩,
  ⟨(some 29), .mv (.t 0), (some (28, true)), none⟩,
  ⟨(some 30), .call (.c (.fn 15 [])) [(.t 29)], (some (28, true)), some [0, 30, 28, 5, 7, 6, 8]⟩,
  ⟨(some 31), .mv (.t 0), (some (28, true)), none⟩,
  ⟨(some 32), .call (.c (.fn 16 [])) [(.t 31)], (some (28, true)), none⟩,
  ⟨(some 33), .bin .eql (.t 30) (.t 32), (some (28, true)), none⟩,
  ⟨(some 34), .pick (.t 28) (.t 33) (.c (.bool false)), none, none⟩,
  ⟨(some 35), .mv (.t 34), none, none⟩,
  ⟨(some 36), .mv (.t 5), (some (35, true)), none⟩,
  ⟨(some 37), .mv (.t 7), (some (35, true)), none⟩,
  ⟨(some 38), .bin .eql (.t 36) (.t 37), (some (35, true)), some [38, 35, 6, 8]⟩,
  ⟨(some 39), .pick (.t 35) (.t 38) (.c (.bool false)), none, none⟩,
  ⟨(some 40), .mv (.t 39), none, none⟩,
  ⟨(some 41), .mv (.t 6), (some (40, true)), none⟩,
  ⟨(some 42), .mv (.t 8), (some (40, true)), none⟩,
  ⟨(some 43), .beq false (.t 41) (.t 42), (some (40, true)), none⟩,
  ⟨(some 44), .pick (.t 40) (.t 43) (.c (.bool false)), none, none⟩,
  ⟨(some 45), .mv (.t 44), none, none⟩,
  ⟨(some 46), .call (.c (.fn 10 [])) [], (some (45, true)), some [46, 45]⟩,
  ⟨(some 47), .pick (.t 45) (.t 46) (.c (.bool false)), none, none⟩,
  ⟨(some 4), .mv (.t 47), none, none⟩]
def f3r5 : IC := .reg false [] f3o5 [4]
@[simp] theorem f3r5_run (tbl : TB) (fin : Fin) (K : List Fr) (e : Env) (H : List AO) : run tbl fin K f3r5 e H = regK tbl fin K [] f3o5 [4] e H := run_regK tbl fin K false [] f3o5 [4] e H rfl
def f3body : IC := (.seq f3r0 (.seq (.seq f3r1 (.cond (.t 11) (.seq f3r2 .ret) .skip)) (.seq f3r3 (.seq f3r4 (.seq f3r5 .ret)))))
def f3 : IFn := ⟨48, 2, [.tmp 4], f3body⟩
/- 4: jobshell/jobshelllaw25.SignalSends -/
@[simp] def f4o0 : List IOper := [
  ⟨(some 2), .box 30 3 (.t 0), none, none⟩,
  ⟨(some 4), .mv (.c (.bool false)), none, none⟩]
def f4r0 : IC := .reg false [] f4o0 [1, 2]
@[simp] theorem f4r0_run (tbl : TB) (fin : Fin) (K : List Fr) (e : Env) (H : List AO) : run tbl fin K f4r0 e H = regK tbl fin K [] f4o0 [1, 2] e H := run_regK tbl fin K false [] f4o0 [1, 2] e H rfl
@[simp] def f4o1 : List IOper := [
  ⟨(some 11), .load true 3 (.t 2), none, none⟩,
  ⟨(some 12), .call (.c (.fn 17 [])) [(.t 11)], none, none⟩,
  ⟨(some 13), .un .not (.t 12), none, none⟩,
  ⟨(some 14), .mv (.t 13), none, none⟩,
  ⟨(some 15), .load true 3 (.t 2), (some (14, false)), none⟩,
  ⟨(some 16), .call (.c (.fn 18 [])) [(.t 15)], (some (14, false)), none⟩,
  ⟨(some 17), .bin .neq (.t 16) (.c (.int .i64 0)), (some (14, false)), none⟩,
  ⟨(some 18), .pick (.t 14) (.c (.bool true)) (.t 17), none, none⟩]
def f4r1 : IC := .reg false [] f4o1 [18, 1, 2]
@[simp] theorem f4r1_run (tbl : TB) (fin : Fin) (K : List Fr) (e : Env) (H : List AO) : run tbl fin K f4r1 e H = regK tbl fin K [] f4o1 [18, 1, 2] e H := run_regK tbl fin K false [] f4o1 [18, 1, 2] e H rfl
@[simp] def f4o2 : List IOper := [
  ⟨(some 19), .call (.c (.fn 10 [])) [], none, none⟩,
  ⟨(some 4), .mv (.t 19), none, none⟩]
def f4r2 : IC := .reg false [] f4o2 [4]
@[simp] theorem f4r2_run (tbl : TB) (fin : Fin) (K : List Fr) (e : Env) (H : List AO) : run tbl fin K f4r2 e H = regK tbl fin K [] f4o2 [4] e H := run_regK tbl fin K false [] f4o2 [4] e H rfl
@[simp] def f4o3 : List IOper := [
  ⟨(some 21), .load true 3 (.t 2), none, none⟩,
  ⟨(some 22), .call (.c (.fn 19 [])) [(.t 21)], none, none⟩,
  ⟨(some 20), .mv (.t 22), none, none⟩,
  ⟨(some 23), .ext (.t 20) 0, none, none⟩,
  ⟨(some 24), .ext (.t 20) 1, none, none⟩,
  ⟨(some 25), .ext (.t 20) 2, none, none⟩,
  ⟨(some 5), .new 30 3 (.agg [.e0, .e0, .e0]), none, none⟩,
  ⟨none, .store 3 (.t 5) (.t 23), none, none⟩,
  ⟨(some 6), .mv (.t 24), none, none⟩,
  ⟨(some 7), .mv (.t 25), none, none⟩]
def f4r3 : IC := .reg false [] f4o3 [2, 1, 5, 6, 7]
@[simp] theorem f4r3_run (tbl : TB) (fin : Fin) (K : List Fr) (e : Env) (H : List AO) : run tbl fin K f4r3 e H = regK tbl fin K [] f4o3 [2, 1, 5, 6, 7] e H := run_regK tbl fin K false [] f4o3 [2, 1, 5, 6, 7] e H rfl
@[simp] def f4o4 : List IOper := [
  ⟨(some 27), .load true 3 (.t 2), none, none⟩,
  ⟨(some 28), .call (.c (.fn 20 [])) [(.t 27)], none, none⟩,
  ⟨(some 26), .mv (.t 28), none, none⟩,
  ⟨(some 29), .ext (.t 26) 0, none, none⟩,
  ⟨(some 30), .ext (.t 26) 1, none, none⟩,
  ⟨(some 31), .ext (.t 26) 2, none, none⟩,
  ⟨(some 8), .new 30 3 (.agg [.e0, .e0, .e0]), none, none⟩,
  ⟨none, .store 3 (.t 8) (.t 29), none, none⟩,
  ⟨(some 9), .mv (.t 30), none, none⟩,
  ⟨(some 10), .mv (.t 31), none, none⟩]
def f4r4 : IC := .reg false [] f4o4 [2, 1, 5, 8, 6, 9, 7, 10]
@[simp] theorem f4r4_run (tbl : TB) (fin : Fin) (K : List Fr) (e : Env) (H : List AO) : run tbl fin K f4r4 e H = regK tbl fin K [] f4o4 [2, 1, 5, 8, 6, 9, 7, 10] e H := run_regK tbl fin K false [] f4o4 [2, 1, 5, 8, 6, 9, 7, 10] e H rfl
@[simp] def f4o5 : List IOper := [
  ⟨(some 32), .load true 3 (.t 2), none, none⟩,
  ⟨(some 33), .mv (.t 1), none, none⟩,
  ⟨(some 34), .call (.c (.fn 22 [])) [(.t 32), (.t 33)], none, none⟩,
  ⟨(some 35), .load true 3 (.t 2), none, none⟩,
  ⟨(some 36), .mv (.t 1), none, none⟩,
  ⟨(some 37), .call (.c (.fn 23 [])) [(.t 35), (.t 36)], none, none⟩,
  ⟨(some 38), .call (.c (.fn 21 [])) [(.t 34), (.t 37)], none, none⟩,
  ⟨(some 39), .mv (.t 38), none, none⟩,
  ⟨(some 40), .load true 3 (.t 5), (some (39, true)), none⟩,
  ⟨(some 41), .load true 3 (.t 8), (some (39, true)), none⟩,
  ⟨(some 42), .call (.c (.fn 21 [])) [(.t 40), (.t 41)], (some (39, true)), none⟩,
  ⟨(some 43), .pick (.t 39) (.t 42) (.c (.bool false)), none, none⟩,
  ⟨(some 44), .mv (.t 43), none, none⟩,
  ⟨(some 45), .mv (.t 6), (some (44, true)), none⟩,
  ⟨(some 46), .mv (.t 9), (some (44, true)), none⟩,
  ⟨(some 47), .bin .eql (.t 45) (.t 46), (some (44, true)), none⟩,
  ⟨(some 48), .pick (.t 44) (.t 47) (.c (.bool false)), none, none⟩,
  ⟨(some 49), .mv (.t 48), none, none⟩,
  ⟨(some 50), .mv (.t 7), (some (49, true)), none⟩,
  ⟨(some 51), .mv (.t 10), (some (49, true)), none⟩,
  ⟨(some 52), .bin .eql (.t 50) (.t 51), (some (49, true)), none⟩,
  ⟨(some 53), .pick (.t 49) (.t 52) (.c (.bool false)), none, none⟩,
  ⟨(some 54), .mv (.t 53), none, none⟩,
  ⟨(some 55), .call (.c (.fn 10 [])) [], (some (54, true)), none⟩,
  ⟨(some 56), .pick (.t 54) (.t 55) (.c (.bool false)), none, none⟩,
  ⟨(some 4), .mv (.t 56), none, none⟩]
def f4r5 : IC := .reg true [] f4o5 [4]
@[simp] theorem f4r5_run (tbl : TB) (fin : Fin) (K : List Fr) (e : Env) (H : List AO) : run tbl fin K f4r5 e H = regK tbl fin K [] f4o5 [4] e H := run_regK tbl fin K true [] f4o5 [4] e H rfl
def f4body : IC := (.seq f4r0 (.seq (.seq f4r1 (.cond (.t 18) (.seq f4r2 .ret) .skip)) (.seq f4r3 (.seq f4r4 (.seq f4r5 .ret)))))
def f4 : IFn := ⟨57, 2, [.tmp 4], f4body⟩
/- 5: jobshell/jobshelllaw25.SignalTaken -/
@[simp] def f5o0 : List IOper := [
  ⟨(some 2), .box 30 3 (.t 0), none, none⟩,
  ⟨(some 4), .mv (.c (.bool false)), none, none⟩]
def f5r0 : IC := .reg false [] f5o0 [2, 1]
@[simp] theorem f5r0_run (tbl : TB) (fin : Fin) (K : List Fr) (e : Env) (H : List AO) : run tbl fin K f5r0 e H = regK tbl fin K [] f5o0 [2, 1] e H := run_regK tbl fin K false [] f5o0 [2, 1] e H rfl
@[simp] def f5o1 : List IOper := [
  ⟨(some 17), .load true 3 (.t 2), none, none⟩,
  ⟨(some 18), .call (.c (.fn 17 [])) [(.t 17)], none, none⟩,
  ⟨(some 19), .un .not (.t 18), none, none⟩,
  ⟨(some 20), .mv (.t 19), none, none⟩,
  ⟨(some 21), .load true 3 (.t 2), (some (20, false)), none⟩,
  ⟨(some 22), .call (.c (.fn 18 [])) [(.t 21)], (some (20, false)), none⟩,
  ⟨(some 23), .bin .neq (.t 22) (.c (.int .i64 0)), (some (20, false)), none⟩,
  ⟨(some 24), .pick (.t 20) (.c (.bool true)) (.t 23), none, some [24, 2, 1]⟩,
  ⟨(some 25), .mv (.t 24), none, none⟩,
  ⟨(some 26), .mv (.t 1), (some (25, false)), none⟩,
  ⟨(some 27), .len (.t 26), (some (25, false)), none⟩,
  ⟨(some 28), .bin .gtr (.t 27) (.c (.int .i64 60)), (some (25, false)), none⟩,
  ⟨(some 29), .pick (.t 25) (.c (.bool true)) (.t 28), none, none⟩]
def f5r1 : IC := .reg false [] f5o1 [29, 2, 1]
@[simp] theorem f5r1_run (tbl : TB) (fin : Fin) (K : List Fr) (e : Env) (H : List AO) : run tbl fin K f5r1 e H = regK tbl fin K [] f5o1 [29, 2, 1] e H := run_regK tbl fin K false [] f5o1 [29, 2, 1] e H rfl
@[simp] def f5o2 : List IOper := [
  ⟨(some 30), .call (.c (.fn 10 [])) [], none, none⟩,
  ⟨(some 4), .mv (.t 30), none, none⟩]
def f5r2 : IC := .reg false [] f5o2 [4]
@[simp] theorem f5r2_run (tbl : TB) (fin : Fin) (K : List Fr) (e : Env) (H : List AO) : run tbl fin K f5r2 e H = regK tbl fin K [] f5o2 [4] e H := run_regK tbl fin K false [] f5o2 [4] e H rfl
@[simp] def f5o3 : List IOper := [
  ⟨(some 5), .mv (.c (.int .i64 0)), none, none⟩]
def f5r3 : IC := .reg false [] f5o3 [1, 2, 5]
@[simp] theorem f5r3_run (tbl : TB) (fin : Fin) (K : List Fr) (e : Env) (H : List AO) : run tbl fin K f5r3 e H = regK tbl fin K [] f5o3 [1, 2, 5] e H := run_regK tbl fin K false [] f5o3 [1, 2, 5] e H rfl
@[simp] def f5o4 : List IOper := [
  ⟨(some 31), .mv (.t 5), none, none⟩,
  ⟨(some 32), .mv (.t 1), none, none⟩,
  ⟨(some 33), .len (.t 32), none, none⟩,
  ⟨(some 34), .bin .lss (.t 31) (.t 33), none, none⟩]
def f5r4 : IC := .reg false [] f5o4 [34, 2, 1, 5]
@[simp] theorem f5r4_run (tbl : TB) (fin : Fin) (K : List Fr) (e : Env) (H : List AO) : run tbl fin K f5r4 e H = regK tbl fin K [] f5o4 [34, 2, 1, 5] e H := run_regK tbl fin K false [] f5o4 [34, 2, 1, 5] e H rfl
@[simp] def f5o5 : List IOper := [
  ⟨(some 37), .loadb true 3 (.t 2), none, none⟩,
  ⟨(some 38), .mv (.t 1), none, none⟩,
  ⟨(some 39), .mv (.t 5), none, none⟩,
  ⟨(some 40), .idx 1 (.t 38) (.t 39), none, none⟩,
  ⟨(some 41), .load false 1 (.t 40), none, none⟩,
  ⟨(some 42), .call (.c (.fn 22 [])) [(.t 37), (.t 41)], none, none⟩,
  ⟨(some 6), .newAt 6 30 3 (.agg [.e0, .e0, .e0]), none, none⟩,
  ⟨none, .store 3 (.t 6) (.t 42), none, none⟩]
def f5r5 : IC := .reg true [6] f5o5 [2, 1, 5, 6]
@[simp] theorem f5r5_run (tbl : TB) (fin : Fin) (K : List Fr) (e : Env) (H : List AO) : run tbl fin K f5r5 e H = regK tbl fin K [6] f5o5 [2, 1, 5, 6] e H := run_regK tbl fin K true [6] f5o5 [2, 1, 5, 6] e H rfl
@[simp] def f5o6 : List IOper := [
  ⟨(some 43), .load true 3 (.t 6), none, none⟩,
  ⟨(some 44), .mv (.t 1), none, none⟩,
  ⟨(some 45), .mv (.t 5), none, none⟩,
  ⟨(some 46), .idx 1 (.t 44) (.t 45), none, none⟩,
  ⟨(some 47), .load false 1 (.t 46), none, none⟩,
  ⟨(some 48), .call (.c (.fn 22 [])) [(.t 43), (.t 47)], none, none⟩,
  ⟨(some 49), .load true 3 (.t 6), none, none⟩,
  ⟨(some 50), .call (.c (.fn 21 [])) [(.t 48), (.t 49)], none, none⟩,
  ⟨(some 51), .un .not (.t 50), none, none⟩]
def f5r6 : IC := .reg true [] f5o6 [51, 2, 1, 5, 6]
@[simp] theorem f5r6_run (tbl : TB) (fin : Fin) (K : List Fr) (e : Env) (H : List AO) : run tbl fin K f5r6 e H = regK tbl fin K [] f5o6 [51, 2, 1, 5, 6] e H := run_regK tbl fin K true [] f5o6 [51, 2, 1, 5, 6] e H rfl
@[simp] def f5o7 : List IOper := [
  ⟨(some 4), .mv (.c (.bool false)), none, none⟩]
def f5r7 : IC := .reg false [] f5o7 [4]
@[simp] theorem f5r7_run (tbl : TB) (fin : Fin) (K : List Fr) (e : Env) (H : List AO) : run tbl fin K f5r7 e H = regK tbl fin K [] f5o7 [4] e H := run_regK tbl fin K false [] f5o7 [4] e H rfl
@[simp] def f5o8 : List IOper := [
  ⟨(some 52), .load true 3 (.t 6), none, none⟩,
  ⟨none, .store 3 (.t 2) (.t 52), none, none⟩]
def f5r8 : IC := .reg false [] f5o8 [5, 1, 2]
@[simp] theorem f5r8_run (tbl : TB) (fin : Fin) (K : List Fr) (e : Env) (H : List AO) : run tbl fin K f5r8 e H = regK tbl fin K [] f5o8 [5, 1, 2] e H := run_regK tbl fin K false [] f5o8 [5, 1, 2] e H rfl
@[simp] def f5o9 : List IOper := [
  ⟨(some 35), .mv (.t 5), none, none⟩,
  ⟨(some 36), .bin .add (.t 35) (.c (.int .i64 1)), none, none⟩,
  ⟨(some 5), .mv (.t 36), none, none⟩]
def f5r9 : IC := .reg false [] f5o9 [1, 2, 5]
@[simp] theorem f5r9_run (tbl : TB) (fin : Fin) (K : List Fr) (e : Env) (H : List AO) : run tbl fin K f5r9 e H = regK tbl fin K [] f5o9 [1, 2, 5] e H := run_regK tbl fin K false [] f5o9 [1, 2, 5] e H rfl
def f5b10 : IC := (.seq (.seq f5r4 (.cond (.t 34) .skip (.exit 0))) (.seq (.block 1 (.seq f5r5 (.seq (.seq f5r6 (.cond (.t 51) (.seq f5r7 .ret) .skip)) f5r8))) f5r9))
theorem f5b10_eq : f5b10 = (.seq (.seq f5r4 (.cond (.t 34) .skip (.exit 0))) (.seq (.block 1 (.seq f5r5 (.seq (.seq f5r6 (.cond (.t 51) (.seq f5r7 .ret) .skip)) f5r8))) f5r9)) := rfl
@[simp] def f5o11 : List IOper := [
  ⟨(some 53), .fld 0 (.t 2), none, none⟩,
  ⟨(some 54), .load false 1 (.t 53), none, none⟩,
  ⟨(some 55), .len (.t 54), none, none⟩,
  ⟨(some 7), .mv (.t 55), none, none⟩]
def f5r11 : IC := .reg false [] f5o11 [2, 7]
@[simp] theorem f5r11_run (tbl : TB) (fin : Fin) (K : List Fr) (e : Env) (H : List AO) : run tbl fin K f5r11 e H = regK tbl fin K [] f5o11 [2, 7] e H := run_regK tbl fin K false [] f5o11 [2, 7] e H rfl
@[simp] def f5o12 : List IOper := [
  ⟨(some 56), .mv (.t 7), none, none⟩,
  ⟨(some 57), .bin .gtr (.t 56) (.c (.int .i64 20)), none, none⟩]
def f5r12 : IC := .reg false [] f5o12 [57, 2, 7]
@[simp] theorem f5r12_run (tbl : TB) (fin : Fin) (K : List Fr) (e : Env) (H : List AO) : run tbl fin K f5r12 e H = regK tbl fin K [] f5o12 [57, 2, 7] e H := run_regK tbl fin K false [] f5o12 [57, 2, 7] e H rfl
@[simp] def f5o13 : List IOper := [
  ⟨(some 4), .mv (.c (.bool false)), none, none⟩]
def f5r13 : IC := .reg false [] f5o13 [4]
@[simp] theorem f5r13_run (tbl : TB) (fin : Fin) (K : List Fr) (e : Env) (H : List AO) : run tbl fin K f5r13 e H = regK tbl fin K [] f5o13 [4] e H := run_regK tbl fin K false [] f5o13 [4] e H rfl
@[simp] def f5o14 : List IOper := [
  ⟨(some 8), .mv (.c (.int .i64 0)), none, none⟩]
def f5r14 : IC := .reg false [] f5o14 [7, 2, 8]
@[simp] theorem f5r14_run (tbl : TB) (fin : Fin) (K : List Fr) (e : Env) (H : List AO) : run tbl fin K f5r14 e H = regK tbl fin K [] f5o14 [7, 2, 8] e H := run_regK tbl fin K false [] f5o14 [7, 2, 8] e H rfl
@[simp] def f5o15 : List IOper := [
  ⟨(some 9), .mv (.c (.int .i64 0)), none, none⟩]
def f5r15 : IC := .reg false [] f5o15 [7, 2, 9, 8]
@[simp] theorem f5r15_run (tbl : TB) (fin : Fin) (K : List Fr) (e : Env) (H : List AO) : run tbl fin K f5r15 e H = regK tbl fin K [] f5o15 [7, 2, 9, 8] e H := run_regK tbl fin K false [] f5o15 [7, 2, 9, 8] e H rfl
@[simp] def f5o16 : List IOper := [
  ⟨(some 58), .mv (.t 9), none, none⟩,
  ⟨(some 59), .mv (.t 7), none, none⟩,
  ⟨(some 60), .bin .lss (.t 58) (.t 59), none, none⟩]
def f5r16 : IC := .reg false [] f5o16 [60, 2, 7, 9, 8]
@[simp] theorem f5r16_run (tbl : TB) (fin : Fin) (K : List Fr) (e : Env) (H : List AO) : run tbl fin K f5r16 e H = regK tbl fin K [] f5o16 [60, 2, 7, 9, 8] e H := run_regK tbl fin K false [] f5o16 [60, 2, 7, 9, 8] e H rfl
@[simp] def f5o17 : List IOper := [
  ⟨(some 64), .load true 3 (.t 2), none, none⟩,
  ⟨(some 65), .call (.c (.fn 19 [])) [(.t 64)], none, none⟩,
  ⟨(some 63), .mv (.t 65), none, none⟩,
  ⟨(some 66), .ext (.t 63) 0, none, none⟩,
  ⟨(some 67), .ext (.t 63) 1, none, none⟩,
  ⟨(some 68), .ext (.t 63) 2, none, none⟩,
  ⟨(some 10), .new 30 3 (.agg [.e0, .e0, .e0]), none, none⟩,
  ⟨none, .store 3 (.t 10) (.t 66), none, none⟩,
  ⟨(some 11), .mv (.t 67), none, none⟩,
  ⟨(some 12), .mv (.t 68), none, none⟩]
def f5r17 : IC := .reg false [] f5o17 [2, 7, 9, 10, 11, 8]
@[simp] theorem f5r17_run (tbl : TB) (fin : Fin) (K : List Fr) (e : Env) (H : List AO) : run tbl fin K f5r17 e H = regK tbl fin K [] f5o17 [2, 7, 9, 10, 11, 8] e H := run_regK tbl fin K false [] f5o17 [2, 7, 9, 10, 11, 8] e H rfl
@[simp] def f5o18 : List IOper := [
  ⟨(some 69), .mv (.t 9), none, none⟩,
  ⟨(some 70), .bin .eql (.t 69) (.c (.int .i64 0)), none, none⟩,
  ⟨(some 71), .mv (.t 70), none, none⟩,
  ⟨(some 72), .mv (.t 11), (some (71, true)), none⟩,
  ⟨(some 73), .bin .eql (.t 72) (.c (.int .i64 9)), (some (71, true)), none⟩,
  ⟨(some 74), .pick (.t 71) (.t 73) (.c (.bool false)), none, none⟩,
  ⟨(some 13), .mv (.t 74), none, none⟩]
def f5r18 : IC := .reg false [] f5o18 [2, 7, 9, 10, 11, 8, 13]
@[simp] theorem f5r18_run (tbl : TB) (fin : Fin) (K : List Fr) (e : Env) (H : List AO) : run tbl fin K f5r18 e H = regK tbl fin K [] f5o18 [2, 7, 9, 10, 11, 8, 13] e H := run_regK tbl fin K false [] f5o18 [2, 7, 9, 10, 11, 8, 13] e H rfl
@[simp] def f5o19 : List IOper := [
  ⟨(some 75), .fld 0 (.t 2), none, none⟩,
  ⟨(some 76), .load false 1 (.t 75), none, none⟩,
  ⟨(some 77), .mv (.t 11), none, none⟩,
  ⟨(some 78), .call (.c (.fn 24 [])) [(.t 76), (.t 77)], none, none⟩,
  ⟨(some 79), .un .not (.t 78), none, none⟩,
  ⟨(some 80), .mv (.t 79), none, none⟩,
  ⟨(some 81), .fld 0 (.t 10), (some (80, false)), none⟩,
  ⟨(some 82), .load false 1 (.t 81), (some (80, false)), some [82, 80, 2, 7, 9, 10, 11, 8, 13]⟩,
  ⟨(some 83), .mv (.t 11), (some (80, false)), none⟩,
  ⟨(some 84), .call (.c (.fn 24 [])) [(.t 82), (.t 83)], (some (80, false)), none⟩,
  ⟨(some 85), .pick (.t 80) (.c (.bool true)) (.t 84), none, none⟩,
  ⟨(some 86), .mv (.t 85), none, none⟩,
  ⟨(some 87), .fld 0 (.t 10), (some (86, false)), none⟩,
  ⟨(some 88), .load false 1 (.t 87), (some (86, false)), none⟩,
  ⟨(some 89), .len (.t 88), (some (86, false)), none⟩,
  ⟨(some 90), .fld 0 (.t 2), (some (86, false)), some [90, 89, 86, 2, 7, 9, 10, 11, 8, 13]⟩,
  ⟨(some 91), .load false 1 (.t 90), (some (86, false)), none⟩,
  ⟨(some 92), .len (.t 91), (some (86, false)), none⟩,
  ⟨(some 93), .bin .sub (.t 92) (.c (.int .i64 1)), (some (86, false)), none⟩,
  ⟨(some 94), .bin .neq (.t 89) (.t 93), (some (86, false)), none⟩,
  ⟨(some 95), .pick (.t 86) (.c (.bool true)) (.t 94), none, none⟩,
  ⟨(some 96), .mv (.t 95), none, none⟩,
  ⟨(some 97), .mv (.t 13), (some (96, false)), none⟩,
  ⟨(some 98), .un .not (.t 97), (some (96, false)), some [98, 96, 2, 7, 9, 10, 11, 8, 13]⟩,
  ⟨(some 99), .mv (.t 98), (some (96, false)), none⟩,
  ⟨(some 100), .mv (.t 11), (some (99, true)), none⟩,
  ⟨(some 101), .mv (.t 8), (some (99, true)), none⟩,
  ⟨(some 102), .bin .leq (.t 100) (.t 101), (some (99, true)), none⟩,
  ⟨(some 103), .pick (.t 99) (.t 102) (.c (.bool false)), (some (96, false)), none⟩,
  ⟨(some 104), .pick (.t 96) (.c (.bool true)) (.t 103), none, none⟩,
  ⟨(some 105), .mv (.t 104), none, none⟩,
  ⟨(some 106), .mv (.t 13), (some (105, false)), some [106, 105, 2, 7, 9, 10, 11, 8, 13]⟩,
  ⟨(some 107), .un .not (.t 106), (some (105, false)), none⟩,
  ⟨(some 108), .mv (.t 107), (some (105, false)), none⟩,
  ⟨(some 109), .fld 0 (.t 2), (some (108, true)), none⟩,
  ⟨(some 110), .load false 1 (.t 109), (some (108, true)), none⟩,
  ⟨(some 111), .call (.c (.fn 24 [])) [(.t 110), (.c (.int .i64 9))], (some (108, true)), none⟩,
  ⟨(some 112), .pick (.t 108) (.t 111) (.c (.bool false)), (some (105, false)), none⟩,
  ⟨(some 113), .pick (.t 105) (.c (.bool true)) (.t 112), none, none⟩]
def f5r19 : IC := .reg false [] f5o19 [113, 2, 7, 9, 10, 11, 8, 13]
@[simp] theorem f5r19_run (tbl : TB) (fin : Fin) (K : List Fr) (e : Env) (H : List AO) : run tbl fin K f5r19 e H = regK tbl fin K [] f5o19 [113, 2, 7, 9, 10, 11, 8, 13] e H := run_regK tbl fin K false [] f5o19 [113, 2, 7, 9, 10, 11, 8, 13] e H rfl
@[simp] def f5o20 : List IOper := [
  ⟨(some 4), .mv (.c (.bool false)), none, none⟩]
def f5r20 : IC := .reg false [] f5o20 [4]
@[simp] theorem f5r20_run (tbl : TB) (fin : Fin) (K : List Fr) (e : Env) (H : List AO) : run tbl fin K f5r20 e H = regK tbl fin K [] f5o20 [4] e H := run_regK tbl fin K false [] f5o20 [4] e H rfl
@[simp] def f5o21 : List IOper := [
  ⟨(some 114), .mv (.t 13), none, none⟩,
  ⟨(some 115), .un .not (.t 114), none, none⟩]
def f5r21 : IC := .reg false [] f5o21 [115, 8, 11, 10, 9, 7, 2]
@[simp] theorem f5r21_run (tbl : TB) (fin : Fin) (K : List Fr) (e : Env) (H : List AO) : run tbl fin K f5r21 e H = regK tbl fin K [] f5o21 [115, 8, 11, 10, 9, 7, 2] e H := run_regK tbl fin K false [] f5o21 [115, 8, 11, 10, 9, 7, 2] e H rfl
@[simp] def f5o22 : List IOper := [
  ⟨(some 116), .mv (.t 11), none, none⟩,
  ⟨(some 8), .mv (.t 116), none, none⟩]
def f5r22 : IC := .reg false [] f5o22 [10, 9, 7, 2, 8]
@[simp] theorem f5r22_run (tbl : TB) (fin : Fin) (K : List Fr) (e : Env) (H : List AO) : run tbl fin K f5r22 e H = regK tbl fin K [] f5o22 [10, 9, 7, 2, 8] e H := run_regK tbl fin K false [] f5o22 [10, 9, 7, 2, 8] e H rfl
@[simp] def f5o23 : List IOper := [
  ⟨(some 117), .load true 3 (.t 10), none, none⟩,
  ⟨none, .store 3 (.t 2) (.t 117), none, none⟩]
def f5r23 : IC := .reg false [] f5o23 [9, 7, 2, 8]
@[simp] theorem f5r23_run (tbl : TB) (fin : Fin) (K : List Fr) (e : Env) (H : List AO) : run tbl fin K f5r23 e H = regK tbl fin K [] f5o23 [9, 7, 2, 8] e H := run_regK tbl fin K false [] f5o23 [9, 7, 2, 8] e H rfl
@[simp] def f5o24 : List IOper := [
  ⟨(some 61), .mv (.t 9), none, none⟩,
  ⟨(some 62), .bin .add (.t 61) (.c (.int .i64 1)), none, none⟩,
  ⟨(some 9), .mv (.t 62), none, none⟩]
def f5r24 : IC := .reg false [] f5o24 [7, 2, 9, 8]
@[simp] theorem f5r24_run (tbl : TB) (fin : Fin) (K : List Fr) (e : Env) (H : List AO) : run tbl fin K f5r24 e H = regK tbl fin K [] f5o24 [7, 2, 9, 8] e H := run_regK tbl fin K false [] f5o24 [7, 2, 9, 8] e H rfl
def f5b25 : IC := (.seq (.seq f5r16 (.cond (.t 60) .skip (.exit 2))) (.seq (.block 3 (.seq f5r17 (.seq f5r18 (.seq (.seq f5r19 (.cond (.t 113) (.seq f5r20 .ret) .skip)) (.seq (.seq f5r21 (.cond (.t 115) f5r22 .skip)) f5r23))))) f5r24))
theorem f5b25_eq : f5b25 = (.seq (.seq f5r16 (.cond (.t 60) .skip (.exit 2))) (.seq (.block 3 (.seq f5r17 (.seq f5r18 (.seq (.seq f5r19 (.cond (.t 113) (.seq f5r20 .ret) .skip)) (.seq (.seq f5r21 (.cond (.t 115) f5r22 .skip)) f5r23))))) f5r24)) := rfl
@[simp] def f5o26 : List IOper := [
  ⟨(some 119), .load true 3 (.t 2), none, none⟩,
  ⟨(some 120), .call (.c (.fn 19 [])) [(.t 119)], none, none⟩,
  ⟨(some 118), .mv (.t 120), none, none⟩,
  ⟨(some 121), .ext (.t 118) 0, none, none⟩,
  ⟨(some 122), .ext (.t 118) 1, none, none⟩,
  ⟨(some 123), .ext (.t 118) 2, none, none⟩,
  ⟨(some 14), .new 30 3 (.agg [.e0, .e0, .e0]), none, none⟩,
  ⟨none, .store 3 (.t 14) (.t 121), none, none⟩,
  ⟨(some 15), .mv (.t 122), none, none⟩,
  ⟨(some 16), .mv (.t 123), none, none⟩]
def f5r26 : IC := .reg false [] f5o26 [15, 16, 2, 14]
@[simp] theorem f5r26_run (tbl : TB) (fin : Fin) (K : List Fr) (e : Env) (H : List AO) : run tbl fin K f5r26 e H = regK tbl fin K [] f5o26 [15, 16, 2, 14] e H := run_regK tbl fin K false [] f5o26 [15, 16, 2, 14] e H rfl
@[simp] def f5o27 : List IOper := [
  ⟨(some 124), .mv (.t 15), none, none⟩,
  ⟨(some 125), .bin .eql (.t 124) (.c (.int .i64 0)), none, none⟩,
  ⟨(some 126), .mv (.t 125), none, none⟩,
  ⟨(some 127), .mv (.t 16), (some (126, true)), none⟩,
  ⟨(some 128), .bin .eql (.t 127) (.c (.int .i64 0)), (some (126, true)), none⟩,
  ⟨(some 129), .pick (.t 126) (.t 128) (.c (.bool false)), none, none⟩,
  ⟨(some 130), .mv (.t 129), none, none⟩,
  ⟨(some 131), .load true 3 (.t 2), (some (130, true)), some [14, 131, 130]⟩,
  ⟨(some 132), .load true 3 (.t 14), (some (130, true)), none⟩,
  ⟨(some 133), .call (.c (.fn 21 [])) [(.t 131), (.t 132)], (some (130, true)), none⟩,
  ⟨(some 134), .pick (.t 130) (.t 133) (.c (.bool false)), none, none⟩,
  ⟨(some 135), .mv (.t 134), none, none⟩,
  ⟨(some 136), .call (.c (.fn 10 [])) [], (some (135, true)), none⟩,
  ⟨(some 137), .pick (.t 135) (.t 136) (.c (.bool false)), none, none⟩,
  ⟨(some 4), .mv (.t 137), none, none⟩]
def f5r27 : IC := .reg false [] f5o27 [4]
@[simp] theorem f5r27_run (tbl : TB) (fin : Fin) (K : List Fr) (e : Env) (H : List AO) : run tbl fin K f5r27 e H = regK tbl fin K [] f5o27 [4] e H := run_regK tbl fin K false [] f5o27 [4] e H rfl
def f5body : IC := (.seq f5r0 (.seq (.seq f5r1 (.cond (.t 29) (.seq f5r2 .ret) .skip)) (.seq (.seq f5r3 (.block 0 (.loop [1, 2, 5] f5b10))) (.seq f5r11 (.seq (.seq f5r12 (.cond (.t 57) (.seq f5r13 .ret) .skip)) (.seq f5r14 (.seq (.seq f5r15 (.block 2 (.loop [7, 2, 9, 8] f5b25))) (.seq f5r26 (.seq f5r27 .ret)))))))))
def f5 : IFn := ⟨138, 2, [.tmp 4], f5body⟩
/- 6: jobshell/jobshelllaw25.SignalIgnored -/
@[simp] def f6o0 : List IOper := [
  ⟨(some 3), .box 30 3 (.t 0), none, none⟩,
  ⟨(some 6), .mv (.c (.bool false)), none, none⟩]
def f6r0 : IC := .reg false [] f6o0 [1, 2, 3]
@[simp] theorem f6r0_run (tbl : TB) (fin : Fin) (K : List Fr) (e : Env) (H : List AO) : run tbl fin K f6r0 e H = regK tbl fin K [] f6o0 [1, 2, 3] e H := run_regK tbl fin K false [] f6o0 [1, 2, 3] e H rfl
@[simp] def f6o1 : List IOper := [
  ⟨(some 12), .load true 3 (.t 3), none, none⟩,
  ⟨(some 13), .call (.c (.fn 17 [])) [(.t 12)], none, none⟩,
  ⟨(some 14), .un .not (.t 13), none, none⟩,
  ⟨(some 15), .mv (.t 14), none, none⟩,
  ⟨(some 16), .load true 3 (.t 3), (some (15, false)), none⟩,
  ⟨(some 17), .call (.c (.fn 18 [])) [(.t 16)], (some (15, false)), none⟩,
  ⟨(some 18), .bin .neq (.t 17) (.c (.int .i64 0)), (some (15, false)), none⟩,
  ⟨(some 19), .pick (.t 15) (.c (.bool true)) (.t 18), none, some [19, 1, 2, 3]⟩,
  ⟨(some 20), .mv (.t 19), none, none⟩,
  ⟨(some 21), .mv (.t 1), (some (20, false)), none⟩,
  ⟨(some 22), .call (.c (.fn 15 [])) [(.t 21)], (some (20, false)), none⟩,
  ⟨(some 23), .bin .eql (.t 22) (.c (.int .i64 0)), (some (20, false)), none⟩,
  ⟨(some 24), .mv (.t 23), (some (20, false)), none⟩,
  ⟨(some 25), .mv (.t 1), (some (24, true)), none⟩,
  ⟨(some 26), .bin .neq (.t 25) (.c (.int .i64 17)), (some (24, true)), none⟩,
  ⟨(some 27), .pick (.t 24) (.t 26) (.c (.bool false)), (some (20, false)), some [27, 20, 1, 2, 3]⟩,
  ⟨(some 28), .pick (.t 20) (.c (.bool true)) (.t 27), none, none⟩,
  ⟨(some 29), .mv (.t 28), none, none⟩,
  ⟨(some 30), .mv (.t 1), (some (29, false)), none⟩,
  ⟨(some 31), .bin .eql (.t 30) (.c (.int .i64 18)), (some (29, false)), none⟩,
  ⟨(some 32), .pick (.t 29) (.c (.bool true)) (.t 31), none, none⟩,
  ⟨(some 33), .mv (.t 32), none, none⟩,
  ⟨(some 34), .mv (.t 1), (some (33, false)), none⟩,
  ⟨(some 35), .bin .eql (.t 34) (.c (.int .i64 9)), (some (33, false)), some [35, 33, 1, 2, 3]⟩,
  ⟨(some 36), .pick (.t 33) (.c (.bool true)) (.t 35), none, none⟩,
  ⟨(some 37), .mv (.t 36), none, none⟩,
  ⟨(some 38), .mv (.t 1), (some (37, false)), none⟩,
  ⟨(some 39), .bin .eql (.t 38) (.c (.int .i64 19)), (some (37, false)), none⟩,
  ⟨(some 40), .pick (.t 37) (.c (.bool true)) (.t 39), none, none⟩]
def f6r1 : IC := .reg false [] f6o1 [40, 1, 2, 3]
@[simp] theorem f6r1_run (tbl : TB) (fin : Fin) (K : List Fr) (e : Env) (H : List AO) : run tbl fin K f6r1 e H = regK tbl fin K [] f6o1 [40, 1, 2, 3] e H := run_regK tbl fin K false [] f6o1 [40, 1, 2, 3] e H rfl
@[simp] def f6o2 : List IOper := [
  ⟨(some 41), .call (.c (.fn 10 [])) [], none, none⟩,
  ⟨(some 6), .mv (.t 41), none, none⟩]
def f6r2 : IC := .reg false [] f6o2 [6]
@[simp] theorem f6r2_run (tbl : TB) (fin : Fin) (K : List Fr) (e : Env) (H : List AO) : run tbl fin K f6r2 e H = regK tbl fin K [] f6o2 [6] e H := run_regK tbl fin K false [] f6o2 [6] e H rfl
@[simp] def f6o3 : List IOper := [
  ⟨(some 43), .load true 3 (.t 3), none, none⟩,
  ⟨(some 44), .mv (.t 1), none, none⟩,
  ⟨(some 45), .call (.c (.fn 25 [])) [(.t 43), (.t 44), (.c (.int .i64 1))], none, none⟩,
  ⟨(some 42), .mv (.t 45), none, none⟩,
  ⟨(some 46), .ext (.t 42) 0, none, none⟩,
  ⟨(some 47), .ext (.t 42) 1, none, none⟩,
  ⟨(some 7), .new 30 3 (.agg [.e0, .e0, .e0]), none, none⟩,
  ⟨none, .store 3 (.t 7) (.t 46), none, none⟩,
  ⟨(some 8), .mv (.t 47), none, none⟩]
def f6r3 : IC := .reg false [] f6o3 [7, 8, 2, 1]
@[simp] theorem f6r3_run (tbl : TB) (fin : Fin) (K : List Fr) (e : Env) (H : List AO) : run tbl fin K f6r3 e H = regK tbl fin K [] f6o3 [7, 8, 2, 1] e H := run_regK tbl fin K false [] f6o3 [7, 8, 2, 1] e H rfl
@[simp] def f6o4 : List IOper := [
  ⟨(some 48), .load true 3 (.t 7), none, none⟩,
  ⟨(some 49), .mv (.t 1), none, none⟩,
  ⟨(some 50), .call (.c (.fn 22 [])) [(.t 48), (.t 49)], none, none⟩,
  ⟨(some 9), .new 30 3 (.agg [.e0, .e0, .e0]), none, none⟩,
  ⟨none, .store 3 (.t 9) (.t 50), none, none⟩]
def f6r4 : IC := .reg false [] f6o4 [8, 9, 2, 1]
@[simp] theorem f6r4_run (tbl : TB) (fin : Fin) (K : List Fr) (e : Env) (H : List AO) : run tbl fin K f6r4 e H = regK tbl fin K [] f6o4 [8, 9, 2, 1] e H := run_regK tbl fin K false [] f6o4 [8, 9, 2, 1] e H rfl
@[simp] def f6o5 : List IOper := [
  ⟨(some 52), .load true 3 (.t 9), none, none⟩,
  ⟨(some 53), .mv (.t 1), none, none⟩,
  ⟨(some 54), .mv (.t 2), none, none⟩,
  ⟨(some 55), .call (.c (.fn 25 [])) [(.t 52), (.t 53), (.t 54)], none, none⟩,
  ⟨(some 51), .mv (.t 55), none, none⟩,
  ⟨(some 56), .ext (.t 51) 0, none, none⟩,
  ⟨(some 57), .ext (.t 51) 1, none, none⟩,
  ⟨(some 10), .new 30 3 (.agg [.e0, .e0, .e0]), none, none⟩,
  ⟨none, .store 3 (.t 10) (.t 56), none, none⟩,
  ⟨(some 11), .mv (.t 57), none, none⟩]
def f6r5 : IC := .reg false [] f6o5 [8, 9, 11, 2, 1, 10]
@[simp] theorem f6r5_run (tbl : TB) (fin : Fin) (K : List Fr) (e : Env) (H : List AO) : run tbl fin K f6r5 e H = regK tbl fin K [] f6o5 [8, 9, 11, 2, 1, 10] e H := run_regK tbl fin K false [] f6o5 [8, 9, 11, 2, 1, 10] e H rfl
@[simp] def f6o6 : List IOper := [
  ⟨(some 58), .mv (.t 8), none, none⟩,
  ⟨(some 59), .bin .neq (.t 58) (.c (.int .i64 0)), none, none⟩,
  ⟨(some 60), .mv (.t 59), none, none⟩,
  ⟨(some 61), .fld 0 (.t 9), (some (60, false)), none⟩,
  ⟨(some 62), .load false 1 (.t 61), (some (60, false)), none⟩,
  ⟨(some 63), .mv (.t 1), (some (60, false)), none⟩,
  ⟨(some 64), .call (.c (.fn 24 [])) [(.t 62), (.t 63)], (some (60, false)), none⟩,
  ⟨(some 65), .pick (.t 60) (.c (.bool true)) (.t 64), none, some [65, 11, 2, 1, 10]⟩,
  ⟨(some 66), .mv (.t 65), none, none⟩,
  ⟨(some 67), .fld 0 (.t 10), (some (66, false)), none⟩,
  ⟨(some 68), .load false 1 (.t 67), (some (66, false)), none⟩,
  ⟨(some 69), .mv (.t 1), (some (66, false)), none⟩,
  ⟨(some 70), .call (.c (.fn 24 [])) [(.t 68), (.t 69)], (some (66, false)), none⟩,
  ⟨(some 71), .pick (.t 66) (.c (.bool true)) (.t 70), none, none⟩,
  ⟨(some 72), .mv (.t 71), none, none⟩,
  ⟨(some 73), .mv (.t 11), (some (72, false)), some [73, 72, 2, 1, 10]⟩,
  ⟨(some 74), .bin .eql (.t 73) (.c (.int .i64 0)), (some (72, false)), none⟩,
  ⟨(some 75), .mv (.t 2), (some (72, false)), none⟩,
  ⟨(some 76), .bin .geq (.t 75) (.c (.int .i64 0)), (some (72, false)), none⟩,
  ⟨(some 77), .mv (.t 76), (some (72, false)), none⟩,
  ⟨(some 78), .mv (.t 2), (some (77, true)), none⟩,
  ⟨(some 79), .bin .leq (.t 78) (.c (.int .i64 2)), (some (77, true)), none⟩,
  ⟨(some 80), .pick (.t 77) (.t 79) (.c (.bool false)), (some (72, false)), none⟩,
  ⟨(some 81), .beq true (.t 74) (.t 80), (some (72, false)), some [81, 72, 2, 1, 10]⟩,
  ⟨(some 82), .pick (.t 72) (.c (.bool true)) (.t 81), none, none⟩]
def f6r6 : IC := .reg false [] f6o6 [82, 2, 1, 10]
@[simp] theorem f6r6_run (tbl : TB) (fin : Fin) (K : List Fr) (e : Env) (H : List AO) : run tbl fin K f6r6 e H = regK tbl fin K [] f6o6 [82, 2, 1, 10] e H := run_regK tbl fin K false [] f6o6 [82, 2, 1, 10] e H rfl
@[simp] def f6o7 : List IOper := [
  ⟨(some 6), .mv (.c (.bool false)), none, none⟩]
def f6r7 : IC := .reg false [] f6o7 [6]
@[simp] theorem f6r7_run (tbl : TB) (fin : Fin) (K : List Fr) (e : Env) (H : List AO) : run tbl fin K f6r7 e H = regK tbl fin K [] f6o7 [6] e H := run_regK tbl fin K false [] f6o7 [6] e H rfl
@[simp] def f6o8 : List IOper := [
  ⟨(some 83), .load true 3 (.t 10), none, none⟩,
  ⟨(some 84), .mv (.t 1), none, none⟩,
  ⟨(some 85), .call (.c (.fn 22 [])) [(.t 83), (.t 84)], none, none⟩,
  ⟨(some 86), .prt false 0 1 (.t 85), none, none⟩,
  ⟨(some 87), .mv (.t 1), none, none⟩,
  ⟨(some 88), .call (.c (.fn 24 [])) [(.t 86), (.t 87)], none, none⟩,
  ⟨(some 89), .mv (.t 2), none, none⟩,
  ⟨(some 90), .bin .eql (.t 89) (.c (.int .i64 0)), none, some [90, 2, 88]⟩,
  ⟨(some 91), .mv (.t 90), none, none⟩,
  ⟨(some 92), .mv (.t 2), (some (91, false)), none⟩,
  ⟨(some 93), .bin .eql (.t 92) (.c (.int .i64 2)), (some (91, false)), none⟩,
  ⟨(some 94), .pick (.t 91) (.c (.bool true)) (.t 93), none, none⟩,
  ⟨(some 95), .beq false (.t 88) (.t 94), none, none⟩,
  ⟨(some 96), .mv (.t 95), none, none⟩,
  ⟨(some 97), .call (.c (.fn 10 [])) [], (some (96, true)), none⟩,
  ⟨(some 98), .pick (.t 96) (.t 97) (.c (.bool false)), none, some [98]⟩,
  ⟨(some 6), .mv (.t 98), none, none⟩]
def f6r8 : IC := .reg false [] f6o8 [6]
@[simp] theorem f6r8_run (tbl : TB) (fin : Fin) (K : List Fr) (e : Env) (H : List AO) : run tbl fin K f6r8 e H = regK tbl fin K [] f6o8 [6] e H := run_regK tbl fin K false [] f6o8 [6] e H rfl
def f6body : IC := (.seq f6r0 (.seq (.seq f6r1 (.cond (.t 40) (.seq f6r2 .ret) .skip)) (.seq f6r3 (.seq f6r4 (.seq f6r5 (.seq (.seq f6r6 (.cond (.t 82) (.seq f6r7 .ret) .skip)) (.seq f6r8 .ret)))))))
def f6 : IFn := ⟨99, 3, [.tmp 6], f6body⟩
/- 7: jobshell/jobshelllaw25.SignalValid -/
@[simp] def f7o0 : List IOper := [
  ⟨(some 1), .box 30 3 (.t 0), none, none⟩,
  ⟨(some 2), .mv (.c (.bool false)), none, none⟩]
def f7r0 : IC := .reg false [] f7o0 [1]
@[simp] theorem f7r0_run (tbl : TB) (fin : Fin) (K : List Fr) (e : Env) (H : List AO) : run tbl fin K f7r0 e H = regK tbl fin K [] f7o0 [1] e H := run_regK tbl fin K false [] f7o0 [1] e H rfl
@[simp] def f7o1 : List IOper := [
  ⟨(some 3), .load true 3 (.t 1), none, none⟩,
  ⟨(some 4), .call (.c (.fn 17 [])) [(.t 3)], none, none⟩,
  ⟨(some 5), .un .not (.t 4), none, none⟩,
  ⟨(some 6), .mv (.t 5), none, none⟩,
  ⟨(some 7), .load true 3 (.t 1), (some (6, false)), none⟩,
  ⟨(some 8), .call (.c (.fn 26 [])) [(.t 7)], (some (6, false)), none⟩,
  ⟨(some 9), .load true 3 (.t 1), (some (6, false)), none⟩,
  ⟨(some 10), .call (.c (.fn 18 [])) [(.t 9)], (some (6, false)), none⟩,
  ⟨(some 11), .bin .eql (.t 8) (.t 10), (some (6, false)), none⟩,
  ⟨(some 12), .pick (.t 6) (.c (.bool true)) (.t 11), none, none⟩,
  ⟨(some 13), .mv (.t 12), none, none⟩,
  ⟨(some 14), .call (.c (.fn 10 [])) [], (some (13, true)), none⟩,
  ⟨(some 15), .pick (.t 13) (.t 14) (.c (.bool false)), none, none⟩,
  ⟨(some 2), .mv (.t 15), none, none⟩]
def f7r1 : IC := .reg true [] f7o1 [2]
@[simp] theorem f7r1_run (tbl : TB) (fin : Fin) (K : List Fr) (e : Env) (H : List AO) : run tbl fin K f7r1 e H = regK tbl fin K [] f7o1 [2] e H := run_regK tbl fin K true [] f7o1 [2] e H rfl
def f7body : IC := (.seq f7r0 (.seq f7r1 .ret))
def f7 : IFn := ⟨16, 1, [.tmp 2], f7body⟩
/- 8: jobshell/jobshelllaw25.SignalSets -/
@[simp] def f8o0 : List IOper := [
  ⟨(some 3), .box 30 3 (.t 0), none, none⟩,
  ⟨(some 6), .mv (.c (.bool false)), none, none⟩]
def f8r0 : IC := .reg false [] f8o0 [3, 2, 1]
@[simp] theorem f8r0_run (tbl : TB) (fin : Fin) (K : List Fr) (e : Env) (H : List AO) : run tbl fin K f8r0 e H = regK tbl fin K [] f8o0 [3, 2, 1] e H := run_regK tbl fin K false [] f8o0 [3, 2, 1] e H rfl
@[simp] def f8o1 : List IOper := [
  ⟨(some 11), .load true 3 (.t 3), none, none⟩,
  ⟨(some 12), .call (.c (.fn 17 [])) [(.t 11)], none, none⟩,
  ⟨(some 13), .un .not (.t 12), none, none⟩,
  ⟨(some 14), .mv (.t 13), none, none⟩,
  ⟨(some 15), .load true 3 (.t 3), (some (14, false)), none⟩,
  ⟨(some 16), .call (.c (.fn 18 [])) [(.t 15)], (some (14, false)), none⟩,
  ⟨(some 17), .bin .neq (.t 16) (.c (.int .i64 0)), (some (14, false)), none⟩,
  ⟨(some 18), .pick (.t 14) (.c (.bool true)) (.t 17), none, none⟩]
def f8r1 : IC := .reg false [] f8o1 [18, 3, 2, 1]
@[simp] theorem f8r1_run (tbl : TB) (fin : Fin) (K : List Fr) (e : Env) (H : List AO) : run tbl fin K f8r1 e H = regK tbl fin K [] f8o1 [18, 3, 2, 1] e H := run_regK tbl fin K false [] f8o1 [18, 3, 2, 1] e H rfl
@[simp] def f8o2 : List IOper := [
  ⟨(some 19), .call (.c (.fn 10 [])) [], none, none⟩,
  ⟨(some 6), .mv (.t 19), none, none⟩]
def f8r2 : IC := .reg false [] f8o2 [6]
@[simp] theorem f8r2_run (tbl : TB) (fin : Fin) (K : List Fr) (e : Env) (H : List AO) : run tbl fin K f8r2 e H = regK tbl fin K [] f8o2 [6] e H := run_regK tbl fin K false [] f8o2 [6] e H rfl
@[simp] def f8o3 : List IOper := [
  ⟨(some 21), .load true 3 (.t 3), none, none⟩,
  ⟨(some 22), .mv (.t 1), none, none⟩,
  ⟨(some 23), .mv (.t 2), none, none⟩,
  ⟨(some 24), .call (.c (.fn 25 [])) [(.t 21), (.t 22), (.t 23)], none, none⟩,
  ⟨(some 20), .mv (.t 24), none, none⟩,
  ⟨(some 25), .ext (.t 20) 0, none, none⟩,
  ⟨(some 26), .ext (.t 20) 1, none, none⟩,
  ⟨(some 7), .new 30 3 (.agg [.e0, .e0, .e0]), none, none⟩,
  ⟨none, .store 3 (.t 7) (.t 25), none, none⟩,
  ⟨(some 8), .mv (.t 26), none, none⟩]
def f8r3 : IC := .reg false [] f8o3 [1, 2, 7, 8, 3]
@[simp] theorem f8r3_run (tbl : TB) (fin : Fin) (K : List Fr) (e : Env) (H : List AO) : run tbl fin K f8r3 e H = regK tbl fin K [] f8o3 [1, 2, 7, 8, 3] e H := run_regK tbl fin K false [] f8o3 [1, 2, 7, 8, 3] e H rfl
@[simp] def f8o4 : List IOper := [
  ⟨(some 28), .load true 3 (.t 3), none, none⟩,
  ⟨(some 29), .mv (.t 1), none, none⟩,
  ⟨(some 30), .mv (.t 2), none, none⟩,
  ⟨(some 31), .call (.c (.fn 27 [])) [(.t 28), (.t 29), (.t 30)], none, none⟩,
  ⟨(some 27), .mv (.t 31), none, none⟩,
  ⟨(some 32), .ext (.t 27) 0, none, none⟩,
  ⟨(some 33), .ext (.t 27) 1, none, none⟩,
  ⟨(some 9), .new 30 3 (.agg [.e0, .e0, .e0]), none, none⟩,
  ⟨none, .store 3 (.t 9) (.t 32), none, none⟩,
  ⟨(some 10), .mv (.t 33), none, none⟩]
def f8r4 : IC := .reg false [] f8o4 [7, 9, 8, 10, 3]
@[simp] theorem f8r4_run (tbl : TB) (fin : Fin) (K : List Fr) (e : Env) (H : List AO) : run tbl fin K f8r4 e H = regK tbl fin K [] f8o4 [7, 9, 8, 10, 3] e H := run_regK tbl fin K false [] f8o4 [7, 9, 8, 10, 3] e H rfl
@[simp] def f8o5 : List IOper := [
  ⟨(some 34), .load true 3 (.t 7), none, none⟩,
  ⟨(some 35), .load true 3 (.t 9), none, none⟩,
  ⟨(some 36), .call (.c (.fn 21 [])) [(.t 34), (.t 35)], none, none⟩,
  ⟨(some 37), .mv (.t 36), none, none⟩,
  ⟨(some 38), .mv (.t 8), (some (37, true)), none⟩,
  ⟨(some 39), .mv (.t 10), (some (37, true)), none⟩,
  ⟨(some 40), .bin .eql (.t 38) (.t 39), (some (37, true)), none⟩,
  ⟨(some 41), .pick (.t 37) (.t 40) (.c (.bool false)), none, none⟩,
  ⟨(some 42), .mv (.t 41), none, none⟩,
  ⟨(some 43), .load true 3 (.t 3), (some (42, true)), none⟩,
  ⟨(some 44), .call (.c (.fn 28 [])) [(.t 43)], (some (42, true)), none⟩,
  ⟨(some 45), .load true 3 (.t 3), (some (42, true)), none⟩,
  ⟨(some 46), .call (.c (.fn 29 [])) [(.t 45)], (some (42, true)), none⟩,
  ⟨(some 47), .call (.c (.fn 21 [])) [(.t 44), (.t 46)], (some (42, true)), none⟩,
  ⟨(some 48), .pick (.t 42) (.t 47) (.c (.bool false)), none, none⟩,
  ⟨(some 49), .mv (.t 48), none, none⟩,
  ⟨(some 50), .load true 3 (.t 3), (some (49, true)), none⟩,
  ⟨(some 51), .call (.c (.fn 30 [])) [(.t 50)], (some (49, true)), none⟩,
  ⟨(some 52), .load true 3 (.t 3), (some (49, true)), none⟩,
  ⟨(some 53), .call (.c (.fn 31 [])) [(.t 52)], (some (49, true)), none⟩,
  ⟨(some 54), .call (.c (.fn 21 [])) [(.t 51), (.t 53)], (some (49, true)), none⟩,
  ⟨(some 55), .pick (.t 49) (.t 54) (.c (.bool false)), none, none⟩,
  ⟨(some 56), .mv (.t 55), none, none⟩,
  ⟨(some 57), .call (.c (.fn 10 [])) [], (some (56, true)), none⟩,
  ⟨(some 58), .pick (.t 56) (.t 57) (.c (.bool false)), none, none⟩,
  ⟨(some 6), .mv (.t 58), none, none⟩]
def f8r5 : IC := .reg true [] f8o5 [6]
@[simp] theorem f8r5_run (tbl : TB) (fin : Fin) (K : List Fr) (e : Env) (H : List AO) : run tbl fin K f8r5 e H = regK tbl fin K [] f8o5 [6] e H := run_regK tbl fin K true [] f8o5 [6] e H rfl
def f8body : IC := (.seq f8r0 (.seq (.seq f8r1 (.cond (.t 18) (.seq f8r2 .ret) .skip)) (.seq f8r3 (.seq f8r4 (.seq f8r5 .ret)))))
def f8 : IFn := ⟨59, 3, [.tmp 6], f8body⟩
/- 9: jobshell/jobshelllaw25.SignalStays -/
@[simp] def f9o0 : List IOper := [
  ⟨(some 2), .box 30 3 (.t 0), none, none⟩,
  ⟨(some 4), .mv (.c (.bool false)), none, none⟩]
def f9r0 : IC := .reg false [] f9o0 [2, 1]
@[simp] theorem f9r0_run (tbl : TB) (fin : Fin) (K : List Fr) (e : Env) (H : List AO) : run tbl fin K f9r0 e H = regK tbl fin K [] f9o0 [2, 1] e H := run_regK tbl fin K false [] f9o0 [2, 1] e H rfl
@[simp] def f9o1 : List IOper := [
  ⟨(some 6), .load true 3 (.t 2), none, none⟩,
  ⟨(some 7), .call (.c (.fn 17 [])) [(.t 6)], none, none⟩,
  ⟨(some 8), .un .not (.t 7), none, none⟩,
  ⟨(some 9), .mv (.t 8), none, none⟩,
  ⟨(some 10), .load true 3 (.t 2), (some (9, false)), none⟩,
  ⟨(some 11), .call (.c (.fn 18 [])) [(.t 10)], (some (9, false)), none⟩,
  ⟨(some 12), .bin .neq (.t 11) (.c (.int .i64 0)), (some (9, false)), none⟩,
  ⟨(some 13), .pick (.t 9) (.c (.bool true)) (.t 12), none, some [13, 2, 1]⟩,
  ⟨(some 14), .mv (.t 13), none, none⟩,
  ⟨(some 15), .mv (.t 1), (some (14, false)), none⟩,
  ⟨(some 16), .len (.t 15), (some (14, false)), none⟩,
  ⟨(some 17), .bin .gtr (.t 16) (.c (.int .i64 60)), (some (14, false)), none⟩,
  ⟨(some 18), .pick (.t 14) (.c (.bool true)) (.t 17), none, none⟩]
def f9r1 : IC := .reg false [] f9o1 [18, 2, 1]
@[simp] theorem f9r1_run (tbl : TB) (fin : Fin) (K : List Fr) (e : Env) (H : List AO) : run tbl fin K f9r1 e H = regK tbl fin K [] f9o1 [18, 2, 1] e H := run_regK tbl fin K false [] f9o1 [18, 2, 1] e H rfl
@[simp] def f9o2 : List IOper := [
  ⟨(some 19), .call (.c (.fn 10 [])) [], none, none⟩,
  ⟨(some 4), .mv (.t 19), none, none⟩]
def f9r2 : IC := .reg false [] f9o2 [4]
@[simp] theorem f9r2_run (tbl : TB) (fin : Fin) (K : List Fr) (e : Env) (H : List AO) : run tbl fin K f9r2 e H = regK tbl fin K [] f9o2 [4] e H := run_regK tbl fin K false [] f9o2 [4] e H rfl
@[simp] def f9o3 : List IOper := [
  ⟨(some 5), .mv (.c (.int .i64 0)), none, none⟩]
def f9r3 : IC := .reg false [] f9o3 [1, 2, 5]
@[simp] theorem f9r3_run (tbl : TB) (fin : Fin) (K : List Fr) (e : Env) (H : List AO) : run tbl fin K f9r3 e H = regK tbl fin K [] f9o3 [1, 2, 5] e H := run_regK tbl fin K false [] f9o3 [1, 2, 5] e H rfl
@[simp] def f9o4 : List IOper := [
  ⟨(some 20), .mv (.t 5), none, none⟩,
  ⟨(some 21), .mv (.t 1), none, none⟩,
  ⟨(some 22), .len (.t 21), none, none⟩,
  ⟨(some 23), .bin .lss (.t 20) (.t 22), none, none⟩]
def f9r4 : IC := .reg false [] f9o4 [23, 2, 1, 5]
@[simp] theorem f9r4_run (tbl : TB) (fin : Fin) (K : List Fr) (e : Env) (H : List AO) : run tbl fin K f9r4 e H = regK tbl fin K [] f9o4 [23, 2, 1, 5] e H := run_regK tbl fin K false [] f9o4 [23, 2, 1, 5] e H rfl
@[simp] def f9o5 : List IOper := [
  ⟨(some 26), .load true 3 (.t 2), none, none⟩,
  ⟨(some 27), .mv (.t 1), none, none⟩,
  ⟨(some 28), .mv (.t 5), none, none⟩,
  ⟨(some 29), .idx 3 (.t 27) (.t 28), none, none⟩,
  ⟨(some 30), .load true 3 (.t 29), none, none⟩,
  ⟨(some 31), .call (.c (.fn 32 [])) [(.t 26), (.t 30)], none, none⟩,
  ⟨none, .store 3 (.t 2) (.t 31), none, none⟩]
def f9r5 : IC := .reg true [] f9o5 [2, 1, 5]
@[simp] theorem f9r5_run (tbl : TB) (fin : Fin) (K : List Fr) (e : Env) (H : List AO) : run tbl fin K f9r5 e H = regK tbl fin K [] f9o5 [2, 1, 5] e H := run_regK tbl fin K true [] f9o5 [2, 1, 5] e H rfl
@[simp] def f9o6 : List IOper := [
  ⟨(some 32), .load true 3 (.t 2), none, none⟩,
  ⟨(some 33), .call (.c (.fn 26 [])) [(.t 32)], none, none⟩,
  ⟨(some 34), .bin .neq (.t 33) (.c (.int .i64 0)), none, none⟩]
def f9r6 : IC := .reg false [] f9o6 [34, 2, 1, 5]
@[simp] theorem f9r6_run (tbl : TB) (fin : Fin) (K : List Fr) (e : Env) (H : List AO) : run tbl fin K f9r6 e H = regK tbl fin K [] f9o6 [34, 2, 1, 5] e H := run_regK tbl fin K false [] f9o6 [34, 2, 1, 5] e H rfl
@[simp] def f9o7 : List IOper := [
  ⟨(some 4), .mv (.c (.bool false)), none, none⟩]
def f9r7 : IC := .reg false [] f9o7 [4]
@[simp] theorem f9r7_run (tbl : TB) (fin : Fin) (K : List Fr) (e : Env) (H : List AO) : run tbl fin K f9r7 e H = regK tbl fin K [] f9o7 [4] e H := run_regK tbl fin K false [] f9o7 [4] e H rfl
@[simp] def f9o8 : List IOper := [
  ⟨(some 24), .mv (.t 5), none, none⟩,
  ⟨(some 25), .bin .add (.t 24) (.c (.int .i64 1)), none, none⟩,
  ⟨(some 5), .mv (.t 25), none, none⟩]
def f9r8 : IC := .reg false [] f9o8 [1, 2, 5]
@[simp] theorem f9r8_run (tbl : TB) (fin : Fin) (K : List Fr) (e : Env) (H : List AO) : run tbl fin K f9r8 e H = regK tbl fin K [] f9o8 [1, 2, 5] e H := run_regK tbl fin K false [] f9o8 [1, 2, 5] e H rfl
def f9b9 : IC := (.seq (.seq f9r4 (.cond (.t 23) .skip (.exit 0))) (.seq (.block 1 (.seq f9r5 (.seq f9r6 (.cond (.t 34) (.seq f9r7 .ret) .skip)))) f9r8))
theorem f9b9_eq : f9b9 = (.seq (.seq f9r4 (.cond (.t 23) .skip (.exit 0))) (.seq (.block 1 (.seq f9r5 (.seq f9r6 (.cond (.t 34) (.seq f9r7 .ret) .skip)))) f9r8)) := rfl
@[simp] def f9o10 : List IOper := [
  ⟨(some 35), .call (.c (.fn 10 [])) [], none, none⟩,
  ⟨(some 4), .mv (.t 35), none, none⟩]
def f9r10 : IC := .reg false [] f9o10 [4]
@[simp] theorem f9r10_run (tbl : TB) (fin : Fin) (K : List Fr) (e : Env) (H : List AO) : run tbl fin K f9r10 e H = regK tbl fin K [] f9o10 [4] e H := run_regK tbl fin K false [] f9o10 [4] e H rfl
def f9body : IC := (.seq f9r0 (.seq (.seq f9r1 (.cond (.t 18) (.seq f9r2 .ret) .skip)) (.seq (.seq f9r3 (.block 0 (.loop [1, 2, 5] f9b9))) (.seq f9r10 .ret))))
def f9 : IFn := ⟨36, 2, [.tmp 4], f9body⟩
/- 10: jobshell/jobshelllaw25.awake -/
@[simp] def f10o0 : List IOper := [
  ⟨(some 0), .mv (.c (.bool false)), none, none⟩]
def f10r0 : IC := .reg false [] f10o0 []
@[simp] theorem f10r0_run (tbl : TB) (fin : Fin) (K : List Fr) (e : Env) (H : List AO) : run tbl fin K f10r0 e H = regK tbl fin K [] f10o0 [] e H := run_regK tbl fin K false [] f10o0 [] e H rfl
@[simp] def f10o1 : List IOper := [
  ⟨(some 14), .call (.c (.fn 11 [])) [(.c (.str [73, 78, 84]))], none, none⟩,
  ⟨(some 13), .mv (.t 14), none, none⟩,
  ⟨(some 15), .ext (.t 13) 0, none, none⟩,
  ⟨(some 16), .ext (.t 13) 1, none, none⟩,
  ⟨(some 1), .mv (.t 15), none, none⟩,
  ⟨(some 2), .mv (.t 16), none, none⟩]
def f10r1 : IC := .reg false [] f10o1 [1, 2]
@[simp] theorem f10r1_run (tbl : TB) (fin : Fin) (K : List Fr) (e : Env) (H : List AO) : run tbl fin K f10r1 e H = regK tbl fin K [] f10o1 [1, 2] e H := run_regK tbl fin K false [] f10o1 [1, 2] e H rfl
@[simp] def f10o2 : List IOper := [
  ⟨(some 18), .call (.c (.fn 11 [])) [(.c (.str [48, 50]))], none, none⟩,
  ⟨(some 17), .mv (.t 18), none, none⟩,
  ⟨(some 19), .ext (.t 17) 0, none, none⟩,
  ⟨(some 20), .ext (.t 17) 1, none, none⟩,
  ⟨(some 3), .mv (.t 19), none, none⟩,
  ⟨(some 4), .mv (.t 20), none, none⟩]
def f10r2 : IC := .reg false [] f10o2 [1, 2, 4]
@[simp] theorem f10r2_run (tbl : TB) (fin : Fin) (K : List Fr) (e : Env) (H : List AO) : run tbl fin K f10r2 e H = regK tbl fin K [] f10o2 [1, 2, 4] e H := run_regK tbl fin K false [] f10o2 [1, 2, 4] e H rfl
@[simp] def f10o3 : List IOper := [
  ⟨(some 21), .build [.e0, .e0, .e0] [], none, none⟩,
  ⟨(some 22), .call (.c (.fn 22 [])) [(.t 21), (.c (.int .i64 20))], none, none⟩,
  ⟨(some 23), .call (.c (.fn 22 [])) [(.t 22), (.c (.int .i64 18))], none, none⟩,
  ⟨(some 5), .new 30 3 (.agg [.e0, .e0, .e0]), none, none⟩,
  ⟨none, .store 3 (.t 5) (.t 23), none, none⟩]
def f10r3 : IC := .reg false [] f10o3 [1, 2, 4, 5]
@[simp] theorem f10r3_run (tbl : TB) (fin : Fin) (K : List Fr) (e : Env) (H : List AO) : run tbl fin K f10r3 e H = regK tbl fin K [] f10o3 [1, 2, 4, 5] e H := run_regK tbl fin K false [] f10o3 [1, 2, 4, 5] e H rfl
@[simp] def f10o4 : List IOper := [
  ⟨(some 24), .mkrow 3 1 1 (.int .i64 0) [(0, (.c (.int .i64 2)))], none, none⟩,
  ⟨(some 25), .build [.e0, .e0, .e0] [(1, 1, (.t 24))], none, none⟩,
  ⟨(some 26), .call (.c (.fn 22 [])) [(.t 25), (.c (.int .i64 2))], none, none⟩,
  ⟨(some 6), .new 30 3 (.agg [.e0, .e0, .e0]), none, none⟩,
  ⟨none, .store 3 (.t 6) (.t 26), none, none⟩]
def f10r4 : IC := .reg false [] f10o4 [1, 2, 4, 5, 6]
@[simp] theorem f10r4_run (tbl : TB) (fin : Fin) (K : List Fr) (e : Env) (H : List AO) : run tbl fin K f10r4 e H = regK tbl fin K [] f10o4 [1, 2, 4, 5, 6] e H := run_regK tbl fin K false [] f10o4 [1, 2, 4, 5, 6] e H rfl
@[simp] def f10o5 : List IOper := [
  ⟨(some 28), .mkrow 3 1 3 (.int .i64 0) [(0, (.c (.int .i64 2))), (1, (.c (.int .i64 9))), (2, (.c (.int .i64 15)))], none, none⟩,
  ⟨(some 29), .mkrow 3 1 1 (.int .i64 0) [(0, (.c (.int .i64 2)))], none, none⟩,
  ⟨(some 30), .build [.e0, .e0, .e0] [(0, 1, (.t 28)), (2, 1, (.t 29))], none, none⟩,
  ⟨(some 31), .call (.c (.fn 19 [])) [(.t 30)], none, none⟩,
  ⟨(some 27), .mv (.t 31), none, none⟩,
  ⟨(some 32), .ext (.t 27) 0, none, none⟩,
  ⟨(some 33), .ext (.t 27) 1, none, none⟩,
  ⟨(some 34), .ext (.t 27) 2, none, some [32, 33, 34, 1, 2, 4, 5, 6]⟩,
  ⟨(some 7), .new 30 3 (.agg [.e0, .e0, .e0]), none, none⟩,
  ⟨none, .store 3 (.t 7) (.t 32), none, none⟩,
  ⟨(some 8), .mv (.t 33), none, none⟩,
  ⟨(some 9), .mv (.t 34), none, none⟩]
def f10r5 : IC := .reg false [] f10o5 [7, 1, 2, 4, 5, 6, 8, 9]
@[simp] theorem f10r5_run (tbl : TB) (fin : Fin) (K : List Fr) (e : Env) (H : List AO) : run tbl fin K f10r5 e H = regK tbl fin K [] f10o5 [7, 1, 2, 4, 5, 6, 8, 9] e H := run_regK tbl fin K false [] f10o5 [7, 1, 2, 4, 5, 6, 8, 9] e H rfl
@[simp] def f10o6 : List IOper := [
  ⟨(some 36), .load true 3 (.t 7), none, none⟩,
  ⟨(some 37), .call (.c (.fn 19 [])) [(.t 36)], none, none⟩,
  ⟨(some 35), .mv (.t 37), none, none⟩,
  ⟨(some 38), .ext (.t 35) 0, none, none⟩,
  ⟨(some 39), .ext (.t 35) 1, none, none⟩,
  ⟨(some 40), .ext (.t 35) 2, none, none⟩,
  ⟨(some 10), .new 30 3 (.agg [.e0, .e0, .e0]), none, none⟩,
  ⟨none, .store 3 (.t 10) (.t 38), none, none⟩,
  ⟨(some 11), .mv (.t 39), none, none⟩,
  ⟨(some 12), .mv (.t 40), none, none⟩]
def f10r6 : IC := .reg false [] f10o6 [1, 2, 4, 5, 6, 8, 9, 11, 12]
@[simp] theorem f10r6_run (tbl : TB) (fin : Fin) (K : List Fr) (e : Env) (H : List AO) : run tbl fin K f10r6 e H = regK tbl fin K [] f10o6 [1, 2, 4, 5, 6, 8, 9, 11, 12] e H := run_regK tbl fin K false [] f10o6 [1, 2, 4, 5, 6, 8, 9, 11, 12] e H rfl
@[simp] def f10o7 : List IOper := [
  ⟨(some 41), .call (.c (.fn 13 [])) [(.c (.int .i64 9))], none, none⟩,
  ⟨(some 42), .bin .eql (.t 41) (.c (.str [75, 73, 76, 76])), none, none⟩,
  ⟨(some 43), .mv (.t 42), none, none⟩,
  ⟨(some 44), .call (.c (.fn 13 [])) [(.c (.int .i64 6))], (some (43, true)), none⟩,
  ⟨(some 45), .bin .eql (.t 44) (.c (.str [])), (some (43, true)), none⟩,
  ⟨(some 46), .pick (.t 43) (.t 45) (.c (.bool false)), none, none⟩,
  ⟨(some 47), .mv (.t 46), none, none⟩,
  ⟨(some 48), .mv (.t 1), (some (47, true)), some [48, 47, 2, 4, 5, 6, 8, 9, 11, 12]⟩,
  ⟨(some 49), .bin .eql (.t 48) (.c (.int .i64 2)), (some (47, true)), none⟩,
  ⟨(some 50), .pick (.t 47) (.t 49) (.c (.bool false)), none, none⟩,
  ⟨(some 51), .mv (.t 50), none, none⟩,
  ⟨(some 52), .mv (.t 2), (some (51, true)), none⟩,
  ⟨(some 53), .pick (.t 51) (.t 52) (.c (.bool false)), none, none⟩,
  ⟨(some 54), .mv (.t 53), none, none⟩,
  ⟨(some 55), .mv (.t 4), (some (54, true)), none⟩,
  ⟨(some 56), .un .not (.t 55), (some (54, true)), some [56, 54, 5, 6, 8, 9, 11, 12]⟩,
  ⟨(some 57), .pick (.t 54) (.t 56) (.c (.bool false)), none, none⟩,
  ⟨(some 58), .mv (.t 57), none, none⟩,
  ⟨(some 59), .fld 0 (.t 5), (some (58, true)), none⟩,
  ⟨(some 60), .load false 1 (.t 59), (some (58, true)), none⟩,
  ⟨(some 61), .len (.t 60), (some (58, true)), none⟩,
  ⟨(some 62), .bin .eql (.t 61) (.c (.int .i64 1)), (some (58, true)), none⟩,
  ⟨(some 63), .pick (.t 58) (.t 62) (.c (.bool false)), none, none⟩,
  ⟨(some 64), .mv (.t 63), none, some [5, 64, 6, 8, 9, 11, 12]⟩,
  ⟨(some 65), .fld 0 (.t 5), (some (64, true)), none⟩,
  ⟨(some 66), .load false 1 (.t 65), (some (64, true)), none⟩,
  ⟨(some 67), .idx 1 (.t 66) (.c (.int .i64 0)), (some (64, true)), none⟩,
  ⟨(some 68), .load false 1 (.t 67), (some (64, true)), none⟩,
  ⟨(some 69), .bin .eql (.t 68) (.c (.int .i64 18)), (some (64, true)), none⟩,
  ⟨(some 70), .pick (.t 64) (.t 69) (.c (.bool false)), none, none⟩,
  ⟨(some 71), .mv (.t 70), none, none⟩,
  ⟨(some 72), .fld 0 (.t 6), (some (71, true)), some [72, 71, 8, 9, 11, 12]⟩,
  ⟨(some 73), .load false 1 (.t 72), (some (71, true)), none⟩,
  ⟨(some 74), .len (.t 73), (some (71, true)), none⟩,
  ⟨(some 75), .bin .eql (.t 74) (.c (.int .i64 0)), (some (71, true)), none⟩,
  ⟨(some 76), .pick (.t 71) (.t 75) (.c (.bool false)), none, none⟩,
  ⟨(some 77), .mv (.t 76), none, none⟩,
  ⟨(some 78), .mv (.t 8), (some (77, true)), none⟩,
  ⟨(some 79), .bin .eql (.t 78) (.c (.int .i64 9)), (some (77, true)), none⟩,
  ⟨(some 80), .pick (.t 77) (.t 79) (.c (.bool false)), none, some [80, 9, 11, 12]⟩,
  ⟨(some 81), .mv (.t 80), none, none⟩,
  ⟨(some 82), .mv (.t 9), (some (81, true)), none⟩,
  ⟨(some 83), .bin .eql (.t 82) (.c (.int .i64 1)), (some (81, true)), none⟩,
  ⟨(some 84), .pick (.t 81) (.t 83) (.c (.bool false)), none, none⟩,
  ⟨(some 85), .mv (.t 84), none, none⟩,
  ⟨(some 86), .mv (.t 11), (some (85, true)), none⟩,
  ⟨(some 87), .bin .eql (.t 86) (.c (.int .i64 2)), (some (85, true)), none⟩,
  ⟨(some 88), .pick (.t 85) (.t 87) (.c (.bool false)), none, some [88, 12]⟩,
  ⟨(some 89), .mv (.t 88), none, none⟩,
  ⟨(some 90), .mv (.t 12), (some (89, true)), none⟩,
  ⟨(some 91), .bin .eql (.t 90) (.c (.int .i64 4)), (some (89, true)), none⟩,
  ⟨(some 92), .pick (.t 89) (.t 91) (.c (.bool false)), none, none⟩,
  ⟨(some 0), .mv (.t 92), none, none⟩]
def f10r7 : IC := .reg false [] f10o7 [0]
@[simp] theorem f10r7_run (tbl : TB) (fin : Fin) (K : List Fr) (e : Env) (H : List AO) : run tbl fin K f10r7 e H = regK tbl fin K [] f10o7 [0] e H := run_regK tbl fin K false [] f10o7 [0] e H rfl
def f10body : IC := (.seq f10r0 (.seq f10r1 (.seq f10r2 (.seq f10r3 (.seq f10r4 (.seq f10r5 (.seq f10r6 (.seq f10r7 .ret))))))))
def f10 : IFn := ⟨93, 0, [.tmp 0], f10body⟩
/- 11: jobshell/signal.Number -/
@[simp] def f11o0 : List IOper := [
  ⟨(some 2), .mv (.c (.int .i64 0)), none, none⟩,
  ⟨(some 3), .mv (.c (.bool false)), none, none⟩]
def f11r0 : IC := .reg false [] f11o0 [0]
@[simp] theorem f11r0_run (tbl : TB) (fin : Fin) (K : List Fr) (e : Env) (H : List AO) : run tbl fin K f11r0 e H = regK tbl fin K [] f11o0 [0] e H := run_regK tbl fin K false [] f11o0 [0] e H rfl
@[simp] def f11o1 : List IOper := [
  ⟨(some 6), .load true 21 (.c (.cptr (.agg [(.str []), (.str [72, 85, 80]), (.str [73, 78, 84]), (.str [81, 85, 73, 84]), (.str [84, 84, 73, 78]), (.str [84, 84, 79, 85]), (.str []), (.str []), (.str []), (.str [75, 73, 76, 76]), (.str [85, 83, 82, 49]), (.str []), (.str [85, 83, 82, 50]), (.str [80, 73, 80, 69]), (.str [65, 76, 82, 77]), (.str [84, 69, 82, 77]), (.str []), (.str [67, 72, 76, 68]), (.str [67, 79, 78, 84]), (.str [83, 84, 79, 80]), (.str [84, 83, 84, 80])]) 0)), none, none⟩,
  ⟨(some 7), .mv (.c (.int .i64 0)), none, none⟩]
def f11r1 : IC := .reg false [] f11o1 [6, 0, 7]
@[simp] theorem f11r1_run (tbl : TB) (fin : Fin) (K : List Fr) (e : Env) (H : List AO) : run tbl fin K f11r1 e H = regK tbl fin K [] f11o1 [6, 0, 7] e H := run_regK tbl fin K false [] f11o1 [6, 0, 7] e H rfl
@[simp] def f11o2 : List IOper := [
  ⟨(some 8), .bin .lss (.t 7) (.c (.int .i64 21)), none, none⟩]
def f11r2 : IC := .reg false [] f11o2 [8, 0, 6, 7]
@[simp] theorem f11r2_run (tbl : TB) (fin : Fin) (K : List Fr) (e : Env) (H : List AO) : run tbl fin K f11r2 e H = regK tbl fin K [] f11o2 [8, 0, 6, 7] e H := run_regK tbl fin K false [] f11o2 [8, 0, 6, 7] e H rfl
@[simp] def f11o3 : List IOper := [
  ⟨(some 9), .mv (.t 7), none, none⟩,
  ⟨(some 10), .ait false 21 1 (.t 6) (.t 7), none, none⟩,
  ⟨(some 4), .mv (.t 9), none, none⟩,
  ⟨(some 5), .mv (.t 10), none, none⟩]
def f11r3 : IC := .reg false [] f11o3 [5, 0, 6, 7, 4]
@[simp] theorem f11r3_run (tbl : TB) (fin : Fin) (K : List Fr) (e : Env) (H : List AO) : run tbl fin K f11r3 e H = regK tbl fin K [] f11o3 [5, 0, 6, 7, 4] e H := run_regK tbl fin K false [] f11o3 [5, 0, 6, 7, 4] e H rfl
@[simp] def f11o4 : List IOper := [
  ⟨(some 11), .mv (.t 5), none, none⟩,
  ⟨(some 12), .bin .neq (.t 11) (.c (.str [])), none, none⟩,
  ⟨(some 13), .mv (.t 12), none, none⟩,
  ⟨(some 14), .mv (.t 0), (some (13, true)), none⟩,
  ⟨(some 15), .mv (.t 5), (some (13, true)), none⟩,
  ⟨(some 16), .bin .eql (.t 14) (.t 15), (some (13, true)), none⟩,
  ⟨(some 17), .mv (.t 16), (some (13, true)), none⟩,
  ⟨(some 18), .mv (.t 0), (some (17, false)), some [18, 17, 13, 0, 6, 7, 4]⟩,
  ⟨(some 19), .mv (.t 4), (some (17, false)), none⟩,
  ⟨(some 20), .call (.c (.fn 33 [])) [(.t 19)], (some (17, false)), none⟩,
  ⟨(some 21), .bin .eql (.t 18) (.t 20), (some (17, false)), none⟩,
  ⟨(some 22), .pick (.t 17) (.c (.bool true)) (.t 21), (some (13, true)), none⟩,
  ⟨(some 23), .pick (.t 13) (.t 22) (.c (.bool false)), none, none⟩]
def f11r4 : IC := .reg false [] f11o4 [23, 0, 6, 7, 4]
@[simp] theorem f11r4_run (tbl : TB) (fin : Fin) (K : List Fr) (e : Env) (H : List AO) : run tbl fin K f11r4 e H = regK tbl fin K [] f11o4 [23, 0, 6, 7, 4] e H := run_regK tbl fin K false [] f11o4 [23, 0, 6, 7, 4] e H rfl
@[simp] def f11o5 : List IOper := [
  ⟨(some 24), .mv (.t 4), none, none⟩,
  ⟨(some 2), .mv (.t 24), none, none⟩,
  ⟨(some 3), .mv (.c (.bool true)), none, none⟩]
def f11r5 : IC := .reg false [] f11o5 [2, 3]
@[simp] theorem f11r5_run (tbl : TB) (fin : Fin) (K : List Fr) (e : Env) (H : List AO) : run tbl fin K f11r5 e H = regK tbl fin K [] f11o5 [2, 3] e H := run_regK tbl fin K false [] f11o5 [2, 3] e H rfl
@[simp] def f11o6 : List IOper := [
  ⟨(some 25), .bin .add (.t 7) (.c (.int .i64 1)), none, none⟩,
  ⟨(some 7), .mv (.t 25), none, none⟩]
def f11r6 : IC := .reg false [] f11o6 [6, 0, 7]
@[simp] theorem f11r6_run (tbl : TB) (fin : Fin) (K : List Fr) (e : Env) (H : List AO) : run tbl fin K f11r6 e H = regK tbl fin K [] f11o6 [6, 0, 7] e H := run_regK tbl fin K false [] f11o6 [6, 0, 7] e H rfl
def f11b7 : IC := (.seq f11r2 (.seq (.cond (.t 8) .skip (.exit 0)) (.seq (.block 1 (.seq f11r3 (.seq f11r4 (.cond (.t 23) (.seq f11r5 .ret) .skip)))) f11r6)))
theorem f11b7_eq : f11b7 = (.seq f11r2 (.seq (.cond (.t 8) .skip (.exit 0)) (.seq (.block 1 (.seq f11r3 (.seq f11r4 (.cond (.t 23) (.seq f11r5 .ret) .skip)))) f11r6))) := rfl
@[simp] def f11o8 : List IOper := [
  ⟨(some 2), .mv (.c (.int .i64 0)), none, none⟩,
  ⟨(some 3), .mv (.c (.bool false)), none, none⟩]
def f11r8 : IC := .reg false [] f11o8 [2, 3]
@[simp] theorem f11r8_run (tbl : TB) (fin : Fin) (K : List Fr) (e : Env) (H : List AO) : run tbl fin K f11r8 e H = regK tbl fin K [] f11o8 [2, 3] e H := run_regK tbl fin K false [] f11o8 [2, 3] e H rfl
def f11body : IC := (.seq f11r0 (.seq (.seq f11r1 (.block 0 (.loop [6, 0, 7] f11b7))) (.seq f11r8 .ret)))
def f11 : IFn := ⟨26, 1, [.tmp 2, .tmp 3], f11body⟩
/- 12: jobshell/jobshellref25.Number -/
@[simp] def f12o0 : List IOper := [
  ⟨(some 2), .mv (.c (.int .i64 0)), none, none⟩,
  ⟨(some 3), .mv (.c (.bool false)), none, none⟩]
def f12r0 : IC := .reg false [] f12o0 [0]
@[simp] theorem f12r0_run (tbl : TB) (fin : Fin) (K : List Fr) (e : Env) (H : List AO) : run tbl fin K f12r0 e H = regK tbl fin K [] f12o0 [0] e H := run_regK tbl fin K false [] f12o0 [0] e H rfl
@[simp] def f12o1 : List IOper := [
  ⟨(some 4), .mv (.c (.int .i64 1)), none, none⟩]
def f12r1 : IC := .reg false [] f12o1 [0, 4]
@[simp] theorem f12r1_run (tbl : TB) (fin : Fin) (K : List Fr) (e : Env) (H : List AO) : run tbl fin K f12r1 e H = regK tbl fin K [] f12o1 [0, 4] e H := run_regK tbl fin K false [] f12o1 [0, 4] e H rfl
@[simp] def f12o2 : List IOper := [
  ⟨(some 5), .mv (.t 4), none, none⟩,
  ⟨(some 6), .bin .leq (.t 5) (.c (.int .i64 20)), none, none⟩]
def f12r2 : IC := .reg false [] f12o2 [6, 0, 4]
@[simp] theorem f12r2_run (tbl : TB) (fin : Fin) (K : List Fr) (e : Env) (H : List AO) : run tbl fin K f12r2 e H = regK tbl fin K [] f12o2 [6, 0, 4] e H := run_regK tbl fin K false [] f12o2 [6, 0, 4] e H rfl
@[simp] def f12o3 : List IOper := [
  ⟨(some 9), .mv (.t 4), none, none⟩,
  ⟨(some 10), .call (.c (.fn 14 [])) [(.t 9)], none, none⟩,
  ⟨(some 11), .bin .neq (.t 10) (.c (.str [])), none, none⟩,
  ⟨(some 12), .mv (.t 11), none, none⟩,
  ⟨(some 13), .mv (.t 0), (some (12, true)), none⟩,
  ⟨(some 14), .mv (.t 4), (some (12, true)), none⟩,
  ⟨(some 15), .call (.c (.fn 14 [])) [(.t 14)], (some (12, true)), none⟩,
  ⟨(some 16), .bin .eql (.t 13) (.t 15), (some (12, true)), some [16, 12, 0, 4]⟩,
  ⟨(some 17), .mv (.t 16), (some (12, true)), none⟩,
  ⟨(some 18), .mv (.t 0), (some (17, false)), none⟩,
  ⟨(some 19), .mv (.t 4), (some (17, false)), none⟩,
  ⟨(some 20), .call (.c (.fn 33 [])) [(.t 19)], (some (17, false)), none⟩,
  ⟨(some 21), .bin .eql (.t 18) (.t 20), (some (17, false)), none⟩,
  ⟨(some 22), .pick (.t 17) (.c (.bool true)) (.t 21), (some (12, true)), none⟩,
  ⟨(some 23), .pick (.t 12) (.t 22) (.c (.bool false)), none, none⟩]
def f12r3 : IC := .reg false [] f12o3 [23, 0, 4]
@[simp] theorem f12r3_run (tbl : TB) (fin : Fin) (K : List Fr) (e : Env) (H : List AO) : run tbl fin K f12r3 e H = regK tbl fin K [] f12o3 [23, 0, 4] e H := run_regK tbl fin K false [] f12o3 [23, 0, 4] e H rfl
@[simp] def f12o4 : List IOper := [
  ⟨(some 24), .mv (.t 4), none, none⟩,
  ⟨(some 2), .mv (.t 24), none, none⟩,
  ⟨(some 3), .mv (.c (.bool true)), none, none⟩]
def f12r4 : IC := .reg false [] f12o4 [2, 3]
@[simp] theorem f12r4_run (tbl : TB) (fin : Fin) (K : List Fr) (e : Env) (H : List AO) : run tbl fin K f12r4 e H = regK tbl fin K [] f12o4 [2, 3] e H := run_regK tbl fin K false [] f12o4 [2, 3] e H rfl
@[simp] def f12o5 : List IOper := [
  ⟨(some 7), .mv (.t 4), none, none⟩,
  ⟨(some 8), .bin .add (.t 7) (.c (.int .i64 1)), none, none⟩,
  ⟨(some 4), .mv (.t 8), none, none⟩]
def f12r5 : IC := .reg false [] f12o5 [0, 4]
@[simp] theorem f12r5_run (tbl : TB) (fin : Fin) (K : List Fr) (e : Env) (H : List AO) : run tbl fin K f12r5 e H = regK tbl fin K [] f12o5 [0, 4] e H := run_regK tbl fin K false [] f12o5 [0, 4] e H rfl
def f12b6 : IC := (.seq (.seq f12r2 (.cond (.t 6) .skip (.exit 0))) (.seq (.block 1 (.seq f12r3 (.cond (.t 23) (.seq f12r4 .ret) .skip))) f12r5))
theorem f12b6_eq : f12b6 = (.seq (.seq f12r2 (.cond (.t 6) .skip (.exit 0))) (.seq (.block 1 (.seq f12r3 (.cond (.t 23) (.seq f12r4 .ret) .skip))) f12r5)) := rfl
@[simp] def f12o7 : List IOper := [
  ⟨(some 2), .mv (.c (.int .i64 0)), none, none⟩,
  ⟨(some 3), .mv (.c (.bool false)), none, none⟩]
def f12r7 : IC := .reg false [] f12o7 [2, 3]
@[simp] theorem f12r7_run (tbl : TB) (fin : Fin) (K : List Fr) (e : Env) (H : List AO) : run tbl fin K f12r7 e H = regK tbl fin K [] f12o7 [2, 3] e H := run_regK tbl fin K false [] f12o7 [2, 3] e H rfl
def f12body : IC := (.seq f12r0 (.seq (.seq f12r1 (.block 0 (.loop [0, 4] f12b6))) (.seq f12r7 .ret)))
def f12 : IFn := ⟨25, 1, [.tmp 2, .tmp 3], f12body⟩
/- 13: jobshell/signal.Name -/
@[simp] def f13o0 : List IOper := [
  ⟨(some 2), .mv (.c (.str [])), none, none⟩]
def f13r0 : IC := .reg false [] f13o0 [0]
@[simp] theorem f13r0_run (tbl : TB) (fin : Fin) (K : List Fr) (e : Env) (H : List AO) : run tbl fin K f13r0 e H = regK tbl fin K [] f13o0 [0] e H := run_regK tbl fin K false [] f13o0 [0] e H rfl
@[simp] def f13o1 : List IOper := [
  ⟨(some 3), .mv (.t 0), none, none⟩,
  ⟨(some 4), .bin .lss (.t 3) (.c (.int .i64 0)), none, none⟩,
  ⟨(some 5), .mv (.t 4), none, none⟩,
  ⟨(some 6), .mv (.t 0), (some (5, false)), none⟩,
  ⟨(some 7), .bin .geq (.t 6) (.c (.int .i64 21)), (some (5, false)), none⟩,
  ⟨(some 8), .pick (.t 5) (.c (.bool true)) (.t 7), none, none⟩]
def f13r1 : IC := .reg false [] f13o1 [8, 0]
@[simp] theorem f13r1_run (tbl : TB) (fin : Fin) (K : List Fr) (e : Env) (H : List AO) : run tbl fin K f13r1 e H = regK tbl fin K [] f13o1 [8, 0] e H := run_regK tbl fin K false [] f13o1 [8, 0] e H rfl
@[simp] def f13o2 : List IOper := [
  ⟨(some 2), .mv (.c (.str [])), none, none⟩]
def f13r2 : IC := .reg false [] f13o2 [2]
@[simp] theorem f13r2_run (tbl : TB) (fin : Fin) (K : List Fr) (e : Env) (H : List AO) : run tbl fin K f13r2 e H = regK tbl fin K [] f13o2 [2] e H := run_regK tbl fin K false [] f13o2 [2] e H rfl
@[simp] def f13o3 : List IOper := [
  ⟨(some 9), .mv (.t 0), none, none⟩,
  ⟨(some 10), .pix 21 1 (.c (.cptr (.agg [(.str []), (.str [72, 85, 80]), (.str [73, 78, 84]), (.str [81, 85, 73, 84]), (.str [84, 84, 73, 78]), (.str [84, 84, 79, 85]), (.str []), (.str []), (.str []), (.str [75, 73, 76, 76]), (.str [85, 83, 82, 49]), (.str []), (.str [85, 83, 82, 50]), (.str [80, 73, 80, 69]), (.str [65, 76, 82, 77]), (.str [84, 69, 82, 77]), (.str []), (.str [67, 72, 76, 68]), (.str [67, 79, 78, 84]), (.str [83, 84, 79, 80]), (.str [84, 83, 84, 80])]) 0)) (.t 9), none, none⟩,
  ⟨(some 11), .load false 1 (.t 10), none, none⟩,
  ⟨(some 2), .mv (.t 11), none, none⟩]
def f13r3 : IC := .reg false [] f13o3 [2]
@[simp] theorem f13r3_run (tbl : TB) (fin : Fin) (K : List Fr) (e : Env) (H : List AO) : run tbl fin K f13r3 e H = regK tbl fin K [] f13o3 [2] e H := run_regK tbl fin K false [] f13o3 [2] e H rfl
def f13body : IC := (.seq f13r0 (.seq (.seq f13r1 (.cond (.t 8) (.seq f13r2 .ret) .skip)) (.seq f13r3 .ret)))
def f13 : IFn := ⟨12, 1, [.tmp 2], f13body⟩
/- 14: jobshell/jobshellref25.Name -/
@[simp] def f14o0 : List IOper := [
  ⟨(some 2), .mv (.c (.str [])), none, none⟩]
def f14r0 : IC := .reg false [] f14o0 [0]
@[simp] theorem f14r0_run (tbl : TB) (fin : Fin) (K : List Fr) (e : Env) (H : List AO) : run tbl fin K f14r0 e H = regK tbl fin K [] f14o0 [0] e H := run_regK tbl fin K false [] f14o0 [0] e H rfl
@[simp] def f14o1 : List IOper := [
  ⟨(some 3), .mv (.t 0), none, none⟩]
def f14r1 : IC := .reg false [] f14o1 [3]
@[simp] theorem f14r1_run (tbl : TB) (fin : Fin) (K : List Fr) (e : Env) (H : List AO) : run tbl fin K f14r1 e H = regK tbl fin K [] f14o1 [3] e H := run_regK tbl fin K false [] f14o1 [3] e H rfl
@[simp] def f14o2 : List IOper := [
  ⟨(some 5), .bin .eql (.t 3) (.c (.int .i64 1)), none, none⟩,
  ⟨(some 4), .mv (.t 5), none, none⟩]
def f14r2 : IC := .reg false [] f14o2 [4, 3]
@[simp] theorem f14r2_run (tbl : TB) (fin : Fin) (K : List Fr) (e : Env) (H : List AO) : run tbl fin K f14r2 e H = regK tbl fin K [] f14o2 [4, 3] e H := run_regK tbl fin K false [] f14o2 [4, 3] e H rfl
@[simp] def f14o3 : List IOper := [
  ⟨(some 2), .mv (.c (.str [72, 85, 80])), none, none⟩]
def f14r3 : IC := .reg false [] f14o3 [2]
@[simp] theorem f14r3_run (tbl : TB) (fin : Fin) (K : List Fr) (e : Env) (H : List AO) : run tbl fin K f14r3 e H = regK tbl fin K [] f14o3 [2] e H := run_regK tbl fin K false [] f14o3 [2] e H rfl
@[simp] def f14o4 : List IOper := [
  ⟨(some 7), .bin .eql (.t 3) (.c (.int .i64 2)), none, none⟩,
  ⟨(some 6), .mv (.t 7), none, none⟩]
def f14r4 : IC := .reg false [] f14o4 [6, 3]
@[simp] theorem f14r4_run (tbl : TB) (fin : Fin) (K : List Fr) (e : Env) (H : List AO) : run tbl fin K f14r4 e H = regK tbl fin K [] f14o4 [6, 3] e H := run_regK tbl fin K false [] f14o4 [6, 3] e H rfl
@[simp] def f14o5 : List IOper := [
  ⟨(some 2), .mv (.c (.str [73, 78, 84])), none, none⟩]
def f14r5 : IC := .reg false [] f14o5 [2]
@[simp] theorem f14r5_run (tbl : TB) (fin : Fin) (K : List Fr) (e : Env) (H : List AO) : run tbl fin K f14r5 e H = regK tbl fin K [] f14o5 [2] e H := run_regK tbl fin K false [] f14o5 [2] e H rfl
@[simp] def f14o6 : List IOper := [
  ⟨(some 9), .bin .eql (.t 3) (.c (.int .i64 3)), none, none⟩,
  ⟨(some 8), .mv (.t 9), none, none⟩]
def f14r6 : IC := .reg false [] f14o6 [8, 3]
@[simp] theorem f14r6_run (tbl : TB) (fin : Fin) (K : List Fr) (e : Env) (H : List AO) : run tbl fin K f14r6 e H = regK tbl fin K [] f14o6 [8, 3] e H := run_regK tbl fin K false [] f14o6 [8, 3] e H rfl
@[simp] def f14o7 : List IOper := [
  ⟨(some 2), .mv (.c (.str [81, 85, 73, 84])), none, none⟩]
def f14r7 : IC := .reg false [] f14o7 [2]
@[simp] theorem f14r7_run (tbl : TB) (fin : Fin) (K : List Fr) (e : Env) (H : List AO) : run tbl fin K f14r7 e H = regK tbl fin K [] f14o7 [2] e H := run_regK tbl fin K false [] f14o7 [2] e H rfl
@[simp] def f14o8 : List IOper := [
  ⟨(some 11), .bin .eql (.t 3) (.c (.int .i64 4)), none, none⟩,
  ⟨(some 10), .mv (.t 11), none, none⟩]
def f14r8 : IC := .reg false [] f14o8 [10, 3]
@[simp] theorem f14r8_run (tbl : TB) (fin : Fin) (K : List Fr) (e : Env) (H : List AO) : run tbl fin K f14r8 e H = regK tbl fin K [] f14o8 [10, 3] e H := run_regK tbl fin K false [] f14o8 [10, 3] e H rfl
@[simp] def f14o9 : List IOper := [
  ⟨(some 2), .mv (.c (.str [84, 84, 73, 78])), none, none⟩]
def f14r9 : IC := .reg false [] f14o9 [2]
@[simp] theorem f14r9_run (tbl : TB) (fin : Fin) (K : List Fr) (e : Env) (H : List AO) : run tbl fin K f14r9 e H = regK tbl fin K [] f14o9 [2] e H := run_regK tbl fin K false [] f14o9 [2] e H rfl
@[simp] def f14o10 : List IOper := [
  ⟨(some 13), .bin .eql (.t 3) (.c (.int .i64 5)), none, none⟩,
  ⟨(some 12), .mv (.t 13), none, none⟩]
def f14r10 : IC := .reg false [] f14o10 [12, 3]
@[simp] theorem f14r10_run (tbl : TB) (fin : Fin) (K : List Fr) (e : Env) (H : List AO) : run tbl fin K f14r10 e H = regK tbl fin K [] f14o10 [12, 3] e H := run_regK tbl fin K false [] f14o10 [12, 3] e H rfl
@[simp] def f14o11 : List IOper := [
  ⟨(some 2), .mv (.c (.str [84, 84, 79, 85])), none, none⟩]
def f14r11 : IC := .reg false [] f14o11 [2]
@[simp] theorem f14r11_run (tbl : TB) (fin : Fin) (K : List Fr) (e : Env) (H : List AO) : run tbl fin K f14r11 e H = regK tbl fin K [] f14o11 [2] e H := run_regK tbl fin K false [] f14o11 [2] e H rfl
@[simp] def f14o12 : List IOper := [
  ⟨(some 15), .bin .eql (.t 3) (.c (.int .i64 9)), none, none⟩,
  ⟨(some 14), .mv (.t 15), none, none⟩]
def f14r12 : IC := .reg false [] f14o12 [14, 3]
@[simp] theorem f14r12_run (tbl : TB) (fin : Fin) (K : List Fr) (e : Env) (H : List AO) : run tbl fin K f14r12 e H = regK tbl fin K [] f14o12 [14, 3] e H := run_regK tbl fin K false [] f14o12 [14, 3] e H rfl
@[simp] def f14o13 : List IOper := [
  ⟨(some 2), .mv (.c (.str [75, 73, 76, 76])), none, none⟩]
def f14r13 : IC := .reg false [] f14o13 [2]
@[simp] theorem f14r13_run (tbl : TB) (fin : Fin) (K : List Fr) (e : Env) (H : List AO) : run tbl fin K f14r13 e H = regK tbl fin K [] f14o13 [2] e H := run_regK tbl fin K false [] f14o13 [2] e H rfl
@[simp] def f14o14 : List IOper := [
  ⟨(some 17), .bin .eql (.t 3) (.c (.int .i64 10)), none, none⟩,
  ⟨(some 16), .mv (.t 17), none, none⟩]
def f14r14 : IC := .reg false [] f14o14 [16, 3]
@[simp] theorem f14r14_run (tbl : TB) (fin : Fin) (K : List Fr) (e : Env) (H : List AO) : run tbl fin K f14r14 e H = regK tbl fin K [] f14o14 [16, 3] e H := run_regK tbl fin K false [] f14o14 [16, 3] e H rfl
@[simp] def f14o15 : List IOper := [
  ⟨(some 2), .mv (.c (.str [85, 83, 82, 49])), none, none⟩]
def f14r15 : IC := .reg false [] f14o15 [2]
@[simp] theorem f14r15_run (tbl : TB) (fin : Fin) (K : List Fr) (e : Env) (H : List AO) : run tbl fin K f14r15 e H = regK tbl fin K [] f14o15 [2] e H := run_regK tbl fin K false [] f14o15 [2] e H rfl
@[simp] def f14o16 : List IOper := [
  ⟨(some 19), .bin .eql (.t 3) (.c (.int .i64 12)), none, none⟩,
  ⟨(some 18), .mv (.t 19), none, none⟩]
def f14r16 : IC := .reg false [] f14o16 [18, 3]
@[simp] theorem f14r16_run (tbl : TB) (fin : Fin) (K : List Fr) (e : Env) (H : List AO) : run tbl fin K f14r16 e H = regK tbl fin K [] f14o16 [18, 3] e H := run_regK tbl fin K false [] f14o16 [18, 3] e H rfl
@[simp] def f14o17 : List IOper := [
  ⟨(some 2), .mv (.c (.str [85, 83, 82, 50])), none, none⟩]
def f14r17 : IC := .reg false [] f14o17 [2]
@[simp] theorem f14r17_run (tbl : TB) (fin : Fin) (K : List Fr) (e : Env) (H : List AO) : run tbl fin K f14r17 e H = regK tbl fin K [] f14o17 [2] e H := run_regK tbl fin K false [] f14o17 [2] e H rfl
@[simp] def f14o18 : List IOper := [
  ⟨(some 21), .bin .eql (.t 3) (.c (.int .i64 13)), none, none⟩,
  ⟨(some 20), .mv (.t 21), none, none⟩]
def f14r18 : IC := .reg false [] f14o18 [20, 3]
@[simp] theorem f14r18_run (tbl : TB) (fin : Fin) (K : List Fr) (e : Env) (H : List AO) : run tbl fin K f14r18 e H = regK tbl fin K [] f14o18 [20, 3] e H := run_regK tbl fin K false [] f14o18 [20, 3] e H rfl
@[simp] def f14o19 : List IOper := [
  ⟨(some 2), .mv (.c (.str [80, 73, 80, 69])), none, none⟩]
def f14r19 : IC := .reg false [] f14o19 [2]
@[simp] theorem f14r19_run (tbl : TB) (fin : Fin) (K : List Fr) (e : Env) (H : List AO) : run tbl fin K f14r19 e H = regK tbl fin K [] f14o19 [2] e H := run_regK tbl fin K false [] f14o19 [2] e H rfl
@[simp] def f14o20 : List IOper := [
  ⟨(some 23), .bin .eql (.t 3) (.c (.int .i64 14)), none, none⟩,
  ⟨(some 22), .mv (.t 23), none, none⟩]
def f14r20 : IC := .reg false [] f14o20 [22, 3]
@[simp] theorem f14r20_run (tbl : TB) (fin : Fin) (K : List Fr) (e : Env) (H : List AO) : run tbl fin K f14r20 e H = regK tbl fin K [] f14o20 [22, 3] e H := run_regK tbl fin K false [] f14o20 [22, 3] e H rfl
@[simp] def f14o21 : List IOper := [
  ⟨(some 2), .mv (.c (.str [65, 76, 82, 77])), none, none⟩]
def f14r21 : IC := .reg false [] f14o21 [2]
@[simp] theorem f14r21_run (tbl : TB) (fin : Fin) (K : List Fr) (e : Env) (H : List AO) : run tbl fin K f14r21 e H = regK tbl fin K [] f14o21 [2] e H := run_regK tbl fin K false [] f14o21 [2] e H rfl
@[simp] def f14o22 : List IOper := [
  ⟨(some 25), .bin .eql (.t 3) (.c (.int .i64 15)), none, none⟩,
  ⟨(some 24), .mv (.t 25), none, none⟩]
def f14r22 : IC := .reg false [] f14o22 [24, 3]
@[simp] theorem f14r22_run (tbl : TB) (fin : Fin) (K : List Fr) (e : Env) (H : List AO) : run tbl fin K f14r22 e H = regK tbl fin K [] f14o22 [24, 3] e H := run_regK tbl fin K false [] f14o22 [24, 3] e H rfl
@[simp] def f14o23 : List IOper := [
  ⟨(some 2), .mv (.c (.str [84, 69, 82, 77])), none, none⟩]
def f14r23 : IC := .reg false [] f14o23 [2]
@[simp] theorem f14r23_run (tbl : TB) (fin : Fin) (K : List Fr) (e : Env) (H : List AO) : run tbl fin K f14r23 e H = regK tbl fin K [] f14o23 [2] e H := run_regK tbl fin K false [] f14o23 [2] e H rfl
@[simp] def f14o24 : List IOper := [
  ⟨(some 27), .bin .eql (.t 3) (.c (.int .i64 17)), none, none⟩,
  ⟨(some 26), .mv (.t 27), none, none⟩]
def f14r24 : IC := .reg false [] f14o24 [26, 3]
@[simp] theorem f14r24_run (tbl : TB) (fin : Fin) (K : List Fr) (e : Env) (H : List AO) : run tbl fin K f14r24 e H = regK tbl fin K [] f14o24 [26, 3] e H := run_regK tbl fin K false [] f14o24 [26, 3] e H rfl
@[simp] def f14o25 : List IOper := [
  ⟨(some 2), .mv (.c (.str [67, 72, 76, 68])), none, none⟩]
def f14r25 : IC := .reg false [] f14o25 [2]
@[simp] theorem f14r25_run (tbl : TB) (fin : Fin) (K : List Fr) (e : Env) (H : List AO) : run tbl fin K f14r25 e H = regK tbl fin K [] f14o25 [2] e H := run_regK tbl fin K false [] f14o25 [2] e H rfl
@[simp] def f14o26 : List IOper := [
  ⟨(some 29), .bin .eql (.t 3) (.c (.int .i64 18)), none, none⟩,
  ⟨(some 28), .mv (.t 29), none, none⟩]
def f14r26 : IC := .reg false [] f14o26 [28, 3]
@[simp] theorem f14r26_run (tbl : TB) (fin : Fin) (K : List Fr) (e : Env) (H : List AO) : run tbl fin K f14r26 e H = regK tbl fin K [] f14o26 [28, 3] e H := run_regK tbl fin K false [] f14o26 [28, 3] e H rfl
@[simp] def f14o27 : List IOper := [
  ⟨(some 2), .mv (.c (.str [67, 79, 78, 84])), none, none⟩]
def f14r27 : IC := .reg false [] f14o27 [2]
@[simp] theorem f14r27_run (tbl : TB) (fin : Fin) (K : List Fr) (e : Env) (H : List AO) : run tbl fin K f14r27 e H = regK tbl fin K [] f14o27 [2] e H := run_regK tbl fin K false [] f14o27 [2] e H rfl
@[simp] def f14o28 : List IOper := [
  ⟨(some 31), .bin .eql (.t 3) (.c (.int .i64 19)), none, none⟩,
  ⟨(some 30), .mv (.t 31), none, none⟩]
def f14r28 : IC := .reg false [] f14o28 [30, 3]
@[simp] theorem f14r28_run (tbl : TB) (fin : Fin) (K : List Fr) (e : Env) (H : List AO) : run tbl fin K f14r28 e H = regK tbl fin K [] f14o28 [30, 3] e H := run_regK tbl fin K false [] f14o28 [30, 3] e H rfl
@[simp] def f14o29 : List IOper := [
  ⟨(some 2), .mv (.c (.str [83, 84, 79, 80])), none, none⟩]
def f14r29 : IC := .reg false [] f14o29 [2]
@[simp] theorem f14r29_run (tbl : TB) (fin : Fin) (K : List Fr) (e : Env) (H : List AO) : run tbl fin K f14r29 e H = regK tbl fin K [] f14o29 [2] e H := run_regK tbl fin K false [] f14o29 [2] e H rfl
@[simp] def f14o30 : List IOper := [
  ⟨(some 33), .bin .eql (.t 3) (.c (.int .i64 20)), none, none⟩,
  ⟨(some 32), .mv (.t 33), none, none⟩]
def f14r30 : IC := .reg false [] f14o30 [32]
@[simp] theorem f14r30_run (tbl : TB) (fin : Fin) (K : List Fr) (e : Env) (H : List AO) : run tbl fin K f14r30 e H = regK tbl fin K [] f14o30 [32] e H := run_regK tbl fin K false [] f14o30 [32] e H rfl
@[simp] def f14o31 : List IOper := [
  ⟨(some 2), .mv (.c (.str [84, 83, 84, 80])), none, none⟩]
def f14r31 : IC := .reg false [] f14o31 [2]
@[simp] theorem f14r31_run (tbl : TB) (fin : Fin) (K : List Fr) (e : Env) (H : List AO) : run tbl fin K f14r31 e H = regK tbl fin K [] f14o31 [2] e H := run_regK tbl fin K false [] f14o31 [2] e H rfl
@[simp] def f14o32 : List IOper := [
  ⟨(some 2), .mv (.c (.str [])), none, none⟩]
def f14r32 : IC := .reg false [] f14o32 [2]
@[simp] theorem f14r32_run (tbl : TB) (fin : Fin) (K : List Fr) (e : Env) (H : List AO) : run tbl fin K f14r32 e H = regK tbl fin K [] f14o32 [2] e H := run_regK tbl fin K false [] f14o32 [2] e H rfl
def f14body : IC := (.seq f14r0 (.seq (.seq f14r1 (.block 0 (.seq f14r2 (.cond (.t 4) (.seq f14r3 .ret) (.seq f14r4 (.cond (.t 6) (.seq f14r5 .ret) (.seq f14r6 (.cond (.t 8) (.seq f14r7 .ret) (.seq f14r8 (.cond (.t 10) (.seq f14r9 .ret) (.seq f14r10 (.cond (.t 12) (.seq f14r11 .ret) (.seq f14r12 (.cond (.t 14) (.seq f14r13 .ret) (.seq f14r14 (.cond (.t 16) (.seq f14r15 .ret) (.seq f14r16 (.cond (.t 18) (.seq f14r17 .ret) (.seq f14r18 (.cond (.t 20) (.seq f14r19 .ret) (.seq f14r20 (.cond (.t 22) (.seq f14r21 .ret) (.seq f14r22 (.cond (.t 24) (.seq f14r23 .ret) (.seq f14r24 (.cond (.t 26) (.seq f14r25 .ret) (.seq f14r26 (.cond (.t 28) (.seq f14r27 .ret) (.seq f14r28 (.cond (.t 30) (.seq f14r29 .ret) (.seq f14r30 (.cond (.t 32) (.seq f14r31 .ret) .skip)))))))))))))))))))))))))))))))) (.seq f14r32 .ret)))
def f14 : IFn := ⟨34, 1, [.tmp 2], f14body⟩
/- 15: jobshell/signal.Default -/
@[simp] def f15o0 : List IOper := [
  ⟨(some 2), .mv (.c (.int .i64 0)), none, none⟩]
def f15r0 : IC := .reg false [] f15o0 [0]
@[simp] theorem f15r0_run (tbl : TB) (fin : Fin) (K : List Fr) (e : Env) (H : List AO) : run tbl fin K f15r0 e H = regK tbl fin K [] f15o0 [0] e H := run_regK tbl fin K false [] f15o0 [0] e H rfl
@[simp] def f15o1 : List IOper := [
  ⟨(some 4), .mv (.t 0), none, none⟩,
  ⟨(some 5), .call (.c (.fn 34 [])) [(.t 4)], none, none⟩,
  ⟨(some 3), .mv (.t 5), none, none⟩]
def f15r1 : IC := .reg false [] f15o1 [3, 0]
@[simp] theorem f15r1_run (tbl : TB) (fin : Fin) (K : List Fr) (e : Env) (H : List AO) : run tbl fin K f15r1 e H = regK tbl fin K [] f15o1 [3, 0] e H := run_regK tbl fin K false [] f15o1 [3, 0] e H rfl
@[simp] def f15o2 : List IOper := [
  ⟨(some 2), .mv (.c (.int .i64 2)), none, none⟩]
def f15r2 : IC := .reg false [] f15o2 [2]
@[simp] theorem f15r2_run (tbl : TB) (fin : Fin) (K : List Fr) (e : Env) (H : List AO) : run tbl fin K f15r2 e H = regK tbl fin K [] f15o2 [2] e H := run_regK tbl fin K false [] f15o2 [2] e H rfl
@[simp] def f15o3 : List IOper := [
  ⟨(some 7), .mv (.t 0), none, none⟩,
  ⟨(some 8), .bin .eql (.t 7) (.c (.int .i64 18)), none, none⟩,
  ⟨(some 6), .mv (.t 8), none, none⟩]
def f15r3 : IC := .reg false [] f15o3 [6, 0]
@[simp] theorem f15r3_run (tbl : TB) (fin : Fin) (K : List Fr) (e : Env) (H : List AO) : run tbl fin K f15r3 e H = regK tbl fin K [] f15o3 [6, 0] e H := run_regK tbl fin K false [] f15o3 [6, 0] e H rfl
@[simp] def f15o4 : List IOper := [
  ⟨(some 2), .mv (.c (.int .i64 3)), none, none⟩]
def f15r4 : IC := .reg false [] f15o4 [2]
@[simp] theorem f15r4_run (tbl : TB) (fin : Fin) (K : List Fr) (e : Env) (H : List AO) : run tbl fin K f15r4 e H = regK tbl fin K [] f15o4 [2] e H := run_regK tbl fin K false [] f15o4 [2] e H rfl
@[simp] def f15o5 : List IOper := [
  ⟨(some 10), .mv (.t 0), none, none⟩,
  ⟨(some 11), .bin .eql (.t 10) (.c (.int .i64 17)), none, none⟩,
  ⟨(some 12), .mv (.t 11), none, none⟩,
  ⟨(some 13), .mv (.t 0), (some (12, false)), none⟩,
  ⟨(some 14), .call (.c (.fn 35 [])) [(.t 13)], (some (12, false)), none⟩,
  ⟨(some 15), .un .not (.t 14), (some (12, false)), none⟩,
  ⟨(some 16), .pick (.t 12) (.c (.bool true)) (.t 15), none, none⟩,
  ⟨(some 9), .mv (.t 16), none, none⟩]
def f15r5 : IC := .reg false [] f15o5 [9]
@[simp] theorem f15r5_run (tbl : TB) (fin : Fin) (K : List Fr) (e : Env) (H : List AO) : run tbl fin K f15r5 e H = regK tbl fin K [] f15o5 [9] e H := run_regK tbl fin K false [] f15o5 [9] e H rfl
@[simp] def f15o6 : List IOper := [
  ⟨(some 2), .mv (.c (.int .i64 0)), none, none⟩]
def f15r6 : IC := .reg false [] f15o6 [2]
@[simp] theorem f15r6_run (tbl : TB) (fin : Fin) (K : List Fr) (e : Env) (H : List AO) : run tbl fin K f15r6 e H = regK tbl fin K [] f15o6 [2] e H := run_regK tbl fin K false [] f15o6 [2] e H rfl
@[simp] def f15o7 : List IOper := [
  ⟨(some 2), .mv (.c (.int .i64 1)), none, none⟩]
def f15r7 : IC := .reg false [] f15o7 [2]
@[simp] theorem f15r7_run (tbl : TB) (fin : Fin) (K : List Fr) (e : Env) (H : List AO) : run tbl fin K f15r7 e H = regK tbl fin K [] f15o7 [2] e H := run_regK tbl fin K false [] f15o7 [2] e H rfl
def f15body : IC := (.seq f15r0 (.seq (.block 0 (.seq f15r1 (.cond (.t 3) (.seq f15r2 .ret) (.seq f15r3 (.cond (.t 6) (.seq f15r4 .ret) (.seq f15r5 (.cond (.t 9) (.seq f15r6 .ret) .skip))))))) (.seq f15r7 .ret)))
def f15 : IFn := ⟨17, 1, [.tmp 2], f15body⟩
/- 16: jobshell/jobshellref25.Default -/
@[simp] def f16o0 : List IOper := [
  ⟨(some 2), .mv (.c (.int .i64 0)), none, none⟩]
def f16r0 : IC := .reg false [] f16o0 [0]
@[simp] theorem f16r0_run (tbl : TB) (fin : Fin) (K : List Fr) (e : Env) (H : List AO) : run tbl fin K f16r0 e H = regK tbl fin K [] f16o0 [0] e H := run_regK tbl fin K false [] f16o0 [0] e H rfl
@[simp] def f16o1 : List IOper := [
  ⟨(some 3), .mv (.t 0), none, none⟩,
  ⟨(some 4), .call (.c (.fn 14 [])) [(.t 3)], none, none⟩,
  ⟨(some 5), .bin .eql (.t 4) (.c (.str [])), none, none⟩,
  ⟨(some 6), .mv (.t 5), none, none⟩,
  ⟨(some 7), .mv (.t 0), (some (6, false)), none⟩,
  ⟨(some 8), .bin .eql (.t 7) (.c (.int .i64 17)), (some (6, false)), none⟩,
  ⟨(some 9), .pick (.t 6) (.c (.bool true)) (.t 8), none, none⟩]
def f16r1 : IC := .reg false [] f16o1 [9, 0]
@[simp] theorem f16r1_run (tbl : TB) (fin : Fin) (K : List Fr) (e : Env) (H : List AO) : run tbl fin K f16r1 e H = regK tbl fin K [] f16o1 [9, 0] e H := run_regK tbl fin K false [] f16o1 [9, 0] e H rfl
@[simp] def f16o2 : List IOper := [
  ⟨(some 2), .mv (.c (.int .i64 0)), none, none⟩]
def f16r2 : IC := .reg false [] f16o2 [2]
@[simp] theorem f16r2_run (tbl : TB) (fin : Fin) (K : List Fr) (e : Env) (H : List AO) : run tbl fin K f16r2 e H = regK tbl fin K [] f16o2 [2] e H := run_regK tbl fin K false [] f16o2 [2] e H rfl
@[simp] def f16o3 : List IOper := [
  ⟨(some 10), .mv (.t 0), none, none⟩,
  ⟨(some 11), .call (.c (.fn 36 [])) [(.t 10)], none, none⟩]
def f16r3 : IC := .reg false [] f16o3 [11, 0]
@[simp] theorem f16r3_run (tbl : TB) (fin : Fin) (K : List Fr) (e : Env) (H : List AO) : run tbl fin K f16r3 e H = regK tbl fin K [] f16o3 [11, 0] e H := run_regK tbl fin K false [] f16o3 [11, 0] e H rfl
@[simp] def f16o4 : List IOper := [
  ⟨(some 2), .mv (.c (.int .i64 2)), none, none⟩]
def f16r4 : IC := .reg false [] f16o4 [2]
@[simp] theorem f16r4_run (tbl : TB) (fin : Fin) (K : List Fr) (e : Env) (H : List AO) : run tbl fin K f16r4 e H = regK tbl fin K [] f16o4 [2] e H := run_regK tbl fin K false [] f16o4 [2] e H rfl
@[simp] def f16o5 : List IOper := [
  ⟨(some 12), .mv (.t 0), none, none⟩,
  ⟨(some 13), .bin .eql (.t 12) (.c (.int .i64 18)), none, none⟩]
def f16r5 : IC := .reg false [] f16o5 [13]
@[simp] theorem f16r5_run (tbl : TB) (fin : Fin) (K : List Fr) (e : Env) (H : List AO) : run tbl fin K f16r5 e H = regK tbl fin K [] f16o5 [13] e H := run_regK tbl fin K false [] f16o5 [13] e H rfl
@[simp] def f16o6 : List IOper := [
  ⟨(some 2), .mv (.c (.int .i64 3)), none, none⟩]
def f16r6 : IC := .reg false [] f16o6 [2]
@[simp] theorem f16r6_run (tbl : TB) (fin : Fin) (K : List Fr) (e : Env) (H : List AO) : run tbl fin K f16r6 e H = regK tbl fin K [] f16o6 [2] e H := run_regK tbl fin K false [] f16o6 [2] e H rfl
@[simp] def f16o7 : List IOper := [
  ⟨(some 2), .mv (.c (.int .i64 1)), none, none⟩]
def f16r7 : IC := .reg false [] f16o7 [2]
@[simp] theorem f16r7_run (tbl : TB) (fin : Fin) (K : List Fr) (e : Env) (H : List AO) : run tbl fin K f16r7 e H = regK tbl fin K [] f16o7 [2] e H := run_regK tbl fin K false [] f16o7 [2] e H rfl
def f16body : IC := (.seq f16r0 (.seq (.seq f16r1 (.cond (.t 9) (.seq f16r2 .ret) .skip)) (.seq (.seq f16r3 (.cond (.t 11) (.seq f16r4 .ret) .skip)) (.seq (.seq f16r5 (.cond (.t 13) (.seq f16r6 .ret) .skip)) (.seq f16r7 .ret)))))
def f16 : IFn := ⟨14, 1, [.tmp 2], f16body⟩
/- 17: jobshell/jobshelllaw25.short -/
@[simp] def f17o0 : List IOper := [
  ⟨(some 1), .box 30 3 (.t 0), none, none⟩,
  ⟨(some 2), .mv (.c (.bool false)), none, none⟩]
def f17r0 : IC := .reg false [] f17o0 [1]
@[simp] theorem f17r0_run (tbl : TB) (fin : Fin) (K : List Fr) (e : Env) (H : List AO) : run tbl fin K f17r0 e H = regK tbl fin K [] f17o0 [1] e H := run_regK tbl fin K false [] f17o0 [1] e H rfl
@[simp] def f17o1 : List IOper := [
  ⟨(some 3), .fld 0 (.t 1), none, none⟩,
  ⟨(some 4), .load false 1 (.t 3), none, none⟩,
  ⟨(some 5), .len (.t 4), none, none⟩,
  ⟨(some 6), .bin .leq (.t 5) (.c (.int .i64 30)), none, none⟩,
  ⟨(some 7), .mv (.t 6), none, none⟩,
  ⟨(some 8), .fld 1 (.t 1), (some (7, true)), none⟩,
  ⟨(some 9), .load false 1 (.t 8), (some (7, true)), none⟩,
  ⟨(some 10), .len (.t 9), (some (7, true)), some [10, 7, 1]⟩,
  ⟨(some 11), .bin .leq (.t 10) (.c (.int .i64 30)), (some (7, true)), none⟩,
  ⟨(some 12), .pick (.t 7) (.t 11) (.c (.bool false)), none, none⟩,
  ⟨(some 13), .mv (.t 12), none, none⟩,
  ⟨(some 14), .fld 2 (.t 1), (some (13, true)), none⟩,
  ⟨(some 15), .load false 1 (.t 14), (some (13, true)), none⟩,
  ⟨(some 16), .len (.t 15), (some (13, true)), none⟩,
  ⟨(some 17), .bin .leq (.t 16) (.c (.int .i64 30)), (some (13, true)), none⟩,
  ⟨(some 18), .pick (.t 13) (.t 17) (.c (.bool false)), none, some [18]⟩,
  ⟨(some 2), .mv (.t 18), none, none⟩]
def f17r1 : IC := .reg false [] f17o1 [2]
@[simp] theorem f17r1_run (tbl : TB) (fin : Fin) (K : List Fr) (e : Env) (H : List AO) : run tbl fin K f17r1 e H = regK tbl fin K [] f17o1 [2] e H := run_regK tbl fin K false [] f17o1 [2] e H rfl
def f17body : IC := (.seq f17r0 (.seq f17r1 .ret))
def f17 : IFn := ⟨19, 1, [.tmp 2], f17body⟩
/- 18: jobshell/jobshellref25.Valid -/
@[simp] def f18o0 : List IOper := [
  ⟨(some 1), .box 30 3 (.t 0), none, none⟩,
  ⟨(some 2), .mv (.c (.int .i64 0)), none, none⟩]
def f18r0 : IC := .reg false [] f18o0 [1]
@[simp] theorem f18r0_run (tbl : TB) (fin : Fin) (K : List Fr) (e : Env) (H : List AO) : run tbl fin K f18r0 e H = regK tbl fin K [] f18o0 [1] e H := run_regK tbl fin K false [] f18o0 [1] e H rfl
@[simp] def f18o1 : List IOper := [
  ⟨(some 6), .fld 0 (.t 1), none, none⟩,
  ⟨(some 7), .load false 1 (.t 6), none, none⟩,
  ⟨(some 8), .call (.c (.fn 37 [])) [(.t 7)], none, none⟩,
  ⟨(some 9), .un .not (.t 8), none, none⟩,
  ⟨(some 10), .mv (.t 9), none, none⟩,
  ⟨(some 11), .fld 1 (.t 1), (some (10, false)), none⟩,
  ⟨(some 12), .load false 1 (.t 11), (some (10, false)), none⟩,
  ⟨(some 13), .call (.c (.fn 37 [])) [(.t 12)], (some (10, false)), some [13, 10, 1]⟩,
  ⟨(some 14), .un .not (.t 13), (some (10, false)), none⟩,
  ⟨(some 15), .pick (.t 10) (.c (.bool true)) (.t 14), none, none⟩,
  ⟨(some 16), .mv (.t 15), none, none⟩,
  ⟨(some 17), .fld 2 (.t 1), (some (16, false)), none⟩,
  ⟨(some 18), .load false 1 (.t 17), (some (16, false)), none⟩,
  ⟨(some 19), .call (.c (.fn 37 [])) [(.t 18)], (some (16, false)), none⟩,
  ⟨(some 20), .un .not (.t 19), (some (16, false)), none⟩,
  ⟨(some 21), .pick (.t 16) (.c (.bool true)) (.t 20), none, none⟩]
def f18r1 : IC := .reg false [] f18o1 [21, 1]
@[simp] theorem f18r1_run (tbl : TB) (fin : Fin) (K : List Fr) (e : Env) (H : List AO) : run tbl fin K f18r1 e H = regK tbl fin K [] f18o1 [21, 1] e H := run_regK tbl fin K false [] f18o1 [21, 1] e H rfl
@[simp] def f18o2 : List IOper := [
  ⟨(some 2), .mv (.c (.int .i64 1)), none, none⟩]
def f18r2 : IC := .reg false [] f18o2 [2]
@[simp] theorem f18r2_run (tbl : TB) (fin : Fin) (K : List Fr) (e : Env) (H : List AO) : run tbl fin K f18r2 e H = regK tbl fin K [] f18o2 [2] e H := run_regK tbl fin K false [] f18o2 [2] e H rfl
@[simp] def f18o3 : List IOper := [
  ⟨(some 3), .mv (.c (.int .i64 1)), none, none⟩]
def f18r3 : IC := .reg false [] f18o3 [1, 3]
@[simp] theorem f18r3_run (tbl : TB) (fin : Fin) (K : List Fr) (e : Env) (H : List AO) : run tbl fin K f18r3 e H = regK tbl fin K [] f18o3 [1, 3] e H := run_regK tbl fin K false [] f18o3 [1, 3] e H rfl
@[simp] def f18o4 : List IOper := [
  ⟨(some 22), .mv (.t 3), none, none⟩,
  ⟨(some 23), .bin .leq (.t 22) (.c (.int .i64 20)), none, none⟩]
def f18r4 : IC := .reg false [] f18o4 [23, 1, 3]
@[simp] theorem f18r4_run (tbl : TB) (fin : Fin) (K : List Fr) (e : Env) (H : List AO) : run tbl fin K f18r4 e H = regK tbl fin K [] f18o4 [23, 1, 3] e H := run_regK tbl fin K false [] f18o4 [23, 1, 3] e H rfl
@[simp] def f18o5 : List IOper := [
  ⟨(some 26), .mv (.t 3), none, none⟩,
  ⟨(some 27), .bin .eql (.t 26) (.c (.int .i64 9)), none, none⟩,
  ⟨(some 28), .mv (.t 27), none, none⟩,
  ⟨(some 29), .mv (.t 3), (some (28, false)), none⟩,
  ⟨(some 30), .bin .eql (.t 29) (.c (.int .i64 19)), (some (28, false)), none⟩,
  ⟨(some 31), .pick (.t 28) (.c (.bool true)) (.t 30), none, none⟩,
  ⟨(some 4), .mv (.t 31), none, none⟩]
def f18r5 : IC := .reg false [] f18o5 [4, 1, 3]
@[simp] theorem f18r5_run (tbl : TB) (fin : Fin) (K : List Fr) (e : Env) (H : List AO) : run tbl fin K f18r5 e H = regK tbl fin K [] f18o5 [4, 1, 3] e H := run_regK tbl fin K false [] f18o5 [4, 1, 3] e H rfl
@[simp] def f18o6 : List IOper := [
  ⟨(some 32), .mv (.t 4), none, none⟩,
  ⟨(some 33), .mv (.t 32), none, none⟩,
  ⟨(some 34), .fld 1 (.t 1), (some (33, true)), none⟩,
  ⟨(some 35), .load false 1 (.t 34), (some (33, true)), none⟩,
  ⟨(some 36), .mv (.t 3), (some (33, true)), none⟩,
  ⟨(some 37), .call (.c (.fn 24 [])) [(.t 35), (.t 36)], (some (33, true)), none⟩,
  ⟨(some 38), .mv (.t 37), (some (33, true)), none⟩,
  ⟨(some 39), .fld 2 (.t 1), (some (38, false)), some [39, 38, 33, 1, 3]⟩,
  ⟨(some 40), .load false 1 (.t 39), (some (38, false)), none⟩,
  ⟨(some 41), .mv (.t 3), (some (38, false)), none⟩,
  ⟨(some 42), .call (.c (.fn 24 [])) [(.t 40), (.t 41)], (some (38, false)), none⟩,
  ⟨(some 43), .pick (.t 38) (.c (.bool true)) (.t 42), (some (33, true)), none⟩,
  ⟨(some 44), .pick (.t 33) (.t 43) (.c (.bool false)), none, none⟩,
  ⟨(some 45), .mv (.t 44), none, none⟩,
  ⟨(some 46), .fld 1 (.t 1), (some (45, false)), none⟩,
  ⟨(some 47), .load false 1 (.t 46), (some (45, false)), some [47, 45, 1, 3]⟩,
  ⟨(some 48), .mv (.t 3), (some (45, false)), none⟩,
  ⟨(some 49), .call (.c (.fn 24 [])) [(.t 47), (.t 48)], (some (45, false)), none⟩,
  ⟨(some 50), .mv (.t 49), (some (45, false)), none⟩,
  ⟨(some 51), .fld 2 (.t 1), (some (50, true)), none⟩,
  ⟨(some 52), .load false 1 (.t 51), (some (50, true)), none⟩,
  ⟨(some 53), .mv (.t 3), (some (50, true)), none⟩,
  ⟨(some 54), .call (.c (.fn 24 [])) [(.t 52), (.t 53)], (some (50, true)), none⟩,
  ⟨(some 55), .pick (.t 50) (.t 54) (.c (.bool false)), (some (45, false)), some [55, 45, 1, 3]⟩,
  ⟨(some 56), .pick (.t 45) (.c (.bool true)) (.t 55), none, none⟩]
def f18r6 : IC := .reg false [] f18o6 [56, 1, 3]
@[simp] theorem f18r6_run (tbl : TB) (fin : Fin) (K : List Fr) (e : Env) (H : List AO) : run tbl fin K f18r6 e H = regK tbl fin K [] f18o6 [56, 1, 3] e H := run_regK tbl fin K false [] f18o6 [56, 1, 3] e H rfl
@[simp] def f18o7 : List IOper := [
  ⟨(some 2), .mv (.c (.int .i64 1)), none, none⟩]
def f18r7 : IC := .reg false [] f18o7 [2]
@[simp] theorem f18r7_run (tbl : TB) (fin : Fin) (K : List Fr) (e : Env) (H : List AO) : run tbl fin K f18r7 e H = regK tbl fin K [] f18o7 [2] e H := run_regK tbl fin K false [] f18o7 [2] e H rfl
@[simp] def f18o8 : List IOper := [
  ⟨(some 24), .mv (.t 3), none, none⟩,
  ⟨(some 25), .bin .add (.t 24) (.c (.int .i64 1)), none, none⟩,
  ⟨(some 3), .mv (.t 25), none, none⟩]
def f18r8 : IC := .reg false [] f18o8 [1, 3]
@[simp] theorem f18r8_run (tbl : TB) (fin : Fin) (K : List Fr) (e : Env) (H : List AO) : run tbl fin K f18r8 e H = regK tbl fin K [] f18o8 [1, 3] e H := run_regK tbl fin K false [] f18o8 [1, 3] e H rfl
def f18b9 : IC := (.seq (.seq f18r4 (.cond (.t 23) .skip (.exit 0))) (.seq (.block 1 (.seq f18r5 (.seq f18r6 (.cond (.t 56) (.seq f18r7 .ret) .skip)))) f18r8))
theorem f18b9_eq : f18b9 = (.seq (.seq f18r4 (.cond (.t 23) .skip (.exit 0))) (.seq (.block 1 (.seq f18r5 (.seq f18r6 (.cond (.t 56) (.seq f18r7 .ret) .skip)))) f18r8)) := rfl
@[simp] def f18o10 : List IOper := [
  ⟨(some 5), .mv (.c (.int .i64 1)), none, none⟩]
def f18r10 : IC := .reg false [] f18o10 [5, 1]
@[simp] theorem f18r10_run (tbl : TB) (fin : Fin) (K : List Fr) (e : Env) (H : List AO) : run tbl fin K f18r10 e H = regK tbl fin K [] f18o10 [5, 1] e H := run_regK tbl fin K false [] f18o10 [5, 1] e H rfl
@[simp] def f18o11 : List IOper := [
  ⟨(some 57), .mv (.t 5), none, none⟩,
  ⟨(some 58), .bin .leq (.t 57) (.c (.int .i64 20)), none, none⟩]
def f18r11 : IC := .reg false [] f18o11 [58, 5, 1]
@[simp] theorem f18r11_run (tbl : TB) (fin : Fin) (K : List Fr) (e : Env) (H : List AO) : run tbl fin K f18r11 e H = regK tbl fin K [] f18o11 [58, 5, 1] e H := run_regK tbl fin K false [] f18o11 [58, 5, 1] e H rfl
@[simp] def f18o12 : List IOper := [
  ⟨(some 61), .mv (.t 5), none, none⟩,
  ⟨(some 62), .bin .neq (.t 61) (.c (.int .i64 18)), none, none⟩,
  ⟨(some 63), .mv (.t 62), none, none⟩,
  ⟨(some 64), .fld 0 (.t 1), (some (63, true)), none⟩,
  ⟨(some 65), .load false 1 (.t 64), (some (63, true)), none⟩,
  ⟨(some 66), .mv (.t 5), (some (63, true)), none⟩,
  ⟨(some 67), .call (.c (.fn 24 [])) [(.t 65), (.t 66)], (some (63, true)), none⟩,
  ⟨(some 68), .pick (.t 63) (.t 67) (.c (.bool false)), none, some [68, 5, 1]⟩,
  ⟨(some 69), .mv (.t 68), none, none⟩,
  ⟨(some 70), .fld 1 (.t 1), (some (69, true)), none⟩,
  ⟨(some 71), .load false 1 (.t 70), (some (69, true)), none⟩,
  ⟨(some 72), .mv (.t 5), (some (69, true)), none⟩,
  ⟨(some 73), .call (.c (.fn 24 [])) [(.t 71), (.t 72)], (some (69, true)), none⟩,
  ⟨(some 74), .pick (.t 69) (.t 73) (.c (.bool false)), none, none⟩]
def f18r12 : IC := .reg false [] f18o12 [74, 5, 1]
@[simp] theorem f18r12_run (tbl : TB) (fin : Fin) (K : List Fr) (e : Env) (H : List AO) : run tbl fin K f18r12 e H = regK tbl fin K [] f18o12 [74, 5, 1] e H := run_regK tbl fin K false [] f18o12 [74, 5, 1] e H rfl
@[simp] def f18o13 : List IOper := [
  ⟨(some 2), .mv (.c (.int .i64 25)), none, none⟩]
def f18r13 : IC := .reg false [] f18o13 [2]
@[simp] theorem f18r13_run (tbl : TB) (fin : Fin) (K : List Fr) (e : Env) (H : List AO) : run tbl fin K f18r13 e H = regK tbl fin K [] f18o13 [2] e H := run_regK tbl fin K false [] f18o13 [2] e H rfl
@[simp] def f18o14 : List IOper := [
  ⟨(some 75), .mv (.t 5), none, none⟩,
  ⟨(some 76), .call (.c (.fn 36 [])) [(.t 75)], none, none⟩,
  ⟨(some 77), .mv (.t 76), none, none⟩,
  ⟨(some 78), .fld 0 (.t 1), (some (77, true)), none⟩,
  ⟨(some 79), .load false 1 (.t 78), (some (77, true)), none⟩,
  ⟨(some 80), .mv (.t 5), (some (77, true)), none⟩,
  ⟨(some 81), .call (.c (.fn 24 [])) [(.t 79), (.t 80)], (some (77, true)), none⟩,
  ⟨(some 82), .pick (.t 77) (.t 81) (.c (.bool false)), none, some [82, 1, 5]⟩,
  ⟨(some 83), .mv (.t 82), none, none⟩,
  ⟨(some 84), .fld 0 (.t 1), (some (83, true)), none⟩,
  ⟨(some 85), .load false 1 (.t 84), (some (83, true)), none⟩,
  ⟨(some 86), .call (.c (.fn 24 [])) [(.t 85), (.c (.int .i64 18))], (some (83, true)), none⟩,
  ⟨(some 87), .pick (.t 83) (.t 86) (.c (.bool false)), none, none⟩]
def f18r14 : IC := .reg false [] f18o14 [87, 1, 5]
@[simp] theorem f18r14_run (tbl : TB) (fin : Fin) (K : List Fr) (e : Env) (H : List AO) : run tbl fin K f18r14 e H = regK tbl fin K [] f18o14 [87, 1, 5] e H := run_regK tbl fin K false [] f18o14 [87, 1, 5] e H rfl
@[simp] def f18o15 : List IOper := [
  ⟨(some 2), .mv (.c (.int .i64 25)), none, none⟩]
def f18r15 : IC := .reg false [] f18o15 [2]
@[simp] theorem f18r15_run (tbl : TB) (fin : Fin) (K : List Fr) (e : Env) (H : List AO) : run tbl fin K f18r15 e H = regK tbl fin K [] f18o15 [2] e H := run_regK tbl fin K false [] f18o15 [2] e H rfl
@[simp] def f18o16 : List IOper := [
  ⟨(some 59), .mv (.t 5), none, none⟩,
  ⟨(some 60), .bin .add (.t 59) (.c (.int .i64 1)), none, none⟩,
  ⟨(some 5), .mv (.t 60), none, none⟩]
def f18r16 : IC := .reg false [] f18o16 [5, 1]
@[simp] theorem f18r16_run (tbl : TB) (fin : Fin) (K : List Fr) (e : Env) (H : List AO) : run tbl fin K f18r16 e H = regK tbl fin K [] f18o16 [5, 1] e H := run_regK tbl fin K false [] f18o16 [5, 1] e H rfl
def f18b17 : IC := (.seq (.seq f18r11 (.cond (.t 58) .skip (.exit 2))) (.seq (.block 3 (.seq (.seq f18r12 (.cond (.t 74) (.seq f18r13 .ret) .skip)) (.seq f18r14 (.cond (.t 87) (.seq f18r15 .ret) .skip)))) f18r16))
theorem f18b17_eq : f18b17 = (.seq (.seq f18r11 (.cond (.t 58) .skip (.exit 2))) (.seq (.block 3 (.seq (.seq f18r12 (.cond (.t 74) (.seq f18r13 .ret) .skip)) (.seq f18r14 (.cond (.t 87) (.seq f18r15 .ret) .skip)))) f18r16)) := rfl
@[simp] def f18o18 : List IOper := [
  ⟨(some 2), .mv (.c (.int .i64 0)), none, none⟩]
def f18r18 : IC := .reg false [] f18o18 [2]
@[simp] theorem f18r18_run (tbl : TB) (fin : Fin) (K : List Fr) (e : Env) (H : List AO) : run tbl fin K f18r18 e H = regK tbl fin K [] f18o18 [2] e H := run_regK tbl fin K false [] f18o18 [2] e H rfl
def f18body : IC := (.seq f18r0 (.seq (.seq f18r1 (.cond (.t 21) (.seq f18r2 .ret) .skip)) (.seq (.seq f18r3 (.block 0 (.loop [1, 3] f18b9))) (.seq (.seq f18r10 (.block 2 (.loop [5, 1] f18b17))) (.seq f18r18 .ret)))))
def f18 : IFn := ⟨88, 1, [.tmp 2], f18body⟩
/- 19: jobshell/signal.Next -/
@[simp] def f19o0 : List IOper := [
  ⟨(some 1), .box 30 3 (.t 0), none, none⟩,
  ⟨(some 2), .new 30 3 (.agg [.e0, .e0, .e0]), none, none⟩,
  ⟨(some 3), .mv (.c (.int .i64 0)), none, none⟩,
  ⟨(some 4), .mv (.c (.int .i64 0)), none, none⟩]
def f19r0 : IC := .reg false [] f19o0 [1, 2]
@[simp] theorem f19r0_run (tbl : TB) (fin : Fin) (K : List Fr) (e : Env) (H : List AO) : run tbl fin K f19r0 e H = regK tbl fin K [] f19o0 [1, 2] e H := run_regK tbl fin K false [] f19o0 [1, 2] e H rfl
@[simp] def f19o1 : List IOper := [
  ⟨(some 6), .fld 0 (.t 1), none, none⟩,
  ⟨(some 7), .load false 1 (.t 6), none, none⟩,
  ⟨(some 8), .len (.t 7), none, none⟩,
  ⟨(some 9), .bin .eql (.t 8) (.c (.int .i64 0)), none, none⟩]
def f19r1 : IC := .reg false [] f19o1 [9, 1, 2]
@[simp] theorem f19r1_run (tbl : TB) (fin : Fin) (K : List Fr) (e : Env) (H : List AO) : run tbl fin K f19r1 e H = regK tbl fin K [] f19o1 [9, 1, 2] e H := run_regK tbl fin K false [] f19o1 [9, 1, 2] e H rfl
@[simp] def f19o2 : List IOper := [
  ⟨(some 10), .load true 3 (.t 1), none, none⟩,
  ⟨none, .store 3 (.t 2) (.t 10), none, none⟩,
  ⟨(some 3), .mv (.c (.int .i64 0)), none, none⟩,
  ⟨(some 4), .mv (.c (.int .i64 0)), none, none⟩]
def f19r2 : IC := .reg false [] f19o2 [2, 3, 4]
@[simp] theorem f19r2_run (tbl : TB) (fin : Fin) (K : List Fr) (e : Env) (H : List AO) : run tbl fin K f19r2 e H = regK tbl fin K [] f19o2 [2, 3, 4] e H := run_regK tbl fin K false [] f19o2 [2, 3, 4] e H rfl
@[simp] def f19o3 : List IOper := [
  ⟨(some 11), .fld 0 (.t 1), none, none⟩,
  ⟨(some 12), .load false 1 (.t 11), none, none⟩,
  ⟨(some 13), .call (.c (.fn 38 [])) [(.t 12)], none, none⟩,
  ⟨(some 5), .mv (.t 13), none, none⟩]
def f19r3 : IC := .reg false [] f19o3 [5, 1, 2]
@[simp] theorem f19r3_run (tbl : TB) (fin : Fin) (K : List Fr) (e : Env) (H : List AO) : run tbl fin K f19r3 e H = regK tbl fin K [] f19o3 [5, 1, 2] e H := run_regK tbl fin K false [] f19o3 [5, 1, 2] e H rfl
@[simp] def f19o4 : List IOper := [
  ⟨(some 14), .fld 0 (.t 1), none, none⟩,
  ⟨(some 15), .load false 1 (.t 14), none, none⟩,
  ⟨(some 16), .call (.c (.fn 39 [])) [(.t 15), (.c (.int .i64 9))], none, none⟩]
def f19r4 : IC := .reg false [] f19o4 [16, 5, 1, 2]
@[simp] theorem f19r4_run (tbl : TB) (fin : Fin) (K : List Fr) (e : Env) (H : List AO) : run tbl fin K f19r4 e H = regK tbl fin K [] f19o4 [16, 5, 1, 2] e H := run_regK tbl fin K false [] f19o4 [16, 5, 1, 2] e H rfl
@[simp] def f19o5 : List IOper := [
  ⟨(some 5), .mv (.c (.int .i64 9)), none, none⟩]
def f19r5 : IC := .reg false [] f19o5 [1, 5, 2]
@[simp] theorem f19r5_run (tbl : TB) (fin : Fin) (K : List Fr) (e : Env) (H : List AO) : run tbl fin K f19r5 e H = regK tbl fin K [] f19o5 [1, 5, 2] e H := run_regK tbl fin K false [] f19o5 [1, 5, 2] e H rfl
@[simp] def f19o6 : List IOper := [
  ⟨(some 17), .load true 3 (.t 1), none, none⟩,
  ⟨(some 18), .call (.c (.fn 40 [])) [(.t 17)], none, none⟩,
  ⟨none, .store 3 (.t 1) (.t 18), none, none⟩]
def f19r6 : IC := .reg false [] f19o6 [1, 5, 2]
@[simp] theorem f19r6_run (tbl : TB) (fin : Fin) (K : List Fr) (e : Env) (H : List AO) : run tbl fin K f19r6 e H = regK tbl fin K [] f19o6 [1, 5, 2] e H := run_regK tbl fin K false [] f19o6 [1, 5, 2] e H rfl
@[simp] def f19o7 : List IOper := [
  ⟨(some 19), .fld 0 (.t 1), none, none⟩,
  ⟨(some 20), .load false 1 (.t 19), none, none⟩,
  ⟨(some 21), .mv (.t 5), none, none⟩,
  ⟨(some 22), .ocall (.c (.fn 41 [])) [(.t 20), (.t 21)], none, none⟩,
  ⟨(some 23), .fld 0 (.t 1), none, none⟩,
  ⟨none, .store 1 (.t 23) (.t 22), none, none⟩]
def f19r7 : IC := .reg false [] f19o7 [1, 5, 2]
@[simp] theorem f19r7_run (tbl : TB) (fin : Fin) (K : List Fr) (e : Env) (H : List AO) : run tbl fin K f19r7 e H = regK tbl fin K [] f19o7 [1, 5, 2] e H := run_regK tbl fin K false [] f19o7 [1, 5, 2] e H rfl
@[simp] def f19o8 : List IOper := [
  ⟨(some 24), .fld 2 (.t 1), none, none⟩,
  ⟨(some 25), .load false 1 (.t 24), none, none⟩,
  ⟨(some 26), .mv (.t 5), none, none⟩,
  ⟨(some 27), .call (.c (.fn 39 [])) [(.t 25), (.t 26)], none, none⟩]
def f19r8 : IC := .reg false [] f19o8 [27, 1, 5, 2]
@[simp] theorem f19r8_run (tbl : TB) (fin : Fin) (K : List Fr) (e : Env) (H : List AO) : run tbl fin K f19r8 e H = regK tbl fin K [] f19o8 [27, 1, 5, 2] e H := run_regK tbl fin K false [] f19o8 [27, 1, 5, 2] e H rfl
@[simp] def f19o9 : List IOper := [
  ⟨(some 28), .load true 3 (.t 1), none, none⟩,
  ⟨(some 29), .mv (.t 5), none, none⟩,
  ⟨none, .store 3 (.t 2) (.t 28), none, none⟩,
  ⟨(some 3), .mv (.t 29), none, none⟩,
  ⟨(some 4), .mv (.c (.int .i64 4)), none, none⟩]
def f19r9 : IC := .reg false [] f19o9 [2, 3, 4]
@[simp] theorem f19r9_run (tbl : TB) (fin : Fin) (K : List Fr) (e : Env) (H : List AO) : run tbl fin K f19r9 e H = regK tbl fin K [] f19o9 [2, 3, 4] e H := run_regK tbl fin K false [] f19o9 [2, 3, 4] e H rfl
@[simp] def f19o10 : List IOper := [
  ⟨(some 30), .load true 3 (.t 1), none, none⟩,
  ⟨(some 31), .mv (.t 5), none, none⟩,
  ⟨(some 32), .mv (.t 5), none, none⟩,
  ⟨(some 33), .call (.c (.fn 15 [])) [(.t 32)], none, none⟩,
  ⟨none, .store 3 (.t 2) (.t 30), none, none⟩,
  ⟨(some 3), .mv (.t 31), none, none⟩,
  ⟨(some 4), .mv (.t 33), none, none⟩]
def f19r10 : IC := .reg true [] f19o10 [2, 3, 4]
@[simp] theorem f19r10_run (tbl : TB) (fin : Fin) (K : List Fr) (e : Env) (H : List AO) : run tbl fin K f19r10 e H = regK tbl fin K [] f19o10 [2, 3, 4] e H := run_regK tbl fin K true [] f19o10 [2, 3, 4] e H rfl
def f19body : IC := (.seq f19r0 (.seq (.seq f19r1 (.cond (.t 9) (.seq f19r2 .ret) .skip)) (.seq f19r3 (.seq (.seq f19r4 (.cond (.t 16) f19r5 .skip)) (.seq f19r6 (.seq f19r7 (.seq (.seq f19r8 (.cond (.t 27) (.seq f19r9 .ret) .skip)) (.seq f19r10 .ret))))))))
def f19 : IFn := ⟨34, 1, [.cell 2 true 3, .tmp 3, .tmp 4], f19body⟩
/- 20: jobshell/jobshellref25.Next -/
@[simp] def f20o0 : List IOper := [
  ⟨(some 1), .box 30 3 (.t 0), none, none⟩,
  ⟨(some 2), .new 30 3 (.agg [.e0, .e0, .e0]), none, none⟩,
  ⟨(some 3), .mv (.c (.int .i64 0)), none, none⟩,
  ⟨(some 4), .mv (.c (.int .i64 0)), none, none⟩]
def f20r0 : IC := .reg false [] f20o0 [1, 2]
@[simp] theorem f20r0_run (tbl : TB) (fin : Fin) (K : List Fr) (e : Env) (H : List AO) : run tbl fin K f20r0 e H = regK tbl fin K [] f20o0 [1, 2] e H := run_regK tbl fin K false [] f20o0 [1, 2] e H rfl
@[simp] def f20o1 : List IOper := [
  ⟨(some 6), .fld 0 (.t 1), none, none⟩,
  ⟨(some 7), .load false 1 (.t 6), none, none⟩,
  ⟨(some 8), .len (.t 7), none, none⟩,
  ⟨(some 9), .bin .eql (.t 8) (.c (.int .i64 0)), none, none⟩]
def f20r1 : IC := .reg false [] f20o1 [9, 1, 2]
@[simp] theorem f20r1_run (tbl : TB) (fin : Fin) (K : List Fr) (e : Env) (H : List AO) : run tbl fin K f20r1 e H = regK tbl fin K [] f20o1 [9, 1, 2] e H := run_regK tbl fin K false [] f20o1 [9, 1, 2] e H rfl
@[simp] def f20o2 : List IOper := [
  ⟨(some 10), .load true 3 (.t 1), none, none⟩,
  ⟨none, .store 3 (.t 2) (.t 10), none, none⟩,
  ⟨(some 3), .mv (.c (.int .i64 0)), none, none⟩,
  ⟨(some 4), .mv (.c (.int .i64 0)), none, none⟩]
def f20r2 : IC := .reg false [] f20o2 [2, 3, 4]
@[simp] theorem f20r2_run (tbl : TB) (fin : Fin) (K : List Fr) (e : Env) (H : List AO) : run tbl fin K f20r2 e H = regK tbl fin K [] f20o2 [2, 3, 4] e H := run_regK tbl fin K false [] f20o2 [2, 3, 4] e H rfl
@[simp] def f20o3 : List IOper := [
  ⟨(some 11), .fld 0 (.t 1), none, none⟩,
  ⟨(some 12), .load false 1 (.t 11), none, none⟩,
  ⟨(some 13), .idx 1 (.t 12) (.c (.int .i64 0)), none, none⟩,
  ⟨(some 14), .load false 1 (.t 13), none, none⟩,
  ⟨(some 5), .mv (.t 14), none, none⟩]
def f20r3 : IC := .reg false [] f20o3 [5, 1, 2]
@[simp] theorem f20r3_run (tbl : TB) (fin : Fin) (K : List Fr) (e : Env) (H : List AO) : run tbl fin K f20r3 e H = regK tbl fin K [] f20o3 [5, 1, 2] e H := run_regK tbl fin K false [] f20o3 [5, 1, 2] e H rfl
@[simp] def f20o4 : List IOper := [
  ⟨(some 15), .fld 0 (.t 1), none, none⟩,
  ⟨(some 16), .load false 1 (.t 15), none, none⟩,
  ⟨(some 17), .call (.c (.fn 24 [])) [(.t 16), (.c (.int .i64 9))], none, none⟩]
def f20r4 : IC := .reg false [] f20o4 [17, 5, 1, 2]
@[simp] theorem f20r4_run (tbl : TB) (fin : Fin) (K : List Fr) (e : Env) (H : List AO) : run tbl fin K f20r4 e H = regK tbl fin K [] f20o4 [17, 5, 1, 2] e H := run_regK tbl fin K false [] f20o4 [17, 5, 1, 2] e H rfl
@[simp] def f20o5 : List IOper := [
  ⟨(some 5), .mv (.c (.int .i64 9)), none, none⟩]
def f20r5 : IC := .reg false [] f20o5 [1, 5, 2]
@[simp] theorem f20r5_run (tbl : TB) (fin : Fin) (K : List Fr) (e : Env) (H : List AO) : run tbl fin K f20r5 e H = regK tbl fin K [] f20o5 [1, 5, 2] e H := run_regK tbl fin K false [] f20o5 [1, 5, 2] e H rfl
@[simp] def f20o6 : List IOper := [
  ⟨(some 18), .fld 0 (.t 1), none, none⟩,
  ⟨(some 19), .load false 1 (.t 18), none, none⟩,
  ⟨(some 20), .mv (.t 5), none, none⟩,
  ⟨(some 21), .call (.c (.fn 42 [])) [(.t 19), (.t 20)], none, none⟩,
  ⟨(some 22), .fld 0 (.t 1), none, none⟩,
  ⟨none, .store 1 (.t 22) (.t 21), none, none⟩]
def f20r6 : IC := .reg false [] f20o6 [1, 5, 2]
@[simp] theorem f20r6_run (tbl : TB) (fin : Fin) (K : List Fr) (e : Env) (H : List AO) : run tbl fin K f20r6 e H = regK tbl fin K [] f20o6 [1, 5, 2] e H := run_regK tbl fin K false [] f20o6 [1, 5, 2] e H rfl
@[simp] def f20o7 : List IOper := [
  ⟨(some 23), .fld 2 (.t 1), none, none⟩,
  ⟨(some 24), .load false 1 (.t 23), none, none⟩,
  ⟨(some 25), .mv (.t 5), none, none⟩,
  ⟨(some 26), .call (.c (.fn 24 [])) [(.t 24), (.t 25)], none, none⟩]
def f20r7 : IC := .reg false [] f20o7 [26, 1, 5, 2]
@[simp] theorem f20r7_run (tbl : TB) (fin : Fin) (K : List Fr) (e : Env) (H : List AO) : run tbl fin K f20r7 e H = regK tbl fin K [] f20o7 [26, 1, 5, 2] e H := run_regK tbl fin K false [] f20o7 [26, 1, 5, 2] e H rfl
@[simp] def f20o8 : List IOper := [
  ⟨(some 27), .load true 3 (.t 1), none, none⟩,
  ⟨(some 28), .mv (.t 5), none, none⟩,
  ⟨none, .store 3 (.t 2) (.t 27), none, none⟩,
  ⟨(some 3), .mv (.t 28), none, none⟩,
  ⟨(some 4), .mv (.c (.int .i64 4)), none, none⟩]
def f20r8 : IC := .reg false [] f20o8 [2, 3, 4]
@[simp] theorem f20r8_run (tbl : TB) (fin : Fin) (K : List Fr) (e : Env) (H : List AO) : run tbl fin K f20r8 e H = regK tbl fin K [] f20o8 [2, 3, 4] e H := run_regK tbl fin K false [] f20o8 [2, 3, 4] e H rfl
@[simp] def f20o9 : List IOper := [
  ⟨(some 29), .load true 3 (.t 1), none, none⟩,
  ⟨(some 30), .mv (.t 5), none, none⟩,
  ⟨(some 31), .mv (.t 5), none, none⟩,
  ⟨(some 32), .call (.c (.fn 16 [])) [(.t 31)], none, none⟩,
  ⟨none, .store 3 (.t 2) (.t 29), none, none⟩,
  ⟨(some 3), .mv (.t 30), none, none⟩,
  ⟨(some 4), .mv (.t 32), none, none⟩]
def f20r9 : IC := .reg true [] f20o9 [2, 3, 4]
@[simp] theorem f20r9_run (tbl : TB) (fin : Fin) (K : List Fr) (e : Env) (H : List AO) : run tbl fin K f20r9 e H = regK tbl fin K [] f20o9 [2, 3, 4] e H := run_regK tbl fin K true [] f20o9 [2, 3, 4] e H rfl
def f20body : IC := (.seq f20r0 (.seq (.seq f20r1 (.cond (.t 9) (.seq f20r2 .ret) .skip)) (.seq f20r3 (.seq (.seq f20r4 (.cond (.t 17) f20r5 .skip)) (.seq f20r6 (.seq (.seq f20r7 (.cond (.t 26) (.seq f20r8 .ret) .skip)) (.seq f20r9 .ret)))))))
def f20 : IFn := ⟨33, 1, [.cell 2 true 3, .tmp 3, .tmp 4], f20body⟩
/- 21: jobshell/jobshellref25.Same -/
@[simp] def f21o0 : List IOper := [
  ⟨(some 2), .box 30 3 (.t 0), none, none⟩,
  ⟨(some 3), .box 30 3 (.t 1), none, none⟩,
  ⟨(some 4), .mv (.c (.bool false)), none, none⟩]
def f21r0 : IC := .reg false [] f21o0 [2, 3]
@[simp] theorem f21r0_run (tbl : TB) (fin : Fin) (K : List Fr) (e : Env) (H : List AO) : run tbl fin K f21r0 e H = regK tbl fin K [] f21o0 [2, 3] e H := run_regK tbl fin K false [] f21o0 [2, 3] e H rfl
@[simp] def f21o1 : List IOper := [
  ⟨(some 5), .fld 0 (.t 2), none, none⟩,
  ⟨(some 6), .load false 1 (.t 5), none, none⟩,
  ⟨(some 7), .fld 0 (.t 3), none, none⟩,
  ⟨(some 8), .load false 1 (.t 7), none, none⟩,
  ⟨(some 9), .call (.c (.fn 43 [])) [(.t 6), (.t 8)], none, none⟩,
  ⟨(some 10), .mv (.t 9), none, none⟩,
  ⟨(some 11), .fld 1 (.t 2), (some (10, true)), none⟩,
  ⟨(some 12), .load false 1 (.t 11), (some (10, true)), some [12, 10, 2, 3]⟩,
  ⟨(some 13), .fld 1 (.t 3), (some (10, true)), none⟩,
  ⟨(some 14), .load false 1 (.t 13), (some (10, true)), none⟩,
  ⟨(some 15), .call (.c (.fn 43 [])) [(.t 12), (.t 14)], (some (10, true)), none⟩,
  ⟨(some 16), .pick (.t 10) (.t 15) (.c (.bool false)), none, none⟩,
  ⟨(some 17), .mv (.t 16), none, none⟩,
  ⟨(some 18), .fld 2 (.t 2), (some (17, true)), none⟩,
  ⟨(some 19), .load false 1 (.t 18), (some (17, true)), none⟩,
  ⟨(some 20), .fld 2 (.t 3), (some (17, true)), some [20, 19, 17]⟩,
  ⟨(some 21), .load false 1 (.t 20), (some (17, true)), none⟩,
  ⟨(some 22), .call (.c (.fn 43 [])) [(.t 19), (.t 21)], (some (17, true)), none⟩,
  ⟨(some 23), .pick (.t 17) (.t 22) (.c (.bool false)), none, none⟩,
  ⟨(some 4), .mv (.t 23), none, none⟩]
def f21r1 : IC := .reg false [] f21o1 [4]
@[simp] theorem f21r1_run (tbl : TB) (fin : Fin) (K : List Fr) (e : Env) (H : List AO) : run tbl fin K f21r1 e H = regK tbl fin K [] f21o1 [4] e H := run_regK tbl fin K false [] f21o1 [4] e H rfl
def f21body : IC := (.seq f21r0 (.seq f21r1 .ret))
def f21 : IFn := ⟨24, 2, [.tmp 4], f21body⟩
/- 22: jobshell/signal.Send -/
@[simp] def f22o0 : List IOper := [
  ⟨(some 2), .box 30 3 (.t 0), none, none⟩,
  ⟨(some 4), .new 30 3 (.agg [.e0, .e0, .e0]), none, none⟩]
def f22r0 : IC := .reg false [] f22o0 [1, 2, 4]
@[simp] theorem f22r0_run (tbl : TB) (fin : Fin) (K : List Fr) (e : Env) (H : List AO) : run tbl fin K f22r0 e H = regK tbl fin K [] f22o0 [1, 2, 4] e H := run_regK tbl fin K false [] f22o0 [1, 2, 4] e H rfl
@[simp] def f22o1 : List IOper := [
  ⟨(some 5), .mv (.t 1), none, none⟩,
  ⟨(some 6), .call (.c (.fn 35 [])) [(.t 5)], none, none⟩,
  ⟨(some 7), .un .not (.t 6), none, none⟩]
def f22r1 : IC := .reg false [] f22o1 [7, 1, 2, 4]
@[simp] theorem f22r1_run (tbl : TB) (fin : Fin) (K : List Fr) (e : Env) (H : List AO) : run tbl fin K f22r1 e H = regK tbl fin K [] f22o1 [7, 1, 2, 4] e H := run_regK tbl fin K false [] f22o1 [7, 1, 2, 4] e H rfl
@[simp] def f22o2 : List IOper := [
  ⟨(some 8), .load true 3 (.t 2), none, none⟩,
  ⟨none, .store 3 (.t 4) (.t 8), none, none⟩]
def f22r2 : IC := .reg false [] f22o2 [4]
@[simp] theorem f22r2_run (tbl : TB) (fin : Fin) (K : List Fr) (e : Env) (H : List AO) : run tbl fin K f22r2 e H = regK tbl fin K [] f22o2 [4] e H := run_regK tbl fin K false [] f22o2 [4] e H rfl
@[simp] def f22o3 : List IOper := [
  ⟨(some 9), .load true 3 (.t 2), none, none⟩,
  ⟨(some 10), .call (.c (.fn 40 [])) [(.t 9)], none, none⟩,
  ⟨none, .store 3 (.t 2) (.t 10), none, none⟩]
def f22r3 : IC := .reg false [] f22o3 [1, 2, 4]
@[simp] theorem f22r3_run (tbl : TB) (fin : Fin) (K : List Fr) (e : Env) (H : List AO) : run tbl fin K f22r3 e H = regK tbl fin K [] f22o3 [1, 2, 4] e H := run_regK tbl fin K false [] f22o3 [1, 2, 4] e H rfl
@[simp] def f22o4 : List IOper := [
  ⟨(some 12), .mv (.t 1), none, none⟩,
  ⟨(some 13), .bin .eql (.t 12) (.c (.int .i64 18)), none, none⟩,
  ⟨(some 11), .mv (.t 13), none, none⟩]
def f22r4 : IC := .reg false [] f22o4 [11, 1, 2, 4]
@[simp] theorem f22r4_run (tbl : TB) (fin : Fin) (K : List Fr) (e : Env) (H : List AO) : run tbl fin K f22r4 e H = regK tbl fin K [] f22o4 [11, 1, 2, 4] e H := run_regK tbl fin K false [] f22o4 [11, 1, 2, 4] e H rfl
@[simp] def f22o5 : List IOper := [
  ⟨(some 14), .fld 0 (.t 2), none, none⟩,
  ⟨(some 15), .load false 1 (.t 14), none, none⟩,
  ⟨(some 16), .ocall (.c (.fn 44 [])) [(.t 15), (.c (.fn 34 []))], none, none⟩,
  ⟨(some 17), .fld 0 (.t 2), none, none⟩,
  ⟨none, .store 1 (.t 17) (.t 16), none, none⟩]
def f22r5 : IC := .reg false [] f22o5 [1, 2, 4]
@[simp] theorem f22r5_run (tbl : TB) (fin : Fin) (K : List Fr) (e : Env) (H : List AO) : run tbl fin K f22r5 e H = regK tbl fin K [] f22o5 [1, 2, 4] e H := run_regK tbl fin K false [] f22o5 [1, 2, 4] e H rfl
@[simp] def f22o6 : List IOper := [
  ⟨(some 19), .mv (.t 1), none, none⟩,
  ⟨(some 20), .call (.c (.fn 34 [])) [(.t 19)], none, none⟩,
  ⟨(some 18), .mv (.t 20), none, none⟩]
def f22r6 : IC := .reg false [] f22o6 [18, 1, 2, 4]
@[simp] theorem f22r6_run (tbl : TB) (fin : Fin) (K : List Fr) (e : Env) (H : List AO) : run tbl fin K f22r6 e H = regK tbl fin K [] f22o6 [18, 1, 2, 4] e H := run_regK tbl fin K false [] f22o6 [18, 1, 2, 4] e H rfl
@[simp] def f22o7 : List IOper := [
  ⟨(some 21), .fld 0 (.t 2), none, none⟩,
  ⟨(some 22), .load false 1 (.t 21), none, none⟩,
  ⟨(some 23), .ocall (.c (.fn 41 [])) [(.t 22), (.c (.int .i64 18))], none, none⟩,
  ⟨(some 24), .fld 0 (.t 2), none, none⟩,
  ⟨none, .store 1 (.t 24) (.t 23), none, none⟩]
def f22r7 : IC := .reg false [] f22o7 [1, 2, 4]
@[simp] theorem f22r7_run (tbl : TB) (fin : Fin) (K : List Fr) (e : Env) (H : List AO) : run tbl fin K f22r7 e H = regK tbl fin K [] f22o7 [1, 2, 4] e H := run_regK tbl fin K false [] f22o7 [1, 2, 4] e H rfl
@[simp] def f22o8 : List IOper := [
  ⟨(some 25), .mv (.t 1), none, none⟩,
  ⟨(some 26), .bin .eql (.t 25) (.c (.int .i64 18)), none, none⟩,
  ⟨(some 27), .mv (.t 26), none, none⟩,
  ⟨(some 28), .fld 1 (.t 2), (some (27, false)), none⟩,
  ⟨(some 29), .load false 1 (.t 28), (some (27, false)), none⟩,
  ⟨(some 30), .mv (.t 1), (some (27, false)), none⟩,
  ⟨(some 31), .call (.c (.fn 39 [])) [(.t 29), (.t 30)], (some (27, false)), none⟩,
  ⟨(some 32), .un .not (.t 31), (some (27, false)), none⟩,
  ⟨(some 33), .pick (.t 27) (.c (.bool true)) (.t 32), none, none⟩]
def f22r8 : IC := .reg false [] f22o8 [33, 1, 2, 4]
@[simp] theorem f22r8_run (tbl : TB) (fin : Fin) (K : List Fr) (e : Env) (H : List AO) : run tbl fin K f22r8 e H = regK tbl fin K [] f22o8 [33, 1, 2, 4] e H := run_regK tbl fin K false [] f22o8 [33, 1, 2, 4] e H rfl
@[simp] def f22o9 : List IOper := [
  ⟨(some 34), .fld 0 (.t 2), none, none⟩,
  ⟨(some 35), .load false 1 (.t 34), none, none⟩,
  ⟨(some 36), .mv (.t 1), none, none⟩,
  ⟨(some 37), .ocall (.c (.fn 45 [])) [(.t 35), (.t 36)], none, none⟩,
  ⟨(some 38), .fld 0 (.t 2), none, none⟩,
  ⟨none, .store 1 (.t 38) (.t 37), none, none⟩]
def f22r9 : IC := .reg false [] f22o9 [2, 4]
@[simp] theorem f22r9_run (tbl : TB) (fin : Fin) (K : List Fr) (e : Env) (H : List AO) : run tbl fin K f22r9 e H = regK tbl fin K [] f22o9 [2, 4] e H := run_regK tbl fin K false [] f22o9 [2, 4] e H rfl
@[simp] def f22o10 : List IOper := [
  ⟨(some 39), .load true 3 (.t 2), none, none⟩,
  ⟨none, .store 3 (.t 4) (.t 39), none, none⟩]
def f22r10 : IC := .reg false [] f22o10 [4]
@[simp] theorem f22r10_run (tbl : TB) (fin : Fin) (K : List Fr) (e : Env) (H : List AO) : run tbl fin K f22r10 e H = regK tbl fin K [] f22o10 [4] e H := run_regK tbl fin K false [] f22o10 [4] e H rfl
def f22body : IC := (.seq f22r0 (.seq (.seq f22r1 (.cond (.t 7) (.seq f22r2 .ret) .skip)) (.seq f22r3 (.seq (.block 0 (.seq f22r4 (.cond (.t 11) f22r5 (.seq f22r6 (.cond (.t 18) f22r7 .skip))))) (.seq (.seq f22r8 (.cond (.t 33) f22r9 .skip)) (.seq f22r10 .ret))))))
def f22 : IFn := ⟨40, 2, [.cell 4 true 3], f22body⟩
/- 23: jobshell/jobshellref25.Send -/
@[simp] def f23o0 : List IOper := [
  ⟨(some 2), .box 30 3 (.t 0), none, none⟩,
  ⟨(some 4), .new 30 3 (.agg [.e0, .e0, .e0]), none, none⟩]
def f23r0 : IC := .reg false [] f23o0 [1, 2, 4]
@[simp] theorem f23r0_run (tbl : TB) (fin : Fin) (K : List Fr) (e : Env) (H : List AO) : run tbl fin K f23r0 e H = regK tbl fin K [] f23o0 [1, 2, 4] e H := run_regK tbl fin K false [] f23o0 [1, 2, 4] e H rfl
@[simp] def f23o1 : List IOper := [
  ⟨(some 5), .mv (.t 1), none, none⟩,
  ⟨(some 6), .call (.c (.fn 14 [])) [(.t 5)], none, none⟩,
  ⟨(some 7), .bin .eql (.t 6) (.c (.str [])), none, none⟩]
def f23r1 : IC := .reg false [] f23o1 [7, 1, 2, 4]
@[simp] theorem f23r1_run (tbl : TB) (fin : Fin) (K : List Fr) (e : Env) (H : List AO) : run tbl fin K f23r1 e H = regK tbl fin K [] f23o1 [7, 1, 2, 4] e H := run_regK tbl fin K false [] f23o1 [7, 1, 2, 4] e H rfl
@[simp] def f23o2 : List IOper := [
  ⟨(some 8), .load true 3 (.t 2), none, none⟩,
  ⟨none, .store 3 (.t 4) (.t 8), none, none⟩]
def f23r2 : IC := .reg false [] f23o2 [4]
@[simp] theorem f23r2_run (tbl : TB) (fin : Fin) (K : List Fr) (e : Env) (H : List AO) : run tbl fin K f23r2 e H = regK tbl fin K [] f23o2 [4] e H := run_regK tbl fin K false [] f23o2 [4] e H rfl
@[simp] def f23o3 : List IOper := [
  ⟨(some 9), .mv (.t 1), none, none⟩,
  ⟨(some 10), .bin .eql (.t 9) (.c (.int .i64 18)), none, none⟩]
def f23r3 : IC := .reg false [] f23o3 [10, 1, 2, 4]
@[simp] theorem f23r3_run (tbl : TB) (fin : Fin) (K : List Fr) (e : Env) (H : List AO) : run tbl fin K f23r3 e H = regK tbl fin K [] f23o3 [10, 1, 2, 4] e H := run_regK tbl fin K false [] f23o3 [10, 1, 2, 4] e H rfl
@[simp] def f23o4 : List IOper := [
  ⟨(some 11), .fld 0 (.t 2), none, none⟩,
  ⟨(some 12), .load false 1 (.t 11), none, none⟩,
  ⟨(some 13), .call (.c (.fn 42 [])) [(.t 12), (.c (.int .i64 19))], none, none⟩,
  ⟨(some 14), .call (.c (.fn 42 [])) [(.t 13), (.c (.int .i64 20))], none, none⟩,
  ⟨(some 15), .call (.c (.fn 42 [])) [(.t 14), (.c (.int .i64 4))], none, none⟩,
  ⟨(some 16), .call (.c (.fn 42 [])) [(.t 15), (.c (.int .i64 5))], none, none⟩,
  ⟨(some 17), .fld 0 (.t 2), none, none⟩,
  ⟨none, .store 1 (.t 17) (.t 16), none, none⟩]
def f23r4 : IC := .reg false [] f23o4 [1, 2, 4]
@[simp] theorem f23r4_run (tbl : TB) (fin : Fin) (K : List Fr) (e : Env) (H : List AO) : run tbl fin K f23r4 e H = regK tbl fin K [] f23o4 [1, 2, 4] e H := run_regK tbl fin K false [] f23o4 [1, 2, 4] e H rfl
@[simp] def f23o5 : List IOper := [
  ⟨(some 18), .mv (.t 1), none, none⟩,
  ⟨(some 19), .call (.c (.fn 36 [])) [(.t 18)], none, none⟩]
def f23r5 : IC := .reg false [] f23o5 [19, 1, 2, 4]
@[simp] theorem f23r5_run (tbl : TB) (fin : Fin) (K : List Fr) (e : Env) (H : List AO) : run tbl fin K f23r5 e H = regK tbl fin K [] f23o5 [19, 1, 2, 4] e H := run_regK tbl fin K false [] f23o5 [19, 1, 2, 4] e H rfl
@[simp] def f23o6 : List IOper := [
  ⟨(some 20), .fld 0 (.t 2), none, none⟩,
  ⟨(some 21), .load false 1 (.t 20), none, none⟩,
  ⟨(some 22), .call (.c (.fn 42 [])) [(.t 21), (.c (.int .i64 18))], none, none⟩,
  ⟨(some 23), .fld 0 (.t 2), none, none⟩,
  ⟨none, .store 1 (.t 23) (.t 22), none, none⟩]
def f23r6 : IC := .reg false [] f23o6 [1, 2, 4]
@[simp] theorem f23r6_run (tbl : TB) (fin : Fin) (K : List Fr) (e : Env) (H : List AO) : run tbl fin K f23r6 e H = regK tbl fin K [] f23o6 [1, 2, 4] e H := run_regK tbl fin K false [] f23o6 [1, 2, 4] e H rfl
@[simp] def f23o7 : List IOper := [
  ⟨(some 24), .mv (.t 1), none, none⟩,
  ⟨(some 25), .bin .eql (.t 24) (.c (.int .i64 18)), none, none⟩,
  ⟨(some 26), .mv (.t 25), none, none⟩,
  ⟨(some 27), .fld 1 (.t 2), (some (26, false)), none⟩,
  ⟨(some 28), .load false 1 (.t 27), (some (26, false)), none⟩,
  ⟨(some 29), .mv (.t 1), (some (26, false)), none⟩,
  ⟨(some 30), .call (.c (.fn 24 [])) [(.t 28), (.t 29)], (some (26, false)), none⟩,
  ⟨(some 31), .un .not (.t 30), (some (26, false)), none⟩,
  ⟨(some 32), .pick (.t 26) (.c (.bool true)) (.t 31), none, none⟩]
def f23r7 : IC := .reg false [] f23o7 [32, 1, 2, 4]
@[simp] theorem f23r7_run (tbl : TB) (fin : Fin) (K : List Fr) (e : Env) (H : List AO) : run tbl fin K f23r7 e H = regK tbl fin K [] f23o7 [32, 1, 2, 4] e H := run_regK tbl fin K false [] f23o7 [32, 1, 2, 4] e H rfl
@[simp] def f23o8 : List IOper := [
  ⟨(some 33), .fld 0 (.t 2), none, none⟩,
  ⟨(some 34), .load false 1 (.t 33), none, none⟩,
  ⟨(some 35), .mv (.t 1), none, none⟩,
  ⟨(some 36), .call (.c (.fn 46 [])) [(.t 34), (.t 35)], none, none⟩,
  ⟨(some 37), .fld 0 (.t 2), none, none⟩,
  ⟨none, .store 1 (.t 37) (.t 36), none, none⟩]
def f23r8 : IC := .reg false [] f23o8 [2, 4]
@[simp] theorem f23r8_run (tbl : TB) (fin : Fin) (K : List Fr) (e : Env) (H : List AO) : run tbl fin K f23r8 e H = regK tbl fin K [] f23o8 [2, 4] e H := run_regK tbl fin K false [] f23o8 [2, 4] e H rfl
@[simp] def f23o9 : List IOper := [
  ⟨(some 38), .load true 3 (.t 2), none, none⟩,
  ⟨none, .store 3 (.t 4) (.t 38), none, none⟩]
def f23r9 : IC := .reg false [] f23o9 [4]
@[simp] theorem f23r9_run (tbl : TB) (fin : Fin) (K : List Fr) (e : Env) (H : List AO) : run tbl fin K f23r9 e H = regK tbl fin K [] f23o9 [4] e H := run_regK tbl fin K false [] f23o9 [4] e H rfl
def f23body : IC := (.seq f23r0 (.seq (.seq f23r1 (.cond (.t 7) (.seq f23r2 .ret) .skip)) (.seq (.seq f23r3 (.cond (.t 10) f23r4 .skip)) (.seq (.seq f23r5 (.cond (.t 19) f23r6 .skip)) (.seq (.seq f23r7 (.cond (.t 32) f23r8 .skip)) (.seq f23r9 .ret))))))
def f23 : IFn := ⟨39, 2, [.cell 4 true 3], f23body⟩
/- 24: jobshell/jobshellref25.Has -/
@[simp] def f24o0 : List IOper := [
  ⟨(some 4), .mv (.c (.bool false)), none, none⟩]
def f24r0 : IC := .reg false [] f24o0 [0, 1]
@[simp] theorem f24r0_run (tbl : TB) (fin : Fin) (K : List Fr) (e : Env) (H : List AO) : run tbl fin K f24r0 e H = regK tbl fin K [] f24o0 [0, 1] e H := run_regK tbl fin K false [] f24o0 [0, 1] e H rfl
@[simp] def f24o1 : List IOper := [
  ⟨(some 5), .mv (.c (.int .i64 0)), none, none⟩]
def f24r1 : IC := .reg false [] f24o1 [0, 1, 5]
@[simp] theorem f24r1_run (tbl : TB) (fin : Fin) (K : List Fr) (e : Env) (H : List AO) : run tbl fin K f24r1 e H = regK tbl fin K [] f24o1 [0, 1, 5] e H := run_regK tbl fin K false [] f24o1 [0, 1, 5] e H rfl
@[simp] def f24o2 : List IOper := [
  ⟨(some 6), .mv (.t 5), none, none⟩,
  ⟨(some 7), .mv (.t 0), none, none⟩,
  ⟨(some 8), .len (.t 7), none, none⟩,
  ⟨(some 9), .bin .lss (.t 6) (.t 8), none, none⟩]
def f24r2 : IC := .reg false [] f24o2 [9, 1, 0, 5]
@[simp] theorem f24r2_run (tbl : TB) (fin : Fin) (K : List Fr) (e : Env) (H : List AO) : run tbl fin K f24r2 e H = regK tbl fin K [] f24o2 [9, 1, 0, 5] e H := run_regK tbl fin K false [] f24o2 [9, 1, 0, 5] e H rfl
@[simp] def f24o3 : List IOper := [
  ⟨(some 12), .mv (.t 0), none, none⟩,
  ⟨(some 13), .mv (.t 5), none, none⟩,
  ⟨(some 14), .idx 1 (.t 12) (.t 13), none, none⟩,
  ⟨(some 15), .load false 1 (.t 14), none, none⟩,
  ⟨(some 16), .mv (.t 1), none, none⟩,
  ⟨(some 17), .bin .eql (.t 15) (.t 16), none, none⟩]
def f24r3 : IC := .reg false [] f24o3 [17, 1, 0, 5]
@[simp] theorem f24r3_run (tbl : TB) (fin : Fin) (K : List Fr) (e : Env) (H : List AO) : run tbl fin K f24r3 e H = regK tbl fin K [] f24o3 [17, 1, 0, 5] e H := run_regK tbl fin K false [] f24o3 [17, 1, 0, 5] e H rfl
@[simp] def f24o4 : List IOper := [
  ⟨(some 4), .mv (.c (.bool true)), none, none⟩]
def f24r4 : IC := .reg false [] f24o4 [4]
@[simp] theorem f24r4_run (tbl : TB) (fin : Fin) (K : List Fr) (e : Env) (H : List AO) : run tbl fin K f24r4 e H = regK tbl fin K [] f24o4 [4] e H := run_regK tbl fin K false [] f24o4 [4] e H rfl
@[simp] def f24o5 : List IOper := [
  ⟨(some 10), .mv (.t 5), none, none⟩,
  ⟨(some 11), .bin .add (.t 10) (.c (.int .i64 1)), none, none⟩,
  ⟨(some 5), .mv (.t 11), none, none⟩]
def f24r5 : IC := .reg false [] f24o5 [0, 1, 5]
@[simp] theorem f24r5_run (tbl : TB) (fin : Fin) (K : List Fr) (e : Env) (H : List AO) : run tbl fin K f24r5 e H = regK tbl fin K [] f24o5 [0, 1, 5] e H := run_regK tbl fin K false [] f24o5 [0, 1, 5] e H rfl
def f24b6 : IC := (.seq (.seq f24r2 (.cond (.t 9) .skip (.exit 0))) (.seq (.block 1 (.seq f24r3 (.cond (.t 17) (.seq f24r4 .ret) .skip))) f24r5))
theorem f24b6_eq : f24b6 = (.seq (.seq f24r2 (.cond (.t 9) .skip (.exit 0))) (.seq (.block 1 (.seq f24r3 (.cond (.t 17) (.seq f24r4 .ret) .skip))) f24r5)) := rfl
@[simp] def f24o7 : List IOper := [
  ⟨(some 4), .mv (.c (.bool false)), none, none⟩]
def f24r7 : IC := .reg false [] f24o7 [4]
@[simp] theorem f24r7_run (tbl : TB) (fin : Fin) (K : List Fr) (e : Env) (H : List AO) : run tbl fin K f24r7 e H = regK tbl fin K [] f24o7 [4] e H := run_regK tbl fin K false [] f24o7 [4] e H rfl
def f24body : IC := (.seq f24r0 (.seq (.seq f24r1 (.block 0 (.loop [0, 1, 5] f24b6))) (.seq f24r7 .ret)))
def f24 : IFn := ⟨18, 2, [.tmp 4], f24body⟩
/- 25: jobshell/signal.Set -/
@[simp] def f25o0 : List IOper := [
  ⟨(some 3), .box 30 3 (.t 0), none, none⟩,
  ⟨(some 6), .new 30 3 (.agg [.e0, .e0, .e0]), none, none⟩,
  ⟨(some 7), .mv (.c (.int .i64 0)), none, none⟩]
def f25r0 : IC := .reg false [] f25o0 [1, 2, 3, 6]
@[simp] theorem f25r0_run (tbl : TB) (fin : Fin) (K : List Fr) (e : Env) (H : List AO) : run tbl fin K f25r0 e H = regK tbl fin K [] f25o0 [1, 2, 3, 6] e H := run_regK tbl fin K false [] f25o0 [1, 2, 3, 6] e H rfl
@[simp] def f25o1 : List IOper := [
  ⟨(some 8), .mv (.t 1), none, none⟩,
  ⟨(some 9), .call (.c (.fn 35 [])) [(.t 8)], none, none⟩,
  ⟨(some 10), .un .not (.t 9), none, none⟩,
  ⟨(some 11), .mv (.t 10), none, none⟩,
  ⟨(some 12), .mv (.t 1), (some (11, false)), none⟩,
  ⟨(some 13), .call (.c (.fn 47 [])) [(.t 12)], (some (11, false)), none⟩,
  ⟨(some 14), .pick (.t 11) (.c (.bool true)) (.t 13), none, none⟩,
  ⟨(some 15), .mv (.t 14), none, some [15, 1, 2, 3, 6]⟩,
  ⟨(some 16), .mv (.t 2), (some (15, false)), none⟩,
  ⟨(some 17), .bin .lss (.t 16) (.c (.int .i64 0)), (some (15, false)), none⟩,
  ⟨(some 18), .pick (.t 15) (.c (.bool true)) (.t 17), none, none⟩,
  ⟨(some 19), .mv (.t 18), none, none⟩,
  ⟨(some 20), .mv (.t 2), (some (19, false)), none⟩,
  ⟨(some 21), .bin .gtr (.t 20) (.c (.int .i64 2)), (some (19, false)), none⟩,
  ⟨(some 22), .pick (.t 19) (.c (.bool true)) (.t 21), none, none⟩]
def f25r1 : IC := .reg false [] f25o1 [22, 1, 2, 3, 6]
@[simp] theorem f25r1_run (tbl : TB) (fin : Fin) (K : List Fr) (e : Env) (H : List AO) : run tbl fin K f25r1 e H = regK tbl fin K [] f25o1 [22, 1, 2, 3, 6] e H := run_regK tbl fin K false [] f25o1 [22, 1, 2, 3, 6] e H rfl
@[simp] def f25o2 : List IOper := [
  ⟨(some 23), .load true 3 (.t 3), none, none⟩,
  ⟨none, .store 3 (.t 6) (.t 23), none, none⟩,
  ⟨(some 7), .mv (.c (.int .i64 1)), none, none⟩]
def f25r2 : IC := .reg false [] f25o2 [6, 7]
@[simp] theorem f25r2_run (tbl : TB) (fin : Fin) (K : List Fr) (e : Env) (H : List AO) : run tbl fin K f25r2 e H = regK tbl fin K [] f25o2 [6, 7] e H := run_regK tbl fin K false [] f25o2 [6, 7] e H rfl
@[simp] def f25o3 : List IOper := [
  ⟨(some 24), .load true 3 (.t 3), none, none⟩,
  ⟨(some 25), .call (.c (.fn 40 [])) [(.t 24)], none, none⟩,
  ⟨none, .store 3 (.t 3) (.t 25), none, none⟩]
def f25r3 : IC := .reg false [] f25o3 [2, 1, 3, 6]
@[simp] theorem f25r3_run (tbl : TB) (fin : Fin) (K : List Fr) (e : Env) (H : List AO) : run tbl fin K f25r3 e H = regK tbl fin K [] f25o3 [2, 1, 3, 6] e H := run_regK tbl fin K false [] f25o3 [2, 1, 3, 6] e H rfl
@[simp] def f25o4 : List IOper := [
  ⟨(some 26), .fld 1 (.t 3), none, none⟩,
  ⟨(some 27), .load false 1 (.t 26), none, none⟩,
  ⟨(some 28), .mv (.t 1), none, none⟩,
  ⟨(some 29), .ocall (.c (.fn 41 [])) [(.t 27), (.t 28)], none, none⟩,
  ⟨(some 30), .fld 1 (.t 3), none, none⟩,
  ⟨none, .store 1 (.t 30) (.t 29), none, none⟩]
def f25r4 : IC := .reg false [] f25o4 [2, 1, 3, 6]
@[simp] theorem f25r4_run (tbl : TB) (fin : Fin) (K : List Fr) (e : Env) (H : List AO) : run tbl fin K f25r4 e H = regK tbl fin K [] f25o4 [2, 1, 3, 6] e H := run_regK tbl fin K false [] f25o4 [2, 1, 3, 6] e H rfl
@[simp] def f25o5 : List IOper := [
  ⟨(some 31), .fld 2 (.t 3), none, none⟩,
  ⟨(some 32), .load false 1 (.t 31), none, none⟩,
  ⟨(some 33), .mv (.t 1), none, none⟩,
  ⟨(some 34), .ocall (.c (.fn 41 [])) [(.t 32), (.t 33)], none, none⟩,
  ⟨(some 35), .fld 2 (.t 3), none, none⟩,
  ⟨none, .store 1 (.t 35) (.t 34), none, none⟩]
def f25r5 : IC := .reg false [] f25o5 [2, 1, 3, 6]
@[simp] theorem f25r5_run (tbl : TB) (fin : Fin) (K : List Fr) (e : Env) (H : List AO) : run tbl fin K f25r5 e H = regK tbl fin K [] f25o5 [2, 1, 3, 6] e H := run_regK tbl fin K false [] f25o5 [2, 1, 3, 6] e H rfl
@[simp] def f25o6 : List IOper := [
  ⟨(some 36), .mv (.t 2), none, none⟩]
def f25r6 : IC := .reg false [] f25o6 [36, 1, 3, 6]
@[simp] theorem f25r6_run (tbl : TB) (fin : Fin) (K : List Fr) (e : Env) (H : List AO) : run tbl fin K f25r6 e H = regK tbl fin K [] f25o6 [36, 1, 3, 6] e H := run_regK tbl fin K false [] f25o6 [36, 1, 3, 6] e H rfl
@[simp] def f25o7 : List IOper := [
  ⟨(some 38), .bin .eql (.t 36) (.c (.int .i64 1)), none, none⟩,
  ⟨(some 37), .mv (.t 38), none, none⟩]
def f25r7 : IC := .reg false [] f25o7 [37, 36, 1, 3, 6]
@[simp] theorem f25r7_run (tbl : TB) (fin : Fin) (K : List Fr) (e : Env) (H : List AO) : run tbl fin K f25r7 e H = regK tbl fin K [] f25o7 [37, 36, 1, 3, 6] e H := run_regK tbl fin K false [] f25o7 [37, 36, 1, 3, 6] e H rfl
@[simp] def f25o8 : List IOper := [
  ⟨(some 39), .fld 1 (.t 3), none, none⟩,
  ⟨(some 40), .load false 1 (.t 39), none, none⟩,
  ⟨(some 41), .mv (.t 1), none, none⟩,
  ⟨(some 42), .ocall (.c (.fn 45 [])) [(.t 40), (.t 41)], none, none⟩,
  ⟨(some 43), .fld 1 (.t 3), none, none⟩,
  ⟨none, .store 1 (.t 43) (.t 42), none, none⟩]
def f25r8 : IC := .reg false [] f25o8 [1, 3, 6]
@[simp] theorem f25r8_run (tbl : TB) (fin : Fin) (K : List Fr) (e : Env) (H : List AO) : run tbl fin K f25r8 e H = regK tbl fin K [] f25o8 [1, 3, 6] e H := run_regK tbl fin K false [] f25o8 [1, 3, 6] e H rfl
@[simp] def f25o9 : List IOper := [
  ⟨(some 44), .mv (.t 1), none, none⟩,
  ⟨(some 45), .bin .neq (.t 44) (.c (.int .i64 18)), none, none⟩]
def f25r9 : IC := .reg false [] f25o9 [45, 1, 3, 6]
@[simp] theorem f25r9_run (tbl : TB) (fin : Fin) (K : List Fr) (e : Env) (H : List AO) : run tbl fin K f25r9 e H = regK tbl fin K [] f25o9 [45, 1, 3, 6] e H := run_regK tbl fin K false [] f25o9 [45, 1, 3, 6] e H rfl
@[simp] def f25o10 : List IOper := [
  ⟨(some 46), .fld 0 (.t 3), none, none⟩,
  ⟨(some 47), .load false 1 (.t 46), none, none⟩,
  ⟨(some 48), .mv (.t 1), none, none⟩,
  ⟨(some 49), .ocall (.c (.fn 41 [])) [(.t 47), (.t 48)], none, none⟩,
  ⟨(some 50), .fld 0 (.t 3), none, none⟩,
  ⟨none, .store 1 (.t 50) (.t 49), none, none⟩]
def f25r10 : IC := .reg false [] f25o10 [3, 6]
@[simp] theorem f25r10_run (tbl : TB) (fin : Fin) (K : List Fr) (e : Env) (H : List AO) : run tbl fin K f25r10 e H = regK tbl fin K [] f25o10 [3, 6] e H := run_regK tbl fin K false [] f25o10 [3, 6] e H rfl
@[simp] def f25o11 : List IOper := [
  ⟨(some 52), .bin .eql (.t 36) (.c (.int .i64 2)), none, none⟩,
  ⟨(some 51), .mv (.t 52), none, none⟩]
def f25r11 : IC := .reg false [] f25o11 [51, 1, 3, 6]
@[simp] theorem f25r11_run (tbl : TB) (fin : Fin) (K : List Fr) (e : Env) (H : List AO) : run tbl fin K f25r11 e H = regK tbl fin K [] f25o11 [51, 1, 3, 6] e H := run_regK tbl fin K false [] f25o11 [51, 1, 3, 6] e H rfl
@[simp] def f25o12 : List IOper := [
  ⟨(some 53), .fld 2 (.t 3), none, none⟩,
  ⟨(some 54), .load false 1 (.t 53), none, none⟩,
  ⟨(some 55), .mv (.t 1), none, none⟩,
  ⟨(some 56), .ocall (.c (.fn 45 [])) [(.t 54), (.t 55)], none, none⟩,
  ⟨(some 57), .fld 2 (.t 3), none, none⟩,
  ⟨none, .store 1 (.t 57) (.t 56), none, none⟩]
def f25r12 : IC := .reg false [] f25o12 [3, 6]
@[simp] theorem f25r12_run (tbl : TB) (fin : Fin) (K : List Fr) (e : Env) (H : List AO) : run tbl fin K f25r12 e H = regK tbl fin K [] f25o12 [3, 6] e H := run_regK tbl fin K false [] f25o12 [3, 6] e H rfl
@[simp] def f25o13 : List IOper := [
  ⟨(some 58), .load true 3 (.t 3), none, none⟩,
  ⟨none, .store 3 (.t 6) (.t 58), none, none⟩,
  ⟨(some 7), .mv (.c (.int .i64 0)), none, none⟩]
def f25r13 : IC := .reg false [] f25o13 [6, 7]
@[simp] theorem f25r13_run (tbl : TB) (fin : Fin) (K : List Fr) (e : Env) (H : List AO) : run tbl fin K f25r13 e H = regK tbl fin K [] f25o13 [6, 7] e H := run_regK tbl fin K false [] f25o13 [6, 7] e H rfl
def f25body : IC := (.seq f25r0 (.seq (.seq f25r1 (.cond (.t 22) (.seq f25r2 .ret) .skip)) (.seq f25r3 (.seq f25r4 (.seq f25r5 (.seq (.seq f25r6 (.block 0 (.seq f25r7 (.cond (.t 37) (.seq f25r8 (.seq f25r9 (.cond (.t 45) f25r10 .skip))) (.seq f25r11 (.cond (.t 51) f25r12 .skip)))))) (.seq f25r13 .ret)))))))
def f25 : IFn := ⟨59, 3, [.cell 6 true 3, .tmp 7], f25body⟩
/- 26: jobshell/signal.Valid -/
@[simp] def f26o0 : List IOper := [
  ⟨(some 1), .box 30 3 (.t 0), none, none⟩,
  ⟨(some 2), .mv (.c (.int .i64 0)), none, none⟩]
def f26r0 : IC := .reg false [] f26o0 [1]
@[simp] theorem f26r0_run (tbl : TB) (fin : Fin) (K : List Fr) (e : Env) (H : List AO) : run tbl fin K f26r0 e H = regK tbl fin K [] f26o0 [1] e H := run_regK tbl fin K false [] f26o0 [1] e H rfl
@[simp] def f26o1 : List IOper := [
  ⟨(some 9), .fld 0 (.t 1), none, none⟩,
  ⟨(some 10), .load false 1 (.t 9), none, none⟩,
  ⟨(some 11), .fld 1 (.t 1), none, none⟩,
  ⟨(some 12), .load false 1 (.t 11), none, none⟩,
  ⟨(some 13), .fld 2 (.t 1), none, none⟩,
  ⟨(some 14), .load false 1 (.t 13), none, none⟩,
  ⟨(some 15), .mkrow 28 1 3 .e0 [(0, (.t 10)), (1, (.t 12)), (2, (.t 14))], none, none⟩,
  ⟨(some 16), .len (.t 15), none, none⟩,
  ⟨(some 17), .mv (.c (.int .i64 0)), none, none⟩]
def f26r1 : IC := .reg false [] f26o1 [16, 1, 15, 17]
@[simp] theorem f26r1_run (tbl : TB) (fin : Fin) (K : List Fr) (e : Env) (H : List AO) : run tbl fin K f26r1 e H = regK tbl fin K [] f26o1 [16, 1, 15, 17] e H := run_regK tbl fin K false [] f26o1 [16, 1, 15, 17] e H rfl
@[simp] def f26o2 : List IOper := [
  ⟨(some 18), .bin .lss (.t 17) (.t 16), none, none⟩]
def f26r2 : IC := .reg false [] f26o2 [18, 15, 1, 16, 17]
@[simp] theorem f26r2_run (tbl : TB) (fin : Fin) (K : List Fr) (e : Env) (H : List AO) : run tbl fin K f26r2 e H = regK tbl fin K [] f26o2 [18, 15, 1, 16, 17] e H := run_regK tbl fin K false [] f26o2 [18, 15, 1, 16, 17] e H rfl
@[simp] def f26o3 : List IOper := [
  ⟨(some 19), .idx 1 (.t 15) (.t 17), none, none⟩,
  ⟨(some 20), .load false 1 (.t 19), none, none⟩,
  ⟨(some 4), .mv (.t 20), none, none⟩]
def f26r3 : IC := .reg false [] f26o3 [15, 1, 16, 17, 4]
@[simp] theorem f26r3_run (tbl : TB) (fin : Fin) (K : List Fr) (e : Env) (H : List AO) : run tbl fin K f26r3 e H = regK tbl fin K [] f26o3 [15, 1, 16, 17, 4] e H := run_regK tbl fin K false [] f26o3 [15, 1, 16, 17, 4] e H rfl
@[simp] def f26o4 : List IOper := [
  ⟨(some 21), .mv (.t 4), none, none⟩,
  ⟨(some 22), .len (.t 21), none, none⟩,
  ⟨(some 23), .mv (.c (.int .i64 0)), none, none⟩]
def f26r4 : IC := .reg false [] f26o4 [22, 15, 1, 16, 17, 21, 4, 23]
@[simp] theorem f26r4_run (tbl : TB) (fin : Fin) (K : List Fr) (e : Env) (H : List AO) : run tbl fin K f26r4 e H = regK tbl fin K [] f26o4 [22, 15, 1, 16, 17, 21, 4, 23] e H := run_regK tbl fin K false [] f26o4 [22, 15, 1, 16, 17, 21, 4, 23] e H rfl
@[simp] def f26o5 : List IOper := [
  ⟨(some 24), .bin .lss (.t 23) (.t 22), none, none⟩]
def f26r5 : IC := .reg false [] f26o5 [24, 4, 21, 17, 16, 1, 15, 22, 23]
@[simp] theorem f26r5_run (tbl : TB) (fin : Fin) (K : List Fr) (e : Env) (H : List AO) : run tbl fin K f26r5 e H = regK tbl fin K [] f26o5 [24, 4, 21, 17, 16, 1, 15, 22, 23] e H := run_regK tbl fin K false [] f26o5 [24, 4, 21, 17, 16, 1, 15, 22, 23] e H rfl
@[simp] def f26o6 : List IOper := [
  ⟨(some 25), .mv (.t 23), none, none⟩,
  ⟨(some 26), .idx 1 (.t 21) (.t 23), none, none⟩,
  ⟨(some 27), .load false 1 (.t 26), none, none⟩,
  ⟨(some 5), .mv (.t 25), none, none⟩,
  ⟨(some 6), .mv (.t 27), none, none⟩]
def f26r6 : IC := .reg false [] f26o6 [6, 5, 4, 21, 17, 16, 1, 15, 22, 23]
@[simp] theorem f26r6_run (tbl : TB) (fin : Fin) (K : List Fr) (e : Env) (H : List AO) : run tbl fin K f26r6 e H = regK tbl fin K [] f26o6 [6, 5, 4, 21, 17, 16, 1, 15, 22, 23] e H := run_regK tbl fin K false [] f26o6 [6, 5, 4, 21, 17, 16, 1, 15, 22, 23] e H rfl
@[simp] def f26o7 : List IOper := [
  ⟨(some 28), .mv (.t 6), none, none⟩,
  ⟨(some 29), .call (.c (.fn 35 [])) [(.t 28)], none, none⟩,
  ⟨(some 30), .un .not (.t 29), none, none⟩,
  ⟨(some 31), .mv (.t 30), none, none⟩,
  ⟨(some 32), .mv (.t 5), (some (31, false)), none⟩,
  ⟨(some 33), .bin .gtr (.t 32) (.c (.int .i64 0)), (some (31, false)), none⟩,
  ⟨(some 34), .mv (.t 33), (some (31, false)), none⟩,
  ⟨(some 35), .mv (.t 6), (some (34, true)), some [5, 35, 34, 31, 4, 21, 17, 16, 1, 15, 22, 23]⟩,
  ⟨(some 36), .mv (.t 4), (some (34, true)), none⟩,
  ⟨(some 37), .mv (.t 5), (some (34, true)), none⟩,
  ⟨(some 38), .bin .sub (.t 37) (.c (.int .i64 1)), (some (34, true)), none⟩,
  ⟨(some 39), .idx 1 (.t 36) (.t 38), (some (34, true)), none⟩,
  ⟨(some 40), .load false 1 (.t 39), (some (34, true)), none⟩,
  ⟨(some 41), .bin .leq (.t 35) (.t 40), (some (34, true)), none⟩,
  ⟨(some 42), .pick (.t 34) (.t 41) (.c (.bool false)), (some (31, false)), none⟩,
  ⟨(some 43), .pick (.t 31) (.c (.bool true)) (.t 42), none, none⟩]
def f26r7 : IC := .reg false [] f26o7 [43, 4, 21, 17, 16, 1, 15, 22, 23]
@[simp] theorem f26r7_run (tbl : TB) (fin : Fin) (K : List Fr) (e : Env) (H : List AO) : run tbl fin K f26r7 e H = regK tbl fin K [] f26o7 [43, 4, 21, 17, 16, 1, 15, 22, 23] e H := run_regK tbl fin K false [] f26o7 [43, 4, 21, 17, 16, 1, 15, 22, 23] e H rfl
@[simp] def f26o8 : List IOper := [
  ⟨(some 2), .mv (.c (.int .i64 1)), none, none⟩]
def f26r8 : IC := .reg false [] f26o8 [2]
@[simp] theorem f26r8_run (tbl : TB) (fin : Fin) (K : List Fr) (e : Env) (H : List AO) : run tbl fin K f26r8 e H = regK tbl fin K [] f26o8 [2] e H := run_regK tbl fin K false [] f26o8 [2] e H rfl
@[simp] def f26o9 : List IOper := [
  ⟨(some 44), .bin .add (.t 23) (.c (.int .i64 1)), none, none⟩,
  ⟨(some 23), .mv (.t 44), none, none⟩]
def f26r9 : IC := .reg false [] f26o9 [22, 15, 1, 16, 17, 21, 4, 23]
@[simp] theorem f26r9_run (tbl : TB) (fin : Fin) (K : List Fr) (e : Env) (H : List AO) : run tbl fin K f26r9 e H = regK tbl fin K [] f26o9 [22, 15, 1, 16, 17, 21, 4, 23] e H := run_regK tbl fin K false [] f26o9 [22, 15, 1, 16, 17, 21, 4, 23] e H rfl
def f26b10 : IC := (.seq f26r5 (.seq (.cond (.t 24) .skip (.exit 2)) (.seq (.block 3 (.seq f26r6 (.seq f26r7 (.cond (.t 43) (.seq f26r8 .ret) .skip)))) f26r9)))
theorem f26b10_eq : f26b10 = (.seq f26r5 (.seq (.cond (.t 24) .skip (.exit 2)) (.seq (.block 3 (.seq f26r6 (.seq f26r7 (.cond (.t 43) (.seq f26r8 .ret) .skip)))) f26r9))) := rfl
@[simp] def f26o11 : List IOper := [
  ⟨(some 45), .bin .add (.t 17) (.c (.int .i64 1)), none, none⟩,
  ⟨(some 17), .mv (.t 45), none, none⟩]
def f26r11 : IC := .reg false [] f26o11 [16, 1, 15, 17]
@[simp] theorem f26r11_run (tbl : TB) (fin : Fin) (K : List Fr) (e : Env) (H : List AO) : run tbl fin K f26r11 e H = regK tbl fin K [] f26o11 [16, 1, 15, 17] e H := run_regK tbl fin K false [] f26o11 [16, 1, 15, 17] e H rfl
def f26b12 : IC := (.seq f26r2 (.seq (.cond (.t 18) .skip (.exit 0)) (.seq (.block 1 (.seq f26r3 (.seq f26r4 (.block 2 (.loop [22, 15, 1, 16, 17, 21, 4, 23] f26b10))))) f26r11)))
theorem f26b12_eq : f26b12 = (.seq f26r2 (.seq (.cond (.t 18) .skip (.exit 0)) (.seq (.block 1 (.seq f26r3 (.seq f26r4 (.block 2 (.loop [22, 15, 1, 16, 17, 21, 4, 23] f26b10))))) f26r11))) := rfl
@[simp] def f26o13 : List IOper := [
  ⟨(some 46), .fld 1 (.t 1), none, none⟩,
  ⟨(some 47), .load false 1 (.t 46), none, none⟩,
  ⟨(some 48), .ocall (.c (.fn 48 [])) [(.t 47), (.c (.fn 47 []))], none, none⟩,
  ⟨(some 49), .mv (.t 48), none, none⟩,
  ⟨(some 50), .fld 2 (.t 1), (some (49, false)), none⟩,
  ⟨(some 51), .load false 1 (.t 50), (some (49, false)), none⟩,
  ⟨(some 52), .ocall (.c (.fn 48 [])) [(.t 51), (.c (.fn 47 []))], (some (49, false)), none⟩,
  ⟨(some 53), .pick (.t 49) (.c (.bool true)) (.t 52), none, none⟩]
def f26r13 : IC := .reg false [] f26o13 [53, 1]
@[simp] theorem f26r13_run (tbl : TB) (fin : Fin) (K : List Fr) (e : Env) (H : List AO) : run tbl fin K f26r13 e H = regK tbl fin K [] f26o13 [53, 1] e H := run_regK tbl fin K false [] f26o13 [53, 1] e H rfl
@[simp] def f26o14 : List IOper := [
  ⟨(some 2), .mv (.c (.int .i64 1)), none, none⟩]
def f26r14 : IC := .reg false [] f26o14 [2]
@[simp] theorem f26r14_run (tbl : TB) (fin : Fin) (K : List Fr) (e : Env) (H : List AO) : run tbl fin K f26r14 e H = regK tbl fin K [] f26o14 [2] e H := run_regK tbl fin K false [] f26o14 [2] e H rfl
@[simp] def f26o15 : List IOper := [
  ⟨(some 54), .fld 1 (.t 1), none, none⟩,
  ⟨(some 55), .load false 1 (.t 54), none, none⟩,
  ⟨(some 56), .mkfn 49 [(.t 1)], none, none⟩,
  ⟨(some 57), .ocall (.c (.fn 48 [])) [(.t 55), (.t 56)], none, none⟩]
def f26r15 : IC := .reg false [] f26o15 [57, 1]
@[simp] theorem f26r15_run (tbl : TB) (fin : Fin) (K : List Fr) (e : Env) (H : List AO) : run tbl fin K f26r15 e H = regK tbl fin K [] f26o15 [57, 1] e H := run_regK tbl fin K false [] f26o15 [57, 1] e H rfl
@[simp] def f26o16 : List IOper := [
  ⟨(some 2), .mv (.c (.int .i64 1)), none, none⟩]
def f26r16 : IC := .reg false [] f26o16 [2]
@[simp] theorem f26r16_run (tbl : TB) (fin : Fin) (K : List Fr) (e : Env) (H : List AO) : run tbl fin K f26r16 e H = regK tbl fin K [] f26o16 [2] e H := run_regK tbl fin K false [] f26o16 [2] e H rfl
@[simp] def f26o17 : List IOper := [
  ⟨(some 58), .fld 0 (.t 1), none, none⟩,
  ⟨(some 59), .load false 1 (.t 58), none, none⟩,
  ⟨(some 60), .len (.t 59), none, none⟩,
  ⟨(some 61), .mv (.c (.int .i64 0)), none, none⟩]
def f26r17 : IC := .reg false [] f26o17 [60, 59, 1, 61]
@[simp] theorem f26r17_run (tbl : TB) (fin : Fin) (K : List Fr) (e : Env) (H : List AO) : run tbl fin K f26r17 e H = regK tbl fin K [] f26o17 [60, 59, 1, 61] e H := run_regK tbl fin K false [] f26o17 [60, 59, 1, 61] e H rfl
@[simp] def f26o18 : List IOper := [
  ⟨(some 62), .bin .lss (.t 61) (.t 60), none, none⟩]
def f26r18 : IC := .reg false [] f26o18 [62, 1, 59, 60, 61]
@[simp] theorem f26r18_run (tbl : TB) (fin : Fin) (K : List Fr) (e : Env) (H : List AO) : run tbl fin K f26r18 e H = regK tbl fin K [] f26o18 [62, 1, 59, 60, 61] e H := run_regK tbl fin K false [] f26o18 [62, 1, 59, 60, 61] e H rfl
@[simp] def f26o19 : List IOper := [
  ⟨(some 63), .idx 1 (.t 59) (.t 61), none, none⟩,
  ⟨(some 64), .load false 1 (.t 63), none, none⟩,
  ⟨(some 8), .mv (.t 64), none, none⟩]
def f26r19 : IC := .reg false [] f26o19 [8, 1, 59, 60, 61]
@[simp] theorem f26r19_run (tbl : TB) (fin : Fin) (K : List Fr) (e : Env) (H : List AO) : run tbl fin K f26r19 e H = regK tbl fin K [] f26o19 [8, 1, 59, 60, 61] e H := run_regK tbl fin K false [] f26o19 [8, 1, 59, 60, 61] e H rfl
@[simp] def f26o20 : List IOper := [
  ⟨(some 65), .mv (.t 8), none, none⟩,
  ⟨(some 66), .bin .neq (.t 65) (.c (.int .i64 18)), none, none⟩,
  ⟨(some 67), .mv (.t 66), none, none⟩,
  ⟨(some 68), .fld 1 (.t 1), (some (67, true)), none⟩,
  ⟨(some 69), .load false 1 (.t 68), (some (67, true)), none⟩,
  ⟨(some 70), .mv (.t 8), (some (67, true)), none⟩,
  ⟨(some 71), .call (.c (.fn 39 [])) [(.t 69), (.t 70)], (some (67, true)), none⟩,
  ⟨(some 72), .pick (.t 67) (.t 71) (.c (.bool false)), none, none⟩]
def f26r20 : IC := .reg false [] f26o20 [72, 1, 59, 60, 61]
@[simp] theorem f26r20_run (tbl : TB) (fin : Fin) (K : List Fr) (e : Env) (H : List AO) : run tbl fin K f26r20 e H = regK tbl fin K [] f26o20 [72, 1, 59, 60, 61] e H := run_regK tbl fin K false [] f26o20 [72, 1, 59, 60, 61] e H rfl
@[simp] def f26o21 : List IOper := [
  ⟨(some 2), .mv (.c (.int .i64 25)), none, none⟩]
def f26r21 : IC := .reg false [] f26o21 [2]
@[simp] theorem f26r21_run (tbl : TB) (fin : Fin) (K : List Fr) (e : Env) (H : List AO) : run tbl fin K f26r21 e H = regK tbl fin K [] f26o21 [2] e H := run_regK tbl fin K false [] f26o21 [2] e H rfl
@[simp] def f26o22 : List IOper := [
  ⟨(some 73), .bin .add (.t 61) (.c (.int .i64 1)), none, none⟩,
  ⟨(some 61), .mv (.t 73), none, none⟩]
def f26r22 : IC := .reg false [] f26o22 [60, 59, 1, 61]
@[simp] theorem f26r22_run (tbl : TB) (fin : Fin) (K : List Fr) (e : Env) (H : List AO) : run tbl fin K f26r22 e H = regK tbl fin K [] f26o22 [60, 59, 1, 61] e H := run_regK tbl fin K false [] f26o22 [60, 59, 1, 61] e H rfl
def f26b23 : IC := (.seq f26r18 (.seq (.cond (.t 62) .skip (.exit 4)) (.seq (.block 5 (.seq f26r19 (.seq f26r20 (.cond (.t 72) (.seq f26r21 .ret) .skip)))) f26r22)))
theorem f26b23_eq : f26b23 = (.seq f26r18 (.seq (.cond (.t 62) .skip (.exit 4)) (.seq (.block 5 (.seq f26r19 (.seq f26r20 (.cond (.t 72) (.seq f26r21 .ret) .skip)))) f26r22))) := rfl
@[simp] def f26o24 : List IOper := [
  ⟨(some 74), .fld 0 (.t 1), none, none⟩,
  ⟨(some 75), .load false 1 (.t 74), none, none⟩,
  ⟨(some 76), .call (.c (.fn 39 [])) [(.t 75), (.c (.int .i64 18))], none, none⟩,
  ⟨(some 77), .mv (.t 76), none, none⟩,
  ⟨(some 78), .fld 0 (.t 1), (some (77, true)), none⟩,
  ⟨(some 79), .load false 1 (.t 78), (some (77, true)), none⟩,
  ⟨(some 80), .ocall (.c (.fn 48 [])) [(.t 79), (.c (.fn 34 []))], (some (77, true)), none⟩,
  ⟨(some 81), .pick (.t 77) (.t 80) (.c (.bool false)), none, none⟩]
def f26r24 : IC := .reg false [] f26o24 [81]
@[simp] theorem f26r24_run (tbl : TB) (fin : Fin) (K : List Fr) (e : Env) (H : List AO) : run tbl fin K f26r24 e H = regK tbl fin K [] f26o24 [81] e H := run_regK tbl fin K false [] f26o24 [81] e H rfl
@[simp] def f26o25 : List IOper := [
  ⟨(some 2), .mv (.c (.int .i64 25)), none, none⟩]
def f26r25 : IC := .reg false [] f26o25 [2]
@[simp] theorem f26r25_run (tbl : TB) (fin : Fin) (K : List Fr) (e : Env) (H : List AO) : run tbl fin K f26r25 e H = regK tbl fin K [] f26o25 [2] e H := run_regK tbl fin K false [] f26o25 [2] e H rfl
@[simp] def f26o26 : List IOper := [
  ⟨(some 2), .mv (.c (.int .i64 0)), none, none⟩]
def f26r26 : IC := .reg false [] f26o26 [2]
@[simp] theorem f26r26_run (tbl : TB) (fin : Fin) (K : List Fr) (e : Env) (H : List AO) : run tbl fin K f26r26 e H = regK tbl fin K [] f26o26 [2] e H := run_regK tbl fin K false [] f26o26 [2] e H rfl
def f26body : IC := (.seq f26r0 (.seq (.seq f26r1 (.block 0 (.loop [16, 1, 15, 17] f26b12))) (.seq (.seq f26r13 (.cond (.t 53) (.seq f26r14 .ret) .skip)) (.seq (.seq f26r15 (.cond (.t 57) (.seq f26r16 .ret) .skip)) (.seq (.seq f26r17 (.block 4 (.loop [60, 59, 1, 61] f26b23))) (.seq (.seq f26r24 (.cond (.t 81) (.seq f26r25 .ret) .skip)) (.seq f26r26 .ret)))))))
def f26 : IFn := ⟨82, 1, [.tmp 2], f26body⟩
/- 27: jobshell/jobshellref25.Set -/
@[simp] def f27o0 : List IOper := [
  ⟨(some 3), .box 30 3 (.t 0), none, none⟩,
  ⟨(some 6), .new 30 3 (.agg [.e0, .e0, .e0]), none, none⟩,
  ⟨(some 7), .mv (.c (.int .i64 0)), none, none⟩]
def f27r0 : IC := .reg false [] f27o0 [1, 2, 3, 6]
@[simp] theorem f27r0_run (tbl : TB) (fin : Fin) (K : List Fr) (e : Env) (H : List AO) : run tbl fin K f27r0 e H = regK tbl fin K [] f27o0 [1, 2, 3, 6] e H := run_regK tbl fin K false [] f27o0 [1, 2, 3, 6] e H rfl
@[simp] def f27o1 : List IOper := [
  ⟨(some 8), .mv (.t 1), none, none⟩,
  ⟨(some 9), .call (.c (.fn 14 [])) [(.t 8)], none, none⟩,
  ⟨(some 10), .bin .eql (.t 9) (.c (.str [])), none, none⟩,
  ⟨(some 11), .mv (.t 10), none, none⟩,
  ⟨(some 12), .mv (.t 1), (some (11, false)), none⟩,
  ⟨(some 13), .bin .eql (.t 12) (.c (.int .i64 9)), (some (11, false)), none⟩,
  ⟨(some 14), .pick (.t 11) (.c (.bool true)) (.t 13), none, none⟩,
  ⟨(some 15), .mv (.t 14), none, some [15, 1, 2, 3, 6]⟩,
  ⟨(some 16), .mv (.t 1), (some (15, false)), none⟩,
  ⟨(some 17), .bin .eql (.t 16) (.c (.int .i64 19)), (some (15, false)), none⟩,
  ⟨(some 18), .pick (.t 15) (.c (.bool true)) (.t 17), none, none⟩,
  ⟨(some 19), .mv (.t 18), none, none⟩,
  ⟨(some 20), .mv (.t 2), (some (19, false)), none⟩,
  ⟨(some 21), .bin .lss (.t 20) (.c (.int .i64 0)), (some (19, false)), none⟩,
  ⟨(some 22), .pick (.t 19) (.c (.bool true)) (.t 21), none, none⟩,
  ⟨(some 23), .mv (.t 22), none, some [23, 1, 2, 3, 6]⟩,
  ⟨(some 24), .mv (.t 2), (some (23, false)), none⟩,
  ⟨(some 25), .bin .gtr (.t 24) (.c (.int .i64 2)), (some (23, false)), none⟩,
  ⟨(some 26), .pick (.t 23) (.c (.bool true)) (.t 25), none, none⟩]
def f27r1 : IC := .reg false [] f27o1 [26, 1, 2, 3, 6]
@[simp] theorem f27r1_run (tbl : TB) (fin : Fin) (K : List Fr) (e : Env) (H : List AO) : run tbl fin K f27r1 e H = regK tbl fin K [] f27o1 [26, 1, 2, 3, 6] e H := run_regK tbl fin K false [] f27o1 [26, 1, 2, 3, 6] e H rfl
@[simp] def f27o2 : List IOper := [
  ⟨(some 27), .load true 3 (.t 3), none, none⟩,
  ⟨none, .store 3 (.t 6) (.t 27), none, none⟩,
  ⟨(some 7), .mv (.c (.int .i64 1)), none, none⟩]
def f27r2 : IC := .reg false [] f27o2 [6, 7]
@[simp] theorem f27r2_run (tbl : TB) (fin : Fin) (K : List Fr) (e : Env) (H : List AO) : run tbl fin K f27r2 e H = regK tbl fin K [] f27o2 [6, 7] e H := run_regK tbl fin K false [] f27o2 [6, 7] e H rfl
@[simp] def f27o3 : List IOper := [
  ⟨(some 28), .fld 1 (.t 3), none, none⟩,
  ⟨(some 29), .load false 1 (.t 28), none, none⟩,
  ⟨(some 30), .mv (.t 1), none, none⟩,
  ⟨(some 31), .call (.c (.fn 42 [])) [(.t 29), (.t 30)], none, none⟩,
  ⟨(some 32), .fld 1 (.t 3), none, none⟩,
  ⟨none, .store 1 (.t 32) (.t 31), none, none⟩]
def f27r3 : IC := .reg false [] f27o3 [2, 1, 3, 6]
@[simp] theorem f27r3_run (tbl : TB) (fin : Fin) (K : List Fr) (e : Env) (H : List AO) : run tbl fin K f27r3 e H = regK tbl fin K [] f27o3 [2, 1, 3, 6] e H := run_regK tbl fin K false [] f27o3 [2, 1, 3, 6] e H rfl
@[simp] def f27o4 : List IOper := [
  ⟨(some 33), .fld 2 (.t 3), none, none⟩,
  ⟨(some 34), .load false 1 (.t 33), none, none⟩,
  ⟨(some 35), .mv (.t 1), none, none⟩,
  ⟨(some 36), .call (.c (.fn 42 [])) [(.t 34), (.t 35)], none, none⟩,
  ⟨(some 37), .fld 2 (.t 3), none, none⟩,
  ⟨none, .store 1 (.t 37) (.t 36), none, none⟩]
def f27r4 : IC := .reg false [] f27o4 [2, 1, 3, 6]
@[simp] theorem f27r4_run (tbl : TB) (fin : Fin) (K : List Fr) (e : Env) (H : List AO) : run tbl fin K f27r4 e H = regK tbl fin K [] f27o4 [2, 1, 3, 6] e H := run_regK tbl fin K false [] f27o4 [2, 1, 3, 6] e H rfl
@[simp] def f27o5 : List IOper := [
  ⟨(some 38), .mv (.t 2), none, none⟩,
  ⟨(some 39), .bin .eql (.t 38) (.c (.int .i64 1)), none, none⟩]
def f27r5 : IC := .reg false [] f27o5 [39, 2, 1, 3, 6]
@[simp] theorem f27r5_run (tbl : TB) (fin : Fin) (K : List Fr) (e : Env) (H : List AO) : run tbl fin K f27r5 e H = regK tbl fin K [] f27o5 [39, 2, 1, 3, 6] e H := run_regK tbl fin K false [] f27o5 [39, 2, 1, 3, 6] e H rfl
@[simp] def f27o6 : List IOper := [
  ⟨(some 40), .fld 1 (.t 3), none, none⟩,
  ⟨(some 41), .load false 1 (.t 40), none, none⟩,
  ⟨(some 42), .mv (.t 1), none, none⟩,
  ⟨(some 43), .call (.c (.fn 46 [])) [(.t 41), (.t 42)], none, none⟩,
  ⟨(some 44), .fld 1 (.t 3), none, none⟩,
  ⟨none, .store 1 (.t 44) (.t 43), none, none⟩]
def f27r6 : IC := .reg false [] f27o6 [2, 1, 3, 6]
@[simp] theorem f27r6_run (tbl : TB) (fin : Fin) (K : List Fr) (e : Env) (H : List AO) : run tbl fin K f27r6 e H = regK tbl fin K [] f27o6 [2, 1, 3, 6] e H := run_regK tbl fin K false [] f27o6 [2, 1, 3, 6] e H rfl
@[simp] def f27o7 : List IOper := [
  ⟨(some 45), .mv (.t 1), none, none⟩,
  ⟨(some 46), .bin .neq (.t 45) (.c (.int .i64 18)), none, none⟩]
def f27r7 : IC := .reg false [] f27o7 [46, 2, 1, 3, 6]
@[simp] theorem f27r7_run (tbl : TB) (fin : Fin) (K : List Fr) (e : Env) (H : List AO) : run tbl fin K f27r7 e H = regK tbl fin K [] f27o7 [46, 2, 1, 3, 6] e H := run_regK tbl fin K false [] f27o7 [46, 2, 1, 3, 6] e H rfl
@[simp] def f27o8 : List IOper := [
  ⟨(some 47), .fld 0 (.t 3), none, none⟩,
  ⟨(some 48), .load false 1 (.t 47), none, none⟩,
  ⟨(some 49), .mv (.t 1), none, none⟩,
  ⟨(some 50), .call (.c (.fn 42 [])) [(.t 48), (.t 49)], none, none⟩,
  ⟨(some 51), .fld 0 (.t 3), none, none⟩,
  ⟨none, .store 1 (.t 51) (.t 50), none, none⟩]
def f27r8 : IC := .reg false [] f27o8 [2, 1, 3, 6]
@[simp] theorem f27r8_run (tbl : TB) (fin : Fin) (K : List Fr) (e : Env) (H : List AO) : run tbl fin K f27r8 e H = regK tbl fin K [] f27o8 [2, 1, 3, 6] e H := run_regK tbl fin K false [] f27o8 [2, 1, 3, 6] e H rfl
@[simp] def f27o9 : List IOper := [
  ⟨(some 52), .mv (.t 2), none, none⟩,
  ⟨(some 53), .bin .eql (.t 52) (.c (.int .i64 2)), none, none⟩]
def f27r9 : IC := .reg false [] f27o9 [53, 1, 3, 6]
@[simp] theorem f27r9_run (tbl : TB) (fin : Fin) (K : List Fr) (e : Env) (H : List AO) : run tbl fin K f27r9 e H = regK tbl fin K [] f27o9 [53, 1, 3, 6] e H := run_regK tbl fin K false [] f27o9 [53, 1, 3, 6] e H rfl
@[simp] def f27o10 : List IOper := [
  ⟨(some 54), .fld 2 (.t 3), none, none⟩,
  ⟨(some 55), .load false 1 (.t 54), none, none⟩,
  ⟨(some 56), .mv (.t 1), none, none⟩,
  ⟨(some 57), .call (.c (.fn 46 [])) [(.t 55), (.t 56)], none, none⟩,
  ⟨(some 58), .fld 2 (.t 3), none, none⟩,
  ⟨none, .store 1 (.t 58) (.t 57), none, none⟩]
def f27r10 : IC := .reg false [] f27o10 [3, 6]
@[simp] theorem f27r10_run (tbl : TB) (fin : Fin) (K : List Fr) (e : Env) (H : List AO) : run tbl fin K f27r10 e H = regK tbl fin K [] f27o10 [3, 6] e H := run_regK tbl fin K false [] f27o10 [3, 6] e H rfl
@[simp] def f27o11 : List IOper := [
  ⟨(some 59), .load true 3 (.t 3), none, none⟩,
  ⟨none, .store 3 (.t 6) (.t 59), none, none⟩,
  ⟨(some 7), .mv (.c (.int .i64 0)), none, none⟩]
def f27r11 : IC := .reg false [] f27o11 [6, 7]
@[simp] theorem f27r11_run (tbl : TB) (fin : Fin) (K : List Fr) (e : Env) (H : List AO) : run tbl fin K f27r11 e H = regK tbl fin K [] f27o11 [6, 7] e H := run_regK tbl fin K false [] f27o11 [6, 7] e H rfl
def f27body : IC := (.seq f27r0 (.seq (.seq f27r1 (.cond (.t 26) (.seq f27r2 .ret) .skip)) (.seq f27r3 (.seq f27r4 (.seq (.seq f27r5 (.cond (.t 39) (.seq f27r6 (.seq f27r7 (.cond (.t 46) f27r8 .skip))) .skip)) (.seq (.seq f27r9 (.cond (.t 53) f27r10 .skip)) (.seq f27r11 .ret)))))))
def f27 : IFn := ⟨60, 3, [.cell 6 true 3, .tmp 7], f27body⟩
/- 28: jobshell/signal.Fork -/
@[simp] def f28o0 : List IOper := [
  ⟨(some 1), .box 30 3 (.t 0), none, none⟩,
  ⟨(some 2), .new 30 3 (.agg [.e0, .e0, .e0]), none, none⟩]
def f28r0 : IC := .reg false [] f28o0 [1, 2]
@[simp] theorem f28r0_run (tbl : TB) (fin : Fin) (K : List Fr) (e : Env) (H : List AO) : run tbl fin K f28r0 e H = regK tbl fin K [] f28o0 [1, 2] e H := run_regK tbl fin K false [] f28o0 [1, 2] e H rfl
@[simp] def f28o1 : List IOper := [
  ⟨(some 3), .load true 3 (.t 1), none, none⟩,
  ⟨(some 4), .call (.c (.fn 40 [])) [(.t 3)], none, none⟩,
  ⟨none, .store 3 (.t 1) (.t 4), none, none⟩]
def f28r1 : IC := .reg false [] f28o1 [1, 2]
@[simp] theorem f28r1_run (tbl : TB) (fin : Fin) (K : List Fr) (e : Env) (H : List AO) : run tbl fin K f28r1 e H = regK tbl fin K [] f28o1 [1, 2] e H := run_regK tbl fin K false [] f28o1 [1, 2] e H rfl
@[simp] def f28o2 : List IOper := [
  ⟨(some 5), .fld 0 (.t 1), none, none⟩,
  ⟨none, .store 1 (.t 5) (.c .e0), none, none⟩]
def f28r2 : IC := .reg false [] f28o2 [1, 2]
@[simp] theorem f28r2_run (tbl : TB) (fin : Fin) (K : List Fr) (e : Env) (H : List AO) : run tbl fin K f28r2 e H = regK tbl fin K [] f28o2 [1, 2] e H := run_regK tbl fin K false [] f28o2 [1, 2] e H rfl
@[simp] def f28o3 : List IOper := [
  ⟨(some 6), .load true 3 (.t 1), none, none⟩,
  ⟨none, .store 3 (.t 2) (.t 6), none, none⟩]
def f28r3 : IC := .reg false [] f28o3 [2]
@[simp] theorem f28r3_run (tbl : TB) (fin : Fin) (K : List Fr) (e : Env) (H : List AO) : run tbl fin K f28r3 e H = regK tbl fin K [] f28o3 [2] e H := run_regK tbl fin K false [] f28o3 [2] e H rfl
def f28body : IC := (.seq f28r0 (.seq f28r1 (.seq f28r2 (.seq f28r3 .ret))))
def f28 : IFn := ⟨7, 1, [.cell 2 true 3], f28body⟩
/- 29: jobshell/jobshellref25.Fork -/
@[simp] def f29o0 : List IOper := [
  ⟨(some 1), .box 30 3 (.t 0), none, none⟩,
  ⟨(some 2), .new 30 3 (.agg [.e0, .e0, .e0]), none, none⟩]
def f29r0 : IC := .reg false [] f29o0 [1, 2]
@[simp] theorem f29r0_run (tbl : TB) (fin : Fin) (K : List Fr) (e : Env) (H : List AO) : run tbl fin K f29r0 e H = regK tbl fin K [] f29o0 [1, 2] e H := run_regK tbl fin K false [] f29o0 [1, 2] e H rfl
@[simp] def f29o1 : List IOper := [
  ⟨(some 3), .fld 0 (.t 1), none, none⟩,
  ⟨none, .store 1 (.t 3) (.c .e0), none, none⟩]
def f29r1 : IC := .reg false [] f29o1 [1, 2]
@[simp] theorem f29r1_run (tbl : TB) (fin : Fin) (K : List Fr) (e : Env) (H : List AO) : run tbl fin K f29r1 e H = regK tbl fin K [] f29o1 [1, 2] e H := run_regK tbl fin K false [] f29o1 [1, 2] e H rfl
@[simp] def f29o2 : List IOper := [
  ⟨(some 4), .load true 3 (.t 1), none, none⟩,
  ⟨none, .store 3 (.t 2) (.t 4), none, none⟩]
def f29r2 : IC := .reg false [] f29o2 [2]
@[simp] theorem f29r2_run (tbl : TB) (fin : Fin) (K : List Fr) (e : Env) (H : List AO) : run tbl fin K f29r2 e H = regK tbl fin K [] f29o2 [2] e H := run_regK tbl fin K false [] f29o2 [2] e H rfl
def f29body : IC := (.seq f29r0 (.seq f29r1 (.seq f29r2 .ret)))
def f29 : IFn := ⟨5, 1, [.cell 2 true 3], f29body⟩
/- 30: jobshell/signal.Exec -/
@[simp] def f30o0 : List IOper := [
  ⟨(some 1), .box 30 3 (.t 0), none, none⟩,
  ⟨(some 2), .new 30 3 (.agg [.e0, .e0, .e0]), none, none⟩]
def f30r0 : IC := .reg false [] f30o0 [1, 2]
@[simp] theorem f30r0_run (tbl : TB) (fin : Fin) (K : List Fr) (e : Env) (H : List AO) : run tbl fin K f30r0 e H = regK tbl fin K [] f30o0 [1, 2] e H := run_regK tbl fin K false [] f30o0 [1, 2] e H rfl
@[simp] def f30o1 : List IOper := [
  ⟨(some 3), .load true 3 (.t 1), none, none⟩,
  ⟨(some 4), .call (.c (.fn 40 [])) [(.t 3)], none, none⟩,
  ⟨none, .store 3 (.t 1) (.t 4), none, none⟩]
def f30r1 : IC := .reg false [] f30o1 [1, 2]
@[simp] theorem f30r1_run (tbl : TB) (fin : Fin) (K : List Fr) (e : Env) (H : List AO) : run tbl fin K f30r1 e H = regK tbl fin K [] f30o1 [1, 2] e H := run_regK tbl fin K false [] f30o1 [1, 2] e H rfl
@[simp] def f30o2 : List IOper := [
  ⟨(some 5), .fld 2 (.t 1), none, none⟩,
  ⟨none, .store 1 (.t 5) (.c .e0), none, none⟩]
def f30r2 : IC := .reg false [] f30o2 [1, 2]
@[simp] theorem f30r2_run (tbl : TB) (fin : Fin) (K : List Fr) (e : Env) (H : List AO) : run tbl fin K f30r2 e H = regK tbl fin K [] f30o2 [1, 2] e H := run_regK tbl fin K false [] f30o2 [1, 2] e H rfl
@[simp] def f30o3 : List IOper := [
  ⟨(some 6), .load true 3 (.t 1), none, none⟩,
  ⟨none, .store 3 (.t 2) (.t 6), none, none⟩]
def f30r3 : IC := .reg false [] f30o3 [2]
@[simp] theorem f30r3_run (tbl : TB) (fin : Fin) (K : List Fr) (e : Env) (H : List AO) : run tbl fin K f30r3 e H = regK tbl fin K [] f30o3 [2] e H := run_regK tbl fin K false [] f30o3 [2] e H rfl
def f30body : IC := (.seq f30r0 (.seq f30r1 (.seq f30r2 (.seq f30r3 .ret))))
def f30 : IFn := ⟨7, 1, [.cell 2 true 3], f30body⟩
/- 31: jobshell/jobshellref25.Exec -/
@[simp] def f31o0 : List IOper := [
  ⟨(some 1), .box 30 3 (.t 0), none, none⟩,
  ⟨(some 2), .new 30 3 (.agg [.e0, .e0, .e0]), none, none⟩]
def f31r0 : IC := .reg false [] f31o0 [1, 2]
@[simp] theorem f31r0_run (tbl : TB) (fin : Fin) (K : List Fr) (e : Env) (H : List AO) : run tbl fin K f31r0 e H = regK tbl fin K [] f31o0 [1, 2] e H := run_regK tbl fin K false [] f31o0 [1, 2] e H rfl
@[simp] def f31o1 : List IOper := [
  ⟨(some 3), .fld 2 (.t 1), none, none⟩,
  ⟨none, .store 1 (.t 3) (.c .e0), none, none⟩]
def f31r1 : IC := .reg false [] f31o1 [1, 2]
@[simp] theorem f31r1_run (tbl : TB) (fin : Fin) (K : List Fr) (e : Env) (H : List AO) : run tbl fin K f31r1 e H = regK tbl fin K [] f31o1 [1, 2] e H := run_regK tbl fin K false [] f31o1 [1, 2] e H rfl
@[simp] def f31o2 : List IOper := [
  ⟨(some 4), .load true 3 (.t 1), none, none⟩,
  ⟨none, .store 3 (.t 2) (.t 4), none, none⟩]
def f31r2 : IC := .reg false [] f31o2 [2]
@[simp] theorem f31r2_run (tbl : TB) (fin : Fin) (K : List Fr) (e : Env) (H : List AO) : run tbl fin K f31r2 e H = regK tbl fin K [] f31o2 [2] e H := run_regK tbl fin K false [] f31o2 [2] e H rfl
def f31body : IC := (.seq f31r0 (.seq f31r1 (.seq f31r2 .ret)))
def f31 : IFn := ⟨5, 1, [.cell 2 true 3], f31body⟩
/- 32: jobshell/jobshelllaw25.play -/
@[simp] def f32o0 : List IOper := [
  ⟨(some 2), .box 30 3 (.t 0), none, none⟩,
  ⟨(some 3), .box 51 3 (.t 1), none, none⟩,
  ⟨(some 4), .new 30 3 (.agg [.e0, .e0, .e0]), none, none⟩]
def f32r0 : IC := .reg false [] f32o0 [2, 3, 4]
@[simp] theorem f32r0_run (tbl : TB) (fin : Fin) (K : List Fr) (e : Env) (H : List AO) : run tbl fin K f32r0 e H = regK tbl fin K [] f32o0 [2, 3, 4] e H := run_regK tbl fin K false [] f32o0 [2, 3, 4] e H rfl
@[simp] def f32o1 : List IOper := [
  ⟨(some 10), .fld 0 (.t 3), none, none⟩,
  ⟨(some 11), .load false 1 (.t 10), none, none⟩]
def f32r1 : IC := .reg false [] f32o1 [11, 2, 3, 4]
@[simp] theorem f32r1_run (tbl : TB) (fin : Fin) (K : List Fr) (e : Env) (H : List AO) : run tbl fin K f32r1 e H = regK tbl fin K [] f32o1 [11, 2, 3, 4] e H := run_regK tbl fin K false [] f32o1 [11, 2, 3, 4] e H rfl
@[simp] def f32o2 : List IOper := [
  ⟨(some 13), .bin .eql (.t 11) (.c (.int .i64 0)), none, none⟩,
  ⟨(some 12), .mv (.t 13), none, none⟩]
def f32r2 : IC := .reg false [] f32o2 [12, 11, 2, 3, 4]
@[simp] theorem f32r2_run (tbl : TB) (fin : Fin) (K : List Fr) (e : Env) (H : List AO) : run tbl fin K f32r2 e H = regK tbl fin K [] f32o2 [12, 11, 2, 3, 4] e H := run_regK tbl fin K false [] f32o2 [12, 11, 2, 3, 4] e H rfl
@[simp] def f32o3 : List IOper := [
  ⟨(some 14), .load true 3 (.t 2), none, none⟩,
  ⟨(some 15), .fld 1 (.t 3), none, none⟩,
  ⟨(some 16), .load false 1 (.t 15), none, none⟩,
  ⟨(some 17), .call (.c (.fn 22 [])) [(.t 14), (.t 16)], none, none⟩,
  ⟨none, .store 3 (.t 4) (.t 17), none, none⟩]
def f32r3 : IC := .reg false [] f32o3 [4]
@[simp] theorem f32r3_run (tbl : TB) (fin : Fin) (K : List Fr) (e : Env) (H : List AO) : run tbl fin K f32r3 e H = regK tbl fin K [] f32o3 [4] e H := run_regK tbl fin K false [] f32o3 [4] e H rfl
@[simp] def f32o4 : List IOper := [
  ⟨(some 19), .bin .eql (.t 11) (.c (.int .i64 1)), none, none⟩,
  ⟨(some 18), .mv (.t 19), none, none⟩]
def f32r4 : IC := .reg false [] f32o4 [18, 3, 11, 2, 4]
@[simp] theorem f32r4_run (tbl : TB) (fin : Fin) (K : List Fr) (e : Env) (H : List AO) : run tbl fin K f32r4 e H = regK tbl fin K [] f32o4 [18, 3, 11, 2, 4] e H := run_regK tbl fin K false [] f32o4 [18, 3, 11, 2, 4] e H rfl
@[simp] def f32o5 : List IOper := [
  ⟨(some 21), .load true 3 (.t 2), none, none⟩,
  ⟨(some 22), .call (.c (.fn 19 [])) [(.t 21)], none, none⟩,
  ⟨(some 20), .mv (.t 22), none, none⟩,
  ⟨(some 23), .ext (.t 20) 0, none, none⟩,
  ⟨(some 24), .ext (.t 20) 1, none, none⟩,
  ⟨(some 25), .ext (.t 20) 2, none, none⟩,
  ⟨(some 5), .new 30 3 (.agg [.e0, .e0, .e0]), none, none⟩,
  ⟨none, .store 3 (.t 5) (.t 23), none, none⟩,
  ⟨(some 6), .mv (.t 24), none, none⟩,
  ⟨(some 7), .mv (.t 25), none, none⟩]
def f32r5 : IC := .reg false [] f32o5 [5, 4]
@[simp] theorem f32r5_run (tbl : TB) (fin : Fin) (K : List Fr) (e : Env) (H : List AO) : run tbl fin K f32r5 e H = regK tbl fin K [] f32o5 [5, 4] e H := run_regK tbl fin K false [] f32o5 [5, 4] e H rfl
@[simp] def f32o6 : List IOper := [
  ⟨(some 26), .load true 3 (.t 5), none, none⟩,
  ⟨none, .store 3 (.t 4) (.t 26), none, none⟩]
def f32r6 : IC := .reg false [] f32o6 [4]
@[simp] theorem f32r6_run (tbl : TB) (fin : Fin) (K : List Fr) (e : Env) (H : List AO) : run tbl fin K f32r6 e H = regK tbl fin K [] f32o6 [4] e H := run_regK tbl fin K false [] f32o6 [4] e H rfl
@[simp] def f32o7 : List IOper := [
  ⟨(some 28), .bin .eql (.t 11) (.c (.int .i64 2)), none, none⟩,
  ⟨(some 27), .mv (.t 28), none, none⟩]
def f32r7 : IC := .reg false [] f32o7 [27, 11, 2, 3, 4]
@[simp] theorem f32r7_run (tbl : TB) (fin : Fin) (K : List Fr) (e : Env) (H : List AO) : run tbl fin K f32r7 e H = regK tbl fin K [] f32o7 [27, 11, 2, 3, 4] e H := run_regK tbl fin K false [] f32o7 [27, 11, 2, 3, 4] e H rfl
@[simp] def f32o8 : List IOper := [
  ⟨(some 30), .load true 3 (.t 2), none, none⟩,
  ⟨(some 31), .fld 1 (.t 3), none, none⟩,
  ⟨(some 32), .load false 1 (.t 31), none, none⟩,
  ⟨(some 33), .fld 2 (.t 3), none, none⟩,
  ⟨(some 34), .load false 1 (.t 33), none, none⟩,
  ⟨(some 35), .call (.c (.fn 25 [])) [(.t 30), (.t 32), (.t 34)], none, none⟩,
  ⟨(some 29), .mv (.t 35), none, none⟩,
  ⟨(some 36), .ext (.t 29) 0, none, some [29, 36, 4]⟩,
  ⟨(some 37), .ext (.t 29) 1, none, none⟩,
  ⟨(some 8), .new 30 3 (.agg [.e0, .e0, .e0]), none, none⟩,
  ⟨none, .store 3 (.t 8) (.t 36), none, none⟩,
  ⟨(some 9), .mv (.t 37), none, none⟩]
def f32r8 : IC := .reg false [] f32o8 [8, 4]
@[simp] theorem f32r8_run (tbl : TB) (fin : Fin) (K : List Fr) (e : Env) (H : List AO) : run tbl fin K f32r8 e H = regK tbl fin K [] f32o8 [8, 4] e H := run_regK tbl fin K false [] f32o8 [8, 4] e H rfl
@[simp] def f32o9 : List IOper := [
  ⟨(some 38), .load true 3 (.t 8), none, none⟩,
  ⟨none, .store 3 (.t 4) (.t 38), none, none⟩]
def f32r9 : IC := .reg false [] f32o9 [4]
@[simp] theorem f32r9_run (tbl : TB) (fin : Fin) (K : List Fr) (e : Env) (H : List AO) : run tbl fin K f32r9 e H = regK tbl fin K [] f32o9 [4] e H := run_regK tbl fin K false [] f32o9 [4] e H rfl
@[simp] def f32o10 : List IOper := [
  ⟨(some 40), .bin .eql (.t 11) (.c (.int .i64 3)), none, none⟩,
  ⟨(some 39), .mv (.t 40), none, none⟩]
def f32r10 : IC := .reg false [] f32o10 [39, 2, 4]
@[simp] theorem f32r10_run (tbl : TB) (fin : Fin) (K : List Fr) (e : Env) (H : List AO) : run tbl fin K f32r10 e H = regK tbl fin K [] f32o10 [39, 2, 4] e H := run_regK tbl fin K false [] f32o10 [39, 2, 4] e H rfl
@[simp] def f32o11 : List IOper := [
  ⟨(some 41), .load true 3 (.t 2), none, none⟩,
  ⟨(some 42), .call (.c (.fn 28 [])) [(.t 41)], none, none⟩,
  ⟨none, .store 3 (.t 4) (.t 42), none, none⟩]
def f32r11 : IC := .reg false [] f32o11 [4]
@[simp] theorem f32r11_run (tbl : TB) (fin : Fin) (K : List Fr) (e : Env) (H : List AO) : run tbl fin K f32r11 e H = regK tbl fin K [] f32o11 [4] e H := run_regK tbl fin K false [] f32o11 [4] e H rfl
@[simp] def f32o12 : List IOper := [
  ⟨(some 43), .load true 3 (.t 2), none, none⟩,
  ⟨(some 44), .call (.c (.fn 30 [])) [(.t 43)], none, none⟩,
  ⟨none, .store 3 (.t 4) (.t 44), none, none⟩]
def f32r12 : IC := .reg false [] f32o12 [4]
@[simp] theorem f32r12_run (tbl : TB) (fin : Fin) (K : List Fr) (e : Env) (H : List AO) : run tbl fin K f32r12 e H = regK tbl fin K [] f32o12 [4] e H := run_regK tbl fin K false [] f32o12 [4] e H rfl
def f32body : IC := (.seq f32r0 (.seq (.seq f32r1 (.block 0 (.seq f32r2 (.cond (.t 12) (.seq f32r3 .ret) (.seq f32r4 (.cond (.t 18) (.seq f32r5 (.seq f32r6 .ret)) (.seq f32r7 (.cond (.t 27) (.seq f32r8 (.seq f32r9 .ret)) (.seq f32r10 (.cond (.t 39) (.seq f32r11 .ret) .skip)))))))))) (.seq f32r12 .ret)))
def f32 : IFn := ⟨45, 2, [.cell 4 true 3], f32body⟩
/- 33: strconv.Itoa is met by a contract -/
/- 34: jobshell/signal.stops -/
@[simp] def f34o0 : List IOper := [
  ⟨(some 2), .mv (.c (.bool false)), none, none⟩]
def f34r0 : IC := .reg false [] f34o0 [0]
@[simp] theorem f34r0_run (tbl : TB) (fin : Fin) (K : List Fr) (e : Env) (H : List AO) : run tbl fin K f34r0 e H = regK tbl fin K [] f34o0 [0] e H := run_regK tbl fin K false [] f34o0 [0] e H rfl
@[simp] def f34o1 : List IOper := [
  ⟨(some 3), .mv (.t 0), none, none⟩,
  ⟨(some 4), .bin .eql (.t 3) (.c (.int .i64 19)), none, none⟩,
  ⟨(some 5), .mv (.t 4), none, none⟩,
  ⟨(some 6), .mv (.t 0), (some (5, false)), none⟩,
  ⟨(some 7), .bin .eql (.t 6) (.c (.int .i64 20)), (some (5, false)), none⟩,
  ⟨(some 8), .pick (.t 5) (.c (.bool true)) (.t 7), none, none⟩,
  ⟨(some 9), .mv (.t 8), none, none⟩,
  ⟨(some 10), .mv (.t 0), (some (9, false)), some [10, 9, 0]⟩,
  ⟨(some 11), .bin .eql (.t 10) (.c (.int .i64 4)), (some (9, false)), none⟩,
  ⟨(some 12), .pick (.t 9) (.c (.bool true)) (.t 11), none, none⟩,
  ⟨(some 13), .mv (.t 12), none, none⟩,
  ⟨(some 14), .mv (.t 0), (some (13, false)), none⟩,
  ⟨(some 15), .bin .eql (.t 14) (.c (.int .i64 5)), (some (13, false)), none⟩,
  ⟨(some 16), .pick (.t 13) (.c (.bool true)) (.t 15), none, none⟩,
  ⟨(some 2), .mv (.t 16), none, none⟩]
def f34r1 : IC := .reg false [] f34o1 [2]
@[simp] theorem f34r1_run (tbl : TB) (fin : Fin) (K : List Fr) (e : Env) (H : List AO) : run tbl fin K f34r1 e H = regK tbl fin K [] f34o1 [2] e H := run_regK tbl fin K false [] f34o1 [2] e H rfl
def f34body : IC := (.seq f34r0 (.seq f34r1 .ret))
def f34 : IFn := ⟨17, 1, [.tmp 2], f34body⟩
/- 35: jobshell/signal.known -/
@[simp] def f35o0 : List IOper := [
  ⟨(some 2), .mv (.c (.bool false)), none, none⟩]
def f35r0 : IC := .reg false [] f35o0 [0]
@[simp] theorem f35r0_run (tbl : TB) (fin : Fin) (K : List Fr) (e : Env) (H : List AO) : run tbl fin K f35r0 e H = regK tbl fin K [] f35o0 [0] e H := run_regK tbl fin K false [] f35o0 [0] e H rfl
@[simp] def f35o1 : List IOper := [
  ⟨(some 3), .mv (.t 0), none, none⟩,
  ⟨(some 4), .call (.c (.fn 13 [])) [(.t 3)], none, none⟩,
  ⟨(some 5), .bin .neq (.t 4) (.c (.str [])), none, none⟩,
  ⟨(some 2), .mv (.t 5), none, none⟩]
def f35r1 : IC := .reg false [] f35o1 [2]
@[simp] theorem f35r1_run (tbl : TB) (fin : Fin) (K : List Fr) (e : Env) (H : List AO) : run tbl fin K f35r1 e H = regK tbl fin K [] f35o1 [2] e H := run_regK tbl fin K false [] f35o1 [2] e H rfl
def f35body : IC := (.seq f35r0 (.seq f35r1 .ret))
def f35 : IFn := ⟨6, 1, [.tmp 2], f35body⟩
/- 36: jobshell/jobshellref25.stops -/
@[simp] def f36o0 : List IOper := [
  ⟨(some 2), .mv (.c (.bool false)), none, none⟩]
def f36r0 : IC := .reg false [] f36o0 [0]
@[simp] theorem f36r0_run (tbl : TB) (fin : Fin) (K : List Fr) (e : Env) (H : List AO) : run tbl fin K f36r0 e H = regK tbl fin K [] f36o0 [0] e H := run_regK tbl fin K false [] f36o0 [0] e H rfl
@[simp] def f36o1 : List IOper := [
  ⟨(some 3), .mv (.t 0), none, none⟩,
  ⟨(some 4), .bin .eql (.t 3) (.c (.int .i64 19)), none, none⟩,
  ⟨(some 5), .mv (.t 4), none, none⟩,
  ⟨(some 6), .mv (.t 0), (some (5, false)), none⟩,
  ⟨(some 7), .bin .eql (.t 6) (.c (.int .i64 20)), (some (5, false)), none⟩,
  ⟨(some 8), .pick (.t 5) (.c (.bool true)) (.t 7), none, none⟩,
  ⟨(some 9), .mv (.t 8), none, none⟩,
  ⟨(some 10), .mv (.t 0), (some (9, false)), some [10, 9, 0]⟩,
  ⟨(some 11), .bin .eql (.t 10) (.c (.int .i64 4)), (some (9, false)), none⟩,
  ⟨(some 12), .pick (.t 9) (.c (.bool true)) (.t 11), none, none⟩,
  ⟨(some 13), .mv (.t 12), none, none⟩,
  ⟨(some 14), .mv (.t 0), (some (13, false)), none⟩,
  ⟨(some 15), .bin .eql (.t 14) (.c (.int .i64 5)), (some (13, false)), none⟩,
  ⟨(some 16), .pick (.t 13) (.c (.bool true)) (.t 15), none, none⟩,
  ⟨(some 2), .mv (.t 16), none, none⟩]
def f36r1 : IC := .reg false [] f36o1 [2]
@[simp] theorem f36r1_run (tbl : TB) (fin : Fin) (K : List Fr) (e : Env) (H : List AO) : run tbl fin K f36r1 e H = regK tbl fin K [] f36o1 [2] e H := run_regK tbl fin K false [] f36o1 [2] e H rfl
def f36body : IC := (.seq f36r0 (.seq f36r1 .ret))
def f36 : IFn := ⟨17, 1, [.tmp 2], f36body⟩
/- 37: jobshell/jobshellref25.list -/
@[simp] def f37o0 : List IOper := [
  ⟨(some 2), .mv (.c (.bool false)), none, none⟩]
def f37r0 : IC := .reg false [] f37o0 [0]
@[simp] theorem f37r0_run (tbl : TB) (fin : Fin) (K : List Fr) (e : Env) (H : List AO) : run tbl fin K f37r0 e H = regK tbl fin K [] f37o0 [0] e H := run_regK tbl fin K false [] f37o0 [0] e H rfl
@[simp] def f37o1 : List IOper := [
  ⟨(some 3), .mv (.c (.int .i64 0)), none, none⟩]
def f37r1 : IC := .reg false [] f37o1 [0, 3]
@[simp] theorem f37r1_run (tbl : TB) (fin : Fin) (K : List Fr) (e : Env) (H : List AO) : run tbl fin K f37r1 e H = regK tbl fin K [] f37o1 [0, 3] e H := run_regK tbl fin K false [] f37o1 [0, 3] e H rfl
@[simp] def f37o2 : List IOper := [
  ⟨(some 4), .mv (.t 3), none, none⟩,
  ⟨(some 5), .mv (.t 0), none, none⟩,
  ⟨(some 6), .len (.t 5), none, none⟩,
  ⟨(some 7), .bin .lss (.t 4) (.t 6), none, none⟩]
def f37r2 : IC := .reg false [] f37o2 [7, 0, 3]
@[simp] theorem f37r2_run (tbl : TB) (fin : Fin) (K : List Fr) (e : Env) (H : List AO) : run tbl fin K f37r2 e H = regK tbl fin K [] f37o2 [7, 0, 3] e H := run_regK tbl fin K false [] f37o2 [7, 0, 3] e H rfl
@[simp] def f37o3 : List IOper := [
  ⟨(some 10), .mv (.t 0), none, none⟩,
  ⟨(some 11), .mv (.t 3), none, none⟩,
  ⟨(some 12), .idx 1 (.t 10) (.t 11), none, none⟩,
  ⟨(some 13), .load false 1 (.t 12), none, none⟩,
  ⟨(some 14), .call (.c (.fn 14 [])) [(.t 13)], none, none⟩,
  ⟨(some 15), .bin .eql (.t 14) (.c (.str [])), none, none⟩,
  ⟨(some 16), .mv (.t 15), none, none⟩,
  ⟨(some 17), .mv (.t 3), (some (16, false)), none⟩,
  ⟨(some 18), .bin .gtr (.t 17) (.c (.int .i64 0)), (some (16, false)), none⟩,
  ⟨(some 19), .mv (.t 18), (some (16, false)), none⟩,
  ⟨(some 20), .mv (.t 0), (some (19, true)), none⟩,
  ⟨(some 21), .mv (.t 3), (some (19, true)), none⟩,
  ⟨(some 22), .idx 1 (.t 20) (.t 21), (some (19, true)), none⟩,
  ⟨(some 23), .load false 1 (.t 22), (some (19, true)), none⟩,
  ⟨(some 24), .mv (.t 0), (some (19, true)), none⟩,
  ⟨(some 25), .mv (.t 3), (some (19, true)), none⟩,
  ⟨(some 26), .bin .sub (.t 25) (.c (.int .i64 1)), (some (19, true)), none⟩,
  ⟨(some 27), .idx 1 (.t 24) (.t 26), (some (19, true)), none⟩,
  ⟨(some 28), .load false 1 (.t 27), (some (19, true)), none⟩,
  ⟨(some 29), .bin .leq (.t 23) (.t 28), (some (19, true)), none⟩,
  ⟨(some 30), .pick (.t 19) (.t 29) (.c (.bool false)), (some (16, false)), none⟩,
  ⟨(some 31), .pick (.t 16) (.c (.bool true)) (.t 30), none, none⟩]
def f37r3 : IC := .reg true [] f37o3 [31, 0, 3]
@[simp] theorem f37r3_run (tbl : TB) (fin : Fin) (K : List Fr) (e : Env) (H : List AO) : run tbl fin K f37r3 e H = regK tbl fin K [] f37o3 [31, 0, 3] e H := run_regK tbl fin K true [] f37o3 [31, 0, 3] e H rfl
@[simp] def f37o4 : List IOper := [
  ⟨(some 2), .mv (.c (.bool false)), none, none⟩]
def f37r4 : IC := .reg false [] f37o4 [2]
@[simp] theorem f37r4_run (tbl : TB) (fin : Fin) (K : List Fr) (e : Env) (H : List AO) : run tbl fin K f37r4 e H = regK tbl fin K [] f37o4 [2] e H := run_regK tbl fin K false [] f37o4 [2] e H rfl
@[simp] def f37o5 : List IOper := [
  ⟨(some 8), .mv (.t 3), none, none⟩,
  ⟨(some 9), .bin .add (.t 8) (.c (.int .i64 1)), none, none⟩,
  ⟨(some 3), .mv (.t 9), none, none⟩]
def f37r5 : IC := .reg false [] f37o5 [0, 3]
@[simp] theorem f37r5_run (tbl : TB) (fin : Fin) (K : List Fr) (e : Env) (H : List AO) : run tbl fin K f37r5 e H = regK tbl fin K [] f37o5 [0, 3] e H := run_regK tbl fin K false [] f37o5 [0, 3] e H rfl
def f37b6 : IC := (.seq (.seq f37r2 (.cond (.t 7) .skip (.exit 0))) (.seq (.block 1 (.seq f37r3 (.cond (.t 31) (.seq f37r4 .ret) .skip))) f37r5))
theorem f37b6_eq : f37b6 = (.seq (.seq f37r2 (.cond (.t 7) .skip (.exit 0))) (.seq (.block 1 (.seq f37r3 (.cond (.t 31) (.seq f37r4 .ret) .skip))) f37r5)) := rfl
@[simp] def f37o7 : List IOper := [
  ⟨(some 2), .mv (.c (.bool true)), none, none⟩]
def f37r7 : IC := .reg false [] f37o7 [2]
@[simp] theorem f37r7_run (tbl : TB) (fin : Fin) (K : List Fr) (e : Env) (H : List AO) : run tbl fin K f37r7 e H = regK tbl fin K [] f37o7 [2] e H := run_regK tbl fin K false [] f37o7 [2] e H rfl
def f37body : IC := (.seq f37r0 (.seq (.seq f37r1 (.block 0 (.loop [0, 3] f37b6))) (.seq f37r7 .ret)))
def f37 : IFn := ⟨32, 1, [.tmp 2], f37body⟩
/- 38: slices.Min[[]int,int] -/
@[simp] def f38o0 : List IOper := [
  ⟨(some 2), .mv (.c (.int .i64 0)), none, none⟩]
def f38r0 : IC := .reg false [] f38o0 [0]
@[simp] theorem f38r0_run (tbl : TB) (fin : Fin) (K : List Fr) (e : Env) (H : List AO) : run tbl fin K f38r0 e H = regK tbl fin K [] f38o0 [0] e H := run_regK tbl fin K false [] f38o0 [0] e H rfl
@[simp] def f38o1 : List IOper := [
  ⟨(some 5), .mv (.t 0), none, none⟩,
  ⟨(some 6), .len (.t 5), none, none⟩,
  ⟨(some 7), .bin .lss (.t 6) (.c (.int .i64 1)), none, none⟩]
def f38r1 : IC := .reg false [] f38o1 [7, 0]
@[simp] theorem f38r1_run (tbl : TB) (fin : Fin) (K : List Fr) (e : Env) (H : List AO) : run tbl fin K f38r1 e H = regK tbl fin K [] f38o1 [7, 0] e H := run_regK tbl fin K false [] f38o1 [7, 0] e H rfl
@[simp] def f38o2 : List IOper := [
  ⟨(some 8), .bad, none, none⟩,
  ⟨none, .bad, none, none⟩]
def f38r2 : IC := .reg false [] f38o2 [0]
@[simp] theorem f38r2_run (tbl : TB) (fin : Fin) (K : List Fr) (e : Env) (H : List AO) : run tbl fin K f38r2 e H = regK tbl fin K [] f38o2 [0] e H := run_regK tbl fin K false [] f38o2 [0] e H rfl
@[simp] def f38o3 : List IOper := [
  ⟨(some 9), .mv (.t 0), none, none⟩,
  ⟨(some 10), .idx 1 (.t 9) (.c (.int .i64 0)), none, none⟩,
  ⟨(some 11), .load false 1 (.t 10), none, none⟩,
  ⟨(some 3), .mv (.t 11), none, none⟩]
def f38r3 : IC := .reg false [] f38o3 [3, 0]
@[simp] theorem f38r3_run (tbl : TB) (fin : Fin) (K : List Fr) (e : Env) (H : List AO) : run tbl fin K f38r3 e H = regK tbl fin K [] f38o3 [3, 0] e H := run_regK tbl fin K false [] f38o3 [3, 0] e H rfl
@[simp] def f38o4 : List IOper := [
  ⟨(some 4), .mv (.c (.int .i64 1)), none, none⟩]
def f38r4 : IC := .reg false [] f38o4 [3, 4, 0]
@[simp] theorem f38r4_run (tbl : TB) (fin : Fin) (K : List Fr) (e : Env) (H : List AO) : run tbl fin K f38r4 e H = regK tbl fin K [] f38o4 [3, 4, 0] e H := run_regK tbl fin K false [] f38o4 [3, 4, 0] e H rfl
@[simp] def f38o5 : List IOper := [
  ⟨(some 12), .mv (.t 4), none, none⟩,
  ⟨(some 13), .mv (.t 0), none, none⟩,
  ⟨(some 14), .len (.t 13), none, none⟩,
  ⟨(some 15), .bin .lss (.t 12) (.t 14), none, none⟩]
def f38r5 : IC := .reg false [] f38o5 [15, 3, 4, 0]
@[simp] theorem f38r5_run (tbl : TB) (fin : Fin) (K : List Fr) (e : Env) (H : List AO) : run tbl fin K f38r5 e H = regK tbl fin K [] f38o5 [15, 3, 4, 0] e H := run_regK tbl fin K false [] f38o5 [15, 3, 4, 0] e H rfl
@[simp] def f38o6 : List IOper := [
  ⟨(some 18), .mv (.t 3), none, none⟩,
  ⟨(some 19), .mv (.t 0), none, none⟩,
  ⟨(some 20), .mv (.t 4), none, none⟩,
  ⟨(some 21), .idx 1 (.t 19) (.t 20), none, none⟩,
  ⟨(some 22), .load false 1 (.t 21), none, none⟩,
  ⟨(some 23), .mn (.t 18) (.t 22), none, none⟩,
  ⟨(some 3), .mv (.t 23), none, none⟩]
def f38r6 : IC := .reg false [] f38o6 [4, 3, 0]
@[simp] theorem f38r6_run (tbl : TB) (fin : Fin) (K : List Fr) (e : Env) (H : List AO) : run tbl fin K f38r6 e H = regK tbl fin K [] f38o6 [4, 3, 0] e H := run_regK tbl fin K false [] f38o6 [4, 3, 0] e H rfl
@[simp] def f38o7 : List IOper := [
  ⟨(some 16), .mv (.t 4), none, none⟩,
  ⟨(some 17), .bin .add (.t 16) (.c (.int .i64 1)), none, none⟩,
  ⟨(some 4), .mv (.t 17), none, none⟩]
def f38r7 : IC := .reg false [] f38o7 [3, 4, 0]
@[simp] theorem f38r7_run (tbl : TB) (fin : Fin) (K : List Fr) (e : Env) (H : List AO) : run tbl fin K f38r7 e H = regK tbl fin K [] f38o7 [3, 4, 0] e H := run_regK tbl fin K false [] f38o7 [3, 4, 0] e H rfl
def f38b8 : IC := (.seq (.seq f38r5 (.cond (.t 15) .skip (.exit 0))) (.seq (.block 1 f38r6) f38r7))
theorem f38b8_eq : f38b8 = (.seq (.seq f38r5 (.cond (.t 15) .skip (.exit 0))) (.seq (.block 1 f38r6) f38r7)) := rfl
@[simp] def f38o9 : List IOper := [
  ⟨(some 24), .mv (.t 3), none, none⟩,
  ⟨(some 2), .mv (.t 24), none, none⟩]
def f38r9 : IC := .reg false [] f38o9 [2]
@[simp] theorem f38r9_run (tbl : TB) (fin : Fin) (K : List Fr) (e : Env) (H : List AO) : run tbl fin K f38r9 e H = regK tbl fin K [] f38o9 [2] e H := run_regK tbl fin K false [] f38o9 [2] e H rfl
def f38body : IC := (.seq f38r0 (.seq (.seq f38r1 (.cond (.t 7) f38r2 .skip)) (.seq f38r3 (.seq (.seq f38r4 (.block 0 (.loop [3, 4, 0] f38b8))) (.seq f38r9 .ret)))))
def f38 : IFn := ⟨25, 1, [.tmp 2], f38body⟩
/- 39: slices.Contains[[]int,int] -/
@[simp] def f39o0 : List IOper := [
  ⟨(some 4), .mv (.c (.bool false)), none, none⟩]
def f39r0 : IC := .reg false [] f39o0 [0, 1]
@[simp] theorem f39r0_run (tbl : TB) (fin : Fin) (K : List Fr) (e : Env) (H : List AO) : run tbl fin K f39r0 e H = regK tbl fin K [] f39o0 [0, 1] e H := run_regK tbl fin K false [] f39o0 [0, 1] e H rfl
@[simp] def f39o1 : List IOper := [
  ⟨(some 5), .mv (.t 0), none, none⟩,
  ⟨(some 6), .mv (.t 1), none, none⟩,
  ⟨(some 7), .call (.c (.fn 51 [])) [(.t 5), (.t 6)], none, none⟩,
  ⟨(some 8), .bin .geq (.t 7) (.c (.int .i64 0)), none, none⟩,
  ⟨(some 4), .mv (.t 8), none, none⟩]
def f39r1 : IC := .reg false [] f39o1 [4]
@[simp] theorem f39r1_run (tbl : TB) (fin : Fin) (K : List Fr) (e : Env) (H : List AO) : run tbl fin K f39r1 e H = regK tbl fin K [] f39o1 [4] e H := run_regK tbl fin K false [] f39o1 [4] e H rfl
def f39body : IC := (.seq f39r0 (.seq f39r1 .ret))
def f39 : IFn := ⟨9, 2, [.tmp 4], f39body⟩
/- 40: jobshell/signal.clone -/
@[simp] def f40o0 : List IOper := [
  ⟨(some 1), .box 30 3 (.t 0), none, none⟩,
  ⟨(some 2), .new 30 3 (.agg [.e0, .e0, .e0]), none, none⟩]
def f40r0 : IC := .reg false [] f40o0 [1, 2]
@[simp] theorem f40r0_run (tbl : TB) (fin : Fin) (K : List Fr) (e : Env) (H : List AO) : run tbl fin K f40r0 e H = regK tbl fin K [] f40o0 [1, 2] e H := run_regK tbl fin K false [] f40o0 [1, 2] e H rfl
@[simp] def f40o1 : List IOper := [
  ⟨(some 3), .fld 0 (.t 1), none, none⟩,
  ⟨(some 4), .load false 1 (.t 3), none, none⟩,
  ⟨(some 5), .call (.c (.fn 52 [])) [(.t 4)], none, none⟩,
  ⟨(some 6), .fld 1 (.t 1), none, none⟩,
  ⟨(some 7), .load false 1 (.t 6), none, none⟩,
  ⟨(some 8), .call (.c (.fn 52 [])) [(.t 7)], none, none⟩,
  ⟨(some 9), .fld 2 (.t 1), none, none⟩,
  ⟨(some 10), .load false 1 (.t 9), none, none⟩,
  ⟨(some 11), .call (.c (.fn 52 [])) [(.t 10)], none, none⟩,
  ⟨(some 12), .build [.e0, .e0, .e0] [(0, 1, (.t 5)), (1, 1, (.t 8)), (2, 1, (.t 11))], none, none⟩,
  ⟨none, .store 3 (.t 2) (.t 12), none, none⟩]
def f40r1 : IC := .reg true [] f40o1 [2]
@[simp] theorem f40r1_run (tbl : TB) (fin : Fin) (K : List Fr) (e : Env) (H : List AO) : run tbl fin K f40r1 e H = regK tbl fin K [] f40o1 [2] e H := run_regK tbl fin K true [] f40o1 [2] e H rfl
def f40body : IC := (.seq f40r0 (.seq f40r1 .ret))
def f40 : IFn := ⟨13, 1, [.cell 2 true 3], f40body⟩
/- 41: jobshell/signal.without -/
@[simp] def f41o0 : List IOper := [
  ⟨(some 3), .box 3 1 (.t 1), none, none⟩,
  ⟨(some 4), .nilrow 3 1, none, none⟩]
def f41r0 : IC := .reg false [] f41o0 [0, 3]
@[simp] theorem f41r0_run (tbl : TB) (fin : Fin) (K : List Fr) (e : Env) (H : List AO) : run tbl fin K f41r0 e H = regK tbl fin K [] f41o0 [0, 3] e H := run_regK tbl fin K false [] f41o0 [0, 3] e H rfl
@[simp] def f41o1 : List IOper := [
  ⟨(some 5), .mv (.t 0), none, none⟩,
  ⟨(some 6), .mkfn 53 [(.t 3)], none, none⟩,
  ⟨(some 7), .ocall (.c (.fn 44 [])) [(.t 5), (.t 6)], none, none⟩,
  ⟨(some 4), .mv (.t 7), none, none⟩]
def f41r1 : IC := .reg false [] f41o1 [4]
@[simp] theorem f41r1_run (tbl : TB) (fin : Fin) (K : List Fr) (e : Env) (H : List AO) : run tbl fin K f41r1 e H = regK tbl fin K [] f41o1 [4] e H := run_regK tbl fin K false [] f41o1 [4] e H rfl
def f41body : IC := (.seq f41r0 (.seq f41r1 .ret))
def f41 : IFn := ⟨8, 2, [.tmp 4], f41body⟩
/- 42: jobshell/jobshellref25.drop -/
@[simp] def f42o0 : List IOper := [
  ⟨(some 4), .nilrow 3 1, none, none⟩]
def f42r0 : IC := .reg false [] f42o0 [1, 0]
@[simp] theorem f42r0_run (tbl : TB) (fin : Fin) (K : List Fr) (e : Env) (H : List AO) : run tbl fin K f42r0 e H = regK tbl fin K [] f42o0 [1, 0] e H := run_regK tbl fin K false [] f42o0 [1, 0] e H rfl
@[simp] def f42o1 : List IOper := [
  ⟨(some 5), .nilrow 3 1, none, none⟩]
def f42r1 : IC := .reg false [] f42o1 [5, 1, 0]
@[simp] theorem f42r1_run (tbl : TB) (fin : Fin) (K : List Fr) (e : Env) (H : List AO) : run tbl fin K f42r1 e H = regK tbl fin K [] f42o1 [5, 1, 0] e H := run_regK tbl fin K false [] f42o1 [5, 1, 0] e H rfl
@[simp] def f42o2 : List IOper := [
  ⟨(some 6), .mv (.c (.int .i64 0)), none, none⟩]
def f42r2 : IC := .reg false [] f42o2 [5, 6, 1, 0]
@[simp] theorem f42r2_run (tbl : TB) (fin : Fin) (K : List Fr) (e : Env) (H : List AO) : run tbl fin K f42r2 e H = regK tbl fin K [] f42o2 [5, 6, 1, 0] e H := run_regK tbl fin K false [] f42o2 [5, 6, 1, 0] e H rfl
@[simp] def f42o3 : List IOper := [
  ⟨(some 7), .mv (.t 6), none, none⟩,
  ⟨(some 8), .mv (.t 0), none, none⟩,
  ⟨(some 9), .len (.t 8), none, none⟩,
  ⟨(some 10), .bin .lss (.t 7) (.t 9), none, none⟩]
def f42r3 : IC := .reg false [] f42o3 [10, 5, 6, 1, 0]
@[simp] theorem f42r3_run (tbl : TB) (fin : Fin) (K : List Fr) (e : Env) (H : List AO) : run tbl fin K f42r3 e H = regK tbl fin K [] f42o3 [10, 5, 6, 1, 0] e H := run_regK tbl fin K false [] f42o3 [10, 5, 6, 1, 0] e H rfl
@[simp] def f42o4 : List IOper := [
  ⟨(some 13), .mv (.t 0), none, none⟩,
  ⟨(some 14), .mv (.t 6), none, none⟩,
  ⟨(some 15), .idx 1 (.t 13) (.t 14), none, none⟩,
  ⟨(some 16), .load false 1 (.t 15), none, none⟩,
  ⟨(some 17), .mv (.t 1), none, none⟩,
  ⟨(some 18), .bin .neq (.t 16) (.t 17), none, none⟩]
def f42r4 : IC := .reg false [] f42o4 [18, 5, 6, 1, 0]
@[simp] theorem f42r4_run (tbl : TB) (fin : Fin) (K : List Fr) (e : Env) (H : List AO) : run tbl fin K f42r4 e H = regK tbl fin K [] f42o4 [18, 5, 6, 1, 0] e H := run_regK tbl fin K false [] f42o4 [18, 5, 6, 1, 0] e H rfl
@[simp] def f42o5 : List IOper := [
  ⟨(some 19), .mv (.t 5), none, none⟩,
  ⟨(some 20), .mv (.t 0), none, none⟩,
  ⟨(some 21), .mv (.t 6), none, none⟩,
  ⟨(some 22), .idx 1 (.t 20) (.t 21), none, none⟩,
  ⟨(some 23), .load false 1 (.t 22), none, none⟩,
  ⟨(some 24), .mkimm 1 1 (.int .i64 0) [(0, (.t 23))], none, none⟩,
  ⟨(some 25), .app 3 1 (.t 19) (.t 24), none, none⟩,
  ⟨(some 5), .mv (.t 25), none, none⟩]
def f42r5 : IC := .reg false [] f42o5 [6, 5, 1, 0]
@[simp] theorem f42r5_run (tbl : TB) (fin : Fin) (K : List Fr) (e : Env) (H : List AO) : run tbl fin K f42r5 e H = regK tbl fin K [] f42o5 [6, 5, 1, 0] e H := run_regK tbl fin K false [] f42o5 [6, 5, 1, 0] e H rfl
@[simp] def f42o6 : List IOper := [
  ⟨(some 11), .mv (.t 6), none, none⟩,
  ⟨(some 12), .bin .add (.t 11) (.c (.int .i64 1)), none, none⟩,
  ⟨(some 6), .mv (.t 12), none, none⟩]
def f42r6 : IC := .reg false [] f42o6 [5, 6, 1, 0]
@[simp] theorem f42r6_run (tbl : TB) (fin : Fin) (K : List Fr) (e : Env) (H : List AO) : run tbl fin K f42r6 e H = regK tbl fin K [] f42o6 [5, 6, 1, 0] e H := run_regK tbl fin K false [] f42o6 [5, 6, 1, 0] e H rfl
def f42b7 : IC := (.seq (.seq f42r3 (.cond (.t 10) .skip (.exit 0))) (.seq (.block 1 (.seq f42r4 (.cond (.t 18) f42r5 .skip))) f42r6))
theorem f42b7_eq : f42b7 = (.seq (.seq f42r3 (.cond (.t 10) .skip (.exit 0))) (.seq (.block 1 (.seq f42r4 (.cond (.t 18) f42r5 .skip))) f42r6)) := rfl
@[simp] def f42o8 : List IOper := [
  ⟨(some 26), .mv (.t 5), none, none⟩,
  ⟨(some 4), .mv (.t 26), none, none⟩]
def f42r8 : IC := .reg false [] f42o8 [4]
@[simp] theorem f42r8_run (tbl : TB) (fin : Fin) (K : List Fr) (e : Env) (H : List AO) : run tbl fin K f42r8 e H = regK tbl fin K [] f42o8 [4] e H := run_regK tbl fin K false [] f42o8 [4] e H rfl
def f42body : IC := (.seq f42r0 (.seq f42r1 (.seq (.seq f42r2 (.block 0 (.loop [5, 6, 1, 0] f42b7))) (.seq f42r8 .ret))))
def f42 : IFn := ⟨27, 2, [.tmp 4], f42body⟩
/- 43: jobshell/jobshellref25.numbers -/
@[simp] def f43o0 : List IOper := [
  ⟨(some 4), .mv (.c (.bool false)), none, none⟩]
def f43r0 : IC := .reg false [] f43o0 [1, 0]
@[simp] theorem f43r0_run (tbl : TB) (fin : Fin) (K : List Fr) (e : Env) (H : List AO) : run tbl fin K f43r0 e H = regK tbl fin K [] f43o0 [1, 0] e H := run_regK tbl fin K false [] f43o0 [1, 0] e H rfl
@[simp] def f43o1 : List IOper := [
  ⟨(some 6), .mv (.t 0), none, none⟩,
  ⟨(some 7), .len (.t 6), none, none⟩,
  ⟨(some 8), .mv (.t 1), none, none⟩,
  ⟨(some 9), .len (.t 8), none, none⟩,
  ⟨(some 10), .bin .neq (.t 7) (.t 9), none, none⟩]
def f43r1 : IC := .reg false [] f43o1 [10, 1, 0]
@[simp] theorem f43r1_run (tbl : TB) (fin : Fin) (K : List Fr) (e : Env) (H : List AO) : run tbl fin K f43r1 e H = regK tbl fin K [] f43o1 [10, 1, 0] e H := run_regK tbl fin K false [] f43o1 [10, 1, 0] e H rfl
@[simp] def f43o2 : List IOper := [
  ⟨(some 4), .mv (.c (.bool false)), none, none⟩]
def f43r2 : IC := .reg false [] f43o2 [4]
@[simp] theorem f43r2_run (tbl : TB) (fin : Fin) (K : List Fr) (e : Env) (H : List AO) : run tbl fin K f43r2 e H = regK tbl fin K [] f43o2 [4] e H := run_regK tbl fin K false [] f43o2 [4] e H rfl
@[simp] def f43o3 : List IOper := [
  ⟨(some 5), .mv (.c (.int .i64 0)), none, none⟩]
def f43r3 : IC := .reg false [] f43o3 [0, 1, 5]
@[simp] theorem f43r3_run (tbl : TB) (fin : Fin) (K : List Fr) (e : Env) (H : List AO) : run tbl fin K f43r3 e H = regK tbl fin K [] f43o3 [0, 1, 5] e H := run_regK tbl fin K false [] f43o3 [0, 1, 5] e H rfl
@[simp] def f43o4 : List IOper := [
  ⟨(some 11), .mv (.t 5), none, none⟩,
  ⟨(some 12), .mv (.t 0), none, none⟩,
  ⟨(some 13), .len (.t 12), none, none⟩,
  ⟨(some 14), .bin .lss (.t 11) (.t 13), none, none⟩]
def f43r4 : IC := .reg false [] f43o4 [14, 1, 0, 5]
@[simp] theorem f43r4_run (tbl : TB) (fin : Fin) (K : List Fr) (e : Env) (H : List AO) : run tbl fin K f43r4 e H = regK tbl fin K [] f43o4 [14, 1, 0, 5] e H := run_regK tbl fin K false [] f43o4 [14, 1, 0, 5] e H rfl
@[simp] def f43o5 : List IOper := [
  ⟨(some 17), .mv (.t 0), none, none⟩,
  ⟨(some 18), .mv (.t 5), none, none⟩,
  ⟨(some 19), .idx 1 (.t 17) (.t 18), none, none⟩,
  ⟨(some 20), .load false 1 (.t 19), none, none⟩,
  ⟨(some 21), .mv (.t 1), none, none⟩,
  ⟨(some 22), .mv (.t 5), none, none⟩,
  ⟨(some 23), .idx 1 (.t 21) (.t 22), none, none⟩,
  ⟨(some 24), .load false 1 (.t 23), none, none⟩,
  ⟨(some 25), .bin .neq (.t 20) (.t 24), none, none⟩]
def f43r5 : IC := .reg true [] f43o5 [25, 1, 0, 5]
@[simp] theorem f43r5_run (tbl : TB) (fin : Fin) (K : List Fr) (e : Env) (H : List AO) : run tbl fin K f43r5 e H = regK tbl fin K [] f43o5 [25, 1, 0, 5] e H := run_regK tbl fin K true [] f43o5 [25, 1, 0, 5] e H rfl
@[simp] def f43o6 : List IOper := [
  ⟨(some 4), .mv (.c (.bool false)), none, none⟩]
def f43r6 : IC := .reg false [] f43o6 [4]
@[simp] theorem f43r6_run (tbl : TB) (fin : Fin) (K : List Fr) (e : Env) (H : List AO) : run tbl fin K f43r6 e H = regK tbl fin K [] f43o6 [4] e H := run_regK tbl fin K false [] f43o6 [4] e H rfl
@[simp] def f43o7 : List IOper := [
  ⟨(some 15), .mv (.t 5), none, none⟩,
  ⟨(some 16), .bin .add (.t 15) (.c (.int .i64 1)), none, none⟩,
  ⟨(some 5), .mv (.t 16), none, none⟩]
def f43r7 : IC := .reg false [] f43o7 [0, 1, 5]
@[simp] theorem f43r7_run (tbl : TB) (fin : Fin) (K : List Fr) (e : Env) (H : List AO) : run tbl fin K f43r7 e H = regK tbl fin K [] f43o7 [0, 1, 5] e H := run_regK tbl fin K false [] f43o7 [0, 1, 5] e H rfl
def f43b8 : IC := (.seq (.seq f43r4 (.cond (.t 14) .skip (.exit 0))) (.seq (.block 1 (.seq f43r5 (.cond (.t 25) (.seq f43r6 .ret) .skip))) f43r7))
theorem f43b8_eq : f43b8 = (.seq (.seq f43r4 (.cond (.t 14) .skip (.exit 0))) (.seq (.block 1 (.seq f43r5 (.cond (.t 25) (.seq f43r6 .ret) .skip))) f43r7)) := rfl
@[simp] def f43o9 : List IOper := [
  ⟨(some 4), .mv (.c (.bool true)), none, none⟩]
def f43r9 : IC := .reg false [] f43o9 [4]
@[simp] theorem f43r9_run (tbl : TB) (fin : Fin) (K : List Fr) (e : Env) (H : List AO) : run tbl fin K f43r9 e H = regK tbl fin K [] f43o9 [4] e H := run_regK tbl fin K false [] f43o9 [4] e H rfl
def f43body : IC := (.seq f43r0 (.seq (.seq f43r1 (.cond (.t 10) (.seq f43r2 .ret) .skip)) (.seq (.seq f43r3 (.block 0 (.loop [0, 1, 5] f43b8))) (.seq f43r9 .ret))))
def f43 : IFn := ⟨26, 2, [.tmp 4], f43body⟩
/- 44: slices.DeleteFunc[[]int,int] -/
@[simp] def f44o0 : List IOper := [
  ⟨(some 4), .nilrow 3 1, none, none⟩]
def f44r0 : IC := .reg false [] f44o0 [1, 0]
@[simp] theorem f44r0_run (tbl : TB) (fin : Fin) (K : List Fr) (e : Env) (H : List AO) : run tbl fin K f44r0 e H = regK tbl fin K [] f44o0 [1, 0] e H := run_regK tbl fin K false [] f44o0 [1, 0] e H rfl
@[simp] def f44o1 : List IOper := [
  ⟨(some 8), .mv (.t 0), none, none⟩,
  ⟨(some 9), .mv (.t 1), none, none⟩,
  ⟨(some 10), .ocall (.c (.fn 54 [])) [(.t 8), (.t 9)], none, none⟩,
  ⟨(some 5), .mv (.t 10), none, none⟩]
def f44r1 : IC := .reg false [] f44o1 [1, 5, 0]
@[simp] theorem f44r1_run (tbl : TB) (fin : Fin) (K : List Fr) (e : Env) (H : List AO) : run tbl fin K f44r1 e H = regK tbl fin K [] f44o1 [1, 5, 0] e H := run_regK tbl fin K false [] f44o1 [1, 5, 0] e H rfl
@[simp] def f44o2 : List IOper := [
  ⟨(some 11), .mv (.t 5), none, none⟩,
  ⟨(some 12), .bin .eql (.t 11) (.c (.int .i64 (-1))), none, none⟩]
def f44r2 : IC := .reg false [] f44o2 [12, 1, 5, 0]
@[simp] theorem f44r2_run (tbl : TB) (fin : Fin) (K : List Fr) (e : Env) (H : List AO) : run tbl fin K f44r2 e H = regK tbl fin K [] f44o2 [12, 1, 5, 0] e H := run_regK tbl fin K false [] f44o2 [12, 1, 5, 0] e H rfl
@[simp] def f44o3 : List IOper := [
  ⟨(some 13), .mv (.t 0), none, none⟩,
  ⟨(some 4), .mv (.t 13), none, none⟩]
def f44r3 : IC := .reg false [] f44o3 [4]
@[simp] theorem f44r3_run (tbl : TB) (fin : Fin) (K : List Fr) (e : Env) (H : List AO) : run tbl fin K f44r3 e H = regK tbl fin K [] f44o3 [4] e H := run_regK tbl fin K false [] f44o3 [4] e H rfl
@[simp] def f44o4 : List IOper := [
  ⟨(some 14), .mv (.t 5), none, none⟩,
  ⟨(some 15), .bin .add (.t 14) (.c (.int .i64 1)), none, none⟩,
  ⟨(some 6), .mv (.t 15), none, none⟩]
def f44r4 : IC := .reg false [] f44o4 [5, 6, 1, 0]
@[simp] theorem f44r4_run (tbl : TB) (fin : Fin) (K : List Fr) (e : Env) (H : List AO) : run tbl fin K f44r4 e H = regK tbl fin K [] f44o4 [5, 6, 1, 0] e H := run_regK tbl fin K false [] f44o4 [5, 6, 1, 0] e H rfl
@[simp] def f44o5 : List IOper := [
  ⟨(some 16), .mv (.t 6), none, none⟩,
  ⟨(some 17), .mv (.t 0), none, none⟩,
  ⟨(some 18), .len (.t 17), none, none⟩,
  ⟨(some 19), .bin .lss (.t 16) (.t 18), none, none⟩]
def f44r5 : IC := .reg false [] f44o5 [19, 5, 6, 1, 0]
@[simp] theorem f44r5_run (tbl : TB) (fin : Fin) (K : List Fr) (e : Env) (H : List AO) : run tbl fin K f44r5 e H = regK tbl fin K [] f44o5 [19, 5, 6, 1, 0] e H := run_regK tbl fin K false [] f44o5 [19, 5, 6, 1, 0] e H rfl
@[simp] def f44o6 : List IOper := [
  ⟨(some 22), .mv (.t 0), none, none⟩,
  ⟨(some 23), .mv (.t 6), none, none⟩,
  ⟨(some 24), .idx 1 (.t 22) (.t 23), none, none⟩,
  ⟨(some 25), .load false 1 (.t 24), none, none⟩,
  ⟨(some 7), .mv (.t 25), none, none⟩]
def f44r6 : IC := .reg false [] f44o6 [7, 5, 6, 1, 0]
@[simp] theorem f44r6_run (tbl : TB) (fin : Fin) (K : List Fr) (e : Env) (H : List AO) : run tbl fin K f44r6 e H = regK tbl fin K [] f44o6 [7, 5, 6, 1, 0] e H := run_regK tbl fin K false [] f44o6 [7, 5, 6, 1, 0] e H rfl
@[simp] def f44o7 : List IOper := [
  ⟨(some 26), .mv (.t 1), none, none⟩,
  ⟨(some 27), .mv (.t 7), none, none⟩,
  ⟨(some 28), .ocall (.t 26) [(.t 27)], none, none⟩,
  ⟨(some 29), .un .not (.t 28), none, none⟩]
def f44r7 : IC := .reg false [] f44o7 [29, 7, 5, 6, 1, 0]
@[simp] theorem f44r7_run (tbl : TB) (fin : Fin) (K : List Fr) (e : Env) (H : List AO) : run tbl fin K f44r7 e H = regK tbl fin K [] f44o7 [29, 7, 5, 6, 1, 0] e H := run_regK tbl fin K false [] f44o7 [29, 7, 5, 6, 1, 0] e H rfl
@[simp] def f44o8 : List IOper := [
  ⟨(some 30), .mv (.t 0), none, none⟩,
  ⟨(some 31), .mv (.t 5), none, none⟩,
  ⟨(some 32), .mv (.t 7), none, none⟩,
  ⟨(some 33), .idx 1 (.t 30) (.t 31), none, none⟩,
  ⟨none, .store 1 (.t 33) (.t 32), none, none⟩]
def f44r8 : IC := .reg false [] f44o8 [5, 6, 1, 0]
@[simp] theorem f44r8_run (tbl : TB) (fin : Fin) (K : List Fr) (e : Env) (H : List AO) : run tbl fin K f44r8 e H = regK tbl fin K [] f44o8 [5, 6, 1, 0] e H := run_regK tbl fin K false [] f44o8 [5, 6, 1, 0] e H rfl
@[simp] def f44o9 : List IOper := [
  ⟨(some 34), .mv (.t 5), none, none⟩,
  ⟨(some 35), .bin .add (.t 34) (.c (.int .i64 1)), none, none⟩,
  ⟨(some 5), .mv (.t 35), none, none⟩]
def f44r9 : IC := .reg false [] f44o9 [6, 5, 1, 0]
@[simp] theorem f44r9_run (tbl : TB) (fin : Fin) (K : List Fr) (e : Env) (H : List AO) : run tbl fin K f44r9 e H = regK tbl fin K [] f44o9 [6, 5, 1, 0] e H := run_regK tbl fin K false [] f44o9 [6, 5, 1, 0] e H rfl
@[simp] def f44o10 : List IOper := [
  ⟨(some 20), .mv (.t 6), none, none⟩,
  ⟨(some 21), .bin .add (.t 20) (.c (.int .i64 1)), none, none⟩,
  ⟨(some 6), .mv (.t 21), none, none⟩]
def f44r10 : IC := .reg false [] f44o10 [5, 6, 1, 0]
@[simp] theorem f44r10_run (tbl : TB) (fin : Fin) (K : List Fr) (e : Env) (H : List AO) : run tbl fin K f44r10 e H = regK tbl fin K [] f44o10 [5, 6, 1, 0] e H := run_regK tbl fin K false [] f44o10 [5, 6, 1, 0] e H rfl
def f44b11 : IC := (.seq (.seq f44r5 (.cond (.t 19) .skip (.exit 0))) (.seq (.block 1 (.seq f44r6 (.seq f44r7 (.cond (.t 29) (.seq f44r8 f44r9) .skip)))) f44r10))
theorem f44b11_eq : f44b11 = (.seq (.seq f44r5 (.cond (.t 19) .skip (.exit 0))) (.seq (.block 1 (.seq f44r6 (.seq f44r7 (.cond (.t 29) (.seq f44r8 f44r9) .skip)))) f44r10)) := rfl
@[simp] def f44o12 : List IOper := [
  ⟨(some 36), .mv (.t 0), none, none⟩,
  ⟨(some 37), .mv (.t 5), none, none⟩,
  ⟨(some 38), .slc 1 (.t 36) (some (.t 37)) none, none, none⟩,
  ⟨none, .clr 1 (.int .i64 0) (.t 38), none, none⟩]
def f44r12 : IC := .reg false [] f44o12 [0, 5]
@[simp] theorem f44r12_run (tbl : TB) (fin : Fin) (K : List Fr) (e : Env) (H : List AO) : run tbl fin K f44r12 e H = regK tbl fin K [] f44o12 [0, 5] e H := run_regK tbl fin K false [] f44o12 [0, 5] e H rfl
@[simp] def f44o13 : List IOper := [
  ⟨(some 39), .mv (.t 0), none, none⟩,
  ⟨(some 40), .mv (.t 5), none, none⟩,
  ⟨(some 41), .slc 1 (.t 39) none (some (.t 40)), none, none⟩,
  ⟨(some 4), .mv (.t 41), none, none⟩]
def f44r13 : IC := .reg false [] f44o13 [4]
@[simp] theorem f44r13_run (tbl : TB) (fin : Fin) (K : List Fr) (e : Env) (H : List AO) : run tbl fin K f44r13 e H = regK tbl fin K [] f44o13 [4] e H := run_regK tbl fin K false [] f44o13 [4] e H rfl
def f44body : IC := (.seq f44r0 (.seq f44r1 (.seq (.seq f44r2 (.cond (.t 12) (.seq f44r3 .ret) .skip)) (.seq (.seq f44r4 (.block 0 (.loop [5, 6, 1, 0] f44b11))) (.seq f44r12 (.seq f44r13 .ret))))))
def f44 : IFn := ⟨42, 2, [.tmp 4], f44body⟩
/- 45: jobshell/signal.with -/
@[simp] def f45o0 : List IOper := [
  ⟨(some 4), .nilrow 3 1, none, none⟩]
def f45r0 : IC := .reg false [] f45o0 [0, 1]
@[simp] theorem f45r0_run (tbl : TB) (fin : Fin) (K : List Fr) (e : Env) (H : List AO) : run tbl fin K f45r0 e H = regK tbl fin K [] f45o0 [0, 1] e H := run_regK tbl fin K false [] f45o0 [0, 1] e H rfl
@[simp] def f45o1 : List IOper := [
  ⟨(some 5), .mv (.c (.int .i64 0)), none, none⟩]
def f45r1 : IC := .reg false [] f45o1 [5, 0, 1]
@[simp] theorem f45r1_run (tbl : TB) (fin : Fin) (K : List Fr) (e : Env) (H : List AO) : run tbl fin K f45r1 e H = regK tbl fin K [] f45o1 [5, 0, 1] e H := run_regK tbl fin K false [] f45o1 [5, 0, 1] e H rfl
@[simp] def f45o2 : List IOper := [
  ⟨(some 6), .mv (.t 5), none, none⟩,
  ⟨(some 7), .mv (.t 0), none, none⟩,
  ⟨(some 8), .len (.t 7), none, none⟩,
  ⟨(some 9), .bin .lss (.t 6) (.t 8), none, none⟩,
  ⟨(some 10), .mv (.t 9), none, none⟩,
  ⟨(some 11), .mv (.t 0), (some (10, true)), none⟩,
  ⟨(some 12), .mv (.t 5), (some (10, true)), none⟩,
  ⟨(some 13), .idx 1 (.t 11) (.t 12), (some (10, true)), some [13, 10, 5, 0, 1]⟩,
  ⟨(some 14), .load false 1 (.t 13), (some (10, true)), none⟩,
  ⟨(some 15), .mv (.t 1), (some (10, true)), none⟩,
  ⟨(some 16), .bin .lss (.t 14) (.t 15), (some (10, true)), none⟩,
  ⟨(some 17), .pick (.t 10) (.t 16) (.c (.bool false)), none, none⟩]
def f45r2 : IC := .reg false [] f45o2 [17, 5, 0, 1]
@[simp] theorem f45r2_run (tbl : TB) (fin : Fin) (K : List Fr) (e : Env) (H : List AO) : run tbl fin K f45r2 e H = regK tbl fin K [] f45o2 [17, 5, 0, 1] e H := run_regK tbl fin K false [] f45o2 [17, 5, 0, 1] e H rfl
@[simp] def f45o3 : List IOper := [
  ⟨(some 18), .mv (.t 5), none, none⟩,
  ⟨(some 19), .bin .add (.t 18) (.c (.int .i64 1)), none, none⟩,
  ⟨(some 5), .mv (.t 19), none, none⟩]
def f45r3 : IC := .reg false [] f45o3 [5, 0, 1]
@[simp] theorem f45r3_run (tbl : TB) (fin : Fin) (K : List Fr) (e : Env) (H : List AO) : run tbl fin K f45r3 e H = regK tbl fin K [] f45o3 [5, 0, 1] e H := run_regK tbl fin K false [] f45o3 [5, 0, 1] e H rfl
def f45b4 : IC := (.seq (.seq f45r2 (.cond (.t 17) .skip (.exit 0))) (.block 1 f45r3))
theorem f45b4_eq : f45b4 = (.seq (.seq f45r2 (.cond (.t 17) .skip (.exit 0))) (.block 1 f45r3)) := rfl
@[simp] def f45o5 : List IOper := [
  ⟨(some 20), .mv (.t 5), none, none⟩,
  ⟨(some 21), .mv (.t 0), none, none⟩,
  ⟨(some 22), .len (.t 21), none, none⟩,
  ⟨(some 23), .bin .lss (.t 20) (.t 22), none, none⟩,
  ⟨(some 24), .mv (.t 23), none, none⟩,
  ⟨(some 25), .mv (.t 0), (some (24, true)), none⟩,
  ⟨(some 26), .mv (.t 5), (some (24, true)), none⟩,
  ⟨(some 27), .idx 1 (.t 25) (.t 26), (some (24, true)), some [27, 24, 1, 5, 0]⟩,
  ⟨(some 28), .load false 1 (.t 27), (some (24, true)), none⟩,
  ⟨(some 29), .mv (.t 1), (some (24, true)), none⟩,
  ⟨(some 30), .bin .eql (.t 28) (.t 29), (some (24, true)), none⟩,
  ⟨(some 31), .pick (.t 24) (.t 30) (.c (.bool false)), none, none⟩]
def f45r5 : IC := .reg false [] f45o5 [31, 1, 5, 0]
@[simp] theorem f45r5_run (tbl : TB) (fin : Fin) (K : List Fr) (e : Env) (H : List AO) : run tbl fin K f45r5 e H = regK tbl fin K [] f45o5 [31, 1, 5, 0] e H := run_regK tbl fin K false [] f45o5 [31, 1, 5, 0] e H rfl
@[simp] def f45o6 : List IOper := [
  ⟨(some 32), .mv (.t 0), none, none⟩,
  ⟨(some 4), .mv (.t 32), none, none⟩]
def f45r6 : IC := .reg false [] f45o6 [4]
@[simp] theorem f45r6_run (tbl : TB) (fin : Fin) (K : List Fr) (e : Env) (H : List AO) : run tbl fin K f45r6 e H = regK tbl fin K [] f45o6 [4] e H := run_regK tbl fin K false [] f45o6 [4] e H rfl
@[simp] def f45o7 : List IOper := [
  ⟨(some 33), .mv (.t 0), none, none⟩,
  ⟨(some 34), .mv (.t 5), none, none⟩,
  ⟨(some 35), .mv (.t 1), none, none⟩,
  ⟨(some 36), .mkrow 3 1 1 (.int .i64 0) [(0, (.t 35))], none, none⟩,
  ⟨(some 37), .ocall (.c (.fn 55 [])) [(.t 33), (.t 34), (.t 36)], none, none⟩,
  ⟨(some 4), .mv (.t 37), none, none⟩]
def f45r7 : IC := .reg false [] f45o7 [4]
@[simp] theorem f45r7_run (tbl : TB) (fin : Fin) (K : List Fr) (e : Env) (H : List AO) : run tbl fin K f45r7 e H = regK tbl fin K [] f45o7 [4] e H := run_regK tbl fin K false [] f45o7 [4] e H rfl
def f45body : IC := (.seq f45r0 (.seq f45r1 (.seq (.block 0 (.loop [5, 0, 1] f45b4)) (.seq (.seq f45r5 (.cond (.t 31) (.seq f45r6 .ret) .skip)) (.seq f45r7 .ret)))))
def f45 : IFn := ⟨38, 2, [.tmp 4], f45body⟩
/- 46: jobshell/jobshellref25.add -/
@[simp] def f46o0 : List IOper := [
  ⟨(some 4), .nilrow 3 1, none, none⟩]
def f46r0 : IC := .reg false [] f46o0 [1, 0]
@[simp] theorem f46r0_run (tbl : TB) (fin : Fin) (K : List Fr) (e : Env) (H : List AO) : run tbl fin K f46r0 e H = regK tbl fin K [] f46o0 [1, 0] e H := run_regK tbl fin K false [] f46o0 [1, 0] e H rfl
@[simp] def f46o1 : List IOper := [
  ⟨(some 5), .nilrow 3 1, none, none⟩]
def f46r1 : IC := .reg false [] f46o1 [5, 1, 0]
@[simp] theorem f46r1_run (tbl : TB) (fin : Fin) (K : List Fr) (e : Env) (H : List AO) : run tbl fin K f46r1 e H = regK tbl fin K [] f46o1 [5, 1, 0] e H := run_regK tbl fin K false [] f46o1 [5, 1, 0] e H rfl
@[simp] def f46o2 : List IOper := [
  ⟨(some 6), .mv (.c (.int .i64 1)), none, none⟩]
def f46r2 : IC := .reg false [] f46o2 [5, 6, 1, 0]
@[simp] theorem f46r2_run (tbl : TB) (fin : Fin) (K : List Fr) (e : Env) (H : List AO) : run tbl fin K f46r2 e H = regK tbl fin K [] f46o2 [5, 6, 1, 0] e H := run_regK tbl fin K false [] f46o2 [5, 6, 1, 0] e H rfl
@[simp] def f46o3 : List IOper := [
  ⟨(some 7), .mv (.t 6), none, none⟩,
  ⟨(some 8), .bin .leq (.t 7) (.c (.int .i64 20)), none, none⟩]
def f46r3 : IC := .reg false [] f46o3 [8, 5, 6, 1, 0]
@[simp] theorem f46r3_run (tbl : TB) (fin : Fin) (K : List Fr) (e : Env) (H : List AO) : run tbl fin K f46r3 e H = regK tbl fin K [] f46o3 [8, 5, 6, 1, 0] e H := run_regK tbl fin K false [] f46o3 [8, 5, 6, 1, 0] e H rfl
@[simp] def f46o4 : List IOper := [
  ⟨(some 11), .mv (.t 6), none, none⟩,
  ⟨(some 12), .mv (.t 1), none, none⟩,
  ⟨(some 13), .bin .eql (.t 11) (.t 12), none, none⟩,
  ⟨(some 14), .mv (.t 13), none, none⟩,
  ⟨(some 15), .mv (.t 0), (some (14, false)), none⟩,
  ⟨(some 16), .mv (.t 6), (some (14, false)), none⟩,
  ⟨(some 17), .call (.c (.fn 24 [])) [(.t 15), (.t 16)], (some (14, false)), none⟩,
  ⟨(some 18), .pick (.t 14) (.c (.bool true)) (.t 17), none, none⟩]
def f46r4 : IC := .reg false [] f46o4 [18, 5, 6, 1, 0]
@[simp] theorem f46r4_run (tbl : TB) (fin : Fin) (K : List Fr) (e : Env) (H : List AO) : run tbl fin K f46r4 e H = regK tbl fin K [] f46o4 [18, 5, 6, 1, 0] e H := run_regK tbl fin K false [] f46o4 [18, 5, 6, 1, 0] e H rfl
@[simp] def f46o5 : List IOper := [
  ⟨(some 19), .mv (.t 5), none, none⟩,
  ⟨(some 20), .mv (.t 6), none, none⟩,
  ⟨(some 21), .mkimm 1 1 (.int .i64 0) [(0, (.t 20))], none, none⟩,
  ⟨(some 22), .app 3 1 (.t 19) (.t 21), none, none⟩,
  ⟨(some 5), .mv (.t 22), none, none⟩]
def f46r5 : IC := .reg false [] f46o5 [6, 5, 1, 0]
@[simp] theorem f46r5_run (tbl : TB) (fin : Fin) (K : List Fr) (e : Env) (H : List AO) : run tbl fin K f46r5 e H = regK tbl fin K [] f46o5 [6, 5, 1, 0] e H := run_regK tbl fin K false [] f46o5 [6, 5, 1, 0] e H rfl
@[simp] def f46o6 : List IOper := [
  ⟨(some 9), .mv (.t 6), none, none⟩,
  ⟨(some 10), .bin .add (.t 9) (.c (.int .i64 1)), none, none⟩,
  ⟨(some 6), .mv (.t 10), none, none⟩]
def f46r6 : IC := .reg false [] f46o6 [5, 6, 1, 0]
@[simp] theorem f46r6_run (tbl : TB) (fin : Fin) (K : List Fr) (e : Env) (H : List AO) : run tbl fin K f46r6 e H = regK tbl fin K [] f46o6 [5, 6, 1, 0] e H := run_regK tbl fin K false [] f46o6 [5, 6, 1, 0] e H rfl
def f46b7 : IC := (.seq (.seq f46r3 (.cond (.t 8) .skip (.exit 0))) (.seq (.block 1 (.seq f46r4 (.cond (.t 18) f46r5 .skip))) f46r6))
theorem f46b7_eq : f46b7 = (.seq (.seq f46r3 (.cond (.t 8) .skip (.exit 0))) (.seq (.block 1 (.seq f46r4 (.cond (.t 18) f46r5 .skip))) f46r6)) := rfl
@[simp] def f46o8 : List IOper := [
  ⟨(some 23), .mv (.t 5), none, none⟩,
  ⟨(some 4), .mv (.t 23), none, none⟩]
def f46r8 : IC := .reg false [] f46o8 [4]
@[simp] theorem f46r8_run (tbl : TB) (fin : Fin) (K : List Fr) (e : Env) (H : List AO) : run tbl fin K f46r8 e H = regK tbl fin K [] f46o8 [4] e H := run_regK tbl fin K false [] f46o8 [4] e H rfl
def f46body : IC := (.seq f46r0 (.seq f46r1 (.seq (.seq f46r2 (.block 0 (.loop [5, 6, 1, 0] f46b7))) (.seq f46r8 .ret))))
def f46 : IFn := ⟨24, 2, [.tmp 4], f46body⟩
/- 47: jobshell/signal.fixed -/
@[simp] def f47o0 : List IOper := [
  ⟨(some 2), .mv (.c (.bool false)), none, none⟩]
def f47r0 : IC := .reg false [] f47o0 [0]
@[simp] theorem f47r0_run (tbl : TB) (fin : Fin) (K : List Fr) (e : Env) (H : List AO) : run tbl fin K f47r0 e H = regK tbl fin K [] f47o0 [0] e H := run_regK tbl fin K false [] f47o0 [0] e H rfl
@[simp] def f47o1 : List IOper := [
  ⟨(some 3), .mv (.t 0), none, none⟩,
  ⟨(some 4), .bin .eql (.t 3) (.c (.int .i64 9)), none, none⟩,
  ⟨(some 5), .mv (.t 4), none, none⟩,
  ⟨(some 6), .mv (.t 0), (some (5, false)), none⟩,
  ⟨(some 7), .bin .eql (.t 6) (.c (.int .i64 19)), (some (5, false)), none⟩,
  ⟨(some 8), .pick (.t 5) (.c (.bool true)) (.t 7), none, none⟩,
  ⟨(some 2), .mv (.t 8), none, none⟩]
def f47r1 : IC := .reg false [] f47o1 [2]
@[simp] theorem f47r1_run (tbl : TB) (fin : Fin) (K : List Fr) (e : Env) (H : List AO) : run tbl fin K f47r1 e H = regK tbl fin K [] f47o1 [2] e H := run_regK tbl fin K false [] f47o1 [2] e H rfl
def f47body : IC := (.seq f47r0 (.seq f47r1 .ret))
def f47 : IFn := ⟨9, 1, [.tmp 2], f47body⟩
/- 48: slices.ContainsFunc[[]int,int] -/
@[simp] def f48o0 : List IOper := [
  ⟨(some 4), .mv (.c (.bool false)), none, none⟩]
def f48r0 : IC := .reg false [] f48o0 [0, 1]
@[simp] theorem f48r0_run (tbl : TB) (fin : Fin) (K : List Fr) (e : Env) (H : List AO) : run tbl fin K f48r0 e H = regK tbl fin K [] f48o0 [0, 1] e H := run_regK tbl fin K false [] f48o0 [0, 1] e H rfl
@[simp] def f48o1 : List IOper := [
  ⟨(some 5), .mv (.t 0), none, none⟩,
  ⟨(some 6), .mv (.t 1), none, none⟩,
  ⟨(some 7), .ocall (.c (.fn 54 [])) [(.t 5), (.t 6)], none, none⟩,
  ⟨(some 8), .bin .geq (.t 7) (.c (.int .i64 0)), none, none⟩,
  ⟨(some 4), .mv (.t 8), none, none⟩]
def f48r1 : IC := .reg false [] f48o1 [4]
@[simp] theorem f48r1_run (tbl : TB) (fin : Fin) (K : List Fr) (e : Env) (H : List AO) : run tbl fin K f48r1 e H = regK tbl fin K [] f48o1 [4] e H := run_regK tbl fin K false [] f48o1 [4] e H rfl
def f48body : IC := (.seq f48r0 (.seq f48r1 .ret))
def f48 : IFn := ⟨9, 2, [.tmp 4], f48body⟩
/- 49: jobshell/signal.Valid$1 -/
@[simp] def f49o0 : List IOper := [
  ⟨(some 3), .mv (.c (.bool false)), none, none⟩]
def f49r0 : IC := .reg false [] f49o0 [1, 0]
@[simp] theorem f49r0_run (tbl : TB) (fin : Fin) (K : List Fr) (e : Env) (H : List AO) : run tbl fin K f49r0 e H = regK tbl fin K [] f49o0 [1, 0] e H := run_regK tbl fin K false [] f49o0 [1, 0] e H rfl
@[simp] def f49o1 : List IOper := [
  ⟨(some 4), .fld 2 (.t 1), none, none⟩,
  ⟨(some 5), .load false 1 (.t 4), none, none⟩,
  ⟨(some 6), .mv (.t 0), none, none⟩,
  ⟨(some 7), .call (.c (.fn 39 [])) [(.t 5), (.t 6)], none, none⟩,
  ⟨(some 3), .mv (.t 7), none, none⟩]
def f49r1 : IC := .reg false [] f49o1 [3]
@[simp] theorem f49r1_run (tbl : TB) (fin : Fin) (K : List Fr) (e : Env) (H : List AO) : run tbl fin K f49r1 e H = regK tbl fin K [] f49o1 [3] e H := run_regK tbl fin K false [] f49o1 [3] e H rfl
def f49body : IC := (.seq f49r0 (.seq f49r1 .ret))
def f49 : IFn := ⟨8, 2, [.tmp 3], f49body⟩
/- 50: internal/strconv.Itoa is met by a contract -/
/- 51: slices.Index[[]int,int] -/
@[simp] def f51o0 : List IOper := [
  ⟨(some 4), .mv (.c (.int .i64 0)), none, none⟩]
def f51r0 : IC := .reg false [] f51o0 [1, 0]
@[simp] theorem f51r0_run (tbl : TB) (fin : Fin) (K : List Fr) (e : Env) (H : List AO) : run tbl fin K f51r0 e H = regK tbl fin K [] f51o0 [1, 0] e H := run_regK tbl fin K false [] f51o0 [1, 0] e H rfl
@[simp] def f51o1 : List IOper := [
  ⟨(some 6), .mv (.t 0), none, none⟩,
  ⟨(some 7), .len (.t 6), none, none⟩,
  ⟨(some 8), .mv (.c (.int .i64 0)), none, none⟩]
def f51r1 : IC := .reg false [] f51o1 [7, 1, 0, 8]
@[simp] theorem f51r1_run (tbl : TB) (fin : Fin) (K : List Fr) (e : Env) (H : List AO) : run tbl fin K f51r1 e H = regK tbl fin K [] f51o1 [7, 1, 0, 8] e H := run_regK tbl fin K false [] f51o1 [7, 1, 0, 8] e H rfl
@[simp] def f51o2 : List IOper := [
  ⟨(some 9), .bin .lss (.t 8) (.t 7), none, none⟩]
def f51r2 : IC := .reg false [] f51o2 [9, 0, 1, 7, 8]
@[simp] theorem f51r2_run (tbl : TB) (fin : Fin) (K : List Fr) (e : Env) (H : List AO) : run tbl fin K f51r2 e H = regK tbl fin K [] f51o2 [9, 0, 1, 7, 8] e H := run_regK tbl fin K false [] f51o2 [9, 0, 1, 7, 8] e H rfl
@[simp] def f51o3 : List IOper := [
  ⟨(some 10), .mv (.t 8), none, none⟩,
  ⟨(some 5), .mv (.t 10), none, none⟩]
def f51r3 : IC := .reg false [] f51o3 [0, 1, 7, 8, 5]
@[simp] theorem f51r3_run (tbl : TB) (fin : Fin) (K : List Fr) (e : Env) (H : List AO) : run tbl fin K f51r3 e H = regK tbl fin K [] f51o3 [0, 1, 7, 8, 5] e H := run_regK tbl fin K false [] f51o3 [0, 1, 7, 8, 5] e H rfl
@[simp] def f51o4 : List IOper := [
  ⟨(some 11), .mv (.t 1), none, none⟩,
  ⟨(some 12), .mv (.t 0), none, none⟩,
  ⟨(some 13), .mv (.t 5), none, none⟩,
  ⟨(some 14), .idx 1 (.t 12) (.t 13), none, none⟩,
  ⟨(some 15), .load false 1 (.t 14), none, none⟩,
  ⟨(some 16), .bin .eql (.t 11) (.t 15), none, none⟩]
def f51r4 : IC := .reg false [] f51o4 [16, 0, 1, 7, 8, 5]
@[simp] theorem f51r4_run (tbl : TB) (fin : Fin) (K : List Fr) (e : Env) (H : List AO) : run tbl fin K f51r4 e H = regK tbl fin K [] f51o4 [16, 0, 1, 7, 8, 5] e H := run_regK tbl fin K false [] f51o4 [16, 0, 1, 7, 8, 5] e H rfl
@[simp] def f51o5 : List IOper := [
  ⟨(some 17), .mv (.t 5), none, none⟩,
  ⟨(some 4), .mv (.t 17), none, none⟩]
def f51r5 : IC := .reg false [] f51o5 [4]
@[simp] theorem f51r5_run (tbl : TB) (fin : Fin) (K : List Fr) (e : Env) (H : List AO) : run tbl fin K f51r5 e H = regK tbl fin K [] f51o5 [4] e H := run_regK tbl fin K false [] f51o5 [4] e H rfl
@[simp] def f51o6 : List IOper := [
  ⟨(some 18), .bin .add (.t 8) (.c (.int .i64 1)), none, none⟩,
  ⟨(some 8), .mv (.t 18), none, none⟩]
def f51r6 : IC := .reg false [] f51o6 [7, 1, 0, 8]
@[simp] theorem f51r6_run (tbl : TB) (fin : Fin) (K : List Fr) (e : Env) (H : List AO) : run tbl fin K f51r6 e H = regK tbl fin K [] f51o6 [7, 1, 0, 8] e H := run_regK tbl fin K false [] f51o6 [7, 1, 0, 8] e H rfl
def f51b7 : IC := (.seq f51r2 (.seq (.cond (.t 9) .skip (.exit 0)) (.seq (.block 1 (.seq f51r3 (.seq f51r4 (.cond (.t 16) (.seq f51r5 .ret) .skip)))) f51r6)))
theorem f51b7_eq : f51b7 = (.seq f51r2 (.seq (.cond (.t 9) .skip (.exit 0)) (.seq (.block 1 (.seq f51r3 (.seq f51r4 (.cond (.t 16) (.seq f51r5 .ret) .skip)))) f51r6))) := rfl
@[simp] def f51o8 : List IOper := [
  ⟨(some 4), .mv (.c (.int .i64 (-1))), none, none⟩]
def f51r8 : IC := .reg false [] f51o8 [4]
@[simp] theorem f51r8_run (tbl : TB) (fin : Fin) (K : List Fr) (e : Env) (H : List AO) : run tbl fin K f51r8 e H = regK tbl fin K [] f51o8 [4] e H := run_regK tbl fin K false [] f51o8 [4] e H rfl
def f51body : IC := (.seq f51r0 (.seq (.seq f51r1 (.block 0 (.loop [7, 1, 0, 8] f51b7))) (.seq f51r8 .ret)))
def f51 : IFn := ⟨19, 2, [.tmp 4], f51body⟩
/- 52: slices.Clone[[]int,int] -/
@[simp] def f52o0 : List IOper := [
  ⟨(some 2), .nilrow 3 1, none, none⟩]
def f52r0 : IC := .reg false [] f52o0 [0]
@[simp] theorem f52r0_run (tbl : TB) (fin : Fin) (K : List Fr) (e : Env) (H : List AO) : run tbl fin K f52r0 e H = regK tbl fin K [] f52o0 [0] e H := run_regK tbl fin K false [] f52o0 [0] e H rfl
@[simp] def f52o1 : List IOper := [
  ⟨(some 3), .mv (.t 0), none, none⟩,
  ⟨(some 4), .eqnil false (.t 3), none, none⟩]
def f52r1 : IC := .reg false [] f52o1 [4, 0]
@[simp] theorem f52r1_run (tbl : TB) (fin : Fin) (K : List Fr) (e : Env) (H : List AO) : run tbl fin K f52r1 e H = regK tbl fin K [] f52o1 [4, 0] e H := run_regK tbl fin K false [] f52o1 [4, 0] e H rfl
@[simp] def f52o2 : List IOper := [
  ⟨(some 2), .nilrow 3 1, none, none⟩]
def f52r2 : IC := .reg false [] f52o2 [2]
@[simp] theorem f52r2_run (tbl : TB) (fin : Fin) (K : List Fr) (e : Env) (H : List AO) : run tbl fin K f52r2 e H = regK tbl fin K [] f52o2 [2] e H := run_regK tbl fin K false [] f52o2 [2] e H rfl
@[simp] def f52o3 : List IOper := [
  ⟨(some 5), .mkrow 3 1 0 (.int .i64 0) [], none, none⟩,
  ⟨(some 6), .mv (.t 0), none, none⟩,
  ⟨(some 7), .app 3 1 (.t 5) (.t 6), none, none⟩,
  ⟨(some 2), .mv (.t 7), none, none⟩]
def f52r3 : IC := .reg false [] f52o3 [2]
@[simp] theorem f52r3_run (tbl : TB) (fin : Fin) (K : List Fr) (e : Env) (H : List AO) : run tbl fin K f52r3 e H = regK tbl fin K [] f52o3 [2] e H := run_regK tbl fin K false [] f52o3 [2] e H rfl
def f52body : IC := (.seq f52r0 (.seq (.seq f52r1 (.cond (.t 4) (.seq f52r2 .ret) .skip)) (.seq f52r3 .ret)))
def f52 : IFn := ⟨8, 1, [.tmp 2], f52body⟩
/- 53: jobshell/signal.without$1 -/
@[simp] def f53o0 : List IOper := [
  ⟨(some 3), .mv (.c (.bool false)), none, none⟩]
def f53r0 : IC := .reg false [] f53o0 [0, 1]
@[simp] theorem f53r0_run (tbl : TB) (fin : Fin) (K : List Fr) (e : Env) (H : List AO) : run tbl fin K f53r0 e H = regK tbl fin K [] f53o0 [0, 1] e H := run_regK tbl fin K false [] f53o0 [0, 1] e H rfl
@[simp] def f53o1 : List IOper := [
  ⟨(some 4), .mv (.t 0), none, none⟩,
  ⟨(some 5), .load false 1 (.t 1), none, none⟩,
  ⟨(some 6), .bin .eql (.t 4) (.t 5), none, none⟩,
  ⟨(some 3), .mv (.t 6), none, none⟩]
def f53r1 : IC := .reg false [] f53o1 [3]
@[simp] theorem f53r1_run (tbl : TB) (fin : Fin) (K : List Fr) (e : Env) (H : List AO) : run tbl fin K f53r1 e H = regK tbl fin K [] f53o1 [3] e H := run_regK tbl fin K false [] f53o1 [3] e H rfl
def f53body : IC := (.seq f53r0 (.seq f53r1 .ret))
def f53 : IFn := ⟨7, 2, [.tmp 3], f53body⟩
/- 54: slices.IndexFunc[[]int,int] -/
@[simp] def f54o0 : List IOper := [
  ⟨(some 4), .mv (.c (.int .i64 0)), none, none⟩]
def f54r0 : IC := .reg false [] f54o0 [1, 0]
@[simp] theorem f54r0_run (tbl : TB) (fin : Fin) (K : List Fr) (e : Env) (H : List AO) : run tbl fin K f54r0 e H = regK tbl fin K [] f54o0 [1, 0] e H := run_regK tbl fin K false [] f54o0 [1, 0] e H rfl
@[simp] def f54o1 : List IOper := [
  ⟨(some 6), .mv (.t 0), none, none⟩,
  ⟨(some 7), .len (.t 6), none, none⟩,
  ⟨(some 8), .mv (.c (.int .i64 0)), none, none⟩]
def f54r1 : IC := .reg false [] f54o1 [7, 1, 0, 8]
@[simp] theorem f54r1_run (tbl : TB) (fin : Fin) (K : List Fr) (e : Env) (H : List AO) : run tbl fin K f54r1 e H = regK tbl fin K [] f54o1 [7, 1, 0, 8] e H := run_regK tbl fin K false [] f54o1 [7, 1, 0, 8] e H rfl
@[simp] def f54o2 : List IOper := [
  ⟨(some 9), .bin .lss (.t 8) (.t 7), none, none⟩]
def f54r2 : IC := .reg false [] f54o2 [9, 0, 1, 7, 8]
@[simp] theorem f54r2_run (tbl : TB) (fin : Fin) (K : List Fr) (e : Env) (H : List AO) : run tbl fin K f54r2 e H = regK tbl fin K [] f54o2 [9, 0, 1, 7, 8] e H := run_regK tbl fin K false [] f54o2 [9, 0, 1, 7, 8] e H rfl
@[simp] def f54o3 : List IOper := [
  ⟨(some 10), .mv (.t 8), none, none⟩,
  ⟨(some 5), .mv (.t 10), none, none⟩]
def f54r3 : IC := .reg false [] f54o3 [0, 1, 7, 8, 5]
@[simp] theorem f54r3_run (tbl : TB) (fin : Fin) (K : List Fr) (e : Env) (H : List AO) : run tbl fin K f54r3 e H = regK tbl fin K [] f54o3 [0, 1, 7, 8, 5] e H := run_regK tbl fin K false [] f54o3 [0, 1, 7, 8, 5] e H rfl
@[simp] def f54o4 : List IOper := [
  ⟨(some 11), .mv (.t 1), none, none⟩,
  ⟨(some 12), .mv (.t 0), none, none⟩,
  ⟨(some 13), .mv (.t 5), none, none⟩,
  ⟨(some 14), .idx 1 (.t 12) (.t 13), none, none⟩,
  ⟨(some 15), .load false 1 (.t 14), none, none⟩,
  ⟨(some 16), .ocall (.t 11) [(.t 15)], none, none⟩]
def f54r4 : IC := .reg false [] f54o4 [16, 0, 1, 7, 8, 5]
@[simp] theorem f54r4_run (tbl : TB) (fin : Fin) (K : List Fr) (e : Env) (H : List AO) : run tbl fin K f54r4 e H = regK tbl fin K [] f54o4 [16, 0, 1, 7, 8, 5] e H := run_regK tbl fin K false [] f54o4 [16, 0, 1, 7, 8, 5] e H rfl
@[simp] def f54o5 : List IOper := [
  ⟨(some 17), .mv (.t 5), none, none⟩,
  ⟨(some 4), .mv (.t 17), none, none⟩]
def f54r5 : IC := .reg false [] f54o5 [4]
@[simp] theorem f54r5_run (tbl : TB) (fin : Fin) (K : List Fr) (e : Env) (H : List AO) : run tbl fin K f54r5 e H = regK tbl fin K [] f54o5 [4] e H := run_regK tbl fin K false [] f54o5 [4] e H rfl
@[simp] def f54o6 : List IOper := [
  ⟨(some 18), .bin .add (.t 8) (.c (.int .i64 1)), none, none⟩,
  ⟨(some 8), .mv (.t 18), none, none⟩]
def f54r6 : IC := .reg false [] f54o6 [7, 1, 0, 8]
@[simp] theorem f54r6_run (tbl : TB) (fin : Fin) (K : List Fr) (e : Env) (H : List AO) : run tbl fin K f54r6 e H = regK tbl fin K [] f54o6 [7, 1, 0, 8] e H := run_regK tbl fin K false [] f54o6 [7, 1, 0, 8] e H rfl
def f54b7 : IC := (.seq f54r2 (.seq (.cond (.t 9) .skip (.exit 0)) (.seq (.block 1 (.seq f54r3 (.seq f54r4 (.cond (.t 16) (.seq f54r5 .ret) .skip)))) f54r6)))
theorem f54b7_eq : f54b7 = (.seq f54r2 (.seq (.cond (.t 9) .skip (.exit 0)) (.seq (.block 1 (.seq f54r3 (.seq f54r4 (.cond (.t 16) (.seq f54r5 .ret) .skip)))) f54r6))) := rfl
@[simp] def f54o8 : List IOper := [
  ⟨(some 4), .mv (.c (.int .i64 (-1))), none, none⟩]
def f54r8 : IC := .reg false [] f54o8 [4]
@[simp] theorem f54r8_run (tbl : TB) (fin : Fin) (K : List Fr) (e : Env) (H : List AO) : run tbl fin K f54r8 e H = regK tbl fin K [] f54o8 [4] e H := run_regK tbl fin K false [] f54o8 [4] e H rfl
def f54body : IC := (.seq f54r0 (.seq (.seq f54r1 (.block 0 (.loop [7, 1, 0, 8] f54b7))) (.seq f54r8 .ret)))
def f54 : IFn := ⟨19, 2, [.tmp 4], f54body⟩
/- 55: slices.Insert[[]int,int] is met by a contract -/
def tblF : Nat → Option IFn
  | 2 => some f2
  | 3 => some f3
  | 4 => some f4
  | 5 => some f5
  | 6 => some f6
  | 7 => some f7
  | 8 => some f8
  | 9 => some f9
  | 10 => some f10
  | 11 => some f11
  | 12 => some f12
  | 13 => some f13
  | 14 => some f14
  | 15 => some f15
  | 16 => some f16
  | 17 => some f17
  | 18 => some f18
  | 19 => some f19
  | 20 => some f20
  | 21 => some f21
  | 22 => some f22
  | 23 => some f23
  | 24 => some f24
  | 25 => some f25
  | 26 => some f26
  | 27 => some f27
  | 28 => some f28
  | 29 => some f29
  | 30 => some f30
  | 31 => some f31
  | 32 => some f32
  | 34 => some f34
  | 35 => some f35
  | 36 => some f36
  | 37 => some f37
  | 38 => some f38
  | 39 => some f39
  | 40 => some f40
  | 41 => some f41
  | 42 => some f42
  | 43 => some f43
  | 44 => some f44
  | 45 => some f45
  | 46 => some f46
  | 47 => some f47
  | 48 => some f48
  | 49 => some f49
  | 51 => some f51
  | 52 => some f52
  | 53 => some f53
  | 54 => some f54
  | _ => none
theorem tbl2 : tblF 2 = some f2 := rfl
theorem tbl3 : tblF 3 = some f3 := rfl
theorem tbl4 : tblF 4 = some f4 := rfl
theorem tbl5 : tblF 5 = some f5 := rfl
theorem tbl6 : tblF 6 = some f6 := rfl
theorem tbl7 : tblF 7 = some f7 := rfl
theorem tbl8 : tblF 8 = some f8 := rfl
theorem tbl9 : tblF 9 = some f9 := rfl
theorem tbl10 : tblF 10 = some f10 := rfl
theorem tbl11 : tblF 11 = some f11 := rfl
theorem tbl12 : tblF 12 = some f12 := rfl
theorem tbl13 : tblF 13 = some f13 := rfl
theorem tbl14 : tblF 14 = some f14 := rfl
theorem tbl15 : tblF 15 = some f15 := rfl
theorem tbl16 : tblF 16 = some f16 := rfl
theorem tbl17 : tblF 17 = some f17 := rfl
theorem tbl18 : tblF 18 = some f18 := rfl
theorem tbl19 : tblF 19 = some f19 := rfl
theorem tbl20 : tblF 20 = some f20 := rfl
theorem tbl21 : tblF 21 = some f21 := rfl
theorem tbl22 : tblF 22 = some f22 := rfl
theorem tbl23 : tblF 23 = some f23 := rfl
theorem tbl24 : tblF 24 = some f24 := rfl
theorem tbl25 : tblF 25 = some f25 := rfl
theorem tbl26 : tblF 26 = some f26 := rfl
theorem tbl27 : tblF 27 = some f27 := rfl
theorem tbl28 : tblF 28 = some f28 := rfl
theorem tbl29 : tblF 29 = some f29 := rfl
theorem tbl30 : tblF 30 = some f30 := rfl
theorem tbl31 : tblF 31 = some f31 := rfl
theorem tbl32 : tblF 32 = some f32 := rfl
theorem tbl34 : tblF 34 = some f34 := rfl
theorem tbl35 : tblF 35 = some f35 := rfl
theorem tbl36 : tblF 36 = some f36 := rfl
theorem tbl37 : tblF 37 = some f37 := rfl
theorem tbl38 : tblF 38 = some f38 := rfl
theorem tbl39 : tblF 39 = some f39 := rfl
theorem tbl40 : tblF 40 = some f40 := rfl
theorem tbl41 : tblF 41 = some f41 := rfl
theorem tbl42 : tblF 42 = some f42 := rfl
theorem tbl43 : tblF 43 = some f43 := rfl
theorem tbl44 : tblF 44 = some f44 := rfl
theorem tbl45 : tblF 45 = some f45 := rfl
theorem tbl46 : tblF 46 = some f46 := rfl
theorem tbl47 : tblF 47 = some f47 := rfl
theorem tbl48 : tblF 48 = some f48 := rfl
theorem tbl49 : tblF 49 = some f49 := rfl
theorem tbl51 : tblF 51 = some f51 := rfl
theorem tbl52 : tblF 52 = some f52 := rfl
theorem tbl53 : tblF 53 = some f53 := rfl
theorem tbl54 : tblF 54 = some f54 := rfl
theorem ok2 : cFn Tryd.prog cfg 2 = some f2 := by kernel_rfl
theorem ok3 : cFn Tryd.prog cfg 3 = some f3 := by kernel_rfl
theorem ok4 : cFn Tryd.prog cfg 4 = some f4 := by kernel_rfl
theorem ok5 : cFn Tryd.prog cfg 5 = some f5 := by kernel_rfl
theorem ok6 : cFn Tryd.prog cfg 6 = some f6 := by kernel_rfl
theorem ok7 : cFn Tryd.prog cfg 7 = some f7 := by kernel_rfl
theorem ok8 : cFn Tryd.prog cfg 8 = some f8 := by kernel_rfl
theorem ok9 : cFn Tryd.prog cfg 9 = some f9 := by kernel_rfl
theorem ok10 : cFn Tryd.prog cfg 10 = some f10 := by kernel_rfl
theorem ok11 : cFn Tryd.prog cfg 11 = some f11 := by kernel_rfl
theorem ok12 : cFn Tryd.prog cfg 12 = some f12 := by kernel_rfl
theorem ok13 : cFn Tryd.prog cfg 13 = some f13 := by kernel_rfl
theorem ok14 : cFn Tryd.prog cfg 14 = some f14 := by kernel_rfl
theorem ok15 : cFn Tryd.prog cfg 15 = some f15 := by kernel_rfl
theorem ok16 : cFn Tryd.prog cfg 16 = some f16 := by kernel_rfl
theorem ok17 : cFn Tryd.prog cfg 17 = some f17 := by kernel_rfl
theorem ok18 : cFn Tryd.prog cfg 18 = some f18 := by kernel_rfl
theorem ok19 : cFn Tryd.prog cfg 19 = some f19 := by kernel_rfl
theorem ok20 : cFn Tryd.prog cfg 20 = some f20 := by kernel_rfl
theorem ok21 : cFn Tryd.prog cfg 21 = some f21 := by kernel_rfl
theorem ok22 : cFn Tryd.prog cfg 22 = some f22 := by kernel_rfl
theorem ok23 : cFn Tryd.prog cfg 23 = some f23 := by kernel_rfl
theorem ok24 : cFn Tryd.prog cfg 24 = some f24 := by kernel_rfl
theorem ok25 : cFn Tryd.prog cfg 25 = some f25 := by kernel_rfl
theorem ok26 : cFn Tryd.prog cfg 26 = some f26 := by kernel_rfl
theorem ok27 : cFn Tryd.prog cfg 27 = some f27 := by kernel_rfl
theorem ok28 : cFn Tryd.prog cfg 28 = some f28 := by kernel_rfl
theorem ok29 : cFn Tryd.prog cfg 29 = some f29 := by kernel_rfl
theorem ok30 : cFn Tryd.prog cfg 30 = some f30 := by kernel_rfl
theorem ok31 : cFn Tryd.prog cfg 31 = some f31 := by kernel_rfl
theorem ok32 : cFn Tryd.prog cfg 32 = some f32 := by kernel_rfl
theorem ok34 : cFn Tryd.prog cfg 34 = some f34 := by kernel_rfl
theorem ok35 : cFn Tryd.prog cfg 35 = some f35 := by kernel_rfl
theorem ok36 : cFn Tryd.prog cfg 36 = some f36 := by kernel_rfl
theorem ok37 : cFn Tryd.prog cfg 37 = some f37 := by kernel_rfl
theorem ok38 : cFn Tryd.prog cfg 38 = some f38 := by kernel_rfl
theorem ok39 : cFn Tryd.prog cfg 39 = some f39 := by kernel_rfl
theorem ok40 : cFn Tryd.prog cfg 40 = some f40 := by kernel_rfl
theorem ok41 : cFn Tryd.prog cfg 41 = some f41 := by kernel_rfl
theorem ok42 : cFn Tryd.prog cfg 42 = some f42 := by kernel_rfl
theorem ok43 : cFn Tryd.prog cfg 43 = some f43 := by kernel_rfl
theorem ok44 : cFn Tryd.prog cfg 44 = some f44 := by kernel_rfl
theorem ok45 : cFn Tryd.prog cfg 45 = some f45 := by kernel_rfl
theorem ok46 : cFn Tryd.prog cfg 46 = some f46 := by kernel_rfl
theorem ok47 : cFn Tryd.prog cfg 47 = some f47 := by kernel_rfl
theorem ok48 : cFn Tryd.prog cfg 48 = some f48 := by kernel_rfl
theorem ok49 : cFn Tryd.prog cfg 49 = some f49 := by kernel_rfl
theorem ok51 : cFn Tryd.prog cfg 51 = some f51 := by kernel_rfl
theorem ok52 : cFn Tryd.prog cfg 52 = some f52 := by kernel_rfl
theorem ok53 : cFn Tryd.prog cfg 53 = some f53 := by kernel_rfl
theorem ok54 : cFn Tryd.prog cfg 54 = some f54 := by kernel_rfl
theorem tbl_ok (f : Nat) (fn : IFn) (h : tblF f = some fn) : cFn Tryd.prog cfg f = some fn := by
  unfold tblF at h
  split at h
  · injection h with h; subst h; exact ok2
  · injection h with h; subst h; exact ok3
  · injection h with h; subst h; exact ok4
  · injection h with h; subst h; exact ok5
  · injection h with h; subst h; exact ok6
  · injection h with h; subst h; exact ok7
  · injection h with h; subst h; exact ok8
  · injection h with h; subst h; exact ok9
  · injection h with h; subst h; exact ok10
  · injection h with h; subst h; exact ok11
  · injection h with h; subst h; exact ok12
  · injection h with h; subst h; exact ok13
  · injection h with h; subst h; exact ok14
  · injection h with h; subst h; exact ok15
  · injection h with h; subst h; exact ok16
  · injection h with h; subst h; exact ok17
  · injection h with h; subst h; exact ok18
  · injection h with h; subst h; exact ok19
  · injection h with h; subst h; exact ok20
  · injection h with h; subst h; exact ok21
  · injection h with h; subst h; exact ok22
  · injection h with h; subst h; exact ok23
  · injection h with h; subst h; exact ok24
  · injection h with h; subst h; exact ok25
  · injection h with h; subst h; exact ok26
  · injection h with h; subst h; exact ok27
  · injection h with h; subst h; exact ok28
  · injection h with h; subst h; exact ok29
  · injection h with h; subst h; exact ok30
  · injection h with h; subst h; exact ok31
  · injection h with h; subst h; exact ok32
  · injection h with h; subst h; exact ok34
  · injection h with h; subst h; exact ok35
  · injection h with h; subst h; exact ok36
  · injection h with h; subst h; exact ok37
  · injection h with h; subst h; exact ok38
  · injection h with h; subst h; exact ok39
  · injection h with h; subst h; exact ok40
  · injection h with h; subst h; exact ok41
  · injection h with h; subst h; exact ok42
  · injection h with h; subst h; exact ok43
  · injection h with h; subst h; exact ok44
  · injection h with h; subst h; exact ok45
  · injection h with h; subst h; exact ok46
  · injection h with h; subst h; exact ok47
  · injection h with h; subst h; exact ok48
  · injection h with h; subst h; exact ok49
  · injection h with h; subst h; exact ok51
  · injection h with h; subst h; exact ok52
  · injection h with h; subst h; exact ok53
  · injection h with h; subst h; exact ok54
  · cases h
end Go.Proofs.YtlkfejigeeddaaaDoor
