/- The interpreter's form of this seat's functions (printed by a program out of the translation), and that the translation gives just this. No condition. -/
import Derived.Test.YtiogndooaihgkaaPi24
import Derived.Test.YtiogndooaihgkaaProg
import Derived.KernelRfl
namespace Go.Proofs.Ytiogndooaihgkaa
open Go.PI
def gl : Nat → Option AV
  | _ => none
def cfg : Cfg := ⟨gl, fun f => [].contains f⟩
/- 2: gosem.cut.init -/
@[simp] def f2o0 : List IOper := [
  ⟨(some 0), .call (.c (.fn 1 [])) [], none, none⟩]
def f2r0 : IC := .reg false [] f2o0 []
@[simp] theorem f2r0_run (tbl : TB) (fin : Fin) (K : List Fr) (e : Env) (H : List AO) : run tbl fin K f2r0 e H = regK tbl fin K [] f2o0 [] e H := run_regK tbl fin K false [] f2o0 [] e H rfl
def f2body : IC := f2r0
def f2 : IFn := ⟨1, 0, [], f2body⟩
/- 3: jobshell/jobshelllaw23.FdtabLooks -/
@[simp] def f3o0 : List IOper := [
  ⟨(some 4), .mv (.c (.bool false)), none, none⟩]
def f3r0 : IC := .reg false [] f3o0 [0, 1]
@[simp] theorem f3r0_run (tbl : TB) (fin : Fin) (K : List Fr) (e : Env) (H : List AO) : run tbl fin K f3r0 e H = regK tbl fin K [] f3o0 [0, 1] e H := run_regK tbl fin K false [] f3o0 [0, 1] e H rfl
@[simp] def f3o1 : List IOper := [
  ⟨(some 13), .mv (.t 0), none, none⟩,
  ⟨(some 14), .call (.c (.fn 9 [])) [(.t 13), (.c .e0)], none, none⟩,
  ⟨(some 15), .un .not (.t 14), none, none⟩]
def f3r1 : IC := .reg false [] f3o1 [15, 0, 1]
@[simp] theorem f3r1_run (tbl : TB) (fin : Fin) (K : List Fr) (e : Env) (H : List AO) : run tbl fin K f3r1 e H = regK tbl fin K [] f3o1 [15, 0, 1] e H := run_regK tbl fin K false [] f3o1 [15, 0, 1] e H rfl
@[simp] def f3o2 : List IOper := [
  ⟨(some 16), .call (.c (.fn 10 [])) [], none, none⟩,
  ⟨(some 4), .mv (.t 16), none, none⟩]
def f3r2 : IC := .reg false [] f3o2 [4]
@[simp] theorem f3r2_run (tbl : TB) (fin : Fin) (K : List Fr) (e : Env) (H : List AO) : run tbl fin K f3r2 e H = regK tbl fin K [] f3o2 [4] e H := run_regK tbl fin K false [] f3o2 [4] e H rfl
@[simp] def f3o3 : List IOper := [
  ⟨(some 18), .mv (.t 0), none, none⟩,
  ⟨(some 19), .mv (.t 1), none, none⟩,
  ⟨(some 20), .call (.c (.fn 11 [])) [(.t 18), (.t 19)], none, none⟩,
  ⟨(some 17), .mv (.t 20), none, none⟩,
  ⟨(some 21), .ext (.t 17) 0, none, none⟩,
  ⟨(some 22), .ext (.t 17) 1, none, none⟩,
  ⟨(some 5), .new 26 3 (.agg [(.int .i64 0), (.int .i64 0), (.bool false)]), none, none⟩,
  ⟨none, .store 3 (.t 5) (.t 21), none, none⟩,
  ⟨(some 6), .mv (.t 22), none, none⟩]
def f3r3 : IC := .reg false [] f3o3 [1, 0, 5, 6]
@[simp] theorem f3r3_run (tbl : TB) (fin : Fin) (K : List Fr) (e : Env) (H : List AO) : run tbl fin K f3r3 e H = regK tbl fin K [] f3o3 [1, 0, 5, 6] e H := run_regK tbl fin K false [] f3o3 [1, 0, 5, 6] e H rfl
@[simp] def f3o4 : List IOper := [
  ⟨(some 24), .mv (.t 0), none, none⟩,
  ⟨(some 25), .mv (.t 1), none, none⟩,
  ⟨(some 26), .call (.c (.fn 12 [])) [(.t 24), (.t 25)], none, none⟩,
  ⟨(some 23), .mv (.t 26), none, none⟩,
  ⟨(some 27), .ext (.t 23) 0, none, none⟩,
  ⟨(some 28), .ext (.t 23) 1, none, none⟩,
  ⟨(some 7), .new 26 3 (.agg [(.int .i64 0), (.int .i64 0), (.bool false)]), none, none⟩,
  ⟨none, .store 3 (.t 7) (.t 27), none, none⟩,
  ⟨(some 8), .mv (.t 28), none, none⟩]
def f3r4 : IC := .reg false [] f3o4 [1, 0, 5, 7, 6, 8]
@[simp] theorem f3r4_run (tbl : TB) (fin : Fin) (K : List Fr) (e : Env) (H : List AO) : run tbl fin K f3r4 e H = regK tbl fin K [] f3o4 [1, 0, 5, 7, 6, 8] e H := run_regK tbl fin K false [] f3o4 [1, 0, 5, 7, 6, 8] e H rfl
@[simp] def f3o5 : List IOper := [
  ⟨(some 30), .mv (.t 0), none, none⟩,
  ⟨(some 31), .mv (.t 1), none, none⟩,
  ⟨(some 32), .call (.c (.fn 13 [])) [(.t 30), (.t 31)], none, none⟩,
  ⟨(some 29), .mv (.t 32), none, none⟩,
  ⟨(some 33), .ext (.t 29) 0, none, none⟩,
  ⟨(some 34), .ext (.t 29) 1, none, none⟩,
  ⟨(some 9), .mv (.t 33), none, none⟩,
  ⟨(some 10), .mv (.t 34), none, none⟩]
def f3r5 : IC := .reg false [] f3o5 [1, 0, 5, 7, 6, 8, 9, 10]
@[simp] theorem f3r5_run (tbl : TB) (fin : Fin) (K : List Fr) (e : Env) (H : List AO) : run tbl fin K f3r5 e H = regK tbl fin K [] f3o5 [1, 0, 5, 7, 6, 8, 9, 10] e H := run_regK tbl fin K false [] f3o5 [1, 0, 5, 7, 6, 8, 9, 10] e H rfl
@[simp] def f3o6 : List IOper := [
  ⟨(some 36), .mv (.t 0), none, none⟩,
  ⟨(some 37), .mv (.t 1), none, none⟩,
  ⟨(some 38), .call (.c (.fn 14 [])) [(.t 36), (.t 37)], none, none⟩,
  ⟨(some 35), .mv (.t 38), none, none⟩,
  ⟨(some 39), .ext (.t 35) 0, none, none⟩,
  ⟨(some 40), .ext (.t 35) 1, none, none⟩,
  ⟨(some 11), .mv (.t 39), none, none⟩,
  ⟨(some 12), .mv (.t 40), none, none⟩]
def f3r6 : IC := .reg false [] f3o6 [0, 5, 7, 6, 8, 9, 11, 10, 12]
@[simp] theorem f3r6_run (tbl : TB) (fin : Fin) (K : List Fr) (e : Env) (H : List AO) : run tbl fin K f3r6 e H = regK tbl fin K [] f3o6 [0, 5, 7, 6, 8, 9, 11, 10, 12] e H := run_regK tbl fin K false [] f3o6 [0, 5, 7, 6, 8, 9, 11, 10, 12] e H rfl
@[simp] def f3o7 : List IOper := [
  ⟨(some 41), .mv (.t 0), none, none⟩,
  ⟨(some 42), .call (.c (.fn 15 [])) [(.t 41)], none, none⟩,
  ⟨(some 43), .mv (.t 0), none, none⟩,
  ⟨(some 44), .call (.c (.fn 16 [])) [(.t 43)], none, none⟩,
  ⟨(some 45), .bin .eql (.t 42) (.t 44), none, none⟩,
  ⟨(some 46), .mv (.t 45), none, none⟩,
  ⟨(some 47), .load true 3 (.t 5), (some (46, true)), none⟩,
  ⟨(some 48), .load true 3 (.t 7), (some (46, true)), some [48, 47, 46, 6, 8, 9, 11, 10, 12]⟩,
  ⟨(some 49), .aeq false [.i, .i, .b] (.t 47) (.t 48), (some (46, true)), none⟩,
  ⟨(some 50), .pick (.t 46) (.t 49) (.c (.bool false)), none, none⟩,
  ⟨(some 51), .mv (.t 50), none, none⟩,
  ⟨(some 52), .mv (.t 6), (some (51, true)), none⟩,
  ⟨(some 53), .mv (.t 8), (some (51, true)), none⟩,
  ⟨(some 54), .beq false (.t 52) (.t 53), (some (51, true)), none⟩,
  ⟨(some 55), .pick (.t 51) (.t 54) (.c (.bool false)), none, none⟩,
  ⟨(some 56), .mv (.t 55), none, some [9, 11, 56, 10, 12]⟩,
  ⟨(some 57), .mv (.t 9), (some (56, true)), none⟩,
  ⟨(some 58), .mv (.t 11), (some (56, true)), none⟩,
  ⟨(some 59), .bin .eql (.t 57) (.t 58), (some (56, true)), none⟩,
  ⟨(some 60), .pick (.t 56) (.t 59) (.c (.bool false)), none, none⟩,
  ⟨(some 61), .mv (.t 60), none, none⟩,
  ⟨(some 62), .mv (.t 10), (some (61, true)), none⟩,
  ⟨(some 63), .mv (.t 12), (some (61, true)), none⟩,
  ⟨(some 64), .beq false (.t 62) (.t 63), (some (61, true)), some [64, 61]⟩,
  ⟨(some 65), .pick (.t 61) (.t 64) (.c (.bool false)), none, none⟩,
  ⟨(some 66), .mv (.t 65), none, none⟩,
  ⟨(some 67), .call (.c (.fn 10 [])) [], (some (66, true)), none⟩,
  ⟨(some 68), .pick (.t 66) (.t 67) (.c (.bool false)), none, none⟩,
  ⟨(some 4), .mv (.t 68), none, none⟩]
def f3r7 : IC := .reg false [] f3o7 [4]
@[simp] theorem f3r7_run (tbl : TB) (fin : Fin) (K : List Fr) (e : Env) (H : List AO) : run tbl fin K f3r7 e H = regK tbl fin K [] f3o7 [4] e H := run_regK tbl fin K false [] f3o7 [4] e H rfl
def f3body : IC := (.seq f3r0 (.seq (.seq f3r1 (.cond (.t 15) (.seq f3r2 .ret) .skip)) (.seq f3r3 (.seq f3r4 (.seq f3r5 (.seq f3r6 (.seq f3r7 .ret)))))))
def f3 : IFn := ⟨69, 2, [.tmp 4], f3body⟩
/- 4: jobshell/jobshelllaw23.FdtabAdds -/
@[simp] def f4o0 : List IOper := [
  ⟨(some 3), .box 37 6 (.t 1), none, none⟩,
  ⟨(some 4), .mv (.c (.bool false)), none, none⟩]
def f4r0 : IC := .reg false [] f4o0 [3, 0]
@[simp] theorem f4r0_run (tbl : TB) (fin : Fin) (K : List Fr) (e : Env) (H : List AO) : run tbl fin K f4r0 e H = regK tbl fin K [] f4o0 [3, 0] e H := run_regK tbl fin K false [] f4o0 [3, 0] e H rfl
@[simp] def f4o1 : List IOper := [
  ⟨(some 11), .mv (.t 0), none, none⟩,
  ⟨(some 12), .call (.c (.fn 9 [])) [(.c .e0), (.t 11)], none, none⟩,
  ⟨(some 13), .un .not (.t 12), none, none⟩]
def f4r1 : IC := .reg false [] f4o1 [13, 3, 0]
@[simp] theorem f4r1_run (tbl : TB) (fin : Fin) (K : List Fr) (e : Env) (H : List AO) : run tbl fin K f4r1 e H = regK tbl fin K [] f4o1 [13, 3, 0] e H := run_regK tbl fin K false [] f4o1 [13, 3, 0] e H rfl
@[simp] def f4o2 : List IOper := [
  ⟨(some 14), .call (.c (.fn 10 [])) [], none, none⟩,
  ⟨(some 4), .mv (.t 14), none, none⟩]
def f4r2 : IC := .reg false [] f4o2 [4]
@[simp] theorem f4r2_run (tbl : TB) (fin : Fin) (K : List Fr) (e : Env) (H : List AO) : run tbl fin K f4r2 e H = regK tbl fin K [] f4o2 [4] e H := run_regK tbl fin K false [] f4o2 [4] e H rfl
@[simp] def f4o3 : List IOper := [
  ⟨(some 16), .mv (.t 0), none, none⟩,
  ⟨(some 17), .load true 6 (.t 3), none, none⟩,
  ⟨(some 18), .call (.c (.fn 17 [])) [(.t 16), (.t 17)], none, none⟩,
  ⟨(some 15), .mv (.t 18), none, none⟩,
  ⟨(some 19), .ext (.t 15) 0, none, none⟩,
  ⟨(some 20), .ext (.t 15) 1, none, none⟩,
  ⟨(some 21), .ext (.t 15) 2, none, none⟩,
  ⟨(some 5), .mv (.t 19), none, none⟩,
  ⟨(some 6), .mv (.t 20), none, none⟩,
  ⟨(some 7), .mv (.t 21), none, none⟩]
def f4r3 : IC := .reg false [] f4o3 [0, 3, 5, 6, 7]
@[simp] theorem f4r3_run (tbl : TB) (fin : Fin) (K : List Fr) (e : Env) (H : List AO) : run tbl fin K f4r3 e H = regK tbl fin K [] f4o3 [0, 3, 5, 6, 7] e H := run_regK tbl fin K false [] f4o3 [0, 3, 5, 6, 7] e H rfl
@[simp] def f4o4 : List IOper := [
  ⟨(some 23), .mv (.t 0), none, none⟩,
  ⟨(some 24), .load true 6 (.t 3), none, none⟩,
  ⟨(some 25), .call (.c (.fn 18 [])) [(.t 23), (.t 24)], none, none⟩,
  ⟨(some 22), .mv (.t 25), none, none⟩,
  ⟨(some 26), .ext (.t 22) 0, none, none⟩,
  ⟨(some 27), .ext (.t 22) 1, none, none⟩,
  ⟨(some 28), .ext (.t 22) 2, none, none⟩,
  ⟨(some 8), .mv (.t 26), none, none⟩,
  ⟨(some 9), .mv (.t 27), none, none⟩,
  ⟨(some 10), .mv (.t 28), none, none⟩]
def f4r4 : IC := .reg false [] f4o4 [5, 8, 6, 9, 7, 10]
@[simp] theorem f4r4_run (tbl : TB) (fin : Fin) (K : List Fr) (e : Env) (H : List AO) : run tbl fin K f4r4 e H = regK tbl fin K [] f4o4 [5, 8, 6, 9, 7, 10] e H := run_regK tbl fin K false [] f4o4 [5, 8, 6, 9, 7, 10] e H rfl
@[simp] def f4o5 : List IOper := [
  ⟨(some 29), .mv (.t 5), none, none⟩,
  ⟨(some 30), .mv (.t 8), none, none⟩,
  ⟨(some 31), .call (.c (.fn 19 [])) [(.t 29), (.t 30)], none, none⟩,
  ⟨(some 32), .mv (.t 31), none, none⟩,
  ⟨(some 33), .mv (.t 6), (some (32, true)), none⟩,
  ⟨(some 34), .mv (.t 9), (some (32, true)), none⟩,
  ⟨(some 35), .bin .eql (.t 33) (.t 34), (some (32, true)), none⟩,
  ⟨(some 36), .pick (.t 32) (.t 35) (.c (.bool false)), none, some [36, 7, 10]⟩,
  ⟨(some 37), .mv (.t 36), none, none⟩,
  ⟨(some 38), .mv (.t 7), (some (37, true)), none⟩,
  ⟨(some 39), .mv (.t 10), (some (37, true)), none⟩,
  ⟨(some 40), .bin .eql (.t 38) (.t 39), (some (37, true)), none⟩,
  ⟨(some 41), .pick (.t 37) (.t 40) (.c (.bool false)), none, none⟩,
  ⟨(some 42), .mv (.t 41), none, none⟩,
  ⟨(some 43), .call (.c (.fn 10 [])) [], (some (42, true)), none⟩,
  ⟨(some 44), .pick (.t 42) (.t 43) (.c (.bool false)), none, some [44]⟩,
  ⟨(some 4), .mv (.t 44), none, none⟩]
def f4r5 : IC := .reg false [] f4o5 [4]
@[simp] theorem f4r5_run (tbl : TB) (fin : Fin) (K : List Fr) (e : Env) (H : List AO) : run tbl fin K f4r5 e H = regK tbl fin K [] f4o5 [4] e H := run_regK tbl fin K false [] f4o5 [4] e H rfl
def f4body : IC := (.seq f4r0 (.seq (.seq f4r1 (.cond (.t 13) (.seq f4r2 .ret) .skip)) (.seq f4r3 (.seq f4r4 (.seq f4r5 .ret)))))
def f4 : IFn := ⟨45, 2, [.tmp 4], f4body⟩
/- 5: jobshell/jobshelllaw23.FdtabCounts -/
@[simp] def f5o0 : List IOper := [
  ⟨(some 4), .mv (.c (.bool false)), none, none⟩]
def f5r0 : IC := .reg false [] f5o0 [1, 0]
@[simp] theorem f5r0_run (tbl : TB) (fin : Fin) (K : List Fr) (e : Env) (H : List AO) : run tbl fin K f5r0 e H = regK tbl fin K [] f5o0 [1, 0] e H := run_regK tbl fin K false [] f5o0 [1, 0] e H rfl
@[simp] def f5o1 : List IOper := [
  ⟨(some 15), .mv (.t 0), none, none⟩,
  ⟨(some 16), .call (.c (.fn 9 [])) [(.c .e0), (.t 15)], none, none⟩,
  ⟨(some 17), .un .not (.t 16), none, none⟩]
def f5r1 : IC := .reg false [] f5o1 [17, 1, 0]
@[simp] theorem f5r1_run (tbl : TB) (fin : Fin) (K : List Fr) (e : Env) (H : List AO) : run tbl fin K f5r1 e H = regK tbl fin K [] f5o1 [17, 1, 0] e H := run_regK tbl fin K false [] f5o1 [17, 1, 0] e H rfl
@[simp] def f5o2 : List IOper := [
  ⟨(some 18), .call (.c (.fn 10 [])) [], none, none⟩,
  ⟨(some 4), .mv (.t 18), none, none⟩]
def f5r2 : IC := .reg false [] f5o2 [4]
@[simp] theorem f5r2_run (tbl : TB) (fin : Fin) (K : List Fr) (e : Env) (H : List AO) : run tbl fin K f5r2 e H = regK tbl fin K [] f5o2 [4] e H := run_regK tbl fin K false [] f5o2 [4] e H rfl
@[simp] def f5o3 : List IOper := [
  ⟨(some 20), .mv (.t 0), none, none⟩,
  ⟨(some 21), .mv (.t 1), none, none⟩,
  ⟨(some 22), .call (.c (.fn 20 [])) [(.t 20), (.t 21)], none, none⟩,
  ⟨(some 19), .mv (.t 22), none, none⟩,
  ⟨(some 23), .ext (.t 19) 0, none, none⟩,
  ⟨(some 24), .ext (.t 19) 1, none, none⟩,
  ⟨(some 5), .mv (.t 23), none, none⟩,
  ⟨(some 6), .mv (.t 24), none, none⟩]
def f5r3 : IC := .reg false [] f5o3 [0, 1, 5, 6]
@[simp] theorem f5r3_run (tbl : TB) (fin : Fin) (K : List Fr) (e : Env) (H : List AO) : run tbl fin K f5r3 e H = regK tbl fin K [] f5o3 [0, 1, 5, 6] e H := run_regK tbl fin K false [] f5o3 [0, 1, 5, 6] e H rfl
@[simp] def f5o4 : List IOper := [
  ⟨(some 26), .mv (.t 0), none, none⟩,
  ⟨(some 27), .mv (.t 1), none, none⟩,
  ⟨(some 28), .call (.c (.fn 21 [])) [(.t 26), (.t 27)], none, none⟩,
  ⟨(some 25), .mv (.t 28), none, none⟩,
  ⟨(some 29), .ext (.t 25) 0, none, none⟩,
  ⟨(some 30), .ext (.t 25) 1, none, none⟩,
  ⟨(some 7), .mv (.t 29), none, none⟩,
  ⟨(some 8), .mv (.t 30), none, none⟩]
def f5r4 : IC := .reg false [] f5o4 [0, 1, 5, 7, 6, 8]
@[simp] theorem f5r4_run (tbl : TB) (fin : Fin) (K : List Fr) (e : Env) (H : List AO) : run tbl fin K f5r4 e H = regK tbl fin K [] f5o4 [0, 1, 5, 7, 6, 8] e H := run_regK tbl fin K false [] f5o4 [0, 1, 5, 7, 6, 8] e H rfl
@[simp] def f5o5 : List IOper := [
  ⟨(some 32), .mv (.t 0), none, none⟩,
  ⟨(some 33), .mv (.t 1), none, none⟩,
  ⟨(some 34), .call (.c (.fn 22 [])) [(.t 32), (.t 33)], none, none⟩,
  ⟨(some 31), .mv (.t 34), none, none⟩,
  ⟨(some 35), .ext (.t 31) 0, none, none⟩,
  ⟨(some 36), .ext (.t 31) 1, none, none⟩,
  ⟨(some 37), .ext (.t 31) 2, none, none⟩,
  ⟨(some 9), .mv (.t 35), none, none⟩,
  ⟨(some 10), .mv (.t 36), none, none⟩,
  ⟨(some 11), .mv (.t 37), none, none⟩]
def f5r5 : IC := .reg false [] f5o5 [0, 1, 5, 7, 6, 8, 9, 10, 11]
@[simp] theorem f5r5_run (tbl : TB) (fin : Fin) (K : List Fr) (e : Env) (H : List AO) : run tbl fin K f5r5 e H = regK tbl fin K [] f5o5 [0, 1, 5, 7, 6, 8, 9, 10, 11] e H := run_regK tbl fin K false [] f5o5 [0, 1, 5, 7, 6, 8, 9, 10, 11] e H rfl
@[simp] def f5o6 : List IOper := [
  ⟨(some 39), .mv (.t 0), none, none⟩,
  ⟨(some 40), .mv (.t 1), none, none⟩,
  ⟨(some 41), .call (.c (.fn 23 [])) [(.t 39), (.t 40)], none, none⟩,
  ⟨(some 38), .mv (.t 41), none, none⟩,
  ⟨(some 42), .ext (.t 38) 0, none, none⟩,
  ⟨(some 43), .ext (.t 38) 1, none, none⟩,
  ⟨(some 44), .ext (.t 38) 2, none, none⟩,
  ⟨(some 12), .mv (.t 42), none, none⟩,
  ⟨(some 13), .mv (.t 43), none, none⟩,
  ⟨(some 14), .mv (.t 44), none, none⟩]
def f5r6 : IC := .reg false [] f5o6 [5, 7, 6, 8, 9, 12, 10, 13, 11, 14]
@[simp] theorem f5r6_run (tbl : TB) (fin : Fin) (K : List Fr) (e : Env) (H : List AO) : run tbl fin K f5r6 e H = regK tbl fin K [] f5o6 [5, 7, 6, 8, 9, 12, 10, 13, 11, 14] e H := run_regK tbl fin K false [] f5o6 [5, 7, 6, 8, 9, 12, 10, 13, 11, 14] e H rfl
@[simp] def f5o7 : List IOper := [
  ⟨(some 45), .mv (.t 5), none, none⟩,
  ⟨(some 46), .mv (.t 7), none, none⟩,
  ⟨(some 47), .call (.c (.fn 19 [])) [(.t 45), (.t 46)], none, none⟩,
  ⟨(some 48), .mv (.t 47), none, none⟩,
  ⟨(some 49), .mv (.t 6), (some (48, true)), none⟩,
  ⟨(some 50), .mv (.t 8), (some (48, true)), none⟩,
  ⟨(some 51), .bin .eql (.t 49) (.t 50), (some (48, true)), none⟩,
  ⟨(some 52), .pick (.t 48) (.t 51) (.c (.bool false)), none, some [52, 9, 12, 10, 13, 11, 14]⟩,
  ⟨(some 53), .mv (.t 52), none, none⟩,
  ⟨(some 54), .mv (.t 9), (some (53, true)), none⟩,
  ⟨(some 55), .mv (.t 12), (some (53, true)), none⟩,
  ⟨(some 56), .call (.c (.fn 19 [])) [(.t 54), (.t 55)], (some (53, true)), none⟩,
  ⟨(some 57), .pick (.t 53) (.t 56) (.c (.bool false)), none, none⟩,
  ⟨(some 58), .mv (.t 57), none, none⟩,
  ⟨(some 59), .mv (.t 10), (some (58, true)), none⟩,
  ⟨(some 60), .mv (.t 13), (some (58, true)), some [60, 59, 58, 11, 14]⟩,
  ⟨(some 61), .beq false (.t 59) (.t 60), (some (58, true)), none⟩,
  ⟨(some 62), .pick (.t 58) (.t 61) (.c (.bool false)), none, none⟩,
  ⟨(some 63), .mv (.t 62), none, none⟩,
  ⟨(some 64), .mv (.t 11), (some (63, true)), none⟩,
  ⟨(some 65), .mv (.t 14), (some (63, true)), none⟩,
  ⟨(some 66), .bin .eql (.t 64) (.t 65), (some (63, true)), none⟩,
  ⟨(some 67), .pick (.t 63) (.t 66) (.c (.bool false)), none, none⟩,
  ⟨(some 68), .mv (.t 67), none, some [68]⟩,
  ⟨(some 69), .call (.c (.fn 10 [])) [], (some (68, true)), none⟩,
  ⟨(some 70), .pick (.t 68) (.t 69) (.c (.bool false)), none, none⟩,
  ⟨(some 4), .mv (.t 70), none, none⟩]
def f5r7 : IC := .reg false [] f5o7 [4]
@[simp] theorem f5r7_run (tbl : TB) (fin : Fin) (K : List Fr) (e : Env) (H : List AO) : run tbl fin K f5r7 e H = regK tbl fin K [] f5o7 [4] e H := run_regK tbl fin K false [] f5o7 [4] e H rfl
def f5body : IC := (.seq f5r0 (.seq (.seq f5r1 (.cond (.t 17) (.seq f5r2 .ret) .skip)) (.seq f5r3 (.seq f5r4 (.seq f5r5 (.seq f5r6 (.seq f5r7 .ret)))))))
def f5 : IFn := ⟨71, 2, [.tmp 4], f5body⟩
/- 6: jobshell/jobshelllaw23.FdtabBack -/
@[simp] def f6o0 : List IOper := [
  ⟨(some 4), .box 37 6 (.t 1), none, none⟩,
  ⟨(some 6), .mv (.c (.bool false)), none, none⟩]
def f6r0 : IC := .reg false [] f6o0 [4, 0, 2]
@[simp] theorem f6r0_run (tbl : TB) (fin : Fin) (K : List Fr) (e : Env) (H : List AO) : run tbl fin K f6r0 e H = regK tbl fin K [] f6o0 [4, 0, 2] e H := run_regK tbl fin K false [] f6o0 [4, 0, 2] e H rfl
@[simp] def f6o1 : List IOper := [
  ⟨(some 19), .mv (.t 0), none, none⟩,
  ⟨(some 20), .call (.c (.fn 9 [])) [(.c .e0), (.t 19)], none, none⟩,
  ⟨(some 21), .un .not (.t 20), none, none⟩]
def f6r1 : IC := .reg false [] f6o1 [21, 4, 0, 2]
@[simp] theorem f6r1_run (tbl : TB) (fin : Fin) (K : List Fr) (e : Env) (H : List AO) : run tbl fin K f6r1 e H = regK tbl fin K [] f6o1 [21, 4, 0, 2] e H := run_regK tbl fin K false [] f6o1 [21, 4, 0, 2] e H rfl
@[simp] def f6o2 : List IOper := [
  ⟨(some 22), .call (.c (.fn 10 [])) [], none, none⟩,
  ⟨(some 6), .mv (.t 22), none, none⟩]
def f6r2 : IC := .reg false [] f6o2 [6]
@[simp] theorem f6r2_run (tbl : TB) (fin : Fin) (K : List Fr) (e : Env) (H : List AO) : run tbl fin K f6r2 e H = regK tbl fin K [] f6o2 [6] e H := run_regK tbl fin K false [] f6o2 [6] e H rfl
@[simp] def f6o3 : List IOper := [
  ⟨(some 24), .mv (.t 0), none, none⟩,
  ⟨(some 25), .mv (.t 2), none, none⟩,
  ⟨(some 26), .call (.c (.fn 20 [])) [(.t 24), (.t 25)], none, none⟩,
  ⟨(some 23), .mv (.t 26), none, none⟩,
  ⟨(some 27), .ext (.t 23) 0, none, none⟩,
  ⟨(some 28), .ext (.t 23) 1, none, none⟩,
  ⟨(some 7), .mv (.t 27), none, none⟩,
  ⟨(some 8), .mv (.t 28), none, none⟩]
def f6r3 : IC := .reg false [] f6o3 [8, 7, 2, 0, 4]
@[simp] theorem f6r3_run (tbl : TB) (fin : Fin) (K : List Fr) (e : Env) (H : List AO) : run tbl fin K f6r3 e H = regK tbl fin K [] f6o3 [8, 7, 2, 0, 4] e H := run_regK tbl fin K false [] f6o3 [8, 7, 2, 0, 4] e H rfl
@[simp] def f6o4 : List IOper := [
  ⟨(some 29), .mv (.t 8), none, none⟩,
  ⟨(some 30), .bin .eql (.t 29) (.c (.int .i64 0)), none, none⟩,
  ⟨(some 31), .mv (.t 30), none, none⟩,
  ⟨(some 32), .mv (.t 2), (some (31, true)), none⟩,
  ⟨(some 33), .bin .geq (.t 32) (.c (.int .i64 0)), (some (31, true)), none⟩,
  ⟨(some 34), .pick (.t 31) (.t 33) (.c (.bool false)), none, none⟩,
  ⟨(some 35), .mv (.t 34), none, none⟩,
  ⟨(some 36), .mv (.t 2), (some (35, true)), some [36, 35, 7, 2, 0, 4]⟩,
  ⟨(some 37), .mv (.t 0), (some (35, true)), none⟩,
  ⟨(some 38), .len (.t 37), (some (35, true)), none⟩,
  ⟨(some 39), .bin .lss (.t 36) (.t 38), (some (35, true)), none⟩,
  ⟨(some 40), .pick (.t 35) (.t 39) (.c (.bool false)), none, none⟩,
  ⟨(some 41), .mv (.t 40), none, none⟩,
  ⟨(some 42), .mv (.t 0), (some (41, true)), none⟩,
  ⟨(some 43), .mv (.t 2), (some (41, true)), none⟩,
  ⟨(some 44), .idx 6 (.t 42) (.t 43), (some (41, true)), some [44, 41, 7, 2, 0, 4]⟩,
  ⟨(some 45), .fld 4 (.t 44), (some (41, true)), none⟩,
  ⟨(some 46), .load false 1 (.t 45), (some (41, true)), none⟩,
  ⟨(some 47), .bin .gtr (.t 46) (.c (.int .i64 0)), (some (41, true)), none⟩,
  ⟨(some 48), .pick (.t 41) (.t 47) (.c (.bool false)), none, none⟩]
def f6r4 : IC := .reg false [] f6o4 [48, 7, 2, 0, 4]
@[simp] theorem f6r4_run (tbl : TB) (fin : Fin) (K : List Fr) (e : Env) (H : List AO) : run tbl fin K f6r4 e H = regK tbl fin K [] f6o4 [48, 7, 2, 0, 4] e H := run_regK tbl fin K false [] f6o4 [48, 7, 2, 0, 4] e H rfl
@[simp] def f6o5 : List IOper := [
  ⟨(some 50), .mv (.t 7), none, none⟩,
  ⟨(some 51), .mv (.t 2), none, none⟩,
  ⟨(some 52), .call (.c (.fn 22 [])) [(.t 50), (.t 51)], none, none⟩,
  ⟨(some 49), .mv (.t 52), none, none⟩,
  ⟨(some 53), .ext (.t 49) 0, none, none⟩,
  ⟨(some 54), .ext (.t 49) 1, none, none⟩,
  ⟨(some 55), .ext (.t 49) 2, none, none⟩,
  ⟨(some 9), .mv (.t 53), none, none⟩,
  ⟨(some 10), .mv (.t 54), none, none⟩,
  ⟨(some 11), .mv (.t 55), none, none⟩]
def f6r5 : IC := .reg false [] f6o5 [11, 10, 9, 0, 4]
@[simp] theorem f6r5_run (tbl : TB) (fin : Fin) (K : List Fr) (e : Env) (H : List AO) : run tbl fin K f6r5 e H = regK tbl fin K [] f6o5 [11, 10, 9, 0, 4] e H := run_regK tbl fin K false [] f6o5 [11, 10, 9, 0, 4] e H rfl
@[simp] def f6o6 : List IOper := [
  ⟨(some 56), .mv (.t 11), none, none⟩,
  ⟨(some 57), .bin .neq (.t 56) (.c (.int .i64 0)), none, none⟩,
  ⟨(some 58), .mv (.t 57), none, none⟩,
  ⟨(some 59), .mv (.t 10), (some (58, false)), none⟩,
  ⟨(some 60), .pick (.t 58) (.c (.bool true)) (.t 59), none, none⟩,
  ⟨(some 61), .mv (.t 60), none, none⟩,
  ⟨(some 62), .mv (.t 9), (some (61, false)), none⟩,
  ⟨(some 63), .mv (.t 0), (some (61, false)), none⟩,
  ⟨(some 64), .call (.c (.fn 19 [])) [(.t 62), (.t 63)], (some (61, false)), none⟩,
  ⟨(some 65), .un .not (.t 64), (some (61, false)), none⟩,
  ⟨(some 66), .pick (.t 61) (.c (.bool true)) (.t 65), none, none⟩]
def f6r6 : IC := .reg false [] f6o6 [66, 0, 4]
@[simp] theorem f6r6_run (tbl : TB) (fin : Fin) (K : List Fr) (e : Env) (H : List AO) : run tbl fin K f6r6 e H = regK tbl fin K [] f6o6 [66, 0, 4] e H := run_regK tbl fin K false [] f6o6 [66, 0, 4] e H rfl
@[simp] def f6o7 : List IOper := [
  ⟨(some 6), .mv (.c (.bool false)), none, none⟩]
def f6r7 : IC := .reg false [] f6o7 [6]
@[simp] theorem f6r7_run (tbl : TB) (fin : Fin) (K : List Fr) (e : Env) (H : List AO) : run tbl fin K f6r7 e H = regK tbl fin K [] f6o7 [6] e H := run_regK tbl fin K false [] f6o7 [6] e H rfl
@[simp] def f6o8 : List IOper := [
  ⟨(some 67), .fld 4 (.t 4), none, none⟩,
  ⟨none, .store 1 (.t 67) (.c (.int .i64 1)), none, none⟩]
def f6r8 : IC := .reg false [] f6o8 [4, 0]
@[simp] theorem f6r8_run (tbl : TB) (fin : Fin) (K : List Fr) (e : Env) (H : List AO) : run tbl fin K f6r8 e H = regK tbl fin K [] f6o8 [4, 0] e H := run_regK tbl fin K false [] f6o8 [4, 0] e H rfl
@[simp] def f6o9 : List IOper := [
  ⟨(some 69), .mv (.t 0), none, none⟩,
  ⟨(some 70), .load true 6 (.t 4), none, none⟩,
  ⟨(some 71), .call (.c (.fn 17 [])) [(.t 69), (.t 70)], none, none⟩,
  ⟨(some 68), .mv (.t 71), none, none⟩,
  ⟨(some 72), .ext (.t 68) 0, none, none⟩,
  ⟨(some 73), .ext (.t 68) 1, none, none⟩,
  ⟨(some 74), .ext (.t 68) 2, none, none⟩,
  ⟨(some 12), .mv (.t 72), none, none⟩,
  ⟨(some 13), .mv (.t 73), none, none⟩,
  ⟨(some 14), .mv (.t 74), none, none⟩]
def f6r9 : IC := .reg false [] f6o9 [14, 13, 4, 12, 0]
@[simp] theorem f6r9_run (tbl : TB) (fin : Fin) (K : List Fr) (e : Env) (H : List AO) : run tbl fin K f6r9 e H = regK tbl fin K [] f6o9 [14, 13, 4, 12, 0] e H := run_regK tbl fin K false [] f6o9 [14, 13, 4, 12, 0] e H rfl
@[simp] def f6o10 : List IOper := [
  ⟨(some 75), .mv (.t 14), none, none⟩,
  ⟨(some 76), .bin .neq (.t 75) (.c (.int .i64 0)), none, none⟩]
def f6r10 : IC := .reg false [] f6o10 [76, 13, 4, 12, 0]
@[simp] theorem f6r10_run (tbl : TB) (fin : Fin) (K : List Fr) (e : Env) (H : List AO) : run tbl fin K f6r10 e H = regK tbl fin K [] f6o10 [76, 13, 4, 12, 0] e H := run_regK tbl fin K false [] f6o10 [76, 13, 4, 12, 0] e H rfl
@[simp] def f6o11 : List IOper := [
  ⟨(some 77), .mv (.t 12), none, none⟩,
  ⟨(some 78), .mv (.t 0), none, none⟩,
  ⟨(some 79), .call (.c (.fn 19 [])) [(.t 77), (.t 78)], none, none⟩,
  ⟨(some 80), .mv (.t 79), none, none⟩,
  ⟨(some 81), .call (.c (.fn 10 [])) [], (some (80, true)), none⟩,
  ⟨(some 82), .pick (.t 80) (.t 81) (.c (.bool false)), none, none⟩,
  ⟨(some 6), .mv (.t 82), none, none⟩]
def f6r11 : IC := .reg false [] f6o11 [6]
@[simp] theorem f6r11_run (tbl : TB) (fin : Fin) (K : List Fr) (e : Env) (H : List AO) : run tbl fin K f6r11 e H = regK tbl fin K [] f6o11 [6] e H := run_regK tbl fin K false [] f6o11 [6] e H rfl
@[simp] def f6o12 : List IOper := [
  ⟨(some 84), .mv (.t 12), none, none⟩,
  ⟨(some 85), .mv (.t 13), none, none⟩,
  ⟨(some 86), .call (.c (.fn 22 [])) [(.t 84), (.t 85)], none, none⟩,
  ⟨(some 83), .mv (.t 86), none, none⟩,
  ⟨(some 87), .ext (.t 83) 0, none, none⟩,
  ⟨(some 88), .ext (.t 83) 1, none, none⟩,
  ⟨(some 89), .ext (.t 83) 2, none, none⟩,
  ⟨(some 15), .mv (.t 87), none, none⟩,
  ⟨(some 16), .mv (.t 88), none, none⟩,
  ⟨(some 17), .mv (.t 89), none, none⟩]
def f6r12 : IC := .reg false [] f6o12 [17, 16, 4, 0, 13, 15, 12]
@[simp] theorem f6r12_run (tbl : TB) (fin : Fin) (K : List Fr) (e : Env) (H : List AO) : run tbl fin K f6r12 e H = regK tbl fin K [] f6o12 [17, 16, 4, 0, 13, 15, 12] e H := run_regK tbl fin K false [] f6o12 [17, 16, 4, 0, 13, 15, 12] e H rfl
@[simp] def f6o13 : List IOper := [
  ⟨(some 90), .mv (.t 17), none, none⟩,
  ⟨(some 91), .bin .neq (.t 90) (.c (.int .i64 0)), none, none⟩,
  ⟨(some 92), .mv (.t 91), none, none⟩,
  ⟨(some 93), .mv (.t 16), (some (92, false)), none⟩,
  ⟨(some 94), .un .not (.t 93), (some (92, false)), none⟩,
  ⟨(some 95), .pick (.t 92) (.c (.bool true)) (.t 94), none, none⟩,
  ⟨(some 96), .mv (.t 95), none, none⟩,
  ⟨(some 97), .mv (.t 13), (some (96, false)), none⟩,
  ⟨(some 98), .bin .lss (.t 97) (.c (.int .i64 0)), (some (96, false)), none⟩,
  ⟨(some 99), .pick (.t 96) (.c (.bool true)) (.t 98), none, none⟩,
  ⟨(some 100), .mv (.t 99), none, none⟩,
  ⟨(some 101), .mv (.t 13), (some (100, false)), none⟩,
  ⟨(some 102), .mv (.t 15), (some (100, false)), none⟩,
  ⟨(some 103), .len (.t 102), (some (100, false)), none⟩,
  ⟨(some 104), .bin .geq (.t 101) (.t 103), (some (100, false)), none⟩,
  ⟨(some 105), .pick (.t 100) (.c (.bool true)) (.t 104), none, none⟩,
  ⟨(some 106), .mv (.t 105), none, none⟩,
  ⟨(some 107), .mv (.t 15), (some (106, false)), none⟩,
  ⟨(some 108), .len (.t 107), (some (106, false)), none⟩,
  ⟨(some 109), .mv (.t 0), (some (106, false)), none⟩,
  ⟨(some 110), .len (.t 109), (some (106, false)), none⟩,
  ⟨(some 111), .mv (.t 13), (some (106, false)), none⟩,
  ⟨(some 112), .bin .add (.t 111) (.c (.int .i64 1)), (some (106, false)), none⟩,
  ⟨(some 113), .mx (.t 110) (.t 112), (some (106, false)), none⟩,
  ⟨(some 114), .bin .neq (.t 108) (.t 113), (some (106, false)), none⟩,
  ⟨(some 115), .pick (.t 106) (.c (.bool true)) (.t 114), none, none⟩,
  ⟨(some 116), .mv (.t 115), none, none⟩,
  ⟨(some 117), .mv (.t 12), (some (116, false)), none⟩,
  ⟨(some 118), .mv (.t 13), (some (116, false)), none⟩,
  ⟨(some 119), .idx 6 (.t 117) (.t 118), (some (116, false)), none⟩,
  ⟨(some 120), .load true 6 (.t 119), (some (116, false)), none⟩,
  ⟨(some 121), .load true 6 (.t 4), (some (116, false)), none⟩,
  ⟨(some 122), .aeq true [.i, .i, .i, .i, .i, .s] (.t 120) (.t 121), (some (116, false)), none⟩,
  ⟨(some 123), .pick (.t 116) (.c (.bool true)) (.t 122), none, none⟩,
  ⟨(some 124), .mv (.t 123), none, none⟩,
  ⟨(some 125), .mv (.t 15), (some (124, false)), none⟩,
  ⟨(some 126), .mv (.t 13), (some (124, false)), none⟩,
  ⟨(some 127), .idx 6 (.t 125) (.t 126), (some (124, false)), none⟩,
  ⟨(some 128), .load true 6 (.t 127), (some (124, false)), none⟩,
  ⟨(some 129), .build [(.int .i64 0), (.int .i64 0), (.int .i64 0), (.int .i64 0), (.int .i64 0), (.str [])] [], (some (124, false)), none⟩,
  ⟨(some 130), .aeq true [.i, .i, .i, .i, .i, .s] (.t 128) (.t 129), (some (124, false)), none⟩,
  ⟨(some 131), .pick (.t 124) (.c (.bool true)) (.t 130), none, none⟩]
def f6r13 : IC := .reg true [] f6o13 [131, 0, 13, 15, 12]
@[simp] theorem f6r13_run (tbl : TB) (fin : Fin) (K : List Fr) (e : Env) (H : List AO) : run tbl fin K f6r13 e H = regK tbl fin K [] f6o13 [131, 0, 13, 15, 12] e H := run_regK tbl fin K true [] f6o13 [131, 0, 13, 15, 12] e H rfl
@[simp] def f6o14 : List IOper := [
  ⟨(some 6), .mv (.c (.bool false)), none, none⟩]
def f6r14 : IC := .reg false [] f6o14 [6]
@[simp] theorem f6r14_run (tbl : TB) (fin : Fin) (K : List Fr) (e : Env) (H : List AO) : run tbl fin K f6r14 e H = regK tbl fin K [] f6o14 [6] e H := run_regK tbl fin K false [] f6o14 [6] e H rfl
@[simp] def f6o15 : List IOper := [
  ⟨(some 18), .mv (.c (.int .i64 0)), none, none⟩]
def f6r15 : IC := .reg false [] f6o15 [12, 15, 13, 0, 18]
@[simp] theorem f6r15_run (tbl : TB) (fin : Fin) (K : List Fr) (e : Env) (H : List AO) : run tbl fin K f6r15 e H = regK tbl fin K [] f6o15 [12, 15, 13, 0, 18] e H := run_regK tbl fin K false [] f6o15 [12, 15, 13, 0, 18] e H rfl
@[simp] def f6o16 : List IOper := [
  ⟨(some 132), .mv (.t 18), none, none⟩,
  ⟨(some 133), .mv (.t 0), none, none⟩,
  ⟨(some 134), .len (.t 133), none, none⟩,
  ⟨(some 135), .bin .lss (.t 132) (.t 134), none, none⟩]
def f6r16 : IC := .reg false [] f6o16 [135, 0, 13, 15, 12, 18]
@[simp] theorem f6r16_run (tbl : TB) (fin : Fin) (K : List Fr) (e : Env) (H : List AO) : run tbl fin K f6r16 e H = regK tbl fin K [] f6o16 [135, 0, 13, 15, 12, 18] e H := run_regK tbl fin K false [] f6o16 [135, 0, 13, 15, 12, 18] e H rfl
@[simp] def f6o17 : List IOper := [
  ⟨(some 138), .mv (.t 18), none, none⟩,
  ⟨(some 139), .mv (.t 13), none, none⟩,
  ⟨(some 140), .bin .neq (.t 138) (.t 139), none, none⟩,
  ⟨(some 141), .mv (.t 140), none, none⟩,
  ⟨(some 142), .mv (.t 12), (some (141, true)), none⟩,
  ⟨(some 143), .mv (.t 18), (some (141, true)), none⟩,
  ⟨(some 144), .idx 6 (.t 142) (.t 143), (some (141, true)), none⟩,
  ⟨(some 145), .load true 6 (.t 144), (some (141, true)), none⟩,
  ⟨(some 146), .mv (.t 0), (some (141, true)), none⟩,
  ⟨(some 147), .mv (.t 18), (some (141, true)), none⟩,
  ⟨(some 148), .idx 6 (.t 146) (.t 147), (some (141, true)), none⟩,
  ⟨(some 149), .load true 6 (.t 148), (some (141, true)), none⟩,
  ⟨(some 150), .aeq true [.i, .i, .i, .i, .i, .s] (.t 145) (.t 149), (some (141, true)), none⟩,
  ⟨(some 151), .mv (.t 150), (some (141, true)), none⟩,
  ⟨(some 152), .mv (.t 15), (some (151, false)), none⟩,
  ⟨(some 153), .mv (.t 18), (some (151, false)), none⟩,
  ⟨(some 154), .idx 6 (.t 152) (.t 153), (some (151, false)), none⟩,
  ⟨(some 155), .load true 6 (.t 154), (some (151, false)), none⟩,
  ⟨(some 156), .mv (.t 0), (some (151, false)), none⟩,
  ⟨(some 157), .mv (.t 18), (some (151, false)), none⟩,
  ⟨(some 158), .idx 6 (.t 156) (.t 157), (some (151, false)), none⟩,
  ⟨(some 159), .load true 6 (.t 158), (some (151, false)), none⟩,
  ⟨(some 160), .aeq true [.i, .i, .i, .i, .i, .s] (.t 155) (.t 159), (some (151, false)), none⟩,
  ⟨(some 161), .pick (.t 151) (.c (.bool true)) (.t 160), (some (141, true)), none⟩,
  ⟨(some 162), .pick (.t 141) (.t 161) (.c (.bool false)), none, none⟩,
  ⟨(some 163), .mv (.t 162), none, none⟩,
  ⟨(some 164), .mv (.t 18), (some (163, false)), none⟩,
  ⟨(some 165), .mv (.t 13), (some (163, false)), none⟩,
  ⟨(some 166), .bin .eql (.t 164) (.t 165), (some (163, false)), none⟩,
  ⟨(some 167), .mv (.t 166), (some (163, false)), none⟩,
  ⟨(some 168), .mv (.t 0), (some (167, true)), none⟩,
  ⟨(some 169), .mv (.t 18), (some (167, true)), none⟩,
  ⟨(some 170), .idx 6 (.t 168) (.t 169), (some (167, true)), none⟩,
  ⟨(some 171), .fld 0 (.t 170), (some (167, true)), none⟩,
  ⟨(some 172), .load false 1 (.t 171), (some (167, true)), none⟩,
  ⟨(some 173), .bin .neq (.t 172) (.c (.int .i64 0)), (some (167, true)), none⟩,
  ⟨(some 174), .pick (.t 167) (.t 173) (.c (.bool false)), (some (163, false)), none⟩,
  ⟨(some 175), .pick (.t 163) (.c (.bool true)) (.t 174), none, none⟩]
def f6r17 : IC := .reg true [] f6o17 [175, 0, 13, 15, 12, 18]
@[simp] theorem f6r17_run (tbl : TB) (fin : Fin) (K : List Fr) (e : Env) (H : List AO) : run tbl fin K f6r17 e H = regK tbl fin K [] f6o17 [175, 0, 13, 15, 12, 18] e H := run_regK tbl fin K true [] f6o17 [175, 0, 13, 15, 12, 18] e H rfl
@[simp] def f6o18 : List IOper := [
  ⟨(some 6), .mv (.c (.bool false)), none, none⟩]
def f6r18 : IC := .reg false [] f6o18 [6]
@[simp] theorem f6r18_run (tbl : TB) (fin : Fin) (K : List Fr) (e : Env) (H : List AO) : run tbl fin K f6r18 e H = regK tbl fin K [] f6o18 [6] e H := run_regK tbl fin K false [] f6o18 [6] e H rfl
@[simp] def f6o19 : List IOper := [
  ⟨(some 136), .mv (.t 18), none, none⟩,
  ⟨(some 137), .bin .add (.t 136) (.c (.int .i64 1)), none, none⟩,
  ⟨(some 18), .mv (.t 137), none, none⟩]
def f6r19 : IC := .reg false [] f6o19 [12, 15, 13, 0, 18]
@[simp] theorem f6r19_run (tbl : TB) (fin : Fin) (K : List Fr) (e : Env) (H : List AO) : run tbl fin K f6r19 e H = regK tbl fin K [] f6o19 [12, 15, 13, 0, 18] e H := run_regK tbl fin K false [] f6o19 [12, 15, 13, 0, 18] e H rfl
def f6b20 : IC := (.seq (.seq f6r16 (.cond (.t 135) .skip (.exit 0))) (.seq (.block 1 (.seq f6r17 (.cond (.t 175) (.seq f6r18 .ret) .skip))) f6r19))
theorem f6b20_eq : f6b20 = (.seq (.seq f6r16 (.cond (.t 135) .skip (.exit 0))) (.seq (.block 1 (.seq f6r17 (.cond (.t 175) (.seq f6r18 .ret) .skip))) f6r19)) := rfl
@[simp] def f6o21 : List IOper := [
  ⟨(some 176), .call (.c (.fn 10 [])) [], none, none⟩,
  ⟨(some 6), .mv (.t 176), none, none⟩]
def f6r21 : IC := .reg false [] f6o21 [6]
@[simp] theorem f6r21_run (tbl : TB) (fin : Fin) (K : List Fr) (e : Env) (H : List AO) : run tbl fin K f6r21 e H = regK tbl fin K [] f6o21 [6] e H := run_regK tbl fin K false [] f6o21 [6] e H rfl
def f6body : IC := (.seq f6r0 (.seq (.seq f6r1 (.cond (.t 21) (.seq f6r2 .ret) .skip)) (.seq f6r3 (.seq (.seq f6r4 (.cond (.t 48) (.seq f6r5 (.seq f6r6 (.cond (.t 66) (.seq f6r7 .ret) .skip))) .skip)) (.seq f6r8 (.seq f6r9 (.seq (.seq f6r10 (.cond (.t 76) (.seq f6r11 .ret) .skip)) (.seq f6r12 (.seq (.seq f6r13 (.cond (.t 131) (.seq f6r14 .ret) .skip)) (.seq (.seq f6r15 (.block 0 (.loop [12, 15, 13, 0, 18] f6b20))) (.seq f6r21 .ret)))))))))))
def f6 : IFn := ⟨177, 3, [.tmp 6], f6body⟩
/- 7: jobshell/jobshelllaw23.FdtabChanges -/
@[simp] def f7o0 : List IOper := [
  ⟨(some 3), .box 26 3 (.t 1), none, none⟩,
  ⟨(some 4), .mv (.c (.bool false)), none, none⟩]
def f7r0 : IC := .reg false [] f7o0 [0, 3]
@[simp] theorem f7r0_run (tbl : TB) (fin : Fin) (K : List Fr) (e : Env) (H : List AO) : run tbl fin K f7r0 e H = regK tbl fin K [] f7o0 [0, 3] e H := run_regK tbl fin K false [] f7o0 [0, 3] e H rfl
@[simp] def f7o1 : List IOper := [
  ⟨(some 17), .mv (.t 0), none, none⟩,
  ⟨(some 18), .call (.c (.fn 9 [])) [(.t 17), (.c .e0)], none, none⟩,
  ⟨(some 19), .un .not (.t 18), none, none⟩,
  ⟨(some 20), .mv (.t 19), none, none⟩,
  ⟨(some 21), .mv (.t 0), (some (20, false)), none⟩,
  ⟨(some 22), .call (.c (.fn 16 [])) [(.t 21)], (some (20, false)), none⟩,
  ⟨(some 23), .bin .neq (.t 22) (.c (.int .i64 0)), (some (20, false)), none⟩,
  ⟨(some 24), .pick (.t 20) (.c (.bool true)) (.t 23), none, none⟩]
def f7r1 : IC := .reg false [] f7o1 [24, 0, 3]
@[simp] theorem f7r1_run (tbl : TB) (fin : Fin) (K : List Fr) (e : Env) (H : List AO) : run tbl fin K f7r1 e H = regK tbl fin K [] f7o1 [24, 0, 3] e H := run_regK tbl fin K false [] f7o1 [24, 0, 3] e H rfl
@[simp] def f7o2 : List IOper := [
  ⟨(some 25), .call (.c (.fn 10 [])) [], none, none⟩,
  ⟨(some 4), .mv (.t 25), none, none⟩]
def f7r2 : IC := .reg false [] f7o2 [4]
@[simp] theorem f7r2_run (tbl : TB) (fin : Fin) (K : List Fr) (e : Env) (H : List AO) : run tbl fin K f7r2 e H = regK tbl fin K [] f7o2 [4] e H := run_regK tbl fin K false [] f7o2 [4] e H rfl
@[simp] def f7o3 : List IOper := [
  ⟨(some 27), .mv (.t 0), none, none⟩,
  ⟨(some 28), .load true 3 (.t 3), none, none⟩,
  ⟨(some 29), .call (.c (.fn 24 [])) [(.t 27), (.t 28)], none, none⟩,
  ⟨(some 26), .mv (.t 29), none, none⟩,
  ⟨(some 30), .ext (.t 26) 0, none, none⟩,
  ⟨(some 31), .ext (.t 26) 1, none, none⟩,
  ⟨(some 5), .mv (.t 30), none, none⟩,
  ⟨(some 6), .mv (.t 31), none, none⟩]
def f7r3 : IC := .reg false [] f7o3 [3, 0, 5, 6]
@[simp] theorem f7r3_run (tbl : TB) (fin : Fin) (K : List Fr) (e : Env) (H : List AO) : run tbl fin K f7r3 e H = regK tbl fin K [] f7o3 [3, 0, 5, 6] e H := run_regK tbl fin K false [] f7o3 [3, 0, 5, 6] e H rfl
@[simp] def f7o4 : List IOper := [
  ⟨(some 33), .mv (.t 0), none, none⟩,
  ⟨(some 34), .load true 3 (.t 3), none, none⟩,
  ⟨(some 35), .call (.c (.fn 25 [])) [(.t 33), (.t 34)], none, none⟩,
  ⟨(some 32), .mv (.t 35), none, none⟩,
  ⟨(some 36), .ext (.t 32) 0, none, none⟩,
  ⟨(some 37), .ext (.t 32) 1, none, none⟩,
  ⟨(some 7), .mv (.t 36), none, none⟩,
  ⟨(some 8), .mv (.t 37), none, none⟩]
def f7r4 : IC := .reg false [] f7o4 [3, 0, 5, 7, 6, 8]
@[simp] theorem f7r4_run (tbl : TB) (fin : Fin) (K : List Fr) (e : Env) (H : List AO) : run tbl fin K f7r4 e H = regK tbl fin K [] f7o4 [3, 0, 5, 7, 6, 8] e H := run_regK tbl fin K false [] f7o4 [3, 0, 5, 7, 6, 8] e H rfl
@[simp] def f7o5 : List IOper := [
  ⟨(some 39), .mv (.t 0), none, none⟩,
  ⟨(some 40), .fld 0 (.t 3), none, none⟩,
  ⟨(some 41), .load false 1 (.t 40), none, none⟩,
  ⟨(some 42), .call (.c (.fn 26 [])) [(.t 39), (.t 41)], none, none⟩,
  ⟨(some 38), .mv (.t 42), none, none⟩,
  ⟨(some 43), .ext (.t 38) 0, none, none⟩,
  ⟨(some 44), .ext (.t 38) 1, none, none⟩,
  ⟨(some 9), .mv (.t 43), none, none⟩,
  ⟨(some 10), .mv (.t 44), none, none⟩]
def f7r5 : IC := .reg false [] f7o5 [3, 0, 5, 7, 6, 8, 9, 10]
@[simp] theorem f7r5_run (tbl : TB) (fin : Fin) (K : List Fr) (e : Env) (H : List AO) : run tbl fin K f7r5 e H = regK tbl fin K [] f7o5 [3, 0, 5, 7, 6, 8, 9, 10] e H := run_regK tbl fin K false [] f7o5 [3, 0, 5, 7, 6, 8, 9, 10] e H rfl
@[simp] def f7o6 : List IOper := [
  ⟨(some 46), .mv (.t 0), none, none⟩,
  ⟨(some 47), .fld 0 (.t 3), none, none⟩,
  ⟨(some 48), .load false 1 (.t 47), none, none⟩,
  ⟨(some 49), .call (.c (.fn 27 [])) [(.t 46), (.t 48)], none, none⟩,
  ⟨(some 45), .mv (.t 49), none, none⟩,
  ⟨(some 50), .ext (.t 45) 0, none, none⟩,
  ⟨(some 51), .ext (.t 45) 1, none, none⟩,
  ⟨(some 11), .mv (.t 50), none, none⟩,
  ⟨(some 12), .mv (.t 51), none, none⟩]
def f7r6 : IC := .reg false [] f7o6 [0, 5, 7, 6, 8, 9, 11, 10, 12]
@[simp] theorem f7r6_run (tbl : TB) (fin : Fin) (K : List Fr) (e : Env) (H : List AO) : run tbl fin K f7r6 e H = regK tbl fin K [] f7o6 [0, 5, 7, 6, 8, 9, 11, 10, 12] e H := run_regK tbl fin K false [] f7o6 [0, 5, 7, 6, 8, 9, 11, 10, 12] e H rfl
@[simp] def f7o7 : List IOper := [
  ⟨(some 53), .mv (.t 0), none, none⟩,
  ⟨(some 54), .call (.c (.fn 28 [])) [(.t 53)], none, none⟩,
  ⟨(some 52), .mv (.t 54), none, none⟩,
  ⟨(some 55), .ext (.t 52) 0, none, none⟩,
  ⟨(some 56), .ext (.t 52) 1, none, none⟩,
  ⟨(some 13), .mv (.t 55), none, none⟩,
  ⟨(some 14), .mv (.t 56), none, none⟩]
def f7r7 : IC := .reg false [] f7o7 [0, 5, 7, 6, 8, 9, 11, 10, 12, 13, 14]
@[simp] theorem f7r7_run (tbl : TB) (fin : Fin) (K : List Fr) (e : Env) (H : List AO) : run tbl fin K f7r7 e H = regK tbl fin K [] f7o7 [0, 5, 7, 6, 8, 9, 11, 10, 12, 13, 14] e H := run_regK tbl fin K false [] f7o7 [0, 5, 7, 6, 8, 9, 11, 10, 12, 13, 14] e H rfl
@[simp] def f7o8 : List IOper := [
  ⟨(some 58), .mv (.t 0), none, none⟩,
  ⟨(some 59), .call (.c (.fn 29 [])) [(.t 58)], none, none⟩,
  ⟨(some 57), .mv (.t 59), none, none⟩,
  ⟨(some 60), .ext (.t 57) 0, none, none⟩,
  ⟨(some 61), .ext (.t 57) 1, none, none⟩,
  ⟨(some 15), .mv (.t 60), none, none⟩,
  ⟨(some 16), .mv (.t 61), none, none⟩]
def f7r8 : IC := .reg false [] f7o8 [5, 7, 6, 8, 9, 11, 10, 12, 13, 15, 14, 16]
@[simp] theorem f7r8_run (tbl : TB) (fin : Fin) (K : List Fr) (e : Env) (H : List AO) : run tbl fin K f7r8 e H = regK tbl fin K [] f7o8 [5, 7, 6, 8, 9, 11, 10, 12, 13, 15, 14, 16] e H := run_regK tbl fin K false [] f7o8 [5, 7, 6, 8, 9, 11, 10, 12, 13, 15, 14, 16] e H rfl
@[simp] def f7o9 : List IOper := [
  ⟨(some 62), .mv (.t 5), none, none⟩,
  ⟨(some 63), .mv (.t 7), none, none⟩,
  ⟨(some 64), .call (.c (.fn 30 [])) [(.t 62), (.t 63)], none, none⟩,
  ⟨(some 65), .mv (.t 64), none, none⟩,
  ⟨(some 66), .mv (.t 6), (some (65, true)), none⟩,
  ⟨(some 67), .mv (.t 8), (some (65, true)), none⟩,
  ⟨(some 68), .bin .eql (.t 66) (.t 67), (some (65, true)), none⟩,
  ⟨(some 69), .pick (.t 65) (.t 68) (.c (.bool false)), none, some [69, 9, 11, 10, 12, 13, 15, 14, 16]⟩,
  ⟨(some 70), .mv (.t 69), none, none⟩,
  ⟨(some 71), .mv (.t 9), (some (70, true)), none⟩,
  ⟨(some 72), .mv (.t 11), (some (70, true)), none⟩,
  ⟨(some 73), .call (.c (.fn 30 [])) [(.t 71), (.t 72)], (some (70, true)), none⟩,
  ⟨(some 74), .pick (.t 70) (.t 73) (.c (.bool false)), none, none⟩,
  ⟨(some 75), .mv (.t 74), none, none⟩,
  ⟨(some 76), .mv (.t 10), (some (75, true)), none⟩,
  ⟨(some 77), .mv (.t 12), (some (75, true)), some [77, 76, 75, 13, 15, 14, 16]⟩,
  ⟨(some 78), .bin .eql (.t 76) (.t 77), (some (75, true)), none⟩,
  ⟨(some 79), .pick (.t 75) (.t 78) (.c (.bool false)), none, none⟩,
  ⟨(some 80), .mv (.t 79), none, none⟩,
  ⟨(some 81), .mv (.t 13), (some (80, true)), none⟩,
  ⟨(some 82), .mv (.t 15), (some (80, true)), none⟩,
  ⟨(some 83), .call (.c (.fn 30 [])) [(.t 81), (.t 82)], (some (80, true)), none⟩,
  ⟨(some 84), .pick (.t 80) (.t 83) (.c (.bool false)), none, none⟩,
  ⟨(some 85), .mv (.t 84), none, some [14, 16, 85]⟩,
  ⟨(some 86), .mv (.t 14), (some (85, true)), none⟩,
  ⟨(some 87), .mv (.t 16), (some (85, true)), none⟩,
  ⟨(some 88), .call (.c (.fn 31 [])) [(.t 86), (.t 87)], (some (85, true)), none⟩,
  ⟨(some 89), .pick (.t 85) (.t 88) (.c (.bool false)), none, none⟩,
  ⟨(some 90), .mv (.t 89), none, none⟩,
  ⟨(some 91), .call (.c (.fn 10 [])) [], (some (90, true)), none⟩,
  ⟨(some 92), .pick (.t 90) (.t 91) (.c (.bool false)), none, none⟩,
  ⟨(some 4), .mv (.t 92), none, none⟩]
def f7r9 : IC := .reg false [] f7o9 [4]
@[simp] theorem f7r9_run (tbl : TB) (fin : Fin) (K : List Fr) (e : Env) (H : List AO) : run tbl fin K f7r9 e H = regK tbl fin K [] f7o9 [4] e H := run_regK tbl fin K false [] f7o9 [4] e H rfl
def f7body : IC := (.seq f7r0 (.seq (.seq f7r1 (.cond (.t 24) (.seq f7r2 .ret) .skip)) (.seq f7r3 (.seq f7r4 (.seq f7r5 (.seq f7r6 (.seq f7r7 (.seq f7r8 (.seq f7r9 .ret)))))))))
def f7 : IFn := ⟨93, 2, [.tmp 4], f7body⟩
/- 8: jobshell/jobshelllaw23.FdtabStays -/
@[simp] def f8o0 : List IOper := [
  ⟨(some 3), .box 26 3 (.t 1), none, none⟩,
  ⟨(some 4), .mv (.c (.bool false)), none, none⟩]
def f8r0 : IC := .reg false [] f8o0 [0, 3]
@[simp] theorem f8r0_run (tbl : TB) (fin : Fin) (K : List Fr) (e : Env) (H : List AO) : run tbl fin K f8r0 e H = regK tbl fin K [] f8o0 [0, 3] e H := run_regK tbl fin K false [] f8o0 [0, 3] e H rfl
@[simp] def f8o1 : List IOper := [
  ⟨(some 20), .mv (.t 0), none, none⟩,
  ⟨(some 21), .call (.c (.fn 9 [])) [(.t 20), (.c .e0)], none, none⟩,
  ⟨(some 22), .un .not (.t 21), none, none⟩,
  ⟨(some 23), .mv (.t 22), none, none⟩,
  ⟨(some 24), .mv (.t 0), (some (23, false)), none⟩,
  ⟨(some 25), .call (.c (.fn 16 [])) [(.t 24)], (some (23, false)), none⟩,
  ⟨(some 26), .bin .neq (.t 25) (.c (.int .i64 0)), (some (23, false)), none⟩,
  ⟨(some 27), .pick (.t 23) (.c (.bool true)) (.t 26), none, none⟩]
def f8r1 : IC := .reg false [] f8o1 [27, 0, 3]
@[simp] theorem f8r1_run (tbl : TB) (fin : Fin) (K : List Fr) (e : Env) (H : List AO) : run tbl fin K f8r1 e H = regK tbl fin K [] f8o1 [27, 0, 3] e H := run_regK tbl fin K false [] f8o1 [27, 0, 3] e H rfl
@[simp] def f8o2 : List IOper := [
  ⟨(some 28), .call (.c (.fn 10 [])) [], none, none⟩,
  ⟨(some 4), .mv (.t 28), none, none⟩]
def f8r2 : IC := .reg false [] f8o2 [4]
@[simp] theorem f8r2_run (tbl : TB) (fin : Fin) (K : List Fr) (e : Env) (H : List AO) : run tbl fin K f8r2 e H = regK tbl fin K [] f8o2 [4] e H := run_regK tbl fin K false [] f8o2 [4] e H rfl
@[simp] def f8o3 : List IOper := [
  ⟨(some 30), .mv (.t 0), none, none⟩,
  ⟨(some 31), .load true 3 (.t 3), none, none⟩,
  ⟨(some 32), .call (.c (.fn 24 [])) [(.t 30), (.t 31)], none, none⟩,
  ⟨(some 29), .mv (.t 32), none, none⟩,
  ⟨(some 33), .ext (.t 29) 0, none, none⟩,
  ⟨(some 34), .ext (.t 29) 1, none, none⟩,
  ⟨(some 5), .mv (.t 33), none, none⟩,
  ⟨(some 6), .mv (.t 34), none, none⟩]
def f8r3 : IC := .reg false [] f8o3 [6, 3, 5, 0]
@[simp] theorem f8r3_run (tbl : TB) (fin : Fin) (K : List Fr) (e : Env) (H : List AO) : run tbl fin K f8r3 e H = regK tbl fin K [] f8o3 [6, 3, 5, 0] e H := run_regK tbl fin K false [] f8o3 [6, 3, 5, 0] e H rfl
@[simp] def f8o4 : List IOper := [
  ⟨(some 35), .mv (.t 6), none, none⟩,
  ⟨(some 36), .bin .neq (.t 35) (.c (.int .i64 0)), none, none⟩]
def f8r4 : IC := .reg false [] f8o4 [36, 3, 5, 0]
@[simp] theorem f8r4_run (tbl : TB) (fin : Fin) (K : List Fr) (e : Env) (H : List AO) : run tbl fin K f8r4 e H = regK tbl fin K [] f8o4 [36, 3, 5, 0] e H := run_regK tbl fin K false [] f8o4 [36, 3, 5, 0] e H rfl
@[simp] def f8o5 : List IOper := [
  ⟨(some 37), .mv (.t 5), none, none⟩,
  ⟨(some 38), .mv (.t 0), none, none⟩,
  ⟨(some 39), .call (.c (.fn 30 [])) [(.t 37), (.t 38)], none, none⟩,
  ⟨(some 40), .mv (.t 39), none, none⟩,
  ⟨(some 41), .call (.c (.fn 10 [])) [], (some (40, true)), none⟩,
  ⟨(some 42), .pick (.t 40) (.t 41) (.c (.bool false)), none, none⟩,
  ⟨(some 4), .mv (.t 42), none, none⟩]
def f8r5 : IC := .reg false [] f8o5 [4]
@[simp] theorem f8r5_run (tbl : TB) (fin : Fin) (K : List Fr) (e : Env) (H : List AO) : run tbl fin K f8r5 e H = regK tbl fin K [] f8o5 [4] e H := run_regK tbl fin K false [] f8o5 [4] e H rfl
@[simp] def f8o6 : List IOper := [
  ⟨(some 44), .mv (.t 5), none, none⟩,
  ⟨(some 45), .fld 0 (.t 3), none, none⟩,
  ⟨(some 46), .load false 1 (.t 45), none, none⟩,
  ⟨(some 47), .call (.c (.fn 11 [])) [(.t 44), (.t 46)], none, none⟩,
  ⟨(some 43), .mv (.t 47), none, none⟩,
  ⟨(some 48), .ext (.t 43) 0, none, none⟩,
  ⟨(some 49), .ext (.t 43) 1, none, none⟩,
  ⟨(some 7), .new 26 3 (.agg [(.int .i64 0), (.int .i64 0), (.bool false)]), none, none⟩,
  ⟨none, .store 3 (.t 7) (.t 48), none, none⟩,
  ⟨(some 8), .mv (.t 49), none, none⟩]
def f8r6 : IC := .reg false [] f8o6 [8, 7, 3, 5, 0]
@[simp] theorem f8r6_run (tbl : TB) (fin : Fin) (K : List Fr) (e : Env) (H : List AO) : run tbl fin K f8r6 e H = regK tbl fin K [] f8o6 [8, 7, 3, 5, 0] e H := run_regK tbl fin K false [] f8o6 [8, 7, 3, 5, 0] e H rfl
@[simp] def f8o7 : List IOper := [
  ⟨(some 50), .mv (.t 5), none, none⟩,
  ⟨(some 51), .call (.c (.fn 15 [])) [(.t 50)], none, none⟩,
  ⟨(some 52), .bin .neq (.t 51) (.c (.int .i64 0)), none, none⟩,
  ⟨(some 53), .mv (.t 52), none, none⟩,
  ⟨(some 54), .mv (.t 8), (some (53, false)), none⟩,
  ⟨(some 55), .un .not (.t 54), (some (53, false)), none⟩,
  ⟨(some 56), .pick (.t 53) (.c (.bool true)) (.t 55), none, none⟩,
  ⟨(some 57), .mv (.t 56), none, some [7, 57, 3, 5, 0]⟩,
  ⟨(some 58), .load true 3 (.t 7), (some (57, false)), none⟩,
  ⟨(some 59), .load true 3 (.t 3), (some (57, false)), none⟩,
  ⟨(some 60), .aeq true [.i, .i, .b] (.t 58) (.t 59), (some (57, false)), none⟩,
  ⟨(some 61), .pick (.t 57) (.c (.bool true)) (.t 60), none, none⟩]
def f8r7 : IC := .reg false [] f8o7 [61, 3, 5, 0]
@[simp] theorem f8r7_run (tbl : TB) (fin : Fin) (K : List Fr) (e : Env) (H : List AO) : run tbl fin K f8r7 e H = regK tbl fin K [] f8o7 [61, 3, 5, 0] e H := run_regK tbl fin K false [] f8o7 [61, 3, 5, 0] e H rfl
@[simp] def f8o8 : List IOper := [
  ⟨(some 4), .mv (.c (.bool false)), none, none⟩]
def f8r8 : IC := .reg false [] f8o8 [4]
@[simp] theorem f8r8_run (tbl : TB) (fin : Fin) (K : List Fr) (e : Env) (H : List AO) : run tbl fin K f8r8 e H = regK tbl fin K [] f8o8 [4] e H := run_regK tbl fin K false [] f8o8 [4] e H rfl
@[simp] def f8o9 : List IOper := [
  ⟨(some 9), .mv (.c (.int .i64 (-1))), none, none⟩]
def f8r9 : IC := .reg false [] f8o9 [0, 5, 3, 9]
@[simp] theorem f8r9_run (tbl : TB) (fin : Fin) (K : List Fr) (e : Env) (H : List AO) : run tbl fin K f8r9 e H = regK tbl fin K [] f8o9 [0, 5, 3, 9] e H := run_regK tbl fin K false [] f8o9 [0, 5, 3, 9] e H rfl
@[simp] def f8o10 : List IOper := [
  ⟨(some 62), .mv (.t 9), none, none⟩,
  ⟨(some 63), .bin .leq (.t 62) (.c (.int .i64 32)), none, none⟩]
def f8r10 : IC := .reg false [] f8o10 [63, 3, 5, 0, 9]
@[simp] theorem f8r10_run (tbl : TB) (fin : Fin) (K : List Fr) (e : Env) (H : List AO) : run tbl fin K f8r10 e H = regK tbl fin K [] f8o10 [63, 3, 5, 0, 9] e H := run_regK tbl fin K false [] f8o10 [63, 3, 5, 0, 9] e H rfl
@[simp] def f8o11 : List IOper := [
  ⟨(some 67), .mv (.t 0), none, none⟩,
  ⟨(some 68), .mv (.t 9), none, none⟩,
  ⟨(some 69), .call (.c (.fn 11 [])) [(.t 67), (.t 68)], none, none⟩,
  ⟨(some 66), .mv (.t 69), none, none⟩,
  ⟨(some 70), .ext (.t 66) 0, none, none⟩,
  ⟨(some 71), .ext (.t 66) 1, none, none⟩,
  ⟨(some 10), .new 26 3 (.agg [(.int .i64 0), (.int .i64 0), (.bool false)]), none, none⟩,
  ⟨none, .store 3 (.t 10) (.t 70), none, none⟩,
  ⟨(some 11), .mv (.t 71), none, none⟩]
def f8r11 : IC := .reg false [] f8o11 [10, 11, 3, 5, 0, 9]
@[simp] theorem f8r11_run (tbl : TB) (fin : Fin) (K : List Fr) (e : Env) (H : List AO) : run tbl fin K f8r11 e H = regK tbl fin K [] f8o11 [10, 11, 3, 5, 0, 9] e H := run_regK tbl fin K false [] f8o11 [10, 11, 3, 5, 0, 9] e H rfl
@[simp] def f8o12 : List IOper := [
  ⟨(some 73), .mv (.t 5), none, none⟩,
  ⟨(some 74), .mv (.t 9), none, none⟩,
  ⟨(some 75), .call (.c (.fn 11 [])) [(.t 73), (.t 74)], none, none⟩,
  ⟨(some 72), .mv (.t 75), none, none⟩,
  ⟨(some 76), .ext (.t 72) 0, none, none⟩,
  ⟨(some 77), .ext (.t 72) 1, none, none⟩,
  ⟨(some 12), .new 26 3 (.agg [(.int .i64 0), (.int .i64 0), (.bool false)]), none, none⟩,
  ⟨none, .store 3 (.t 12) (.t 76), none, none⟩,
  ⟨(some 13), .mv (.t 77), none, none⟩]
def f8r12 : IC := .reg false [] f8o12 [10, 12, 11, 13, 3, 5, 0, 9]
@[simp] theorem f8r12_run (tbl : TB) (fin : Fin) (K : List Fr) (e : Env) (H : List AO) : run tbl fin K f8r12 e H = regK tbl fin K [] f8o12 [10, 12, 11, 13, 3, 5, 0, 9] e H := run_regK tbl fin K false [] f8o12 [10, 12, 11, 13, 3, 5, 0, 9] e H rfl
@[simp] def f8o13 : List IOper := [
  ⟨(some 78), .mv (.t 9), none, none⟩,
  ⟨(some 79), .fld 0 (.t 3), none, none⟩,
  ⟨(some 80), .load false 1 (.t 79), none, none⟩,
  ⟨(some 81), .bin .neq (.t 78) (.t 80), none, none⟩,
  ⟨(some 82), .mv (.t 81), none, none⟩,
  ⟨(some 83), .load true 3 (.t 10), (some (82, true)), none⟩,
  ⟨(some 84), .load true 3 (.t 12), (some (82, true)), none⟩,
  ⟨(some 85), .aeq true [.i, .i, .b] (.t 83) (.t 84), (some (82, true)), some [85, 11, 13, 82, 3, 5, 0, 9]⟩,
  ⟨(some 86), .mv (.t 85), (some (82, true)), none⟩,
  ⟨(some 87), .mv (.t 11), (some (86, false)), none⟩,
  ⟨(some 88), .mv (.t 13), (some (86, false)), none⟩,
  ⟨(some 89), .beq true (.t 87) (.t 88), (some (86, false)), none⟩,
  ⟨(some 90), .pick (.t 86) (.c (.bool true)) (.t 89), (some (82, true)), none⟩,
  ⟨(some 91), .pick (.t 82) (.t 90) (.c (.bool false)), none, none⟩]
def f8r13 : IC := .reg false [] f8o13 [91, 3, 5, 0, 9]
@[simp] theorem f8r13_run (tbl : TB) (fin : Fin) (K : List Fr) (e : Env) (H : List AO) : run tbl fin K f8r13 e H = regK tbl fin K [] f8o13 [91, 3, 5, 0, 9] e H := run_regK tbl fin K false [] f8o13 [91, 3, 5, 0, 9] e H rfl
@[simp] def f8o14 : List IOper := [
  ⟨(some 4), .mv (.c (.bool false)), none, none⟩]
def f8r14 : IC := .reg false [] f8o14 [4]
@[simp] theorem f8r14_run (tbl : TB) (fin : Fin) (K : List Fr) (e : Env) (H : List AO) : run tbl fin K f8r14 e H = regK tbl fin K [] f8o14 [4] e H := run_regK tbl fin K false [] f8o14 [4] e H rfl
@[simp] def f8o15 : List IOper := [
  ⟨(some 64), .mv (.t 9), none, none⟩,
  ⟨(some 65), .bin .add (.t 64) (.c (.int .i64 1)), none, none⟩,
  ⟨(some 9), .mv (.t 65), none, none⟩]
def f8r15 : IC := .reg false [] f8o15 [0, 5, 3, 9]
@[simp] theorem f8r15_run (tbl : TB) (fin : Fin) (K : List Fr) (e : Env) (H : List AO) : run tbl fin K f8r15 e H = regK tbl fin K [] f8o15 [0, 5, 3, 9] e H := run_regK tbl fin K false [] f8o15 [0, 5, 3, 9] e H rfl
def f8b16 : IC := (.seq (.seq f8r10 (.cond (.t 63) .skip (.exit 0))) (.seq (.block 1 (.seq f8r11 (.seq f8r12 (.seq f8r13 (.cond (.t 91) (.seq f8r14 .ret) .skip))))) f8r15))
theorem f8b16_eq : f8b16 = (.seq (.seq f8r10 (.cond (.t 63) .skip (.exit 0))) (.seq (.block 1 (.seq f8r11 (.seq f8r12 (.seq f8r13 (.cond (.t 91) (.seq f8r14 .ret) .skip))))) f8r15)) := rfl
@[simp] def f8o17 : List IOper := [
  ⟨(some 93), .mv (.t 5), none, none⟩,
  ⟨(some 94), .fld 0 (.t 3), none, none⟩,
  ⟨(some 95), .load false 1 (.t 94), none, none⟩,
  ⟨(some 96), .call (.c (.fn 26 [])) [(.t 93), (.t 95)], none, none⟩,
  ⟨(some 92), .mv (.t 96), none, none⟩,
  ⟨(some 97), .ext (.t 92) 0, none, none⟩,
  ⟨(some 98), .ext (.t 92) 1, none, none⟩,
  ⟨(some 14), .mv (.t 97), none, none⟩,
  ⟨(some 15), .mv (.t 98), none, none⟩]
def f8r17 : IC := .reg false [] f8o17 [15, 14, 0, 3]
@[simp] theorem f8r17_run (tbl : TB) (fin : Fin) (K : List Fr) (e : Env) (H : List AO) : run tbl fin K f8r17 e H = regK tbl fin K [] f8o17 [15, 14, 0, 3] e H := run_regK tbl fin K false [] f8o17 [15, 14, 0, 3] e H rfl
@[simp] def f8o18 : List IOper := [
  ⟨(some 100), .mv (.t 0), none, none⟩,
  ⟨(some 101), .fld 0 (.t 3), none, none⟩,
  ⟨(some 102), .load false 1 (.t 101), none, none⟩,
  ⟨(some 103), .call (.c (.fn 11 [])) [(.t 100), (.t 102)], none, none⟩,
  ⟨(some 99), .mv (.t 103), none, none⟩,
  ⟨(some 104), .ext (.t 99) 0, none, none⟩,
  ⟨(some 105), .ext (.t 99) 1, none, none⟩,
  ⟨(some 16), .new 26 3 (.agg [(.int .i64 0), (.int .i64 0), (.bool false)]), none, none⟩,
  ⟨none, .store 3 (.t 16) (.t 104), none, none⟩,
  ⟨(some 17), .mv (.t 105), none, none⟩]
def f8r18 : IC := .reg false [] f8o18 [15, 14, 0, 3, 17]
@[simp] theorem f8r18_run (tbl : TB) (fin : Fin) (K : List Fr) (e : Env) (H : List AO) : run tbl fin K f8r18 e H = regK tbl fin K [] f8o18 [15, 14, 0, 3, 17] e H := run_regK tbl fin K false [] f8o18 [15, 14, 0, 3, 17] e H rfl
@[simp] def f8o19 : List IOper := [
  ⟨(some 107), .mv (.t 0), none, none⟩,
  ⟨(some 108), .fld 0 (.t 3), none, none⟩,
  ⟨(some 109), .load false 1 (.t 108), none, none⟩,
  ⟨(some 110), .call (.c (.fn 13 [])) [(.t 107), (.t 109)], none, none⟩,
  ⟨(some 106), .mv (.t 110), none, none⟩,
  ⟨(some 111), .ext (.t 106) 0, none, none⟩,
  ⟨(some 112), .ext (.t 106) 1, none, none⟩,
  ⟨(some 18), .mv (.t 111), none, none⟩,
  ⟨(some 19), .mv (.t 112), none, none⟩]
def f8r19 : IC := .reg false [] f8o19 [15, 14, 0, 19, 18, 3, 17]
@[simp] theorem f8r19_run (tbl : TB) (fin : Fin) (K : List Fr) (e : Env) (H : List AO) : run tbl fin K f8r19 e H = regK tbl fin K [] f8o19 [15, 14, 0, 19, 18, 3, 17] e H := run_regK tbl fin K false [] f8o19 [15, 14, 0, 19, 18, 3, 17] e H rfl
@[simp] def f8o20 : List IOper := [
  ⟨(some 113), .mv (.t 15), none, none⟩,
  ⟨(some 114), .bin .eql (.t 113) (.c (.int .i64 0)), none, none⟩,
  ⟨(some 115), .mv (.t 114), none, none⟩,
  ⟨(some 116), .mv (.t 14), (some (115, true)), none⟩,
  ⟨(some 117), .call (.c (.fn 15 [])) [(.t 116)], (some (115, true)), none⟩,
  ⟨(some 118), .bin .eql (.t 117) (.c (.int .i64 0)), (some (115, true)), none⟩,
  ⟨(some 119), .pick (.t 115) (.t 118) (.c (.bool false)), none, none⟩,
  ⟨(some 120), .mv (.t 119), none, some [14, 0, 120, 19, 18, 3, 17]⟩,
  ⟨(some 121), .mv (.t 17), (some (120, true)), none⟩,
  ⟨(some 122), .mv (.t 121), (some (120, true)), none⟩,
  ⟨(some 123), .mv (.t 14), (some (122, false)), none⟩,
  ⟨(some 124), .mv (.t 0), (some (122, false)), none⟩,
  ⟨(some 125), .call (.c (.fn 30 [])) [(.t 123), (.t 124)], (some (122, false)), none⟩,
  ⟨(some 126), .pick (.t 122) (.c (.bool true)) (.t 125), (some (120, true)), none⟩,
  ⟨(some 127), .pick (.t 120) (.t 126) (.c (.bool false)), none, none⟩,
  ⟨(some 128), .mv (.t 127), none, some [19, 18, 3, 17, 128]⟩,
  ⟨(some 129), .mv (.t 19), (some (128, true)), none⟩,
  ⟨(some 130), .mv (.t 129), (some (128, true)), none⟩,
  ⟨(some 131), .mv (.t 18), (some (130, true)), none⟩,
  ⟨(some 132), .fld 0 (.t 3), (some (130, true)), none⟩,
  ⟨(some 133), .load false 1 (.t 132), (some (130, true)), none⟩,
  ⟨(some 134), .bin .eql (.t 131) (.t 133), (some (130, true)), none⟩,
  ⟨(some 135), .pick (.t 130) (.t 134) (.c (.bool false)), (some (128, true)), none⟩,
  ⟨(some 136), .mv (.t 17), (some (128, true)), some [136, 135, 128]⟩,
  ⟨(some 137), .un .not (.t 136), (some (128, true)), none⟩,
  ⟨(some 138), .beq false (.t 135) (.t 137), (some (128, true)), none⟩,
  ⟨(some 139), .pick (.t 128) (.t 138) (.c (.bool false)), none, none⟩,
  ⟨(some 140), .mv (.t 139), none, none⟩,
  ⟨(some 141), .call (.c (.fn 10 [])) [], (some (140, true)), none⟩,
  ⟨(some 142), .pick (.t 140) (.t 141) (.c (.bool false)), none, none⟩,
  ⟨(some 4), .mv (.t 142), none, none⟩]
def f8r20 : IC := .reg false [] f8o20 [4]
@[simp] theorem f8r20_run (tbl : TB) (fin : Fin) (K : List Fr) (e : Env) (H : List AO) : run tbl fin K f8r20 e H = regK tbl fin K [] f8o20 [4] e H := run_regK tbl fin K false [] f8o20 [4] e H rfl
def f8body : IC := (.seq f8r0 (.seq (.seq f8r1 (.cond (.t 27) (.seq f8r2 .ret) .skip)) (.seq f8r3 (.seq (.seq f8r4 (.cond (.t 36) (.seq f8r5 .ret) .skip)) (.seq f8r6 (.seq (.seq f8r7 (.cond (.t 61) (.seq f8r8 .ret) .skip)) (.seq (.seq f8r9 (.block 0 (.loop [0, 5, 3, 9] f8b16))) (.seq f8r17 (.seq f8r18 (.seq f8r19 (.seq f8r20 .ret)))))))))))
def f8 : IFn := ⟨143, 2, [.tmp 4], f8body⟩
/- 9: jobshell/jobshelllaw23.short -/
@[simp] def f9o0 : List IOper := [
  ⟨(some 4), .mv (.c (.bool false)), none, none⟩]
def f9r0 : IC := .reg false [] f9o0 [0, 1]
@[simp] theorem f9r0_run (tbl : TB) (fin : Fin) (K : List Fr) (e : Env) (H : List AO) : run tbl fin K f9r0 e H = regK tbl fin K [] f9o0 [0, 1] e H := run_regK tbl fin K false [] f9o0 [0, 1] e H rfl
@[simp] def f9o1 : List IOper := [
  ⟨(some 5), .mv (.t 0), none, none⟩,
  ⟨(some 6), .len (.t 5), none, none⟩,
  ⟨(some 7), .bin .leq (.t 6) (.c (.int .i64 60)), none, none⟩,
  ⟨(some 8), .mv (.t 7), none, none⟩,
  ⟨(some 9), .mv (.t 1), (some (8, true)), none⟩,
  ⟨(some 10), .len (.t 9), (some (8, true)), none⟩,
  ⟨(some 11), .bin .leq (.t 10) (.c (.int .i64 140)), (some (8, true)), none⟩,
  ⟨(some 12), .pick (.t 8) (.t 11) (.c (.bool false)), none, none⟩,
  ⟨(some 4), .mv (.t 12), none, none⟩]
def f9r1 : IC := .reg false [] f9o1 [4]
@[simp] theorem f9r1_run (tbl : TB) (fin : Fin) (K : List Fr) (e : Env) (H : List AO) : run tbl fin K f9r1 e H = regK tbl fin K [] f9o1 [4] e H := run_regK tbl fin K false [] f9o1 [4] e H rfl
def f9body : IC := (.seq f9r0 (.seq f9r1 .ret))
def f9 : IFn := ⟨13, 2, [.tmp 4], f9body⟩
/- 10: jobshell/jobshelllaw23.awake -/
@[simp] def f10o0 : List IOper := [
  ⟨(some 0), .mv (.c (.bool false)), none, none⟩]
def f10r0 : IC := .reg false [] f10o0 []
@[simp] theorem f10r0_run (tbl : TB) (fin : Fin) (K : List Fr) (e : Env) (H : List AO) : run tbl fin K f10r0 e H = regK tbl fin K [] f10o0 [] e H := run_regK tbl fin K false [] f10o0 [] e H rfl
@[simp] def f10o1 : List IOper := [
  ⟨(some 16), .build [(.int .i64 0), (.int .i64 0), (.bool false)] [(0, 1, (.c (.int .i64 0)))], none, none⟩,
  ⟨(some 17), .build [(.int .i64 0), (.int .i64 0), (.bool false)] [(0, 1, (.c (.int .i64 1))), (1, 1, (.c (.int .i64 1)))], none, none⟩,
  ⟨(some 18), .build [(.int .i64 0), (.int .i64 0), (.bool false)] [(0, 1, (.c (.int .i64 2))), (1, 1, (.c (.int .i64 1)))], none, none⟩,
  ⟨(some 19), .mkrow 26 3 3 (.agg [(.int .i64 0), (.int .i64 0), (.bool false)]) [(0, (.t 16)), (1, (.t 17)), (2, (.t 18))], none, none⟩,
  ⟨(some 1), .mv (.t 19), none, none⟩]
def f10r1 : IC := .reg false [] f10o1 [1]
@[simp] theorem f10r1_run (tbl : TB) (fin : Fin) (K : List Fr) (e : Env) (H : List AO) : run tbl fin K f10r1 e H = regK tbl fin K [] f10o1 [1] e H := run_regK tbl fin K false [] f10o1 [1] e H rfl
@[simp] def f10o2 : List IOper := [
  ⟨(some 21), .mv (.t 1), none, none⟩,
  ⟨(some 22), .call (.c (.fn 13 [])) [(.t 21), (.c (.int .i64 0))], none, none⟩,
  ⟨(some 20), .mv (.t 22), none, none⟩,
  ⟨(some 23), .ext (.t 20) 0, none, none⟩,
  ⟨(some 24), .ext (.t 20) 1, none, none⟩,
  ⟨(some 2), .mv (.t 23), none, none⟩,
  ⟨(some 3), .mv (.t 24), none, none⟩]
def f10r2 : IC := .reg false [] f10o2 [2, 3, 1]
@[simp] theorem f10r2_run (tbl : TB) (fin : Fin) (K : List Fr) (e : Env) (H : List AO) : run tbl fin K f10r2 e H = regK tbl fin K [] f10o2 [2, 3, 1] e H := run_regK tbl fin K false [] f10o2 [2, 3, 1] e H rfl
@[simp] def f10o3 : List IOper := [
  ⟨(some 26), .mv (.t 1), none, none⟩,
  ⟨(some 27), .call (.c (.fn 13 [])) [(.t 26), (.c (.int .i64 10))], none, none⟩,
  ⟨(some 25), .mv (.t 27), none, none⟩,
  ⟨(some 28), .ext (.t 25) 0, none, none⟩,
  ⟨(some 29), .ext (.t 25) 1, none, none⟩,
  ⟨(some 4), .mv (.t 28), none, none⟩,
  ⟨(some 5), .mv (.t 29), none, none⟩]
def f10r3 : IC := .reg false [] f10o3 [2, 3, 4, 5, 1]
@[simp] theorem f10r3_run (tbl : TB) (fin : Fin) (K : List Fr) (e : Env) (H : List AO) : run tbl fin K f10r3 e H = regK tbl fin K [] f10o3 [2, 3, 4, 5, 1] e H := run_regK tbl fin K false [] f10o3 [2, 3, 4, 5, 1] e H rfl
@[simp] def f10o4 : List IOper := [
  ⟨(some 31), .mv (.t 1), none, none⟩,
  ⟨(some 32), .call (.c (.fn 13 [])) [(.t 31), (.c (.int .i64 32))], none, none⟩,
  ⟨(some 30), .mv (.t 32), none, none⟩,
  ⟨(some 33), .ext (.t 30) 0, none, none⟩,
  ⟨(some 34), .ext (.t 30) 1, none, none⟩,
  ⟨(some 6), .mv (.t 33), none, none⟩,
  ⟨(some 7), .mv (.t 34), none, none⟩]
def f10r4 : IC := .reg false [] f10o4 [2, 3, 4, 5, 7, 1]
@[simp] theorem f10r4_run (tbl : TB) (fin : Fin) (K : List Fr) (e : Env) (H : List AO) : run tbl fin K f10r4 e H = regK tbl fin K [] f10o4 [2, 3, 4, 5, 7, 1] e H := run_regK tbl fin K false [] f10o4 [2, 3, 4, 5, 7, 1] e H rfl
@[simp] def f10o5 : List IOper := [
  ⟨(some 36), .build [(.int .i64 0), (.int .i64 0), (.bool false)] [(0, 1, (.c (.int .i64 0)))], none, none⟩,
  ⟨(some 37), .build [(.int .i64 0), (.int .i64 0), (.bool false)] [(0, 1, (.c (.int .i64 3))), (1, 1, (.c (.int .i64 5))), (2, 1, (.c (.bool true)))], none, none⟩,
  ⟨(some 38), .build [(.int .i64 0), (.int .i64 0), (.bool false)] [(0, 1, (.c (.int .i64 4))), (1, 1, (.c (.int .i64 5))), (2, 1, (.c (.bool true)))], none, none⟩,
  ⟨(some 39), .mkimm 3 3 (.agg [(.int .i64 0), (.int .i64 0), (.bool false)]) [(0, (.t 36)), (1, (.t 37)), (2, (.t 38))], none, none⟩,
  ⟨(some 40), .call (.c (.fn 28 [])) [(.t 39)], none, none⟩,
  ⟨(some 35), .mv (.t 40), none, none⟩,
  ⟨(some 41), .ext (.t 35) 0, none, none⟩,
  ⟨(some 42), .ext (.t 35) 1, none, none⟩,
  ⟨(some 8), .mv (.t 41), none, none⟩,
  ⟨(some 9), .mv (.t 42), none, none⟩]
def f10r5 : IC := .reg false [] f10o5 [2, 3, 4, 5, 7, 8, 9, 1]
@[simp] theorem f10r5_run (tbl : TB) (fin : Fin) (K : List Fr) (e : Env) (H : List AO) : run tbl fin K f10r5 e H = regK tbl fin K [] f10o5 [2, 3, 4, 5, 7, 8, 9, 1] e H := run_regK tbl fin K false [] f10o5 [2, 3, 4, 5, 7, 8, 9, 1] e H rfl
@[simp] def f10o6 : List IOper := [
  ⟨(some 44), .build [(.int .i64 0), (.int .i64 0), (.int .i64 0), (.int .i64 0), (.int .i64 0), (.str [])] [(0, 1, (.c (.int .i64 5))), (4, 1, (.c (.int .i64 1)))], none, none⟩,
  ⟨(some 45), .call (.c (.fn 17 [])) [(.c .e0), (.t 44)], none, none⟩,
  ⟨(some 43), .mv (.t 45), none, none⟩,
  ⟨(some 46), .ext (.t 43) 0, none, none⟩,
  ⟨(some 47), .ext (.t 43) 1, none, none⟩,
  ⟨(some 48), .ext (.t 43) 2, none, none⟩,
  ⟨(some 10), .mv (.t 46), none, none⟩,
  ⟨(some 11), .mv (.t 47), none, none⟩,
  ⟨(some 12), .mv (.t 48), none, none⟩]
def f10r6 : IC := .reg false [] f10o6 [2, 3, 4, 5, 7, 8, 9, 12, 11, 10, 1]
@[simp] theorem f10r6_run (tbl : TB) (fin : Fin) (K : List Fr) (e : Env) (H : List AO) : run tbl fin K f10r6 e H = regK tbl fin K [] f10o6 [2, 3, 4, 5, 7, 8, 9, 12, 11, 10, 1] e H := run_regK tbl fin K false [] f10o6 [2, 3, 4, 5, 7, 8, 9, 12, 11, 10, 1] e H rfl
@[simp] def f10o7 : List IOper := [
  ⟨(some 50), .mv (.t 10), none, none⟩,
  ⟨(some 51), .call (.c (.fn 22 [])) [(.t 50), (.c (.int .i64 0))], none, none⟩,
  ⟨(some 49), .mv (.t 51), none, none⟩,
  ⟨(some 52), .ext (.t 49) 0, none, none⟩,
  ⟨(some 53), .ext (.t 49) 1, none, none⟩,
  ⟨(some 54), .ext (.t 49) 2, none, none⟩,
  ⟨(some 13), .mv (.t 52), none, none⟩,
  ⟨(some 14), .mv (.t 53), none, none⟩,
  ⟨(some 15), .mv (.t 54), none, none⟩]
def f10r7 : IC := .reg false [] f10o7 [2, 3, 4, 5, 7, 8, 9, 12, 11, 10, 15, 14, 13, 1]
@[simp] theorem f10r7_run (tbl : TB) (fin : Fin) (K : List Fr) (e : Env) (H : List AO) : run tbl fin K f10r7 e H = regK tbl fin K [] f10o7 [2, 3, 4, 5, 7, 8, 9, 12, 11, 10, 15, 14, 13, 1] e H := run_regK tbl fin K false [] f10o7 [2, 3, 4, 5, 7, 8, 9, 12, 11, 10, 15, 14, 13, 1] e H rfl
@[simp] def f10o8 : List IOper := [
  ⟨(some 55), .mv (.t 2), none, none⟩,
  ⟨(some 56), .bin .eql (.t 55) (.c (.int .i64 3)), none, none⟩,
  ⟨(some 57), .mv (.t 56), none, none⟩,
  ⟨(some 58), .mv (.t 3), (some (57, true)), none⟩,
  ⟨(some 59), .pick (.t 57) (.t 58) (.c (.bool false)), none, none⟩,
  ⟨(some 60), .mv (.t 59), none, none⟩,
  ⟨(some 61), .mv (.t 4), (some (60, true)), none⟩,
  ⟨(some 62), .bin .eql (.t 61) (.c (.int .i64 10)), (some (60, true)), some [62, 60, 5, 7, 8, 9, 12, 11, 10, 15, 14, 13, 1]⟩,
  ⟨(some 63), .pick (.t 60) (.t 62) (.c (.bool false)), none, none⟩,
  ⟨(some 64), .mv (.t 63), none, none⟩,
  ⟨(some 65), .mv (.t 5), (some (64, true)), none⟩,
  ⟨(some 66), .pick (.t 64) (.t 65) (.c (.bool false)), none, none⟩,
  ⟨(some 67), .mv (.t 66), none, none⟩,
  ⟨(some 68), .mv (.t 7), (some (67, true)), none⟩,
  ⟨(some 69), .un .not (.t 68), (some (67, true)), none⟩,
  ⟨(some 70), .pick (.t 67) (.t 69) (.c (.bool false)), none, some [70, 8, 9, 12, 11, 10, 15, 14, 13, 1]⟩,
  ⟨(some 71), .mv (.t 70), none, none⟩,
  ⟨(some 72), .mv (.t 8), (some (71, true)), none⟩,
  ⟨(some 73), .len (.t 72), (some (71, true)), none⟩,
  ⟨(some 74), .bin .eql (.t 73) (.c (.int .i64 1)), (some (71, true)), none⟩,
  ⟨(some 75), .pick (.t 71) (.t 74) (.c (.bool false)), none, none⟩,
  ⟨(some 76), .mv (.t 75), none, none⟩,
  ⟨(some 77), .mv (.t 9), (some (76, true)), none⟩,
  ⟨(some 78), .len (.t 77), (some (76, true)), some [78, 76, 9, 12, 11, 10, 15, 14, 13, 1]⟩,
  ⟨(some 79), .bin .eql (.t 78) (.c (.int .i64 2)), (some (76, true)), none⟩,
  ⟨(some 80), .pick (.t 76) (.t 79) (.c (.bool false)), none, none⟩,
  ⟨(some 81), .mv (.t 80), none, none⟩,
  ⟨(some 82), .mv (.t 9), (some (81, true)), none⟩,
  ⟨(some 83), .idx 1 (.t 82) (.c (.int .i64 0)), (some (81, true)), none⟩,
  ⟨(some 84), .load false 1 (.t 83), (some (81, true)), none⟩,
  ⟨(some 85), .bin .eql (.t 84) (.c (.int .i64 5)), (some (81, true)), none⟩,
  ⟨(some 86), .pick (.t 81) (.t 85) (.c (.bool false)), none, some [86, 9, 12, 11, 10, 15, 14, 13, 1]⟩,
  ⟨(some 87), .mv (.t 86), none, none⟩,
  ⟨(some 88), .mv (.t 9), (some (87, true)), none⟩,
  ⟨(some 89), .idx 1 (.t 88) (.c (.int .i64 1)), (some (87, true)), none⟩,
  ⟨(some 90), .load false 1 (.t 89), (some (87, true)), none⟩,
  ⟨(some 91), .bin .eql (.t 90) (.c (.int .i64 5)), (some (87, true)), none⟩,
  ⟨(some 92), .pick (.t 87) (.t 91) (.c (.bool false)), none, none⟩,
  ⟨(some 93), .mv (.t 92), none, none⟩,
  ⟨(some 94), .mv (.t 12), (some (93, true)), some [94, 93, 11, 10, 15, 14, 13, 1]⟩,
  ⟨(some 95), .bin .eql (.t 94) (.c (.int .i64 0)), (some (93, true)), none⟩,
  ⟨(some 96), .pick (.t 93) (.t 95) (.c (.bool false)), none, none⟩,
  ⟨(some 97), .mv (.t 96), none, none⟩,
  ⟨(some 98), .mv (.t 11), (some (97, true)), none⟩,
  ⟨(some 99), .bin .eql (.t 98) (.c (.int .i64 0)), (some (97, true)), none⟩,
  ⟨(some 100), .pick (.t 97) (.t 99) (.c (.bool false)), none, none⟩,
  ⟨(some 101), .mv (.t 100), none, none⟩,
  ⟨(some 102), .mv (.t 10), (some (101, true)), some [102, 101, 15, 14, 13, 1]⟩,
  ⟨(some 103), .len (.t 102), (some (101, true)), none⟩,
  ⟨(some 104), .bin .eql (.t 103) (.c (.int .i64 1)), (some (101, true)), none⟩,
  ⟨(some 105), .pick (.t 101) (.t 104) (.c (.bool false)), none, none⟩,
  ⟨(some 106), .mv (.t 105), none, none⟩,
  ⟨(some 107), .mv (.t 15), (some (106, true)), none⟩,
  ⟨(some 108), .bin .eql (.t 107) (.c (.int .i64 0)), (some (106, true)), none⟩,
  ⟨(some 109), .pick (.t 106) (.t 108) (.c (.bool false)), none, none⟩,
  ⟨(some 110), .mv (.t 109), none, some [14, 110, 13, 1]⟩,
  ⟨(some 111), .mv (.t 14), (some (110, true)), none⟩,
  ⟨(some 112), .pick (.t 110) (.t 111) (.c (.bool false)), none, none⟩,
  ⟨(some 113), .mv (.t 112), none, none⟩,
  ⟨(some 114), .mv (.t 13), (some (113, true)), none⟩,
  ⟨(some 115), .len (.t 114), (some (113, true)), none⟩,
  ⟨(some 116), .bin .eql (.t 115) (.c (.int .i64 1)), (some (113, true)), none⟩,
  ⟨(some 117), .pick (.t 113) (.t 116) (.c (.bool false)), none, none⟩,
  ⟨(some 118), .mv (.t 117), none, some [13, 118, 1]⟩,
  ⟨(some 119), .mv (.t 13), (some (118, true)), none⟩,
  ⟨(some 120), .idx 6 (.t 119) (.c (.int .i64 0)), (some (118, true)), none⟩,
  ⟨(some 121), .load true 6 (.t 120), (some (118, true)), none⟩,
  ⟨(some 122), .build [(.int .i64 0), (.int .i64 0), (.int .i64 0), (.int .i64 0), (.int .i64 0), (.str [])] [], (some (118, true)), none⟩,
  ⟨(some 123), .aeq false [.i, .i, .i, .i, .i, .s] (.t 121) (.t 122), (some (118, true)), none⟩,
  ⟨(some 124), .pick (.t 118) (.t 123) (.c (.bool false)), none, none⟩,
  ⟨(some 125), .mv (.t 124), none, none⟩,
  ⟨(some 126), .mv (.t 1), (some (125, true)), some [126, 125]⟩,
  ⟨(some 127), .call (.c (.fn 15 [])) [(.t 126)], (some (125, true)), none⟩,
  ⟨(some 128), .bin .eql (.t 127) (.c (.int .i64 0)), (some (125, true)), none⟩,
  ⟨(some 129), .pick (.t 125) (.t 128) (.c (.bool false)), none, none⟩,
  ⟨(some 0), .mv (.t 129), none, none⟩]
def f10r8 : IC := .reg false [] f10o8 [0]
@[simp] theorem f10r8_run (tbl : TB) (fin : Fin) (K : List Fr) (e : Env) (H : List AO) : run tbl fin K f10r8 e H = regK tbl fin K [] f10o8 [0] e H := run_regK tbl fin K false [] f10o8 [0] e H rfl
def f10body : IC := (.seq f10r0 (.seq f10r1 (.seq f10r2 (.seq f10r3 (.seq f10r4 (.seq f10r5 (.seq f10r6 (.seq f10r7 (.seq f10r8 .ret)))))))))
def f10 : IFn := ⟨130, 0, [.tmp 0], f10body⟩
/- 11: jobshell/fdtab.Get -/
@[simp] def f11o0 : List IOper := [
  ⟨(some 4), .new 26 3 (.agg [(.int .i64 0), (.int .i64 0), (.bool false)]), none, none⟩,
  ⟨(some 5), .mv (.c (.bool false)), none, none⟩]
def f11r0 : IC := .reg false [] f11o0 [0, 1, 4]
@[simp] theorem f11r0_run (tbl : TB) (fin : Fin) (K : List Fr) (e : Env) (H : List AO) : run tbl fin K f11r0 e H = regK tbl fin K [] f11o0 [0, 1, 4] e H := run_regK tbl fin K false [] f11o0 [0, 1, 4] e H rfl
@[simp] def f11o1 : List IOper := [
  ⟨(some 8), .mv (.t 0), none, none⟩,
  ⟨(some 9), .len (.t 8), none, none⟩,
  ⟨(some 10), .mv (.c (.int .i64 0)), none, none⟩]
def f11r1 : IC := .reg false [] f11o1 [9, 8, 1, 10, 4]
@[simp] theorem f11r1_run (tbl : TB) (fin : Fin) (K : List Fr) (e : Env) (H : List AO) : run tbl fin K f11r1 e H = regK tbl fin K [] f11o1 [9, 8, 1, 10, 4] e H := run_regK tbl fin K false [] f11o1 [9, 8, 1, 10, 4] e H rfl
@[simp] def f11o2 : List IOper := [
  ⟨(some 11), .bin .lss (.t 10) (.t 9), none, none⟩]
def f11r2 : IC := .reg false [] f11o2 [11, 1, 8, 9, 10, 4]
@[simp] theorem f11r2_run (tbl : TB) (fin : Fin) (K : List Fr) (e : Env) (H : List AO) : run tbl fin K f11r2 e H = regK tbl fin K [] f11o2 [11, 1, 8, 9, 10, 4] e H := run_regK tbl fin K false [] f11o2 [11, 1, 8, 9, 10, 4] e H rfl
@[simp] def f11o3 : List IOper := [
  ⟨(some 12), .idx 3 (.t 8) (.t 10), none, none⟩,
  ⟨(some 13), .load true 3 (.t 12), none, none⟩,
  ⟨(some 7), .new 26 3 (.agg [(.int .i64 0), (.int .i64 0), (.bool false)]), none, none⟩,
  ⟨none, .store 3 (.t 7) (.t 13), none, none⟩]
def f11r3 : IC := .reg false [] f11o3 [1, 8, 9, 10, 7, 4]
@[simp] theorem f11r3_run (tbl : TB) (fin : Fin) (K : List Fr) (e : Env) (H : List AO) : run tbl fin K f11r3 e H = regK tbl fin K [] f11o3 [1, 8, 9, 10, 7, 4] e H := run_regK tbl fin K false [] f11o3 [1, 8, 9, 10, 7, 4] e H rfl
@[simp] def f11o4 : List IOper := [
  ⟨(some 14), .fld 0 (.t 7), none, none⟩,
  ⟨(some 15), .load false 1 (.t 14), none, none⟩,
  ⟨(some 16), .mv (.t 1), none, none⟩,
  ⟨(some 17), .bin .eql (.t 15) (.t 16), none, none⟩]
def f11r4 : IC := .reg false [] f11o4 [17, 1, 8, 9, 10, 7, 4]
@[simp] theorem f11r4_run (tbl : TB) (fin : Fin) (K : List Fr) (e : Env) (H : List AO) : run tbl fin K f11r4 e H = regK tbl fin K [] f11o4 [17, 1, 8, 9, 10, 7, 4] e H := run_regK tbl fin K false [] f11o4 [17, 1, 8, 9, 10, 7, 4] e H rfl
@[simp] def f11o5 : List IOper := [
  ⟨(some 18), .load true 3 (.t 7), none, none⟩,
  ⟨none, .store 3 (.t 4) (.t 18), none, none⟩,
  ⟨(some 5), .mv (.c (.bool true)), none, none⟩]
def f11r5 : IC := .reg false [] f11o5 [4, 5]
@[simp] theorem f11r5_run (tbl : TB) (fin : Fin) (K : List Fr) (e : Env) (H : List AO) : run tbl fin K f11r5 e H = regK tbl fin K [] f11o5 [4, 5] e H := run_regK tbl fin K false [] f11o5 [4, 5] e H rfl
@[simp] def f11o6 : List IOper := [
  ⟨(some 19), .bin .add (.t 10) (.c (.int .i64 1)), none, none⟩,
  ⟨(some 10), .mv (.t 19), none, none⟩]
def f11r6 : IC := .reg false [] f11o6 [9, 8, 1, 10, 4]
@[simp] theorem f11r6_run (tbl : TB) (fin : Fin) (K : List Fr) (e : Env) (H : List AO) : run tbl fin K f11r6 e H = regK tbl fin K [] f11o6 [9, 8, 1, 10, 4] e H := run_regK tbl fin K false [] f11o6 [9, 8, 1, 10, 4] e H rfl
def f11b7 : IC := (.seq f11r2 (.seq (.cond (.t 11) .skip (.exit 0)) (.seq (.block 1 (.seq f11r3 (.seq f11r4 (.cond (.t 17) (.seq f11r5 .ret) .skip)))) f11r6)))
theorem f11b7_eq : f11b7 = (.seq f11r2 (.seq (.cond (.t 11) .skip (.exit 0)) (.seq (.block 1 (.seq f11r3 (.seq f11r4 (.cond (.t 17) (.seq f11r5 .ret) .skip)))) f11r6))) := rfl
@[simp] def f11o8 : List IOper := [
  ⟨(some 20), .build [(.int .i64 0), (.int .i64 0), (.bool false)] [], none, none⟩,
  ⟨none, .store 3 (.t 4) (.t 20), none, none⟩,
  ⟨(some 5), .mv (.c (.bool false)), none, none⟩]
def f11r8 : IC := .reg false [] f11o8 [4, 5]
@[simp] theorem f11r8_run (tbl : TB) (fin : Fin) (K : List Fr) (e : Env) (H : List AO) : run tbl fin K f11r8 e H = regK tbl fin K [] f11o8 [4, 5] e H := run_regK tbl fin K false [] f11o8 [4, 5] e H rfl
def f11body : IC := (.seq f11r0 (.seq (.seq f11r1 (.block 0 (.loop [9, 8, 1, 10, 4] f11b7))) (.seq f11r8 .ret)))
def f11 : IFn := ⟨21, 2, [.cell 4 true 3, .tmp 5], f11body⟩
/- 12: jobshell/jobshellref23.Get -/
@[simp] def f12o0 : List IOper := [
  ⟨(some 4), .new 26 3 (.agg [(.int .i64 0), (.int .i64 0), (.bool false)]), none, none⟩,
  ⟨(some 5), .mv (.c (.bool false)), none, none⟩]
def f12r0 : IC := .reg false [] f12o0 [1, 0, 4]
@[simp] theorem f12r0_run (tbl : TB) (fin : Fin) (K : List Fr) (e : Env) (H : List AO) : run tbl fin K f12r0 e H = regK tbl fin K [] f12o0 [1, 0, 4] e H := run_regK tbl fin K false [] f12o0 [1, 0, 4] e H rfl
@[simp] def f12o1 : List IOper := [
  ⟨(some 6), .mv (.c (.int .i64 0)), none, none⟩]
def f12r1 : IC := .reg false [] f12o1 [1, 0, 6, 4]
@[simp] theorem f12r1_run (tbl : TB) (fin : Fin) (K : List Fr) (e : Env) (H : List AO) : run tbl fin K f12r1 e H = regK tbl fin K [] f12o1 [1, 0, 6, 4] e H := run_regK tbl fin K false [] f12o1 [1, 0, 6, 4] e H rfl
@[simp] def f12o2 : List IOper := [
  ⟨(some 7), .mv (.t 6), none, none⟩,
  ⟨(some 8), .mv (.t 0), none, none⟩,
  ⟨(some 9), .len (.t 8), none, none⟩,
  ⟨(some 10), .bin .lss (.t 7) (.t 9), none, none⟩]
def f12r2 : IC := .reg false [] f12o2 [10, 1, 0, 6, 4]
@[simp] theorem f12r2_run (tbl : TB) (fin : Fin) (K : List Fr) (e : Env) (H : List AO) : run tbl fin K f12r2 e H = regK tbl fin K [] f12o2 [10, 1, 0, 6, 4] e H := run_regK tbl fin K false [] f12o2 [10, 1, 0, 6, 4] e H rfl
@[simp] def f12o3 : List IOper := [
  ⟨(some 13), .mv (.t 0), none, none⟩,
  ⟨(some 14), .mv (.t 6), none, none⟩,
  ⟨(some 15), .idx 3 (.t 13) (.t 14), none, none⟩,
  ⟨(some 16), .fld 0 (.t 15), none, none⟩,
  ⟨(some 17), .load false 1 (.t 16), none, none⟩,
  ⟨(some 18), .mv (.t 1), none, none⟩,
  ⟨(some 19), .bin .eql (.t 17) (.t 18), none, none⟩]
def f12r3 : IC := .reg false [] f12o3 [19, 1, 0, 6, 4]
@[simp] theorem f12r3_run (tbl : TB) (fin : Fin) (K : List Fr) (e : Env) (H : List AO) : run tbl fin K f12r3 e H = regK tbl fin K [] f12o3 [19, 1, 0, 6, 4] e H := run_regK tbl fin K false [] f12o3 [19, 1, 0, 6, 4] e H rfl
@[simp] def f12o4 : List IOper := [
  ⟨(some 20), .mv (.t 0), none, none⟩,
  ⟨(some 21), .mv (.t 6), none, none⟩,
  ⟨(some 22), .idx 3 (.t 20) (.t 21), none, none⟩,
  ⟨(some 23), .load true 3 (.t 22), none, none⟩,
  ⟨none, .store 3 (.t 4) (.t 23), none, none⟩,
  ⟨(some 5), .mv (.c (.bool true)), none, none⟩]
def f12r4 : IC := .reg false [] f12o4 [4, 5]
@[simp] theorem f12r4_run (tbl : TB) (fin : Fin) (K : List Fr) (e : Env) (H : List AO) : run tbl fin K f12r4 e H = regK tbl fin K [] f12o4 [4, 5] e H := run_regK tbl fin K false [] f12o4 [4, 5] e H rfl
@[simp] def f12o5 : List IOper := [
  ⟨(some 11), .mv (.t 6), none, none⟩,
  ⟨(some 12), .bin .add (.t 11) (.c (.int .i64 1)), none, none⟩,
  ⟨(some 6), .mv (.t 12), none, none⟩]
def f12r5 : IC := .reg false [] f12o5 [1, 0, 6, 4]
@[simp] theorem f12r5_run (tbl : TB) (fin : Fin) (K : List Fr) (e : Env) (H : List AO) : run tbl fin K f12r5 e H = regK tbl fin K [] f12o5 [1, 0, 6, 4] e H := run_regK tbl fin K false [] f12o5 [1, 0, 6, 4] e H rfl
def f12b6 : IC := (.seq (.seq f12r2 (.cond (.t 10) .skip (.exit 0))) (.seq (.block 1 (.seq f12r3 (.cond (.t 19) (.seq f12r4 .ret) .skip))) f12r5))
theorem f12b6_eq : f12b6 = (.seq (.seq f12r2 (.cond (.t 10) .skip (.exit 0))) (.seq (.block 1 (.seq f12r3 (.cond (.t 19) (.seq f12r4 .ret) .skip))) f12r5)) := rfl
@[simp] def f12o7 : List IOper := [
  ⟨(some 24), .build [(.int .i64 0), (.int .i64 0), (.bool false)] [], none, none⟩,
  ⟨none, .store 3 (.t 4) (.t 24), none, none⟩,
  ⟨(some 5), .mv (.c (.bool false)), none, none⟩]
def f12r7 : IC := .reg false [] f12o7 [4, 5]
@[simp] theorem f12r7_run (tbl : TB) (fin : Fin) (K : List Fr) (e : Env) (H : List AO) : run tbl fin K f12r7 e H = regK tbl fin K [] f12o7 [4, 5] e H := run_regK tbl fin K false [] f12o7 [4, 5] e H rfl
def f12body : IC := (.seq f12r0 (.seq (.seq f12r1 (.block 0 (.loop [1, 0, 6, 4] f12b6))) (.seq f12r7 .ret)))
def f12 : IFn := ⟨25, 2, [.cell 4 true 3, .tmp 5], f12body⟩
/- 13: jobshell/fdtab.Free -/
@[simp] def f13o0 : List IOper := [
  ⟨(some 4), .mv (.c (.int .i64 0)), none, none⟩,
  ⟨(some 5), .mv (.c (.bool false)), none, none⟩]
def f13r0 : IC := .reg false [] f13o0 [1, 0]
@[simp] theorem f13r0_run (tbl : TB) (fin : Fin) (K : List Fr) (e : Env) (H : List AO) : run tbl fin K f13r0 e H = regK tbl fin K [] f13o0 [1, 0] e H := run_regK tbl fin K false [] f13o0 [1, 0] e H rfl
@[simp] def f13o1 : List IOper := [
  ⟨(some 9), .mv (.t 1), none, none⟩,
  ⟨(some 10), .mx (.t 9) (.c (.int .i64 0)), none, none⟩,
  ⟨(some 6), .mv (.t 10), none, none⟩]
def f13r1 : IC := .reg false [] f13o1 [0, 6]
@[simp] theorem f13r1_run (tbl : TB) (fin : Fin) (K : List Fr) (e : Env) (H : List AO) : run tbl fin K f13r1 e H = regK tbl fin K [] f13o1 [0, 6] e H := run_regK tbl fin K false [] f13o1 [0, 6] e H rfl
@[simp] def f13o2 : List IOper := [
  ⟨(some 11), .mv (.t 6), none, none⟩,
  ⟨(some 12), .bin .lss (.t 11) (.c (.int .i64 32)), none, none⟩]
def f13r2 : IC := .reg false [] f13o2 [12, 0, 6]
@[simp] theorem f13r2_run (tbl : TB) (fin : Fin) (K : List Fr) (e : Env) (H : List AO) : run tbl fin K f13r2 e H = regK tbl fin K [] f13o2 [12, 0, 6] e H := run_regK tbl fin K false [] f13o2 [12, 0, 6] e H rfl
@[simp] def f13o3 : List IOper := [
  ⟨(some 16), .mv (.t 0), none, none⟩,
  ⟨(some 17), .mv (.t 6), none, none⟩,
  ⟨(some 18), .call (.c (.fn 11 [])) [(.t 16), (.t 17)], none, none⟩,
  ⟨(some 15), .mv (.t 18), none, none⟩,
  ⟨(some 19), .ext (.t 15) 0, none, none⟩,
  ⟨(some 20), .ext (.t 15) 1, none, none⟩,
  ⟨(some 7), .new 26 3 (.agg [(.int .i64 0), (.int .i64 0), (.bool false)]), none, none⟩,
  ⟨none, .store 3 (.t 7) (.t 19), none, none⟩,
  ⟨(some 8), .mv (.t 20), none, none⟩]
def f13r3 : IC := .reg false [] f13o3 [8, 0, 6]
@[simp] theorem f13r3_run (tbl : TB) (fin : Fin) (K : List Fr) (e : Env) (H : List AO) : run tbl fin K f13r3 e H = regK tbl fin K [] f13o3 [8, 0, 6] e H := run_regK tbl fin K false [] f13o3 [8, 0, 6] e H rfl
@[simp] def f13o4 : List IOper := [
  ⟨(some 21), .mv (.t 8), none, none⟩,
  ⟨(some 22), .un .not (.t 21), none, none⟩]
def f13r4 : IC := .reg false [] f13o4 [22, 0, 6]
@[simp] theorem f13r4_run (tbl : TB) (fin : Fin) (K : List Fr) (e : Env) (H : List AO) : run tbl fin K f13r4 e H = regK tbl fin K [] f13o4 [22, 0, 6] e H := run_regK tbl fin K false [] f13o4 [22, 0, 6] e H rfl
@[simp] def f13o5 : List IOper := [
  ⟨(some 23), .mv (.t 6), none, none⟩,
  ⟨(some 4), .mv (.t 23), none, none⟩,
  ⟨(some 5), .mv (.c (.bool true)), none, none⟩]
def f13r5 : IC := .reg false [] f13o5 [4, 5]
@[simp] theorem f13r5_run (tbl : TB) (fin : Fin) (K : List Fr) (e : Env) (H : List AO) : run tbl fin K f13r5 e H = regK tbl fin K [] f13o5 [4, 5] e H := run_regK tbl fin K false [] f13o5 [4, 5] e H rfl
@[simp] def f13o6 : List IOper := [
  ⟨(some 13), .mv (.t 6), none, none⟩,
  ⟨(some 14), .bin .add (.t 13) (.c (.int .i64 1)), none, none⟩,
  ⟨(some 6), .mv (.t 14), none, none⟩]
def f13r6 : IC := .reg false [] f13o6 [0, 6]
@[simp] theorem f13r6_run (tbl : TB) (fin : Fin) (K : List Fr) (e : Env) (H : List AO) : run tbl fin K f13r6 e H = regK tbl fin K [] f13o6 [0, 6] e H := run_regK tbl fin K false [] f13o6 [0, 6] e H rfl
def f13b7 : IC := (.seq (.seq f13r2 (.cond (.t 12) .skip (.exit 0))) (.seq (.block 1 (.seq f13r3 (.seq f13r4 (.cond (.t 22) (.seq f13r5 .ret) .skip)))) f13r6))
theorem f13b7_eq : f13b7 = (.seq (.seq f13r2 (.cond (.t 12) .skip (.exit 0))) (.seq (.block 1 (.seq f13r3 (.seq f13r4 (.cond (.t 22) (.seq f13r5 .ret) .skip)))) f13r6)) := rfl
@[simp] def f13o8 : List IOper := [
  ⟨(some 4), .mv (.c (.int .i64 0)), none, none⟩,
  ⟨(some 5), .mv (.c (.bool false)), none, none⟩]
def f13r8 : IC := .reg false [] f13o8 [4, 5]
@[simp] theorem f13r8_run (tbl : TB) (fin : Fin) (K : List Fr) (e : Env) (H : List AO) : run tbl fin K f13r8 e H = regK tbl fin K [] f13o8 [4, 5] e H := run_regK tbl fin K false [] f13o8 [4, 5] e H rfl
def f13body : IC := (.seq f13r0 (.seq (.seq f13r1 (.block 0 (.loop [0, 6] f13b7))) (.seq f13r8 .ret)))
def f13 : IFn := ⟨24, 2, [.tmp 4, .tmp 5], f13body⟩
/- 14: jobshell/jobshellref23.Free -/
@[simp] def f14o0 : List IOper := [
  ⟨(some 4), .mv (.c (.int .i64 0)), none, none⟩,
  ⟨(some 5), .mv (.c (.bool false)), none, none⟩]
def f14r0 : IC := .reg false [] f14o0 [0, 1]
@[simp] theorem f14r0_run (tbl : TB) (fin : Fin) (K : List Fr) (e : Env) (H : List AO) : run tbl fin K f14r0 e H = regK tbl fin K [] f14o0 [0, 1] e H := run_regK tbl fin K false [] f14o0 [0, 1] e H rfl
@[simp] def f14o1 : List IOper := [
  ⟨(some 6), .mv (.c (.int .i64 0)), none, none⟩]
def f14r1 : IC := .reg false [] f14o1 [0, 1, 6]
@[simp] theorem f14r1_run (tbl : TB) (fin : Fin) (K : List Fr) (e : Env) (H : List AO) : run tbl fin K f14r1 e H = regK tbl fin K [] f14o1 [0, 1, 6] e H := run_regK tbl fin K false [] f14o1 [0, 1, 6] e H rfl
@[simp] def f14o2 : List IOper := [
  ⟨(some 9), .mv (.t 6), none, none⟩,
  ⟨(some 10), .bin .lss (.t 9) (.c (.int .i64 32)), none, none⟩]
def f14r2 : IC := .reg false [] f14o2 [10, 1, 0, 6]
@[simp] theorem f14r2_run (tbl : TB) (fin : Fin) (K : List Fr) (e : Env) (H : List AO) : run tbl fin K f14r2 e H = regK tbl fin K [] f14o2 [10, 1, 0, 6] e H := run_regK tbl fin K false [] f14o2 [10, 1, 0, 6] e H rfl
@[simp] def f14o3 : List IOper := [
  ⟨(some 14), .mv (.t 0), none, none⟩,
  ⟨(some 15), .mv (.t 6), none, none⟩,
  ⟨(some 16), .call (.c (.fn 12 [])) [(.t 14), (.t 15)], none, none⟩,
  ⟨(some 13), .mv (.t 16), none, none⟩,
  ⟨(some 17), .ext (.t 13) 0, none, none⟩,
  ⟨(some 18), .ext (.t 13) 1, none, none⟩,
  ⟨(some 7), .new 26 3 (.agg [(.int .i64 0), (.int .i64 0), (.bool false)]), none, none⟩,
  ⟨none, .store 3 (.t 7) (.t 17), none, none⟩,
  ⟨(some 8), .mv (.t 18), none, none⟩]
def f14r3 : IC := .reg false [] f14o3 [8, 1, 0, 6]
@[simp] theorem f14r3_run (tbl : TB) (fin : Fin) (K : List Fr) (e : Env) (H : List AO) : run tbl fin K f14r3 e H = regK tbl fin K [] f14o3 [8, 1, 0, 6] e H := run_regK tbl fin K false [] f14o3 [8, 1, 0, 6] e H rfl
@[simp] def f14o4 : List IOper := [
  ⟨(some 19), .mv (.t 6), none, none⟩,
  ⟨(some 20), .mv (.t 1), none, none⟩,
  ⟨(some 21), .bin .geq (.t 19) (.t 20), none, none⟩,
  ⟨(some 22), .mv (.t 21), none, none⟩,
  ⟨(some 23), .mv (.t 8), (some (22, true)), none⟩,
  ⟨(some 24), .un .not (.t 23), (some (22, true)), none⟩,
  ⟨(some 25), .pick (.t 22) (.t 24) (.c (.bool false)), none, none⟩]
def f14r4 : IC := .reg false [] f14o4 [25, 1, 0, 6]
@[simp] theorem f14r4_run (tbl : TB) (fin : Fin) (K : List Fr) (e : Env) (H : List AO) : run tbl fin K f14r4 e H = regK tbl fin K [] f14o4 [25, 1, 0, 6] e H := run_regK tbl fin K false [] f14o4 [25, 1, 0, 6] e H rfl
@[simp] def f14o5 : List IOper := [
  ⟨(some 26), .mv (.t 6), none, none⟩,
  ⟨(some 4), .mv (.t 26), none, none⟩,
  ⟨(some 5), .mv (.c (.bool true)), none, none⟩]
def f14r5 : IC := .reg false [] f14o5 [4, 5]
@[simp] theorem f14r5_run (tbl : TB) (fin : Fin) (K : List Fr) (e : Env) (H : List AO) : run tbl fin K f14r5 e H = regK tbl fin K [] f14o5 [4, 5] e H := run_regK tbl fin K false [] f14o5 [4, 5] e H rfl
@[simp] def f14o6 : List IOper := [
  ⟨(some 11), .mv (.t 6), none, none⟩,
  ⟨(some 12), .bin .add (.t 11) (.c (.int .i64 1)), none, none⟩,
  ⟨(some 6), .mv (.t 12), none, none⟩]
def f14r6 : IC := .reg false [] f14o6 [0, 1, 6]
@[simp] theorem f14r6_run (tbl : TB) (fin : Fin) (K : List Fr) (e : Env) (H : List AO) : run tbl fin K f14r6 e H = regK tbl fin K [] f14o6 [0, 1, 6] e H := run_regK tbl fin K false [] f14o6 [0, 1, 6] e H rfl
def f14b7 : IC := (.seq (.seq f14r2 (.cond (.t 10) .skip (.exit 0))) (.seq (.block 1 (.seq f14r3 (.seq f14r4 (.cond (.t 25) (.seq f14r5 .ret) .skip)))) f14r6))
theorem f14b7_eq : f14b7 = (.seq (.seq f14r2 (.cond (.t 10) .skip (.exit 0))) (.seq (.block 1 (.seq f14r3 (.seq f14r4 (.cond (.t 25) (.seq f14r5 .ret) .skip)))) f14r6)) := rfl
@[simp] def f14o8 : List IOper := [
  ⟨(some 4), .mv (.c (.int .i64 0)), none, none⟩,
  ⟨(some 5), .mv (.c (.bool false)), none, none⟩]
def f14r8 : IC := .reg false [] f14o8 [4, 5]
@[simp] theorem f14r8_run (tbl : TB) (fin : Fin) (K : List Fr) (e : Env) (H : List AO) : run tbl fin K f14r8 e H = regK tbl fin K [] f14o8 [4, 5] e H := run_regK tbl fin K false [] f14o8 [4, 5] e H rfl
def f14body : IC := (.seq f14r0 (.seq (.seq f14r1 (.block 0 (.loop [0, 1, 6] f14b7))) (.seq f14r8 .ret)))
def f14 : IFn := ⟨27, 2, [.tmp 4, .tmp 5], f14body⟩
/- 15: jobshell/fdtab.Valid -/
@[simp] def f15o0 : List IOper := [
  ⟨(some 2), .mv (.c (.int .i64 0)), none, none⟩]
def f15r0 : IC := .reg false [] f15o0 [0]
@[simp] theorem f15r0_run (tbl : TB) (fin : Fin) (K : List Fr) (e : Env) (H : List AO) : run tbl fin K f15r0 e H = regK tbl fin K [] f15o0 [0] e H := run_regK tbl fin K false [] f15o0 [0] e H rfl
@[simp] def f15o1 : List IOper := [
  ⟨(some 6), .mv (.t 0), none, none⟩,
  ⟨(some 7), .len (.t 6), none, none⟩,
  ⟨(some 8), .mv (.c (.int .i64 0)), none, none⟩]
def f15r1 : IC := .reg false [] f15o1 [8, 7, 6, 0]
@[simp] theorem f15r1_run (tbl : TB) (fin : Fin) (K : List Fr) (e : Env) (H : List AO) : run tbl fin K f15r1 e H = regK tbl fin K [] f15o1 [8, 7, 6, 0] e H := run_regK tbl fin K false [] f15o1 [8, 7, 6, 0] e H rfl
@[simp] def f15o2 : List IOper := [
  ⟨(some 9), .bin .lss (.t 8) (.t 7), none, none⟩]
def f15r2 : IC := .reg false [] f15o2 [9, 8, 7, 6, 0]
@[simp] theorem f15r2_run (tbl : TB) (fin : Fin) (K : List Fr) (e : Env) (H : List AO) : run tbl fin K f15r2 e H = regK tbl fin K [] f15o2 [9, 8, 7, 6, 0] e H := run_regK tbl fin K false [] f15o2 [9, 8, 7, 6, 0] e H rfl
@[simp] def f15o3 : List IOper := [
  ⟨(some 10), .mv (.t 8), none, none⟩,
  ⟨(some 11), .idx 3 (.t 6) (.t 8), none, none⟩,
  ⟨(some 12), .load true 3 (.t 11), none, none⟩,
  ⟨(some 4), .new 26 3 (.agg [(.int .i64 0), (.int .i64 0), (.bool false)]), none, none⟩,
  ⟨(some 3), .mv (.t 10), none, none⟩,
  ⟨none, .store 3 (.t 4) (.t 12), none, none⟩]
def f15r3 : IC := .reg false [] f15o3 [8, 7, 6, 0, 3, 4]
@[simp] theorem f15r3_run (tbl : TB) (fin : Fin) (K : List Fr) (e : Env) (H : List AO) : run tbl fin K f15r3 e H = regK tbl fin K [] f15o3 [8, 7, 6, 0, 3, 4] e H := run_regK tbl fin K false [] f15o3 [8, 7, 6, 0, 3, 4] e H rfl
@[simp] def f15o4 : List IOper := [
  ⟨(some 13), .load true 3 (.t 4), none, none⟩,
  ⟨(some 14), .call (.c (.fn 32 [])) [(.t 13)], none, none⟩,
  ⟨(some 5), .mv (.t 14), none, none⟩]
def f15r4 : IC := .reg false [] f15o4 [8, 7, 6, 0, 3, 4, 5]
@[simp] theorem f15r4_run (tbl : TB) (fin : Fin) (K : List Fr) (e : Env) (H : List AO) : run tbl fin K f15r4 e H = regK tbl fin K [] f15o4 [8, 7, 6, 0, 3, 4, 5] e H := run_regK tbl fin K false [] f15o4 [8, 7, 6, 0, 3, 4, 5] e H rfl
@[simp] def f15o5 : List IOper := [
  ⟨(some 15), .mv (.t 5), none, none⟩,
  ⟨(some 16), .bin .neq (.t 15) (.c (.int .i64 0)), none, none⟩]
def f15r5 : IC := .reg false [] f15o5 [16, 8, 7, 6, 0, 3, 4, 5]
@[simp] theorem f15r5_run (tbl : TB) (fin : Fin) (K : List Fr) (e : Env) (H : List AO) : run tbl fin K f15r5 e H = regK tbl fin K [] f15o5 [16, 8, 7, 6, 0, 3, 4, 5] e H := run_regK tbl fin K false [] f15o5 [16, 8, 7, 6, 0, 3, 4, 5] e H rfl
@[simp] def f15o6 : List IOper := [
  ⟨(some 17), .mv (.t 5), none, none⟩,
  ⟨(some 2), .mv (.t 17), none, none⟩]
def f15r6 : IC := .reg false [] f15o6 [2]
@[simp] theorem f15r6_run (tbl : TB) (fin : Fin) (K : List Fr) (e : Env) (H : List AO) : run tbl fin K f15r6 e H = regK tbl fin K [] f15o6 [2] e H := run_regK tbl fin K false [] f15o6 [2] e H rfl
@[simp] def f15o7 : List IOper := [
  ⟨(some 18), .mv (.t 3), none, none⟩,
  ⟨(some 19), .bin .gtr (.t 18) (.c (.int .i64 0)), none, none⟩,
  ⟨(some 20), .mv (.t 19), none, none⟩,
  ⟨(some 21), .fld 0 (.t 4), (some (20, true)), none⟩,
  ⟨(some 22), .load false 1 (.t 21), (some (20, true)), none⟩,
  ⟨(some 23), .mv (.t 0), (some (20, true)), none⟩,
  ⟨(some 24), .mv (.t 3), (some (20, true)), none⟩,
  ⟨(some 25), .bin .sub (.t 24) (.c (.int .i64 1)), (some (20, true)), none⟩,
  ⟨(some 26), .idx 3 (.t 23) (.t 25), (some (20, true)), none⟩,
  ⟨(some 27), .fld 0 (.t 26), (some (20, true)), none⟩,
  ⟨(some 28), .load false 1 (.t 27), (some (20, true)), none⟩,
  ⟨(some 29), .bin .leq (.t 22) (.t 28), (some (20, true)), none⟩,
  ⟨(some 30), .pick (.t 20) (.t 29) (.c (.bool false)), none, none⟩]
def f15r7 : IC := .reg true [] f15o7 [30, 0, 6, 7, 8]
@[simp] theorem f15r7_run (tbl : TB) (fin : Fin) (K : List Fr) (e : Env) (H : List AO) : run tbl fin K f15r7 e H = regK tbl fin K [] f15o7 [30, 0, 6, 7, 8] e H := run_regK tbl fin K true [] f15o7 [30, 0, 6, 7, 8] e H rfl
@[simp] def f15o8 : List IOper := [
  ⟨(some 2), .mv (.c (.int .i64 25)), none, none⟩]
def f15r8 : IC := .reg false [] f15o8 [2]
@[simp] theorem f15r8_run (tbl : TB) (fin : Fin) (K : List Fr) (e : Env) (H : List AO) : run tbl fin K f15r8 e H = regK tbl fin K [] f15o8 [2] e H := run_regK tbl fin K false [] f15o8 [2] e H rfl
@[simp] def f15o9 : List IOper := [
  ⟨(some 31), .bin .add (.t 8) (.c (.int .i64 1)), none, none⟩,
  ⟨(some 8), .mv (.t 31), none, none⟩]
def f15r9 : IC := .reg false [] f15o9 [8, 7, 6, 0]
@[simp] theorem f15r9_run (tbl : TB) (fin : Fin) (K : List Fr) (e : Env) (H : List AO) : run tbl fin K f15r9 e H = regK tbl fin K [] f15o9 [8, 7, 6, 0] e H := run_regK tbl fin K false [] f15o9 [8, 7, 6, 0] e H rfl
def f15b10 : IC := (.seq f15r2 (.seq (.cond (.t 9) .skip (.exit 0)) (.seq (.block 1 (.seq f15r3 (.seq (.seq f15r4 (.seq f15r5 (.cond (.t 16) (.seq f15r6 .ret) .skip))) (.seq f15r7 (.cond (.t 30) (.seq f15r8 .ret) .skip))))) f15r9)))
theorem f15b10_eq : f15b10 = (.seq f15r2 (.seq (.cond (.t 9) .skip (.exit 0)) (.seq (.block 1 (.seq f15r3 (.seq (.seq f15r4 (.seq f15r5 (.cond (.t 16) (.seq f15r6 .ret) .skip))) (.seq f15r7 (.cond (.t 30) (.seq f15r8 .ret) .skip))))) f15r9))) := rfl
@[simp] def f15o11 : List IOper := [
  ⟨(some 2), .mv (.c (.int .i64 0)), none, none⟩]
def f15r11 : IC := .reg false [] f15o11 [2]
@[simp] theorem f15r11_run (tbl : TB) (fin : Fin) (K : List Fr) (e : Env) (H : List AO) : run tbl fin K f15r11 e H = regK tbl fin K [] f15o11 [2] e H := run_regK tbl fin K false [] f15o11 [2] e H rfl
def f15body : IC := (.seq f15r0 (.seq (.seq f15r1 (.block 0 (.loop [8, 7, 6, 0] f15b10))) (.seq f15r11 .ret)))
def f15 : IFn := ⟨32, 1, [.tmp 2], f15body⟩
/- 16: jobshell/jobshellref23.Valid -/
@[simp] def f16o0 : List IOper := [
  ⟨(some 2), .mv (.c (.int .i64 0)), none, none⟩]
def f16r0 : IC := .reg false [] f16o0 [0]
@[simp] theorem f16r0_run (tbl : TB) (fin : Fin) (K : List Fr) (e : Env) (H : List AO) : run tbl fin K f16r0 e H = regK tbl fin K [] f16o0 [0] e H := run_regK tbl fin K false [] f16o0 [0] e H rfl
@[simp] def f16o1 : List IOper := [
  ⟨(some 3), .mv (.c (.int .i64 0)), none, none⟩]
def f16r1 : IC := .reg false [] f16o1 [3, 0]
@[simp] theorem f16r1_run (tbl : TB) (fin : Fin) (K : List Fr) (e : Env) (H : List AO) : run tbl fin K f16r1 e H = regK tbl fin K [] f16o1 [3, 0] e H := run_regK tbl fin K false [] f16o1 [3, 0] e H rfl
@[simp] def f16o2 : List IOper := [
  ⟨(some 5), .mv (.t 3), none, none⟩,
  ⟨(some 6), .mv (.t 0), none, none⟩,
  ⟨(some 7), .len (.t 6), none, none⟩,
  ⟨(some 8), .bin .lss (.t 5) (.t 7), none, none⟩]
def f16r2 : IC := .reg false [] f16o2 [8, 3, 0]
@[simp] theorem f16r2_run (tbl : TB) (fin : Fin) (K : List Fr) (e : Env) (H : List AO) : run tbl fin K f16r2 e H = regK tbl fin K [] f16o2 [8, 3, 0] e H := run_regK tbl fin K false [] f16o2 [8, 3, 0] e H rfl
@[simp] def f16o3 : List IOper := [
  ⟨(some 11), .mv (.t 0), none, none⟩,
  ⟨(some 12), .mv (.t 3), none, none⟩,
  ⟨(some 13), .idx 3 (.t 11) (.t 12), none, none⟩,
  ⟨(some 14), .load true 3 (.t 13), none, none⟩,
  ⟨(some 15), .call (.c (.fn 33 [])) [(.t 14)], none, none⟩,
  ⟨(some 4), .mv (.t 15), none, none⟩]
def f16r3 : IC := .reg false [] f16o3 [3, 0, 4]
@[simp] theorem f16r3_run (tbl : TB) (fin : Fin) (K : List Fr) (e : Env) (H : List AO) : run tbl fin K f16r3 e H = regK tbl fin K [] f16o3 [3, 0, 4] e H := run_regK tbl fin K false [] f16o3 [3, 0, 4] e H rfl
@[simp] def f16o4 : List IOper := [
  ⟨(some 16), .mv (.t 4), none, none⟩,
  ⟨(some 17), .bin .neq (.t 16) (.c (.int .i64 0)), none, none⟩]
def f16r4 : IC := .reg false [] f16o4 [17, 3, 0, 4]
@[simp] theorem f16r4_run (tbl : TB) (fin : Fin) (K : List Fr) (e : Env) (H : List AO) : run tbl fin K f16r4 e H = regK tbl fin K [] f16o4 [17, 3, 0, 4] e H := run_regK tbl fin K false [] f16o4 [17, 3, 0, 4] e H rfl
@[simp] def f16o5 : List IOper := [
  ⟨(some 18), .mv (.t 4), none, none⟩,
  ⟨(some 2), .mv (.t 18), none, none⟩]
def f16r5 : IC := .reg false [] f16o5 [2]
@[simp] theorem f16r5_run (tbl : TB) (fin : Fin) (K : List Fr) (e : Env) (H : List AO) : run tbl fin K f16r5 e H = regK tbl fin K [] f16o5 [2] e H := run_regK tbl fin K false [] f16o5 [2] e H rfl
@[simp] def f16o6 : List IOper := [
  ⟨(some 19), .mv (.t 3), none, none⟩,
  ⟨(some 20), .bin .gtr (.t 19) (.c (.int .i64 0)), none, none⟩,
  ⟨(some 21), .mv (.t 20), none, none⟩,
  ⟨(some 22), .mv (.t 0), (some (21, true)), none⟩,
  ⟨(some 23), .mv (.t 3), (some (21, true)), none⟩,
  ⟨(some 24), .idx 3 (.t 22) (.t 23), (some (21, true)), none⟩,
  ⟨(some 25), .fld 0 (.t 24), (some (21, true)), none⟩,
  ⟨(some 26), .load false 1 (.t 25), (some (21, true)), none⟩,
  ⟨(some 27), .mv (.t 0), (some (21, true)), none⟩,
  ⟨(some 28), .mv (.t 3), (some (21, true)), none⟩,
  ⟨(some 29), .bin .sub (.t 28) (.c (.int .i64 1)), (some (21, true)), none⟩,
  ⟨(some 30), .idx 3 (.t 27) (.t 29), (some (21, true)), none⟩,
  ⟨(some 31), .fld 0 (.t 30), (some (21, true)), none⟩,
  ⟨(some 32), .load false 1 (.t 31), (some (21, true)), none⟩,
  ⟨(some 33), .bin .leq (.t 26) (.t 32), (some (21, true)), none⟩,
  ⟨(some 34), .pick (.t 21) (.t 33) (.c (.bool false)), none, none⟩]
def f16r6 : IC := .reg true [] f16o6 [34, 0, 3]
@[simp] theorem f16r6_run (tbl : TB) (fin : Fin) (K : List Fr) (e : Env) (H : List AO) : run tbl fin K f16r6 e H = regK tbl fin K [] f16o6 [34, 0, 3] e H := run_regK tbl fin K true [] f16o6 [34, 0, 3] e H rfl
@[simp] def f16o7 : List IOper := [
  ⟨(some 2), .mv (.c (.int .i64 25)), none, none⟩]
def f16r7 : IC := .reg false [] f16o7 [2]
@[simp] theorem f16r7_run (tbl : TB) (fin : Fin) (K : List Fr) (e : Env) (H : List AO) : run tbl fin K f16r7 e H = regK tbl fin K [] f16o7 [2] e H := run_regK tbl fin K false [] f16o7 [2] e H rfl
@[simp] def f16o8 : List IOper := [
  ⟨(some 9), .mv (.t 3), none, none⟩,
  ⟨(some 10), .bin .add (.t 9) (.c (.int .i64 1)), none, none⟩,
  ⟨(some 3), .mv (.t 10), none, none⟩]
def f16r8 : IC := .reg false [] f16o8 [3, 0]
@[simp] theorem f16r8_run (tbl : TB) (fin : Fin) (K : List Fr) (e : Env) (H : List AO) : run tbl fin K f16r8 e H = regK tbl fin K [] f16o8 [3, 0] e H := run_regK tbl fin K false [] f16o8 [3, 0] e H rfl
def f16b9 : IC := (.seq (.seq f16r2 (.cond (.t 8) .skip (.exit 0))) (.seq (.block 1 (.seq f16r3 (.seq (.seq f16r4 (.cond (.t 17) (.seq f16r5 .ret) .skip)) (.seq f16r6 (.cond (.t 34) (.seq f16r7 .ret) .skip))))) f16r8))
theorem f16b9_eq : f16b9 = (.seq (.seq f16r2 (.cond (.t 8) .skip (.exit 0))) (.seq (.block 1 (.seq f16r3 (.seq (.seq f16r4 (.cond (.t 17) (.seq f16r5 .ret) .skip)) (.seq f16r6 (.cond (.t 34) (.seq f16r7 .ret) .skip))))) f16r8)) := rfl
@[simp] def f16o10 : List IOper := [
  ⟨(some 2), .mv (.c (.int .i64 0)), none, none⟩]
def f16r10 : IC := .reg false [] f16o10 [2]
@[simp] theorem f16r10_run (tbl : TB) (fin : Fin) (K : List Fr) (e : Env) (H : List AO) : run tbl fin K f16r10 e H = regK tbl fin K [] f16o10 [2] e H := run_regK tbl fin K false [] f16o10 [2] e H rfl
def f16body : IC := (.seq f16r0 (.seq (.seq f16r1 (.block 0 (.loop [3, 0] f16b9))) (.seq f16r10 .ret)))
def f16 : IFn := ⟨35, 1, [.tmp 2], f16body⟩
/- 17: jobshell/fdtab.Add -/
@[simp] def f17o0 : List IOper := [
  ⟨(some 3), .box 37 6 (.t 1), none, none⟩,
  ⟨(some 4), .nilrow 37 6, none, none⟩,
  ⟨(some 5), .mv (.c (.int .i64 0)), none, none⟩,
  ⟨(some 6), .mv (.c (.int .i64 0)), none, none⟩]
def f17r0 : IC := .reg false [] f17o0 [3, 0]
@[simp] theorem f17r0_run (tbl : TB) (fin : Fin) (K : List Fr) (e : Env) (H : List AO) : run tbl fin K f17r0 e H = regK tbl fin K [] f17o0 [3, 0] e H := run_regK tbl fin K false [] f17o0 [3, 0] e H rfl
@[simp] def f17o1 : List IOper := [
  ⟨(some 9), .fld 0 (.t 3), none, none⟩,
  ⟨(some 10), .load false 1 (.t 9), none, none⟩,
  ⟨(some 11), .bin .lss (.t 10) (.c (.int .i64 1)), none, none⟩,
  ⟨(some 12), .mv (.t 11), none, none⟩,
  ⟨(some 13), .fld 0 (.t 3), (some (12, false)), none⟩,
  ⟨(some 14), .load false 1 (.t 13), (some (12, false)), none⟩,
  ⟨(some 15), .bin .gtr (.t 14) (.c (.int .i64 7)), (some (12, false)), none⟩,
  ⟨(some 16), .pick (.t 12) (.c (.bool true)) (.t 15), none, none⟩]
def f17r1 : IC := .reg false [] f17o1 [16, 3, 0]
@[simp] theorem f17r1_run (tbl : TB) (fin : Fin) (K : List Fr) (e : Env) (H : List AO) : run tbl fin K f17r1 e H = regK tbl fin K [] f17o1 [16, 3, 0] e H := run_regK tbl fin K false [] f17o1 [16, 3, 0] e H rfl
@[simp] def f17o2 : List IOper := [
  ⟨(some 17), .mv (.t 0), none, none⟩,
  ⟨(some 4), .mv (.t 17), none, none⟩,
  ⟨(some 5), .mv (.c (.int .i64 0)), none, none⟩,
  ⟨(some 6), .mv (.c (.int .i64 1)), none, none⟩]
def f17r2 : IC := .reg false [] f17o2 [4, 5, 6]
@[simp] theorem f17r2_run (tbl : TB) (fin : Fin) (K : List Fr) (e : Env) (H : List AO) : run tbl fin K f17r2 e H = regK tbl fin K [] f17o2 [4, 5, 6] e H := run_regK tbl fin K false [] f17o2 [4, 5, 6] e H rfl
@[simp] def f17o3 : List IOper := [
  ⟨(some 18), .mv (.t 0), none, none⟩,
  ⟨(some 19), .call (.c (.fn 34 [])) [(.t 18), (.c (.fn 35 []))], none, none⟩,
  ⟨(some 7), .mv (.t 19), none, none⟩]
def f17r3 : IC := .reg false [] f17o3 [3, 7, 0]
@[simp] theorem f17r3_run (tbl : TB) (fin : Fin) (K : List Fr) (e : Env) (H : List AO) : run tbl fin K f17r3 e H = regK tbl fin K [] f17o3 [3, 7, 0] e H := run_regK tbl fin K false [] f17o3 [3, 7, 0] e H rfl
@[simp] def f17o4 : List IOper := [
  ⟨(some 20), .mv (.t 7), none, none⟩,
  ⟨(some 21), .bin .lss (.t 20) (.c (.int .i64 0)), none, none⟩,
  ⟨(some 22), .mv (.t 21), none, none⟩,
  ⟨(some 23), .mv (.t 0), (some (22, true)), none⟩,
  ⟨(some 24), .len (.t 23), (some (22, true)), none⟩,
  ⟨(some 25), .bin .geq (.t 24) (.c (.int .i64 128)), (some (22, true)), none⟩,
  ⟨(some 26), .pick (.t 22) (.t 25) (.c (.bool false)), none, none⟩]
def f17r4 : IC := .reg false [] f17o4 [26, 3, 7, 0]
@[simp] theorem f17r4_run (tbl : TB) (fin : Fin) (K : List Fr) (e : Env) (H : List AO) : run tbl fin K f17r4 e H = regK tbl fin K [] f17o4 [26, 3, 7, 0] e H := run_regK tbl fin K false [] f17o4 [26, 3, 7, 0] e H rfl
@[simp] def f17o5 : List IOper := [
  ⟨(some 27), .mv (.t 0), none, none⟩,
  ⟨(some 4), .mv (.t 27), none, none⟩,
  ⟨(some 5), .mv (.c (.int .i64 0)), none, none⟩,
  ⟨(some 6), .mv (.c (.int .i64 4)), none, none⟩]
def f17r5 : IC := .reg false [] f17o5 [4, 5, 6]
@[simp] theorem f17r5_run (tbl : TB) (fin : Fin) (K : List Fr) (e : Env) (H : List AO) : run tbl fin K f17r5 e H = regK tbl fin K [] f17o5 [4, 5, 6] e H := run_regK tbl fin K false [] f17o5 [4, 5, 6] e H rfl
@[simp] def f17o6 : List IOper := [
  ⟨(some 28), .mv (.t 0), none, none⟩,
  ⟨(some 29), .call (.c (.fn 36 [])) [(.t 28)], none, none⟩,
  ⟨(some 8), .mv (.t 29), none, none⟩]
def f17r6 : IC := .reg false [] f17o6 [7, 8, 3, 0]
@[simp] theorem f17r6_run (tbl : TB) (fin : Fin) (K : List Fr) (e : Env) (H : List AO) : run tbl fin K f17r6 e H = regK tbl fin K [] f17o6 [7, 8, 3, 0] e H := run_regK tbl fin K false [] f17o6 [7, 8, 3, 0] e H rfl
@[simp] def f17o7 : List IOper := [
  ⟨(some 30), .mv (.t 7), none, none⟩,
  ⟨(some 31), .bin .lss (.t 30) (.c (.int .i64 0)), none, none⟩]
def f17r7 : IC := .reg false [] f17o7 [31, 7, 8, 3, 0]
@[simp] theorem f17r7_run (tbl : TB) (fin : Fin) (K : List Fr) (e : Env) (H : List AO) : run tbl fin K f17r7 e H = regK tbl fin K [] f17o7 [31, 7, 8, 3, 0] e H := run_regK tbl fin K false [] f17o7 [31, 7, 8, 3, 0] e H rfl
@[simp] def f17o8 : List IOper := [
  ⟨(some 32), .mv (.t 8), none, none⟩,
  ⟨(some 33), .load true 6 (.t 3), none, none⟩,
  ⟨(some 34), .mkimm 6 1 (.agg [(.int .i64 0), (.int .i64 0), (.int .i64 0), (.int .i64 0), (.int .i64 0), (.str [])]) [(0, (.t 33))], none, none⟩,
  ⟨(some 35), .app 37 6 (.t 32) (.t 34), none, none⟩,
  ⟨(some 36), .mv (.t 0), none, none⟩,
  ⟨(some 37), .len (.t 36), none, none⟩,
  ⟨(some 4), .mv (.t 35), none, none⟩,
  ⟨(some 5), .mv (.t 37), none, none⟩,
  ⟨(some 6), .mv (.c (.int .i64 0)), none, none⟩]
def f17r8 : IC := .reg false [] f17o8 [4, 5, 6]
@[simp] theorem f17r8_run (tbl : TB) (fin : Fin) (K : List Fr) (e : Env) (H : List AO) : run tbl fin K f17r8 e H = regK tbl fin K [] f17o8 [4, 5, 6] e H := run_regK tbl fin K false [] f17o8 [4, 5, 6] e H rfl
@[simp] def f17o9 : List IOper := [
  ⟨(some 38), .mv (.t 8), none, none⟩,
  ⟨(some 39), .mv (.t 7), none, none⟩,
  ⟨(some 40), .load true 6 (.t 3), none, none⟩,
  ⟨(some 41), .idx 6 (.t 38) (.t 39), none, none⟩,
  ⟨none, .store 6 (.t 41) (.t 40), none, none⟩]
def f17r9 : IC := .reg false [] f17o9 [8, 7]
@[simp] theorem f17r9_run (tbl : TB) (fin : Fin) (K : List Fr) (e : Env) (H : List AO) : run tbl fin K f17r9 e H = regK tbl fin K [] f17o9 [8, 7] e H := run_regK tbl fin K false [] f17o9 [8, 7] e H rfl
@[simp] def f17o10 : List IOper := [
  ⟨(some 42), .mv (.t 8), none, none⟩,
  ⟨(some 43), .mv (.t 7), none, none⟩,
  ⟨(some 4), .mv (.t 42), none, none⟩,
  ⟨(some 5), .mv (.t 43), none, none⟩,
  ⟨(some 6), .mv (.c (.int .i64 0)), none, none⟩]
def f17r10 : IC := .reg false [] f17o10 [4, 5, 6]
@[simp] theorem f17r10_run (tbl : TB) (fin : Fin) (K : List Fr) (e : Env) (H : List AO) : run tbl fin K f17r10 e H = regK tbl fin K [] f17o10 [4, 5, 6] e H := run_regK tbl fin K false [] f17o10 [4, 5, 6] e H rfl
def f17body : IC := (.seq f17r0 (.seq (.seq f17r1 (.cond (.t 16) (.seq f17r2 .ret) .skip)) (.seq f17r3 (.seq (.seq f17r4 (.cond (.t 26) (.seq f17r5 .ret) .skip)) (.seq f17r6 (.seq (.seq f17r7 (.cond (.t 31) (.seq f17r8 .ret) .skip)) (.seq f17r9 (.seq f17r10 .ret))))))))
def f17 : IFn := ⟨44, 2, [.tmp 4, .tmp 5, .tmp 6], f17body⟩
/- 18: jobshell/jobshellref23.Add -/
@[simp] def f18o0 : List IOper := [
  ⟨(some 3), .box 37 6 (.t 1), none, none⟩,
  ⟨(some 4), .nilrow 37 6, none, none⟩,
  ⟨(some 5), .mv (.c (.int .i64 0)), none, none⟩,
  ⟨(some 6), .mv (.c (.int .i64 0)), none, none⟩]
def f18r0 : IC := .reg false [] f18o0 [3, 0]
@[simp] theorem f18r0_run (tbl : TB) (fin : Fin) (K : List Fr) (e : Env) (H : List AO) : run tbl fin K f18r0 e H = regK tbl fin K [] f18o0 [3, 0] e H := run_regK tbl fin K false [] f18o0 [3, 0] e H rfl
@[simp] def f18o1 : List IOper := [
  ⟨(some 9), .fld 0 (.t 3), none, none⟩,
  ⟨(some 10), .load false 1 (.t 9), none, none⟩,
  ⟨(some 11), .bin .lss (.t 10) (.c (.int .i64 1)), none, none⟩,
  ⟨(some 12), .mv (.t 11), none, none⟩,
  ⟨(some 13), .fld 0 (.t 3), (some (12, false)), none⟩,
  ⟨(some 14), .load false 1 (.t 13), (some (12, false)), none⟩,
  ⟨(some 15), .bin .gtr (.t 14) (.c (.int .i64 7)), (some (12, false)), none⟩,
  ⟨(some 16), .pick (.t 12) (.c (.bool true)) (.t 15), none, none⟩]
def f18r1 : IC := .reg false [] f18o1 [16, 3, 0]
@[simp] theorem f18r1_run (tbl : TB) (fin : Fin) (K : List Fr) (e : Env) (H : List AO) : run tbl fin K f18r1 e H = regK tbl fin K [] f18o1 [16, 3, 0] e H := run_regK tbl fin K false [] f18o1 [16, 3, 0] e H rfl
@[simp] def f18o2 : List IOper := [
  ⟨(some 17), .mv (.t 0), none, none⟩,
  ⟨(some 4), .mv (.t 17), none, none⟩,
  ⟨(some 5), .mv (.c (.int .i64 0)), none, none⟩,
  ⟨(some 6), .mv (.c (.int .i64 1)), none, none⟩]
def f18r2 : IC := .reg false [] f18o2 [4, 5, 6]
@[simp] theorem f18r2_run (tbl : TB) (fin : Fin) (K : List Fr) (e : Env) (H : List AO) : run tbl fin K f18r2 e H = regK tbl fin K [] f18o2 [4, 5, 6] e H := run_regK tbl fin K false [] f18o2 [4, 5, 6] e H rfl
@[simp] def f18o3 : List IOper := [
  ⟨(some 7), .mv (.c (.int .i64 0)), none, none⟩]
def f18r3 : IC := .reg false [] f18o3 [0, 3, 7]
@[simp] theorem f18r3_run (tbl : TB) (fin : Fin) (K : List Fr) (e : Env) (H : List AO) : run tbl fin K f18r3 e H = regK tbl fin K [] f18o3 [0, 3, 7] e H := run_regK tbl fin K false [] f18o3 [0, 3, 7] e H rfl
@[simp] def f18o4 : List IOper := [
  ⟨(some 18), .mv (.t 7), none, none⟩,
  ⟨(some 19), .mv (.t 0), none, none⟩,
  ⟨(some 20), .len (.t 19), none, none⟩,
  ⟨(some 21), .bin .lss (.t 18) (.t 20), none, none⟩]
def f18r4 : IC := .reg false [] f18o4 [21, 0, 3, 7]
@[simp] theorem f18r4_run (tbl : TB) (fin : Fin) (K : List Fr) (e : Env) (H : List AO) : run tbl fin K f18r4 e H = regK tbl fin K [] f18o4 [21, 0, 3, 7] e H := run_regK tbl fin K false [] f18o4 [21, 0, 3, 7] e H rfl
@[simp] def f18o5 : List IOper := [
  ⟨(some 24), .mv (.t 0), none, none⟩,
  ⟨(some 25), .mv (.t 7), none, none⟩,
  ⟨(some 26), .idx 6 (.t 24) (.t 25), none, none⟩,
  ⟨(some 27), .fld 0 (.t 26), none, none⟩,
  ⟨(some 28), .load false 1 (.t 27), none, none⟩,
  ⟨(some 29), .bin .eql (.t 28) (.c (.int .i64 0)), none, none⟩]
def f18r5 : IC := .reg false [] f18o5 [29, 0, 3, 7]
@[simp] theorem f18r5_run (tbl : TB) (fin : Fin) (K : List Fr) (e : Env) (H : List AO) : run tbl fin K f18r5 e H = regK tbl fin K [] f18o5 [29, 0, 3, 7] e H := run_regK tbl fin K false [] f18o5 [29, 0, 3, 7] e H rfl
@[simp] def f18o6 : List IOper := [
  ⟨(some 30), .mv (.t 0), none, none⟩,
  ⟨(some 31), .mv (.t 7), none, none⟩,
  ⟨(some 32), .load true 6 (.t 3), none, none⟩,
  ⟨(some 33), .call (.c (.fn 37 [])) [(.t 30), (.t 31), (.t 32)], none, none⟩,
  ⟨(some 34), .mv (.t 7), none, none⟩,
  ⟨(some 4), .mv (.t 33), none, none⟩,
  ⟨(some 5), .mv (.t 34), none, none⟩,
  ⟨(some 6), .mv (.c (.int .i64 0)), none, none⟩]
def f18r6 : IC := .reg false [] f18o6 [4, 5, 6]
@[simp] theorem f18r6_run (tbl : TB) (fin : Fin) (K : List Fr) (e : Env) (H : List AO) : run tbl fin K f18r6 e H = regK tbl fin K [] f18o6 [4, 5, 6] e H := run_regK tbl fin K false [] f18o6 [4, 5, 6] e H rfl
@[simp] def f18o7 : List IOper := [
  ⟨(some 22), .mv (.t 7), none, none⟩,
  ⟨(some 23), .bin .add (.t 22) (.c (.int .i64 1)), none, none⟩,
  ⟨(some 7), .mv (.t 23), none, none⟩]
def f18r7 : IC := .reg false [] f18o7 [0, 3, 7]
@[simp] theorem f18r7_run (tbl : TB) (fin : Fin) (K : List Fr) (e : Env) (H : List AO) : run tbl fin K f18r7 e H = regK tbl fin K [] f18o7 [0, 3, 7] e H := run_regK tbl fin K false [] f18o7 [0, 3, 7] e H rfl
def f18b8 : IC := (.seq (.seq f18r4 (.cond (.t 21) .skip (.exit 0))) (.seq (.block 1 (.seq f18r5 (.cond (.t 29) (.seq f18r6 .ret) .skip))) f18r7))
theorem f18b8_eq : f18b8 = (.seq (.seq f18r4 (.cond (.t 21) .skip (.exit 0))) (.seq (.block 1 (.seq f18r5 (.cond (.t 29) (.seq f18r6 .ret) .skip))) f18r7)) := rfl
@[simp] def f18o9 : List IOper := [
  ⟨(some 35), .mv (.t 0), none, none⟩,
  ⟨(some 36), .len (.t 35), none, none⟩,
  ⟨(some 37), .bin .geq (.t 36) (.c (.int .i64 128)), none, none⟩]
def f18r9 : IC := .reg false [] f18o9 [37, 3, 0]
@[simp] theorem f18r9_run (tbl : TB) (fin : Fin) (K : List Fr) (e : Env) (H : List AO) : run tbl fin K f18r9 e H = regK tbl fin K [] f18o9 [37, 3, 0] e H := run_regK tbl fin K false [] f18o9 [37, 3, 0] e H rfl
@[simp] def f18o10 : List IOper := [
  ⟨(some 38), .mv (.t 0), none, none⟩,
  ⟨(some 4), .mv (.t 38), none, none⟩,
  ⟨(some 5), .mv (.c (.int .i64 0)), none, none⟩,
  ⟨(some 6), .mv (.c (.int .i64 4)), none, none⟩]
def f18r10 : IC := .reg false [] f18o10 [4, 5, 6]
@[simp] theorem f18r10_run (tbl : TB) (fin : Fin) (K : List Fr) (e : Env) (H : List AO) : run tbl fin K f18r10 e H = regK tbl fin K [] f18o10 [4, 5, 6] e H := run_regK tbl fin K false [] f18o10 [4, 5, 6] e H rfl
@[simp] def f18o11 : List IOper := [
  ⟨(some 39), .mv (.t 0), none, none⟩,
  ⟨(some 40), .load true 6 (.t 3), none, none⟩,
  ⟨(some 41), .call (.c (.fn 37 [])) [(.t 39), (.c (.int .i64 (-1))), (.t 40)], none, none⟩,
  ⟨(some 8), .mv (.t 41), none, none⟩]
def f18r11 : IC := .reg false [] f18o11 [8, 3, 0]
@[simp] theorem f18r11_run (tbl : TB) (fin : Fin) (K : List Fr) (e : Env) (H : List AO) : run tbl fin K f18r11 e H = regK tbl fin K [] f18o11 [8, 3, 0] e H := run_regK tbl fin K false [] f18o11 [8, 3, 0] e H rfl
@[simp] def f18o12 : List IOper := [
  ⟨(some 42), .mv (.t 8), none, none⟩,
  ⟨(some 43), .load true 6 (.t 3), none, none⟩,
  ⟨(some 44), .mkimm 6 1 (.agg [(.int .i64 0), (.int .i64 0), (.int .i64 0), (.int .i64 0), (.int .i64 0), (.str [])]) [(0, (.t 43))], none, none⟩,
  ⟨(some 45), .app 37 6 (.t 42) (.t 44), none, none⟩,
  ⟨(some 46), .mv (.t 0), none, none⟩,
  ⟨(some 47), .len (.t 46), none, none⟩,
  ⟨(some 4), .mv (.t 45), none, none⟩,
  ⟨(some 5), .mv (.t 47), none, none⟩,
  ⟨(some 6), .mv (.c (.int .i64 0)), none, none⟩]
def f18r12 : IC := .reg false [] f18o12 [4, 5, 6]
@[simp] theorem f18r12_run (tbl : TB) (fin : Fin) (K : List Fr) (e : Env) (H : List AO) : run tbl fin K f18r12 e H = regK tbl fin K [] f18o12 [4, 5, 6] e H := run_regK tbl fin K false [] f18o12 [4, 5, 6] e H rfl
def f18body : IC := (.seq f18r0 (.seq (.seq f18r1 (.cond (.t 16) (.seq f18r2 .ret) .skip)) (.seq (.seq f18r3 (.block 0 (.loop [0, 3, 7] f18b8))) (.seq (.seq f18r9 (.cond (.t 37) (.seq f18r10 .ret) .skip)) (.seq f18r11 (.seq f18r12 .ret))))))
def f18 : IFn := ⟨48, 2, [.tmp 4, .tmp 5, .tmp 6], f18body⟩
/- 19: jobshell/jobshellref23.SameDescs -/
@[simp] def f19o0 : List IOper := [
  ⟨(some 4), .mv (.c (.bool false)), none, none⟩]
def f19r0 : IC := .reg false [] f19o0 [1, 0]
@[simp] theorem f19r0_run (tbl : TB) (fin : Fin) (K : List Fr) (e : Env) (H : List AO) : run tbl fin K f19r0 e H = regK tbl fin K [] f19o0 [1, 0] e H := run_regK tbl fin K false [] f19o0 [1, 0] e H rfl
@[simp] def f19o1 : List IOper := [
  ⟨(some 6), .mv (.t 0), none, none⟩,
  ⟨(some 7), .len (.t 6), none, none⟩,
  ⟨(some 8), .mv (.t 1), none, none⟩,
  ⟨(some 9), .len (.t 8), none, none⟩,
  ⟨(some 10), .bin .neq (.t 7) (.t 9), none, none⟩]
def f19r1 : IC := .reg false [] f19o1 [10, 1, 0]
@[simp] theorem f19r1_run (tbl : TB) (fin : Fin) (K : List Fr) (e : Env) (H : List AO) : run tbl fin K f19r1 e H = regK tbl fin K [] f19o1 [10, 1, 0] e H := run_regK tbl fin K false [] f19o1 [10, 1, 0] e H rfl
@[simp] def f19o2 : List IOper := [
  ⟨(some 4), .mv (.c (.bool false)), none, none⟩]
def f19r2 : IC := .reg false [] f19o2 [4]
@[simp] theorem f19r2_run (tbl : TB) (fin : Fin) (K : List Fr) (e : Env) (H : List AO) : run tbl fin K f19r2 e H = regK tbl fin K [] f19o2 [4] e H := run_regK tbl fin K false [] f19o2 [4] e H rfl
@[simp] def f19o3 : List IOper := [
  ⟨(some 5), .mv (.c (.int .i64 0)), none, none⟩]
def f19r3 : IC := .reg false [] f19o3 [0, 1, 5]
@[simp] theorem f19r3_run (tbl : TB) (fin : Fin) (K : List Fr) (e : Env) (H : List AO) : run tbl fin K f19r3 e H = regK tbl fin K [] f19o3 [0, 1, 5] e H := run_regK tbl fin K false [] f19o3 [0, 1, 5] e H rfl
@[simp] def f19o4 : List IOper := [
  ⟨(some 11), .mv (.t 5), none, none⟩,
  ⟨(some 12), .mv (.t 0), none, none⟩,
  ⟨(some 13), .len (.t 12), none, none⟩,
  ⟨(some 14), .bin .lss (.t 11) (.t 13), none, none⟩]
def f19r4 : IC := .reg false [] f19o4 [14, 1, 0, 5]
@[simp] theorem f19r4_run (tbl : TB) (fin : Fin) (K : List Fr) (e : Env) (H : List AO) : run tbl fin K f19r4 e H = regK tbl fin K [] f19o4 [14, 1, 0, 5] e H := run_regK tbl fin K false [] f19o4 [14, 1, 0, 5] e H rfl
@[simp] def f19o5 : List IOper := [
  ⟨(some 17), .mv (.t 0), none, none⟩,
  ⟨(some 18), .mv (.t 5), none, none⟩,
  ⟨(some 19), .idx 6 (.t 17) (.t 18), none, none⟩,
  ⟨(some 20), .load true 6 (.t 19), none, none⟩,
  ⟨(some 21), .mv (.t 1), none, none⟩,
  ⟨(some 22), .mv (.t 5), none, none⟩,
  ⟨(some 23), .idx 6 (.t 21) (.t 22), none, none⟩,
  ⟨(some 24), .load true 6 (.t 23), none, none⟩,
  ⟨(some 25), .aeq true [.i, .i, .i, .i, .i, .s] (.t 20) (.t 24), none, none⟩]
def f19r5 : IC := .reg true [] f19o5 [25, 1, 0, 5]
@[simp] theorem f19r5_run (tbl : TB) (fin : Fin) (K : List Fr) (e : Env) (H : List AO) : run tbl fin K f19r5 e H = regK tbl fin K [] f19o5 [25, 1, 0, 5] e H := run_regK tbl fin K true [] f19o5 [25, 1, 0, 5] e H rfl
@[simp] def f19o6 : List IOper := [
  ⟨(some 4), .mv (.c (.bool false)), none, none⟩]
def f19r6 : IC := .reg false [] f19o6 [4]
@[simp] theorem f19r6_run (tbl : TB) (fin : Fin) (K : List Fr) (e : Env) (H : List AO) : run tbl fin K f19r6 e H = regK tbl fin K [] f19o6 [4] e H := run_regK tbl fin K false [] f19o6 [4] e H rfl
@[simp] def f19o7 : List IOper := [
  ⟨(some 15), .mv (.t 5), none, none⟩,
  ⟨(some 16), .bin .add (.t 15) (.c (.int .i64 1)), none, none⟩,
  ⟨(some 5), .mv (.t 16), none, none⟩]
def f19r7 : IC := .reg false [] f19o7 [0, 1, 5]
@[simp] theorem f19r7_run (tbl : TB) (fin : Fin) (K : List Fr) (e : Env) (H : List AO) : run tbl fin K f19r7 e H = regK tbl fin K [] f19o7 [0, 1, 5] e H := run_regK tbl fin K false [] f19o7 [0, 1, 5] e H rfl
def f19b8 : IC := (.seq (.seq f19r4 (.cond (.t 14) .skip (.exit 0))) (.seq (.block 1 (.seq f19r5 (.cond (.t 25) (.seq f19r6 .ret) .skip))) f19r7))
theorem f19b8_eq : f19b8 = (.seq (.seq f19r4 (.cond (.t 14) .skip (.exit 0))) (.seq (.block 1 (.seq f19r5 (.cond (.t 25) (.seq f19r6 .ret) .skip))) f19r7)) := rfl
@[simp] def f19o9 : List IOper := [
  ⟨(some 4), .mv (.c (.bool true)), none, none⟩]
def f19r9 : IC := .reg false [] f19o9 [4]
@[simp] theorem f19r9_run (tbl : TB) (fin : Fin) (K : List Fr) (e : Env) (H : List AO) : run tbl fin K f19r9 e H = regK tbl fin K [] f19o9 [4] e H := run_regK tbl fin K false [] f19o9 [4] e H rfl
def f19body : IC := (.seq f19r0 (.seq (.seq f19r1 (.cond (.t 10) (.seq f19r2 .ret) .skip)) (.seq (.seq f19r3 (.block 0 (.loop [0, 1, 5] f19b8))) (.seq f19r9 .ret))))
def f19 : IFn := ⟨26, 2, [.tmp 4], f19body⟩
/- 20: jobshell/fdtab.Hold -/
@[simp] def f20o0 : List IOper := [
  ⟨(some 4), .nilrow 37 6, none, none⟩,
  ⟨(some 5), .mv (.c (.int .i64 0)), none, none⟩]
def f20r0 : IC := .reg false [] f20o0 [1, 0]
@[simp] theorem f20r0_run (tbl : TB) (fin : Fin) (K : List Fr) (e : Env) (H : List AO) : run tbl fin K f20r0 e H = regK tbl fin K [] f20o0 [1, 0] e H := run_regK tbl fin K false [] f20o0 [1, 0] e H rfl
@[simp] def f20o1 : List IOper := [
  ⟨(some 8), .mv (.t 0), none, none⟩,
  ⟨(some 9), .mv (.t 1), none, none⟩,
  ⟨(some 10), .call (.c (.fn 38 [])) [(.t 8), (.t 9)], none, none⟩,
  ⟨(some 11), .un .not (.t 10), none, none⟩,
  ⟨(some 7), .mv (.t 11), none, none⟩]
def f20r1 : IC := .reg false [] f20o1 [7, 1, 0]
@[simp] theorem f20r1_run (tbl : TB) (fin : Fin) (K : List Fr) (e : Env) (H : List AO) : run tbl fin K f20r1 e H = regK tbl fin K [] f20o1 [7, 1, 0] e H := run_regK tbl fin K false [] f20o1 [7, 1, 0] e H rfl
@[simp] def f20o2 : List IOper := [
  ⟨(some 12), .mv (.t 0), none, none⟩,
  ⟨(some 4), .mv (.t 12), none, none⟩,
  ⟨(some 5), .mv (.c (.int .i64 15)), none, none⟩]
def f20r2 : IC := .reg false [] f20o2 [4, 5]
@[simp] theorem f20r2_run (tbl : TB) (fin : Fin) (K : List Fr) (e : Env) (H : List AO) : run tbl fin K f20r2 e H = regK tbl fin K [] f20o2 [4, 5] e H := run_regK tbl fin K false [] f20o2 [4, 5] e H rfl
@[simp] def f20o3 : List IOper := [
  ⟨(some 14), .mv (.t 0), none, none⟩,
  ⟨(some 15), .mv (.t 1), none, none⟩,
  ⟨(some 16), .idx 6 (.t 14) (.t 15), none, none⟩,
  ⟨(some 17), .fld 4 (.t 16), none, none⟩,
  ⟨(some 18), .load false 1 (.t 17), none, none⟩,
  ⟨(some 19), .bin .geq (.t 18) (.c (.int .i64 2147483647)), none, none⟩,
  ⟨(some 13), .mv (.t 19), none, none⟩]
def f20r3 : IC := .reg false [] f20o3 [13, 1, 0]
@[simp] theorem f20r3_run (tbl : TB) (fin : Fin) (K : List Fr) (e : Env) (H : List AO) : run tbl fin K f20r3 e H = regK tbl fin K [] f20o3 [13, 1, 0] e H := run_regK tbl fin K false [] f20o3 [13, 1, 0] e H rfl
@[simp] def f20o4 : List IOper := [
  ⟨(some 20), .mv (.t 0), none, none⟩,
  ⟨(some 4), .mv (.t 20), none, none⟩,
  ⟨(some 5), .mv (.c (.int .i64 4)), none, none⟩]
def f20r4 : IC := .reg false [] f20o4 [4, 5]
@[simp] theorem f20r4_run (tbl : TB) (fin : Fin) (K : List Fr) (e : Env) (H : List AO) : run tbl fin K f20r4 e H = regK tbl fin K [] f20o4 [4, 5] e H := run_regK tbl fin K false [] f20o4 [4, 5] e H rfl
@[simp] def f20o5 : List IOper := [
  ⟨(some 21), .mv (.t 0), none, none⟩,
  ⟨(some 22), .call (.c (.fn 36 [])) [(.t 21)], none, none⟩,
  ⟨(some 6), .mv (.t 22), none, none⟩]
def f20r5 : IC := .reg false [] f20o5 [1, 6]
@[simp] theorem f20r5_run (tbl : TB) (fin : Fin) (K : List Fr) (e : Env) (H : List AO) : run tbl fin K f20r5 e H = regK tbl fin K [] f20o5 [1, 6] e H := run_regK tbl fin K false [] f20o5 [1, 6] e H rfl
@[simp] def f20o6 : List IOper := [
  ⟨(some 23), .mv (.t 6), none, none⟩,
  ⟨(some 24), .mv (.t 1), none, none⟩,
  ⟨(some 25), .idx 6 (.t 23) (.t 24), none, none⟩,
  ⟨(some 26), .fld 4 (.t 25), none, none⟩,
  ⟨(some 27), .load false 1 (.t 26), none, none⟩,
  ⟨(some 28), .bin .add (.t 27) (.c (.int .i64 1)), none, none⟩,
  ⟨(some 29), .idx 6 (.t 23) (.t 24), none, none⟩,
  ⟨(some 30), .fld 4 (.t 29), none, none⟩,
  ⟨none, .store 1 (.t 30) (.t 28), none, none⟩]
def f20r6 : IC := .reg false [] f20o6 [6]
@[simp] theorem f20r6_run (tbl : TB) (fin : Fin) (K : List Fr) (e : Env) (H : List AO) : run tbl fin K f20r6 e H = regK tbl fin K [] f20o6 [6] e H := run_regK tbl fin K false [] f20o6 [6] e H rfl
@[simp] def f20o7 : List IOper := [
  ⟨(some 31), .mv (.t 6), none, none⟩,
  ⟨(some 4), .mv (.t 31), none, none⟩,
  ⟨(some 5), .mv (.c (.int .i64 0)), none, none⟩]
def f20r7 : IC := .reg false [] f20o7 [4, 5]
@[simp] theorem f20r7_run (tbl : TB) (fin : Fin) (K : List Fr) (e : Env) (H : List AO) : run tbl fin K f20r7 e H = regK tbl fin K [] f20o7 [4, 5] e H := run_regK tbl fin K false [] f20o7 [4, 5] e H rfl
def f20body : IC := (.seq f20r0 (.seq (.block 0 (.seq f20r1 (.cond (.t 7) (.seq f20r2 .ret) (.seq f20r3 (.cond (.t 13) (.seq f20r4 .ret) .skip))))) (.seq f20r5 (.seq f20r6 (.seq f20r7 .ret)))))
def f20 : IFn := ⟨32, 2, [.tmp 4, .tmp 5], f20body⟩
/- 21: jobshell/jobshellref23.Hold -/
@[simp] def f21o0 : List IOper := [
  ⟨(some 4), .nilrow 37 6, none, none⟩,
  ⟨(some 5), .mv (.c (.int .i64 0)), none, none⟩]
def f21r0 : IC := .reg false [] f21o0 [1, 0]
@[simp] theorem f21r0_run (tbl : TB) (fin : Fin) (K : List Fr) (e : Env) (H : List AO) : run tbl fin K f21r0 e H = regK tbl fin K [] f21o0 [1, 0] e H := run_regK tbl fin K false [] f21o0 [1, 0] e H rfl
@[simp] def f21o1 : List IOper := [
  ⟨(some 7), .mv (.t 1), none, none⟩,
  ⟨(some 8), .bin .lss (.t 7) (.c (.int .i64 0)), none, none⟩,
  ⟨(some 9), .mv (.t 8), none, none⟩,
  ⟨(some 10), .mv (.t 1), (some (9, false)), none⟩,
  ⟨(some 11), .mv (.t 0), (some (9, false)), none⟩,
  ⟨(some 12), .len (.t 11), (some (9, false)), none⟩,
  ⟨(some 13), .bin .geq (.t 10) (.t 12), (some (9, false)), none⟩,
  ⟨(some 14), .pick (.t 9) (.c (.bool true)) (.t 13), none, some [14, 1, 0]⟩,
  ⟨(some 15), .mv (.t 14), none, none⟩,
  ⟨(some 16), .mv (.t 0), (some (15, false)), none⟩,
  ⟨(some 17), .mv (.t 1), (some (15, false)), none⟩,
  ⟨(some 18), .idx 6 (.t 16) (.t 17), (some (15, false)), none⟩,
  ⟨(some 19), .fld 0 (.t 18), (some (15, false)), none⟩,
  ⟨(some 20), .load false 1 (.t 19), (some (15, false)), none⟩,
  ⟨(some 21), .bin .eql (.t 20) (.c (.int .i64 0)), (some (15, false)), none⟩,
  ⟨(some 22), .pick (.t 15) (.c (.bool true)) (.t 21), none, none⟩]
def f21r1 : IC := .reg false [] f21o1 [22, 1, 0]
@[simp] theorem f21r1_run (tbl : TB) (fin : Fin) (K : List Fr) (e : Env) (H : List AO) : run tbl fin K f21r1 e H = regK tbl fin K [] f21o1 [22, 1, 0] e H := run_regK tbl fin K false [] f21o1 [22, 1, 0] e H rfl
@[simp] def f21o2 : List IOper := [
  ⟨(some 23), .mv (.t 0), none, none⟩,
  ⟨(some 4), .mv (.t 23), none, none⟩,
  ⟨(some 5), .mv (.c (.int .i64 15)), none, none⟩]
def f21r2 : IC := .reg false [] f21o2 [4, 5]
@[simp] theorem f21r2_run (tbl : TB) (fin : Fin) (K : List Fr) (e : Env) (H : List AO) : run tbl fin K f21r2 e H = regK tbl fin K [] f21o2 [4, 5] e H := run_regK tbl fin K false [] f21o2 [4, 5] e H rfl
@[simp] def f21o3 : List IOper := [
  ⟨(some 24), .mv (.t 0), none, none⟩,
  ⟨(some 25), .mv (.t 1), none, none⟩,
  ⟨(some 26), .idx 6 (.t 24) (.t 25), none, none⟩,
  ⟨(some 27), .fld 4 (.t 26), none, none⟩,
  ⟨(some 28), .load false 1 (.t 27), none, none⟩,
  ⟨(some 29), .bin .geq (.t 28) (.c (.int .i64 2147483647)), none, none⟩]
def f21r3 : IC := .reg false [] f21o3 [29, 1, 0]
@[simp] theorem f21r3_run (tbl : TB) (fin : Fin) (K : List Fr) (e : Env) (H : List AO) : run tbl fin K f21r3 e H = regK tbl fin K [] f21o3 [29, 1, 0] e H := run_regK tbl fin K false [] f21o3 [29, 1, 0] e H rfl
@[simp] def f21o4 : List IOper := [
  ⟨(some 30), .mv (.t 0), none, none⟩,
  ⟨(some 4), .mv (.t 30), none, none⟩,
  ⟨(some 5), .mv (.c (.int .i64 4)), none, none⟩]
def f21r4 : IC := .reg false [] f21o4 [4, 5]
@[simp] theorem f21r4_run (tbl : TB) (fin : Fin) (K : List Fr) (e : Env) (H : List AO) : run tbl fin K f21r4 e H = regK tbl fin K [] f21o4 [4, 5] e H := run_regK tbl fin K false [] f21o4 [4, 5] e H rfl
@[simp] def f21o5 : List IOper := [
  ⟨(some 31), .mv (.t 0), none, none⟩,
  ⟨(some 32), .mv (.t 1), none, none⟩,
  ⟨(some 33), .idx 6 (.t 31) (.t 32), none, none⟩,
  ⟨(some 34), .load true 6 (.t 33), none, none⟩,
  ⟨(some 6), .new 37 6 (.agg [(.int .i64 0), (.int .i64 0), (.int .i64 0), (.int .i64 0), (.int .i64 0), (.str [])]), none, none⟩,
  ⟨none, .store 6 (.t 6) (.t 34), none, none⟩]
def f21r5 : IC := .reg false [] f21o5 [0, 1, 6]
@[simp] theorem f21r5_run (tbl : TB) (fin : Fin) (K : List Fr) (e : Env) (H : List AO) : run tbl fin K f21r5 e H = regK tbl fin K [] f21o5 [0, 1, 6] e H := run_regK tbl fin K false [] f21o5 [0, 1, 6] e H rfl
@[simp] def f21o6 : List IOper := [
  ⟨(some 35), .fld 4 (.t 6), none, none⟩,
  ⟨(some 36), .load false 1 (.t 35), none, none⟩,
  ⟨(some 37), .bin .add (.t 36) (.c (.int .i64 1)), none, none⟩,
  ⟨(some 38), .fld 4 (.t 6), none, none⟩,
  ⟨none, .store 1 (.t 38) (.t 37), none, none⟩]
def f21r6 : IC := .reg false [] f21o6 [0, 1, 6]
@[simp] theorem f21r6_run (tbl : TB) (fin : Fin) (K : List Fr) (e : Env) (H : List AO) : run tbl fin K f21r6 e H = regK tbl fin K [] f21o6 [0, 1, 6] e H := run_regK tbl fin K false [] f21o6 [0, 1, 6] e H rfl
@[simp] def f21o7 : List IOper := [
  ⟨(some 39), .mv (.t 0), none, none⟩,
  ⟨(some 40), .mv (.t 1), none, none⟩,
  ⟨(some 41), .load true 6 (.t 6), none, none⟩,
  ⟨(some 42), .call (.c (.fn 37 [])) [(.t 39), (.t 40), (.t 41)], none, none⟩,
  ⟨(some 4), .mv (.t 42), none, none⟩,
  ⟨(some 5), .mv (.c (.int .i64 0)), none, none⟩]
def f21r7 : IC := .reg false [] f21o7 [4, 5]
@[simp] theorem f21r7_run (tbl : TB) (fin : Fin) (K : List Fr) (e : Env) (H : List AO) : run tbl fin K f21r7 e H = regK tbl fin K [] f21o7 [4, 5] e H := run_regK tbl fin K false [] f21o7 [4, 5] e H rfl
def f21body : IC := (.seq f21r0 (.seq (.seq f21r1 (.cond (.t 22) (.seq f21r2 .ret) .skip)) (.seq (.seq f21r3 (.cond (.t 29) (.seq f21r4 .ret) .skip)) (.seq f21r5 (.seq f21r6 (.seq f21r7 .ret))))))
def f21 : IFn := ⟨43, 2, [.tmp 4, .tmp 5], f21body⟩
/- 22: jobshell/fdtab.Release -/
@[simp] def f22o0 : List IOper := [
  ⟨(some 4), .nilrow 37 6, none, none⟩,
  ⟨(some 5), .mv (.c (.bool false)), none, none⟩,
  ⟨(some 6), .mv (.c (.int .i64 0)), none, none⟩]
def f22r0 : IC := .reg false [] f22o0 [1, 0]
@[simp] theorem f22r0_run (tbl : TB) (fin : Fin) (K : List Fr) (e : Env) (H : List AO) : run tbl fin K f22r0 e H = regK tbl fin K [] f22o0 [1, 0] e H := run_regK tbl fin K false [] f22o0 [1, 0] e H rfl
@[simp] def f22o1 : List IOper := [
  ⟨(some 8), .mv (.t 0), none, none⟩,
  ⟨(some 9), .mv (.t 1), none, none⟩,
  ⟨(some 10), .call (.c (.fn 38 [])) [(.t 8), (.t 9)], none, none⟩,
  ⟨(some 11), .un .not (.t 10), none, none⟩,
  ⟨(some 12), .mv (.t 11), none, none⟩,
  ⟨(some 13), .mv (.t 0), (some (12, false)), none⟩,
  ⟨(some 14), .mv (.t 1), (some (12, false)), none⟩,
  ⟨(some 15), .idx 6 (.t 13) (.t 14), (some (12, false)), some [15, 12, 1, 0]⟩,
  ⟨(some 16), .fld 4 (.t 15), (some (12, false)), none⟩,
  ⟨(some 17), .load false 1 (.t 16), (some (12, false)), none⟩,
  ⟨(some 18), .bin .lss (.t 17) (.c (.int .i64 1)), (some (12, false)), none⟩,
  ⟨(some 19), .pick (.t 12) (.c (.bool true)) (.t 18), none, none⟩]
def f22r1 : IC := .reg false [] f22o1 [19, 1, 0]
@[simp] theorem f22r1_run (tbl : TB) (fin : Fin) (K : List Fr) (e : Env) (H : List AO) : run tbl fin K f22r1 e H = regK tbl fin K [] f22o1 [19, 1, 0] e H := run_regK tbl fin K false [] f22o1 [19, 1, 0] e H rfl
@[simp] def f22o2 : List IOper := [
  ⟨(some 20), .mv (.t 0), none, none⟩,
  ⟨(some 4), .mv (.t 20), none, none⟩,
  ⟨(some 5), .mv (.c (.bool false)), none, none⟩,
  ⟨(some 6), .mv (.c (.int .i64 15)), none, none⟩]
def f22r2 : IC := .reg false [] f22o2 [4, 5, 6]
@[simp] theorem f22r2_run (tbl : TB) (fin : Fin) (K : List Fr) (e : Env) (H : List AO) : run tbl fin K f22r2 e H = regK tbl fin K [] f22o2 [4, 5, 6] e H := run_regK tbl fin K false [] f22o2 [4, 5, 6] e H rfl
@[simp] def f22o3 : List IOper := [
  ⟨(some 21), .mv (.t 0), none, none⟩,
  ⟨(some 22), .call (.c (.fn 36 [])) [(.t 21)], none, none⟩,
  ⟨(some 7), .mv (.t 22), none, none⟩]
def f22r3 : IC := .reg false [] f22o3 [1, 7]
@[simp] theorem f22r3_run (tbl : TB) (fin : Fin) (K : List Fr) (e : Env) (H : List AO) : run tbl fin K f22r3 e H = regK tbl fin K [] f22o3 [1, 7] e H := run_regK tbl fin K false [] f22o3 [1, 7] e H rfl
@[simp] def f22o4 : List IOper := [
  ⟨(some 23), .mv (.t 7), none, none⟩,
  ⟨(some 24), .mv (.t 1), none, none⟩,
  ⟨(some 25), .idx 6 (.t 23) (.t 24), none, none⟩,
  ⟨(some 26), .fld 4 (.t 25), none, none⟩,
  ⟨(some 27), .load false 1 (.t 26), none, none⟩,
  ⟨(some 28), .bin .sub (.t 27) (.c (.int .i64 1)), none, none⟩,
  ⟨(some 29), .idx 6 (.t 23) (.t 24), none, none⟩,
  ⟨(some 30), .fld 4 (.t 29), none, none⟩,
  ⟨none, .store 1 (.t 30) (.t 28), none, none⟩]
def f22r4 : IC := .reg false [] f22o4 [1, 7]
@[simp] theorem f22r4_run (tbl : TB) (fin : Fin) (K : List Fr) (e : Env) (H : List AO) : run tbl fin K f22r4 e H = regK tbl fin K [] f22o4 [1, 7] e H := run_regK tbl fin K false [] f22o4 [1, 7] e H rfl
@[simp] def f22o5 : List IOper := [
  ⟨(some 31), .mv (.t 7), none, none⟩,
  ⟨(some 32), .mv (.t 1), none, none⟩,
  ⟨(some 33), .idx 6 (.t 31) (.t 32), none, none⟩,
  ⟨(some 34), .fld 4 (.t 33), none, none⟩,
  ⟨(some 35), .load false 1 (.t 34), none, none⟩,
  ⟨(some 36), .bin .gtr (.t 35) (.c (.int .i64 0)), none, none⟩]
def f22r5 : IC := .reg false [] f22o5 [36, 1, 7]
@[simp] theorem f22r5_run (tbl : TB) (fin : Fin) (K : List Fr) (e : Env) (H : List AO) : run tbl fin K f22r5 e H = regK tbl fin K [] f22o5 [36, 1, 7] e H := run_regK tbl fin K false [] f22o5 [36, 1, 7] e H rfl
@[simp] def f22o6 : List IOper := [
  ⟨(some 37), .mv (.t 7), none, none⟩,
  ⟨(some 4), .mv (.t 37), none, none⟩,
  ⟨(some 5), .mv (.c (.bool false)), none, none⟩,
  ⟨(some 6), .mv (.c (.int .i64 0)), none, none⟩]
def f22r6 : IC := .reg false [] f22o6 [4, 5, 6]
@[simp] theorem f22r6_run (tbl : TB) (fin : Fin) (K : List Fr) (e : Env) (H : List AO) : run tbl fin K f22r6 e H = regK tbl fin K [] f22o6 [4, 5, 6] e H := run_regK tbl fin K false [] f22o6 [4, 5, 6] e H rfl
@[simp] def f22o7 : List IOper := [
  ⟨(some 38), .mv (.t 7), none, none⟩,
  ⟨(some 39), .mv (.t 1), none, none⟩,
  ⟨(some 40), .build [(.int .i64 0), (.int .i64 0), (.int .i64 0), (.int .i64 0), (.int .i64 0), (.str [])] [], none, none⟩,
  ⟨(some 41), .idx 6 (.t 38) (.t 39), none, none⟩,
  ⟨none, .store 6 (.t 41) (.t 40), none, none⟩]
def f22r7 : IC := .reg false [] f22o7 [7]
@[simp] theorem f22r7_run (tbl : TB) (fin : Fin) (K : List Fr) (e : Env) (H : List AO) : run tbl fin K f22r7 e H = regK tbl fin K [] f22o7 [7] e H := run_regK tbl fin K false [] f22o7 [7] e H rfl
@[simp] def f22o8 : List IOper := [
  ⟨(some 42), .mv (.t 7), none, none⟩,
  ⟨(some 4), .mv (.t 42), none, none⟩,
  ⟨(some 5), .mv (.c (.bool true)), none, none⟩,
  ⟨(some 6), .mv (.c (.int .i64 0)), none, none⟩]
def f22r8 : IC := .reg false [] f22o8 [4, 5, 6]
@[simp] theorem f22r8_run (tbl : TB) (fin : Fin) (K : List Fr) (e : Env) (H : List AO) : run tbl fin K f22r8 e H = regK tbl fin K [] f22o8 [4, 5, 6] e H := run_regK tbl fin K false [] f22o8 [4, 5, 6] e H rfl
def f22body : IC := (.seq f22r0 (.seq (.seq f22r1 (.cond (.t 19) (.seq f22r2 .ret) .skip)) (.seq f22r3 (.seq f22r4 (.seq (.seq f22r5 (.cond (.t 36) (.seq f22r6 .ret) .skip)) (.seq f22r7 (.seq f22r8 .ret)))))))
def f22 : IFn := ⟨43, 2, [.tmp 4, .tmp 5, .tmp 6], f22body⟩
/- 23: jobshell/jobshellref23.Release -/
@[simp] def f23o0 : List IOper := [
  ⟨(some 4), .nilrow 37 6, none, none⟩,
  ⟨(some 5), .mv (.c (.bool false)), none, none⟩,
  ⟨(some 6), .mv (.c (.int .i64 0)), none, none⟩]
def f23r0 : IC := .reg false [] f23o0 [1, 0]
@[simp] theorem f23r0_run (tbl : TB) (fin : Fin) (K : List Fr) (e : Env) (H : List AO) : run tbl fin K f23r0 e H = regK tbl fin K [] f23o0 [1, 0] e H := run_regK tbl fin K false [] f23o0 [1, 0] e H rfl
@[simp] def f23o1 : List IOper := [
  ⟨(some 8), .mv (.t 1), none, none⟩,
  ⟨(some 9), .bin .lss (.t 8) (.c (.int .i64 0)), none, none⟩,
  ⟨(some 10), .mv (.t 9), none, none⟩,
  ⟨(some 11), .mv (.t 1), (some (10, false)), none⟩,
  ⟨(some 12), .mv (.t 0), (some (10, false)), none⟩,
  ⟨(some 13), .len (.t 12), (some (10, false)), none⟩,
  ⟨(some 14), .bin .geq (.t 11) (.t 13), (some (10, false)), none⟩,
  ⟨(some 15), .pick (.t 10) (.c (.bool true)) (.t 14), none, some [15, 1, 0]⟩,
  ⟨(some 16), .mv (.t 15), none, none⟩,
  ⟨(some 17), .mv (.t 0), (some (16, false)), none⟩,
  ⟨(some 18), .mv (.t 1), (some (16, false)), none⟩,
  ⟨(some 19), .idx 6 (.t 17) (.t 18), (some (16, false)), none⟩,
  ⟨(some 20), .fld 0 (.t 19), (some (16, false)), none⟩,
  ⟨(some 21), .load false 1 (.t 20), (some (16, false)), none⟩,
  ⟨(some 22), .bin .eql (.t 21) (.c (.int .i64 0)), (some (16, false)), none⟩,
  ⟨(some 23), .pick (.t 16) (.c (.bool true)) (.t 22), none, some [23, 1, 0]⟩,
  ⟨(some 24), .mv (.t 23), none, none⟩,
  ⟨(some 25), .mv (.t 0), (some (24, false)), none⟩,
  ⟨(some 26), .mv (.t 1), (some (24, false)), none⟩,
  ⟨(some 27), .idx 6 (.t 25) (.t 26), (some (24, false)), none⟩,
  ⟨(some 28), .fld 4 (.t 27), (some (24, false)), none⟩,
  ⟨(some 29), .load false 1 (.t 28), (some (24, false)), none⟩,
  ⟨(some 30), .bin .lss (.t 29) (.c (.int .i64 1)), (some (24, false)), none⟩,
  ⟨(some 31), .pick (.t 24) (.c (.bool true)) (.t 30), none, none⟩]
def f23r1 : IC := .reg false [] f23o1 [31, 1, 0]
@[simp] theorem f23r1_run (tbl : TB) (fin : Fin) (K : List Fr) (e : Env) (H : List AO) : run tbl fin K f23r1 e H = regK tbl fin K [] f23o1 [31, 1, 0] e H := run_regK tbl fin K false [] f23o1 [31, 1, 0] e H rfl
@[simp] def f23o2 : List IOper := [
  ⟨(some 32), .mv (.t 0), none, none⟩,
  ⟨(some 4), .mv (.t 32), none, none⟩,
  ⟨(some 5), .mv (.c (.bool false)), none, none⟩,
  ⟨(some 6), .mv (.c (.int .i64 15)), none, none⟩]
def f23r2 : IC := .reg false [] f23o2 [4, 5, 6]
@[simp] theorem f23r2_run (tbl : TB) (fin : Fin) (K : List Fr) (e : Env) (H : List AO) : run tbl fin K f23r2 e H = regK tbl fin K [] f23o2 [4, 5, 6] e H := run_regK tbl fin K false [] f23o2 [4, 5, 6] e H rfl
@[simp] def f23o3 : List IOper := [
  ⟨(some 33), .mv (.t 0), none, none⟩,
  ⟨(some 34), .mv (.t 1), none, none⟩,
  ⟨(some 35), .idx 6 (.t 33) (.t 34), none, none⟩,
  ⟨(some 36), .load true 6 (.t 35), none, none⟩,
  ⟨(some 7), .new 37 6 (.agg [(.int .i64 0), (.int .i64 0), (.int .i64 0), (.int .i64 0), (.int .i64 0), (.str [])]), none, none⟩,
  ⟨none, .store 6 (.t 7) (.t 36), none, none⟩]
def f23r3 : IC := .reg false [] f23o3 [7, 0, 1]
@[simp] theorem f23r3_run (tbl : TB) (fin : Fin) (K : List Fr) (e : Env) (H : List AO) : run tbl fin K f23r3 e H = regK tbl fin K [] f23o3 [7, 0, 1] e H := run_regK tbl fin K false [] f23o3 [7, 0, 1] e H rfl
@[simp] def f23o4 : List IOper := [
  ⟨(some 37), .fld 4 (.t 7), none, none⟩,
  ⟨(some 38), .load false 1 (.t 37), none, none⟩,
  ⟨(some 39), .bin .eql (.t 38) (.c (.int .i64 1)), none, none⟩]
def f23r4 : IC := .reg false [] f23o4 [39, 7, 0, 1]
@[simp] theorem f23r4_run (tbl : TB) (fin : Fin) (K : List Fr) (e : Env) (H : List AO) : run tbl fin K f23r4 e H = regK tbl fin K [] f23o4 [39, 7, 0, 1] e H := run_regK tbl fin K false [] f23o4 [39, 7, 0, 1] e H rfl
@[simp] def f23o5 : List IOper := [
  ⟨(some 40), .mv (.t 0), none, none⟩,
  ⟨(some 41), .mv (.t 1), none, none⟩,
  ⟨(some 42), .build [(.int .i64 0), (.int .i64 0), (.int .i64 0), (.int .i64 0), (.int .i64 0), (.str [])] [], none, none⟩,
  ⟨(some 43), .call (.c (.fn 37 [])) [(.t 40), (.t 41), (.t 42)], none, none⟩,
  ⟨(some 4), .mv (.t 43), none, none⟩,
  ⟨(some 5), .mv (.c (.bool true)), none, none⟩,
  ⟨(some 6), .mv (.c (.int .i64 0)), none, none⟩]
def f23r5 : IC := .reg false [] f23o5 [4, 5, 6]
@[simp] theorem f23r5_run (tbl : TB) (fin : Fin) (K : List Fr) (e : Env) (H : List AO) : run tbl fin K f23r5 e H = regK tbl fin K [] f23o5 [4, 5, 6] e H := run_regK tbl fin K false [] f23o5 [4, 5, 6] e H rfl
@[simp] def f23o6 : List IOper := [
  ⟨(some 44), .fld 4 (.t 7), none, none⟩,
  ⟨(some 45), .load false 1 (.t 44), none, none⟩,
  ⟨(some 46), .bin .sub (.t 45) (.c (.int .i64 1)), none, none⟩,
  ⟨(some 47), .fld 4 (.t 7), none, none⟩,
  ⟨none, .store 1 (.t 47) (.t 46), none, none⟩]
def f23r6 : IC := .reg false [] f23o6 [0, 1, 7]
@[simp] theorem f23r6_run (tbl : TB) (fin : Fin) (K : List Fr) (e : Env) (H : List AO) : run tbl fin K f23r6 e H = regK tbl fin K [] f23o6 [0, 1, 7] e H := run_regK tbl fin K false [] f23o6 [0, 1, 7] e H rfl
@[simp] def f23o7 : List IOper := [
  ⟨(some 48), .mv (.t 0), none, none⟩,
  ⟨(some 49), .mv (.t 1), none, none⟩,
  ⟨(some 50), .load true 6 (.t 7), none, none⟩,
  ⟨(some 51), .call (.c (.fn 37 [])) [(.t 48), (.t 49), (.t 50)], none, none⟩,
  ⟨(some 4), .mv (.t 51), none, none⟩,
  ⟨(some 5), .mv (.c (.bool false)), none, none⟩,
  ⟨(some 6), .mv (.c (.int .i64 0)), none, none⟩]
def f23r7 : IC := .reg false [] f23o7 [4, 5, 6]
@[simp] theorem f23r7_run (tbl : TB) (fin : Fin) (K : List Fr) (e : Env) (H : List AO) : run tbl fin K f23r7 e H = regK tbl fin K [] f23o7 [4, 5, 6] e H := run_regK tbl fin K false [] f23o7 [4, 5, 6] e H rfl
def f23body : IC := (.seq f23r0 (.seq (.seq f23r1 (.cond (.t 31) (.seq f23r2 .ret) .skip)) (.seq f23r3 (.seq (.seq f23r4 (.cond (.t 39) (.seq f23r5 .ret) .skip)) (.seq f23r6 (.seq f23r7 .ret))))))
def f23 : IFn := ⟨52, 2, [.tmp 4, .tmp 5, .tmp 6], f23body⟩
/- 24: jobshell/fdtab.Put -/
@[simp] def f24o0 : List IOper := [
  ⟨(some 3), .box 26 3 (.t 1), none, none⟩,
  ⟨(some 4), .nilrow 26 3, none, none⟩,
  ⟨(some 5), .mv (.c (.int .i64 0)), none, none⟩]
def f24r0 : IC := .reg false [] f24o0 [3, 0]
@[simp] theorem f24r0_run (tbl : TB) (fin : Fin) (K : List Fr) (e : Env) (H : List AO) : run tbl fin K f24r0 e H = regK tbl fin K [] f24o0 [3, 0] e H := run_regK tbl fin K false [] f24o0 [3, 0] e H rfl
@[simp] def f24o1 : List IOper := [
  ⟨(some 9), .load true 3 (.t 3), none, none⟩,
  ⟨(some 10), .call (.c (.fn 32 [])) [(.t 9)], none, none⟩,
  ⟨(some 6), .mv (.t 10), none, none⟩]
def f24r1 : IC := .reg false [] f24o1 [3, 0, 6]
@[simp] theorem f24r1_run (tbl : TB) (fin : Fin) (K : List Fr) (e : Env) (H : List AO) : run tbl fin K f24r1 e H = regK tbl fin K [] f24o1 [3, 0, 6] e H := run_regK tbl fin K false [] f24o1 [3, 0, 6] e H rfl
@[simp] def f24o2 : List IOper := [
  ⟨(some 11), .mv (.t 6), none, none⟩,
  ⟨(some 12), .bin .neq (.t 11) (.c (.int .i64 0)), none, none⟩]
def f24r2 : IC := .reg false [] f24o2 [12, 3, 0, 6]
@[simp] theorem f24r2_run (tbl : TB) (fin : Fin) (K : List Fr) (e : Env) (H : List AO) : run tbl fin K f24r2 e H = regK tbl fin K [] f24o2 [12, 3, 0, 6] e H := run_regK tbl fin K false [] f24o2 [12, 3, 0, 6] e H rfl
@[simp] def f24o3 : List IOper := [
  ⟨(some 13), .mv (.t 0), none, none⟩,
  ⟨(some 14), .mv (.t 6), none, none⟩,
  ⟨(some 4), .mv (.t 13), none, none⟩,
  ⟨(some 5), .mv (.t 14), none, none⟩]
def f24r3 : IC := .reg false [] f24o3 [4, 5]
@[simp] theorem f24r3_run (tbl : TB) (fin : Fin) (K : List Fr) (e : Env) (H : List AO) : run tbl fin K f24r3 e H = regK tbl fin K [] f24o3 [4, 5] e H := run_regK tbl fin K false [] f24o3 [4, 5] e H rfl
@[simp] def f24o4 : List IOper := [
  ⟨(some 15), .mv (.t 0), none, none⟩,
  ⟨(some 16), .len (.t 15), none, none⟩,
  ⟨(some 17), .bin .add (.t 16) (.c (.int .i64 1)), none, none⟩,
  ⟨(some 18), .mk 26 3 (.agg [(.int .i64 0), (.int .i64 0), (.bool false)]) (.c (.int .i64 0)) (.t 17), none, none⟩,
  ⟨(some 7), .mv (.t 18), none, none⟩]
def f24r4 : IC := .reg false [] f24o4 [0, 3, 7]
@[simp] theorem f24r4_run (tbl : TB) (fin : Fin) (K : List Fr) (e : Env) (H : List AO) : run tbl fin K f24r4 e H = regK tbl fin K [] f24o4 [0, 3, 7] e H := run_regK tbl fin K false [] f24o4 [0, 3, 7] e H rfl
@[simp] def f24o5 : List IOper := [
  ⟨(some 8), .mv (.c (.int .i64 0)), none, none⟩]
def f24r5 : IC := .reg false [] f24o5 [8, 0, 3, 7]
@[simp] theorem f24r5_run (tbl : TB) (fin : Fin) (K : List Fr) (e : Env) (H : List AO) : run tbl fin K f24r5 e H = regK tbl fin K [] f24o5 [8, 0, 3, 7] e H := run_regK tbl fin K false [] f24o5 [8, 0, 3, 7] e H rfl
@[simp] def f24o6 : List IOper := [
  ⟨(some 19), .mv (.t 8), none, none⟩,
  ⟨(some 20), .mv (.t 0), none, none⟩,
  ⟨(some 21), .len (.t 20), none, none⟩,
  ⟨(some 22), .bin .lss (.t 19) (.t 21), none, none⟩,
  ⟨(some 23), .mv (.t 22), none, none⟩,
  ⟨(some 24), .mv (.t 0), (some (23, true)), none⟩,
  ⟨(some 25), .mv (.t 8), (some (23, true)), none⟩,
  ⟨(some 26), .idx 3 (.t 24) (.t 25), (some (23, true)), none⟩,
  ⟨(some 27), .fld 0 (.t 26), (some (23, true)), none⟩,
  ⟨(some 28), .load false 1 (.t 27), (some (23, true)), none⟩,
  ⟨(some 29), .fld 0 (.t 3), (some (23, true)), none⟩,
  ⟨(some 30), .load false 1 (.t 29), (some (23, true)), none⟩,
  ⟨(some 31), .bin .lss (.t 28) (.t 30), (some (23, true)), none⟩,
  ⟨(some 32), .pick (.t 23) (.t 31) (.c (.bool false)), none, none⟩]
def f24r6 : IC := .reg true [] f24o6 [32, 8, 0, 3, 7]
@[simp] theorem f24r6_run (tbl : TB) (fin : Fin) (K : List Fr) (e : Env) (H : List AO) : run tbl fin K f24r6 e H = regK tbl fin K [] f24o6 [32, 8, 0, 3, 7] e H := run_regK tbl fin K true [] f24o6 [32, 8, 0, 3, 7] e H rfl
@[simp] def f24o7 : List IOper := [
  ⟨(some 33), .mv (.t 8), none, none⟩,
  ⟨(some 34), .bin .add (.t 33) (.c (.int .i64 1)), none, none⟩,
  ⟨(some 8), .mv (.t 34), none, none⟩]
def f24r7 : IC := .reg false [] f24o7 [8, 0, 3, 7]
@[simp] theorem f24r7_run (tbl : TB) (fin : Fin) (K : List Fr) (e : Env) (H : List AO) : run tbl fin K f24r7 e H = regK tbl fin K [] f24o7 [8, 0, 3, 7] e H := run_regK tbl fin K false [] f24o7 [8, 0, 3, 7] e H rfl
def f24b8 : IC := (.seq (.seq f24r6 (.cond (.t 32) .skip (.exit 0))) (.block 1 f24r7))
theorem f24b8_eq : f24b8 = (.seq (.seq f24r6 (.cond (.t 32) .skip (.exit 0))) (.block 1 f24r7)) := rfl
@[simp] def f24o9 : List IOper := [
  ⟨(some 35), .mv (.t 7), none, none⟩,
  ⟨(some 36), .mv (.t 0), none, none⟩,
  ⟨(some 37), .mv (.t 8), none, none⟩,
  ⟨(some 38), .slc 3 (.t 36) none (some (.t 37)), none, none⟩,
  ⟨(some 39), .app 26 3 (.t 35) (.t 38), none, none⟩,
  ⟨(some 40), .loadb true 3 (.t 3), none, none⟩,
  ⟨(some 41), .mkpl 3 1 (.agg [(.int .i64 0), (.int .i64 0), (.bool false)]) [(0, (.t 40))], none, none⟩,
  ⟨(some 42), .app 26 3 (.t 39) (.t 41), none, none⟩,
  ⟨(some 7), .mv (.t 42), none, none⟩]
def f24r9 : IC := .reg true [] f24o9 [3, 8, 7, 0]
@[simp] theorem f24r9_run (tbl : TB) (fin : Fin) (K : List Fr) (e : Env) (H : List AO) : run tbl fin K f24r9 e H = regK tbl fin K [] f24o9 [3, 8, 7, 0] e H := run_regK tbl fin K true [] f24o9 [3, 8, 7, 0] e H rfl
@[simp] def f24o10 : List IOper := [
  ⟨(some 43), .mv (.t 8), none, none⟩,
  ⟨(some 44), .mv (.t 0), none, none⟩,
  ⟨(some 45), .len (.t 44), none, none⟩,
  ⟨(some 46), .bin .lss (.t 43) (.t 45), none, none⟩,
  ⟨(some 47), .mv (.t 46), none, none⟩,
  ⟨(some 48), .mv (.t 0), (some (47, true)), none⟩,
  ⟨(some 49), .mv (.t 8), (some (47, true)), none⟩,
  ⟨(some 50), .idx 3 (.t 48) (.t 49), (some (47, true)), none⟩,
  ⟨(some 51), .fld 0 (.t 50), (some (47, true)), none⟩,
  ⟨(some 52), .load false 1 (.t 51), (some (47, true)), none⟩,
  ⟨(some 53), .fld 0 (.t 3), (some (47, true)), none⟩,
  ⟨(some 54), .load false 1 (.t 53), (some (47, true)), none⟩,
  ⟨(some 55), .bin .eql (.t 52) (.t 54), (some (47, true)), none⟩,
  ⟨(some 56), .pick (.t 47) (.t 55) (.c (.bool false)), none, none⟩]
def f24r10 : IC := .reg true [] f24o10 [56, 8, 7, 0]
@[simp] theorem f24r10_run (tbl : TB) (fin : Fin) (K : List Fr) (e : Env) (H : List AO) : run tbl fin K f24r10 e H = regK tbl fin K [] f24o10 [56, 8, 7, 0] e H := run_regK tbl fin K true [] f24o10 [56, 8, 7, 0] e H rfl
@[simp] def f24o11 : List IOper := [
  ⟨(some 57), .mv (.t 8), none, none⟩,
  ⟨(some 58), .bin .add (.t 57) (.c (.int .i64 1)), none, none⟩,
  ⟨(some 8), .mv (.t 58), none, none⟩]
def f24r11 : IC := .reg false [] f24o11 [7, 0, 8]
@[simp] theorem f24r11_run (tbl : TB) (fin : Fin) (K : List Fr) (e : Env) (H : List AO) : run tbl fin K f24r11 e H = regK tbl fin K [] f24o11 [7, 0, 8] e H := run_regK tbl fin K false [] f24o11 [7, 0, 8] e H rfl
@[simp] def f24o12 : List IOper := [
  ⟨(some 59), .mv (.t 7), none, none⟩,
  ⟨(some 60), .mv (.t 0), none, none⟩,
  ⟨(some 61), .mv (.t 8), none, none⟩,
  ⟨(some 62), .slc 3 (.t 60) (some (.t 61)) none, none, none⟩,
  ⟨(some 63), .app 26 3 (.t 59) (.t 62), none, none⟩,
  ⟨(some 4), .mv (.t 63), none, none⟩,
  ⟨(some 5), .mv (.c (.int .i64 0)), none, none⟩]
def f24r12 : IC := .reg false [] f24o12 [4, 5]
@[simp] theorem f24r12_run (tbl : TB) (fin : Fin) (K : List Fr) (e : Env) (H : List AO) : run tbl fin K f24r12 e H = regK tbl fin K [] f24o12 [4, 5] e H := run_regK tbl fin K false [] f24o12 [4, 5] e H rfl
def f24body : IC := (.seq f24r0 (.seq (.seq f24r1 (.seq f24r2 (.cond (.t 12) (.seq f24r3 .ret) .skip))) (.seq f24r4 (.seq f24r5 (.seq (.block 0 (.loop [8, 0, 3, 7] f24b8)) (.seq f24r9 (.seq (.seq f24r10 (.cond (.t 56) f24r11 .skip)) (.seq f24r12 .ret))))))))
def f24 : IFn := ⟨64, 2, [.tmp 4, .tmp 5], f24body⟩
/- 25: jobshell/jobshellref23.Put -/
@[simp] def f25o0 : List IOper := [
  ⟨(some 3), .box 26 3 (.t 1), none, none⟩,
  ⟨(some 4), .nilrow 26 3, none, none⟩,
  ⟨(some 5), .mv (.c (.int .i64 0)), none, none⟩]
def f25r0 : IC := .reg false [] f25o0 [3, 0]
@[simp] theorem f25r0_run (tbl : TB) (fin : Fin) (K : List Fr) (e : Env) (H : List AO) : run tbl fin K f25r0 e H = regK tbl fin K [] f25o0 [3, 0] e H := run_regK tbl fin K false [] f25o0 [3, 0] e H rfl
@[simp] def f25o1 : List IOper := [
  ⟨(some 11), .load true 3 (.t 3), none, none⟩,
  ⟨(some 12), .call (.c (.fn 33 [])) [(.t 11)], none, none⟩,
  ⟨(some 6), .mv (.t 12), none, none⟩]
def f25r1 : IC := .reg false [] f25o1 [3, 0, 6]
@[simp] theorem f25r1_run (tbl : TB) (fin : Fin) (K : List Fr) (e : Env) (H : List AO) : run tbl fin K f25r1 e H = regK tbl fin K [] f25o1 [3, 0, 6] e H := run_regK tbl fin K false [] f25o1 [3, 0, 6] e H rfl
@[simp] def f25o2 : List IOper := [
  ⟨(some 13), .mv (.t 6), none, none⟩,
  ⟨(some 14), .bin .neq (.t 13) (.c (.int .i64 0)), none, none⟩]
def f25r2 : IC := .reg false [] f25o2 [14, 3, 0, 6]
@[simp] theorem f25r2_run (tbl : TB) (fin : Fin) (K : List Fr) (e : Env) (H : List AO) : run tbl fin K f25r2 e H = regK tbl fin K [] f25o2 [14, 3, 0, 6] e H := run_regK tbl fin K false [] f25o2 [14, 3, 0, 6] e H rfl
@[simp] def f25o3 : List IOper := [
  ⟨(some 15), .mv (.t 0), none, none⟩,
  ⟨(some 16), .mv (.t 6), none, none⟩,
  ⟨(some 4), .mv (.t 15), none, none⟩,
  ⟨(some 5), .mv (.t 16), none, none⟩]
def f25r3 : IC := .reg false [] f25o3 [4, 5]
@[simp] theorem f25r3_run (tbl : TB) (fin : Fin) (K : List Fr) (e : Env) (H : List AO) : run tbl fin K f25r3 e H = regK tbl fin K [] f25o3 [4, 5] e H := run_regK tbl fin K false [] f25o3 [4, 5] e H rfl
@[simp] def f25o4 : List IOper := [
  ⟨(some 7), .nilrow 26 3, none, none⟩]
def f25r4 : IC := .reg false [] f25o4 [7, 0, 3]
@[simp] theorem f25r4_run (tbl : TB) (fin : Fin) (K : List Fr) (e : Env) (H : List AO) : run tbl fin K f25r4 e H = regK tbl fin K [] f25o4 [7, 0, 3] e H := run_regK tbl fin K false [] f25o4 [7, 0, 3] e H rfl
@[simp] def f25o5 : List IOper := [
  ⟨(some 8), .mv (.c (.int .i64 0)), none, none⟩]
def f25r5 : IC := .reg false [] f25o5 [7, 8, 0, 3]
@[simp] theorem f25r5_run (tbl : TB) (fin : Fin) (K : List Fr) (e : Env) (H : List AO) : run tbl fin K f25r5 e H = regK tbl fin K [] f25o5 [7, 8, 0, 3] e H := run_regK tbl fin K false [] f25o5 [7, 8, 0, 3] e H rfl
@[simp] def f25o6 : List IOper := [
  ⟨(some 17), .mv (.t 8), none, none⟩,
  ⟨(some 18), .bin .lss (.t 17) (.c (.int .i64 32)), none, none⟩]
def f25r6 : IC := .reg false [] f25o6 [18, 7, 8, 0, 3]
@[simp] theorem f25r6_run (tbl : TB) (fin : Fin) (K : List Fr) (e : Env) (H : List AO) : run tbl fin K f25r6 e H = regK tbl fin K [] f25o6 [18, 7, 8, 0, 3] e H := run_regK tbl fin K false [] f25o6 [18, 7, 8, 0, 3] e H rfl
@[simp] def f25o7 : List IOper := [
  ⟨(some 22), .mv (.t 0), none, none⟩,
  ⟨(some 23), .mv (.t 8), none, none⟩,
  ⟨(some 24), .call (.c (.fn 12 [])) [(.t 22), (.t 23)], none, none⟩,
  ⟨(some 21), .mv (.t 24), none, none⟩,
  ⟨(some 25), .ext (.t 21) 0, none, none⟩,
  ⟨(some 26), .ext (.t 21) 1, none, none⟩,
  ⟨(some 9), .new 26 3 (.agg [(.int .i64 0), (.int .i64 0), (.bool false)]), none, none⟩,
  ⟨none, .store 3 (.t 9) (.t 25), none, none⟩,
  ⟨(some 10), .mv (.t 26), none, none⟩]
def f25r7 : IC := .reg false [] f25o7 [9, 10, 7, 8, 0, 3]
@[simp] theorem f25r7_run (tbl : TB) (fin : Fin) (K : List Fr) (e : Env) (H : List AO) : run tbl fin K f25r7 e H = regK tbl fin K [] f25o7 [9, 10, 7, 8, 0, 3] e H := run_regK tbl fin K false [] f25o7 [9, 10, 7, 8, 0, 3] e H rfl
@[simp] def f25o8 : List IOper := [
  ⟨(some 27), .mv (.t 8), none, none⟩,
  ⟨(some 28), .fld 0 (.t 3), none, none⟩,
  ⟨(some 29), .load false 1 (.t 28), none, none⟩,
  ⟨(some 30), .bin .eql (.t 27) (.t 29), none, none⟩]
def f25r8 : IC := .reg false [] f25o8 [30, 9, 10, 7, 8, 0, 3]
@[simp] theorem f25r8_run (tbl : TB) (fin : Fin) (K : List Fr) (e : Env) (H : List AO) : run tbl fin K f25r8 e H = regK tbl fin K [] f25o8 [30, 9, 10, 7, 8, 0, 3] e H := run_regK tbl fin K false [] f25o8 [30, 9, 10, 7, 8, 0, 3] e H rfl
@[simp] def f25o9 : List IOper := [
  ⟨(some 31), .mv (.t 7), none, none⟩,
  ⟨(some 32), .load true 3 (.t 3), none, none⟩,
  ⟨(some 33), .mkimm 3 1 (.agg [(.int .i64 0), (.int .i64 0), (.bool false)]) [(0, (.t 32))], none, none⟩,
  ⟨(some 34), .app 26 3 (.t 31) (.t 33), none, none⟩,
  ⟨(some 7), .mv (.t 34), none, none⟩]
def f25r9 : IC := .reg false [] f25o9 [8, 7, 0, 3]
@[simp] theorem f25r9_run (tbl : TB) (fin : Fin) (K : List Fr) (e : Env) (H : List AO) : run tbl fin K f25r9 e H = regK tbl fin K [] f25o9 [8, 7, 0, 3] e H := run_regK tbl fin K false [] f25o9 [8, 7, 0, 3] e H rfl
@[simp] def f25o10 : List IOper := [
  ⟨(some 35), .mv (.t 10), none, none⟩]
def f25r10 : IC := .reg false [] f25o10 [35, 7, 9, 8, 0, 3]
@[simp] theorem f25r10_run (tbl : TB) (fin : Fin) (K : List Fr) (e : Env) (H : List AO) : run tbl fin K f25r10 e H = regK tbl fin K [] f25o10 [35, 7, 9, 8, 0, 3] e H := run_regK tbl fin K false [] f25o10 [35, 7, 9, 8, 0, 3] e H rfl
@[simp] def f25o11 : List IOper := [
  ⟨(some 36), .mv (.t 7), none, none⟩,
  ⟨(some 37), .load true 3 (.t 9), none, none⟩,
  ⟨(some 38), .mkimm 3 1 (.agg [(.int .i64 0), (.int .i64 0), (.bool false)]) [(0, (.t 37))], none, none⟩,
  ⟨(some 39), .app 26 3 (.t 36) (.t 38), none, none⟩,
  ⟨(some 7), .mv (.t 39), none, none⟩]
def f25r11 : IC := .reg false [] f25o11 [8, 7, 0, 3]
@[simp] theorem f25r11_run (tbl : TB) (fin : Fin) (K : List Fr) (e : Env) (H : List AO) : run tbl fin K f25r11 e H = regK tbl fin K [] f25o11 [8, 7, 0, 3] e H := run_regK tbl fin K false [] f25o11 [8, 7, 0, 3] e H rfl
@[simp] def f25o12 : List IOper := [
  ⟨(some 19), .mv (.t 8), none, none⟩,
  ⟨(some 20), .bin .add (.t 19) (.c (.int .i64 1)), none, none⟩,
  ⟨(some 8), .mv (.t 20), none, none⟩]
def f25r12 : IC := .reg false [] f25o12 [7, 8, 0, 3]
@[simp] theorem f25r12_run (tbl : TB) (fin : Fin) (K : List Fr) (e : Env) (H : List AO) : run tbl fin K f25r12 e H = regK tbl fin K [] f25o12 [7, 8, 0, 3] e H := run_regK tbl fin K false [] f25o12 [7, 8, 0, 3] e H rfl
def f25b13 : IC := (.seq (.seq f25r6 (.cond (.t 18) .skip (.exit 0))) (.seq (.block 1 (.seq f25r7 (.seq f25r8 (.cond (.t 30) f25r9 (.seq f25r10 (.cond (.t 35) f25r11 .skip)))))) f25r12))
theorem f25b13_eq : f25b13 = (.seq (.seq f25r6 (.cond (.t 18) .skip (.exit 0))) (.seq (.block 1 (.seq f25r7 (.seq f25r8 (.cond (.t 30) f25r9 (.seq f25r10 (.cond (.t 35) f25r11 .skip)))))) f25r12)) := rfl
@[simp] def f25o14 : List IOper := [
  ⟨(some 40), .mv (.t 7), none, none⟩,
  ⟨(some 4), .mv (.t 40), none, none⟩,
  ⟨(some 5), .mv (.c (.int .i64 0)), none, none⟩]
def f25r14 : IC := .reg false [] f25o14 [4, 5]
@[simp] theorem f25r14_run (tbl : TB) (fin : Fin) (K : List Fr) (e : Env) (H : List AO) : run tbl fin K f25r14 e H = regK tbl fin K [] f25o14 [4, 5] e H := run_regK tbl fin K false [] f25o14 [4, 5] e H rfl
def f25body : IC := (.seq f25r0 (.seq f25r1 (.seq (.seq f25r2 (.cond (.t 14) (.seq f25r3 .ret) .skip)) (.seq f25r4 (.seq (.seq f25r5 (.block 0 (.loop [7, 8, 0, 3] f25b13))) (.seq f25r14 .ret))))))
def f25 : IFn := ⟨41, 2, [.tmp 4, .tmp 5], f25body⟩
/- 26: jobshell/fdtab.Drop -/
@[simp] def f26o0 : List IOper := [
  ⟨(some 4), .nilrow 26 3, none, none⟩,
  ⟨(some 5), .mv (.c (.int .i64 0)), none, none⟩]
def f26r0 : IC := .reg false [] f26o0 [1, 0]
@[simp] theorem f26r0_run (tbl : TB) (fin : Fin) (K : List Fr) (e : Env) (H : List AO) : run tbl fin K f26r0 e H = regK tbl fin K [] f26o0 [1, 0] e H := run_regK tbl fin K false [] f26o0 [1, 0] e H rfl
@[simp] def f26o1 : List IOper := [
  ⟨(some 12), .mv (.t 0), none, none⟩,
  ⟨(some 13), .mv (.t 1), none, none⟩,
  ⟨(some 14), .call (.c (.fn 11 [])) [(.t 12), (.t 13)], none, none⟩,
  ⟨(some 11), .mv (.t 14), none, none⟩,
  ⟨(some 15), .ext (.t 11) 0, none, none⟩,
  ⟨(some 16), .ext (.t 11) 1, none, none⟩,
  ⟨(some 6), .new 26 3 (.agg [(.int .i64 0), (.int .i64 0), (.bool false)]), none, none⟩,
  ⟨none, .store 3 (.t 6) (.t 15), none, none⟩,
  ⟨(some 7), .mv (.t 16), none, none⟩]
def f26r1 : IC := .reg false [] f26o1 [7, 6, 0]
@[simp] theorem f26r1_run (tbl : TB) (fin : Fin) (K : List Fr) (e : Env) (H : List AO) : run tbl fin K f26r1 e H = regK tbl fin K [] f26o1 [7, 6, 0] e H := run_regK tbl fin K false [] f26o1 [7, 6, 0] e H rfl
@[simp] def f26o2 : List IOper := [
  ⟨(some 17), .mv (.t 7), none, none⟩,
  ⟨(some 18), .un .not (.t 17), none, none⟩]
def f26r2 : IC := .reg false [] f26o2 [18, 6, 0]
@[simp] theorem f26r2_run (tbl : TB) (fin : Fin) (K : List Fr) (e : Env) (H : List AO) : run tbl fin K f26r2 e H = regK tbl fin K [] f26o2 [18, 6, 0] e H := run_regK tbl fin K false [] f26o2 [18, 6, 0] e H rfl
@[simp] def f26o3 : List IOper := [
  ⟨(some 19), .mv (.t 0), none, none⟩,
  ⟨(some 4), .mv (.t 19), none, none⟩,
  ⟨(some 5), .mv (.c (.int .i64 15)), none, none⟩]
def f26r3 : IC := .reg false [] f26o3 [4, 5]
@[simp] theorem f26r3_run (tbl : TB) (fin : Fin) (K : List Fr) (e : Env) (H : List AO) : run tbl fin K f26r3 e H = regK tbl fin K [] f26o3 [4, 5] e H := run_regK tbl fin K false [] f26o3 [4, 5] e H rfl
@[simp] def f26o4 : List IOper := [
  ⟨(some 20), .mv (.t 0), none, none⟩,
  ⟨(some 21), .len (.t 20), none, none⟩,
  ⟨(some 22), .mk 26 3 (.agg [(.int .i64 0), (.int .i64 0), (.bool false)]) (.c (.int .i64 0)) (.t 21), none, none⟩,
  ⟨(some 8), .mv (.t 22), none, none⟩]
def f26r4 : IC := .reg false [] f26o4 [0, 8, 6]
@[simp] theorem f26r4_run (tbl : TB) (fin : Fin) (K : List Fr) (e : Env) (H : List AO) : run tbl fin K f26r4 e H = regK tbl fin K [] f26o4 [0, 8, 6] e H := run_regK tbl fin K false [] f26o4 [0, 8, 6] e H rfl
@[simp] def f26o5 : List IOper := [
  ⟨(some 23), .mv (.t 0), none, none⟩,
  ⟨(some 24), .len (.t 23), none, none⟩,
  ⟨(some 25), .mv (.c (.int .i64 0)), none, none⟩]
def f26r5 : IC := .reg false [] f26o5 [8, 25, 24, 23, 6]
@[simp] theorem f26r5_run (tbl : TB) (fin : Fin) (K : List Fr) (e : Env) (H : List AO) : run tbl fin K f26r5 e H = regK tbl fin K [] f26o5 [8, 25, 24, 23, 6] e H := run_regK tbl fin K false [] f26o5 [8, 25, 24, 23, 6] e H rfl
@[simp] def f26o6 : List IOper := [
  ⟨(some 26), .bin .lss (.t 25) (.t 24), none, none⟩]
def f26r6 : IC := .reg false [] f26o6 [26, 8, 25, 24, 23, 6]
@[simp] theorem f26r6_run (tbl : TB) (fin : Fin) (K : List Fr) (e : Env) (H : List AO) : run tbl fin K f26r6 e H = regK tbl fin K [] f26o6 [26, 8, 25, 24, 23, 6] e H := run_regK tbl fin K false [] f26o6 [26, 8, 25, 24, 23, 6] e H rfl
@[simp] def f26o7 : List IOper := [
  ⟨(some 27), .idx 3 (.t 23) (.t 25), none, none⟩,
  ⟨(some 28), .load true 3 (.t 27), none, none⟩,
  ⟨(some 10), .new 26 3 (.agg [(.int .i64 0), (.int .i64 0), (.bool false)]), none, none⟩,
  ⟨none, .store 3 (.t 10) (.t 28), none, none⟩]
def f26r7 : IC := .reg false [] f26o7 [8, 10, 25, 24, 23, 6]
@[simp] theorem f26r7_run (tbl : TB) (fin : Fin) (K : List Fr) (e : Env) (H : List AO) : run tbl fin K f26r7 e H = regK tbl fin K [] f26o7 [8, 10, 25, 24, 23, 6] e H := run_regK tbl fin K false [] f26o7 [8, 10, 25, 24, 23, 6] e H rfl
@[simp] def f26o8 : List IOper := [
  ⟨(some 29), .load true 3 (.t 10), none, none⟩,
  ⟨(some 30), .load true 3 (.t 6), none, none⟩,
  ⟨(some 31), .aeq true [.i, .i, .b] (.t 29) (.t 30), none, none⟩]
def f26r8 : IC := .reg false [] f26o8 [31, 8, 10, 25, 24, 23, 6]
@[simp] theorem f26r8_run (tbl : TB) (fin : Fin) (K : List Fr) (e : Env) (H : List AO) : run tbl fin K f26r8 e H = regK tbl fin K [] f26o8 [31, 8, 10, 25, 24, 23, 6] e H := run_regK tbl fin K false [] f26o8 [31, 8, 10, 25, 24, 23, 6] e H rfl
@[simp] def f26o9 : List IOper := [
  ⟨(some 32), .mv (.t 8), none, none⟩,
  ⟨(some 33), .load true 3 (.t 10), none, none⟩,
  ⟨(some 34), .mkimm 3 1 (.agg [(.int .i64 0), (.int .i64 0), (.bool false)]) [(0, (.t 33))], none, none⟩,
  ⟨(some 35), .app 26 3 (.t 32) (.t 34), none, none⟩,
  ⟨(some 8), .mv (.t 35), none, none⟩]
def f26r9 : IC := .reg false [] f26o9 [25, 8, 24, 23, 6]
@[simp] theorem f26r9_run (tbl : TB) (fin : Fin) (K : List Fr) (e : Env) (H : List AO) : run tbl fin K f26r9 e H = regK tbl fin K [] f26o9 [25, 8, 24, 23, 6] e H := run_regK tbl fin K false [] f26o9 [25, 8, 24, 23, 6] e H rfl
@[simp] def f26o10 : List IOper := [
  ⟨(some 36), .bin .add (.t 25) (.c (.int .i64 1)), none, none⟩,
  ⟨(some 25), .mv (.t 36), none, none⟩]
def f26r10 : IC := .reg false [] f26o10 [8, 25, 24, 23, 6]
@[simp] theorem f26r10_run (tbl : TB) (fin : Fin) (K : List Fr) (e : Env) (H : List AO) : run tbl fin K f26r10 e H = regK tbl fin K [] f26o10 [8, 25, 24, 23, 6] e H := run_regK tbl fin K false [] f26o10 [8, 25, 24, 23, 6] e H rfl
def f26b11 : IC := (.seq f26r6 (.seq (.cond (.t 26) .skip (.exit 0)) (.seq (.block 1 (.seq f26r7 (.seq f26r8 (.cond (.t 31) f26r9 .skip)))) f26r10)))
theorem f26b11_eq : f26b11 = (.seq f26r6 (.seq (.cond (.t 26) .skip (.exit 0)) (.seq (.block 1 (.seq f26r7 (.seq f26r8 (.cond (.t 31) f26r9 .skip)))) f26r10))) := rfl
@[simp] def f26o12 : List IOper := [
  ⟨(some 37), .mv (.t 8), none, none⟩,
  ⟨(some 4), .mv (.t 37), none, none⟩,
  ⟨(some 5), .mv (.c (.int .i64 0)), none, none⟩]
def f26r12 : IC := .reg false [] f26o12 [4, 5]
@[simp] theorem f26r12_run (tbl : TB) (fin : Fin) (K : List Fr) (e : Env) (H : List AO) : run tbl fin K f26r12 e H = regK tbl fin K [] f26o12 [4, 5] e H := run_regK tbl fin K false [] f26o12 [4, 5] e H rfl
def f26body : IC := (.seq f26r0 (.seq f26r1 (.seq (.seq f26r2 (.cond (.t 18) (.seq f26r3 .ret) .skip)) (.seq f26r4 (.seq (.seq f26r5 (.block 0 (.loop [8, 25, 24, 23, 6] f26b11))) (.seq f26r12 .ret))))))
def f26 : IFn := ⟨38, 2, [.tmp 4, .tmp 5], f26body⟩
/- 27: jobshell/jobshellref23.Drop -/
@[simp] def f27o0 : List IOper := [
  ⟨(some 4), .nilrow 26 3, none, none⟩,
  ⟨(some 5), .mv (.c (.int .i64 0)), none, none⟩]
def f27r0 : IC := .reg false [] f27o0 [1, 0]
@[simp] theorem f27r0_run (tbl : TB) (fin : Fin) (K : List Fr) (e : Env) (H : List AO) : run tbl fin K f27r0 e H = regK tbl fin K [] f27o0 [1, 0] e H := run_regK tbl fin K false [] f27o0 [1, 0] e H rfl
@[simp] def f27o1 : List IOper := [
  ⟨(some 11), .mv (.t 0), none, none⟩,
  ⟨(some 12), .mv (.t 1), none, none⟩,
  ⟨(some 13), .call (.c (.fn 12 [])) [(.t 11), (.t 12)], none, none⟩,
  ⟨(some 10), .mv (.t 13), none, none⟩,
  ⟨(some 14), .ext (.t 10) 0, none, none⟩,
  ⟨(some 15), .ext (.t 10) 1, none, none⟩,
  ⟨(some 6), .new 26 3 (.agg [(.int .i64 0), (.int .i64 0), (.bool false)]), none, none⟩,
  ⟨none, .store 3 (.t 6) (.t 14), none, none⟩,
  ⟨(some 7), .mv (.t 15), none, none⟩]
def f27r1 : IC := .reg false [] f27o1 [7, 1, 0]
@[simp] theorem f27r1_run (tbl : TB) (fin : Fin) (K : List Fr) (e : Env) (H : List AO) : run tbl fin K f27r1 e H = regK tbl fin K [] f27o1 [7, 1, 0] e H := run_regK tbl fin K false [] f27o1 [7, 1, 0] e H rfl
@[simp] def f27o2 : List IOper := [
  ⟨(some 16), .mv (.t 7), none, none⟩,
  ⟨(some 17), .un .not (.t 16), none, none⟩]
def f27r2 : IC := .reg false [] f27o2 [17, 1, 0]
@[simp] theorem f27r2_run (tbl : TB) (fin : Fin) (K : List Fr) (e : Env) (H : List AO) : run tbl fin K f27r2 e H = regK tbl fin K [] f27o2 [17, 1, 0] e H := run_regK tbl fin K false [] f27o2 [17, 1, 0] e H rfl
@[simp] def f27o3 : List IOper := [
  ⟨(some 18), .mv (.t 0), none, none⟩,
  ⟨(some 4), .mv (.t 18), none, none⟩,
  ⟨(some 5), .mv (.c (.int .i64 15)), none, none⟩]
def f27r3 : IC := .reg false [] f27o3 [4, 5]
@[simp] theorem f27r3_run (tbl : TB) (fin : Fin) (K : List Fr) (e : Env) (H : List AO) : run tbl fin K f27r3 e H = regK tbl fin K [] f27o3 [4, 5] e H := run_regK tbl fin K false [] f27o3 [4, 5] e H rfl
@[simp] def f27o4 : List IOper := [
  ⟨(some 8), .nilrow 26 3, none, none⟩]
def f27r4 : IC := .reg false [] f27o4 [8, 1, 0]
@[simp] theorem f27r4_run (tbl : TB) (fin : Fin) (K : List Fr) (e : Env) (H : List AO) : run tbl fin K f27r4 e H = regK tbl fin K [] f27o4 [8, 1, 0] e H := run_regK tbl fin K false [] f27o4 [8, 1, 0] e H rfl
@[simp] def f27o5 : List IOper := [
  ⟨(some 9), .mv (.c (.int .i64 0)), none, none⟩]
def f27r5 : IC := .reg false [] f27o5 [8, 9, 1, 0]
@[simp] theorem f27r5_run (tbl : TB) (fin : Fin) (K : List Fr) (e : Env) (H : List AO) : run tbl fin K f27r5 e H = regK tbl fin K [] f27o5 [8, 9, 1, 0] e H := run_regK tbl fin K false [] f27o5 [8, 9, 1, 0] e H rfl
@[simp] def f27o6 : List IOper := [
  ⟨(some 19), .mv (.t 9), none, none⟩,
  ⟨(some 20), .mv (.t 0), none, none⟩,
  ⟨(some 21), .len (.t 20), none, none⟩,
  ⟨(some 22), .bin .lss (.t 19) (.t 21), none, none⟩]
def f27r6 : IC := .reg false [] f27o6 [22, 8, 9, 1, 0]
@[simp] theorem f27r6_run (tbl : TB) (fin : Fin) (K : List Fr) (e : Env) (H : List AO) : run tbl fin K f27r6 e H = regK tbl fin K [] f27o6 [22, 8, 9, 1, 0] e H := run_regK tbl fin K false [] f27o6 [22, 8, 9, 1, 0] e H rfl
@[simp] def f27o7 : List IOper := [
  ⟨(some 25), .mv (.t 0), none, none⟩,
  ⟨(some 26), .mv (.t 9), none, none⟩,
  ⟨(some 27), .idx 3 (.t 25) (.t 26), none, none⟩,
  ⟨(some 28), .fld 0 (.t 27), none, none⟩,
  ⟨(some 29), .load false 1 (.t 28), none, none⟩,
  ⟨(some 30), .mv (.t 1), none, none⟩,
  ⟨(some 31), .bin .neq (.t 29) (.t 30), none, none⟩]
def f27r7 : IC := .reg false [] f27o7 [31, 8, 9, 1, 0]
@[simp] theorem f27r7_run (tbl : TB) (fin : Fin) (K : List Fr) (e : Env) (H : List AO) : run tbl fin K f27r7 e H = regK tbl fin K [] f27o7 [31, 8, 9, 1, 0] e H := run_regK tbl fin K false [] f27o7 [31, 8, 9, 1, 0] e H rfl
@[simp] def f27o8 : List IOper := [
  ⟨(some 32), .mv (.t 8), none, none⟩,
  ⟨(some 33), .mv (.t 0), none, none⟩,
  ⟨(some 34), .mv (.t 9), none, none⟩,
  ⟨(some 35), .idx 3 (.t 33) (.t 34), none, none⟩,
  ⟨(some 36), .load true 3 (.t 35), none, none⟩,
  ⟨(some 37), .mkimm 3 1 (.agg [(.int .i64 0), (.int .i64 0), (.bool false)]) [(0, (.t 36))], none, none⟩,
  ⟨(some 38), .app 26 3 (.t 32) (.t 37), none, none⟩,
  ⟨(some 8), .mv (.t 38), none, none⟩]
def f27r8 : IC := .reg false [] f27o8 [9, 8, 1, 0]
@[simp] theorem f27r8_run (tbl : TB) (fin : Fin) (K : List Fr) (e : Env) (H : List AO) : run tbl fin K f27r8 e H = regK tbl fin K [] f27o8 [9, 8, 1, 0] e H := run_regK tbl fin K false [] f27o8 [9, 8, 1, 0] e H rfl
@[simp] def f27o9 : List IOper := [
  ⟨(some 23), .mv (.t 9), none, none⟩,
  ⟨(some 24), .bin .add (.t 23) (.c (.int .i64 1)), none, none⟩,
  ⟨(some 9), .mv (.t 24), none, none⟩]
def f27r9 : IC := .reg false [] f27o9 [8, 9, 1, 0]
@[simp] theorem f27r9_run (tbl : TB) (fin : Fin) (K : List Fr) (e : Env) (H : List AO) : run tbl fin K f27r9 e H = regK tbl fin K [] f27o9 [8, 9, 1, 0] e H := run_regK tbl fin K false [] f27o9 [8, 9, 1, 0] e H rfl
def f27b10 : IC := (.seq (.seq f27r6 (.cond (.t 22) .skip (.exit 0))) (.seq (.block 1 (.seq f27r7 (.cond (.t 31) f27r8 .skip))) f27r9))
theorem f27b10_eq : f27b10 = (.seq (.seq f27r6 (.cond (.t 22) .skip (.exit 0))) (.seq (.block 1 (.seq f27r7 (.cond (.t 31) f27r8 .skip))) f27r9)) := rfl
@[simp] def f27o11 : List IOper := [
  ⟨(some 39), .mv (.t 8), none, none⟩,
  ⟨(some 4), .mv (.t 39), none, none⟩,
  ⟨(some 5), .mv (.c (.int .i64 0)), none, none⟩]
def f27r11 : IC := .reg false [] f27o11 [4, 5]
@[simp] theorem f27r11_run (tbl : TB) (fin : Fin) (K : List Fr) (e : Env) (H : List AO) : run tbl fin K f27r11 e H = regK tbl fin K [] f27o11 [4, 5] e H := run_regK tbl fin K false [] f27o11 [4, 5] e H rfl
def f27body : IC := (.seq f27r0 (.seq f27r1 (.seq (.seq f27r2 (.cond (.t 17) (.seq f27r3 .ret) .skip)) (.seq f27r4 (.seq (.seq f27r5 (.block 0 (.loop [8, 9, 1, 0] f27b10))) (.seq f27r11 .ret))))))
def f27 : IFn := ⟨40, 2, [.tmp 4, .tmp 5], f27body⟩
/- 28: jobshell/fdtab.Exec -/
@[simp] def f28o0 : List IOper := [
  ⟨(some 2), .nilrow 26 3, none, none⟩,
  ⟨(some 3), .nilrow 3 1, none, none⟩]
def f28r0 : IC := .reg false [] f28o0 [0]
@[simp] theorem f28r0_run (tbl : TB) (fin : Fin) (K : List Fr) (e : Env) (H : List AO) : run tbl fin K f28r0 e H = regK tbl fin K [] f28o0 [0] e H := run_regK tbl fin K false [] f28o0 [0] e H rfl
@[simp] def f28o1 : List IOper := [
  ⟨(some 4), .nilrow 26 3, none, none⟩]
def f28r1 : IC := .reg false [] f28o1 [0, 4]
@[simp] theorem f28r1_run (tbl : TB) (fin : Fin) (K : List Fr) (e : Env) (H : List AO) : run tbl fin K f28r1 e H = regK tbl fin K [] f28o1 [0, 4] e H := run_regK tbl fin K false [] f28o1 [0, 4] e H rfl
@[simp] def f28o2 : List IOper := [
  ⟨(some 5), .nilrow 3 1, none, none⟩]
def f28r2 : IC := .reg false [] f28o2 [0, 5, 4]
@[simp] theorem f28r2_run (tbl : TB) (fin : Fin) (K : List Fr) (e : Env) (H : List AO) : run tbl fin K f28r2 e H = regK tbl fin K [] f28o2 [0, 5, 4] e H := run_regK tbl fin K false [] f28o2 [0, 5, 4] e H rfl
@[simp] def f28o3 : List IOper := [
  ⟨(some 8), .mv (.t 0), none, none⟩,
  ⟨(some 9), .len (.t 8), none, none⟩,
  ⟨(some 10), .mv (.c (.int .i64 0)), none, none⟩]
def f28r3 : IC := .reg false [] f28o3 [5, 10, 9, 8, 4]
@[simp] theorem f28r3_run (tbl : TB) (fin : Fin) (K : List Fr) (e : Env) (H : List AO) : run tbl fin K f28r3 e H = regK tbl fin K [] f28o3 [5, 10, 9, 8, 4] e H := run_regK tbl fin K false [] f28o3 [5, 10, 9, 8, 4] e H rfl
@[simp] def f28o4 : List IOper := [
  ⟨(some 11), .bin .lss (.t 10) (.t 9), none, none⟩]
def f28r4 : IC := .reg false [] f28o4 [11, 5, 10, 9, 8, 4]
@[simp] theorem f28r4_run (tbl : TB) (fin : Fin) (K : List Fr) (e : Env) (H : List AO) : run tbl fin K f28r4 e H = regK tbl fin K [] f28o4 [11, 5, 10, 9, 8, 4] e H := run_regK tbl fin K false [] f28o4 [11, 5, 10, 9, 8, 4] e H rfl
@[simp] def f28o5 : List IOper := [
  ⟨(some 12), .idx 3 (.t 8) (.t 10), none, none⟩,
  ⟨(some 13), .load true 3 (.t 12), none, none⟩,
  ⟨(some 7), .new 26 3 (.agg [(.int .i64 0), (.int .i64 0), (.bool false)]), none, none⟩,
  ⟨none, .store 3 (.t 7) (.t 13), none, none⟩]
def f28r5 : IC := .reg false [] f28o5 [5, 7, 10, 9, 8, 4]
@[simp] theorem f28r5_run (tbl : TB) (fin : Fin) (K : List Fr) (e : Env) (H : List AO) : run tbl fin K f28r5 e H = regK tbl fin K [] f28o5 [5, 7, 10, 9, 8, 4] e H := run_regK tbl fin K false [] f28o5 [5, 7, 10, 9, 8, 4] e H rfl
@[simp] def f28o6 : List IOper := [
  ⟨(some 14), .fld 2 (.t 7), none, none⟩,
  ⟨(some 15), .load false 1 (.t 14), none, none⟩]
def f28r6 : IC := .reg false [] f28o6 [15, 5, 7, 10, 9, 8, 4]
@[simp] theorem f28r6_run (tbl : TB) (fin : Fin) (K : List Fr) (e : Env) (H : List AO) : run tbl fin K f28r6 e H = regK tbl fin K [] f28o6 [15, 5, 7, 10, 9, 8, 4] e H := run_regK tbl fin K false [] f28o6 [15, 5, 7, 10, 9, 8, 4] e H rfl
@[simp] def f28o7 : List IOper := [
  ⟨(some 16), .mv (.t 5), none, none⟩,
  ⟨(some 17), .fld 1 (.t 7), none, none⟩,
  ⟨(some 18), .load false 1 (.t 17), none, none⟩,
  ⟨(some 19), .mkimm 1 1 (.int .i64 0) [(0, (.t 18))], none, none⟩,
  ⟨(some 20), .app 3 1 (.t 16) (.t 19), none, none⟩,
  ⟨(some 5), .mv (.t 20), none, none⟩]
def f28r7 : IC := .reg false [] f28o7 [10, 5, 9, 8, 4]
@[simp] theorem f28r7_run (tbl : TB) (fin : Fin) (K : List Fr) (e : Env) (H : List AO) : run tbl fin K f28r7 e H = regK tbl fin K [] f28o7 [10, 5, 9, 8, 4] e H := run_regK tbl fin K false [] f28o7 [10, 5, 9, 8, 4] e H rfl
@[simp] def f28o8 : List IOper := [
  ⟨(some 21), .mv (.t 4), none, none⟩,
  ⟨(some 22), .load true 3 (.t 7), none, none⟩,
  ⟨(some 23), .mkimm 3 1 (.agg [(.int .i64 0), (.int .i64 0), (.bool false)]) [(0, (.t 22))], none, none⟩,
  ⟨(some 24), .app 26 3 (.t 21) (.t 23), none, none⟩,
  ⟨(some 4), .mv (.t 24), none, none⟩]
def f28r8 : IC := .reg false [] f28o8 [10, 5, 9, 8, 4]
@[simp] theorem f28r8_run (tbl : TB) (fin : Fin) (K : List Fr) (e : Env) (H : List AO) : run tbl fin K f28r8 e H = regK tbl fin K [] f28o8 [10, 5, 9, 8, 4] e H := run_regK tbl fin K false [] f28o8 [10, 5, 9, 8, 4] e H rfl
@[simp] def f28o9 : List IOper := [
  ⟨(some 25), .bin .add (.t 10) (.c (.int .i64 1)), none, none⟩,
  ⟨(some 10), .mv (.t 25), none, none⟩]
def f28r9 : IC := .reg false [] f28o9 [5, 10, 9, 8, 4]
@[simp] theorem f28r9_run (tbl : TB) (fin : Fin) (K : List Fr) (e : Env) (H : List AO) : run tbl fin K f28r9 e H = regK tbl fin K [] f28o9 [5, 10, 9, 8, 4] e H := run_regK tbl fin K false [] f28o9 [5, 10, 9, 8, 4] e H rfl
def f28b10 : IC := (.seq f28r4 (.seq (.cond (.t 11) .skip (.exit 0)) (.seq (.block 1 (.seq f28r5 (.seq f28r6 (.cond (.t 15) f28r7 f28r8)))) f28r9)))
theorem f28b10_eq : f28b10 = (.seq f28r4 (.seq (.cond (.t 11) .skip (.exit 0)) (.seq (.block 1 (.seq f28r5 (.seq f28r6 (.cond (.t 15) f28r7 f28r8)))) f28r9))) := rfl
@[simp] def f28o11 : List IOper := [
  ⟨(some 26), .mv (.t 4), none, none⟩,
  ⟨(some 27), .mv (.t 5), none, none⟩,
  ⟨(some 2), .mv (.t 26), none, none⟩,
  ⟨(some 3), .mv (.t 27), none, none⟩]
def f28r11 : IC := .reg false [] f28o11 [2, 3]
@[simp] theorem f28r11_run (tbl : TB) (fin : Fin) (K : List Fr) (e : Env) (H : List AO) : run tbl fin K f28r11 e H = regK tbl fin K [] f28o11 [2, 3] e H := run_regK tbl fin K false [] f28o11 [2, 3] e H rfl
def f28body : IC := (.seq f28r0 (.seq f28r1 (.seq f28r2 (.seq (.seq f28r3 (.block 0 (.loop [5, 10, 9, 8, 4] f28b10))) (.seq f28r11 .ret)))))
def f28 : IFn := ⟨28, 1, [.tmp 2, .tmp 3], f28body⟩
/- 29: jobshell/jobshellref23.Exec -/
@[simp] def f29o0 : List IOper := [
  ⟨(some 2), .nilrow 26 3, none, none⟩,
  ⟨(some 3), .nilrow 3 1, none, none⟩]
def f29r0 : IC := .reg false [] f29o0 [0]
@[simp] theorem f29r0_run (tbl : TB) (fin : Fin) (K : List Fr) (e : Env) (H : List AO) : run tbl fin K f29r0 e H = regK tbl fin K [] f29o0 [0] e H := run_regK tbl fin K false [] f29o0 [0] e H rfl
@[simp] def f29o1 : List IOper := [
  ⟨(some 4), .nilrow 26 3, none, none⟩]
def f29r1 : IC := .reg false [] f29o1 [4, 0]
@[simp] theorem f29r1_run (tbl : TB) (fin : Fin) (K : List Fr) (e : Env) (H : List AO) : run tbl fin K f29r1 e H = regK tbl fin K [] f29o1 [4, 0] e H := run_regK tbl fin K false [] f29o1 [4, 0] e H rfl
@[simp] def f29o2 : List IOper := [
  ⟨(some 5), .nilrow 3 1, none, none⟩]
def f29r2 : IC := .reg false [] f29o2 [5, 4, 0]
@[simp] theorem f29r2_run (tbl : TB) (fin : Fin) (K : List Fr) (e : Env) (H : List AO) : run tbl fin K f29r2 e H = regK tbl fin K [] f29o2 [5, 4, 0] e H := run_regK tbl fin K false [] f29o2 [5, 4, 0] e H rfl
@[simp] def f29o3 : List IOper := [
  ⟨(some 6), .mv (.c (.int .i64 0)), none, none⟩]
def f29r3 : IC := .reg false [] f29o3 [5, 6, 4, 0]
@[simp] theorem f29r3_run (tbl : TB) (fin : Fin) (K : List Fr) (e : Env) (H : List AO) : run tbl fin K f29r3 e H = regK tbl fin K [] f29o3 [5, 6, 4, 0] e H := run_regK tbl fin K false [] f29o3 [5, 6, 4, 0] e H rfl
@[simp] def f29o4 : List IOper := [
  ⟨(some 7), .mv (.t 6), none, none⟩,
  ⟨(some 8), .mv (.t 0), none, none⟩,
  ⟨(some 9), .len (.t 8), none, none⟩,
  ⟨(some 10), .bin .lss (.t 7) (.t 9), none, none⟩]
def f29r4 : IC := .reg false [] f29o4 [10, 5, 6, 4, 0]
@[simp] theorem f29r4_run (tbl : TB) (fin : Fin) (K : List Fr) (e : Env) (H : List AO) : run tbl fin K f29r4 e H = regK tbl fin K [] f29o4 [10, 5, 6, 4, 0] e H := run_regK tbl fin K false [] f29o4 [10, 5, 6, 4, 0] e H rfl
@[simp] def f29o5 : List IOper := [
  ⟨(some 13), .mv (.t 0), none, none⟩,
  ⟨(some 14), .mv (.t 6), none, none⟩,
  ⟨(some 15), .idx 3 (.t 13) (.t 14), none, none⟩,
  ⟨(some 16), .fld 2 (.t 15), none, none⟩,
  ⟨(some 17), .load false 1 (.t 16), none, none⟩]
def f29r5 : IC := .reg false [] f29o5 [17, 5, 6, 4, 0]
@[simp] theorem f29r5_run (tbl : TB) (fin : Fin) (K : List Fr) (e : Env) (H : List AO) : run tbl fin K f29r5 e H = regK tbl fin K [] f29o5 [17, 5, 6, 4, 0] e H := run_regK tbl fin K false [] f29o5 [17, 5, 6, 4, 0] e H rfl
@[simp] def f29o6 : List IOper := [
  ⟨(some 18), .mv (.t 5), none, none⟩,
  ⟨(some 19), .mv (.t 0), none, none⟩,
  ⟨(some 20), .mv (.t 6), none, none⟩,
  ⟨(some 21), .idx 3 (.t 19) (.t 20), none, none⟩,
  ⟨(some 22), .fld 1 (.t 21), none, none⟩,
  ⟨(some 23), .load false 1 (.t 22), none, none⟩,
  ⟨(some 24), .mkimm 1 1 (.int .i64 0) [(0, (.t 23))], none, none⟩,
  ⟨(some 25), .app 3 1 (.t 18) (.t 24), none, none⟩,
  ⟨(some 5), .mv (.t 25), none, none⟩]
def f29r6 : IC := .reg false [] f29o6 [6, 5, 4, 0]
@[simp] theorem f29r6_run (tbl : TB) (fin : Fin) (K : List Fr) (e : Env) (H : List AO) : run tbl fin K f29r6 e H = regK tbl fin K [] f29o6 [6, 5, 4, 0] e H := run_regK tbl fin K false [] f29o6 [6, 5, 4, 0] e H rfl
@[simp] def f29o7 : List IOper := [
  ⟨(some 26), .mv (.t 4), none, none⟩,
  ⟨(some 27), .mv (.t 0), none, none⟩,
  ⟨(some 28), .mv (.t 6), none, none⟩,
  ⟨(some 29), .idx 3 (.t 27) (.t 28), none, none⟩,
  ⟨(some 30), .load true 3 (.t 29), none, none⟩,
  ⟨(some 31), .mkimm 3 1 (.agg [(.int .i64 0), (.int .i64 0), (.bool false)]) [(0, (.t 30))], none, none⟩,
  ⟨(some 32), .app 26 3 (.t 26) (.t 31), none, none⟩,
  ⟨(some 4), .mv (.t 32), none, none⟩]
def f29r7 : IC := .reg false [] f29o7 [6, 5, 4, 0]
@[simp] theorem f29r7_run (tbl : TB) (fin : Fin) (K : List Fr) (e : Env) (H : List AO) : run tbl fin K f29r7 e H = regK tbl fin K [] f29o7 [6, 5, 4, 0] e H := run_regK tbl fin K false [] f29o7 [6, 5, 4, 0] e H rfl
@[simp] def f29o8 : List IOper := [
  ⟨(some 11), .mv (.t 6), none, none⟩,
  ⟨(some 12), .bin .add (.t 11) (.c (.int .i64 1)), none, none⟩,
  ⟨(some 6), .mv (.t 12), none, none⟩]
def f29r8 : IC := .reg false [] f29o8 [5, 6, 4, 0]
@[simp] theorem f29r8_run (tbl : TB) (fin : Fin) (K : List Fr) (e : Env) (H : List AO) : run tbl fin K f29r8 e H = regK tbl fin K [] f29o8 [5, 6, 4, 0] e H := run_regK tbl fin K false [] f29o8 [5, 6, 4, 0] e H rfl
def f29b9 : IC := (.seq (.seq f29r4 (.cond (.t 10) .skip (.exit 0))) (.seq (.block 1 (.seq f29r5 (.cond (.t 17) f29r6 f29r7))) f29r8))
theorem f29b9_eq : f29b9 = (.seq (.seq f29r4 (.cond (.t 10) .skip (.exit 0))) (.seq (.block 1 (.seq f29r5 (.cond (.t 17) f29r6 f29r7))) f29r8)) := rfl
@[simp] def f29o10 : List IOper := [
  ⟨(some 33), .mv (.t 4), none, none⟩,
  ⟨(some 34), .mv (.t 5), none, none⟩,
  ⟨(some 2), .mv (.t 33), none, none⟩,
  ⟨(some 3), .mv (.t 34), none, none⟩]
def f29r10 : IC := .reg false [] f29o10 [2, 3]
@[simp] theorem f29r10_run (tbl : TB) (fin : Fin) (K : List Fr) (e : Env) (H : List AO) : run tbl fin K f29r10 e H = regK tbl fin K [] f29o10 [2, 3] e H := run_regK tbl fin K false [] f29o10 [2, 3] e H rfl
def f29body : IC := (.seq f29r0 (.seq f29r1 (.seq f29r2 (.seq (.seq f29r3 (.block 0 (.loop [5, 6, 4, 0] f29b9))) (.seq f29r10 .ret)))))
def f29 : IFn := ⟨35, 1, [.tmp 2, .tmp 3], f29body⟩
/- 30: jobshell/jobshellref23.Same -/
@[simp] def f30o0 : List IOper := [
  ⟨(some 4), .mv (.c (.bool false)), none, none⟩]
def f30r0 : IC := .reg false [] f30o0 [1, 0]
@[simp] theorem f30r0_run (tbl : TB) (fin : Fin) (K : List Fr) (e : Env) (H : List AO) : run tbl fin K f30r0 e H = regK tbl fin K [] f30o0 [1, 0] e H := run_regK tbl fin K false [] f30o0 [1, 0] e H rfl
@[simp] def f30o1 : List IOper := [
  ⟨(some 6), .mv (.t 0), none, none⟩,
  ⟨(some 7), .len (.t 6), none, none⟩,
  ⟨(some 8), .mv (.t 1), none, none⟩,
  ⟨(some 9), .len (.t 8), none, none⟩,
  ⟨(some 10), .bin .neq (.t 7) (.t 9), none, none⟩]
def f30r1 : IC := .reg false [] f30o1 [10, 1, 0]
@[simp] theorem f30r1_run (tbl : TB) (fin : Fin) (K : List Fr) (e : Env) (H : List AO) : run tbl fin K f30r1 e H = regK tbl fin K [] f30o1 [10, 1, 0] e H := run_regK tbl fin K false [] f30o1 [10, 1, 0] e H rfl
@[simp] def f30o2 : List IOper := [
  ⟨(some 4), .mv (.c (.bool false)), none, none⟩]
def f30r2 : IC := .reg false [] f30o2 [4]
@[simp] theorem f30r2_run (tbl : TB) (fin : Fin) (K : List Fr) (e : Env) (H : List AO) : run tbl fin K f30r2 e H = regK tbl fin K [] f30o2 [4] e H := run_regK tbl fin K false [] f30o2 [4] e H rfl
@[simp] def f30o3 : List IOper := [
  ⟨(some 5), .mv (.c (.int .i64 0)), none, none⟩]
def f30r3 : IC := .reg false [] f30o3 [0, 1, 5]
@[simp] theorem f30r3_run (tbl : TB) (fin : Fin) (K : List Fr) (e : Env) (H : List AO) : run tbl fin K f30r3 e H = regK tbl fin K [] f30o3 [0, 1, 5] e H := run_regK tbl fin K false [] f30o3 [0, 1, 5] e H rfl
@[simp] def f30o4 : List IOper := [
  ⟨(some 11), .mv (.t 5), none, none⟩,
  ⟨(some 12), .mv (.t 0), none, none⟩,
  ⟨(some 13), .len (.t 12), none, none⟩,
  ⟨(some 14), .bin .lss (.t 11) (.t 13), none, none⟩]
def f30r4 : IC := .reg false [] f30o4 [14, 1, 0, 5]
@[simp] theorem f30r4_run (tbl : TB) (fin : Fin) (K : List Fr) (e : Env) (H : List AO) : run tbl fin K f30r4 e H = regK tbl fin K [] f30o4 [14, 1, 0, 5] e H := run_regK tbl fin K false [] f30o4 [14, 1, 0, 5] e H rfl
@[simp] def f30o5 : List IOper := [
  ⟨(some 17), .mv (.t 0), none, none⟩,
  ⟨(some 18), .mv (.t 5), none, none⟩,
  ⟨(some 19), .idx 3 (.t 17) (.t 18), none, none⟩,
  ⟨(some 20), .load true 3 (.t 19), none, none⟩,
  ⟨(some 21), .mv (.t 1), none, none⟩,
  ⟨(some 22), .mv (.t 5), none, none⟩,
  ⟨(some 23), .idx 3 (.t 21) (.t 22), none, none⟩,
  ⟨(some 24), .load true 3 (.t 23), none, none⟩,
  ⟨(some 25), .aeq true [.i, .i, .b] (.t 20) (.t 24), none, none⟩]
def f30r5 : IC := .reg true [] f30o5 [25, 1, 0, 5]
@[simp] theorem f30r5_run (tbl : TB) (fin : Fin) (K : List Fr) (e : Env) (H : List AO) : run tbl fin K f30r5 e H = regK tbl fin K [] f30o5 [25, 1, 0, 5] e H := run_regK tbl fin K true [] f30o5 [25, 1, 0, 5] e H rfl
@[simp] def f30o6 : List IOper := [
  ⟨(some 4), .mv (.c (.bool false)), none, none⟩]
def f30r6 : IC := .reg false [] f30o6 [4]
@[simp] theorem f30r6_run (tbl : TB) (fin : Fin) (K : List Fr) (e : Env) (H : List AO) : run tbl fin K f30r6 e H = regK tbl fin K [] f30o6 [4] e H := run_regK tbl fin K false [] f30o6 [4] e H rfl
@[simp] def f30o7 : List IOper := [
  ⟨(some 15), .mv (.t 5), none, none⟩,
  ⟨(some 16), .bin .add (.t 15) (.c (.int .i64 1)), none, none⟩,
  ⟨(some 5), .mv (.t 16), none, none⟩]
def f30r7 : IC := .reg false [] f30o7 [0, 1, 5]
@[simp] theorem f30r7_run (tbl : TB) (fin : Fin) (K : List Fr) (e : Env) (H : List AO) : run tbl fin K f30r7 e H = regK tbl fin K [] f30o7 [0, 1, 5] e H := run_regK tbl fin K false [] f30o7 [0, 1, 5] e H rfl
def f30b8 : IC := (.seq (.seq f30r4 (.cond (.t 14) .skip (.exit 0))) (.seq (.block 1 (.seq f30r5 (.cond (.t 25) (.seq f30r6 .ret) .skip))) f30r7))
theorem f30b8_eq : f30b8 = (.seq (.seq f30r4 (.cond (.t 14) .skip (.exit 0))) (.seq (.block 1 (.seq f30r5 (.cond (.t 25) (.seq f30r6 .ret) .skip))) f30r7)) := rfl
@[simp] def f30o9 : List IOper := [
  ⟨(some 4), .mv (.c (.bool true)), none, none⟩]
def f30r9 : IC := .reg false [] f30o9 [4]
@[simp] theorem f30r9_run (tbl : TB) (fin : Fin) (K : List Fr) (e : Env) (H : List AO) : run tbl fin K f30r9 e H = regK tbl fin K [] f30o9 [4] e H := run_regK tbl fin K false [] f30o9 [4] e H rfl
def f30body : IC := (.seq f30r0 (.seq (.seq f30r1 (.cond (.t 10) (.seq f30r2 .ret) .skip)) (.seq (.seq f30r3 (.block 0 (.loop [0, 1, 5] f30b8))) (.seq f30r9 .ret))))
def f30 : IFn := ⟨26, 2, [.tmp 4], f30body⟩
/- 31: jobshell/jobshelllaw23.numbers -/
@[simp] def f31o0 : List IOper := [
  ⟨(some 4), .mv (.c (.bool false)), none, none⟩]
def f31r0 : IC := .reg false [] f31o0 [1, 0]
@[simp] theorem f31r0_run (tbl : TB) (fin : Fin) (K : List Fr) (e : Env) (H : List AO) : run tbl fin K f31r0 e H = regK tbl fin K [] f31o0 [1, 0] e H := run_regK tbl fin K false [] f31o0 [1, 0] e H rfl
@[simp] def f31o1 : List IOper := [
  ⟨(some 6), .mv (.t 0), none, none⟩,
  ⟨(some 7), .len (.t 6), none, none⟩,
  ⟨(some 8), .mv (.t 1), none, none⟩,
  ⟨(some 9), .len (.t 8), none, none⟩,
  ⟨(some 10), .bin .neq (.t 7) (.t 9), none, none⟩]
def f31r1 : IC := .reg false [] f31o1 [10, 1, 0]
@[simp] theorem f31r1_run (tbl : TB) (fin : Fin) (K : List Fr) (e : Env) (H : List AO) : run tbl fin K f31r1 e H = regK tbl fin K [] f31o1 [10, 1, 0] e H := run_regK tbl fin K false [] f31o1 [10, 1, 0] e H rfl
@[simp] def f31o2 : List IOper := [
  ⟨(some 4), .mv (.c (.bool false)), none, none⟩]
def f31r2 : IC := .reg false [] f31o2 [4]
@[simp] theorem f31r2_run (tbl : TB) (fin : Fin) (K : List Fr) (e : Env) (H : List AO) : run tbl fin K f31r2 e H = regK tbl fin K [] f31o2 [4] e H := run_regK tbl fin K false [] f31o2 [4] e H rfl
@[simp] def f31o3 : List IOper := [
  ⟨(some 5), .mv (.c (.int .i64 0)), none, none⟩]
def f31r3 : IC := .reg false [] f31o3 [0, 1, 5]
@[simp] theorem f31r3_run (tbl : TB) (fin : Fin) (K : List Fr) (e : Env) (H : List AO) : run tbl fin K f31r3 e H = regK tbl fin K [] f31o3 [0, 1, 5] e H := run_regK tbl fin K false [] f31o3 [0, 1, 5] e H rfl
@[simp] def f31o4 : List IOper := [
  ⟨(some 11), .mv (.t 5), none, none⟩,
  ⟨(some 12), .mv (.t 0), none, none⟩,
  ⟨(some 13), .len (.t 12), none, none⟩,
  ⟨(some 14), .bin .lss (.t 11) (.t 13), none, none⟩]
def f31r4 : IC := .reg false [] f31o4 [14, 1, 0, 5]
@[simp] theorem f31r4_run (tbl : TB) (fin : Fin) (K : List Fr) (e : Env) (H : List AO) : run tbl fin K f31r4 e H = regK tbl fin K [] f31o4 [14, 1, 0, 5] e H := run_regK tbl fin K false [] f31o4 [14, 1, 0, 5] e H rfl
@[simp] def f31o5 : List IOper := [
  ⟨(some 17), .mv (.t 0), none, none⟩,
  ⟨(some 18), .mv (.t 5), none, none⟩,
  ⟨(some 19), .idx 1 (.t 17) (.t 18), none, none⟩,
  ⟨(some 20), .load false 1 (.t 19), none, none⟩,
  ⟨(some 21), .mv (.t 1), none, none⟩,
  ⟨(some 22), .mv (.t 5), none, none⟩,
  ⟨(some 23), .idx 1 (.t 21) (.t 22), none, none⟩,
  ⟨(some 24), .load false 1 (.t 23), none, none⟩,
  ⟨(some 25), .bin .neq (.t 20) (.t 24), none, none⟩]
def f31r5 : IC := .reg true [] f31o5 [25, 1, 0, 5]
@[simp] theorem f31r5_run (tbl : TB) (fin : Fin) (K : List Fr) (e : Env) (H : List AO) : run tbl fin K f31r5 e H = regK tbl fin K [] f31o5 [25, 1, 0, 5] e H := run_regK tbl fin K true [] f31o5 [25, 1, 0, 5] e H rfl
@[simp] def f31o6 : List IOper := [
  ⟨(some 4), .mv (.c (.bool false)), none, none⟩]
def f31r6 : IC := .reg false [] f31o6 [4]
@[simp] theorem f31r6_run (tbl : TB) (fin : Fin) (K : List Fr) (e : Env) (H : List AO) : run tbl fin K f31r6 e H = regK tbl fin K [] f31o6 [4] e H := run_regK tbl fin K false [] f31o6 [4] e H rfl
@[simp] def f31o7 : List IOper := [
  ⟨(some 15), .mv (.t 5), none, none⟩,
  ⟨(some 16), .bin .add (.t 15) (.c (.int .i64 1)), none, none⟩,
  ⟨(some 5), .mv (.t 16), none, none⟩]
def f31r7 : IC := .reg false [] f31o7 [0, 1, 5]
@[simp] theorem f31r7_run (tbl : TB) (fin : Fin) (K : List Fr) (e : Env) (H : List AO) : run tbl fin K f31r7 e H = regK tbl fin K [] f31o7 [0, 1, 5] e H := run_regK tbl fin K false [] f31o7 [0, 1, 5] e H rfl
def f31b8 : IC := (.seq (.seq f31r4 (.cond (.t 14) .skip (.exit 0))) (.seq (.block 1 (.seq f31r5 (.cond (.t 25) (.seq f31r6 .ret) .skip))) f31r7))
theorem f31b8_eq : f31b8 = (.seq (.seq f31r4 (.cond (.t 14) .skip (.exit 0))) (.seq (.block 1 (.seq f31r5 (.cond (.t 25) (.seq f31r6 .ret) .skip))) f31r7)) := rfl
@[simp] def f31o9 : List IOper := [
  ⟨(some 4), .mv (.c (.bool true)), none, none⟩]
def f31r9 : IC := .reg false [] f31o9 [4]
@[simp] theorem f31r9_run (tbl : TB) (fin : Fin) (K : List Fr) (e : Env) (H : List AO) : run tbl fin K f31r9 e H = regK tbl fin K [] f31o9 [4] e H := run_regK tbl fin K false [] f31o9 [4] e H rfl
def f31body : IC := (.seq f31r0 (.seq (.seq f31r1 (.cond (.t 10) (.seq f31r2 .ret) .skip)) (.seq (.seq f31r3 (.block 0 (.loop [0, 1, 5] f31b8))) (.seq f31r9 .ret))))
def f31 : IFn := ⟨26, 2, [.tmp 4], f31body⟩
/- 32: jobshell/fdtab.check -/
@[simp] def f32o0 : List IOper := [
  ⟨(some 1), .box 26 3 (.t 0), none, none⟩,
  ⟨(some 2), .mv (.c (.int .i64 0)), none, none⟩]
def f32r0 : IC := .reg false [] f32o0 [1]
@[simp] theorem f32r0_run (tbl : TB) (fin : Fin) (K : List Fr) (e : Env) (H : List AO) : run tbl fin K f32r0 e H = regK tbl fin K [] f32o0 [1] e H := run_regK tbl fin K false [] f32o0 [1] e H rfl
@[simp] def f32o1 : List IOper := [
  ⟨(some 4), .fld 0 (.t 1), none, none⟩,
  ⟨(some 5), .load false 1 (.t 4), none, none⟩,
  ⟨(some 6), .bin .lss (.t 5) (.c (.int .i64 0)), none, none⟩,
  ⟨(some 7), .mv (.t 6), none, none⟩,
  ⟨(some 8), .fld 0 (.t 1), (some (7, false)), none⟩,
  ⟨(some 9), .load false 1 (.t 8), (some (7, false)), none⟩,
  ⟨(some 10), .bin .geq (.t 9) (.c (.int .i64 32)), (some (7, false)), none⟩,
  ⟨(some 11), .pick (.t 7) (.c (.bool true)) (.t 10), none, none⟩,
  ⟨(some 3), .mv (.t 11), none, none⟩]
def f32r1 : IC := .reg false [] f32o1 [3, 1]
@[simp] theorem f32r1_run (tbl : TB) (fin : Fin) (K : List Fr) (e : Env) (H : List AO) : run tbl fin K f32r1 e H = regK tbl fin K [] f32o1 [3, 1] e H := run_regK tbl fin K false [] f32o1 [3, 1] e H rfl
@[simp] def f32o2 : List IOper := [
  ⟨(some 2), .mv (.c (.int .i64 2)), none, none⟩]
def f32r2 : IC := .reg false [] f32o2 [2]
@[simp] theorem f32r2_run (tbl : TB) (fin : Fin) (K : List Fr) (e : Env) (H : List AO) : run tbl fin K f32r2 e H = regK tbl fin K [] f32o2 [2] e H := run_regK tbl fin K false [] f32o2 [2] e H rfl
@[simp] def f32o3 : List IOper := [
  ⟨(some 13), .fld 1 (.t 1), none, none⟩,
  ⟨(some 14), .load false 1 (.t 13), none, none⟩,
  ⟨(some 15), .bin .lss (.t 14) (.c (.int .i64 0)), none, none⟩,
  ⟨(some 16), .mv (.t 15), none, none⟩,
  ⟨(some 17), .fld 1 (.t 1), (some (16, false)), none⟩,
  ⟨(some 18), .load false 1 (.t 17), (some (16, false)), none⟩,
  ⟨(some 19), .bin .geq (.t 18) (.c (.int .i64 128)), (some (16, false)), none⟩,
  ⟨(some 20), .pick (.t 16) (.c (.bool true)) (.t 19), none, none⟩,
  ⟨(some 12), .mv (.t 20), none, none⟩]
def f32r3 : IC := .reg false [] f32o3 [12]
@[simp] theorem f32r3_run (tbl : TB) (fin : Fin) (K : List Fr) (e : Env) (H : List AO) : run tbl fin K f32r3 e H = regK tbl fin K [] f32o3 [12] e H := run_regK tbl fin K false [] f32o3 [12] e H rfl
@[simp] def f32o4 : List IOper := [
  ⟨(some 2), .mv (.c (.int .i64 1)), none, none⟩]
def f32r4 : IC := .reg false [] f32o4 [2]
@[simp] theorem f32r4_run (tbl : TB) (fin : Fin) (K : List Fr) (e : Env) (H : List AO) : run tbl fin K f32r4 e H = regK tbl fin K [] f32o4 [2] e H := run_regK tbl fin K false [] f32o4 [2] e H rfl
@[simp] def f32o5 : List IOper := [
  ⟨(some 2), .mv (.c (.int .i64 0)), none, none⟩]
def f32r5 : IC := .reg false [] f32o5 [2]
@[simp] theorem f32r5_run (tbl : TB) (fin : Fin) (K : List Fr) (e : Env) (H : List AO) : run tbl fin K f32r5 e H = regK tbl fin K [] f32o5 [2] e H := run_regK tbl fin K false [] f32o5 [2] e H rfl
def f32body : IC := (.seq f32r0 (.seq (.block 0 (.seq f32r1 (.cond (.t 3) (.seq f32r2 .ret) (.seq f32r3 (.cond (.t 12) (.seq f32r4 .ret) .skip))))) (.seq f32r5 .ret)))
def f32 : IFn := ⟨21, 1, [.tmp 2], f32body⟩
/- 33: jobshell/jobshellref23.one -/
@[simp] def f33o0 : List IOper := [
  ⟨(some 1), .box 26 3 (.t 0), none, none⟩,
  ⟨(some 2), .mv (.c (.int .i64 0)), none, none⟩]
def f33r0 : IC := .reg false [] f33o0 [1]
@[simp] theorem f33r0_run (tbl : TB) (fin : Fin) (K : List Fr) (e : Env) (H : List AO) : run tbl fin K f33r0 e H = regK tbl fin K [] f33o0 [1] e H := run_regK tbl fin K false [] f33o0 [1] e H rfl
@[simp] def f33o1 : List IOper := [
  ⟨(some 3), .fld 0 (.t 1), none, none⟩,
  ⟨(some 4), .load false 1 (.t 3), none, none⟩,
  ⟨(some 5), .bin .lss (.t 4) (.c (.int .i64 0)), none, none⟩,
  ⟨(some 6), .mv (.t 5), none, none⟩,
  ⟨(some 7), .fld 0 (.t 1), (some (6, false)), none⟩,
  ⟨(some 8), .load false 1 (.t 7), (some (6, false)), none⟩,
  ⟨(some 9), .bin .geq (.t 8) (.c (.int .i64 32)), (some (6, false)), none⟩,
  ⟨(some 10), .pick (.t 6) (.c (.bool true)) (.t 9), none, none⟩]
def f33r1 : IC := .reg false [] f33o1 [10, 1]
@[simp] theorem f33r1_run (tbl : TB) (fin : Fin) (K : List Fr) (e : Env) (H : List AO) : run tbl fin K f33r1 e H = regK tbl fin K [] f33o1 [10, 1] e H := run_regK tbl fin K false [] f33o1 [10, 1] e H rfl
@[simp] def f33o2 : List IOper := [
  ⟨(some 2), .mv (.c (.int .i64 2)), none, none⟩]
def f33r2 : IC := .reg false [] f33o2 [2]
@[simp] theorem f33r2_run (tbl : TB) (fin : Fin) (K : List Fr) (e : Env) (H : List AO) : run tbl fin K f33r2 e H = regK tbl fin K [] f33o2 [2] e H := run_regK tbl fin K false [] f33o2 [2] e H rfl
@[simp] def f33o3 : List IOper := [
  ⟨(some 11), .fld 1 (.t 1), none, none⟩,
  ⟨(some 12), .load false 1 (.t 11), none, none⟩,
  ⟨(some 13), .bin .lss (.t 12) (.c (.int .i64 0)), none, none⟩,
  ⟨(some 14), .mv (.t 13), none, none⟩,
  ⟨(some 15), .fld 1 (.t 1), (some (14, false)), none⟩,
  ⟨(some 16), .load false 1 (.t 15), (some (14, false)), none⟩,
  ⟨(some 17), .bin .geq (.t 16) (.c (.int .i64 128)), (some (14, false)), none⟩,
  ⟨(some 18), .pick (.t 14) (.c (.bool true)) (.t 17), none, none⟩]
def f33r3 : IC := .reg false [] f33o3 [18]
@[simp] theorem f33r3_run (tbl : TB) (fin : Fin) (K : List Fr) (e : Env) (H : List AO) : run tbl fin K f33r3 e H = regK tbl fin K [] f33o3 [18] e H := run_regK tbl fin K false [] f33o3 [18] e H rfl
@[simp] def f33o4 : List IOper := [
  ⟨(some 2), .mv (.c (.int .i64 1)), none, none⟩]
def f33r4 : IC := .reg false [] f33o4 [2]
@[simp] theorem f33r4_run (tbl : TB) (fin : Fin) (K : List Fr) (e : Env) (H : List AO) : run tbl fin K f33r4 e H = regK tbl fin K [] f33o4 [2] e H := run_regK tbl fin K false [] f33o4 [2] e H rfl
@[simp] def f33o5 : List IOper := [
  ⟨(some 2), .mv (.c (.int .i64 0)), none, none⟩]
def f33r5 : IC := .reg false [] f33o5 [2]
@[simp] theorem f33r5_run (tbl : TB) (fin : Fin) (K : List Fr) (e : Env) (H : List AO) : run tbl fin K f33r5 e H = regK tbl fin K [] f33o5 [2] e H := run_regK tbl fin K false [] f33o5 [2] e H rfl
def f33body : IC := (.seq f33r0 (.seq (.seq f33r1 (.cond (.t 10) (.seq f33r2 .ret) .skip)) (.seq (.seq f33r3 (.cond (.t 18) (.seq f33r4 .ret) .skip)) (.seq f33r5 .ret))))
def f33 : IFn := ⟨19, 1, [.tmp 2], f33body⟩
/- 34: slices.IndexFunc[[]jobshell/api.Desc,jobshell/api.Desc] -/
@[simp] def f34o0 : List IOper := [
  ⟨(some 4), .mv (.c (.int .i64 0)), none, none⟩]
def f34r0 : IC := .reg false [] f34o0 [1, 0]
@[simp] theorem f34r0_run (tbl : TB) (fin : Fin) (K : List Fr) (e : Env) (H : List AO) : run tbl fin K f34r0 e H = regK tbl fin K [] f34o0 [1, 0] e H := run_regK tbl fin K false [] f34o0 [1, 0] e H rfl
@[simp] def f34o1 : List IOper := [
  ⟨(some 6), .mv (.t 0), none, none⟩,
  ⟨(some 7), .len (.t 6), none, none⟩,
  ⟨(some 8), .mv (.c (.int .i64 0)), none, none⟩]
def f34r1 : IC := .reg false [] f34o1 [7, 1, 0, 8]
@[simp] theorem f34r1_run (tbl : TB) (fin : Fin) (K : List Fr) (e : Env) (H : List AO) : run tbl fin K f34r1 e H = regK tbl fin K [] f34o1 [7, 1, 0, 8] e H := run_regK tbl fin K false [] f34o1 [7, 1, 0, 8] e H rfl
@[simp] def f34o2 : List IOper := [
  ⟨(some 9), .bin .lss (.t 8) (.t 7), none, none⟩]
def f34r2 : IC := .reg false [] f34o2 [9, 0, 1, 7, 8]
@[simp] theorem f34r2_run (tbl : TB) (fin : Fin) (K : List Fr) (e : Env) (H : List AO) : run tbl fin K f34r2 e H = regK tbl fin K [] f34o2 [9, 0, 1, 7, 8] e H := run_regK tbl fin K false [] f34o2 [9, 0, 1, 7, 8] e H rfl
@[simp] def f34o3 : List IOper := [
  ⟨(some 10), .mv (.t 8), none, none⟩,
  ⟨(some 5), .mv (.t 10), none, none⟩]
def f34r3 : IC := .reg false [] f34o3 [0, 1, 7, 8, 5]
@[simp] theorem f34r3_run (tbl : TB) (fin : Fin) (K : List Fr) (e : Env) (H : List AO) : run tbl fin K f34r3 e H = regK tbl fin K [] f34o3 [0, 1, 7, 8, 5] e H := run_regK tbl fin K false [] f34o3 [0, 1, 7, 8, 5] e H rfl
@[simp] def f34o4 : List IOper := [
  ⟨(some 11), .mv (.t 1), none, none⟩,
  ⟨(some 12), .mv (.t 0), none, none⟩,
  ⟨(some 13), .mv (.t 5), none, none⟩,
  ⟨(some 14), .idx 6 (.t 12) (.t 13), none, none⟩,
  ⟨(some 15), .load true 6 (.t 14), none, none⟩,
  ⟨(some 16), .ocall (.t 11) [(.t 15)], none, none⟩]
def f34r4 : IC := .reg false [] f34o4 [16, 0, 1, 7, 8, 5]
@[simp] theorem f34r4_run (tbl : TB) (fin : Fin) (K : List Fr) (e : Env) (H : List AO) : run tbl fin K f34r4 e H = regK tbl fin K [] f34o4 [16, 0, 1, 7, 8, 5] e H := run_regK tbl fin K false [] f34o4 [16, 0, 1, 7, 8, 5] e H rfl
@[simp] def f34o5 : List IOper := [
  ⟨(some 17), .mv (.t 5), none, none⟩,
  ⟨(some 4), .mv (.t 17), none, none⟩]
def f34r5 : IC := .reg false [] f34o5 [4]
@[simp] theorem f34r5_run (tbl : TB) (fin : Fin) (K : List Fr) (e : Env) (H : List AO) : run tbl fin K f34r5 e H = regK tbl fin K [] f34o5 [4] e H := run_regK tbl fin K false [] f34o5 [4] e H rfl
@[simp] def f34o6 : List IOper := [
  ⟨(some 18), .bin .add (.t 8) (.c (.int .i64 1)), none, none⟩,
  ⟨(some 8), .mv (.t 18), none, none⟩]
def f34r6 : IC := .reg false [] f34o6 [7, 1, 0, 8]
@[simp] theorem f34r6_run (tbl : TB) (fin : Fin) (K : List Fr) (e : Env) (H : List AO) : run tbl fin K f34r6 e H = regK tbl fin K [] f34o6 [7, 1, 0, 8] e H := run_regK tbl fin K false [] f34o6 [7, 1, 0, 8] e H rfl
def f34b7 : IC := (.seq f34r2 (.seq (.cond (.t 9) .skip (.exit 0)) (.seq (.block 1 (.seq f34r3 (.seq f34r4 (.cond (.t 16) (.seq f34r5 .ret) .skip)))) f34r6)))
theorem f34b7_eq : f34b7 = (.seq f34r2 (.seq (.cond (.t 9) .skip (.exit 0)) (.seq (.block 1 (.seq f34r3 (.seq f34r4 (.cond (.t 16) (.seq f34r5 .ret) .skip)))) f34r6))) := rfl
@[simp] def f34o8 : List IOper := [
  ⟨(some 4), .mv (.c (.int .i64 (-1))), none, none⟩]
def f34r8 : IC := .reg false [] f34o8 [4]
@[simp] theorem f34r8_run (tbl : TB) (fin : Fin) (K : List Fr) (e : Env) (H : List AO) : run tbl fin K f34r8 e H = regK tbl fin K [] f34o8 [4] e H := run_regK tbl fin K false [] f34o8 [4] e H rfl
def f34body : IC := (.seq f34r0 (.seq (.seq f34r1 (.block 0 (.loop [7, 1, 0, 8] f34b7))) (.seq f34r8 .ret)))
def f34 : IFn := ⟨19, 2, [.tmp 4], f34body⟩
/- 35: jobshell/fdtab.Add$1 -/
@[simp] def f35o0 : List IOper := [
  ⟨(some 1), .box 37 6 (.t 0), none, none⟩,
  ⟨(some 2), .mv (.c (.bool false)), none, none⟩]
def f35r0 : IC := .reg false [] f35o0 [1]
@[simp] theorem f35r0_run (tbl : TB) (fin : Fin) (K : List Fr) (e : Env) (H : List AO) : run tbl fin K f35r0 e H = regK tbl fin K [] f35o0 [1] e H := run_regK tbl fin K false [] f35o0 [1] e H rfl
@[simp] def f35o1 : List IOper := [
  ⟨(some 3), .fld 0 (.t 1), none, none⟩,
  ⟨(some 4), .load false 1 (.t 3), none, none⟩,
  ⟨(some 5), .bin .eql (.t 4) (.c (.int .i64 0)), none, none⟩,
  ⟨(some 2), .mv (.t 5), none, none⟩]
def f35r1 : IC := .reg false [] f35o1 [2]
@[simp] theorem f35r1_run (tbl : TB) (fin : Fin) (K : List Fr) (e : Env) (H : List AO) : run tbl fin K f35r1 e H = regK tbl fin K [] f35o1 [2] e H := run_regK tbl fin K false [] f35o1 [2] e H rfl
def f35body : IC := (.seq f35r0 (.seq f35r1 .ret))
def f35 : IFn := ⟨6, 1, [.tmp 2], f35body⟩
/- 36: slices.Clone[[]jobshell/api.Desc,jobshell/api.Desc] -/
@[simp] def f36o0 : List IOper := [
  ⟨(some 2), .nilrow 37 6, none, none⟩]
def f36r0 : IC := .reg false [] f36o0 [0]
@[simp] theorem f36r0_run (tbl : TB) (fin : Fin) (K : List Fr) (e : Env) (H : List AO) : run tbl fin K f36r0 e H = regK tbl fin K [] f36o0 [0] e H := run_regK tbl fin K false [] f36o0 [0] e H rfl
@[simp] def f36o1 : List IOper := [
  ⟨(some 3), .mv (.t 0), none, none⟩,
  ⟨(some 4), .eqnil false (.t 3), none, none⟩]
def f36r1 : IC := .reg false [] f36o1 [4, 0]
@[simp] theorem f36r1_run (tbl : TB) (fin : Fin) (K : List Fr) (e : Env) (H : List AO) : run tbl fin K f36r1 e H = regK tbl fin K [] f36o1 [4, 0] e H := run_regK tbl fin K false [] f36o1 [4, 0] e H rfl
@[simp] def f36o2 : List IOper := [
  ⟨(some 2), .nilrow 37 6, none, none⟩]
def f36r2 : IC := .reg false [] f36o2 [2]
@[simp] theorem f36r2_run (tbl : TB) (fin : Fin) (K : List Fr) (e : Env) (H : List AO) : run tbl fin K f36r2 e H = regK tbl fin K [] f36o2 [2] e H := run_regK tbl fin K false [] f36o2 [2] e H rfl
@[simp] def f36o3 : List IOper := [
  ⟨(some 5), .mkrow 37 6 0 (.agg [(.int .i64 0), (.int .i64 0), (.int .i64 0), (.int .i64 0), (.int .i64 0), (.str [])]) [], none, none⟩,
  ⟨(some 6), .mv (.t 0), none, none⟩,
  ⟨(some 7), .app 37 6 (.t 5) (.t 6), none, none⟩,
  ⟨(some 2), .mv (.t 7), none, none⟩]
def f36r3 : IC := .reg false [] f36o3 [2]
@[simp] theorem f36r3_run (tbl : TB) (fin : Fin) (K : List Fr) (e : Env) (H : List AO) : run tbl fin K f36r3 e H = regK tbl fin K [] f36o3 [2] e H := run_regK tbl fin K false [] f36o3 [2] e H rfl
def f36body : IC := (.seq f36r0 (.seq (.seq f36r1 (.cond (.t 4) (.seq f36r2 .ret) .skip)) (.seq f36r3 .ret)))
def f36 : IFn := ⟨8, 1, [.tmp 2], f36body⟩
/- 37: jobshell/jobshellref23.changed -/
@[simp] def f37o0 : List IOper := [
  ⟨(some 5), .box 37 6 (.t 2), none, none⟩,
  ⟨(some 6), .nilrow 37 6, none, none⟩]
def f37r0 : IC := .reg false [] f37o0 [1, 0, 5]
@[simp] theorem f37r0_run (tbl : TB) (fin : Fin) (K : List Fr) (e : Env) (H : List AO) : run tbl fin K f37r0 e H = regK tbl fin K [] f37o0 [1, 0, 5] e H := run_regK tbl fin K false [] f37o0 [1, 0, 5] e H rfl
@[simp] def f37o1 : List IOper := [
  ⟨(some 7), .nilrow 37 6, none, none⟩]
def f37r1 : IC := .reg false [] f37o1 [7, 1, 0, 5]
@[simp] theorem f37r1_run (tbl : TB) (fin : Fin) (K : List Fr) (e : Env) (H : List AO) : run tbl fin K f37r1 e H = regK tbl fin K [] f37o1 [7, 1, 0, 5] e H := run_regK tbl fin K false [] f37o1 [7, 1, 0, 5] e H rfl
@[simp] def f37o2 : List IOper := [
  ⟨(some 8), .mv (.c (.int .i64 0)), none, none⟩]
def f37r2 : IC := .reg false [] f37o2 [7, 8, 1, 0, 5]
@[simp] theorem f37r2_run (tbl : TB) (fin : Fin) (K : List Fr) (e : Env) (H : List AO) : run tbl fin K f37r2 e H = regK tbl fin K [] f37o2 [7, 8, 1, 0, 5] e H := run_regK tbl fin K false [] f37o2 [7, 8, 1, 0, 5] e H rfl
@[simp] def f37o3 : List IOper := [
  ⟨(some 9), .mv (.t 8), none, none⟩,
  ⟨(some 10), .mv (.t 0), none, none⟩,
  ⟨(some 11), .len (.t 10), none, none⟩,
  ⟨(some 12), .bin .lss (.t 9) (.t 11), none, none⟩]
def f37r3 : IC := .reg false [] f37o3 [12, 7, 8, 1, 0, 5]
@[simp] theorem f37r3_run (tbl : TB) (fin : Fin) (K : List Fr) (e : Env) (H : List AO) : run tbl fin K f37r3 e H = regK tbl fin K [] f37o3 [12, 7, 8, 1, 0, 5] e H := run_regK tbl fin K false [] f37o3 [12, 7, 8, 1, 0, 5] e H rfl
@[simp] def f37o4 : List IOper := [
  ⟨(some 15), .mv (.t 8), none, none⟩,
  ⟨(some 16), .mv (.t 1), none, none⟩,
  ⟨(some 17), .bin .eql (.t 15) (.t 16), none, none⟩]
def f37r4 : IC := .reg false [] f37o4 [17, 7, 8, 1, 0, 5]
@[simp] theorem f37r4_run (tbl : TB) (fin : Fin) (K : List Fr) (e : Env) (H : List AO) : run tbl fin K f37r4 e H = regK tbl fin K [] f37o4 [17, 7, 8, 1, 0, 5] e H := run_regK tbl fin K false [] f37o4 [17, 7, 8, 1, 0, 5] e H rfl
@[simp] def f37o5 : List IOper := [
  ⟨(some 18), .mv (.t 7), none, none⟩,
  ⟨(some 19), .load true 6 (.t 5), none, none⟩,
  ⟨(some 20), .mkimm 6 1 (.agg [(.int .i64 0), (.int .i64 0), (.int .i64 0), (.int .i64 0), (.int .i64 0), (.str [])]) [(0, (.t 19))], none, none⟩,
  ⟨(some 21), .app 37 6 (.t 18) (.t 20), none, none⟩,
  ⟨(some 7), .mv (.t 21), none, none⟩]
def f37r5 : IC := .reg false [] f37o5 [8, 7, 1, 0, 5]
@[simp] theorem f37r5_run (tbl : TB) (fin : Fin) (K : List Fr) (e : Env) (H : List AO) : run tbl fin K f37r5 e H = regK tbl fin K [] f37o5 [8, 7, 1, 0, 5] e H := run_regK tbl fin K false [] f37o5 [8, 7, 1, 0, 5] e H rfl
@[simp] def f37o6 : List IOper := [
  ⟨(some 22), .mv (.t 7), none, none⟩,
  ⟨(some 23), .mv (.t 0), none, none⟩,
  ⟨(some 24), .mv (.t 8), none, none⟩,
  ⟨(some 25), .idx 6 (.t 23) (.t 24), none, none⟩,
  ⟨(some 26), .load true 6 (.t 25), none, none⟩,
  ⟨(some 27), .mkimm 6 1 (.agg [(.int .i64 0), (.int .i64 0), (.int .i64 0), (.int .i64 0), (.int .i64 0), (.str [])]) [(0, (.t 26))], none, none⟩,
  ⟨(some 28), .app 37 6 (.t 22) (.t 27), none, none⟩,
  ⟨(some 7), .mv (.t 28), none, none⟩]
def f37r6 : IC := .reg false [] f37o6 [8, 7, 1, 0, 5]
@[simp] theorem f37r6_run (tbl : TB) (fin : Fin) (K : List Fr) (e : Env) (H : List AO) : run tbl fin K f37r6 e H = regK tbl fin K [] f37o6 [8, 7, 1, 0, 5] e H := run_regK tbl fin K false [] f37o6 [8, 7, 1, 0, 5] e H rfl
@[simp] def f37o7 : List IOper := [
  ⟨(some 13), .mv (.t 8), none, none⟩,
  ⟨(some 14), .bin .add (.t 13) (.c (.int .i64 1)), none, none⟩,
  ⟨(some 8), .mv (.t 14), none, none⟩]
def f37r7 : IC := .reg false [] f37o7 [7, 8, 1, 0, 5]
@[simp] theorem f37r7_run (tbl : TB) (fin : Fin) (K : List Fr) (e : Env) (H : List AO) : run tbl fin K f37r7 e H = regK tbl fin K [] f37o7 [7, 8, 1, 0, 5] e H := run_regK tbl fin K false [] f37o7 [7, 8, 1, 0, 5] e H rfl
def f37b8 : IC := (.seq (.seq f37r3 (.cond (.t 12) .skip (.exit 0))) (.seq (.block 1 (.seq f37r4 (.cond (.t 17) f37r5 f37r6))) f37r7))
theorem f37b8_eq : f37b8 = (.seq (.seq f37r3 (.cond (.t 12) .skip (.exit 0))) (.seq (.block 1 (.seq f37r4 (.cond (.t 17) f37r5 f37r6))) f37r7)) := rfl
@[simp] def f37o9 : List IOper := [
  ⟨(some 29), .mv (.t 7), none, none⟩,
  ⟨(some 6), .mv (.t 29), none, none⟩]
def f37r9 : IC := .reg false [] f37o9 [6]
@[simp] theorem f37r9_run (tbl : TB) (fin : Fin) (K : List Fr) (e : Env) (H : List AO) : run tbl fin K f37r9 e H = regK tbl fin K [] f37o9 [6] e H := run_regK tbl fin K false [] f37o9 [6] e H rfl
def f37body : IC := (.seq f37r0 (.seq f37r1 (.seq (.seq f37r2 (.block 0 (.loop [7, 8, 1, 0, 5] f37b8))) (.seq f37r9 .ret))))
def f37 : IFn := ⟨30, 3, [.tmp 6], f37body⟩
/- 38: jobshell/fdtab.used -/
@[simp] def f38o0 : List IOper := [
  ⟨(some 4), .mv (.c (.bool false)), none, none⟩]
def f38r0 : IC := .reg false [] f38o0 [0, 1]
@[simp] theorem f38r0_run (tbl : TB) (fin : Fin) (K : List Fr) (e : Env) (H : List AO) : run tbl fin K f38r0 e H = regK tbl fin K [] f38o0 [0, 1] e H := run_regK tbl fin K false [] f38o0 [0, 1] e H rfl
@[simp] def f38o1 : List IOper := [
  ⟨(some 5), .mv (.t 1), none, none⟩,
  ⟨(some 6), .bin .geq (.t 5) (.c (.int .i64 0)), none, none⟩,
  ⟨(some 7), .mv (.t 6), none, none⟩,
  ⟨(some 8), .mv (.t 1), (some (7, true)), none⟩,
  ⟨(some 9), .mv (.t 0), (some (7, true)), none⟩,
  ⟨(some 10), .len (.t 9), (some (7, true)), none⟩,
  ⟨(some 11), .bin .lss (.t 8) (.t 10), (some (7, true)), none⟩,
  ⟨(some 12), .pick (.t 7) (.t 11) (.c (.bool false)), none, some [12, 0, 1]⟩,
  ⟨(some 13), .mv (.t 12), none, none⟩,
  ⟨(some 14), .mv (.t 0), (some (13, true)), none⟩,
  ⟨(some 15), .mv (.t 1), (some (13, true)), none⟩,
  ⟨(some 16), .idx 6 (.t 14) (.t 15), (some (13, true)), none⟩,
  ⟨(some 17), .fld 0 (.t 16), (some (13, true)), none⟩,
  ⟨(some 18), .load false 1 (.t 17), (some (13, true)), none⟩,
  ⟨(some 19), .bin .neq (.t 18) (.c (.int .i64 0)), (some (13, true)), none⟩,
  ⟨(some 20), .pick (.t 13) (.t 19) (.c (.bool false)), none, some [20]⟩,
  ⟨(some 4), .mv (.t 20), none, none⟩]
def f38r1 : IC := .reg false [] f38o1 [4]
@[simp] theorem f38r1_run (tbl : TB) (fin : Fin) (K : List Fr) (e : Env) (H : List AO) : run tbl fin K f38r1 e H = regK tbl fin K [] f38o1 [4] e H := run_regK tbl fin K false [] f38o1 [4] e H rfl
def f38body : IC := (.seq f38r0 (.seq f38r1 .ret))
def f38 : IFn := ⟨21, 2, [.tmp 4], f38body⟩
def tblF : Nat → Option IFn
  | 2 => some f2
  | 3 => some f3
  | 4 => some f4
  | 5 => some f5
  | 6 => some f6
  | 7 => some f7
  | 8 => some f8
  | 9 => some f9
  | 10 => some f10
  | 11 => some f11
  | 12 => some f12
  | 13 => some f13
  | 14 => some f14
  | 15 => some f15
  | 16 => some f16
  | 17 => some f17
  | 18 => some f18
  | 19 => some f19
  | 20 => some f20
  | 21 => some f21
  | 22 => some f22
  | 23 => some f23
  | 24 => some f24
  | 25 => some f25
  | 26 => some f26
  | 27 => some f27
  | 28 => some f28
  | 29 => some f29
  | 30 => some f30
  | 31 => some f31
  | 32 => some f32
  | 33 => some f33
  | 34 => some f34
  | 35 => some f35
  | 36 => some f36
  | 37 => some f37
  | 38 => some f38
  | _ => none
theorem tbl2 : tblF 2 = some f2 := rfl
theorem tbl3 : tblF 3 = some f3 := rfl
theorem tbl4 : tblF 4 = some f4 := rfl
theorem tbl5 : tblF 5 = some f5 := rfl
theorem tbl6 : tblF 6 = some f6 := rfl
theorem tbl7 : tblF 7 = some f7 := rfl
theorem tbl8 : tblF 8 = some f8 := rfl
theorem tbl9 : tblF 9 = some f9 := rfl
theorem tbl10 : tblF 10 = some f10 := rfl
theorem tbl11 : tblF 11 = some f11 := rfl
theorem tbl12 : tblF 12 = some f12 := rfl
theorem tbl13 : tblF 13 = some f13 := rfl
theorem tbl14 : tblF 14 = some f14 := rfl
theorem tbl15 : tblF 15 = some f15 := rfl
theorem tbl16 : tblF 16 = some f16 := rfl
theorem tbl17 : tblF 17 = some f17 := rfl
theorem tbl18 : tblF 18 = some f18 := rfl
theorem tbl19 : tblF 19 = some f19 := rfl
theorem tbl20 : tblF 20 = some f20 := rfl
theorem tbl21 : tblF 21 = some f21 := rfl
theorem tbl22 : tblF 22 = some f22 := rfl
theorem tbl23 : tblF 23 = some f23 := rfl
theorem tbl24 : tblF 24 = some f24 := rfl
theorem tbl25 : tblF 25 = some f25 := rfl
theorem tbl26 : tblF 26 = some f26 := rfl
theorem tbl27 : tblF 27 = some f27 := rfl
theorem tbl28 : tblF 28 = some f28 := rfl
theorem tbl29 : tblF 29 = some f29 := rfl
theorem tbl30 : tblF 30 = some f30 := rfl
theorem tbl31 : tblF 31 = some f31 := rfl
theorem tbl32 : tblF 32 = some f32 := rfl
theorem tbl33 : tblF 33 = some f33 := rfl
theorem tbl34 : tblF 34 = some f34 := rfl
theorem tbl35 : tblF 35 = some f35 := rfl
theorem tbl36 : tblF 36 = some f36 := rfl
theorem tbl37 : tblF 37 = some f37 := rfl
theorem tbl38 : tblF 38 = some f38 := rfl
theorem ok2 : cFn Try.prog cfg 2 = some f2 := by kernel_rfl
theorem ok3 : cFn Try.prog cfg 3 = some f3 := by kernel_rfl
theorem ok4 : cFn Try.prog cfg 4 = some f4 := by kernel_rfl
theorem ok5 : cFn Try.prog cfg 5 = some f5 := by kernel_rfl
theorem ok6 : cFn Try.prog cfg 6 = some f6 := by kernel_rfl
theorem ok7 : cFn Try.prog cfg 7 = some f7 := by kernel_rfl
theorem ok8 : cFn Try.prog cfg 8 = some f8 := by kernel_rfl
theorem ok9 : cFn Try.prog cfg 9 = some f9 := by kernel_rfl
theorem ok10 : cFn Try.prog cfg 10 = some f10 := by kernel_rfl
theorem ok11 : cFn Try.prog cfg 11 = some f11 := by kernel_rfl
theorem ok12 : cFn Try.prog cfg 12 = some f12 := by kernel_rfl
theorem ok13 : cFn Try.prog cfg 13 = some f13 := by kernel_rfl
theorem ok14 : cFn Try.prog cfg 14 = some f14 := by kernel_rfl
theorem ok15 : cFn Try.prog cfg 15 = some f15 := by kernel_rfl
theorem ok16 : cFn Try.prog cfg 16 = some f16 := by kernel_rfl
theorem ok17 : cFn Try.prog cfg 17 = some f17 := by kernel_rfl
theorem ok18 : cFn Try.prog cfg 18 = some f18 := by kernel_rfl
theorem ok19 : cFn Try.prog cfg 19 = some f19 := by kernel_rfl
theorem ok20 : cFn Try.prog cfg 20 = some f20 := by kernel_rfl
theorem ok21 : cFn Try.prog cfg 21 = some f21 := by kernel_rfl
theorem ok22 : cFn Try.prog cfg 22 = some f22 := by kernel_rfl
theorem ok23 : cFn Try.prog cfg 23 = some f23 := by kernel_rfl
theorem ok24 : cFn Try.prog cfg 24 = some f24 := by kernel_rfl
theorem ok25 : cFn Try.prog cfg 25 = some f25 := by kernel_rfl
theorem ok26 : cFn Try.prog cfg 26 = some f26 := by kernel_rfl
theorem ok27 : cFn Try.prog cfg 27 = some f27 := by kernel_rfl
theorem ok28 : cFn Try.prog cfg 28 = some f28 := by kernel_rfl
theorem ok29 : cFn Try.prog cfg 29 = some f29 := by kernel_rfl
theorem ok30 : cFn Try.prog cfg 30 = some f30 := by kernel_rfl
theorem ok31 : cFn Try.prog cfg 31 = some f31 := by kernel_rfl
theorem ok32 : cFn Try.prog cfg 32 = some f32 := by kernel_rfl
theorem ok33 : cFn Try.prog cfg 33 = some f33 := by kernel_rfl
theorem ok34 : cFn Try.prog cfg 34 = some f34 := by kernel_rfl
theorem ok35 : cFn Try.prog cfg 35 = some f35 := by kernel_rfl
theorem ok36 : cFn Try.prog cfg 36 = some f36 := by kernel_rfl
theorem ok37 : cFn Try.prog cfg 37 = some f37 := by kernel_rfl
theorem ok38 : cFn Try.prog cfg 38 = some f38 := by kernel_rfl
theorem tbl_ok (f : Nat) (fn : IFn) (h : tblF f = some fn) : cFn Try.prog cfg f = some fn := by
  unfold tblF at h
  split at h
  · injection h with h; subst h; exact ok2
  · injection h with h; subst h; exact ok3
  · injection h with h; subst h; exact ok4
  · injection h with h; subst h; exact ok5
  · injection h with h; subst h; exact ok6
  · injection h with h; subst h; exact ok7
  · injection h with h; subst h; exact ok8
  · injection h with h; subst h; exact ok9
  · injection h with h; subst h; exact ok10
  · injection h with h; subst h; exact ok11
  · injection h with h; subst h; exact ok12
  · injection h with h; subst h; exact ok13
  · injection h with h; subst h; exact ok14
  · injection h with h; subst h; exact ok15
  · injection h with h; subst h; exact ok16
  · injection h with h; subst h; exact ok17
  · injection h with h; subst h; exact ok18
  · injection h with h; subst h; exact ok19
  · injection h with h; subst h; exact ok20
  · injection h with h; subst h; exact ok21
  · injection h with h; subst h; exact ok22
  · injection h with h; subst h; exact ok23
  · injection h with h; subst h; exact ok24
  · injection h with h; subst h; exact ok25
  · injection h with h; subst h; exact ok26
  · injection h with h; subst h; exact ok27
  · injection h with h; subst h; exact ok28
  · injection h with h; subst h; exact ok29
  · injection h with h; subst h; exact ok30
  · injection h with h; subst h; exact ok31
  · injection h with h; subst h; exact ok32
  · injection h with h; subst h; exact ok33
  · injection h with h; subst h; exact ok34
  · injection h with h; subst h; exact ok35
  · injection h with h; subst h; exact ok36
  · injection h with h; subst h; exact ok37
  · injection h with h; subst h; exact ok38
  · cases h
end Go.Proofs.Ytiogndooaihgkaa
