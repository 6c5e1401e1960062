/- The interpreter's form of this seat's functions (printed by a program out of the translation), and that the translation gives just this. No condition. -/
import Derived.Test.YtddcoboldcenkaaPi24
import Derived.Test.YtddcoboldcenkaaProg
import Derived.KernelRfl
namespace Go.Proofs.Ytddcoboldcenkaa
open Go.PI
def gl : Nat → Option AV
  | _ => none
def cfg : Cfg := ⟨gl, fun f => [].contains f⟩
/- 2: gosem.cut.init -/
@[simp] def f2o0 : List IOper := [
  ⟨(some 0), .call (.c (.fn 1 [])) [], none, none⟩]
def f2r0 : IC := .reg false [] f2o0 []
@[simp] theorem f2r0_run (tbl : TB) (fin : Fin) (K : List Fr) (e : Env) (H : List AO) : run tbl fin K f2r0 e H = regK tbl fin K [] f2o0 [] e H := run_regK tbl fin K false [] f2o0 [] e H rfl
def f2body : IC := f2r0
def f2 : IFn := ⟨1, 0, [], f2body⟩
/- 3: jobshell/jobshelllaw35.RedirectPlans -/
@[simp] def f3o0 : List IOper := [
  ⟨(some 6), .mv (.c (.bool false)), none, none⟩]
def f3r0 : IC := .reg false [] f3o0 [2, 1, 0]
@[simp] theorem f3r0_run (tbl : TB) (fin : Fin) (K : List Fr) (e : Env) (H : List AO) : run tbl fin K f3r0 e H = regK tbl fin K [] f3o0 [2, 1, 0] e H := run_regK tbl fin K false [] f3o0 [2, 1, 0] e H rfl
@[simp] def f3o1 : List IOper := [
  ⟨(some 11), .mv (.t 0), none, none⟩,
  ⟨(some 12), .len (.t 11), none, none⟩,
  ⟨(some 13), .bin .gtr (.t 12) (.c (.int .i64 60)), none, none⟩,
  ⟨(some 14), .mv (.t 13), none, none⟩,
  ⟨(some 15), .mv (.t 1), (some (14, false)), none⟩,
  ⟨(some 16), .len (.t 15), (some (14, false)), none⟩,
  ⟨(some 17), .bin .gtr (.t 16) (.c (.int .i64 60)), (some (14, false)), none⟩,
  ⟨(some 18), .pick (.t 14) (.c (.bool true)) (.t 17), none, none⟩]
def f3r1 : IC := .reg false [] f3o1 [18, 2, 1, 0]
@[simp] theorem f3r1_run (tbl : TB) (fin : Fin) (K : List Fr) (e : Env) (H : List AO) : run tbl fin K f3r1 e H = regK tbl fin K [] f3o1 [18, 2, 1, 0] e H := run_regK tbl fin K false [] f3o1 [18, 2, 1, 0] e H rfl
@[simp] def f3o2 : List IOper := [
  ⟨(some 19), .call (.c (.fn 7 [])) [], none, none⟩,
  ⟨(some 6), .mv (.t 19), none, none⟩]
def f3r2 : IC := .reg false [] f3o2 [6]
@[simp] theorem f3r2_run (tbl : TB) (fin : Fin) (K : List Fr) (e : Env) (H : List AO) : run tbl fin K f3r2 e H = regK tbl fin K [] f3o2 [6] e H := run_regK tbl fin K false [] f3o2 [6] e H rfl
@[simp] def f3o3 : List IOper := [
  ⟨(some 21), .mv (.t 0), none, none⟩,
  ⟨(some 22), .mv (.t 1), none, none⟩,
  ⟨(some 23), .mv (.t 2), none, none⟩,
  ⟨(some 24), .call (.c (.fn 8 [])) [(.t 21), (.t 22), (.t 23)], none, none⟩,
  ⟨(some 20), .mv (.t 24), none, none⟩,
  ⟨(some 25), .ext (.t 20) 0, none, none⟩,
  ⟨(some 26), .ext (.t 20) 1, none, none⟩,
  ⟨(some 7), .mv (.t 25), none, none⟩,
  ⟨(some 8), .mv (.t 26), none, none⟩]
def f3r3 : IC := .reg false [] f3o3 [0, 1, 2, 7, 8]
@[simp] theorem f3r3_run (tbl : TB) (fin : Fin) (K : List Fr) (e : Env) (H : List AO) : run tbl fin K f3r3 e H = regK tbl fin K [] f3o3 [0, 1, 2, 7, 8] e H := run_regK tbl fin K false [] f3o3 [0, 1, 2, 7, 8] e H rfl
@[simp] def f3o4 : List IOper := [
  ⟨(some 28), .mv (.t 0), none, none⟩,
  ⟨(some 29), .mv (.t 1), none, none⟩,
  ⟨(some 30), .mv (.t 2), none, none⟩,
  ⟨(some 31), .call (.c (.fn 9 [])) [(.t 28), (.t 29), (.t 30)], none, none⟩,
  ⟨(some 27), .mv (.t 31), none, none⟩,
  ⟨(some 32), .ext (.t 27) 0, none, none⟩,
  ⟨(some 33), .ext (.t 27) 1, none, none⟩,
  ⟨(some 9), .mv (.t 32), none, none⟩,
  ⟨(some 10), .mv (.t 33), none, none⟩]
def f3r4 : IC := .reg false [] f3o4 [7, 9, 8, 10]
@[simp] theorem f3r4_run (tbl : TB) (fin : Fin) (K : List Fr) (e : Env) (H : List AO) : run tbl fin K f3r4 e H = regK tbl fin K [] f3o4 [7, 9, 8, 10] e H := run_regK tbl fin K false [] f3o4 [7, 9, 8, 10] e H rfl
@[simp] def f3o5 : List IOper := [
  ⟨(some 34), .mv (.t 7), none, none⟩,
  ⟨(some 35), .mv (.t 9), none, none⟩,
  ⟨(some 36), .call (.c (.fn 10 [])) [(.t 34), (.t 35)], none, none⟩,
  ⟨(some 37), .mv (.t 36), none, none⟩,
  ⟨(some 38), .mv (.t 8), (some (37, true)), none⟩,
  ⟨(some 39), .mv (.t 10), (some (37, true)), none⟩,
  ⟨(some 40), .bin .eql (.t 38) (.t 39), (some (37, true)), none⟩,
  ⟨(some 41), .pick (.t 37) (.t 40) (.c (.bool false)), none, some [41]⟩,
  ⟨(some 42), .mv (.t 41), none, none⟩,
  ⟨(some 43), .call (.c (.fn 7 [])) [], (some (42, true)), none⟩,
  ⟨(some 44), .pick (.t 42) (.t 43) (.c (.bool false)), none, none⟩,
  ⟨(some 6), .mv (.t 44), none, none⟩]
def f3r5 : IC := .reg false [] f3o5 [6]
@[simp] theorem f3r5_run (tbl : TB) (fin : Fin) (K : List Fr) (e : Env) (H : List AO) : run tbl fin K f3r5 e H = regK tbl fin K [] f3o5 [6] e H := run_regK tbl fin K false [] f3o5 [6] e H rfl
def f3body : IC := (.seq f3r0 (.seq (.seq f3r1 (.cond (.t 18) (.seq f3r2 .ret) .skip)) (.seq f3r3 (.seq f3r4 (.seq f3r5 .ret)))))
def f3 : IFn := ⟨45, 3, [.tmp 6], f3body⟩
/- 4: jobshell/jobshelllaw35.RedirectKeeps -/
@[simp] def f4o0 : List IOper := [
  ⟨(some 2), .mv (.c (.bool false)), none, none⟩]
def f4r0 : IC := .reg false [] f4o0 [0]
@[simp] theorem f4r0_run (tbl : TB) (fin : Fin) (K : List Fr) (e : Env) (H : List AO) : run tbl fin K f4r0 e H = regK tbl fin K [] f4o0 [0] e H := run_regK tbl fin K false [] f4o0 [0] e H rfl
@[simp] def f4o1 : List IOper := [
  ⟨(some 7), .mv (.t 0), none, none⟩,
  ⟨(some 8), .len (.t 7), none, none⟩,
  ⟨(some 9), .bin .gtr (.t 8) (.c (.int .i64 60)), none, none⟩]
def f4r1 : IC := .reg false [] f4o1 [9, 0]
@[simp] theorem f4r1_run (tbl : TB) (fin : Fin) (K : List Fr) (e : Env) (H : List AO) : run tbl fin K f4r1 e H = regK tbl fin K [] f4o1 [9, 0] e H := run_regK tbl fin K false [] f4o1 [9, 0] e H rfl
@[simp] def f4o2 : List IOper := [
  ⟨(some 10), .call (.c (.fn 7 [])) [], none, none⟩,
  ⟨(some 2), .mv (.t 10), none, none⟩]
def f4r2 : IC := .reg false [] f4o2 [2]
@[simp] theorem f4r2_run (tbl : TB) (fin : Fin) (K : List Fr) (e : Env) (H : List AO) : run tbl fin K f4r2 e H = regK tbl fin K [] f4o2 [2] e H := run_regK tbl fin K false [] f4o2 [2] e H rfl
@[simp] def f4o3 : List IOper := [
  ⟨(some 12), .mv (.t 0), none, none⟩,
  ⟨(some 13), .call (.c (.fn 11 [])) [(.t 12)], none, none⟩,
  ⟨(some 11), .mv (.t 13), none, none⟩,
  ⟨(some 14), .ext (.t 11) 0, none, none⟩,
  ⟨(some 15), .ext (.t 11) 1, none, none⟩,
  ⟨(some 3), .mv (.t 14), none, none⟩,
  ⟨(some 4), .mv (.t 15), none, none⟩]
def f4r3 : IC := .reg false [] f4o3 [0, 3, 4]
@[simp] theorem f4r3_run (tbl : TB) (fin : Fin) (K : List Fr) (e : Env) (H : List AO) : run tbl fin K f4r3 e H = regK tbl fin K [] f4o3 [0, 3, 4] e H := run_regK tbl fin K false [] f4o3 [0, 3, 4] e H rfl
@[simp] def f4o4 : List IOper := [
  ⟨(some 17), .mv (.t 0), none, none⟩,
  ⟨(some 18), .call (.c (.fn 12 [])) [(.t 17)], none, none⟩,
  ⟨(some 16), .mv (.t 18), none, none⟩,
  ⟨(some 19), .ext (.t 16) 0, none, none⟩,
  ⟨(some 20), .ext (.t 16) 1, none, none⟩,
  ⟨(some 5), .mv (.t 19), none, none⟩,
  ⟨(some 6), .mv (.t 20), none, none⟩]
def f4r4 : IC := .reg false [] f4o4 [3, 5, 4, 6]
@[simp] theorem f4r4_run (tbl : TB) (fin : Fin) (K : List Fr) (e : Env) (H : List AO) : run tbl fin K f4r4 e H = regK tbl fin K [] f4o4 [3, 5, 4, 6] e H := run_regK tbl fin K false [] f4o4 [3, 5, 4, 6] e H rfl
@[simp] def f4o5 : List IOper := [
  ⟨(some 21), .mv (.t 3), none, none⟩,
  ⟨(some 22), .mv (.t 5), none, none⟩,
  ⟨(some 23), .call (.c (.fn 10 [])) [(.t 21), (.t 22)], none, none⟩,
  ⟨(some 24), .mv (.t 23), none, none⟩,
  ⟨(some 25), .mv (.t 4), (some (24, true)), none⟩,
  ⟨(some 26), .mv (.t 6), (some (24, true)), none⟩,
  ⟨(some 27), .call (.c (.fn 10 [])) [(.t 25), (.t 26)], (some (24, true)), none⟩,
  ⟨(some 28), .pick (.t 24) (.t 27) (.c (.bool false)), none, some [28]⟩,
  ⟨(some 29), .mv (.t 28), none, none⟩,
  ⟨(some 30), .call (.c (.fn 7 [])) [], (some (29, true)), none⟩,
  ⟨(some 31), .pick (.t 29) (.t 30) (.c (.bool false)), none, none⟩,
  ⟨(some 2), .mv (.t 31), none, none⟩]
def f4r5 : IC := .reg false [] f4o5 [2]
@[simp] theorem f4r5_run (tbl : TB) (fin : Fin) (K : List Fr) (e : Env) (H : List AO) : run tbl fin K f4r5 e H = regK tbl fin K [] f4o5 [2] e H := run_regK tbl fin K false [] f4o5 [2] e H rfl
def f4body : IC := (.seq f4r0 (.seq (.seq f4r1 (.cond (.t 9) (.seq f4r2 .ret) .skip)) (.seq f4r3 (.seq f4r4 (.seq f4r5 .ret)))))
def f4 : IFn := ⟨32, 1, [.tmp 2], f4body⟩
/- 5: jobshell/jobshelllaw35.RedirectAsks -/
@[simp] def f5o0 : List IOper := [
  ⟨(some 1), .box 37 6 (.t 0), none, none⟩,
  ⟨(some 2), .mv (.c (.bool false)), none, none⟩]
def f5r0 : IC := .reg false [] f5o0 [1]
@[simp] theorem f5r0_run (tbl : TB) (fin : Fin) (K : List Fr) (e : Env) (H : List AO) : run tbl fin K f5r0 e H = regK tbl fin K [] f5o0 [1] e H := run_regK tbl fin K false [] f5o0 [1] e H rfl
@[simp] def f5o1 : List IOper := [
  ⟨(some 8), .load true 6 (.t 1), none, none⟩,
  ⟨(some 9), .call (.c (.fn 13 [])) [(.t 8)], none, none⟩,
  ⟨(some 7), .mv (.t 9), none, none⟩,
  ⟨(some 10), .ext (.t 7) 0, none, none⟩,
  ⟨(some 11), .ext (.t 7) 1, none, none⟩,
  ⟨(some 3), .new 39 12 (.agg [(.int .i64 0), (.int .i64 0), (.int .i64 0), (.int .i64 0), (.int .i64 0), (.int .i64 0), (.int .i64 0), (.int .i64 0), (.str []), (.str []), .e0, .e0]), none, none⟩,
  ⟨none, .store 12 (.t 3) (.t 10), none, none⟩,
  ⟨(some 4), .mv (.t 11), none, none⟩]
def f5r1 : IC := .reg false [] f5o1 [1, 3, 4]
@[simp] theorem f5r1_run (tbl : TB) (fin : Fin) (K : List Fr) (e : Env) (H : List AO) : run tbl fin K f5r1 e H = regK tbl fin K [] f5o1 [1, 3, 4] e H := run_regK tbl fin K false [] f5o1 [1, 3, 4] e H rfl
@[simp] def f5o2 : List IOper := [
  ⟨(some 13), .load true 6 (.t 1), none, none⟩,
  ⟨(some 14), .call (.c (.fn 14 [])) [(.t 13)], none, none⟩,
  ⟨(some 12), .mv (.t 14), none, none⟩,
  ⟨(some 15), .ext (.t 12) 0, none, none⟩,
  ⟨(some 16), .ext (.t 12) 1, none, none⟩,
  ⟨(some 5), .new 39 12 (.agg [(.int .i64 0), (.int .i64 0), (.int .i64 0), (.int .i64 0), (.int .i64 0), (.int .i64 0), (.int .i64 0), (.int .i64 0), (.str []), (.str []), .e0, .e0]), none, none⟩,
  ⟨none, .store 12 (.t 5) (.t 15), none, none⟩,
  ⟨(some 6), .mv (.t 16), none, none⟩]
def f5r2 : IC := .reg false [] f5o2 [3, 5, 4, 6]
@[simp] theorem f5r2_run (tbl : TB) (fin : Fin) (K : List Fr) (e : Env) (H : List AO) : run tbl fin K f5r2 e H = regK tbl fin K [] f5o2 [3, 5, 4, 6] e H := run_regK tbl fin K false [] f5o2 [3, 5, 4, 6] e H rfl
@[simp] def f5o3 : List IOper := [
  ⟨(some 17), .load true 12 (.t 3), none, none⟩,
  ⟨(some 18), .load true 12 (.t 5), none, none⟩,
  ⟨(some 19), .call (.c (.fn 15 [])) [(.t 17), (.t 18)], none, none⟩,
  ⟨(some 20), .mv (.t 19), none, none⟩,
  ⟨(some 21), .mv (.t 4), (some (20, true)), none⟩,
  ⟨(some 22), .mv (.t 6), (some (20, true)), none⟩,
  ⟨(some 23), .beq false (.t 21) (.t 22), (some (20, true)), none⟩,
  ⟨(some 24), .pick (.t 20) (.t 23) (.c (.bool false)), none, some [24]⟩,
  ⟨(some 25), .mv (.t 24), none, none⟩,
  ⟨(some 26), .call (.c (.fn 7 [])) [], (some (25, true)), none⟩,
  ⟨(some 27), .pick (.t 25) (.t 26) (.c (.bool false)), none, none⟩,
  ⟨(some 2), .mv (.t 27), none, none⟩]
def f5r3 : IC := .reg false [] f5o3 [2]
@[simp] theorem f5r3_run (tbl : TB) (fin : Fin) (K : List Fr) (e : Env) (H : List AO) : run tbl fin K f5r3 e H = regK tbl fin K [] f5o3 [2] e H := run_regK tbl fin K false [] f5o3 [2] e H rfl
def f5body : IC := (.seq f5r0 (.seq f5r1 (.seq f5r2 (.seq f5r3 .ret))))
def f5 : IFn := ⟨28, 1, [.tmp 2], f5body⟩
/- 6: jobshell/jobshelllaw35.RedirectOnce -/
@[simp] def f6o0 : List IOper := [
  ⟨(some 2), .mv (.c (.bool false)), none, none⟩]
def f6r0 : IC := .reg false [] f6o0 [0]
@[simp] theorem f6r0_run (tbl : TB) (fin : Fin) (K : List Fr) (e : Env) (H : List AO) : run tbl fin K f6r0 e H = regK tbl fin K [] f6o0 [0] e H := run_regK tbl fin K false [] f6o0 [0] e H rfl
@[simp] def f6o1 : List IOper := [
  ⟨(some 12), .mv (.t 0), none, none⟩,
  ⟨(some 13), .len (.t 12), none, none⟩,
  ⟨(some 14), .bin .gtr (.t 13) (.c (.int .i64 60)), none, none⟩]
def f6r1 : IC := .reg false [] f6o1 [14, 0]
@[simp] theorem f6r1_run (tbl : TB) (fin : Fin) (K : List Fr) (e : Env) (H : List AO) : run tbl fin K f6r1 e H = regK tbl fin K [] f6o1 [14, 0] e H := run_regK tbl fin K false [] f6o1 [14, 0] e H rfl
@[simp] def f6o2 : List IOper := [
  ⟨(some 15), .call (.c (.fn 7 [])) [], none, none⟩,
  ⟨(some 2), .mv (.t 15), none, none⟩]
def f6r2 : IC := .reg false [] f6o2 [2]
@[simp] theorem f6r2_run (tbl : TB) (fin : Fin) (K : List Fr) (e : Env) (H : List AO) : run tbl fin K f6r2 e H = regK tbl fin K [] f6o2 [2] e H := run_regK tbl fin K false [] f6o2 [2] e H rfl
@[simp] def f6o3 : List IOper := [
  ⟨(some 17), .mv (.t 0), none, none⟩,
  ⟨(some 18), .call (.c (.fn 11 [])) [(.t 17)], none, none⟩,
  ⟨(some 16), .mv (.t 18), none, none⟩,
  ⟨(some 19), .ext (.t 16) 0, none, none⟩,
  ⟨(some 20), .ext (.t 16) 1, none, none⟩,
  ⟨(some 3), .mv (.t 19), none, none⟩,
  ⟨(some 4), .mv (.t 20), none, none⟩]
def f6r3 : IC := .reg false [] f6o3 [4, 0, 3]
@[simp] theorem f6r3_run (tbl : TB) (fin : Fin) (K : List Fr) (e : Env) (H : List AO) : run tbl fin K f6r3 e H = regK tbl fin K [] f6o3 [4, 0, 3] e H := run_regK tbl fin K false [] f6o3 [4, 0, 3] e H rfl
@[simp] def f6o4 : List IOper := [
  ⟨(some 21), .mv (.t 3), none, none⟩,
  ⟨(some 22), .len (.t 21), none, none⟩,
  ⟨(some 23), .mv (.t 4), none, none⟩,
  ⟨(some 24), .len (.t 23), none, none⟩,
  ⟨(some 25), .bin .neq (.t 22) (.t 24), none, none⟩,
  ⟨(some 26), .mv (.t 25), none, none⟩,
  ⟨(some 27), .mv (.t 3), (some (26, false)), none⟩,
  ⟨(some 28), .len (.t 27), (some (26, false)), some [28, 26, 4, 0, 3]⟩,
  ⟨(some 29), .mv (.t 0), (some (26, false)), none⟩,
  ⟨(some 30), .len (.t 29), (some (26, false)), none⟩,
  ⟨(some 31), .bin .gtr (.t 28) (.t 30), (some (26, false)), none⟩,
  ⟨(some 32), .pick (.t 26) (.c (.bool true)) (.t 31), none, none⟩,
  ⟨(some 33), .mv (.t 32), none, none⟩,
  ⟨(some 34), .mv (.t 0), (some (33, false)), none⟩,
  ⟨(some 35), .len (.t 34), (some (33, false)), none⟩,
  ⟨(some 36), .bin .gtr (.t 35) (.c (.int .i64 0)), (some (33, false)), some [36, 33, 4, 0, 3]⟩,
  ⟨(some 37), .mv (.t 36), (some (33, false)), none⟩,
  ⟨(some 38), .mv (.t 3), (some (37, true)), none⟩,
  ⟨(some 39), .len (.t 38), (some (37, true)), none⟩,
  ⟨(some 40), .bin .eql (.t 39) (.c (.int .i64 0)), (some (37, true)), none⟩,
  ⟨(some 41), .pick (.t 37) (.t 40) (.c (.bool false)), (some (33, false)), none⟩,
  ⟨(some 42), .pick (.t 33) (.c (.bool true)) (.t 41), none, none⟩]
def f6r4 : IC := .reg false [] f6o4 [42, 4, 0, 3]
@[simp] theorem f6r4_run (tbl : TB) (fin : Fin) (K : List Fr) (e : Env) (H : List AO) : run tbl fin K f6r4 e H = regK tbl fin K [] f6o4 [42, 4, 0, 3] e H := run_regK tbl fin K false [] f6o4 [42, 4, 0, 3] e H rfl
@[simp] def f6o5 : List IOper := [
  ⟨(some 2), .mv (.c (.bool false)), none, none⟩]
def f6r5 : IC := .reg false [] f6o5 [2]
@[simp] theorem f6r5_run (tbl : TB) (fin : Fin) (K : List Fr) (e : Env) (H : List AO) : run tbl fin K f6r5 e H = regK tbl fin K [] f6o5 [2] e H := run_regK tbl fin K false [] f6o5 [2] e H rfl
@[simp] def f6o6 : List IOper := [
  ⟨(some 43), .mv (.t 3), none, none⟩,
  ⟨(some 44), .len (.t 43), none, none⟩,
  ⟨(some 45), .mv (.c (.int .i64 0)), none, none⟩]
def f6r6 : IC := .reg false [] f6o6 [3, 45, 44, 0, 4]
@[simp] theorem f6r6_run (tbl : TB) (fin : Fin) (K : List Fr) (e : Env) (H : List AO) : run tbl fin K f6r6 e H = regK tbl fin K [] f6o6 [3, 45, 44, 0, 4] e H := run_regK tbl fin K false [] f6o6 [3, 45, 44, 0, 4] e H rfl
@[simp] def f6o7 : List IOper := [
  ⟨(some 46), .bin .lss (.t 45) (.t 44), none, none⟩]
def f6r7 : IC := .reg false [] f6o7 [46, 3, 45, 44, 0, 4]
@[simp] theorem f6r7_run (tbl : TB) (fin : Fin) (K : List Fr) (e : Env) (H : List AO) : run tbl fin K f6r7 e H = regK tbl fin K [] f6o7 [46, 3, 45, 44, 0, 4] e H := run_regK tbl fin K false [] f6o7 [46, 3, 45, 44, 0, 4] e H rfl
@[simp] def f6o8 : List IOper := [
  ⟨(some 47), .mv (.t 45), none, none⟩,
  ⟨(some 5), .mv (.t 47), none, none⟩]
def f6r8 : IC := .reg false [] f6o8 [5, 3, 45, 44, 0, 4]
@[simp] theorem f6r8_run (tbl : TB) (fin : Fin) (K : List Fr) (e : Env) (H : List AO) : run tbl fin K f6r8 e H = regK tbl fin K [] f6o8 [5, 3, 45, 44, 0, 4] e H := run_regK tbl fin K false [] f6o8 [5, 3, 45, 44, 0, 4] e H rfl
@[simp] def f6o9 : List IOper := [
  ⟨(some 48), .mv (.t 3), none, none⟩,
  ⟨(some 49), .mv (.t 5), none, none⟩,
  ⟨(some 50), .idx 6 (.t 48) (.t 49), none, none⟩,
  ⟨(some 51), .fld 0 (.t 50), none, none⟩,
  ⟨(some 52), .load false 1 (.t 51), none, none⟩,
  ⟨(some 53), .bin .neq (.t 52) (.c (.int .i64 5)), none, none⟩,
  ⟨(some 54), .mv (.t 53), none, none⟩,
  ⟨(some 55), .mv (.t 4), (some (54, false)), none⟩,
  ⟨(some 56), .mv (.t 4), (some (54, false)), none⟩,
  ⟨(some 57), .len (.t 56), (some (54, false)), none⟩,
  ⟨(some 58), .bin .sub (.t 57) (.c (.int .i64 1)), (some (54, false)), none⟩,
  ⟨(some 59), .mv (.t 5), (some (54, false)), none⟩,
  ⟨(some 60), .bin .sub (.t 58) (.t 59), (some (54, false)), none⟩,
  ⟨(some 61), .idx 6 (.t 55) (.t 60), (some (54, false)), none⟩,
  ⟨(some 62), .fld 0 (.t 61), (some (54, false)), none⟩,
  ⟨(some 63), .load false 1 (.t 62), (some (54, false)), none⟩,
  ⟨(some 64), .bin .neq (.t 63) (.c (.int .i64 6)), (some (54, false)), none⟩,
  ⟨(some 65), .pick (.t 54) (.c (.bool true)) (.t 64), none, none⟩,
  ⟨(some 66), .mv (.t 65), none, none⟩,
  ⟨(some 67), .mv (.t 4), (some (66, false)), none⟩,
  ⟨(some 68), .mv (.t 4), (some (66, false)), none⟩,
  ⟨(some 69), .len (.t 68), (some (66, false)), none⟩,
  ⟨(some 70), .bin .sub (.t 69) (.c (.int .i64 1)), (some (66, false)), none⟩,
  ⟨(some 71), .mv (.t 5), (some (66, false)), none⟩,
  ⟨(some 72), .bin .sub (.t 70) (.t 71), (some (66, false)), none⟩,
  ⟨(some 73), .idx 6 (.t 67) (.t 72), (some (66, false)), none⟩,
  ⟨(some 74), .fld 1 (.t 73), (some (66, false)), none⟩,
  ⟨(some 75), .load false 1 (.t 74), (some (66, false)), none⟩,
  ⟨(some 76), .mv (.t 3), (some (66, false)), none⟩,
  ⟨(some 77), .mv (.t 5), (some (66, false)), none⟩,
  ⟨(some 78), .idx 6 (.t 76) (.t 77), (some (66, false)), none⟩,
  ⟨(some 79), .fld 1 (.t 78), (some (66, false)), none⟩,
  ⟨(some 80), .load false 1 (.t 79), (some (66, false)), none⟩,
  ⟨(some 81), .bin .neq (.t 75) (.t 80), (some (66, false)), none⟩,
  ⟨(some 82), .pick (.t 66) (.c (.bool true)) (.t 81), none, none⟩]
def f6r9 : IC := .reg true [] f6o9 [82, 5, 3, 45, 44, 0, 4]
@[simp] theorem f6r9_run (tbl : TB) (fin : Fin) (K : List Fr) (e : Env) (H : List AO) : run tbl fin K f6r9 e H = regK tbl fin K [] f6o9 [82, 5, 3, 45, 44, 0, 4] e H := run_regK tbl fin K true [] f6o9 [82, 5, 3, 45, 44, 0, 4] e H rfl
@[simp] def f6o10 : List IOper := [
  ⟨(some 2), .mv (.c (.bool false)), none, none⟩]
def f6r10 : IC := .reg false [] f6o10 [2]
@[simp] theorem f6r10_run (tbl : TB) (fin : Fin) (K : List Fr) (e : Env) (H : List AO) : run tbl fin K f6r10 e H = regK tbl fin K [] f6o10 [2] e H := run_regK tbl fin K false [] f6o10 [2] e H rfl
@[simp] def f6o11 : List IOper := [
  ⟨(some 83), .mv (.t 5), none, none⟩,
  ⟨(some 84), .mv (.c (.int .i64 0)), none, none⟩]
def f6r11 : IC := .reg false [] f6o11 [83, 4, 0, 44, 45, 3, 5, 84]
@[simp] theorem f6r11_run (tbl : TB) (fin : Fin) (K : List Fr) (e : Env) (H : List AO) : run tbl fin K f6r11 e H = regK tbl fin K [] f6o11 [83, 4, 0, 44, 45, 3, 5, 84] e H := run_regK tbl fin K false [] f6o11 [83, 4, 0, 44, 45, 3, 5, 84] e H rfl
@[simp] def f6o12 : List IOper := [
  ⟨(some 85), .bin .lss (.t 84) (.t 83), none, none⟩]
def f6r12 : IC := .reg false [] f6o12 [85, 5, 3, 45, 44, 0, 4, 83, 84]
@[simp] theorem f6r12_run (tbl : TB) (fin : Fin) (K : List Fr) (e : Env) (H : List AO) : run tbl fin K f6r12 e H = regK tbl fin K [] f6o12 [85, 5, 3, 45, 44, 0, 4, 83, 84] e H := run_regK tbl fin K false [] f6o12 [85, 5, 3, 45, 44, 0, 4, 83, 84] e H rfl
@[simp] def f6o13 : List IOper := [
  ⟨(some 86), .mv (.t 84), none, none⟩,
  ⟨(some 6), .mv (.t 86), none, none⟩]
def f6r13 : IC := .reg false [] f6o13 [6, 5, 3, 45, 44, 0, 4, 83, 84]
@[simp] theorem f6r13_run (tbl : TB) (fin : Fin) (K : List Fr) (e : Env) (H : List AO) : run tbl fin K f6r13 e H = regK tbl fin K [] f6o13 [6, 5, 3, 45, 44, 0, 4, 83, 84] e H := run_regK tbl fin K false [] f6o13 [6, 5, 3, 45, 44, 0, 4, 83, 84] e H rfl
@[simp] def f6o14 : List IOper := [
  ⟨(some 87), .mv (.t 3), none, none⟩,
  ⟨(some 88), .mv (.t 6), none, none⟩,
  ⟨(some 89), .idx 6 (.t 87) (.t 88), none, none⟩,
  ⟨(some 90), .fld 1 (.t 89), none, none⟩,
  ⟨(some 91), .load false 1 (.t 90), none, none⟩,
  ⟨(some 92), .mv (.t 3), none, none⟩,
  ⟨(some 93), .mv (.t 5), none, none⟩,
  ⟨(some 94), .idx 6 (.t 92) (.t 93), none, none⟩,
  ⟨(some 95), .fld 1 (.t 94), none, none⟩,
  ⟨(some 96), .load false 1 (.t 95), none, none⟩,
  ⟨(some 97), .bin .eql (.t 91) (.t 96), none, none⟩]
def f6r14 : IC := .reg true [] f6o14 [97, 5, 3, 45, 44, 0, 4, 83, 84]
@[simp] theorem f6r14_run (tbl : TB) (fin : Fin) (K : List Fr) (e : Env) (H : List AO) : run tbl fin K f6r14 e H = regK tbl fin K [] f6o14 [97, 5, 3, 45, 44, 0, 4, 83, 84] e H := run_regK tbl fin K true [] f6o14 [97, 5, 3, 45, 44, 0, 4, 83, 84] e H rfl
@[simp] def f6o15 : List IOper := [
  ⟨(some 2), .mv (.c (.bool false)), none, none⟩]
def f6r15 : IC := .reg false [] f6o15 [2]
@[simp] theorem f6r15_run (tbl : TB) (fin : Fin) (K : List Fr) (e : Env) (H : List AO) : run tbl fin K f6r15 e H = regK tbl fin K [] f6o15 [2] e H := run_regK tbl fin K false [] f6o15 [2] e H rfl
@[simp] def f6o16 : List IOper := [
  ⟨(some 98), .bin .add (.t 84) (.c (.int .i64 1)), none, none⟩,
  ⟨(some 84), .mv (.t 98), none, none⟩]
def f6r16 : IC := .reg false [] f6o16 [83, 4, 0, 44, 45, 3, 5, 84]
@[simp] theorem f6r16_run (tbl : TB) (fin : Fin) (K : List Fr) (e : Env) (H : List AO) : run tbl fin K f6r16 e H = regK tbl fin K [] f6o16 [83, 4, 0, 44, 45, 3, 5, 84] e H := run_regK tbl fin K false [] f6o16 [83, 4, 0, 44, 45, 3, 5, 84] e H rfl
def f6b17 : IC := (.seq f6r12 (.seq (.cond (.t 85) .skip (.exit 2)) (.seq (.block 3 (.seq f6r13 (.seq f6r14 (.cond (.t 97) (.seq f6r15 .ret) .skip)))) f6r16)))
theorem f6b17_eq : f6b17 = (.seq f6r12 (.seq (.cond (.t 85) .skip (.exit 2)) (.seq (.block 3 (.seq f6r13 (.seq f6r14 (.cond (.t 97) (.seq f6r15 .ret) .skip)))) f6r16))) := rfl
@[simp] def f6o18 : List IOper := [
  ⟨(some 99), .bin .add (.t 45) (.c (.int .i64 1)), none, none⟩,
  ⟨(some 45), .mv (.t 99), none, none⟩]
def f6r18 : IC := .reg false [] f6o18 [3, 45, 44, 0, 4]
@[simp] theorem f6r18_run (tbl : TB) (fin : Fin) (K : List Fr) (e : Env) (H : List AO) : run tbl fin K f6r18 e H = regK tbl fin K [] f6o18 [3, 45, 44, 0, 4] e H := run_regK tbl fin K false [] f6o18 [3, 45, 44, 0, 4] e H rfl
def f6b19 : IC := (.seq f6r7 (.seq (.cond (.t 46) .skip (.exit 0)) (.seq (.block 1 (.seq f6r8 (.seq (.seq f6r9 (.cond (.t 82) (.seq f6r10 .ret) .skip)) (.seq f6r11 (.block 2 (.loop [83, 4, 0, 44, 45, 3, 5, 84] f6b17)))))) f6r18)))
theorem f6b19_eq : f6b19 = (.seq f6r7 (.seq (.cond (.t 46) .skip (.exit 0)) (.seq (.block 1 (.seq f6r8 (.seq (.seq f6r9 (.cond (.t 82) (.seq f6r10 .ret) .skip)) (.seq f6r11 (.block 2 (.loop [83, 4, 0, 44, 45, 3, 5, 84] f6b17)))))) f6r18))) := rfl
@[simp] def f6o20 : List IOper := [
  ⟨(some 100), .mv (.t 0), none, none⟩,
  ⟨(some 101), .len (.t 100), none, none⟩,
  ⟨(some 102), .mv (.c (.int .i64 0)), none, none⟩]
def f6r20 : IC := .reg false [] f6o20 [102, 101, 100, 3]
@[simp] theorem f6r20_run (tbl : TB) (fin : Fin) (K : List Fr) (e : Env) (H : List AO) : run tbl fin K f6r20 e H = regK tbl fin K [] f6o20 [102, 101, 100, 3] e H := run_regK tbl fin K false [] f6o20 [102, 101, 100, 3] e H rfl
@[simp] def f6o21 : List IOper := [
  ⟨(some 103), .bin .lss (.t 102) (.t 101), none, none⟩]
def f6r21 : IC := .reg false [] f6o21 [103, 102, 101, 100, 3]
@[simp] theorem f6r21_run (tbl : TB) (fin : Fin) (K : List Fr) (e : Env) (H : List AO) : run tbl fin K f6r21 e H = regK tbl fin K [] f6o21 [103, 102, 101, 100, 3] e H := run_regK tbl fin K false [] f6o21 [103, 102, 101, 100, 3] e H rfl
@[simp] def f6o22 : List IOper := [
  ⟨(some 104), .idx 6 (.t 100) (.t 102), none, none⟩,
  ⟨(some 105), .load true 6 (.t 104), none, none⟩,
  ⟨(some 8), .new 37 6 (.agg [(.int .i64 0), (.int .i64 0), (.int .i64 0), (.int .i64 0), (.str []), (.str [])]), none, none⟩,
  ⟨none, .store 6 (.t 8) (.t 105), none, none⟩]
def f6r22 : IC := .reg false [] f6o22 [102, 101, 100, 3, 8]
@[simp] theorem f6r22_run (tbl : TB) (fin : Fin) (K : List Fr) (e : Env) (H : List AO) : run tbl fin K f6r22 e H = regK tbl fin K [] f6o22 [102, 101, 100, 3, 8] e H := run_regK tbl fin K false [] f6o22 [102, 101, 100, 3, 8] e H rfl
@[simp] def f6o23 : List IOper := [
  ⟨(some 9), .mv (.c (.bool false)), none, none⟩]
def f6r23 : IC := .reg false [] f6o23 [9, 102, 101, 100, 3, 8]
@[simp] theorem f6r23_run (tbl : TB) (fin : Fin) (K : List Fr) (e : Env) (H : List AO) : run tbl fin K f6r23 e H = regK tbl fin K [] f6o23 [9, 102, 101, 100, 3, 8] e H := run_regK tbl fin K false [] f6o23 [9, 102, 101, 100, 3, 8] e H rfl
@[simp] def f6o24 : List IOper := [
  ⟨(some 106), .mv (.t 3), none, none⟩,
  ⟨(some 107), .len (.t 106), none, none⟩,
  ⟨(some 108), .mv (.c (.int .i64 0)), none, none⟩]
def f6r24 : IC := .reg false [] f6o24 [9, 108, 107, 102, 101, 100, 3, 106, 8]
@[simp] theorem f6r24_run (tbl : TB) (fin : Fin) (K : List Fr) (e : Env) (H : List AO) : run tbl fin K f6r24 e H = regK tbl fin K [] f6o24 [9, 108, 107, 102, 101, 100, 3, 106, 8] e H := run_regK tbl fin K false [] f6o24 [9, 108, 107, 102, 101, 100, 3, 106, 8] e H rfl
@[simp] def f6o25 : List IOper := [
  ⟨(some 109), .bin .lss (.t 108) (.t 107), none, none⟩]
def f6r25 : IC := .reg false [] f6o25 [109, 9, 108, 107, 102, 101, 100, 3, 106, 8]
@[simp] theorem f6r25_run (tbl : TB) (fin : Fin) (K : List Fr) (e : Env) (H : List AO) : run tbl fin K f6r25 e H = regK tbl fin K [] f6o25 [109, 9, 108, 107, 102, 101, 100, 3, 106, 8] e H := run_regK tbl fin K false [] f6o25 [109, 9, 108, 107, 102, 101, 100, 3, 106, 8] e H rfl
@[simp] def f6o26 : List IOper := [
  ⟨(some 110), .idx 6 (.t 106) (.t 108), none, none⟩,
  ⟨(some 111), .load true 6 (.t 110), none, none⟩,
  ⟨(some 11), .new 37 6 (.agg [(.int .i64 0), (.int .i64 0), (.int .i64 0), (.int .i64 0), (.str []), (.str [])]), none, none⟩,
  ⟨none, .store 6 (.t 11) (.t 111), none, none⟩]
def f6r26 : IC := .reg false [] f6o26 [9, 11, 108, 107, 102, 101, 100, 3, 106, 8]
@[simp] theorem f6r26_run (tbl : TB) (fin : Fin) (K : List Fr) (e : Env) (H : List AO) : run tbl fin K f6r26 e H = regK tbl fin K [] f6o26 [9, 11, 108, 107, 102, 101, 100, 3, 106, 8] e H := run_regK tbl fin K false [] f6o26 [9, 11, 108, 107, 102, 101, 100, 3, 106, 8] e H rfl
@[simp] def f6o27 : List IOper := [
  ⟨(some 112), .mv (.t 9), none, none⟩,
  ⟨(some 113), .mv (.t 112), none, none⟩,
  ⟨(some 114), .fld 1 (.t 11), (some (113, false)), none⟩,
  ⟨(some 115), .load false 1 (.t 114), (some (113, false)), none⟩,
  ⟨(some 116), .fld 1 (.t 8), (some (113, false)), none⟩,
  ⟨(some 117), .load false 1 (.t 116), (some (113, false)), none⟩,
  ⟨(some 118), .bin .eql (.t 115) (.t 117), (some (113, false)), none⟩,
  ⟨(some 119), .pick (.t 113) (.c (.bool true)) (.t 118), none, none⟩,
  ⟨(some 9), .mv (.t 119), none, none⟩]
def f6r27 : IC := .reg false [] f6o27 [108, 9, 107, 102, 101, 100, 3, 106, 8]
@[simp] theorem f6r27_run (tbl : TB) (fin : Fin) (K : List Fr) (e : Env) (H : List AO) : run tbl fin K f6r27 e H = regK tbl fin K [] f6o27 [108, 9, 107, 102, 101, 100, 3, 106, 8] e H := run_regK tbl fin K false [] f6o27 [108, 9, 107, 102, 101, 100, 3, 106, 8] e H rfl
@[simp] def f6o28 : List IOper := [
  ⟨(some 120), .bin .add (.t 108) (.c (.int .i64 1)), none, none⟩,
  ⟨(some 108), .mv (.t 120), none, none⟩]
def f6r28 : IC := .reg false [] f6o28 [9, 108, 107, 102, 101, 100, 3, 106, 8]
@[simp] theorem f6r28_run (tbl : TB) (fin : Fin) (K : List Fr) (e : Env) (H : List AO) : run tbl fin K f6r28 e H = regK tbl fin K [] f6o28 [9, 108, 107, 102, 101, 100, 3, 106, 8] e H := run_regK tbl fin K false [] f6o28 [9, 108, 107, 102, 101, 100, 3, 106, 8] e H rfl
def f6b29 : IC := (.seq f6r25 (.seq (.cond (.t 109) .skip (.exit 6)) (.seq (.block 7 (.seq f6r26 f6r27)) f6r28)))
theorem f6b29_eq : f6b29 = (.seq f6r25 (.seq (.cond (.t 109) .skip (.exit 6)) (.seq (.block 7 (.seq f6r26 f6r27)) f6r28))) := rfl
@[simp] def f6o30 : List IOper := [
  ⟨(some 121), .mv (.t 9), none, none⟩,
  ⟨(some 122), .un .not (.t 121), none, none⟩]
def f6r30 : IC := .reg false [] f6o30 [122, 3, 100, 101, 102]
@[simp] theorem f6r30_run (tbl : TB) (fin : Fin) (K : List Fr) (e : Env) (H : List AO) : run tbl fin K f6r30 e H = regK tbl fin K [] f6o30 [122, 3, 100, 101, 102] e H := run_regK tbl fin K false [] f6o30 [122, 3, 100, 101, 102] e H rfl
@[simp] def f6o31 : List IOper := [
  ⟨(some 2), .mv (.c (.bool false)), none, none⟩]
def f6r31 : IC := .reg false [] f6o31 [2]
@[simp] theorem f6r31_run (tbl : TB) (fin : Fin) (K : List Fr) (e : Env) (H : List AO) : run tbl fin K f6r31 e H = regK tbl fin K [] f6o31 [2] e H := run_regK tbl fin K false [] f6o31 [2] e H rfl
@[simp] def f6o32 : List IOper := [
  ⟨(some 123), .bin .add (.t 102) (.c (.int .i64 1)), none, none⟩,
  ⟨(some 102), .mv (.t 123), none, none⟩]
def f6r32 : IC := .reg false [] f6o32 [102, 101, 100, 3]
@[simp] theorem f6r32_run (tbl : TB) (fin : Fin) (K : List Fr) (e : Env) (H : List AO) : run tbl fin K f6r32 e H = regK tbl fin K [] f6o32 [102, 101, 100, 3] e H := run_regK tbl fin K false [] f6o32 [102, 101, 100, 3] e H rfl
def f6b33 : IC := (.seq f6r21 (.seq (.cond (.t 103) .skip (.exit 4)) (.seq (.block 5 (.seq f6r22 (.seq f6r23 (.seq (.seq f6r24 (.block 6 (.loop [9, 108, 107, 102, 101, 100, 3, 106, 8] f6b29))) (.seq f6r30 (.cond (.t 122) (.seq f6r31 .ret) .skip)))))) f6r32)))
theorem f6b33_eq : f6b33 = (.seq f6r21 (.seq (.cond (.t 103) .skip (.exit 4)) (.seq (.block 5 (.seq f6r22 (.seq f6r23 (.seq (.seq f6r24 (.block 6 (.loop [9, 108, 107, 102, 101, 100, 3, 106, 8] f6b29))) (.seq f6r30 (.cond (.t 122) (.seq f6r31 .ret) .skip)))))) f6r32))) := rfl
@[simp] def f6o34 : List IOper := [
  ⟨(some 124), .call (.c (.fn 7 [])) [], none, none⟩,
  ⟨(some 2), .mv (.t 124), none, none⟩]
def f6r34 : IC := .reg false [] f6o34 [2]
@[simp] theorem f6r34_run (tbl : TB) (fin : Fin) (K : List Fr) (e : Env) (H : List AO) : run tbl fin K f6r34 e H = regK tbl fin K [] f6o34 [2] e H := run_regK tbl fin K false [] f6o34 [2] e H rfl
def f6body : IC := (.seq f6r0 (.seq (.seq f6r1 (.cond (.t 14) (.seq f6r2 .ret) .skip)) (.seq f6r3 (.seq (.seq f6r4 (.cond (.t 42) (.seq f6r5 .ret) .skip)) (.seq (.seq f6r6 (.block 0 (.loop [3, 45, 44, 0, 4] f6b19))) (.seq (.seq f6r20 (.block 4 (.loop [102, 101, 100, 3] f6b33))) (.seq f6r34 .ret)))))))
def f6 : IFn := ⟨125, 1, [.tmp 2], f6body⟩
/- 7: jobshell/jobshelllaw35.exampleHolds -/
@[simp] def f7o0 : List IOper := [
  ⟨(some 0), .mv (.c (.bool false)), none, none⟩]
def f7r0 : IC := .reg false [] f7o0 []
@[simp] theorem f7r0_run (tbl : TB) (fin : Fin) (K : List Fr) (e : Env) (H : List AO) : run tbl fin K f7r0 e H = regK tbl fin K [] f7o0 [] e H := run_regK tbl fin K false [] f7o0 [] e H rfl
@[simp] def f7o1 : List IOper := [
  ⟨(some 13), .build [(.int .i64 0), (.int .i64 0), (.int .i64 0), (.int .i64 0), .e0] [(1, 1, (.c (.int .i64 1))), (2, 1, (.c (.int .i64 2)))], none, none⟩,
  ⟨(some 14), .build [(.int .i64 0), (.int .i64 0), (.int .i64 0), (.int .i64 0), .e0] [(1, 1, (.c (.int .i64 2))), (2, 1, (.c (.int .i64 5)))], none, none⟩,
  ⟨(some 15), .build [(.int .i64 0), (.int .i64 0), (.int .i64 0), (.int .i64 0), .e0] [(1, 1, (.c (.int .i64 1))), (2, 1, (.c (.int .i64 5)))], none, none⟩,
  ⟨(some 16), .mkimm 5 3 (.agg [(.int .i64 0), (.int .i64 0), (.int .i64 0), (.int .i64 0), .e0]) [(0, (.t 13)), (1, (.t 14)), (2, (.t 15))], none, none⟩,
  ⟨(some 17), .mkimm 1 3 (.str []) [(0, (.c (.str [102]))), (1, (.c (.str [49]))), (2, (.c (.str [45])))], none, none⟩,
  ⟨(some 18), .call (.c (.fn 8 [])) [(.t 16), (.t 17), (.c (.int .i64 0))], none, none⟩,
  ⟨(some 12), .mv (.t 18), none, none⟩,
  ⟨(some 19), .ext (.t 12) 0, none, none⟩,
  ⟨(some 20), .ext (.t 12) 1, none, none⟩,
  ⟨(some 1), .mv (.t 19), none, none⟩,
  ⟨(some 2), .mv (.t 20), none, none⟩]
def f7r1 : IC := .reg false [] f7o1 [2, 1]
@[simp] theorem f7r1_run (tbl : TB) (fin : Fin) (K : List Fr) (e : Env) (H : List AO) : run tbl fin K f7r1 e H = regK tbl fin K [] f7o1 [2, 1] e H := run_regK tbl fin K false [] f7o1 [2, 1] e H rfl
@[simp] def f7o2 : List IOper := [
  ⟨(some 22), .build [(.int .i64 0), (.int .i64 0), (.int .i64 0), (.int .i64 0), .e0] [(1, 1, (.c (.int .i64 1))), (2, 1, (.c (.int .i64 2)))], none, none⟩,
  ⟨(some 23), .mkimm 5 1 (.agg [(.int .i64 0), (.int .i64 0), (.int .i64 0), (.int .i64 0), .e0]) [(0, (.t 22))], none, none⟩,
  ⟨(some 24), .mkimm 1 1 (.str []) [(0, (.c (.str [102])))], none, none⟩,
  ⟨(some 25), .call (.c (.fn 8 [])) [(.t 23), (.t 24), (.c (.int .i64 128))], none, none⟩,
  ⟨(some 21), .mv (.t 25), none, none⟩,
  ⟨(some 26), .ext (.t 21) 0, none, none⟩,
  ⟨(some 27), .ext (.t 21) 1, none, none⟩,
  ⟨(some 3), .mv (.t 26), none, none⟩,
  ⟨(some 4), .mv (.t 27), none, none⟩]
def f7r2 : IC := .reg false [] f7o2 [2, 4, 1, 3]
@[simp] theorem f7r2_run (tbl : TB) (fin : Fin) (K : List Fr) (e : Env) (H : List AO) : run tbl fin K f7r2 e H = regK tbl fin K [] f7o2 [2, 4, 1, 3] e H := run_regK tbl fin K false [] f7o2 [2, 4, 1, 3] e H rfl
@[simp] def f7o3 : List IOper := [
  ⟨(some 29), .build [(.int .i64 0), (.int .i64 0), (.int .i64 0), (.int .i64 0), .e0] [(1, 1, (.c (.int .i64 1))), (2, 1, (.c (.int .i64 5)))], none, none⟩,
  ⟨(some 30), .mkimm 5 1 (.agg [(.int .i64 0), (.int .i64 0), (.int .i64 0), (.int .i64 0), .e0]) [(0, (.t 29))], none, none⟩,
  ⟨(some 31), .mkimm 1 1 (.str []) [(0, (.c (.str [120])))], none, none⟩,
  ⟨(some 32), .call (.c (.fn 8 [])) [(.t 30), (.t 31), (.c (.int .i64 0))], none, none⟩,
  ⟨(some 28), .mv (.t 32), none, none⟩,
  ⟨(some 33), .ext (.t 28) 0, none, none⟩,
  ⟨(some 34), .ext (.t 28) 1, none, none⟩,
  ⟨(some 5), .mv (.t 33), none, none⟩,
  ⟨(some 6), .mv (.t 34), none, none⟩]
def f7r3 : IC := .reg false [] f7o3 [2, 4, 6, 1, 3]
@[simp] theorem f7r3_run (tbl : TB) (fin : Fin) (K : List Fr) (e : Env) (H : List AO) : run tbl fin K f7r3 e H = regK tbl fin K [] f7o3 [2, 4, 6, 1, 3] e H := run_regK tbl fin K false [] f7o3 [2, 4, 6, 1, 3] e H rfl
@[simp] def f7o4 : List IOper := [
  ⟨(some 36), .mv (.t 1), none, none⟩,
  ⟨(some 37), .call (.c (.fn 11 [])) [(.t 36)], none, none⟩,
  ⟨(some 35), .mv (.t 37), none, none⟩,
  ⟨(some 38), .ext (.t 35) 0, none, none⟩,
  ⟨(some 39), .ext (.t 35) 1, none, none⟩,
  ⟨(some 7), .mv (.t 38), none, none⟩,
  ⟨(some 8), .mv (.t 39), none, none⟩]
def f7r4 : IC := .reg false [] f7o4 [2, 4, 6, 1, 3, 7, 8]
@[simp] theorem f7r4_run (tbl : TB) (fin : Fin) (K : List Fr) (e : Env) (H : List AO) : run tbl fin K f7r4 e H = regK tbl fin K [] f7o4 [2, 4, 6, 1, 3, 7, 8] e H := run_regK tbl fin K false [] f7o4 [2, 4, 6, 1, 3, 7, 8] e H rfl
@[simp] def f7o5 : List IOper := [
  ⟨(some 41), .build [(.int .i64 0), (.int .i64 0), (.int .i64 0), (.int .i64 0), (.str []), (.str [])] [(0, 1, (.c (.int .i64 2))), (1, 1, (.c (.int .i64 2))), (2, 1, (.c (.int .i64 1)))], none, none⟩,
  ⟨(some 42), .call (.c (.fn 13 [])) [(.t 41)], none, none⟩,
  ⟨(some 40), .mv (.t 42), none, none⟩,
  ⟨(some 43), .ext (.t 40) 0, none, none⟩,
  ⟨(some 44), .ext (.t 40) 1, none, none⟩,
  ⟨(some 9), .new 39 12 (.agg [(.int .i64 0), (.int .i64 0), (.int .i64 0), (.int .i64 0), (.int .i64 0), (.int .i64 0), (.int .i64 0), (.int .i64 0), (.str []), (.str []), .e0, .e0]), none, none⟩,
  ⟨none, .store 12 (.t 9) (.t 43), none, none⟩,
  ⟨(some 10), .mv (.t 44), none, none⟩]
def f7r5 : IC := .reg false [] f7o5 [2, 4, 6, 1, 3, 7, 8, 10, 9]
@[simp] theorem f7r5_run (tbl : TB) (fin : Fin) (K : List Fr) (e : Env) (H : List AO) : run tbl fin K f7r5 e H = regK tbl fin K [] f7o5 [2, 4, 6, 1, 3, 7, 8, 10, 9] e H := run_regK tbl fin K false [] f7o5 [2, 4, 6, 1, 3, 7, 8, 10, 9] e H rfl
@[simp] def f7o6 : List IOper := [
  ⟨(some 45), .build [(.int .i64 0), (.int .i64 0), (.int .i64 0), (.int .i64 0), (.str []), (.str [])] [(0, 1, (.c (.int .i64 1))), (1, 1, (.c (.int .i64 1))), (3, 1, (.c (.int .i64 26))), (4, 1, (.c (.str [102])))], none, none⟩,
  ⟨(some 46), .build [(.int .i64 0), (.int .i64 0), (.int .i64 0), (.int .i64 0), (.str []), (.str [])] [(0, 1, (.c (.int .i64 2))), (1, 1, (.c (.int .i64 2))), (2, 1, (.c (.int .i64 1)))], none, none⟩,
  ⟨(some 47), .build [(.int .i64 0), (.int .i64 0), (.int .i64 0), (.int .i64 0), (.str []), (.str [])] [(0, 1, (.c (.int .i64 3))), (1, 1, (.c (.int .i64 1)))], none, none⟩,
  ⟨(some 48), .mkrow 37 6 3 (.agg [(.int .i64 0), (.int .i64 0), (.int .i64 0), (.int .i64 0), (.str []), (.str [])]) [(0, (.t 45)), (1, (.t 46)), (2, (.t 47))], none, none⟩,
  ⟨(some 11), .mv (.t 48), none, none⟩]
def f7r6 : IC := .reg false [] f7o6 [2, 4, 6, 1, 11, 3, 7, 8, 10, 9]
@[simp] theorem f7r6_run (tbl : TB) (fin : Fin) (K : List Fr) (e : Env) (H : List AO) : run tbl fin K f7r6 e H = regK tbl fin K [] f7o6 [2, 4, 6, 1, 11, 3, 7, 8, 10, 9] e H := run_regK tbl fin K false [] f7o6 [2, 4, 6, 1, 11, 3, 7, 8, 10, 9] e H rfl
@[simp] def f7o7 : List IOper := [
  ⟨(some 49), .mv (.t 2), none, none⟩,
  ⟨(some 50), .bin .eql (.t 49) (.c (.int .i64 0)), none, none⟩,
  ⟨(some 51), .mv (.t 50), none, none⟩,
  ⟨(some 52), .mv (.t 4), (some (51, true)), none⟩,
  ⟨(some 53), .bin .eql (.t 52) (.c (.int .i64 0)), (some (51, true)), none⟩,
  ⟨(some 54), .pick (.t 51) (.t 53) (.c (.bool false)), none, none⟩,
  ⟨(some 55), .mv (.t 54), none, none⟩,
  ⟨(some 56), .mv (.t 6), (some (55, true)), some [56, 55, 1, 11, 3, 7, 8, 10, 9]⟩,
  ⟨(some 57), .bin .eql (.t 56) (.c (.int .i64 26)), (some (55, true)), none⟩,
  ⟨(some 58), .pick (.t 55) (.t 57) (.c (.bool false)), none, none⟩,
  ⟨(some 59), .mv (.t 58), none, none⟩,
  ⟨(some 60), .mv (.t 1), (some (59, true)), none⟩,
  ⟨(some 61), .mv (.t 11), (some (59, true)), none⟩,
  ⟨(some 62), .call (.c (.fn 10 [])) [(.t 60), (.t 61)], (some (59, true)), none⟩,
  ⟨(some 63), .pick (.t 59) (.t 62) (.c (.bool false)), none, none⟩,
  ⟨(some 64), .mv (.t 63), none, some [64, 3, 7, 8, 10, 9]⟩,
  ⟨(some 65), .mv (.t 3), (some (64, true)), none⟩,
  ⟨(some 66), .len (.t 65), (some (64, true)), none⟩,
  ⟨(some 67), .bin .eql (.t 66) (.c (.int .i64 1)), (some (64, true)), none⟩,
  ⟨(some 68), .pick (.t 64) (.t 67) (.c (.bool false)), none, none⟩,
  ⟨(some 69), .mv (.t 68), none, none⟩,
  ⟨(some 70), .mv (.t 3), (some (69, true)), none⟩,
  ⟨(some 71), .idx 6 (.t 70) (.c (.int .i64 0)), (some (69, true)), none⟩,
  ⟨(some 72), .fld 3 (.t 71), (some (69, true)), some [72, 69, 7, 8, 10, 9]⟩,
  ⟨(some 73), .load false 1 (.t 72), (some (69, true)), none⟩,
  ⟨(some 74), .bin .eql (.t 73) (.c (.int .i64 42)), (some (69, true)), none⟩,
  ⟨(some 75), .pick (.t 69) (.t 74) (.c (.bool false)), none, none⟩,
  ⟨(some 76), .mv (.t 75), none, none⟩,
  ⟨(some 77), .mv (.t 7), (some (76, true)), none⟩,
  ⟨(some 78), .build [(.int .i64 0), (.int .i64 0), (.int .i64 0), (.int .i64 0), (.str []), (.str [])] [(0, 1, (.c (.int .i64 5))), (1, 1, (.c (.int .i64 1))), (2, 1, (.c (.int .i64 10)))], (some (76, true)), none⟩,
  ⟨(some 79), .build [(.int .i64 0), (.int .i64 0), (.int .i64 0), (.int .i64 0), (.str []), (.str [])] [(0, 1, (.c (.int .i64 5))), (1, 1, (.c (.int .i64 2))), (2, 1, (.c (.int .i64 10)))], (some (76, true)), none⟩,
  ⟨(some 80), .mkimm 6 2 (.agg [(.int .i64 0), (.int .i64 0), (.int .i64 0), (.int .i64 0), (.str []), (.str [])]) [(0, (.t 78)), (1, (.t 79))], (some (76, true)), some [80, 77, 76, 8, 10, 9]⟩,
  ⟨(some 81), .call (.c (.fn 10 [])) [(.t 77), (.t 80)], (some (76, true)), none⟩,
  ⟨(some 82), .pick (.t 76) (.t 81) (.c (.bool false)), none, none⟩,
  ⟨(some 83), .mv (.t 82), none, none⟩,
  ⟨(some 84), .mv (.t 8), (some (83, true)), none⟩,
  ⟨(some 85), .build [(.int .i64 0), (.int .i64 0), (.int .i64 0), (.int .i64 0), (.str []), (.str [])] [(0, 1, (.c (.int .i64 6))), (1, 1, (.c (.int .i64 2))), (2, 1, (.c (.int .i64 (-1))))], (some (83, true)), none⟩,
  ⟨(some 86), .build [(.int .i64 0), (.int .i64 0), (.int .i64 0), (.int .i64 0), (.str []), (.str [])] [(0, 1, (.c (.int .i64 6))), (1, 1, (.c (.int .i64 1))), (2, 1, (.c (.int .i64 (-1))))], (some (83, true)), none⟩,
  ⟨(some 87), .mkimm 6 2 (.agg [(.int .i64 0), (.int .i64 0), (.int .i64 0), (.int .i64 0), (.str []), (.str [])]) [(0, (.t 85)), (1, (.t 86))], (some (83, true)), none⟩,
  ⟨(some 88), .call (.c (.fn 10 [])) [(.t 84), (.t 87)], (some (83, true)), some [88, 83, 10, 9]⟩,
  ⟨(some 89), .pick (.t 83) (.t 88) (.c (.bool false)), none, none⟩,
  ⟨(some 90), .mv (.t 89), none, none⟩,
  ⟨(some 91), .mv (.t 10), (some (90, true)), none⟩,
  ⟨(some 92), .pick (.t 90) (.t 91) (.c (.bool false)), none, none⟩,
  ⟨(some 93), .mv (.t 92), none, none⟩,
  ⟨(some 94), .fld 0 (.t 9), (some (93, true)), none⟩,
  ⟨(some 95), .load false 1 (.t 94), (some (93, true)), none⟩,
  ⟨(some 96), .bin .eql (.t 95) (.c (.int .i64 5)), (some (93, true)), some [96, 93, 9]⟩,
  ⟨(some 97), .pick (.t 93) (.t 96) (.c (.bool false)), none, none⟩,
  ⟨(some 98), .mv (.t 97), none, none⟩,
  ⟨(some 99), .fld 1 (.t 9), (some (98, true)), none⟩,
  ⟨(some 100), .load false 1 (.t 99), (some (98, true)), none⟩,
  ⟨(some 101), .bin .eql (.t 100) (.c (.int .i64 1)), (some (98, true)), none⟩,
  ⟨(some 102), .pick (.t 98) (.t 101) (.c (.bool false)), none, none⟩,
  ⟨(some 103), .mv (.t 102), none, none⟩,
  ⟨(some 104), .fld 2 (.t 9), (some (103, true)), some [104, 103]⟩,
  ⟨(some 105), .load false 1 (.t 104), (some (103, true)), none⟩,
  ⟨(some 106), .bin .eql (.t 105) (.c (.int .i64 2)), (some (103, true)), none⟩,
  ⟨(some 107), .pick (.t 103) (.t 106) (.c (.bool false)), none, none⟩,
  ⟨(some 0), .mv (.t 107), none, none⟩]
def f7r7 : IC := .reg false [] f7o7 [0]
@[simp] theorem f7r7_run (tbl : TB) (fin : Fin) (K : List Fr) (e : Env) (H : List AO) : run tbl fin K f7r7 e H = regK tbl fin K [] f7o7 [0] e H := run_regK tbl fin K false [] f7o7 [0] e H rfl
def f7body : IC := (.seq f7r0 (.seq f7r1 (.seq f7r2 (.seq f7r3 (.seq f7r4 (.seq f7r5 (.seq f7r6 (.seq f7r7 .ret))))))))
def f7 : IFn := ⟨108, 0, [.tmp 0], f7body⟩
/- 8: jobshell/redirect.Plan -/
@[simp] def f8o0 : List IOper := [
  ⟨(some 6), .nilrow 37 6, none, none⟩,
  ⟨(some 7), .mv (.c (.int .i64 0)), none, none⟩]
def f8r0 : IC := .reg false [] f8o0 [1, 2, 0]
@[simp] theorem f8r0_run (tbl : TB) (fin : Fin) (K : List Fr) (e : Env) (H : List AO) : run tbl fin K f8r0 e H = regK tbl fin K [] f8o0 [1, 2, 0] e H := run_regK tbl fin K false [] f8o0 [1, 2, 0] e H rfl
@[simp] def f8o1 : List IOper := [
  ⟨(some 13), .mv (.t 0), none, none⟩,
  ⟨(some 14), .len (.t 13), none, none⟩,
  ⟨(some 15), .mv (.t 1), none, none⟩,
  ⟨(some 16), .len (.t 15), none, none⟩,
  ⟨(some 17), .bin .neq (.t 14) (.t 16), none, none⟩]
def f8r1 : IC := .reg false [] f8o1 [17, 1, 2, 0]
@[simp] theorem f8r1_run (tbl : TB) (fin : Fin) (K : List Fr) (e : Env) (H : List AO) : run tbl fin K f8r1 e H = regK tbl fin K [] f8o1 [17, 1, 2, 0] e H := run_regK tbl fin K false [] f8o1 [17, 1, 2, 0] e H rfl
@[simp] def f8o2 : List IOper := [
  ⟨(some 6), .nilrow 37 6, none, none⟩,
  ⟨(some 7), .mv (.c (.int .i64 1)), none, none⟩]
def f8r2 : IC := .reg false [] f8o2 [6, 7]
@[simp] theorem f8r2_run (tbl : TB) (fin : Fin) (K : List Fr) (e : Env) (H : List AO) : run tbl fin K f8r2 e H = regK tbl fin K [] f8o2 [6, 7] e H := run_regK tbl fin K false [] f8o2 [6, 7] e H rfl
@[simp] def f8o3 : List IOper := [
  ⟨(some 8), .nilrow 37 6, none, none⟩]
def f8r3 : IC := .reg false [] f8o3 [0, 8, 2, 1]
@[simp] theorem f8r3_run (tbl : TB) (fin : Fin) (K : List Fr) (e : Env) (H : List AO) : run tbl fin K f8r3 e H = regK tbl fin K [] f8o3 [0, 8, 2, 1] e H := run_regK tbl fin K false [] f8o3 [0, 8, 2, 1] e H rfl
@[simp] def f8o4 : List IOper := [
  ⟨(some 18), .mv (.t 0), none, none⟩,
  ⟨(some 19), .len (.t 18), none, none⟩,
  ⟨(some 20), .mv (.c (.int .i64 0)), none, none⟩]
def f8r4 : IC := .reg false [] f8o4 [8, 20, 19, 18, 2, 1]
@[simp] theorem f8r4_run (tbl : TB) (fin : Fin) (K : List Fr) (e : Env) (H : List AO) : run tbl fin K f8r4 e H = regK tbl fin K [] f8o4 [8, 20, 19, 18, 2, 1] e H := run_regK tbl fin K false [] f8o4 [8, 20, 19, 18, 2, 1] e H rfl
@[simp] def f8o5 : List IOper := [
  ⟨(some 21), .bin .lss (.t 20) (.t 19), none, none⟩]
def f8r5 : IC := .reg false [] f8o5 [21, 8, 20, 19, 18, 2, 1]
@[simp] theorem f8r5_run (tbl : TB) (fin : Fin) (K : List Fr) (e : Env) (H : List AO) : run tbl fin K f8r5 e H = regK tbl fin K [] f8o5 [21, 8, 20, 19, 18, 2, 1] e H := run_regK tbl fin K false [] f8o5 [21, 8, 20, 19, 18, 2, 1] e H rfl
@[simp] def f8o6 : List IOper := [
  ⟨(some 22), .mv (.t 20), none, none⟩,
  ⟨(some 23), .idx 5 (.t 18) (.t 20), none, none⟩,
  ⟨(some 24), .load true 5 (.t 23), none, none⟩,
  ⟨(some 10), .new 48 5 (.agg [(.int .i64 0), (.int .i64 0), (.int .i64 0), (.int .i64 0), .e0]), none, none⟩,
  ⟨(some 9), .mv (.t 22), none, none⟩,
  ⟨none, .store 5 (.t 10) (.t 24), none, none⟩]
def f8r6 : IC := .reg false [] f8o6 [10, 8, 20, 19, 18, 2, 1, 9]
@[simp] theorem f8r6_run (tbl : TB) (fin : Fin) (K : List Fr) (e : Env) (H : List AO) : run tbl fin K f8r6 e H = regK tbl fin K [] f8o6 [10, 8, 20, 19, 18, 2, 1, 9] e H := run_regK tbl fin K false [] f8o6 [10, 8, 20, 19, 18, 2, 1, 9] e H rfl
@[simp] def f8o7 : List IOper := [
  ⟨(some 25), .fld 1 (.t 10), none, none⟩,
  ⟨(some 26), .load false 1 (.t 25), none, none⟩,
  ⟨(some 27), .bin .lss (.t 26) (.c (.int .i64 0)), none, none⟩,
  ⟨(some 28), .mv (.t 27), none, none⟩,
  ⟨(some 29), .fld 1 (.t 10), (some (28, false)), none⟩,
  ⟨(some 30), .load false 1 (.t 29), (some (28, false)), none⟩,
  ⟨(some 31), .bin .gtr (.t 30) (.c (.int .i64 9)), (some (28, false)), none⟩,
  ⟨(some 32), .pick (.t 28) (.c (.bool true)) (.t 31), none, none⟩]
def f8r7 : IC := .reg false [] f8o7 [32, 10, 8, 20, 19, 18, 2, 1, 9]
@[simp] theorem f8r7_run (tbl : TB) (fin : Fin) (K : List Fr) (e : Env) (H : List AO) : run tbl fin K f8r7 e H = regK tbl fin K [] f8o7 [32, 10, 8, 20, 19, 18, 2, 1, 9] e H := run_regK tbl fin K false [] f8o7 [32, 10, 8, 20, 19, 18, 2, 1, 9] e H rfl
@[simp] def f8o8 : List IOper := [
  ⟨(some 6), .nilrow 37 6, none, none⟩,
  ⟨(some 7), .mv (.c (.int .i64 2)), none, none⟩]
def f8r8 : IC := .reg false [] f8o8 [6, 7]
@[simp] theorem f8r8_run (tbl : TB) (fin : Fin) (K : List Fr) (e : Env) (H : List AO) : run tbl fin K f8r8 e H = regK tbl fin K [] f8o8 [6, 7] e H := run_regK tbl fin K false [] f8o8 [6, 7] e H rfl
@[simp] def f8o9 : List IOper := [
  ⟨(some 34), .fld 2 (.t 10), none, none⟩,
  ⟨(some 35), .load false 1 (.t 34), none, none⟩,
  ⟨(some 36), .mv (.t 1), none, none⟩,
  ⟨(some 37), .mv (.t 9), none, none⟩,
  ⟨(some 38), .idx 1 (.t 36) (.t 37), none, none⟩,
  ⟨(some 39), .load false 1 (.t 38), none, none⟩,
  ⟨(some 40), .mv (.t 2), none, none⟩,
  ⟨(some 41), .call (.c (.fn 16 [])) [(.t 35), (.t 39), (.t 40)], none, none⟩,
  ⟨(some 33), .mv (.t 41), none, none⟩,
  ⟨(some 42), .ext (.t 33) 0, none, none⟩,
  ⟨(some 43), .ext (.t 33) 1, none, none⟩,
  ⟨(some 11), .newAt 11 37 6 (.agg [(.int .i64 0), (.int .i64 0), (.int .i64 0), (.int .i64 0), (.str []), (.str [])]), none, none⟩,
  ⟨none, .store 6 (.t 11) (.t 42), none, none⟩,
  ⟨(some 12), .mv (.t 43), none, none⟩]
def f8r9 : IC := .reg true [11] f8o9 [1, 2, 18, 19, 20, 11, 8, 10, 12]
@[simp] theorem f8r9_run (tbl : TB) (fin : Fin) (K : List Fr) (e : Env) (H : List AO) : run tbl fin K f8r9 e H = regK tbl fin K [11] f8o9 [1, 2, 18, 19, 20, 11, 8, 10, 12] e H := run_regK tbl fin K true [11] f8o9 [1, 2, 18, 19, 20, 11, 8, 10, 12] e H rfl
@[simp] def f8o10 : List IOper := [
  ⟨(some 44), .mv (.t 12), none, none⟩,
  ⟨(some 45), .bin .neq (.t 44) (.c (.int .i64 0)), none, none⟩]
def f8r10 : IC := .reg false [] f8o10 [45, 1, 2, 18, 19, 20, 11, 8, 10, 12]
@[simp] theorem f8r10_run (tbl : TB) (fin : Fin) (K : List Fr) (e : Env) (H : List AO) : run tbl fin K f8r10 e H = regK tbl fin K [] f8o10 [45, 1, 2, 18, 19, 20, 11, 8, 10, 12] e H := run_regK tbl fin K false [] f8o10 [45, 1, 2, 18, 19, 20, 11, 8, 10, 12] e H rfl
@[simp] def f8o11 : List IOper := [
  ⟨(some 46), .mv (.t 12), none, none⟩,
  ⟨(some 6), .nilrow 37 6, none, none⟩,
  ⟨(some 7), .mv (.t 46), none, none⟩]
def f8r11 : IC := .reg false [] f8o11 [6, 7]
@[simp] theorem f8r11_run (tbl : TB) (fin : Fin) (K : List Fr) (e : Env) (H : List AO) : run tbl fin K f8r11 e H = regK tbl fin K [] f8o11 [6, 7] e H := run_regK tbl fin K false [] f8o11 [6, 7] e H rfl
@[simp] def f8o12 : List IOper := [
  ⟨(some 47), .fld 1 (.t 10), none, none⟩,
  ⟨(some 48), .load false 1 (.t 47), none, none⟩,
  ⟨(some 49), .fld 1 (.t 11), none, none⟩,
  ⟨none, .store 1 (.t 49) (.t 48), none, none⟩]
def f8r12 : IC := .reg false [] f8o12 [8, 11, 20, 19, 18, 2, 1]
@[simp] theorem f8r12_run (tbl : TB) (fin : Fin) (K : List Fr) (e : Env) (H : List AO) : run tbl fin K f8r12 e H = regK tbl fin K [] f8o12 [8, 11, 20, 19, 18, 2, 1] e H := run_regK tbl fin K false [] f8o12 [8, 11, 20, 19, 18, 2, 1] e H rfl
@[simp] def f8o13 : List IOper := [
  ⟨(some 50), .mv (.t 8), none, none⟩,
  ⟨(some 51), .load true 6 (.t 11), none, none⟩,
  ⟨(some 52), .mkimm 6 1 (.agg [(.int .i64 0), (.int .i64 0), (.int .i64 0), (.int .i64 0), (.str []), (.str [])]) [(0, (.t 51))], none, none⟩,
  ⟨(some 53), .app 37 6 (.t 50) (.t 52), none, none⟩,
  ⟨(some 8), .mv (.t 53), none, none⟩]
def f8r13 : IC := .reg false [] f8o13 [20, 8, 19, 18, 2, 1]
@[simp] theorem f8r13_run (tbl : TB) (fin : Fin) (K : List Fr) (e : Env) (H : List AO) : run tbl fin K f8r13 e H = regK tbl fin K [] f8o13 [20, 8, 19, 18, 2, 1] e H := run_regK tbl fin K false [] f8o13 [20, 8, 19, 18, 2, 1] e H rfl
@[simp] def f8o14 : List IOper := [
  ⟨(some 54), .bin .add (.t 20) (.c (.int .i64 1)), none, none⟩,
  ⟨(some 20), .mv (.t 54), none, none⟩]
def f8r14 : IC := .reg false [] f8o14 [8, 20, 19, 18, 2, 1]
@[simp] theorem f8r14_run (tbl : TB) (fin : Fin) (K : List Fr) (e : Env) (H : List AO) : run tbl fin K f8r14 e H = regK tbl fin K [] f8o14 [8, 20, 19, 18, 2, 1] e H := run_regK tbl fin K false [] f8o14 [8, 20, 19, 18, 2, 1] e H rfl
def f8b15 : IC := (.seq f8r5 (.seq (.cond (.t 21) .skip (.exit 0)) (.seq (.block 1 (.seq f8r6 (.seq (.seq f8r7 (.cond (.t 32) (.seq f8r8 .ret) .skip)) (.seq f8r9 (.seq (.seq f8r10 (.cond (.t 45) (.seq f8r11 .ret) .skip)) (.seq f8r12 f8r13)))))) f8r14)))
theorem f8b15_eq : f8b15 = (.seq f8r5 (.seq (.cond (.t 21) .skip (.exit 0)) (.seq (.block 1 (.seq f8r6 (.seq (.seq f8r7 (.cond (.t 32) (.seq f8r8 .ret) .skip)) (.seq f8r9 (.seq (.seq f8r10 (.cond (.t 45) (.seq f8r11 .ret) .skip)) (.seq f8r12 f8r13)))))) f8r14))) := rfl
@[simp] def f8o16 : List IOper := [
  ⟨(some 55), .mv (.t 8), none, none⟩,
  ⟨(some 6), .mv (.t 55), none, none⟩,
  ⟨(some 7), .mv (.c (.int .i64 0)), none, none⟩]
def f8r16 : IC := .reg false [] f8o16 [6, 7]
@[simp] theorem f8r16_run (tbl : TB) (fin : Fin) (K : List Fr) (e : Env) (H : List AO) : run tbl fin K f8r16 e H = regK tbl fin K [] f8o16 [6, 7] e H := run_regK tbl fin K false [] f8o16 [6, 7] e H rfl
def f8body : IC := (.seq f8r0 (.seq (.seq f8r1 (.cond (.t 17) (.seq f8r2 .ret) .skip)) (.seq f8r3 (.seq (.seq f8r4 (.block 0 (.loop [8, 20, 19, 18, 2, 1] f8b15))) (.seq f8r16 .ret)))))
def f8 : IFn := ⟨56, 3, [.tmp 6, .tmp 7], f8body⟩
/- 9: jobshell/jobshellref35.Plan -/
@[simp] def f9o0 : List IOper := [
  ⟨(some 6), .nilrow 37 6, none, none⟩,
  ⟨(some 7), .mv (.c (.int .i64 0)), none, none⟩]
def f9r0 : IC := .reg false [] f9o0 [2, 1, 0]
@[simp] theorem f9r0_run (tbl : TB) (fin : Fin) (K : List Fr) (e : Env) (H : List AO) : run tbl fin K f9r0 e H = regK tbl fin K [] f9o0 [2, 1, 0] e H := run_regK tbl fin K false [] f9o0 [2, 1, 0] e H rfl
@[simp] def f9o1 : List IOper := [
  ⟨(some 12), .mv (.t 0), none, none⟩,
  ⟨(some 13), .len (.t 12), none, none⟩,
  ⟨(some 14), .mv (.t 1), none, none⟩,
  ⟨(some 15), .len (.t 14), none, none⟩,
  ⟨(some 16), .bin .neq (.t 13) (.t 15), none, none⟩]
def f9r1 : IC := .reg false [] f9o1 [16, 2, 1, 0]
@[simp] theorem f9r1_run (tbl : TB) (fin : Fin) (K : List Fr) (e : Env) (H : List AO) : run tbl fin K f9r1 e H = regK tbl fin K [] f9o1 [16, 2, 1, 0] e H := run_regK tbl fin K false [] f9o1 [16, 2, 1, 0] e H rfl
@[simp] def f9o2 : List IOper := [
  ⟨(some 6), .nilrow 37 6, none, none⟩,
  ⟨(some 7), .mv (.c (.int .i64 1)), none, none⟩]
def f9r2 : IC := .reg false [] f9o2 [6, 7]
@[simp] theorem f9r2_run (tbl : TB) (fin : Fin) (K : List Fr) (e : Env) (H : List AO) : run tbl fin K f9r2 e H = regK tbl fin K [] f9o2 [6, 7] e H := run_regK tbl fin K false [] f9o2 [6, 7] e H rfl
@[simp] def f9o3 : List IOper := [
  ⟨(some 8), .nilrow 37 6, none, none⟩]
def f9r3 : IC := .reg false [] f9o3 [0, 1, 2, 8]
@[simp] theorem f9r3_run (tbl : TB) (fin : Fin) (K : List Fr) (e : Env) (H : List AO) : run tbl fin K f9r3 e H = regK tbl fin K [] f9o3 [0, 1, 2, 8] e H := run_regK tbl fin K false [] f9o3 [0, 1, 2, 8] e H rfl
@[simp] def f9o4 : List IOper := [
  ⟨(some 17), .mv (.t 0), none, none⟩,
  ⟨(some 18), .len (.t 17), none, none⟩,
  ⟨(some 19), .mv (.c (.int .i64 0)), none, none⟩]
def f9r4 : IC := .reg false [] f9o4 [18, 0, 1, 2, 19, 8]
@[simp] theorem f9r4_run (tbl : TB) (fin : Fin) (K : List Fr) (e : Env) (H : List AO) : run tbl fin K f9r4 e H = regK tbl fin K [] f9o4 [18, 0, 1, 2, 19, 8] e H := run_regK tbl fin K false [] f9o4 [18, 0, 1, 2, 19, 8] e H rfl
@[simp] def f9o5 : List IOper := [
  ⟨(some 20), .bin .lss (.t 19) (.t 18), none, none⟩]
def f9r5 : IC := .reg false [] f9o5 [20, 2, 1, 0, 18, 19, 8]
@[simp] theorem f9r5_run (tbl : TB) (fin : Fin) (K : List Fr) (e : Env) (H : List AO) : run tbl fin K f9r5 e H = regK tbl fin K [] f9o5 [20, 2, 1, 0, 18, 19, 8] e H := run_regK tbl fin K false [] f9o5 [20, 2, 1, 0, 18, 19, 8] e H rfl
@[simp] def f9o6 : List IOper := [
  ⟨(some 21), .mv (.t 19), none, none⟩,
  ⟨(some 9), .mv (.t 21), none, none⟩]
def f9r6 : IC := .reg false [] f9o6 [9, 2, 1, 0, 18, 19, 8]
@[simp] theorem f9r6_run (tbl : TB) (fin : Fin) (K : List Fr) (e : Env) (H : List AO) : run tbl fin K f9r6 e H = regK tbl fin K [] f9o6 [9, 2, 1, 0, 18, 19, 8] e H := run_regK tbl fin K false [] f9o6 [9, 2, 1, 0, 18, 19, 8] e H rfl
@[simp] def f9o7 : List IOper := [
  ⟨(some 23), .mv (.t 0), none, none⟩,
  ⟨(some 24), .mv (.t 9), none, none⟩,
  ⟨(some 25), .idx 5 (.t 23) (.t 24), none, none⟩,
  ⟨(some 26), .load true 5 (.t 25), none, none⟩,
  ⟨(some 27), .mv (.t 1), none, none⟩,
  ⟨(some 28), .mv (.t 9), none, none⟩,
  ⟨(some 29), .idx 1 (.t 27) (.t 28), none, none⟩,
  ⟨(some 30), .load false 1 (.t 29), none, none⟩,
  ⟨(some 31), .mv (.t 2), none, none⟩,
  ⟨(some 32), .bin .and (.t 31) (.c (.int .i64 128)), none, none⟩,
  ⟨(some 33), .bin .neq (.t 32) (.c (.int .i64 0)), none, none⟩,
  ⟨(some 34), .call (.c (.fn 17 [])) [(.t 26), (.t 30), (.t 33)], none, none⟩,
  ⟨(some 22), .mv (.t 34), none, none⟩,
  ⟨(some 35), .ext (.t 22) 0, none, none⟩,
  ⟨(some 36), .ext (.t 22) 1, none, none⟩,
  ⟨(some 10), .newAt 10 37 6 (.agg [(.int .i64 0), (.int .i64 0), (.int .i64 0), (.int .i64 0), (.str []), (.str [])]), none, none⟩,
  ⟨none, .store 6 (.t 10) (.t 35), none, none⟩,
  ⟨(some 11), .mv (.t 36), none, none⟩]
def f9r7 : IC := .reg true [10] f9o7 [2, 1, 0, 18, 19, 10, 8, 11]
@[simp] theorem f9r7_run (tbl : TB) (fin : Fin) (K : List Fr) (e : Env) (H : List AO) : run tbl fin K f9r7 e H = regK tbl fin K [10] f9o7 [2, 1, 0, 18, 19, 10, 8, 11] e H := run_regK tbl fin K true [10] f9o7 [2, 1, 0, 18, 19, 10, 8, 11] e H rfl
@[simp] def f9o8 : List IOper := [
  ⟨(some 37), .mv (.t 11), none, none⟩,
  ⟨(some 38), .bin .neq (.t 37) (.c (.int .i64 0)), none, none⟩]
def f9r8 : IC := .reg false [] f9o8 [38, 2, 1, 0, 18, 19, 10, 8, 11]
@[simp] theorem f9r8_run (tbl : TB) (fin : Fin) (K : List Fr) (e : Env) (H : List AO) : run tbl fin K f9r8 e H = regK tbl fin K [] f9o8 [38, 2, 1, 0, 18, 19, 10, 8, 11] e H := run_regK tbl fin K false [] f9o8 [38, 2, 1, 0, 18, 19, 10, 8, 11] e H rfl
@[simp] def f9o9 : List IOper := [
  ⟨(some 39), .mv (.t 11), none, none⟩,
  ⟨(some 6), .nilrow 37 6, none, none⟩,
  ⟨(some 7), .mv (.t 39), none, none⟩]
def f9r9 : IC := .reg false [] f9o9 [6, 7]
@[simp] theorem f9r9_run (tbl : TB) (fin : Fin) (K : List Fr) (e : Env) (H : List AO) : run tbl fin K f9r9 e H = regK tbl fin K [] f9o9 [6, 7] e H := run_regK tbl fin K false [] f9o9 [6, 7] e H rfl
@[simp] def f9o10 : List IOper := [
  ⟨(some 40), .mv (.t 8), none, none⟩,
  ⟨(some 41), .load true 6 (.t 10), none, none⟩,
  ⟨(some 42), .mkimm 6 1 (.agg [(.int .i64 0), (.int .i64 0), (.int .i64 0), (.int .i64 0), (.str []), (.str [])]) [(0, (.t 41))], none, none⟩,
  ⟨(some 43), .app 37 6 (.t 40) (.t 42), none, none⟩,
  ⟨(some 8), .mv (.t 43), none, none⟩]
def f9r10 : IC := .reg false [] f9o10 [19, 18, 0, 1, 2, 8]
@[simp] theorem f9r10_run (tbl : TB) (fin : Fin) (K : List Fr) (e : Env) (H : List AO) : run tbl fin K f9r10 e H = regK tbl fin K [] f9o10 [19, 18, 0, 1, 2, 8] e H := run_regK tbl fin K false [] f9o10 [19, 18, 0, 1, 2, 8] e H rfl
@[simp] def f9o11 : List IOper := [
  ⟨(some 44), .bin .add (.t 19) (.c (.int .i64 1)), none, none⟩,
  ⟨(some 19), .mv (.t 44), none, none⟩]
def f9r11 : IC := .reg false [] f9o11 [18, 0, 1, 2, 19, 8]
@[simp] theorem f9r11_run (tbl : TB) (fin : Fin) (K : List Fr) (e : Env) (H : List AO) : run tbl fin K f9r11 e H = regK tbl fin K [] f9o11 [18, 0, 1, 2, 19, 8] e H := run_regK tbl fin K false [] f9o11 [18, 0, 1, 2, 19, 8] e H rfl
def f9b12 : IC := (.seq f9r5 (.seq (.cond (.t 20) .skip (.exit 0)) (.seq (.block 1 (.seq f9r6 (.seq f9r7 (.seq (.seq f9r8 (.cond (.t 38) (.seq f9r9 .ret) .skip)) f9r10)))) f9r11)))
theorem f9b12_eq : f9b12 = (.seq f9r5 (.seq (.cond (.t 20) .skip (.exit 0)) (.seq (.block 1 (.seq f9r6 (.seq f9r7 (.seq (.seq f9r8 (.cond (.t 38) (.seq f9r9 .ret) .skip)) f9r10)))) f9r11))) := rfl
@[simp] def f9o13 : List IOper := [
  ⟨(some 45), .mv (.t 8), none, none⟩,
  ⟨(some 6), .mv (.t 45), none, none⟩,
  ⟨(some 7), .mv (.c (.int .i64 0)), none, none⟩]
def f9r13 : IC := .reg false [] f9o13 [6, 7]
@[simp] theorem f9r13_run (tbl : TB) (fin : Fin) (K : List Fr) (e : Env) (H : List AO) : run tbl fin K f9r13 e H = regK tbl fin K [] f9o13 [6, 7] e H := run_regK tbl fin K false [] f9o13 [6, 7] e H rfl
def f9body : IC := (.seq f9r0 (.seq (.seq f9r1 (.cond (.t 16) (.seq f9r2 .ret) .skip)) (.seq f9r3 (.seq (.seq f9r4 (.block 0 (.loop [18, 0, 1, 2, 19, 8] f9b12))) (.seq f9r13 .ret)))))
def f9 : IFn := ⟨46, 3, [.tmp 6, .tmp 7], f9body⟩
/- 10: jobshell/jobshellref35.Same -/
@[simp] def f10o0 : List IOper := [
  ⟨(some 4), .mv (.c (.bool false)), none, none⟩]
def f10r0 : IC := .reg false [] f10o0 [1, 0]
@[simp] theorem f10r0_run (tbl : TB) (fin : Fin) (K : List Fr) (e : Env) (H : List AO) : run tbl fin K f10r0 e H = regK tbl fin K [] f10o0 [1, 0] e H := run_regK tbl fin K false [] f10o0 [1, 0] e H rfl
@[simp] def f10o1 : List IOper := [
  ⟨(some 6), .mv (.t 0), none, none⟩,
  ⟨(some 7), .len (.t 6), none, none⟩,
  ⟨(some 8), .mv (.t 1), none, none⟩,
  ⟨(some 9), .len (.t 8), none, none⟩,
  ⟨(some 10), .bin .neq (.t 7) (.t 9), none, none⟩]
def f10r1 : IC := .reg false [] f10o1 [10, 1, 0]
@[simp] theorem f10r1_run (tbl : TB) (fin : Fin) (K : List Fr) (e : Env) (H : List AO) : run tbl fin K f10r1 e H = regK tbl fin K [] f10o1 [10, 1, 0] e H := run_regK tbl fin K false [] f10o1 [10, 1, 0] e H rfl
@[simp] def f10o2 : List IOper := [
  ⟨(some 4), .mv (.c (.bool false)), none, none⟩]
def f10r2 : IC := .reg false [] f10o2 [4]
@[simp] theorem f10r2_run (tbl : TB) (fin : Fin) (K : List Fr) (e : Env) (H : List AO) : run tbl fin K f10r2 e H = regK tbl fin K [] f10o2 [4] e H := run_regK tbl fin K false [] f10o2 [4] e H rfl
@[simp] def f10o3 : List IOper := [
  ⟨(some 11), .mv (.t 0), none, none⟩,
  ⟨(some 12), .len (.t 11), none, none⟩,
  ⟨(some 13), .mv (.c (.int .i64 0)), none, none⟩]
def f10r3 : IC := .reg false [] f10o3 [12, 0, 1, 13]
@[simp] theorem f10r3_run (tbl : TB) (fin : Fin) (K : List Fr) (e : Env) (H : List AO) : run tbl fin K f10r3 e H = regK tbl fin K [] f10o3 [12, 0, 1, 13] e H := run_regK tbl fin K false [] f10o3 [12, 0, 1, 13] e H rfl
@[simp] def f10o4 : List IOper := [
  ⟨(some 14), .bin .lss (.t 13) (.t 12), none, none⟩]
def f10r4 : IC := .reg false [] f10o4 [14, 1, 0, 12, 13]
@[simp] theorem f10r4_run (tbl : TB) (fin : Fin) (K : List Fr) (e : Env) (H : List AO) : run tbl fin K f10r4 e H = regK tbl fin K [] f10o4 [14, 1, 0, 12, 13] e H := run_regK tbl fin K false [] f10o4 [14, 1, 0, 12, 13] e H rfl
@[simp] def f10o5 : List IOper := [
  ⟨(some 15), .mv (.t 13), none, none⟩,
  ⟨(some 5), .mv (.t 15), none, none⟩]
def f10r5 : IC := .reg false [] f10o5 [5, 1, 0, 12, 13]
@[simp] theorem f10r5_run (tbl : TB) (fin : Fin) (K : List Fr) (e : Env) (H : List AO) : run tbl fin K f10r5 e H = regK tbl fin K [] f10o5 [5, 1, 0, 12, 13] e H := run_regK tbl fin K false [] f10o5 [5, 1, 0, 12, 13] e H rfl
@[simp] def f10o6 : List IOper := [
  ⟨(some 16), .mv (.t 0), none, none⟩,
  ⟨(some 17), .mv (.t 5), none, none⟩,
  ⟨(some 18), .idx 6 (.t 16) (.t 17), none, none⟩,
  ⟨(some 19), .load true 6 (.t 18), none, none⟩,
  ⟨(some 20), .mv (.t 1), none, none⟩,
  ⟨(some 21), .mv (.t 5), none, none⟩,
  ⟨(some 22), .idx 6 (.t 20) (.t 21), none, none⟩,
  ⟨(some 23), .load true 6 (.t 22), none, none⟩,
  ⟨(some 24), .aeq true [.i, .i, .i, .i, .s, .s] (.t 19) (.t 23), none, none⟩]
def f10r6 : IC := .reg true [] f10o6 [24, 1, 0, 12, 13]
@[simp] theorem f10r6_run (tbl : TB) (fin : Fin) (K : List Fr) (e : Env) (H : List AO) : run tbl fin K f10r6 e H = regK tbl fin K [] f10o6 [24, 1, 0, 12, 13] e H := run_regK tbl fin K true [] f10o6 [24, 1, 0, 12, 13] e H rfl
@[simp] def f10o7 : List IOper := [
  ⟨(some 4), .mv (.c (.bool false)), none, none⟩]
def f10r7 : IC := .reg false [] f10o7 [4]
@[simp] theorem f10r7_run (tbl : TB) (fin : Fin) (K : List Fr) (e : Env) (H : List AO) : run tbl fin K f10r7 e H = regK tbl fin K [] f10o7 [4] e H := run_regK tbl fin K false [] f10o7 [4] e H rfl
@[simp] def f10o8 : List IOper := [
  ⟨(some 25), .bin .add (.t 13) (.c (.int .i64 1)), none, none⟩,
  ⟨(some 13), .mv (.t 25), none, none⟩]
def f10r8 : IC := .reg false [] f10o8 [12, 0, 1, 13]
@[simp] theorem f10r8_run (tbl : TB) (fin : Fin) (K : List Fr) (e : Env) (H : List AO) : run tbl fin K f10r8 e H = regK tbl fin K [] f10o8 [12, 0, 1, 13] e H := run_regK tbl fin K false [] f10o8 [12, 0, 1, 13] e H rfl
def f10b9 : IC := (.seq f10r4 (.seq (.cond (.t 14) .skip (.exit 0)) (.seq (.block 1 (.seq f10r5 (.seq f10r6 (.cond (.t 24) (.seq f10r7 .ret) .skip)))) f10r8)))
theorem f10b9_eq : f10b9 = (.seq f10r4 (.seq (.cond (.t 14) .skip (.exit 0)) (.seq (.block 1 (.seq f10r5 (.seq f10r6 (.cond (.t 24) (.seq f10r7 .ret) .skip)))) f10r8))) := rfl
@[simp] def f10o10 : List IOper := [
  ⟨(some 4), .mv (.c (.bool true)), none, none⟩]
def f10r10 : IC := .reg false [] f10o10 [4]
@[simp] theorem f10r10_run (tbl : TB) (fin : Fin) (K : List Fr) (e : Env) (H : List AO) : run tbl fin K f10r10 e H = regK tbl fin K [] f10o10 [4] e H := run_regK tbl fin K false [] f10o10 [4] e H rfl
def f10body : IC := (.seq f10r0 (.seq (.seq f10r1 (.cond (.t 10) (.seq f10r2 .ret) .skip)) (.seq (.seq f10r3 (.block 0 (.loop [12, 0, 1, 13] f10b9))) (.seq f10r10 .ret))))
def f10 : IFn := ⟨26, 2, [.tmp 4], f10body⟩
/- 11: jobshell/redirect.Keep -/
@[simp] def f11o0 : List IOper := [
  ⟨(some 2), .nilrow 37 6, none, none⟩,
  ⟨(some 3), .nilrow 37 6, none, none⟩]
def f11r0 : IC := .reg false [] f11o0 [0]
@[simp] theorem f11r0_run (tbl : TB) (fin : Fin) (K : List Fr) (e : Env) (H : List AO) : run tbl fin K f11r0 e H = regK tbl fin K [] f11o0 [0] e H := run_regK tbl fin K false [] f11o0 [0] e H rfl
@[simp] def f11o1 : List IOper := [
  ⟨(some 4), .nilrow 3 1, none, none⟩]
def f11r1 : IC := .reg false [] f11o1 [0, 4]
@[simp] theorem f11r1_run (tbl : TB) (fin : Fin) (K : List Fr) (e : Env) (H : List AO) : run tbl fin K f11r1 e H = regK tbl fin K [] f11o1 [0, 4] e H := run_regK tbl fin K false [] f11o1 [0, 4] e H rfl
@[simp] def f11o2 : List IOper := [
  ⟨(some 13), .mkmap, none, none⟩,
  ⟨(some 5), .mv (.t 13), none, none⟩]
def f11r2 : IC := .reg false [] f11o2 [0, 4, 5]
@[simp] theorem f11r2_run (tbl : TB) (fin : Fin) (K : List Fr) (e : Env) (H : List AO) : run tbl fin K f11r2 e H = regK tbl fin K [] f11o2 [0, 4, 5] e H := run_regK tbl fin K false [] f11o2 [0, 4, 5] e H rfl
@[simp] def f11o3 : List IOper := [
  ⟨(some 14), .mv (.t 0), none, none⟩,
  ⟨(some 15), .len (.t 14), none, none⟩,
  ⟨(some 16), .mv (.c (.int .i64 0)), none, none⟩]
def f11r3 : IC := .reg false [] f11o3 [4, 16, 15, 14, 5]
@[simp] theorem f11r3_run (tbl : TB) (fin : Fin) (K : List Fr) (e : Env) (H : List AO) : run tbl fin K f11r3 e H = regK tbl fin K [] f11o3 [4, 16, 15, 14, 5] e H := run_regK tbl fin K false [] f11o3 [4, 16, 15, 14, 5] e H rfl
@[simp] def f11o4 : List IOper := [
  ⟨(some 17), .bin .lss (.t 16) (.t 15), none, none⟩]
def f11r4 : IC := .reg false [] f11o4 [17, 4, 16, 15, 14, 5]
@[simp] theorem f11r4_run (tbl : TB) (fin : Fin) (K : List Fr) (e : Env) (H : List AO) : run tbl fin K f11r4 e H = regK tbl fin K [] f11o4 [17, 4, 16, 15, 14, 5] e H := run_regK tbl fin K false [] f11o4 [17, 4, 16, 15, 14, 5] e H rfl
@[simp] def f11o5 : List IOper := [
  ⟨(some 18), .idx 6 (.t 14) (.t 16), none, none⟩,
  ⟨(some 19), .load true 6 (.t 18), none, none⟩,
  ⟨(some 7), .new 37 6 (.agg [(.int .i64 0), (.int .i64 0), (.int .i64 0), (.int .i64 0), (.str []), (.str [])]), none, none⟩,
  ⟨none, .store 6 (.t 7) (.t 19), none, none⟩]
def f11r5 : IC := .reg false [] f11o5 [4, 7, 16, 15, 14, 5]
@[simp] theorem f11r5_run (tbl : TB) (fin : Fin) (K : List Fr) (e : Env) (H : List AO) : run tbl fin K f11r5 e H = regK tbl fin K [] f11o5 [4, 7, 16, 15, 14, 5] e H := run_regK tbl fin K false [] f11o5 [4, 7, 16, 15, 14, 5] e H rfl
@[simp] def f11o6 : List IOper := [
  ⟨(some 20), .mv (.t 5), none, none⟩,
  ⟨(some 21), .fld 1 (.t 7), none, none⟩,
  ⟨(some 22), .load false 1 (.t 21), none, none⟩,
  ⟨(some 23), .mlook false (.bool false) (.t 20) (.t 22), none, none⟩,
  ⟨(some 24), .un .not (.t 23), none, none⟩]
def f11r6 : IC := .reg false [] f11o6 [24, 4, 7, 16, 15, 14, 5]
@[simp] theorem f11r6_run (tbl : TB) (fin : Fin) (K : List Fr) (e : Env) (H : List AO) : run tbl fin K f11r6 e H = regK tbl fin K [] f11o6 [24, 4, 7, 16, 15, 14, 5] e H := run_regK tbl fin K false [] f11o6 [24, 4, 7, 16, 15, 14, 5] e H rfl
@[simp] def f11o7 : List IOper := [
  ⟨(some 25), .mv (.t 5), none, none⟩,
  ⟨(some 26), .fld 1 (.t 7), none, none⟩,
  ⟨(some 27), .load false 1 (.t 26), none, none⟩,
  ⟨none, .mput (.t 25) (.t 27) (.c (.bool true)), none, none⟩]
def f11r7 : IC := .reg false [] f11o7 [4, 7, 16, 15, 14, 5]
@[simp] theorem f11r7_run (tbl : TB) (fin : Fin) (K : List Fr) (e : Env) (H : List AO) : run tbl fin K f11r7 e H = regK tbl fin K [] f11o7 [4, 7, 16, 15, 14, 5] e H := run_regK tbl fin K false [] f11o7 [4, 7, 16, 15, 14, 5] e H rfl
@[simp] def f11o8 : List IOper := [
  ⟨(some 28), .mv (.t 4), none, none⟩,
  ⟨(some 29), .fld 1 (.t 7), none, none⟩,
  ⟨(some 30), .load false 1 (.t 29), none, none⟩,
  ⟨(some 31), .mkimm 1 1 (.int .i64 0) [(0, (.t 30))], none, none⟩,
  ⟨(some 32), .app 3 1 (.t 28) (.t 31), none, none⟩,
  ⟨(some 4), .mv (.t 32), none, none⟩]
def f11r8 : IC := .reg false [] f11o8 [16, 4, 15, 14, 5]
@[simp] theorem f11r8_run (tbl : TB) (fin : Fin) (K : List Fr) (e : Env) (H : List AO) : run tbl fin K f11r8 e H = regK tbl fin K [] f11o8 [16, 4, 15, 14, 5] e H := run_regK tbl fin K false [] f11o8 [16, 4, 15, 14, 5] e H rfl
@[simp] def f11o9 : List IOper := [
  ⟨(some 33), .bin .add (.t 16) (.c (.int .i64 1)), none, none⟩,
  ⟨(some 16), .mv (.t 33), none, none⟩]
def f11r9 : IC := .reg false [] f11o9 [4, 16, 15, 14, 5]
@[simp] theorem f11r9_run (tbl : TB) (fin : Fin) (K : List Fr) (e : Env) (H : List AO) : run tbl fin K f11r9 e H = regK tbl fin K [] f11o9 [4, 16, 15, 14, 5] e H := run_regK tbl fin K false [] f11o9 [4, 16, 15, 14, 5] e H rfl
def f11b10 : IC := (.seq f11r4 (.seq (.cond (.t 17) .skip (.exit 0)) (.seq (.block 1 (.seq f11r5 (.seq f11r6 (.cond (.t 24) (.seq f11r7 f11r8) .skip)))) f11r9)))
theorem f11b10_eq : f11b10 = (.seq f11r4 (.seq (.cond (.t 17) .skip (.exit 0)) (.seq (.block 1 (.seq f11r5 (.seq f11r6 (.cond (.t 24) (.seq f11r7 f11r8) .skip)))) f11r9))) := rfl
@[simp] def f11o11 : List IOper := [
  ⟨(some 8), .new 25 1 .e0, none, none⟩,
  ⟨(some 9), .new 25 1 .e0, none, none⟩]
def f11r11 : IC := .reg false [] f11o11 [9, 8, 4]
@[simp] theorem f11r11_run (tbl : TB) (fin : Fin) (K : List Fr) (e : Env) (H : List AO) : run tbl fin K f11r11 e H = regK tbl fin K [] f11o11 [9, 8, 4] e H := run_regK tbl fin K false [] f11o11 [9, 8, 4] e H rfl
@[simp] def f11o12 : List IOper := [
  ⟨(some 34), .mkfn 18 [(.t 8), (.t 9)], none, none⟩,
  ⟨(some 10), .mv (.t 34), none, none⟩]
def f11r12 : IC := .reg false [] f11o12 [9, 8, 10, 4]
@[simp] theorem f11r12_run (tbl : TB) (fin : Fin) (K : List Fr) (e : Env) (H : List AO) : run tbl fin K f11r12 e H = regK tbl fin K [] f11o12 [9, 8, 10, 4] e H := run_regK tbl fin K false [] f11o12 [9, 8, 10, 4] e H rfl
@[simp] def f11o13 : List IOper := [
  ⟨(some 35), .mv (.t 4), none, none⟩,
  ⟨(some 36), .len (.t 35), none, none⟩,
  ⟨(some 37), .mv (.c (.int .i64 0)), none, none⟩]
def f11r13 : IC := .reg false [] f11o13 [37, 36, 9, 8, 35, 10, 4]
@[simp] theorem f11r13_run (tbl : TB) (fin : Fin) (K : List Fr) (e : Env) (H : List AO) : run tbl fin K f11r13 e H = regK tbl fin K [] f11o13 [37, 36, 9, 8, 35, 10, 4] e H := run_regK tbl fin K false [] f11o13 [37, 36, 9, 8, 35, 10, 4] e H rfl
@[simp] def f11o14 : List IOper := [
  ⟨(some 38), .bin .lss (.t 37) (.t 36), none, none⟩]
def f11r14 : IC := .reg false [] f11o14 [38, 37, 36, 9, 8, 35, 10, 4]
@[simp] theorem f11r14_run (tbl : TB) (fin : Fin) (K : List Fr) (e : Env) (H : List AO) : run tbl fin K f11r14 e H = regK tbl fin K [] f11o14 [38, 37, 36, 9, 8, 35, 10, 4] e H := run_regK tbl fin K false [] f11o14 [38, 37, 36, 9, 8, 35, 10, 4] e H rfl
@[simp] def f11o15 : List IOper := [
  ⟨(some 39), .mv (.t 37), none, none⟩,
  ⟨(some 40), .idx 1 (.t 35) (.t 37), none, none⟩,
  ⟨(some 41), .load false 1 (.t 40), none, none⟩,
  ⟨(some 11), .mv (.t 39), none, none⟩,
  ⟨(some 12), .mv (.t 41), none, none⟩]
def f11r15 : IC := .reg false [] f11o15 [12, 11, 37, 36, 9, 8, 35, 10, 4]
@[simp] theorem f11r15_run (tbl : TB) (fin : Fin) (K : List Fr) (e : Env) (H : List AO) : run tbl fin K f11r15 e H = regK tbl fin K [] f11o15 [12, 11, 37, 36, 9, 8, 35, 10, 4] e H := run_regK tbl fin K false [] f11o15 [12, 11, 37, 36, 9, 8, 35, 10, 4] e H rfl
@[simp] def f11o16 : List IOper := [
  ⟨(some 42), .mv (.t 10), none, none⟩,
  ⟨(some 43), .mv (.t 12), none, none⟩,
  ⟨(some 44), .mv (.t 4), none, none⟩,
  ⟨(some 45), .mv (.t 4), none, none⟩,
  ⟨(some 46), .len (.t 45), none, none⟩,
  ⟨(some 47), .bin .sub (.t 46) (.c (.int .i64 1)), none, none⟩,
  ⟨(some 48), .mv (.t 11), none, none⟩,
  ⟨(some 49), .bin .sub (.t 47) (.t 48), none, none⟩,
  ⟨(some 50), .idx 1 (.t 44) (.t 49), none, none⟩,
  ⟨(some 51), .load false 1 (.t 50), none, none⟩,
  ⟨(some 52), .ocall (.t 42) [(.t 43), (.t 51)], none, none⟩]
def f11r16 : IC := .reg false [] f11o16 [37, 36, 9, 8, 35, 10, 4]
@[simp] theorem f11r16_run (tbl : TB) (fin : Fin) (K : List Fr) (e : Env) (H : List AO) : run tbl fin K f11r16 e H = regK tbl fin K [] f11o16 [37, 36, 9, 8, 35, 10, 4] e H := run_regK tbl fin K false [] f11o16 [37, 36, 9, 8, 35, 10, 4] e H rfl
@[simp] def f11o17 : List IOper := [
  ⟨(some 53), .bin .add (.t 37) (.c (.int .i64 1)), none, none⟩,
  ⟨(some 37), .mv (.t 53), none, none⟩]
def f11r17 : IC := .reg false [] f11o17 [37, 36, 9, 8, 35, 10, 4]
@[simp] theorem f11r17_run (tbl : TB) (fin : Fin) (K : List Fr) (e : Env) (H : List AO) : run tbl fin K f11r17 e H = regK tbl fin K [] f11o17 [37, 36, 9, 8, 35, 10, 4] e H := run_regK tbl fin K false [] f11o17 [37, 36, 9, 8, 35, 10, 4] e H rfl
def f11b18 : IC := (.seq f11r14 (.seq (.cond (.t 38) .skip (.exit 2)) (.seq (.block 3 (.seq f11r15 f11r16)) f11r17)))
theorem f11b18_eq : f11b18 = (.seq f11r14 (.seq (.cond (.t 38) .skip (.exit 2)) (.seq (.block 3 (.seq f11r15 f11r16)) f11r17))) := rfl
@[simp] def f11o19 : List IOper := [
  ⟨(some 54), .load false 1 (.t 8), none, none⟩,
  ⟨(some 55), .load false 1 (.t 9), none, none⟩,
  ⟨(some 2), .mv (.t 54), none, none⟩,
  ⟨(some 3), .mv (.t 55), none, none⟩]
def f11r19 : IC := .reg true [] f11o19 [2, 3]
@[simp] theorem f11r19_run (tbl : TB) (fin : Fin) (K : List Fr) (e : Env) (H : List AO) : run tbl fin K f11r19 e H = regK tbl fin K [] f11o19 [2, 3] e H := run_regK tbl fin K true [] f11o19 [2, 3] e H rfl
def f11body : IC := (.seq f11r0 (.seq f11r1 (.seq f11r2 (.seq (.seq f11r3 (.block 0 (.loop [4, 16, 15, 14, 5] f11b10))) (.seq f11r11 (.seq f11r12 (.seq (.seq f11r13 (.block 2 (.loop [37, 36, 9, 8, 35, 10, 4] f11b18))) (.seq f11r19 .ret))))))))
def f11 : IFn := ⟨56, 1, [.tmp 2, .tmp 3], f11body⟩
/- 12: jobshell/jobshellref35.Keep -/
@[simp] def f12o0 : List IOper := [
  ⟨(some 2), .nilrow 37 6, none, none⟩,
  ⟨(some 3), .nilrow 37 6, none, none⟩]
def f12r0 : IC := .reg false [] f12o0 [0]
@[simp] theorem f12r0_run (tbl : TB) (fin : Fin) (K : List Fr) (e : Env) (H : List AO) : run tbl fin K f12r0 e H = regK tbl fin K [] f12o0 [0] e H := run_regK tbl fin K false [] f12o0 [0] e H rfl
@[simp] def f12o1 : List IOper := [
  ⟨(some 4), .nilrow 37 6, none, none⟩,
  ⟨(some 5), .nilrow 37 6, none, none⟩]
def f12r1 : IC := .reg false [] f12o1 [5, 4, 0]
@[simp] theorem f12r1_run (tbl : TB) (fin : Fin) (K : List Fr) (e : Env) (H : List AO) : run tbl fin K f12r1 e H = regK tbl fin K [] f12o1 [5, 4, 0] e H := run_regK tbl fin K false [] f12o1 [5, 4, 0] e H rfl
@[simp] def f12o2 : List IOper := [
  ⟨(some 9), .mv (.t 0), none, none⟩,
  ⟨(some 10), .len (.t 9), none, none⟩,
  ⟨(some 11), .mv (.c (.int .i64 0)), none, none⟩]
def f12r2 : IC := .reg false [] f12o2 [10, 11, 5, 4, 0]
@[simp] theorem f12r2_run (tbl : TB) (fin : Fin) (K : List Fr) (e : Env) (H : List AO) : run tbl fin K f12r2 e H = regK tbl fin K [] f12o2 [10, 11, 5, 4, 0] e H := run_regK tbl fin K false [] f12o2 [10, 11, 5, 4, 0] e H rfl
@[simp] def f12o3 : List IOper := [
  ⟨(some 12), .bin .lss (.t 11) (.t 10), none, none⟩]
def f12r3 : IC := .reg false [] f12o3 [12, 10, 11, 5, 4, 0]
@[simp] theorem f12r3_run (tbl : TB) (fin : Fin) (K : List Fr) (e : Env) (H : List AO) : run tbl fin K f12r3 e H = regK tbl fin K [] f12o3 [12, 10, 11, 5, 4, 0] e H := run_regK tbl fin K false [] f12o3 [12, 10, 11, 5, 4, 0] e H rfl
@[simp] def f12o4 : List IOper := [
  ⟨(some 13), .mv (.t 11), none, none⟩,
  ⟨(some 6), .mv (.t 13), none, none⟩]
def f12r4 : IC := .reg false [] f12o4 [10, 11, 5, 4, 0, 6]
@[simp] theorem f12r4_run (tbl : TB) (fin : Fin) (K : List Fr) (e : Env) (H : List AO) : run tbl fin K f12r4 e H = regK tbl fin K [] f12o4 [10, 11, 5, 4, 0, 6] e H := run_regK tbl fin K false [] f12o4 [10, 11, 5, 4, 0, 6] e H rfl
@[simp] def f12o5 : List IOper := [
  ⟨(some 7), .mv (.c (.bool false)), none, none⟩]
def f12r5 : IC := .reg false [] f12o5 [7, 10, 11, 5, 4, 0, 6]
@[simp] theorem f12r5_run (tbl : TB) (fin : Fin) (K : List Fr) (e : Env) (H : List AO) : run tbl fin K f12r5 e H = regK tbl fin K [] f12o5 [7, 10, 11, 5, 4, 0, 6] e H := run_regK tbl fin K false [] f12o5 [7, 10, 11, 5, 4, 0, 6] e H rfl
@[simp] def f12o6 : List IOper := [
  ⟨(some 14), .mv (.t 6), none, none⟩,
  ⟨(some 15), .mv (.c (.int .i64 0)), none, none⟩]
def f12r6 : IC := .reg false [] f12o6 [7, 15, 14, 10, 11, 5, 4, 0, 6]
@[simp] theorem f12r6_run (tbl : TB) (fin : Fin) (K : List Fr) (e : Env) (H : List AO) : run tbl fin K f12r6 e H = regK tbl fin K [] f12o6 [7, 15, 14, 10, 11, 5, 4, 0, 6] e H := run_regK tbl fin K false [] f12o6 [7, 15, 14, 10, 11, 5, 4, 0, 6] e H rfl
@[simp] def f12o7 : List IOper := [
  ⟨(some 16), .bin .lss (.t 15) (.t 14), none, none⟩]
def f12r7 : IC := .reg false [] f12o7 [16, 7, 15, 14, 10, 11, 5, 4, 0, 6]
@[simp] theorem f12r7_run (tbl : TB) (fin : Fin) (K : List Fr) (e : Env) (H : List AO) : run tbl fin K f12r7 e H = regK tbl fin K [] f12o7 [16, 7, 15, 14, 10, 11, 5, 4, 0, 6] e H := run_regK tbl fin K false [] f12o7 [16, 7, 15, 14, 10, 11, 5, 4, 0, 6] e H rfl
@[simp] def f12o8 : List IOper := [
  ⟨(some 17), .mv (.t 15), none, none⟩,
  ⟨(some 8), .mv (.t 17), none, none⟩]
def f12r8 : IC := .reg false [] f12o8 [7, 8, 15, 14, 10, 11, 5, 4, 0, 6]
@[simp] theorem f12r8_run (tbl : TB) (fin : Fin) (K : List Fr) (e : Env) (H : List AO) : run tbl fin K f12r8 e H = regK tbl fin K [] f12o8 [7, 8, 15, 14, 10, 11, 5, 4, 0, 6] e H := run_regK tbl fin K false [] f12o8 [7, 8, 15, 14, 10, 11, 5, 4, 0, 6] e H rfl
@[simp] def f12o9 : List IOper := [
  ⟨(some 18), .mv (.t 7), none, none⟩,
  ⟨(some 19), .mv (.t 18), none, none⟩,
  ⟨(some 20), .mv (.t 0), (some (19, false)), none⟩,
  ⟨(some 21), .mv (.t 8), (some (19, false)), none⟩,
  ⟨(some 22), .idx 6 (.t 20) (.t 21), (some (19, false)), none⟩,
  ⟨(some 23), .fld 1 (.t 22), (some (19, false)), none⟩,
  ⟨(some 24), .load false 1 (.t 23), (some (19, false)), none⟩,
  ⟨(some 25), .mv (.t 0), (some (19, false)), none⟩,
  ⟨(some 26), .mv (.t 6), (some (19, false)), none⟩,
  ⟨(some 27), .idx 6 (.t 25) (.t 26), (some (19, false)), none⟩,
  ⟨(some 28), .fld 1 (.t 27), (some (19, false)), none⟩,
  ⟨(some 29), .load false 1 (.t 28), (some (19, false)), none⟩,
  ⟨(some 30), .bin .eql (.t 24) (.t 29), (some (19, false)), none⟩,
  ⟨(some 31), .pick (.t 19) (.c (.bool true)) (.t 30), none, none⟩,
  ⟨(some 7), .mv (.t 31), none, none⟩]
def f12r9 : IC := .reg true [] f12o9 [15, 7, 14, 10, 11, 5, 4, 0, 6]
@[simp] theorem f12r9_run (tbl : TB) (fin : Fin) (K : List Fr) (e : Env) (H : List AO) : run tbl fin K f12r9 e H = regK tbl fin K [] f12o9 [15, 7, 14, 10, 11, 5, 4, 0, 6] e H := run_regK tbl fin K true [] f12o9 [15, 7, 14, 10, 11, 5, 4, 0, 6] e H rfl
@[simp] def f12o10 : List IOper := [
  ⟨(some 32), .bin .add (.t 15) (.c (.int .i64 1)), none, none⟩,
  ⟨(some 15), .mv (.t 32), none, none⟩]
def f12r10 : IC := .reg false [] f12o10 [7, 15, 14, 10, 11, 5, 4, 0, 6]
@[simp] theorem f12r10_run (tbl : TB) (fin : Fin) (K : List Fr) (e : Env) (H : List AO) : run tbl fin K f12r10 e H = regK tbl fin K [] f12o10 [7, 15, 14, 10, 11, 5, 4, 0, 6] e H := run_regK tbl fin K false [] f12o10 [7, 15, 14, 10, 11, 5, 4, 0, 6] e H rfl
def f12b11 : IC := (.seq f12r7 (.seq (.cond (.t 16) .skip (.exit 2)) (.seq (.block 3 (.seq f12r8 f12r9)) f12r10)))
theorem f12b11_eq : f12b11 = (.seq f12r7 (.seq (.cond (.t 16) .skip (.exit 2)) (.seq (.block 3 (.seq f12r8 f12r9)) f12r10))) := rfl
@[simp] def f12o12 : List IOper := [
  ⟨(some 33), .mv (.t 7), none, none⟩,
  ⟨(some 34), .un .not (.t 33), none, none⟩]
def f12r12 : IC := .reg false [] f12o12 [34, 4, 6, 5, 11, 10, 0]
@[simp] theorem f12r12_run (tbl : TB) (fin : Fin) (K : List Fr) (e : Env) (H : List AO) : run tbl fin K f12r12 e H = regK tbl fin K [] f12o12 [34, 4, 6, 5, 11, 10, 0] e H := run_regK tbl fin K false [] f12o12 [34, 4, 6, 5, 11, 10, 0] e H rfl
@[simp] def f12o13 : List IOper := [
  ⟨(some 35), .mv (.t 4), none, none⟩,
  ⟨(some 36), .mv (.t 0), none, none⟩,
  ⟨(some 37), .mv (.t 6), none, none⟩,
  ⟨(some 38), .idx 6 (.t 36) (.t 37), none, none⟩,
  ⟨(some 39), .fld 1 (.t 38), none, none⟩,
  ⟨(some 40), .load false 1 (.t 39), none, none⟩,
  ⟨(some 41), .build [(.int .i64 0), (.int .i64 0), (.int .i64 0), (.int .i64 0), (.str []), (.str [])] [(0, 1, (.c (.int .i64 5))), (1, 1, (.t 40)), (2, 1, (.c (.int .i64 10)))], none, none⟩,
  ⟨(some 42), .mkimm 6 1 (.agg [(.int .i64 0), (.int .i64 0), (.int .i64 0), (.int .i64 0), (.str []), (.str [])]) [(0, (.t 41))], none, none⟩,
  ⟨(some 43), .app 37 6 (.t 35) (.t 42), none, none⟩,
  ⟨(some 4), .mv (.t 43), none, none⟩]
def f12r13 : IC := .reg false [] f12o13 [6, 5, 11, 10, 4, 0]
@[simp] theorem f12r13_run (tbl : TB) (fin : Fin) (K : List Fr) (e : Env) (H : List AO) : run tbl fin K f12r13 e H = regK tbl fin K [] f12o13 [6, 5, 11, 10, 4, 0] e H := run_regK tbl fin K false [] f12o13 [6, 5, 11, 10, 4, 0] e H rfl
@[simp] def f12o14 : List IOper := [
  ⟨(some 44), .mv (.t 0), none, none⟩,
  ⟨(some 45), .mv (.t 6), none, none⟩,
  ⟨(some 46), .idx 6 (.t 44) (.t 45), none, none⟩,
  ⟨(some 47), .fld 1 (.t 46), none, none⟩,
  ⟨(some 48), .load false 1 (.t 47), none, none⟩,
  ⟨(some 49), .build [(.int .i64 0), (.int .i64 0), (.int .i64 0), (.int .i64 0), (.str []), (.str [])] [(0, 1, (.c (.int .i64 6))), (1, 1, (.t 48)), (2, 1, (.c (.int .i64 (-1))))], none, none⟩,
  ⟨(some 50), .mkrow 37 6 1 (.agg [(.int .i64 0), (.int .i64 0), (.int .i64 0), (.int .i64 0), (.str []), (.str [])]) [(0, (.t 49))], none, none⟩,
  ⟨(some 51), .mv (.t 5), none, none⟩,
  ⟨(some 52), .app 37 6 (.t 50) (.t 51), none, none⟩,
  ⟨(some 5), .mv (.t 52), none, none⟩]
def f12r14 : IC := .reg false [] f12o14 [11, 10, 5, 4, 0]
@[simp] theorem f12r14_run (tbl : TB) (fin : Fin) (K : List Fr) (e : Env) (H : List AO) : run tbl fin K f12r14 e H = regK tbl fin K [] f12o14 [11, 10, 5, 4, 0] e H := run_regK tbl fin K false [] f12o14 [11, 10, 5, 4, 0] e H rfl
@[simp] def f12o15 : List IOper := [
  ⟨(some 53), .bin .add (.t 11) (.c (.int .i64 1)), none, none⟩,
  ⟨(some 11), .mv (.t 53), none, none⟩]
def f12r15 : IC := .reg false [] f12o15 [10, 11, 5, 4, 0]
@[simp] theorem f12r15_run (tbl : TB) (fin : Fin) (K : List Fr) (e : Env) (H : List AO) : run tbl fin K f12r15 e H = regK tbl fin K [] f12o15 [10, 11, 5, 4, 0] e H := run_regK tbl fin K false [] f12o15 [10, 11, 5, 4, 0] e H rfl
def f12b16 : IC := (.seq f12r3 (.seq (.cond (.t 12) .skip (.exit 0)) (.seq (.block 1 (.seq f12r4 (.seq f12r5 (.seq (.seq f12r6 (.block 2 (.loop [7, 15, 14, 10, 11, 5, 4, 0, 6] f12b11))) (.seq f12r12 (.cond (.t 34) (.seq f12r13 f12r14) .skip)))))) f12r15)))
theorem f12b16_eq : f12b16 = (.seq f12r3 (.seq (.cond (.t 12) .skip (.exit 0)) (.seq (.block 1 (.seq f12r4 (.seq f12r5 (.seq (.seq f12r6 (.block 2 (.loop [7, 15, 14, 10, 11, 5, 4, 0, 6] f12b11))) (.seq f12r12 (.cond (.t 34) (.seq f12r13 f12r14) .skip)))))) f12r15))) := rfl
@[simp] def f12o17 : List IOper := [
  ⟨(some 54), .mv (.t 4), none, none⟩,
  ⟨(some 55), .mv (.t 5), none, none⟩,
  ⟨(some 2), .mv (.t 54), none, none⟩,
  ⟨(some 3), .mv (.t 55), none, none⟩]
def f12r17 : IC := .reg false [] f12o17 [2, 3]
@[simp] theorem f12r17_run (tbl : TB) (fin : Fin) (K : List Fr) (e : Env) (H : List AO) : run tbl fin K f12r17 e H = regK tbl fin K [] f12o17 [2, 3] e H := run_regK tbl fin K false [] f12o17 [2, 3] e H rfl
def f12body : IC := (.seq f12r0 (.seq f12r1 (.seq (.seq f12r2 (.block 0 (.loop [10, 11, 5, 4, 0] f12b16))) (.seq f12r17 .ret))))
def f12 : IFn := ⟨56, 1, [.tmp 2, .tmp 3], f12body⟩
/- 13: jobshell/redirect.Ask -/
@[simp] def f13o0 : List IOper := [
  ⟨(some 1), .box 37 6 (.t 0), none, none⟩,
  ⟨(some 2), .new 39 12 (.agg [(.int .i64 0), (.int .i64 0), (.int .i64 0), (.int .i64 0), (.int .i64 0), (.int .i64 0), (.int .i64 0), (.int .i64 0), (.str []), (.str []), .e0, .e0]), none, none⟩,
  ⟨(some 3), .mv (.c (.bool false)), none, none⟩]
def f13r0 : IC := .reg false [] f13o0 [1, 2]
@[simp] theorem f13r0_run (tbl : TB) (fin : Fin) (K : List Fr) (e : Env) (H : List AO) : run tbl fin K f13r0 e H = regK tbl fin K [] f13o0 [1, 2] e H := run_regK tbl fin K false [] f13o0 [1, 2] e H rfl
@[simp] def f13o1 : List IOper := [
  ⟨(some 4), .fld 0 (.t 1), none, none⟩,
  ⟨(some 5), .load false 1 (.t 4), none, none⟩]
def f13r1 : IC := .reg false [] f13o1 [5, 1, 2]
@[simp] theorem f13r1_run (tbl : TB) (fin : Fin) (K : List Fr) (e : Env) (H : List AO) : run tbl fin K f13r1 e H = regK tbl fin K [] f13o1 [5, 1, 2] e H := run_regK tbl fin K false [] f13o1 [5, 1, 2] e H rfl
@[simp] def f13o2 : List IOper := [
  ⟨(some 7), .bin .eql (.t 5) (.c (.int .i64 1)), none, none⟩,
  ⟨(some 6), .mv (.t 7), none, none⟩]
def f13r2 : IC := .reg false [] f13o2 [6, 5, 1, 2]
@[simp] theorem f13r2_run (tbl : TB) (fin : Fin) (K : List Fr) (e : Env) (H : List AO) : run tbl fin K f13r2 e H = regK tbl fin K [] f13o2 [6, 5, 1, 2] e H := run_regK tbl fin K false [] f13o2 [6, 5, 1, 2] e H rfl
@[simp] def f13o3 : List IOper := [
  ⟨(some 8), .fld 4 (.t 1), none, none⟩,
  ⟨(some 9), .load false 1 (.t 8), none, none⟩,
  ⟨(some 10), .fld 1 (.t 1), none, none⟩,
  ⟨(some 11), .load false 1 (.t 10), none, none⟩,
  ⟨(some 12), .fld 3 (.t 1), none, none⟩,
  ⟨(some 13), .load false 1 (.t 12), none, none⟩,
  ⟨(some 14), .bin .or (.t 13) (.c (.int .i64 64)), none, none⟩,
  ⟨(some 15), .build [(.int .i64 0), (.int .i64 0), (.int .i64 0), (.int .i64 0), (.int .i64 0), (.int .i64 0), (.int .i64 0), (.int .i64 0), (.str []), (.str []), .e0, .e0] [(0, 1, (.c (.int .i64 3))), (8, 1, (.t 9)), (6, 1, (.t 11)), (7, 1, (.t 14))], none, none⟩,
  ⟨none, .store 12 (.t 2) (.t 15), none, none⟩,
  ⟨(some 3), .mv (.c (.bool true)), none, none⟩]
def f13r3 : IC := .reg false [] f13o3 [2, 3]
@[simp] theorem f13r3_run (tbl : TB) (fin : Fin) (K : List Fr) (e : Env) (H : List AO) : run tbl fin K f13r3 e H = regK tbl fin K [] f13o3 [2, 3] e H := run_regK tbl fin K false [] f13o3 [2, 3] e H rfl
@[simp] def f13o4 : List IOper := [
  ⟨(some 17), .bin .eql (.t 5) (.c (.int .i64 4)), none, none⟩,
  ⟨(some 16), .mv (.t 17), none, none⟩]
def f13r4 : IC := .reg false [] f13o4 [16, 5, 1, 2]
@[simp] theorem f13r4_run (tbl : TB) (fin : Fin) (K : List Fr) (e : Env) (H : List AO) : run tbl fin K f13r4 e H = regK tbl fin K [] f13o4 [16, 5, 1, 2] e H := run_regK tbl fin K false [] f13o4 [16, 5, 1, 2] e H rfl
@[simp] def f13o5 : List IOper := [
  ⟨(some 18), .fld 5 (.t 1), none, none⟩,
  ⟨(some 19), .load false 1 (.t 18), none, none⟩,
  ⟨(some 20), .fld 1 (.t 1), none, none⟩,
  ⟨(some 21), .load false 1 (.t 20), none, none⟩,
  ⟨(some 22), .build [(.int .i64 0), (.int .i64 0), (.int .i64 0), (.int .i64 0), (.int .i64 0), (.int .i64 0), (.int .i64 0), (.int .i64 0), (.str []), (.str []), .e0, .e0] [(0, 1, (.c (.int .i64 24))), (9, 1, (.t 19)), (6, 1, (.t 21)), (7, 1, (.c (.int .i64 64)))], none, none⟩,
  ⟨none, .store 12 (.t 2) (.t 22), none, none⟩,
  ⟨(some 3), .mv (.c (.bool true)), none, none⟩]
def f13r5 : IC := .reg false [] f13o5 [2, 3]
@[simp] theorem f13r5_run (tbl : TB) (fin : Fin) (K : List Fr) (e : Env) (H : List AO) : run tbl fin K f13r5 e H = regK tbl fin K [] f13o5 [2, 3] e H := run_regK tbl fin K false [] f13o5 [2, 3] e H rfl
@[simp] def f13o6 : List IOper := [
  ⟨(some 24), .bin .eql (.t 5) (.c (.int .i64 2)), none, none⟩,
  ⟨(some 23), .mv (.t 24), none, none⟩]
def f13r6 : IC := .reg false [] f13o6 [23, 5, 1, 2]
@[simp] theorem f13r6_run (tbl : TB) (fin : Fin) (K : List Fr) (e : Env) (H : List AO) : run tbl fin K f13r6 e H = regK tbl fin K [] f13o6 [23, 5, 1, 2] e H := run_regK tbl fin K false [] f13o6 [23, 5, 1, 2] e H rfl
@[simp] def f13o7 : List IOper := [
  ⟨(some 25), .fld 2 (.t 1), none, none⟩,
  ⟨(some 26), .load false 1 (.t 25), none, none⟩,
  ⟨(some 27), .fld 1 (.t 1), none, none⟩,
  ⟨(some 28), .load false 1 (.t 27), none, none⟩,
  ⟨(some 29), .build [(.int .i64 0), (.int .i64 0), (.int .i64 0), (.int .i64 0), (.int .i64 0), (.int .i64 0), (.int .i64 0), (.int .i64 0), (.str []), (.str []), .e0, .e0] [(0, 1, (.c (.int .i64 5))), (1, 1, (.t 26)), (2, 1, (.t 28))], none, none⟩,
  ⟨none, .store 12 (.t 2) (.t 29), none, none⟩,
  ⟨(some 3), .mv (.c (.bool true)), none, none⟩]
def f13r7 : IC := .reg false [] f13o7 [2, 3]
@[simp] theorem f13r7_run (tbl : TB) (fin : Fin) (K : List Fr) (e : Env) (H : List AO) : run tbl fin K f13r7 e H = regK tbl fin K [] f13o7 [2, 3] e H := run_regK tbl fin K false [] f13o7 [2, 3] e H rfl
@[simp] def f13o8 : List IOper := [
  ⟨(some 31), .bin .eql (.t 5) (.c (.int .i64 3)), none, none⟩,
  ⟨(some 30), .mv (.t 31), none, none⟩]
def f13r8 : IC := .reg false [] f13o8 [30, 5, 1, 2]
@[simp] theorem f13r8_run (tbl : TB) (fin : Fin) (K : List Fr) (e : Env) (H : List AO) : run tbl fin K f13r8 e H = regK tbl fin K [] f13o8 [30, 5, 1, 2] e H := run_regK tbl fin K false [] f13o8 [30, 5, 1, 2] e H rfl
@[simp] def f13o9 : List IOper := [
  ⟨(some 32), .fld 1 (.t 1), none, none⟩,
  ⟨(some 33), .load false 1 (.t 32), none, none⟩,
  ⟨(some 34), .build [(.int .i64 0), (.int .i64 0), (.int .i64 0), (.int .i64 0), (.int .i64 0), (.int .i64 0), (.int .i64 0), (.int .i64 0), (.str []), (.str []), .e0, .e0] [(0, 1, (.c (.int .i64 4))), (1, 1, (.t 33))], none, none⟩,
  ⟨none, .store 12 (.t 2) (.t 34), none, none⟩,
  ⟨(some 3), .mv (.c (.bool true)), none, none⟩]
def f13r9 : IC := .reg false [] f13o9 [2, 3]
@[simp] theorem f13r9_run (tbl : TB) (fin : Fin) (K : List Fr) (e : Env) (H : List AO) : run tbl fin K f13r9 e H = regK tbl fin K [] f13o9 [2, 3] e H := run_regK tbl fin K false [] f13o9 [2, 3] e H rfl
@[simp] def f13o10 : List IOper := [
  ⟨(some 36), .bin .eql (.t 5) (.c (.int .i64 5)), none, none⟩,
  ⟨(some 35), .mv (.t 36), none, none⟩]
def f13r10 : IC := .reg false [] f13o10 [35, 5, 1, 2]
@[simp] theorem f13r10_run (tbl : TB) (fin : Fin) (K : List Fr) (e : Env) (H : List AO) : run tbl fin K f13r10 e H = regK tbl fin K [] f13o10 [35, 5, 1, 2] e H := run_regK tbl fin K false [] f13o10 [35, 5, 1, 2] e H rfl
@[simp] def f13o11 : List IOper := [
  ⟨(some 37), .fld 1 (.t 1), none, none⟩,
  ⟨(some 38), .load false 1 (.t 37), none, none⟩,
  ⟨(some 39), .fld 2 (.t 1), none, none⟩,
  ⟨(some 40), .load false 1 (.t 39), none, none⟩,
  ⟨(some 41), .build [(.int .i64 0), (.int .i64 0), (.int .i64 0), (.int .i64 0), (.int .i64 0), (.int .i64 0), (.int .i64 0), (.int .i64 0), (.str []), (.str []), .e0, .e0] [(0, 1, (.c (.int .i64 5))), (1, 1, (.t 38)), (2, 1, (.c (.int .i64 (-1)))), (6, 1, (.t 40))], none, none⟩,
  ⟨none, .store 12 (.t 2) (.t 41), none, none⟩,
  ⟨(some 3), .mv (.c (.bool true)), none, none⟩]
def f13r11 : IC := .reg false [] f13o11 [2, 3]
@[simp] theorem f13r11_run (tbl : TB) (fin : Fin) (K : List Fr) (e : Env) (H : List AO) : run tbl fin K f13r11 e H = regK tbl fin K [] f13o11 [2, 3] e H := run_regK tbl fin K false [] f13o11 [2, 3] e H rfl
@[simp] def f13o12 : List IOper := [
  ⟨(some 43), .bin .eql (.t 5) (.c (.int .i64 6)), none, none⟩,
  ⟨(some 42), .mv (.t 43), none, none⟩]
def f13r12 : IC := .reg false [] f13o12 [42, 1, 2]
@[simp] theorem f13r12_run (tbl : TB) (fin : Fin) (K : List Fr) (e : Env) (H : List AO) : run tbl fin K f13r12 e H = regK tbl fin K [] f13o12 [42, 1, 2] e H := run_regK tbl fin K false [] f13o12 [42, 1, 2] e H rfl
@[simp] def f13o13 : List IOper := [
  ⟨(some 44), .fld 2 (.t 1), none, none⟩,
  ⟨(some 45), .load false 1 (.t 44), none, none⟩,
  ⟨(some 46), .bin .lss (.t 45) (.c (.int .i64 0)), none, none⟩]
def f13r13 : IC := .reg false [] f13o13 [46, 1, 2]
@[simp] theorem f13r13_run (tbl : TB) (fin : Fin) (K : List Fr) (e : Env) (H : List AO) : run tbl fin K f13r13 e H = regK tbl fin K [] f13o13 [46, 1, 2] e H := run_regK tbl fin K false [] f13o13 [46, 1, 2] e H rfl
@[simp] def f13o14 : List IOper := [
  ⟨(some 47), .fld 1 (.t 1), none, none⟩,
  ⟨(some 48), .load false 1 (.t 47), none, none⟩,
  ⟨(some 49), .build [(.int .i64 0), (.int .i64 0), (.int .i64 0), (.int .i64 0), (.int .i64 0), (.int .i64 0), (.int .i64 0), (.int .i64 0), (.str []), (.str []), .e0, .e0] [(0, 1, (.c (.int .i64 4))), (1, 1, (.t 48))], none, none⟩,
  ⟨none, .store 12 (.t 2) (.t 49), none, none⟩,
  ⟨(some 3), .mv (.c (.bool true)), none, none⟩]
def f13r14 : IC := .reg false [] f13o14 [2, 3]
@[simp] theorem f13r14_run (tbl : TB) (fin : Fin) (K : List Fr) (e : Env) (H : List AO) : run tbl fin K f13r14 e H = regK tbl fin K [] f13o14 [2, 3] e H := run_regK tbl fin K false [] f13o14 [2, 3] e H rfl
@[simp] def f13o15 : List IOper := [
  ⟨(some 50), .fld 2 (.t 1), none, none⟩,
  ⟨(some 51), .load false 1 (.t 50), none, none⟩,
  ⟨(some 52), .fld 1 (.t 1), none, none⟩,
  ⟨(some 53), .load false 1 (.t 52), none, none⟩,
  ⟨(some 54), .build [(.int .i64 0), (.int .i64 0), (.int .i64 0), (.int .i64 0), (.int .i64 0), (.int .i64 0), (.int .i64 0), (.int .i64 0), (.str []), (.str []), .e0, .e0] [(0, 1, (.c (.int .i64 25))), (1, 1, (.t 51)), (2, 1, (.t 53))], none, none⟩,
  ⟨none, .store 12 (.t 2) (.t 54), none, none⟩,
  ⟨(some 3), .mv (.c (.bool true)), none, none⟩]
def f13r15 : IC := .reg false [] f13o15 [2, 3]
@[simp] theorem f13r15_run (tbl : TB) (fin : Fin) (K : List Fr) (e : Env) (H : List AO) : run tbl fin K f13r15 e H = regK tbl fin K [] f13o15 [2, 3] e H := run_regK tbl fin K false [] f13o15 [2, 3] e H rfl
@[simp] def f13o16 : List IOper := [
  ⟨(some 55), .build [(.int .i64 0), (.int .i64 0), (.int .i64 0), (.int .i64 0), (.int .i64 0), (.int .i64 0), (.int .i64 0), (.int .i64 0), (.str []), (.str []), .e0, .e0] [], none, none⟩,
  ⟨none, .store 12 (.t 2) (.t 55), none, none⟩,
  ⟨(some 3), .mv (.c (.bool false)), none, none⟩]
def f13r16 : IC := .reg false [] f13o16 [2, 3]
@[simp] theorem f13r16_run (tbl : TB) (fin : Fin) (K : List Fr) (e : Env) (H : List AO) : run tbl fin K f13r16 e H = regK tbl fin K [] f13o16 [2, 3] e H := run_regK tbl fin K false [] f13o16 [2, 3] e H rfl
def f13body : IC := (.seq f13r0 (.seq (.seq f13r1 (.block 0 (.seq f13r2 (.cond (.t 6) (.seq f13r3 .ret) (.seq f13r4 (.cond (.t 16) (.seq f13r5 .ret) (.seq f13r6 (.cond (.t 23) (.seq f13r7 .ret) (.seq f13r8 (.cond (.t 30) (.seq f13r9 .ret) (.seq f13r10 (.cond (.t 35) (.seq f13r11 .ret) (.seq f13r12 (.cond (.t 42) (.seq (.seq f13r13 (.cond (.t 46) (.seq f13r14 .ret) .skip)) (.seq f13r15 .ret)) .skip)))))))))))))) (.seq f13r16 .ret)))
def f13 : IFn := ⟨56, 1, [.cell 2 true 12, .tmp 3], f13body⟩
/- 14: jobshell/jobshellref35.Ask -/
@[simp] def f14o0 : List IOper := [
  ⟨(some 1), .box 37 6 (.t 0), none, none⟩,
  ⟨(some 2), .new 39 12 (.agg [(.int .i64 0), (.int .i64 0), (.int .i64 0), (.int .i64 0), (.int .i64 0), (.int .i64 0), (.int .i64 0), (.int .i64 0), (.str []), (.str []), .e0, .e0]), none, none⟩,
  ⟨(some 3), .mv (.c (.bool false)), none, none⟩]
def f14r0 : IC := .reg false [] f14o0 [1, 2]
@[simp] theorem f14r0_run (tbl : TB) (fin : Fin) (K : List Fr) (e : Env) (H : List AO) : run tbl fin K f14r0 e H = regK tbl fin K [] f14o0 [1, 2] e H := run_regK tbl fin K false [] f14o0 [1, 2] e H rfl
@[simp] def f14o1 : List IOper := [
  ⟨(some 4), .fld 0 (.t 1), none, none⟩,
  ⟨(some 5), .load false 1 (.t 4), none, none⟩]
def f14r1 : IC := .reg false [] f14o1 [5, 1, 2]
@[simp] theorem f14r1_run (tbl : TB) (fin : Fin) (K : List Fr) (e : Env) (H : List AO) : run tbl fin K f14r1 e H = regK tbl fin K [] f14o1 [5, 1, 2] e H := run_regK tbl fin K false [] f14o1 [5, 1, 2] e H rfl
@[simp] def f14o2 : List IOper := [
  ⟨(some 7), .bin .eql (.t 5) (.c (.int .i64 1)), none, none⟩,
  ⟨(some 6), .mv (.t 7), none, none⟩]
def f14r2 : IC := .reg false [] f14o2 [6, 5, 1, 2]
@[simp] theorem f14r2_run (tbl : TB) (fin : Fin) (K : List Fr) (e : Env) (H : List AO) : run tbl fin K f14r2 e H = regK tbl fin K [] f14o2 [6, 5, 1, 2] e H := run_regK tbl fin K false [] f14o2 [6, 5, 1, 2] e H rfl
@[simp] def f14o3 : List IOper := [
  ⟨(some 8), .fld 4 (.t 1), none, none⟩,
  ⟨(some 9), .load false 1 (.t 8), none, none⟩,
  ⟨(some 10), .fld 1 (.t 1), none, none⟩,
  ⟨(some 11), .load false 1 (.t 10), none, none⟩,
  ⟨(some 12), .fld 3 (.t 1), none, none⟩,
  ⟨(some 13), .load false 1 (.t 12), none, none⟩,
  ⟨(some 14), .bin .or (.t 13) (.c (.int .i64 64)), none, none⟩,
  ⟨(some 15), .build [(.int .i64 0), (.int .i64 0), (.int .i64 0), (.int .i64 0), (.int .i64 0), (.int .i64 0), (.int .i64 0), (.int .i64 0), (.str []), (.str []), .e0, .e0] [(0, 1, (.c (.int .i64 3))), (8, 1, (.t 9)), (6, 1, (.t 11)), (7, 1, (.t 14))], none, none⟩,
  ⟨none, .store 12 (.t 2) (.t 15), none, none⟩,
  ⟨(some 3), .mv (.c (.bool true)), none, none⟩]
def f14r3 : IC := .reg false [] f14o3 [2, 3]
@[simp] theorem f14r3_run (tbl : TB) (fin : Fin) (K : List Fr) (e : Env) (H : List AO) : run tbl fin K f14r3 e H = regK tbl fin K [] f14o3 [2, 3] e H := run_regK tbl fin K false [] f14o3 [2, 3] e H rfl
@[simp] def f14o4 : List IOper := [
  ⟨(some 17), .bin .eql (.t 5) (.c (.int .i64 4)), none, none⟩,
  ⟨(some 16), .mv (.t 17), none, none⟩]
def f14r4 : IC := .reg false [] f14o4 [16, 5, 1, 2]
@[simp] theorem f14r4_run (tbl : TB) (fin : Fin) (K : List Fr) (e : Env) (H : List AO) : run tbl fin K f14r4 e H = regK tbl fin K [] f14o4 [16, 5, 1, 2] e H := run_regK tbl fin K false [] f14o4 [16, 5, 1, 2] e H rfl
@[simp] def f14o5 : List IOper := [
  ⟨(some 18), .fld 5 (.t 1), none, none⟩,
  ⟨(some 19), .load false 1 (.t 18), none, none⟩,
  ⟨(some 20), .fld 1 (.t 1), none, none⟩,
  ⟨(some 21), .load false 1 (.t 20), none, none⟩,
  ⟨(some 22), .build [(.int .i64 0), (.int .i64 0), (.int .i64 0), (.int .i64 0), (.int .i64 0), (.int .i64 0), (.int .i64 0), (.int .i64 0), (.str []), (.str []), .e0, .e0] [(0, 1, (.c (.int .i64 24))), (9, 1, (.t 19)), (6, 1, (.t 21)), (7, 1, (.c (.int .i64 64)))], none, none⟩,
  ⟨none, .store 12 (.t 2) (.t 22), none, none⟩,
  ⟨(some 3), .mv (.c (.bool true)), none, none⟩]
def f14r5 : IC := .reg false [] f14o5 [2, 3]
@[simp] theorem f14r5_run (tbl : TB) (fin : Fin) (K : List Fr) (e : Env) (H : List AO) : run tbl fin K f14r5 e H = regK tbl fin K [] f14o5 [2, 3] e H := run_regK tbl fin K false [] f14o5 [2, 3] e H rfl
@[simp] def f14o6 : List IOper := [
  ⟨(some 24), .bin .eql (.t 5) (.c (.int .i64 2)), none, none⟩,
  ⟨(some 23), .mv (.t 24), none, none⟩]
def f14r6 : IC := .reg false [] f14o6 [23, 5, 1, 2]
@[simp] theorem f14r6_run (tbl : TB) (fin : Fin) (K : List Fr) (e : Env) (H : List AO) : run tbl fin K f14r6 e H = regK tbl fin K [] f14o6 [23, 5, 1, 2] e H := run_regK tbl fin K false [] f14o6 [23, 5, 1, 2] e H rfl
@[simp] def f14o7 : List IOper := [
  ⟨(some 25), .fld 2 (.t 1), none, none⟩,
  ⟨(some 26), .load false 1 (.t 25), none, none⟩,
  ⟨(some 27), .fld 1 (.t 1), none, none⟩,
  ⟨(some 28), .load false 1 (.t 27), none, none⟩,
  ⟨(some 29), .build [(.int .i64 0), (.int .i64 0), (.int .i64 0), (.int .i64 0), (.int .i64 0), (.int .i64 0), (.int .i64 0), (.int .i64 0), (.str []), (.str []), .e0, .e0] [(0, 1, (.c (.int .i64 5))), (1, 1, (.t 26)), (2, 1, (.t 28))], none, none⟩,
  ⟨none, .store 12 (.t 2) (.t 29), none, none⟩,
  ⟨(some 3), .mv (.c (.bool true)), none, none⟩]
def f14r7 : IC := .reg false [] f14o7 [2, 3]
@[simp] theorem f14r7_run (tbl : TB) (fin : Fin) (K : List Fr) (e : Env) (H : List AO) : run tbl fin K f14r7 e H = regK tbl fin K [] f14o7 [2, 3] e H := run_regK tbl fin K false [] f14o7 [2, 3] e H rfl
@[simp] def f14o8 : List IOper := [
  ⟨(some 31), .bin .eql (.t 5) (.c (.int .i64 3)), none, none⟩,
  ⟨(some 30), .mv (.t 31), none, none⟩]
def f14r8 : IC := .reg false [] f14o8 [30, 5, 1, 2]
@[simp] theorem f14r8_run (tbl : TB) (fin : Fin) (K : List Fr) (e : Env) (H : List AO) : run tbl fin K f14r8 e H = regK tbl fin K [] f14o8 [30, 5, 1, 2] e H := run_regK tbl fin K false [] f14o8 [30, 5, 1, 2] e H rfl
@[simp] def f14o9 : List IOper := [
  ⟨(some 32), .fld 1 (.t 1), none, none⟩,
  ⟨(some 33), .load false 1 (.t 32), none, none⟩,
  ⟨(some 34), .build [(.int .i64 0), (.int .i64 0), (.int .i64 0), (.int .i64 0), (.int .i64 0), (.int .i64 0), (.int .i64 0), (.int .i64 0), (.str []), (.str []), .e0, .e0] [(0, 1, (.c (.int .i64 4))), (1, 1, (.t 33))], none, none⟩,
  ⟨none, .store 12 (.t 2) (.t 34), none, none⟩,
  ⟨(some 3), .mv (.c (.bool true)), none, none⟩]
def f14r9 : IC := .reg false [] f14o9 [2, 3]
@[simp] theorem f14r9_run (tbl : TB) (fin : Fin) (K : List Fr) (e : Env) (H : List AO) : run tbl fin K f14r9 e H = regK tbl fin K [] f14o9 [2, 3] e H := run_regK tbl fin K false [] f14o9 [2, 3] e H rfl
@[simp] def f14o10 : List IOper := [
  ⟨(some 36), .bin .eql (.t 5) (.c (.int .i64 5)), none, none⟩,
  ⟨(some 35), .mv (.t 36), none, none⟩]
def f14r10 : IC := .reg false [] f14o10 [35, 5, 1, 2]
@[simp] theorem f14r10_run (tbl : TB) (fin : Fin) (K : List Fr) (e : Env) (H : List AO) : run tbl fin K f14r10 e H = regK tbl fin K [] f14o10 [35, 5, 1, 2] e H := run_regK tbl fin K false [] f14o10 [35, 5, 1, 2] e H rfl
@[simp] def f14o11 : List IOper := [
  ⟨(some 37), .fld 1 (.t 1), none, none⟩,
  ⟨(some 38), .load false 1 (.t 37), none, none⟩,
  ⟨(some 39), .fld 2 (.t 1), none, none⟩,
  ⟨(some 40), .load false 1 (.t 39), none, none⟩,
  ⟨(some 41), .build [(.int .i64 0), (.int .i64 0), (.int .i64 0), (.int .i64 0), (.int .i64 0), (.int .i64 0), (.int .i64 0), (.int .i64 0), (.str []), (.str []), .e0, .e0] [(0, 1, (.c (.int .i64 5))), (1, 1, (.t 38)), (2, 1, (.c (.int .i64 (-1)))), (6, 1, (.t 40))], none, none⟩,
  ⟨none, .store 12 (.t 2) (.t 41), none, none⟩,
  ⟨(some 3), .mv (.c (.bool true)), none, none⟩]
def f14r11 : IC := .reg false [] f14o11 [2, 3]
@[simp] theorem f14r11_run (tbl : TB) (fin : Fin) (K : List Fr) (e : Env) (H : List AO) : run tbl fin K f14r11 e H = regK tbl fin K [] f14o11 [2, 3] e H := run_regK tbl fin K false [] f14o11 [2, 3] e H rfl
@[simp] def f14o12 : List IOper := [
  ⟨(some 43), .bin .eql (.t 5) (.c (.int .i64 6)), none, none⟩,
  ⟨(some 42), .mv (.t 43), none, none⟩]
def f14r12 : IC := .reg false [] f14o12 [42, 1, 2]
@[simp] theorem f14r12_run (tbl : TB) (fin : Fin) (K : List Fr) (e : Env) (H : List AO) : run tbl fin K f14r12 e H = regK tbl fin K [] f14o12 [42, 1, 2] e H := run_regK tbl fin K false [] f14o12 [42, 1, 2] e H rfl
@[simp] def f14o13 : List IOper := [
  ⟨(some 44), .fld 2 (.t 1), none, none⟩,
  ⟨(some 45), .load false 1 (.t 44), none, none⟩,
  ⟨(some 46), .bin .lss (.t 45) (.c (.int .i64 0)), none, none⟩]
def f14r13 : IC := .reg false [] f14o13 [46, 1, 2]
@[simp] theorem f14r13_run (tbl : TB) (fin : Fin) (K : List Fr) (e : Env) (H : List AO) : run tbl fin K f14r13 e H = regK tbl fin K [] f14o13 [46, 1, 2] e H := run_regK tbl fin K false [] f14o13 [46, 1, 2] e H rfl
@[simp] def f14o14 : List IOper := [
  ⟨(some 47), .fld 1 (.t 1), none, none⟩,
  ⟨(some 48), .load false 1 (.t 47), none, none⟩,
  ⟨(some 49), .build [(.int .i64 0), (.int .i64 0), (.int .i64 0), (.int .i64 0), (.int .i64 0), (.int .i64 0), (.int .i64 0), (.int .i64 0), (.str []), (.str []), .e0, .e0] [(0, 1, (.c (.int .i64 4))), (1, 1, (.t 48))], none, none⟩,
  ⟨none, .store 12 (.t 2) (.t 49), none, none⟩,
  ⟨(some 3), .mv (.c (.bool true)), none, none⟩]
def f14r14 : IC := .reg false [] f14o14 [2, 3]
@[simp] theorem f14r14_run (tbl : TB) (fin : Fin) (K : List Fr) (e : Env) (H : List AO) : run tbl fin K f14r14 e H = regK tbl fin K [] f14o14 [2, 3] e H := run_regK tbl fin K false [] f14o14 [2, 3] e H rfl
@[simp] def f14o15 : List IOper := [
  ⟨(some 50), .fld 2 (.t 1), none, none⟩,
  ⟨(some 51), .load false 1 (.t 50), none, none⟩,
  ⟨(some 52), .fld 1 (.t 1), none, none⟩,
  ⟨(some 53), .load false 1 (.t 52), none, none⟩,
  ⟨(some 54), .build [(.int .i64 0), (.int .i64 0), (.int .i64 0), (.int .i64 0), (.int .i64 0), (.int .i64 0), (.int .i64 0), (.int .i64 0), (.str []), (.str []), .e0, .e0] [(0, 1, (.c (.int .i64 25))), (1, 1, (.t 51)), (2, 1, (.t 53))], none, none⟩,
  ⟨none, .store 12 (.t 2) (.t 54), none, none⟩,
  ⟨(some 3), .mv (.c (.bool true)), none, none⟩]
def f14r15 : IC := .reg false [] f14o15 [2, 3]
@[simp] theorem f14r15_run (tbl : TB) (fin : Fin) (K : List Fr) (e : Env) (H : List AO) : run tbl fin K f14r15 e H = regK tbl fin K [] f14o15 [2, 3] e H := run_regK tbl fin K false [] f14o15 [2, 3] e H rfl
@[simp] def f14o16 : List IOper := [
  ⟨(some 55), .build [(.int .i64 0), (.int .i64 0), (.int .i64 0), (.int .i64 0), (.int .i64 0), (.int .i64 0), (.int .i64 0), (.int .i64 0), (.str []), (.str []), .e0, .e0] [], none, none⟩,
  ⟨none, .store 12 (.t 2) (.t 55), none, none⟩,
  ⟨(some 3), .mv (.c (.bool false)), none, none⟩]
def f14r16 : IC := .reg false [] f14o16 [2, 3]
@[simp] theorem f14r16_run (tbl : TB) (fin : Fin) (K : List Fr) (e : Env) (H : List AO) : run tbl fin K f14r16 e H = regK tbl fin K [] f14o16 [2, 3] e H := run_regK tbl fin K false [] f14o16 [2, 3] e H rfl
def f14body : IC := (.seq f14r0 (.seq (.seq f14r1 (.block 0 (.seq f14r2 (.cond (.t 6) (.seq f14r3 .ret) (.seq f14r4 (.cond (.t 16) (.seq f14r5 .ret) (.seq f14r6 (.cond (.t 23) (.seq f14r7 .ret) (.seq f14r8 (.cond (.t 30) (.seq f14r9 .ret) (.seq f14r10 (.cond (.t 35) (.seq f14r11 .ret) (.seq f14r12 (.cond (.t 42) (.seq (.seq f14r13 (.cond (.t 46) (.seq f14r14 .ret) .skip)) (.seq f14r15 .ret)) .skip)))))))))))))) (.seq f14r16 .ret)))
def f14 : IFn := ⟨56, 1, [.cell 2 true 12, .tmp 3], f14body⟩
/- 15: jobshell/jobshellref35.SameReq -/
@[simp] def f15o0 : List IOper := [
  ⟨(some 2), .box 39 12 (.t 0), none, none⟩,
  ⟨(some 3), .box 39 12 (.t 1), none, none⟩,
  ⟨(some 4), .mv (.c (.bool false)), none, none⟩]
def f15r0 : IC := .reg false [] f15o0 [2, 3]
@[simp] theorem f15r0_run (tbl : TB) (fin : Fin) (K : List Fr) (e : Env) (H : List AO) : run tbl fin K f15r0 e H = regK tbl fin K [] f15o0 [2, 3] e H := run_regK tbl fin K false [] f15o0 [2, 3] e H rfl
@[simp] def f15o1 : List IOper := [
  ⟨(some 5), .fld 0 (.t 2), none, none⟩,
  ⟨(some 6), .load false 1 (.t 5), none, none⟩,
  ⟨(some 7), .fld 0 (.t 3), none, none⟩,
  ⟨(some 8), .load false 1 (.t 7), none, none⟩,
  ⟨(some 9), .bin .eql (.t 6) (.t 8), none, none⟩,
  ⟨(some 10), .mv (.t 9), none, none⟩,
  ⟨(some 11), .fld 1 (.t 2), (some (10, true)), none⟩,
  ⟨(some 12), .load false 1 (.t 11), (some (10, true)), some [12, 10, 2, 3]⟩,
  ⟨(some 13), .fld 1 (.t 3), (some (10, true)), none⟩,
  ⟨(some 14), .load false 1 (.t 13), (some (10, true)), none⟩,
  ⟨(some 15), .bin .eql (.t 12) (.t 14), (some (10, true)), none⟩,
  ⟨(some 16), .pick (.t 10) (.t 15) (.c (.bool false)), none, none⟩,
  ⟨(some 17), .mv (.t 16), none, none⟩,
  ⟨(some 18), .fld 2 (.t 2), (some (17, true)), none⟩,
  ⟨(some 19), .load false 1 (.t 18), (some (17, true)), none⟩,
  ⟨(some 20), .fld 2 (.t 3), (some (17, true)), some [20, 19, 17, 2, 3]⟩,
  ⟨(some 21), .load false 1 (.t 20), (some (17, true)), none⟩,
  ⟨(some 22), .bin .eql (.t 19) (.t 21), (some (17, true)), none⟩,
  ⟨(some 23), .pick (.t 17) (.t 22) (.c (.bool false)), none, none⟩,
  ⟨(some 24), .mv (.t 23), none, none⟩,
  ⟨(some 25), .fld 3 (.t 2), (some (24, true)), none⟩,
  ⟨(some 26), .load false 1 (.t 25), (some (24, true)), none⟩,
  ⟨(some 27), .fld 3 (.t 3), (some (24, true)), none⟩,
  ⟨(some 28), .load false 1 (.t 27), (some (24, true)), some [28, 26, 24, 2, 3]⟩,
  ⟨(some 29), .bin .eql (.t 26) (.t 28), (some (24, true)), none⟩,
  ⟨(some 30), .pick (.t 24) (.t 29) (.c (.bool false)), none, none⟩,
  ⟨(some 31), .mv (.t 30), none, none⟩,
  ⟨(some 32), .fld 4 (.t 2), (some (31, true)), none⟩,
  ⟨(some 33), .load false 1 (.t 32), (some (31, true)), none⟩,
  ⟨(some 34), .fld 4 (.t 3), (some (31, true)), none⟩,
  ⟨(some 35), .load false 1 (.t 34), (some (31, true)), none⟩,
  ⟨(some 36), .bin .eql (.t 33) (.t 35), (some (31, true)), some [36, 31, 2, 3]⟩,
  ⟨(some 37), .pick (.t 31) (.t 36) (.c (.bool false)), none, none⟩,
  ⟨(some 38), .mv (.t 37), none, none⟩,
  ⟨(some 39), .fld 5 (.t 2), (some (38, true)), none⟩,
  ⟨(some 40), .load false 1 (.t 39), (some (38, true)), none⟩,
  ⟨(some 41), .fld 5 (.t 3), (some (38, true)), none⟩,
  ⟨(some 42), .load false 1 (.t 41), (some (38, true)), none⟩,
  ⟨(some 43), .bin .eql (.t 40) (.t 42), (some (38, true)), none⟩,
  ⟨(some 44), .pick (.t 38) (.t 43) (.c (.bool false)), none, some [44, 2, 3]⟩,
  ⟨(some 45), .mv (.t 44), none, none⟩,
  ⟨(some 46), .fld 6 (.t 2), (some (45, true)), none⟩,
  ⟨(some 47), .load false 1 (.t 46), (some (45, true)), none⟩,
  ⟨(some 48), .fld 6 (.t 3), (some (45, true)), none⟩,
  ⟨(some 49), .load false 1 (.t 48), (some (45, true)), none⟩,
  ⟨(some 50), .bin .eql (.t 47) (.t 49), (some (45, true)), none⟩,
  ⟨(some 51), .pick (.t 45) (.t 50) (.c (.bool false)), none, none⟩,
  ⟨(some 52), .mv (.t 51), none, some [52, 2, 3]⟩,
  ⟨(some 53), .fld 7 (.t 2), (some (52, true)), none⟩,
  ⟨(some 54), .load false 1 (.t 53), (some (52, true)), none⟩,
  ⟨(some 55), .fld 7 (.t 3), (some (52, true)), none⟩,
  ⟨(some 56), .load false 1 (.t 55), (some (52, true)), none⟩,
  ⟨(some 57), .bin .eql (.t 54) (.t 56), (some (52, true)), none⟩,
  ⟨(some 58), .pick (.t 52) (.t 57) (.c (.bool false)), none, none⟩,
  ⟨(some 59), .mv (.t 58), none, none⟩,
  ⟨(some 60), .fld 8 (.t 2), (some (59, true)), some [60, 59, 2, 3]⟩,
  ⟨(some 61), .load false 1 (.t 60), (some (59, true)), none⟩,
  ⟨(some 62), .fld 8 (.t 3), (some (59, true)), none⟩,
  ⟨(some 63), .load false 1 (.t 62), (some (59, true)), none⟩,
  ⟨(some 64), .bin .eql (.t 61) (.t 63), (some (59, true)), none⟩,
  ⟨(some 65), .pick (.t 59) (.t 64) (.c (.bool false)), none, none⟩,
  ⟨(some 66), .mv (.t 65), none, none⟩,
  ⟨(some 67), .fld 9 (.t 2), (some (66, true)), none⟩,
  ⟨(some 68), .load false 1 (.t 67), (some (66, true)), some [68, 66, 2, 3]⟩,
  ⟨(some 69), .fld 9 (.t 3), (some (66, true)), none⟩,
  ⟨(some 70), .load false 1 (.t 69), (some (66, true)), none⟩,
  ⟨(some 71), .bin .eql (.t 68) (.t 70), (some (66, true)), none⟩,
  ⟨(some 72), .pick (.t 66) (.t 71) (.c (.bool false)), none, none⟩,
  ⟨(some 73), .mv (.t 72), none, none⟩,
  ⟨(some 74), .fld 10 (.t 2), (some (73, true)), none⟩,
  ⟨(some 75), .load false 1 (.t 74), (some (73, true)), none⟩,
  ⟨(some 76), .fld 10 (.t 3), (some (73, true)), some [76, 75, 73, 2, 3]⟩,
  ⟨(some 77), .load false 1 (.t 76), (some (73, true)), none⟩,
  ⟨(some 78), .call (.c (.fn 19 [])) [(.t 75), (.t 77)], (some (73, true)), none⟩,
  ⟨(some 79), .pick (.t 73) (.t 78) (.c (.bool false)), none, none⟩,
  ⟨(some 80), .mv (.t 79), none, none⟩,
  ⟨(some 81), .fld 11 (.t 2), (some (80, true)), none⟩,
  ⟨(some 82), .load false 1 (.t 81), (some (80, true)), none⟩,
  ⟨(some 83), .fld 11 (.t 3), (some (80, true)), none⟩,
  ⟨(some 84), .load false 1 (.t 83), (some (80, true)), some [84, 82, 80]⟩,
  ⟨(some 85), .call (.c (.fn 19 [])) [(.t 82), (.t 84)], (some (80, true)), none⟩,
  ⟨(some 86), .pick (.t 80) (.t 85) (.c (.bool false)), none, none⟩,
  ⟨(some 4), .mv (.t 86), none, none⟩]
def f15r1 : IC := .reg false [] f15o1 [4]
@[simp] theorem f15r1_run (tbl : TB) (fin : Fin) (K : List Fr) (e : Env) (H : List AO) : run tbl fin K f15r1 e H = regK tbl fin K [] f15o1 [4] e H := run_regK tbl fin K false [] f15o1 [4] e H rfl
def f15body : IC := (.seq f15r0 (.seq f15r1 .ret))
def f15 : IFn := ⟨87, 2, [.tmp 4], f15body⟩
/- 16: jobshell/redirect.move -/
@[simp] def f16o0 : List IOper := [
  ⟨(some 6), .new 37 6 (.agg [(.int .i64 0), (.int .i64 0), (.int .i64 0), (.int .i64 0), (.str []), (.str [])]), none, none⟩,
  ⟨(some 7), .mv (.c (.int .i64 0)), none, none⟩]
def f16r0 : IC := .reg false [] f16o0 [0, 2, 1, 6]
@[simp] theorem f16r0_run (tbl : TB) (fin : Fin) (K : List Fr) (e : Env) (H : List AO) : run tbl fin K f16r0 e H = regK tbl fin K [] f16o0 [0, 2, 1, 6] e H := run_regK tbl fin K false [] f16o0 [0, 2, 1, 6] e H rfl
@[simp] def f16o1 : List IOper := [
  ⟨(some 8), .mv (.c (.int .i64 0)), none, none⟩]
def f16r1 : IC := .reg false [] f16o1 [0, 2, 1, 6]
@[simp] theorem f16r1_run (tbl : TB) (fin : Fin) (K : List Fr) (e : Env) (H : List AO) : run tbl fin K f16r1 e H = regK tbl fin K [] f16o1 [0, 2, 1, 6] e H := run_regK tbl fin K false [] f16o1 [0, 2, 1, 6] e H rfl
@[simp] def f16o2 : List IOper := [
  ⟨(some 11), .mv (.t 0), none, none⟩]
def f16r2 : IC := .reg false [] f16o2 [2, 11, 1, 6]
@[simp] theorem f16r2_run (tbl : TB) (fin : Fin) (K : List Fr) (e : Env) (H : List AO) : run tbl fin K f16r2 e H = regK tbl fin K [] f16o2 [2, 11, 1, 6] e H := run_regK tbl fin K false [] f16o2 [2, 11, 1, 6] e H rfl
@[simp] def f16o3 : List IOper := [
  ⟨(some 14), .bin .eql (.t 11) (.c (.int .i64 1)), none, none⟩,
  ⟨(some 13), .mv (.t 14), none, none⟩]
def f16r3 : IC := .reg false [] f16o3 [13, 2, 11, 1, 6]
@[simp] theorem f16r3_run (tbl : TB) (fin : Fin) (K : List Fr) (e : Env) (H : List AO) : run tbl fin K f16r3 e H = regK tbl fin K [] f16o3 [13, 2, 11, 1, 6] e H := run_regK tbl fin K false [] f16o3 [13, 2, 11, 1, 6] e H rfl
@[simp] def f16o4 : List IOper := [
  ⟨(some 8), .mv (.c (.int .i64 1)), none, none⟩]
def f16r4 : IC := .reg false [] f16o4 [8, 1, 6]
@[simp] theorem f16r4_run (tbl : TB) (fin : Fin) (K : List Fr) (e : Env) (H : List AO) : run tbl fin K f16r4 e H = regK tbl fin K [] f16o4 [8, 1, 6] e H := run_regK tbl fin K false [] f16o4 [8, 1, 6] e H rfl
@[simp] def f16o5 : List IOper := [
  ⟨(some 16), .bin .eql (.t 11) (.c (.int .i64 2)), none, none⟩,
  ⟨(some 15), .mv (.t 16), none, none⟩]
def f16r5 : IC := .reg false [] f16o5 [15, 11, 2, 1, 6]
@[simp] theorem f16r5_run (tbl : TB) (fin : Fin) (K : List Fr) (e : Env) (H : List AO) : run tbl fin K f16r5 e H = regK tbl fin K [] f16o5 [15, 11, 2, 1, 6] e H := run_regK tbl fin K false [] f16o5 [15, 11, 2, 1, 6] e H rfl
@[simp] def f16o6 : List IOper := [
  ⟨(some 8), .mv (.c (.int .i64 26)), none, none⟩]
def f16r6 : IC := .reg false [] f16o6 [2, 8, 1, 6]
@[simp] theorem f16r6_run (tbl : TB) (fin : Fin) (K : List Fr) (e : Env) (H : List AO) : run tbl fin K f16r6 e H = regK tbl fin K [] f16o6 [2, 8, 1, 6] e H := run_regK tbl fin K false [] f16o6 [2, 8, 1, 6] e H rfl
@[simp] def f16o7 : List IOper := [
  ⟨(some 17), .mv (.t 2), none, none⟩,
  ⟨(some 18), .bin .and (.t 17) (.c (.int .i64 128)), none, none⟩,
  ⟨(some 19), .bin .neq (.t 18) (.c (.int .i64 0)), none, none⟩]
def f16r7 : IC := .reg false [] f16o7 [19, 8, 1, 6]
@[simp] theorem f16r7_run (tbl : TB) (fin : Fin) (K : List Fr) (e : Env) (H : List AO) : run tbl fin K f16r7 e H = regK tbl fin K [] f16o7 [19, 8, 1, 6] e H := run_regK tbl fin K false [] f16o7 [19, 8, 1, 6] e H rfl
@[simp] def f16o8 : List IOper := [
  ⟨(some 8), .mv (.c (.int .i64 42)), none, none⟩]
def f16r8 : IC := .reg false [] f16o8 [8, 1, 6]
@[simp] theorem f16r8_run (tbl : TB) (fin : Fin) (K : List Fr) (e : Env) (H : List AO) : run tbl fin K f16r8 e H = regK tbl fin K [] f16o8 [8, 1, 6] e H := run_regK tbl fin K false [] f16o8 [8, 1, 6] e H rfl
@[simp] def f16o9 : List IOper := [
  ⟨(some 21), .bin .eql (.t 11) (.c (.int .i64 7)), none, none⟩,
  ⟨(some 20), .mv (.t 21), none, none⟩]
def f16r9 : IC := .reg false [] f16o9 [20, 11, 1, 6]
@[simp] theorem f16r9_run (tbl : TB) (fin : Fin) (K : List Fr) (e : Env) (H : List AO) : run tbl fin K f16r9 e H = regK tbl fin K [] f16o9 [20, 11, 1, 6] e H := run_regK tbl fin K false [] f16o9 [20, 11, 1, 6] e H rfl
@[simp] def f16o10 : List IOper := [
  ⟨(some 8), .mv (.c (.int .i64 26)), none, none⟩]
def f16r10 : IC := .reg false [] f16o10 [8, 1, 6]
@[simp] theorem f16r10_run (tbl : TB) (fin : Fin) (K : List Fr) (e : Env) (H : List AO) : run tbl fin K f16r10 e H = regK tbl fin K [] f16o10 [8, 1, 6] e H := run_regK tbl fin K false [] f16o10 [8, 1, 6] e H rfl
@[simp] def f16o11 : List IOper := [
  ⟨(some 23), .bin .eql (.t 11) (.c (.int .i64 3)), none, none⟩,
  ⟨(some 22), .mv (.t 23), none, none⟩]
def f16r11 : IC := .reg false [] f16o11 [22, 11, 1, 6]
@[simp] theorem f16r11_run (tbl : TB) (fin : Fin) (K : List Fr) (e : Env) (H : List AO) : run tbl fin K f16r11 e H = regK tbl fin K [] f16o11 [22, 11, 1, 6] e H := run_regK tbl fin K false [] f16o11 [22, 11, 1, 6] e H rfl
@[simp] def f16o12 : List IOper := [
  ⟨(some 8), .mv (.c (.int .i64 14)), none, none⟩]
def f16r12 : IC := .reg false [] f16o12 [8, 1, 6]
@[simp] theorem f16r12_run (tbl : TB) (fin : Fin) (K : List Fr) (e : Env) (H : List AO) : run tbl fin K f16r12 e H = regK tbl fin K [] f16o12 [8, 1, 6] e H := run_regK tbl fin K false [] f16o12 [8, 1, 6] e H rfl
@[simp] def f16o13 : List IOper := [
  ⟨(some 25), .bin .eql (.t 11) (.c (.int .i64 6)), none, none⟩,
  ⟨(some 24), .mv (.t 25), none, none⟩]
def f16r13 : IC := .reg false [] f16o13 [24, 11, 1, 6]
@[simp] theorem f16r13_run (tbl : TB) (fin : Fin) (K : List Fr) (e : Env) (H : List AO) : run tbl fin K f16r13 e H = regK tbl fin K [] f16o13 [24, 11, 1, 6] e H := run_regK tbl fin K false [] f16o13 [24, 11, 1, 6] e H rfl
@[simp] def f16o14 : List IOper := [
  ⟨(some 8), .mv (.c (.int .i64 11)), none, none⟩]
def f16r14 : IC := .reg false [] f16o14 [8, 1, 6]
@[simp] theorem f16r14_run (tbl : TB) (fin : Fin) (K : List Fr) (e : Env) (H : List AO) : run tbl fin K f16r14 e H = regK tbl fin K [] f16o14 [8, 1, 6] e H := run_regK tbl fin K false [] f16o14 [8, 1, 6] e H rfl
@[simp] def f16o15 : List IOper := [
  ⟨(some 27), .bin .eql (.t 11) (.c (.int .i64 8)), none, none⟩,
  ⟨(some 26), .mv (.t 27), none, none⟩]
def f16r15 : IC := .reg false [] f16o15 [26, 11, 1, 6]
@[simp] theorem f16r15_run (tbl : TB) (fin : Fin) (K : List Fr) (e : Env) (H : List AO) : run tbl fin K f16r15 e H = regK tbl fin K [] f16o15 [26, 11, 1, 6] e H := run_regK tbl fin K false [] f16o15 [26, 11, 1, 6] e H rfl
@[simp] def f16o16 : List IOper := [
  ⟨(some 28), .mv (.t 1), none, none⟩,
  ⟨(some 29), .build [(.int .i64 0), (.int .i64 0), (.int .i64 0), (.int .i64 0), (.str []), (.str [])] [(0, 1, (.c (.int .i64 4))), (5, 1, (.t 28))], none, none⟩,
  ⟨none, .store 6 (.t 6) (.t 29), none, none⟩,
  ⟨(some 7), .mv (.c (.int .i64 0)), none, none⟩]
def f16r16 : IC := .reg false [] f16o16 [6, 7]
@[simp] theorem f16r16_run (tbl : TB) (fin : Fin) (K : List Fr) (e : Env) (H : List AO) : run tbl fin K f16r16 e H = regK tbl fin K [] f16o16 [6, 7] e H := run_regK tbl fin K false [] f16o16 [6, 7] e H rfl
@[simp] def f16o17 : List IOper := [
  ⟨(some 31), .bin .eql (.t 11) (.c (.int .i64 4)), none, none⟩,
  ⟨(some 30), .mv (.t 31), none, none⟩]
def f16r17 : IC := .reg false [] f16o17 [11, 30, 1, 6]
@[simp] theorem f16r17_run (tbl : TB) (fin : Fin) (K : List Fr) (e : Env) (H : List AO) : run tbl fin K f16r17 e H = regK tbl fin K [] f16o17 [11, 30, 1, 6] e H := run_regK tbl fin K false [] f16o17 [11, 30, 1, 6] e H rfl
@[simp] def f16o18 : List IOper := [
  ⟨(some 32), .bin .eql (.t 11) (.c (.int .i64 5)), none, none⟩,
  ⟨(some 30), .mv (.t 32), none, none⟩]
def f16r18 : IC := .reg false [] f16o18 [30, 1, 6]
@[simp] theorem f16r18_run (tbl : TB) (fin : Fin) (K : List Fr) (e : Env) (H : List AO) : run tbl fin K f16r18 e H = regK tbl fin K [] f16o18 [30, 1, 6] e H := run_regK tbl fin K false [] f16o18 [30, 1, 6] e H rfl
@[simp] def f16o19 : List IOper := [
  ⟨(some 33), .mv (.t 1), none, none⟩,
  ⟨(some 34), .bin .eql (.t 33) (.c (.str [45])), none, none⟩]
def f16r19 : IC := .reg false [] f16o19 [34, 1, 6]
@[simp] theorem f16r19_run (tbl : TB) (fin : Fin) (K : List Fr) (e : Env) (H : List AO) : run tbl fin K f16r19 e H = regK tbl fin K [] f16o19 [34, 1, 6] e H := run_regK tbl fin K false [] f16o19 [34, 1, 6] e H rfl
@[simp] def f16o20 : List IOper := [
  ⟨(some 35), .build [(.int .i64 0), (.int .i64 0), (.int .i64 0), (.int .i64 0), (.str []), (.str [])] [(0, 1, (.c (.int .i64 3)))], none, none⟩,
  ⟨none, .store 6 (.t 6) (.t 35), none, none⟩,
  ⟨(some 7), .mv (.c (.int .i64 0)), none, none⟩]
def f16r20 : IC := .reg false [] f16o20 [6, 7]
@[simp] theorem f16r20_run (tbl : TB) (fin : Fin) (K : List Fr) (e : Env) (H : List AO) : run tbl fin K f16r20 e H = regK tbl fin K [] f16o20 [6, 7] e H := run_regK tbl fin K false [] f16o20 [6, 7] e H rfl
@[simp] def f16o21 : List IOper := [
  ⟨(some 37), .mv (.t 1), none, none⟩,
  ⟨(some 38), .call (.c (.fn 20 [])) [(.t 37)], none, none⟩,
  ⟨(some 36), .mv (.t 38), none, none⟩,
  ⟨(some 39), .ext (.t 36) 0, none, none⟩,
  ⟨(some 40), .ext (.t 36) 1, none, none⟩,
  ⟨(some 9), .mv (.t 39), none, none⟩,
  ⟨(some 10), .mv (.t 40), none, none⟩]
def f16r21 : IC := .reg false [] f16o21 [10, 9, 6]
@[simp] theorem f16r21_run (tbl : TB) (fin : Fin) (K : List Fr) (e : Env) (H : List AO) : run tbl fin K f16r21 e H = regK tbl fin K [] f16o21 [10, 9, 6] e H := run_regK tbl fin K false [] f16o21 [10, 9, 6] e H rfl
@[simp] def f16o22 : List IOper := [
  ⟨(some 41), .mv (.t 10), none, none⟩,
  ⟨(some 42), .mv (.t 41), none, none⟩,
  ⟨(some 43), .mv (.t 9), (some (42, true)), none⟩,
  ⟨(some 44), .bin .leq (.t 43) (.c (.int .i64 9)), (some (42, true)), none⟩,
  ⟨(some 45), .pick (.t 42) (.t 44) (.c (.bool false)), none, none⟩]
def f16r22 : IC := .reg false [] f16o22 [45, 9, 6]
@[simp] theorem f16r22_run (tbl : TB) (fin : Fin) (K : List Fr) (e : Env) (H : List AO) : run tbl fin K f16r22 e H = regK tbl fin K [] f16o22 [45, 9, 6] e H := run_regK tbl fin K false [] f16o22 [45, 9, 6] e H rfl
@[simp] def f16o23 : List IOper := [
  ⟨(some 46), .mv (.t 9), none, none⟩,
  ⟨(some 47), .build [(.int .i64 0), (.int .i64 0), (.int .i64 0), (.int .i64 0), (.str []), (.str [])] [(0, 1, (.c (.int .i64 2))), (2, 1, (.t 46))], none, none⟩,
  ⟨none, .store 6 (.t 6) (.t 47), none, none⟩,
  ⟨(some 7), .mv (.c (.int .i64 0)), none, none⟩]
def f16r23 : IC := .reg false [] f16o23 [6, 7]
@[simp] theorem f16r23_run (tbl : TB) (fin : Fin) (K : List Fr) (e : Env) (H : List AO) : run tbl fin K f16r23 e H = regK tbl fin K [] f16o23 [6, 7] e H := run_regK tbl fin K false [] f16o23 [6, 7] e H rfl
@[simp] def f16o24 : List IOper := [
  ⟨(some 48), .build [(.int .i64 0), (.int .i64 0), (.int .i64 0), (.int .i64 0), (.str []), (.str [])] [], none, none⟩,
  ⟨none, .store 6 (.t 6) (.t 48), none, none⟩,
  ⟨(some 7), .mv (.c (.int .i64 26)), none, none⟩]
def f16r24 : IC := .reg false [] f16o24 [6, 7]
@[simp] theorem f16r24_run (tbl : TB) (fin : Fin) (K : List Fr) (e : Env) (H : List AO) : run tbl fin K f16r24 e H = regK tbl fin K [] f16o24 [6, 7] e H := run_regK tbl fin K false [] f16o24 [6, 7] e H rfl
@[simp] def f16o25 : List IOper := [
  ⟨(some 12), .build [(.int .i64 0), (.int .i64 0), (.int .i64 0), (.int .i64 0), (.str []), (.str [])] [], none, none⟩,
  ⟨none, .store 6 (.t 6) (.t 12), none, none⟩,
  ⟨(some 7), .mv (.c (.int .i64 1)), none, none⟩]
def f16r25 : IC := .reg false [] f16o25 [6, 7]
@[simp] theorem f16r25_run (tbl : TB) (fin : Fin) (K : List Fr) (e : Env) (H : List AO) : run tbl fin K f16r25 e H = regK tbl fin K [] f16o25 [6, 7] e H := run_regK tbl fin K false [] f16o25 [6, 7] e H rfl
@[simp] def f16o26 : List IOper := [
  ⟨(some 49), .mv (.t 1), none, none⟩,
  ⟨(some 50), .bin .eql (.t 49) (.c (.str [])), none, none⟩]
def f16r26 : IC := .reg false [] f16o26 [50, 8, 1, 6]
@[simp] theorem f16r26_run (tbl : TB) (fin : Fin) (K : List Fr) (e : Env) (H : List AO) : run tbl fin K f16r26 e H = regK tbl fin K [] f16o26 [50, 8, 1, 6] e H := run_regK tbl fin K false [] f16o26 [50, 8, 1, 6] e H rfl
@[simp] def f16o27 : List IOper := [
  ⟨(some 51), .build [(.int .i64 0), (.int .i64 0), (.int .i64 0), (.int .i64 0), (.str []), (.str [])] [], none, none⟩,
  ⟨none, .store 6 (.t 6) (.t 51), none, none⟩,
  ⟨(some 7), .mv (.c (.int .i64 8)), none, none⟩]
def f16r27 : IC := .reg false [] f16o27 [6, 7]
@[simp] theorem f16r27_run (tbl : TB) (fin : Fin) (K : List Fr) (e : Env) (H : List AO) : run tbl fin K f16r27 e H = regK tbl fin K [] f16o27 [6, 7] e H := run_regK tbl fin K false [] f16o27 [6, 7] e H rfl
@[simp] def f16o28 : List IOper := [
  ⟨(some 52), .mv (.t 1), none, none⟩,
  ⟨(some 53), .mv (.t 8), none, none⟩,
  ⟨(some 54), .build [(.int .i64 0), (.int .i64 0), (.int .i64 0), (.int .i64 0), (.str []), (.str [])] [(0, 1, (.c (.int .i64 1))), (4, 1, (.t 52)), (3, 1, (.t 53))], none, none⟩,
  ⟨none, .store 6 (.t 6) (.t 54), none, none⟩,
  ⟨(some 7), .mv (.c (.int .i64 0)), none, none⟩]
def f16r28 : IC := .reg false [] f16o28 [6, 7]
@[simp] theorem f16r28_run (tbl : TB) (fin : Fin) (K : List Fr) (e : Env) (H : List AO) : run tbl fin K f16r28 e H = regK tbl fin K [] f16o28 [6, 7] e H := run_regK tbl fin K false [] f16o28 [6, 7] e H rfl
def f16body : IC := (.seq f16r0 (.seq f16r1 (.seq (.seq f16r2 (.block 0 (.seq f16r3 (.cond (.t 13) f16r4 (.seq f16r5 (.cond (.t 15) (.seq f16r6 (.seq f16r7 (.cond (.t 19) f16r8 .skip))) (.seq f16r9 (.cond (.t 20) f16r10 (.seq f16r11 (.cond (.t 22) f16r12 (.seq f16r13 (.cond (.t 24) f16r14 (.seq f16r15 (.cond (.t 26) (.seq f16r16 .ret) (.seq (.seq f16r17 (.cond (.t 30) .skip f16r18)) (.cond (.t 30) (.seq (.seq f16r19 (.cond (.t 34) (.seq f16r20 .ret) .skip)) (.seq (.seq f16r21 (.seq f16r22 (.cond (.t 45) (.seq f16r23 .ret) .skip))) (.seq f16r24 .ret))) (.seq f16r25 .ret))))))))))))))))) (.seq (.seq f16r26 (.cond (.t 50) (.seq f16r27 .ret) .skip)) (.seq f16r28 .ret)))))
def f16 : IFn := ⟨55, 3, [.cell 6 true 6, .tmp 7], f16body⟩
/- 17: jobshell/jobshellref35.move -/
@[simp] def f17o0 : List IOper := [
  ⟨(some 3), .box 48 5 (.t 0), none, none⟩,
  ⟨(some 6), .new 37 6 (.agg [(.int .i64 0), (.int .i64 0), (.int .i64 0), (.int .i64 0), (.str []), (.str [])]), none, none⟩,
  ⟨(some 7), .mv (.c (.int .i64 0)), none, none⟩]
def f17r0 : IC := .reg false [] f17o0 [3, 1, 2, 6]
@[simp] theorem f17r0_run (tbl : TB) (fin : Fin) (K : List Fr) (e : Env) (H : List AO) : run tbl fin K f17r0 e H = regK tbl fin K [] f17o0 [3, 1, 2, 6] e H := run_regK tbl fin K false [] f17o0 [3, 1, 2, 6] e H rfl
@[simp] def f17o1 : List IOper := [
  ⟨(some 11), .fld 1 (.t 3), none, none⟩,
  ⟨(some 12), .load false 1 (.t 11), none, none⟩,
  ⟨(some 13), .bin .lss (.t 12) (.c (.int .i64 0)), none, none⟩,
  ⟨(some 14), .mv (.t 13), none, none⟩,
  ⟨(some 15), .fld 1 (.t 3), (some (14, false)), none⟩,
  ⟨(some 16), .load false 1 (.t 15), (some (14, false)), none⟩,
  ⟨(some 17), .bin .gtr (.t 16) (.c (.int .i64 9)), (some (14, false)), none⟩,
  ⟨(some 18), .pick (.t 14) (.c (.bool true)) (.t 17), none, none⟩]
def f17r1 : IC := .reg false [] f17o1 [18, 3, 1, 2, 6]
@[simp] theorem f17r1_run (tbl : TB) (fin : Fin) (K : List Fr) (e : Env) (H : List AO) : run tbl fin K f17r1 e H = regK tbl fin K [] f17o1 [18, 3, 1, 2, 6] e H := run_regK tbl fin K false [] f17o1 [18, 3, 1, 2, 6] e H rfl
@[simp] def f17o2 : List IOper := [
  ⟨(some 19), .build [(.int .i64 0), (.int .i64 0), (.int .i64 0), (.int .i64 0), (.str []), (.str [])] [], none, none⟩,
  ⟨none, .store 6 (.t 6) (.t 19), none, none⟩,
  ⟨(some 7), .mv (.c (.int .i64 2)), none, none⟩]
def f17r2 : IC := .reg false [] f17o2 [6, 7]
@[simp] theorem f17r2_run (tbl : TB) (fin : Fin) (K : List Fr) (e : Env) (H : List AO) : run tbl fin K f17r2 e H = regK tbl fin K [] f17o2 [6, 7] e H := run_regK tbl fin K false [] f17o2 [6, 7] e H rfl
@[simp] def f17o3 : List IOper := [
  ⟨(some 8), .mv (.c (.int .i64 0)), none, none⟩]
def f17r3 : IC := .reg false [] f17o3 [2, 1, 3, 6]
@[simp] theorem f17r3_run (tbl : TB) (fin : Fin) (K : List Fr) (e : Env) (H : List AO) : run tbl fin K f17r3 e H = regK tbl fin K [] f17o3 [2, 1, 3, 6] e H := run_regK tbl fin K false [] f17o3 [2, 1, 3, 6] e H rfl
@[simp] def f17o4 : List IOper := [
  ⟨(some 20), .fld 2 (.t 3), none, none⟩,
  ⟨(some 21), .load false 1 (.t 20), none, none⟩]
def f17r4 : IC := .reg false [] f17o4 [2, 21, 1, 3, 6]
@[simp] theorem f17r4_run (tbl : TB) (fin : Fin) (K : List Fr) (e : Env) (H : List AO) : run tbl fin K f17r4 e H = regK tbl fin K [] f17o4 [2, 21, 1, 3, 6] e H := run_regK tbl fin K false [] f17o4 [2, 21, 1, 3, 6] e H rfl
@[simp] def f17o5 : List IOper := [
  ⟨(some 24), .bin .eql (.t 21) (.c (.int .i64 1)), none, none⟩,
  ⟨(some 23), .mv (.t 24), none, none⟩]
def f17r5 : IC := .reg false [] f17o5 [23, 2, 21, 1, 3, 6]
@[simp] theorem f17r5_run (tbl : TB) (fin : Fin) (K : List Fr) (e : Env) (H : List AO) : run tbl fin K f17r5 e H = regK tbl fin K [] f17o5 [23, 2, 21, 1, 3, 6] e H := run_regK tbl fin K false [] f17o5 [23, 2, 21, 1, 3, 6] e H rfl
@[simp] def f17o6 : List IOper := [
  ⟨(some 8), .mv (.c (.int .i64 1)), none, none⟩]
def f17r6 : IC := .reg false [] f17o6 [1, 8, 3, 6]
@[simp] theorem f17r6_run (tbl : TB) (fin : Fin) (K : List Fr) (e : Env) (H : List AO) : run tbl fin K f17r6 e H = regK tbl fin K [] f17o6 [1, 8, 3, 6] e H := run_regK tbl fin K false [] f17o6 [1, 8, 3, 6] e H rfl
@[simp] def f17o7 : List IOper := [
  ⟨(some 26), .bin .eql (.t 21) (.c (.int .i64 2)), none, none⟩,
  ⟨(some 25), .mv (.t 26), none, none⟩]
def f17r7 : IC := .reg false [] f17o7 [25, 21, 2, 1, 3, 6]
@[simp] theorem f17r7_run (tbl : TB) (fin : Fin) (K : List Fr) (e : Env) (H : List AO) : run tbl fin K f17r7 e H = regK tbl fin K [] f17o7 [25, 21, 2, 1, 3, 6] e H := run_regK tbl fin K false [] f17o7 [25, 21, 2, 1, 3, 6] e H rfl
@[simp] def f17o8 : List IOper := [
  ⟨(some 27), .bin .eql (.t 21) (.c (.int .i64 7)), none, none⟩,
  ⟨(some 25), .mv (.t 27), none, none⟩]
def f17r8 : IC := .reg false [] f17o8 [25, 21, 2, 1, 3, 6]
@[simp] theorem f17r8_run (tbl : TB) (fin : Fin) (K : List Fr) (e : Env) (H : List AO) : run tbl fin K f17r8 e H = regK tbl fin K [] f17o8 [25, 21, 2, 1, 3, 6] e H := run_regK tbl fin K false [] f17o8 [25, 21, 2, 1, 3, 6] e H rfl
@[simp] def f17o9 : List IOper := [
  ⟨(some 8), .mv (.c (.int .i64 26)), none, none⟩]
def f17r9 : IC := .reg false [] f17o9 [2, 8, 1, 3, 6]
@[simp] theorem f17r9_run (tbl : TB) (fin : Fin) (K : List Fr) (e : Env) (H : List AO) : run tbl fin K f17r9 e H = regK tbl fin K [] f17o9 [2, 8, 1, 3, 6] e H := run_regK tbl fin K false [] f17o9 [2, 8, 1, 3, 6] e H rfl
@[simp] def f17o10 : List IOper := [
  ⟨(some 28), .mv (.t 2), none, none⟩,
  ⟨(some 29), .mv (.t 28), none, none⟩,
  ⟨(some 30), .fld 2 (.t 3), (some (29, true)), none⟩,
  ⟨(some 31), .load false 1 (.t 30), (some (29, true)), none⟩,
  ⟨(some 32), .bin .eql (.t 31) (.c (.int .i64 2)), (some (29, true)), none⟩,
  ⟨(some 33), .pick (.t 29) (.t 32) (.c (.bool false)), none, none⟩]
def f17r10 : IC := .reg false [] f17o10 [33, 8, 1, 3, 6]
@[simp] theorem f17r10_run (tbl : TB) (fin : Fin) (K : List Fr) (e : Env) (H : List AO) : run tbl fin K f17r10 e H = regK tbl fin K [] f17o10 [33, 8, 1, 3, 6] e H := run_regK tbl fin K false [] f17o10 [33, 8, 1, 3, 6] e H rfl
@[simp] def f17o11 : List IOper := [
  ⟨(some 8), .mv (.c (.int .i64 42)), none, none⟩]
def f17r11 : IC := .reg false [] f17o11 [1, 8, 3, 6]
@[simp] theorem f17r11_run (tbl : TB) (fin : Fin) (K : List Fr) (e : Env) (H : List AO) : run tbl fin K f17r11 e H = regK tbl fin K [] f17o11 [1, 8, 3, 6] e H := run_regK tbl fin K false [] f17o11 [1, 8, 3, 6] e H rfl
@[simp] def f17o12 : List IOper := [
  ⟨(some 35), .bin .eql (.t 21) (.c (.int .i64 3)), none, none⟩,
  ⟨(some 34), .mv (.t 35), none, none⟩]
def f17r12 : IC := .reg false [] f17o12 [34, 21, 1, 3, 6]
@[simp] theorem f17r12_run (tbl : TB) (fin : Fin) (K : List Fr) (e : Env) (H : List AO) : run tbl fin K f17r12 e H = regK tbl fin K [] f17o12 [34, 21, 1, 3, 6] e H := run_regK tbl fin K false [] f17o12 [34, 21, 1, 3, 6] e H rfl
@[simp] def f17o13 : List IOper := [
  ⟨(some 8), .mv (.c (.int .i64 14)), none, none⟩]
def f17r13 : IC := .reg false [] f17o13 [1, 8, 3, 6]
@[simp] theorem f17r13_run (tbl : TB) (fin : Fin) (K : List Fr) (e : Env) (H : List AO) : run tbl fin K f17r13 e H = regK tbl fin K [] f17o13 [1, 8, 3, 6] e H := run_regK tbl fin K false [] f17o13 [1, 8, 3, 6] e H rfl
@[simp] def f17o14 : List IOper := [
  ⟨(some 37), .bin .eql (.t 21) (.c (.int .i64 6)), none, none⟩,
  ⟨(some 36), .mv (.t 37), none, none⟩]
def f17r14 : IC := .reg false [] f17o14 [36, 21, 1, 3, 6]
@[simp] theorem f17r14_run (tbl : TB) (fin : Fin) (K : List Fr) (e : Env) (H : List AO) : run tbl fin K f17r14 e H = regK tbl fin K [] f17o14 [36, 21, 1, 3, 6] e H := run_regK tbl fin K false [] f17o14 [36, 21, 1, 3, 6] e H rfl
@[simp] def f17o15 : List IOper := [
  ⟨(some 8), .mv (.c (.int .i64 11)), none, none⟩]
def f17r15 : IC := .reg false [] f17o15 [1, 8, 3, 6]
@[simp] theorem f17r15_run (tbl : TB) (fin : Fin) (K : List Fr) (e : Env) (H : List AO) : run tbl fin K f17r15 e H = regK tbl fin K [] f17o15 [1, 8, 3, 6] e H := run_regK tbl fin K false [] f17o15 [1, 8, 3, 6] e H rfl
@[simp] def f17o16 : List IOper := [
  ⟨(some 39), .bin .eql (.t 21) (.c (.int .i64 8)), none, none⟩,
  ⟨(some 38), .mv (.t 39), none, none⟩]
def f17r16 : IC := .reg false [] f17o16 [38, 21, 3, 1, 6]
@[simp] theorem f17r16_run (tbl : TB) (fin : Fin) (K : List Fr) (e : Env) (H : List AO) : run tbl fin K f17r16 e H = regK tbl fin K [] f17o16 [38, 21, 3, 1, 6] e H := run_regK tbl fin K false [] f17o16 [38, 21, 3, 1, 6] e H rfl
@[simp] def f17o17 : List IOper := [
  ⟨(some 40), .fld 1 (.t 3), none, none⟩,
  ⟨(some 41), .load false 1 (.t 40), none, none⟩,
  ⟨(some 42), .mv (.t 1), none, none⟩,
  ⟨(some 43), .build [(.int .i64 0), (.int .i64 0), (.int .i64 0), (.int .i64 0), (.str []), (.str [])] [(0, 1, (.c (.int .i64 4))), (1, 1, (.t 41)), (5, 1, (.t 42))], none, none⟩,
  ⟨none, .store 6 (.t 6) (.t 43), none, none⟩,
  ⟨(some 7), .mv (.c (.int .i64 0)), none, none⟩]
def f17r17 : IC := .reg false [] f17o17 [6, 7]
@[simp] theorem f17r17_run (tbl : TB) (fin : Fin) (K : List Fr) (e : Env) (H : List AO) : run tbl fin K f17r17 e H = regK tbl fin K [] f17o17 [6, 7] e H := run_regK tbl fin K false [] f17o17 [6, 7] e H rfl
@[simp] def f17o18 : List IOper := [
  ⟨(some 45), .bin .eql (.t 21) (.c (.int .i64 4)), none, none⟩,
  ⟨(some 44), .mv (.t 45), none, none⟩]
def f17r18 : IC := .reg false [] f17o18 [21, 44, 1, 3, 6]
@[simp] theorem f17r18_run (tbl : TB) (fin : Fin) (K : List Fr) (e : Env) (H : List AO) : run tbl fin K f17r18 e H = regK tbl fin K [] f17o18 [21, 44, 1, 3, 6] e H := run_regK tbl fin K false [] f17o18 [21, 44, 1, 3, 6] e H rfl
@[simp] def f17o19 : List IOper := [
  ⟨(some 46), .bin .eql (.t 21) (.c (.int .i64 5)), none, none⟩,
  ⟨(some 44), .mv (.t 46), none, none⟩]
def f17r19 : IC := .reg false [] f17o19 [44, 1, 3, 6]
@[simp] theorem f17r19_run (tbl : TB) (fin : Fin) (K : List Fr) (e : Env) (H : List AO) : run tbl fin K f17r19 e H = regK tbl fin K [] f17o19 [44, 1, 3, 6] e H := run_regK tbl fin K false [] f17o19 [44, 1, 3, 6] e H rfl
@[simp] def f17o20 : List IOper := [
  ⟨(some 47), .mv (.t 1), none, none⟩,
  ⟨(some 48), .bin .eql (.t 47) (.c (.str [45])), none, none⟩]
def f17r20 : IC := .reg false [] f17o20 [48, 1, 3, 6]
@[simp] theorem f17r20_run (tbl : TB) (fin : Fin) (K : List Fr) (e : Env) (H : List AO) : run tbl fin K f17r20 e H = regK tbl fin K [] f17o20 [48, 1, 3, 6] e H := run_regK tbl fin K false [] f17o20 [48, 1, 3, 6] e H rfl
@[simp] def f17o21 : List IOper := [
  ⟨(some 49), .fld 1 (.t 3), none, none⟩,
  ⟨(some 50), .load false 1 (.t 49), none, none⟩,
  ⟨(some 51), .build [(.int .i64 0), (.int .i64 0), (.int .i64 0), (.int .i64 0), (.str []), (.str [])] [(0, 1, (.c (.int .i64 3))), (1, 1, (.t 50))], none, none⟩,
  ⟨none, .store 6 (.t 6) (.t 51), none, none⟩,
  ⟨(some 7), .mv (.c (.int .i64 0)), none, none⟩]
def f17r21 : IC := .reg false [] f17o21 [6, 7]
@[simp] theorem f17r21_run (tbl : TB) (fin : Fin) (K : List Fr) (e : Env) (H : List AO) : run tbl fin K f17r21 e H = regK tbl fin K [] f17o21 [6, 7] e H := run_regK tbl fin K false [] f17o21 [6, 7] e H rfl
@[simp] def f17o22 : List IOper := [
  ⟨(some 53), .mv (.t 1), none, none⟩,
  ⟨(some 54), .call (.c (.fn 21 [])) [(.t 53)], none, none⟩,
  ⟨(some 52), .mv (.t 54), none, none⟩,
  ⟨(some 55), .ext (.t 52) 0, none, none⟩,
  ⟨(some 56), .ext (.t 52) 1, none, none⟩,
  ⟨(some 9), .mv (.t 55), none, none⟩,
  ⟨(some 10), .mv (.t 56), none, none⟩]
def f17r22 : IC := .reg false [] f17o22 [10, 9, 3, 6]
@[simp] theorem f17r22_run (tbl : TB) (fin : Fin) (K : List Fr) (e : Env) (H : List AO) : run tbl fin K f17r22 e H = regK tbl fin K [] f17o22 [10, 9, 3, 6] e H := run_regK tbl fin K false [] f17o22 [10, 9, 3, 6] e H rfl
@[simp] def f17o23 : List IOper := [
  ⟨(some 57), .mv (.t 10), none, none⟩,
  ⟨(some 58), .un .not (.t 57), none, none⟩,
  ⟨(some 59), .mv (.t 58), none, none⟩,
  ⟨(some 60), .mv (.t 9), (some (59, false)), none⟩,
  ⟨(some 61), .bin .gtr (.t 60) (.c (.int .i64 9)), (some (59, false)), none⟩,
  ⟨(some 62), .pick (.t 59) (.c (.bool true)) (.t 61), none, none⟩]
def f17r23 : IC := .reg false [] f17o23 [62, 9, 3, 6]
@[simp] theorem f17r23_run (tbl : TB) (fin : Fin) (K : List Fr) (e : Env) (H : List AO) : run tbl fin K f17r23 e H = regK tbl fin K [] f17o23 [62, 9, 3, 6] e H := run_regK tbl fin K false [] f17o23 [62, 9, 3, 6] e H rfl
@[simp] def f17o24 : List IOper := [
  ⟨(some 63), .build [(.int .i64 0), (.int .i64 0), (.int .i64 0), (.int .i64 0), (.str []), (.str [])] [], none, none⟩,
  ⟨none, .store 6 (.t 6) (.t 63), none, none⟩,
  ⟨(some 7), .mv (.c (.int .i64 26)), none, none⟩]
def f17r24 : IC := .reg false [] f17o24 [6, 7]
@[simp] theorem f17r24_run (tbl : TB) (fin : Fin) (K : List Fr) (e : Env) (H : List AO) : run tbl fin K f17r24 e H = regK tbl fin K [] f17o24 [6, 7] e H := run_regK tbl fin K false [] f17o24 [6, 7] e H rfl
@[simp] def f17o25 : List IOper := [
  ⟨(some 64), .fld 1 (.t 3), none, none⟩,
  ⟨(some 65), .load false 1 (.t 64), none, none⟩,
  ⟨(some 66), .mv (.t 9), none, none⟩,
  ⟨(some 67), .build [(.int .i64 0), (.int .i64 0), (.int .i64 0), (.int .i64 0), (.str []), (.str [])] [(0, 1, (.c (.int .i64 2))), (1, 1, (.t 65)), (2, 1, (.t 66))], none, none⟩,
  ⟨none, .store 6 (.t 6) (.t 67), none, none⟩,
  ⟨(some 7), .mv (.c (.int .i64 0)), none, none⟩]
def f17r25 : IC := .reg false [] f17o25 [6, 7]
@[simp] theorem f17r25_run (tbl : TB) (fin : Fin) (K : List Fr) (e : Env) (H : List AO) : run tbl fin K f17r25 e H = regK tbl fin K [] f17o25 [6, 7] e H := run_regK tbl fin K false [] f17o25 [6, 7] e H rfl
@[simp] def f17o26 : List IOper := [
  ⟨(some 22), .build [(.int .i64 0), (.int .i64 0), (.int .i64 0), (.int .i64 0), (.str []), (.str [])] [], none, none⟩,
  ⟨none, .store 6 (.t 6) (.t 22), none, none⟩,
  ⟨(some 7), .mv (.c (.int .i64 1)), none, none⟩]
def f17r26 : IC := .reg false [] f17o26 [6, 7]
@[simp] theorem f17r26_run (tbl : TB) (fin : Fin) (K : List Fr) (e : Env) (H : List AO) : run tbl fin K f17r26 e H = regK tbl fin K [] f17o26 [6, 7] e H := run_regK tbl fin K false [] f17o26 [6, 7] e H rfl
@[simp] def f17o27 : List IOper := [
  ⟨(some 68), .mv (.t 1), none, none⟩,
  ⟨(some 69), .bin .eql (.t 68) (.c (.str [])), none, none⟩]
def f17r27 : IC := .reg false [] f17o27 [69, 1, 8, 3, 6]
@[simp] theorem f17r27_run (tbl : TB) (fin : Fin) (K : List Fr) (e : Env) (H : List AO) : run tbl fin K f17r27 e H = regK tbl fin K [] f17o27 [69, 1, 8, 3, 6] e H := run_regK tbl fin K false [] f17o27 [69, 1, 8, 3, 6] e H rfl
@[simp] def f17o28 : List IOper := [
  ⟨(some 70), .build [(.int .i64 0), (.int .i64 0), (.int .i64 0), (.int .i64 0), (.str []), (.str [])] [], none, none⟩,
  ⟨none, .store 6 (.t 6) (.t 70), none, none⟩,
  ⟨(some 7), .mv (.c (.int .i64 8)), none, none⟩]
def f17r28 : IC := .reg false [] f17o28 [6, 7]
@[simp] theorem f17r28_run (tbl : TB) (fin : Fin) (K : List Fr) (e : Env) (H : List AO) : run tbl fin K f17r28 e H = regK tbl fin K [] f17o28 [6, 7] e H := run_regK tbl fin K false [] f17o28 [6, 7] e H rfl
@[simp] def f17o29 : List IOper := [
  ⟨(some 71), .fld 1 (.t 3), none, none⟩,
  ⟨(some 72), .load false 1 (.t 71), none, none⟩,
  ⟨(some 73), .mv (.t 8), none, none⟩,
  ⟨(some 74), .mv (.t 1), none, none⟩,
  ⟨(some 75), .build [(.int .i64 0), (.int .i64 0), (.int .i64 0), (.int .i64 0), (.str []), (.str [])] [(0, 1, (.c (.int .i64 1))), (1, 1, (.t 72)), (3, 1, (.t 73)), (4, 1, (.t 74))], none, none⟩,
  ⟨none, .store 6 (.t 6) (.t 75), none, none⟩,
  ⟨(some 7), .mv (.c (.int .i64 0)), none, none⟩]
def f17r29 : IC := .reg false [] f17o29 [6, 7]
@[simp] theorem f17r29_run (tbl : TB) (fin : Fin) (K : List Fr) (e : Env) (H : List AO) : run tbl fin K f17r29 e H = regK tbl fin K [] f17o29 [6, 7] e H := run_regK tbl fin K false [] f17o29 [6, 7] e H rfl
def f17body : IC := (.seq f17r0 (.seq (.seq f17r1 (.cond (.t 18) (.seq f17r2 .ret) .skip)) (.seq f17r3 (.seq (.seq f17r4 (.block 0 (.seq f17r5 (.cond (.t 23) f17r6 (.seq (.seq f17r7 (.cond (.t 25) .skip f17r8)) (.cond (.t 25) (.seq f17r9 (.seq f17r10 (.cond (.t 33) f17r11 .skip))) (.seq f17r12 (.cond (.t 34) f17r13 (.seq f17r14 (.cond (.t 36) f17r15 (.seq f17r16 (.cond (.t 38) (.seq f17r17 .ret) (.seq (.seq f17r18 (.cond (.t 44) .skip f17r19)) (.cond (.t 44) (.seq (.seq f17r20 (.cond (.t 48) (.seq f17r21 .ret) .skip)) (.seq f17r22 (.seq (.seq f17r23 (.cond (.t 62) (.seq f17r24 .ret) .skip)) (.seq f17r25 .ret)))) (.seq f17r26 .ret))))))))))))))) (.seq (.seq f17r27 (.cond (.t 69) (.seq f17r28 .ret) .skip)) (.seq f17r29 .ret))))))
def f17 : IFn := ⟨76, 3, [.cell 6 true 6, .tmp 7], f17body⟩
/- 18: jobshell/redirect.Keep$1 -/
@[simp] def f18o0 : List IOper := [
  ⟨(some 6), .load false 1 (.t 2), none, none⟩,
  ⟨(some 7), .mv (.t 0), none, none⟩,
  ⟨(some 8), .build [(.int .i64 0), (.int .i64 0), (.int .i64 0), (.int .i64 0), (.str []), (.str [])] [(0, 1, (.c (.int .i64 5))), (1, 1, (.t 7)), (2, 1, (.c (.int .i64 10)))], none, none⟩,
  ⟨(some 9), .mkimm 6 1 (.agg [(.int .i64 0), (.int .i64 0), (.int .i64 0), (.int .i64 0), (.str []), (.str [])]) [(0, (.t 8))], none, none⟩,
  ⟨(some 10), .app 37 6 (.t 6) (.t 9), none, none⟩,
  ⟨none, .store 1 (.t 2) (.t 10), none, none⟩]
def f18r0 : IC := .reg false [] f18o0 [1, 3]
@[simp] theorem f18r0_run (tbl : TB) (fin : Fin) (K : List Fr) (e : Env) (H : List AO) : run tbl fin K f18r0 e H = regK tbl fin K [] f18o0 [1, 3] e H := run_regK tbl fin K false [] f18o0 [1, 3] e H rfl
@[simp] def f18o1 : List IOper := [
  ⟨(some 11), .load false 1 (.t 3), none, none⟩,
  ⟨(some 12), .mv (.t 1), none, none⟩,
  ⟨(some 13), .build [(.int .i64 0), (.int .i64 0), (.int .i64 0), (.int .i64 0), (.str []), (.str [])] [(0, 1, (.c (.int .i64 6))), (1, 1, (.t 12)), (2, 1, (.c (.int .i64 (-1))))], none, none⟩,
  ⟨(some 14), .mkimm 6 1 (.agg [(.int .i64 0), (.int .i64 0), (.int .i64 0), (.int .i64 0), (.str []), (.str [])]) [(0, (.t 13))], none, none⟩,
  ⟨(some 15), .app 37 6 (.t 11) (.t 14), none, none⟩,
  ⟨none, .store 1 (.t 3) (.t 15), none, none⟩]
def f18r1 : IC := .reg false [] f18o1 []
@[simp] theorem f18r1_run (tbl : TB) (fin : Fin) (K : List Fr) (e : Env) (H : List AO) : run tbl fin K f18r1 e H = regK tbl fin K [] f18o1 [] e H := run_regK tbl fin K false [] f18o1 [] e H rfl
def f18body : IC := (.seq f18r0 f18r1)
def f18 : IFn := ⟨16, 4, [], f18body⟩
/- 19: jobshell/jobshellref35.Texts -/
@[simp] def f19o0 : List IOper := [
  ⟨(some 4), .mv (.c (.bool false)), none, none⟩]
def f19r0 : IC := .reg false [] f19o0 [1, 0]
@[simp] theorem f19r0_run (tbl : TB) (fin : Fin) (K : List Fr) (e : Env) (H : List AO) : run tbl fin K f19r0 e H = regK tbl fin K [] f19o0 [1, 0] e H := run_regK tbl fin K false [] f19o0 [1, 0] e H rfl
@[simp] def f19o1 : List IOper := [
  ⟨(some 6), .mv (.t 0), none, none⟩,
  ⟨(some 7), .len (.t 6), none, none⟩,
  ⟨(some 8), .mv (.t 1), none, none⟩,
  ⟨(some 9), .len (.t 8), none, none⟩,
  ⟨(some 10), .bin .neq (.t 7) (.t 9), none, none⟩]
def f19r1 : IC := .reg false [] f19o1 [10, 1, 0]
@[simp] theorem f19r1_run (tbl : TB) (fin : Fin) (K : List Fr) (e : Env) (H : List AO) : run tbl fin K f19r1 e H = regK tbl fin K [] f19o1 [10, 1, 0] e H := run_regK tbl fin K false [] f19o1 [10, 1, 0] e H rfl
@[simp] def f19o2 : List IOper := [
  ⟨(some 4), .mv (.c (.bool false)), none, none⟩]
def f19r2 : IC := .reg false [] f19o2 [4]
@[simp] theorem f19r2_run (tbl : TB) (fin : Fin) (K : List Fr) (e : Env) (H : List AO) : run tbl fin K f19r2 e H = regK tbl fin K [] f19o2 [4] e H := run_regK tbl fin K false [] f19o2 [4] e H rfl
@[simp] def f19o3 : List IOper := [
  ⟨(some 11), .mv (.t 0), none, none⟩,
  ⟨(some 12), .len (.t 11), none, none⟩,
  ⟨(some 13), .mv (.c (.int .i64 0)), none, none⟩]
def f19r3 : IC := .reg false [] f19o3 [12, 0, 1, 13]
@[simp] theorem f19r3_run (tbl : TB) (fin : Fin) (K : List Fr) (e : Env) (H : List AO) : run tbl fin K f19r3 e H = regK tbl fin K [] f19o3 [12, 0, 1, 13] e H := run_regK tbl fin K false [] f19o3 [12, 0, 1, 13] e H rfl
@[simp] def f19o4 : List IOper := [
  ⟨(some 14), .bin .lss (.t 13) (.t 12), none, none⟩]
def f19r4 : IC := .reg false [] f19o4 [14, 1, 0, 12, 13]
@[simp] theorem f19r4_run (tbl : TB) (fin : Fin) (K : List Fr) (e : Env) (H : List AO) : run tbl fin K f19r4 e H = regK tbl fin K [] f19o4 [14, 1, 0, 12, 13] e H := run_regK tbl fin K false [] f19o4 [14, 1, 0, 12, 13] e H rfl
@[simp] def f19o5 : List IOper := [
  ⟨(some 15), .mv (.t 13), none, none⟩,
  ⟨(some 5), .mv (.t 15), none, none⟩]
def f19r5 : IC := .reg false [] f19o5 [5, 1, 0, 12, 13]
@[simp] theorem f19r5_run (tbl : TB) (fin : Fin) (K : List Fr) (e : Env) (H : List AO) : run tbl fin K f19r5 e H = regK tbl fin K [] f19o5 [5, 1, 0, 12, 13] e H := run_regK tbl fin K false [] f19o5 [5, 1, 0, 12, 13] e H rfl
@[simp] def f19o6 : List IOper := [
  ⟨(some 16), .mv (.t 0), none, none⟩,
  ⟨(some 17), .mv (.t 5), none, none⟩,
  ⟨(some 18), .idx 1 (.t 16) (.t 17), none, none⟩,
  ⟨(some 19), .load false 1 (.t 18), none, none⟩,
  ⟨(some 20), .mv (.t 1), none, none⟩,
  ⟨(some 21), .mv (.t 5), none, none⟩,
  ⟨(some 22), .idx 1 (.t 20) (.t 21), none, none⟩,
  ⟨(some 23), .load false 1 (.t 22), none, none⟩,
  ⟨(some 24), .bin .neq (.t 19) (.t 23), none, none⟩]
def f19r6 : IC := .reg true [] f19o6 [24, 1, 0, 12, 13]
@[simp] theorem f19r6_run (tbl : TB) (fin : Fin) (K : List Fr) (e : Env) (H : List AO) : run tbl fin K f19r6 e H = regK tbl fin K [] f19o6 [24, 1, 0, 12, 13] e H := run_regK tbl fin K true [] f19o6 [24, 1, 0, 12, 13] e H rfl
@[simp] def f19o7 : List IOper := [
  ⟨(some 4), .mv (.c (.bool false)), none, none⟩]
def f19r7 : IC := .reg false [] f19o7 [4]
@[simp] theorem f19r7_run (tbl : TB) (fin : Fin) (K : List Fr) (e : Env) (H : List AO) : run tbl fin K f19r7 e H = regK tbl fin K [] f19o7 [4] e H := run_regK tbl fin K false [] f19o7 [4] e H rfl
@[simp] def f19o8 : List IOper := [
  ⟨(some 25), .bin .add (.t 13) (.c (.int .i64 1)), none, none⟩,
  ⟨(some 13), .mv (.t 25), none, none⟩]
def f19r8 : IC := .reg false [] f19o8 [12, 0, 1, 13]
@[simp] theorem f19r8_run (tbl : TB) (fin : Fin) (K : List Fr) (e : Env) (H : List AO) : run tbl fin K f19r8 e H = regK tbl fin K [] f19o8 [12, 0, 1, 13] e H := run_regK tbl fin K false [] f19o8 [12, 0, 1, 13] e H rfl
def f19b9 : IC := (.seq f19r4 (.seq (.cond (.t 14) .skip (.exit 0)) (.seq (.block 1 (.seq f19r5 (.seq f19r6 (.cond (.t 24) (.seq f19r7 .ret) .skip)))) f19r8)))
theorem f19b9_eq : f19b9 = (.seq f19r4 (.seq (.cond (.t 14) .skip (.exit 0)) (.seq (.block 1 (.seq f19r5 (.seq f19r6 (.cond (.t 24) (.seq f19r7 .ret) .skip)))) f19r8))) := rfl
@[simp] def f19o10 : List IOper := [
  ⟨(some 4), .mv (.c (.bool true)), none, none⟩]
def f19r10 : IC := .reg false [] f19o10 [4]
@[simp] theorem f19r10_run (tbl : TB) (fin : Fin) (K : List Fr) (e : Env) (H : List AO) : run tbl fin K f19r10 e H = regK tbl fin K [] f19o10 [4] e H := run_regK tbl fin K false [] f19o10 [4] e H rfl
def f19body : IC := (.seq f19r0 (.seq (.seq f19r1 (.cond (.t 10) (.seq f19r2 .ret) .skip)) (.seq (.seq f19r3 (.block 0 (.loop [12, 0, 1, 13] f19b9))) (.seq f19r10 .ret))))
def f19 : IFn := ⟨26, 2, [.tmp 4], f19body⟩
/- 20: jobshell/chars.Digits -/
@[simp] def f20o0 : List IOper := [
  ⟨(some 2), .mv (.c (.int .i64 0)), none, none⟩,
  ⟨(some 3), .mv (.c (.bool false)), none, none⟩]
def f20r0 : IC := .reg false [] f20o0 [0]
@[simp] theorem f20r0_run (tbl : TB) (fin : Fin) (K : List Fr) (e : Env) (H : List AO) : run tbl fin K f20r0 e H = regK tbl fin K [] f20o0 [0] e H := run_regK tbl fin K false [] f20o0 [0] e H rfl
@[simp] def f20o1 : List IOper := [
  ⟨(some 7), .mv (.t 0), none, none⟩,
  ⟨(some 8), .bin .eql (.t 7) (.c (.str [48])), none, none⟩]
def f20r1 : IC := .reg false [] f20o1 [8, 0]
@[simp] theorem f20r1_run (tbl : TB) (fin : Fin) (K : List Fr) (e : Env) (H : List AO) : run tbl fin K f20r1 e H = regK tbl fin K [] f20o1 [8, 0] e H := run_regK tbl fin K false [] f20o1 [8, 0] e H rfl
@[simp] def f20o2 : List IOper := [
  ⟨(some 2), .mv (.c (.int .i64 0)), none, none⟩,
  ⟨(some 3), .mv (.c (.bool true)), none, none⟩]
def f20r2 : IC := .reg false [] f20o2 [2, 3]
@[simp] theorem f20r2_run (tbl : TB) (fin : Fin) (K : List Fr) (e : Env) (H : List AO) : run tbl fin K f20r2 e H = regK tbl fin K [] f20o2 [2, 3] e H := run_regK tbl fin K false [] f20o2 [2, 3] e H rfl
@[simp] def f20o3 : List IOper := [
  ⟨(some 9), .mv (.t 0), none, none⟩,
  ⟨(some 10), .bin .eql (.t 9) (.c (.str [])), none, none⟩,
  ⟨(some 11), .mv (.t 10), none, none⟩,
  ⟨(some 12), .mv (.t 0), (some (11, false)), none⟩,
  ⟨(some 13), .sidx (.t 12) (.c (.int .i64 0)), (some (11, false)), none⟩,
  ⟨(some 14), .bin .eql (.t 13) (.c (.int .u8 48)), (some (11, false)), none⟩,
  ⟨(some 15), .pick (.t 11) (.c (.bool true)) (.t 14), none, none⟩]
def f20r3 : IC := .reg false [] f20o3 [15, 0]
@[simp] theorem f20r3_run (tbl : TB) (fin : Fin) (K : List Fr) (e : Env) (H : List AO) : run tbl fin K f20r3 e H = regK tbl fin K [] f20o3 [15, 0] e H := run_regK tbl fin K false [] f20o3 [15, 0] e H rfl
@[simp] def f20o4 : List IOper := [
  ⟨(some 2), .mv (.c (.int .i64 0)), none, none⟩,
  ⟨(some 3), .mv (.c (.bool false)), none, none⟩]
def f20r4 : IC := .reg false [] f20o4 [2, 3]
@[simp] theorem f20r4_run (tbl : TB) (fin : Fin) (K : List Fr) (e : Env) (H : List AO) : run tbl fin K f20r4 e H = regK tbl fin K [] f20o4 [2, 3] e H := run_regK tbl fin K false [] f20o4 [2, 3] e H rfl
@[simp] def f20o5 : List IOper := [
  ⟨(some 4), .mv (.c (.int .i64 0)), none, none⟩]
def f20r5 : IC := .reg false [] f20o5 [0, 4]
@[simp] theorem f20r5_run (tbl : TB) (fin : Fin) (K : List Fr) (e : Env) (H : List AO) : run tbl fin K f20r5 e H = regK tbl fin K [] f20o5 [0, 4] e H := run_regK tbl fin K false [] f20o5 [0, 4] e H rfl
@[simp] def f20o6 : List IOper := [
  ⟨(some 16), .mv (.t 0), none, none⟩,
  ⟨(some 17), .rstr (.t 16), none, none⟩]
def f20r6 : IC := .reg false [] f20o6 [17, 4]
@[simp] theorem f20r6_run (tbl : TB) (fin : Fin) (K : List Fr) (e : Env) (H : List AO) : run tbl fin K f20r6 e H = regK tbl fin K [] f20o6 [17, 4] e H := run_regK tbl fin K false [] f20o6 [17, 4] e H rfl
@[simp] def f20o7 : List IOper := [
  ⟨(some 18), .nstr (.t 17), none, none⟩,
  ⟨(some 19), .ext (.t 18) 0, none, none⟩]
def f20r7 : IC := .reg false [] f20o7 [19, 18, 17, 4]
@[simp] theorem f20r7_run (tbl : TB) (fin : Fin) (K : List Fr) (e : Env) (H : List AO) : run tbl fin K f20r7 e H = regK tbl fin K [] f20o7 [19, 18, 17, 4] e H := run_regK tbl fin K false [] f20o7 [19, 18, 17, 4] e H rfl
@[simp] def f20o8 : List IOper := [
  ⟨(some 20), .ext (.t 18) 2, none, none⟩,
  ⟨(some 6), .mv (.t 20), none, none⟩]
def f20r8 : IC := .reg false [] f20o8 [17, 6, 4]
@[simp] theorem f20r8_run (tbl : TB) (fin : Fin) (K : List Fr) (e : Env) (H : List AO) : run tbl fin K f20r8 e H = regK tbl fin K [] f20o8 [17, 6, 4] e H := run_regK tbl fin K false [] f20o8 [17, 6, 4] e H rfl
@[simp] def f20o9 : List IOper := [
  ⟨(some 21), .mv (.t 6), none, none⟩,
  ⟨(some 22), .call (.c (.fn 22 [])) [(.t 21)], none, none⟩,
  ⟨(some 23), .un .not (.t 22), none, none⟩]
def f20r9 : IC := .reg false [] f20o9 [23, 17, 6, 4]
@[simp] theorem f20r9_run (tbl : TB) (fin : Fin) (K : List Fr) (e : Env) (H : List AO) : run tbl fin K f20r9 e H = regK tbl fin K [] f20o9 [23, 17, 6, 4] e H := run_regK tbl fin K false [] f20o9 [23, 17, 6, 4] e H rfl
@[simp] def f20o10 : List IOper := [
  ⟨(some 2), .mv (.c (.int .i64 0)), none, none⟩,
  ⟨(some 3), .mv (.c (.bool false)), none, none⟩]
def f20r10 : IC := .reg false [] f20o10 [2, 3]
@[simp] theorem f20r10_run (tbl : TB) (fin : Fin) (K : List Fr) (e : Env) (H : List AO) : run tbl fin K f20r10 e H = regK tbl fin K [] f20o10 [2, 3] e H := run_regK tbl fin K false [] f20o10 [2, 3] e H rfl
@[simp] def f20o11 : List IOper := [
  ⟨(some 24), .mv (.t 4), none, none⟩,
  ⟨(some 25), .bin .mul (.c (.int .i64 10)) (.t 24), none, none⟩,
  ⟨(some 26), .mv (.t 6), none, none⟩,
  ⟨(some 27), .bin .sub (.t 26) (.c (.int .i32 48)), none, none⟩,
  ⟨(some 28), .conv .i64 (.t 27), none, none⟩,
  ⟨(some 29), .bin .add (.t 25) (.t 28), none, none⟩,
  ⟨(some 4), .mv (.t 29), none, none⟩]
def f20r11 : IC := .reg false [] f20o11 [4, 17]
@[simp] theorem f20r11_run (tbl : TB) (fin : Fin) (K : List Fr) (e : Env) (H : List AO) : run tbl fin K f20r11 e H = regK tbl fin K [] f20o11 [4, 17] e H := run_regK tbl fin K false [] f20o11 [4, 17] e H rfl
@[simp] def f20o12 : List IOper := [
  ⟨(some 30), .mv (.t 4), none, none⟩,
  ⟨(some 31), .bin .gtr (.t 30) (.c (.int .i64 2147483647)), none, none⟩]
def f20r12 : IC := .reg false [] f20o12 [31, 4, 17]
@[simp] theorem f20r12_run (tbl : TB) (fin : Fin) (K : List Fr) (e : Env) (H : List AO) : run tbl fin K f20r12 e H = regK tbl fin K [] f20o12 [31, 4, 17] e H := run_regK tbl fin K false [] f20o12 [31, 4, 17] e H rfl
@[simp] def f20o13 : List IOper := [
  ⟨(some 2), .mv (.c (.int .i64 0)), none, none⟩,
  ⟨(some 3), .mv (.c (.bool false)), none, none⟩]
def f20r13 : IC := .reg false [] f20o13 [2, 3]
@[simp] theorem f20r13_run (tbl : TB) (fin : Fin) (K : List Fr) (e : Env) (H : List AO) : run tbl fin K f20r13 e H = regK tbl fin K [] f20o13 [2, 3] e H := run_regK tbl fin K false [] f20o13 [2, 3] e H rfl
def f20b14 : IC := (.seq f20r7 (.seq (.cond (.t 19) .skip (.exit 0)) (.block 1 (.seq f20r8 (.seq (.seq f20r9 (.cond (.t 23) (.seq f20r10 .ret) .skip)) (.seq f20r11 (.seq f20r12 (.cond (.t 31) (.seq f20r13 .ret) .skip))))))))
theorem f20b14_eq : f20b14 = (.seq f20r7 (.seq (.cond (.t 19) .skip (.exit 0)) (.block 1 (.seq f20r8 (.seq (.seq f20r9 (.cond (.t 23) (.seq f20r10 .ret) .skip)) (.seq f20r11 (.seq f20r12 (.cond (.t 31) (.seq f20r13 .ret) .skip)))))))) := rfl
@[simp] def f20o15 : List IOper := [
  ⟨(some 32), .mv (.t 4), none, none⟩,
  ⟨(some 2), .mv (.t 32), none, none⟩,
  ⟨(some 3), .mv (.c (.bool true)), none, none⟩]
def f20r15 : IC := .reg false [] f20o15 [2, 3]
@[simp] theorem f20r15_run (tbl : TB) (fin : Fin) (K : List Fr) (e : Env) (H : List AO) : run tbl fin K f20r15 e H = regK tbl fin K [] f20o15 [2, 3] e H := run_regK tbl fin K false [] f20o15 [2, 3] e H rfl
def f20body : IC := (.seq f20r0 (.seq (.seq f20r1 (.cond (.t 8) (.seq f20r2 .ret) .skip)) (.seq (.seq f20r3 (.cond (.t 15) (.seq f20r4 .ret) .skip)) (.seq f20r5 (.seq (.seq f20r6 (.block 0 (.loop [17, 4] f20b14))) (.seq f20r15 .ret))))))
def f20 : IFn := ⟨33, 1, [.tmp 2, .tmp 3], f20body⟩
/- 21: jobshell/jobshellref01.Digits -/
@[simp] def f21o0 : List IOper := [
  ⟨(some 2), .mv (.c (.int .i64 0)), none, none⟩,
  ⟨(some 3), .mv (.c (.bool false)), none, none⟩]
def f21r0 : IC := .reg false [] f21o0 [0]
@[simp] theorem f21r0_run (tbl : TB) (fin : Fin) (K : List Fr) (e : Env) (H : List AO) : run tbl fin K f21r0 e H = regK tbl fin K [] f21o0 [0] e H := run_regK tbl fin K false [] f21o0 [0] e H rfl
@[simp] def f21o1 : List IOper := [
  ⟨(some 6), .mv (.t 0), none, none⟩,
  ⟨(some 7), .bin .eql (.t 6) (.c (.str [])), none, none⟩,
  ⟨(some 8), .mv (.t 7), none, none⟩,
  ⟨(some 9), .mv (.t 0), (some (8, false)), none⟩,
  ⟨(some 10), .slen (.t 9), (some (8, false)), none⟩,
  ⟨(some 11), .bin .gtr (.t 10) (.c (.int .i64 10)), (some (8, false)), none⟩,
  ⟨(some 12), .pick (.t 8) (.c (.bool true)) (.t 11), none, none⟩,
  ⟨(some 13), .mv (.t 12), none, some [13, 0]⟩,
  ⟨(some 14), .mv (.t 0), (some (13, false)), none⟩,
  ⟨(some 15), .sidx (.t 14) (.c (.int .i64 0)), (some (13, false)), none⟩,
  ⟨(some 16), .bin .eql (.t 15) (.c (.int .u8 48)), (some (13, false)), none⟩,
  ⟨(some 17), .mv (.t 16), (some (13, false)), none⟩,
  ⟨(some 18), .mv (.t 0), (some (17, true)), none⟩,
  ⟨(some 19), .slen (.t 18), (some (17, true)), none⟩,
  ⟨(some 20), .bin .gtr (.t 19) (.c (.int .i64 1)), (some (17, true)), none⟩,
  ⟨(some 21), .pick (.t 17) (.t 20) (.c (.bool false)), (some (13, false)), some [21, 13, 0]⟩,
  ⟨(some 22), .pick (.t 13) (.c (.bool true)) (.t 21), none, none⟩]
def f21r1 : IC := .reg false [] f21o1 [22, 0]
@[simp] theorem f21r1_run (tbl : TB) (fin : Fin) (K : List Fr) (e : Env) (H : List AO) : run tbl fin K f21r1 e H = regK tbl fin K [] f21o1 [22, 0] e H := run_regK tbl fin K false [] f21o1 [22, 0] e H rfl
@[simp] def f21o2 : List IOper := [
  ⟨(some 2), .mv (.c (.int .i64 0)), none, none⟩,
  ⟨(some 3), .mv (.c (.bool false)), none, none⟩]
def f21r2 : IC := .reg false [] f21o2 [2, 3]
@[simp] theorem f21r2_run (tbl : TB) (fin : Fin) (K : List Fr) (e : Env) (H : List AO) : run tbl fin K f21r2 e H = regK tbl fin K [] f21o2 [2, 3] e H := run_regK tbl fin K false [] f21o2 [2, 3] e H rfl
@[simp] def f21o3 : List IOper := [
  ⟨(some 4), .mv (.c (.int .i64 0)), none, none⟩]
def f21r3 : IC := .reg false [] f21o3 [0, 4]
@[simp] theorem f21r3_run (tbl : TB) (fin : Fin) (K : List Fr) (e : Env) (H : List AO) : run tbl fin K f21r3 e H = regK tbl fin K [] f21o3 [0, 4] e H := run_regK tbl fin K false [] f21o3 [0, 4] e H rfl
@[simp] def f21o4 : List IOper := [
  ⟨(some 5), .mv (.c (.int .i64 0)), none, none⟩]
def f21r4 : IC := .reg false [] f21o4 [0, 5, 4]
@[simp] theorem f21r4_run (tbl : TB) (fin : Fin) (K : List Fr) (e : Env) (H : List AO) : run tbl fin K f21r4 e H = regK tbl fin K [] f21o4 [0, 5, 4] e H := run_regK tbl fin K false [] f21o4 [0, 5, 4] e H rfl
@[simp] def f21o5 : List IOper := [
  ⟨(some 23), .mv (.t 5), none, none⟩,
  ⟨(some 24), .mv (.t 0), none, none⟩,
  ⟨(some 25), .slen (.t 24), none, none⟩,
  ⟨(some 26), .bin .lss (.t 23) (.t 25), none, none⟩]
def f21r5 : IC := .reg false [] f21o5 [26, 0, 5, 4]
@[simp] theorem f21r5_run (tbl : TB) (fin : Fin) (K : List Fr) (e : Env) (H : List AO) : run tbl fin K f21r5 e H = regK tbl fin K [] f21o5 [26, 0, 5, 4] e H := run_regK tbl fin K false [] f21o5 [26, 0, 5, 4] e H rfl
@[simp] def f21o6 : List IOper := [
  ⟨(some 29), .mv (.t 0), none, none⟩,
  ⟨(some 30), .mv (.t 5), none, none⟩,
  ⟨(some 31), .sidx (.t 29) (.t 30), none, none⟩,
  ⟨(some 32), .call (.c (.fn 23 [])) [(.t 31)], none, none⟩,
  ⟨(some 33), .un .not (.t 32), none, none⟩]
def f21r6 : IC := .reg false [] f21o6 [33, 0, 5, 4]
@[simp] theorem f21r6_run (tbl : TB) (fin : Fin) (K : List Fr) (e : Env) (H : List AO) : run tbl fin K f21r6 e H = regK tbl fin K [] f21o6 [33, 0, 5, 4] e H := run_regK tbl fin K false [] f21o6 [33, 0, 5, 4] e H rfl
@[simp] def f21o7 : List IOper := [
  ⟨(some 2), .mv (.c (.int .i64 0)), none, none⟩,
  ⟨(some 3), .mv (.c (.bool false)), none, none⟩]
def f21r7 : IC := .reg false [] f21o7 [2, 3]
@[simp] theorem f21r7_run (tbl : TB) (fin : Fin) (K : List Fr) (e : Env) (H : List AO) : run tbl fin K f21r7 e H = regK tbl fin K [] f21o7 [2, 3] e H := run_regK tbl fin K false [] f21o7 [2, 3] e H rfl
@[simp] def f21o8 : List IOper := [
  ⟨(some 34), .mv (.t 4), none, none⟩,
  ⟨(some 35), .bin .mul (.c (.int .i64 10)) (.t 34), none, none⟩,
  ⟨(some 36), .mv (.t 0), none, none⟩,
  ⟨(some 37), .mv (.t 5), none, none⟩,
  ⟨(some 38), .sidx (.t 36) (.t 37), none, none⟩,
  ⟨(some 39), .bin .sub (.t 38) (.c (.int .u8 48)), none, none⟩,
  ⟨(some 40), .conv .i64 (.t 39), none, none⟩,
  ⟨(some 41), .bin .add (.t 35) (.t 40), none, none⟩,
  ⟨(some 4), .mv (.t 41), none, none⟩]
def f21r8 : IC := .reg false [] f21o8 [5, 0, 4]
@[simp] theorem f21r8_run (tbl : TB) (fin : Fin) (K : List Fr) (e : Env) (H : List AO) : run tbl fin K f21r8 e H = regK tbl fin K [] f21o8 [5, 0, 4] e H := run_regK tbl fin K false [] f21o8 [5, 0, 4] e H rfl
@[simp] def f21o9 : List IOper := [
  ⟨(some 27), .mv (.t 5), none, none⟩,
  ⟨(some 28), .bin .add (.t 27) (.c (.int .i64 1)), none, none⟩,
  ⟨(some 5), .mv (.t 28), none, none⟩]
def f21r9 : IC := .reg false [] f21o9 [0, 5, 4]
@[simp] theorem f21r9_run (tbl : TB) (fin : Fin) (K : List Fr) (e : Env) (H : List AO) : run tbl fin K f21r9 e H = regK tbl fin K [] f21o9 [0, 5, 4] e H := run_regK tbl fin K false [] f21o9 [0, 5, 4] e H rfl
def f21b10 : IC := (.seq (.seq f21r5 (.cond (.t 26) .skip (.exit 0))) (.seq (.block 1 (.seq (.seq f21r6 (.cond (.t 33) (.seq f21r7 .ret) .skip)) f21r8)) f21r9))
theorem f21b10_eq : f21b10 = (.seq (.seq f21r5 (.cond (.t 26) .skip (.exit 0))) (.seq (.block 1 (.seq (.seq f21r6 (.cond (.t 33) (.seq f21r7 .ret) .skip)) f21r8)) f21r9)) := rfl
@[simp] def f21o11 : List IOper := [
  ⟨(some 42), .mv (.t 4), none, none⟩,
  ⟨(some 43), .bin .gtr (.t 42) (.c (.int .i64 2147483647)), none, none⟩]
def f21r11 : IC := .reg false [] f21o11 [43, 4]
@[simp] theorem f21r11_run (tbl : TB) (fin : Fin) (K : List Fr) (e : Env) (H : List AO) : run tbl fin K f21r11 e H = regK tbl fin K [] f21o11 [43, 4] e H := run_regK tbl fin K false [] f21o11 [43, 4] e H rfl
@[simp] def f21o12 : List IOper := [
  ⟨(some 2), .mv (.c (.int .i64 0)), none, none⟩,
  ⟨(some 3), .mv (.c (.bool false)), none, none⟩]
def f21r12 : IC := .reg false [] f21o12 [2, 3]
@[simp] theorem f21r12_run (tbl : TB) (fin : Fin) (K : List Fr) (e : Env) (H : List AO) : run tbl fin K f21r12 e H = regK tbl fin K [] f21o12 [2, 3] e H := run_regK tbl fin K false [] f21o12 [2, 3] e H rfl
@[simp] def f21o13 : List IOper := [
  ⟨(some 44), .mv (.t 4), none, none⟩,
  ⟨(some 2), .mv (.t 44), none, none⟩,
  ⟨(some 3), .mv (.c (.bool true)), none, none⟩]
def f21r13 : IC := .reg false [] f21o13 [2, 3]
@[simp] theorem f21r13_run (tbl : TB) (fin : Fin) (K : List Fr) (e : Env) (H : List AO) : run tbl fin K f21r13 e H = regK tbl fin K [] f21o13 [2, 3] e H := run_regK tbl fin K false [] f21o13 [2, 3] e H rfl
def f21body : IC := (.seq f21r0 (.seq (.seq f21r1 (.cond (.t 22) (.seq f21r2 .ret) .skip)) (.seq f21r3 (.seq (.seq f21r4 (.block 0 (.loop [0, 5, 4] f21b10))) (.seq (.seq f21r11 (.cond (.t 43) (.seq f21r12 .ret) .skip)) (.seq f21r13 .ret))))))
def f21 : IFn := ⟨45, 1, [.tmp 2, .tmp 3], f21body⟩
/- 22: jobshell/chars.digit -/
@[simp] def f22o0 : List IOper := [
  ⟨(some 2), .mv (.c (.bool false)), none, none⟩]
def f22r0 : IC := .reg false [] f22o0 [0]
@[simp] theorem f22r0_run (tbl : TB) (fin : Fin) (K : List Fr) (e : Env) (H : List AO) : run tbl fin K f22r0 e H = regK tbl fin K [] f22o0 [0] e H := run_regK tbl fin K false [] f22o0 [0] e H rfl
@[simp] def f22o1 : List IOper := [
  ⟨(some 3), .mv (.t 0), none, none⟩,
  ⟨(some 4), .bin .leq (.c (.int .i32 48)) (.t 3), none, none⟩,
  ⟨(some 5), .mv (.t 4), none, none⟩,
  ⟨(some 6), .mv (.t 0), (some (5, true)), none⟩,
  ⟨(some 7), .bin .leq (.t 6) (.c (.int .i32 57)), (some (5, true)), none⟩,
  ⟨(some 8), .pick (.t 5) (.t 7) (.c (.bool false)), none, none⟩,
  ⟨(some 2), .mv (.t 8), none, none⟩]
def f22r1 : IC := .reg false [] f22o1 [2]
@[simp] theorem f22r1_run (tbl : TB) (fin : Fin) (K : List Fr) (e : Env) (H : List AO) : run tbl fin K f22r1 e H = regK tbl fin K [] f22o1 [2] e H := run_regK tbl fin K false [] f22o1 [2] e H rfl
def f22body : IC := (.seq f22r0 (.seq f22r1 .ret))
def f22 : IFn := ⟨9, 1, [.tmp 2], f22body⟩
/- 23: jobshell/jobshellref01.Digit -/
@[simp] def f23o0 : List IOper := [
  ⟨(some 2), .mv (.c (.bool false)), none, none⟩]
def f23r0 : IC := .reg false [] f23o0 [0]
@[simp] theorem f23r0_run (tbl : TB) (fin : Fin) (K : List Fr) (e : Env) (H : List AO) : run tbl fin K f23r0 e H = regK tbl fin K [] f23o0 [0] e H := run_regK tbl fin K false [] f23o0 [0] e H rfl
@[simp] def f23o1 : List IOper := [
  ⟨(some 3), .mv (.t 0), none, none⟩,
  ⟨(some 4), .bin .geq (.t 3) (.c (.int .u8 48)), none, none⟩,
  ⟨(some 5), .mv (.t 4), none, none⟩,
  ⟨(some 6), .mv (.t 0), (some (5, true)), none⟩,
  ⟨(some 7), .bin .leq (.t 6) (.c (.int .u8 57)), (some (5, true)), none⟩,
  ⟨(some 8), .pick (.t 5) (.t 7) (.c (.bool false)), none, none⟩,
  ⟨(some 2), .mv (.t 8), none, none⟩]
def f23r1 : IC := .reg false [] f23o1 [2]
@[simp] theorem f23r1_run (tbl : TB) (fin : Fin) (K : List Fr) (e : Env) (H : List AO) : run tbl fin K f23r1 e H = regK tbl fin K [] f23o1 [2] e H := run_regK tbl fin K false [] f23o1 [2] e H rfl
def f23body : IC := (.seq f23r0 (.seq f23r1 .ret))
def f23 : IFn := ⟨9, 1, [.tmp 2], f23body⟩
def tblF : Nat → Option IFn
  | 2 => some f2
  | 3 => some f3
  | 4 => some f4
  | 5 => some f5
  | 6 => some f6
  | 7 => some f7
  | 8 => some f8
  | 9 => some f9
  | 10 => some f10
  | 11 => some f11
  | 12 => some f12
  | 13 => some f13
  | 14 => some f14
  | 15 => some f15
  | 16 => some f16
  | 17 => some f17
  | 18 => some f18
  | 19 => some f19
  | 20 => some f20
  | 21 => some f21
  | 22 => some f22
  | 23 => some f23
  | _ => none
theorem tbl2 : tblF 2 = some f2 := rfl
theorem tbl3 : tblF 3 = some f3 := rfl
theorem tbl4 : tblF 4 = some f4 := rfl
theorem tbl5 : tblF 5 = some f5 := rfl
theorem tbl6 : tblF 6 = some f6 := rfl
theorem tbl7 : tblF 7 = some f7 := rfl
theorem tbl8 : tblF 8 = some f8 := rfl
theorem tbl9 : tblF 9 = some f9 := rfl
theorem tbl10 : tblF 10 = some f10 := rfl
theorem tbl11 : tblF 11 = some f11 := rfl
theorem tbl12 : tblF 12 = some f12 := rfl
theorem tbl13 : tblF 13 = some f13 := rfl
theorem tbl14 : tblF 14 = some f14 := rfl
theorem tbl15 : tblF 15 = some f15 := rfl
theorem tbl16 : tblF 16 = some f16 := rfl
theorem tbl17 : tblF 17 = some f17 := rfl
theorem tbl18 : tblF 18 = some f18 := rfl
theorem tbl19 : tblF 19 = some f19 := rfl
theorem tbl20 : tblF 20 = some f20 := rfl
theorem tbl21 : tblF 21 = some f21 := rfl
theorem tbl22 : tblF 22 = some f22 := rfl
theorem tbl23 : tblF 23 = some f23 := rfl
theorem ok2 : cFn Try.prog cfg 2 = some f2 := by kernel_rfl
theorem ok3 : cFn Try.prog cfg 3 = some f3 := by kernel_rfl
theorem ok4 : cFn Try.prog cfg 4 = some f4 := by kernel_rfl
theorem ok5 : cFn Try.prog cfg 5 = some f5 := by kernel_rfl
theorem ok6 : cFn Try.prog cfg 6 = some f6 := by kernel_rfl
theorem ok7 : cFn Try.prog cfg 7 = some f7 := by kernel_rfl
theorem ok8 : cFn Try.prog cfg 8 = some f8 := by kernel_rfl
theorem ok9 : cFn Try.prog cfg 9 = some f9 := by kernel_rfl
theorem ok10 : cFn Try.prog cfg 10 = some f10 := by kernel_rfl
theorem ok11 : cFn Try.prog cfg 11 = some f11 := by kernel_rfl
theorem ok12 : cFn Try.prog cfg 12 = some f12 := by kernel_rfl
theorem ok13 : cFn Try.prog cfg 13 = some f13 := by kernel_rfl
theorem ok14 : cFn Try.prog cfg 14 = some f14 := by kernel_rfl
theorem ok15 : cFn Try.prog cfg 15 = some f15 := by kernel_rfl
theorem ok16 : cFn Try.prog cfg 16 = some f16 := by kernel_rfl
theorem ok17 : cFn Try.prog cfg 17 = some f17 := by kernel_rfl
theorem ok18 : cFn Try.prog cfg 18 = some f18 := by kernel_rfl
theorem ok19 : cFn Try.prog cfg 19 = some f19 := by kernel_rfl
theorem ok20 : cFn Try.prog cfg 20 = some f20 := by kernel_rfl
theorem ok21 : cFn Try.prog cfg 21 = some f21 := by kernel_rfl
theorem ok22 : cFn Try.prog cfg 22 = some f22 := by kernel_rfl
theorem ok23 : cFn Try.prog cfg 23 = some f23 := by kernel_rfl
theorem tbl_ok (f : Nat) (fn : IFn) (h : tblF f = some fn) : cFn Try.prog cfg f = some fn := by
  unfold tblF at h
  split at h
  · injection h with h; subst h; exact ok2
  · injection h with h; subst h; exact ok3
  · injection h with h; subst h; exact ok4
  · injection h with h; subst h; exact ok5
  · injection h with h; subst h; exact ok6
  · injection h with h; subst h; exact ok7
  · injection h with h; subst h; exact ok8
  · injection h with h; subst h; exact ok9
  · injection h with h; subst h; exact ok10
  · injection h with h; subst h; exact ok11
  · injection h with h; subst h; exact ok12
  · injection h with h; subst h; exact ok13
  · injection h with h; subst h; exact ok14
  · injection h with h; subst h; exact ok15
  · injection h with h; subst h; exact ok16
  · injection h with h; subst h; exact ok17
  · injection h with h; subst h; exact ok18
  · injection h with h; subst h; exact ok19
  · injection h with h; subst h; exact ok20
  · injection h with h; subst h; exact ok21
  · injection h with h; subst h; exact ok22
  · injection h with h; subst h; exact ok23
  · cases h
end Go.Proofs.Ytddcoboldcenkaa
