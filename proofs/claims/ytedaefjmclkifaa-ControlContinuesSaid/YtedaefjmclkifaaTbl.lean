/- The interpreter's form of this seat's functions (printed by a program out of the translation), and that the translation gives just this. No condition. -/
import Derived.Test.YtedaefjmclkifaaPi24
import Derived.Test.YtedaefjmclkifaaProg
import Derived.KernelRfl
namespace Go.Proofs.Ytedaefjmclkifaa
open Go.PI
def gl : Nat → Option AV
  | _ => none
def cfg : Cfg := ⟨gl, fun f => [].contains f⟩
/- 2: gosem.cut.init -/
@[simp] def f2o0 : List IOper := [
  ⟨(some 0), .call (.c (.fn 1 [])) [], none, none⟩]
def f2r0 : IC := .reg false [] f2o0 []
@[simp] theorem f2r0_run (tbl : TB) (fin : Fin) (K : List Fr) (e : Env) (H : List AO) : run tbl fin K f2r0 e H = regK tbl fin K [] f2o0 [] e H := run_regK tbl fin K false [] f2o0 [] e H rfl
def f2body : IC := f2r0
def f2 : IFn := ⟨1, 0, [], f2body⟩
/- 3: jobshell/jobshelllaw38.ControlStarts -/
@[simp] def f3o0 : List IOper := [
  ⟨(some 6), .mv (.c (.bool false)), none, none⟩]
def f3r0 : IC := .reg false [] f3o0 [0, 1, 2]
@[simp] theorem f3r0_run (tbl : TB) (fin : Fin) (K : List Fr) (e : Env) (H : List AO) : run tbl fin K f3r0 e H = regK tbl fin K [] f3o0 [0, 1, 2] e H := run_regK tbl fin K false [] f3o0 [0, 1, 2] e H rfl
@[simp] def f3o1 : List IOper := [
  ⟨(some 8), .mv (.t 0), none, none⟩,
  ⟨(some 9), .mv (.t 1), none, none⟩,
  ⟨(some 10), .build [(.str []), .e0, .e0, .e0, .e0, .e0, (.int .i64 0), (.int .i64 0), (.int .i64 0), (.int .i64 0), (.str []), (.int .i64 0), (.int .i64 0), (.int .i64 0), (.bool false)] [(6, 1, (.t 8)), (14, 1, (.t 9))], none, none⟩,
  ⟨(some 7), .new 30 15 (.agg [(.str []), .e0, .e0, .e0, .e0, .e0, (.int .i64 0), (.int .i64 0), (.int .i64 0), (.int .i64 0), (.str []), (.int .i64 0), (.int .i64 0), (.int .i64 0), (.bool false)]), none, none⟩,
  ⟨none, .store 15 (.t 7) (.t 10), none, none⟩]
def f3r1 : IC := .reg false [] f3o1 [7, 2]
@[simp] theorem f3r1_run (tbl : TB) (fin : Fin) (K : List Fr) (e : Env) (H : List AO) : run tbl fin K f3r1 e H = regK tbl fin K [] f3o1 [7, 2] e H := run_regK tbl fin K false [] f3o1 [7, 2] e H rfl
@[simp] def f3o2 : List IOper := [
  ⟨(some 11), .load true 15 (.t 7), none, none⟩,
  ⟨(some 12), .mv (.t 2), none, none⟩,
  ⟨(some 13), .call (.c (.fn 7 [])) [(.t 11), (.t 12)], none, none⟩,
  ⟨(some 14), .load true 15 (.t 7), none, none⟩,
  ⟨(some 15), .mv (.t 2), none, none⟩,
  ⟨(some 16), .call (.c (.fn 8 [])) [(.t 14), (.t 15)], none, none⟩,
  ⟨(some 17), .call (.c (.fn 6 [])) [(.t 13), (.t 16)], none, none⟩,
  ⟨(some 18), .mv (.t 17), none, none⟩,
  ⟨(some 19), .call (.c (.fn 9 [])) [], (some (18, true)), none⟩,
  ⟨(some 20), .pick (.t 18) (.t 19) (.c (.bool false)), none, none⟩,
  ⟨(some 6), .mv (.t 20), none, none⟩]
def f3r2 : IC := .reg true [] f3o2 [6]
@[simp] theorem f3r2_run (tbl : TB) (fin : Fin) (K : List Fr) (e : Env) (H : List AO) : run tbl fin K f3r2 e H = regK tbl fin K [] f3o2 [6] e H := run_regK tbl fin K true [] f3o2 [6] e H rfl
def f3body : IC := (.seq f3r0 (.seq f3r1 (.seq f3r2 .ret)))
def f3 : IFn := ⟨21, 3, [.tmp 6], f3body⟩
/- 4: jobshell/jobshelllaw38.ControlChildren -/
@[simp] def f4o0 : List IOper := [
  ⟨(some 3), .box 34 5 (.t 0), none, none⟩,
  ⟨(some 6), .mv (.c (.bool false)), none, none⟩]
def f4r0 : IC := .reg false [] f4o0 [2, 1, 3]
@[simp] theorem f4r0_run (tbl : TB) (fin : Fin) (K : List Fr) (e : Env) (H : List AO) : run tbl fin K f4r0 e H = regK tbl fin K [] f4o0 [2, 1, 3] e H := run_regK tbl fin K false [] f4o0 [2, 1, 3] e H rfl
@[simp] def f4o1 : List IOper := [
  ⟨(some 7), .load true 5 (.t 3), none, none⟩,
  ⟨(some 8), .build [(.int .i64 0), (.int .i64 0), (.int .i64 0), .e0, .e0, (.str []), (.bool false)] [], none, none⟩,
  ⟨(some 9), .call (.c (.fn 10 [])) [(.t 7), (.t 8)], none, none⟩,
  ⟨(some 10), .un .not (.t 9), none, none⟩]
def f4r1 : IC := .reg false [] f4o1 [10, 2, 1, 3]
@[simp] theorem f4r1_run (tbl : TB) (fin : Fin) (K : List Fr) (e : Env) (H : List AO) : run tbl fin K f4r1 e H = regK tbl fin K [] f4o1 [10, 2, 1, 3] e H := run_regK tbl fin K false [] f4o1 [10, 2, 1, 3] e H rfl
@[simp] def f4o2 : List IOper := [
  ⟨(some 11), .call (.c (.fn 9 [])) [], none, none⟩,
  ⟨(some 6), .mv (.t 11), none, none⟩]
def f4r2 : IC := .reg false [] f4o2 [6]
@[simp] theorem f4r2_run (tbl : TB) (fin : Fin) (K : List Fr) (e : Env) (H : List AO) : run tbl fin K f4r2 e H = regK tbl fin K [] f4o2 [6] e H := run_regK tbl fin K false [] f4o2 [6] e H rfl
@[simp] def f4o3 : List IOper := [
  ⟨(some 12), .load true 5 (.t 3), none, none⟩,
  ⟨(some 13), .mv (.t 1), none, none⟩,
  ⟨(some 14), .call (.c (.fn 12 [])) [(.t 12), (.t 13)], none, none⟩,
  ⟨(some 15), .load true 5 (.t 3), none, none⟩,
  ⟨(some 16), .mv (.t 1), none, none⟩,
  ⟨(some 17), .call (.c (.fn 13 [])) [(.t 15), (.t 16)], none, none⟩,
  ⟨(some 18), .call (.c (.fn 11 [])) [(.t 14), (.t 17)], none, none⟩,
  ⟨(some 19), .mv (.t 18), none, none⟩,
  ⟨(some 20), .load true 5 (.t 3), (some (19, true)), none⟩,
  ⟨(some 21), .mv (.t 1), (some (19, true)), none⟩,
  ⟨(some 22), .mv (.t 2), (some (19, true)), none⟩,
  ⟨(some 23), .call (.c (.fn 14 [])) [(.t 20), (.t 21), (.t 22)], (some (19, true)), none⟩,
  ⟨(some 24), .load true 5 (.t 3), (some (19, true)), none⟩,
  ⟨(some 25), .mv (.t 1), (some (19, true)), none⟩,
  ⟨(some 26), .mv (.t 2), (some (19, true)), none⟩,
  ⟨(some 27), .call (.c (.fn 15 [])) [(.t 24), (.t 25), (.t 26)], (some (19, true)), none⟩,
  ⟨(some 28), .call (.c (.fn 11 [])) [(.t 23), (.t 27)], (some (19, true)), none⟩,
  ⟨(some 29), .pick (.t 19) (.t 28) (.c (.bool false)), none, none⟩,
  ⟨(some 30), .mv (.t 29), none, none⟩,
  ⟨(some 31), .call (.c (.fn 9 [])) [], (some (30, true)), none⟩,
  ⟨(some 32), .pick (.t 30) (.t 31) (.c (.bool false)), none, none⟩,
  ⟨(some 6), .mv (.t 32), none, none⟩]
def f4r3 : IC := .reg true [] f4o3 [6]
@[simp] theorem f4r3_run (tbl : TB) (fin : Fin) (K : List Fr) (e : Env) (H : List AO) : run tbl fin K f4r3 e H = regK tbl fin K [] f4o3 [6] e H := run_regK tbl fin K true [] f4o3 [6] e H rfl
def f4body : IC := (.seq f4r0 (.seq (.seq f4r1 (.cond (.t 10) (.seq f4r2 .ret) .skip)) (.seq f4r3 .ret)))
def f4 : IFn := ⟨33, 3, [.tmp 6], f4body⟩
/- 5: jobshell/jobshelllaw38.ControlContinues -/
@[simp] def f5o0 : List IOper := [
  ⟨(some 2), .box 40 7 (.t 0), none, none⟩,
  ⟨(some 4), .mv (.c (.bool false)), none, none⟩]
def f5r0 : IC := .reg false [] f5o0 [2, 1]
@[simp] theorem f5r0_run (tbl : TB) (fin : Fin) (K : List Fr) (e : Env) (H : List AO) : run tbl fin K f5r0 e H = regK tbl fin K [] f5o0 [2, 1] e H := run_regK tbl fin K false [] f5o0 [2, 1] e H rfl
@[simp] def f5o1 : List IOper := [
  ⟨(some 5), .build [(.bool false), (.bool false), .e0, .e0, (.bool false)] [], none, none⟩,
  ⟨(some 6), .load true 7 (.t 2), none, none⟩,
  ⟨(some 7), .call (.c (.fn 10 [])) [(.t 5), (.t 6)], none, none⟩,
  ⟨(some 8), .un .not (.t 7), none, none⟩,
  ⟨(some 9), .mv (.t 8), none, none⟩,
  ⟨(some 10), .fld 1 (.t 2), (some (9, false)), none⟩,
  ⟨(some 11), .load false 1 (.t 10), (some (9, false)), none⟩,
  ⟨(some 12), .bin .lss (.t 11) (.c (.int .i64 (-2147483647))), (some (9, false)), none⟩,
  ⟨(some 13), .pick (.t 9) (.c (.bool true)) (.t 12), none, none⟩]
def f5r1 : IC := .reg false [] f5o1 [13, 2, 1]
@[simp] theorem f5r1_run (tbl : TB) (fin : Fin) (K : List Fr) (e : Env) (H : List AO) : run tbl fin K f5r1 e H = regK tbl fin K [] f5o1 [13, 2, 1] e H := run_regK tbl fin K false [] f5o1 [13, 2, 1] e H rfl
@[simp] def f5o2 : List IOper := [
  ⟨(some 14), .call (.c (.fn 9 [])) [], none, none⟩,
  ⟨(some 4), .mv (.t 14), none, none⟩]
def f5r2 : IC := .reg false [] f5o2 [4]
@[simp] theorem f5r2_run (tbl : TB) (fin : Fin) (K : List Fr) (e : Env) (H : List AO) : run tbl fin K f5r2 e H = regK tbl fin K [] f5o2 [4] e H := run_regK tbl fin K false [] f5o2 [4] e H rfl
@[simp] def f5o3 : List IOper := [
  ⟨(some 15), .load true 7 (.t 2), none, none⟩,
  ⟨(some 16), .mv (.t 1), none, none⟩,
  ⟨(some 17), .call (.c (.fn 16 [])) [(.t 15), (.t 16)], none, none⟩,
  ⟨(some 18), .load true 7 (.t 2), none, none⟩,
  ⟨(some 19), .mv (.t 1), none, none⟩,
  ⟨(some 20), .call (.c (.fn 17 [])) [(.t 18), (.t 19)], none, none⟩,
  ⟨(some 21), .call (.c (.fn 11 [])) [(.t 17), (.t 20)], none, none⟩,
  ⟨(some 22), .mv (.t 21), none, none⟩,
  ⟨(some 23), .load true 7 (.t 2), (some (22, true)), none⟩,
  ⟨(some 24), .call (.c (.fn 18 [])) [(.t 23)], (some (22, true)), none⟩,
  ⟨(some 25), .load true 7 (.t 2), (some (22, true)), none⟩,
  ⟨(some 26), .call (.c (.fn 19 [])) [(.t 25)], (some (22, true)), none⟩,
  ⟨(some 27), .call (.c (.fn 11 [])) [(.t 24), (.t 26)], (some (22, true)), none⟩,
  ⟨(some 28), .pick (.t 22) (.t 27) (.c (.bool false)), none, none⟩,
  ⟨(some 29), .mv (.t 28), none, none⟩,
  ⟨(some 30), .call (.c (.fn 9 [])) [], (some (29, true)), none⟩,
  ⟨(some 31), .pick (.t 29) (.t 30) (.c (.bool false)), none, none⟩,
  ⟨(some 4), .mv (.t 31), none, none⟩]
def f5r3 : IC := .reg true [] f5o3 [4]
@[simp] theorem f5r3_run (tbl : TB) (fin : Fin) (K : List Fr) (e : Env) (H : List AO) : run tbl fin K f5r3 e H = regK tbl fin K [] f5o3 [4] e H := run_regK tbl fin K true [] f5o3 [4] e H rfl
def f5body : IC := (.seq f5r0 (.seq (.seq f5r1 (.cond (.t 13) (.seq f5r2 .ret) .skip)) (.seq f5r3 .ret)))
def f5 : IFn := ⟨32, 2, [.tmp 4], f5body⟩
/- 6: jobshell/jobshellref38.Same -/
@[simp] def f6o0 : List IOper := [
  ⟨(some 2), .box 34 5 (.t 0), none, none⟩,
  ⟨(some 3), .box 34 5 (.t 1), none, none⟩,
  ⟨(some 4), .mv (.c (.bool false)), none, none⟩]
def f6r0 : IC := .reg false [] f6o0 [2, 3]
@[simp] theorem f6r0_run (tbl : TB) (fin : Fin) (K : List Fr) (e : Env) (H : List AO) : run tbl fin K f6r0 e H = regK tbl fin K [] f6o0 [2, 3] e H := run_regK tbl fin K false [] f6o0 [2, 3] e H rfl
@[simp] def f6o1 : List IOper := [
  ⟨(some 5), .fld 0 (.t 2), none, none⟩,
  ⟨(some 6), .load false 1 (.t 5), none, none⟩,
  ⟨(some 7), .fld 0 (.t 3), none, none⟩,
  ⟨(some 8), .load false 1 (.t 7), none, none⟩,
  ⟨(some 9), .beq false (.t 6) (.t 8), none, none⟩,
  ⟨(some 10), .mv (.t 9), none, none⟩,
  ⟨(some 11), .fld 1 (.t 2), (some (10, true)), none⟩,
  ⟨(some 12), .load false 1 (.t 11), (some (10, true)), some [12, 10, 2, 3]⟩,
  ⟨(some 13), .fld 1 (.t 3), (some (10, true)), none⟩,
  ⟨(some 14), .load false 1 (.t 13), (some (10, true)), none⟩,
  ⟨(some 15), .beq false (.t 12) (.t 14), (some (10, true)), none⟩,
  ⟨(some 16), .pick (.t 10) (.t 15) (.c (.bool false)), none, none⟩,
  ⟨(some 17), .mv (.t 16), none, none⟩,
  ⟨(some 18), .fld 4 (.t 2), (some (17, true)), none⟩,
  ⟨(some 19), .load false 1 (.t 18), (some (17, true)), none⟩,
  ⟨(some 20), .fld 4 (.t 3), (some (17, true)), some [20, 19, 17, 2, 3]⟩,
  ⟨(some 21), .load false 1 (.t 20), (some (17, true)), none⟩,
  ⟨(some 22), .beq false (.t 19) (.t 21), (some (17, true)), none⟩,
  ⟨(some 23), .pick (.t 17) (.t 22) (.c (.bool false)), none, none⟩,
  ⟨(some 24), .mv (.t 23), none, none⟩,
  ⟨(some 25), .fld 2 (.t 2), (some (24, true)), none⟩,
  ⟨(some 26), .load false 1 (.t 25), (some (24, true)), none⟩,
  ⟨(some 27), .fld 2 (.t 3), (some (24, true)), none⟩,
  ⟨(some 28), .load false 1 (.t 27), (some (24, true)), some [28, 26, 24, 2, 3]⟩,
  ⟨(some 29), .call (.c (.fn 20 [])) [(.t 26), (.t 28)], (some (24, true)), none⟩,
  ⟨(some 30), .pick (.t 24) (.t 29) (.c (.bool false)), none, none⟩,
  ⟨(some 31), .mv (.t 30), none, none⟩,
  ⟨(some 32), .fld 3 (.t 2), (some (31, true)), none⟩,
  ⟨(some 33), .load false 1 (.t 32), (some (31, true)), none⟩,
  ⟨(some 34), .fld 3 (.t 3), (some (31, true)), none⟩,
  ⟨(some 35), .load false 1 (.t 34), (some (31, true)), none⟩,
  ⟨(some 36), .call (.c (.fn 20 [])) [(.t 33), (.t 35)], (some (31, true)), some [36, 31]⟩,
  ⟨(some 37), .pick (.t 31) (.t 36) (.c (.bool false)), none, none⟩,
  ⟨(some 4), .mv (.t 37), none, none⟩]
def f6r1 : IC := .reg false [] f6o1 [4]
@[simp] theorem f6r1_run (tbl : TB) (fin : Fin) (K : List Fr) (e : Env) (H : List AO) : run tbl fin K f6r1 e H = regK tbl fin K [] f6o1 [4] e H := run_regK tbl fin K false [] f6o1 [4] e H rfl
def f6body : IC := (.seq f6r0 (.seq f6r1 .ret))
def f6 : IFn := ⟨38, 2, [.tmp 4], f6body⟩
/- 7: jobshell/control.Start -/
@[simp] def f7o0 : List IOper := [
  ⟨(some 2), .box 30 15 (.t 0), none, none⟩,
  ⟨(some 4), .new 34 5 (.agg [(.bool false), (.bool false), .e0, .e0, (.bool false)]), none, none⟩]
def f7r0 : IC := .reg false [] f7o0 [1, 2, 4]
@[simp] theorem f7r0_run (tbl : TB) (fin : Fin) (K : List Fr) (e : Env) (H : List AO) : run tbl fin K f7r0 e H = regK tbl fin K [] f7o0 [1, 2, 4] e H := run_regK tbl fin K false [] f7o0 [1, 2, 4] e H rfl
@[simp] def f7o1 : List IOper := [
  ⟨(some 9), .fld 6 (.t 2), none, none⟩,
  ⟨(some 10), .load false 1 (.t 9), none, none⟩,
  ⟨(some 11), .bin .and (.t 10) (.c (.int .i64 64)), none, none⟩,
  ⟨(some 12), .bin .neq (.t 11) (.c (.int .i64 0)), none, none⟩,
  ⟨(some 5), .mv (.t 12), none, none⟩]
def f7r1 : IC := .reg false [] f7o1 [1, 5, 2, 4]
@[simp] theorem f7r1_run (tbl : TB) (fin : Fin) (K : List Fr) (e : Env) (H : List AO) : run tbl fin K f7r1 e H = regK tbl fin K [] f7o1 [1, 5, 2, 4] e H := run_regK tbl fin K false [] f7o1 [1, 5, 2, 4] e H rfl
@[simp] def f7o2 : List IOper := [
  ⟨(some 13), .mv (.t 5), none, none⟩,
  ⟨(some 14), .mv (.t 5), none, none⟩,
  ⟨(some 15), .mv (.t 14), none, none⟩,
  ⟨(some 16), .mv (.t 1), (some (15, true)), none⟩,
  ⟨(some 17), .un .not (.t 16), (some (15, true)), none⟩,
  ⟨(some 18), .pick (.t 15) (.t 17) (.c (.bool false)), none, none⟩,
  ⟨(some 19), .mv (.t 1), none, none⟩,
  ⟨(some 20), .mv (.t 19), none, some [5, 20, 18, 13, 2, 4]⟩,
  ⟨(some 21), .mv (.t 5), (some (20, true)), none⟩,
  ⟨(some 22), .un .not (.t 21), (some (20, true)), none⟩,
  ⟨(some 23), .pick (.t 20) (.t 22) (.c (.bool false)), none, none⟩,
  ⟨(some 24), .build [(.bool false), (.bool false), .e0, .e0, (.bool false)] [(0, 1, (.t 13)), (1, 1, (.t 18)), (4, 1, (.t 23))], none, none⟩,
  ⟨(some 6), .new 34 5 (.agg [(.bool false), (.bool false), .e0, .e0, (.bool false)]), none, none⟩,
  ⟨none, .store 5 (.t 6) (.t 24), none, none⟩]
def f7r2 : IC := .reg false [] f7o2 [2, 6, 4]
@[simp] theorem f7r2_run (tbl : TB) (fin : Fin) (K : List Fr) (e : Env) (H : List AO) : run tbl fin K f7r2 e H = regK tbl fin K [] f7o2 [2, 6, 4] e H := run_regK tbl fin K false [] f7o2 [2, 6, 4] e H rfl
@[simp] def f7o3 : List IOper := [
  ⟨(some 25), .fld 4 (.t 6), none, none⟩,
  ⟨(some 26), .load false 1 (.t 25), none, none⟩]
def f7r3 : IC := .reg false [] f7o3 [26, 2, 6, 4]
@[simp] theorem f7r3_run (tbl : TB) (fin : Fin) (K : List Fr) (e : Env) (H : List AO) : run tbl fin K f7r3 e H = regK tbl fin K [] f7o3 [26, 2, 6, 4] e H := run_regK tbl fin K false [] f7o3 [26, 2, 6, 4] e H rfl
@[simp] def f7o4 : List IOper := [
  ⟨(some 27), .mkrow 3 1 2 (.int .i64 0) [(0, (.c (.int .i64 2))), (1, (.c (.int .i64 3)))], none, none⟩,
  ⟨(some 28), .fld 2 (.t 6), none, none⟩,
  ⟨none, .store 1 (.t 28) (.t 27), none, none⟩]
def f7r4 : IC := .reg false [] f7o4 [2, 6, 4]
@[simp] theorem f7r4_run (tbl : TB) (fin : Fin) (K : List Fr) (e : Env) (H : List AO) : run tbl fin K f7r4 e H = regK tbl fin K [] f7o4 [2, 6, 4] e H := run_regK tbl fin K false [] f7o4 [2, 6, 4] e H rfl
@[simp] def f7o5 : List IOper := [
  ⟨(some 29), .fld 14 (.t 2), none, none⟩,
  ⟨(some 30), .load false 1 (.t 29), none, none⟩,
  ⟨(some 31), .un .not (.t 30), none, none⟩]
def f7r5 : IC := .reg false [] f7o5 [31, 6, 4]
@[simp] theorem f7r5_run (tbl : TB) (fin : Fin) (K : List Fr) (e : Env) (H : List AO) : run tbl fin K f7r5 e H = regK tbl fin K [] f7o5 [31, 6, 4] e H := run_regK tbl fin K false [] f7o5 [31, 6, 4] e H rfl
@[simp] def f7o6 : List IOper := [
  ⟨(some 32), .load true 5 (.t 6), none, none⟩,
  ⟨none, .store 5 (.t 4) (.t 32), none, none⟩]
def f7r6 : IC := .reg false [] f7o6 [4]
@[simp] theorem f7r6_run (tbl : TB) (fin : Fin) (K : List Fr) (e : Env) (H : List AO) : run tbl fin K f7r6 e H = regK tbl fin K [] f7o6 [4] e H := run_regK tbl fin K false [] f7o6 [4] e H rfl
@[simp] def f7o7 : List IOper := [
  ⟨(some 33), .mkrow 3 1 6 (.int .i64 0) [(0, (.c (.int .i64 2))), (1, (.c (.int .i64 3))), (2, (.c (.int .i64 4))), (3, (.c (.int .i64 5))), (4, (.c (.int .i64 15))), (5, (.c (.int .i64 20)))], none, none⟩,
  ⟨(some 34), .len (.t 33), none, none⟩,
  ⟨(some 35), .mv (.c (.int .i64 0)), none, none⟩]
def f7r7 : IC := .reg false [] f7o7 [35, 34, 4, 33, 6]
@[simp] theorem f7r7_run (tbl : TB) (fin : Fin) (K : List Fr) (e : Env) (H : List AO) : run tbl fin K f7r7 e H = regK tbl fin K [] f7o7 [35, 34, 4, 33, 6] e H := run_regK tbl fin K false [] f7o7 [35, 34, 4, 33, 6] e H rfl
@[simp] def f7o8 : List IOper := [
  ⟨(some 36), .bin .lss (.t 35) (.t 34), none, none⟩]
def f7r8 : IC := .reg false [] f7o8 [36, 35, 34, 4, 33, 6]
@[simp] theorem f7r8_run (tbl : TB) (fin : Fin) (K : List Fr) (e : Env) (H : List AO) : run tbl fin K f7r8 e H = regK tbl fin K [] f7o8 [36, 35, 34, 4, 33, 6] e H := run_regK tbl fin K false [] f7o8 [36, 35, 34, 4, 33, 6] e H rfl
@[simp] def f7o9 : List IOper := [
  ⟨(some 37), .idx 1 (.t 33) (.t 35), none, none⟩,
  ⟨(some 38), .load false 1 (.t 37), none, none⟩,
  ⟨(some 8), .mv (.t 38), none, none⟩]
def f7r9 : IC := .reg false [] f7o9 [8, 35, 34, 4, 33, 6]
@[simp] theorem f7r9_run (tbl : TB) (fin : Fin) (K : List Fr) (e : Env) (H : List AO) : run tbl fin K f7r9 e H = regK tbl fin K [] f7o9 [8, 35, 34, 4, 33, 6] e H := run_regK tbl fin K false [] f7o9 [8, 35, 34, 4, 33, 6] e H rfl
@[simp] def f7o10 : List IOper := [
  ⟨(some 39), .fld 2 (.t 6), none, none⟩,
  ⟨(some 40), .load false 1 (.t 39), none, none⟩,
  ⟨(some 41), .mv (.t 8), none, none⟩,
  ⟨(some 42), .call (.c (.fn 21 [])) [(.t 40), (.t 41)], none, none⟩,
  ⟨(some 43), .un .not (.t 42), none, none⟩]
def f7r10 : IC := .reg false [] f7o10 [43, 8, 35, 34, 4, 33, 6]
@[simp] theorem f7r10_run (tbl : TB) (fin : Fin) (K : List Fr) (e : Env) (H : List AO) : run tbl fin K f7r10 e H = regK tbl fin K [] f7o10 [43, 8, 35, 34, 4, 33, 6] e H := run_regK tbl fin K false [] f7o10 [43, 8, 35, 34, 4, 33, 6] e H rfl
@[simp] def f7o11 : List IOper := [
  ⟨(some 44), .fld 3 (.t 6), none, none⟩,
  ⟨(some 45), .load false 1 (.t 44), none, none⟩,
  ⟨(some 46), .mv (.t 8), none, none⟩,
  ⟨(some 47), .mkimm 1 1 (.int .i64 0) [(0, (.t 46))], none, none⟩,
  ⟨(some 48), .app 3 1 (.t 45) (.t 47), none, none⟩,
  ⟨(some 49), .fld 3 (.t 6), none, none⟩,
  ⟨none, .store 1 (.t 49) (.t 48), none, none⟩]
def f7r11 : IC := .reg false [] f7o11 [35, 34, 4, 33, 6]
@[simp] theorem f7r11_run (tbl : TB) (fin : Fin) (K : List Fr) (e : Env) (H : List AO) : run tbl fin K f7r11 e H = regK tbl fin K [] f7o11 [35, 34, 4, 33, 6] e H := run_regK tbl fin K false [] f7o11 [35, 34, 4, 33, 6] e H rfl
@[simp] def f7o12 : List IOper := [
  ⟨(some 50), .bin .add (.t 35) (.c (.int .i64 1)), none, none⟩,
  ⟨(some 35), .mv (.t 50), none, none⟩]
def f7r12 : IC := .reg false [] f7o12 [35, 34, 4, 33, 6]
@[simp] theorem f7r12_run (tbl : TB) (fin : Fin) (K : List Fr) (e : Env) (H : List AO) : run tbl fin K f7r12 e H = regK tbl fin K [] f7o12 [35, 34, 4, 33, 6] e H := run_regK tbl fin K false [] f7o12 [35, 34, 4, 33, 6] e H rfl
def f7b13 : IC := (.seq f7r8 (.seq (.cond (.t 36) .skip (.exit 0)) (.seq (.block 1 (.seq f7r9 (.seq f7r10 (.cond (.t 43) f7r11 .skip)))) f7r12)))
theorem f7b13_eq : f7b13 = (.seq f7r8 (.seq (.cond (.t 36) .skip (.exit 0)) (.seq (.block 1 (.seq f7r9 (.seq f7r10 (.cond (.t 43) f7r11 .skip)))) f7r12))) := rfl
@[simp] def f7o14 : List IOper := [
  ⟨(some 51), .load true 5 (.t 6), none, none⟩,
  ⟨none, .store 5 (.t 4) (.t 51), none, none⟩]
def f7r14 : IC := .reg false [] f7o14 [4]
@[simp] theorem f7r14_run (tbl : TB) (fin : Fin) (K : List Fr) (e : Env) (H : List AO) : run tbl fin K f7r14 e H = regK tbl fin K [] f7o14 [4] e H := run_regK tbl fin K false [] f7o14 [4] e H rfl
def f7body : IC := (.seq f7r0 (.seq f7r1 (.seq f7r2 (.seq (.seq f7r3 (.cond (.t 26) f7r4 .skip)) (.seq (.seq f7r5 (.cond (.t 31) (.seq f7r6 .ret) .skip)) (.seq (.seq f7r7 (.block 0 (.loop [35, 34, 4, 33, 6] f7b13))) (.seq f7r14 .ret)))))))
def f7 : IFn := ⟨52, 2, [.cell 4 true 5], f7body⟩
/- 8: jobshell/jobshellref38.Start -/
@[simp] def f8o0 : List IOper := [
  ⟨(some 2), .box 30 15 (.t 0), none, none⟩,
  ⟨(some 4), .new 34 5 (.agg [(.bool false), (.bool false), .e0, .e0, (.bool false)]), none, none⟩]
def f8r0 : IC := .reg false [] f8o0 [1, 2, 4]
@[simp] theorem f8r0_run (tbl : TB) (fin : Fin) (K : List Fr) (e : Env) (H : List AO) : run tbl fin K f8r0 e H = regK tbl fin K [] f8o0 [1, 2, 4] e H := run_regK tbl fin K false [] f8o0 [1, 2, 4] e H rfl
@[simp] def f8o1 : List IOper := [
  ⟨(some 9), .fld 6 (.t 2), none, none⟩,
  ⟨(some 10), .load false 1 (.t 9), none, none⟩,
  ⟨(some 11), .bin .and (.t 10) (.c (.int .i64 64)), none, none⟩,
  ⟨(some 12), .bin .neq (.t 11) (.c (.int .i64 0)), none, none⟩,
  ⟨(some 5), .mv (.t 12), none, none⟩]
def f8r1 : IC := .reg false [] f8o1 [1, 5, 2, 4]
@[simp] theorem f8r1_run (tbl : TB) (fin : Fin) (K : List Fr) (e : Env) (H : List AO) : run tbl fin K f8r1 e H = regK tbl fin K [] f8o1 [1, 5, 2, 4] e H := run_regK tbl fin K false [] f8o1 [1, 5, 2, 4] e H rfl
@[simp] def f8o2 : List IOper := [
  ⟨(some 13), .mv (.t 5), none, none⟩,
  ⟨(some 14), .mv (.t 5), none, none⟩,
  ⟨(some 15), .mv (.t 14), none, none⟩,
  ⟨(some 16), .mv (.t 1), (some (15, true)), none⟩,
  ⟨(some 17), .un .not (.t 16), (some (15, true)), none⟩,
  ⟨(some 18), .pick (.t 15) (.t 17) (.c (.bool false)), none, none⟩,
  ⟨(some 19), .mv (.t 1), none, none⟩,
  ⟨(some 20), .mv (.t 19), none, some [5, 20, 18, 13, 2, 4]⟩,
  ⟨(some 21), .mv (.t 5), (some (20, true)), none⟩,
  ⟨(some 22), .un .not (.t 21), (some (20, true)), none⟩,
  ⟨(some 23), .pick (.t 20) (.t 22) (.c (.bool false)), none, none⟩,
  ⟨(some 24), .build [(.bool false), (.bool false), .e0, .e0, (.bool false)] [(0, 1, (.t 13)), (1, 1, (.t 18)), (4, 1, (.t 23))], none, none⟩,
  ⟨(some 6), .new 34 5 (.agg [(.bool false), (.bool false), .e0, .e0, (.bool false)]), none, none⟩,
  ⟨none, .store 5 (.t 6) (.t 24), none, none⟩]
def f8r2 : IC := .reg false [] f8o2 [2, 4, 6]
@[simp] theorem f8r2_run (tbl : TB) (fin : Fin) (K : List Fr) (e : Env) (H : List AO) : run tbl fin K f8r2 e H = regK tbl fin K [] f8o2 [2, 4, 6] e H := run_regK tbl fin K false [] f8o2 [2, 4, 6] e H rfl
@[simp] def f8o3 : List IOper := [
  ⟨(some 25), .fld 4 (.t 6), none, none⟩,
  ⟨(some 26), .load false 1 (.t 25), none, none⟩]
def f8r3 : IC := .reg false [] f8o3 [26, 2, 4, 6]
@[simp] theorem f8r3_run (tbl : TB) (fin : Fin) (K : List Fr) (e : Env) (H : List AO) : run tbl fin K f8r3 e H = regK tbl fin K [] f8o3 [26, 2, 4, 6] e H := run_regK tbl fin K false [] f8o3 [26, 2, 4, 6] e H rfl
@[simp] def f8o4 : List IOper := [
  ⟨(some 27), .mkrow 3 1 2 (.int .i64 0) [(0, (.c (.int .i64 2))), (1, (.c (.int .i64 3)))], none, none⟩,
  ⟨(some 28), .fld 2 (.t 6), none, none⟩,
  ⟨none, .store 1 (.t 28) (.t 27), none, none⟩]
def f8r4 : IC := .reg false [] f8o4 [2, 4, 6]
@[simp] theorem f8r4_run (tbl : TB) (fin : Fin) (K : List Fr) (e : Env) (H : List AO) : run tbl fin K f8r4 e H = regK tbl fin K [] f8o4 [2, 4, 6] e H := run_regK tbl fin K false [] f8o4 [2, 4, 6] e H rfl
@[simp] def f8o5 : List IOper := [
  ⟨(some 29), .fld 14 (.t 2), none, none⟩,
  ⟨(some 30), .load false 1 (.t 29), none, none⟩]
def f8r5 : IC := .reg false [] f8o5 [30, 4, 6]
@[simp] theorem f8r5_run (tbl : TB) (fin : Fin) (K : List Fr) (e : Env) (H : List AO) : run tbl fin K f8r5 e H = regK tbl fin K [] f8o5 [30, 4, 6] e H := run_regK tbl fin K false [] f8o5 [30, 4, 6] e H rfl
@[simp] def f8o6 : List IOper := [
  ⟨(some 31), .call (.c (.fn 22 [])) [], none, none⟩,
  ⟨(some 32), .len (.t 31), none, none⟩,
  ⟨(some 33), .mv (.c (.int .i64 0)), none, none⟩]
def f8r6 : IC := .reg false [] f8o6 [33, 32, 4, 31, 6]
@[simp] theorem f8r6_run (tbl : TB) (fin : Fin) (K : List Fr) (e : Env) (H : List AO) : run tbl fin K f8r6 e H = regK tbl fin K [] f8o6 [33, 32, 4, 31, 6] e H := run_regK tbl fin K false [] f8o6 [33, 32, 4, 31, 6] e H rfl
@[simp] def f8o7 : List IOper := [
  ⟨(some 34), .bin .lss (.t 33) (.t 32), none, none⟩]
def f8r7 : IC := .reg false [] f8o7 [34, 33, 32, 4, 31, 6]
@[simp] theorem f8r7_run (tbl : TB) (fin : Fin) (K : List Fr) (e : Env) (H : List AO) : run tbl fin K f8r7 e H = regK tbl fin K [] f8o7 [34, 33, 32, 4, 31, 6] e H := run_regK tbl fin K false [] f8o7 [34, 33, 32, 4, 31, 6] e H rfl
@[simp] def f8o8 : List IOper := [
  ⟨(some 35), .idx 1 (.t 31) (.t 33), none, none⟩,
  ⟨(some 36), .load false 1 (.t 35), none, none⟩,
  ⟨(some 8), .mv (.t 36), none, none⟩]
def f8r8 : IC := .reg false [] f8o8 [8, 33, 32, 4, 31, 6]
@[simp] theorem f8r8_run (tbl : TB) (fin : Fin) (K : List Fr) (e : Env) (H : List AO) : run tbl fin K f8r8 e H = regK tbl fin K [] f8o8 [8, 33, 32, 4, 31, 6] e H := run_regK tbl fin K false [] f8o8 [8, 33, 32, 4, 31, 6] e H rfl
@[simp] def f8o9 : List IOper := [
  ⟨(some 37), .fld 4 (.t 6), none, none⟩,
  ⟨(some 38), .load false 1 (.t 37), none, none⟩,
  ⟨(some 39), .un .not (.t 38), none, none⟩,
  ⟨(some 40), .mv (.t 39), none, none⟩,
  ⟨(some 41), .mv (.t 8), (some (40, false)), none⟩,
  ⟨(some 42), .bin .neq (.t 41) (.c (.int .i64 2)), (some (40, false)), none⟩,
  ⟨(some 43), .mv (.t 42), (some (40, false)), none⟩,
  ⟨(some 44), .mv (.t 8), (some (43, true)), none⟩,
  ⟨(some 45), .bin .neq (.t 44) (.c (.int .i64 3)), (some (43, true)), none⟩,
  ⟨(some 46), .pick (.t 43) (.t 45) (.c (.bool false)), (some (40, false)), none⟩,
  ⟨(some 47), .pick (.t 40) (.c (.bool true)) (.t 46), none, none⟩]
def f8r9 : IC := .reg false [] f8o9 [47, 8, 33, 32, 4, 31, 6]
@[simp] theorem f8r9_run (tbl : TB) (fin : Fin) (K : List Fr) (e : Env) (H : List AO) : run tbl fin K f8r9 e H = regK tbl fin K [] f8o9 [47, 8, 33, 32, 4, 31, 6] e H := run_regK tbl fin K false [] f8o9 [47, 8, 33, 32, 4, 31, 6] e H rfl
@[simp] def f8o10 : List IOper := [
  ⟨(some 48), .fld 3 (.t 6), none, none⟩,
  ⟨(some 49), .load false 1 (.t 48), none, none⟩,
  ⟨(some 50), .mv (.t 8), none, none⟩,
  ⟨(some 51), .mkimm 1 1 (.int .i64 0) [(0, (.t 50))], none, none⟩,
  ⟨(some 52), .app 3 1 (.t 49) (.t 51), none, none⟩,
  ⟨(some 53), .fld 3 (.t 6), none, none⟩,
  ⟨none, .store 1 (.t 53) (.t 52), none, none⟩]
def f8r10 : IC := .reg false [] f8o10 [33, 32, 4, 31, 6]
@[simp] theorem f8r10_run (tbl : TB) (fin : Fin) (K : List Fr) (e : Env) (H : List AO) : run tbl fin K f8r10 e H = regK tbl fin K [] f8o10 [33, 32, 4, 31, 6] e H := run_regK tbl fin K false [] f8o10 [33, 32, 4, 31, 6] e H rfl
@[simp] def f8o11 : List IOper := [
  ⟨(some 54), .bin .add (.t 33) (.c (.int .i64 1)), none, none⟩,
  ⟨(some 33), .mv (.t 54), none, none⟩]
def f8r11 : IC := .reg false [] f8o11 [33, 32, 4, 31, 6]
@[simp] theorem f8r11_run (tbl : TB) (fin : Fin) (K : List Fr) (e : Env) (H : List AO) : run tbl fin K f8r11 e H = regK tbl fin K [] f8o11 [33, 32, 4, 31, 6] e H := run_regK tbl fin K false [] f8o11 [33, 32, 4, 31, 6] e H rfl
def f8b12 : IC := (.seq f8r7 (.seq (.cond (.t 34) .skip (.exit 0)) (.seq (.block 1 (.seq f8r8 (.seq f8r9 (.cond (.t 47) f8r10 .skip)))) f8r11)))
theorem f8b12_eq : f8b12 = (.seq f8r7 (.seq (.cond (.t 34) .skip (.exit 0)) (.seq (.block 1 (.seq f8r8 (.seq f8r9 (.cond (.t 47) f8r10 .skip)))) f8r11))) := rfl
@[simp] def f8o13 : List IOper := [
  ⟨(some 55), .load true 5 (.t 6), none, none⟩,
  ⟨none, .store 5 (.t 4) (.t 55), none, none⟩]
def f8r13 : IC := .reg false [] f8o13 [4]
@[simp] theorem f8r13_run (tbl : TB) (fin : Fin) (K : List Fr) (e : Env) (H : List AO) : run tbl fin K f8r13 e H = regK tbl fin K [] f8o13 [4] e H := run_regK tbl fin K false [] f8o13 [4] e H rfl
def f8body : IC := (.seq f8r0 (.seq f8r1 (.seq f8r2 (.seq (.seq f8r3 (.cond (.t 26) f8r4 .skip)) (.seq (.seq f8r5 (.cond (.t 30) (.seq f8r6 (.block 0 (.loop [33, 32, 4, 31, 6] f8b12))) .skip)) (.seq f8r13 .ret))))))
def f8 : IFn := ⟨56, 2, [.cell 4 true 5], f8body⟩
/- 9: jobshell/jobshelllaw38.exampleHolds -/
@[simp] def f9o0 : List IOper := [
  ⟨(some 0), .mv (.c (.bool false)), none, none⟩]
def f9r0 : IC := .reg false [] f9o0 []
@[simp] theorem f9r0_run (tbl : TB) (fin : Fin) (K : List Fr) (e : Env) (H : List AO) : run tbl fin K f9r0 e H = regK tbl fin K [] f9o0 [] e H := run_regK tbl fin K false [] f9o0 [] e H rfl
@[simp] def f9o1 : List IOper := [
  ⟨(some 5), .build [(.str []), .e0, .e0, .e0, .e0, .e0, (.int .i64 0), (.int .i64 0), (.int .i64 0), (.int .i64 0), (.str []), (.int .i64 0), (.int .i64 0), (.int .i64 0), (.bool false)] [(6, 1, (.c (.int .i64 64))), (14, 1, (.c (.bool true)))], none, none⟩,
  ⟨(some 6), .call (.c (.fn 7 [])) [(.t 5), (.c (.bool false))], none, none⟩,
  ⟨(some 1), .new 34 5 (.agg [(.bool false), (.bool false), .e0, .e0, (.bool false)]), none, none⟩,
  ⟨none, .store 5 (.t 1) (.t 6), none, none⟩]
def f9r1 : IC := .reg false [] f9o1 [1]
@[simp] theorem f9r1_run (tbl : TB) (fin : Fin) (K : List Fr) (e : Env) (H : List AO) : run tbl fin K f9r1 e H = regK tbl fin K [] f9o1 [1] e H := run_regK tbl fin K false [] f9o1 [1] e H rfl
@[simp] def f9o2 : List IOper := [
  ⟨(some 7), .load true 5 (.t 1), none, none⟩,
  ⟨(some 8), .call (.c (.fn 12 [])) [(.t 7), (.c (.int .i64 0))], none, none⟩,
  ⟨(some 2), .mv (.t 8), none, none⟩]
def f9r2 : IC := .reg false [] f9o2 [1, 2]
@[simp] theorem f9r2_run (tbl : TB) (fin : Fin) (K : List Fr) (e : Env) (H : List AO) : run tbl fin K f9r2 e H = regK tbl fin K [] f9o2 [1, 2] e H := run_regK tbl fin K false [] f9o2 [1, 2] e H rfl
@[simp] def f9o3 : List IOper := [
  ⟨(some 9), .load true 5 (.t 1), none, none⟩,
  ⟨(some 10), .call (.c (.fn 12 [])) [(.t 9), (.c (.int .i64 7))], none, none⟩,
  ⟨(some 3), .mv (.t 10), none, none⟩]
def f9r3 : IC := .reg false [] f9o3 [3, 2]
@[simp] theorem f9r3_run (tbl : TB) (fin : Fin) (K : List Fr) (e : Env) (H : List AO) : run tbl fin K f9r3 e H = regK tbl fin K [] f9o3 [3, 2] e H := run_regK tbl fin K false [] f9o3 [3, 2] e H rfl
@[simp] def f9o4 : List IOper := [
  ⟨(some 11), .build [(.str []), .e0, .e0, .e0, .e0, .e0, (.int .i64 0), (.int .i64 0), (.int .i64 0), (.int .i64 0), (.str []), (.int .i64 0), (.int .i64 0), (.int .i64 0), (.bool false)] [], none, none⟩,
  ⟨(some 12), .call (.c (.fn 7 [])) [(.t 11), (.c (.bool true))], none, none⟩,
  ⟨(some 13), .call (.c (.fn 12 [])) [(.t 12), (.c (.int .i64 0))], none, none⟩,
  ⟨(some 4), .mv (.t 13), none, none⟩]
def f9r4 : IC := .reg false [] f9o4 [4, 3, 2]
@[simp] theorem f9r4_run (tbl : TB) (fin : Fin) (K : List Fr) (e : Env) (H : List AO) : run tbl fin K f9r4 e H = regK tbl fin K [] f9o4 [4, 3, 2] e H := run_regK tbl fin K false [] f9o4 [4, 3, 2] e H rfl
@[simp] def f9o5 : List IOper := [
  ⟨(some 14), .mv (.t 2), none, none⟩,
  ⟨(some 15), .len (.t 14), none, none⟩,
  ⟨(some 16), .bin .neq (.t 15) (.c (.int .i64 8)), none, none⟩,
  ⟨(some 17), .mv (.t 16), none, none⟩,
  ⟨(some 18), .mv (.t 3), (some (17, false)), none⟩,
  ⟨(some 19), .len (.t 18), (some (17, false)), none⟩,
  ⟨(some 20), .bin .neq (.t 19) (.c (.int .i64 7)), (some (17, false)), none⟩,
  ⟨(some 21), .pick (.t 17) (.c (.bool true)) (.t 20), none, some [21, 4, 3, 2]⟩,
  ⟨(some 22), .mv (.t 21), none, none⟩,
  ⟨(some 23), .mv (.t 4), (some (22, false)), none⟩,
  ⟨(some 24), .len (.t 23), (some (22, false)), none⟩,
  ⟨(some 25), .bin .neq (.t 24) (.c (.int .i64 3)), (some (22, false)), none⟩,
  ⟨(some 26), .pick (.t 22) (.c (.bool true)) (.t 25), none, none⟩]
def f9r5 : IC := .reg false [] f9o5 [26, 4, 3, 2]
@[simp] theorem f9r5_run (tbl : TB) (fin : Fin) (K : List Fr) (e : Env) (H : List AO) : run tbl fin K f9r5 e H = regK tbl fin K [] f9o5 [26, 4, 3, 2] e H := run_regK tbl fin K false [] f9o5 [26, 4, 3, 2] e H rfl
@[simp] def f9o6 : List IOper := [
  ⟨(some 0), .mv (.c (.bool false)), none, none⟩]
def f9r6 : IC := .reg false [] f9o6 [0]
@[simp] theorem f9r6_run (tbl : TB) (fin : Fin) (K : List Fr) (e : Env) (H : List AO) : run tbl fin K f9r6 e H = regK tbl fin K [] f9o6 [0] e H := run_regK tbl fin K false [] f9o6 [0] e H rfl
@[simp] def f9o7 : List IOper := [
  ⟨(some 27), .mv (.t 2), none, none⟩,
  ⟨(some 28), .idx 12 (.t 27) (.c (.int .i64 0)), none, none⟩,
  ⟨(some 29), .fld 0 (.t 28), none, none⟩,
  ⟨(some 30), .load false 1 (.t 29), none, none⟩,
  ⟨(some 31), .bin .eql (.t 30) (.c (.int .i64 12)), none, none⟩,
  ⟨(some 32), .mv (.t 31), none, none⟩,
  ⟨(some 33), .mv (.t 2), (some (32, true)), none⟩,
  ⟨(some 34), .idx 12 (.t 33) (.c (.int .i64 1)), (some (32, true)), some [34, 32, 2, 3, 4]⟩,
  ⟨(some 35), .fld 0 (.t 34), (some (32, true)), none⟩,
  ⟨(some 36), .load false 1 (.t 35), (some (32, true)), none⟩,
  ⟨(some 37), .bin .eql (.t 36) (.c (.int .i64 13)), (some (32, true)), none⟩,
  ⟨(some 38), .pick (.t 32) (.t 37) (.c (.bool false)), none, none⟩,
  ⟨(some 39), .mv (.t 38), none, none⟩,
  ⟨(some 40), .mv (.t 2), (some (39, true)), none⟩,
  ⟨(some 41), .idx 12 (.t 40) (.c (.int .i64 2)), (some (39, true)), none⟩,
  ⟨(some 42), .fld 0 (.t 41), (some (39, true)), some [42, 39, 2, 3, 4]⟩,
  ⟨(some 43), .load false 1 (.t 42), (some (39, true)), none⟩,
  ⟨(some 44), .bin .eql (.t 43) (.c (.int .i64 14)), (some (39, true)), none⟩,
  ⟨(some 45), .pick (.t 39) (.t 44) (.c (.bool false)), none, none⟩,
  ⟨(some 46), .mv (.t 45), none, none⟩,
  ⟨(some 47), .mv (.t 2), (some (46, true)), none⟩,
  ⟨(some 48), .idx 12 (.t 47) (.c (.int .i64 2)), (some (46, true)), none⟩,
  ⟨(some 49), .fld 5 (.t 48), (some (46, true)), none⟩,
  ⟨(some 50), .load false 1 (.t 49), (some (46, true)), some [50, 46, 3, 4]⟩,
  ⟨(some 51), .bin .eql (.t 50) (.c (.int .i64 2)), (some (46, true)), none⟩,
  ⟨(some 52), .pick (.t 46) (.t 51) (.c (.bool false)), none, none⟩,
  ⟨(some 53), .mv (.t 52), none, none⟩,
  ⟨(some 54), .mv (.t 3), (some (53, true)), none⟩,
  ⟨(some 55), .idx 12 (.t 54) (.c (.int .i64 0)), (some (53, true)), none⟩,
  ⟨(some 56), .fld 4 (.t 55), (some (53, true)), none⟩,
  ⟨(some 57), .load false 1 (.t 56), (some (53, true)), none⟩,
  ⟨(some 58), .bin .eql (.t 57) (.c (.int .i64 7)), (some (53, true)), some [58, 53, 3, 4]⟩,
  ⟨(some 59), .pick (.t 53) (.t 58) (.c (.bool false)), none, none⟩,
  ⟨(some 60), .mv (.t 59), none, none⟩,
  ⟨(some 61), .mv (.t 3), (some (60, true)), none⟩,
  ⟨(some 62), .idx 12 (.t 61) (.c (.int .i64 1)), (some (60, true)), none⟩,
  ⟨(some 63), .fld 0 (.t 62), (some (60, true)), none⟩,
  ⟨(some 64), .load false 1 (.t 63), (some (60, true)), none⟩,
  ⟨(some 65), .bin .eql (.t 64) (.c (.int .i64 14)), (some (60, true)), none⟩,
  ⟨(some 66), .pick (.t 60) (.t 65) (.c (.bool false)), none, some [66, 4]⟩,
  ⟨(some 67), .mv (.t 66), none, none⟩,
  ⟨(some 68), .mv (.t 4), (some (67, true)), none⟩,
  ⟨(some 69), .idx 12 (.t 68) (.c (.int .i64 0)), (some (67, true)), none⟩,
  ⟨(some 70), .fld 0 (.t 69), (some (67, true)), none⟩,
  ⟨(some 71), .load false 1 (.t 70), (some (67, true)), none⟩,
  ⟨(some 72), .bin .eql (.t 71) (.c (.int .i64 3)), (some (67, true)), none⟩,
  ⟨(some 73), .pick (.t 67) (.t 72) (.c (.bool false)), none, none⟩,
  ⟨(some 74), .mv (.t 73), none, some [74, 4]⟩,
  ⟨(some 75), .mv (.t 4), (some (74, true)), none⟩,
  ⟨(some 76), .idx 12 (.t 75) (.c (.int .i64 0)), (some (74, true)), none⟩,
  ⟨(some 77), .fld 8 (.t 76), (some (74, true)), none⟩,
  ⟨(some 78), .load false 1 (.t 77), (some (74, true)), none⟩,
  ⟨(some 79), .bin .eql (.t 78) (.c (.str [47, 100, 101, 118, 47, 110, 117, 108, 108])), (some (74, true)), none⟩,
  ⟨(some 80), .pick (.t 74) (.t 79) (.c (.bool false)), none, none⟩,
  ⟨(some 81), .mv (.t 80), none, none⟩,
  ⟨(some 82), .mv (.t 4), (some (81, true)), some [82, 81, 4]⟩,
  ⟨(some 83), .idx 12 (.t 82) (.c (.int .i64 1)), (some (81, true)), none⟩,
  ⟨(some 84), .fld 5 (.t 83), (some (81, true)), none⟩,
  ⟨(some 85), .load false 1 (.t 84), (some (81, true)), none⟩,
  ⟨(some 86), .bin .eql (.t 85) (.c (.int .i64 2)), (some (81, true)), none⟩,
  ⟨(some 87), .pick (.t 81) (.t 86) (.c (.bool false)), none, none⟩,
  ⟨(some 88), .mv (.t 87), none, none⟩,
  ⟨(some 89), .mv (.t 4), (some (88, true)), none⟩,
  ⟨(some 90), .idx 12 (.t 89) (.c (.int .i64 1)), (some (88, true)), some [90, 88, 4]⟩,
  ⟨(some 91), .fld 6 (.t 90), (some (88, true)), none⟩,
  ⟨(some 92), .load false 1 (.t 91), (some (88, true)), none⟩,
  ⟨(some 93), .bin .eql (.t 92) (.c (.int .i64 1)), (some (88, true)), none⟩,
  ⟨(some 94), .pick (.t 88) (.t 93) (.c (.bool false)), none, none⟩,
  ⟨(some 95), .mv (.t 94), none, none⟩,
  ⟨(some 96), .mv (.t 4), (some (95, true)), none⟩,
  ⟨(some 97), .idx 12 (.t 96) (.c (.int .i64 2)), (some (95, true)), none⟩,
  ⟨(some 98), .fld 5 (.t 97), (some (95, true)), some [98, 95]⟩,
  ⟨(some 99), .load false 1 (.t 98), (some (95, true)), none⟩,
  ⟨(some 100), .bin .eql (.t 99) (.c (.int .i64 3)), (some (95, true)), none⟩,
  ⟨(some 101), .pick (.t 95) (.t 100) (.c (.bool false)), none, none⟩,
  ⟨(some 0), .mv (.t 101), none, none⟩]
def f9r7 : IC := .reg false [] f9o7 [0]
@[simp] theorem f9r7_run (tbl : TB) (fin : Fin) (K : List Fr) (e : Env) (H : List AO) : run tbl fin K f9r7 e H = regK tbl fin K [] f9o7 [0] e H := run_regK tbl fin K false [] f9o7 [0] e H rfl
def f9body : IC := (.seq f9r0 (.seq f9r1 (.seq f9r2 (.seq f9r3 (.seq f9r4 (.seq (.seq f9r5 (.cond (.t 26) (.seq f9r6 .ret) .skip)) (.seq f9r7 .ret)))))))
def f9 : IFn := ⟨102, 0, [.tmp 0], f9body⟩
/- 10: jobshell/jobshelllaw38.few -/
@[simp] def f10o0 : List IOper := [
  ⟨(some 2), .box 34 5 (.t 0), none, none⟩,
  ⟨(some 3), .box 40 7 (.t 1), none, none⟩,
  ⟨(some 4), .mv (.c (.bool false)), none, none⟩]
def f10r0 : IC := .reg false [] f10o0 [2, 3]
@[simp] theorem f10r0_run (tbl : TB) (fin : Fin) (K : List Fr) (e : Env) (H : List AO) : run tbl fin K f10r0 e H = regK tbl fin K [] f10o0 [2, 3] e H := run_regK tbl fin K false [] f10o0 [2, 3] e H rfl
@[simp] def f10o1 : List IOper := [
  ⟨(some 5), .fld 2 (.t 2), none, none⟩,
  ⟨(some 6), .load false 1 (.t 5), none, none⟩,
  ⟨(some 7), .len (.t 6), none, none⟩,
  ⟨(some 8), .bin .leq (.t 7) (.c (.int .i64 60)), none, none⟩,
  ⟨(some 9), .mv (.t 8), none, none⟩,
  ⟨(some 10), .fld 3 (.t 2), (some (9, true)), none⟩,
  ⟨(some 11), .load false 1 (.t 10), (some (9, true)), none⟩,
  ⟨(some 12), .len (.t 11), (some (9, true)), some [12, 9, 3]⟩,
  ⟨(some 13), .bin .leq (.t 12) (.c (.int .i64 60)), (some (9, true)), none⟩,
  ⟨(some 14), .pick (.t 9) (.t 13) (.c (.bool false)), none, none⟩,
  ⟨(some 15), .mv (.t 14), none, none⟩,
  ⟨(some 16), .fld 3 (.t 3), (some (15, true)), none⟩,
  ⟨(some 17), .load false 1 (.t 16), (some (15, true)), none⟩,
  ⟨(some 18), .len (.t 17), (some (15, true)), none⟩,
  ⟨(some 19), .bin .leq (.t 18) (.c (.int .i64 60)), (some (15, true)), none⟩,
  ⟨(some 20), .pick (.t 15) (.t 19) (.c (.bool false)), none, some [20, 3]⟩,
  ⟨(some 21), .mv (.t 20), none, none⟩,
  ⟨(some 22), .fld 4 (.t 3), (some (21, true)), none⟩,
  ⟨(some 23), .load false 1 (.t 22), (some (21, true)), none⟩,
  ⟨(some 24), .len (.t 23), (some (21, true)), none⟩,
  ⟨(some 25), .bin .leq (.t 24) (.c (.int .i64 60)), (some (21, true)), none⟩,
  ⟨(some 26), .pick (.t 21) (.t 25) (.c (.bool false)), none, none⟩,
  ⟨(some 4), .mv (.t 26), none, none⟩]
def f10r1 : IC := .reg false [] f10o1 [4]
@[simp] theorem f10r1_run (tbl : TB) (fin : Fin) (K : List Fr) (e : Env) (H : List AO) : run tbl fin K f10r1 e H = regK tbl fin K [] f10o1 [4] e H := run_regK tbl fin K false [] f10o1 [4] e H rfl
def f10body : IC := (.seq f10r0 (.seq f10r1 .ret))
def f10 : IFn := ⟨27, 2, [.tmp 4], f10body⟩
/- 11: jobshell/jobshellref35.SameReqs -/
@[simp] def f11o0 : List IOper := [
  ⟨(some 4), .mv (.c (.bool false)), none, none⟩]
def f11r0 : IC := .reg false [] f11o0 [1, 0]
@[simp] theorem f11r0_run (tbl : TB) (fin : Fin) (K : List Fr) (e : Env) (H : List AO) : run tbl fin K f11r0 e H = regK tbl fin K [] f11o0 [1, 0] e H := run_regK tbl fin K false [] f11o0 [1, 0] e H rfl
@[simp] def f11o1 : List IOper := [
  ⟨(some 6), .mv (.t 0), none, none⟩,
  ⟨(some 7), .len (.t 6), none, none⟩,
  ⟨(some 8), .mv (.t 1), none, none⟩,
  ⟨(some 9), .len (.t 8), none, none⟩,
  ⟨(some 10), .bin .neq (.t 7) (.t 9), none, none⟩]
def f11r1 : IC := .reg false [] f11o1 [10, 1, 0]
@[simp] theorem f11r1_run (tbl : TB) (fin : Fin) (K : List Fr) (e : Env) (H : List AO) : run tbl fin K f11r1 e H = regK tbl fin K [] f11o1 [10, 1, 0] e H := run_regK tbl fin K false [] f11o1 [10, 1, 0] e H rfl
@[simp] def f11o2 : List IOper := [
  ⟨(some 4), .mv (.c (.bool false)), none, none⟩]
def f11r2 : IC := .reg false [] f11o2 [4]
@[simp] theorem f11r2_run (tbl : TB) (fin : Fin) (K : List Fr) (e : Env) (H : List AO) : run tbl fin K f11r2 e H = regK tbl fin K [] f11o2 [4] e H := run_regK tbl fin K false [] f11o2 [4] e H rfl
@[simp] def f11o3 : List IOper := [
  ⟨(some 11), .mv (.t 0), none, none⟩,
  ⟨(some 12), .len (.t 11), none, none⟩,
  ⟨(some 13), .mv (.c (.int .i64 0)), none, none⟩]
def f11r3 : IC := .reg false [] f11o3 [12, 0, 1, 13]
@[simp] theorem f11r3_run (tbl : TB) (fin : Fin) (K : List Fr) (e : Env) (H : List AO) : run tbl fin K f11r3 e H = regK tbl fin K [] f11o3 [12, 0, 1, 13] e H := run_regK tbl fin K false [] f11o3 [12, 0, 1, 13] e H rfl
@[simp] def f11o4 : List IOper := [
  ⟨(some 14), .bin .lss (.t 13) (.t 12), none, none⟩]
def f11r4 : IC := .reg false [] f11o4 [14, 1, 0, 12, 13]
@[simp] theorem f11r4_run (tbl : TB) (fin : Fin) (K : List Fr) (e : Env) (H : List AO) : run tbl fin K f11r4 e H = regK tbl fin K [] f11o4 [14, 1, 0, 12, 13] e H := run_regK tbl fin K false [] f11o4 [14, 1, 0, 12, 13] e H rfl
@[simp] def f11o5 : List IOper := [
  ⟨(some 15), .mv (.t 13), none, none⟩,
  ⟨(some 5), .mv (.t 15), none, none⟩]
def f11r5 : IC := .reg false [] f11o5 [5, 1, 0, 12, 13]
@[simp] theorem f11r5_run (tbl : TB) (fin : Fin) (K : List Fr) (e : Env) (H : List AO) : run tbl fin K f11r5 e H = regK tbl fin K [] f11o5 [5, 1, 0, 12, 13] e H := run_regK tbl fin K false [] f11o5 [5, 1, 0, 12, 13] e H rfl
@[simp] def f11o6 : List IOper := [
  ⟨(some 16), .mv (.t 0), none, none⟩,
  ⟨(some 17), .mv (.t 5), none, none⟩,
  ⟨(some 18), .idx 12 (.t 16) (.t 17), none, none⟩,
  ⟨(some 19), .load true 12 (.t 18), none, none⟩,
  ⟨(some 20), .mv (.t 1), none, none⟩,
  ⟨(some 21), .mv (.t 5), none, none⟩,
  ⟨(some 22), .idx 12 (.t 20) (.t 21), none, none⟩,
  ⟨(some 23), .load true 12 (.t 22), none, none⟩,
  ⟨(some 24), .call (.c (.fn 23 [])) [(.t 19), (.t 23)], none, none⟩,
  ⟨(some 25), .un .not (.t 24), none, none⟩]
def f11r6 : IC := .reg true [] f11o6 [25, 1, 0, 12, 13]
@[simp] theorem f11r6_run (tbl : TB) (fin : Fin) (K : List Fr) (e : Env) (H : List AO) : run tbl fin K f11r6 e H = regK tbl fin K [] f11o6 [25, 1, 0, 12, 13] e H := run_regK tbl fin K true [] f11o6 [25, 1, 0, 12, 13] e H rfl
@[simp] def f11o7 : List IOper := [
  ⟨(some 4), .mv (.c (.bool false)), none, none⟩]
def f11r7 : IC := .reg false [] f11o7 [4]
@[simp] theorem f11r7_run (tbl : TB) (fin : Fin) (K : List Fr) (e : Env) (H : List AO) : run tbl fin K f11r7 e H = regK tbl fin K [] f11o7 [4] e H := run_regK tbl fin K false [] f11o7 [4] e H rfl
@[simp] def f11o8 : List IOper := [
  ⟨(some 26), .bin .add (.t 13) (.c (.int .i64 1)), none, none⟩,
  ⟨(some 13), .mv (.t 26), none, none⟩]
def f11r8 : IC := .reg false [] f11o8 [12, 0, 1, 13]
@[simp] theorem f11r8_run (tbl : TB) (fin : Fin) (K : List Fr) (e : Env) (H : List AO) : run tbl fin K f11r8 e H = regK tbl fin K [] f11o8 [12, 0, 1, 13] e H := run_regK tbl fin K false [] f11o8 [12, 0, 1, 13] e H rfl
def f11b9 : IC := (.seq f11r4 (.seq (.cond (.t 14) .skip (.exit 0)) (.seq (.block 1 (.seq f11r5 (.seq f11r6 (.cond (.t 25) (.seq f11r7 .ret) .skip)))) f11r8)))
theorem f11b9_eq : f11b9 = (.seq f11r4 (.seq (.cond (.t 14) .skip (.exit 0)) (.seq (.block 1 (.seq f11r5 (.seq f11r6 (.cond (.t 25) (.seq f11r7 .ret) .skip)))) f11r8))) := rfl
@[simp] def f11o10 : List IOper := [
  ⟨(some 4), .mv (.c (.bool true)), none, none⟩]
def f11r10 : IC := .reg false [] f11o10 [4]
@[simp] theorem f11r10_run (tbl : TB) (fin : Fin) (K : List Fr) (e : Env) (H : List AO) : run tbl fin K f11r10 e H = regK tbl fin K [] f11o10 [4] e H := run_regK tbl fin K false [] f11o10 [4] e H rfl
def f11body : IC := (.seq f11r0 (.seq (.seq f11r1 (.cond (.t 10) (.seq f11r2 .ret) .skip)) (.seq (.seq f11r3 (.block 0 (.loop [12, 0, 1, 13] f11b9))) (.seq f11r10 .ret))))
def f11 : IFn := ⟨27, 2, [.tmp 4], f11body⟩
/- 12: jobshell/control.Child -/
@[simp] def f12o0 : List IOper := [
  ⟨(some 2), .box 34 5 (.t 0), none, none⟩,
  ⟨(some 4), .nilrow 53 12, none, none⟩]
def f12r0 : IC := .reg false [] f12o0 [2, 1]
@[simp] theorem f12r0_run (tbl : TB) (fin : Fin) (K : List Fr) (e : Env) (H : List AO) : run tbl fin K f12r0 e H = regK tbl fin K [] f12o0 [2, 1] e H := run_regK tbl fin K false [] f12o0 [2, 1] e H rfl
@[simp] def f12o1 : List IOper := [
  ⟨(some 11), .load true 5 (.t 2), none, none⟩,
  ⟨(some 12), .mv (.t 1), none, none⟩,
  ⟨(some 13), .build [(.bool false), (.bool false), .e0, .e0, (.bool false), (.int .i64 0)] [(0, 5, (.t 11)), (5, 1, (.t 12))], none, none⟩,
  ⟨(some 5), .new 56 6 (.agg [(.bool false), (.bool false), .e0, .e0, (.bool false), (.int .i64 0)]), none, none⟩,
  ⟨none, .store 6 (.t 5) (.t 13), none, none⟩]
def f12r1 : IC := .reg false [] f12o1 [5]
@[simp] theorem f12r1_run (tbl : TB) (fin : Fin) (K : List Fr) (e : Env) (H : List AO) : run tbl fin K f12r1 e H = regK tbl fin K [] f12o1 [5] e H := run_regK tbl fin K false [] f12o1 [5] e H rfl
@[simp] def f12o2 : List IOper := [
  ⟨(some 6), .nilrow 53 12, none, none⟩]
def f12r2 : IC := .reg false [] f12o2 [6, 5]
@[simp] theorem f12r2_run (tbl : TB) (fin : Fin) (K : List Fr) (e : Env) (H : List AO) : run tbl fin K f12r2 e H = regK tbl fin K [] f12o2 [6, 5] e H := run_regK tbl fin K false [] f12o2 [6, 5] e H rfl
@[simp] def f12o3 : List IOper := [
  ⟨(some 14), .fld 0 (.t 5), none, none⟩,
  ⟨(some 15), .fld 0 (.t 14), none, none⟩,
  ⟨(some 16), .load false 1 (.t 15), none, none⟩]
def f12r3 : IC := .reg false [] f12o3 [16, 6, 5]
@[simp] theorem f12r3_run (tbl : TB) (fin : Fin) (K : List Fr) (e : Env) (H : List AO) : run tbl fin K f12r3 e H = regK tbl fin K [] f12o3 [16, 6, 5] e H := run_regK tbl fin K false [] f12o3 [16, 6, 5] e H rfl
@[simp] def f12o4 : List IOper := [
  ⟨(some 17), .mv (.t 6), none, none⟩,
  ⟨(some 18), .fld 5 (.t 5), none, none⟩,
  ⟨(some 19), .load false 1 (.t 18), none, none⟩,
  ⟨(some 20), .build [(.int .i64 0), (.int .i64 0), (.int .i64 0), (.int .i64 0), (.int .i64 0), (.int .i64 0), (.int .i64 0), (.int .i64 0), (.str []), (.str []), .e0, .e0] [(0, 1, (.c (.int .i64 12))), (4, 1, (.t 19))], none, none⟩,
  ⟨(some 21), .mkimm 12 1 (.agg [(.int .i64 0), (.int .i64 0), (.int .i64 0), (.int .i64 0), (.int .i64 0), (.int .i64 0), (.int .i64 0), (.int .i64 0), (.str []), (.str []), .e0, .e0]) [(0, (.t 20))], none, none⟩,
  ⟨(some 22), .app 53 12 (.t 17) (.t 21), none, none⟩,
  ⟨(some 6), .mv (.t 22), none, none⟩]
def f12r4 : IC := .reg false [] f12o4 [6, 5]
@[simp] theorem f12r4_run (tbl : TB) (fin : Fin) (K : List Fr) (e : Env) (H : List AO) : run tbl fin K f12r4 e H = regK tbl fin K [] f12o4 [6, 5] e H := run_regK tbl fin K false [] f12o4 [6, 5] e H rfl
@[simp] def f12o5 : List IOper := [
  ⟨(some 23), .load true 6 (.t 5), none, none⟩,
  ⟨(some 24), .call (.c (.fn 24 [])) [(.t 23)], none, none⟩]
def f12r5 : IC := .reg false [] f12o5 [24, 6, 5]
@[simp] theorem f12r5_run (tbl : TB) (fin : Fin) (K : List Fr) (e : Env) (H : List AO) : run tbl fin K f12r5 e H = regK tbl fin K [] f12o5 [24, 6, 5] e H := run_regK tbl fin K false [] f12o5 [24, 6, 5] e H rfl
@[simp] def f12o6 : List IOper := [
  ⟨(some 25), .mv (.t 6), none, none⟩,
  ⟨(some 26), .build [(.int .i64 0), (.int .i64 0), (.int .i64 0), (.int .i64 0), (.int .i64 0), (.int .i64 0), (.int .i64 0), (.int .i64 0), (.str []), (.str []), .e0, .e0] [(0, 1, (.c (.int .i64 13)))], none, none⟩,
  ⟨(some 27), .mkimm 12 1 (.agg [(.int .i64 0), (.int .i64 0), (.int .i64 0), (.int .i64 0), (.int .i64 0), (.int .i64 0), (.int .i64 0), (.int .i64 0), (.str []), (.str []), .e0, .e0]) [(0, (.t 26))], none, none⟩,
  ⟨(some 28), .app 53 12 (.t 25) (.t 27), none, none⟩,
  ⟨(some 6), .mv (.t 28), none, none⟩]
def f12r6 : IC := .reg false [] f12o6 [6, 5]
@[simp] theorem f12r6_run (tbl : TB) (fin : Fin) (K : List Fr) (e : Env) (H : List AO) : run tbl fin K f12r6 e H = regK tbl fin K [] f12o6 [6, 5] e H := run_regK tbl fin K false [] f12o6 [6, 5] e H rfl
@[simp] def f12o7 : List IOper := [
  ⟨(some 29), .fld 0 (.t 5), none, none⟩,
  ⟨(some 30), .fld 4 (.t 29), none, none⟩,
  ⟨(some 31), .load false 1 (.t 30), none, none⟩]
def f12r7 : IC := .reg false [] f12o7 [31, 6, 5]
@[simp] theorem f12r7_run (tbl : TB) (fin : Fin) (K : List Fr) (e : Env) (H : List AO) : run tbl fin K f12r7 e H = regK tbl fin K [] f12o7 [31, 6, 5] e H := run_regK tbl fin K false [] f12o7 [31, 6, 5] e H rfl
@[simp] def f12o8 : List IOper := [
  ⟨(some 32), .mv (.t 6), none, none⟩,
  ⟨(some 33), .build [(.int .i64 0), (.int .i64 0), (.int .i64 0), (.int .i64 0), (.int .i64 0), (.int .i64 0), (.int .i64 0), (.int .i64 0), (.str []), (.str []), .e0, .e0] [(0, 1, (.c (.int .i64 3))), (8, 1, (.c (.str [47, 100, 101, 118, 47, 110, 117, 108, 108]))), (7, 1, (.c (.int .i64 65)))], none, none⟩,
  ⟨(some 34), .mkimm 12 1 (.agg [(.int .i64 0), (.int .i64 0), (.int .i64 0), (.int .i64 0), (.int .i64 0), (.int .i64 0), (.int .i64 0), (.int .i64 0), (.str []), (.str []), .e0, .e0]) [(0, (.t 33))], none, none⟩,
  ⟨(some 35), .app 53 12 (.t 32) (.t 34), none, none⟩,
  ⟨(some 6), .mv (.t 35), none, none⟩]
def f12r8 : IC := .reg false [] f12o8 [6, 5]
@[simp] theorem f12r8_run (tbl : TB) (fin : Fin) (K : List Fr) (e : Env) (H : List AO) : run tbl fin K f12r8 e H = regK tbl fin K [] f12o8 [6, 5] e H := run_regK tbl fin K false [] f12o8 [6, 5] e H rfl
@[simp] def f12o9 : List IOper := [
  ⟨(some 36), .fld 0 (.t 5), none, none⟩,
  ⟨(some 37), .fld 2 (.t 36), none, none⟩,
  ⟨(some 38), .load false 1 (.t 37), none, none⟩,
  ⟨(some 39), .len (.t 38), none, none⟩,
  ⟨(some 40), .mv (.c (.int .i64 0)), none, none⟩]
def f12r9 : IC := .reg false [] f12o9 [6, 40, 39, 5, 38]
@[simp] theorem f12r9_run (tbl : TB) (fin : Fin) (K : List Fr) (e : Env) (H : List AO) : run tbl fin K f12r9 e H = regK tbl fin K [] f12o9 [6, 40, 39, 5, 38] e H := run_regK tbl fin K false [] f12o9 [6, 40, 39, 5, 38] e H rfl
@[simp] def f12o10 : List IOper := [
  ⟨(some 41), .bin .lss (.t 40) (.t 39), none, none⟩]
def f12r10 : IC := .reg false [] f12o10 [41, 6, 40, 39, 5, 38]
@[simp] theorem f12r10_run (tbl : TB) (fin : Fin) (K : List Fr) (e : Env) (H : List AO) : run tbl fin K f12r10 e H = regK tbl fin K [] f12o10 [41, 6, 40, 39, 5, 38] e H := run_regK tbl fin K false [] f12o10 [41, 6, 40, 39, 5, 38] e H rfl
@[simp] def f12o11 : List IOper := [
  ⟨(some 42), .idx 1 (.t 38) (.t 40), none, none⟩,
  ⟨(some 43), .load false 1 (.t 42), none, none⟩,
  ⟨(some 8), .mv (.t 43), none, none⟩]
def f12r11 : IC := .reg false [] f12o11 [6, 8, 40, 39, 5, 38]
@[simp] theorem f12r11_run (tbl : TB) (fin : Fin) (K : List Fr) (e : Env) (H : List AO) : run tbl fin K f12r11 e H = regK tbl fin K [] f12o11 [6, 8, 40, 39, 5, 38] e H := run_regK tbl fin K false [] f12o11 [6, 8, 40, 39, 5, 38] e H rfl
@[simp] def f12o12 : List IOper := [
  ⟨(some 44), .mv (.t 6), none, none⟩,
  ⟨(some 45), .mv (.t 8), none, none⟩,
  ⟨(some 46), .build [(.int .i64 0), (.int .i64 0), (.int .i64 0), (.int .i64 0), (.int .i64 0), (.int .i64 0), (.int .i64 0), (.int .i64 0), (.str []), (.str []), .e0, .e0] [(0, 1, (.c (.int .i64 14))), (5, 1, (.t 45)), (6, 1, (.c (.int .i64 1)))], none, none⟩,
  ⟨(some 47), .mkimm 12 1 (.agg [(.int .i64 0), (.int .i64 0), (.int .i64 0), (.int .i64 0), (.int .i64 0), (.int .i64 0), (.int .i64 0), (.int .i64 0), (.str []), (.str []), .e0, .e0]) [(0, (.t 46))], none, none⟩,
  ⟨(some 48), .app 53 12 (.t 44) (.t 47), none, none⟩,
  ⟨(some 6), .mv (.t 48), none, none⟩]
def f12r12 : IC := .reg false [] f12o12 [40, 6, 39, 5, 38]
@[simp] theorem f12r12_run (tbl : TB) (fin : Fin) (K : List Fr) (e : Env) (H : List AO) : run tbl fin K f12r12 e H = regK tbl fin K [] f12o12 [40, 6, 39, 5, 38] e H := run_regK tbl fin K false [] f12o12 [40, 6, 39, 5, 38] e H rfl
@[simp] def f12o13 : List IOper := [
  ⟨(some 49), .bin .add (.t 40) (.c (.int .i64 1)), none, none⟩,
  ⟨(some 40), .mv (.t 49), none, none⟩]
def f12r13 : IC := .reg false [] f12o13 [6, 40, 39, 5, 38]
@[simp] theorem f12r13_run (tbl : TB) (fin : Fin) (K : List Fr) (e : Env) (H : List AO) : run tbl fin K f12r13 e H = regK tbl fin K [] f12o13 [6, 40, 39, 5, 38] e H := run_regK tbl fin K false [] f12o13 [6, 40, 39, 5, 38] e H rfl
def f12b14 : IC := (.seq f12r10 (.seq (.cond (.t 41) .skip (.exit 0)) (.seq (.block 1 (.seq f12r11 f12r12)) f12r13)))
theorem f12b14_eq : f12b14 = (.seq f12r10 (.seq (.cond (.t 41) .skip (.exit 0)) (.seq (.block 1 (.seq f12r11 f12r12)) f12r13))) := rfl
@[simp] def f12o15 : List IOper := [
  ⟨(some 50), .fld 0 (.t 5), none, none⟩,
  ⟨(some 51), .fld 3 (.t 50), none, none⟩,
  ⟨(some 52), .load false 1 (.t 51), none, none⟩,
  ⟨(some 53), .len (.t 52), none, none⟩,
  ⟨(some 54), .mv (.c (.int .i64 0)), none, none⟩]
def f12r15 : IC := .reg false [] f12o15 [6, 54, 53, 52]
@[simp] theorem f12r15_run (tbl : TB) (fin : Fin) (K : List Fr) (e : Env) (H : List AO) : run tbl fin K f12r15 e H = regK tbl fin K [] f12o15 [6, 54, 53, 52] e H := run_regK tbl fin K false [] f12o15 [6, 54, 53, 52] e H rfl
@[simp] def f12o16 : List IOper := [
  ⟨(some 55), .bin .lss (.t 54) (.t 53), none, none⟩]
def f12r16 : IC := .reg false [] f12o16 [55, 6, 54, 53, 52]
@[simp] theorem f12r16_run (tbl : TB) (fin : Fin) (K : List Fr) (e : Env) (H : List AO) : run tbl fin K f12r16 e H = regK tbl fin K [] f12o16 [55, 6, 54, 53, 52] e H := run_regK tbl fin K false [] f12o16 [55, 6, 54, 53, 52] e H rfl
@[simp] def f12o17 : List IOper := [
  ⟨(some 56), .idx 1 (.t 52) (.t 54), none, none⟩,
  ⟨(some 57), .load false 1 (.t 56), none, none⟩,
  ⟨(some 10), .mv (.t 57), none, none⟩]
def f12r17 : IC := .reg false [] f12o17 [6, 10, 54, 53, 52]
@[simp] theorem f12r17_run (tbl : TB) (fin : Fin) (K : List Fr) (e : Env) (H : List AO) : run tbl fin K f12r17 e H = regK tbl fin K [] f12o17 [6, 10, 54, 53, 52] e H := run_regK tbl fin K false [] f12o17 [6, 10, 54, 53, 52] e H rfl
@[simp] def f12o18 : List IOper := [
  ⟨(some 58), .mv (.t 6), none, none⟩,
  ⟨(some 59), .mv (.t 10), none, none⟩,
  ⟨(some 60), .build [(.int .i64 0), (.int .i64 0), (.int .i64 0), (.int .i64 0), (.int .i64 0), (.int .i64 0), (.int .i64 0), (.int .i64 0), (.str []), (.str []), .e0, .e0] [(0, 1, (.c (.int .i64 14))), (5, 1, (.t 59))], none, none⟩,
  ⟨(some 61), .mkimm 12 1 (.agg [(.int .i64 0), (.int .i64 0), (.int .i64 0), (.int .i64 0), (.int .i64 0), (.int .i64 0), (.int .i64 0), (.int .i64 0), (.str []), (.str []), .e0, .e0]) [(0, (.t 60))], none, none⟩,
  ⟨(some 62), .app 53 12 (.t 58) (.t 61), none, none⟩,
  ⟨(some 6), .mv (.t 62), none, none⟩]
def f12r18 : IC := .reg false [] f12o18 [54, 6, 53, 52]
@[simp] theorem f12r18_run (tbl : TB) (fin : Fin) (K : List Fr) (e : Env) (H : List AO) : run tbl fin K f12r18 e H = regK tbl fin K [] f12o18 [54, 6, 53, 52] e H := run_regK tbl fin K false [] f12o18 [54, 6, 53, 52] e H rfl
@[simp] def f12o19 : List IOper := [
  ⟨(some 63), .bin .add (.t 54) (.c (.int .i64 1)), none, none⟩,
  ⟨(some 54), .mv (.t 63), none, none⟩]
def f12r19 : IC := .reg false [] f12o19 [6, 54, 53, 52]
@[simp] theorem f12r19_run (tbl : TB) (fin : Fin) (K : List Fr) (e : Env) (H : List AO) : run tbl fin K f12r19 e H = regK tbl fin K [] f12o19 [6, 54, 53, 52] e H := run_regK tbl fin K false [] f12o19 [6, 54, 53, 52] e H rfl
def f12b20 : IC := (.seq f12r16 (.seq (.cond (.t 55) .skip (.exit 2)) (.seq (.block 3 (.seq f12r17 f12r18)) f12r19)))
theorem f12b20_eq : f12b20 = (.seq f12r16 (.seq (.cond (.t 55) .skip (.exit 2)) (.seq (.block 3 (.seq f12r17 f12r18)) f12r19))) := rfl
@[simp] def f12o21 : List IOper := [
  ⟨(some 64), .mv (.t 6), none, none⟩,
  ⟨(some 4), .mv (.t 64), none, none⟩]
def f12r21 : IC := .reg false [] f12o21 [4]
@[simp] theorem f12r21_run (tbl : TB) (fin : Fin) (K : List Fr) (e : Env) (H : List AO) : run tbl fin K f12r21 e H = regK tbl fin K [] f12o21 [4] e H := run_regK tbl fin K false [] f12o21 [4] e H rfl
def f12body : IC := (.seq f12r0 (.seq f12r1 (.seq f12r2 (.seq (.seq f12r3 (.cond (.t 16) f12r4 .skip)) (.seq (.seq f12r5 (.cond (.t 24) f12r6 .skip)) (.seq (.seq f12r7 (.cond (.t 31) f12r8 .skip)) (.seq (.seq f12r9 (.block 0 (.loop [6, 40, 39, 5, 38] f12b14))) (.seq (.seq f12r15 (.block 2 (.loop [6, 54, 53, 52] f12b20))) (.seq f12r21 .ret)))))))))
def f12 : IFn := ⟨65, 2, [.tmp 4], f12body⟩
/- 13: jobshell/jobshellref38.Child -/
@[simp] def f13o0 : List IOper := [
  ⟨(some 2), .box 34 5 (.t 0), none, none⟩,
  ⟨(some 4), .nilrow 53 12, none, none⟩]
def f13r0 : IC := .reg false [] f13o0 [1, 2]
@[simp] theorem f13r0_run (tbl : TB) (fin : Fin) (K : List Fr) (e : Env) (H : List AO) : run tbl fin K f13r0 e H = regK tbl fin K [] f13o0 [1, 2] e H := run_regK tbl fin K false [] f13o0 [1, 2] e H rfl
@[simp] def f13o1 : List IOper := [
  ⟨(some 5), .nilrow 53 12, none, none⟩]
def f13r1 : IC := .reg false [] f13o1 [5, 1, 2]
@[simp] theorem f13r1_run (tbl : TB) (fin : Fin) (K : List Fr) (e : Env) (H : List AO) : run tbl fin K f13r1 e H = regK tbl fin K [] f13o1 [5, 1, 2] e H := run_regK tbl fin K false [] f13o1 [5, 1, 2] e H rfl
@[simp] def f13o2 : List IOper := [
  ⟨(some 10), .fld 0 (.t 2), none, none⟩,
  ⟨(some 11), .load false 1 (.t 10), none, none⟩]
def f13r2 : IC := .reg false [] f13o2 [11, 5, 1, 2]
@[simp] theorem f13r2_run (tbl : TB) (fin : Fin) (K : List Fr) (e : Env) (H : List AO) : run tbl fin K f13r2 e H = regK tbl fin K [] f13o2 [11, 5, 1, 2] e H := run_regK tbl fin K false [] f13o2 [11, 5, 1, 2] e H rfl
@[simp] def f13o3 : List IOper := [
  ⟨(some 12), .mv (.t 5), none, none⟩,
  ⟨(some 13), .mv (.t 1), none, none⟩,
  ⟨(some 14), .build [(.int .i64 0), (.int .i64 0), (.int .i64 0), (.int .i64 0), (.int .i64 0), (.int .i64 0), (.int .i64 0), (.int .i64 0), (.str []), (.str []), .e0, .e0] [(0, 1, (.c (.int .i64 12))), (4, 1, (.t 13))], none, none⟩,
  ⟨(some 15), .mkimm 12 1 (.agg [(.int .i64 0), (.int .i64 0), (.int .i64 0), (.int .i64 0), (.int .i64 0), (.int .i64 0), (.int .i64 0), (.int .i64 0), (.str []), (.str []), .e0, .e0]) [(0, (.t 14))], none, none⟩,
  ⟨(some 16), .app 53 12 (.t 12) (.t 15), none, none⟩,
  ⟨(some 5), .mv (.t 16), none, none⟩]
def f13r3 : IC := .reg false [] f13o3 [1, 5, 2]
@[simp] theorem f13r3_run (tbl : TB) (fin : Fin) (K : List Fr) (e : Env) (H : List AO) : run tbl fin K f13r3 e H = regK tbl fin K [] f13o3 [1, 5, 2] e H := run_regK tbl fin K false [] f13o3 [1, 5, 2] e H rfl
@[simp] def f13o4 : List IOper := [
  ⟨(some 17), .fld 1 (.t 2), none, none⟩,
  ⟨(some 18), .load false 1 (.t 17), none, none⟩,
  ⟨(some 19), .mv (.t 18), none, none⟩,
  ⟨(some 20), .mv (.t 1), (some (19, true)), none⟩,
  ⟨(some 21), .bin .eql (.t 20) (.c (.int .i64 0)), (some (19, true)), none⟩,
  ⟨(some 22), .pick (.t 19) (.t 21) (.c (.bool false)), none, none⟩]
def f13r4 : IC := .reg false [] f13o4 [22, 5, 2]
@[simp] theorem f13r4_run (tbl : TB) (fin : Fin) (K : List Fr) (e : Env) (H : List AO) : run tbl fin K f13r4 e H = regK tbl fin K [] f13o4 [22, 5, 2] e H := run_regK tbl fin K false [] f13o4 [22, 5, 2] e H rfl
@[simp] def f13o5 : List IOper := [
  ⟨(some 23), .mv (.t 5), none, none⟩,
  ⟨(some 24), .build [(.int .i64 0), (.int .i64 0), (.int .i64 0), (.int .i64 0), (.int .i64 0), (.int .i64 0), (.int .i64 0), (.int .i64 0), (.str []), (.str []), .e0, .e0] [(0, 1, (.c (.int .i64 13)))], none, none⟩,
  ⟨(some 25), .mkimm 12 1 (.agg [(.int .i64 0), (.int .i64 0), (.int .i64 0), (.int .i64 0), (.int .i64 0), (.int .i64 0), (.int .i64 0), (.int .i64 0), (.str []), (.str []), .e0, .e0]) [(0, (.t 24))], none, none⟩,
  ⟨(some 26), .app 53 12 (.t 23) (.t 25), none, none⟩,
  ⟨(some 5), .mv (.t 26), none, none⟩]
def f13r5 : IC := .reg false [] f13o5 [5, 2]
@[simp] theorem f13r5_run (tbl : TB) (fin : Fin) (K : List Fr) (e : Env) (H : List AO) : run tbl fin K f13r5 e H = regK tbl fin K [] f13o5 [5, 2] e H := run_regK tbl fin K false [] f13o5 [5, 2] e H rfl
@[simp] def f13o6 : List IOper := [
  ⟨(some 27), .fld 4 (.t 2), none, none⟩,
  ⟨(some 28), .load false 1 (.t 27), none, none⟩]
def f13r6 : IC := .reg false [] f13o6 [28, 5, 2]
@[simp] theorem f13r6_run (tbl : TB) (fin : Fin) (K : List Fr) (e : Env) (H : List AO) : run tbl fin K f13r6 e H = regK tbl fin K [] f13o6 [28, 5, 2] e H := run_regK tbl fin K false [] f13o6 [28, 5, 2] e H rfl
@[simp] def f13o7 : List IOper := [
  ⟨(some 29), .mv (.t 5), none, none⟩,
  ⟨(some 30), .build [(.int .i64 0), (.int .i64 0), (.int .i64 0), (.int .i64 0), (.int .i64 0), (.int .i64 0), (.int .i64 0), (.int .i64 0), (.str []), (.str []), .e0, .e0] [(0, 1, (.c (.int .i64 3))), (8, 1, (.c (.str [47, 100, 101, 118, 47, 110, 117, 108, 108]))), (7, 1, (.c (.int .i64 65)))], none, none⟩,
  ⟨(some 31), .mkimm 12 1 (.agg [(.int .i64 0), (.int .i64 0), (.int .i64 0), (.int .i64 0), (.int .i64 0), (.int .i64 0), (.int .i64 0), (.int .i64 0), (.str []), (.str []), .e0, .e0]) [(0, (.t 30))], none, none⟩,
  ⟨(some 32), .app 53 12 (.t 29) (.t 31), none, none⟩,
  ⟨(some 5), .mv (.t 32), none, none⟩]
def f13r7 : IC := .reg false [] f13o7 [5, 2]
@[simp] theorem f13r7_run (tbl : TB) (fin : Fin) (K : List Fr) (e : Env) (H : List AO) : run tbl fin K f13r7 e H = regK tbl fin K [] f13o7 [5, 2] e H := run_regK tbl fin K false [] f13o7 [5, 2] e H rfl
@[simp] def f13o8 : List IOper := [
  ⟨(some 33), .fld 2 (.t 2), none, none⟩,
  ⟨(some 34), .load false 1 (.t 33), none, none⟩,
  ⟨(some 35), .len (.t 34), none, none⟩,
  ⟨(some 36), .mv (.c (.int .i64 0)), none, none⟩]
def f13r8 : IC := .reg false [] f13o8 [5, 36, 35, 2, 34]
@[simp] theorem f13r8_run (tbl : TB) (fin : Fin) (K : List Fr) (e : Env) (H : List AO) : run tbl fin K f13r8 e H = regK tbl fin K [] f13o8 [5, 36, 35, 2, 34] e H := run_regK tbl fin K false [] f13o8 [5, 36, 35, 2, 34] e H rfl
@[simp] def f13o9 : List IOper := [
  ⟨(some 37), .bin .lss (.t 36) (.t 35), none, none⟩]
def f13r9 : IC := .reg false [] f13o9 [37, 5, 36, 35, 2, 34]
@[simp] theorem f13r9_run (tbl : TB) (fin : Fin) (K : List Fr) (e : Env) (H : List AO) : run tbl fin K f13r9 e H = regK tbl fin K [] f13o9 [37, 5, 36, 35, 2, 34] e H := run_regK tbl fin K false [] f13o9 [37, 5, 36, 35, 2, 34] e H rfl
@[simp] def f13o10 : List IOper := [
  ⟨(some 38), .idx 1 (.t 34) (.t 36), none, none⟩,
  ⟨(some 39), .load false 1 (.t 38), none, none⟩,
  ⟨(some 7), .mv (.t 39), none, none⟩]
def f13r10 : IC := .reg false [] f13o10 [5, 7, 36, 35, 2, 34]
@[simp] theorem f13r10_run (tbl : TB) (fin : Fin) (K : List Fr) (e : Env) (H : List AO) : run tbl fin K f13r10 e H = regK tbl fin K [] f13o10 [5, 7, 36, 35, 2, 34] e H := run_regK tbl fin K false [] f13o10 [5, 7, 36, 35, 2, 34] e H rfl
@[simp] def f13o11 : List IOper := [
  ⟨(some 40), .mv (.t 5), none, none⟩,
  ⟨(some 41), .mv (.t 7), none, none⟩,
  ⟨(some 42), .build [(.int .i64 0), (.int .i64 0), (.int .i64 0), (.int .i64 0), (.int .i64 0), (.int .i64 0), (.int .i64 0), (.int .i64 0), (.str []), (.str []), .e0, .e0] [(0, 1, (.c (.int .i64 14))), (5, 1, (.t 41)), (6, 1, (.c (.int .i64 1)))], none, none⟩,
  ⟨(some 43), .mkimm 12 1 (.agg [(.int .i64 0), (.int .i64 0), (.int .i64 0), (.int .i64 0), (.int .i64 0), (.int .i64 0), (.int .i64 0), (.int .i64 0), (.str []), (.str []), .e0, .e0]) [(0, (.t 42))], none, none⟩,
  ⟨(some 44), .app 53 12 (.t 40) (.t 43), none, none⟩,
  ⟨(some 5), .mv (.t 44), none, none⟩]
def f13r11 : IC := .reg false [] f13o11 [36, 5, 35, 2, 34]
@[simp] theorem f13r11_run (tbl : TB) (fin : Fin) (K : List Fr) (e : Env) (H : List AO) : run tbl fin K f13r11 e H = regK tbl fin K [] f13o11 [36, 5, 35, 2, 34] e H := run_regK tbl fin K false [] f13o11 [36, 5, 35, 2, 34] e H rfl
@[simp] def f13o12 : List IOper := [
  ⟨(some 45), .bin .add (.t 36) (.c (.int .i64 1)), none, none⟩,
  ⟨(some 36), .mv (.t 45), none, none⟩]
def f13r12 : IC := .reg false [] f13o12 [5, 36, 35, 2, 34]
@[simp] theorem f13r12_run (tbl : TB) (fin : Fin) (K : List Fr) (e : Env) (H : List AO) : run tbl fin K f13r12 e H = regK tbl fin K [] f13o12 [5, 36, 35, 2, 34] e H := run_regK tbl fin K false [] f13o12 [5, 36, 35, 2, 34] e H rfl
def f13b13 : IC := (.seq f13r9 (.seq (.cond (.t 37) .skip (.exit 0)) (.seq (.block 1 (.seq f13r10 f13r11)) f13r12)))
theorem f13b13_eq : f13b13 = (.seq f13r9 (.seq (.cond (.t 37) .skip (.exit 0)) (.seq (.block 1 (.seq f13r10 f13r11)) f13r12))) := rfl
@[simp] def f13o14 : List IOper := [
  ⟨(some 46), .fld 3 (.t 2), none, none⟩,
  ⟨(some 47), .load false 1 (.t 46), none, none⟩,
  ⟨(some 48), .len (.t 47), none, none⟩,
  ⟨(some 49), .mv (.c (.int .i64 0)), none, none⟩]
def f13r14 : IC := .reg false [] f13o14 [5, 49, 48, 47]
@[simp] theorem f13r14_run (tbl : TB) (fin : Fin) (K : List Fr) (e : Env) (H : List AO) : run tbl fin K f13r14 e H = regK tbl fin K [] f13o14 [5, 49, 48, 47] e H := run_regK tbl fin K false [] f13o14 [5, 49, 48, 47] e H rfl
@[simp] def f13o15 : List IOper := [
  ⟨(some 50), .bin .lss (.t 49) (.t 48), none, none⟩]
def f13r15 : IC := .reg false [] f13o15 [50, 5, 49, 48, 47]
@[simp] theorem f13r15_run (tbl : TB) (fin : Fin) (K : List Fr) (e : Env) (H : List AO) : run tbl fin K f13r15 e H = regK tbl fin K [] f13o15 [50, 5, 49, 48, 47] e H := run_regK tbl fin K false [] f13o15 [50, 5, 49, 48, 47] e H rfl
@[simp] def f13o16 : List IOper := [
  ⟨(some 51), .idx 1 (.t 47) (.t 49), none, none⟩,
  ⟨(some 52), .load false 1 (.t 51), none, none⟩,
  ⟨(some 9), .mv (.t 52), none, none⟩]
def f13r16 : IC := .reg false [] f13o16 [5, 9, 49, 48, 47]
@[simp] theorem f13r16_run (tbl : TB) (fin : Fin) (K : List Fr) (e : Env) (H : List AO) : run tbl fin K f13r16 e H = regK tbl fin K [] f13o16 [5, 9, 49, 48, 47] e H := run_regK tbl fin K false [] f13o16 [5, 9, 49, 48, 47] e H rfl
@[simp] def f13o17 : List IOper := [
  ⟨(some 53), .mv (.t 5), none, none⟩,
  ⟨(some 54), .mv (.t 9), none, none⟩,
  ⟨(some 55), .build [(.int .i64 0), (.int .i64 0), (.int .i64 0), (.int .i64 0), (.int .i64 0), (.int .i64 0), (.int .i64 0), (.int .i64 0), (.str []), (.str []), .e0, .e0] [(0, 1, (.c (.int .i64 14))), (5, 1, (.t 54))], none, none⟩,
  ⟨(some 56), .mkimm 12 1 (.agg [(.int .i64 0), (.int .i64 0), (.int .i64 0), (.int .i64 0), (.int .i64 0), (.int .i64 0), (.int .i64 0), (.int .i64 0), (.str []), (.str []), .e0, .e0]) [(0, (.t 55))], none, none⟩,
  ⟨(some 57), .app 53 12 (.t 53) (.t 56), none, none⟩,
  ⟨(some 5), .mv (.t 57), none, none⟩]
def f13r17 : IC := .reg false [] f13o17 [49, 5, 48, 47]
@[simp] theorem f13r17_run (tbl : TB) (fin : Fin) (K : List Fr) (e : Env) (H : List AO) : run tbl fin K f13r17 e H = regK tbl fin K [] f13o17 [49, 5, 48, 47] e H := run_regK tbl fin K false [] f13o17 [49, 5, 48, 47] e H rfl
@[simp] def f13o18 : List IOper := [
  ⟨(some 58), .bin .add (.t 49) (.c (.int .i64 1)), none, none⟩,
  ⟨(some 49), .mv (.t 58), none, none⟩]
def f13r18 : IC := .reg false [] f13o18 [5, 49, 48, 47]
@[simp] theorem f13r18_run (tbl : TB) (fin : Fin) (K : List Fr) (e : Env) (H : List AO) : run tbl fin K f13r18 e H = regK tbl fin K [] f13o18 [5, 49, 48, 47] e H := run_regK tbl fin K false [] f13o18 [5, 49, 48, 47] e H rfl
def f13b19 : IC := (.seq f13r15 (.seq (.cond (.t 50) .skip (.exit 2)) (.seq (.block 3 (.seq f13r16 f13r17)) f13r18)))
theorem f13b19_eq : f13b19 = (.seq f13r15 (.seq (.cond (.t 50) .skip (.exit 2)) (.seq (.block 3 (.seq f13r16 f13r17)) f13r18))) := rfl
@[simp] def f13o20 : List IOper := [
  ⟨(some 59), .mv (.t 5), none, none⟩,
  ⟨(some 4), .mv (.t 59), none, none⟩]
def f13r20 : IC := .reg false [] f13o20 [4]
@[simp] theorem f13r20_run (tbl : TB) (fin : Fin) (K : List Fr) (e : Env) (H : List AO) : run tbl fin K f13r20 e H = regK tbl fin K [] f13o20 [4] e H := run_regK tbl fin K false [] f13o20 [4] e H rfl
def f13body : IC := (.seq f13r0 (.seq f13r1 (.seq (.seq f13r2 (.cond (.t 11) f13r3 .skip)) (.seq (.seq f13r4 (.cond (.t 22) f13r5 .skip)) (.seq (.seq f13r6 (.cond (.t 28) f13r7 .skip)) (.seq (.seq f13r8 (.block 0 (.loop [5, 36, 35, 2, 34] f13b13))) (.seq (.seq f13r14 (.block 2 (.loop [5, 49, 48, 47] f13b19))) (.seq f13r20 .ret))))))))
def f13 : IFn := ⟨60, 2, [.tmp 4], f13body⟩
/- 14: jobshell/control.Parent -/
@[simp] def f14o0 : List IOper := [
  ⟨(some 3), .box 34 5 (.t 0), none, none⟩,
  ⟨(some 6), .nilrow 53 12, none, none⟩]
def f14r0 : IC := .reg false [] f14o0 [3, 1, 2]
@[simp] theorem f14r0_run (tbl : TB) (fin : Fin) (K : List Fr) (e : Env) (H : List AO) : run tbl fin K f14r0 e H = regK tbl fin K [] f14o0 [3, 1, 2] e H := run_regK tbl fin K false [] f14o0 [3, 1, 2] e H rfl
@[simp] def f14o1 : List IOper := [
  ⟨(some 10), .load true 5 (.t 3), none, none⟩,
  ⟨(some 11), .mv (.t 1), none, none⟩,
  ⟨(some 12), .build [(.bool false), (.bool false), .e0, .e0, (.bool false), (.int .i64 0)] [(0, 5, (.t 10)), (5, 1, (.t 11))], none, none⟩,
  ⟨(some 7), .new 56 6 (.agg [(.bool false), (.bool false), .e0, .e0, (.bool false), (.int .i64 0)]), none, none⟩,
  ⟨none, .store 6 (.t 7) (.t 12), none, none⟩]
def f14r1 : IC := .reg false [] f14o1 [7, 2]
@[simp] theorem f14r1_run (tbl : TB) (fin : Fin) (K : List Fr) (e : Env) (H : List AO) : run tbl fin K f14r1 e H = regK tbl fin K [] f14o1 [7, 2] e H := run_regK tbl fin K false [] f14o1 [7, 2] e H rfl
@[simp] def f14o2 : List IOper := [
  ⟨(some 8), .nilrow 53 12, none, none⟩]
def f14r2 : IC := .reg false [] f14o2 [8, 7, 2]
@[simp] theorem f14r2_run (tbl : TB) (fin : Fin) (K : List Fr) (e : Env) (H : List AO) : run tbl fin K f14r2 e H = regK tbl fin K [] f14o2 [8, 7, 2] e H := run_regK tbl fin K false [] f14o2 [8, 7, 2] e H rfl
@[simp] def f14o3 : List IOper := [
  ⟨(some 13), .fld 0 (.t 7), none, none⟩,
  ⟨(some 14), .fld 0 (.t 13), none, none⟩,
  ⟨(some 15), .load false 1 (.t 14), none, none⟩]
def f14r3 : IC := .reg false [] f14o3 [15, 8, 7, 2]
@[simp] theorem f14r3_run (tbl : TB) (fin : Fin) (K : List Fr) (e : Env) (H : List AO) : run tbl fin K f14r3 e H = regK tbl fin K [] f14o3 [15, 8, 7, 2] e H := run_regK tbl fin K false [] f14o3 [15, 8, 7, 2] e H rfl
@[simp] def f14o4 : List IOper := [
  ⟨(some 16), .fld 5 (.t 7), none, none⟩,
  ⟨(some 17), .load false 1 (.t 16), none, none⟩,
  ⟨(some 9), .mv (.t 17), none, none⟩]
def f14r4 : IC := .reg false [] f14o4 [9, 8, 7, 2]
@[simp] theorem f14r4_run (tbl : TB) (fin : Fin) (K : List Fr) (e : Env) (H : List AO) : run tbl fin K f14r4 e H = regK tbl fin K [] f14o4 [9, 8, 7, 2] e H := run_regK tbl fin K false [] f14o4 [9, 8, 7, 2] e H rfl
@[simp] def f14o5 : List IOper := [
  ⟨(some 18), .mv (.t 9), none, none⟩,
  ⟨(some 19), .bin .eql (.t 18) (.c (.int .i64 0)), none, none⟩]
def f14r5 : IC := .reg false [] f14o5 [19, 9, 8, 7, 2]
@[simp] theorem f14r5_run (tbl : TB) (fin : Fin) (K : List Fr) (e : Env) (H : List AO) : run tbl fin K f14r5 e H = regK tbl fin K [] f14o5 [19, 9, 8, 7, 2] e H := run_regK tbl fin K false [] f14o5 [19, 9, 8, 7, 2] e H rfl
@[simp] def f14o6 : List IOper := [
  ⟨(some 20), .mv (.t 2), none, none⟩,
  ⟨(some 9), .mv (.t 20), none, none⟩]
def f14r6 : IC := .reg false [] f14o6 [8, 9, 7, 2]
@[simp] theorem f14r6_run (tbl : TB) (fin : Fin) (K : List Fr) (e : Env) (H : List AO) : run tbl fin K f14r6 e H = regK tbl fin K [] f14o6 [8, 9, 7, 2] e H := run_regK tbl fin K false [] f14o6 [8, 9, 7, 2] e H rfl
@[simp] def f14o7 : List IOper := [
  ⟨(some 21), .mv (.t 8), none, none⟩,
  ⟨(some 22), .mv (.t 2), none, none⟩,
  ⟨(some 23), .mv (.t 9), none, none⟩,
  ⟨(some 24), .build [(.int .i64 0), (.int .i64 0), (.int .i64 0), (.int .i64 0), (.int .i64 0), (.int .i64 0), (.int .i64 0), (.int .i64 0), (.str []), (.str []), .e0, .e0] [(0, 1, (.c (.int .i64 12))), (3, 1, (.t 22)), (4, 1, (.t 23))], none, none⟩,
  ⟨(some 25), .mkimm 12 1 (.agg [(.int .i64 0), (.int .i64 0), (.int .i64 0), (.int .i64 0), (.int .i64 0), (.int .i64 0), (.int .i64 0), (.int .i64 0), (.str []), (.str []), .e0, .e0]) [(0, (.t 24))], none, none⟩,
  ⟨(some 26), .app 53 12 (.t 21) (.t 25), none, none⟩,
  ⟨(some 8), .mv (.t 26), none, none⟩]
def f14r7 : IC := .reg false [] f14o7 [7, 8, 2]
@[simp] theorem f14r7_run (tbl : TB) (fin : Fin) (K : List Fr) (e : Env) (H : List AO) : run tbl fin K f14r7 e H = regK tbl fin K [] f14o7 [7, 8, 2] e H := run_regK tbl fin K false [] f14o7 [7, 8, 2] e H rfl
@[simp] def f14o8 : List IOper := [
  ⟨(some 27), .load true 6 (.t 7), none, none⟩,
  ⟨(some 28), .call (.c (.fn 24 [])) [(.t 27)], none, none⟩]
def f14r8 : IC := .reg false [] f14o8 [28, 8, 2]
@[simp] theorem f14r8_run (tbl : TB) (fin : Fin) (K : List Fr) (e : Env) (H : List AO) : run tbl fin K f14r8 e H = regK tbl fin K [] f14o8 [28, 8, 2] e H := run_regK tbl fin K false [] f14o8 [28, 8, 2] e H rfl
@[simp] def f14o9 : List IOper := [
  ⟨(some 29), .mv (.t 8), none, none⟩,
  ⟨(some 30), .mv (.t 2), none, none⟩,
  ⟨(some 31), .build [(.int .i64 0), (.int .i64 0), (.int .i64 0), (.int .i64 0), (.int .i64 0), (.int .i64 0), (.int .i64 0), (.int .i64 0), (.str []), (.str []), .e0, .e0] [(0, 1, (.c (.int .i64 13))), (3, 1, (.t 30))], none, none⟩,
  ⟨(some 32), .mkimm 12 1 (.agg [(.int .i64 0), (.int .i64 0), (.int .i64 0), (.int .i64 0), (.int .i64 0), (.int .i64 0), (.int .i64 0), (.int .i64 0), (.str []), (.str []), .e0, .e0]) [(0, (.t 31))], none, none⟩,
  ⟨(some 33), .app 53 12 (.t 29) (.t 32), none, none⟩,
  ⟨(some 8), .mv (.t 33), none, none⟩]
def f14r9 : IC := .reg false [] f14o9 [8]
@[simp] theorem f14r9_run (tbl : TB) (fin : Fin) (K : List Fr) (e : Env) (H : List AO) : run tbl fin K f14r9 e H = regK tbl fin K [] f14o9 [8] e H := run_regK tbl fin K false [] f14o9 [8] e H rfl
@[simp] def f14o10 : List IOper := [
  ⟨(some 34), .mv (.t 8), none, none⟩,
  ⟨(some 6), .mv (.t 34), none, none⟩]
def f14r10 : IC := .reg false [] f14o10 [6]
@[simp] theorem f14r10_run (tbl : TB) (fin : Fin) (K : List Fr) (e : Env) (H : List AO) : run tbl fin K f14r10 e H = regK tbl fin K [] f14o10 [6] e H := run_regK tbl fin K false [] f14o10 [6] e H rfl
def f14body : IC := (.seq f14r0 (.seq f14r1 (.seq f14r2 (.seq (.seq f14r3 (.cond (.t 15) (.seq f14r4 (.seq (.seq f14r5 (.cond (.t 19) f14r6 .skip)) f14r7)) .skip)) (.seq (.seq f14r8 (.cond (.t 28) f14r9 .skip)) (.seq f14r10 .ret))))))
def f14 : IFn := ⟨35, 3, [.tmp 6], f14body⟩
/- 15: jobshell/jobshellref38.Parent -/
@[simp] def f15o0 : List IOper := [
  ⟨(some 3), .box 34 5 (.t 0), none, none⟩,
  ⟨(some 6), .nilrow 53 12, none, none⟩]
def f15r0 : IC := .reg false [] f15o0 [3, 1, 2]
@[simp] theorem f15r0_run (tbl : TB) (fin : Fin) (K : List Fr) (e : Env) (H : List AO) : run tbl fin K f15r0 e H = regK tbl fin K [] f15o0 [3, 1, 2] e H := run_regK tbl fin K false [] f15o0 [3, 1, 2] e H rfl
@[simp] def f15o1 : List IOper := [
  ⟨(some 7), .nilrow 53 12, none, none⟩]
def f15r1 : IC := .reg false [] f15o1 [7, 3, 1, 2]
@[simp] theorem f15r1_run (tbl : TB) (fin : Fin) (K : List Fr) (e : Env) (H : List AO) : run tbl fin K f15r1 e H = regK tbl fin K [] f15o1 [7, 3, 1, 2] e H := run_regK tbl fin K false [] f15o1 [7, 3, 1, 2] e H rfl
@[simp] def f15o2 : List IOper := [
  ⟨(some 9), .fld 0 (.t 3), none, none⟩,
  ⟨(some 10), .load false 1 (.t 9), none, none⟩]
def f15r2 : IC := .reg false [] f15o2 [10, 7, 3, 1, 2]
@[simp] theorem f15r2_run (tbl : TB) (fin : Fin) (K : List Fr) (e : Env) (H : List AO) : run tbl fin K f15r2 e H = regK tbl fin K [] f15o2 [10, 7, 3, 1, 2] e H := run_regK tbl fin K false [] f15o2 [10, 7, 3, 1, 2] e H rfl
@[simp] def f15o3 : List IOper := [
  ⟨(some 11), .mv (.t 1), none, none⟩,
  ⟨(some 8), .mv (.t 11), none, none⟩]
def f15r3 : IC := .reg false [] f15o3 [8, 7, 3, 1, 2]
@[simp] theorem f15r3_run (tbl : TB) (fin : Fin) (K : List Fr) (e : Env) (H : List AO) : run tbl fin K f15r3 e H = regK tbl fin K [] f15o3 [8, 7, 3, 1, 2] e H := run_regK tbl fin K false [] f15o3 [8, 7, 3, 1, 2] e H rfl
@[simp] def f15o4 : List IOper := [
  ⟨(some 12), .mv (.t 8), none, none⟩,
  ⟨(some 13), .bin .eql (.t 12) (.c (.int .i64 0)), none, none⟩]
def f15r4 : IC := .reg false [] f15o4 [13, 8, 7, 3, 1, 2]
@[simp] theorem f15r4_run (tbl : TB) (fin : Fin) (K : List Fr) (e : Env) (H : List AO) : run tbl fin K f15r4 e H = regK tbl fin K [] f15o4 [13, 8, 7, 3, 1, 2] e H := run_regK tbl fin K false [] f15o4 [13, 8, 7, 3, 1, 2] e H rfl
@[simp] def f15o5 : List IOper := [
  ⟨(some 14), .mv (.t 2), none, none⟩,
  ⟨(some 8), .mv (.t 14), none, none⟩]
def f15r5 : IC := .reg false [] f15o5 [7, 8, 3, 1, 2]
@[simp] theorem f15r5_run (tbl : TB) (fin : Fin) (K : List Fr) (e : Env) (H : List AO) : run tbl fin K f15r5 e H = regK tbl fin K [] f15o5 [7, 8, 3, 1, 2] e H := run_regK tbl fin K false [] f15o5 [7, 8, 3, 1, 2] e H rfl
@[simp] def f15o6 : List IOper := [
  ⟨(some 15), .mv (.t 7), none, none⟩,
  ⟨(some 16), .mv (.t 2), none, none⟩,
  ⟨(some 17), .mv (.t 8), none, none⟩,
  ⟨(some 18), .build [(.int .i64 0), (.int .i64 0), (.int .i64 0), (.int .i64 0), (.int .i64 0), (.int .i64 0), (.int .i64 0), (.int .i64 0), (.str []), (.str []), .e0, .e0] [(0, 1, (.c (.int .i64 12))), (3, 1, (.t 16)), (4, 1, (.t 17))], none, none⟩,
  ⟨(some 19), .mkimm 12 1 (.agg [(.int .i64 0), (.int .i64 0), (.int .i64 0), (.int .i64 0), (.int .i64 0), (.int .i64 0), (.int .i64 0), (.int .i64 0), (.str []), (.str []), .e0, .e0]) [(0, (.t 18))], none, none⟩,
  ⟨(some 20), .app 53 12 (.t 15) (.t 19), none, none⟩,
  ⟨(some 7), .mv (.t 20), none, none⟩]
def f15r6 : IC := .reg false [] f15o6 [3, 1, 7, 2]
@[simp] theorem f15r6_run (tbl : TB) (fin : Fin) (K : List Fr) (e : Env) (H : List AO) : run tbl fin K f15r6 e H = regK tbl fin K [] f15o6 [3, 1, 7, 2] e H := run_regK tbl fin K false [] f15o6 [3, 1, 7, 2] e H rfl
@[simp] def f15o7 : List IOper := [
  ⟨(some 21), .fld 1 (.t 3), none, none⟩,
  ⟨(some 22), .load false 1 (.t 21), none, none⟩,
  ⟨(some 23), .mv (.t 22), none, none⟩,
  ⟨(some 24), .mv (.t 1), (some (23, true)), none⟩,
  ⟨(some 25), .bin .eql (.t 24) (.c (.int .i64 0)), (some (23, true)), none⟩,
  ⟨(some 26), .pick (.t 23) (.t 25) (.c (.bool false)), none, none⟩]
def f15r7 : IC := .reg false [] f15o7 [26, 7, 2]
@[simp] theorem f15r7_run (tbl : TB) (fin : Fin) (K : List Fr) (e : Env) (H : List AO) : run tbl fin K f15r7 e H = regK tbl fin K [] f15o7 [26, 7, 2] e H := run_regK tbl fin K false [] f15o7 [26, 7, 2] e H rfl
@[simp] def f15o8 : List IOper := [
  ⟨(some 27), .mv (.t 7), none, none⟩,
  ⟨(some 28), .mv (.t 2), none, none⟩,
  ⟨(some 29), .build [(.int .i64 0), (.int .i64 0), (.int .i64 0), (.int .i64 0), (.int .i64 0), (.int .i64 0), (.int .i64 0), (.int .i64 0), (.str []), (.str []), .e0, .e0] [(0, 1, (.c (.int .i64 13))), (3, 1, (.t 28))], none, none⟩,
  ⟨(some 30), .mkimm 12 1 (.agg [(.int .i64 0), (.int .i64 0), (.int .i64 0), (.int .i64 0), (.int .i64 0), (.int .i64 0), (.int .i64 0), (.int .i64 0), (.str []), (.str []), .e0, .e0]) [(0, (.t 29))], none, none⟩,
  ⟨(some 31), .app 53 12 (.t 27) (.t 30), none, none⟩,
  ⟨(some 7), .mv (.t 31), none, none⟩]
def f15r8 : IC := .reg false [] f15o8 [7]
@[simp] theorem f15r8_run (tbl : TB) (fin : Fin) (K : List Fr) (e : Env) (H : List AO) : run tbl fin K f15r8 e H = regK tbl fin K [] f15o8 [7] e H := run_regK tbl fin K false [] f15o8 [7] e H rfl
@[simp] def f15o9 : List IOper := [
  ⟨(some 32), .mv (.t 7), none, none⟩,
  ⟨(some 6), .mv (.t 32), none, none⟩]
def f15r9 : IC := .reg false [] f15o9 [6]
@[simp] theorem f15r9_run (tbl : TB) (fin : Fin) (K : List Fr) (e : Env) (H : List AO) : run tbl fin K f15r9 e H = regK tbl fin K [] f15o9 [6] e H := run_regK tbl fin K false [] f15o9 [6] e H rfl
def f15body : IC := (.seq f15r0 (.seq f15r1 (.seq (.seq f15r2 (.cond (.t 10) (.seq f15r3 (.seq (.seq f15r4 (.cond (.t 13) f15r5 .skip)) f15r6)) .skip)) (.seq (.seq f15r7 (.cond (.t 26) f15r8 .skip)) (.seq f15r9 .ret)))))
def f15 : IFn := ⟨33, 3, [.tmp 6], f15body⟩
/- 16: jobshell/control.Front -/
@[simp] def f16o0 : List IOper := [
  ⟨(some 2), .box 40 7 (.t 0), none, none⟩,
  ⟨(some 4), .nilrow 53 12, none, none⟩]
def f16r0 : IC := .reg false [] f16o0 [1, 2]
@[simp] theorem f16r0_run (tbl : TB) (fin : Fin) (K : List Fr) (e : Env) (H : List AO) : run tbl fin K f16r0 e H = regK tbl fin K [] f16o0 [1, 2] e H := run_regK tbl fin K false [] f16o0 [1, 2] e H rfl
@[simp] def f16o1 : List IOper := [
  ⟨(some 5), .nilrow 53 12, none, none⟩]
def f16r1 : IC := .reg false [] f16o1 [1, 5, 2]
@[simp] theorem f16r1_run (tbl : TB) (fin : Fin) (K : List Fr) (e : Env) (H : List AO) : run tbl fin K f16r1 e H = regK tbl fin K [] f16o1 [1, 5, 2] e H := run_regK tbl fin K false [] f16o1 [1, 5, 2] e H rfl
@[simp] def f16o2 : List IOper := [
  ⟨(some 6), .fld 1 (.t 2), none, none⟩,
  ⟨(some 7), .load false 1 (.t 6), none, none⟩,
  ⟨(some 8), .mv (.t 1), none, none⟩,
  ⟨(some 9), .bin .neq (.t 7) (.t 8), none, none⟩]
def f16r2 : IC := .reg false [] f16o2 [9, 5, 2]
@[simp] theorem f16r2_run (tbl : TB) (fin : Fin) (K : List Fr) (e : Env) (H : List AO) : run tbl fin K f16r2 e H = regK tbl fin K [] f16o2 [9, 5, 2] e H := run_regK tbl fin K false [] f16o2 [9, 5, 2] e H rfl
@[simp] def f16o3 : List IOper := [
  ⟨(some 10), .mv (.t 5), none, none⟩,
  ⟨(some 11), .fld 1 (.t 2), none, none⟩,
  ⟨(some 12), .load false 1 (.t 11), none, none⟩,
  ⟨(some 13), .build [(.int .i64 0), (.int .i64 0), (.int .i64 0), (.int .i64 0), (.int .i64 0), (.int .i64 0), (.int .i64 0), (.int .i64 0), (.str []), (.str []), .e0, .e0] [(0, 1, (.c (.int .i64 13))), (3, 1, (.t 12))], none, none⟩,
  ⟨(some 14), .mkimm 12 1 (.agg [(.int .i64 0), (.int .i64 0), (.int .i64 0), (.int .i64 0), (.int .i64 0), (.int .i64 0), (.int .i64 0), (.int .i64 0), (.str []), (.str []), .e0, .e0]) [(0, (.t 13))], none, none⟩,
  ⟨(some 15), .app 53 12 (.t 10) (.t 14), none, none⟩,
  ⟨(some 5), .mv (.t 15), none, none⟩]
def f16r3 : IC := .reg false [] f16o3 [5, 2]
@[simp] theorem f16r3_run (tbl : TB) (fin : Fin) (K : List Fr) (e : Env) (H : List AO) : run tbl fin K f16r3 e H = regK tbl fin K [] f16o3 [5, 2] e H := run_regK tbl fin K false [] f16o3 [5, 2] e H rfl
@[simp] def f16o4 : List IOper := [
  ⟨(some 16), .mv (.t 5), none, none⟩,
  ⟨(some 17), .load true 7 (.t 2), none, none⟩,
  ⟨(some 18), .call (.c (.fn 18 [])) [(.t 17)], none, none⟩,
  ⟨(some 19), .app 53 12 (.t 16) (.t 18), none, none⟩,
  ⟨(some 4), .mv (.t 19), none, none⟩]
def f16r4 : IC := .reg false [] f16o4 [4]
@[simp] theorem f16r4_run (tbl : TB) (fin : Fin) (K : List Fr) (e : Env) (H : List AO) : run tbl fin K f16r4 e H = regK tbl fin K [] f16o4 [4] e H := run_regK tbl fin K false [] f16o4 [4] e H rfl
def f16body : IC := (.seq f16r0 (.seq f16r1 (.seq (.seq f16r2 (.cond (.t 9) f16r3 .skip)) (.seq f16r4 .ret))))
def f16 : IFn := ⟨20, 2, [.tmp 4], f16body⟩
/- 17: jobshell/jobshellref38.Front -/
@[simp] def f17o0 : List IOper := [
  ⟨(some 2), .box 40 7 (.t 0), none, none⟩,
  ⟨(some 4), .nilrow 53 12, none, none⟩]
def f17r0 : IC := .reg false [] f17o0 [1, 2]
@[simp] theorem f17r0_run (tbl : TB) (fin : Fin) (K : List Fr) (e : Env) (H : List AO) : run tbl fin K f17r0 e H = regK tbl fin K [] f17o0 [1, 2] e H := run_regK tbl fin K false [] f17o0 [1, 2] e H rfl
@[simp] def f17o1 : List IOper := [
  ⟨(some 5), .nilrow 53 12, none, none⟩]
def f17r1 : IC := .reg false [] f17o1 [1, 5, 2]
@[simp] theorem f17r1_run (tbl : TB) (fin : Fin) (K : List Fr) (e : Env) (H : List AO) : run tbl fin K f17r1 e H = regK tbl fin K [] f17o1 [1, 5, 2] e H := run_regK tbl fin K false [] f17o1 [1, 5, 2] e H rfl
@[simp] def f17o2 : List IOper := [
  ⟨(some 6), .fld 1 (.t 2), none, none⟩,
  ⟨(some 7), .load false 1 (.t 6), none, none⟩,
  ⟨(some 8), .mv (.t 1), none, none⟩,
  ⟨(some 9), .bin .neq (.t 7) (.t 8), none, none⟩]
def f17r2 : IC := .reg false [] f17o2 [9, 5, 2]
@[simp] theorem f17r2_run (tbl : TB) (fin : Fin) (K : List Fr) (e : Env) (H : List AO) : run tbl fin K f17r2 e H = regK tbl fin K [] f17o2 [9, 5, 2] e H := run_regK tbl fin K false [] f17o2 [9, 5, 2] e H rfl
@[simp] def f17o3 : List IOper := [
  ⟨(some 10), .mv (.t 5), none, none⟩,
  ⟨(some 11), .fld 1 (.t 2), none, none⟩,
  ⟨(some 12), .load false 1 (.t 11), none, none⟩,
  ⟨(some 13), .build [(.int .i64 0), (.int .i64 0), (.int .i64 0), (.int .i64 0), (.int .i64 0), (.int .i64 0), (.int .i64 0), (.int .i64 0), (.str []), (.str []), .e0, .e0] [(0, 1, (.c (.int .i64 13))), (3, 1, (.t 12))], none, none⟩,
  ⟨(some 14), .mkimm 12 1 (.agg [(.int .i64 0), (.int .i64 0), (.int .i64 0), (.int .i64 0), (.int .i64 0), (.int .i64 0), (.int .i64 0), (.int .i64 0), (.str []), (.str []), .e0, .e0]) [(0, (.t 13))], none, none⟩,
  ⟨(some 15), .app 53 12 (.t 10) (.t 14), none, none⟩,
  ⟨(some 5), .mv (.t 15), none, none⟩]
def f17r3 : IC := .reg false [] f17o3 [5, 2]
@[simp] theorem f17r3_run (tbl : TB) (fin : Fin) (K : List Fr) (e : Env) (H : List AO) : run tbl fin K f17r3 e H = regK tbl fin K [] f17o3 [5, 2] e H := run_regK tbl fin K false [] f17o3 [5, 2] e H rfl
@[simp] def f17o4 : List IOper := [
  ⟨(some 16), .mv (.t 5), none, none⟩,
  ⟨(some 17), .load true 7 (.t 2), none, none⟩,
  ⟨(some 18), .call (.c (.fn 19 [])) [(.t 17)], none, none⟩,
  ⟨(some 19), .app 53 12 (.t 16) (.t 18), none, none⟩,
  ⟨(some 4), .mv (.t 19), none, none⟩]
def f17r4 : IC := .reg false [] f17o4 [4]
@[simp] theorem f17r4_run (tbl : TB) (fin : Fin) (K : List Fr) (e : Env) (H : List AO) : run tbl fin K f17r4 e H = regK tbl fin K [] f17o4 [4] e H := run_regK tbl fin K false [] f17o4 [4] e H rfl
def f17body : IC := (.seq f17r0 (.seq f17r1 (.seq (.seq f17r2 (.cond (.t 9) f17r3 .skip)) (.seq f17r4 .ret))))
def f17 : IFn := ⟨20, 2, [.tmp 4], f17body⟩
/- 18: jobshell/control.Back -/
@[simp] def f18o0 : List IOper := [
  ⟨(some 1), .box 40 7 (.t 0), none, none⟩,
  ⟨(some 2), .nilrow 53 12, none, none⟩]
def f18r0 : IC := .reg false [] f18o0 [1]
@[simp] theorem f18r0_run (tbl : TB) (fin : Fin) (K : List Fr) (e : Env) (H : List AO) : run tbl fin K f18r0 e H = regK tbl fin K [] f18o0 [1] e H := run_regK tbl fin K false [] f18o0 [1] e H rfl
@[simp] def f18o1 : List IOper := [
  ⟨(some 7), .fld 4 (.t 1), none, none⟩,
  ⟨(some 8), .load false 1 (.t 7), none, none⟩,
  ⟨(some 9), .len (.t 8), none, none⟩,
  ⟨(some 10), .mv (.c (.int .i64 0)), none, none⟩]
def f18r1 : IC := .reg false [] f18o1 [9, 8, 10, 1]
@[simp] theorem f18r1_run (tbl : TB) (fin : Fin) (K : List Fr) (e : Env) (H : List AO) : run tbl fin K f18r1 e H = regK tbl fin K [] f18o1 [9, 8, 10, 1] e H := run_regK tbl fin K false [] f18o1 [9, 8, 10, 1] e H rfl
@[simp] def f18o2 : List IOper := [
  ⟨(some 11), .bin .lss (.t 10) (.t 9), none, none⟩]
def f18r2 : IC := .reg false [] f18o2 [11, 8, 9, 10, 1]
@[simp] theorem f18r2_run (tbl : TB) (fin : Fin) (K : List Fr) (e : Env) (H : List AO) : run tbl fin K f18r2 e H = regK tbl fin K [] f18o2 [11, 8, 9, 10, 1] e H := run_regK tbl fin K false [] f18o2 [11, 8, 9, 10, 1] e H rfl
@[simp] def f18o3 : List IOper := [
  ⟨(some 12), .idx 1 (.t 8) (.t 10), none, none⟩,
  ⟨(some 13), .load false 1 (.t 12), none, none⟩,
  ⟨(some 4), .mv (.t 13), none, none⟩]
def f18r3 : IC := .reg false [] f18o3 [4, 8, 9, 10, 1]
@[simp] theorem f18r3_run (tbl : TB) (fin : Fin) (K : List Fr) (e : Env) (H : List AO) : run tbl fin K f18r3 e H = regK tbl fin K [] f18o3 [4, 8, 9, 10, 1] e H := run_regK tbl fin K false [] f18o3 [4, 8, 9, 10, 1] e H rfl
@[simp] def f18o4 : List IOper := [
  ⟨(some 15), .mv (.t 4), none, none⟩,
  ⟨(some 16), .call (.c (.fn 25 [])) [(.t 15)], none, none⟩,
  ⟨(some 14), .mv (.t 16), none, none⟩,
  ⟨(some 17), .ext (.t 14) 0, none, none⟩,
  ⟨(some 18), .ext (.t 14) 1, none, none⟩,
  ⟨(some 5), .mv (.t 17), none, none⟩,
  ⟨(some 6), .mv (.t 18), none, none⟩]
def f18r4 : IC := .reg false [] f18o4 [5, 8, 9, 10, 1]
@[simp] theorem f18r4_run (tbl : TB) (fin : Fin) (K : List Fr) (e : Env) (H : List AO) : run tbl fin K f18r4 e H = regK tbl fin K [] f18o4 [5, 8, 9, 10, 1] e H := run_regK tbl fin K false [] f18o4 [5, 8, 9, 10, 1] e H rfl
@[simp] def f18o5 : List IOper := [
  ⟨(some 19), .mv (.t 5), none, none⟩,
  ⟨(some 20), .bin .eql (.t 19) (.c (.int .i64 2)), none, none⟩]
def f18r5 : IC := .reg false [] f18o5 [20, 8, 9, 10, 1]
@[simp] theorem f18r5_run (tbl : TB) (fin : Fin) (K : List Fr) (e : Env) (H : List AO) : run tbl fin K f18r5 e H = regK tbl fin K [] f18o5 [20, 8, 9, 10, 1] e H := run_regK tbl fin K false [] f18o5 [20, 8, 9, 10, 1] e H rfl
@[simp] def f18o6 : List IOper := [
  ⟨(some 21), .fld 1 (.t 1), none, none⟩,
  ⟨(some 22), .load false 1 (.t 21), none, none⟩,
  ⟨(some 23), .un .neg (.t 22), none, none⟩,
  ⟨(some 24), .build [(.int .i64 0), (.int .i64 0), (.int .i64 0), (.int .i64 0), (.int .i64 0), (.int .i64 0), (.int .i64 0), (.int .i64 0), (.str []), (.str []), .e0, .e0] [(0, 1, (.c (.int .i64 11))), (3, 1, (.t 23)), (5, 1, (.c (.int .i64 18)))], none, none⟩,
  ⟨(some 25), .mkrow 53 12 1 (.agg [(.int .i64 0), (.int .i64 0), (.int .i64 0), (.int .i64 0), (.int .i64 0), (.int .i64 0), (.int .i64 0), (.int .i64 0), (.str []), (.str []), .e0, .e0]) [(0, (.t 24))], none, none⟩,
  ⟨(some 2), .mv (.t 25), none, none⟩]
def f18r6 : IC := .reg false [] f18o6 [2]
@[simp] theorem f18r6_run (tbl : TB) (fin : Fin) (K : List Fr) (e : Env) (H : List AO) : run tbl fin K f18r6 e H = regK tbl fin K [] f18o6 [2] e H := run_regK tbl fin K false [] f18o6 [2] e H rfl
@[simp] def f18o7 : List IOper := [
  ⟨(some 26), .bin .add (.t 10) (.c (.int .i64 1)), none, none⟩,
  ⟨(some 10), .mv (.t 26), none, none⟩]
def f18r7 : IC := .reg false [] f18o7 [9, 8, 10, 1]
@[simp] theorem f18r7_run (tbl : TB) (fin : Fin) (K : List Fr) (e : Env) (H : List AO) : run tbl fin K f18r7 e H = regK tbl fin K [] f18o7 [9, 8, 10, 1] e H := run_regK tbl fin K false [] f18o7 [9, 8, 10, 1] e H rfl
def f18b8 : IC := (.seq f18r2 (.seq (.cond (.t 11) .skip (.exit 0)) (.seq (.block 1 (.seq f18r3 (.seq f18r4 (.seq f18r5 (.cond (.t 20) (.seq f18r6 .ret) .skip))))) f18r7)))
theorem f18b8_eq : f18b8 = (.seq f18r2 (.seq (.cond (.t 11) .skip (.exit 0)) (.seq (.block 1 (.seq f18r3 (.seq f18r4 (.seq f18r5 (.cond (.t 20) (.seq f18r6 .ret) .skip))))) f18r7))) := rfl
@[simp] def f18o9 : List IOper := [
  ⟨(some 2), .nilrow 53 12, none, none⟩]
def f18r9 : IC := .reg false [] f18o9 [2]
@[simp] theorem f18r9_run (tbl : TB) (fin : Fin) (K : List Fr) (e : Env) (H : List AO) : run tbl fin K f18r9 e H = regK tbl fin K [] f18o9 [2] e H := run_regK tbl fin K false [] f18o9 [2] e H rfl
def f18body : IC := (.seq f18r0 (.seq (.seq f18r1 (.block 0 (.loop [9, 8, 10, 1] f18b8))) (.seq f18r9 .ret)))
def f18 : IFn := ⟨27, 1, [.tmp 2], f18body⟩
/- 19: jobshell/jobshellref38.Back -/
@[simp] def f19o0 : List IOper := [
  ⟨(some 1), .box 40 7 (.t 0), none, none⟩,
  ⟨(some 2), .nilrow 53 12, none, none⟩]
def f19r0 : IC := .reg false [] f19o0 [1]
@[simp] theorem f19r0_run (tbl : TB) (fin : Fin) (K : List Fr) (e : Env) (H : List AO) : run tbl fin K f19r0 e H = regK tbl fin K [] f19o0 [1] e H := run_regK tbl fin K false [] f19o0 [1] e H rfl
@[simp] def f19o1 : List IOper := [
  ⟨(some 3), .load true 7 (.t 1), none, none⟩,
  ⟨(some 4), .call (.c (.fn 26 [])) [(.t 3)], none, none⟩,
  ⟨(some 5), .un .not (.t 4), none, none⟩]
def f19r1 : IC := .reg false [] f19o1 [5, 1]
@[simp] theorem f19r1_run (tbl : TB) (fin : Fin) (K : List Fr) (e : Env) (H : List AO) : run tbl fin K f19r1 e H = regK tbl fin K [] f19o1 [5, 1] e H := run_regK tbl fin K false [] f19o1 [5, 1] e H rfl
@[simp] def f19o2 : List IOper := [
  ⟨(some 2), .nilrow 53 12, none, none⟩]
def f19r2 : IC := .reg false [] f19o2 [2]
@[simp] theorem f19r2_run (tbl : TB) (fin : Fin) (K : List Fr) (e : Env) (H : List AO) : run tbl fin K f19r2 e H = regK tbl fin K [] f19o2 [2] e H := run_regK tbl fin K false [] f19o2 [2] e H rfl
@[simp] def f19o3 : List IOper := [
  ⟨(some 6), .fld 1 (.t 1), none, none⟩,
  ⟨(some 7), .load false 1 (.t 6), none, none⟩,
  ⟨(some 8), .un .neg (.t 7), none, none⟩,
  ⟨(some 9), .build [(.int .i64 0), (.int .i64 0), (.int .i64 0), (.int .i64 0), (.int .i64 0), (.int .i64 0), (.int .i64 0), (.int .i64 0), (.str []), (.str []), .e0, .e0] [(0, 1, (.c (.int .i64 11))), (3, 1, (.t 8)), (5, 1, (.c (.int .i64 18)))], none, none⟩,
  ⟨(some 10), .mkrow 53 12 1 (.agg [(.int .i64 0), (.int .i64 0), (.int .i64 0), (.int .i64 0), (.int .i64 0), (.int .i64 0), (.int .i64 0), (.int .i64 0), (.str []), (.str []), .e0, .e0]) [(0, (.t 9))], none, none⟩,
  ⟨(some 2), .mv (.t 10), none, none⟩]
def f19r3 : IC := .reg false [] f19o3 [2]
@[simp] theorem f19r3_run (tbl : TB) (fin : Fin) (K : List Fr) (e : Env) (H : List AO) : run tbl fin K f19r3 e H = regK tbl fin K [] f19o3 [2] e H := run_regK tbl fin K false [] f19o3 [2] e H rfl
def f19body : IC := (.seq f19r0 (.seq (.seq f19r1 (.cond (.t 5) (.seq f19r2 .ret) .skip)) (.seq f19r3 .ret)))
def f19 : IFn := ⟨11, 1, [.tmp 2], f19body⟩
/- 20: jobshell/jobshellref38.Ints -/
@[simp] def f20o0 : List IOper := [
  ⟨(some 4), .mv (.c (.bool false)), none, none⟩]
def f20r0 : IC := .reg false [] f20o0 [1, 0]
@[simp] theorem f20r0_run (tbl : TB) (fin : Fin) (K : List Fr) (e : Env) (H : List AO) : run tbl fin K f20r0 e H = regK tbl fin K [] f20o0 [1, 0] e H := run_regK tbl fin K false [] f20o0 [1, 0] e H rfl
@[simp] def f20o1 : List IOper := [
  ⟨(some 6), .mv (.t 0), none, none⟩,
  ⟨(some 7), .len (.t 6), none, none⟩,
  ⟨(some 8), .mv (.t 1), none, none⟩,
  ⟨(some 9), .len (.t 8), none, none⟩,
  ⟨(some 10), .bin .neq (.t 7) (.t 9), none, none⟩]
def f20r1 : IC := .reg false [] f20o1 [10, 1, 0]
@[simp] theorem f20r1_run (tbl : TB) (fin : Fin) (K : List Fr) (e : Env) (H : List AO) : run tbl fin K f20r1 e H = regK tbl fin K [] f20o1 [10, 1, 0] e H := run_regK tbl fin K false [] f20o1 [10, 1, 0] e H rfl
@[simp] def f20o2 : List IOper := [
  ⟨(some 4), .mv (.c (.bool false)), none, none⟩]
def f20r2 : IC := .reg false [] f20o2 [4]
@[simp] theorem f20r2_run (tbl : TB) (fin : Fin) (K : List Fr) (e : Env) (H : List AO) : run tbl fin K f20r2 e H = regK tbl fin K [] f20o2 [4] e H := run_regK tbl fin K false [] f20o2 [4] e H rfl
@[simp] def f20o3 : List IOper := [
  ⟨(some 11), .mv (.t 0), none, none⟩,
  ⟨(some 12), .len (.t 11), none, none⟩,
  ⟨(some 13), .mv (.c (.int .i64 0)), none, none⟩]
def f20r3 : IC := .reg false [] f20o3 [12, 0, 1, 13]
@[simp] theorem f20r3_run (tbl : TB) (fin : Fin) (K : List Fr) (e : Env) (H : List AO) : run tbl fin K f20r3 e H = regK tbl fin K [] f20o3 [12, 0, 1, 13] e H := run_regK tbl fin K false [] f20o3 [12, 0, 1, 13] e H rfl
@[simp] def f20o4 : List IOper := [
  ⟨(some 14), .bin .lss (.t 13) (.t 12), none, none⟩]
def f20r4 : IC := .reg false [] f20o4 [14, 1, 0, 12, 13]
@[simp] theorem f20r4_run (tbl : TB) (fin : Fin) (K : List Fr) (e : Env) (H : List AO) : run tbl fin K f20r4 e H = regK tbl fin K [] f20o4 [14, 1, 0, 12, 13] e H := run_regK tbl fin K false [] f20o4 [14, 1, 0, 12, 13] e H rfl
@[simp] def f20o5 : List IOper := [
  ⟨(some 15), .mv (.t 13), none, none⟩,
  ⟨(some 5), .mv (.t 15), none, none⟩]
def f20r5 : IC := .reg false [] f20o5 [5, 1, 0, 12, 13]
@[simp] theorem f20r5_run (tbl : TB) (fin : Fin) (K : List Fr) (e : Env) (H : List AO) : run tbl fin K f20r5 e H = regK tbl fin K [] f20o5 [5, 1, 0, 12, 13] e H := run_regK tbl fin K false [] f20o5 [5, 1, 0, 12, 13] e H rfl
@[simp] def f20o6 : List IOper := [
  ⟨(some 16), .mv (.t 0), none, none⟩,
  ⟨(some 17), .mv (.t 5), none, none⟩,
  ⟨(some 18), .idx 1 (.t 16) (.t 17), none, none⟩,
  ⟨(some 19), .load false 1 (.t 18), none, none⟩,
  ⟨(some 20), .mv (.t 1), none, none⟩,
  ⟨(some 21), .mv (.t 5), none, none⟩,
  ⟨(some 22), .idx 1 (.t 20) (.t 21), none, none⟩,
  ⟨(some 23), .load false 1 (.t 22), none, none⟩,
  ⟨(some 24), .bin .neq (.t 19) (.t 23), none, none⟩]
def f20r6 : IC := .reg true [] f20o6 [24, 1, 0, 12, 13]
@[simp] theorem f20r6_run (tbl : TB) (fin : Fin) (K : List Fr) (e : Env) (H : List AO) : run tbl fin K f20r6 e H = regK tbl fin K [] f20o6 [24, 1, 0, 12, 13] e H := run_regK tbl fin K true [] f20o6 [24, 1, 0, 12, 13] e H rfl
@[simp] def f20o7 : List IOper := [
  ⟨(some 4), .mv (.c (.bool false)), none, none⟩]
def f20r7 : IC := .reg false [] f20o7 [4]
@[simp] theorem f20r7_run (tbl : TB) (fin : Fin) (K : List Fr) (e : Env) (H : List AO) : run tbl fin K f20r7 e H = regK tbl fin K [] f20o7 [4] e H := run_regK tbl fin K false [] f20o7 [4] e H rfl
@[simp] def f20o8 : List IOper := [
  ⟨(some 25), .bin .add (.t 13) (.c (.int .i64 1)), none, none⟩,
  ⟨(some 13), .mv (.t 25), none, none⟩]
def f20r8 : IC := .reg false [] f20o8 [12, 0, 1, 13]
@[simp] theorem f20r8_run (tbl : TB) (fin : Fin) (K : List Fr) (e : Env) (H : List AO) : run tbl fin K f20r8 e H = regK tbl fin K [] f20o8 [12, 0, 1, 13] e H := run_regK tbl fin K false [] f20o8 [12, 0, 1, 13] e H rfl
def f20b9 : IC := (.seq f20r4 (.seq (.cond (.t 14) .skip (.exit 0)) (.seq (.block 1 (.seq f20r5 (.seq f20r6 (.cond (.t 24) (.seq f20r7 .ret) .skip)))) f20r8)))
theorem f20b9_eq : f20b9 = (.seq f20r4 (.seq (.cond (.t 14) .skip (.exit 0)) (.seq (.block 1 (.seq f20r5 (.seq f20r6 (.cond (.t 24) (.seq f20r7 .ret) .skip)))) f20r8))) := rfl
@[simp] def f20o10 : List IOper := [
  ⟨(some 4), .mv (.c (.bool true)), none, none⟩]
def f20r10 : IC := .reg false [] f20o10 [4]
@[simp] theorem f20r10_run (tbl : TB) (fin : Fin) (K : List Fr) (e : Env) (H : List AO) : run tbl fin K f20r10 e H = regK tbl fin K [] f20o10 [4] e H := run_regK tbl fin K false [] f20o10 [4] e H rfl
def f20body : IC := (.seq f20r0 (.seq (.seq f20r1 (.cond (.t 10) (.seq f20r2 .ret) .skip)) (.seq (.seq f20r3 (.block 0 (.loop [12, 0, 1, 13] f20b9))) (.seq f20r10 .ret))))
def f20 : IFn := ⟨26, 2, [.tmp 4], f20body⟩
/- 21: slices.Contains[[]int,int] -/
@[simp] def f21o0 : List IOper := [
  ⟨(some 4), .mv (.c (.bool false)), none, none⟩]
def f21r0 : IC := .reg false [] f21o0 [0, 1]
@[simp] theorem f21r0_run (tbl : TB) (fin : Fin) (K : List Fr) (e : Env) (H : List AO) : run tbl fin K f21r0 e H = regK tbl fin K [] f21o0 [0, 1] e H := run_regK tbl fin K false [] f21o0 [0, 1] e H rfl
@[simp] def f21o1 : List IOper := [
  ⟨(some 5), .mv (.t 0), none, none⟩,
  ⟨(some 6), .mv (.t 1), none, none⟩,
  ⟨(some 7), .call (.c (.fn 27 [])) [(.t 5), (.t 6)], none, none⟩,
  ⟨(some 8), .bin .geq (.t 7) (.c (.int .i64 0)), none, none⟩,
  ⟨(some 4), .mv (.t 8), none, none⟩]
def f21r1 : IC := .reg false [] f21o1 [4]
@[simp] theorem f21r1_run (tbl : TB) (fin : Fin) (K : List Fr) (e : Env) (H : List AO) : run tbl fin K f21r1 e H = regK tbl fin K [] f21o1 [4] e H := run_regK tbl fin K false [] f21o1 [4] e H rfl
def f21body : IC := (.seq f21r0 (.seq f21r1 .ret))
def f21 : IFn := ⟨9, 2, [.tmp 4], f21body⟩
/- 22: jobshell/jobshellref38.Own -/
@[simp] def f22o0 : List IOper := [
  ⟨(some 0), .nilrow 3 1, none, none⟩]
def f22r0 : IC := .reg false [] f22o0 []
@[simp] theorem f22r0_run (tbl : TB) (fin : Fin) (K : List Fr) (e : Env) (H : List AO) : run tbl fin K f22r0 e H = regK tbl fin K [] f22o0 [] e H := run_regK tbl fin K false [] f22o0 [] e H rfl
@[simp] def f22o1 : List IOper := [
  ⟨(some 1), .mkrow 3 1 6 (.int .i64 0) [(0, (.c (.int .i64 2))), (1, (.c (.int .i64 3))), (2, (.c (.int .i64 4))), (3, (.c (.int .i64 5))), (4, (.c (.int .i64 15))), (5, (.c (.int .i64 20)))], none, none⟩,
  ⟨(some 0), .mv (.t 1), none, none⟩]
def f22r1 : IC := .reg false [] f22o1 [0]
@[simp] theorem f22r1_run (tbl : TB) (fin : Fin) (K : List Fr) (e : Env) (H : List AO) : run tbl fin K f22r1 e H = regK tbl fin K [] f22o1 [0] e H := run_regK tbl fin K false [] f22o1 [0] e H rfl
def f22body : IC := (.seq f22r0 (.seq f22r1 .ret))
def f22 : IFn := ⟨2, 0, [.tmp 0], f22body⟩
/- 23: jobshell/jobshellref35.SameReq -/
@[simp] def f23o0 : List IOper := [
  ⟨(some 2), .box 53 12 (.t 0), none, none⟩,
  ⟨(some 3), .box 53 12 (.t 1), none, none⟩,
  ⟨(some 4), .mv (.c (.bool false)), none, none⟩]
def f23r0 : IC := .reg false [] f23o0 [2, 3]
@[simp] theorem f23r0_run (tbl : TB) (fin : Fin) (K : List Fr) (e : Env) (H : List AO) : run tbl fin K f23r0 e H = regK tbl fin K [] f23o0 [2, 3] e H := run_regK tbl fin K false [] f23o0 [2, 3] e H rfl
@[simp] def f23o1 : List IOper := [
  ⟨(some 5), .fld 0 (.t 2), none, none⟩,
  ⟨(some 6), .load false 1 (.t 5), none, none⟩,
  ⟨(some 7), .fld 0 (.t 3), none, none⟩,
  ⟨(some 8), .load false 1 (.t 7), none, none⟩,
  ⟨(some 9), .bin .eql (.t 6) (.t 8), none, none⟩,
  ⟨(some 10), .mv (.t 9), none, none⟩,
  ⟨(some 11), .fld 1 (.t 2), (some (10, true)), none⟩,
  ⟨(some 12), .load false 1 (.t 11), (some (10, true)), some [12, 10, 2, 3]⟩,
  ⟨(some 13), .fld 1 (.t 3), (some (10, true)), none⟩,
  ⟨(some 14), .load false 1 (.t 13), (some (10, true)), none⟩,
  ⟨(some 15), .bin .eql (.t 12) (.t 14), (some (10, true)), none⟩,
  ⟨(some 16), .pick (.t 10) (.t 15) (.c (.bool false)), none, none⟩,
  ⟨(some 17), .mv (.t 16), none, none⟩,
  ⟨(some 18), .fld 2 (.t 2), (some (17, true)), none⟩,
  ⟨(some 19), .load false 1 (.t 18), (some (17, true)), none⟩,
  ⟨(some 20), .fld 2 (.t 3), (some (17, true)), some [20, 19, 17, 2, 3]⟩,
  ⟨(some 21), .load false 1 (.t 20), (some (17, true)), none⟩,
  ⟨(some 22), .bin .eql (.t 19) (.t 21), (some (17, true)), none⟩,
  ⟨(some 23), .pick (.t 17) (.t 22) (.c (.bool false)), none, none⟩,
  ⟨(some 24), .mv (.t 23), none, none⟩,
  ⟨(some 25), .fld 3 (.t 2), (some (24, true)), none⟩,
  ⟨(some 26), .load false 1 (.t 25), (some (24, true)), none⟩,
  ⟨(some 27), .fld 3 (.t 3), (some (24, true)), none⟩,
  ⟨(some 28), .load false 1 (.t 27), (some (24, true)), some [28, 26, 24, 2, 3]⟩,
  ⟨(some 29), .bin .eql (.t 26) (.t 28), (some (24, true)), none⟩,
  ⟨(some 30), .pick (.t 24) (.t 29) (.c (.bool false)), none, none⟩,
  ⟨(some 31), .mv (.t 30), none, none⟩,
  ⟨(some 32), .fld 4 (.t 2), (some (31, true)), none⟩,
  ⟨(some 33), .load false 1 (.t 32), (some (31, true)), none⟩,
  ⟨(some 34), .fld 4 (.t 3), (some (31, true)), none⟩,
  ⟨(some 35), .load false 1 (.t 34), (some (31, true)), none⟩,
  ⟨(some 36), .bin .eql (.t 33) (.t 35), (some (31, true)), some [36, 31, 2, 3]⟩,
  ⟨(some 37), .pick (.t 31) (.t 36) (.c (.bool false)), none, none⟩,
  ⟨(some 38), .mv (.t 37), none, none⟩,
  ⟨(some 39), .fld 5 (.t 2), (some (38, true)), none⟩,
  ⟨(some 40), .load false 1 (.t 39), (some (38, true)), none⟩,
  ⟨(some 41), .fld 5 (.t 3), (some (38, true)), none⟩,
  ⟨(some 42), .load false 1 (.t 41), (some (38, true)), none⟩,
  ⟨(some 43), .bin .eql (.t 40) (.t 42), (some (38, true)), none⟩,
  ⟨(some 44), .pick (.t 38) (.t 43) (.c (.bool false)), none, some [44, 2, 3]⟩,
  ⟨(some 45), .mv (.t 44), none, none⟩,
  ⟨(some 46), .fld 6 (.t 2), (some (45, true)), none⟩,
  ⟨(some 47), .load false 1 (.t 46), (some (45, true)), none⟩,
  ⟨(some 48), .fld 6 (.t 3), (some (45, true)), none⟩,
  ⟨(some 49), .load false 1 (.t 48), (some (45, true)), none⟩,
  ⟨(some 50), .bin .eql (.t 47) (.t 49), (some (45, true)), none⟩,
  ⟨(some 51), .pick (.t 45) (.t 50) (.c (.bool false)), none, none⟩,
  ⟨(some 52), .mv (.t 51), none, some [52, 2, 3]⟩,
  ⟨(some 53), .fld 7 (.t 2), (some (52, true)), none⟩,
  ⟨(some 54), .load false 1 (.t 53), (some (52, true)), none⟩,
  ⟨(some 55), .fld 7 (.t 3), (some (52, true)), none⟩,
  ⟨(some 56), .load false 1 (.t 55), (some (52, true)), none⟩,
  ⟨(some 57), .bin .eql (.t 54) (.t 56), (some (52, true)), none⟩,
  ⟨(some 58), .pick (.t 52) (.t 57) (.c (.bool false)), none, none⟩,
  ⟨(some 59), .mv (.t 58), none, none⟩,
  ⟨(some 60), .fld 8 (.t 2), (some (59, true)), some [60, 59, 2, 3]⟩,
  ⟨(some 61), .load false 1 (.t 60), (some (59, true)), none⟩,
  ⟨(some 62), .fld 8 (.t 3), (some (59, true)), none⟩,
  ⟨(some 63), .load false 1 (.t 62), (some (59, true)), none⟩,
  ⟨(some 64), .bin .eql (.t 61) (.t 63), (some (59, true)), none⟩,
  ⟨(some 65), .pick (.t 59) (.t 64) (.c (.bool false)), none, none⟩,
  ⟨(some 66), .mv (.t 65), none, none⟩,
  ⟨(some 67), .fld 9 (.t 2), (some (66, true)), none⟩,
  ⟨(some 68), .load false 1 (.t 67), (some (66, true)), some [68, 66, 2, 3]⟩,
  ⟨(some 69), .fld 9 (.t 3), (some (66, true)), none⟩,
  ⟨(some 70), .load false 1 (.t 69), (some (66, true)), none⟩,
  ⟨(some 71), .bin .eql (.t 68) (.t 70), (some (66, true)), none⟩,
  ⟨(some 72), .pick (.t 66) (.t 71) (.c (.bool false)), none, none⟩,
  ⟨(some 73), .mv (.t 72), none, none⟩,
  ⟨(some 74), .fld 10 (.t 2), (some (73, true)), none⟩,
  ⟨(some 75), .load false 1 (.t 74), (some (73, true)), none⟩,
  ⟨(some 76), .fld 10 (.t 3), (some (73, true)), some [76, 75, 73, 2, 3]⟩,
  ⟨(some 77), .load false 1 (.t 76), (some (73, true)), none⟩,
  ⟨(some 78), .call (.c (.fn 28 [])) [(.t 75), (.t 77)], (some (73, true)), none⟩,
  ⟨(some 79), .pick (.t 73) (.t 78) (.c (.bool false)), none, none⟩,
  ⟨(some 80), .mv (.t 79), none, none⟩,
  ⟨(some 81), .fld 11 (.t 2), (some (80, true)), none⟩,
  ⟨(some 82), .load false 1 (.t 81), (some (80, true)), none⟩,
  ⟨(some 83), .fld 11 (.t 3), (some (80, true)), none⟩,
  ⟨(some 84), .load false 1 (.t 83), (some (80, true)), some [84, 82, 80]⟩,
  ⟨(some 85), .call (.c (.fn 28 [])) [(.t 82), (.t 84)], (some (80, true)), none⟩,
  ⟨(some 86), .pick (.t 80) (.t 85) (.c (.bool false)), none, none⟩,
  ⟨(some 4), .mv (.t 86), none, none⟩]
def f23r1 : IC := .reg false [] f23o1 [4]
@[simp] theorem f23r1_run (tbl : TB) (fin : Fin) (K : List Fr) (e : Env) (H : List AO) : run tbl fin K f23r1 e H = regK tbl fin K [] f23o1 [4] e H := run_regK tbl fin K false [] f23o1 [4] e H rfl
def f23body : IC := (.seq f23r0 (.seq f23r1 .ret))
def f23 : IFn := ⟨87, 2, [.tmp 4], f23body⟩
/- 24: (jobshell/control.plan).leads -/
@[simp] def f24o0 : List IOper := [
  ⟨(some 1), .box 56 6 (.t 0), none, none⟩,
  ⟨(some 2), .mv (.c (.bool false)), none, none⟩]
def f24r0 : IC := .reg false [] f24o0 [1]
@[simp] theorem f24r0_run (tbl : TB) (fin : Fin) (K : List Fr) (e : Env) (H : List AO) : run tbl fin K f24r0 e H = regK tbl fin K [] f24o0 [1] e H := run_regK tbl fin K false [] f24o0 [1] e H rfl
@[simp] def f24o1 : List IOper := [
  ⟨(some 3), .fld 0 (.t 1), none, none⟩,
  ⟨(some 4), .fld 1 (.t 3), none, none⟩,
  ⟨(some 5), .load false 1 (.t 4), none, none⟩,
  ⟨(some 6), .mv (.t 5), none, none⟩,
  ⟨(some 7), .fld 5 (.t 1), (some (6, true)), none⟩,
  ⟨(some 8), .load false 1 (.t 7), (some (6, true)), none⟩,
  ⟨(some 9), .bin .eql (.t 8) (.c (.int .i64 0)), (some (6, true)), none⟩,
  ⟨(some 10), .pick (.t 6) (.t 9) (.c (.bool false)), none, none⟩,
  ⟨(some 2), .mv (.t 10), none, none⟩]
def f24r1 : IC := .reg false [] f24o1 [2]
@[simp] theorem f24r1_run (tbl : TB) (fin : Fin) (K : List Fr) (e : Env) (H : List AO) : run tbl fin K f24r1 e H = regK tbl fin K [] f24o1 [2] e H := run_regK tbl fin K false [] f24o1 [2] e H rfl
def f24body : IC := (.seq f24r0 (.seq f24r1 .ret))
def f24 : IFn := ⟨11, 1, [.tmp 2], f24body⟩
/- 25: jobshell/status.Kind -/
@[simp] def f25o0 : List IOper := [
  ⟨(some 2), .mv (.c (.int .i64 0)), none, none⟩,
  ⟨(some 3), .mv (.c (.int .i64 0)), none, none⟩]
def f25r0 : IC := .reg false [] f25o0 [0]
@[simp] theorem f25r0_run (tbl : TB) (fin : Fin) (K : List Fr) (e : Env) (H : List AO) : run tbl fin K f25r0 e H = regK tbl fin K [] f25o0 [0] e H := run_regK tbl fin K false [] f25o0 [0] e H rfl
@[simp] def f25o1 : List IOper := [
  ⟨(some 7), .mv (.t 0), none, none⟩,
  ⟨(some 8), .bin .lss (.t 7) (.c (.int .i64 0)), none, none⟩]
def f25r1 : IC := .reg false [] f25o1 [8, 0]
@[simp] theorem f25r1_run (tbl : TB) (fin : Fin) (K : List Fr) (e : Env) (H : List AO) : run tbl fin K f25r1 e H = regK tbl fin K [] f25o1 [8, 0] e H := run_regK tbl fin K false [] f25o1 [8, 0] e H rfl
@[simp] def f25o2 : List IOper := [
  ⟨(some 2), .mv (.c (.int .i64 (-1))), none, none⟩,
  ⟨(some 3), .mv (.c (.int .i64 0)), none, none⟩]
def f25r2 : IC := .reg false [] f25o2 [2, 3]
@[simp] theorem f25r2_run (tbl : TB) (fin : Fin) (K : List Fr) (e : Env) (H : List AO) : run tbl fin K f25r2 e H = regK tbl fin K [] f25o2 [2, 3] e H := run_regK tbl fin K false [] f25o2 [2, 3] e H rfl
@[simp] def f25o3 : List IOper := [
  ⟨(some 9), .mv (.t 0), none, none⟩,
  ⟨(some 10), .bin .quo (.t 9) (.c (.int .i64 256)), none, none⟩,
  ⟨(some 11), .mv (.t 0), none, none⟩,
  ⟨(some 12), .bin .rem (.t 11) (.c (.int .i64 256)), none, none⟩,
  ⟨(some 4), .mv (.t 10), none, none⟩,
  ⟨(some 5), .mv (.t 12), none, none⟩]
def f25r3 : IC := .reg false [] f25o3 [5, 4]
@[simp] theorem f25r3_run (tbl : TB) (fin : Fin) (K : List Fr) (e : Env) (H : List AO) : run tbl fin K f25r3 e H = regK tbl fin K [] f25o3 [5, 4] e H := run_regK tbl fin K false [] f25o3 [5, 4] e H rfl
@[simp] def f25o4 : List IOper := [
  ⟨(some 6), .mv (.c (.bool false)), none, none⟩]
def f25r4 : IC := .reg false [] f25o4 [6, 5, 4]
@[simp] theorem f25r4_run (tbl : TB) (fin : Fin) (K : List Fr) (e : Env) (H : List AO) : run tbl fin K f25r4 e H = regK tbl fin K [] f25o4 [6, 5, 4] e H := run_regK tbl fin K false [] f25o4 [6, 5, 4] e H rfl
@[simp] def f25o5 : List IOper := [
  ⟨(some 13), .mv (.t 4), none, none⟩]
def f25r5 : IC := .reg false [] f25o5 [13, 6, 5, 4]
@[simp] theorem f25r5_run (tbl : TB) (fin : Fin) (K : List Fr) (e : Env) (H : List AO) : run tbl fin K f25r5 e H = regK tbl fin K [] f25o5 [13, 6, 5, 4] e H := run_regK tbl fin K false [] f25o5 [13, 6, 5, 4] e H rfl
@[simp] def f25o6 : List IOper := [
  ⟨(some 15), .bin .eql (.t 13) (.c (.int .i64 0)), none, none⟩,
  ⟨(some 14), .mv (.t 15), none, none⟩]
def f25r6 : IC := .reg false [] f25o6 [14, 13, 6, 5, 4]
@[simp] theorem f25r6_run (tbl : TB) (fin : Fin) (K : List Fr) (e : Env) (H : List AO) : run tbl fin K f25r6 e H = regK tbl fin K [] f25o6 [14, 13, 6, 5, 4] e H := run_regK tbl fin K false [] f25o6 [14, 13, 6, 5, 4] e H rfl
@[simp] def f25o7 : List IOper := [
  ⟨(some 6), .mv (.c (.bool true)), none, none⟩]
def f25r7 : IC := .reg false [] f25o7 [6, 5, 4]
@[simp] theorem f25r7_run (tbl : TB) (fin : Fin) (K : List Fr) (e : Env) (H : List AO) : run tbl fin K f25r7 e H = regK tbl fin K [] f25o7 [6, 5, 4] e H := run_regK tbl fin K false [] f25o7 [6, 5, 4] e H rfl
@[simp] def f25o8 : List IOper := [
  ⟨(some 17), .bin .eql (.t 13) (.c (.int .i64 1)), none, none⟩,
  ⟨(some 16), .mv (.t 17), none, none⟩]
def f25r8 : IC := .reg false [] f25o8 [16, 6, 13, 5, 4]
@[simp] theorem f25r8_run (tbl : TB) (fin : Fin) (K : List Fr) (e : Env) (H : List AO) : run tbl fin K f25r8 e H = regK tbl fin K [] f25o8 [16, 6, 13, 5, 4] e H := run_regK tbl fin K false [] f25o8 [16, 6, 13, 5, 4] e H rfl
@[simp] def f25o9 : List IOper := [
  ⟨(some 18), .bin .eql (.t 13) (.c (.int .i64 2)), none, none⟩,
  ⟨(some 16), .mv (.t 18), none, none⟩]
def f25r9 : IC := .reg false [] f25o9 [16, 6, 13, 5, 4]
@[simp] theorem f25r9_run (tbl : TB) (fin : Fin) (K : List Fr) (e : Env) (H : List AO) : run tbl fin K f25r9 e H = regK tbl fin K [] f25o9 [16, 6, 13, 5, 4] e H := run_regK tbl fin K false [] f25o9 [16, 6, 13, 5, 4] e H rfl
@[simp] def f25o10 : List IOper := [
  ⟨(some 19), .mv (.t 5), none, none⟩,
  ⟨(some 20), .bin .geq (.t 19) (.c (.int .i64 1)), none, none⟩,
  ⟨(some 21), .mv (.t 20), none, none⟩,
  ⟨(some 22), .mv (.t 5), (some (21, true)), none⟩,
  ⟨(some 23), .bin .leq (.t 22) (.c (.int .i64 20)), (some (21, true)), none⟩,
  ⟨(some 24), .pick (.t 21) (.t 23) (.c (.bool false)), none, none⟩,
  ⟨(some 6), .mv (.t 24), none, none⟩]
def f25r10 : IC := .reg false [] f25o10 [6, 5, 4]
@[simp] theorem f25r10_run (tbl : TB) (fin : Fin) (K : List Fr) (e : Env) (H : List AO) : run tbl fin K f25r10 e H = regK tbl fin K [] f25o10 [6, 5, 4] e H := run_regK tbl fin K false [] f25o10 [6, 5, 4] e H rfl
@[simp] def f25o11 : List IOper := [
  ⟨(some 26), .bin .eql (.t 13) (.c (.int .i64 3)), none, none⟩,
  ⟨(some 25), .mv (.t 26), none, none⟩]
def f25r11 : IC := .reg false [] f25o11 [25, 6, 5, 4]
@[simp] theorem f25r11_run (tbl : TB) (fin : Fin) (K : List Fr) (e : Env) (H : List AO) : run tbl fin K f25r11 e H = regK tbl fin K [] f25o11 [25, 6, 5, 4] e H := run_regK tbl fin K false [] f25o11 [25, 6, 5, 4] e H rfl
@[simp] def f25o12 : List IOper := [
  ⟨(some 27), .mv (.t 5), none, none⟩,
  ⟨(some 28), .bin .eql (.t 27) (.c (.int .i64 0)), none, none⟩,
  ⟨(some 6), .mv (.t 28), none, none⟩]
def f25r12 : IC := .reg false [] f25o12 [6, 5, 4]
@[simp] theorem f25r12_run (tbl : TB) (fin : Fin) (K : List Fr) (e : Env) (H : List AO) : run tbl fin K f25r12 e H = regK tbl fin K [] f25o12 [6, 5, 4] e H := run_regK tbl fin K false [] f25o12 [6, 5, 4] e H rfl
@[simp] def f25o13 : List IOper := [
  ⟨(some 29), .mv (.t 6), none, none⟩,
  ⟨(some 30), .un .not (.t 29), none, none⟩]
def f25r13 : IC := .reg false [] f25o13 [30, 5, 4]
@[simp] theorem f25r13_run (tbl : TB) (fin : Fin) (K : List Fr) (e : Env) (H : List AO) : run tbl fin K f25r13 e H = regK tbl fin K [] f25o13 [30, 5, 4] e H := run_regK tbl fin K false [] f25o13 [30, 5, 4] e H rfl
@[simp] def f25o14 : List IOper := [
  ⟨(some 2), .mv (.c (.int .i64 (-1))), none, none⟩,
  ⟨(some 3), .mv (.c (.int .i64 0)), none, none⟩]
def f25r14 : IC := .reg false [] f25o14 [2, 3]
@[simp] theorem f25r14_run (tbl : TB) (fin : Fin) (K : List Fr) (e : Env) (H : List AO) : run tbl fin K f25r14 e H = regK tbl fin K [] f25o14 [2, 3] e H := run_regK tbl fin K false [] f25o14 [2, 3] e H rfl
@[simp] def f25o15 : List IOper := [
  ⟨(some 31), .mv (.t 4), none, none⟩,
  ⟨(some 32), .mv (.t 5), none, none⟩,
  ⟨(some 2), .mv (.t 31), none, none⟩,
  ⟨(some 3), .mv (.t 32), none, none⟩]
def f25r15 : IC := .reg false [] f25o15 [2, 3]
@[simp] theorem f25r15_run (tbl : TB) (fin : Fin) (K : List Fr) (e : Env) (H : List AO) : run tbl fin K f25r15 e H = regK tbl fin K [] f25o15 [2, 3] e H := run_regK tbl fin K false [] f25o15 [2, 3] e H rfl
def f25body : IC := (.seq f25r0 (.seq (.seq f25r1 (.cond (.t 8) (.seq f25r2 .ret) .skip)) (.seq f25r3 (.seq f25r4 (.seq (.seq f25r5 (.block 0 (.seq f25r6 (.cond (.t 14) f25r7 (.seq (.seq f25r8 (.cond (.t 16) .skip f25r9)) (.cond (.t 16) f25r10 (.seq f25r11 (.cond (.t 25) f25r12 .skip)))))))) (.seq (.seq f25r13 (.cond (.t 30) (.seq f25r14 .ret) .skip)) (.seq f25r15 .ret)))))))
def f25 : IFn := ⟨33, 1, [.tmp 2, .tmp 3], f25body⟩
/- 26: jobshell/jobshellref38.stopped -/
@[simp] def f26o0 : List IOper := [
  ⟨(some 1), .box 40 7 (.t 0), none, none⟩,
  ⟨(some 2), .mv (.c (.bool false)), none, none⟩]
def f26r0 : IC := .reg false [] f26o0 [1]
@[simp] theorem f26r0_run (tbl : TB) (fin : Fin) (K : List Fr) (e : Env) (H : List AO) : run tbl fin K f26r0 e H = regK tbl fin K [] f26o0 [1] e H := run_regK tbl fin K false [] f26o0 [1] e H rfl
@[simp] def f26o1 : List IOper := [
  ⟨(some 7), .fld 4 (.t 1), none, none⟩,
  ⟨(some 8), .load false 1 (.t 7), none, none⟩,
  ⟨(some 9), .len (.t 8), none, none⟩,
  ⟨(some 10), .mv (.c (.int .i64 0)), none, none⟩]
def f26r1 : IC := .reg false [] f26o1 [9, 8, 10]
@[simp] theorem f26r1_run (tbl : TB) (fin : Fin) (K : List Fr) (e : Env) (H : List AO) : run tbl fin K f26r1 e H = regK tbl fin K [] f26o1 [9, 8, 10] e H := run_regK tbl fin K false [] f26o1 [9, 8, 10] e H rfl
@[simp] def f26o2 : List IOper := [
  ⟨(some 11), .bin .lss (.t 10) (.t 9), none, none⟩]
def f26r2 : IC := .reg false [] f26o2 [11, 8, 9, 10]
@[simp] theorem f26r2_run (tbl : TB) (fin : Fin) (K : List Fr) (e : Env) (H : List AO) : run tbl fin K f26r2 e H = regK tbl fin K [] f26o2 [11, 8, 9, 10] e H := run_regK tbl fin K false [] f26o2 [11, 8, 9, 10] e H rfl
@[simp] def f26o3 : List IOper := [
  ⟨(some 12), .idx 1 (.t 8) (.t 10), none, none⟩,
  ⟨(some 13), .load false 1 (.t 12), none, none⟩,
  ⟨(some 4), .mv (.t 13), none, none⟩]
def f26r3 : IC := .reg false [] f26o3 [4, 8, 9, 10]
@[simp] theorem f26r3_run (tbl : TB) (fin : Fin) (K : List Fr) (e : Env) (H : List AO) : run tbl fin K f26r3 e H = regK tbl fin K [] f26o3 [4, 8, 9, 10] e H := run_regK tbl fin K false [] f26o3 [4, 8, 9, 10] e H rfl
@[simp] def f26o4 : List IOper := [
  ⟨(some 14), .mv (.t 4), none, none⟩,
  ⟨(some 15), .bin .geq (.t 14) (.c (.int .i64 0)), none, none⟩]
def f26r4 : IC := .reg false [] f26o4 [15, 4, 8, 9, 10]
@[simp] theorem f26r4_run (tbl : TB) (fin : Fin) (K : List Fr) (e : Env) (H : List AO) : run tbl fin K f26r4 e H = regK tbl fin K [] f26o4 [15, 4, 8, 9, 10] e H := run_regK tbl fin K false [] f26o4 [15, 4, 8, 9, 10] e H rfl
@[simp] def f26o5 : List IOper := [
  ⟨(some 17), .mv (.t 4), none, none⟩,
  ⟨(some 18), .call (.c (.fn 29 [])) [(.t 17)], none, none⟩,
  ⟨(some 16), .mv (.t 18), none, none⟩,
  ⟨(some 19), .ext (.t 16) 0, none, none⟩,
  ⟨(some 20), .ext (.t 16) 1, none, none⟩,
  ⟨(some 5), .mv (.t 19), none, none⟩,
  ⟨(some 6), .mv (.t 20), none, none⟩]
def f26r5 : IC := .reg false [] f26o5 [5, 8, 9, 10]
@[simp] theorem f26r5_run (tbl : TB) (fin : Fin) (K : List Fr) (e : Env) (H : List AO) : run tbl fin K f26r5 e H = regK tbl fin K [] f26o5 [5, 8, 9, 10] e H := run_regK tbl fin K false [] f26o5 [5, 8, 9, 10] e H rfl
@[simp] def f26o6 : List IOper := [
  ⟨(some 21), .mv (.t 5), none, none⟩,
  ⟨(some 22), .bin .eql (.t 21) (.c (.int .i64 2)), none, none⟩]
def f26r6 : IC := .reg false [] f26o6 [22, 8, 9, 10]
@[simp] theorem f26r6_run (tbl : TB) (fin : Fin) (K : List Fr) (e : Env) (H : List AO) : run tbl fin K f26r6 e H = regK tbl fin K [] f26o6 [22, 8, 9, 10] e H := run_regK tbl fin K false [] f26o6 [22, 8, 9, 10] e H rfl
@[simp] def f26o7 : List IOper := [
  ⟨(some 2), .mv (.c (.bool true)), none, none⟩]
def f26r7 : IC := .reg false [] f26o7 [2]
@[simp] theorem f26r7_run (tbl : TB) (fin : Fin) (K : List Fr) (e : Env) (H : List AO) : run tbl fin K f26r7 e H = regK tbl fin K [] f26o7 [2] e H := run_regK tbl fin K false [] f26o7 [2] e H rfl
@[simp] def f26o8 : List IOper := [
  ⟨(some 23), .bin .add (.t 10) (.c (.int .i64 1)), none, none⟩,
  ⟨(some 10), .mv (.t 23), none, none⟩]
def f26r8 : IC := .reg false [] f26o8 [9, 8, 10]
@[simp] theorem f26r8_run (tbl : TB) (fin : Fin) (K : List Fr) (e : Env) (H : List AO) : run tbl fin K f26r8 e H = regK tbl fin K [] f26o8 [9, 8, 10] e H := run_regK tbl fin K false [] f26o8 [9, 8, 10] e H rfl
def f26b9 : IC := (.seq f26r2 (.seq (.cond (.t 11) .skip (.exit 0)) (.seq (.block 1 (.seq f26r3 (.seq f26r4 (.cond (.t 15) (.seq f26r5 (.seq f26r6 (.cond (.t 22) (.seq f26r7 .ret) .skip))) .skip)))) f26r8)))
theorem f26b9_eq : f26b9 = (.seq f26r2 (.seq (.cond (.t 11) .skip (.exit 0)) (.seq (.block 1 (.seq f26r3 (.seq f26r4 (.cond (.t 15) (.seq f26r5 (.seq f26r6 (.cond (.t 22) (.seq f26r7 .ret) .skip))) .skip)))) f26r8))) := rfl
@[simp] def f26o10 : List IOper := [
  ⟨(some 2), .mv (.c (.bool false)), none, none⟩]
def f26r10 : IC := .reg false [] f26o10 [2]
@[simp] theorem f26r10_run (tbl : TB) (fin : Fin) (K : List Fr) (e : Env) (H : List AO) : run tbl fin K f26r10 e H = regK tbl fin K [] f26o10 [2] e H := run_regK tbl fin K false [] f26o10 [2] e H rfl
def f26body : IC := (.seq f26r0 (.seq (.seq f26r1 (.block 0 (.loop [9, 8, 10] f26b9))) (.seq f26r10 .ret)))
def f26 : IFn := ⟨24, 1, [.tmp 2], f26body⟩
/- 27: slices.Index[[]int,int] -/
@[simp] def f27o0 : List IOper := [
  ⟨(some 4), .mv (.c (.int .i64 0)), none, none⟩]
def f27r0 : IC := .reg false [] f27o0 [1, 0]
@[simp] theorem f27r0_run (tbl : TB) (fin : Fin) (K : List Fr) (e : Env) (H : List AO) : run tbl fin K f27r0 e H = regK tbl fin K [] f27o0 [1, 0] e H := run_regK tbl fin K false [] f27o0 [1, 0] e H rfl
@[simp] def f27o1 : List IOper := [
  ⟨(some 6), .mv (.t 0), none, none⟩,
  ⟨(some 7), .len (.t 6), none, none⟩,
  ⟨(some 8), .mv (.c (.int .i64 0)), none, none⟩]
def f27r1 : IC := .reg false [] f27o1 [7, 1, 0, 8]
@[simp] theorem f27r1_run (tbl : TB) (fin : Fin) (K : List Fr) (e : Env) (H : List AO) : run tbl fin K f27r1 e H = regK tbl fin K [] f27o1 [7, 1, 0, 8] e H := run_regK tbl fin K false [] f27o1 [7, 1, 0, 8] e H rfl
@[simp] def f27o2 : List IOper := [
  ⟨(some 9), .bin .lss (.t 8) (.t 7), none, none⟩]
def f27r2 : IC := .reg false [] f27o2 [9, 0, 1, 7, 8]
@[simp] theorem f27r2_run (tbl : TB) (fin : Fin) (K : List Fr) (e : Env) (H : List AO) : run tbl fin K f27r2 e H = regK tbl fin K [] f27o2 [9, 0, 1, 7, 8] e H := run_regK tbl fin K false [] f27o2 [9, 0, 1, 7, 8] e H rfl
@[simp] def f27o3 : List IOper := [
  ⟨(some 10), .mv (.t 8), none, none⟩,
  ⟨(some 5), .mv (.t 10), none, none⟩]
def f27r3 : IC := .reg false [] f27o3 [0, 1, 7, 8, 5]
@[simp] theorem f27r3_run (tbl : TB) (fin : Fin) (K : List Fr) (e : Env) (H : List AO) : run tbl fin K f27r3 e H = regK tbl fin K [] f27o3 [0, 1, 7, 8, 5] e H := run_regK tbl fin K false [] f27o3 [0, 1, 7, 8, 5] e H rfl
@[simp] def f27o4 : List IOper := [
  ⟨(some 11), .mv (.t 1), none, none⟩,
  ⟨(some 12), .mv (.t 0), none, none⟩,
  ⟨(some 13), .mv (.t 5), none, none⟩,
  ⟨(some 14), .idx 1 (.t 12) (.t 13), none, none⟩,
  ⟨(some 15), .load false 1 (.t 14), none, none⟩,
  ⟨(some 16), .bin .eql (.t 11) (.t 15), none, none⟩]
def f27r4 : IC := .reg false [] f27o4 [16, 0, 1, 7, 8, 5]
@[simp] theorem f27r4_run (tbl : TB) (fin : Fin) (K : List Fr) (e : Env) (H : List AO) : run tbl fin K f27r4 e H = regK tbl fin K [] f27o4 [16, 0, 1, 7, 8, 5] e H := run_regK tbl fin K false [] f27o4 [16, 0, 1, 7, 8, 5] e H rfl
@[simp] def f27o5 : List IOper := [
  ⟨(some 17), .mv (.t 5), none, none⟩,
  ⟨(some 4), .mv (.t 17), none, none⟩]
def f27r5 : IC := .reg false [] f27o5 [4]
@[simp] theorem f27r5_run (tbl : TB) (fin : Fin) (K : List Fr) (e : Env) (H : List AO) : run tbl fin K f27r5 e H = regK tbl fin K [] f27o5 [4] e H := run_regK tbl fin K false [] f27o5 [4] e H rfl
@[simp] def f27o6 : List IOper := [
  ⟨(some 18), .bin .add (.t 8) (.c (.int .i64 1)), none, none⟩,
  ⟨(some 8), .mv (.t 18), none, none⟩]
def f27r6 : IC := .reg false [] f27o6 [7, 1, 0, 8]
@[simp] theorem f27r6_run (tbl : TB) (fin : Fin) (K : List Fr) (e : Env) (H : List AO) : run tbl fin K f27r6 e H = regK tbl fin K [] f27o6 [7, 1, 0, 8] e H := run_regK tbl fin K false [] f27o6 [7, 1, 0, 8] e H rfl
def f27b7 : IC := (.seq f27r2 (.seq (.cond (.t 9) .skip (.exit 0)) (.seq (.block 1 (.seq f27r3 (.seq f27r4 (.cond (.t 16) (.seq f27r5 .ret) .skip)))) f27r6)))
theorem f27b7_eq : f27b7 = (.seq f27r2 (.seq (.cond (.t 9) .skip (.exit 0)) (.seq (.block 1 (.seq f27r3 (.seq f27r4 (.cond (.t 16) (.seq f27r5 .ret) .skip)))) f27r6))) := rfl
@[simp] def f27o8 : List IOper := [
  ⟨(some 4), .mv (.c (.int .i64 (-1))), none, none⟩]
def f27r8 : IC := .reg false [] f27o8 [4]
@[simp] theorem f27r8_run (tbl : TB) (fin : Fin) (K : List Fr) (e : Env) (H : List AO) : run tbl fin K f27r8 e H = regK tbl fin K [] f27o8 [4] e H := run_regK tbl fin K false [] f27o8 [4] e H rfl
def f27body : IC := (.seq f27r0 (.seq (.seq f27r1 (.block 0 (.loop [7, 1, 0, 8] f27b7))) (.seq f27r8 .ret)))
def f27 : IFn := ⟨19, 2, [.tmp 4], f27body⟩
/- 28: jobshell/jobshellref35.Texts -/
@[simp] def f28o0 : List IOper := [
  ⟨(some 4), .mv (.c (.bool false)), none, none⟩]
def f28r0 : IC := .reg false [] f28o0 [1, 0]
@[simp] theorem f28r0_run (tbl : TB) (fin : Fin) (K : List Fr) (e : Env) (H : List AO) : run tbl fin K f28r0 e H = regK tbl fin K [] f28o0 [1, 0] e H := run_regK tbl fin K false [] f28o0 [1, 0] e H rfl
@[simp] def f28o1 : List IOper := [
  ⟨(some 6), .mv (.t 0), none, none⟩,
  ⟨(some 7), .len (.t 6), none, none⟩,
  ⟨(some 8), .mv (.t 1), none, none⟩,
  ⟨(some 9), .len (.t 8), none, none⟩,
  ⟨(some 10), .bin .neq (.t 7) (.t 9), none, none⟩]
def f28r1 : IC := .reg false [] f28o1 [10, 1, 0]
@[simp] theorem f28r1_run (tbl : TB) (fin : Fin) (K : List Fr) (e : Env) (H : List AO) : run tbl fin K f28r1 e H = regK tbl fin K [] f28o1 [10, 1, 0] e H := run_regK tbl fin K false [] f28o1 [10, 1, 0] e H rfl
@[simp] def f28o2 : List IOper := [
  ⟨(some 4), .mv (.c (.bool false)), none, none⟩]
def f28r2 : IC := .reg false [] f28o2 [4]
@[simp] theorem f28r2_run (tbl : TB) (fin : Fin) (K : List Fr) (e : Env) (H : List AO) : run tbl fin K f28r2 e H = regK tbl fin K [] f28o2 [4] e H := run_regK tbl fin K false [] f28o2 [4] e H rfl
@[simp] def f28o3 : List IOper := [
  ⟨(some 11), .mv (.t 0), none, none⟩,
  ⟨(some 12), .len (.t 11), none, none⟩,
  ⟨(some 13), .mv (.c (.int .i64 0)), none, none⟩]
def f28r3 : IC := .reg false [] f28o3 [12, 0, 1, 13]
@[simp] theorem f28r3_run (tbl : TB) (fin : Fin) (K : List Fr) (e : Env) (H : List AO) : run tbl fin K f28r3 e H = regK tbl fin K [] f28o3 [12, 0, 1, 13] e H := run_regK tbl fin K false [] f28o3 [12, 0, 1, 13] e H rfl
@[simp] def f28o4 : List IOper := [
  ⟨(some 14), .bin .lss (.t 13) (.t 12), none, none⟩]
def f28r4 : IC := .reg false [] f28o4 [14, 1, 0, 12, 13]
@[simp] theorem f28r4_run (tbl : TB) (fin : Fin) (K : List Fr) (e : Env) (H : List AO) : run tbl fin K f28r4 e H = regK tbl fin K [] f28o4 [14, 1, 0, 12, 13] e H := run_regK tbl fin K false [] f28o4 [14, 1, 0, 12, 13] e H rfl
@[simp] def f28o5 : List IOper := [
  ⟨(some 15), .mv (.t 13), none, none⟩,
  ⟨(some 5), .mv (.t 15), none, none⟩]
def f28r5 : IC := .reg false [] f28o5 [5, 1, 0, 12, 13]
@[simp] theorem f28r5_run (tbl : TB) (fin : Fin) (K : List Fr) (e : Env) (H : List AO) : run tbl fin K f28r5 e H = regK tbl fin K [] f28o5 [5, 1, 0, 12, 13] e H := run_regK tbl fin K false [] f28o5 [5, 1, 0, 12, 13] e H rfl
@[simp] def f28o6 : List IOper := [
  ⟨(some 16), .mv (.t 0), none, none⟩,
  ⟨(some 17), .mv (.t 5), none, none⟩,
  ⟨(some 18), .idx 1 (.t 16) (.t 17), none, none⟩,
  ⟨(some 19), .load false 1 (.t 18), none, none⟩,
  ⟨(some 20), .mv (.t 1), none, none⟩,
  ⟨(some 21), .mv (.t 5), none, none⟩,
  ⟨(some 22), .idx 1 (.t 20) (.t 21), none, none⟩,
  ⟨(some 23), .load false 1 (.t 22), none, none⟩,
  ⟨(some 24), .bin .neq (.t 19) (.t 23), none, none⟩]
def f28r6 : IC := .reg true [] f28o6 [24, 1, 0, 12, 13]
@[simp] theorem f28r6_run (tbl : TB) (fin : Fin) (K : List Fr) (e : Env) (H : List AO) : run tbl fin K f28r6 e H = regK tbl fin K [] f28o6 [24, 1, 0, 12, 13] e H := run_regK tbl fin K true [] f28o6 [24, 1, 0, 12, 13] e H rfl
@[simp] def f28o7 : List IOper := [
  ⟨(some 4), .mv (.c (.bool false)), none, none⟩]
def f28r7 : IC := .reg false [] f28o7 [4]
@[simp] theorem f28r7_run (tbl : TB) (fin : Fin) (K : List Fr) (e : Env) (H : List AO) : run tbl fin K f28r7 e H = regK tbl fin K [] f28o7 [4] e H := run_regK tbl fin K false [] f28o7 [4] e H rfl
@[simp] def f28o8 : List IOper := [
  ⟨(some 25), .bin .add (.t 13) (.c (.int .i64 1)), none, none⟩,
  ⟨(some 13), .mv (.t 25), none, none⟩]
def f28r8 : IC := .reg false [] f28o8 [12, 0, 1, 13]
@[simp] theorem f28r8_run (tbl : TB) (fin : Fin) (K : List Fr) (e : Env) (H : List AO) : run tbl fin K f28r8 e H = regK tbl fin K [] f28o8 [12, 0, 1, 13] e H := run_regK tbl fin K false [] f28o8 [12, 0, 1, 13] e H rfl
def f28b9 : IC := (.seq f28r4 (.seq (.cond (.t 14) .skip (.exit 0)) (.seq (.block 1 (.seq f28r5 (.seq f28r6 (.cond (.t 24) (.seq f28r7 .ret) .skip)))) f28r8)))
theorem f28b9_eq : f28b9 = (.seq f28r4 (.seq (.cond (.t 14) .skip (.exit 0)) (.seq (.block 1 (.seq f28r5 (.seq f28r6 (.cond (.t 24) (.seq f28r7 .ret) .skip)))) f28r8))) := rfl
@[simp] def f28o10 : List IOper := [
  ⟨(some 4), .mv (.c (.bool true)), none, none⟩]
def f28r10 : IC := .reg false [] f28o10 [4]
@[simp] theorem f28r10_run (tbl : TB) (fin : Fin) (K : List Fr) (e : Env) (H : List AO) : run tbl fin K f28r10 e H = regK tbl fin K [] f28o10 [4] e H := run_regK tbl fin K false [] f28o10 [4] e H rfl
def f28body : IC := (.seq f28r0 (.seq (.seq f28r1 (.cond (.t 10) (.seq f28r2 .ret) .skip)) (.seq (.seq f28r3 (.block 0 (.loop [12, 0, 1, 13] f28b9))) (.seq f28r10 .ret))))
def f28 : IFn := ⟨26, 2, [.tmp 4], f28body⟩
/- 29: jobshell/jobshellref22.Kind -/
@[simp] def f29o0 : List IOper := [
  ⟨(some 2), .mv (.c (.int .i64 0)), none, none⟩,
  ⟨(some 3), .mv (.c (.int .i64 0)), none, none⟩]
def f29r0 : IC := .reg false [] f29o0 [0]
@[simp] theorem f29r0_run (tbl : TB) (fin : Fin) (K : List Fr) (e : Env) (H : List AO) : run tbl fin K f29r0 e H = regK tbl fin K [] f29o0 [0] e H := run_regK tbl fin K false [] f29o0 [0] e H rfl
@[simp] def f29o1 : List IOper := [
  ⟨(some 6), .mv (.t 0), none, none⟩,
  ⟨(some 7), .bin .lss (.t 6) (.c (.int .i64 0)), none, none⟩,
  ⟨(some 8), .mv (.t 7), none, none⟩,
  ⟨(some 9), .mv (.t 0), (some (8, false)), none⟩,
  ⟨(some 10), .bin .gtr (.t 9) (.c (.int .i64 768)), (some (8, false)), none⟩,
  ⟨(some 11), .pick (.t 8) (.c (.bool true)) (.t 10), none, none⟩]
def f29r1 : IC := .reg false [] f29o1 [11, 0]
@[simp] theorem f29r1_run (tbl : TB) (fin : Fin) (K : List Fr) (e : Env) (H : List AO) : run tbl fin K f29r1 e H = regK tbl fin K [] f29o1 [11, 0] e H := run_regK tbl fin K false [] f29o1 [11, 0] e H rfl
@[simp] def f29o2 : List IOper := [
  ⟨(some 2), .mv (.c (.int .i64 (-1))), none, none⟩,
  ⟨(some 3), .mv (.c (.int .i64 0)), none, none⟩]
def f29r2 : IC := .reg false [] f29o2 [2, 3]
@[simp] theorem f29r2_run (tbl : TB) (fin : Fin) (K : List Fr) (e : Env) (H : List AO) : run tbl fin K f29r2 e H = regK tbl fin K [] f29o2 [2, 3] e H := run_regK tbl fin K false [] f29o2 [2, 3] e H rfl
@[simp] def f29o3 : List IOper := [
  ⟨(some 12), .mv (.t 0), none, none⟩,
  ⟨(some 13), .bin .quo (.t 12) (.c (.int .i64 256)), none, none⟩,
  ⟨(some 14), .mv (.t 0), none, none⟩,
  ⟨(some 15), .bin .rem (.t 14) (.c (.int .i64 256)), none, none⟩,
  ⟨(some 4), .mv (.t 13), none, none⟩,
  ⟨(some 5), .mv (.t 15), none, none⟩]
def f29r3 : IC := .reg false [] f29o3 [5, 4]
@[simp] theorem f29r3_run (tbl : TB) (fin : Fin) (K : List Fr) (e : Env) (H : List AO) : run tbl fin K f29r3 e H = regK tbl fin K [] f29o3 [5, 4] e H := run_regK tbl fin K false [] f29o3 [5, 4] e H rfl
@[simp] def f29o4 : List IOper := [
  ⟨(some 16), .mv (.t 4), none, none⟩,
  ⟨(some 17), .bin .eql (.t 16) (.c (.int .i64 1)), none, none⟩,
  ⟨(some 18), .mv (.t 17), none, none⟩,
  ⟨(some 19), .mv (.t 4), (some (18, false)), none⟩,
  ⟨(some 20), .bin .eql (.t 19) (.c (.int .i64 2)), (some (18, false)), none⟩,
  ⟨(some 21), .pick (.t 18) (.c (.bool true)) (.t 20), none, none⟩,
  ⟨(some 22), .mv (.t 21), none, none⟩,
  ⟨(some 23), .mv (.t 5), (some (22, true)), some [23, 22, 5, 4]⟩,
  ⟨(some 24), .bin .lss (.t 23) (.c (.int .i64 1)), (some (22, true)), none⟩,
  ⟨(some 25), .mv (.t 24), (some (22, true)), none⟩,
  ⟨(some 26), .mv (.t 5), (some (25, false)), none⟩,
  ⟨(some 27), .bin .gtr (.t 26) (.c (.int .i64 20)), (some (25, false)), none⟩,
  ⟨(some 28), .pick (.t 25) (.c (.bool true)) (.t 27), (some (22, true)), none⟩,
  ⟨(some 29), .pick (.t 22) (.t 28) (.c (.bool false)), none, none⟩]
def f29r4 : IC := .reg false [] f29o4 [29, 5, 4]
@[simp] theorem f29r4_run (tbl : TB) (fin : Fin) (K : List Fr) (e : Env) (H : List AO) : run tbl fin K f29r4 e H = regK tbl fin K [] f29o4 [29, 5, 4] e H := run_regK tbl fin K false [] f29o4 [29, 5, 4] e H rfl
@[simp] def f29o5 : List IOper := [
  ⟨(some 2), .mv (.c (.int .i64 (-1))), none, none⟩,
  ⟨(some 3), .mv (.c (.int .i64 0)), none, none⟩]
def f29r5 : IC := .reg false [] f29o5 [2, 3]
@[simp] theorem f29r5_run (tbl : TB) (fin : Fin) (K : List Fr) (e : Env) (H : List AO) : run tbl fin K f29r5 e H = regK tbl fin K [] f29o5 [2, 3] e H := run_regK tbl fin K false [] f29o5 [2, 3] e H rfl
@[simp] def f29o6 : List IOper := [
  ⟨(some 30), .mv (.t 4), none, none⟩,
  ⟨(some 31), .mv (.t 5), none, none⟩,
  ⟨(some 2), .mv (.t 30), none, none⟩,
  ⟨(some 3), .mv (.t 31), none, none⟩]
def f29r6 : IC := .reg false [] f29o6 [2, 3]
@[simp] theorem f29r6_run (tbl : TB) (fin : Fin) (K : List Fr) (e : Env) (H : List AO) : run tbl fin K f29r6 e H = regK tbl fin K [] f29o6 [2, 3] e H := run_regK tbl fin K false [] f29o6 [2, 3] e H rfl
def f29body : IC := (.seq f29r0 (.seq (.seq f29r1 (.cond (.t 11) (.seq f29r2 .ret) .skip)) (.seq f29r3 (.seq (.seq f29r4 (.cond (.t 29) (.seq f29r5 .ret) .skip)) (.seq f29r6 .ret)))))
def f29 : IFn := ⟨32, 1, [.tmp 2, .tmp 3], f29body⟩
def tblF : Nat → Option IFn
  | 2 => some f2
  | 3 => some f3
  | 4 => some f4
  | 5 => some f5
  | 6 => some f6
  | 7 => some f7
  | 8 => some f8
  | 9 => some f9
  | 10 => some f10
  | 11 => some f11
  | 12 => some f12
  | 13 => some f13
  | 14 => some f14
  | 15 => some f15
  | 16 => some f16
  | 17 => some f17
  | 18 => some f18
  | 19 => some f19
  | 20 => some f20
  | 21 => some f21
  | 22 => some f22
  | 23 => some f23
  | 24 => some f24
  | 25 => some f25
  | 26 => some f26
  | 27 => some f27
  | 28 => some f28
  | 29 => some f29
  | _ => none
theorem tbl2 : tblF 2 = some f2 := rfl
theorem tbl3 : tblF 3 = some f3 := rfl
theorem tbl4 : tblF 4 = some f4 := rfl
theorem tbl5 : tblF 5 = some f5 := rfl
theorem tbl6 : tblF 6 = some f6 := rfl
theorem tbl7 : tblF 7 = some f7 := rfl
theorem tbl8 : tblF 8 = some f8 := rfl
theorem tbl9 : tblF 9 = some f9 := rfl
theorem tbl10 : tblF 10 = some f10 := rfl
theorem tbl11 : tblF 11 = some f11 := rfl
theorem tbl12 : tblF 12 = some f12 := rfl
theorem tbl13 : tblF 13 = some f13 := rfl
theorem tbl14 : tblF 14 = some f14 := rfl
theorem tbl15 : tblF 15 = some f15 := rfl
theorem tbl16 : tblF 16 = some f16 := rfl
theorem tbl17 : tblF 17 = some f17 := rfl
theorem tbl18 : tblF 18 = some f18 := rfl
theorem tbl19 : tblF 19 = some f19 := rfl
theorem tbl20 : tblF 20 = some f20 := rfl
theorem tbl21 : tblF 21 = some f21 := rfl
theorem tbl22 : tblF 22 = some f22 := rfl
theorem tbl23 : tblF 23 = some f23 := rfl
theorem tbl24 : tblF 24 = some f24 := rfl
theorem tbl25 : tblF 25 = some f25 := rfl
theorem tbl26 : tblF 26 = some f26 := rfl
theorem tbl27 : tblF 27 = some f27 := rfl
theorem tbl28 : tblF 28 = some f28 := rfl
theorem tbl29 : tblF 29 = some f29 := rfl
theorem ok2 : cFn Try.prog cfg 2 = some f2 := by kernel_rfl
theorem ok3 : cFn Try.prog cfg 3 = some f3 := by kernel_rfl
theorem ok4 : cFn Try.prog cfg 4 = some f4 := by kernel_rfl
theorem ok5 : cFn Try.prog cfg 5 = some f5 := by kernel_rfl
theorem ok6 : cFn Try.prog cfg 6 = some f6 := by kernel_rfl
theorem ok7 : cFn Try.prog cfg 7 = some f7 := by kernel_rfl
theorem ok8 : cFn Try.prog cfg 8 = some f8 := by kernel_rfl
theorem ok9 : cFn Try.prog cfg 9 = some f9 := by kernel_rfl
theorem ok10 : cFn Try.prog cfg 10 = some f10 := by kernel_rfl
theorem ok11 : cFn Try.prog cfg 11 = some f11 := by kernel_rfl
theorem ok12 : cFn Try.prog cfg 12 = some f12 := by kernel_rfl
theorem ok13 : cFn Try.prog cfg 13 = some f13 := by kernel_rfl
theorem ok14 : cFn Try.prog cfg 14 = some f14 := by kernel_rfl
theorem ok15 : cFn Try.prog cfg 15 = some f15 := by kernel_rfl
theorem ok16 : cFn Try.prog cfg 16 = some f16 := by kernel_rfl
theorem ok17 : cFn Try.prog cfg 17 = some f17 := by kernel_rfl
theorem ok18 : cFn Try.prog cfg 18 = some f18 := by kernel_rfl
theorem ok19 : cFn Try.prog cfg 19 = some f19 := by kernel_rfl
theorem ok20 : cFn Try.prog cfg 20 = some f20 := by kernel_rfl
theorem ok21 : cFn Try.prog cfg 21 = some f21 := by kernel_rfl
theorem ok22 : cFn Try.prog cfg 22 = some f22 := by kernel_rfl
theorem ok23 : cFn Try.prog cfg 23 = some f23 := by kernel_rfl
theorem ok24 : cFn Try.prog cfg 24 = some f24 := by kernel_rfl
theorem ok25 : cFn Try.prog cfg 25 = some f25 := by kernel_rfl
theorem ok26 : cFn Try.prog cfg 26 = some f26 := by kernel_rfl
theorem ok27 : cFn Try.prog cfg 27 = some f27 := by kernel_rfl
theorem ok28 : cFn Try.prog cfg 28 = some f28 := by kernel_rfl
theorem ok29 : cFn Try.prog cfg 29 = some f29 := by kernel_rfl
theorem tbl_ok (f : Nat) (fn : IFn) (h : tblF f = some fn) : cFn Try.prog cfg f = some fn := by
  unfold tblF at h
  split at h
  · injection h with h; subst h; exact ok2
  · injection h with h; subst h; exact ok3
  · injection h with h; subst h; exact ok4
  · injection h with h; subst h; exact ok5
  · injection h with h; subst h; exact ok6
  · injection h with h; subst h; exact ok7
  · injection h with h; subst h; exact ok8
  · injection h with h; subst h; exact ok9
  · injection h with h; subst h; exact ok10
  · injection h with h; subst h; exact ok11
  · injection h with h; subst h; exact ok12
  · injection h with h; subst h; exact ok13
  · injection h with h; subst h; exact ok14
  · injection h with h; subst h; exact ok15
  · injection h with h; subst h; exact ok16
  · injection h with h; subst h; exact ok17
  · injection h with h; subst h; exact ok18
  · injection h with h; subst h; exact ok19
  · injection h with h; subst h; exact ok20
  · injection h with h; subst h; exact ok21
  · injection h with h; subst h; exact ok22
  · injection h with h; subst h; exact ok23
  · injection h with h; subst h; exact ok24
  · injection h with h; subst h; exact ok25
  · injection h with h; subst h; exact ok26
  · injection h with h; subst h; exact ok27
  · injection h with h; subst h; exact ok28
  · injection h with h; subst h; exact ok29
  · cases h
end Go.Proofs.Ytedaefjmclkifaa
