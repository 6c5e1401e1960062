/- The interpreter's form of this seat's functions (printed by a program out of the translation), and that the translation gives just this. No condition. -/
import Derived.Test.YtgppkhbidcgnlaaDoorTbl1
namespace Go.Proofs.YtgppkhbidcgnlaaDoor
open Go.PI
variable (tbl : TB) (fin : Fin) (K : List Fr) (e : Env) (H : List AO)
/- 38: jobshell/jobshelllaw27.play -/
@[simp] def f38o0 : List IOper := [
  ⟨(some 3), .box 60 4 (.t 1), none, none⟩,
  ⟨(some 4), .nilrow 30 13, none, none⟩]
def f38r0 : IC := .reg false [] f38o0 [0, 3]
@[simp] theorem f38r0_run : run tbl fin K f38r0 e H = regK tbl fin K [] f38o0 [0, 3] e H := run_regK _ _ _ _ _ _ _ _ _ rfl
@[simp] def f38o1 : List IOper := [
  ⟨(some 5), .nilrow 30 13, none, none⟩]
def f38r1 : IC := .reg false [] f38o1 [0, 3]
@[simp] theorem f38r1_run : run tbl fin K f38r1 e H = regK tbl fin K [] f38o1 [0, 3] e H := run_regK _ _ _ _ _ _ _ _ _ rfl
@[simp] def f38o2 : List IOper := [
  ⟨(some 6), .fld 0 (.t 3), none, none⟩,
  ⟨(some 7), .load false 1 (.t 6), none, none⟩]
def f38r2 : IC := .reg false [] f38o2 [7, 0, 3]
@[simp] theorem f38r2_run : run tbl fin K f38r2 e H = regK tbl fin K [] f38o2 [7, 0, 3] e H := run_regK _ _ _ _ _ _ _ _ _ rfl
@[simp] def f38o3 : List IOper := [
  ⟨(some 16), .bin .eql (.t 7) (.c (.int .i64 0)), none, none⟩,
  ⟨(some 15), .mv (.t 16), none, none⟩]
def f38r3 : IC := .reg false [] f38o3 [15, 7, 0, 3]
@[simp] theorem f38r3_run : run tbl fin K f38r3 e H = regK tbl fin K [] f38o3 [15, 7, 0, 3] e H := run_regK _ _ _ _ _ _ _ _ _ rfl
@[simp] def f38o4 : List IOper := [
  ⟨(some 18), .mv (.t 0), none, none⟩,
  ⟨(some 19), .fld 1 (.t 3), none, none⟩,
  ⟨(some 20), .load false 1 (.t 19), none, none⟩,
  ⟨(some 21), .fld 2 (.t 3), none, none⟩,
  ⟨(some 22), .load false 1 (.t 21), none, none⟩,
  ⟨(some 23), .call (.c (.fn 27 [])) [(.t 18), (.t 20), (.t 22)], none, none⟩,
  ⟨(some 17), .mv (.t 23), none, none⟩,
  ⟨(some 24), .ext (.t 17) 0, none, none⟩,
  ⟨(some 25), .ext (.t 17) 1, none, none⟩,
  ⟨(some 5), .mv (.t 24), none, none⟩]
def f38r4 : IC := .reg false [] f38o4 [5]
@[simp] theorem f38r4_run : run tbl fin K f38r4 e H = regK tbl fin K [] f38o4 [5] e H := run_regK _ _ _ _ _ _ _ _ _ rfl
@[simp] def f38o5 : List IOper := [
  ⟨(some 27), .bin .eql (.t 7) (.c (.int .i64 1)), none, none⟩,
  ⟨(some 26), .mv (.t 27), none, none⟩]
def f38r5 : IC := .reg false [] f38o5 [26, 7, 0, 3]
@[simp] theorem f38r5_run : run tbl fin K f38r5 e H = regK tbl fin K [] f38o5 [26, 7, 0, 3] e H := run_regK _ _ _ _ _ _ _ _ _ rfl
@[simp] def f38o6 : List IOper := [
  ⟨(some 29), .mv (.t 0), none, none⟩,
  ⟨(some 30), .fld 1 (.t 3), none, none⟩,
  ⟨(some 31), .load false 1 (.t 30), none, none⟩,
  ⟨(some 32), .fld 2 (.t 3), none, none⟩,
  ⟨(some 33), .load false 1 (.t 32), none, none⟩,
  ⟨(some 34), .call (.c (.fn 28 [])) [(.t 29), (.t 31), (.t 33)], none, none⟩,
  ⟨(some 28), .mv (.t 34), none, none⟩,
  ⟨(some 35), .ext (.t 28) 0, none, none⟩,
  ⟨(some 36), .ext (.t 28) 1, none, none⟩,
  ⟨(some 5), .mv (.t 35), none, none⟩]
def f38r6 : IC := .reg false [] f38o6 [5]
@[simp] theorem f38r6_run : run tbl fin K f38r6 e H = regK tbl fin K [] f38o6 [5] e H := run_regK _ _ _ _ _ _ _ _ _ rfl
@[simp] def f38o7 : List IOper := [
  ⟨(some 38), .bin .eql (.t 7) (.c (.int .i64 2)), none, none⟩,
  ⟨(some 37), .mv (.t 38), none, none⟩]
def f38r7 : IC := .reg false [] f38o7 [37, 7, 0, 3]
@[simp] theorem f38r7_run : run tbl fin K f38r7 e H = regK tbl fin K [] f38o7 [37, 7, 0, 3] e H := run_regK _ _ _ _ _ _ _ _ _ rfl
@[simp] def f38o8 : List IOper := [
  ⟨(some 40), .mv (.t 0), none, none⟩,
  ⟨(some 41), .fld 1 (.t 3), none, none⟩,
  ⟨(some 42), .load false 1 (.t 41), none, none⟩,
  ⟨(some 43), .fld 2 (.t 3), none, none⟩,
  ⟨(some 44), .load false 1 (.t 43), none, none⟩,
  ⟨(some 45), .bin .rem (.t 44) (.c (.int .i64 512)), none, none⟩,
  ⟨(some 46), .bin .add (.c (.int .i64 512)) (.t 45), none, none⟩,
  ⟨(some 47), .call (.c (.fn 36 [])) [(.t 40), (.t 42), (.c (.int .i64 2)), (.t 46)], none, some [47]⟩,
  ⟨(some 39), .mv (.t 47), none, none⟩,
  ⟨(some 48), .ext (.t 39) 0, none, none⟩,
  ⟨(some 49), .ext (.t 39) 1, none, none⟩,
  ⟨(some 5), .mv (.t 48), none, none⟩]
def f38r8 : IC := .reg false [] f38o8 [5]
@[simp] theorem f38r8_run : run tbl fin K f38r8 e H = regK tbl fin K [] f38o8 [5] e H := run_regK _ _ _ _ _ _ _ _ _ rfl
@[simp] def f38o9 : List IOper := [
  ⟨(some 51), .bin .eql (.t 7) (.c (.int .i64 3)), none, none⟩,
  ⟨(some 50), .mv (.t 51), none, none⟩]
def f38r9 : IC := .reg false [] f38o9 [50, 7, 0, 3]
@[simp] theorem f38r9_run : run tbl fin K f38r9 e H = regK tbl fin K [] f38o9 [50, 7, 0, 3] e H := run_regK _ _ _ _ _ _ _ _ _ rfl
@[simp] def f38o10 : List IOper := [
  ⟨(some 53), .mv (.t 0), none, none⟩,
  ⟨(some 54), .fld 1 (.t 3), none, none⟩,
  ⟨(some 55), .load false 1 (.t 54), none, none⟩,
  ⟨(some 56), .call (.c (.fn 36 [])) [(.t 53), (.t 55), (.c (.int .i64 1)), (.c (.int .i64 768))], none, none⟩,
  ⟨(some 52), .mv (.t 56), none, none⟩,
  ⟨(some 57), .ext (.t 52) 0, none, none⟩,
  ⟨(some 58), .ext (.t 52) 1, none, none⟩,
  ⟨(some 5), .mv (.t 57), none, none⟩]
def f38r10 : IC := .reg false [] f38o10 [5]
@[simp] theorem f38r10_run : run tbl fin K f38r10 e H = regK tbl fin K [] f38o10 [5] e H := run_regK _ _ _ _ _ _ _ _ _ rfl
@[simp] def f38o11 : List IOper := [
  ⟨(some 60), .bin .eql (.t 7) (.c (.int .i64 4)), none, none⟩,
  ⟨(some 59), .mv (.t 60), none, none⟩]
def f38r11 : IC := .reg false [] f38o11 [59, 7, 0, 3]
@[simp] theorem f38r11_run : run tbl fin K f38r11 e H = regK tbl fin K [] f38o11 [59, 7, 0, 3] e H := run_regK _ _ _ _ _ _ _ _ _ rfl
@[simp] def f38o12 : List IOper := [
  ⟨(some 62), .mv (.t 0), none, none⟩,
  ⟨(some 63), .fld 1 (.t 3), none, none⟩,
  ⟨(some 64), .load false 1 (.t 63), none, none⟩,
  ⟨(some 65), .fld 2 (.t 3), none, none⟩,
  ⟨(some 66), .load false 1 (.t 65), none, none⟩,
  ⟨(some 67), .fld 3 (.t 3), none, none⟩,
  ⟨(some 68), .load false 1 (.t 67), none, none⟩,
  ⟨(some 69), .call (.c (.fn 21 [])) [(.t 62), (.t 64), (.t 66), (.t 68)], none, some [69]⟩,
  ⟨(some 61), .mv (.t 69), none, none⟩,
  ⟨(some 70), .ext (.t 61) 0, none, none⟩,
  ⟨(some 71), .ext (.t 61) 1, none, none⟩,
  ⟨(some 72), .ext (.t 61) 2, none, none⟩,
  ⟨(some 73), .ext (.t 61) 3, none, none⟩,
  ⟨(some 74), .ext (.t 61) 4, none, none⟩,
  ⟨(some 5), .mv (.t 70), none, none⟩]
def f38r12 : IC := .reg false [] f38o12 [5]
@[simp] theorem f38r12_run : run tbl fin K f38r12 e H = regK tbl fin K [] f38o12 [5] e H := run_regK _ _ _ _ _ _ _ _ _ rfl
@[simp] def f38o13 : List IOper := [
  ⟨(some 76), .bin .eql (.t 7) (.c (.int .i64 5)), none, none⟩,
  ⟨(some 75), .mv (.t 76), none, none⟩]
def f38r13 : IC := .reg false [] f38o13 [75, 0, 3]
@[simp] theorem f38r13_run : run tbl fin K f38r13 e H = regK tbl fin K [] f38o13 [75, 0, 3] e H := run_regK _ _ _ _ _ _ _ _ _ rfl
@[simp] def f38o14 : List IOper := [
  ⟨(some 78), .mv (.t 0), none, none⟩,
  ⟨(some 79), .fld 1 (.t 3), none, none⟩,
  ⟨(some 80), .load false 1 (.t 79), none, none⟩,
  ⟨(some 81), .fld 2 (.t 3), none, none⟩,
  ⟨(some 82), .load false 1 (.t 81), none, none⟩,
  ⟨(some 83), .fld 3 (.t 3), none, none⟩,
  ⟨(some 84), .load false 1 (.t 83), none, none⟩,
  ⟨(some 85), .call (.c (.fn 23 [])) [(.t 78), (.t 80), (.t 82), (.t 84)], none, some [85]⟩,
  ⟨(some 77), .mv (.t 85), none, none⟩,
  ⟨(some 86), .ext (.t 77) 0, none, none⟩,
  ⟨(some 87), .ext (.t 77) 1, none, none⟩,
  ⟨(some 5), .mv (.t 86), none, none⟩]
def f38r14 : IC := .reg false [] f38o14 [5]
@[simp] theorem f38r14_run : run tbl fin K f38r14 e H = regK tbl fin K [] f38o14 [5] e H := run_regK _ _ _ _ _ _ _ _ _ rfl
@[simp] def f38o15 : List IOper := [
  ⟨(some 9), .mv (.t 0), none, none⟩,
  ⟨(some 10), .fld 1 (.t 3), none, none⟩,
  ⟨(some 11), .load false 1 (.t 10), none, none⟩,
  ⟨(some 12), .call (.c (.fn 25 [])) [(.t 9), (.t 11)], none, none⟩,
  ⟨(some 8), .mv (.t 12), none, none⟩,
  ⟨(some 13), .ext (.t 8) 0, none, none⟩,
  ⟨(some 14), .ext (.t 8) 1, none, none⟩,
  ⟨(some 5), .mv (.t 13), none, none⟩]
def f38r15 : IC := .reg false [] f38o15 [5]
@[simp] theorem f38r15_run : run tbl fin K f38r15 e H = regK tbl fin K [] f38o15 [5] e H := run_regK _ _ _ _ _ _ _ _ _ rfl
@[simp] def f38o16 : List IOper := [
  ⟨(some 88), .mv (.t 5), none, none⟩,
  ⟨(some 4), .mv (.t 88), none, none⟩]
def f38r16 : IC := .reg false [] f38o16 [4]
@[simp] theorem f38r16_run : run tbl fin K f38r16 e H = regK tbl fin K [] f38o16 [4] e H := run_regK _ _ _ _ _ _ _ _ _ rfl
def f38body : IC := (.seq f38r0 (.seq f38r1 (.seq (.seq f38r2 (.block 0 (.seq f38r3 (.cond (.t 15) f38r4 (.seq f38r5 (.cond (.t 26) f38r6 (.seq f38r7 (.cond (.t 37) f38r8 (.seq f38r9 (.cond (.t 50) f38r10 (.seq f38r11 (.cond (.t 59) f38r12 (.seq f38r13 (.cond (.t 75) f38r14 f38r15)))))))))))))) (.seq f38r16 .ret))))
def f38 : IFn := ⟨89, 2, [.tmp 4], f38body⟩
/- 39: jobshell/proc.cloneSigs -/
@[simp] def f39o0 : List IOper := [
  ⟨(some 1), .box 27 3 (.t 0), none, none⟩,
  ⟨(some 2), .new 27 3 (.agg [.e0, .e0, .e0]), none, none⟩]
def f39r0 : IC := .reg false [] f39o0 [1, 2]
@[simp] theorem f39r0_run : run tbl fin K f39r0 e H = regK tbl fin K [] f39o0 [1, 2] e H := run_regK _ _ _ _ _ _ _ _ _ rfl
@[simp] def f39o1 : List IOper := [
  ⟨(some 3), .fld 0 (.t 1), none, none⟩,
  ⟨(some 4), .load false 1 (.t 3), none, none⟩,
  ⟨(some 5), .call (.c (.fn 77 [])) [(.t 4)], none, none⟩,
  ⟨(some 6), .fld 1 (.t 1), none, none⟩,
  ⟨(some 7), .load false 1 (.t 6), none, none⟩,
  ⟨(some 8), .call (.c (.fn 77 [])) [(.t 7)], none, none⟩,
  ⟨(some 9), .fld 2 (.t 1), none, none⟩,
  ⟨(some 10), .load false 1 (.t 9), none, none⟩,
  ⟨(some 11), .call (.c (.fn 77 [])) [(.t 10)], none, none⟩,
  ⟨(some 12), .build [.e0, .e0, .e0] [(0, 1, (.t 5)), (1, 1, (.t 8)), (2, 1, (.t 11))], none, none⟩,
  ⟨none, .store 3 (.t 2) (.t 12), none, none⟩]
def f39r1 : IC := .reg true [] f39o1 [2]
@[simp] theorem f39r1_run : run tbl fin K f39r1 e H = regK tbl fin K [] f39o1 [2] e H := run_regK _ _ _ _ _ _ _ _ _ rfl
def f39body : IC := (.seq f39r0 (.seq f39r1 .ret))
def f39 : IFn := ⟨13, 1, [.cell 2 true 3], f39body⟩
/- 40: slices.Clone[[]jobshell/api.Fd,jobshell/api.Fd] -/
@[simp] def f40o0 : List IOper := [
  ⟨(some 2), .nilrow 66 3, none, none⟩]
def f40r0 : IC := .reg false [] f40o0 [0]
@[simp] theorem f40r0_run : run tbl fin K f40r0 e H = regK tbl fin K [] f40o0 [0] e H := run_regK _ _ _ _ _ _ _ _ _ rfl
@[simp] def f40o1 : List IOper := [
  ⟨(some 3), .mv (.t 0), none, none⟩,
  ⟨(some 4), .eqnil false (.t 3), none, none⟩]
def f40r1 : IC := .reg false [] f40o1 [4, 0]
@[simp] theorem f40r1_run : run tbl fin K f40r1 e H = regK tbl fin K [] f40o1 [4, 0] e H := run_regK _ _ _ _ _ _ _ _ _ rfl
@[simp] def f40o2 : List IOper := [
  ⟨(some 2), .nilrow 66 3, none, none⟩]
def f40r2 : IC := .reg false [] f40o2 [2]
@[simp] theorem f40r2_run : run tbl fin K f40r2 e H = regK tbl fin K [] f40o2 [2] e H := run_regK _ _ _ _ _ _ _ _ _ rfl
@[simp] def f40o3 : List IOper := [
  ⟨(some 5), .mkrow 66 3 0 (.agg [(.int .i64 0), (.int .i64 0), (.bool false)]) [], none, none⟩,
  ⟨(some 6), .mv (.t 0), none, none⟩,
  ⟨(some 7), .app 66 3 (.t 5) (.t 6), none, none⟩,
  ⟨(some 2), .mv (.t 7), none, none⟩]
def f40r3 : IC := .reg false [] f40o3 [2]
@[simp] theorem f40r3_run : run tbl fin K f40r3 e H = regK tbl fin K [] f40o3 [2] e H := run_regK _ _ _ _ _ _ _ _ _ rfl
def f40body : IC := (.seq f40r0 (.seq (.seq f40r1 (.cond (.t 4) (.seq f40r2 .ret) .skip)) (.seq f40r3 .ret)))
def f40 : IFn := ⟨8, 1, [.tmp 2], f40body⟩
/- 41: jobshell/jobshellref27.find -/
@[simp] def f41o0 : List IOper := [
  ⟨(some 4), .mv (.c (.int .i64 0)), none, none⟩]
def f41r0 : IC := .reg false [] f41o0 [0, 1]
@[simp] theorem f41r0_run : run tbl fin K f41r0 e H = regK tbl fin K [] f41o0 [0, 1] e H := run_regK _ _ _ _ _ _ _ _ _ rfl
@[simp] def f41o1 : List IOper := [
  ⟨(some 5), .mv (.c (.int .i64 0)), none, none⟩]
def f41r1 : IC := .reg false [] f41o1 [0, 1, 5]
@[simp] theorem f41r1_run : run tbl fin K f41r1 e H = regK tbl fin K [] f41o1 [0, 1, 5] e H := run_regK _ _ _ _ _ _ _ _ _ rfl
@[simp] def f41o2 : List IOper := [
  ⟨(some 6), .mv (.t 5), none, none⟩,
  ⟨(some 7), .mv (.t 0), none, none⟩,
  ⟨(some 8), .len (.t 7), none, none⟩,
  ⟨(some 9), .bin .lss (.t 6) (.t 8), none, none⟩]
def f41r2 : IC := .reg false [] f41o2 [9, 1, 0, 5]
@[simp] theorem f41r2_run : run tbl fin K f41r2 e H = regK tbl fin K [] f41o2 [9, 1, 0, 5] e H := run_regK _ _ _ _ _ _ _ _ _ rfl
@[simp] def f41o3 : List IOper := [
  ⟨(some 12), .mv (.t 0), none, none⟩,
  ⟨(some 13), .mv (.t 5), none, none⟩,
  ⟨(some 14), .idx 13 (.t 12) (.t 13), none, none⟩,
  ⟨(some 15), .fld 0 (.t 14), none, none⟩,
  ⟨(some 16), .load false 1 (.t 15), none, none⟩,
  ⟨(some 17), .mv (.t 1), none, none⟩,
  ⟨(some 18), .bin .eql (.t 16) (.t 17), none, none⟩]
def f41r3 : IC := .reg false [] f41o3 [18, 1, 0, 5]
@[simp] theorem f41r3_run : run tbl fin K f41r3 e H = regK tbl fin K [] f41o3 [18, 1, 0, 5] e H := run_regK _ _ _ _ _ _ _ _ _ rfl
@[simp] def f41o4 : List IOper := [
  ⟨(some 19), .mv (.t 5), none, none⟩,
  ⟨(some 4), .mv (.t 19), none, none⟩]
def f41r4 : IC := .reg false [] f41o4 [4]
@[simp] theorem f41r4_run : run tbl fin K f41r4 e H = regK tbl fin K [] f41o4 [4] e H := run_regK _ _ _ _ _ _ _ _ _ rfl
@[simp] def f41o5 : List IOper := [
  ⟨(some 10), .mv (.t 5), none, none⟩,
  ⟨(some 11), .bin .add (.t 10) (.c (.int .i64 1)), none, none⟩,
  ⟨(some 5), .mv (.t 11), none, none⟩]
def f41r5 : IC := .reg false [] f41o5 [0, 1, 5]
@[simp] theorem f41r5_run : run tbl fin K f41r5 e H = regK tbl fin K [] f41o5 [0, 1, 5] e H := run_regK _ _ _ _ _ _ _ _ _ rfl
def f41b6 : IC := (.seq (.seq f41r2 (.cond (.t 9) .skip (.exit 0))) (.seq (.block 1 (.seq f41r3 (.cond (.t 18) (.seq f41r4 .ret) .skip))) f41r5))
theorem f41b6_eq : f41b6 = (.seq (.seq f41r2 (.cond (.t 9) .skip (.exit 0))) (.seq (.block 1 (.seq f41r3 (.cond (.t 18) (.seq f41r4 .ret) .skip))) f41r5)) := rfl
@[simp] def f41o7 : List IOper := [
  ⟨(some 4), .mv (.c (.int .i64 (-1))), none, none⟩]
def f41r7 : IC := .reg false [] f41o7 [4]
@[simp] theorem f41r7_run : run tbl fin K f41r7 e H = regK tbl fin K [] f41o7 [4] e H := run_regK _ _ _ _ _ _ _ _ _ rfl
def f41body : IC := (.seq f41r0 (.seq (.seq f41r1 (.block 0 (.loop [0, 1, 5] f41b6))) (.seq f41r7 .ret)))
def f41 : IFn := ⟨20, 2, [.tmp 4], f41body⟩
/- 42: jobshell/proc.check -/
@[simp] def f42o0 : List IOper := [
  ⟨(some 4), .mv (.c (.int .i64 0)), none, none⟩]
def f42r0 : IC := .reg false [] f42o0 [1, 0]
@[simp] theorem f42r0_run : run tbl fin K f42r0 e H = regK tbl fin K [] f42o0 [1, 0] e H := run_regK _ _ _ _ _ _ _ _ _ rfl
@[simp] def f42o1 : List IOper := [
  ⟨(some 8), .mv (.t 0), none, none⟩,
  ⟨(some 9), .mv (.t 1), none, none⟩,
  ⟨(some 10), .idx 13 (.t 8) (.t 9), none, none⟩,
  ⟨(some 11), .load true 13 (.t 10), none, none⟩,
  ⟨(some 5), .new 30 13 (.agg [(.int .i64 0), (.int .i64 0), (.int .i64 0), (.int .i64 0), (.int .i64 0), (.int .i64 0), (.bool false), (.int .i64 0), .e0, .e0, .e0, .e0, (.str [])]), none, none⟩,
  ⟨none, .store 13 (.t 5) (.t 11), none, none⟩]
def f42r1 : IC := .reg false [] f42o1 [1, 5, 0]
@[simp] theorem f42r1_run : run tbl fin K f42r1 e H = regK tbl fin K [] f42o1 [1, 5, 0] e H := run_regK _ _ _ _ _ _ _ _ _ rfl
@[simp] def f42o2 : List IOper := [
  ⟨(some 13), .fld 0 (.t 5), none, none⟩,
  ⟨(some 14), .load false 1 (.t 13), none, none⟩,
  ⟨(some 15), .call (.c (.fn 65 [])) [(.t 14)], none, none⟩,
  ⟨(some 16), .un .not (.t 15), none, none⟩,
  ⟨(some 17), .mv (.t 16), none, none⟩,
  ⟨(some 18), .fld 2 (.t 5), (some (17, false)), none⟩,
  ⟨(some 19), .load false 1 (.t 18), (some (17, false)), none⟩,
  ⟨(some 20), .call (.c (.fn 65 [])) [(.t 19)], (some (17, false)), some [20, 17, 1, 5, 0]⟩,
  ⟨(some 21), .un .not (.t 20), (some (17, false)), none⟩,
  ⟨(some 22), .pick (.t 17) (.c (.bool true)) (.t 21), none, none⟩,
  ⟨(some 23), .mv (.t 22), none, none⟩,
  ⟨(some 24), .fld 3 (.t 5), (some (23, false)), none⟩,
  ⟨(some 25), .load false 1 (.t 24), (some (23, false)), none⟩,
  ⟨(some 26), .call (.c (.fn 65 [])) [(.t 25)], (some (23, false)), none⟩,
  ⟨(some 27), .un .not (.t 26), (some (23, false)), none⟩,
  ⟨(some 28), .pick (.t 23) (.c (.bool true)) (.t 27), none, some [28, 1, 5, 0]⟩,
  ⟨(some 12), .mv (.t 28), none, none⟩]
def f42r2 : IC := .reg false [] f42o2 [12, 1, 5, 0]
@[simp] theorem f42r2_run : run tbl fin K f42r2 e H = regK tbl fin K [] f42o2 [12, 1, 5, 0] e H := run_regK _ _ _ _ _ _ _ _ _ rfl
@[simp] def f42o3 : List IOper := [
  ⟨(some 29), .fld 4 (.t 5), none, none⟩,
  ⟨(some 30), .load false 1 (.t 29), none, none⟩,
  ⟨(some 31), .bin .lss (.t 30) (.c (.int .i64 1)), none, none⟩,
  ⟨(some 32), .mv (.t 31), none, none⟩,
  ⟨(some 33), .fld 4 (.t 5), (some (32, false)), none⟩,
  ⟨(some 34), .load false 1 (.t 33), (some (32, false)), none⟩,
  ⟨(some 35), .bin .gtr (.t 34) (.c (.int .i64 3)), (some (32, false)), none⟩,
  ⟨(some 36), .pick (.t 32) (.c (.bool true)) (.t 35), none, none⟩,
  ⟨(some 12), .mv (.t 36), none, none⟩]
def f42r3 : IC := .reg false [] f42o3 [12, 1, 5, 0]
@[simp] theorem f42r3_run : run tbl fin K f42r3 e H = regK tbl fin K [] f42o3 [12, 1, 5, 0] e H := run_regK _ _ _ _ _ _ _ _ _ rfl
@[simp] def f42o4 : List IOper := [
  ⟨(some 37), .fld 7 (.t 5), none, none⟩,
  ⟨(some 38), .load false 1 (.t 37), none, none⟩,
  ⟨(some 39), .bin .lss (.t 38) (.c (.int .i64 0)), none, none⟩,
  ⟨(some 40), .mv (.t 39), none, none⟩,
  ⟨(some 41), .fld 7 (.t 5), (some (40, false)), none⟩,
  ⟨(some 42), .load false 1 (.t 41), (some (40, false)), none⟩,
  ⟨(some 43), .bin .gtr (.t 42) (.c (.int .i64 1073741824)), (some (40, false)), none⟩,
  ⟨(some 44), .pick (.t 40) (.c (.bool true)) (.t 43), none, none⟩,
  ⟨(some 12), .mv (.t 44), none, none⟩]
def f42r4 : IC := .reg false [] f42o4 [12, 1, 5, 0]
@[simp] theorem f42r4_run : run tbl fin K f42r4 e H = regK tbl fin K [] f42o4 [12, 1, 5, 0] e H := run_regK _ _ _ _ _ _ _ _ _ rfl
@[simp] def f42o5 : List IOper := [
  ⟨(some 4), .mv (.c (.int .i64 1)), none, none⟩]
def f42r5 : IC := .reg false [] f42o5 [4]
@[simp] theorem f42r5_run : run tbl fin K f42r5 e H = regK tbl fin K [] f42o5 [4] e H := run_regK _ _ _ _ _ _ _ _ _ rfl
@[simp] def f42o6 : List IOper := [
  ⟨(some 46), .mv (.t 1), none, none⟩,
  ⟨(some 47), .bin .gtr (.t 46) (.c (.int .i64 0)), none, none⟩,
  ⟨(some 48), .mv (.t 47), none, none⟩,
  ⟨(some 49), .fld 0 (.t 5), (some (48, true)), none⟩,
  ⟨(some 50), .load false 1 (.t 49), (some (48, true)), none⟩,
  ⟨(some 51), .mv (.t 0), (some (48, true)), none⟩,
  ⟨(some 52), .mv (.t 1), (some (48, true)), none⟩,
  ⟨(some 53), .bin .sub (.t 52) (.c (.int .i64 1)), (some (48, true)), none⟩,
  ⟨(some 54), .idx 13 (.t 51) (.t 53), (some (48, true)), none⟩,
  ⟨(some 55), .fld 0 (.t 54), (some (48, true)), none⟩,
  ⟨(some 56), .load false 1 (.t 55), (some (48, true)), none⟩,
  ⟨(some 57), .bin .leq (.t 50) (.t 56), (some (48, true)), none⟩,
  ⟨(some 58), .pick (.t 48) (.t 57) (.c (.bool false)), none, none⟩,
  ⟨(some 45), .mv (.t 58), none, none⟩]
def f42r6 : IC := .reg true [] f42o6 [45, 0, 5, 1]
@[simp] theorem f42r6_run : run tbl fin K f42r6 e H = regK tbl fin K [] f42o6 [45, 0, 5, 1] e H := run_regK _ _ _ _ _ _ _ _ _ rfl
@[simp] def f42o7 : List IOper := [
  ⟨(some 4), .mv (.c (.int .i64 25)), none, none⟩]
def f42r7 : IC := .reg false [] f42o7 [4]
@[simp] theorem f42r7_run : run tbl fin K f42r7 e H = regK tbl fin K [] f42o7 [4] e H := run_regK _ _ _ _ _ _ _ _ _ rfl
@[simp] def f42o8 : List IOper := [
  ⟨(some 60), .load true 13 (.t 5), none, none⟩,
  ⟨(some 61), .call (.c (.fn 78 [])) [(.t 60)], none, none⟩,
  ⟨(some 62), .un .not (.t 61), none, none⟩,
  ⟨(some 59), .mv (.t 62), none, none⟩]
def f42r8 : IC := .reg false [] f42o8 [59, 1, 5, 0]
@[simp] theorem f42r8_run : run tbl fin K f42r8 e H = regK tbl fin K [] f42o8 [59, 1, 5, 0] e H := run_regK _ _ _ _ _ _ _ _ _ rfl
@[simp] def f42o9 : List IOper := [
  ⟨(some 63), .fld 4 (.t 5), none, none⟩,
  ⟨(some 64), .load false 1 (.t 63), none, none⟩,
  ⟨(some 65), .bin .eql (.t 64) (.c (.int .i64 3)), none, none⟩,
  ⟨(some 66), .mv (.t 65), none, none⟩,
  ⟨(some 67), .load true 13 (.t 5), (some (66, true)), none⟩,
  ⟨(some 68), .call (.c (.fn 79 [])) [(.t 67)], (some (66, true)), none⟩,
  ⟨(some 69), .un .not (.t 68), (some (66, true)), none⟩,
  ⟨(some 70), .pick (.t 66) (.t 69) (.c (.bool false)), none, none⟩,
  ⟨(some 59), .mv (.t 70), none, none⟩]
def f42r9 : IC := .reg false [] f42o9 [59, 1, 5, 0]
@[simp] theorem f42r9_run : run tbl fin K f42r9 e H = regK tbl fin K [] f42o9 [59, 1, 5, 0] e H := run_regK _ _ _ _ _ _ _ _ _ rfl
@[simp] def f42o10 : List IOper := [
  ⟨(some 4), .mv (.c (.int .i64 1)), none, none⟩]
def f42r10 : IC := .reg false [] f42o10 [4]
@[simp] theorem f42r10_run : run tbl fin K f42r10 e H = regK tbl fin K [] f42o10 [4] e H := run_regK _ _ _ _ _ _ _ _ _ rfl
@[simp] def f42o11 : List IOper := [
  ⟨(some 71), .fld 8 (.t 5), none, none⟩,
  ⟨(some 72), .load true 3 (.t 71), none, none⟩,
  ⟨(some 73), .call (.c (.fn 80 [])) [(.t 72)], none, none⟩,
  ⟨(some 6), .mv (.t 73), none, none⟩]
def f42r11 : IC := .reg false [] f42o11 [0, 5, 1, 6]
@[simp] theorem f42r11_run : run tbl fin K f42r11 e H = regK tbl fin K [] f42o11 [0, 5, 1, 6] e H := run_regK _ _ _ _ _ _ _ _ _ rfl
@[simp] def f42o12 : List IOper := [
  ⟨(some 74), .mv (.t 6), none, none⟩,
  ⟨(some 75), .bin .neq (.t 74) (.c (.int .i64 0)), none, none⟩]
def f42r12 : IC := .reg false [] f42o12 [75, 0, 5, 1, 6]
@[simp] theorem f42r12_run : run tbl fin K f42r12 e H = regK tbl fin K [] f42o12 [75, 0, 5, 1, 6] e H := run_regK _ _ _ _ _ _ _ _ _ rfl
@[simp] def f42o13 : List IOper := [
  ⟨(some 76), .mv (.t 6), none, none⟩,
  ⟨(some 4), .mv (.t 76), none, none⟩]
def f42r13 : IC := .reg false [] f42o13 [4]
@[simp] theorem f42r13_run : run tbl fin K f42r13 e H = regK tbl fin K [] f42o13 [4] e H := run_regK _ _ _ _ _ _ _ _ _ rfl
@[simp] def f42o14 : List IOper := [
  ⟨(some 77), .mv (.t 1), none, none⟩,
  ⟨(some 78), .bin .gtr (.t 77) (.c (.int .i64 0)), none, none⟩]
def f42r14 : IC := .reg false [] f42o14 [78, 5, 0]
@[simp] theorem f42r14_run : run tbl fin K f42r14 e H = regK tbl fin K [] f42o14 [78, 5, 0] e H := run_regK _ _ _ _ _ _ _ _ _ rfl
@[simp] def f42o15 : List IOper := [
  ⟨(some 79), .mkfn 81 [(.t 5)], none, none⟩,
  ⟨(some 7), .mv (.t 79), none, none⟩]
def f42r15 : IC := .reg false [] f42o15 [7, 5, 0]
@[simp] theorem f42r15_run : run tbl fin K f42r15 e H = regK tbl fin K [] f42o15 [7, 5, 0] e H := run_regK _ _ _ _ _ _ _ _ _ rfl
@[simp] def f42o16 : List IOper := [
  ⟨(some 80), .mv (.t 0), none, none⟩,
  ⟨(some 81), .mv (.t 7), none, none⟩,
  ⟨(some 82), .ocall (.c (.fn 63 [])) [(.t 80), (.t 81)], none, none⟩,
  ⟨(some 83), .un .not (.t 82), none, none⟩]
def f42r16 : IC := .reg false [] f42o16 [83, 5, 0]
@[simp] theorem f42r16_run : run tbl fin K f42r16 e H = regK tbl fin K [] f42o16 [83, 5, 0] e H := run_regK _ _ _ _ _ _ _ _ _ rfl
@[simp] def f42o17 : List IOper := [
  ⟨(some 4), .mv (.c (.int .i64 21)), none, none⟩]
def f42r17 : IC := .reg false [] f42o17 [4]
@[simp] theorem f42r17_run : run tbl fin K f42r17 e H = regK tbl fin K [] f42o17 [4] e H := run_regK _ _ _ _ _ _ _ _ _ rfl
@[simp] def f42o18 : List IOper := [
  ⟨(some 84), .mv (.t 0), none, none⟩,
  ⟨(some 85), .mkfn 82 [(.t 5)], none, none⟩,
  ⟨(some 86), .ocall (.c (.fn 63 [])) [(.t 84), (.t 85)], none, none⟩]
def f42r18 : IC := .reg false [] f42o18 [86]
@[simp] theorem f42r18_run : run tbl fin K f42r18 e H = regK tbl fin K [] f42o18 [86] e H := run_regK _ _ _ _ _ _ _ _ _ rfl
@[simp] def f42o19 : List IOper := [
  ⟨(some 4), .mv (.c (.int .i64 23)), none, none⟩]
def f42r19 : IC := .reg false [] f42o19 [4]
@[simp] theorem f42r19_run : run tbl fin K f42r19 e H = regK tbl fin K [] f42o19 [4] e H := run_regK _ _ _ _ _ _ _ _ _ rfl
@[simp] def f42o20 : List IOper := [
  ⟨(some 4), .mv (.c (.int .i64 0)), none, none⟩]
def f42r20 : IC := .reg false [] f42o20 [4]
@[simp] theorem f42r20_run : run tbl fin K f42r20 e H = regK tbl fin K [] f42o20 [4] e H := run_regK _ _ _ _ _ _ _ _ _ rfl
def f42body : IC := (.seq f42r0 (.seq f42r1 (.seq (.block 0 (.seq (.seq f42r2 (.cond (.t 12) .skip (.seq f42r3 (.cond (.t 12) .skip f42r4)))) (.cond (.t 12) (.seq f42r5 .ret) (.seq f42r6 (.cond (.t 45) (.seq f42r7 .ret) (.seq (.seq f42r8 (.cond (.t 59) .skip f42r9)) (.cond (.t 59) (.seq f42r10 .ret) .skip))))))) (.seq (.seq f42r11 (.seq f42r12 (.cond (.t 75) (.seq f42r13 .ret) .skip))) (.seq (.seq f42r14 (.cond (.t 78) (.seq f42r15 (.seq f42r16 (.cond (.t 83) (.seq f42r17 .ret) .skip))) .skip)) (.seq (.seq f42r18 (.cond (.t 86) (.seq f42r19 .ret) .skip)) (.seq f42r20 .ret)))))))
def f42 : IFn := ⟨87, 2, [.tmp 4], f42body⟩
/- 43: jobshell/jobshellref27.one -/
@[simp] def f43o0 : List IOper := [
  ⟨(some 4), .mv (.c (.int .i64 0)), none, none⟩]
def f43r0 : IC := .reg false [] f43o0 [1, 0]
@[simp] theorem f43r0_run : run tbl fin K f43r0 e H = regK tbl fin K [] f43o0 [1, 0] e H := run_regK _ _ _ _ _ _ _ _ _ rfl
@[simp] def f43o1 : List IOper := [
  ⟨(some 6), .mv (.t 0), none, none⟩,
  ⟨(some 7), .mv (.t 1), none, none⟩,
  ⟨(some 8), .idx 13 (.t 6) (.t 7), none, none⟩,
  ⟨(some 9), .load true 13 (.t 8), none, none⟩,
  ⟨(some 5), .new 30 13 (.agg [(.int .i64 0), (.int .i64 0), (.int .i64 0), (.int .i64 0), (.int .i64 0), (.int .i64 0), (.bool false), (.int .i64 0), .e0, .e0, .e0, .e0, (.str [])]), none, none⟩,
  ⟨none, .store 13 (.t 5) (.t 9), none, none⟩]
def f43r1 : IC := .reg false [] f43o1 [5, 1, 0]
@[simp] theorem f43r1_run : run tbl fin K f43r1 e H = regK tbl fin K [] f43o1 [5, 1, 0] e H := run_regK _ _ _ _ _ _ _ _ _ rfl
@[simp] def f43o2 : List IOper := [
  ⟨(some 10), .fld 0 (.t 5), none, none⟩,
  ⟨(some 11), .load false 1 (.t 10), none, none⟩,
  ⟨(some 12), .call (.c (.fn 72 [])) [(.t 11)], none, none⟩,
  ⟨(some 13), .un .not (.t 12), none, none⟩,
  ⟨(some 14), .mv (.t 13), none, none⟩,
  ⟨(some 15), .fld 2 (.t 5), (some (14, false)), none⟩,
  ⟨(some 16), .load false 1 (.t 15), (some (14, false)), none⟩,
  ⟨(some 17), .call (.c (.fn 72 [])) [(.t 16)], (some (14, false)), some [17, 14, 5, 1, 0]⟩,
  ⟨(some 18), .un .not (.t 17), (some (14, false)), none⟩,
  ⟨(some 19), .pick (.t 14) (.c (.bool true)) (.t 18), none, none⟩,
  ⟨(some 20), .mv (.t 19), none, none⟩,
  ⟨(some 21), .fld 3 (.t 5), (some (20, false)), none⟩,
  ⟨(some 22), .load false 1 (.t 21), (some (20, false)), none⟩,
  ⟨(some 23), .call (.c (.fn 72 [])) [(.t 22)], (some (20, false)), none⟩,
  ⟨(some 24), .un .not (.t 23), (some (20, false)), none⟩,
  ⟨(some 25), .pick (.t 20) (.c (.bool true)) (.t 24), none, some [25, 5, 1, 0]⟩,
  ⟨(some 26), .mv (.t 25), none, none⟩,
  ⟨(some 27), .fld 4 (.t 5), (some (26, false)), none⟩,
  ⟨(some 28), .load false 1 (.t 27), (some (26, false)), none⟩,
  ⟨(some 29), .bin .lss (.t 28) (.c (.int .i64 1)), (some (26, false)), none⟩,
  ⟨(some 30), .pick (.t 26) (.c (.bool true)) (.t 29), none, none⟩,
  ⟨(some 31), .mv (.t 30), none, none⟩,
  ⟨(some 32), .fld 4 (.t 5), (some (31, false)), none⟩,
  ⟨(some 33), .load false 1 (.t 32), (some (31, false)), some [33, 31, 5, 1, 0]⟩,
  ⟨(some 34), .bin .gtr (.t 33) (.c (.int .i64 3)), (some (31, false)), none⟩,
  ⟨(some 35), .pick (.t 31) (.c (.bool true)) (.t 34), none, none⟩,
  ⟨(some 36), .mv (.t 35), none, none⟩,
  ⟨(some 37), .fld 7 (.t 5), (some (36, false)), none⟩,
  ⟨(some 38), .load false 1 (.t 37), (some (36, false)), none⟩,
  ⟨(some 39), .bin .lss (.t 38) (.c (.int .i64 0)), (some (36, false)), none⟩,
  ⟨(some 40), .pick (.t 36) (.c (.bool true)) (.t 39), none, none⟩,
  ⟨(some 41), .mv (.t 40), none, some [41, 5, 1, 0]⟩,
  ⟨(some 42), .fld 7 (.t 5), (some (41, false)), none⟩,
  ⟨(some 43), .load false 1 (.t 42), (some (41, false)), none⟩,
  ⟨(some 44), .bin .gtr (.t 43) (.c (.int .i64 1073741824)), (some (41, false)), none⟩,
  ⟨(some 45), .pick (.t 41) (.c (.bool true)) (.t 44), none, none⟩]
def f43r2 : IC := .reg false [] f43o2 [45, 5, 1, 0]
@[simp] theorem f43r2_run : run tbl fin K f43r2 e H = regK tbl fin K [] f43o2 [45, 5, 1, 0] e H := run_regK _ _ _ _ _ _ _ _ _ rfl
@[simp] def f43o3 : List IOper := [
  ⟨(some 4), .mv (.c (.int .i64 1)), none, none⟩]
def f43r3 : IC := .reg false [] f43o3 [4]
@[simp] theorem f43r3_run : run tbl fin K f43r3 e H = regK tbl fin K [] f43o3 [4] e H := run_regK _ _ _ _ _ _ _ _ _ rfl
@[simp] def f43o4 : List IOper := [
  ⟨(some 46), .mv (.t 1), none, none⟩,
  ⟨(some 47), .bin .gtr (.t 46) (.c (.int .i64 0)), none, none⟩,
  ⟨(some 48), .mv (.t 47), none, none⟩,
  ⟨(some 49), .fld 0 (.t 5), (some (48, true)), none⟩,
  ⟨(some 50), .load false 1 (.t 49), (some (48, true)), none⟩,
  ⟨(some 51), .mv (.t 0), (some (48, true)), none⟩,
  ⟨(some 52), .mv (.t 1), (some (48, true)), none⟩,
  ⟨(some 53), .bin .sub (.t 52) (.c (.int .i64 1)), (some (48, true)), none⟩,
  ⟨(some 54), .idx 13 (.t 51) (.t 53), (some (48, true)), none⟩,
  ⟨(some 55), .fld 0 (.t 54), (some (48, true)), none⟩,
  ⟨(some 56), .load false 1 (.t 55), (some (48, true)), none⟩,
  ⟨(some 57), .bin .leq (.t 50) (.t 56), (some (48, true)), none⟩,
  ⟨(some 58), .pick (.t 48) (.t 57) (.c (.bool false)), none, none⟩]
def f43r4 : IC := .reg true [] f43o4 [58, 5]
@[simp] theorem f43r4_run : run tbl fin K f43r4 e H = regK tbl fin K [] f43o4 [58, 5] e H := run_regK _ _ _ _ _ _ _ _ _ rfl
@[simp] def f43o5 : List IOper := [
  ⟨(some 4), .mv (.c (.int .i64 25)), none, none⟩]
def f43r5 : IC := .reg false [] f43o5 [4]
@[simp] theorem f43r5_run : run tbl fin K f43r5 e H = regK tbl fin K [] f43o5 [4] e H := run_regK _ _ _ _ _ _ _ _ _ rfl
@[simp] def f43o6 : List IOper := [
  ⟨(some 59), .load true 13 (.t 5), none, none⟩,
  ⟨(some 60), .call (.c (.fn 83 [])) [(.t 59)], none, none⟩,
  ⟨(some 61), .un .not (.t 60), none, none⟩,
  ⟨(some 62), .mv (.t 61), none, none⟩,
  ⟨(some 63), .fld 4 (.t 5), (some (62, false)), none⟩,
  ⟨(some 64), .load false 1 (.t 63), (some (62, false)), none⟩,
  ⟨(some 65), .bin .eql (.t 64) (.c (.int .i64 3)), (some (62, false)), none⟩,
  ⟨(some 66), .mv (.t 65), (some (62, false)), some [66, 62, 5]⟩,
  ⟨(some 67), .load true 13 (.t 5), (some (66, true)), none⟩,
  ⟨(some 68), .call (.c (.fn 84 [])) [(.t 67)], (some (66, true)), none⟩,
  ⟨(some 69), .un .not (.t 68), (some (66, true)), none⟩,
  ⟨(some 70), .pick (.t 66) (.t 69) (.c (.bool false)), (some (62, false)), none⟩,
  ⟨(some 71), .pick (.t 62) (.c (.bool true)) (.t 70), none, none⟩]
def f43r6 : IC := .reg false [] f43o6 [71, 5]
@[simp] theorem f43r6_run : run tbl fin K f43r6 e H = regK tbl fin K [] f43o6 [71, 5] e H := run_regK _ _ _ _ _ _ _ _ _ rfl
@[simp] def f43o7 : List IOper := [
  ⟨(some 4), .mv (.c (.int .i64 1)), none, none⟩]
def f43r7 : IC := .reg false [] f43o7 [4]
@[simp] theorem f43r7_run : run tbl fin K f43r7 e H = regK tbl fin K [] f43o7 [4] e H := run_regK _ _ _ _ _ _ _ _ _ rfl
@[simp] def f43o8 : List IOper := [
  ⟨(some 72), .fld 8 (.t 5), none, none⟩,
  ⟨(some 73), .load true 3 (.t 72), none, none⟩,
  ⟨(some 74), .call (.c (.fn 85 [])) [(.t 73)], none, none⟩,
  ⟨(some 4), .mv (.t 74), none, none⟩]
def f43r8 : IC := .reg false [] f43o8 [4]
@[simp] theorem f43r8_run : run tbl fin K f43r8 e H = regK tbl fin K [] f43o8 [4] e H := run_regK _ _ _ _ _ _ _ _ _ rfl
def f43body : IC := (.seq f43r0 (.seq f43r1 (.seq (.seq f43r2 (.cond (.t 45) (.seq f43r3 .ret) .skip)) (.seq (.seq f43r4 (.cond (.t 58) (.seq f43r5 .ret) .skip)) (.seq (.seq f43r6 (.cond (.t 71) (.seq f43r7 .ret) .skip)) (.seq f43r8 .ret))))))
def f43 : IFn := ⟨75, 2, [.tmp 4], f43body⟩
/- 44: jobshell/jobshellref27.related -/
@[simp] def f44o0 : List IOper := [
  ⟨(some 4), .mv (.c (.int .i64 0)), none, none⟩]
def f44r0 : IC := .reg false [] f44o0 [1, 0]
@[simp] theorem f44r0_run : run tbl fin K f44r0 e H = regK tbl fin K [] f44o0 [1, 0] e H := run_regK _ _ _ _ _ _ _ _ _ rfl
@[simp] def f44o1 : List IOper := [
  ⟨(some 9), .mv (.t 0), none, none⟩,
  ⟨(some 10), .mv (.t 1), none, none⟩,
  ⟨(some 11), .idx 13 (.t 9) (.t 10), none, none⟩,
  ⟨(some 12), .load true 13 (.t 11), none, none⟩,
  ⟨(some 5), .new 30 13 (.agg [(.int .i64 0), (.int .i64 0), (.int .i64 0), (.int .i64 0), (.int .i64 0), (.int .i64 0), (.bool false), (.int .i64 0), .e0, .e0, .e0, .e0, (.str [])]), none, none⟩,
  ⟨none, .store 13 (.t 5) (.t 12), none, none⟩]
def f44r1 : IC := .reg false [] f44o1 [1, 5, 0]
@[simp] theorem f44r1_run : run tbl fin K f44r1 e H = regK tbl fin K [] f44o1 [1, 5, 0] e H := run_regK _ _ _ _ _ _ _ _ _ rfl
@[simp] def f44o2 : List IOper := [
  ⟨(some 13), .mv (.t 1), none, none⟩,
  ⟨(some 14), .bin .eql (.t 13) (.c (.int .i64 0)), none, none⟩,
  ⟨(some 6), .mv (.t 14), none, none⟩]
def f44r2 : IC := .reg false [] f44o2 [6, 1, 5, 0]
@[simp] theorem f44r2_run : run tbl fin K f44r2 e H = regK tbl fin K [] f44o2 [6, 1, 5, 0] e H := run_regK _ _ _ _ _ _ _ _ _ rfl
@[simp] def f44o3 : List IOper := [
  ⟨(some 7), .mv (.c (.int .i64 0)), none, none⟩]
def f44r3 : IC := .reg false [] f44o3 [6, 7, 1, 5, 0]
@[simp] theorem f44r3_run : run tbl fin K f44r3 e H = regK tbl fin K [] f44o3 [6, 7, 1, 5, 0] e H := run_regK _ _ _ _ _ _ _ _ _ rfl
@[simp] def f44o4 : List IOper := [
  ⟨(some 15), .mv (.t 7), none, none⟩,
  ⟨(some 16), .mv (.t 0), none, none⟩,
  ⟨(some 17), .len (.t 16), none, none⟩,
  ⟨(some 18), .bin .lss (.t 15) (.t 17), none, none⟩]
def f44r4 : IC := .reg false [] f44o4 [18, 6, 7, 1, 5, 0]
@[simp] theorem f44r4_run : run tbl fin K f44r4 e H = regK tbl fin K [] f44o4 [18, 6, 7, 1, 5, 0] e H := run_regK _ _ _ _ _ _ _ _ _ rfl
@[simp] def f44o5 : List IOper := [
  ⟨(some 21), .mv (.t 7), none, none⟩,
  ⟨(some 22), .mv (.t 1), none, none⟩,
  ⟨(some 23), .bin .neq (.t 21) (.t 22), none, none⟩,
  ⟨(some 24), .mv (.t 23), none, none⟩,
  ⟨(some 25), .mv (.t 0), (some (24, true)), none⟩,
  ⟨(some 26), .mv (.t 7), (some (24, true)), none⟩,
  ⟨(some 27), .idx 13 (.t 25) (.t 26), (some (24, true)), none⟩,
  ⟨(some 28), .fld 0 (.t 27), (some (24, true)), none⟩,
  ⟨(some 29), .load false 1 (.t 28), (some (24, true)), none⟩,
  ⟨(some 30), .fld 1 (.t 5), (some (24, true)), none⟩,
  ⟨(some 31), .load false 1 (.t 30), (some (24, true)), none⟩,
  ⟨(some 32), .bin .eql (.t 29) (.t 31), (some (24, true)), none⟩,
  ⟨(some 33), .pick (.t 24) (.t 32) (.c (.bool false)), none, none⟩,
  ⟨(some 34), .mv (.t 33), none, none⟩,
  ⟨(some 35), .mv (.t 0), (some (34, true)), none⟩,
  ⟨(some 36), .mv (.t 7), (some (34, true)), none⟩,
  ⟨(some 37), .idx 13 (.t 35) (.t 36), (some (34, true)), none⟩,
  ⟨(some 38), .fld 4 (.t 37), (some (34, true)), none⟩,
  ⟨(some 39), .load false 1 (.t 38), (some (34, true)), none⟩,
  ⟨(some 40), .bin .neq (.t 39) (.c (.int .i64 3)), (some (34, true)), none⟩,
  ⟨(some 41), .pick (.t 34) (.t 40) (.c (.bool false)), none, none⟩]
def f44r5 : IC := .reg true [] f44o5 [41, 6, 7, 1, 5, 0]
@[simp] theorem f44r5_run : run tbl fin K f44r5 e H = regK tbl fin K [] f44o5 [41, 6, 7, 1, 5, 0] e H := run_regK _ _ _ _ _ _ _ _ _ rfl
@[simp] def f44o6 : List IOper := [
  ⟨(some 6), .mv (.c (.bool true)), none, none⟩]
def f44r6 : IC := .reg false [] f44o6 [7, 6, 1, 5, 0]
@[simp] theorem f44r6_run : run tbl fin K f44r6 e H = regK tbl fin K [] f44o6 [7, 6, 1, 5, 0] e H := run_regK _ _ _ _ _ _ _ _ _ rfl
@[simp] def f44o7 : List IOper := [
  ⟨(some 19), .mv (.t 7), none, none⟩,
  ⟨(some 20), .bin .add (.t 19) (.c (.int .i64 1)), none, none⟩,
  ⟨(some 7), .mv (.t 20), none, none⟩]
def f44r7 : IC := .reg false [] f44o7 [6, 7, 1, 5, 0]
@[simp] theorem f44r7_run : run tbl fin K f44r7 e H = regK tbl fin K [] f44o7 [6, 7, 1, 5, 0] e H := run_regK _ _ _ _ _ _ _ _ _ rfl
def f44b8 : IC := (.seq (.seq f44r4 (.cond (.t 18) .skip (.exit 0))) (.seq (.block 1 (.seq f44r5 (.cond (.t 41) f44r6 .skip))) f44r7))
theorem f44b8_eq : f44b8 = (.seq (.seq f44r4 (.cond (.t 18) .skip (.exit 0))) (.seq (.block 1 (.seq f44r5 (.cond (.t 41) f44r6 .skip))) f44r7)) := rfl
@[simp] def f44o9 : List IOper := [
  ⟨(some 42), .mv (.t 6), none, none⟩,
  ⟨(some 43), .un .not (.t 42), none, none⟩]
def f44r9 : IC := .reg false [] f44o9 [43, 5, 0]
@[simp] theorem f44r9_run : run tbl fin K f44r9 e H = regK tbl fin K [] f44o9 [43, 5, 0] e H := run_regK _ _ _ _ _ _ _ _ _ rfl
@[simp] def f44o10 : List IOper := [
  ⟨(some 4), .mv (.c (.int .i64 21)), none, none⟩]
def f44r10 : IC := .reg false [] f44o10 [4]
@[simp] theorem f44r10_run : run tbl fin K f44r10 e H = regK tbl fin K [] f44o10 [4] e H := run_regK _ _ _ _ _ _ _ _ _ rfl
@[simp] def f44o11 : List IOper := [
  ⟨(some 8), .mv (.c (.int .i64 0)), none, none⟩]
def f44r11 : IC := .reg false [] f44o11 [0, 5, 8]
@[simp] theorem f44r11_run : run tbl fin K f44r11 e H = regK tbl fin K [] f44o11 [0, 5, 8] e H := run_regK _ _ _ _ _ _ _ _ _ rfl
@[simp] def f44o12 : List IOper := [
  ⟨(some 44), .mv (.t 8), none, none⟩,
  ⟨(some 45), .mv (.t 0), none, none⟩,
  ⟨(some 46), .len (.t 45), none, none⟩,
  ⟨(some 47), .bin .lss (.t 44) (.t 46), none, none⟩]
def f44r12 : IC := .reg false [] f44o12 [47, 5, 0, 8]
@[simp] theorem f44r12_run : run tbl fin K f44r12 e H = regK tbl fin K [] f44o12 [47, 5, 0, 8] e H := run_regK _ _ _ _ _ _ _ _ _ rfl
@[simp] def f44o13 : List IOper := [
  ⟨(some 50), .mv (.t 0), none, none⟩,
  ⟨(some 51), .mv (.t 8), none, none⟩,
  ⟨(some 52), .idx 13 (.t 50) (.t 51), none, none⟩,
  ⟨(some 53), .fld 2 (.t 52), none, none⟩,
  ⟨(some 54), .load false 1 (.t 53), none, none⟩,
  ⟨(some 55), .fld 2 (.t 5), none, none⟩,
  ⟨(some 56), .load false 1 (.t 55), none, none⟩,
  ⟨(some 57), .bin .eql (.t 54) (.t 56), none, none⟩,
  ⟨(some 58), .mv (.t 57), none, none⟩,
  ⟨(some 59), .mv (.t 0), (some (58, true)), none⟩,
  ⟨(some 60), .mv (.t 8), (some (58, true)), none⟩,
  ⟨(some 61), .idx 13 (.t 59) (.t 60), (some (58, true)), none⟩,
  ⟨(some 62), .fld 3 (.t 61), (some (58, true)), none⟩,
  ⟨(some 63), .load false 1 (.t 62), (some (58, true)), none⟩,
  ⟨(some 64), .fld 3 (.t 5), (some (58, true)), none⟩,
  ⟨(some 65), .load false 1 (.t 64), (some (58, true)), none⟩,
  ⟨(some 66), .bin .neq (.t 63) (.t 65), (some (58, true)), none⟩,
  ⟨(some 67), .pick (.t 58) (.t 66) (.c (.bool false)), none, none⟩]
def f44r13 : IC := .reg true [] f44o13 [67, 5, 0, 8]
@[simp] theorem f44r13_run : run tbl fin K f44r13 e H = regK tbl fin K [] f44o13 [67, 5, 0, 8] e H := run_regK _ _ _ _ _ _ _ _ _ rfl
@[simp] def f44o14 : List IOper := [
  ⟨(some 4), .mv (.c (.int .i64 23)), none, none⟩]
def f44r14 : IC := .reg false [] f44o14 [4]
@[simp] theorem f44r14_run : run tbl fin K f44r14 e H = regK tbl fin K [] f44o14 [4] e H := run_regK _ _ _ _ _ _ _ _ _ rfl
@[simp] def f44o15 : List IOper := [
  ⟨(some 48), .mv (.t 8), none, none⟩,
  ⟨(some 49), .bin .add (.t 48) (.c (.int .i64 1)), none, none⟩,
  ⟨(some 8), .mv (.t 49), none, none⟩]
def f44r15 : IC := .reg false [] f44o15 [0, 5, 8]
@[simp] theorem f44r15_run : run tbl fin K f44r15 e H = regK tbl fin K [] f44o15 [0, 5, 8] e H := run_regK _ _ _ _ _ _ _ _ _ rfl
def f44b16 : IC := (.seq (.seq f44r12 (.cond (.t 47) .skip (.exit 2))) (.seq (.block 3 (.seq f44r13 (.cond (.t 67) (.seq f44r14 .ret) .skip))) f44r15))
theorem f44b16_eq : f44b16 = (.seq (.seq f44r12 (.cond (.t 47) .skip (.exit 2))) (.seq (.block 3 (.seq f44r13 (.cond (.t 67) (.seq f44r14 .ret) .skip))) f44r15)) := rfl
@[simp] def f44o17 : List IOper := [
  ⟨(some 4), .mv (.c (.int .i64 0)), none, none⟩]
def f44r17 : IC := .reg false [] f44o17 [4]
@[simp] theorem f44r17_run : run tbl fin K f44r17 e H = regK tbl fin K [] f44o17 [4] e H := run_regK _ _ _ _ _ _ _ _ _ rfl
def f44body : IC := (.seq f44r0 (.seq f44r1 (.seq f44r2 (.seq (.seq f44r3 (.block 0 (.loop [6, 7, 1, 5, 0] f44b8))) (.seq (.seq f44r9 (.cond (.t 43) (.seq f44r10 .ret) .skip)) (.seq (.seq f44r11 (.block 2 (.loop [0, 5, 8] f44b16))) (.seq f44r17 .ret)))))))
def f44 : IFn := ⟨68, 2, [.tmp 4], f44body⟩
/- 45: jobshell/jobshellref25.Same -/
@[simp] def f45o0 : List IOper := [
  ⟨(some 2), .box 27 3 (.t 0), none, none⟩,
  ⟨(some 3), .box 27 3 (.t 1), none, none⟩,
  ⟨(some 4), .mv (.c (.bool false)), none, none⟩]
def f45r0 : IC := .reg false [] f45o0 [2, 3]
@[simp] theorem f45r0_run : run tbl fin K f45r0 e H = regK tbl fin K [] f45o0 [2, 3] e H := run_regK _ _ _ _ _ _ _ _ _ rfl
@[simp] def f45o1 : List IOper := [
  ⟨(some 5), .fld 0 (.t 2), none, none⟩,
  ⟨(some 6), .load false 1 (.t 5), none, none⟩,
  ⟨(some 7), .fld 0 (.t 3), none, none⟩,
  ⟨(some 8), .load false 1 (.t 7), none, none⟩,
  ⟨(some 9), .call (.c (.fn 86 [])) [(.t 6), (.t 8)], none, none⟩,
  ⟨(some 10), .mv (.t 9), none, none⟩,
  ⟨(some 11), .fld 1 (.t 2), (some (10, true)), none⟩,
  ⟨(some 12), .load false 1 (.t 11), (some (10, true)), some [12, 10, 2, 3]⟩,
  ⟨(some 13), .fld 1 (.t 3), (some (10, true)), none⟩,
  ⟨(some 14), .load false 1 (.t 13), (some (10, true)), none⟩,
  ⟨(some 15), .call (.c (.fn 86 [])) [(.t 12), (.t 14)], (some (10, true)), none⟩,
  ⟨(some 16), .pick (.t 10) (.t 15) (.c (.bool false)), none, none⟩,
  ⟨(some 17), .mv (.t 16), none, none⟩,
  ⟨(some 18), .fld 2 (.t 2), (some (17, true)), none⟩,
  ⟨(some 19), .load false 1 (.t 18), (some (17, true)), none⟩,
  ⟨(some 20), .fld 2 (.t 3), (some (17, true)), some [20, 19, 17]⟩,
  ⟨(some 21), .load false 1 (.t 20), (some (17, true)), none⟩,
  ⟨(some 22), .call (.c (.fn 86 [])) [(.t 19), (.t 21)], (some (17, true)), none⟩,
  ⟨(some 23), .pick (.t 17) (.t 22) (.c (.bool false)), none, none⟩,
  ⟨(some 4), .mv (.t 23), none, none⟩]
def f45r1 : IC := .reg false [] f45o1 [4]
@[simp] theorem f45r1_run : run tbl fin K f45r1 e H = regK tbl fin K [] f45o1 [4] e H := run_regK _ _ _ _ _ _ _ _ _ rfl
def f45body : IC := (.seq f45r0 (.seq f45r1 .ret))
def f45 : IFn := ⟨24, 2, [.tmp 4], f45body⟩
/- 46: jobshell/jobshellref23.Same -/
@[simp] def f46o0 : List IOper := [
  ⟨(some 4), .mv (.c (.bool false)), none, none⟩]
def f46r0 : IC := .reg false [] f46o0 [1, 0]
@[simp] theorem f46r0_run : run tbl fin K f46r0 e H = regK tbl fin K [] f46o0 [1, 0] e H := run_regK _ _ _ _ _ _ _ _ _ rfl
@[simp] def f46o1 : List IOper := [
  ⟨(some 6), .mv (.t 0), none, none⟩,
  ⟨(some 7), .len (.t 6), none, none⟩,
  ⟨(some 8), .mv (.t 1), none, none⟩,
  ⟨(some 9), .len (.t 8), none, none⟩,
  ⟨(some 10), .bin .neq (.t 7) (.t 9), none, none⟩]
def f46r1 : IC := .reg false [] f46o1 [10, 1, 0]
@[simp] theorem f46r1_run : run tbl fin K f46r1 e H = regK tbl fin K [] f46o1 [10, 1, 0] e H := run_regK _ _ _ _ _ _ _ _ _ rfl
@[simp] def f46o2 : List IOper := [
  ⟨(some 4), .mv (.c (.bool false)), none, none⟩]
def f46r2 : IC := .reg false [] f46o2 [4]
@[simp] theorem f46r2_run : run tbl fin K f46r2 e H = regK tbl fin K [] f46o2 [4] e H := run_regK _ _ _ _ _ _ _ _ _ rfl
@[simp] def f46o3 : List IOper := [
  ⟨(some 5), .mv (.c (.int .i64 0)), none, none⟩]
def f46r3 : IC := .reg false [] f46o3 [0, 1, 5]
@[simp] theorem f46r3_run : run tbl fin K f46r3 e H = regK tbl fin K [] f46o3 [0, 1, 5] e H := run_regK _ _ _ _ _ _ _ _ _ rfl
@[simp] def f46o4 : List IOper := [
  ⟨(some 11), .mv (.t 5), none, none⟩,
  ⟨(some 12), .mv (.t 0), none, none⟩,
  ⟨(some 13), .len (.t 12), none, none⟩,
  ⟨(some 14), .bin .lss (.t 11) (.t 13), none, none⟩]
def f46r4 : IC := .reg false [] f46o4 [14, 1, 0, 5]
@[simp] theorem f46r4_run : run tbl fin K f46r4 e H = regK tbl fin K [] f46o4 [14, 1, 0, 5] e H := run_regK _ _ _ _ _ _ _ _ _ rfl
@[simp] def f46o5 : List IOper := [
  ⟨(some 17), .mv (.t 0), none, none⟩,
  ⟨(some 18), .mv (.t 5), none, none⟩,
  ⟨(some 19), .idx 3 (.t 17) (.t 18), none, none⟩,
  ⟨(some 20), .load true 3 (.t 19), none, none⟩,
  ⟨(some 21), .mv (.t 1), none, none⟩,
  ⟨(some 22), .mv (.t 5), none, none⟩,
  ⟨(some 23), .idx 3 (.t 21) (.t 22), none, none⟩,
  ⟨(some 24), .load true 3 (.t 23), none, none⟩,
  ⟨(some 25), .aeq true [.i, .i, .b] (.t 20) (.t 24), none, none⟩]
def f46r5 : IC := .reg true [] f46o5 [25, 1, 0, 5]
@[simp] theorem f46r5_run : run tbl fin K f46r5 e H = regK tbl fin K [] f46o5 [25, 1, 0, 5] e H := run_regK _ _ _ _ _ _ _ _ _ rfl
@[simp] def f46o6 : List IOper := [
  ⟨(some 4), .mv (.c (.bool false)), none, none⟩]
def f46r6 : IC := .reg false [] f46o6 [4]
@[simp] theorem f46r6_run : run tbl fin K f46r6 e H = regK tbl fin K [] f46o6 [4] e H := run_regK _ _ _ _ _ _ _ _ _ rfl
@[simp] def f46o7 : List IOper := [
  ⟨(some 15), .mv (.t 5), none, none⟩,
  ⟨(some 16), .bin .add (.t 15) (.c (.int .i64 1)), none, none⟩,
  ⟨(some 5), .mv (.t 16), none, none⟩]
def f46r7 : IC := .reg false [] f46o7 [0, 1, 5]
@[simp] theorem f46r7_run : run tbl fin K f46r7 e H = regK tbl fin K [] f46o7 [0, 1, 5] e H := run_regK _ _ _ _ _ _ _ _ _ rfl
def f46b8 : IC := (.seq (.seq f46r4 (.cond (.t 14) .skip (.exit 0))) (.seq (.block 1 (.seq f46r5 (.cond (.t 25) (.seq f46r6 .ret) .skip))) f46r7))
theorem f46b8_eq : f46b8 = (.seq (.seq f46r4 (.cond (.t 14) .skip (.exit 0))) (.seq (.block 1 (.seq f46r5 (.cond (.t 25) (.seq f46r6 .ret) .skip))) f46r7)) := rfl
@[simp] def f46o9 : List IOper := [
  ⟨(some 4), .mv (.c (.bool true)), none, none⟩]
def f46r9 : IC := .reg false [] f46o9 [4]
@[simp] theorem f46r9_run : run tbl fin K f46r9 e H = regK tbl fin K [] f46o9 [4] e H := run_regK _ _ _ _ _ _ _ _ _ rfl
def f46body : IC := (.seq f46r0 (.seq (.seq f46r1 (.cond (.t 10) (.seq f46r2 .ret) .skip)) (.seq (.seq f46r3 (.block 0 (.loop [0, 1, 5] f46b8))) (.seq f46r9 .ret))))
def f46 : IFn := ⟨26, 2, [.tmp 4], f46body⟩
/- 47: jobshell/proc.live -/
@[simp] def f47o0 : List IOper := [
  ⟨(some 3), .box 3 1 (.t 1), none, none⟩,
  ⟨(some 4), .mv (.c (.int .i64 0)), none, none⟩]
def f47r0 : IC := .reg false [] f47o0 [0, 3]
@[simp] theorem f47r0_run : run tbl fin K f47r0 e H = regK tbl fin K [] f47o0 [0, 3] e H := run_regK _ _ _ _ _ _ _ _ _ rfl
@[simp] def f47o1 : List IOper := [
  ⟨(some 5), .mv (.t 0), none, none⟩,
  ⟨(some 6), .mkfn 87 [(.t 3)], none, none⟩,
  ⟨(some 7), .ocall (.c (.fn 52 [])) [(.t 5), (.t 6)], none, none⟩,
  ⟨(some 4), .mv (.t 7), none, none⟩]
def f47r1 : IC := .reg false [] f47o1 [4]
@[simp] theorem f47r1_run : run tbl fin K f47r1 e H = regK tbl fin K [] f47o1 [4] e H := run_regK _ _ _ _ _ _ _ _ _ rfl
def f47body : IC := (.seq f47r0 (.seq f47r1 .ret))
def f47 : IFn := ⟨8, 2, [.tmp 4], f47body⟩
/- 48: jobshell/proc.selected[jobshell/api.Proc] -/
@[simp] def f48o0 : List IOper := [
  ⟨(some 4), .nilrow 30 13, none, none⟩]
def f48r0 : IC := .reg false [] f48o0 [0, 1]
@[simp] theorem f48r0_run : run tbl fin K f48r0 e H = regK tbl fin K [] f48o0 [0, 1] e H := run_regK _ _ _ _ _ _ _ _ _ rfl
@[simp] def f48o1 : List IOper := [
  ⟨(some 5), .nilrow 30 13, none, none⟩]
def f48r1 : IC := .reg false [] f48o1 [0, 5, 1]
@[simp] theorem f48r1_run : run tbl fin K f48r1 e H = regK tbl fin K [] f48o1 [0, 5, 1] e H := run_regK _ _ _ _ _ _ _ _ _ rfl
@[simp] def f48o2 : List IOper := [
  ⟨(some 8), .mv (.t 0), none, none⟩,
  ⟨(some 9), .len (.t 8), none, none⟩,
  ⟨(some 10), .mv (.c (.int .i64 0)), none, none⟩]
def f48r2 : IC := .reg false [] f48o2 [5, 10, 9, 8, 1]
@[simp] theorem f48r2_run : run tbl fin K f48r2 e H = regK tbl fin K [] f48o2 [5, 10, 9, 8, 1] e H := run_regK _ _ _ _ _ _ _ _ _ rfl
@[simp] def f48o3 : List IOper := [
  ⟨(some 11), .bin .lss (.t 10) (.t 9), none, none⟩]
def f48r3 : IC := .reg false [] f48o3 [11, 5, 10, 9, 8, 1]
@[simp] theorem f48r3_run : run tbl fin K f48r3 e H = regK tbl fin K [] f48o3 [11, 5, 10, 9, 8, 1] e H := run_regK _ _ _ _ _ _ _ _ _ rfl
@[simp] def f48o4 : List IOper := [
  ⟨(some 12), .idx 13 (.t 8) (.t 10), none, none⟩,
  ⟨(some 13), .load true 13 (.t 12), none, none⟩,
  ⟨(some 7), .new 30 13 (.agg [(.int .i64 0), (.int .i64 0), (.int .i64 0), (.int .i64 0), (.int .i64 0), (.int .i64 0), (.bool false), (.int .i64 0), .e0, .e0, .e0, .e0, (.str [])]), none, none⟩,
  ⟨none, .store 13 (.t 7) (.t 13), none, none⟩]
def f48r4 : IC := .reg false [] f48o4 [5, 7, 10, 9, 8, 1]
@[simp] theorem f48r4_run : run tbl fin K f48r4 e H = regK tbl fin K [] f48o4 [5, 7, 10, 9, 8, 1] e H := run_regK _ _ _ _ _ _ _ _ _ rfl
@[simp] def f48o5 : List IOper := [
  ⟨(some 14), .mv (.t 1), none, none⟩,
  ⟨(some 15), .load true 13 (.t 7), none, none⟩,
  ⟨(some 16), .ocall (.t 14) [(.t 15)], none, none⟩]
def f48r5 : IC := .reg false [] f48o5 [16, 5, 7, 10, 9, 8, 1]
@[simp] theorem f48r5_run : run tbl fin K f48r5 e H = regK tbl fin K [] f48o5 [16, 5, 7, 10, 9, 8, 1] e H := run_regK _ _ _ _ _ _ _ _ _ rfl
@[simp] def f48o6 : List IOper := [
  ⟨(some 17), .mv (.t 5), none, none⟩,
  ⟨(some 18), .load true 13 (.t 7), none, none⟩,
  ⟨(some 19), .mkimm 13 1 (.agg [(.int .i64 0), (.int .i64 0), (.int .i64 0), (.int .i64 0), (.int .i64 0), (.int .i64 0), (.bool false), (.int .i64 0), .e0, .e0, .e0, .e0, (.str [])]) [(0, (.t 18))], none, none⟩,
  ⟨(some 20), .app 30 13 (.t 17) (.t 19), none, none⟩,
  ⟨(some 5), .mv (.t 20), none, none⟩]
def f48r6 : IC := .reg false [] f48o6 [10, 5, 9, 8, 1]
@[simp] theorem f48r6_run : run tbl fin K f48r6 e H = regK tbl fin K [] f48o6 [10, 5, 9, 8, 1] e H := run_regK _ _ _ _ _ _ _ _ _ rfl
@[simp] def f48o7 : List IOper := [
  ⟨(some 21), .bin .add (.t 10) (.c (.int .i64 1)), none, none⟩,
  ⟨(some 10), .mv (.t 21), none, none⟩]
def f48r7 : IC := .reg false [] f48o7 [5, 10, 9, 8, 1]
@[simp] theorem f48r7_run : run tbl fin K f48r7 e H = regK tbl fin K [] f48o7 [5, 10, 9, 8, 1] e H := run_regK _ _ _ _ _ _ _ _ _ rfl
def f48b8 : IC := (.seq f48r3 (.seq (.cond (.t 11) .skip (.exit 0)) (.seq (.block 1 (.seq f48r4 (.seq f48r5 (.cond (.t 16) f48r6 .skip)))) f48r7)))
theorem f48b8_eq : f48b8 = (.seq f48r3 (.seq (.cond (.t 11) .skip (.exit 0)) (.seq (.block 1 (.seq f48r4 (.seq f48r5 (.cond (.t 16) f48r6 .skip)))) f48r7))) := rfl
@[simp] def f48o9 : List IOper := [
  ⟨(some 22), .mv (.t 5), none, none⟩,
  ⟨(some 4), .mv (.t 22), none, none⟩]
def f48r9 : IC := .reg false [] f48o9 [4]
@[simp] theorem f48r9_run : run tbl fin K f48r9 e H = regK tbl fin K [] f48o9 [4] e H := run_regK _ _ _ _ _ _ _ _ _ rfl
def f48body : IC := (.seq f48r0 (.seq f48r1 (.seq (.seq f48r2 (.block 0 (.loop [5, 10, 9, 8, 1] f48b8))) (.seq f48r9 .ret))))
def f48 : IFn := ⟨23, 2, [.tmp 4], f48body⟩
/- 49: jobshell/proc.Wait$1 -/
@[simp] def f49o0 : List IOper := [
  ⟨(some 3), .box 30 13 (.t 0), none, none⟩,
  ⟨(some 4), .mv (.c (.bool false)), none, none⟩]
def f49r0 : IC := .reg false [] f49o0 [1, 3, 2]
@[simp] theorem f49r0_run : run tbl fin K f49r0 e H = regK tbl fin K [] f49o0 [1, 3, 2] e H := run_regK _ _ _ _ _ _ _ _ _ rfl
@[simp] def f49o1 : List IOper := [
  ⟨(some 5), .fld 1 (.t 3), none, none⟩,
  ⟨(some 6), .load false 1 (.t 5), none, none⟩,
  ⟨(some 7), .load false 1 (.t 1), none, none⟩,
  ⟨(some 8), .bin .eql (.t 6) (.t 7), none, none⟩,
  ⟨(some 9), .mv (.t 8), none, none⟩,
  ⟨(some 10), .load false 1 (.t 2), (some (9, true)), none⟩,
  ⟨(some 11), .bin .eql (.t 10) (.c (.int .i64 0)), (some (9, true)), none⟩,
  ⟨(some 12), .mv (.t 11), (some (9, true)), some [12, 3, 2, 9]⟩,
  ⟨(some 13), .load false 1 (.t 2), (some (12, false)), none⟩,
  ⟨(some 14), .bin .gtr (.t 13) (.c (.int .i64 0)), (some (12, false)), none⟩,
  ⟨(some 15), .mv (.t 14), (some (12, false)), none⟩,
  ⟨(some 16), .fld 0 (.t 3), (some (15, true)), none⟩,
  ⟨(some 17), .load false 1 (.t 16), (some (15, true)), none⟩,
  ⟨(some 18), .load false 1 (.t 2), (some (15, true)), none⟩,
  ⟨(some 19), .bin .eql (.t 17) (.t 18), (some (15, true)), none⟩,
  ⟨(some 20), .pick (.t 15) (.t 19) (.c (.bool false)), (some (12, false)), some [20, 12, 3, 2, 9]⟩,
  ⟨(some 21), .pick (.t 12) (.c (.bool true)) (.t 20), (some (9, true)), none⟩,
  ⟨(some 22), .mv (.t 21), (some (9, true)), none⟩,
  ⟨(some 23), .load false 1 (.t 2), (some (22, false)), none⟩,
  ⟨(some 24), .bin .lss (.t 23) (.c (.int .i64 0)), (some (22, false)), none⟩,
  ⟨(some 25), .mv (.t 24), (some (22, false)), none⟩,
  ⟨(some 26), .fld 2 (.t 3), (some (25, true)), none⟩,
  ⟨(some 27), .load false 1 (.t 26), (some (25, true)), none⟩,
  ⟨(some 28), .load false 1 (.t 2), (some (25, true)), some [28, 27, 25, 22, 9]⟩,
  ⟨(some 29), .un .neg (.t 28), (some (25, true)), none⟩,
  ⟨(some 30), .bin .eql (.t 27) (.t 29), (some (25, true)), none⟩,
  ⟨(some 31), .pick (.t 25) (.t 30) (.c (.bool false)), (some (22, false)), none⟩,
  ⟨(some 32), .pick (.t 22) (.c (.bool true)) (.t 31), (some (9, true)), none⟩,
  ⟨(some 33), .pick (.t 9) (.t 32) (.c (.bool false)), none, none⟩,
  ⟨(some 4), .mv (.t 33), none, none⟩]
def f49r1 : IC := .reg false [] f49o1 [4]
@[simp] theorem f49r1_run : run tbl fin K f49r1 e H = regK tbl fin K [] f49o1 [4] e H := run_regK _ _ _ _ _ _ _ _ _ rfl
def f49body : IC := (.seq f49r0 (.seq f49r1 .ret))
def f49 : IFn := ⟨34, 3, [.tmp 4], f49body⟩
/- 50: jobshell/proc.Wait$2 -/
@[simp] def f50o0 : List IOper := [
  ⟨(some 2), .box 30 13 (.t 0), none, none⟩,
  ⟨(some 3), .mv (.c (.bool false)), none, none⟩]
def f50r0 : IC := .reg false [] f50o0 [2, 1]
@[simp] theorem f50r0_run : run tbl fin K f50r0 e H = regK tbl fin K [] f50o0 [2, 1] e H := run_regK _ _ _ _ _ _ _ _ _ rfl
@[simp] def f50o1 : List IOper := [
  ⟨(some 4), .load true 13 (.t 2), none, none⟩,
  ⟨(some 5), .load false 1 (.t 1), none, none⟩,
  ⟨(some 6), .call (.c (.fn 51 [])) [(.t 4), (.t 5)], none, none⟩,
  ⟨(some 3), .mv (.t 6), none, none⟩]
def f50r1 : IC := .reg false [] f50o1 [3]
@[simp] theorem f50r1_run : run tbl fin K f50r1 e H = regK tbl fin K [] f50o1 [3] e H := run_regK _ _ _ _ _ _ _ _ _ rfl
def f50body : IC := (.seq f50r0 (.seq f50r1 .ret))
def f50 : IFn := ⟨7, 2, [.tmp 3], f50body⟩
/- 51: jobshell/proc.waitable -/
@[simp] def f51o0 : List IOper := [
  ⟨(some 2), .box 30 13 (.t 0), none, none⟩,
  ⟨(some 4), .mv (.c (.bool false)), none, none⟩]
def f51r0 : IC := .reg false [] f51o0 [1, 2]
@[simp] theorem f51r0_run : run tbl fin K f51r0 e H = regK tbl fin K [] f51o0 [1, 2] e H := run_regK _ _ _ _ _ _ _ _ _ rfl
@[simp] def f51o1 : List IOper := [
  ⟨(some 5), .fld 4 (.t 2), none, none⟩,
  ⟨(some 6), .load false 1 (.t 5), none, none⟩]
def f51r1 : IC := .reg false [] f51o1 [1, 2, 6]
@[simp] theorem f51r1_run : run tbl fin K f51r1 e H = regK tbl fin K [] f51o1 [1, 2, 6] e H := run_regK _ _ _ _ _ _ _ _ _ rfl
@[simp] def f51o2 : List IOper := [
  ⟨(some 8), .bin .eql (.t 6) (.c (.int .i64 3)), none, none⟩,
  ⟨(some 7), .mv (.t 8), none, none⟩]
def f51r2 : IC := .reg false [] f51o2 [7, 1, 2, 6]
@[simp] theorem f51r2_run : run tbl fin K f51r2 e H = regK tbl fin K [] f51o2 [7, 1, 2, 6] e H := run_regK _ _ _ _ _ _ _ _ _ rfl
@[simp] def f51o3 : List IOper := [
  ⟨(some 4), .mv (.c (.bool true)), none, none⟩]
def f51r3 : IC := .reg false [] f51o3 [4]
@[simp] theorem f51r3_run : run tbl fin K f51r3 e H = regK tbl fin K [] f51o3 [4] e H := run_regK _ _ _ _ _ _ _ _ _ rfl
@[simp] def f51o4 : List IOper := [
  ⟨(some 10), .bin .eql (.t 6) (.c (.int .i64 2)), none, none⟩,
  ⟨(some 9), .mv (.t 10), none, none⟩]
def f51r4 : IC := .reg false [] f51o4 [9, 2, 1]
@[simp] theorem f51r4_run : run tbl fin K f51r4 e H = regK tbl fin K [] f51o4 [9, 2, 1] e H := run_regK _ _ _ _ _ _ _ _ _ rfl
@[simp] def f51o5 : List IOper := [
  ⟨(some 11), .fld 6 (.t 2), none, none⟩,
  ⟨(some 12), .load false 1 (.t 11), none, none⟩,
  ⟨(some 13), .mv (.t 12), none, none⟩,
  ⟨(some 14), .mv (.t 1), (some (13, true)), none⟩,
  ⟨(some 15), .bin .and (.t 14) (.c (.int .i64 2)), (some (13, true)), none⟩,
  ⟨(some 16), .bin .neq (.t 15) (.c (.int .i64 0)), (some (13, true)), none⟩,
  ⟨(some 17), .pick (.t 13) (.t 16) (.c (.bool false)), none, none⟩,
  ⟨(some 4), .mv (.t 17), none, none⟩]
def f51r5 : IC := .reg false [] f51o5 [4]
@[simp] theorem f51r5_run : run tbl fin K f51r5 e H = regK tbl fin K [] f51o5 [4] e H := run_regK _ _ _ _ _ _ _ _ _ rfl
@[simp] def f51o6 : List IOper := [
  ⟨(some 18), .fld 6 (.t 2), none, none⟩,
  ⟨(some 19), .load false 1 (.t 18), none, none⟩,
  ⟨(some 20), .mv (.t 19), none, none⟩,
  ⟨(some 21), .mv (.t 1), (some (20, true)), none⟩,
  ⟨(some 22), .bin .and (.t 21) (.c (.int .i64 4)), (some (20, true)), none⟩,
  ⟨(some 23), .bin .neq (.t 22) (.c (.int .i64 0)), (some (20, true)), none⟩,
  ⟨(some 24), .pick (.t 20) (.t 23) (.c (.bool false)), none, none⟩,
  ⟨(some 4), .mv (.t 24), none, none⟩]
def f51r6 : IC := .reg false [] f51o6 [4]
@[simp] theorem f51r6_run : run tbl fin K f51r6 e H = regK tbl fin K [] f51o6 [4] e H := run_regK _ _ _ _ _ _ _ _ _ rfl
def f51body : IC := (.seq f51r0 (.seq (.seq f51r1 (.block 0 (.seq f51r2 (.cond (.t 7) (.seq f51r3 .ret) (.seq f51r4 (.cond (.t 9) (.seq f51r5 .ret) .skip)))))) (.seq f51r6 .ret)))
def f51 : IFn := ⟨25, 2, [.tmp 4], f51body⟩
/- 52: slices.IndexFunc[[]jobshell/api.Proc,jobshell/api.Proc] -/
@[simp] def f52o0 : List IOper := [
  ⟨(some 4), .mv (.c (.int .i64 0)), none, none⟩]
def f52r0 : IC := .reg false [] f52o0 [1, 0]
@[simp] theorem f52r0_run : run tbl fin K f52r0 e H = regK tbl fin K [] f52o0 [1, 0] e H := run_regK _ _ _ _ _ _ _ _ _ rfl
@[simp] def f52o1 : List IOper := [
  ⟨(some 6), .mv (.t 0), none, none⟩,
  ⟨(some 7), .len (.t 6), none, none⟩,
  ⟨(some 8), .mv (.c (.int .i64 0)), none, none⟩]
def f52r1 : IC := .reg false [] f52o1 [7, 1, 0, 8]
@[simp] theorem f52r1_run : run tbl fin K f52r1 e H = regK tbl fin K [] f52o1 [7, 1, 0, 8] e H := run_regK _ _ _ _ _ _ _ _ _ rfl
@[simp] def f52o2 : List IOper := [
  ⟨(some 9), .bin .lss (.t 8) (.t 7), none, none⟩]
def f52r2 : IC := .reg false [] f52o2 [9, 0, 1, 7, 8]
@[simp] theorem f52r2_run : run tbl fin K f52r2 e H = regK tbl fin K [] f52o2 [9, 0, 1, 7, 8] e H := run_regK _ _ _ _ _ _ _ _ _ rfl
@[simp] def f52o3 : List IOper := [
  ⟨(some 10), .mv (.t 8), none, none⟩,
  ⟨(some 5), .mv (.t 10), none, none⟩]
def f52r3 : IC := .reg false [] f52o3 [0, 1, 7, 8, 5]
@[simp] theorem f52r3_run : run tbl fin K f52r3 e H = regK tbl fin K [] f52o3 [0, 1, 7, 8, 5] e H := run_regK _ _ _ _ _ _ _ _ _ rfl
@[simp] def f52o4 : List IOper := [
  ⟨(some 11), .mv (.t 1), none, none⟩,
  ⟨(some 12), .mv (.t 0), none, none⟩,
  ⟨(some 13), .mv (.t 5), none, none⟩,
  ⟨(some 14), .idx 13 (.t 12) (.t 13), none, none⟩,
  ⟨(some 15), .load true 13 (.t 14), none, none⟩,
  ⟨(some 16), .ocall (.t 11) [(.t 15)], none, none⟩]
def f52r4 : IC := .reg false [] f52o4 [16, 0, 1, 7, 8, 5]
@[simp] theorem f52r4_run : run tbl fin K f52r4 e H = regK tbl fin K [] f52o4 [16, 0, 1, 7, 8, 5] e H := run_regK _ _ _ _ _ _ _ _ _ rfl
@[simp] def f52o5 : List IOper := [
  ⟨(some 17), .mv (.t 5), none, none⟩,
  ⟨(some 4), .mv (.t 17), none, none⟩]
def f52r5 : IC := .reg false [] f52o5 [4]
@[simp] theorem f52r5_run : run tbl fin K f52r5 e H = regK tbl fin K [] f52o5 [4] e H := run_regK _ _ _ _ _ _ _ _ _ rfl
@[simp] def f52o6 : List IOper := [
  ⟨(some 18), .bin .add (.t 8) (.c (.int .i64 1)), none, none⟩,
  ⟨(some 8), .mv (.t 18), none, none⟩]
def f52r6 : IC := .reg false [] f52o6 [7, 1, 0, 8]
@[simp] theorem f52r6_run : run tbl fin K f52r6 e H = regK tbl fin K [] f52o6 [7, 1, 0, 8] e H := run_regK _ _ _ _ _ _ _ _ _ rfl
def f52b7 : IC := (.seq f52r2 (.seq (.cond (.t 9) .skip (.exit 0)) (.seq (.block 1 (.seq f52r3 (.seq f52r4 (.cond (.t 16) (.seq f52r5 .ret) .skip)))) f52r6)))
theorem f52b7_eq : f52b7 = (.seq f52r2 (.seq (.cond (.t 9) .skip (.exit 0)) (.seq (.block 1 (.seq f52r3 (.seq f52r4 (.cond (.t 16) (.seq f52r5 .ret) .skip)))) f52r6))) := rfl
@[simp] def f52o8 : List IOper := [
  ⟨(some 4), .mv (.c (.int .i64 (-1))), none, none⟩]
def f52r8 : IC := .reg false [] f52o8 [4]
@[simp] theorem f52r8_run : run tbl fin K f52r8 e H = regK tbl fin K [] f52o8 [4] e H := run_regK _ _ _ _ _ _ _ _ _ rfl
def f52body : IC := (.seq f52r0 (.seq (.seq f52r1 (.block 0 (.loop [7, 1, 0, 8] f52b7))) (.seq f52r8 .ret)))
def f52 : IFn := ⟨19, 2, [.tmp 4], f52body⟩
/- 53: jobshell/proc.Wait$3 -/
@[simp] def f53o0 : List IOper := [
  ⟨(some 2), .box 30 13 (.t 0), none, none⟩,
  ⟨(some 3), .mv (.c (.bool false)), none, none⟩]
def f53r0 : IC := .reg false [] f53o0 [2, 1]
@[simp] theorem f53r0_run : run tbl fin K f53r0 e H = regK tbl fin K [] f53o0 [2, 1] e H := run_regK _ _ _ _ _ _ _ _ _ rfl
@[simp] def f53o1 : List IOper := [
  ⟨(some 4), .fld 0 (.t 2), none, none⟩,
  ⟨(some 5), .load false 1 (.t 4), none, none⟩,
  ⟨(some 6), .fld 0 (.t 1), none, none⟩,
  ⟨(some 7), .load false 1 (.t 6), none, none⟩,
  ⟨(some 8), .bin .eql (.t 5) (.t 7), none, none⟩,
  ⟨(some 3), .mv (.t 8), none, none⟩]
def f53r1 : IC := .reg false [] f53o1 [3]
@[simp] theorem f53r1_run : run tbl fin K f53r1 e H = regK tbl fin K [] f53o1 [3] e H := run_regK _ _ _ _ _ _ _ _ _ rfl
def f53body : IC := (.seq f53r0 (.seq f53r1 .ret))
def f53 : IFn := ⟨9, 2, [.tmp 3], f53body⟩
/- 54: jobshell/proc.clone -/
@[simp] def f54o0 : List IOper := [
  ⟨(some 2), .nilrow 30 13, none, none⟩]
def f54r0 : IC := .reg false [] f54o0 [0]
@[simp] theorem f54r0_run : run tbl fin K f54r0 e H = regK tbl fin K [] f54o0 [0] e H := run_regK _ _ _ _ _ _ _ _ _ rfl
@[simp] def f54o1 : List IOper := [
  ⟨(some 5), .mv (.t 0), none, none⟩,
  ⟨(some 6), .call (.c (.fn 88 [])) [(.t 5)], none, none⟩,
  ⟨(some 3), .mv (.t 6), none, none⟩]
def f54r1 : IC := .reg false [] f54o1 [3]
@[simp] theorem f54r1_run : run tbl fin K f54r1 e H = regK tbl fin K [] f54o1 [3] e H := run_regK _ _ _ _ _ _ _ _ _ rfl
@[simp] def f54o2 : List IOper := [
  ⟨(some 7), .mv (.t 3), none, none⟩,
  ⟨(some 8), .len (.t 7), none, none⟩,
  ⟨(some 9), .mv (.c (.int .i64 0)), none, none⟩]
def f54r2 : IC := .reg false [] f54o2 [9, 8, 3]
@[simp] theorem f54r2_run : run tbl fin K f54r2 e H = regK tbl fin K [] f54o2 [9, 8, 3] e H := run_regK _ _ _ _ _ _ _ _ _ rfl
@[simp] def f54o3 : List IOper := [
  ⟨(some 10), .bin .lss (.t 9) (.t 8), none, none⟩]
def f54r3 : IC := .reg false [] f54o3 [10, 9, 8, 3]
@[simp] theorem f54r3_run : run tbl fin K f54r3 e H = regK tbl fin K [] f54o3 [10, 9, 8, 3] e H := run_regK _ _ _ _ _ _ _ _ _ rfl
@[simp] def f54o4 : List IOper := [
  ⟨(some 11), .mv (.t 9), none, none⟩,
  ⟨(some 4), .mv (.t 11), none, none⟩]
def f54r4 : IC := .reg false [] f54o4 [4, 9, 8, 3]
@[simp] theorem f54r4_run : run tbl fin K f54r4 e H = regK tbl fin K [] f54o4 [4, 9, 8, 3] e H := run_regK _ _ _ _ _ _ _ _ _ rfl
@[simp] def f54o5 : List IOper := [
  ⟨(some 12), .mv (.t 3), none, none⟩,
  ⟨(some 13), .mv (.t 4), none, none⟩,
  ⟨(some 14), .mv (.t 3), none, none⟩,
  ⟨(some 15), .mv (.t 4), none, none⟩,
  ⟨(some 16), .idx 13 (.t 14) (.t 15), none, none⟩,
  ⟨(some 17), .fld 8 (.t 16), none, none⟩,
  ⟨(some 18), .load true 3 (.t 17), none, none⟩,
  ⟨(some 19), .call (.c (.fn 39 [])) [(.t 18)], none, none⟩,
  ⟨(some 20), .idx 13 (.t 12) (.t 13), none, none⟩,
  ⟨(some 21), .fld 8 (.t 20), none, none⟩,
  ⟨none, .store 3 (.t 21) (.t 19), none, none⟩]
def f54r5 : IC := .reg false [] f54o5 [4, 9, 8, 3]
@[simp] theorem f54r5_run : run tbl fin K f54r5 e H = regK tbl fin K [] f54o5 [4, 9, 8, 3] e H := run_regK _ _ _ _ _ _ _ _ _ rfl
@[simp] def f54o6 : List IOper := [
  ⟨(some 22), .mv (.t 3), none, none⟩,
  ⟨(some 23), .mv (.t 4), none, none⟩,
  ⟨(some 24), .mv (.t 3), none, none⟩,
  ⟨(some 25), .mv (.t 4), none, none⟩,
  ⟨(some 26), .idx 13 (.t 24) (.t 25), none, none⟩,
  ⟨(some 27), .fld 11 (.t 26), none, none⟩,
  ⟨(some 28), .load false 1 (.t 27), none, none⟩,
  ⟨(some 29), .call (.c (.fn 40 [])) [(.t 28)], none, none⟩,
  ⟨(some 30), .idx 13 (.t 22) (.t 23), none, none⟩,
  ⟨(some 31), .fld 11 (.t 30), none, none⟩,
  ⟨none, .store 1 (.t 31) (.t 29), none, none⟩]
def f54r6 : IC := .reg false [] f54o6 [9, 8, 3]
@[simp] theorem f54r6_run : run tbl fin K f54r6 e H = regK tbl fin K [] f54o6 [9, 8, 3] e H := run_regK _ _ _ _ _ _ _ _ _ rfl
@[simp] def f54o7 : List IOper := [
  ⟨(some 32), .bin .add (.t 9) (.c (.int .i64 1)), none, none⟩,
  ⟨(some 9), .mv (.t 32), none, none⟩]
def f54r7 : IC := .reg false [] f54o7 [9, 8, 3]
@[simp] theorem f54r7_run : run tbl fin K f54r7 e H = regK tbl fin K [] f54o7 [9, 8, 3] e H := run_regK _ _ _ _ _ _ _ _ _ rfl
def f54b8 : IC := (.seq f54r3 (.seq (.cond (.t 10) .skip (.exit 0)) (.seq (.block 1 (.seq f54r4 (.seq f54r5 f54r6))) f54r7)))
theorem f54b8_eq : f54b8 = (.seq f54r3 (.seq (.cond (.t 10) .skip (.exit 0)) (.seq (.block 1 (.seq f54r4 (.seq f54r5 f54r6))) f54r7))) := rfl
@[simp] def f54o9 : List IOper := [
  ⟨(some 33), .mv (.t 3), none, none⟩,
  ⟨(some 2), .mv (.t 33), none, none⟩]
def f54r9 : IC := .reg false [] f54o9 [2]
@[simp] theorem f54r9_run : run tbl fin K f54r9 e H = regK tbl fin K [] f54o9 [2] e H := run_regK _ _ _ _ _ _ _ _ _ rfl
def f54body : IC := (.seq f54r0 (.seq f54r1 (.seq (.seq f54r2 (.block 0 (.loop [9, 8, 3] f54b8))) (.seq f54r9 .ret))))
def f54 : IFn := ⟨34, 1, [.tmp 2], f54body⟩
/- 55: slices.Delete[[]jobshell/api.Proc,jobshell/api.Proc] -/
@[simp] def f55o0 : List IOper := [
  ⟨(some 6), .nilrow 30 13, none, none⟩]
def f55r0 : IC := .reg false [] f55o0 [2, 1, 0]
@[simp] theorem f55r0_run : run tbl fin K f55r0 e H = regK tbl fin K [] f55o0 [2, 1, 0] e H := run_regK _ _ _ _ _ _ _ _ _ rfl
@[simp] def f55o1 : List IOper := [
  ⟨(some 8), .mv (.t 0), none, none⟩,
  ⟨(some 9), .mv (.t 1), none, none⟩,
  ⟨(some 10), .mv (.t 2), none, none⟩,
  ⟨(some 11), .mv (.t 0), none, none⟩,
  ⟨(some 12), .len (.t 11), none, none⟩,
  ⟨(some 13), .slc3 (.t 8) (some (.t 9)) (some (.t 10)) (some (.t 12)), none, none⟩]
def f55r1 : IC := .reg false [] f55o1 [2, 1, 0]
@[simp] theorem f55r1_run : run tbl fin K f55r1 e H = regK tbl fin K [] f55o1 [2, 1, 0] e H := run_regK _ _ _ _ _ _ _ _ _ rfl
@[simp] def f55o2 : List IOper := [
  ⟨(some 14), .mv (.t 1), none, none⟩,
  ⟨(some 15), .mv (.t 2), none, none⟩,
  ⟨(some 16), .bin .eql (.t 14) (.t 15), none, none⟩]
def f55r2 : IC := .reg false [] f55o2 [16, 2, 1, 0]
@[simp] theorem f55r2_run : run tbl fin K f55r2 e H = regK tbl fin K [] f55o2 [16, 2, 1, 0] e H := run_regK _ _ _ _ _ _ _ _ _ rfl
@[simp] def f55o3 : List IOper := [
  ⟨(some 17), .mv (.t 0), none, none⟩,
  ⟨(some 6), .mv (.t 17), none, none⟩]
def f55r3 : IC := .reg false [] f55o3 [6]
@[simp] theorem f55r3_run : run tbl fin K f55r3 e H = regK tbl fin K [] f55o3 [6] e H := run_regK _ _ _ _ _ _ _ _ _ rfl
@[simp] def f55o4 : List IOper := [
  ⟨(some 18), .mv (.t 0), none, none⟩,
  ⟨(some 19), .len (.t 18), none, none⟩,
  ⟨(some 7), .mv (.t 19), none, none⟩]
def f55r4 : IC := .reg false [] f55o4 [1, 0, 2, 7]
@[simp] theorem f55r4_run : run tbl fin K f55r4 e H = regK tbl fin K [] f55o4 [1, 0, 2, 7] e H := run_regK _ _ _ _ _ _ _ _ _ rfl
@[simp] def f55o5 : List IOper := [
  ⟨(some 20), .mv (.t 0), none, none⟩,
  ⟨(some 21), .mv (.t 1), none, none⟩,
  ⟨(some 22), .slc 13 (.t 20) none (some (.t 21)), none, none⟩,
  ⟨(some 23), .mv (.t 0), none, none⟩,
  ⟨(some 24), .mv (.t 2), none, none⟩,
  ⟨(some 25), .slc 13 (.t 23) (some (.t 24)) none, none, none⟩,
  ⟨(some 26), .app 30 13 (.t 22) (.t 25), none, none⟩,
  ⟨(some 0), .mv (.t 26), none, none⟩]
def f55r5 : IC := .reg true [] f55o5 [7, 0]
@[simp] theorem f55r5_run : run tbl fin K f55r5 e H = regK tbl fin K [] f55o5 [7, 0] e H := run_regK _ _ _ _ _ _ _ _ _ rfl
@[simp] def f55o6 : List IOper := [
  ⟨(some 27), .mv (.t 0), none, none⟩,
  ⟨(some 28), .mv (.t 0), none, none⟩,
  ⟨(some 29), .len (.t 28), none, none⟩,
  ⟨(some 30), .mv (.t 7), none, none⟩,
  ⟨(some 31), .slc 13 (.t 27) (some (.t 29)) (some (.t 30)), none, none⟩,
  ⟨none, .clr 13 (.agg [(.int .i64 0), (.int .i64 0), (.int .i64 0), (.int .i64 0), (.int .i64 0), (.int .i64 0), (.bool false), (.int .i64 0), .e0, .e0, .e0, .e0, (.str [])]) (.t 31), none, none⟩]
def f55r6 : IC := .reg false [] f55o6 [0]
@[simp] theorem f55r6_run : run tbl fin K f55r6 e H = regK tbl fin K [] f55o6 [0] e H := run_regK _ _ _ _ _ _ _ _ _ rfl
@[simp] def f55o7 : List IOper := [
  ⟨(some 32), .mv (.t 0), none, none⟩,
  ⟨(some 6), .mv (.t 32), none, none⟩]
def f55r7 : IC := .reg false [] f55o7 [6]
@[simp] theorem f55r7_run : run tbl fin K f55r7 e H = regK tbl fin K [] f55o7 [6] e H := run_regK _ _ _ _ _ _ _ _ _ rfl
def f55body : IC := (.seq f55r0 (.seq f55r1 (.seq (.seq f55r2 (.cond (.t 16) (.seq f55r3 .ret) .skip)) (.seq f55r4 (.seq f55r5 (.seq f55r6 (.seq f55r7 .ret)))))))
def f55 : IFn := ⟨33, 3, [.tmp 6], f55body⟩
/- 56: jobshell/jobshellref27.lives -/
@[simp] def f56o0 : List IOper := [
  ⟨(some 4), .mv (.c (.int .i64 0)), none, none⟩]
def f56r0 : IC := .reg false [] f56o0 [1, 0]
@[simp] theorem f56r0_run : run tbl fin K f56r0 e H = regK tbl fin K [] f56o0 [1, 0] e H := run_regK _ _ _ _ _ _ _ _ _ rfl
@[simp] def f56o1 : List IOper := [
  ⟨(some 6), .mv (.t 0), none, none⟩,
  ⟨(some 7), .mv (.t 1), none, none⟩,
  ⟨(some 8), .call (.c (.fn 41 [])) [(.t 6), (.t 7)], none, none⟩,
  ⟨(some 5), .mv (.t 8), none, none⟩]
def f56r1 : IC := .reg false [] f56o1 [0, 5]
@[simp] theorem f56r1_run : run tbl fin K f56r1 e H = regK tbl fin K [] f56o1 [0, 5] e H := run_regK _ _ _ _ _ _ _ _ _ rfl
@[simp] def f56o2 : List IOper := [
  ⟨(some 9), .mv (.t 5), none, none⟩,
  ⟨(some 10), .bin .geq (.t 9) (.c (.int .i64 0)), none, none⟩,
  ⟨(some 11), .mv (.t 10), none, none⟩,
  ⟨(some 12), .mv (.t 0), (some (11, true)), none⟩,
  ⟨(some 13), .mv (.t 5), (some (11, true)), none⟩,
  ⟨(some 14), .idx 13 (.t 12) (.t 13), (some (11, true)), none⟩,
  ⟨(some 15), .fld 4 (.t 14), (some (11, true)), none⟩,
  ⟨(some 16), .load false 1 (.t 15), (some (11, true)), none⟩,
  ⟨(some 17), .bin .eql (.t 16) (.c (.int .i64 3)), (some (11, true)), none⟩,
  ⟨(some 18), .pick (.t 11) (.t 17) (.c (.bool false)), none, none⟩]
def f56r2 : IC := .reg false [] f56o2 [18, 5]
@[simp] theorem f56r2_run : run tbl fin K f56r2 e H = regK tbl fin K [] f56o2 [18, 5] e H := run_regK _ _ _ _ _ _ _ _ _ rfl
@[simp] def f56o3 : List IOper := [
  ⟨(some 4), .mv (.c (.int .i64 (-1))), none, none⟩]
def f56r3 : IC := .reg false [] f56o3 [4]
@[simp] theorem f56r3_run : run tbl fin K f56r3 e H = regK tbl fin K [] f56o3 [4] e H := run_regK _ _ _ _ _ _ _ _ _ rfl
@[simp] def f56o4 : List IOper := [
  ⟨(some 19), .mv (.t 5), none, none⟩,
  ⟨(some 4), .mv (.t 19), none, none⟩]
def f56r4 : IC := .reg false [] f56o4 [4]
@[simp] theorem f56r4_run : run tbl fin K f56r4 e H = regK tbl fin K [] f56o4 [4] e H := run_regK _ _ _ _ _ _ _ _ _ rfl
def f56body : IC := (.seq f56r0 (.seq f56r1 (.seq (.seq f56r2 (.cond (.t 18) (.seq f56r3 .ret) .skip)) (.seq f56r4 .ret))))
def f56 : IFn := ⟨20, 2, [.tmp 4], f56body⟩
/- 57: jobshell/jobshellref27.meant -/
@[simp] def f57o0 : List IOper := [
  ⟨(some 3), .box 30 13 (.t 0), none, none⟩,
  ⟨(some 6), .mv (.c (.bool false)), none, none⟩]
def f57r0 : IC := .reg false [] f57o0 [1, 3, 2]
@[simp] theorem f57r0_run : run tbl fin K f57r0 e H = regK tbl fin K [] f57o0 [1, 3, 2] e H := run_regK _ _ _ _ _ _ _ _ _ rfl
@[simp] def f57o1 : List IOper := [
  ⟨(some 7), .fld 1 (.t 3), none, none⟩,
  ⟨(some 8), .load false 1 (.t 7), none, none⟩,
  ⟨(some 9), .mv (.t 1), none, none⟩,
  ⟨(some 10), .bin .eql (.t 8) (.t 9), none, none⟩,
  ⟨(some 11), .mv (.t 10), none, none⟩,
  ⟨(some 12), .mv (.t 2), (some (11, true)), none⟩,
  ⟨(some 13), .bin .eql (.t 12) (.c (.int .i64 0)), (some (11, true)), none⟩,
  ⟨(some 14), .mv (.t 13), (some (11, true)), some [14, 3, 2, 11]⟩,
  ⟨(some 15), .mv (.t 2), (some (14, false)), none⟩,
  ⟨(some 16), .bin .gtr (.t 15) (.c (.int .i64 0)), (some (14, false)), none⟩,
  ⟨(some 17), .mv (.t 16), (some (14, false)), none⟩,
  ⟨(some 18), .fld 0 (.t 3), (some (17, true)), none⟩,
  ⟨(some 19), .load false 1 (.t 18), (some (17, true)), none⟩,
  ⟨(some 20), .mv (.t 2), (some (17, true)), none⟩,
  ⟨(some 21), .bin .eql (.t 19) (.t 20), (some (17, true)), none⟩,
  ⟨(some 22), .pick (.t 17) (.t 21) (.c (.bool false)), (some (14, false)), some [22, 14, 3, 2, 11]⟩,
  ⟨(some 23), .pick (.t 14) (.c (.bool true)) (.t 22), (some (11, true)), none⟩,
  ⟨(some 24), .mv (.t 23), (some (11, true)), none⟩,
  ⟨(some 25), .mv (.t 2), (some (24, false)), none⟩,
  ⟨(some 26), .bin .lss (.t 25) (.c (.int .i64 0)), (some (24, false)), none⟩,
  ⟨(some 27), .mv (.t 26), (some (24, false)), none⟩,
  ⟨(some 28), .fld 2 (.t 3), (some (27, true)), none⟩,
  ⟨(some 29), .load false 1 (.t 28), (some (27, true)), none⟩,
  ⟨(some 30), .mv (.t 2), (some (27, true)), some [30, 29, 27, 24, 11]⟩,
  ⟨(some 31), .un .neg (.t 30), (some (27, true)), none⟩,
  ⟨(some 32), .bin .eql (.t 29) (.t 31), (some (27, true)), none⟩,
  ⟨(some 33), .pick (.t 27) (.t 32) (.c (.bool false)), (some (24, false)), none⟩,
  ⟨(some 34), .pick (.t 24) (.c (.bool true)) (.t 33), (some (11, true)), none⟩,
  ⟨(some 35), .pick (.t 11) (.t 34) (.c (.bool false)), none, none⟩,
  ⟨(some 6), .mv (.t 35), none, none⟩]
def f57r1 : IC := .reg false [] f57o1 [6]
@[simp] theorem f57r1_run : run tbl fin K f57r1 e H = regK tbl fin K [] f57o1 [6] e H := run_regK _ _ _ _ _ _ _ _ _ rfl
def f57body : IC := (.seq f57r0 (.seq f57r1 .ret))
def f57 : IFn := ⟨36, 3, [.tmp 6], f57body⟩
/- 58: jobshell/jobshellref27.ready -/
@[simp] def f58o0 : List IOper := [
  ⟨(some 2), .box 30 13 (.t 0), none, none⟩,
  ⟨(some 4), .mv (.c (.bool false)), none, none⟩]
def f58r0 : IC := .reg false [] f58o0 [1, 2]
@[simp] theorem f58r0_run : run tbl fin K f58r0 e H = regK tbl fin K [] f58o0 [1, 2] e H := run_regK _ _ _ _ _ _ _ _ _ rfl
@[simp] def f58o1 : List IOper := [
  ⟨(some 5), .fld 4 (.t 2), none, none⟩,
  ⟨(some 6), .load false 1 (.t 5), none, none⟩]
def f58r1 : IC := .reg false [] f58o1 [1, 2, 6]
@[simp] theorem f58r1_run : run tbl fin K f58r1 e H = regK tbl fin K [] f58o1 [1, 2, 6] e H := run_regK _ _ _ _ _ _ _ _ _ rfl
@[simp] def f58o2 : List IOper := [
  ⟨(some 8), .bin .eql (.t 6) (.c (.int .i64 3)), none, none⟩,
  ⟨(some 7), .mv (.t 8), none, none⟩]
def f58r2 : IC := .reg false [] f58o2 [7, 1, 2, 6]
@[simp] theorem f58r2_run : run tbl fin K f58r2 e H = regK tbl fin K [] f58o2 [7, 1, 2, 6] e H := run_regK _ _ _ _ _ _ _ _ _ rfl
@[simp] def f58o3 : List IOper := [
  ⟨(some 4), .mv (.c (.bool true)), none, none⟩]
def f58r3 : IC := .reg false [] f58o3 [4]
@[simp] theorem f58r3_run : run tbl fin K f58r3 e H = regK tbl fin K [] f58o3 [4] e H := run_regK _ _ _ _ _ _ _ _ _ rfl
@[simp] def f58o4 : List IOper := [
  ⟨(some 10), .bin .eql (.t 6) (.c (.int .i64 2)), none, none⟩,
  ⟨(some 9), .mv (.t 10), none, none⟩]
def f58r4 : IC := .reg false [] f58o4 [9, 2, 1]
@[simp] theorem f58r4_run : run tbl fin K f58r4 e H = regK tbl fin K [] f58o4 [9, 2, 1] e H := run_regK _ _ _ _ _ _ _ _ _ rfl
@[simp] def f58o5 : List IOper := [
  ⟨(some 11), .fld 6 (.t 2), none, none⟩,
  ⟨(some 12), .load false 1 (.t 11), none, none⟩,
  ⟨(some 13), .mv (.t 12), none, none⟩,
  ⟨(some 14), .mv (.t 1), (some (13, true)), none⟩,
  ⟨(some 15), .bin .and (.t 14) (.c (.int .i64 2)), (some (13, true)), none⟩,
  ⟨(some 16), .bin .neq (.t 15) (.c (.int .i64 0)), (some (13, true)), none⟩,
  ⟨(some 17), .pick (.t 13) (.t 16) (.c (.bool false)), none, none⟩,
  ⟨(some 4), .mv (.t 17), none, none⟩]
def f58r5 : IC := .reg false [] f58o5 [4]
@[simp] theorem f58r5_run : run tbl fin K f58r5 e H = regK tbl fin K [] f58o5 [4] e H := run_regK _ _ _ _ _ _ _ _ _ rfl
@[simp] def f58o6 : List IOper := [
  ⟨(some 18), .fld 6 (.t 2), none, none⟩,
  ⟨(some 19), .load false 1 (.t 18), none, none⟩,
  ⟨(some 20), .mv (.t 19), none, none⟩,
  ⟨(some 21), .mv (.t 1), (some (20, true)), none⟩,
  ⟨(some 22), .bin .and (.t 21) (.c (.int .i64 4)), (some (20, true)), none⟩,
  ⟨(some 23), .bin .neq (.t 22) (.c (.int .i64 0)), (some (20, true)), none⟩,
  ⟨(some 24), .pick (.t 20) (.t 23) (.c (.bool false)), none, none⟩,
  ⟨(some 4), .mv (.t 24), none, none⟩]
def f58r6 : IC := .reg false [] f58o6 [4]
@[simp] theorem f58r6_run : run tbl fin K f58r6 e H = regK tbl fin K [] f58o6 [4] e H := run_regK _ _ _ _ _ _ _ _ _ rfl
def f58body : IC := (.seq f58r0 (.seq (.seq f58r1 (.block 0 (.seq f58r2 (.cond (.t 7) (.seq f58r3 .ret) (.seq f58r4 (.cond (.t 9) (.seq f58r5 .ret) .skip)))))) (.seq f58r6 .ret)))
def f58 : IFn := ⟨25, 2, [.tmp 4], f58body⟩
/- 59: jobshell/jobshellref27.copied -/
@[simp] def f59o0 : List IOper := [
  ⟨(some 2), .nilrow 30 13, none, none⟩]
def f59r0 : IC := .reg false [] f59o0 [0]
@[simp] theorem f59r0_run : run tbl fin K f59r0 e H = regK tbl fin K [] f59o0 [0] e H := run_regK _ _ _ _ _ _ _ _ _ rfl
@[simp] def f59o1 : List IOper := [
  ⟨(some 3), .nilrow 30 13, none, none⟩]
def f59r1 : IC := .reg false [] f59o1 [3, 0]
@[simp] theorem f59r1_run : run tbl fin K f59r1 e H = regK tbl fin K [] f59o1 [3, 0] e H := run_regK _ _ _ _ _ _ _ _ _ rfl
@[simp] def f59o2 : List IOper := [
  ⟨(some 4), .mv (.c (.int .i64 0)), none, none⟩]
def f59r2 : IC := .reg false [] f59o2 [3, 4, 0]
@[simp] theorem f59r2_run : run tbl fin K f59r2 e H = regK tbl fin K [] f59o2 [3, 4, 0] e H := run_regK _ _ _ _ _ _ _ _ _ rfl
@[simp] def f59o3 : List IOper := [
  ⟨(some 5), .mv (.t 4), none, none⟩,
  ⟨(some 6), .mv (.t 0), none, none⟩,
  ⟨(some 7), .len (.t 6), none, none⟩,
  ⟨(some 8), .bin .lss (.t 5) (.t 7), none, none⟩]
def f59r3 : IC := .reg false [] f59o3 [8, 3, 4, 0]
@[simp] theorem f59r3_run : run tbl fin K f59r3 e H = regK tbl fin K [] f59o3 [8, 3, 4, 0] e H := run_regK _ _ _ _ _ _ _ _ _ rfl
@[simp] def f59o4 : List IOper := [
  ⟨(some 11), .mv (.t 3), none, none⟩,
  ⟨(some 12), .mv (.t 0), none, none⟩,
  ⟨(some 13), .mv (.t 4), none, none⟩,
  ⟨(some 14), .idx 13 (.t 12) (.t 13), none, none⟩,
  ⟨(some 15), .load true 13 (.t 14), none, none⟩,
  ⟨(some 16), .mkimm 13 1 (.agg [(.int .i64 0), (.int .i64 0), (.int .i64 0), (.int .i64 0), (.int .i64 0), (.int .i64 0), (.bool false), (.int .i64 0), .e0, .e0, .e0, .e0, (.str [])]) [(0, (.t 15))], none, none⟩,
  ⟨(some 17), .app 30 13 (.t 11) (.t 16), none, none⟩,
  ⟨(some 3), .mv (.t 17), none, none⟩]
def f59r4 : IC := .reg false [] f59o4 [4, 3, 0]
@[simp] theorem f59r4_run : run tbl fin K f59r4 e H = regK tbl fin K [] f59o4 [4, 3, 0] e H := run_regK _ _ _ _ _ _ _ _ _ rfl
@[simp] def f59o5 : List IOper := [
  ⟨(some 9), .mv (.t 4), none, none⟩,
  ⟨(some 10), .bin .add (.t 9) (.c (.int .i64 1)), none, none⟩,
  ⟨(some 4), .mv (.t 10), none, none⟩]
def f59r5 : IC := .reg false [] f59o5 [3, 4, 0]
@[simp] theorem f59r5_run : run tbl fin K f59r5 e H = regK tbl fin K [] f59o5 [3, 4, 0] e H := run_regK _ _ _ _ _ _ _ _ _ rfl
def f59b6 : IC := (.seq (.seq f59r3 (.cond (.t 8) .skip (.exit 0))) (.seq (.block 1 f59r4) f59r5))
theorem f59b6_eq : f59b6 = (.seq (.seq f59r3 (.cond (.t 8) .skip (.exit 0))) (.seq (.block 1 f59r4) f59r5)) := rfl
@[simp] def f59o7 : List IOper := [
  ⟨(some 18), .mv (.t 3), none, none⟩,
  ⟨(some 2), .mv (.t 18), none, none⟩]
def f59r7 : IC := .reg false [] f59o7 [2]
@[simp] theorem f59r7_run : run tbl fin K f59r7 e H = regK tbl fin K [] f59o7 [2] e H := run_regK _ _ _ _ _ _ _ _ _ rfl
def f59body : IC := (.seq f59r0 (.seq f59r1 (.seq (.seq f59r2 (.block 0 (.loop [3, 4, 0] f59b6))) (.seq f59r7 .ret))))
def f59 : IFn := ⟨19, 1, [.tmp 2], f59body⟩
/- 60: jobshell/proc.Group$1 -/
@[simp] def f60o0 : List IOper := [
  ⟨(some 2), .box 30 13 (.t 0), none, none⟩,
  ⟨(some 3), .mv (.c (.bool false)), none, none⟩]
def f60r0 : IC := .reg false [] f60o0 [2, 1]
@[simp] theorem f60r0_run : run tbl fin K f60r0 e H = regK tbl fin K [] f60o0 [2, 1] e H := run_regK _ _ _ _ _ _ _ _ _ rfl
@[simp] def f60o1 : List IOper := [
  ⟨(some 4), .fld 2 (.t 2), none, none⟩,
  ⟨(some 5), .load false 1 (.t 4), none, none⟩,
  ⟨(some 6), .load false 1 (.t 1), none, none⟩,
  ⟨(some 7), .bin .eql (.t 5) (.t 6), none, none⟩,
  ⟨(some 3), .mv (.t 7), none, none⟩]
def f60r1 : IC := .reg false [] f60o1 [3]
@[simp] theorem f60r1_run : run tbl fin K f60r1 e H = regK tbl fin K [] f60o1 [3] e H := run_regK _ _ _ _ _ _ _ _ _ rfl
def f60body : IC := (.seq f60r0 (.seq f60r1 .ret))
def f60 : IFn := ⟨8, 2, [.tmp 3], f60body⟩
/- 61: jobshell/proc.Group$2 -/
@[simp] def f61o0 : List IOper := [
  ⟨(some 2), .box 30 13 (.t 0), none, none⟩,
  ⟨(some 3), .mv (.c (.bool false)), none, none⟩]
def f61r0 : IC := .reg false [] f61o0 [2, 1]
@[simp] theorem f61r0_run : run tbl fin K f61r0 e H = regK tbl fin K [] f61o0 [2, 1] e H := run_regK _ _ _ _ _ _ _ _ _ rfl
@[simp] def f61o1 : List IOper := [
  ⟨(some 4), .fld 3 (.t 2), none, none⟩,
  ⟨(some 5), .load false 1 (.t 4), none, none⟩,
  ⟨(some 6), .load false 1 (.t 1), none, none⟩,
  ⟨(some 7), .bin .eql (.t 5) (.t 6), none, none⟩,
  ⟨(some 3), .mv (.t 7), none, none⟩]
def f61r1 : IC := .reg false [] f61o1 [3]
@[simp] theorem f61r1_run : run tbl fin K f61r1 e H = regK tbl fin K [] f61o1 [3] e H := run_regK _ _ _ _ _ _ _ _ _ rfl
def f61body : IC := (.seq f61r0 (.seq f61r1 .ret))
def f61 : IFn := ⟨8, 2, [.tmp 3], f61body⟩
/- 62: jobshell/proc.Group$3 -/
@[simp] def f62o0 : List IOper := [
  ⟨(some 2), .box 30 13 (.t 0), none, none⟩,
  ⟨(some 3), .mv (.c (.bool false)), none, none⟩]
def f62r0 : IC := .reg false [] f62o0 [2, 1]
@[simp] theorem f62r0_run : run tbl fin K f62r0 e H = regK tbl fin K [] f62o0 [2, 1] e H := run_regK _ _ _ _ _ _ _ _ _ rfl
@[simp] def f62o1 : List IOper := [
  ⟨(some 4), .fld 3 (.t 2), none, none⟩,
  ⟨(some 5), .load false 1 (.t 4), none, none⟩,
  ⟨(some 6), .load false 1 (.t 1), none, none⟩,
  ⟨(some 7), .bin .neq (.t 5) (.t 6), none, none⟩,
  ⟨(some 3), .mv (.t 7), none, none⟩]
def f62r1 : IC := .reg false [] f62o1 [3]
@[simp] theorem f62r1_run : run tbl fin K f62r1 e H = regK tbl fin K [] f62o1 [3] e H := run_regK _ _ _ _ _ _ _ _ _ rfl
def f62body : IC := (.seq f62r0 (.seq f62r1 .ret))
def f62 : IFn := ⟨8, 2, [.tmp 3], f62body⟩
/- 63: slices.ContainsFunc[[]jobshell/api.Proc,jobshell/api.Proc] -/
@[simp] def f63o0 : List IOper := [
  ⟨(some 4), .mv (.c (.bool false)), none, none⟩]
def f63r0 : IC := .reg false [] f63o0 [0, 1]
@[simp] theorem f63r0_run : run tbl fin K f63r0 e H = regK tbl fin K [] f63o0 [0, 1] e H := run_regK _ _ _ _ _ _ _ _ _ rfl
@[simp] def f63o1 : List IOper := [
  ⟨(some 5), .mv (.t 0), none, none⟩,
  ⟨(some 6), .mv (.t 1), none, none⟩,
  ⟨(some 7), .ocall (.c (.fn 52 [])) [(.t 5), (.t 6)], none, none⟩,
  ⟨(some 8), .bin .geq (.t 7) (.c (.int .i64 0)), none, none⟩,
  ⟨(some 4), .mv (.t 8), none, none⟩]
def f63r1 : IC := .reg false [] f63o1 [4]
@[simp] theorem f63r1_run : run tbl fin K f63r1 e H = regK tbl fin K [] f63o1 [4] e H := run_regK _ _ _ _ _ _ _ _ _ rfl
def f63body : IC := (.seq f63r0 (.seq f63r1 .ret))
def f63 : IFn := ⟨9, 2, [.tmp 4], f63body⟩
/- 64: jobshell/proc.Session$1 -/
@[simp] def f64o0 : List IOper := [
  ⟨(some 2), .box 30 13 (.t 0), none, none⟩,
  ⟨(some 3), .mv (.c (.bool false)), none, none⟩]
def f64r0 : IC := .reg false [] f64o0 [2, 1]
@[simp] theorem f64r0_run : run tbl fin K f64r0 e H = regK tbl fin K [] f64o0 [2, 1] e H := run_regK _ _ _ _ _ _ _ _ _ rfl
@[simp] def f64o1 : List IOper := [
  ⟨(some 4), .fld 2 (.t 2), none, none⟩,
  ⟨(some 5), .load false 1 (.t 4), none, none⟩,
  ⟨(some 6), .load false 1 (.t 1), none, none⟩,
  ⟨(some 7), .bin .eql (.t 5) (.t 6), none, none⟩,
  ⟨(some 3), .mv (.t 7), none, none⟩]
def f64r1 : IC := .reg false [] f64o1 [3]
@[simp] theorem f64r1_run : run tbl fin K f64r1 e H = regK tbl fin K [] f64o1 [3] e H := run_regK _ _ _ _ _ _ _ _ _ rfl
def f64body : IC := (.seq f64r0 (.seq f64r1 .ret))
def f64 : IFn := ⟨8, 2, [.tmp 3], f64body⟩
/- 65: jobshell/proc.number -/
@[simp] def f65o0 : List IOper := [
  ⟨(some 2), .mv (.c (.bool false)), none, none⟩]
def f65r0 : IC := .reg false [] f65o0 [0]
@[simp] theorem f65r0_run : run tbl fin K f65r0 e H = regK tbl fin K [] f65o0 [0] e H := run_regK _ _ _ _ _ _ _ _ _ rfl
@[simp] def f65o1 : List IOper := [
  ⟨(some 3), .mv (.t 0), none, none⟩,
  ⟨(some 4), .bin .geq (.t 3) (.c (.int .i64 1)), none, none⟩,
  ⟨(some 5), .mv (.t 4), none, none⟩,
  ⟨(some 6), .mv (.t 0), (some (5, true)), none⟩,
  ⟨(some 7), .bin .leq (.t 6) (.c (.int .i64 2147483647)), (some (5, true)), none⟩,
  ⟨(some 8), .pick (.t 5) (.t 7) (.c (.bool false)), none, none⟩,
  ⟨(some 2), .mv (.t 8), none, none⟩]
def f65r1 : IC := .reg false [] f65o1 [2]
@[simp] theorem f65r1_run : run tbl fin K f65r1 e H = regK tbl fin K [] f65o1 [2] e H := run_regK _ _ _ _ _ _ _ _ _ rfl
def f65body : IC := (.seq f65r0 (.seq f65r1 .ret))
def f65 : IFn := ⟨9, 1, [.tmp 2], f65body⟩
/- 66: jobshell/proc.Fork$1 -/
@[simp] def f66o0 : List IOper := [
  ⟨(some 2), .box 30 13 (.t 0), none, none⟩,
  ⟨(some 3), .mv (.c (.bool false)), none, none⟩]
def f66r0 : IC := .reg false [] f66o0 [2, 1]
@[simp] theorem f66r0_run : run tbl fin K f66r0 e H = regK tbl fin K [] f66o0 [2, 1] e H := run_regK _ _ _ _ _ _ _ _ _ rfl
@[simp] def f66o1 : List IOper := [
  ⟨(some 4), .fld 0 (.t 2), none, none⟩,
  ⟨(some 5), .load false 1 (.t 4), none, none⟩,
  ⟨(some 6), .load false 1 (.t 1), none, none⟩,
  ⟨(some 7), .bin .eql (.t 5) (.t 6), none, none⟩,
  ⟨(some 3), .mv (.t 7), none, none⟩]
def f66r1 : IC := .reg false [] f66o1 [3]
@[simp] theorem f66r1_run : run tbl fin K f66r1 e H = regK tbl fin K [] f66o1 [3] e H := run_regK _ _ _ _ _ _ _ _ _ rfl
def f66body : IC := (.seq f66r0 (.seq f66r1 .ret))
def f66 : IFn := ⟨8, 2, [.tmp 3], f66body⟩
/- 67: jobshell/signal.Fork -/
@[simp] def f67o0 : List IOper := [
  ⟨(some 1), .box 27 3 (.t 0), none, none⟩,
  ⟨(some 2), .new 27 3 (.agg [.e0, .e0, .e0]), none, none⟩]
def f67r0 : IC := .reg false [] f67o0 [1, 2]
@[simp] theorem f67r0_run : run tbl fin K f67r0 e H = regK tbl fin K [] f67o0 [1, 2] e H := run_regK _ _ _ _ _ _ _ _ _ rfl
@[simp] def f67o1 : List IOper := [
  ⟨(some 3), .load true 3 (.t 1), none, none⟩,
  ⟨(some 4), .call (.c (.fn 89 [])) [(.t 3)], none, none⟩,
  ⟨none, .store 3 (.t 1) (.t 4), none, none⟩]
def f67r1 : IC := .reg false [] f67o1 [1, 2]
@[simp] theorem f67r1_run : run tbl fin K f67r1 e H = regK tbl fin K [] f67o1 [1, 2] e H := run_regK _ _ _ _ _ _ _ _ _ rfl
@[simp] def f67o2 : List IOper := [
  ⟨(some 5), .fld 0 (.t 1), none, none⟩,
  ⟨none, .store 1 (.t 5) (.c .e0), none, none⟩]
def f67r2 : IC := .reg false [] f67o2 [1, 2]
@[simp] theorem f67r2_run : run tbl fin K f67r2 e H = regK tbl fin K [] f67o2 [1, 2] e H := run_regK _ _ _ _ _ _ _ _ _ rfl
@[simp] def f67o3 : List IOper := [
  ⟨(some 6), .load true 3 (.t 1), none, none⟩,
  ⟨none, .store 3 (.t 2) (.t 6), none, none⟩]
def f67r3 : IC := .reg false [] f67o3 [2]
@[simp] theorem f67r3_run : run tbl fin K f67r3 e H = regK tbl fin K [] f67o3 [2] e H := run_regK _ _ _ _ _ _ _ _ _ rfl
def f67body : IC := (.seq f67r0 (.seq f67r1 (.seq f67r2 (.seq f67r3 .ret))))
def f67 : IFn := ⟨7, 1, [.cell 2 true 3], f67body⟩
/- 68: slices.Insert[[]jobshell/api.Proc,jobshell/api.Proc] -/
@[simp] def f68o0 : List IOper := [
  ⟨(some 6), .nilrow 30 13, none, none⟩]
def f68r0 : IC := .reg false [] f68o0 [2, 1, 0]
@[simp] theorem f68r0_run : run tbl fin K f68r0 e H = regK tbl fin K [] f68o0 [2, 1, 0] e H := run_regK _ _ _ _ _ _ _ _ _ rfl
@[simp] def f68o1 : List IOper := [
  ⟨(some 10), .mv (.t 0), none, none⟩,
  ⟨(some 11), .mv (.t 1), none, none⟩,
  ⟨(some 12), .slc 13 (.t 10) (some (.t 11)) none, none, none⟩]
def f68r1 : IC := .reg false [] f68o1 [2, 1, 0]
@[simp] theorem f68r1_run : run tbl fin K f68r1 e H = regK tbl fin K [] f68o1 [2, 1, 0] e H := run_regK _ _ _ _ _ _ _ _ _ rfl
@[simp] def f68o2 : List IOper := [
  ⟨(some 13), .mv (.t 2), none, none⟩,
  ⟨(some 14), .len (.t 13), none, none⟩,
  ⟨(some 7), .mv (.t 14), none, none⟩]
def f68r2 : IC := .reg false [] f68o2 [2, 7, 1, 0]
@[simp] theorem f68r2_run : run tbl fin K f68r2 e H = regK tbl fin K [] f68o2 [2, 7, 1, 0] e H := run_regK _ _ _ _ _ _ _ _ _ rfl
@[simp] def f68o3 : List IOper := [
  ⟨(some 15), .mv (.t 7), none, none⟩,
  ⟨(some 16), .bin .eql (.t 15) (.c (.int .i64 0)), none, none⟩]
def f68r3 : IC := .reg false [] f68o3 [16, 2, 7, 1, 0]
@[simp] theorem f68r3_run : run tbl fin K f68r3 e H = regK tbl fin K [] f68o3 [16, 2, 7, 1, 0] e H := run_regK _ _ _ _ _ _ _ _ _ rfl
@[simp] def f68o4 : List IOper := [
  ⟨(some 17), .mv (.t 0), none, none⟩,
  ⟨(some 6), .mv (.t 17), none, none⟩]
def f68r4 : IC := .reg false [] f68o4 [6]
@[simp] theorem f68r4_run : run tbl fin K f68r4 e H = regK tbl fin K [] f68o4 [6] e H := run_regK _ _ _ _ _ _ _ _ _ rfl
@[simp] def f68o5 : List IOper := [
  ⟨(some 18), .mv (.t 0), none, none⟩,
  ⟨(some 19), .len (.t 18), none, none⟩,
  ⟨(some 8), .mv (.t 19), none, none⟩]
def f68r5 : IC := .reg false [] f68o5 [1, 7, 8, 0, 2]
@[simp] theorem f68r5_run : run tbl fin K f68r5 e H = regK tbl fin K [] f68o5 [1, 7, 8, 0, 2] e H := run_regK _ _ _ _ _ _ _ _ _ rfl
@[simp] def f68o6 : List IOper := [
  ⟨(some 20), .mv (.t 1), none, none⟩,
  ⟨(some 21), .mv (.t 8), none, none⟩,
  ⟨(some 22), .bin .eql (.t 20) (.t 21), none, none⟩]
def f68r6 : IC := .reg false [] f68o6 [22, 1, 7, 8, 0, 2]
@[simp] theorem f68r6_run : run tbl fin K f68r6 e H = regK tbl fin K [] f68o6 [22, 1, 7, 8, 0, 2] e H := run_regK _ _ _ _ _ _ _ _ _ rfl
@[simp] def f68o7 : List IOper := [
  ⟨(some 23), .mv (.t 0), none, none⟩,
  ⟨(some 24), .mv (.t 2), none, none⟩,
  ⟨(some 25), .app 30 13 (.t 23) (.t 24), none, none⟩,
  ⟨(some 6), .mv (.t 25), none, none⟩]
def f68r7 : IC := .reg false [] f68o7 [6]
@[simp] theorem f68r7_run : run tbl fin K f68r7 e H = regK tbl fin K [] f68o7 [6] e H := run_regK _ _ _ _ _ _ _ _ _ rfl
@[simp] def f68o8 : List IOper := [
  ⟨(some 26), .mv (.t 8), none, none⟩,
  ⟨(some 27), .mv (.t 7), none, none⟩,
  ⟨(some 28), .bin .add (.t 26) (.t 27), none, none⟩,
  ⟨(some 29), .mv (.t 0), none, none⟩,
  ⟨(some 30), .bad, none, none⟩,
  ⟨(some 31), .bin .gtr (.t 28) (.t 30), none, none⟩]
def f68r8 : IC := .reg false [] f68o8 [31, 8, 2, 7, 0, 1]
@[simp] theorem f68r8_run : run tbl fin K f68r8 e H = regK tbl fin K [] f68o8 [31, 8, 2, 7, 0, 1] e H := run_regK _ _ _ _ _ _ _ _ _ rfl
@[simp] def f68o9 : List IOper := [
  ⟨(some 32), .mv (.t 0), none, none⟩,
  ⟨(some 33), .mv (.t 1), none, none⟩,
  ⟨(some 34), .slc 13 (.t 32) none (some (.t 33)), none, none⟩,
  ⟨(some 35), .mv (.t 8), none, none⟩,
  ⟨(some 36), .mv (.t 7), none, none⟩,
  ⟨(some 37), .bin .add (.t 35) (.t 36), none, none⟩,
  ⟨(some 38), .mv (.t 1), none, none⟩,
  ⟨(some 39), .bin .sub (.t 37) (.t 38), none, none⟩,
  ⟨(some 40), .bad, none, none⟩,
  ⟨(some 9), .mv (.t 40), none, none⟩]
def f68r9 : IC := .reg false [] f68o9 [2, 7, 0, 1, 9]
@[simp] theorem f68r9_run : run tbl fin K f68r9 e H = regK tbl fin K [] f68o9 [2, 7, 0, 1, 9] e H := run_regK _ _ _ _ _ _ _ _ _ rfl
@[simp] def f68o10 : List IOper := [
  ⟨(some 41), .mv (.t 9), none, none⟩,
  ⟨(some 42), .mv (.t 1), none, none⟩,
  ⟨(some 43), .slc 13 (.t 41) (some (.t 42)) none, none, none⟩,
  ⟨(some 44), .mv (.t 2), none, none⟩,
  ⟨(some 45), .bad, none, none⟩]
def f68r10 : IC := .reg false [] f68o10 [7, 0, 1, 9]
@[simp] theorem f68r10_run : run tbl fin K f68r10 e H = regK tbl fin K [] f68o10 [7, 0, 1, 9] e H := run_regK _ _ _ _ _ _ _ _ _ rfl
@[simp] def f68o11 : List IOper := [
  ⟨(some 46), .mv (.t 9), none, none⟩,
  ⟨(some 47), .mv (.t 1), none, none⟩,
  ⟨(some 48), .mv (.t 7), none, none⟩,
  ⟨(some 49), .bin .add (.t 47) (.t 48), none, none⟩,
  ⟨(some 50), .slc 13 (.t 46) (some (.t 49)) none, none, none⟩,
  ⟨(some 51), .mv (.t 0), none, none⟩,
  ⟨(some 52), .mv (.t 1), none, none⟩,
  ⟨(some 53), .slc 13 (.t 51) (some (.t 52)) none, none, none⟩,
  ⟨(some 54), .bad, none, none⟩]
def f68r11 : IC := .reg true [] f68o11 [9]
@[simp] theorem f68r11_run : run tbl fin K f68r11 e H = regK tbl fin K [] f68o11 [9] e H := run_regK _ _ _ _ _ _ _ _ _ rfl
@[simp] def f68o12 : List IOper := [
  ⟨(some 55), .mv (.t 9), none, none⟩,
  ⟨(some 6), .mv (.t 55), none, none⟩]
def f68r12 : IC := .reg false [] f68o12 [6]
@[simp] theorem f68r12_run : run tbl fin K f68r12 e H = regK tbl fin K [] f68o12 [6] e H := run_regK _ _ _ _ _ _ _ _ _ rfl
@[simp] def f68o13 : List IOper := [
  ⟨(some 56), .mv (.t 0), none, none⟩,
  ⟨(some 57), .mv (.t 8), none, none⟩,
  ⟨(some 58), .mv (.t 7), none, none⟩,
  ⟨(some 59), .bin .add (.t 57) (.t 58), none, none⟩,
  ⟨(some 60), .slc 13 (.t 56) none (some (.t 59)), none, none⟩,
  ⟨(some 0), .mv (.t 60), none, none⟩]
def f68r13 : IC := .reg false [] f68o13 [8, 7, 1, 2, 0]
@[simp] theorem f68r13_run : run tbl fin K f68r13 e H = regK tbl fin K [] f68o13 [8, 7, 1, 2, 0] e H := run_regK _ _ _ _ _ _ _ _ _ rfl
@[simp] def f68o14 : List IOper := [
  ⟨(some 61), .mv (.t 2), none, none⟩,
  ⟨(some 62), .mv (.t 0), none, none⟩,
  ⟨(some 63), .mv (.t 1), none, none⟩,
  ⟨(some 64), .mv (.t 7), none, none⟩,
  ⟨(some 65), .bin .add (.t 63) (.t 64), none, none⟩,
  ⟨(some 66), .slc 13 (.t 62) (some (.t 65)) none, none, none⟩,
  ⟨(some 67), .call (.c (.fn 90 [])) [(.t 61), (.t 66)], none, none⟩,
  ⟨(some 68), .un .not (.t 67), none, none⟩]
def f68r14 : IC := .reg false [] f68o14 [68, 8, 7, 1, 2, 0]
@[simp] theorem f68r14_run : run tbl fin K f68r14 e H = regK tbl fin K [] f68o14 [68, 8, 7, 1, 2, 0] e H := run_regK _ _ _ _ _ _ _ _ _ rfl
@[simp] def f68o15 : List IOper := [
  ⟨(some 69), .mv (.t 0), none, none⟩,
  ⟨(some 70), .mv (.t 1), none, none⟩,
  ⟨(some 71), .mv (.t 7), none, none⟩,
  ⟨(some 72), .bin .add (.t 70) (.t 71), none, none⟩,
  ⟨(some 73), .slc 13 (.t 69) (some (.t 72)) none, none, none⟩,
  ⟨(some 74), .mv (.t 0), none, none⟩,
  ⟨(some 75), .mv (.t 1), none, none⟩,
  ⟨(some 76), .slc 13 (.t 74) (some (.t 75)) none, none, none⟩,
  ⟨(some 77), .bad, none, none⟩]
def f68r15 : IC := .reg true [] f68o15 [1, 2, 0]
@[simp] theorem f68r15_run : run tbl fin K f68r15 e H = regK tbl fin K [] f68o15 [1, 2, 0] e H := run_regK _ _ _ _ _ _ _ _ _ rfl
@[simp] def f68o16 : List IOper := [
  ⟨(some 78), .mv (.t 0), none, none⟩,
  ⟨(some 79), .mv (.t 1), none, none⟩,
  ⟨(some 80), .slc 13 (.t 78) (some (.t 79)) none, none, none⟩,
  ⟨(some 81), .mv (.t 2), none, none⟩,
  ⟨(some 82), .bad, none, none⟩]
def f68r16 : IC := .reg false [] f68o16 [0]
@[simp] theorem f68r16_run : run tbl fin K f68r16 e H = regK tbl fin K [] f68o16 [0] e H := run_regK _ _ _ _ _ _ _ _ _ rfl
@[simp] def f68o17 : List IOper := [
  ⟨(some 83), .mv (.t 0), none, none⟩,
  ⟨(some 6), .mv (.t 83), none, none⟩]
def f68r17 : IC := .reg false [] f68o17 [6]
@[simp] theorem f68r17_run : run tbl fin K f68r17 e H = regK tbl fin K [] f68o17 [6] e H := run_regK _ _ _ _ _ _ _ _ _ rfl
@[simp] def f68o18 : List IOper := [
  ⟨(some 84), .mv (.t 0), none, none⟩,
  ⟨(some 85), .mv (.t 8), none, none⟩,
  ⟨(some 86), .slc 13 (.t 84) (some (.t 85)) none, none, none⟩,
  ⟨(some 87), .mv (.t 2), none, none⟩,
  ⟨(some 88), .bad, none, none⟩]
def f68r18 : IC := .reg false [] f68o18 [1, 7, 0]
@[simp] theorem f68r18_run : run tbl fin K f68r18 e H = regK tbl fin K [] f68o18 [1, 7, 0] e H := run_regK _ _ _ _ _ _ _ _ _ rfl
@[simp] def f68o19 : List IOper := [
  ⟨(some 89), .mv (.t 0), none, none⟩,
  ⟨(some 90), .mv (.t 1), none, none⟩,
  ⟨(some 91), .slc 13 (.t 89) (some (.t 90)) none, none, none⟩,
  ⟨(some 92), .mv (.t 7), none, none⟩,
  ⟨(some 93), .call (.c (.fn 91 [])) [(.t 91), (.t 92)], none, none⟩]
def f68r19 : IC := .reg false [] f68o19 [0]
@[simp] theorem f68r19_run : run tbl fin K f68r19 e H = regK tbl fin K [] f68o19 [0] e H := run_regK _ _ _ _ _ _ _ _ _ rfl
@[simp] def f68o20 : List IOper := [
  ⟨(some 94), .mv (.t 0), none, none⟩,
  ⟨(some 6), .mv (.t 94), none, none⟩]
def f68r20 : IC := .reg false [] f68o20 [6]
@[simp] theorem f68r20_run : run tbl fin K f68r20 e H = regK tbl fin K [] f68o20 [6] e H := run_regK _ _ _ _ _ _ _ _ _ rfl
def f68body : IC := (.seq f68r0 (.seq f68r1 (.seq f68r2 (.seq (.seq f68r3 (.cond (.t 16) (.seq f68r4 .ret) .skip)) (.seq f68r5 (.seq (.seq f68r6 (.cond (.t 22) (.seq f68r7 .ret) .skip)) (.seq (.seq f68r8 (.cond (.t 31) (.seq f68r9 (.seq f68r10 (.seq f68r11 (.seq f68r12 .ret)))) .skip)) (.seq f68r13 (.seq (.seq f68r14 (.cond (.t 68) (.seq f68r15 (.seq f68r16 (.seq f68r17 .ret))) .skip)) (.seq f68r18 (.seq f68r19 (.seq f68r20 .ret))))))))))))
def f68 : IFn := ⟨95, 3, [.tmp 6], f68body⟩
/- 69: jobshell/status.Kind -/
@[simp] def f69o0 : List IOper := [
  ⟨(some 2), .mv (.c (.int .i64 0)), none, none⟩,
  ⟨(some 3), .mv (.c (.int .i64 0)), none, none⟩]
def f69r0 : IC := .reg false [] f69o0 [0]
@[simp] theorem f69r0_run : run tbl fin K f69r0 e H = regK tbl fin K [] f69o0 [0] e H := run_regK _ _ _ _ _ _ _ _ _ rfl
@[simp] def f69o1 : List IOper := [
  ⟨(some 7), .mv (.t 0), none, none⟩,
  ⟨(some 8), .bin .lss (.t 7) (.c (.int .i64 0)), none, none⟩]
def f69r1 : IC := .reg false [] f69o1 [8, 0]
@[simp] theorem f69r1_run : run tbl fin K f69r1 e H = regK tbl fin K [] f69o1 [8, 0] e H := run_regK _ _ _ _ _ _ _ _ _ rfl
@[simp] def f69o2 : List IOper := [
  ⟨(some 2), .mv (.c (.int .i64 (-1))), none, none⟩,
  ⟨(some 3), .mv (.c (.int .i64 0)), none, none⟩]
def f69r2 : IC := .reg false [] f69o2 [2, 3]
@[simp] theorem f69r2_run : run tbl fin K f69r2 e H = regK tbl fin K [] f69o2 [2, 3] e H := run_regK _ _ _ _ _ _ _ _ _ rfl
@[simp] def f69o3 : List IOper := [
  ⟨(some 9), .mv (.t 0), none, none⟩,
  ⟨(some 10), .bin .quo (.t 9) (.c (.int .i64 256)), none, none⟩,
  ⟨(some 11), .mv (.t 0), none, none⟩,
  ⟨(some 12), .bin .rem (.t 11) (.c (.int .i64 256)), none, none⟩,
  ⟨(some 4), .mv (.t 10), none, none⟩,
  ⟨(some 5), .mv (.t 12), none, none⟩]
def f69r3 : IC := .reg false [] f69o3 [5, 4]
@[simp] theorem f69r3_run : run tbl fin K f69r3 e H = regK tbl fin K [] f69o3 [5, 4] e H := run_regK _ _ _ _ _ _ _ _ _ rfl
@[simp] def f69o4 : List IOper := [
  ⟨(some 6), .mv (.c (.bool false)), none, none⟩]
def f69r4 : IC := .reg false [] f69o4 [6, 5, 4]
@[simp] theorem f69r4_run : run tbl fin K f69r4 e H = regK tbl fin K [] f69o4 [6, 5, 4] e H := run_regK _ _ _ _ _ _ _ _ _ rfl
@[simp] def f69o5 : List IOper := [
  ⟨(some 13), .mv (.t 4), none, none⟩]
def f69r5 : IC := .reg false [] f69o5 [13, 6, 5, 4]
@[simp] theorem f69r5_run : run tbl fin K f69r5 e H = regK tbl fin K [] f69o5 [13, 6, 5, 4] e H := run_regK _ _ _ _ _ _ _ _ _ rfl
@[simp] def f69o6 : List IOper := [
  ⟨(some 15), .bin .eql (.t 13) (.c (.int .i64 0)), none, none⟩,
  ⟨(some 14), .mv (.t 15), none, none⟩]
def f69r6 : IC := .reg false [] f69o6 [14, 13, 6, 5, 4]
@[simp] theorem f69r6_run : run tbl fin K f69r6 e H = regK tbl fin K [] f69o6 [14, 13, 6, 5, 4] e H := run_regK _ _ _ _ _ _ _ _ _ rfl
@[simp] def f69o7 : List IOper := [
  ⟨(some 6), .mv (.c (.bool true)), none, none⟩]
def f69r7 : IC := .reg false [] f69o7 [6, 5, 4]
@[simp] theorem f69r7_run : run tbl fin K f69r7 e H = regK tbl fin K [] f69o7 [6, 5, 4] e H := run_regK _ _ _ _ _ _ _ _ _ rfl
@[simp] def f69o8 : List IOper := [
  ⟨(some 17), .bin .eql (.t 13) (.c (.int .i64 1)), none, none⟩,
  ⟨(some 16), .mv (.t 17), none, none⟩]
def f69r8 : IC := .reg false [] f69o8 [16, 6, 13, 5, 4]
@[simp] theorem f69r8_run : run tbl fin K f69r8 e H = regK tbl fin K [] f69o8 [16, 6, 13, 5, 4] e H := run_regK _ _ _ _ _ _ _ _ _ rfl
@[simp] def f69o9 : List IOper := [
  ⟨(some 18), .bin .eql (.t 13) (.c (.int .i64 2)), none, none⟩,
  ⟨(some 16), .mv (.t 18), none, none⟩]
def f69r9 : IC := .reg false [] f69o9 [16, 6, 13, 5, 4]
@[simp] theorem f69r9_run : run tbl fin K f69r9 e H = regK tbl fin K [] f69o9 [16, 6, 13, 5, 4] e H := run_regK _ _ _ _ _ _ _ _ _ rfl
@[simp] def f69o10 : List IOper := [
  ⟨(some 19), .mv (.t 5), none, none⟩,
  ⟨(some 20), .bin .geq (.t 19) (.c (.int .i64 1)), none, none⟩,
  ⟨(some 21), .mv (.t 20), none, none⟩,
  ⟨(some 22), .mv (.t 5), (some (21, true)), none⟩,
  ⟨(some 23), .bin .leq (.t 22) (.c (.int .i64 20)), (some (21, true)), none⟩,
  ⟨(some 24), .pick (.t 21) (.t 23) (.c (.bool false)), none, none⟩,
  ⟨(some 6), .mv (.t 24), none, none⟩]
def f69r10 : IC := .reg false [] f69o10 [6, 5, 4]
@[simp] theorem f69r10_run : run tbl fin K f69r10 e H = regK tbl fin K [] f69o10 [6, 5, 4] e H := run_regK _ _ _ _ _ _ _ _ _ rfl
@[simp] def f69o11 : List IOper := [
  ⟨(some 26), .bin .eql (.t 13) (.c (.int .i64 3)), none, none⟩,
  ⟨(some 25), .mv (.t 26), none, none⟩]
def f69r11 : IC := .reg false [] f69o11 [25, 6, 5, 4]
@[simp] theorem f69r11_run : run tbl fin K f69r11 e H = regK tbl fin K [] f69o11 [25, 6, 5, 4] e H := run_regK _ _ _ _ _ _ _ _ _ rfl
@[simp] def f69o12 : List IOper := [
  ⟨(some 27), .mv (.t 5), none, none⟩,
  ⟨(some 28), .bin .eql (.t 27) (.c (.int .i64 0)), none, none⟩,
  ⟨(some 6), .mv (.t 28), none, none⟩]
def f69r12 : IC := .reg false [] f69o12 [6, 5, 4]
@[simp] theorem f69r12_run : run tbl fin K f69r12 e H = regK tbl fin K [] f69o12 [6, 5, 4] e H := run_regK _ _ _ _ _ _ _ _ _ rfl
@[simp] def f69o13 : List IOper := [
  ⟨(some 29), .mv (.t 6), none, none⟩,
  ⟨(some 30), .un .not (.t 29), none, none⟩]
def f69r13 : IC := .reg false [] f69o13 [30, 5, 4]
@[simp] theorem f69r13_run : run tbl fin K f69r13 e H = regK tbl fin K [] f69o13 [30, 5, 4] e H := run_regK _ _ _ _ _ _ _ _ _ rfl
@[simp] def f69o14 : List IOper := [
  ⟨(some 2), .mv (.c (.int .i64 (-1))), none, none⟩,
  ⟨(some 3), .mv (.c (.int .i64 0)), none, none⟩]
def f69r14 : IC := .reg false [] f69o14 [2, 3]
@[simp] theorem f69r14_run : run tbl fin K f69r14 e H = regK tbl fin K [] f69o14 [2, 3] e H := run_regK _ _ _ _ _ _ _ _ _ rfl
@[simp] def f69o15 : List IOper := [
  ⟨(some 31), .mv (.t 4), none, none⟩,
  ⟨(some 32), .mv (.t 5), none, none⟩,
  ⟨(some 2), .mv (.t 31), none, none⟩,
  ⟨(some 3), .mv (.t 32), none, none⟩]
def f69r15 : IC := .reg false [] f69o15 [2, 3]
@[simp] theorem f69r15_run : run tbl fin K f69r15 e H = regK tbl fin K [] f69o15 [2, 3] e H := run_regK _ _ _ _ _ _ _ _ _ rfl
def f69body : IC := (.seq f69r0 (.seq (.seq f69r1 (.cond (.t 8) (.seq f69r2 .ret) .skip)) (.seq f69r3 (.seq f69r4 (.seq (.seq f69r5 (.block 0 (.seq f69r6 (.cond (.t 14) f69r7 (.seq (.seq f69r8 (.cond (.t 16) .skip f69r9)) (.cond (.t 16) f69r10 (.seq f69r11 (.cond (.t 25) f69r12 .skip)))))))) (.seq (.seq f69r13 (.cond (.t 30) (.seq f69r14 .ret) .skip)) (.seq f69r15 .ret)))))))
def f69 : IFn := ⟨33, 1, [.tmp 2, .tmp 3], f69body⟩
/- 70: jobshell/proc.alive -/
@[simp] def f70o0 : List IOper := [
  ⟨(some 1), .box 30 13 (.t 0), none, none⟩,
  ⟨(some 2), .mv (.c (.bool false)), none, none⟩]
def f70r0 : IC := .reg false [] f70o0 [1]
@[simp] theorem f70r0_run : run tbl fin K f70r0 e H = regK tbl fin K [] f70o0 [1] e H := run_regK _ _ _ _ _ _ _ _ _ rfl
@[simp] def f70o1 : List IOper := [
  ⟨(some 3), .fld 4 (.t 1), none, none⟩,
  ⟨(some 4), .load false 1 (.t 3), none, none⟩,
  ⟨(some 5), .bin .neq (.t 4) (.c (.int .i64 3)), none, none⟩,
  ⟨(some 2), .mv (.t 5), none, none⟩]
def f70r1 : IC := .reg false [] f70o1 [2]
@[simp] theorem f70r1_run : run tbl fin K f70r1 e H = regK tbl fin K [] f70o1 [2] e H := run_regK _ _ _ _ _ _ _ _ _ rfl
def f70body : IC := (.seq f70r0 (.seq f70r1 .ret))
def f70 : IFn := ⟨6, 1, [.tmp 2], f70body⟩
/- 71: jobshell/proc.Targets$1 -/
@[simp] def f71o0 : List IOper := [
  ⟨(some 2), .box 30 13 (.t 0), none, none⟩,
  ⟨(some 3), .mv (.c (.bool false)), none, none⟩]
def f71r0 : IC := .reg false [] f71o0 [2, 1]
@[simp] theorem f71r0_run : run tbl fin K f71r0 e H = regK tbl fin K [] f71o0 [2, 1] e H := run_regK _ _ _ _ _ _ _ _ _ rfl
@[simp] def f71o1 : List IOper := [
  ⟨(some 4), .fld 0 (.t 2), none, none⟩,
  ⟨(some 5), .load false 1 (.t 4), none, none⟩,
  ⟨(some 6), .load false 1 (.t 1), none, none⟩,
  ⟨(some 7), .bin .eql (.t 5) (.t 6), none, none⟩,
  ⟨(some 3), .mv (.t 7), none, none⟩]
def f71r1 : IC := .reg false [] f71o1 [3]
@[simp] theorem f71r1_run : run tbl fin K f71r1 e H = regK tbl fin K [] f71o1 [3] e H := run_regK _ _ _ _ _ _ _ _ _ rfl
def f71body : IC := (.seq f71r0 (.seq f71r1 .ret))
def f71 : IFn := ⟨8, 2, [.tmp 3], f71body⟩
/- 72: jobshell/jobshellref27.number -/
@[simp] def f72o0 : List IOper := [
  ⟨(some 2), .mv (.c (.bool false)), none, none⟩]
def f72r0 : IC := .reg false [] f72o0 [0]
@[simp] theorem f72r0_run : run tbl fin K f72r0 e H = regK tbl fin K [] f72o0 [0] e H := run_regK _ _ _ _ _ _ _ _ _ rfl
@[simp] def f72o1 : List IOper := [
  ⟨(some 3), .mv (.t 0), none, none⟩,
  ⟨(some 4), .bin .geq (.t 3) (.c (.int .i64 1)), none, none⟩,
  ⟨(some 5), .mv (.t 4), none, none⟩,
  ⟨(some 6), .mv (.t 0), (some (5, true)), none⟩,
  ⟨(some 7), .bin .leq (.t 6) (.c (.int .i64 2147483647)), (some (5, true)), none⟩,
  ⟨(some 8), .pick (.t 5) (.t 7) (.c (.bool false)), none, none⟩,
  ⟨(some 2), .mv (.t 8), none, none⟩]
def f72r1 : IC := .reg false [] f72o1 [2]
@[simp] theorem f72r1_run : run tbl fin K f72r1 e H = regK tbl fin K [] f72o1 [2] e H := run_regK _ _ _ _ _ _ _ _ _ rfl
def f72body : IC := (.seq f72r0 (.seq f72r1 .ret))
def f72 : IFn := ⟨9, 1, [.tmp 2], f72body⟩
/- 73: jobshell/jobshellref25.Fork -/
@[simp] def f73o0 : List IOper := [
  ⟨(some 1), .box 27 3 (.t 0), none, none⟩,
  ⟨(some 2), .new 27 3 (.agg [.e0, .e0, .e0]), none, none⟩]
def f73r0 : IC := .reg false [] f73o0 [1, 2]
@[simp] theorem f73r0_run : run tbl fin K f73r0 e H = regK tbl fin K [] f73o0 [1, 2] e H := run_regK _ _ _ _ _ _ _ _ _ rfl
@[simp] def f73o1 : List IOper := [
  ⟨(some 3), .fld 0 (.t 1), none, none⟩,
  ⟨none, .store 1 (.t 3) (.c .e0), none, none⟩]
def f73r1 : IC := .reg false [] f73o1 [1, 2]
@[simp] theorem f73r1_run : run tbl fin K f73r1 e H = regK tbl fin K [] f73o1 [1, 2] e H := run_regK _ _ _ _ _ _ _ _ _ rfl
@[simp] def f73o2 : List IOper := [
  ⟨(some 4), .load true 3 (.t 1), none, none⟩,
  ⟨none, .store 3 (.t 2) (.t 4), none, none⟩]
def f73r2 : IC := .reg false [] f73o2 [2]
@[simp] theorem f73r2_run : run tbl fin K f73r2 e H = regK tbl fin K [] f73o2 [2] e H := run_regK _ _ _ _ _ _ _ _ _ rfl
def f73body : IC := (.seq f73r0 (.seq f73r1 (.seq f73r2 .ret)))
def f73 : IFn := ⟨5, 1, [.cell 2 true 3], f73body⟩
/- 74: jobshell/jobshellref22.Kind -/
@[simp] def f74o0 : List IOper := [
  ⟨(some 2), .mv (.c (.int .i64 0)), none, none⟩,
  ⟨(some 3), .mv (.c (.int .i64 0)), none, none⟩]
def f74r0 : IC := .reg false [] f74o0 [0]
@[simp] theorem f74r0_run : run tbl fin K f74r0 e H = regK tbl fin K [] f74o0 [0] e H := run_regK _ _ _ _ _ _ _ _ _ rfl
@[simp] def f74o1 : List IOper := [
  ⟨(some 6), .mv (.t 0), none, none⟩,
  ⟨(some 7), .bin .lss (.t 6) (.c (.int .i64 0)), none, none⟩,
  ⟨(some 8), .mv (.t 7), none, none⟩,
  ⟨(some 9), .mv (.t 0), (some (8, false)), none⟩,
  ⟨(some 10), .bin .gtr (.t 9) (.c (.int .i64 768)), (some (8, false)), none⟩,
  ⟨(some 11), .pick (.t 8) (.c (.bool true)) (.t 10), none, none⟩]
def f74r1 : IC := .reg false [] f74o1 [11, 0]
@[simp] theorem f74r1_run : run tbl fin K f74r1 e H = regK tbl fin K [] f74o1 [11, 0] e H := run_regK _ _ _ _ _ _ _ _ _ rfl
@[simp] def f74o2 : List IOper := [
  ⟨(some 2), .mv (.c (.int .i64 (-1))), none, none⟩,
  ⟨(some 3), .mv (.c (.int .i64 0)), none, none⟩]
def f74r2 : IC := .reg false [] f74o2 [2, 3]
@[simp] theorem f74r2_run : run tbl fin K f74r2 e H = regK tbl fin K [] f74o2 [2, 3] e H := run_regK _ _ _ _ _ _ _ _ _ rfl
@[simp] def f74o3 : List IOper := [
  ⟨(some 12), .mv (.t 0), none, none⟩,
  ⟨(some 13), .bin .quo (.t 12) (.c (.int .i64 256)), none, none⟩,
  ⟨(some 14), .mv (.t 0), none, none⟩,
  ⟨(some 15), .bin .rem (.t 14) (.c (.int .i64 256)), none, none⟩,
  ⟨(some 4), .mv (.t 13), none, none⟩,
  ⟨(some 5), .mv (.t 15), none, none⟩]
def f74r3 : IC := .reg false [] f74o3 [5, 4]
@[simp] theorem f74r3_run : run tbl fin K f74r3 e H = regK tbl fin K [] f74o3 [5, 4] e H := run_regK _ _ _ _ _ _ _ _ _ rfl
@[simp] def f74o4 : List IOper := [
  ⟨(some 16), .mv (.t 4), none, none⟩,
  ⟨(some 17), .bin .eql (.t 16) (.c (.int .i64 1)), none, none⟩,
  ⟨(some 18), .mv (.t 17), none, none⟩,
  ⟨(some 19), .mv (.t 4), (some (18, false)), none⟩,
  ⟨(some 20), .bin .eql (.t 19) (.c (.int .i64 2)), (some (18, false)), none⟩,
  ⟨(some 21), .pick (.t 18) (.c (.bool true)) (.t 20), none, none⟩,
  ⟨(some 22), .mv (.t 21), none, none⟩,
  ⟨(some 23), .mv (.t 5), (some (22, true)), some [23, 22, 5, 4]⟩,
  ⟨(some 24), .bin .lss (.t 23) (.c (.int .i64 1)), (some (22, true)), none⟩,
  ⟨(some 25), .mv (.t 24), (some (22, true)), none⟩,
  ⟨(some 26), .mv (.t 5), (some (25, false)), none⟩,
  ⟨(some 27), .bin .gtr (.t 26) (.c (.int .i64 20)), (some (25, false)), none⟩,
  ⟨(some 28), .pick (.t 25) (.c (.bool true)) (.t 27), (some (22, true)), none⟩,
  ⟨(some 29), .pick (.t 22) (.t 28) (.c (.bool false)), none, none⟩]
def f74r4 : IC := .reg false [] f74o4 [29, 5, 4]
@[simp] theorem f74r4_run : run tbl fin K f74r4 e H = regK tbl fin K [] f74o4 [29, 5, 4] e H := run_regK _ _ _ _ _ _ _ _ _ rfl
@[simp] def f74o5 : List IOper := [
  ⟨(some 2), .mv (.c (.int .i64 (-1))), none, none⟩,
  ⟨(some 3), .mv (.c (.int .i64 0)), none, none⟩]
def f74r5 : IC := .reg false [] f74o5 [2, 3]
@[simp] theorem f74r5_run : run tbl fin K f74r5 e H = regK tbl fin K [] f74o5 [2, 3] e H := run_regK _ _ _ _ _ _ _ _ _ rfl
@[simp] def f74o6 : List IOper := [
  ⟨(some 30), .mv (.t 4), none, none⟩,
  ⟨(some 31), .mv (.t 5), none, none⟩,
  ⟨(some 2), .mv (.t 30), none, none⟩,
  ⟨(some 3), .mv (.t 31), none, none⟩]
def f74r6 : IC := .reg false [] f74o6 [2, 3]
@[simp] theorem f74r6_run : run tbl fin K f74r6 e H = regK tbl fin K [] f74o6 [2, 3] e H := run_regK _ _ _ _ _ _ _ _ _ rfl
def f74body : IC := (.seq f74r0 (.seq (.seq f74r1 (.cond (.t 11) (.seq f74r2 .ret) .skip)) (.seq f74r3 (.seq (.seq f74r4 (.cond (.t 29) (.seq f74r5 .ret) .skip)) (.seq f74r6 .ret)))))
def f74 : IFn := ⟨32, 1, [.tmp 2, .tmp 3], f74body⟩
/- 75: jobshell/status.Continued -/
@[simp] def f75o0 : List IOper := [
  ⟨(some 0), .mv (.c (.int .i64 0)), none, none⟩]
def f75r0 : IC := .reg false [] f75o0 []
@[simp] theorem f75r0_run : run tbl fin K f75r0 e H = regK tbl fin K [] f75o0 [] e H := run_regK _ _ _ _ _ _ _ _ _ rfl
@[simp] def f75o1 : List IOper := [
  ⟨(some 0), .mv (.c (.int .i64 768)), none, none⟩]
def f75r1 : IC := .reg false [] f75o1 [0]
@[simp] theorem f75r1_run : run tbl fin K f75r1 e H = regK tbl fin K [] f75o1 [0] e H := run_regK _ _ _ _ _ _ _ _ _ rfl
def f75body : IC := (.seq f75r0 (.seq f75r1 .ret))
def f75 : IFn := ⟨1, 0, [.tmp 0], f75body⟩
/- 76: jobshell/jobshellref22.Continued -/
@[simp] def f76o0 : List IOper := [
  ⟨(some 0), .mv (.c (.int .i64 0)), none, none⟩]
def f76r0 : IC := .reg false [] f76o0 []
@[simp] theorem f76r0_run : run tbl fin K f76r0 e H = regK tbl fin K [] f76o0 [] e H := run_regK _ _ _ _ _ _ _ _ _ rfl
@[simp] def f76o1 : List IOper := [
  ⟨(some 0), .mv (.c (.int .i64 768)), none, none⟩]
def f76r1 : IC := .reg false [] f76o1 [0]
@[simp] theorem f76r1_run : run tbl fin K f76r1 e H = regK tbl fin K [] f76o1 [0] e H := run_regK _ _ _ _ _ _ _ _ _ rfl
def f76body : IC := (.seq f76r0 (.seq f76r1 .ret))
def f76 : IFn := ⟨1, 0, [.tmp 0], f76body⟩
/- 77: slices.Clone[[]int,int] -/
@[simp] def f77o0 : List IOper := [
  ⟨(some 2), .nilrow 3 1, none, none⟩]
def f77r0 : IC := .reg false [] f77o0 [0]
@[simp] theorem f77r0_run : run tbl fin K f77r0 e H = regK tbl fin K [] f77o0 [0] e H := run_regK _ _ _ _ _ _ _ _ _ rfl
@[simp] def f77o1 : List IOper := [
  ⟨(some 3), .mv (.t 0), none, none⟩,
  ⟨(some 4), .eqnil false (.t 3), none, none⟩]
def f77r1 : IC := .reg false [] f77o1 [4, 0]
@[simp] theorem f77r1_run : run tbl fin K f77r1 e H = regK tbl fin K [] f77o1 [4, 0] e H := run_regK _ _ _ _ _ _ _ _ _ rfl
@[simp] def f77o2 : List IOper := [
  ⟨(some 2), .nilrow 3 1, none, none⟩]
def f77r2 : IC := .reg false [] f77o2 [2]
@[simp] theorem f77r2_run : run tbl fin K f77r2 e H = regK tbl fin K [] f77o2 [2] e H := run_regK _ _ _ _ _ _ _ _ _ rfl
@[simp] def f77o3 : List IOper := [
  ⟨(some 5), .mkrow 3 1 0 (.int .i64 0) [], none, none⟩,
  ⟨(some 6), .mv (.t 0), none, none⟩,
  ⟨(some 7), .app 3 1 (.t 5) (.t 6), none, none⟩,
  ⟨(some 2), .mv (.t 7), none, none⟩]
def f77r3 : IC := .reg false [] f77o3 [2]
@[simp] theorem f77r3_run : run tbl fin K f77r3 e H = regK tbl fin K [] f77o3 [2] e H := run_regK _ _ _ _ _ _ _ _ _ rfl
def f77body : IC := (.seq f77r0 (.seq (.seq f77r1 (.cond (.t 4) (.seq f77r2 .ret) .skip)) (.seq f77r3 .ret)))
def f77 : IFn := ⟨8, 1, [.tmp 2], f77body⟩
/- 78: jobshell/proc.fits -/
@[simp] def f78o0 : List IOper := [
  ⟨(some 1), .box 30 13 (.t 0), none, none⟩,
  ⟨(some 2), .mv (.c (.bool false)), none, none⟩]
def f78r0 : IC := .reg false [] f78o0 [1]
@[simp] theorem f78r0_run : run tbl fin K f78r0 e H = regK tbl fin K [] f78o0 [1] e H := run_regK _ _ _ _ _ _ _ _ _ rfl
@[simp] def f78o1 : List IOper := [
  ⟨(some 6), .fld 5 (.t 1), none, none⟩,
  ⟨(some 7), .load false 1 (.t 6), none, none⟩,
  ⟨(some 8), .call (.c (.fn 69 [])) [(.t 7)], none, none⟩,
  ⟨(some 5), .mv (.t 8), none, none⟩,
  ⟨(some 9), .ext (.t 5) 0, none, none⟩,
  ⟨(some 10), .ext (.t 5) 1, none, none⟩,
  ⟨(some 3), .mv (.t 9), none, none⟩,
  ⟨(some 4), .mv (.t 10), none, none⟩]
def f78r1 : IC := .reg false [] f78o1 [3, 1]
@[simp] theorem f78r1_run : run tbl fin K f78r1 e H = regK tbl fin K [] f78o1 [3, 1] e H := run_regK _ _ _ _ _ _ _ _ _ rfl
@[simp] def f78o2 : List IOper := [
  ⟨(some 11), .fld 4 (.t 1), none, none⟩,
  ⟨(some 12), .load false 1 (.t 11), none, none⟩]
def f78r2 : IC := .reg false [] f78o2 [3, 12, 1]
@[simp] theorem f78r2_run : run tbl fin K f78r2 e H = regK tbl fin K [] f78o2 [3, 12, 1] e H := run_regK _ _ _ _ _ _ _ _ _ rfl
@[simp] def f78o3 : List IOper := [
  ⟨(some 14), .bin .eql (.t 12) (.c (.int .i64 1)), none, none⟩,
  ⟨(some 13), .mv (.t 14), none, none⟩]
def f78r3 : IC := .reg false [] f78o3 [13, 3, 12, 1]
@[simp] theorem f78r3_run : run tbl fin K f78r3 e H = regK tbl fin K [] f78o3 [13, 3, 12, 1] e H := run_regK _ _ _ _ _ _ _ _ _ rfl
@[simp] def f78o4 : List IOper := [
  ⟨(some 15), .fld 5 (.t 1), none, none⟩,
  ⟨(some 16), .load false 1 (.t 15), none, none⟩,
  ⟨(some 17), .bin .eql (.t 16) (.c (.int .i64 0)), none, none⟩,
  ⟨(some 18), .mv (.t 17), none, none⟩,
  ⟨(some 19), .fld 6 (.t 1), (some (18, true)), none⟩,
  ⟨(some 20), .load false 1 (.t 19), (some (18, true)), none⟩,
  ⟨(some 21), .un .not (.t 20), (some (18, true)), none⟩,
  ⟨(some 22), .pick (.t 18) (.t 21) (.c (.bool false)), none, none⟩,
  ⟨(some 23), .mv (.t 22), none, none⟩,
  ⟨(some 24), .fld 5 (.t 1), (some (23, false)), none⟩,
  ⟨(some 25), .load false 1 (.t 24), (some (23, false)), none⟩,
  ⟨(some 26), .call (.c (.fn 75 [])) [], (some (23, false)), none⟩,
  ⟨(some 27), .bin .eql (.t 25) (.t 26), (some (23, false)), none⟩,
  ⟨(some 28), .pick (.t 23) (.c (.bool true)) (.t 27), none, none⟩,
  ⟨(some 2), .mv (.t 28), none, none⟩]
def f78r4 : IC := .reg true [] f78o4 [2]
@[simp] theorem f78r4_run : run tbl fin K f78r4 e H = regK tbl fin K [] f78o4 [2] e H := run_regK _ _ _ _ _ _ _ _ _ rfl
@[simp] def f78o5 : List IOper := [
  ⟨(some 30), .bin .eql (.t 12) (.c (.int .i64 2)), none, none⟩,
  ⟨(some 29), .mv (.t 30), none, none⟩]
def f78r5 : IC := .reg false [] f78o5 [29, 3]
@[simp] theorem f78r5_run : run tbl fin K f78r5 e H = regK tbl fin K [] f78o5 [29, 3] e H := run_regK _ _ _ _ _ _ _ _ _ rfl
@[simp] def f78o6 : List IOper := [
  ⟨(some 31), .mv (.t 3), none, none⟩,
  ⟨(some 32), .bin .eql (.t 31) (.c (.int .i64 2)), none, none⟩,
  ⟨(some 2), .mv (.t 32), none, none⟩]
def f78r6 : IC := .reg false [] f78o6 [2]
@[simp] theorem f78r6_run : run tbl fin K f78r6 e H = regK tbl fin K [] f78o6 [2] e H := run_regK _ _ _ _ _ _ _ _ _ rfl
@[simp] def f78o7 : List IOper := [
  ⟨(some 33), .mv (.t 3), none, none⟩,
  ⟨(some 34), .bin .eql (.t 33) (.c (.int .i64 0)), none, none⟩,
  ⟨(some 35), .mv (.t 34), none, none⟩,
  ⟨(some 36), .mv (.t 3), (some (35, false)), none⟩,
  ⟨(some 37), .bin .eql (.t 36) (.c (.int .i64 1)), (some (35, false)), none⟩,
  ⟨(some 38), .pick (.t 35) (.c (.bool true)) (.t 37), none, none⟩,
  ⟨(some 2), .mv (.t 38), none, none⟩]
def f78r7 : IC := .reg false [] f78o7 [2]
@[simp] theorem f78r7_run : run tbl fin K f78r7 e H = regK tbl fin K [] f78o7 [2] e H := run_regK _ _ _ _ _ _ _ _ _ rfl
def f78body : IC := (.seq f78r0 (.seq f78r1 (.seq (.seq f78r2 (.block 0 (.seq f78r3 (.cond (.t 13) (.seq f78r4 .ret) (.seq f78r5 (.cond (.t 29) (.seq f78r6 .ret) .skip)))))) (.seq f78r7 .ret))))
def f78 : IFn := ⟨39, 1, [.tmp 2], f78body⟩
/- 79: jobshell/proc.bare -/
@[simp] def f79o0 : List IOper := [
  ⟨(some 1), .box 30 13 (.t 0), none, none⟩,
  ⟨(some 2), .mv (.c (.bool false)), none, none⟩]
def f79r0 : IC := .reg false [] f79o0 [1]
@[simp] theorem f79r0_run : run tbl fin K f79r0 e H = regK tbl fin K [] f79o0 [1] e H := run_regK _ _ _ _ _ _ _ _ _ rfl
@[simp] def f79o1 : List IOper := [
  ⟨(some 4), .fld 8 (.t 1), none, none⟩,
  ⟨(some 5), .fld 0 (.t 4), none, none⟩,
  ⟨(some 6), .load false 1 (.t 5), none, none⟩,
  ⟨(some 7), .len (.t 6), none, none⟩,
  ⟨(some 8), .fld 8 (.t 1), none, none⟩,
  ⟨(some 9), .fld 1 (.t 8), none, none⟩,
  ⟨(some 10), .load false 1 (.t 9), none, none⟩,
  ⟨(some 11), .len (.t 10), none, some [11, 7, 1]⟩,
  ⟨(some 12), .bin .add (.t 7) (.t 11), none, none⟩,
  ⟨(some 13), .fld 8 (.t 1), none, none⟩,
  ⟨(some 14), .fld 2 (.t 13), none, none⟩,
  ⟨(some 15), .load false 1 (.t 14), none, none⟩,
  ⟨(some 16), .len (.t 15), none, none⟩,
  ⟨(some 17), .bin .add (.t 12) (.t 16), none, none⟩,
  ⟨(some 3), .mv (.t 17), none, none⟩]
def f79r1 : IC := .reg false [] f79o1 [1, 3]
@[simp] theorem f79r1_run : run tbl fin K f79r1 e H = regK tbl fin K [] f79o1 [1, 3] e H := run_regK _ _ _ _ _ _ _ _ _ rfl
@[simp] def f79o2 : List IOper := [
  ⟨(some 18), .fld 6 (.t 1), none, none⟩,
  ⟨(some 19), .load false 1 (.t 18), none, none⟩,
  ⟨(some 20), .mv (.t 19), none, none⟩,
  ⟨(some 21), .fld 7 (.t 1), (some (20, true)), none⟩,
  ⟨(some 22), .load false 1 (.t 21), (some (20, true)), none⟩,
  ⟨(some 23), .bin .eql (.t 22) (.c (.int .i64 0)), (some (20, true)), none⟩,
  ⟨(some 24), .pick (.t 20) (.t 23) (.c (.bool false)), none, none⟩,
  ⟨(some 25), .mv (.t 24), none, some [1, 25, 3]⟩,
  ⟨(some 26), .fld 11 (.t 1), (some (25, true)), none⟩,
  ⟨(some 27), .load false 1 (.t 26), (some (25, true)), none⟩,
  ⟨(some 28), .len (.t 27), (some (25, true)), none⟩,
  ⟨(some 29), .bin .eql (.t 28) (.c (.int .i64 0)), (some (25, true)), none⟩,
  ⟨(some 30), .pick (.t 25) (.t 29) (.c (.bool false)), none, none⟩,
  ⟨(some 31), .mv (.t 30), none, none⟩,
  ⟨(some 32), .mv (.t 3), (some (31, true)), none⟩,
  ⟨(some 33), .bin .eql (.t 32) (.c (.int .i64 0)), (some (31, true)), some [33, 31]⟩,
  ⟨(some 34), .pick (.t 31) (.t 33) (.c (.bool false)), none, none⟩,
  ⟨(some 2), .mv (.t 34), none, none⟩]
def f79r2 : IC := .reg false [] f79o2 [2]
@[simp] theorem f79r2_run : run tbl fin K f79r2 e H = regK tbl fin K [] f79o2 [2] e H := run_regK _ _ _ _ _ _ _ _ _ rfl
def f79body : IC := (.seq f79r0 (.seq f79r1 (.seq f79r2 .ret)))
def f79 : IFn := ⟨35, 1, [.tmp 2], f79body⟩
/- 80: jobshell/signal.Valid -/
@[simp] def f80o0 : List IOper := [
  ⟨(some 1), .box 27 3 (.t 0), none, none⟩,
  ⟨(some 2), .mv (.c (.int .i64 0)), none, none⟩]
def f80r0 : IC := .reg false [] f80o0 [1]
@[simp] theorem f80r0_run : run tbl fin K f80r0 e H = regK tbl fin K [] f80o0 [1] e H := run_regK _ _ _ _ _ _ _ _ _ rfl
@[simp] def f80o1 : List IOper := [
  ⟨(some 9), .fld 0 (.t 1), none, none⟩,
  ⟨(some 10), .load false 1 (.t 9), none, none⟩,
  ⟨(some 11), .fld 1 (.t 1), none, none⟩,
  ⟨(some 12), .load false 1 (.t 11), none, none⟩,
  ⟨(some 13), .fld 2 (.t 1), none, none⟩,
  ⟨(some 14), .load false 1 (.t 13), none, none⟩,
  ⟨(some 15), .mkrow 25 1 3 .e0 [(0, (.t 10)), (1, (.t 12)), (2, (.t 14))], none, none⟩,
  ⟨(some 16), .len (.t 15), none, none⟩,
  ⟨(some 17), .mv (.c (.int .i64 0)), none, none⟩]
def f80r1 : IC := .reg false [] f80o1 [16, 1, 15, 17]
@[simp] theorem f80r1_run : run tbl fin K f80r1 e H = regK tbl fin K [] f80o1 [16, 1, 15, 17] e H := run_regK _ _ _ _ _ _ _ _ _ rfl
@[simp] def f80o2 : List IOper := [
  ⟨(some 18), .bin .lss (.t 17) (.t 16), none, none⟩]
def f80r2 : IC := .reg false [] f80o2 [18, 15, 1, 16, 17]
@[simp] theorem f80r2_run : run tbl fin K f80r2 e H = regK tbl fin K [] f80o2 [18, 15, 1, 16, 17] e H := run_regK _ _ _ _ _ _ _ _ _ rfl
@[simp] def f80o3 : List IOper := [
  ⟨(some 19), .idx 1 (.t 15) (.t 17), none, none⟩,
  ⟨(some 20), .load false 1 (.t 19), none, none⟩,
  ⟨(some 4), .mv (.t 20), none, none⟩]
def f80r3 : IC := .reg false [] f80o3 [15, 1, 16, 17, 4]
@[simp] theorem f80r3_run : run tbl fin K f80r3 e H = regK tbl fin K [] f80o3 [15, 1, 16, 17, 4] e H := run_regK _ _ _ _ _ _ _ _ _ rfl
@[simp] def f80o4 : List IOper := [
  ⟨(some 21), .mv (.t 4), none, none⟩,
  ⟨(some 22), .len (.t 21), none, none⟩,
  ⟨(some 23), .mv (.c (.int .i64 0)), none, none⟩]
def f80r4 : IC := .reg false [] f80o4 [22, 15, 1, 16, 17, 21, 4, 23]
@[simp] theorem f80r4_run : run tbl fin K f80r4 e H = regK tbl fin K [] f80o4 [22, 15, 1, 16, 17, 21, 4, 23] e H := run_regK _ _ _ _ _ _ _ _ _ rfl
@[simp] def f80o5 : List IOper := [
  ⟨(some 24), .bin .lss (.t 23) (.t 22), none, none⟩]
def f80r5 : IC := .reg false [] f80o5 [24, 4, 21, 17, 16, 1, 15, 22, 23]
@[simp] theorem f80r5_run : run tbl fin K f80r5 e H = regK tbl fin K [] f80o5 [24, 4, 21, 17, 16, 1, 15, 22, 23] e H := run_regK _ _ _ _ _ _ _ _ _ rfl
@[simp] def f80o6 : List IOper := [
  ⟨(some 25), .mv (.t 23), none, none⟩,
  ⟨(some 26), .idx 1 (.t 21) (.t 23), none, none⟩,
  ⟨(some 27), .load false 1 (.t 26), none, none⟩,
  ⟨(some 5), .mv (.t 25), none, none⟩,
  ⟨(some 6), .mv (.t 27), none, none⟩]
def f80r6 : IC := .reg false [] f80o6 [6, 5, 4, 21, 17, 16, 1, 15, 22, 23]
@[simp] theorem f80r6_run : run tbl fin K f80r6 e H = regK tbl fin K [] f80o6 [6, 5, 4, 21, 17, 16, 1, 15, 22, 23] e H := run_regK _ _ _ _ _ _ _ _ _ rfl
@[simp] def f80o7 : List IOper := [
  ⟨(some 28), .mv (.t 6), none, none⟩,
  ⟨(some 29), .call (.c (.fn 92 [])) [(.t 28)], none, none⟩,
  ⟨(some 30), .un .not (.t 29), none, none⟩,
  ⟨(some 31), .mv (.t 30), none, none⟩,
  ⟨(some 32), .mv (.t 5), (some (31, false)), none⟩,
  ⟨(some 33), .bin .gtr (.t 32) (.c (.int .i64 0)), (some (31, false)), none⟩,
  ⟨(some 34), .mv (.t 33), (some (31, false)), none⟩,
  ⟨(some 35), .mv (.t 6), (some (34, true)), some [5, 35, 34, 31, 4, 21, 17, 16, 1, 15, 22, 23]⟩,
  ⟨(some 36), .mv (.t 4), (some (34, true)), none⟩,
  ⟨(some 37), .mv (.t 5), (some (34, true)), none⟩,
  ⟨(some 38), .bin .sub (.t 37) (.c (.int .i64 1)), (some (34, true)), none⟩,
  ⟨(some 39), .idx 1 (.t 36) (.t 38), (some (34, true)), none⟩,
  ⟨(some 40), .load false 1 (.t 39), (some (34, true)), none⟩,
  ⟨(some 41), .bin .leq (.t 35) (.t 40), (some (34, true)), none⟩,
  ⟨(some 42), .pick (.t 34) (.t 41) (.c (.bool false)), (some (31, false)), none⟩,
  ⟨(some 43), .pick (.t 31) (.c (.bool true)) (.t 42), none, none⟩]
def f80r7 : IC := .reg false [] f80o7 [43, 4, 21, 17, 16, 1, 15, 22, 23]
@[simp] theorem f80r7_run : run tbl fin K f80r7 e H = regK tbl fin K [] f80o7 [43, 4, 21, 17, 16, 1, 15, 22, 23] e H := run_regK _ _ _ _ _ _ _ _ _ rfl
@[simp] def f80o8 : List IOper := [
  ⟨(some 2), .mv (.c (.int .i64 1)), none, none⟩]
def f80r8 : IC := .reg false [] f80o8 [2]
@[simp] theorem f80r8_run : run tbl fin K f80r8 e H = regK tbl fin K [] f80o8 [2] e H := run_regK _ _ _ _ _ _ _ _ _ rfl
@[simp] def f80o9 : List IOper := [
  ⟨(some 44), .bin .add (.t 23) (.c (.int .i64 1)), none, none⟩,
  ⟨(some 23), .mv (.t 44), none, none⟩]
def f80r9 : IC := .reg false [] f80o9 [22, 15, 1, 16, 17, 21, 4, 23]
@[simp] theorem f80r9_run : run tbl fin K f80r9 e H = regK tbl fin K [] f80o9 [22, 15, 1, 16, 17, 21, 4, 23] e H := run_regK _ _ _ _ _ _ _ _ _ rfl
def f80b10 : IC := (.seq f80r5 (.seq (.cond (.t 24) .skip (.exit 2)) (.seq (.block 3 (.seq f80r6 (.seq f80r7 (.cond (.t 43) (.seq f80r8 .ret) .skip)))) f80r9)))
theorem f80b10_eq : f80b10 = (.seq f80r5 (.seq (.cond (.t 24) .skip (.exit 2)) (.seq (.block 3 (.seq f80r6 (.seq f80r7 (.cond (.t 43) (.seq f80r8 .ret) .skip)))) f80r9))) := rfl
@[simp] def f80o11 : List IOper := [
  ⟨(some 45), .bin .add (.t 17) (.c (.int .i64 1)), none, none⟩,
  ⟨(some 17), .mv (.t 45), none, none⟩]
def f80r11 : IC := .reg false [] f80o11 [16, 1, 15, 17]
@[simp] theorem f80r11_run : run tbl fin K f80r11 e H = regK tbl fin K [] f80o11 [16, 1, 15, 17] e H := run_regK _ _ _ _ _ _ _ _ _ rfl
def f80b12 : IC := (.seq f80r2 (.seq (.cond (.t 18) .skip (.exit 0)) (.seq (.block 1 (.seq f80r3 (.seq f80r4 (.block 2 (.loop [22, 15, 1, 16, 17, 21, 4, 23] f80b10))))) f80r11)))
theorem f80b12_eq : f80b12 = (.seq f80r2 (.seq (.cond (.t 18) .skip (.exit 0)) (.seq (.block 1 (.seq f80r3 (.seq f80r4 (.block 2 (.loop [22, 15, 1, 16, 17, 21, 4, 23] f80b10))))) f80r11))) := rfl
@[simp] def f80o13 : List IOper := [
  ⟨(some 46), .fld 1 (.t 1), none, none⟩,
  ⟨(some 47), .load false 1 (.t 46), none, none⟩,
  ⟨(some 48), .ocall (.c (.fn 93 [])) [(.t 47), (.c (.fn 94 []))], none, none⟩,
  ⟨(some 49), .mv (.t 48), none, none⟩,
  ⟨(some 50), .fld 2 (.t 1), (some (49, false)), none⟩,
  ⟨(some 51), .load false 1 (.t 50), (some (49, false)), none⟩,
  ⟨(some 52), .ocall (.c (.fn 93 [])) [(.t 51), (.c (.fn 94 []))], (some (49, false)), none⟩,
  ⟨(some 53), .pick (.t 49) (.c (.bool true)) (.t 52), none, none⟩]
def f80r13 : IC := .reg false [] f80o13 [53, 1]
@[simp] theorem f80r13_run : run tbl fin K f80r13 e H = regK tbl fin K [] f80o13 [53, 1] e H := run_regK _ _ _ _ _ _ _ _ _ rfl
@[simp] def f80o14 : List IOper := [
  ⟨(some 2), .mv (.c (.int .i64 1)), none, none⟩]
def f80r14 : IC := .reg false [] f80o14 [2]
@[simp] theorem f80r14_run : run tbl fin K f80r14 e H = regK tbl fin K [] f80o14 [2] e H := run_regK _ _ _ _ _ _ _ _ _ rfl
@[simp] def f80o15 : List IOper := [
  ⟨(some 54), .fld 1 (.t 1), none, none⟩,
  ⟨(some 55), .load false 1 (.t 54), none, none⟩,
  ⟨(some 56), .mkfn 95 [(.t 1)], none, none⟩,
  ⟨(some 57), .ocall (.c (.fn 93 [])) [(.t 55), (.t 56)], none, none⟩]
def f80r15 : IC := .reg false [] f80o15 [57, 1]
@[simp] theorem f80r15_run : run tbl fin K f80r15 e H = regK tbl fin K [] f80o15 [57, 1] e H := run_regK _ _ _ _ _ _ _ _ _ rfl
@[simp] def f80o16 : List IOper := [
  ⟨(some 2), .mv (.c (.int .i64 1)), none, none⟩]
def f80r16 : IC := .reg false [] f80o16 [2]
@[simp] theorem f80r16_run : run tbl fin K f80r16 e H = regK tbl fin K [] f80o16 [2] e H := run_regK _ _ _ _ _ _ _ _ _ rfl
@[simp] def f80o17 : List IOper := [
  ⟨(some 58), .fld 0 (.t 1), none, none⟩,
  ⟨(some 59), .load false 1 (.t 58), none, none⟩,
  ⟨(some 60), .len (.t 59), none, none⟩,
  ⟨(some 61), .mv (.c (.int .i64 0)), none, none⟩]
def f80r17 : IC := .reg false [] f80o17 [60, 59, 1, 61]
@[simp] theorem f80r17_run : run tbl fin K f80r17 e H = regK tbl fin K [] f80o17 [60, 59, 1, 61] e H := run_regK _ _ _ _ _ _ _ _ _ rfl
@[simp] def f80o18 : List IOper := [
  ⟨(some 62), .bin .lss (.t 61) (.t 60), none, none⟩]
def f80r18 : IC := .reg false [] f80o18 [62, 1, 59, 60, 61]
@[simp] theorem f80r18_run : run tbl fin K f80r18 e H = regK tbl fin K [] f80o18 [62, 1, 59, 60, 61] e H := run_regK _ _ _ _ _ _ _ _ _ rfl
@[simp] def f80o19 : List IOper := [
  ⟨(some 63), .idx 1 (.t 59) (.t 61), none, none⟩,
  ⟨(some 64), .load false 1 (.t 63), none, none⟩,
  ⟨(some 8), .mv (.t 64), none, none⟩]
def f80r19 : IC := .reg false [] f80o19 [8, 1, 59, 60, 61]
@[simp] theorem f80r19_run : run tbl fin K f80r19 e H = regK tbl fin K [] f80o19 [8, 1, 59, 60, 61] e H := run_regK _ _ _ _ _ _ _ _ _ rfl
@[simp] def f80o20 : List IOper := [
  ⟨(some 65), .mv (.t 8), none, none⟩,
  ⟨(some 66), .bin .neq (.t 65) (.c (.int .i64 18)), none, none⟩,
  ⟨(some 67), .mv (.t 66), none, none⟩,
  ⟨(some 68), .fld 1 (.t 1), (some (67, true)), none⟩,
  ⟨(some 69), .load false 1 (.t 68), (some (67, true)), none⟩,
  ⟨(some 70), .mv (.t 8), (some (67, true)), none⟩,
  ⟨(some 71), .call (.c (.fn 96 [])) [(.t 69), (.t 70)], (some (67, true)), none⟩,
  ⟨(some 72), .pick (.t 67) (.t 71) (.c (.bool false)), none, none⟩]
def f80r20 : IC := .reg false [] f80o20 [72, 1, 59, 60, 61]
@[simp] theorem f80r20_run : run tbl fin K f80r20 e H = regK tbl fin K [] f80o20 [72, 1, 59, 60, 61] e H := run_regK _ _ _ _ _ _ _ _ _ rfl
@[simp] def f80o21 : List IOper := [
  ⟨(some 2), .mv (.c (.int .i64 25)), none, none⟩]
def f80r21 : IC := .reg false [] f80o21 [2]
@[simp] theorem f80r21_run : run tbl fin K f80r21 e H = regK tbl fin K [] f80o21 [2] e H := run_regK _ _ _ _ _ _ _ _ _ rfl
@[simp] def f80o22 : List IOper := [
  ⟨(some 73), .bin .add (.t 61) (.c (.int .i64 1)), none, none⟩,
  ⟨(some 61), .mv (.t 73), none, none⟩]
def f80r22 : IC := .reg false [] f80o22 [60, 59, 1, 61]
@[simp] theorem f80r22_run : run tbl fin K f80r22 e H = regK tbl fin K [] f80o22 [60, 59, 1, 61] e H := run_regK _ _ _ _ _ _ _ _ _ rfl
def f80b23 : IC := (.seq f80r18 (.seq (.cond (.t 62) .skip (.exit 4)) (.seq (.block 5 (.seq f80r19 (.seq f80r20 (.cond (.t 72) (.seq f80r21 .ret) .skip)))) f80r22)))
theorem f80b23_eq : f80b23 = (.seq f80r18 (.seq (.cond (.t 62) .skip (.exit 4)) (.seq (.block 5 (.seq f80r19 (.seq f80r20 (.cond (.t 72) (.seq f80r21 .ret) .skip)))) f80r22))) := rfl
@[simp] def f80o24 : List IOper := [
  ⟨(some 74), .fld 0 (.t 1), none, none⟩,
  ⟨(some 75), .load false 1 (.t 74), none, none⟩,
  ⟨(some 76), .call (.c (.fn 96 [])) [(.t 75), (.c (.int .i64 18))], none, none⟩,
  ⟨(some 77), .mv (.t 76), none, none⟩,
  ⟨(some 78), .fld 0 (.t 1), (some (77, true)), none⟩,
  ⟨(some 79), .load false 1 (.t 78), (some (77, true)), none⟩,
  ⟨(some 80), .ocall (.c (.fn 93 [])) [(.t 79), (.c (.fn 97 []))], (some (77, true)), none⟩,
  ⟨(some 81), .pick (.t 77) (.t 80) (.c (.bool false)), none, none⟩]
def f80r24 : IC := .reg false [] f80o24 [81]
@[simp] theorem f80r24_run : run tbl fin K f80r24 e H = regK tbl fin K [] f80o24 [81] e H := run_regK _ _ _ _ _ _ _ _ _ rfl
@[simp] def f80o25 : List IOper := [
  ⟨(some 2), .mv (.c (.int .i64 25)), none, none⟩]
def f80r25 : IC := .reg false [] f80o25 [2]
@[simp] theorem f80r25_run : run tbl fin K f80r25 e H = regK tbl fin K [] f80o25 [2] e H := run_regK _ _ _ _ _ _ _ _ _ rfl
@[simp] def f80o26 : List IOper := [
  ⟨(some 2), .mv (.c (.int .i64 0)), none, none⟩]
def f80r26 : IC := .reg false [] f80o26 [2]
@[simp] theorem f80r26_run : run tbl fin K f80r26 e H = regK tbl fin K [] f80o26 [2] e H := run_regK _ _ _ _ _ _ _ _ _ rfl
def f80body : IC := (.seq f80r0 (.seq (.seq f80r1 (.block 0 (.loop [16, 1, 15, 17] f80b12))) (.seq (.seq f80r13 (.cond (.t 53) (.seq f80r14 .ret) .skip)) (.seq (.seq f80r15 (.cond (.t 57) (.seq f80r16 .ret) .skip)) (.seq (.seq f80r17 (.block 4 (.loop [60, 59, 1, 61] f80b23))) (.seq (.seq f80r24 (.cond (.t 81) (.seq f80r25 .ret) .skip)) (.seq f80r26 .ret)))))))
def f80 : IFn := ⟨82, 1, [.tmp 2], f80body⟩
/- 81: jobshell/proc.check$1 -/
@[simp] def f81o0 : List IOper := [
  ⟨(some 2), .box 30 13 (.t 0), none, none⟩,
  ⟨(some 3), .mv (.c (.bool false)), none, none⟩]
def f81r0 : IC := .reg false [] f81o0 [1, 2]
@[simp] theorem f81r0_run : run tbl fin K f81r0 e H = regK tbl fin K [] f81o0 [1, 2] e H := run_regK _ _ _ _ _ _ _ _ _ rfl
@[simp] def f81o1 : List IOper := [
  ⟨(some 4), .fld 0 (.t 2), none, none⟩,
  ⟨(some 5), .load false 1 (.t 4), none, none⟩,
  ⟨(some 6), .fld 1 (.t 1), none, none⟩,
  ⟨(some 7), .load false 1 (.t 6), none, none⟩,
  ⟨(some 8), .bin .eql (.t 5) (.t 7), none, none⟩,
  ⟨(some 9), .mv (.t 8), none, none⟩,
  ⟨(some 10), .fld 0 (.t 2), (some (9, true)), none⟩,
  ⟨(some 11), .load false 1 (.t 10), (some (9, true)), some [1, 11, 9, 2]⟩,
  ⟨(some 12), .fld 0 (.t 1), (some (9, true)), none⟩,
  ⟨(some 13), .load false 1 (.t 12), (some (9, true)), none⟩,
  ⟨(some 14), .bin .neq (.t 11) (.t 13), (some (9, true)), none⟩,
  ⟨(some 15), .pick (.t 9) (.t 14) (.c (.bool false)), none, none⟩,
  ⟨(some 16), .mv (.t 15), none, none⟩,
  ⟨(some 17), .load true 13 (.t 2), (some (16, true)), none⟩,
  ⟨(some 18), .call (.c (.fn 70 [])) [(.t 17)], (some (16, true)), none⟩,
  ⟨(some 19), .pick (.t 16) (.t 18) (.c (.bool false)), none, some [19]⟩,
  ⟨(some 3), .mv (.t 19), none, none⟩]
def f81r1 : IC := .reg false [] f81o1 [3]
@[simp] theorem f81r1_run : run tbl fin K f81r1 e H = regK tbl fin K [] f81o1 [3] e H := run_regK _ _ _ _ _ _ _ _ _ rfl
def f81body : IC := (.seq f81r0 (.seq f81r1 .ret))
def f81 : IFn := ⟨20, 2, [.tmp 3], f81body⟩
/- 82: jobshell/proc.check$2 -/
@[simp] def f82o0 : List IOper := [
  ⟨(some 2), .box 30 13 (.t 0), none, none⟩,
  ⟨(some 3), .mv (.c (.bool false)), none, none⟩]
def f82r0 : IC := .reg false [] f82o0 [2, 1]
@[simp] theorem f82r0_run : run tbl fin K f82r0 e H = regK tbl fin K [] f82o0 [2, 1] e H := run_regK _ _ _ _ _ _ _ _ _ rfl
@[simp] def f82o1 : List IOper := [
  ⟨(some 4), .fld 2 (.t 2), none, none⟩,
  ⟨(some 5), .load false 1 (.t 4), none, none⟩,
  ⟨(some 6), .fld 2 (.t 1), none, none⟩,
  ⟨(some 7), .load false 1 (.t 6), none, none⟩,
  ⟨(some 8), .bin .eql (.t 5) (.t 7), none, none⟩,
  ⟨(some 9), .mv (.t 8), none, none⟩,
  ⟨(some 10), .fld 3 (.t 2), (some (9, true)), none⟩,
  ⟨(some 11), .load false 1 (.t 10), (some (9, true)), some [1, 11, 9]⟩,
  ⟨(some 12), .fld 3 (.t 1), (some (9, true)), none⟩,
  ⟨(some 13), .load false 1 (.t 12), (some (9, true)), none⟩,
  ⟨(some 14), .bin .neq (.t 11) (.t 13), (some (9, true)), none⟩,
  ⟨(some 15), .pick (.t 9) (.t 14) (.c (.bool false)), none, none⟩,
  ⟨(some 3), .mv (.t 15), none, none⟩]
def f82r1 : IC := .reg false [] f82o1 [3]
@[simp] theorem f82r1_run : run tbl fin K f82r1 e H = regK tbl fin K [] f82o1 [3] e H := run_regK _ _ _ _ _ _ _ _ _ rfl
def f82body : IC := (.seq f82r0 (.seq f82r1 .ret))
def f82 : IFn := ⟨16, 2, [.tmp 3], f82body⟩
/- 83: jobshell/jobshellref27.fits -/
@[simp] def f83o0 : List IOper := [
  ⟨(some 1), .box 30 13 (.t 0), none, none⟩,
  ⟨(some 2), .mv (.c (.bool false)), none, none⟩]
def f83r0 : IC := .reg false [] f83o0 [1]
@[simp] theorem f83r0_run : run tbl fin K f83r0 e H = regK tbl fin K [] f83o0 [1] e H := run_regK _ _ _ _ _ _ _ _ _ rfl
@[simp] def f83o1 : List IOper := [
  ⟨(some 6), .fld 5 (.t 1), none, none⟩,
  ⟨(some 7), .load false 1 (.t 6), none, none⟩,
  ⟨(some 8), .call (.c (.fn 74 [])) [(.t 7)], none, none⟩,
  ⟨(some 5), .mv (.t 8), none, none⟩,
  ⟨(some 9), .ext (.t 5) 0, none, none⟩,
  ⟨(some 10), .ext (.t 5) 1, none, none⟩,
  ⟨(some 3), .mv (.t 9), none, none⟩,
  ⟨(some 4), .mv (.t 10), none, none⟩]
def f83r1 : IC := .reg false [] f83o1 [3, 1]
@[simp] theorem f83r1_run : run tbl fin K f83r1 e H = regK tbl fin K [] f83o1 [3, 1] e H := run_regK _ _ _ _ _ _ _ _ _ rfl
@[simp] def f83o2 : List IOper := [
  ⟨(some 11), .fld 4 (.t 1), none, none⟩,
  ⟨(some 12), .load false 1 (.t 11), none, none⟩]
def f83r2 : IC := .reg false [] f83o2 [3, 12, 1]
@[simp] theorem f83r2_run : run tbl fin K f83r2 e H = regK tbl fin K [] f83o2 [3, 12, 1] e H := run_regK _ _ _ _ _ _ _ _ _ rfl
@[simp] def f83o3 : List IOper := [
  ⟨(some 14), .bin .eql (.t 12) (.c (.int .i64 1)), none, none⟩,
  ⟨(some 13), .mv (.t 14), none, none⟩]
def f83r3 : IC := .reg false [] f83o3 [13, 3, 12, 1]
@[simp] theorem f83r3_run : run tbl fin K f83r3 e H = regK tbl fin K [] f83o3 [13, 3, 12, 1] e H := run_regK _ _ _ _ _ _ _ _ _ rfl
@[simp] def f83o4 : List IOper := [
  ⟨(some 15), .fld 5 (.t 1), none, none⟩,
  ⟨(some 16), .load false 1 (.t 15), none, none⟩,
  ⟨(some 17), .bin .eql (.t 16) (.c (.int .i64 0)), none, none⟩,
  ⟨(some 18), .mv (.t 17), none, none⟩,
  ⟨(some 19), .fld 6 (.t 1), (some (18, true)), none⟩,
  ⟨(some 20), .load false 1 (.t 19), (some (18, true)), none⟩,
  ⟨(some 21), .un .not (.t 20), (some (18, true)), none⟩,
  ⟨(some 22), .pick (.t 18) (.t 21) (.c (.bool false)), none, none⟩,
  ⟨(some 23), .mv (.t 22), none, none⟩,
  ⟨(some 24), .fld 5 (.t 1), (some (23, false)), none⟩,
  ⟨(some 25), .load false 1 (.t 24), (some (23, false)), none⟩,
  ⟨(some 26), .call (.c (.fn 76 [])) [], (some (23, false)), none⟩,
  ⟨(some 27), .bin .eql (.t 25) (.t 26), (some (23, false)), none⟩,
  ⟨(some 28), .pick (.t 23) (.c (.bool true)) (.t 27), none, none⟩,
  ⟨(some 2), .mv (.t 28), none, none⟩]
def f83r4 : IC := .reg true [] f83o4 [2]
@[simp] theorem f83r4_run : run tbl fin K f83r4 e H = regK tbl fin K [] f83o4 [2] e H := run_regK _ _ _ _ _ _ _ _ _ rfl
@[simp] def f83o5 : List IOper := [
  ⟨(some 30), .bin .eql (.t 12) (.c (.int .i64 2)), none, none⟩,
  ⟨(some 29), .mv (.t 30), none, none⟩]
def f83r5 : IC := .reg false [] f83o5 [29, 3]
@[simp] theorem f83r5_run : run tbl fin K f83r5 e H = regK tbl fin K [] f83o5 [29, 3] e H := run_regK _ _ _ _ _ _ _ _ _ rfl
@[simp] def f83o6 : List IOper := [
  ⟨(some 31), .mv (.t 3), none, none⟩,
  ⟨(some 32), .bin .eql (.t 31) (.c (.int .i64 2)), none, none⟩,
  ⟨(some 2), .mv (.t 32), none, none⟩]
def f83r6 : IC := .reg false [] f83o6 [2]
@[simp] theorem f83r6_run : run tbl fin K f83r6 e H = regK tbl fin K [] f83o6 [2] e H := run_regK _ _ _ _ _ _ _ _ _ rfl
@[simp] def f83o7 : List IOper := [
  ⟨(some 33), .mv (.t 3), none, none⟩,
  ⟨(some 34), .bin .eql (.t 33) (.c (.int .i64 0)), none, none⟩,
  ⟨(some 35), .mv (.t 34), none, none⟩,
  ⟨(some 36), .mv (.t 3), (some (35, false)), none⟩,
  ⟨(some 37), .bin .eql (.t 36) (.c (.int .i64 1)), (some (35, false)), none⟩,
  ⟨(some 38), .pick (.t 35) (.c (.bool true)) (.t 37), none, none⟩,
  ⟨(some 2), .mv (.t 38), none, none⟩]
def f83r7 : IC := .reg false [] f83o7 [2]
@[simp] theorem f83r7_run : run tbl fin K f83r7 e H = regK tbl fin K [] f83o7 [2] e H := run_regK _ _ _ _ _ _ _ _ _ rfl
def f83body : IC := (.seq f83r0 (.seq f83r1 (.seq (.seq f83r2 (.block 0 (.seq f83r3 (.cond (.t 13) (.seq f83r4 .ret) (.seq f83r5 (.cond (.t 29) (.seq f83r6 .ret) .skip)))))) (.seq f83r7 .ret))))
def f83 : IFn := ⟨39, 1, [.tmp 2], f83body⟩
/- 84: jobshell/jobshellref27.clean -/
@[simp] def f84o0 : List IOper := [
  ⟨(some 1), .box 30 13 (.t 0), none, none⟩,
  ⟨(some 2), .mv (.c (.bool false)), none, none⟩]
def f84r0 : IC := .reg false [] f84o0 [1]
@[simp] theorem f84r0_run : run tbl fin K f84r0 e H = regK tbl fin K [] f84o0 [1] e H := run_regK _ _ _ _ _ _ _ _ _ rfl
@[simp] def f84o1 : List IOper := [
  ⟨(some 3), .fld 6 (.t 1), none, none⟩,
  ⟨(some 4), .load false 1 (.t 3), none, none⟩,
  ⟨(some 5), .mv (.t 4), none, none⟩,
  ⟨(some 6), .fld 7 (.t 1), (some (5, true)), none⟩,
  ⟨(some 7), .load false 1 (.t 6), (some (5, true)), none⟩,
  ⟨(some 8), .bin .eql (.t 7) (.c (.int .i64 0)), (some (5, true)), none⟩,
  ⟨(some 9), .pick (.t 5) (.t 8) (.c (.bool false)), none, none⟩,
  ⟨(some 10), .mv (.t 9), none, some [10, 1]⟩,
  ⟨(some 11), .fld 11 (.t 1), (some (10, true)), none⟩,
  ⟨(some 12), .load false 1 (.t 11), (some (10, true)), none⟩,
  ⟨(some 13), .len (.t 12), (some (10, true)), none⟩,
  ⟨(some 14), .bin .eql (.t 13) (.c (.int .i64 0)), (some (10, true)), none⟩,
  ⟨(some 15), .pick (.t 10) (.t 14) (.c (.bool false)), none, none⟩,
  ⟨(some 16), .mv (.t 15), none, none⟩,
  ⟨(some 17), .fld 8 (.t 1), (some (16, true)), none⟩,
  ⟨(some 18), .fld 0 (.t 17), (some (16, true)), some [18, 16, 1]⟩,
  ⟨(some 19), .load false 1 (.t 18), (some (16, true)), none⟩,
  ⟨(some 20), .len (.t 19), (some (16, true)), none⟩,
  ⟨(some 21), .bin .eql (.t 20) (.c (.int .i64 0)), (some (16, true)), none⟩,
  ⟨(some 22), .pick (.t 16) (.t 21) (.c (.bool false)), none, none⟩,
  ⟨(some 23), .mv (.t 22), none, none⟩,
  ⟨(some 24), .fld 8 (.t 1), (some (23, true)), none⟩,
  ⟨(some 25), .fld 1 (.t 24), (some (23, true)), none⟩,
  ⟨(some 26), .load false 1 (.t 25), (some (23, true)), some [26, 23, 1]⟩,
  ⟨(some 27), .len (.t 26), (some (23, true)), none⟩,
  ⟨(some 28), .bin .eql (.t 27) (.c (.int .i64 0)), (some (23, true)), none⟩,
  ⟨(some 29), .pick (.t 23) (.t 28) (.c (.bool false)), none, none⟩,
  ⟨(some 30), .mv (.t 29), none, none⟩,
  ⟨(some 31), .fld 8 (.t 1), (some (30, true)), none⟩,
  ⟨(some 32), .fld 2 (.t 31), (some (30, true)), none⟩,
  ⟨(some 33), .load false 1 (.t 32), (some (30, true)), none⟩,
  ⟨(some 34), .len (.t 33), (some (30, true)), some [34, 30]⟩,
  ⟨(some 35), .bin .eql (.t 34) (.c (.int .i64 0)), (some (30, true)), none⟩,
  ⟨(some 36), .pick (.t 30) (.t 35) (.c (.bool false)), none, none⟩,
  ⟨(some 2), .mv (.t 36), none, none⟩]
def f84r1 : IC := .reg false [] f84o1 [2]
@[simp] theorem f84r1_run : run tbl fin K f84r1 e H = regK tbl fin K [] f84o1 [2] e H := run_regK _ _ _ _ _ _ _ _ _ rfl
def f84body : IC := (.seq f84r0 (.seq f84r1 .ret))
def f84 : IFn := ⟨37, 1, [.tmp 2], f84body⟩
/- 85: jobshell/jobshellref25.Valid -/
@[simp] def f85o0 : List IOper := [
  ⟨(some 1), .box 27 3 (.t 0), none, none⟩,
  ⟨(some 2), .mv (.c (.int .i64 0)), none, none⟩]
def f85r0 : IC := .reg false [] f85o0 [1]
@[simp] theorem f85r0_run : run tbl fin K f85r0 e H = regK tbl fin K [] f85o0 [1] e H := run_regK _ _ _ _ _ _ _ _ _ rfl
@[simp] def f85o1 : List IOper := [
  ⟨(some 6), .fld 0 (.t 1), none, none⟩,
  ⟨(some 7), .load false 1 (.t 6), none, none⟩,
  ⟨(some 8), .call (.c (.fn 98 [])) [(.t 7)], none, none⟩,
  ⟨(some 9), .un .not (.t 8), none, none⟩,
  ⟨(some 10), .mv (.t 9), none, none⟩,
  ⟨(some 11), .fld 1 (.t 1), (some (10, false)), none⟩,
  ⟨(some 12), .load false 1 (.t 11), (some (10, false)), none⟩,
  ⟨(some 13), .call (.c (.fn 98 [])) [(.t 12)], (some (10, false)), some [13, 10, 1]⟩,
  ⟨(some 14), .un .not (.t 13), (some (10, false)), none⟩,
  ⟨(some 15), .pick (.t 10) (.c (.bool true)) (.t 14), none, none⟩,
  ⟨(some 16), .mv (.t 15), none, none⟩,
  ⟨(some 17), .fld 2 (.t 1), (some (16, false)), none⟩,
  ⟨(some 18), .load false 1 (.t 17), (some (16, false)), none⟩,
  ⟨(some 19), .call (.c (.fn 98 [])) [(.t 18)], (some (16, false)), none⟩,
  ⟨(some 20), .un .not (.t 19), (some (16, false)), none⟩,
  ⟨(some 21), .pick (.t 16) (.c (.bool true)) (.t 20), none, none⟩]
def f85r1 : IC := .reg false [] f85o1 [21, 1]
@[simp] theorem f85r1_run : run tbl fin K f85r1 e H = regK tbl fin K [] f85o1 [21, 1] e H := run_regK _ _ _ _ _ _ _ _ _ rfl
@[simp] def f85o2 : List IOper := [
  ⟨(some 2), .mv (.c (.int .i64 1)), none, none⟩]
def f85r2 : IC := .reg false [] f85o2 [2]
@[simp] theorem f85r2_run : run tbl fin K f85r2 e H = regK tbl fin K [] f85o2 [2] e H := run_regK _ _ _ _ _ _ _ _ _ rfl
@[simp] def f85o3 : List IOper := [
  ⟨(some 3), .mv (.c (.int .i64 1)), none, none⟩]
def f85r3 : IC := .reg false [] f85o3 [1, 3]
@[simp] theorem f85r3_run : run tbl fin K f85r3 e H = regK tbl fin K [] f85o3 [1, 3] e H := run_regK _ _ _ _ _ _ _ _ _ rfl
@[simp] def f85o4 : List IOper := [
  ⟨(some 22), .mv (.t 3), none, none⟩,
  ⟨(some 23), .bin .leq (.t 22) (.c (.int .i64 20)), none, none⟩]
def f85r4 : IC := .reg false [] f85o4 [23, 1, 3]
@[simp] theorem f85r4_run : run tbl fin K f85r4 e H = regK tbl fin K [] f85o4 [23, 1, 3] e H := run_regK _ _ _ _ _ _ _ _ _ rfl
@[simp] def f85o5 : List IOper := [
  ⟨(some 26), .mv (.t 3), none, none⟩,
  ⟨(some 27), .bin .eql (.t 26) (.c (.int .i64 9)), none, none⟩,
  ⟨(some 28), .mv (.t 27), none, none⟩,
  ⟨(some 29), .mv (.t 3), (some (28, false)), none⟩,
  ⟨(some 30), .bin .eql (.t 29) (.c (.int .i64 19)), (some (28, false)), none⟩,
  ⟨(some 31), .pick (.t 28) (.c (.bool true)) (.t 30), none, none⟩,
  ⟨(some 4), .mv (.t 31), none, none⟩]
def f85r5 : IC := .reg false [] f85o5 [4, 1, 3]
@[simp] theorem f85r5_run : run tbl fin K f85r5 e H = regK tbl fin K [] f85o5 [4, 1, 3] e H := run_regK _ _ _ _ _ _ _ _ _ rfl
@[simp] def f85o6 : List IOper := [
  ⟨(some 32), .mv (.t 4), none, none⟩,
  ⟨(some 33), .mv (.t 32), none, none⟩,
  ⟨(some 34), .fld 1 (.t 1), (some (33, true)), none⟩,
  ⟨(some 35), .load false 1 (.t 34), (some (33, true)), none⟩,
  ⟨(some 36), .mv (.t 3), (some (33, true)), none⟩,
  ⟨(some 37), .call (.c (.fn 99 [])) [(.t 35), (.t 36)], (some (33, true)), none⟩,
  ⟨(some 38), .mv (.t 37), (some (33, true)), none⟩,
  ⟨(some 39), .fld 2 (.t 1), (some (38, false)), some [39, 38, 33, 1, 3]⟩,
  ⟨(some 40), .load false 1 (.t 39), (some (38, false)), none⟩,
  ⟨(some 41), .mv (.t 3), (some (38, false)), none⟩,
  ⟨(some 42), .call (.c (.fn 99 [])) [(.t 40), (.t 41)], (some (38, false)), none⟩,
  ⟨(some 43), .pick (.t 38) (.c (.bool true)) (.t 42), (some (33, true)), none⟩,
  ⟨(some 44), .pick (.t 33) (.t 43) (.c (.bool false)), none, none⟩,
  ⟨(some 45), .mv (.t 44), none, none⟩,
  ⟨(some 46), .fld 1 (.t 1), (some (45, false)), none⟩,
  ⟨(some 47), .load false 1 (.t 46), (some (45, false)), some [47, 45, 1, 3]⟩,
  ⟨(some 48), .mv (.t 3), (some (45, false)), none⟩,
  ⟨(some 49), .call (.c (.fn 99 [])) [(.t 47), (.t 48)], (some (45, false)), none⟩,
  ⟨(some 50), .mv (.t 49), (some (45, false)), none⟩,
  ⟨(some 51), .fld 2 (.t 1), (some (50, true)), none⟩,
  ⟨(some 52), .load false 1 (.t 51), (some (50, true)), none⟩,
  ⟨(some 53), .mv (.t 3), (some (50, true)), none⟩,
  ⟨(some 54), .call (.c (.fn 99 [])) [(.t 52), (.t 53)], (some (50, true)), none⟩,
  ⟨(some 55), .pick (.t 50) (.t 54) (.c (.bool false)), (some (45, false)), some [55, 45, 1, 3]⟩,
  ⟨(some 56), .pick (.t 45) (.c (.bool true)) (.t 55), none, none⟩]
def f85r6 : IC := .reg false [] f85o6 [56, 1, 3]
@[simp] theorem f85r6_run : run tbl fin K f85r6 e H = regK tbl fin K [] f85o6 [56, 1, 3] e H := run_regK _ _ _ _ _ _ _ _ _ rfl
@[simp] def f85o7 : List IOper := [
  ⟨(some 2), .mv (.c (.int .i64 1)), none, none⟩]
def f85r7 : IC := .reg false [] f85o7 [2]
@[simp] theorem f85r7_run : run tbl fin K f85r7 e H = regK tbl fin K [] f85o7 [2] e H := run_regK _ _ _ _ _ _ _ _ _ rfl
@[simp] def f85o8 : List IOper := [
  ⟨(some 24), .mv (.t 3), none, none⟩,
  ⟨(some 25), .bin .add (.t 24) (.c (.int .i64 1)), none, none⟩,
  ⟨(some 3), .mv (.t 25), none, none⟩]
def f85r8 : IC := .reg false [] f85o8 [1, 3]
@[simp] theorem f85r8_run : run tbl fin K f85r8 e H = regK tbl fin K [] f85o8 [1, 3] e H := run_regK _ _ _ _ _ _ _ _ _ rfl
def f85b9 : IC := (.seq (.seq f85r4 (.cond (.t 23) .skip (.exit 0))) (.seq (.block 1 (.seq f85r5 (.seq f85r6 (.cond (.t 56) (.seq f85r7 .ret) .skip)))) f85r8))
theorem f85b9_eq : f85b9 = (.seq (.seq f85r4 (.cond (.t 23) .skip (.exit 0))) (.seq (.block 1 (.seq f85r5 (.seq f85r6 (.cond (.t 56) (.seq f85r7 .ret) .skip)))) f85r8)) := rfl
@[simp] def f85o10 : List IOper := [
  ⟨(some 5), .mv (.c (.int .i64 1)), none, none⟩]
def f85r10 : IC := .reg false [] f85o10 [5, 1]
@[simp] theorem f85r10_run : run tbl fin K f85r10 e H = regK tbl fin K [] f85o10 [5, 1] e H := run_regK _ _ _ _ _ _ _ _ _ rfl
@[simp] def f85o11 : List IOper := [
  ⟨(some 57), .mv (.t 5), none, none⟩,
  ⟨(some 58), .bin .leq (.t 57) (.c (.int .i64 20)), none, none⟩]
def f85r11 : IC := .reg false [] f85o11 [58, 5, 1]
@[simp] theorem f85r11_run : run tbl fin K f85r11 e H = regK tbl fin K [] f85o11 [58, 5, 1] e H := run_regK _ _ _ _ _ _ _ _ _ rfl
@[simp] def f85o12 : List IOper := [
  ⟨(some 61), .mv (.t 5), none, none⟩,
  ⟨(some 62), .bin .neq (.t 61) (.c (.int .i64 18)), none, none⟩,
  ⟨(some 63), .mv (.t 62), none, none⟩,
  ⟨(some 64), .fld 0 (.t 1), (some (63, true)), none⟩,
  ⟨(some 65), .load false 1 (.t 64), (some (63, true)), none⟩,
  ⟨(some 66), .mv (.t 5), (some (63, true)), none⟩,
  ⟨(some 67), .call (.c (.fn 99 [])) [(.t 65), (.t 66)], (some (63, true)), none⟩,
  ⟨(some 68), .pick (.t 63) (.t 67) (.c (.bool false)), none, some [68, 5, 1]⟩,
  ⟨(some 69), .mv (.t 68), none, none⟩,
  ⟨(some 70), .fld 1 (.t 1), (some (69, true)), none⟩,
  ⟨(some 71), .load false 1 (.t 70), (some (69, true)), none⟩,
  ⟨(some 72), .mv (.t 5), (some (69, true)), none⟩,
  ⟨(some 73), .call (.c (.fn 99 [])) [(.t 71), (.t 72)], (some (69, true)), none⟩,
  ⟨(some 74), .pick (.t 69) (.t 73) (.c (.bool false)), none, none⟩]
def f85r12 : IC := .reg false [] f85o12 [74, 5, 1]
@[simp] theorem f85r12_run : run tbl fin K f85r12 e H = regK tbl fin K [] f85o12 [74, 5, 1] e H := run_regK _ _ _ _ _ _ _ _ _ rfl
@[simp] def f85o13 : List IOper := [
  ⟨(some 2), .mv (.c (.int .i64 25)), none, none⟩]
def f85r13 : IC := .reg false [] f85o13 [2]
@[simp] theorem f85r13_run : run tbl fin K f85r13 e H = regK tbl fin K [] f85o13 [2] e H := run_regK _ _ _ _ _ _ _ _ _ rfl
@[simp] def f85o14 : List IOper := [
  ⟨(some 75), .mv (.t 5), none, none⟩,
  ⟨(some 76), .call (.c (.fn 100 [])) [(.t 75)], none, none⟩,
  ⟨(some 77), .mv (.t 76), none, none⟩,
  ⟨(some 78), .fld 0 (.t 1), (some (77, true)), none⟩,
  ⟨(some 79), .load false 1 (.t 78), (some (77, true)), none⟩,
  ⟨(some 80), .mv (.t 5), (some (77, true)), none⟩,
  ⟨(some 81), .call (.c (.fn 99 [])) [(.t 79), (.t 80)], (some (77, true)), none⟩,
  ⟨(some 82), .pick (.t 77) (.t 81) (.c (.bool false)), none, some [82, 1, 5]⟩,
  ⟨(some 83), .mv (.t 82), none, none⟩,
  ⟨(some 84), .fld 0 (.t 1), (some (83, true)), none⟩,
  ⟨(some 85), .load false 1 (.t 84), (some (83, true)), none⟩,
  ⟨(some 86), .call (.c (.fn 99 [])) [(.t 85), (.c (.int .i64 18))], (some (83, true)), none⟩,
  ⟨(some 87), .pick (.t 83) (.t 86) (.c (.bool false)), none, none⟩]
def f85r14 : IC := .reg false [] f85o14 [87, 1, 5]
@[simp] theorem f85r14_run : run tbl fin K f85r14 e H = regK tbl fin K [] f85o14 [87, 1, 5] e H := run_regK _ _ _ _ _ _ _ _ _ rfl
@[simp] def f85o15 : List IOper := [
  ⟨(some 2), .mv (.c (.int .i64 25)), none, none⟩]
def f85r15 : IC := .reg false [] f85o15 [2]
@[simp] theorem f85r15_run : run tbl fin K f85r15 e H = regK tbl fin K [] f85o15 [2] e H := run_regK _ _ _ _ _ _ _ _ _ rfl
@[simp] def f85o16 : List IOper := [
  ⟨(some 59), .mv (.t 5), none, none⟩,
  ⟨(some 60), .bin .add (.t 59) (.c (.int .i64 1)), none, none⟩,
  ⟨(some 5), .mv (.t 60), none, none⟩]
def f85r16 : IC := .reg false [] f85o16 [5, 1]
@[simp] theorem f85r16_run : run tbl fin K f85r16 e H = regK tbl fin K [] f85o16 [5, 1] e H := run_regK _ _ _ _ _ _ _ _ _ rfl
def f85b17 : IC := (.seq (.seq f85r11 (.cond (.t 58) .skip (.exit 2))) (.seq (.block 3 (.seq (.seq f85r12 (.cond (.t 74) (.seq f85r13 .ret) .skip)) (.seq f85r14 (.cond (.t 87) (.seq f85r15 .ret) .skip)))) f85r16))
theorem f85b17_eq : f85b17 = (.seq (.seq f85r11 (.cond (.t 58) .skip (.exit 2))) (.seq (.block 3 (.seq (.seq f85r12 (.cond (.t 74) (.seq f85r13 .ret) .skip)) (.seq f85r14 (.cond (.t 87) (.seq f85r15 .ret) .skip)))) f85r16)) := rfl
@[simp] def f85o18 : List IOper := [
  ⟨(some 2), .mv (.c (.int .i64 0)), none, none⟩]
def f85r18 : IC := .reg false [] f85o18 [2]
@[simp] theorem f85r18_run : run tbl fin K f85r18 e H = regK tbl fin K [] f85o18 [2] e H := run_regK _ _ _ _ _ _ _ _ _ rfl
def f85body : IC := (.seq f85r0 (.seq (.seq f85r1 (.cond (.t 21) (.seq f85r2 .ret) .skip)) (.seq (.seq f85r3 (.block 0 (.loop [1, 3] f85b9))) (.seq (.seq f85r10 (.block 2 (.loop [5, 1] f85b17))) (.seq f85r18 .ret)))))
def f85 : IFn := ⟨88, 1, [.tmp 2], f85body⟩
/- 86: jobshell/jobshellref25.numbers -/
@[simp] def f86o0 : List IOper := [
  ⟨(some 4), .mv (.c (.bool false)), none, none⟩]
def f86r0 : IC := .reg false [] f86o0 [1, 0]
@[simp] theorem f86r0_run : run tbl fin K f86r0 e H = regK tbl fin K [] f86o0 [1, 0] e H := run_regK _ _ _ _ _ _ _ _ _ rfl
@[simp] def f86o1 : List IOper := [
  ⟨(some 6), .mv (.t 0), none, none⟩,
  ⟨(some 7), .len (.t 6), none, none⟩,
  ⟨(some 8), .mv (.t 1), none, none⟩,
  ⟨(some 9), .len (.t 8), none, none⟩,
  ⟨(some 10), .bin .neq (.t 7) (.t 9), none, none⟩]
def f86r1 : IC := .reg false [] f86o1 [10, 1, 0]
@[simp] theorem f86r1_run : run tbl fin K f86r1 e H = regK tbl fin K [] f86o1 [10, 1, 0] e H := run_regK _ _ _ _ _ _ _ _ _ rfl
@[simp] def f86o2 : List IOper := [
  ⟨(some 4), .mv (.c (.bool false)), none, none⟩]
def f86r2 : IC := .reg false [] f86o2 [4]
@[simp] theorem f86r2_run : run tbl fin K f86r2 e H = regK tbl fin K [] f86o2 [4] e H := run_regK _ _ _ _ _ _ _ _ _ rfl
@[simp] def f86o3 : List IOper := [
  ⟨(some 5), .mv (.c (.int .i64 0)), none, none⟩]
def f86r3 : IC := .reg false [] f86o3 [0, 1, 5]
@[simp] theorem f86r3_run : run tbl fin K f86r3 e H = regK tbl fin K [] f86o3 [0, 1, 5] e H := run_regK _ _ _ _ _ _ _ _ _ rfl
@[simp] def f86o4 : List IOper := [
  ⟨(some 11), .mv (.t 5), none, none⟩,
  ⟨(some 12), .mv (.t 0), none, none⟩,
  ⟨(some 13), .len (.t 12), none, none⟩,
  ⟨(some 14), .bin .lss (.t 11) (.t 13), none, none⟩]
def f86r4 : IC := .reg false [] f86o4 [14, 1, 0, 5]
@[simp] theorem f86r4_run : run tbl fin K f86r4 e H = regK tbl fin K [] f86o4 [14, 1, 0, 5] e H := run_regK _ _ _ _ _ _ _ _ _ rfl
@[simp] def f86o5 : List IOper := [
  ⟨(some 17), .mv (.t 0), none, none⟩,
  ⟨(some 18), .mv (.t 5), none, none⟩,
  ⟨(some 19), .idx 1 (.t 17) (.t 18), none, none⟩,
  ⟨(some 20), .load false 1 (.t 19), none, none⟩,
  ⟨(some 21), .mv (.t 1), none, none⟩,
  ⟨(some 22), .mv (.t 5), none, none⟩,
  ⟨(some 23), .idx 1 (.t 21) (.t 22), none, none⟩,
  ⟨(some 24), .load false 1 (.t 23), none, none⟩,
  ⟨(some 25), .bin .neq (.t 20) (.t 24), none, none⟩]
def f86r5 : IC := .reg true [] f86o5 [25, 1, 0, 5]
@[simp] theorem f86r5_run : run tbl fin K f86r5 e H = regK tbl fin K [] f86o5 [25, 1, 0, 5] e H := run_regK _ _ _ _ _ _ _ _ _ rfl
@[simp] def f86o6 : List IOper := [
  ⟨(some 4), .mv (.c (.bool false)), none, none⟩]
def f86r6 : IC := .reg false [] f86o6 [4]
@[simp] theorem f86r6_run : run tbl fin K f86r6 e H = regK tbl fin K [] f86o6 [4] e H := run_regK _ _ _ _ _ _ _ _ _ rfl
@[simp] def f86o7 : List IOper := [
  ⟨(some 15), .mv (.t 5), none, none⟩,
  ⟨(some 16), .bin .add (.t 15) (.c (.int .i64 1)), none, none⟩,
  ⟨(some 5), .mv (.t 16), none, none⟩]
def f86r7 : IC := .reg false [] f86o7 [0, 1, 5]
@[simp] theorem f86r7_run : run tbl fin K f86r7 e H = regK tbl fin K [] f86o7 [0, 1, 5] e H := run_regK _ _ _ _ _ _ _ _ _ rfl
def f86b8 : IC := (.seq (.seq f86r4 (.cond (.t 14) .skip (.exit 0))) (.seq (.block 1 (.seq f86r5 (.cond (.t 25) (.seq f86r6 .ret) .skip))) f86r7))
theorem f86b8_eq : f86b8 = (.seq (.seq f86r4 (.cond (.t 14) .skip (.exit 0))) (.seq (.block 1 (.seq f86r5 (.cond (.t 25) (.seq f86r6 .ret) .skip))) f86r7)) := rfl
@[simp] def f86o9 : List IOper := [
  ⟨(some 4), .mv (.c (.bool true)), none, none⟩]
def f86r9 : IC := .reg false [] f86o9 [4]
@[simp] theorem f86r9_run : run tbl fin K f86r9 e H = regK tbl fin K [] f86o9 [4] e H := run_regK _ _ _ _ _ _ _ _ _ rfl
def f86body : IC := (.seq f86r0 (.seq (.seq f86r1 (.cond (.t 10) (.seq f86r2 .ret) .skip)) (.seq (.seq f86r3 (.block 0 (.loop [0, 1, 5] f86b8))) (.seq f86r9 .ret))))
def f86 : IFn := ⟨26, 2, [.tmp 4], f86body⟩
/- 87: jobshell/proc.live$1 -/
@[simp] def f87o0 : List IOper := [
  ⟨(some 2), .box 30 13 (.t 0), none, none⟩,
  ⟨(some 3), .mv (.c (.bool false)), none, none⟩]
def f87r0 : IC := .reg false [] f87o0 [1, 2]
@[simp] theorem f87r0_run : run tbl fin K f87r0 e H = regK tbl fin K [] f87o0 [1, 2] e H := run_regK _ _ _ _ _ _ _ _ _ rfl
@[simp] def f87o1 : List IOper := [
  ⟨(some 4), .fld 0 (.t 2), none, none⟩,
  ⟨(some 5), .load false 1 (.t 4), none, none⟩,
  ⟨(some 6), .load false 1 (.t 1), none, none⟩,
  ⟨(some 7), .bin .eql (.t 5) (.t 6), none, none⟩,
  ⟨(some 8), .mv (.t 7), none, none⟩,
  ⟨(some 9), .load true 13 (.t 2), (some (8, true)), none⟩,
  ⟨(some 10), .call (.c (.fn 70 [])) [(.t 9)], (some (8, true)), none⟩,
  ⟨(some 11), .pick (.t 8) (.t 10) (.c (.bool false)), none, none⟩,
  ⟨(some 3), .mv (.t 11), none, none⟩]
def f87r1 : IC := .reg false [] f87o1 [3]
@[simp] theorem f87r1_run : run tbl fin K f87r1 e H = regK tbl fin K [] f87o1 [3] e H := run_regK _ _ _ _ _ _ _ _ _ rfl
def f87body : IC := (.seq f87r0 (.seq f87r1 .ret))
def f87 : IFn := ⟨12, 2, [.tmp 3], f87body⟩
/- 88: slices.Clone[[]jobshell/api.Proc,jobshell/api.Proc] -/
@[simp] def f88o0 : List IOper := [
  ⟨(some 2), .nilrow 30 13, none, none⟩]
def f88r0 : IC := .reg false [] f88o0 [0]
@[simp] theorem f88r0_run : run tbl fin K f88r0 e H = regK tbl fin K [] f88o0 [0] e H := run_regK _ _ _ _ _ _ _ _ _ rfl
@[simp] def f88o1 : List IOper := [
  ⟨(some 3), .mv (.t 0), none, none⟩,
  ⟨(some 4), .eqnil false (.t 3), none, none⟩]
def f88r1 : IC := .reg false [] f88o1 [4, 0]
@[simp] theorem f88r1_run : run tbl fin K f88r1 e H = regK tbl fin K [] f88o1 [4, 0] e H := run_regK _ _ _ _ _ _ _ _ _ rfl
@[simp] def f88o2 : List IOper := [
  ⟨(some 2), .nilrow 30 13, none, none⟩]
def f88r2 : IC := .reg false [] f88o2 [2]
@[simp] theorem f88r2_run : run tbl fin K f88r2 e H = regK tbl fin K [] f88o2 [2] e H := run_regK _ _ _ _ _ _ _ _ _ rfl
@[simp] def f88o3 : List IOper := [
  ⟨(some 5), .mkrow 30 13 0 (.agg [(.int .i64 0), (.int .i64 0), (.int .i64 0), (.int .i64 0), (.int .i64 0), (.int .i64 0), (.bool false), (.int .i64 0), .e0, .e0, .e0, .e0, (.str [])]) [], none, none⟩,
  ⟨(some 6), .mv (.t 0), none, none⟩,
  ⟨(some 7), .app 30 13 (.t 5) (.t 6), none, none⟩,
  ⟨(some 2), .mv (.t 7), none, none⟩]
def f88r3 : IC := .reg false [] f88o3 [2]
@[simp] theorem f88r3_run : run tbl fin K f88r3 e H = regK tbl fin K [] f88o3 [2] e H := run_regK _ _ _ _ _ _ _ _ _ rfl
def f88body : IC := (.seq f88r0 (.seq (.seq f88r1 (.cond (.t 4) (.seq f88r2 .ret) .skip)) (.seq f88r3 .ret)))
def f88 : IFn := ⟨8, 1, [.tmp 2], f88body⟩
/- 89: jobshell/signal.clone -/
@[simp] def f89o0 : List IOper := [
  ⟨(some 1), .box 27 3 (.t 0), none, none⟩,
  ⟨(some 2), .new 27 3 (.agg [.e0, .e0, .e0]), none, none⟩]
def f89r0 : IC := .reg false [] f89o0 [1, 2]
@[simp] theorem f89r0_run : run tbl fin K f89r0 e H = regK tbl fin K [] f89o0 [1, 2] e H := run_regK _ _ _ _ _ _ _ _ _ rfl
@[simp] def f89o1 : List IOper := [
  ⟨(some 3), .fld 0 (.t 1), none, none⟩,
  ⟨(some 4), .load false 1 (.t 3), none, none⟩,
  ⟨(some 5), .call (.c (.fn 77 [])) [(.t 4)], none, none⟩,
  ⟨(some 6), .fld 1 (.t 1), none, none⟩,
  ⟨(some 7), .load false 1 (.t 6), none, none⟩,
  ⟨(some 8), .call (.c (.fn 77 [])) [(.t 7)], none, none⟩,
  ⟨(some 9), .fld 2 (.t 1), none, none⟩,
  ⟨(some 10), .load false 1 (.t 9), none, none⟩,
  ⟨(some 11), .call (.c (.fn 77 [])) [(.t 10)], none, none⟩,
  ⟨(some 12), .build [.e0, .e0, .e0] [(0, 1, (.t 5)), (1, 1, (.t 8)), (2, 1, (.t 11))], none, none⟩,
  ⟨none, .store 3 (.t 2) (.t 12), none, none⟩]
def f89r1 : IC := .reg true [] f89o1 [2]
@[simp] theorem f89r1_run : run tbl fin K f89r1 e H = regK tbl fin K [] f89o1 [2] e H := run_regK _ _ _ _ _ _ _ _ _ rfl
def f89body : IC := (.seq f89r0 (.seq f89r1 .ret))
def f89 : IFn := ⟨13, 1, [.cell 2 true 3], f89body⟩
/- 90: slices.overlaps[jobshell/api.Proc] has no form -/
/- 91: slices.rotateRight[jobshell/api.Proc] -/
@[simp] def f91o0 : List IOper := [
  ⟨(some 4), .mv (.t 0), none, none⟩,
  ⟨(some 5), .mv (.t 0), none, none⟩,
  ⟨(some 6), .len (.t 5), none, none⟩,
  ⟨(some 7), .mv (.t 1), none, none⟩,
  ⟨(some 8), .bin .sub (.t 6) (.t 7), none, none⟩,
  ⟨(some 9), .call (.c (.fn 101 [])) [(.t 4), (.t 8)], none, none⟩]
def f91r0 : IC := .reg false [] f91o0 []
@[simp] theorem f91r0_run : run tbl fin K f91r0 e H = regK tbl fin K [] f91o0 [] e H := run_regK _ _ _ _ _ _ _ _ _ rfl
def f91body : IC := f91r0
def f91 : IFn := ⟨10, 2, [], f91body⟩
/- 92: jobshell/signal.known -/
@[simp] def f92o0 : List IOper := [
  ⟨(some 2), .mv (.c (.bool false)), none, none⟩]
def f92r0 : IC := .reg false [] f92o0 [0]
@[simp] theorem f92r0_run : run tbl fin K f92r0 e H = regK tbl fin K [] f92o0 [0] e H := run_regK _ _ _ _ _ _ _ _ _ rfl
@[simp] def f92o1 : List IOper := [
  ⟨(some 3), .mv (.t 0), none, none⟩,
  ⟨(some 4), .call (.c (.fn 102 [])) [(.t 3)], none, none⟩,
  ⟨(some 5), .bin .neq (.t 4) (.c (.str [])), none, none⟩,
  ⟨(some 2), .mv (.t 5), none, none⟩]
def f92r1 : IC := .reg false [] f92o1 [2]
@[simp] theorem f92r1_run : run tbl fin K f92r1 e H = regK tbl fin K [] f92o1 [2] e H := run_regK _ _ _ _ _ _ _ _ _ rfl
def f92body : IC := (.seq f92r0 (.seq f92r1 .ret))
def f92 : IFn := ⟨6, 1, [.tmp 2], f92body⟩
/- 93: slices.ContainsFunc[[]int,int] -/
@[simp] def f93o0 : List IOper := [
  ⟨(some 4), .mv (.c (.bool false)), none, none⟩]
def f93r0 : IC := .reg false [] f93o0 [0, 1]
@[simp] theorem f93r0_run : run tbl fin K f93r0 e H = regK tbl fin K [] f93o0 [0, 1] e H := run_regK _ _ _ _ _ _ _ _ _ rfl
@[simp] def f93o1 : List IOper := [
  ⟨(some 5), .mv (.t 0), none, none⟩,
  ⟨(some 6), .mv (.t 1), none, none⟩,
  ⟨(some 7), .ocall (.c (.fn 103 [])) [(.t 5), (.t 6)], none, none⟩,
  ⟨(some 8), .bin .geq (.t 7) (.c (.int .i64 0)), none, none⟩,
  ⟨(some 4), .mv (.t 8), none, none⟩]
def f93r1 : IC := .reg false [] f93o1 [4]
@[simp] theorem f93r1_run : run tbl fin K f93r1 e H = regK tbl fin K [] f93o1 [4] e H := run_regK _ _ _ _ _ _ _ _ _ rfl
def f93body : IC := (.seq f93r0 (.seq f93r1 .ret))
def f93 : IFn := ⟨9, 2, [.tmp 4], f93body⟩
/- 94: jobshell/signal.fixed -/
@[simp] def f94o0 : List IOper := [
  ⟨(some 2), .mv (.c (.bool false)), none, none⟩]
def f94r0 : IC := .reg false [] f94o0 [0]
@[simp] theorem f94r0_run : run tbl fin K f94r0 e H = regK tbl fin K [] f94o0 [0] e H := run_regK _ _ _ _ _ _ _ _ _ rfl
@[simp] def f94o1 : List IOper := [
  ⟨(some 3), .mv (.t 0), none, none⟩,
  ⟨(some 4), .bin .eql (.t 3) (.c (.int .i64 9)), none, none⟩,
  ⟨(some 5), .mv (.t 4), none, none⟩,
  ⟨(some 6), .mv (.t 0), (some (5, false)), none⟩,
  ⟨(some 7), .bin .eql (.t 6) (.c (.int .i64 19)), (some (5, false)), none⟩,
  ⟨(some 8), .pick (.t 5) (.c (.bool true)) (.t 7), none, none⟩,
  ⟨(some 2), .mv (.t 8), none, none⟩]
def f94r1 : IC := .reg false [] f94o1 [2]
@[simp] theorem f94r1_run : run tbl fin K f94r1 e H = regK tbl fin K [] f94o1 [2] e H := run_regK _ _ _ _ _ _ _ _ _ rfl
def f94body : IC := (.seq f94r0 (.seq f94r1 .ret))
def f94 : IFn := ⟨9, 1, [.tmp 2], f94body⟩
/- 95: jobshell/signal.Valid$1 -/
@[simp] def f95o0 : List IOper := [
  ⟨(some 3), .mv (.c (.bool false)), none, none⟩]
def f95r0 : IC := .reg false [] f95o0 [1, 0]
@[simp] theorem f95r0_run : run tbl fin K f95r0 e H = regK tbl fin K [] f95o0 [1, 0] e H := run_regK _ _ _ _ _ _ _ _ _ rfl
@[simp] def f95o1 : List IOper := [
  ⟨(some 4), .fld 2 (.t 1), none, none⟩,
  ⟨(some 5), .load false 1 (.t 4), none, none⟩,
  ⟨(some 6), .mv (.t 0), none, none⟩,
  ⟨(some 7), .call (.c (.fn 96 [])) [(.t 5), (.t 6)], none, none⟩,
  ⟨(some 3), .mv (.t 7), none, none⟩]
def f95r1 : IC := .reg false [] f95o1 [3]
@[simp] theorem f95r1_run : run tbl fin K f95r1 e H = regK tbl fin K [] f95o1 [3] e H := run_regK _ _ _ _ _ _ _ _ _ rfl
def f95body : IC := (.seq f95r0 (.seq f95r1 .ret))
def f95 : IFn := ⟨8, 2, [.tmp 3], f95body⟩
/- 96: slices.Contains[[]int,int] -/
@[simp] def f96o0 : List IOper := [
  ⟨(some 4), .mv (.c (.bool false)), none, none⟩]
def f96r0 : IC := .reg false [] f96o0 [0, 1]
@[simp] theorem f96r0_run : run tbl fin K f96r0 e H = regK tbl fin K [] f96o0 [0, 1] e H := run_regK _ _ _ _ _ _ _ _ _ rfl
@[simp] def f96o1 : List IOper := [
  ⟨(some 5), .mv (.t 0), none, none⟩,
  ⟨(some 6), .mv (.t 1), none, none⟩,
  ⟨(some 7), .call (.c (.fn 104 [])) [(.t 5), (.t 6)], none, none⟩,
  ⟨(some 8), .bin .geq (.t 7) (.c (.int .i64 0)), none, none⟩,
  ⟨(some 4), .mv (.t 8), none, none⟩]
def f96r1 : IC := .reg false [] f96o1 [4]
@[simp] theorem f96r1_run : run tbl fin K f96r1 e H = regK tbl fin K [] f96o1 [4] e H := run_regK _ _ _ _ _ _ _ _ _ rfl
def f96body : IC := (.seq f96r0 (.seq f96r1 .ret))
def f96 : IFn := ⟨9, 2, [.tmp 4], f96body⟩
/- 97: jobshell/signal.stops -/
@[simp] def f97o0 : List IOper := [
  ⟨(some 2), .mv (.c (.bool false)), none, none⟩]
def f97r0 : IC := .reg false [] f97o0 [0]
@[simp] theorem f97r0_run : run tbl fin K f97r0 e H = regK tbl fin K [] f97o0 [0] e H := run_regK _ _ _ _ _ _ _ _ _ rfl
@[simp] def f97o1 : List IOper := [
  ⟨(some 3), .mv (.t 0), none, none⟩,
  ⟨(some 4), .bin .eql (.t 3) (.c (.int .i64 19)), none, none⟩,
  ⟨(some 5), .mv (.t 4), none, none⟩,
  ⟨(some 6), .mv (.t 0), (some (5, false)), none⟩,
  ⟨(some 7), .bin .eql (.t 6) (.c (.int .i64 20)), (some (5, false)), none⟩,
  ⟨(some 8), .pick (.t 5) (.c (.bool true)) (.t 7), none, none⟩,
  ⟨(some 9), .mv (.t 8), none, none⟩,
  ⟨(some 10), .mv (.t 0), (some (9, false)), some [10, 9, 0]⟩,
  ⟨(some 11), .bin .eql (.t 10) (.c (.int .i64 4)), (some (9, false)), none⟩,
  ⟨(some 12), .pick (.t 9) (.c (.bool true)) (.t 11), none, none⟩,
  ⟨(some 13), .mv (.t 12), none, none⟩,
  ⟨(some 14), .mv (.t 0), (some (13, false)), none⟩,
  ⟨(some 15), .bin .eql (.t 14) (.c (.int .i64 5)), (some (13, false)), none⟩,
  ⟨(some 16), .pick (.t 13) (.c (.bool true)) (.t 15), none, none⟩,
  ⟨(some 2), .mv (.t 16), none, none⟩]
def f97r1 : IC := .reg false [] f97o1 [2]
@[simp] theorem f97r1_run : run tbl fin K f97r1 e H = regK tbl fin K [] f97o1 [2] e H := run_regK _ _ _ _ _ _ _ _ _ rfl
def f97body : IC := (.seq f97r0 (.seq f97r1 .ret))
def f97 : IFn := ⟨17, 1, [.tmp 2], f97body⟩
/- 98: jobshell/jobshellref25.list -/
@[simp] def f98o0 : List IOper := [
  ⟨(some 2), .mv (.c (.bool false)), none, none⟩]
def f98r0 : IC := .reg false [] f98o0 [0]
@[simp] theorem f98r0_run : run tbl fin K f98r0 e H = regK tbl fin K [] f98o0 [0] e H := run_regK _ _ _ _ _ _ _ _ _ rfl
@[simp] def f98o1 : List IOper := [
  ⟨(some 3), .mv (.c (.int .i64 0)), none, none⟩]
def f98r1 : IC := .reg false [] f98o1 [0, 3]
@[simp] theorem f98r1_run : run tbl fin K f98r1 e H = regK tbl fin K [] f98o1 [0, 3] e H := run_regK _ _ _ _ _ _ _ _ _ rfl
@[simp] def f98o2 : List IOper := [
  ⟨(some 4), .mv (.t 3), none, none⟩,
  ⟨(some 5), .mv (.t 0), none, none⟩,
  ⟨(some 6), .len (.t 5), none, none⟩,
  ⟨(some 7), .bin .lss (.t 4) (.t 6), none, none⟩]
def f98r2 : IC := .reg false [] f98o2 [7, 0, 3]
@[simp] theorem f98r2_run : run tbl fin K f98r2 e H = regK tbl fin K [] f98o2 [7, 0, 3] e H := run_regK _ _ _ _ _ _ _ _ _ rfl
@[simp] def f98o3 : List IOper := [
  ⟨(some 10), .mv (.t 0), none, none⟩,
  ⟨(some 11), .mv (.t 3), none, none⟩,
  ⟨(some 12), .idx 1 (.t 10) (.t 11), none, none⟩,
  ⟨(some 13), .load false 1 (.t 12), none, none⟩,
  ⟨(some 14), .call (.c (.fn 105 [])) [(.t 13)], none, none⟩,
  ⟨(some 15), .bin .eql (.t 14) (.c (.str [])), none, none⟩,
  ⟨(some 16), .mv (.t 15), none, none⟩,
  ⟨(some 17), .mv (.t 3), (some (16, false)), none⟩,
  ⟨(some 18), .bin .gtr (.t 17) (.c (.int .i64 0)), (some (16, false)), none⟩,
  ⟨(some 19), .mv (.t 18), (some (16, false)), none⟩,
  ⟨(some 20), .mv (.t 0), (some (19, true)), none⟩,
  ⟨(some 21), .mv (.t 3), (some (19, true)), none⟩,
  ⟨(some 22), .idx 1 (.t 20) (.t 21), (some (19, true)), none⟩,
  ⟨(some 23), .load false 1 (.t 22), (some (19, true)), none⟩,
  ⟨(some 24), .mv (.t 0), (some (19, true)), none⟩,
  ⟨(some 25), .mv (.t 3), (some (19, true)), none⟩,
  ⟨(some 26), .bin .sub (.t 25) (.c (.int .i64 1)), (some (19, true)), none⟩,
  ⟨(some 27), .idx 1 (.t 24) (.t 26), (some (19, true)), none⟩,
  ⟨(some 28), .load false 1 (.t 27), (some (19, true)), none⟩,
  ⟨(some 29), .bin .leq (.t 23) (.t 28), (some (19, true)), none⟩,
  ⟨(some 30), .pick (.t 19) (.t 29) (.c (.bool false)), (some (16, false)), none⟩,
  ⟨(some 31), .pick (.t 16) (.c (.bool true)) (.t 30), none, none⟩]
def f98r3 : IC := .reg true [] f98o3 [31, 0, 3]
@[simp] theorem f98r3_run : run tbl fin K f98r3 e H = regK tbl fin K [] f98o3 [31, 0, 3] e H := run_regK _ _ _ _ _ _ _ _ _ rfl
@[simp] def f98o4 : List IOper := [
  ⟨(some 2), .mv (.c (.bool false)), none, none⟩]
def f98r4 : IC := .reg false [] f98o4 [2]
@[simp] theorem f98r4_run : run tbl fin K f98r4 e H = regK tbl fin K [] f98o4 [2] e H := run_regK _ _ _ _ _ _ _ _ _ rfl
@[simp] def f98o5 : List IOper := [
  ⟨(some 8), .mv (.t 3), none, none⟩,
  ⟨(some 9), .bin .add (.t 8) (.c (.int .i64 1)), none, none⟩,
  ⟨(some 3), .mv (.t 9), none, none⟩]
def f98r5 : IC := .reg false [] f98o5 [0, 3]
@[simp] theorem f98r5_run : run tbl fin K f98r5 e H = regK tbl fin K [] f98o5 [0, 3] e H := run_regK _ _ _ _ _ _ _ _ _ rfl
def f98b6 : IC := (.seq (.seq f98r2 (.cond (.t 7) .skip (.exit 0))) (.seq (.block 1 (.seq f98r3 (.cond (.t 31) (.seq f98r4 .ret) .skip))) f98r5))
theorem f98b6_eq : f98b6 = (.seq (.seq f98r2 (.cond (.t 7) .skip (.exit 0))) (.seq (.block 1 (.seq f98r3 (.cond (.t 31) (.seq f98r4 .ret) .skip))) f98r5)) := rfl
@[simp] def f98o7 : List IOper := [
  ⟨(some 2), .mv (.c (.bool true)), none, none⟩]
def f98r7 : IC := .reg false [] f98o7 [2]
@[simp] theorem f98r7_run : run tbl fin K f98r7 e H = regK tbl fin K [] f98o7 [2] e H := run_regK _ _ _ _ _ _ _ _ _ rfl
def f98body : IC := (.seq f98r0 (.seq (.seq f98r1 (.block 0 (.loop [0, 3] f98b6))) (.seq f98r7 .ret)))
def f98 : IFn := ⟨32, 1, [.tmp 2], f98body⟩
/- 99: jobshell/jobshellref25.Has -/
@[simp] def f99o0 : List IOper := [
  ⟨(some 4), .mv (.c (.bool false)), none, none⟩]
def f99r0 : IC := .reg false [] f99o0 [0, 1]
@[simp] theorem f99r0_run : run tbl fin K f99r0 e H = regK tbl fin K [] f99o0 [0, 1] e H := run_regK _ _ _ _ _ _ _ _ _ rfl
@[simp] def f99o1 : List IOper := [
  ⟨(some 5), .mv (.c (.int .i64 0)), none, none⟩]
def f99r1 : IC := .reg false [] f99o1 [0, 1, 5]
@[simp] theorem f99r1_run : run tbl fin K f99r1 e H = regK tbl fin K [] f99o1 [0, 1, 5] e H := run_regK _ _ _ _ _ _ _ _ _ rfl
@[simp] def f99o2 : List IOper := [
  ⟨(some 6), .mv (.t 5), none, none⟩,
  ⟨(some 7), .mv (.t 0), none, none⟩,
  ⟨(some 8), .len (.t 7), none, none⟩,
  ⟨(some 9), .bin .lss (.t 6) (.t 8), none, none⟩]
def f99r2 : IC := .reg false [] f99o2 [9, 1, 0, 5]
@[simp] theorem f99r2_run : run tbl fin K f99r2 e H = regK tbl fin K [] f99o2 [9, 1, 0, 5] e H := run_regK _ _ _ _ _ _ _ _ _ rfl
@[simp] def f99o3 : List IOper := [
  ⟨(some 12), .mv (.t 0), none, none⟩,
  ⟨(some 13), .mv (.t 5), none, none⟩,
  ⟨(some 14), .idx 1 (.t 12) (.t 13), none, none⟩,
  ⟨(some 15), .load false 1 (.t 14), none, none⟩,
  ⟨(some 16), .mv (.t 1), none, none⟩,
  ⟨(some 17), .bin .eql (.t 15) (.t 16), none, none⟩]
def f99r3 : IC := .reg false [] f99o3 [17, 1, 0, 5]
@[simp] theorem f99r3_run : run tbl fin K f99r3 e H = regK tbl fin K [] f99o3 [17, 1, 0, 5] e H := run_regK _ _ _ _ _ _ _ _ _ rfl
@[simp] def f99o4 : List IOper := [
  ⟨(some 4), .mv (.c (.bool true)), none, none⟩]
def f99r4 : IC := .reg false [] f99o4 [4]
@[simp] theorem f99r4_run : run tbl fin K f99r4 e H = regK tbl fin K [] f99o4 [4] e H := run_regK _ _ _ _ _ _ _ _ _ rfl
@[simp] def f99o5 : List IOper := [
  ⟨(some 10), .mv (.t 5), none, none⟩,
  ⟨(some 11), .bin .add (.t 10) (.c (.int .i64 1)), none, none⟩,
  ⟨(some 5), .mv (.t 11), none, none⟩]
def f99r5 : IC := .reg false [] f99o5 [0, 1, 5]
@[simp] theorem f99r5_run : run tbl fin K f99r5 e H = regK tbl fin K [] f99o5 [0, 1, 5] e H := run_regK _ _ _ _ _ _ _ _ _ rfl
def f99b6 : IC := (.seq (.seq f99r2 (.cond (.t 9) .skip (.exit 0))) (.seq (.block 1 (.seq f99r3 (.cond (.t 17) (.seq f99r4 .ret) .skip))) f99r5))
theorem f99b6_eq : f99b6 = (.seq (.seq f99r2 (.cond (.t 9) .skip (.exit 0))) (.seq (.block 1 (.seq f99r3 (.cond (.t 17) (.seq f99r4 .ret) .skip))) f99r5)) := rfl
@[simp] def f99o7 : List IOper := [
  ⟨(some 4), .mv (.c (.bool false)), none, none⟩]
def f99r7 : IC := .reg false [] f99o7 [4]
@[simp] theorem f99r7_run : run tbl fin K f99r7 e H = regK tbl fin K [] f99o7 [4] e H := run_regK _ _ _ _ _ _ _ _ _ rfl
def f99body : IC := (.seq f99r0 (.seq (.seq f99r1 (.block 0 (.loop [0, 1, 5] f99b6))) (.seq f99r7 .ret)))
def f99 : IFn := ⟨18, 2, [.tmp 4], f99body⟩
/- 100: jobshell/jobshellref25.stops -/
@[simp] def f100o0 : List IOper := [
  ⟨(some 2), .mv (.c (.bool false)), none, none⟩]
def f100r0 : IC := .reg false [] f100o0 [0]
@[simp] theorem f100r0_run : run tbl fin K f100r0 e H = regK tbl fin K [] f100o0 [0] e H := run_regK _ _ _ _ _ _ _ _ _ rfl
@[simp] def f100o1 : List IOper := [
  ⟨(some 3), .mv (.t 0), none, none⟩,
  ⟨(some 4), .bin .eql (.t 3) (.c (.int .i64 19)), none, none⟩,
  ⟨(some 5), .mv (.t 4), none, none⟩,
  ⟨(some 6), .mv (.t 0), (some (5, false)), none⟩,
  ⟨(some 7), .bin .eql (.t 6) (.c (.int .i64 20)), (some (5, false)), none⟩,
  ⟨(some 8), .pick (.t 5) (.c (.bool true)) (.t 7), none, none⟩,
  ⟨(some 9), .mv (.t 8), none, none⟩,
  ⟨(some 10), .mv (.t 0), (some (9, false)), some [10, 9, 0]⟩,
  ⟨(some 11), .bin .eql (.t 10) (.c (.int .i64 4)), (some (9, false)), none⟩,
  ⟨(some 12), .pick (.t 9) (.c (.bool true)) (.t 11), none, none⟩,
  ⟨(some 13), .mv (.t 12), none, none⟩,
  ⟨(some 14), .mv (.t 0), (some (13, false)), none⟩,
  ⟨(some 15), .bin .eql (.t 14) (.c (.int .i64 5)), (some (13, false)), none⟩,
  ⟨(some 16), .pick (.t 13) (.c (.bool true)) (.t 15), none, none⟩,
  ⟨(some 2), .mv (.t 16), none, none⟩]
def f100r1 : IC := .reg false [] f100o1 [2]
@[simp] theorem f100r1_run : run tbl fin K f100r1 e H = regK tbl fin K [] f100o1 [2] e H := run_regK _ _ _ _ _ _ _ _ _ rfl
def f100body : IC := (.seq f100r0 (.seq f100r1 .ret))
def f100 : IFn := ⟨17, 1, [.tmp 2], f100body⟩
/- 101: slices.rotateLeft[jobshell/api.Proc] -/
@[simp] def f101o0 : List IOper := [
  ⟨(some 4), .mv (.t 0), none, none⟩,
  ⟨(some 5), .mv (.t 1), none, none⟩,
  ⟨(some 6), .slc 13 (.t 4) none (some (.t 5)), none, none⟩,
  ⟨(some 7), .call (.c (.fn 106 [])) [(.t 6)], none, none⟩]
def f101r0 : IC := .reg false [] f101o0 [1, 0]
@[simp] theorem f101r0_run : run tbl fin K f101r0 e H = regK tbl fin K [] f101o0 [1, 0] e H := run_regK _ _ _ _ _ _ _ _ _ rfl
@[simp] def f101o1 : List IOper := [
  ⟨(some 8), .mv (.t 0), none, none⟩,
  ⟨(some 9), .mv (.t 1), none, none⟩,
  ⟨(some 10), .slc 13 (.t 8) (some (.t 9)) none, none, none⟩,
  ⟨(some 11), .call (.c (.fn 106 [])) [(.t 10)], none, none⟩]
def f101r1 : IC := .reg false [] f101o1 [0]
@[simp] theorem f101r1_run : run tbl fin K f101r1 e H = regK tbl fin K [] f101o1 [0] e H := run_regK _ _ _ _ _ _ _ _ _ rfl
@[simp] def f101o2 : List IOper := [
  ⟨(some 12), .mv (.t 0), none, none⟩,
  ⟨(some 13), .call (.c (.fn 106 [])) [(.t 12)], none, none⟩]
def f101r2 : IC := .reg false [] f101o2 []
@[simp] theorem f101r2_run : run tbl fin K f101r2 e H = regK tbl fin K [] f101o2 [] e H := run_regK _ _ _ _ _ _ _ _ _ rfl
def f101body : IC := (.seq f101r0 (.seq f101r1 f101r2))
def f101 : IFn := ⟨14, 2, [], f101body⟩
/- 102: jobshell/signal.Name -/
@[simp] def f102o0 : List IOper := [
  ⟨(some 2), .mv (.c (.str [])), none, none⟩]
def f102r0 : IC := .reg false [] f102o0 [0]
@[simp] theorem f102r0_run : run tbl fin K f102r0 e H = regK tbl fin K [] f102o0 [0] e H := run_regK _ _ _ _ _ _ _ _ _ rfl
@[simp] def f102o1 : List IOper := [
  ⟨(some 3), .mv (.t 0), none, none⟩,
  ⟨(some 4), .bin .lss (.t 3) (.c (.int .i64 0)), none, none⟩,
  ⟨(some 5), .mv (.t 4), none, none⟩,
  ⟨(some 6), .mv (.t 0), (some (5, false)), none⟩,
  ⟨(some 7), .bin .geq (.t 6) (.c (.int .i64 21)), (some (5, false)), none⟩,
  ⟨(some 8), .pick (.t 5) (.c (.bool true)) (.t 7), none, none⟩]
def f102r1 : IC := .reg false [] f102o1 [8, 0]
@[simp] theorem f102r1_run : run tbl fin K f102r1 e H = regK tbl fin K [] f102o1 [8, 0] e H := run_regK _ _ _ _ _ _ _ _ _ rfl
@[simp] def f102o2 : List IOper := [
  ⟨(some 2), .mv (.c (.str [])), none, none⟩]
def f102r2 : IC := .reg false [] f102o2 [2]
@[simp] theorem f102r2_run : run tbl fin K f102r2 e H = regK tbl fin K [] f102o2 [2] e H := run_regK _ _ _ _ _ _ _ _ _ rfl
@[simp] def f102o3 : List IOper := [
  ⟨(some 9), .mv (.t 0), none, none⟩,
  ⟨(some 10), .pix 21 1 (.c (.cptr (.agg [(.str []), (.str [72, 85, 80]), (.str [73, 78, 84]), (.str [81, 85, 73, 84]), (.str [84, 84, 73, 78]), (.str [84, 84, 79, 85]), (.str []), (.str []), (.str []), (.str [75, 73, 76, 76]), (.str [85, 83, 82, 49]), (.str []), (.str [85, 83, 82, 50]), (.str [80, 73, 80, 69]), (.str [65, 76, 82, 77]), (.str [84, 69, 82, 77]), (.str []), (.str [67, 72, 76, 68]), (.str [67, 79, 78, 84]), (.str [83, 84, 79, 80]), (.str [84, 83, 84, 80])]) 0)) (.t 9), none, none⟩,
  ⟨(some 11), .load false 1 (.t 10), none, none⟩,
  ⟨(some 2), .mv (.t 11), none, none⟩]
def f102r3 : IC := .reg false [] f102o3 [2]
@[simp] theorem f102r3_run : run tbl fin K f102r3 e H = regK tbl fin K [] f102o3 [2] e H := run_regK _ _ _ _ _ _ _ _ _ rfl
def f102body : IC := (.seq f102r0 (.seq (.seq f102r1 (.cond (.t 8) (.seq f102r2 .ret) .skip)) (.seq f102r3 .ret)))
def f102 : IFn := ⟨12, 1, [.tmp 2], f102body⟩
/- 103: slices.IndexFunc[[]int,int] -/
@[simp] def f103o0 : List IOper := [
  ⟨(some 4), .mv (.c (.int .i64 0)), none, none⟩]
def f103r0 : IC := .reg false [] f103o0 [1, 0]
@[simp] theorem f103r0_run : run tbl fin K f103r0 e H = regK tbl fin K [] f103o0 [1, 0] e H := run_regK _ _ _ _ _ _ _ _ _ rfl
@[simp] def f103o1 : List IOper := [
  ⟨(some 6), .mv (.t 0), none, none⟩,
  ⟨(some 7), .len (.t 6), none, none⟩,
  ⟨(some 8), .mv (.c (.int .i64 0)), none, none⟩]
def f103r1 : IC := .reg false [] f103o1 [7, 1, 0, 8]
@[simp] theorem f103r1_run : run tbl fin K f103r1 e H = regK tbl fin K [] f103o1 [7, 1, 0, 8] e H := run_regK _ _ _ _ _ _ _ _ _ rfl
@[simp] def f103o2 : List IOper := [
  ⟨(some 9), .bin .lss (.t 8) (.t 7), none, none⟩]
def f103r2 : IC := .reg false [] f103o2 [9, 0, 1, 7, 8]
@[simp] theorem f103r2_run : run tbl fin K f103r2 e H = regK tbl fin K [] f103o2 [9, 0, 1, 7, 8] e H := run_regK _ _ _ _ _ _ _ _ _ rfl
@[simp] def f103o3 : List IOper := [
  ⟨(some 10), .mv (.t 8), none, none⟩,
  ⟨(some 5), .mv (.t 10), none, none⟩]
def f103r3 : IC := .reg false [] f103o3 [0, 1, 7, 8, 5]
@[simp] theorem f103r3_run : run tbl fin K f103r3 e H = regK tbl fin K [] f103o3 [0, 1, 7, 8, 5] e H := run_regK _ _ _ _ _ _ _ _ _ rfl
@[simp] def f103o4 : List IOper := [
  ⟨(some 11), .mv (.t 1), none, none⟩,
  ⟨(some 12), .mv (.t 0), none, none⟩,
  ⟨(some 13), .mv (.t 5), none, none⟩,
  ⟨(some 14), .idx 1 (.t 12) (.t 13), none, none⟩,
  ⟨(some 15), .load false 1 (.t 14), none, none⟩,
  ⟨(some 16), .ocall (.t 11) [(.t 15)], none, none⟩]
def f103r4 : IC := .reg false [] f103o4 [16, 0, 1, 7, 8, 5]
@[simp] theorem f103r4_run : run tbl fin K f103r4 e H = regK tbl fin K [] f103o4 [16, 0, 1, 7, 8, 5] e H := run_regK _ _ _ _ _ _ _ _ _ rfl
@[simp] def f103o5 : List IOper := [
  ⟨(some 17), .mv (.t 5), none, none⟩,
  ⟨(some 4), .mv (.t 17), none, none⟩]
def f103r5 : IC := .reg false [] f103o5 [4]
@[simp] theorem f103r5_run : run tbl fin K f103r5 e H = regK tbl fin K [] f103o5 [4] e H := run_regK _ _ _ _ _ _ _ _ _ rfl
@[simp] def f103o6 : List IOper := [
  ⟨(some 18), .bin .add (.t 8) (.c (.int .i64 1)), none, none⟩,
  ⟨(some 8), .mv (.t 18), none, none⟩]
def f103r6 : IC := .reg false [] f103o6 [7, 1, 0, 8]
@[simp] theorem f103r6_run : run tbl fin K f103r6 e H = regK tbl fin K [] f103o6 [7, 1, 0, 8] e H := run_regK _ _ _ _ _ _ _ _ _ rfl
def f103b7 : IC := (.seq f103r2 (.seq (.cond (.t 9) .skip (.exit 0)) (.seq (.block 1 (.seq f103r3 (.seq f103r4 (.cond (.t 16) (.seq f103r5 .ret) .skip)))) f103r6)))
theorem f103b7_eq : f103b7 = (.seq f103r2 (.seq (.cond (.t 9) .skip (.exit 0)) (.seq (.block 1 (.seq f103r3 (.seq f103r4 (.cond (.t 16) (.seq f103r5 .ret) .skip)))) f103r6))) := rfl
@[simp] def f103o8 : List IOper := [
  ⟨(some 4), .mv (.c (.int .i64 (-1))), none, none⟩]
def f103r8 : IC := .reg false [] f103o8 [4]
@[simp] theorem f103r8_run : run tbl fin K f103r8 e H = regK tbl fin K [] f103o8 [4] e H := run_regK _ _ _ _ _ _ _ _ _ rfl
def f103body : IC := (.seq f103r0 (.seq (.seq f103r1 (.block 0 (.loop [7, 1, 0, 8] f103b7))) (.seq f103r8 .ret)))
def f103 : IFn := ⟨19, 2, [.tmp 4], f103body⟩
/- 104: slices.Index[[]int,int] -/
@[simp] def f104o0 : List IOper := [
  ⟨(some 4), .mv (.c (.int .i64 0)), none, none⟩]
def f104r0 : IC := .reg false [] f104o0 [1, 0]
@[simp] theorem f104r0_run : run tbl fin K f104r0 e H = regK tbl fin K [] f104o0 [1, 0] e H := run_regK _ _ _ _ _ _ _ _ _ rfl
@[simp] def f104o1 : List IOper := [
  ⟨(some 6), .mv (.t 0), none, none⟩,
  ⟨(some 7), .len (.t 6), none, none⟩,
  ⟨(some 8), .mv (.c (.int .i64 0)), none, none⟩]
def f104r1 : IC := .reg false [] f104o1 [7, 1, 0, 8]
@[simp] theorem f104r1_run : run tbl fin K f104r1 e H = regK tbl fin K [] f104o1 [7, 1, 0, 8] e H := run_regK _ _ _ _ _ _ _ _ _ rfl
@[simp] def f104o2 : List IOper := [
  ⟨(some 9), .bin .lss (.t 8) (.t 7), none, none⟩]
def f104r2 : IC := .reg false [] f104o2 [9, 0, 1, 7, 8]
@[simp] theorem f104r2_run : run tbl fin K f104r2 e H = regK tbl fin K [] f104o2 [9, 0, 1, 7, 8] e H := run_regK _ _ _ _ _ _ _ _ _ rfl
@[simp] def f104o3 : List IOper := [
  ⟨(some 10), .mv (.t 8), none, none⟩,
  ⟨(some 5), .mv (.t 10), none, none⟩]
def f104r3 : IC := .reg false [] f104o3 [0, 1, 7, 8, 5]
@[simp] theorem f104r3_run : run tbl fin K f104r3 e H = regK tbl fin K [] f104o3 [0, 1, 7, 8, 5] e H := run_regK _ _ _ _ _ _ _ _ _ rfl
@[simp] def f104o4 : List IOper := [
  ⟨(some 11), .mv (.t 1), none, none⟩,
  ⟨(some 12), .mv (.t 0), none, none⟩,
  ⟨(some 13), .mv (.t 5), none, none⟩,
  ⟨(some 14), .idx 1 (.t 12) (.t 13), none, none⟩,
  ⟨(some 15), .load false 1 (.t 14), none, none⟩,
  ⟨(some 16), .bin .eql (.t 11) (.t 15), none, none⟩]
def f104r4 : IC := .reg false [] f104o4 [16, 0, 1, 7, 8, 5]
@[simp] theorem f104r4_run : run tbl fin K f104r4 e H = regK tbl fin K [] f104o4 [16, 0, 1, 7, 8, 5] e H := run_regK _ _ _ _ _ _ _ _ _ rfl
@[simp] def f104o5 : List IOper := [
  ⟨(some 17), .mv (.t 5), none, none⟩,
  ⟨(some 4), .mv (.t 17), none, none⟩]
def f104r5 : IC := .reg false [] f104o5 [4]
@[simp] theorem f104r5_run : run tbl fin K f104r5 e H = regK tbl fin K [] f104o5 [4] e H := run_regK _ _ _ _ _ _ _ _ _ rfl
@[simp] def f104o6 : List IOper := [
  ⟨(some 18), .bin .add (.t 8) (.c (.int .i64 1)), none, none⟩,
  ⟨(some 8), .mv (.t 18), none, none⟩]
def f104r6 : IC := .reg false [] f104o6 [7, 1, 0, 8]
@[simp] theorem f104r6_run : run tbl fin K f104r6 e H = regK tbl fin K [] f104o6 [7, 1, 0, 8] e H := run_regK _ _ _ _ _ _ _ _ _ rfl
def f104b7 : IC := (.seq f104r2 (.seq (.cond (.t 9) .skip (.exit 0)) (.seq (.block 1 (.seq f104r3 (.seq f104r4 (.cond (.t 16) (.seq f104r5 .ret) .skip)))) f104r6)))
theorem f104b7_eq : f104b7 = (.seq f104r2 (.seq (.cond (.t 9) .skip (.exit 0)) (.seq (.block 1 (.seq f104r3 (.seq f104r4 (.cond (.t 16) (.seq f104r5 .ret) .skip)))) f104r6))) := rfl
@[simp] def f104o8 : List IOper := [
  ⟨(some 4), .mv (.c (.int .i64 (-1))), none, none⟩]
def f104r8 : IC := .reg false [] f104o8 [4]
@[simp] theorem f104r8_run : run tbl fin K f104r8 e H = regK tbl fin K [] f104o8 [4] e H := run_regK _ _ _ _ _ _ _ _ _ rfl
def f104body : IC := (.seq f104r0 (.seq (.seq f104r1 (.block 0 (.loop [7, 1, 0, 8] f104b7))) (.seq f104r8 .ret)))
def f104 : IFn := ⟨19, 2, [.tmp 4], f104body⟩
/- 105: jobshell/jobshellref25.Name -/
@[simp] def f105o0 : List IOper := [
  ⟨(some 2), .mv (.c (.str [])), none, none⟩]
def f105r0 : IC := .reg false [] f105o0 [0]
@[simp] theorem f105r0_run : run tbl fin K f105r0 e H = regK tbl fin K [] f105o0 [0] e H := run_regK _ _ _ _ _ _ _ _ _ rfl
@[simp] def f105o1 : List IOper := [
  ⟨(some 3), .mv (.t 0), none, none⟩]
def f105r1 : IC := .reg false [] f105o1 [3]
@[simp] theorem f105r1_run : run tbl fin K f105r1 e H = regK tbl fin K [] f105o1 [3] e H := run_regK _ _ _ _ _ _ _ _ _ rfl
@[simp] def f105o2 : List IOper := [
  ⟨(some 5), .bin .eql (.t 3) (.c (.int .i64 1)), none, none⟩,
  ⟨(some 4), .mv (.t 5), none, none⟩]
def f105r2 : IC := .reg false [] f105o2 [4, 3]
@[simp] theorem f105r2_run : run tbl fin K f105r2 e H = regK tbl fin K [] f105o2 [4, 3] e H := run_regK _ _ _ _ _ _ _ _ _ rfl
@[simp] def f105o3 : List IOper := [
  ⟨(some 2), .mv (.c (.str [72, 85, 80])), none, none⟩]
def f105r3 : IC := .reg false [] f105o3 [2]
@[simp] theorem f105r3_run : run tbl fin K f105r3 e H = regK tbl fin K [] f105o3 [2] e H := run_regK _ _ _ _ _ _ _ _ _ rfl
@[simp] def f105o4 : List IOper := [
  ⟨(some 7), .bin .eql (.t 3) (.c (.int .i64 2)), none, none⟩,
  ⟨(some 6), .mv (.t 7), none, none⟩]
def f105r4 : IC := .reg false [] f105o4 [6, 3]
@[simp] theorem f105r4_run : run tbl fin K f105r4 e H = regK tbl fin K [] f105o4 [6, 3] e H := run_regK _ _ _ _ _ _ _ _ _ rfl
@[simp] def f105o5 : List IOper := [
  ⟨(some 2), .mv (.c (.str [73, 78, 84])), none, none⟩]
def f105r5 : IC := .reg false [] f105o5 [2]
@[simp] theorem f105r5_run : run tbl fin K f105r5 e H = regK tbl fin K [] f105o5 [2] e H := run_regK _ _ _ _ _ _ _ _ _ rfl
@[simp] def f105o6 : List IOper := [
  ⟨(some 9), .bin .eql (.t 3) (.c (.int .i64 3)), none, none⟩,
  ⟨(some 8), .mv (.t 9), none, none⟩]
def f105r6 : IC := .reg false [] f105o6 [8, 3]
@[simp] theorem f105r6_run : run tbl fin K f105r6 e H = regK tbl fin K [] f105o6 [8, 3] e H := run_regK _ _ _ _ _ _ _ _ _ rfl
@[simp] def f105o7 : List IOper := [
  ⟨(some 2), .mv (.c (.str [81, 85, 73, 84])), none, none⟩]
def f105r7 : IC := .reg false [] f105o7 [2]
@[simp] theorem f105r7_run : run tbl fin K f105r7 e H = regK tbl fin K [] f105o7 [2] e H := run_regK _ _ _ _ _ _ _ _ _ rfl
@[simp] def f105o8 : List IOper := [
  ⟨(some 11), .bin .eql (.t 3) (.c (.int .i64 4)), none, none⟩,
  ⟨(some 10), .mv (.t 11), none, none⟩]
def f105r8 : IC := .reg false [] f105o8 [10, 3]
@[simp] theorem f105r8_run : run tbl fin K f105r8 e H = regK tbl fin K [] f105o8 [10, 3] e H := run_regK _ _ _ _ _ _ _ _ _ rfl
@[simp] def f105o9 : List IOper := [
  ⟨(some 2), .mv (.c (.str [84, 84, 73, 78])), none, none⟩]
def f105r9 : IC := .reg false [] f105o9 [2]
@[simp] theorem f105r9_run : run tbl fin K f105r9 e H = regK tbl fin K [] f105o9 [2] e H := run_regK _ _ _ _ _ _ _ _ _ rfl
@[simp] def f105o10 : List IOper := [
  ⟨(some 13), .bin .eql (.t 3) (.c (.int .i64 5)), none, none⟩,
  ⟨(some 12), .mv (.t 13), none, none⟩]
def f105r10 : IC := .reg false [] f105o10 [12, 3]
@[simp] theorem f105r10_run : run tbl fin K f105r10 e H = regK tbl fin K [] f105o10 [12, 3] e H := run_regK _ _ _ _ _ _ _ _ _ rfl
@[simp] def f105o11 : List IOper := [
  ⟨(some 2), .mv (.c (.str [84, 84, 79, 85])), none, none⟩]
def f105r11 : IC := .reg false [] f105o11 [2]
@[simp] theorem f105r11_run : run tbl fin K f105r11 e H = regK tbl fin K [] f105o11 [2] e H := run_regK _ _ _ _ _ _ _ _ _ rfl
@[simp] def f105o12 : List IOper := [
  ⟨(some 15), .bin .eql (.t 3) (.c (.int .i64 9)), none, none⟩,
  ⟨(some 14), .mv (.t 15), none, none⟩]
def f105r12 : IC := .reg false [] f105o12 [14, 3]
@[simp] theorem f105r12_run : run tbl fin K f105r12 e H = regK tbl fin K [] f105o12 [14, 3] e H := run_regK _ _ _ _ _ _ _ _ _ rfl
@[simp] def f105o13 : List IOper := [
  ⟨(some 2), .mv (.c (.str [75, 73, 76, 76])), none, none⟩]
def f105r13 : IC := .reg false [] f105o13 [2]
@[simp] theorem f105r13_run : run tbl fin K f105r13 e H = regK tbl fin K [] f105o13 [2] e H := run_regK _ _ _ _ _ _ _ _ _ rfl
@[simp] def f105o14 : List IOper := [
  ⟨(some 17), .bin .eql (.t 3) (.c (.int .i64 10)), none, none⟩,
  ⟨(some 16), .mv (.t 17), none, none⟩]
def f105r14 : IC := .reg false [] f105o14 [16, 3]
@[simp] theorem f105r14_run : run tbl fin K f105r14 e H = regK tbl fin K [] f105o14 [16, 3] e H := run_regK _ _ _ _ _ _ _ _ _ rfl
@[simp] def f105o15 : List IOper := [
  ⟨(some 2), .mv (.c (.str [85, 83, 82, 49])), none, none⟩]
def f105r15 : IC := .reg false [] f105o15 [2]
@[simp] theorem f105r15_run : run tbl fin K f105r15 e H = regK tbl fin K [] f105o15 [2] e H := run_regK _ _ _ _ _ _ _ _ _ rfl
@[simp] def f105o16 : List IOper := [
  ⟨(some 19), .bin .eql (.t 3) (.c (.int .i64 12)), none, none⟩,
  ⟨(some 18), .mv (.t 19), none, none⟩]
def f105r16 : IC := .reg false [] f105o16 [18, 3]
@[simp] theorem f105r16_run : run tbl fin K f105r16 e H = regK tbl fin K [] f105o16 [18, 3] e H := run_regK _ _ _ _ _ _ _ _ _ rfl
@[simp] def f105o17 : List IOper := [
  ⟨(some 2), .mv (.c (.str [85, 83, 82, 50])), none, none⟩]
def f105r17 : IC := .reg false [] f105o17 [2]
@[simp] theorem f105r17_run : run tbl fin K f105r17 e H = regK tbl fin K [] f105o17 [2] e H := run_regK _ _ _ _ _ _ _ _ _ rfl
@[simp] def f105o18 : List IOper := [
  ⟨(some 21), .bin .eql (.t 3) (.c (.int .i64 13)), none, none⟩,
  ⟨(some 20), .mv (.t 21), none, none⟩]
def f105r18 : IC := .reg false [] f105o18 [20, 3]
@[simp] theorem f105r18_run : run tbl fin K f105r18 e H = regK tbl fin K [] f105o18 [20, 3] e H := run_regK _ _ _ _ _ _ _ _ _ rfl
@[simp] def f105o19 : List IOper := [
  ⟨(some 2), .mv (.c (.str [80, 73, 80, 69])), none, none⟩]
def f105r19 : IC := .reg false [] f105o19 [2]
@[simp] theorem f105r19_run : run tbl fin K f105r19 e H = regK tbl fin K [] f105o19 [2] e H := run_regK _ _ _ _ _ _ _ _ _ rfl
@[simp] def f105o20 : List IOper := [
  ⟨(some 23), .bin .eql (.t 3) (.c (.int .i64 14)), none, none⟩,
  ⟨(some 22), .mv (.t 23), none, none⟩]
def f105r20 : IC := .reg false [] f105o20 [22, 3]
@[simp] theorem f105r20_run : run tbl fin K f105r20 e H = regK tbl fin K [] f105o20 [22, 3] e H := run_regK _ _ _ _ _ _ _ _ _ rfl
@[simp] def f105o21 : List IOper := [
  ⟨(some 2), .mv (.c (.str [65, 76, 82, 77])), none, none⟩]
def f105r21 : IC := .reg false [] f105o21 [2]
@[simp] theorem f105r21_run : run tbl fin K f105r21 e H = regK tbl fin K [] f105o21 [2] e H := run_regK _ _ _ _ _ _ _ _ _ rfl
@[simp] def f105o22 : List IOper := [
  ⟨(some 25), .bin .eql (.t 3) (.c (.int .i64 15)), none, none⟩,
  ⟨(some 24), .mv (.t 25), none, none⟩]
def f105r22 : IC := .reg false [] f105o22 [24, 3]
@[simp] theorem f105r22_run : run tbl fin K f105r22 e H = regK tbl fin K [] f105o22 [24, 3] e H := run_regK _ _ _ _ _ _ _ _ _ rfl
@[simp] def f105o23 : List IOper := [
  ⟨(some 2), .mv (.c (.str [84, 69, 82, 77])), none, none⟩]
def f105r23 : IC := .reg false [] f105o23 [2]
@[simp] theorem f105r23_run : run tbl fin K f105r23 e H = regK tbl fin K [] f105o23 [2] e H := run_regK _ _ _ _ _ _ _ _ _ rfl
@[simp] def f105o24 : List IOper := [
  ⟨(some 27), .bin .eql (.t 3) (.c (.int .i64 17)), none, none⟩,
  ⟨(some 26), .mv (.t 27), none, none⟩]
def f105r24 : IC := .reg false [] f105o24 [26, 3]
@[simp] theorem f105r24_run : run tbl fin K f105r24 e H = regK tbl fin K [] f105o24 [26, 3] e H := run_regK _ _ _ _ _ _ _ _ _ rfl
@[simp] def f105o25 : List IOper := [
  ⟨(some 2), .mv (.c (.str [67, 72, 76, 68])), none, none⟩]
def f105r25 : IC := .reg false [] f105o25 [2]
@[simp] theorem f105r25_run : run tbl fin K f105r25 e H = regK tbl fin K [] f105o25 [2] e H := run_regK _ _ _ _ _ _ _ _ _ rfl
@[simp] def f105o26 : List IOper := [
  ⟨(some 29), .bin .eql (.t 3) (.c (.int .i64 18)), none, none⟩,
  ⟨(some 28), .mv (.t 29), none, none⟩]
def f105r26 : IC := .reg false [] f105o26 [28, 3]
@[simp] theorem f105r26_run : run tbl fin K f105r26 e H = regK tbl fin K [] f105o26 [28, 3] e H := run_regK _ _ _ _ _ _ _ _ _ rfl
@[simp] def f105o27 : List IOper := [
  ⟨(some 2), .mv (.c (.str [67, 79, 78, 84])), none, none⟩]
def f105r27 : IC := .reg false [] f105o27 [2]
@[simp] theorem f105r27_run : run tbl fin K f105r27 e H = regK tbl fin K [] f105o27 [2] e H := run_regK _ _ _ _ _ _ _ _ _ rfl
@[simp] def f105o28 : List IOper := [
  ⟨(some 31), .bin .eql (.t 3) (.c (.int .i64 19)), none, none⟩,
  ⟨(some 30), .mv (.t 31), none, none⟩]
def f105r28 : IC := .reg false [] f105o28 [30, 3]
@[simp] theorem f105r28_run : run tbl fin K f105r28 e H = regK tbl fin K [] f105o28 [30, 3] e H := run_regK _ _ _ _ _ _ _ _ _ rfl
@[simp] def f105o29 : List IOper := [
  ⟨(some 2), .mv (.c (.str [83, 84, 79, 80])), none, none⟩]
def f105r29 : IC := .reg false [] f105o29 [2]
@[simp] theorem f105r29_run : run tbl fin K f105r29 e H = regK tbl fin K [] f105o29 [2] e H := run_regK _ _ _ _ _ _ _ _ _ rfl
@[simp] def f105o30 : List IOper := [
  ⟨(some 33), .bin .eql (.t 3) (.c (.int .i64 20)), none, none⟩,
  ⟨(some 32), .mv (.t 33), none, none⟩]
def f105r30 : IC := .reg false [] f105o30 [32]
@[simp] theorem f105r30_run : run tbl fin K f105r30 e H = regK tbl fin K [] f105o30 [32] e H := run_regK _ _ _ _ _ _ _ _ _ rfl
@[simp] def f105o31 : List IOper := [
  ⟨(some 2), .mv (.c (.str [84, 83, 84, 80])), none, none⟩]
def f105r31 : IC := .reg false [] f105o31 [2]
@[simp] theorem f105r31_run : run tbl fin K f105r31 e H = regK tbl fin K [] f105o31 [2] e H := run_regK _ _ _ _ _ _ _ _ _ rfl
@[simp] def f105o32 : List IOper := [
  ⟨(some 2), .mv (.c (.str [])), none, none⟩]
def f105r32 : IC := .reg false [] f105o32 [2]
@[simp] theorem f105r32_run : run tbl fin K f105r32 e H = regK tbl fin K [] f105o32 [2] e H := run_regK _ _ _ _ _ _ _ _ _ rfl
def f105body : IC := (.seq f105r0 (.seq (.seq f105r1 (.block 0 (.seq f105r2 (.cond (.t 4) (.seq f105r3 .ret) (.seq f105r4 (.cond (.t 6) (.seq f105r5 .ret) (.seq f105r6 (.cond (.t 8) (.seq f105r7 .ret) (.seq f105r8 (.cond (.t 10) (.seq f105r9 .ret) (.seq f105r10 (.cond (.t 12) (.seq f105r11 .ret) (.seq f105r12 (.cond (.t 14) (.seq f105r13 .ret) (.seq f105r14 (.cond (.t 16) (.seq f105r15 .ret) (.seq f105r16 (.cond (.t 18) (.seq f105r17 .ret) (.seq f105r18 (.cond (.t 20) (.seq f105r19 .ret) (.seq f105r20 (.cond (.t 22) (.seq f105r21 .ret) (.seq f105r22 (.cond (.t 24) (.seq f105r23 .ret) (.seq f105r24 (.cond (.t 26) (.seq f105r25 .ret) (.seq f105r26 (.cond (.t 28) (.seq f105r27 .ret) (.seq f105r28 (.cond (.t 30) (.seq f105r29 .ret) (.seq f105r30 (.cond (.t 32) (.seq f105r31 .ret) .skip)))))))))))))))))))))))))))))))) (.seq f105r32 .ret)))
def f105 : IFn := ⟨34, 1, [.tmp 2], f105body⟩
def tblF0 : Nat → Option IFn
  | 3 => some f3
  | 4 => some f4
  | 5 => some f5
  | 6 => some f6
  | 7 => some f7
  | 8 => some f8
  | 9 => some f9
  | 10 => some f10
  | 11 => some f11
  | 12 => some f12
  | 13 => some f13
  | 14 => some f14
  | 15 => some f15
  | 16 => some f16
  | 17 => some f17
  | 18 => some f18
  | 19 => some f19
  | 20 => some f20
  | 21 => some f21
  | 22 => some f22
  | 23 => some f23
  | 24 => some f24
  | 25 => some f25
  | 26 => some f26
  | 27 => some f27
  | 28 => some f28
  | 29 => some f29
  | 30 => some f30
  | 31 => some f31
  | 32 => some f32
  | 33 => some f33
  | 34 => some f34
  | 35 => some f35
  | 36 => some f36
  | 37 => some f37
  | 38 => some f38
  | 39 => some f39
  | 40 => some f40
  | 41 => some f41
  | 42 => some f42
  | _ => none
def tblF1 : Nat → Option IFn
  | 43 => some f43
  | 44 => some f44
  | 45 => some f45
  | 46 => some f46
  | 47 => some f47
  | 48 => some f48
  | 49 => some f49
  | 50 => some f50
  | 51 => some f51
  | 52 => some f52
  | 53 => some f53
  | 54 => some f54
  | 55 => some f55
  | 56 => some f56
  | 57 => some f57
  | 58 => some f58
  | 59 => some f59
  | 60 => some f60
  | 61 => some f61
  | 62 => some f62
  | 63 => some f63
  | 64 => some f64
  | 65 => some f65
  | 66 => some f66
  | 67 => some f67
  | 68 => some f68
  | 69 => some f69
  | 70 => some f70
  | 71 => some f71
  | 72 => some f72
  | 73 => some f73
  | 74 => some f74
  | 75 => some f75
  | 76 => some f76
  | 77 => some f77
  | 78 => some f78
  | 79 => some f79
  | 80 => some f80
  | 81 => some f81
  | 82 => some f82
  | _ => none
def tblF2 : Nat → Option IFn
  | 83 => some f83
  | 84 => some f84
  | 85 => some f85
  | 86 => some f86
  | 87 => some f87
  | 88 => some f88
  | 89 => some f89
  | 91 => some f91
  | 92 => some f92
  | 93 => some f93
  | 94 => some f94
  | 95 => some f95
  | 96 => some f96
  | 97 => some f97
  | 98 => some f98
  | 99 => some f99
  | 100 => some f100
  | 101 => some f101
  | 102 => some f102
  | 103 => some f103
  | 104 => some f104
  | 105 => some f105
  | _ => none
def tblF (f : Nat) : Option IFn := if f < 43 then tblF0 f else if f < 83 then tblF1 f else tblF2 f
theorem tbl3 : tblF 3 = some f3 := rfl
theorem tbl4 : tblF 4 = some f4 := rfl
theorem tbl5 : tblF 5 = some f5 := rfl
theorem tbl6 : tblF 6 = some f6 := rfl
theorem tbl7 : tblF 7 = some f7 := rfl
theorem tbl8 : tblF 8 = some f8 := rfl
theorem tbl9 : tblF 9 = some f9 := rfl
theorem tbl10 : tblF 10 = some f10 := rfl
theorem tbl11 : tblF 11 = some f11 := rfl
theorem tbl12 : tblF 12 = some f12 := rfl
theorem tbl13 : tblF 13 = some f13 := rfl
theorem tbl14 : tblF 14 = some f14 := rfl
theorem tbl15 : tblF 15 = some f15 := rfl
theorem tbl16 : tblF 16 = some f16 := rfl
theorem tbl17 : tblF 17 = some f17 := rfl
theorem tbl18 : tblF 18 = some f18 := rfl
theorem tbl19 : tblF 19 = some f19 := rfl
theorem tbl20 : tblF 20 = some f20 := rfl
theorem tbl21 : tblF 21 = some f21 := rfl
theorem tbl22 : tblF 22 = some f22 := rfl
theorem tbl23 : tblF 23 = some f23 := rfl
theorem tbl24 : tblF 24 = some f24 := rfl
theorem tbl25 : tblF 25 = some f25 := rfl
theorem tbl26 : tblF 26 = some f26 := rfl
theorem tbl27 : tblF 27 = some f27 := rfl
theorem tbl28 : tblF 28 = some f28 := rfl
theorem tbl29 : tblF 29 = some f29 := rfl
theorem tbl30 : tblF 30 = some f30 := rfl
theorem tbl31 : tblF 31 = some f31 := rfl
theorem tbl32 : tblF 32 = some f32 := rfl
theorem tbl33 : tblF 33 = some f33 := rfl
theorem tbl34 : tblF 34 = some f34 := rfl
theorem tbl35 : tblF 35 = some f35 := rfl
theorem tbl36 : tblF 36 = some f36 := rfl
theorem tbl37 : tblF 37 = some f37 := rfl
theorem tbl38 : tblF 38 = some f38 := rfl
theorem tbl39 : tblF 39 = some f39 := rfl
theorem tbl40 : tblF 40 = some f40 := rfl
theorem tbl41 : tblF 41 = some f41 := rfl
theorem tbl42 : tblF 42 = some f42 := rfl
theorem tbl43 : tblF 43 = some f43 := rfl
theorem tbl44 : tblF 44 = some f44 := rfl
theorem tbl45 : tblF 45 = some f45 := rfl
theorem tbl46 : tblF 46 = some f46 := rfl
theorem tbl47 : tblF 47 = some f47 := rfl
theorem tbl48 : tblF 48 = some f48 := rfl
theorem tbl49 : tblF 49 = some f49 := rfl
theorem tbl50 : tblF 50 = some f50 := rfl
theorem tbl51 : tblF 51 = some f51 := rfl
theorem tbl52 : tblF 52 = some f52 := rfl
theorem tbl53 : tblF 53 = some f53 := rfl
theorem tbl54 : tblF 54 = some f54 := rfl
theorem tbl55 : tblF 55 = some f55 := rfl
theorem tbl56 : tblF 56 = some f56 := rfl
theorem tbl57 : tblF 57 = some f57 := rfl
theorem tbl58 : tblF 58 = some f58 := rfl
theorem tbl59 : tblF 59 = some f59 := rfl
theorem tbl60 : tblF 60 = some f60 := rfl
theorem tbl61 : tblF 61 = some f61 := rfl
theorem tbl62 : tblF 62 = some f62 := rfl
theorem tbl63 : tblF 63 = some f63 := rfl
theorem tbl64 : tblF 64 = some f64 := rfl
theorem tbl65 : tblF 65 = some f65 := rfl
theorem tbl66 : tblF 66 = some f66 := rfl
theorem tbl67 : tblF 67 = some f67 := rfl
theorem tbl68 : tblF 68 = some f68 := rfl
theorem tbl69 : tblF 69 = some f69 := rfl
theorem tbl70 : tblF 70 = some f70 := rfl
theorem tbl71 : tblF 71 = some f71 := rfl
theorem tbl72 : tblF 72 = some f72 := rfl
theorem tbl73 : tblF 73 = some f73 := rfl
theorem tbl74 : tblF 74 = some f74 := rfl
theorem tbl75 : tblF 75 = some f75 := rfl
theorem tbl76 : tblF 76 = some f76 := rfl
theorem tbl77 : tblF 77 = some f77 := rfl
theorem tbl78 : tblF 78 = some f78 := rfl
theorem tbl79 : tblF 79 = some f79 := rfl
theorem tbl80 : tblF 80 = some f80 := rfl
theorem tbl81 : tblF 81 = some f81 := rfl
theorem tbl82 : tblF 82 = some f82 := rfl
theorem tbl83 : tblF 83 = some f83 := rfl
theorem tbl84 : tblF 84 = some f84 := rfl
theorem tbl85 : tblF 85 = some f85 := rfl
theorem tbl86 : tblF 86 = some f86 := rfl
theorem tbl87 : tblF 87 = some f87 := rfl
theorem tbl88 : tblF 88 = some f88 := rfl
theorem tbl89 : tblF 89 = some f89 := rfl
theorem tbl91 : tblF 91 = some f91 := rfl
theorem tbl92 : tblF 92 = some f92 := rfl
theorem tbl93 : tblF 93 = some f93 := rfl
theorem tbl94 : tblF 94 = some f94 := rfl
theorem tbl95 : tblF 95 = some f95 := rfl
theorem tbl96 : tblF 96 = some f96 := rfl
theorem tbl97 : tblF 97 = some f97 := rfl
theorem tbl98 : tblF 98 = some f98 := rfl
theorem tbl99 : tblF 99 = some f99 := rfl
theorem tbl100 : tblF 100 = some f100 := rfl
theorem tbl101 : tblF 101 = some f101 := rfl
theorem tbl102 : tblF 102 = some f102 := rfl
theorem tbl103 : tblF 103 = some f103 := rfl
theorem tbl104 : tblF 104 = some f104 := rfl
theorem tbl105 : tblF 105 = some f105 := rfl
theorem ok3 : cFn Tryd.prog cfg 3 = some f3 := by kernel_rfl
theorem ok4 : cFn Tryd.prog cfg 4 = some f4 := by kernel_rfl
theorem ok5 : cFn Tryd.prog cfg 5 = some f5 := by kernel_rfl
theorem ok6 : cFn Tryd.prog cfg 6 = some f6 := by kernel_rfl
theorem ok7 : cFn Tryd.prog cfg 7 = some f7 := by kernel_rfl
theorem ok8 : cFn Tryd.prog cfg 8 = some f8 := by kernel_rfl
theorem ok9 : cFn Tryd.prog cfg 9 = some f9 := by kernel_rfl
theorem ok10 : cFn Tryd.prog cfg 10 = some f10 := by kernel_rfl
theorem ok11 : cFn Tryd.prog cfg 11 = some f11 := by kernel_rfl
theorem ok12 : cFn Tryd.prog cfg 12 = some f12 := by kernel_rfl
theorem ok13 : cFn Tryd.prog cfg 13 = some f13 := by kernel_rfl
theorem ok14 : cFn Tryd.prog cfg 14 = some f14 := by kernel_rfl
theorem ok15 : cFn Tryd.prog cfg 15 = some f15 := by kernel_rfl
theorem ok16 : cFn Tryd.prog cfg 16 = some f16 := by kernel_rfl
theorem ok17 : cFn Tryd.prog cfg 17 = some f17 := by kernel_rfl
theorem ok18 : cFn Tryd.prog cfg 18 = some f18 := by kernel_rfl
theorem ok19 : cFn Tryd.prog cfg 19 = some f19 := by kernel_rfl
theorem ok20 : cFn Tryd.prog cfg 20 = some f20 := by kernel_rfl
theorem ok21 : cFn Tryd.prog cfg 21 = some f21 := by kernel_rfl
theorem ok22 : cFn Tryd.prog cfg 22 = some f22 := by kernel_rfl
theorem ok23 : cFn Tryd.prog cfg 23 = some f23 := by kernel_rfl
theorem ok24 : cFn Tryd.prog cfg 24 = some f24 := by kernel_rfl
theorem ok25 : cFn Tryd.prog cfg 25 = some f25 := by kernel_rfl
theorem ok26 : cFn Tryd.prog cfg 26 = some f26 := by kernel_rfl
theorem ok27 : cFn Tryd.prog cfg 27 = some f27 := by kernel_rfl
theorem ok28 : cFn Tryd.prog cfg 28 = some f28 := by kernel_rfl
theorem ok29 : cFn Tryd.prog cfg 29 = some f29 := by kernel_rfl
theorem ok30 : cFn Tryd.prog cfg 30 = some f30 := by kernel_rfl
theorem ok31 : cFn Tryd.prog cfg 31 = some f31 := by kernel_rfl
theorem ok32 : cFn Tryd.prog cfg 32 = some f32 := by kernel_rfl
theorem ok33 : cFn Tryd.prog cfg 33 = some f33 := by kernel_rfl
theorem ok34 : cFn Tryd.prog cfg 34 = some f34 := by kernel_rfl
theorem ok35 : cFn Tryd.prog cfg 35 = some f35 := by kernel_rfl
theorem ok36 : cFn Tryd.prog cfg 36 = some f36 := by kernel_rfl
theorem ok37 : cFn Tryd.prog cfg 37 = some f37 := by kernel_rfl
theorem ok38 : cFn Tryd.prog cfg 38 = some f38 := by kernel_rfl
theorem ok39 : cFn Tryd.prog cfg 39 = some f39 := by kernel_rfl
theorem ok40 : cFn Tryd.prog cfg 40 = some f40 := by kernel_rfl
theorem ok41 : cFn Tryd.prog cfg 41 = some f41 := by kernel_rfl
theorem ok42 : cFn Tryd.prog cfg 42 = some f42 := by kernel_rfl
theorem ok43 : cFn Tryd.prog cfg 43 = some f43 := by kernel_rfl
theorem ok44 : cFn Tryd.prog cfg 44 = some f44 := by kernel_rfl
theorem ok45 : cFn Tryd.prog cfg 45 = some f45 := by kernel_rfl
theorem ok46 : cFn Tryd.prog cfg 46 = some f46 := by kernel_rfl
theorem ok47 : cFn Tryd.prog cfg 47 = some f47 := by kernel_rfl
theorem ok48 : cFn Tryd.prog cfg 48 = some f48 := by kernel_rfl
theorem ok49 : cFn Tryd.prog cfg 49 = some f49 := by kernel_rfl
theorem ok50 : cFn Tryd.prog cfg 50 = some f50 := by kernel_rfl
theorem ok51 : cFn Tryd.prog cfg 51 = some f51 := by kernel_rfl
theorem ok52 : cFn Tryd.prog cfg 52 = some f52 := by kernel_rfl
theorem ok53 : cFn Tryd.prog cfg 53 = some f53 := by kernel_rfl
theorem ok54 : cFn Tryd.prog cfg 54 = some f54 := by kernel_rfl
theorem ok55 : cFn Tryd.prog cfg 55 = some f55 := by kernel_rfl
theorem ok56 : cFn Tryd.prog cfg 56 = some f56 := by kernel_rfl
theorem ok57 : cFn Tryd.prog cfg 57 = some f57 := by kernel_rfl
theorem ok58 : cFn Tryd.prog cfg 58 = some f58 := by kernel_rfl
theorem ok59 : cFn Tryd.prog cfg 59 = some f59 := by kernel_rfl
theorem ok60 : cFn Tryd.prog cfg 60 = some f60 := by kernel_rfl
theorem ok61 : cFn Tryd.prog cfg 61 = some f61 := by kernel_rfl
theorem ok62 : cFn Tryd.prog cfg 62 = some f62 := by kernel_rfl
theorem ok63 : cFn Tryd.prog cfg 63 = some f63 := by kernel_rfl
theorem ok64 : cFn Tryd.prog cfg 64 = some f64 := by kernel_rfl
theorem ok65 : cFn Tryd.prog cfg 65 = some f65 := by kernel_rfl
theorem ok66 : cFn Tryd.prog cfg 66 = some f66 := by kernel_rfl
theorem ok67 : cFn Tryd.prog cfg 67 = some f67 := by kernel_rfl
theorem ok68 : cFn Tryd.prog cfg 68 = some f68 := by kernel_rfl
theorem ok69 : cFn Tryd.prog cfg 69 = some f69 := by kernel_rfl
theorem ok70 : cFn Tryd.prog cfg 70 = some f70 := by kernel_rfl
theorem ok71 : cFn Tryd.prog cfg 71 = some f71 := by kernel_rfl
theorem ok72 : cFn Tryd.prog cfg 72 = some f72 := by kernel_rfl
theorem ok73 : cFn Tryd.prog cfg 73 = some f73 := by kernel_rfl
theorem ok74 : cFn Tryd.prog cfg 74 = some f74 := by kernel_rfl
theorem ok75 : cFn Tryd.prog cfg 75 = some f75 := by kernel_rfl
theorem ok76 : cFn Tryd.prog cfg 76 = some f76 := by kernel_rfl
theorem ok77 : cFn Tryd.prog cfg 77 = some f77 := by kernel_rfl
theorem ok78 : cFn Tryd.prog cfg 78 = some f78 := by kernel_rfl
theorem ok79 : cFn Tryd.prog cfg 79 = some f79 := by kernel_rfl
theorem ok80 : cFn Tryd.prog cfg 80 = some f80 := by kernel_rfl
theorem ok81 : cFn Tryd.prog cfg 81 = some f81 := by kernel_rfl
theorem ok82 : cFn Tryd.prog cfg 82 = some f82 := by kernel_rfl
theorem ok83 : cFn Tryd.prog cfg 83 = some f83 := by kernel_rfl
theorem ok84 : cFn Tryd.prog cfg 84 = some f84 := by kernel_rfl
theorem ok85 : cFn Tryd.prog cfg 85 = some f85 := by kernel_rfl
theorem ok86 : cFn Tryd.prog cfg 86 = some f86 := by kernel_rfl
theorem ok87 : cFn Tryd.prog cfg 87 = some f87 := by kernel_rfl
theorem ok88 : cFn Tryd.prog cfg 88 = some f88 := by kernel_rfl
theorem ok89 : cFn Tryd.prog cfg 89 = some f89 := by kernel_rfl
theorem ok91 : cFn Tryd.prog cfg 91 = some f91 := by kernel_rfl
theorem ok92 : cFn Tryd.prog cfg 92 = some f92 := by kernel_rfl
theorem ok93 : cFn Tryd.prog cfg 93 = some f93 := by kernel_rfl
theorem ok94 : cFn Tryd.prog cfg 94 = some f94 := by kernel_rfl
theorem ok95 : cFn Tryd.prog cfg 95 = some f95 := by kernel_rfl
theorem ok96 : cFn Tryd.prog cfg 96 = some f96 := by kernel_rfl
theorem ok97 : cFn Tryd.prog cfg 97 = some f97 := by kernel_rfl
theorem ok98 : cFn Tryd.prog cfg 98 = some f98 := by kernel_rfl
theorem ok99 : cFn Tryd.prog cfg 99 = some f99 := by kernel_rfl
theorem ok100 : cFn Tryd.prog cfg 100 = some f100 := by kernel_rfl
theorem ok101 : cFn Tryd.prog cfg 101 = some f101 := by kernel_rfl
theorem ok102 : cFn Tryd.prog cfg 102 = some f102 := by kernel_rfl
theorem ok103 : cFn Tryd.prog cfg 103 = some f103 := by kernel_rfl
theorem ok104 : cFn Tryd.prog cfg 104 = some f104 := by kernel_rfl
theorem ok105 : cFn Tryd.prog cfg 105 = some f105 := by kernel_rfl
theorem tbl_ok0 (f : Nat) (fn : IFn) (h : tblF0 f = some fn) : cFn Tryd.prog cfg f = some fn := by
  unfold tblF0 at h
  split at h
  · exact (congrArg (fun x => cFn Tryd.prog cfg 3 = x) h).mp ok3
  · exact (congrArg (fun x => cFn Tryd.prog cfg 4 = x) h).mp ok4
  · exact (congrArg (fun x => cFn Tryd.prog cfg 5 = x) h).mp ok5
  · exact (congrArg (fun x => cFn Tryd.prog cfg 6 = x) h).mp ok6
  · exact (congrArg (fun x => cFn Tryd.prog cfg 7 = x) h).mp ok7
  · exact (congrArg (fun x => cFn Tryd.prog cfg 8 = x) h).mp ok8
  · exact (congrArg (fun x => cFn Tryd.prog cfg 9 = x) h).mp ok9
  · exact (congrArg (fun x => cFn Tryd.prog cfg 10 = x) h).mp ok10
  · exact (congrArg (fun x => cFn Tryd.prog cfg 11 = x) h).mp ok11
  · exact (congrArg (fun x => cFn Tryd.prog cfg 12 = x) h).mp ok12
  · exact (congrArg (fun x => cFn Tryd.prog cfg 13 = x) h).mp ok13
  · exact (congrArg (fun x => cFn Tryd.prog cfg 14 = x) h).mp ok14
  · exact (congrArg (fun x => cFn Tryd.prog cfg 15 = x) h).mp ok15
  · exact (congrArg (fun x => cFn Tryd.prog cfg 16 = x) h).mp ok16
  · exact (congrArg (fun x => cFn Tryd.prog cfg 17 = x) h).mp ok17
  · exact (congrArg (fun x => cFn Tryd.prog cfg 18 = x) h).mp ok18
  · exact (congrArg (fun x => cFn Tryd.prog cfg 19 = x) h).mp ok19
  · exact (congrArg (fun x => cFn Tryd.prog cfg 20 = x) h).mp ok20
  · exact (congrArg (fun x => cFn Tryd.prog cfg 21 = x) h).mp ok21
  · exact (congrArg (fun x => cFn Tryd.prog cfg 22 = x) h).mp ok22
  · exact (congrArg (fun x => cFn Tryd.prog cfg 23 = x) h).mp ok23
  · exact (congrArg (fun x => cFn Tryd.prog cfg 24 = x) h).mp ok24
  · exact (congrArg (fun x => cFn Tryd.prog cfg 25 = x) h).mp ok25
  · exact (congrArg (fun x => cFn Tryd.prog cfg 26 = x) h).mp ok26
  · exact (congrArg (fun x => cFn Tryd.prog cfg 27 = x) h).mp ok27
  · exact (congrArg (fun x => cFn Tryd.prog cfg 28 = x) h).mp ok28
  · exact (congrArg (fun x => cFn Tryd.prog cfg 29 = x) h).mp ok29
  · exact (congrArg (fun x => cFn Tryd.prog cfg 30 = x) h).mp ok30
  · exact (congrArg (fun x => cFn Tryd.prog cfg 31 = x) h).mp ok31
  · exact (congrArg (fun x => cFn Tryd.prog cfg 32 = x) h).mp ok32
  · exact (congrArg (fun x => cFn Tryd.prog cfg 33 = x) h).mp ok33
  · exact (congrArg (fun x => cFn Tryd.prog cfg 34 = x) h).mp ok34
  · exact (congrArg (fun x => cFn Tryd.prog cfg 35 = x) h).mp ok35
  · exact (congrArg (fun x => cFn Tryd.prog cfg 36 = x) h).mp ok36
  · exact (congrArg (fun x => cFn Tryd.prog cfg 37 = x) h).mp ok37
  · exact (congrArg (fun x => cFn Tryd.prog cfg 38 = x) h).mp ok38
  · exact (congrArg (fun x => cFn Tryd.prog cfg 39 = x) h).mp ok39
  · exact (congrArg (fun x => cFn Tryd.prog cfg 40 = x) h).mp ok40
  · exact (congrArg (fun x => cFn Tryd.prog cfg 41 = x) h).mp ok41
  · exact (congrArg (fun x => cFn Tryd.prog cfg 42 = x) h).mp ok42
  · cases h
theorem tbl_ok1 (f : Nat) (fn : IFn) (h : tblF1 f = some fn) : cFn Tryd.prog cfg f = some fn := by
  unfold tblF1 at h
  split at h
  · exact (congrArg (fun x => cFn Tryd.prog cfg 43 = x) h).mp ok43
  · exact (congrArg (fun x => cFn Tryd.prog cfg 44 = x) h).mp ok44
  · exact (congrArg (fun x => cFn Tryd.prog cfg 45 = x) h).mp ok45
  · exact (congrArg (fun x => cFn Tryd.prog cfg 46 = x) h).mp ok46
  · exact (congrArg (fun x => cFn Tryd.prog cfg 47 = x) h).mp ok47
  · exact (congrArg (fun x => cFn Tryd.prog cfg 48 = x) h).mp ok48
  · exact (congrArg (fun x => cFn Tryd.prog cfg 49 = x) h).mp ok49
  · exact (congrArg (fun x => cFn Tryd.prog cfg 50 = x) h).mp ok50
  · exact (congrArg (fun x => cFn Tryd.prog cfg 51 = x) h).mp ok51
  · exact (congrArg (fun x => cFn Tryd.prog cfg 52 = x) h).mp ok52
  · exact (congrArg (fun x => cFn Tryd.prog cfg 53 = x) h).mp ok53
  · exact (congrArg (fun x => cFn Tryd.prog cfg 54 = x) h).mp ok54
  · exact (congrArg (fun x => cFn Tryd.prog cfg 55 = x) h).mp ok55
  · exact (congrArg (fun x => cFn Tryd.prog cfg 56 = x) h).mp ok56
  · exact (congrArg (fun x => cFn Tryd.prog cfg 57 = x) h).mp ok57
  · exact (congrArg (fun x => cFn Tryd.prog cfg 58 = x) h).mp ok58
  · exact (congrArg (fun x => cFn Tryd.prog cfg 59 = x) h).mp ok59
  · exact (congrArg (fun x => cFn Tryd.prog cfg 60 = x) h).mp ok60
  · exact (congrArg (fun x => cFn Tryd.prog cfg 61 = x) h).mp ok61
  · exact (congrArg (fun x => cFn Tryd.prog cfg 62 = x) h).mp ok62
  · exact (congrArg (fun x => cFn Tryd.prog cfg 63 = x) h).mp ok63
  · exact (congrArg (fun x => cFn Tryd.prog cfg 64 = x) h).mp ok64
  · exact (congrArg (fun x => cFn Tryd.prog cfg 65 = x) h).mp ok65
  · exact (congrArg (fun x => cFn Tryd.prog cfg 66 = x) h).mp ok66
  · exact (congrArg (fun x => cFn Tryd.prog cfg 67 = x) h).mp ok67
  · exact (congrArg (fun x => cFn Tryd.prog cfg 68 = x) h).mp ok68
  · exact (congrArg (fun x => cFn Tryd.prog cfg 69 = x) h).mp ok69
  · exact (congrArg (fun x => cFn Tryd.prog cfg 70 = x) h).mp ok70
  · exact (congrArg (fun x => cFn Tryd.prog cfg 71 = x) h).mp ok71
  · exact (congrArg (fun x => cFn Tryd.prog cfg 72 = x) h).mp ok72
  · exact (congrArg (fun x => cFn Tryd.prog cfg 73 = x) h).mp ok73
  · exact (congrArg (fun x => cFn Tryd.prog cfg 74 = x) h).mp ok74
  · exact (congrArg (fun x => cFn Tryd.prog cfg 75 = x) h).mp ok75
  · exact (congrArg (fun x => cFn Tryd.prog cfg 76 = x) h).mp ok76
  · exact (congrArg (fun x => cFn Tryd.prog cfg 77 = x) h).mp ok77
  · exact (congrArg (fun x => cFn Tryd.prog cfg 78 = x) h).mp ok78
  · exact (congrArg (fun x => cFn Tryd.prog cfg 79 = x) h).mp ok79
  · exact (congrArg (fun x => cFn Tryd.prog cfg 80 = x) h).mp ok80
  · exact (congrArg (fun x => cFn Tryd.prog cfg 81 = x) h).mp ok81
  · exact (congrArg (fun x => cFn Tryd.prog cfg 82 = x) h).mp ok82
  · cases h
theorem tbl_ok2 (f : Nat) (fn : IFn) (h : tblF2 f = some fn) : cFn Tryd.prog cfg f = some fn := by
  unfold tblF2 at h
  split at h
  · exact (congrArg (fun x => cFn Tryd.prog cfg 83 = x) h).mp ok83
  · exact (congrArg (fun x => cFn Tryd.prog cfg 84 = x) h).mp ok84
  · exact (congrArg (fun x => cFn Tryd.prog cfg 85 = x) h).mp ok85
  · exact (congrArg (fun x => cFn Tryd.prog cfg 86 = x) h).mp ok86
  · exact (congrArg (fun x => cFn Tryd.prog cfg 87 = x) h).mp ok87
  · exact (congrArg (fun x => cFn Tryd.prog cfg 88 = x) h).mp ok88
  · exact (congrArg (fun x => cFn Tryd.prog cfg 89 = x) h).mp ok89
  · exact (congrArg (fun x => cFn Tryd.prog cfg 91 = x) h).mp ok91
  · exact (congrArg (fun x => cFn Tryd.prog cfg 92 = x) h).mp ok92
  · exact (congrArg (fun x => cFn Tryd.prog cfg 93 = x) h).mp ok93
  · exact (congrArg (fun x => cFn Tryd.prog cfg 94 = x) h).mp ok94
  · exact (congrArg (fun x => cFn Tryd.prog cfg 95 = x) h).mp ok95
  · exact (congrArg (fun x => cFn Tryd.prog cfg 96 = x) h).mp ok96
  · exact (congrArg (fun x => cFn Tryd.prog cfg 97 = x) h).mp ok97
  · exact (congrArg (fun x => cFn Tryd.prog cfg 98 = x) h).mp ok98
  · exact (congrArg (fun x => cFn Tryd.prog cfg 99 = x) h).mp ok99
  · exact (congrArg (fun x => cFn Tryd.prog cfg 100 = x) h).mp ok100
  · exact (congrArg (fun x => cFn Tryd.prog cfg 101 = x) h).mp ok101
  · exact (congrArg (fun x => cFn Tryd.prog cfg 102 = x) h).mp ok102
  · exact (congrArg (fun x => cFn Tryd.prog cfg 103 = x) h).mp ok103
  · exact (congrArg (fun x => cFn Tryd.prog cfg 104 = x) h).mp ok104
  · exact (congrArg (fun x => cFn Tryd.prog cfg 105 = x) h).mp ok105
  · cases h
theorem tbl_ok (f : Nat) (fn : IFn) (h : tblF f = some fn) : cFn Tryd.prog cfg f = some fn := by
  unfold tblF at h
  split at h
  · exact tbl_ok0 f fn h
  split at h
  · exact tbl_ok1 f fn h
  exact tbl_ok2 f fn h
end Go.Proofs.YtgppkhbidcgnlaaDoor
