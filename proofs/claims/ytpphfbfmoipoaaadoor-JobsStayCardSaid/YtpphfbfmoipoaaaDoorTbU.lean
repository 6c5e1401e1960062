/- The interpreter's form of this seat's functions (printed by a program out of the translation), and that the translation gives just this. No condition. -/
import Derived.Test.YtpphfbfmoipoaaaDoorPi24
import Derived.Test.YtpphfbfmoipoaaaDoorProg
import Derived.KernelRfl
namespace Go.Proofs.YtpphfbfmoipoaaaDoor
open Go.PI
variable (tbl : TB) (fin : Fin) (K : List Fr) (e : Env) (H : List AO)
def ugl3 : AV := (.agg [(.int .u8 0), (.int .u8 1), (.int .u8 28), (.int .u8 2), (.int .u8 29), (.int .u8 14), (.int .u8 24), (.int .u8 3), (.int .u8 30), (.int .u8 22), (.int .u8 20), (.int .u8 15), (.int .u8 25), (.int .u8 17), (.int .u8 4), (.int .u8 8), (.int .u8 31), (.int .u8 27), (.int .u8 13), (.int .u8 23), (.int .u8 21), (.int .u8 19), (.int .u8 16), (.int .u8 7), (.int .u8 26), (.int .u8 12), (.int .u8 18), (.int .u8 6), (.int .u8 11), (.int .u8 5), (.int .u8 10), (.int .u8 9)])
def ugl4 : AV := (.agg [(.int .u8 0), (.int .u8 1), (.int .u8 56), (.int .u8 2), (.int .u8 57), (.int .u8 49), (.int .u8 28), (.int .u8 3), (.int .u8 61), (.int .u8 58), (.int .u8 42), (.int .u8 50), (.int .u8 38), (.int .u8 29), (.int .u8 17), (.int .u8 4), (.int .u8 62), (.int .u8 47), (.int .u8 59), (.int .u8 36), (.int .u8 45), (.int .u8 43), (.int .u8 51), (.int .u8 22), (.int .u8 53), (.int .u8 39), (.int .u8 33), (.int .u8 30), (.int .u8 24), (.int .u8 18), (.int .u8 12), (.int .u8 5), (.int .u8 63), (.int .u8 55), (.int .u8 48), (.int .u8 27), (.int .u8 60), (.int .u8 41), (.int .u8 37), (.int .u8 16), (.int .u8 46), (.int .u8 35), (.int .u8 44), (.int .u8 21), (.int .u8 52), (.int .u8 32), (.int .u8 23), (.int .u8 11), (.int .u8 54), (.int .u8 26), (.int .u8 40), (.int .u8 15), (.int .u8 34), (.int .u8 20), (.int .u8 31), (.int .u8 10), (.int .u8 25), (.int .u8 14), (.int .u8 19), (.int .u8 9), (.int .u8 13), (.int .u8 8), (.int .u8 7), (.int .u8 6)])
def ugl2 : AV := (.agg [(.int .u64 1), (.int .u64 10), (.int .u64 100), (.int .u64 1000), (.int .u64 10000), (.int .u64 100000), (.int .u64 1000000), (.int .u64 10000000), (.int .u64 100000000), (.int .u64 1000000000), (.int .u64 10000000000), (.int .u64 100000000000), (.int .u64 1000000000000), (.int .u64 10000000000000), (.int .u64 100000000000000), (.int .u64 1000000000000000), (.int .u64 10000000000000000), (.int .u64 100000000000000000), (.int .u64 1000000000000000000), (.int .u64 10000000000000000000)])
def ugl0 : AV := (.agg [(.str []), (.str [72, 85, 80]), (.str [73, 78, 84]), (.str [81, 85, 73, 84]), (.str [84, 84, 73, 78]), (.str [84, 84, 79, 85]), (.str []), (.str []), (.str []), (.str [75, 73, 76, 76]), (.str [85, 83, 82, 49]), (.str []), (.str [85, 83, 82, 50]), (.str [80, 73, 80, 69]), (.str [65, 76, 82, 77]), (.str [84, 69, 82, 77]), (.str []), (.str [67, 72, 76, 68]), (.str [67, 79, 78, 84]), (.str [83, 84, 79, 80]), (.str [84, 83, 84, 80])])
def ugl : Nat → Option AV
  | 3 => some ugl3
  | 4 => some ugl4
  | 2 => some ugl2
  | 0 => some ugl0
  | _ => none
def ucfg (m : Int) : Cfg := ⟨fun g => if g = 1 then some (.int .i64 m) else ugl g, fun f => [39, 65].contains f, true, fun f => ([65] : List Nat).contains f⟩
/- 21: jobshell/jobs.Update -/
@[simp] def uf21o0 : List IOper := [
  ⟨(some 6), .nilrow 42 7, none, none⟩,
  ⟨(some 7), .mv (.c (.bool false)), none, none⟩]
def uf21r0 : IC := .reg false [] uf21o0 [1, 66, 69, 67, 65, 64, 70, 68, 71, 2, 0]
@[simp] theorem uf21r0_run : run tbl fin K uf21r0 e H = regK tbl fin K [] uf21o0 [1, 66, 69, 67, 65, 64, 70, 68, 71, 2, 0] e H := run_regK _ _ _ _ _ _ _ _ _ rfl
@[simp] def uf21o1 : List IOper := [
  ⟨(some 16), .mv (.t 0), none, none⟩,
  ⟨(some 17), .mv (.t 1), none, none⟩,
  ⟨(some 18), .callr (.c (.fn 34 [])) [(.t 16), (.t 17)], none, none⟩,
  ⟨(some 15), .mv (.t 18), none, none⟩,
  ⟨(some 19), .ext (.t 15) 0, none, none⟩,
  ⟨(some 20), .ext (.t 15) 1, none, none⟩,
  ⟨(some 8), .mv (.t 19), none, none⟩,
  ⟨(some 9), .mv (.t 20), none, none⟩]
def uf21r1 : IC := .reg false [] uf21o1 [8, 66, 69, 67, 65, 64, 70, 68, 71, 9, 2, 0]
@[simp] theorem uf21r1_run : run tbl fin K uf21r1 e H = regK tbl fin K [] uf21o1 [8, 66, 69, 67, 65, 64, 70, 68, 71, 9, 2, 0] e H := run_regK _ _ _ _ _ _ _ _ _ rfl
@[simp] def uf21o2 : List IOper := [
  ⟨(some 22), .mv (.t 2), none, none⟩,
  ⟨(some 23), .callr (.c (.fn 62 [])) [(.t 22)], none, none⟩,
  ⟨(some 21), .mv (.t 23), none, none⟩,
  ⟨(some 24), .ext (.t 21) 0, none, none⟩,
  ⟨(some 25), .ext (.t 21) 1, none, none⟩,
  ⟨(some 10), .mv (.t 24), none, none⟩,
  ⟨(some 11), .mv (.t 25), none, none⟩]
def uf21r2 : IC := .reg false [] uf21o2 [10, 8, 66, 69, 67, 65, 64, 70, 68, 71, 9, 2, 0]
@[simp] theorem uf21r2_run : run tbl fin K uf21r2 e H = regK tbl fin K [] uf21o2 [10, 8, 66, 69, 67, 65, 64, 70, 68, 71, 9, 2, 0] e H := run_regK _ _ _ _ _ _ _ _ _ rfl
@[simp] def uf21o3 : List IOper := [
  ⟨(some 26), .mv (.t 8), none, none⟩,
  ⟨(some 27), .bin .lss (.t 26) (.c (.int .i64 0)), none, none⟩,
  ⟨(some 28), .mv (.t 27), none, none⟩,
  ⟨(some 29), .mv (.t 10), (some (28, false)), none⟩,
  ⟨(some 30), .bin .lss (.t 29) (.c (.int .i64 0)), (some (28, false)), none⟩,
  ⟨(some 31), .pick (.t 28) (.c (.bool true)) (.t 30), none, none⟩]
def uf21r3 : IC := .reg false [] uf21o3 [31, 8, 66, 69, 67, 65, 64, 70, 68, 71, 9, 2, 0]
@[simp] theorem uf21r3_run : run tbl fin K uf21r3 e H = regK tbl fin K [] uf21o3 [31, 8, 66, 69, 67, 65, 64, 70, 68, 71, 9, 2, 0] e H := run_regK _ _ _ _ _ _ _ _ _ rfl
@[simp] def uf21o4 : List IOper := [
  ⟨(some 32), .mv (.t 0), none, none⟩,
  ⟨(some 6), .mv (.t 32), none, none⟩,
  ⟨(some 7), .mv (.c (.bool false)), none, none⟩]
def uf21r4 : IC := .reg false [] uf21o4 [6, 7]
@[simp] theorem uf21r4_run : run tbl fin K uf21r4 e H = regK tbl fin K [] uf21o4 [6, 7] e H := run_regK _ _ _ _ _ _ _ _ _ rfl
@[simp] def uf21o5 : List IOper := [
  ⟨(some 33), .mv (.t 2), none, none⟩,
  ⟨(some 34), .callr (.c (.fn 63 [])) [], none, none⟩,
  ⟨(some 35), .bin .eql (.t 33) (.t 34), none, none⟩]
def uf21r5 : IC := .reg false [] uf21o5 [35, 2, 0, 9, 71, 68, 70, 64, 65, 67, 69, 66, 8]
@[simp] theorem uf21r5_run : run tbl fin K uf21r5 e H = regK tbl fin K [] uf21o5 [35, 2, 0, 9, 71, 68, 70, 64, 65, 67, 69, 66, 8] e H := run_regK _ _ _ _ _ _ _ _ _ rfl
@[simp] def uf21o6 : List IOper := [
  ⟨(some 2), .mv (.c (.int .i64 (-1))), none, none⟩]
def uf21r6 : IC := .reg false [] uf21o6 [0, 9, 2, 71, 68, 70, 64, 65, 67, 69, 66, 8]
@[simp] theorem uf21r6_run : run tbl fin K uf21r6 e H = regK tbl fin K [] uf21o6 [0, 9, 2, 71, 68, 70, 64, 65, 67, 69, 66, 8] e H := run_regK _ _ _ _ _ _ _ _ _ rfl
@[simp] def uf21o7 : List IOper := [
  ⟨(some 36), .mv (.t 0), none, none⟩,
  ⟨(some 37), .ocall (.c (.fn 39 [])) [(.t 36)], none, none⟩,
  ⟨(some 12), .mv (.t 37), none, none⟩]
def uf21r7 : IC := .reg false [] uf21o7 [9, 2, 71, 68, 70, 64, 65, 67, 69, 66, 8, 12]
@[simp] theorem uf21r7_run : run tbl fin K uf21r7 e H = regK tbl fin K [] uf21o7 [9, 2, 71, 68, 70, 64, 65, 67, 69, 66, 8, 12] e H := run_regK _ _ _ _ _ _ _ _ _ rfl
@[simp] def uf21o8 : List IOper := [
  ⟨(some 38), .mv (.t 12), none, none⟩,
  ⟨(some 39), .mv (.t 8), none, none⟩,
  ⟨(some 40), .idxr 7 (.t 38) (.t 39), none, none⟩,
  ⟨(some 41), .loadr true 7 (.t 40), none, none⟩,
  ⟨(some 13), .new 42 7 (.agg [(.int .i64 0), (.int .i64 0), (.int .i64 0), .e0, .e0, (.str []), (.bool false)]), none, none⟩,
  ⟨none, .storek 7 (.t 13) (.t 41), none, none⟩]
def uf21r8 : IC := .reg false [] uf21o8 [9, 2, 71, 68, 70, 64, 65, 67, 69, 13, 66, 8, 12]
@[simp] theorem uf21r8_run : run tbl fin K uf21r8 e H = regK tbl fin K [] uf21o8 [9, 2, 71, 68, 70, 64, 65, 67, 69, 13, 66, 8, 12] e H := run_regK _ _ _ _ _ _ _ _ _ rfl
@[simp] def uf21o9 : List IOper := [
  ⟨(some 42), .fld 4 (.t 13), none, none⟩,
  ⟨(some 43), .loadr false 1 (.t 42), none, none⟩,
  ⟨(some 44), .mv (.t 9), none, none⟩,
  ⟨(some 45), .mv (.t 2), none, none⟩,
  ⟨(some 46), .idxr 1 (.t 43) (.t 44), none, none⟩,
  ⟨none, .storek 1 (.t 46) (.t 45), none, none⟩]
def uf21r9 : IC := .reg false [] uf21o9 [71, 68, 70, 64, 65, 67, 69, 13, 66, 8, 12]
@[simp] theorem uf21r9_run : run tbl fin K uf21r9 e H = regK tbl fin K [] uf21o9 [71, 68, 70, 64, 65, 67, 69, 13, 66, 8, 12] e H := run_regK _ _ _ _ _ _ _ _ _ rfl
@[simp] def uf21o10 : List IOper := [
  ⟨(some 47), .fld 4 (.t 13), none, none⟩,
  ⟨(some 48), .loadr false 1 (.t 47), none, none⟩,
  ⟨(some 49), .callr (.c (.fn 64 [])) [(.t 48)], none, none⟩,
  ⟨(some 14), .mv (.t 49), none, none⟩]
def uf21r10 : IC := .reg false [] uf21o10 [71, 68, 70, 64, 65, 67, 69, 13, 66, 8, 14, 12]
@[simp] theorem uf21r10_run : run tbl fin K uf21r10 e H = regK tbl fin K [] uf21o10 [71, 68, 70, 64, 65, 67, 69, 13, 66, 8, 14, 12] e H := run_regK _ _ _ _ _ _ _ _ _ rfl
@[simp] def uf21o11 : List IOper := [
  ⟨(some 50), .mv (.t 14), none, none⟩,
  ⟨(some 51), .fld 2 (.t 13), none, none⟩,
  ⟨(some 52), .loadr false 1 (.t 51), none, none⟩,
  ⟨(some 53), .bin .eql (.t 50) (.t 52), none, none⟩]
def uf21r11 : IC := .reg false [] uf21o11 [53, 71, 68, 70, 64, 65, 67, 69, 13, 66, 8, 14, 12]
@[simp] theorem uf21r11_run : run tbl fin K uf21r11 e H = regK tbl fin K [] uf21o11 [53, 71, 68, 70, 64, 65, 67, 69, 13, 66, 8, 14, 12] e H := run_regK _ _ _ _ _ _ _ _ _ rfl
@[simp] def uf21o12 : List IOper := [
  ⟨(some 54), .mv (.t 12), none, none⟩,
  ⟨(some 6), .mv (.t 54), none, none⟩,
  ⟨(some 7), .mv (.c (.bool true)), none, none⟩]
def uf21r12 : IC := .reg false [] uf21o12 [6, 7]
@[simp] theorem uf21r12_run : run tbl fin K uf21r12 e H = regK tbl fin K [] uf21o12 [6, 7] e H := run_regK _ _ _ _ _ _ _ _ _ rfl
@[simp] def uf21o13 : List IOper := [
  ⟨(some 55), .mv (.t 14), none, none⟩,
  ⟨(some 56), .fld 2 (.t 13), none, none⟩,
  ⟨none, .storek 1 (.t 56) (.t 55), none, none⟩,
  ⟨(some 57), .fld 6 (.t 13), none, none⟩,
  ⟨none, .storek 1 (.t 57) (.c (.bool false)), none, none⟩]
def uf21r13 : IC := .reg false [] uf21o13 [14, 8, 66, 13, 69, 67, 65, 64, 70, 68, 71, 12]
@[simp] theorem uf21r13_run : run tbl fin K uf21r13 e H = regK tbl fin K [] uf21o13 [14, 8, 66, 13, 69, 67, 65, 64, 70, 68, 71, 12] e H := run_regK _ _ _ _ _ _ _ _ _ rfl
@[simp] def uf21o14 : List IOper := [
  ⟨(some 58), .mv (.t 12), none, none⟩,
  ⟨(some 59), .mv (.t 8), none, none⟩,
  ⟨(some 60), .loadr true 7 (.t 13), none, none⟩,
  ⟨(some 61), .idxr 7 (.t 58) (.t 59), none, none⟩,
  ⟨none, .storek 7 (.t 61) (.t 60), none, none⟩]
def uf21r14 : IC := .reg false [] uf21o14 [14, 8, 66, 13, 69, 67, 65, 64, 70, 68, 71, 12]
@[simp] theorem uf21r14_run : run tbl fin K uf21r14 e H = regK tbl fin K [] uf21o14 [14, 8, 66, 13, 69, 67, 65, 64, 70, 68, 71, 12] e H := run_regK _ _ _ _ _ _ _ _ _ rfl
@[simp] def uf21o15 : List IOper := [
  ⟨(some 62), .mv (.t 14), none, none⟩,
  ⟨(some 63), .bin .eql (.t 62) (.c (.int .i64 2)), none, none⟩]
def uf21r15 : IC := .reg false [] uf21o15 [63, 8, 66, 13, 69, 67, 65, 64, 70, 68, 71, 12]
@[simp] theorem uf21r15_run : run tbl fin K uf21r15 e H = regK tbl fin K [] uf21o15 [63, 8, 66, 13, 69, 67, 65, 64, 70, 68, 71, 12] e H := run_regK _ _ _ _ _ _ _ _ _ rfl
@[simp] def uf21t16 : DT := (.op ⟨(some 64), .mv (.t 12), none, none⟩
 (.op ⟨(some 65), .mv (.t 8), none, none⟩
 (.op ⟨(some 66), .mv (.t 8), none, none⟩
 (.op ⟨(some 67), .bin .add (.t 66) (.c (.int .i64 1)), none, none⟩
 (.br (.op ⟨(some 68), .ocallc (.c (.fn 65 [])) [(.t 64), (.t 65), (.t 67)], none, none⟩
 (.op ⟨(some 69), .loadr true 7 (.t 13), none, none⟩
 (.op ⟨(some 70), .mkimm 7 1 (.agg [(.int .i64 0), (.int .i64 0), (.int .i64 0), .e0, .e0, (.str []), (.bool false)]) [(0, (.t 69))], none, none⟩
 (.op ⟨(some 71), .app 42 7 (.t 68) (.t 70), none, none⟩
 (.op ⟨(some 12), .mv (.t 71), none, none⟩
 .nil))))) (.op ⟨(some 69), .loadr true 7 (.t 13), none, none⟩
 (.br (.op ⟨(some 68), .ocallc (.c (.fn 65 [])) [(.t 64), (.t 65), (.t 67)], none, none⟩
 (.op ⟨(some 70), .mkimm 7 1 (.agg [(.int .i64 0), (.int .i64 0), (.int .i64 0), .e0, .e0, (.str []), (.bool false)]) [(0, (.t 69))], none, none⟩
 (.op ⟨(some 71), .app 42 7 (.t 68) (.t 70), none, none⟩
 (.op ⟨(some 12), .mv (.t 71), none, none⟩
 .nil)))) (.op ⟨(some 70), .mkimm 7 1 (.agg [(.int .i64 0), (.int .i64 0), (.int .i64 0), .e0, .e0, (.str []), (.bool false)]) [(0, (.t 69))], none, none⟩
 (.op ⟨(some 68), .ocallc (.c (.fn 65 [])) [(.t 64), (.t 65), (.t 67)], none, none⟩
 (.op ⟨(some 71), .app 42 7 (.t 68) (.t 70), none, none⟩
 (.op ⟨(some 12), .mv (.t 71), none, none⟩
 .nil)))))))))))
def uf21r16 : IC := .rega uf21t16 [12]
@[simp] theorem uf21r16_run : run tbl fin K uf21r16 e H = regA tbl fin K uf21t16 [12] e H := run_regA _ _ _ _ _ _ _
@[simp] def uf21o17 : List IOper := [
  ⟨(some 72), .mv (.t 12), none, none⟩,
  ⟨(some 6), .mv (.t 72), none, none⟩,
  ⟨(some 7), .mv (.c (.bool true)), none, none⟩]
def uf21r17 : IC := .reg false [] uf21o17 [6, 7]
@[simp] theorem uf21r17_run : run tbl fin K uf21r17 e H = regK tbl fin K [] uf21o17 [6, 7] e H := run_regK _ _ _ _ _ _ _ _ _ rfl
def uf21body : IC := (.seq uf21r0 (.seq uf21r1 (.seq (.seq uf21r2 (.seq uf21r3 (.cond (.t 31) (.seq uf21r4 .ret) .skip))) (.seq (.seq uf21r5 (.cond (.t 35) uf21r6 .skip)) (.seq uf21r7 (.seq uf21r8 (.seq uf21r9 (.seq uf21r10 (.seq (.seq uf21r11 (.cond (.t 53) (.seq uf21r12 .ret) .skip)) (.seq uf21r13 (.seq uf21r14 (.seq (.seq uf21r15 (.cond (.t 63) uf21r16 .skip)) (.seq uf21r17 .ret)))))))))))))
def uf21 : IFn := ⟨73, 3, [.tmp 6, .tmp 7], uf21body⟩
/- 39: jobshell/jobs.clone -/
@[simp] def uf39o0 : List IOper := [
  ⟨(some 2), .nilrow 42 7, none, none⟩]
def uf39r0 : IC := .reg false [] uf39o0 [0]
@[simp] theorem uf39r0_run : run tbl fin K uf39r0 e H = regK tbl fin K [] uf39o0 [0] e H := run_regK _ _ _ _ _ _ _ _ _ rfl
@[simp] def uf39o1 : List IOper := [
  ⟨(some 5), .mv (.t 0), none, none⟩,
  ⟨(some 6), .callr (.c (.fn 73 [])) [(.t 5)], none, none⟩,
  ⟨(some 3), .mv (.t 6), none, none⟩]
def uf39r1 : IC := .reg false [] uf39o1 [3]
@[simp] theorem uf39r1_run : run tbl fin K uf39r1 e H = regK tbl fin K [] uf39o1 [3] e H := run_regK _ _ _ _ _ _ _ _ _ rfl
@[simp] def uf39o2 : List IOper := [
  ⟨(some 7), .mv (.t 3), none, none⟩,
  ⟨(some 8), .len (.t 7), none, none⟩,
  ⟨(some 9), .mv (.c (.int .i64 0)), none, none⟩]
def uf39r2 : IC := .reg false [] uf39o2 [9, 8, 3]
@[simp] theorem uf39r2_run : run tbl fin K uf39r2 e H = regK tbl fin K [] uf39o2 [9, 8, 3] e H := run_regK _ _ _ _ _ _ _ _ _ rfl
@[simp] def uf39o3 : List IOper := [
  ⟨(some 10), .bin .lss (.t 9) (.t 8), none, none⟩]
def uf39r3 : IC := .reg false [] uf39o3 [10, 9, 8, 3]
@[simp] theorem uf39r3_run : run tbl fin K uf39r3 e H = regK tbl fin K [] uf39o3 [10, 9, 8, 3] e H := run_regK _ _ _ _ _ _ _ _ _ rfl
@[simp] def uf39o4 : List IOper := [
  ⟨(some 11), .mv (.t 9), none, none⟩,
  ⟨(some 4), .mv (.t 11), none, none⟩]
def uf39r4 : IC := .reg false [] uf39o4 [4, 9, 8, 3]
@[simp] theorem uf39r4_run : run tbl fin K uf39r4 e H = regK tbl fin K [] uf39o4 [4, 9, 8, 3] e H := run_regK _ _ _ _ _ _ _ _ _ rfl
@[simp] def uf39o5 : List IOper := [
  ⟨(some 12), .mv (.t 3), none, none⟩,
  ⟨(some 13), .mv (.t 4), none, none⟩,
  ⟨(some 14), .mv (.t 3), none, none⟩,
  ⟨(some 15), .mv (.t 4), none, none⟩,
  ⟨(some 16), .idxr 7 (.t 14) (.t 15), none, none⟩,
  ⟨(some 17), .fld 3 (.t 16), none, none⟩,
  ⟨(some 18), .loadr false 1 (.t 17), none, none⟩,
  ⟨(some 19), .callr (.c (.fn 38 [])) [(.t 18)], none, none⟩,
  ⟨(some 20), .idxr 7 (.t 12) (.t 13), none, none⟩,
  ⟨(some 21), .fld 3 (.t 20), none, none⟩,
  ⟨none, .storek 1 (.t 21) (.t 19), none, none⟩]
def uf39r5 : IC := .reg false [] uf39o5 [4, 9, 8, 3]
@[simp] theorem uf39r5_run : run tbl fin K uf39r5 e H = regK tbl fin K [] uf39o5 [4, 9, 8, 3] e H := run_regK _ _ _ _ _ _ _ _ _ rfl
@[simp] def uf39o6 : List IOper := [
  ⟨(some 22), .mv (.t 3), none, none⟩,
  ⟨(some 23), .mv (.t 4), none, none⟩,
  ⟨(some 24), .mv (.t 3), none, none⟩,
  ⟨(some 25), .mv (.t 4), none, none⟩,
  ⟨(some 26), .idxr 7 (.t 24) (.t 25), none, none⟩,
  ⟨(some 27), .fld 4 (.t 26), none, none⟩,
  ⟨(some 28), .loadr false 1 (.t 27), none, none⟩,
  ⟨(some 29), .callr (.c (.fn 38 [])) [(.t 28)], none, none⟩,
  ⟨(some 30), .idxr 7 (.t 22) (.t 23), none, none⟩,
  ⟨(some 31), .fld 4 (.t 30), none, none⟩,
  ⟨none, .storek 1 (.t 31) (.t 29), none, none⟩]
def uf39r6 : IC := .reg false [] uf39o6 [9, 8, 3]
@[simp] theorem uf39r6_run : run tbl fin K uf39r6 e H = regK tbl fin K [] uf39o6 [9, 8, 3] e H := run_regK _ _ _ _ _ _ _ _ _ rfl
@[simp] def uf39o7 : List IOper := [
  ⟨(some 32), .bin .add (.t 9) (.c (.int .i64 1)), none, none⟩,
  ⟨(some 9), .mv (.t 32), none, none⟩]
def uf39r7 : IC := .reg false [] uf39o7 [9, 8, 3]
@[simp] theorem uf39r7_run : run tbl fin K uf39r7 e H = regK tbl fin K [] uf39o7 [9, 8, 3] e H := run_regK _ _ _ _ _ _ _ _ _ rfl
def uf39b8 : IC := (.seq uf39r3 (.seq (.cond (.t 10) .skip (.exit 0)) (.seq (.block 1 (.seq uf39r4 (.seq uf39r5 uf39r6))) uf39r7)))
theorem uf39b8_eq : uf39b8 = (.seq uf39r3 (.seq (.cond (.t 10) .skip (.exit 0)) (.seq (.block 1 (.seq uf39r4 (.seq uf39r5 uf39r6))) uf39r7))) := rfl
@[simp] def uf39o9 : List IOper := [
  ⟨(some 33), .mv (.t 3), none, none⟩,
  ⟨(some 2), .mv (.t 33), none, none⟩]
def uf39r9 : IC := .reg false [] uf39o9 [2]
@[simp] theorem uf39r9_run : run tbl fin K uf39r9 e H = regK tbl fin K [] uf39o9 [2] e H := run_regK _ _ _ _ _ _ _ _ _ rfl
def uf39body : IC := (.seq uf39r0 (.seq uf39r1 (.seq (.seq uf39r2 (.block 0 (.loop [9, 8, 3] uf39b8))) (.seq uf39r9 .ret))))
def uf39 : IFn := ⟨34, 1, [.tmp 2], uf39body⟩
/- 65: slices.Delete[[]jobshell/api.Job,jobshell/api.Job] -/
@[simp] def uf65o0 : List IOper := [
  ⟨(some 6), .nilrow 42 7, none, none⟩]
def uf65r0 : IC := .reg false [] uf65o0 [2, 1, 0]
@[simp] theorem uf65r0_run : run tbl fin K uf65r0 e H = regK tbl fin K [] uf65o0 [2, 1, 0] e H := run_regK _ _ _ _ _ _ _ _ _ rfl
@[simp] def uf65o1 : List IOper := [
  ⟨(some 8), .mv (.t 0), none, none⟩,
  ⟨(some 9), .mv (.t 1), none, none⟩,
  ⟨(some 10), .mv (.t 2), none, none⟩,
  ⟨(some 11), .mv (.t 0), none, none⟩,
  ⟨(some 12), .len (.t 11), none, none⟩,
  ⟨(some 13), .slc3 (.t 8) (some (.t 9)) (some (.t 10)) (some (.t 12)), none, none⟩]
def uf65r1 : IC := .reg false [] uf65o1 [2, 1, 0]
@[simp] theorem uf65r1_run : run tbl fin K uf65r1 e H = regK tbl fin K [] uf65o1 [2, 1, 0] e H := run_regK _ _ _ _ _ _ _ _ _ rfl
@[simp] def uf65o2 : List IOper := [
  ⟨(some 14), .mv (.t 1), none, none⟩,
  ⟨(some 15), .mv (.t 2), none, none⟩,
  ⟨(some 16), .bin .eql (.t 14) (.t 15), none, none⟩]
def uf65r2 : IC := .reg false [] uf65o2 [16, 2, 1, 0]
@[simp] theorem uf65r2_run : run tbl fin K uf65r2 e H = regK tbl fin K [] uf65o2 [16, 2, 1, 0] e H := run_regK _ _ _ _ _ _ _ _ _ rfl
@[simp] def uf65o3 : List IOper := [
  ⟨(some 17), .mv (.t 0), none, none⟩,
  ⟨(some 6), .mv (.t 17), none, none⟩]
def uf65r3 : IC := .reg false [] uf65o3 [6]
@[simp] theorem uf65r3_run : run tbl fin K uf65r3 e H = regK tbl fin K [] uf65o3 [6] e H := run_regK _ _ _ _ _ _ _ _ _ rfl
@[simp] def uf65o4 : List IOper := [
  ⟨(some 18), .mv (.t 0), none, none⟩,
  ⟨(some 19), .len (.t 18), none, none⟩,
  ⟨(some 7), .mv (.t 19), none, none⟩]
def uf65r4 : IC := .reg false [] uf65o4 [1, 0, 2, 7]
@[simp] theorem uf65r4_run : run tbl fin K uf65r4 e H = regK tbl fin K [] uf65o4 [1, 0, 2, 7] e H := run_regK _ _ _ _ _ _ _ _ _ rfl
@[simp] def uf65o5 : List IOper := [
  ⟨(some 20), .mv (.t 0), none, none⟩,
  ⟨(some 21), .mv (.t 1), none, none⟩,
  ⟨(some 22), .slc 7 (.t 20) none (some (.t 21)), none, none⟩,
  ⟨(some 23), .mv (.t 0), none, none⟩,
  ⟨(some 24), .mv (.t 2), none, none⟩,
  ⟨(some 25), .slc 7 (.t 23) (some (.t 24)) none, none, none⟩,
  ⟨(some 26), .app 42 7 (.t 22) (.t 25), none, none⟩,
  ⟨(some 0), .mv (.t 26), none, none⟩]
def uf65r5 : IC := .reg true [] uf65o5 [7, 0]
@[simp] theorem uf65r5_run : run tbl fin K uf65r5 e H = regK tbl fin K [] uf65o5 [7, 0] e H := run_regK _ _ _ _ _ _ _ _ _ rfl
@[simp] def uf65o6 : List IOper := [
  ⟨(some 27), .mv (.t 0), none, none⟩,
  ⟨(some 28), .mv (.t 0), none, none⟩,
  ⟨(some 29), .len (.t 28), none, none⟩,
  ⟨(some 30), .mv (.t 7), none, none⟩,
  ⟨(some 31), .slc 7 (.t 27) (some (.t 29)) (some (.t 30)), none, none⟩,
  ⟨none, .clr 7 (.agg [(.int .i64 0), (.int .i64 0), (.int .i64 0), .e0, .e0, (.str []), (.bool false)]) (.t 31), none, none⟩]
def uf65r6 : IC := .reg false [] uf65o6 [0]
@[simp] theorem uf65r6_run : run tbl fin K uf65r6 e H = regK tbl fin K [] uf65o6 [0] e H := run_regK _ _ _ _ _ _ _ _ _ rfl
@[simp] def uf65o7 : List IOper := [
  ⟨(some 32), .mv (.t 0), none, none⟩,
  ⟨(some 6), .mv (.t 32), none, none⟩]
def uf65r7 : IC := .reg false [] uf65o7 [6]
@[simp] theorem uf65r7_run : run tbl fin K uf65r7 e H = regK tbl fin K [] uf65o7 [6] e H := run_regK _ _ _ _ _ _ _ _ _ rfl
def uf65body : IC := (.seq uf65r0 (.seq uf65r1 (.seq (.seq uf65r2 (.cond (.t 16) (.seq uf65r3 .ret) .skip)) (.seq uf65r4 (.seq uf65r5 (.seq uf65r6 (.seq uf65r7 .ret)))))))
def uf65 : IFn := ⟨33, 3, [.tmp 6], uf65body⟩
def utblF0 : Nat → Option IFn
  | 21 => some uf21
  | 39 => some uf39
  | 65 => some uf65
  | _ => none
def utblF (f : Nat) : Option IFn := utblF0 f
theorem utbl21 : utblF 21 = some uf21 := rfl
theorem utbl39 : utblF 39 = some uf39 := rfl
theorem utbl65 : utblF 65 = some uf65 := rfl
theorem uok21 (m : Int) : cFn Tryd.prog (ucfg m) 21 = some uf21 := by kernel_rfl
theorem uok39 (m : Int) : cFn Tryd.prog (ucfg m) 39 = some uf39 := by kernel_rfl
theorem uok65 (m : Int) : cFn Tryd.prog (ucfg m) 65 = some uf65 := by kernel_rfl
theorem utbl_ok0 (m : Int) (f : Nat) (fn : IFn) (h : utblF0 f = some fn) : cFn Tryd.prog (ucfg m) f = some fn := by
  unfold utblF0 at h
  split at h
  · exact (congrArg (fun x => cFn Tryd.prog (ucfg m) 21 = x) h).mp (uok21 m)
  · exact (congrArg (fun x => cFn Tryd.prog (ucfg m) 39 = x) h).mp (uok39 m)
  · exact (congrArg (fun x => cFn Tryd.prog (ucfg m) 65 = x) h).mp (uok65 m)
  · cases h
theorem utbl_ok (m : Int) (f : Nat) (fn : IFn) (h : utblF f = some fn) : cFn Tryd.prog (ucfg m) f = some fn := by
  unfold utblF at h
  exact utbl_ok0 m f fn h
end Go.Proofs.YtpphfbfmoipoaaaDoor
