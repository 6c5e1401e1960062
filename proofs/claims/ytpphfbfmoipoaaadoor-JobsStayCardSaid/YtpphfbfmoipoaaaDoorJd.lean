/- Jobs: rows of jobs whose lists are rows: how they read, are written, and are closed; slices.Delete in such a row. No condition. -/
import Derived.Test.YtpphfbfmoipoaaaDoorJc
namespace Go.Proofs.YtpphfbfmoipoaaaDoor
open Go.PI
set_option maxRecDepth 100000
set_option maxHeartbeats 8000000
set_option linter.unusedSimpArgs false
theorem get_k {α : Type} {A Z : List α} {x : α} {k : Nat} (h : A.length = k) : (A ++ x :: Z)[k]? = some x := by subst h; simp
theorem set_k {α : Type} {A Z : List α} {x y : α} {k : Nat} (h : A.length = k) : (A ++ x :: Z).set k y = A ++ y :: Z := by subst h; simp
theorem get_kk {α : Type} {A Z : List α} {k m : Nat} (h : A.length = k) : (A ++ Z)[k + m]? = Z[m]? := by subst h; simp
theorem set_kk {α : Type} {A Z : List α} {k m : Nat} {y : α} (h : A.length = k) : (A ++ Z).set (k + m) y = A ++ Z.set m y := by subst h; simp
@[simp] theorem refsJ_len : ∀ (n : Nat) (l : List Jb), (refsJ n l).length = l.length
  | _, [] => rfl
  | n, x :: q => by simp [refsJ, refsJ_len (n + 2) q]
@[simp] theorem rowsJ_len : ∀ (l : List Jb), (rowsJ l).length = 2 * l.length
  | [] => rfl
  | x :: q => by simp [rowsJ, rowsJ_len q]; omega
theorem refsJ_app : ∀ (n : Nat) (A : List Jb) (x : Jb) (B : List Jb), refsJ n (A ++ x :: B) = refsJ n A ++ encR (2 * A.length + n) x :: refsJ (2 * A.length + n + 2) B
  | n, [], x, B => by simp [refsJ]
  | n, y :: A, x, B => by
    simp only [List.cons_append, refsJ, refsJ_app (n + 2) A x B, List.length_cons]
    rw [show 2 * A.length + (n + 2) = 2 * (A.length + 1) + n by omega]
theorem rowsJ_app : ∀ (A B : List Jb), rowsJ (A ++ B) = rowsJ A ++ rowsJ B
  | [], B => rfl
  | y :: A, B => by simp [rowsJ, rowsJ_app A B]
def fzsJ : List Jb → List AO
  | [] => []
  | x :: q => .fz 1 0 (im x.pids) :: .fz 1 0 (im x.stats) :: fzsJ q
theorem fzsJ_app : ∀ (A B : List Jb), fzsJ (A ++ B) = fzsJ A ++ fzsJ B
  | [], B => rfl
  | y :: A, B => by simp [fzsJ, fzsJ_app A B]
@[simp] theorem fzsJ_len : ∀ (l : List Jb), (fzsJ l).length = 2 * l.length
  | [] => rfl
  | x :: q => by simp [fzsJ, fzsJ_len q]; omega
theorem refsJ_agg : ∀ (n : Nat) (l : List Jb), (refsJ n l).all isAgg' = true
  | _, [] => rfl
  | n, x :: q => by simp only [refsJ, List.all_cons, refsJ_agg (n + 2) q]; rfl
theorem frz_refs : ∀ (q : List Jb) (n : Nat) (P Z : List AO), P.length = n → frz ((refsJ n q).flatMap refs1) (P ++ (rowsJ q ++ Z)) = P ++ (fzsJ q ++ Z)
  | [], n, P, Z, h => rfl
  | x :: q, n, P, Z, h => by
    have ih := frz_refs q (n + 2) (P ++ [.fz 1 0 (im x.pids), .fz 1 0 (im x.stats)]) Z (by simp [h])
    have e1 : (refsJ n (x :: q)).flatMap refs1 = n :: (n + 1) :: (refsJ (n + 2) q).flatMap refs1 := by simp [refsJ]
    rw [e1]
    have g1 : (P ++ (rowsJ (x :: q) ++ Z))[n]? = some (.row 3 1 0 (im x.pids)) := by simp only [rowsJ, List.cons_append]; exact get_k h
    simp only [PI.frz, g1]
    have g2 : (P ++ (rowsJ (x :: q) ++ Z)).set n (.fz 1 0 (im x.pids)) = P ++ .fz 1 0 (im x.pids) :: .row 3 1 0 (im x.stats) :: (rowsJ q ++ Z) := by simp only [rowsJ, List.cons_append]; exact set_k h
    rw [g2]
    have g3 : (P ++ .fz 1 0 (im x.pids) :: AO.row 3 1 0 (im x.stats) :: (rowsJ q ++ Z))[n + 1]? = some (.row 3 1 0 (im x.stats)) := by rw [get_kk h]; rfl
    simp only [g3]
    have g4 : (P ++ .fz 1 0 (im x.pids) :: AO.row 3 1 0 (im x.stats) :: (rowsJ q ++ Z)).set (n + 1) (.fz 1 0 (im x.stats)) = P ++ [.fz 1 0 (im x.pids), .fz 1 0 (im x.stats)] ++ (rowsJ q ++ Z) := by rw [set_kk h]; simp
    rw [g4, ih]
    simp [fzsJ]
/-- two rows for each job, whether they are frozen or not -/
def RowsOf (n : Nat) (H : List AO) : List Jb → Prop
  | [] => True
  | x :: q => rdRow H n 0 = some (1, im x.pids) ∧ rdRow H (n + 1) 0 = some (1, im x.stats) ∧ RowsOf (n + 2) H q
theorem conv_refs (H : List AO) : ∀ (q : List Jb) (n : Nat), RowsOf n H q → (refsJ n q).map (conv1 H) = q.map encJ
  | [], n, h => rfl
  | x :: q, n, h => by
    obtain ⟨h1, h2, h3⟩ := h
    simp only [refsJ, List.map_cons, conv_refs H q (n + 2) h3]
    congr 1
    simp only [conv1, List.map_cons, List.map_nil, conv0, h1, h2, List.drop_zero]
    rw [List.take_of_length_le (by simp), List.take_of_length_le (by simp)]
theorem rowsOf_rows : ∀ (q : List Jb) (n : Nat) (P Z : List AO), P.length = n → RowsOf n (P ++ (rowsJ q ++ Z)) q
  | [], _, _, _, _ => trivial
  | x :: q, n, P, Z, h => by
    refine ⟨?_, ?_, ?_⟩
    · simp only [rdRow, rowsJ, List.cons_append, get_k h, if_true]
    · simp only [rdRow, rowsJ, List.cons_append, get_kk h]; rfl
    · have := rowsOf_rows q (n + 2) (P ++ [.row 3 1 0 (im x.pids), .row 3 1 0 (im x.stats)]) Z (by simp [h])
      simpa [rowsJ] using this
theorem fr_self {l : List AO} {n : Nat} {s g : Nat} {es : List AV} (h : l[n]? = some (.fz s g es)) (r : List Nat) : frz (n :: r) l = frz r l := by
  simp only [PI.frz, h]
/-- slices.Delete of one element -/
theorem u65 (x0 x1 : AO) (Z : List AO) (A D : List AV) (e : AV) (n i k : Nat) (hi : A.length = i) (hk : D.length = k) (hn : n = i + (k + 1)) (h1 : n ≤ 1000000) :
    callV utbl 65 [.ref 2 0 0 n, .int .i64 i, .int .i64 (i + 1)] (x0 :: x1 :: .row 42 7 0 (A ++ e :: D) :: Z) =
      some (.ref 2 0 0 (i + k), x0 :: x1 :: .row 42 7 0 (A ++ (D ++ [tops 7])) :: (Z ++ [.row 42 7 0 []])) := by
  rw [callV_run utbl (f := 65) (fn := uf65) rfl _ _ rfl]
  have hl : (A ++ e :: D).length = n := by simp; omega
  have hd : (A ++ e :: D).drop (i + 1) = D := by subst hi; rw [List.drop_append]; simp
  have ht : (A ++ e :: D).take i = A := by subst hi; simp
  have hde : (A ++ e :: D).drop (i + k) = (A ++ e :: D).drop (n - 1) := by congr 1; omega
  have q1 : (0 : Int) ≤ (i : Int) + 1 := by omega
  have q2 : ((i : Int) + 1).toNat = i + 1 := by omega
  have q3 : ¬ (i : Int) = (i : Int) + 1 := by omega
  generalize hE : A ++ e :: D = E at hl hd ht hde ⊢
  have q4 : E.drop (i + 1) = D := hd
  have q5 : n - (i + 1) = k := by omega
  have q6 : D.take k = D := List.take_of_length_le (by omega)
  obtain ⟨y, hy⟩ : ∃ y, E.drop (i + k) = [y] := by
    have : (E.drop (i + k)).length = 1 := by rw [List.length_drop]; omega
    match hq : E.drop (i + k), this with
    | [y], _ => exact ⟨y, rfl⟩
  have q7 : ((i : Int) + k).toNat = i + k := by omega
  have q8 : (0 : Int) ≤ (i : Int) + k := by omega
  have q9 : (A ++ (D ++ [y])).take (i + k) = A ++ D := by
    rw [← List.append_assoc, List.take_left' (by simp; omega)]
  have q10 : (A ++ (D ++ [y])).drop (i + k + 1) = [] := List.drop_eq_nil_of_le (by simp; omega)
  have q11 : n - (i + k) = 1 := by omega
  simp [uf65, uf65body, hl, hd, ht, q1, q2, q3, q5, q6, hk, hi, hy, q7, q8, q9, q10, q11, show i ≤ i + 1 by omega, show i + 1 ≤ n by omega, show i ≤ n by omega, show ¬ i = n by omega, show i + k ≤ n by omega, show i + (k + 1) = n by omega, show i + k + 1 = n by omega]
end Go.Proofs.YtpphfbfmoipoaaaDoor
