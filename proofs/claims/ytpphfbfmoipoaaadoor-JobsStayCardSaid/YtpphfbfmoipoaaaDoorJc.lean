/- Jobs: what Update gives, by the interpreter with rows in rows; first, how a list of jobs is cloned. No condition. -/
import Derived.Test.YtpphfbfmoipoaaaDoorJb
namespace Go.Proofs.YtpphfbfmoipoaaaDoor
open Go.PI
set_option maxRecDepth 100000
set_option maxHeartbeats 8000000
set_option linter.unusedSimpArgs false
noncomputable def utbl : TB := ⟨utblF, fun f args => if f = 34 ∨ f = 62 ∨ f = 63 ∨ f = 64 then callW tbl0 f args else ext0 f args, fun _ _ _ => none⟩
theorem ugl_eq : ugl = gl := by
  funext g
  match g with
  | 0 => rfl
  | 1 => rfl
  | 2 => rfl
  | 3 => rfl
  | 4 => rfl
  | n + 5 => rfl
theorem glob_u {m : Int} {F : Nat → Prop} {w : World} (h : Glob (ucfg m) F w) : Glob (cfg m) F w := by
  intro g e hg
  refine h g e ?_
  simp only [cfg, ucfg, ugl_eq] at hg ⊢
  exact hg
theorem glob_c {m : Int} {F : Nat → Prop} {w : World} (h : Glob (cfg m) F w) : Glob (ucfg m) F w := by
  intro g e hg
  refine h g e ?_
  simp only [cfg, ucfg, ugl_eq] at hg ⊢
  exact hg
theorem fn_u {m : Int} {f : Nat} {args : List AV} {res : AV} {rows : List AO} (h : FnOk (cfg m) Tryd.prog f args res rows) : FnOk (ucfg m) Tryd.prog f args res rows :=
  ⟨h.1, fun F w vs hF hg hl hr => h.2 F w vs hF (glob_u hg) hl hr⟩
theorem fn_c {m : Int} {f : Nat} {args : List AV} {res : AV} {rows : List AO} (h : FnOk (ucfg m) Tryd.prog f args res rows) : FnOk (cfg m) Tryd.prog f args res rows :=
  ⟨h.1, fun F w vs hF hg hl hr => h.2 F w vs hF (glob_c hg) hl hr⟩
theorem utblOk (m : Int) : TBok Tryd.prog (ucfg m) utbl := by
  refine ⟨fun f fn h => utbl_ok m f fn h, fun f args res rows _ h => ?_, (by intro _ _ _ _ _ _ h; cases h)⟩
  simp only [utbl] at h
  by_cases hf : f = 34 ∨ f = 62 ∨ f = 63 ∨ f = 64
  · rw [if_pos hf] at h
    refine ⟨fn_u (callW_sound mixed (tbl0_ok m) h), ?_⟩
    rcases hf with rfl | rfl | rfl | rfl
    · exact callee34
    · exact callee62
    · exact callee63
    · exact callee64
  · rw [if_neg hf] at h
    obtain ⟨h1, h2⟩ := ext0_ok m f args res rows h
    exact ⟨fn_u h1, h2⟩
@[simp] theorem get_mid {α : Type} (A Z : List α) (x : α) : (A ++ x :: Z)[A.length]? = some x := by
  rw [List.getElem?_append_right (Nat.le_refl _)]; simp
@[simp] theorem set_mid {α : Type} (A Z : List α) (x y : α) : (A ++ x :: Z).set A.length y = A ++ y :: Z := by
  rw [List.set_append_right _ _ (Nat.le_refl _)]; simp
@[simp] theorem get_mid2 {α : Type} (A Z : List α) (k : Nat) : (A ++ Z)[A.length + k]? = Z[k]? := by
  rw [List.getElem?_append_right (by omega)]; simp
@[simp] theorem set_mid2 {α : Type} (A Z : List α) (k : Nat) (y : α) : (A ++ Z).set (A.length + k) y = A ++ Z.set k y := by
  rw [List.set_append_right _ _ (by omega)]; simp
theorem u38 {l : List Int} (hl : l.length ≤ 1000000) : callW utbl 38 [il l] = some (.ref 0 0 0 l.length, [.row 3 1 0 (im l)]) := by
  rw [call_ext utbl rfl]
  simp [utbl, ext0, cloneX]; omega
theorem u73 {l : List Jb} (hl : l.length ≤ 1000000) : callW utbl 73 [jl l] = some (.ref 0 0 0 l.length, [.row 42 7 0 (l.map encJ)]) := by
  rw [call_ext utbl rfl]
  simp [utbl, ext0, cloneX]; omega
theorem u34 (p : Int) (l : List Jb) (hl : l.length ≤ 1000000) (hb : ∀ j ∈ l, BJ j) : callW utbl 34 [jl l, .int .i64 p] = some (.tup [.int .i64 (o1 (memO p l 0)), .int .i64 (o2 (memO p l 0))], []) := by
  rw [call_ext utbl rfl]; exact c34g (T := tbl0) rfl p l hl hb
theorem u62 (n : Int) (hn : n ≤ mx) : callW utbl 62 [.int .i64 n] = some (.tup [.int .i64 (kdv n).1, .int .i64 (kdv n).2], []) := by
  rw [call_ext utbl rfl]; exact c62g (T := tbl0) rfl n hn
theorem u63 : callW utbl 63 [] = some (.int .i64 768, []) := by
  rw [call_ext utbl rfl]; exact c63g (T := tbl0) rfl
theorem u64 (l : List Int) (hl : l.length ≤ 1000000) (hb : ∀ n ∈ l, n ≤ mx) : callW utbl 64 [il l] = some (.int .i64 (stL l false), []) := by
  rw [call_ext utbl rfl]; exact c64g (T := tbl0) rfl l hl hb
abbrev encR (n : Nat) (x : Jb) : AV := .agg [.int .i64 x.num, .int .i64 x.pgid, .int .i64 x.state, .ref n 0 0 x.pids.length, .ref (n + 1) 0 0 x.stats.length, .str x.text, .bool x.noted]
def refsJ : Nat → List Jb → List AV
  | _, [] => []
  | n, x :: q => encR n x :: refsJ (n + 2) q
def rowsJ : List Jb → List AO
  | [] => []
  | x :: q => .row 3 1 0 (im x.pids) :: .row 3 1 0 (im x.stats) :: rowsJ q
def mk (b : Bool) (es : List AV) : AO := if b = true then .rr 42 7 0 es else .row 42 7 0 es
theorem t39 (n : Nat) (hn : n ≤ 1000000) (P : List AO) : ∀ (q : List Jb) (A : List AV) (Z : List AO) (b : Bool), (∀ x ∈ q, BJ x) → A.length + q.length = n →
    run utbl (.op [.tmp 2]) [.blk 0, .seq (uf39r9.seq .ret)] (.loop [9, 8, 3] uf39b8) [(9, .int .i64 A.length), (8, .int .i64 n), (3, .ref P.length 0 0 n)] (P ++ mk b (A ++ q.map encJ) :: Z) =
      some (.ref P.length 0 0 n, P ++ mk (b || !q.isEmpty) (A ++ refsJ (P.length + (Z.length + 1)) q) :: (Z ++ rowsJ q))
  | [], A, Z, b, _, h => by
    have h : A.length = n := by simpa using h
    rw [run_loopD _ _ uf39b8_eq]
    simp [h, refsJ, rowsJ]
  | x :: q, A, Z, b, hb, h => by
    have hx := hb x (by simp)
    have h : A.length + (q.length + 1) = n := by simpa using h
    have hi : A.length < n := by omega
    have ih := t39 n hn P q (A ++ [encR (P.length + (Z.length + 1)) x]) (Z ++ [.row 3 1 0 (im x.pids), .row 3 1 0 (im x.stats)]) true (fun y hy => hb y (by simp [hy])) (by simp; omega)
    have ws := wrapS A.length (by omega)
    have e1 := u38 hx.1
    have e2 := u38 hx.2
    rw [run_loopD _ _ uf39b8_eq]
    simp [mk, encR, Nat.add_assoc] at ih
    cases b <;> simp [mk, encR, hi, e1, e2, ws, ih, refsJ, rowsJ, Nat.add_assoc]
theorem u39 (l : List Jb) (hl : l.length ≤ 1000000) (hb : ∀ x ∈ l, BJ x) (H : List AO) : callV utbl 39 [jl l] H =
    some (.ref (H.length + 1) 0 0 l.length, H ++ .row 42 7 0 [] :: mk (!l.isEmpty) (refsJ (H.length + 2) l) :: rowsJ l) := by
  rw [callV_run utbl (f := 39) (fn := uf39) rfl _ _ rfl]
  have h := t39 l.length hl (H ++ [.row 42 7 0 []]) l [] [] false hb (by simp)
  have e := u73 hl
  simp [mk] at h
  simp [uf39, uf39body, e, h, mk]
end Go.Proofs.YtpphfbfmoipoaaaDoor
