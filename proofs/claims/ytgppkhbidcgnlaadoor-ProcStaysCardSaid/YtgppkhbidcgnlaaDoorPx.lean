/- Processes whose lists may be nil: how they read; alive, live, clone, Find. No condition. -/
import Derived.Test.YtgppkhbidcgnlaaDoorPt
namespace Go.Proofs.YtgppkhbidcgnlaaDoor
open Go.PI
set_option maxRecDepth 100000
set_option maxHeartbeats 8000000
set_option linter.unusedSimpArgs false
@[simp] theorem set_app_add {α : Type} (A Z : List α) (k : Nat) (y : α) : (A ++ Z).set (A.length + k) y = A ++ Z.set k y := by
  induction A with
  | nil => simp
  | cons a A ih => simp only [List.cons_append, List.length_cons, Nat.add_right_comm A.length 1 k, List.set_cons_succ, ih]
abbrev fl (l : List Fd3) : List AV := l.map encF
/-- a slice that holds the descriptors: a list, or an empty one -/
inductive IsF : AV → List Fd3 → Prop
  | sl (l : List Fd3) : IsF (.sl 3 (fl l)) l
  | e0 : IsF .e0 []
/-- a value that holds no handle and fills one cell -/
structure Im (x : AV) : Prop where
  cv : ∀ H, conv0 H x = x
  cv1 : ∀ H, conv1 H x = x
  rf : refs0 x = []
  rf1 : refs1 x = []
  sc : scal x = true
  ok : okCells x = true
  sh : ∀ k, shift0 k x = x
  ce : x.cells = [x]
  lo : Go.PI.lone x = x
  ex : ∀ H s, exp0 H x s = (x, s)
theorem IsL.im {x : AV} {l : List Int} (h : IsL x l) : Im x := by cases h <;> exact ⟨fun _ => rfl, fun _ => rfl, rfl, rfl, rfl, rfl, fun _ => rfl, rfl, rfl, fun _ _ => rfl⟩
theorem IsF.im {x : AV} {l : List Fd3} (h : IsF x l) : Im x := by cases h <;> exact ⟨fun _ => rfl, fun _ => rfl, rfl, rfl, rfl, rfl, fun _ => rfl, rfl, rfl, fun _ _ => rfl⟩
theorem IsL.ln {x : AV} {l : List Int} (h : IsL x l) : alen x = some l.length := by cases h <;> simp
theorem IsF.ln {x : AV} {l : List Fd3} (h : IsF x l) : alen x = some l.length := by cases h <;> simp
structure Px where
  r : Pr
  a : AV
  b : AV
  c : AV
  d : AV
  ha : IsL a r.sp
  hb : IsL b r.si
  hc : IsL c r.sc
  hd : IsF d r.fds
abbrev encX (x : Px) : AV := .agg [.int .i64 x.r.pid, .int .i64 x.r.ppid, .int .i64 x.r.pgid, .int .i64 x.r.sid, .int .i64 x.r.state, .int .i64 x.r.status, .bool x.r.changed, .int .i64 x.r.wake, x.a, x.b, x.c, x.d, .str x.r.cwd]
abbrev pX (l : List Px) : AV := .sl 13 (l.map encX)
@[simp high] theorem Px.a1 (x : Px) (H : List AO) : conv0 H x.a = x.a := x.ha.im.cv H
@[simp high] theorem Px.b1 (x : Px) (H : List AO) : conv0 H x.b = x.b := x.hb.im.cv H
@[simp high] theorem Px.c1 (x : Px) (H : List AO) : conv0 H x.c = x.c := x.hc.im.cv H
@[simp high] theorem Px.d1 (x : Px) (H : List AO) : conv0 H x.d = x.d := x.hd.im.cv H
@[simp high] theorem Px.a1' (x : Px) (H : List AO) : conv1 H x.a = x.a := x.ha.im.cv1 H
@[simp high] theorem Px.b1' (x : Px) (H : List AO) : conv1 H x.b = x.b := x.hb.im.cv1 H
@[simp high] theorem Px.c1' (x : Px) (H : List AO) : conv1 H x.c = x.c := x.hc.im.cv1 H
@[simp high] theorem Px.d1' (x : Px) (H : List AO) : conv1 H x.d = x.d := x.hd.im.cv1 H
@[simp high] theorem Px.a2 (x : Px) : refs0 x.a = [] := x.ha.im.rf
@[simp high] theorem Px.b2 (x : Px) : refs0 x.b = [] := x.hb.im.rf
@[simp high] theorem Px.c2 (x : Px) : refs0 x.c = [] := x.hc.im.rf
@[simp high] theorem Px.d2 (x : Px) : refs0 x.d = [] := x.hd.im.rf
@[simp high] theorem Px.a3 (x : Px) : refs1 x.a = [] := x.ha.im.rf1
@[simp high] theorem Px.b3 (x : Px) : refs1 x.b = [] := x.hb.im.rf1
@[simp high] theorem Px.c3 (x : Px) : refs1 x.c = [] := x.hc.im.rf1
@[simp high] theorem Px.d3 (x : Px) : refs1 x.d = [] := x.hd.im.rf1
@[simp high] theorem Px.a4 (x : Px) : okCells x.a = true := x.ha.im.ok
@[simp high] theorem Px.b4 (x : Px) : okCells x.b = true := x.hb.im.ok
@[simp high] theorem Px.c4 (x : Px) : okCells x.c = true := x.hc.im.ok
@[simp high] theorem Px.d4 (x : Px) : okCells x.d = true := x.hd.im.ok
@[simp high] theorem Px.a5 (x : Px) (k : Nat) : shift0 k x.a = x.a := x.ha.im.sh k
@[simp high] theorem Px.b5 (x : Px) (k : Nat) : shift0 k x.b = x.b := x.hb.im.sh k
@[simp high] theorem Px.c5 (x : Px) (k : Nat) : shift0 k x.c = x.c := x.hc.im.sh k
@[simp high] theorem Px.d5 (x : Px) (k : Nat) : shift0 k x.d = x.d := x.hd.im.sh k
@[simp high] theorem Px.a6 (x : Px) : x.a.cells = [x.a] := x.ha.im.ce
@[simp high] theorem Px.b6 (x : Px) : x.b.cells = [x.b] := x.hb.im.ce
@[simp high] theorem Px.c6 (x : Px) : x.c.cells = [x.c] := x.hc.im.ce
@[simp high] theorem Px.d6 (x : Px) : x.d.cells = [x.d] := x.hd.im.ce
@[simp high] theorem Px.a7 (x : Px) (H : List AO) (s : XS) : exp0 H x.a s = (x.a, s) := x.ha.im.ex H s
@[simp high] theorem Px.b7 (x : Px) (H : List AO) (s : XS) : exp0 H x.b s = (x.b, s) := x.hb.im.ex H s
@[simp high] theorem Px.c7 (x : Px) (H : List AO) (s : XS) : exp0 H x.c s = (x.c, s) := x.hc.im.ex H s
@[simp high] theorem Px.d7 (x : Px) (H : List AO) (s : XS) : exp0 H x.d s = (x.d, s) := x.hd.im.ex H s
@[simp high] theorem Px.a8 (x : Px) : alen x.a = some x.r.sp.length := x.ha.ln
@[simp high] theorem Px.b8 (x : Px) : alen x.b = some x.r.si.length := x.hb.ln
@[simp high] theorem Px.c8 (x : Px) : alen x.c = some x.r.sc.length := x.hc.ln
@[simp high] theorem Px.d8 (x : Px) : alen x.d = some x.r.fds.length := x.hd.ln
/-- as lists -/
def toX (r : Pr) : Px := ⟨r, il r.sp, il r.si, il r.sc, .sl 3 (fl r.fds), .il _, .il _, .il _, .sl _⟩
theorem pl_eq (l : List Pr) : pl l = pX (l.map toX) := by
  simp only [pX, List.map_map]
  rfl
/-- short enough -/
abbrev BndX (x : Px) : Prop := x.r.sp.length ≤ 1000 ∧ x.r.si.length ≤ 1000 ∧ x.r.sc.length ≤ 1000 ∧ x.r.fds.length ≤ 1000
theorem c77 {x : AV} {l : List Int} (h : IsL x l) (hl : l.length ≤ 1000000) : callW tbl 77 [x] = some (.ref 0 0 0 l.length, [.row 3 1 0 (im l)]) := by
  rw [call_ext tbl rfl]
  cases h with
  | il l => simp [tbl, cloneX]; omega
  | e0 => rfl
theorem c40 {x : AV} {l : List Fd3} (h : IsF x l) (hl : l.length ≤ 1000000) : callW tbl 40 [x] = some (.ref 0 0 0 l.length, [.row 66 3 0 (fl l)]) := by
  rw [call_ext tbl rfl]
  cases h with
  | sl l => simp [tbl, cloneX]; omega
  | e0 => rfl
theorem c88 (l : List Px) (hl : l.length ≤ 1000000) : callW tbl 88 [pX l] = some (.ref 0 0 0 l.length, [.row 30 13 0 (l.map encX)]) := by
  rw [call_ext tbl rfl]
  simp [tbl, cloneX]; omega
theorem c39 {a b c : AV} {p i q : List Int} (ha : IsL a p) (hb : IsL b i) (hc : IsL c q) (h1 : p.length ≤ 1000) (h2 : i.length ≤ 1000) (h3 : q.length ≤ 1000) :
    callW tbl 39 [.agg [a, b, c]] = some (.agg [.ref 0 0 0 p.length, .ref 1 0 0 i.length, .ref 2 0 0 q.length], [.row 3 1 0 (im p), .row 3 1 0 (im i), .row 3 1 0 (im q)]) := by
  rw [call_run tbl (f := 39) (fn := f39) rfl _ rfl]
  have e1 := c77 ha (by omega)
  have e2 := c77 hb (by omega)
  have e3 := c77 hc (by omega)
  cases ha <;> cases hb <;> cases hc <;> simp [f39, f39body, e1, e2, e3]
theorem t54 (n : Nat) (hn : n ≤ 1000000) : ∀ (q : List Px) (A : List AV) (Z : List AO), (∀ x ∈ q, BndX x) → A.length + q.length = n → run tbl (.cl [.tmp 2]) [.blk 0, .seq (f54r9.seq .ret)] (.loop [9, 8, 3] f54b8) [(9, .int .i64 A.length), (8, .int .i64 n), (3, .ref 1 0 0 n)] (.row 30 13 0 [] :: .row 30 13 0 (A ++ q.map encX) :: Z) = some (.ref 0 0 0 n, [.row 30 13 0 (A ++ q.map fun x => encP x.r)])
  | [], A, Z, _, h => by
    have h : A.length = n := by simpa using h
    rw [run_loopD _ _ f54b8_eq]
    have h2 : A.take n = A := List.take_of_length_le (by omega)
    simp [h, h2]
  | x :: q, A, Z, hb, h => by
    have hx := hb x (by simp)
    have h : A.length + (q.length + 1) = n := by simpa using h
    have hi : A.length < n := by omega
    have ih := fun Z => t54 n hn q (A ++ [encP x.r]) Z (fun y hy => hb y (by simp [hy])) (by simp; omega)
    have ws := wrapS A.length (by omega)
    have e1 := c39 x.ha x.hb x.hc hx.1 hx.2.1 hx.2.2.1
    have e2 := c40 x.hd (by omega)
    simp at ih ws
    rw [run_loopD _ _ f54b8_eq]
    simp [hi, e1, e2, ws, ih, spl]
end Go.Proofs.YtgppkhbidcgnlaaDoor
