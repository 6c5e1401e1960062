/- Lists of processes whose parts may be nil: the reference's find, lives, copied; clone; Session on both sides; Same. No condition. -/
import Derived.Test.YtgppkhbidcgnlaaDoorPg
namespace Go.Proofs.YtgppkhbidcgnlaaDoor
open Go.PI
set_option maxRecDepth 100000
set_option maxHeartbeats 8000000
set_option linter.unusedSimpArgs false
theorem ixG_at {α : Type} {p : α → Bool} {l : List α} {k : Nat} (hk : k < l.length) (h1 : p l[k] = true) (h2 : ∀ j, (hj : j < k) → p l[j] = false) : ixG p l 0 = k := by
  rcases ixG_spec p l 0 with ⟨_, e2⟩ | ⟨m, hm, e1, e2, e3⟩
  · rw [e2 _ (List.getElem_mem hk)] at h1; cases h1
  · rw [e1, Nat.zero_add]
    rcases Nat.lt_trichotomy m k with c | c | c
    · rw [h2 m c] at e3; cases e3
    · rw [c]
    · have : p l[k] = false := e2 _ (by rw [List.mem_take_iff_getElem]; exact ⟨k, by omega, rfl⟩)
      rw [this] at h1; cases h1
theorem ixG_none {α : Type} {p : α → Bool} {l : List α} (h : ∀ x ∈ l, p x = false) : ixG p l 0 = -1 := by
  rcases ixG_spec p l 0 with ⟨e, _⟩ | ⟨m, hm, _, _, e3⟩
  · exact e
  · rw [h _ (List.getElem_mem hm)] at e3; cases e3
/-- the numbers go up -/
abbrev Up (l : List Px) : Prop := (l.map (·.r)).Pairwise (fun a b => a.pid < b.pid)
theorem Up.lt {l : List Px} (h : Up l) {i j : Nat} (hi : i < l.length) (hj : j < l.length) (e : i < j) : l[i].r.pid < l[j].r.pid := by
  have := List.pairwise_iff_getElem.1 h i j (by simpa using hi) (by simpa using hj) e
  simpa using this
theorem Up.inj {l : List Px} (h : Up l) {i j : Nat} (hi : i < l.length) (hj : j < l.length) (e : l[i].r.pid = l[j].r.pid) : i = j := by
  rcases Nat.lt_trichotomy i j with c | c | c
  · have := h.lt hi hj c; omega
  · exact c
  · have := h.lt hj hi c; omega
abbrev pidX (n : Int) (x : Px) : Bool := decide (x.r.pid = n)
theorem t41x {l : List Px} (hl : l.length ≤ 1000000) (n : Int) : ∀ (k i : Nat), i + k = l.length → run tbl (.cl [.tmp 4]) [.blk 0, .seq (f41r7.seq .ret)] (.loop [0, 1, 5] f41b6) [(0, pX l), (1, .int .i64 n), (5, .int .i64 i)] [] = some (.int .i64 (ixG (pidX n) (l.drop i) i), [])
  | 0, i, h => by
    rw [run_loopD _ _ f41b6_eq]
    simp [show ¬ i < l.length by omega, show l.drop i = [] from List.drop_eq_nil_of_le (by omega), ixG]
  | k + 1, i, h => by
    have hi : i < l.length := by omega
    have ih := t41x hl n k (i + 1) (by omega)
    rw [Int.natCast_succ] at ih
    rw [run_loopD _ _ f41b6_eq, ixG_step hi]
    by_cases e : l[i].r.pid = n
    · simp [hi, eq_true e]
    · simp [hi, e, wrapS i (by omega), ih]
theorem c41x {l : List Px} (hl : l.length ≤ 1000000) (n : Int) : callW tbl 41 [pX l, .int .i64 n] = some (.int .i64 (ixG (pidX n) l 0), []) := by
  rw [call_run tbl (f := 41) (fn := f41) rfl _ rfl]
  have h := t41x hl n l.length 0 (by omega)
  simp at h
  simp [f41, f41body, h]
theorem c56x {l : List Px} (hl : l.length ≤ 1000000) (hu : Up l) (n : Int) : callW tbl 56 [pX l, .int .i64 n] = some (.int .i64 (ixG (liveX n) l 0), []) := by
  rw [call_run tbl (f := 56) (fn := f56) rfl _ rfl]
  have h := c41x hl n
  rcases ixG_spec (pidX n) l 0 with ⟨e1, e2⟩ | ⟨k, hk, e1, e2, e3⟩
  · rw [ixG_none (p := liveX n) (fun x hx => by have := e2 x hx; simp [pidX] at this; simp [liveX, this])]
    rw [e1] at h
    simp [f56, f56body, h]
  · rw [Nat.zero_add] at e1
    rw [e1] at h
    simp [pidX] at e3
    by_cases s3 : l[k].r.state = 3
    · rw [ixG_none (p := liveX n) (fun x hx => by
        obtain ⟨j, hj, rfl⟩ := List.getElem_of_mem hx
        by_cases c : l[j].r.pid = n
        · obtain rfl := hu.inj hj hk (by rw [c, e3])
          simp [liveX, s3]
        · simp [liveX, c])]
      simp [f56, f56body, h, hk, eq_true s3]
    · rw [ixG_at (p := liveX n) hk (by simp [liveX, e3, s3]) (fun j hj => by
        have := hu.lt (by omega) hk hj
        simp [liveX]; omega)]
      simp [f56, f56body, h, hk, s3]
/- copied -/
theorem t59x {l : List Px} (hl : l.length ≤ 1000000) (A : AO) : ∀ (k i g : Nat) (Z : List AO), i + k = l.length → run tbl (.cl [.tmp 2]) [.blk 0, .seq (f59r7.seq .ret)] (.loop [3, 4, 0] f59b6) [(3, .ref 1 g 0 i), (4, .int .i64 i), (0, pX l)] (A :: .row 30 13 g ((l.take i).map encX) :: Z) = some (.ref 0 0 0 l.length, [.row 30 13 0 (l.map encX)])
  | 0, i, g, Z, h => by
    obtain rfl : i = l.length := by omega
    rw [run_loopD _ _ f59b6_eq]
    simp
  | k + 1, i, g, Z, h => by
    have hi : i < l.length := by omega
    have ih := t59x hl A k (i + 1) (g + 1) Z (by omega)
    rw [List.take_succ_eq_append_getElem hi, Int.natCast_succ, List.map_append] at ih
    have hT : ((l.take i).map encX).length = i := by simp; omega
    generalize (l.take i).map encX = T at ih hT ⊢
    simp at ih
    rw [run_loopD _ _ f59b6_eq]
    simp [hi, hT, wrapS i (by omega), ih, show i ≤ 1073741823 by omega]
theorem c59x {l : List Px} (hl : l.length ≤ 1000000) : callW tbl 59 [pX l] = some (.ref 0 0 0 l.length, [.row 30 13 0 (l.map encX)]) := by
  rw [call_run tbl (f := 59) (fn := f59) rfl _ rfl]
  have h := t59x hl (.row 30 13 0 []) l.length 0 0 [] (by omega)
  simp at h
  simp [f59, f59body, h]
/- clone -/
abbrev BndL (l : List Px) : Prop := l.length ≤ 1000 ∧ ∀ x ∈ l, BndX x
theorem BndL.len {l : List Px} (h : BndL l) : l.length ≤ 1000000 := by have := h.1; omega
abbrev clX (x : Px) : Px := toX x.r
theorem c54x {l : List Px} (hb : BndL l) : callW tbl 54 [pX l] = some (.ref 0 0 0 l.length, [.row 30 13 0 ((l.map clX).map encX)]) := by
  rw [call_run tbl (f := 54) (fn := f54) rfl _ rfl]
  have h := t54 l.length hb.len l [] [] hb.2 (by simp)
  have h88 := c88 l hb.len
  have e : (l.map clX).map encX = l.map fun x => encP x.r := by rw [List.map_map]; rfl
  rw [e]
  simp at h
  simp [f54, f54body, h88, h]
/- Session -/
/-- what comes back: the list itself with an error, or a new list -/
abbrev oc2 (l : List Px) : Option (List Px) × Int → Option (AV × List AO)
  | (none, e) => some (.tup [pX l, .int .i64 e], [])
  | (some R, e) => some (.tup [.ref 0 0 0 R.length, .int .i64 e], [.row 30 13 0 (R.map encX)])
def setSes (n : Int) (x : Px) : Px := { x with r := { x.r with pgid := n, sid := n } }
def upd (l : List Px) (i : Int) (f : Px → Px) : List Px := match l[i.toNat]? with | some x => l.set i.toNat (f x) | none => l
@[simp] theorem take_len_set {α β : Type} (l : List α) (f : α → β) (k : Nat) (a : β) : ((l.map f).set k a).take l.length = (l.map f).set k a := List.take_of_length_le (by simp)
theorem upd_at (l : List Px) (k : Nat) (hk : k < l.length) (f : Px → Px) : (upd l k f).map encX = (l.map encX).set k (encX (f l[k])) := by
  unfold upd
  rw [show ((k : Int)).toNat = k by omega, List.getElem?_eq_getElem hk]
  simp [List.map_set]
theorem upd_len (l : List Px) (i : Int) (f : Px → Px) : (upd l i f).length = l.length := by unfold upd; split <;> simp
def sesP (l : List Px) (n : Int) : Option (List Px) × Int := if ixG (liveX n) l 0 < 0 then (none, 21) else if (l.any fun x => decide (x.r.pgid = n)) = true then (none, 23) else (some (upd (l.map clX) (ixG (liveX n) l 0) (setSes n)), 0)
theorem cv64 (n : Int) : Looks 64 [.bptr 0 0] (fun x => decide (x.r.pgid = n)) [.box 3 1 (.int .i64 n)] := by
  intro x Z
  refine ⟨[.box 30 13 (encX x)], ?_⟩
  rw [callV_run tbl (f := 64) (fn := f64) rfl _ _ rfl]
  by_cases h1 : x.r.pgid = n
  · simp [f64, f64body, eq_true h1]
  · simp [f64, f64body, h1]
theorem c25x {l : List Px} (hb : BndL l) (n : Int) : callW tbl 25 [pX l, .int .i64 n] = oc2 l (sesP l n) := by
  rw [call_run tbl (f := 25) (fn := f25) rfl _ rfl]
  unfold sesP
  have h47 := c47x hb.len n
  rcases ixG_spec (liveX n) l 0 with ⟨e1, _⟩ | ⟨k, hk, e1, _, _⟩
  · rw [e1] at h47 ⊢
    rw [if_pos (by omega)]
    simp [f25, f25body, h47]
  · rw [Nat.zero_add] at e1
    rw [e1] at h47 ⊢
    rw [if_neg (by omega)]
    obtain ⟨Z', h63⟩ := cv63x hb.len (cv64 n) (.sl l) [.row 30 13 0 []]
    cases ha : l.any fun x => decide (x.r.pgid = n)
    · rw [ha] at h63
      rw [if_neg (by simp)]
      have h54 := c54x hb
      have hk' : k < (l.map clX).length := by simpa using hk
      have hu := upd_at (l.map clX) k hk' (setSes n)
      have hln := upd_len (l.map clX) k (setSes n)
      generalize upd (l.map clX) k (setSes n) = R at hu hln ⊢
      simp at h63 hln hu h54
      simp [f25, f25body, h47, h63, h54, hk, hln, hu, setSes, show ¬ (k : Int) < 0 by omega]
    · rw [ha] at h63
      rw [if_pos rfl]
      simp at h63
      simp [f25, f25body, h47, h63, hk, show ¬ (k : Int) < 0 by omega]
end Go.Proofs.YtgppkhbidcgnlaaDoor
