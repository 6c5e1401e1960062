/- Exit, Change and Fork on both sides. No condition. -/
import Derived.Test.YtgppkhbidcgnlaaDoorWc
namespace Go.Proofs.YtgppkhbidcgnlaaDoor
open Go.PI
set_option maxRecDepth 100000
set_option maxHeartbeats 8000000
set_option linter.unusedSimpArgs false
theorem c69 (n : Int) (hn : n ≤ 9223372036854775807) : callW tbl 69 [.int .i64 n] = some (.tup [.int .i64 (kdv n).1, .int .i64 (kdv n).2], []) := by
  rw [call_run tbl (f := 69) (fn := f69) rfl _ rfl]
  unfold kdv
  by_cases h0 : n < 0
  · simp [f69, f69body, h0]
  · have e1 : n.tdiv 256 = n / 256 := Int.tdiv_eq_ediv_of_nonneg (by omega)
    have e2 : n.tmod 256 = n % 256 := Int.tmod_eq_emod_of_nonneg (by omega)
    by_cases h1 : 768 < n
    · rw [if_pos (.inr h1)]
      by_cases k3 : n / 256 = 3
      · have w1 : IntKind.i64.wrap (n / 256) = n / 256 := wrap64 _ (by omega) (by omega)
        simp [f69, f69body, h0, e1, e2, w1, k3, show ¬ n % 256 = 0 by omega]
      · have w1 : IntKind.i64.wrap (n / 256) = n / 256 := wrap64 _ (by omega) (by omega)
        simp [f69, f69body, h0, e1, e2, w1, k3, show ¬ n / 256 = 0 by omega, show ¬ n / 256 = 1 by omega, show ¬ n / 256 = 2 by omega]
    · have w1 : IntKind.i64.wrap (n / 256) = n / 256 := wrap64 _ (by omega) (by omega)
      rw [if_neg (by omega)]
      by_cases k0 : n / 256 = 0
      · simp [f69, f69body, h0, e1, e2, w1, k0]
      · by_cases k1 : n / 256 = 1
        · by_cases v1 : n % 256 < 1
          · simp [f69, f69body, h0, e1, e2, w1, k1, show ¬ 1 ≤ n % 256 by omega, v1]
          · by_cases v2 : 20 < n % 256
            · simp [f69, f69body, h0, e1, e2, w1, k1, show 1 ≤ n % 256 by omega, show ¬ n % 256 ≤ 20 by omega, v2]
            · simp [f69, f69body, h0, e1, e2, w1, k1, show 1 ≤ n % 256 by omega, show n % 256 ≤ 20 by omega, v1, v2]
        · by_cases k2 : n / 256 = 2
          · by_cases v1 : n % 256 < 1
            · simp [f69, f69body, h0, e1, e2, w1, k2, show ¬ 1 ≤ n % 256 by omega, v1]
            · by_cases v2 : 20 < n % 256
              · simp [f69, f69body, h0, e1, e2, w1, k2, show 1 ≤ n % 256 by omega, show ¬ n % 256 ≤ 20 by omega, v2]
              · simp [f69, f69body, h0, e1, e2, w1, k2, show 1 ≤ n % 256 by omega, show n % 256 ≤ 20 by omega, v1, v2]
          · have k3 : n / 256 = 3 := by omega
            simp [f69, f69body, h0, e1, e2, w1, k3, show n % 256 = 0 by omega]
theorem c75 : callW tbl 75 [] = some (.int .i64 768, []) := callW_of tbl (k := 20) (by kernel_rfl)
/- Change -/
def setSt (s st : Int) (x : Px) : Px := { x with r := { x.r with state := s, status := st, changed := true } }
abbrev okCh (s st : Int) : Prop := (s = 2 ∧ kd st = 2) ∨ (s = 1 ∧ st = 768)
def chg (l L : List Px) (n s st : Int) : Option (List Px) × Int :=
  if ixG (liveX n) l 0 < 0 then (none, 21) else if n = 1 then (none, 23) else if ¬ okCh s st then (none, 1) else if (atX l (ixG (liveX n) l 0)).r.state = s then (none, 25) else (some (upd L (ixG (liveX n) l 0) (setSt s st)), 0)
theorem c36x {l : List Px} (hb : BndL l) (n s st : Int) (hst : st ≤ 9223372036854775807) : callW tbl 36 [pX l, .int .i64 n, .int .i64 s, .int .i64 st] = oc2 l (chg l (l.map clX) n s st) := by
  rw [call_run tbl (f := 36) (fn := f36) rfl _ rfl]
  unfold chg okCh
  have h47 := c47x hb.len n
  have h69 := c69 st hst
  have h54 := c54x hb
  rw [show (kdv st).1 = kd st from rfl] at h69
  generalize kd st = kk at h69 ⊢
  generalize (kdv st).2 = kv at h69
  rcases ix_live (l := l) (n := n) with ⟨i1, _⟩ | ⟨k, hk, i1, _, _⟩
  · rw [i1] at h47 ⊢
    rw [if_pos (by omega)]
    by_cases s2 : s = 2
    · by_cases k2 : kk = 2 <;> simp [f36, f36body, h47, h69, s2, k2]
    · by_cases s1 : s = 1
      · by_cases t1 : st = 768
        · rw [t1] at h69; simp [f36, f36body, h47, h69, s1, t1, c75]
        · simp [f36, f36body, h47, h69, s1, t1, c75]
      · simp [f36, f36body, h47, h69, s2, s1]
  · rw [i1] at h47 ⊢
    rw [if_neg (by omega), atX_eq hk]
    have nk : ¬ (k : Int) < 0 := by omega
    have hk' : k < (l.map clX).length := by simpa using hk
    have hu := upd_at (l.map clX) k hk' (setSt s st)
    have hln := upd_len (l.map clX) k (setSt s st)
    generalize upd (l.map clX) k (setSt s st) = R at hu hln ⊢
    simp at hu hln h54
    by_cases n1 : n = 1
    · rw [if_pos n1]
      rw [n1] at h47
      by_cases s2 : s = 2
      · by_cases k2 : kk = 2 <;> simp [f36, f36body, h47, h69, s2, k2, nk, n1]
      · by_cases s1 : s = 1
        · by_cases t1 : st = 768
          · rw [t1] at h69; simp [f36, f36body, h47, h69, s1, t1, c75, nk, n1]
          · simp [f36, f36body, h47, h69, s1, t1, c75, nk, n1]
        · simp [f36, f36body, h47, h69, s2, s1, nk, n1]
    · rw [if_neg n1]
      by_cases s2 : s = 2
      · by_cases k2 : kk = 2
        · rw [if_neg (by simp [s2, k2])]
          by_cases e : l[k].r.state = s
          · rw [if_pos e]
            rw [s2] at e
            simp [f36, f36body, h47, h69, s2, k2, nk, n1, hk, eq_true e]
          · rw [if_neg e]
            rw [s2] at e
            simp [s2, setSt] at hu
            simp [f36, f36body, h47, h69, s2, k2, nk, n1, hk, e, h54, hu, hln]
        · rw [if_pos (by simp [s2, k2])]
          simp [f36, f36body, h47, h69, s2, k2, nk, n1]
      · by_cases s1 : s = 1
        · by_cases t1 : st = 768
          · rw [if_neg (by simp [s1, t1])]
            rw [t1] at h69
            by_cases e : l[k].r.state = s
            · rw [if_pos e]
              rw [s1] at e
              simp [f36, f36body, h47, h69, s1, t1, c75, nk, n1, hk, eq_true e]
            · rw [if_neg e]
              rw [s1] at e
              simp [s1, t1, setSt] at hu
              simp [f36, f36body, h47, h69, s1, t1, c75, nk, n1, hk, e, h54, hu, hln]
          · rw [if_pos (by simp [s1, t1])]
            simp [f36, f36body, h47, h69, s1, t1, c75, nk, n1]
        · rw [if_pos (by simp [s2, s1])]
          simp [f36, f36body, h47, h69, s2, s1, nk, n1]
theorem c37x {l : List Px} (hl : l.length ≤ 1000000) (hup : Up l) (n s st : Int) : callW tbl 37 [pX l, .int .i64 n, .int .i64 s, .int .i64 st] = oc2 l (chg l l n s st) := by
  rw [call_run tbl (f := 37) (fn := f37) rfl _ rfl]
  unfold chg okCh
  have h56 := c56x hl hup n
  have h74 := c74 st
  have h59 := c59x hl
  rw [show (kdv st).1 = kd st from rfl] at h74
  generalize kd st = kk at h74 ⊢
  generalize (kdv st).2 = kv at h74
  rcases ix_live (l := l) (n := n) with ⟨i1, _⟩ | ⟨k, hk, i1, _, _⟩
  · rw [i1] at h56 ⊢
    rw [if_pos (by omega)]
    simp [f37, f37body, h56]
  · rw [i1] at h56 ⊢
    rw [if_neg (by omega), atX_eq hk]
    have nk : ¬ (k : Int) < 0 := by omega
    have hu := upd_at l k hk (setSt s st)
    have hln := upd_len l k (setSt s st)
    generalize upd l k (setSt s st) = R at hu hln ⊢
    by_cases n1 : n = 1
    · rw [if_pos n1]
      rw [n1] at h56
      simp [f37, f37body, h56, nk, n1]
    · rw [if_neg n1]
      by_cases s2 : s = 2
      · by_cases k2 : kk = 2
        · rw [if_neg (by simp [s2, k2])]
          by_cases e : l[k].r.state = s
          · rw [if_pos e]
            rw [s2] at e
            simp [f37, f37body, h56, h74, s2, k2, nk, n1, hk, eq_true e]
          · rw [if_neg e]
            rw [s2] at e
            simp [s2, setSt] at hu
            simp [f37, f37body, h56, h74, s2, k2, nk, n1, hk, e, h59, hu, hln]
        · rw [if_pos (by simp [s2, k2])]
          simp [f37, f37body, h56, h74, s2, k2, nk, n1]
      · by_cases s1 : s = 1
        · by_cases t1 : st = 768
          · rw [if_neg (by simp [s1, t1])]
            rw [t1] at h74
            by_cases e : l[k].r.state = s
            · rw [if_pos e]
              rw [s1] at e
              simp [f37, f37body, h56, h74, s1, t1, c76, nk, n1, hk, eq_true e]
            · rw [if_neg e]
              rw [s1] at e
              simp [s1, t1, setSt] at hu
              simp [f37, f37body, h56, h74, s1, t1, c76, nk, n1, hk, e, h59, hu, hln]
          · rw [if_pos (by simp [s1, t1])]
            simp [f37, f37body, h56, h74, s1, t1, c76, nk, n1]
        · rw [if_pos (by simp [s2, s1])]
          simp [f37, f37body, h56, h74, s2, s1, nk, n1]
/- Exit -/
def zomb (st : Int) (x : Px) : Px := ⟨{ x.r with state := 3, status := st, changed := true, wake := 0, sp := [], si := [], sc := [], fds := [] }, .e0, .e0, .e0, .e0, .e0, .e0, .e0, .e0⟩
def rep (n : Int) (x : Px) : Px := if x.r.ppid = n then { x with r := { x.r with ppid := 1 } } else x
def exi (l L : List Px) (n st : Int) : Option (List Px) × Int :=
  if ixG (liveX n) l 0 < 0 then (none, 21) else if n = 1 then (none, 23) else if ¬ (kd st = 0 ∨ kd st = 1) then (none, 1) else (some ((upd L (ixG (liveX n) l 0) (zomb st)).map (rep n)), 0)
theorem t28x (m : Nat) (hm : m ≤ 1000000) (n : Int) (r0 : AO) (Z : List AO) : ∀ (q : List Px) (A : List AV), A.length + q.length = m → run tbl (.cl [.tmp 6, .tmp 7]) [.blk 1, .seq (f28r19.seq .ret)] (.loop [67, 66, 1, 11] f28b18) [(67, .int .i64 A.length), (66, .int .i64 m), (1, .int .i64 n), (11, .ref 1 0 0 m)] (r0 :: .row 30 13 0 (A ++ q.map encX) :: Z) = some (.tup [.ref 0 0 0 m, .int .i64 0], [.row 30 13 0 (A ++ (q.map (rep n)).map encX)])
  | [], A, h => by
    have h : A.length = m := by simpa using h
    have h2 : A.take m = A := List.take_of_length_le (by omega)
    rw [run_loopD _ _ f28b18_eq]
    simp [h, h2]
  | x :: q, A, h => by
    have h : A.length + (q.length + 1) = m := by simpa using h
    have hi : A.length < m := by omega
    have ws := wrapS A.length (by omega)
    have ih := t28x m hm n r0 Z q (A ++ [encX (rep n x)]) (by simp; omega)
    simp [-List.map_map] at ih ws
    rw [run_loopD _ _ f28b18_eq]
    by_cases e : x.r.ppid = n
    · simp [rep, e] at ih
      simp [hi, eq_true e, ws, ih, rep, e]
    · simp [rep, e] at ih
      simp [hi, e, ws, ih, rep]
theorem c28x {l : List Px} (hb : BndL l) (n st : Int) (hst : st ≤ 9223372036854775807) : callW tbl 28 [pX l, .int .i64 n, .int .i64 st] = oc2 l (exi l (l.map clX) n st) := by
  rw [call_run tbl (f := 28) (fn := f28) rfl _ rfl]
  unfold exi
  have h47 := c47x hb.len n
  have h69 := c69 st hst
  have h54 := c54x hb
  rw [show (kdv st).1 = kd st from rfl] at h69
  generalize kd st = kk at h69 ⊢
  generalize (kdv st).2 = kv at h69
  rcases ix_live (l := l) (n := n) with ⟨i1, _⟩ | ⟨k, hk, i1, _, _⟩
  · rw [i1] at h47 ⊢
    rw [if_pos (by omega)]
    simp [f28, f28body, h47, h69]
  · rw [i1] at h47 ⊢
    rw [if_neg (by omega)]
    have nk : ¬ (k : Int) < 0 := by omega
    by_cases n1 : n = 1
    · rw [if_pos n1]
      rw [n1] at h47
      simp [f28, f28body, h47, h69, nk, n1]
    · rw [if_neg n1]
      by_cases kc : kk = 0 ∨ kk = 1
      · rw [if_neg (fun h => h kc)]
        have hk' : k < (l.map clX).length := by simpa using hk
        have hu := upd_at (l.map clX) k hk' (zomb st)
        have hln : (upd (l.map clX) k (zomb st)).length = l.length := by rw [upd_len]; simp
        have ht := t28x l.length hb.len n (.row 30 13 0 []) [] (upd (l.map clX) k (zomb st)) [] (by simp [hln])
        generalize upd (l.map clX) k (zomb st) = R at hu hln ht ⊢
        simp only [List.nil_append] at ht
        rw [hu] at ht
        simp [zomb] at ht h54
        rcases kc with kc | kc <;> simp [f28, f28body, h47, h69, nk, n1, kc, h54, hk, ht, hln]
      · rw [if_pos kc]
        have k0 : ¬ kk = 0 := fun h => kc (.inl h)
        have k1 : ¬ kk = 1 := fun h => kc (.inr h)
        simp [f28, f28body, h47, h69, nk, n1, k0, k1]
theorem t35x (m : Nat) (hm : m ≤ 1000000) (n : Int) (r0 : AO) (Z : List AO) : ∀ (q : List Px) (A : List AV), A.length + q.length = m → run tbl (.cl [.tmp 6, .tmp 7]) [.blk 0, .seq (f35r19.seq .ret)] (.loop [13, 1, 11] f35b18) [(13, .int .i64 A.length), (1, .int .i64 n), (11, .ref 1 0 0 m)] (r0 :: .row 30 13 0 (A ++ q.map encX) :: Z) = some (.tup [.ref 0 0 0 m, .int .i64 0], [.row 30 13 0 (A ++ (q.map (rep n)).map encX)])
  | [], A, h => by
    have h : A.length = m := by simpa using h
    have h2 : A.take m = A := List.take_of_length_le (by omega)
    rw [run_loopD _ _ f35b18_eq]
    simp [h, h2]
  | x :: q, A, h => by
    have h : A.length + (q.length + 1) = m := by simpa using h
    have hi : A.length < m := by omega
    have ws := wrapS A.length (by omega)
    have ih := t35x m hm n r0 Z q (A ++ [encX (rep n x)]) (by simp; omega)
    simp [-List.map_map] at ih ws
    rw [run_loopD _ _ f35b18_eq]
    by_cases e : x.r.ppid = n
    · simp [rep, e] at ih
      simp [hi, eq_true e, ws, ih, rep, e]
    · simp [rep, e] at ih
      simp [hi, e, ws, ih, rep]
theorem c35x {l : List Px} (hl : l.length ≤ 1000000) (hup : Up l) (n st : Int) : callW tbl 35 [pX l, .int .i64 n, .int .i64 st] = oc2 l (exi l l n st) := by
  rw [call_run tbl (f := 35) (fn := f35) rfl _ rfl]
  unfold exi
  have h56 := c56x hl hup n
  have h74 := c74 st
  have h59 := c59x hl
  rw [show (kdv st).1 = kd st from rfl] at h74
  generalize kd st = kk at h74 ⊢
  generalize (kdv st).2 = kv at h74
  rcases ix_live (l := l) (n := n) with ⟨i1, _⟩ | ⟨k, hk, i1, _, _⟩
  · rw [i1] at h56 ⊢
    rw [if_pos (by omega)]
    simp [f35, f35body, h56]
  · rw [i1] at h56 ⊢
    rw [if_neg (by omega)]
    have nk : ¬ (k : Int) < 0 := by omega
    by_cases n1 : n = 1
    · rw [if_pos n1]
      rw [n1] at h56
      simp [f35, f35body, h56, nk, n1]
    · rw [if_neg n1]
      by_cases kc : kk = 0 ∨ kk = 1
      · rw [if_neg (fun h => h kc)]
        have hu := upd_at l k hk (zomb st)
        have hln : (upd l k (zomb st)).length = l.length := by rw [upd_len]
        have ht := fun Z => t35x l.length hl n (.row 30 13 0 []) Z (upd l k (zomb st)) [] (by simp [hln])
        generalize upd l k (zomb st) = R at hu hln ht ⊢
        simp only [List.nil_append] at ht
        rw [hu] at ht
        simp [zomb] at ht
        rcases kc with kc | kc <;> simp [f35, f35body, h56, h74, nk, n1, kc, h59, hk, ht, hln]
      · rw [if_pos kc]
        have k0 : ¬ kk = 0 := fun h => kc (.inl h)
        have k1 : ¬ kk = 1 := fun h => kc (.inr h)
        simp [f35, f35body, h56, h74, nk, n1, k0, k1]
end Go.Proofs.YtgppkhbidcgnlaaDoor
