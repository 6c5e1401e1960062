/- FdtabStays: Put keeps a valid table valid and all else as it was; Drop undoes it. No condition. -/
import Derived.Test.YtiogndooaihgkaaChg
namespace Go.Proofs.Ytiogndooaihgkaa
open Go.PI
set_option maxRecDepth 100000
set_option maxHeartbeats 8000000
set_option linter.unusedSimpArgs false
abbrev tail8 : IC := f8r17.seq (f8r18.seq (f8r19.seq (f8r20.seq .ret)))
theorem t8 (l : List Fd) (hl : l.length ≤ 60) (x : Fd) (R : Option (AV × List AO))
    (hk : ∀ e rest, e.get 0 = .sl 3 (l.map encF) → e.get 5 = .ref 1 0 0 (putL l x).length → e.get 3 = .bptr 0 0 → run tbl (.cl [.tmp 4]) [] tail8 e (.box 26 3 (encF x) :: .fz 3 0 ((putL l x).map encF) :: rest) = R) :
    ∀ (k : Nat) (n : Int) (rest : List AO), n + k = 33 → -1 ≤ n → run tbl (.cl [.tmp 4]) [.blk 0, .seq tail8] (.loop [0, 5, 3, 9] f8b16) [(0, .sl 3 (l.map encF)), (5, .ref 1 0 0 (putL l x).length), (3, .bptr 0 0), (9, .int .i64 n)] (.box 26 3 (encF x) :: .fz 3 0 ((putL l x).map encF) :: rest) = R
  | 0, n, rest, h, hn => by
    rw [run_loopD _ _ f8b16_eq]
    simp [-f8r17_run, show ¬ n ≤ 32 by omega]
    rw [← run_seq]
    exact hk _ _ (by simp) (by simp) (by simp)
  | k + 1, n, rest, h, hn => by
    have hp := putL_length x l
    have ih := fun r => t8 l hl x R hk k (n + 1) r (by omega) (by omega)
    have h1 := c11 l (by omega) n
    have h2 := c11 (putL l x) (by omega) n
    have w := wrap64 (n + 1) (by omega) (by omega)
    rw [getR_put] at h2
    rw [run_loopD _ _ f8b16_eq]
    by_cases e : n = x.num
    · simp [show n ≤ 32 by omega, h1, h2, eq_true e, w, ih]
    · rw [if_neg e] at h2
      simp [show n ≤ 32 by omega, h1, h2, e, w, ih]
theorem c8 (l : List Fd) (x : Fd) : callW tbl 8 [.sl 3 (l.map encF), encF x] = some (.bool true, []) := by
  rw [call_run tbl (f := 8) (fn := f8) rfl _ rfl]
  have h9 := c9 (l.map encF)
  simp at h9
  by_cases hs : l.length ≤ 60
  · have h16 := c16 l (by omega)
    by_cases hv : vf l l.length 0 = 0
    · have ho := ok_of_vf hv
      have h24 := c24 l hs x
      have hp := putL_length x l
      by_cases hx : chk x = 0
      · rw [if_pos hx] at h24
        have hop := ok_putL hx ho
        have hxr : 0 ≤ x.num ∧ x.num < 32 := by
          unfold chk at hx
          split at hx
          · omega
          · omega
        have h11 := c11 (putL l x) (by omega) x.num
        rw [getR_put, if_pos rfl] at h11
        have h15 := c15 (putL l x) (by omega)
        rw [vf_of_ok hop] at h15
        have h26 := c26 (putL l x) (by omega) hop x.num
        rw [getR_put, if_pos rfl, if_pos rfl] at h26
        have h11l := c11 l (by omega) x.num
        have h13 := c13 l (by omega) x.num
        have hd := dl_length (putL l x) x.num (putL l x).length
        have h15d := c15 (dl (putL l x) x.num (putL l x).length) (by omega)
        rw [vf_of_ok (ok_dl hop x.num)] at h15d
        have hf := fr_put l hxr
        have sl := c30 l (by omega)
        have ht := fun r => t8 l hs x (some (.bool true, [])) (fun e rest e0 e5 e3 => by
          by_cases hg : (getR l x.num).2 = true
          · rw [hg] at hf
            simp at hf
            cases hb : (fr2 l x.num 32 0).2
            · simp [e0, e5, e3, h26, h11l, h13, h15d, hg, hb, c10]
            · simp [e0, e5, e3, h26, h11l, h13, h15d, hg, hb, hf hb, c10]
          · have hq := dl_put ho (by simpa using hg)
            rw [← dl_all] at hq
            rw [hq] at h26 h15d
            simp at hg
            rw [hg] at hf
            simp at hf
            simp [e0, e5, e3, h26, h11l, h13, h15d, hg, hf.1, hf.2, sl, c10]) 34 (-1) r (by omega) (by omega)
        simp [f8, f8body, h9, hs, h16, hv, h24, h11, h15, ht]
      · rw [if_neg hx] at h24
        have sl := c30 l (by omega)
        simp [f8, f8body, h9, hs, h16, hv, h24, hx, sl, c10]
    · simp [f8, f8body, h9, hs, h16, hv, c10]
  · simp [f8, f8body, h9, hs, c10]
end Go.Proofs.Ytiogndooaihgkaa
