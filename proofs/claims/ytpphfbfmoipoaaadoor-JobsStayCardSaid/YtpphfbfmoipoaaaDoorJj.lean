/- Jobs: Valid on both sides is the same function; the law JobsValid; when a list is accepted. No condition. -/
import Derived.Test.YtpphfbfmoipoaaaDoorJi
namespace Go.Proofs.YtpphfbfmoipoaaaDoor
open Go.PI
set_option maxRecDepth 100000
set_option maxHeartbeats 8000000
set_option linter.unusedSimpArgs false
theorem rst_stL : ∀ (l : List Int) (s : Bool), l.all okB = true → rst l (!s) s = stL l s
  | [], s, _ => by cases s <;> rfl
  | n :: r, s, h => by
    simp only [List.all_cons, Bool.and_eq_true] at h
    have ih := fun s => rst_stL r s h.2
    have hn := h.1
    simp only [okB, Bool.or_eq_true, decide_eq_true_eq] at hn
    simp only [rst, stL]
    by_cases h1 : n = -1
    · subst h1
      rw [if_pos rfl, if_neg (by decide), if_neg (by decide)]
    · rw [if_neg h1]
      simp only [endB]
      generalize kd n = q at hn ⊢
      have h3 : q = 0 ∨ q = 1 ∨ q = 2 := by rcases hn with ((hn | hn) | hn) | hn <;> simp_all
      rcases h3 with rfl | rfl | rfl
      · have := ih s; simp [this]
      · have := ih s; simp [this]
      · have := ih true; simp at this; simp [this]
theorem good_iff : ∀ (p s : List Int), s.length = p.length → (goodB p s = (p.all numB && s.all okB))
  | [], [], _ => rfl
  | x :: p, y :: s, h => by
    have ih := good_iff p s (by simpa using h)
    simp only [goodB, ih, List.all_cons]
    cases numB x <;> cases okB y <;> cases p.all numB <;> rfl
  | [], _ :: _, h => by simp at h
  | _ :: _, [], h => by simp at h
theorem nm_iff (n : Int) : ∀ (b : List Jb) (i : Nat), nmN n b i = none ↔ ∀ j ∈ b, ¬ j.num = n
  | [], i => by simp [nmN]
  | j :: r, i => by
    simp only [nmN, List.mem_cons, forall_eq_or_imp]
    by_cases h : j.num = n
    · simp [h]
    · simp [h, nm_iff n r (i + 1)]
theorem mem_iff (p : Int) : ∀ (b : List Jb), memB p b = true ↔ ∃ j ∈ b, p ∈ j.pids
  | [] => by simp [memB]
  | j :: r => by simp [memB, mem_iff p r]
theorem dup_eq (b : List Jb) (l : List Int) : ∀ (k i : Nat) (S : List Int), i + k = l.length → (∀ p, p ∈ S ↔ memB p b = true ∨ p ∈ l.take i) → dupP S (l.drop i) = dupR b l k i
  | 0, i, S, h, hS => by simp [show i = l.length by omega, dupP, dupR]
  | k + 1, i, S, h, hS => by
    have hi : i < l.length := by omega
    have hg : l[i]? = some l[i] := List.getElem?_eq_getElem hi
    have ih := dup_eq b l k (i + 1) (l[i] :: S) (by omega) (fun p => by
      rw [List.take_succ_eq_append_getElem hi]
      simp only [List.mem_cons, List.mem_append, List.mem_singleton, hS p, List.not_mem_nil, or_false]
      constructor
      · rintro (h | h | h)
        · exact .inr (.inr h)
        · exact .inl h
        · exact .inr (.inl h)
      · rintro (h | h | h)
        · exact .inr (.inl h)
        · exact .inr (.inr h)
        · exact .inl h)
    rw [drop_step hi]
    simp only [dupP, dupR, hg, ih]
    congr 1
    have := hS l[i]
    by_cases hm : l[i] ∈ S
    · rcases this.1 hm with h | h <;> simp [hm, h]
    · have h1 : memB l[i] b = false := by cases hq : memB l[i] b; rfl; exact absurd (this.2 (.inl hq)) hm
      have h2 : ¬ l[i] ∈ l.take i := fun h => hm (this.2 (.inr h))
      simp [hm, h1, h2]
theorem one_eq (b : List Jb) (j : Jb) (N S : List Int) (hN : ∀ n, n ∈ N ↔ ∃ x ∈ b, x.num = n) (hS : ∀ p, p ∈ S ↔ memB p b = true) :
    oneR b j = if ¬ shape j = 0 then shape j else if j.num ∈ N then 9 else if dupP S j.pids = true then 9 else if ¬ j.state = stL j.stats false then 25 else 0 := by
  unfold oneR shape
  cases h1 : headB j
  · simp
  · by_cases h2 : 4096 < j.text.length
    · simp [h2]
    · have hl : j.stats.length = j.pids.length := by simp [headB] at h1; exact h1.2
      rw [good_iff _ _ hl]
      have hd := dup_eq b j.pids j.pids.length 0 S (by omega) (fun p => by simp [hS])
      rw [List.drop_zero] at hd
      rw [← hd]
      have hn : (¬ nmN j.num b 0 = none) ↔ j.num ∈ N := by
        rw [nm_iff, hN]
        constructor
        · intro h
          by_cases hx : ∃ x ∈ b, x.num = j.num
          · exact hx
          · exact absurd (fun x hx' he => hx ⟨x, hx', he⟩) h
        · rintro ⟨x, hx, he⟩ h
          exact h x hx he
      cases h3 : j.pids.all numB
      · simp [h2]
      · cases h4 : j.stats.all okB
        · simp [h2]
        · have h5 := rst_stL j.stats false h4
          rw [Bool.not_false] at h5
          rw [h5]
          simp only [h2, if_false, Bool.true_and, Bool.false_eq_true]
          by_cases hq : j.num ∈ N
          · simp [hq, hn.2 hq]
          · have : nmN j.num b 0 = none := by
              by_cases hz : nmN j.num b 0 = none
              · exact hz
              · exact absurd (hn.1 hz) hq
            simp [hq, this]
theorem v_eq (l : List Jb) : ∀ (k i : Nat) (N S : List Int), i + k = l.length → (∀ n, n ∈ N ↔ ∃ x ∈ l.take i, x.num = n) → (∀ p, p ∈ S ↔ memB p (l.take i) = true) → vl N S (l.drop i) = vr l k i
  | 0, i, N, S, h, _, _ => by simp [show i = l.length by omega, vl, vr]
  | k + 1, i, N, S, h, hN, hS => by
    have hi : i < l.length := by omega
    have hg : l[i]? = some l[i] := List.getElem?_eq_getElem hi
    have ih := v_eq l k (i + 1) (l[i].num :: N) (l[i].pids.reverse ++ S) (by omega) (fun n => by
      rw [List.take_succ_eq_append_getElem hi]
      simp only [List.mem_cons, hN n, List.mem_append, List.not_mem_nil, or_false]
      constructor
      · rintro (h | ⟨x, hx, he⟩)
        · exact ⟨l[i], .inr rfl, h.symm⟩
        · exact ⟨x, .inl hx, he⟩
      · rintro ⟨x, hx | hx, he⟩
        · exact .inr ⟨x, hx, he⟩
        · subst hx; exact .inl he.symm) (fun p => by
      rw [List.take_succ_eq_append_getElem hi, mem_iff]
      simp only [List.mem_append, List.mem_reverse, hS p, mem_iff, List.mem_cons, List.not_mem_nil, or_false]
      constructor
      · rintro (h | ⟨x, hx, he⟩)
        · exact ⟨l[i], .inr rfl, h⟩
        · exact ⟨x, .inl hx, he⟩
      · rintro ⟨x, hx | hx, he⟩
        · exact .inr ⟨x, hx, he⟩
        · subst hx; exact .inl he)
    rw [drop_step hi]
    simp only [vl, vr, hg]
    rw [one_eq (l.take i) l[i] N S hN hS, ih]
    by_cases s0 : shape l[i] = 0
    · simp only [s0]
      by_cases h1 : l[i].num ∈ N
      · simp [h1]
      · by_cases h2 : dupP S l[i].pids = true
        · simp [h1, h2]
        · by_cases h3 : l[i].state = stL l[i].stats false
          · simp [h1, h2, h3]
          · simp [h1, h2, h3]
    · simp [s0]
/-- Valid, on both sides -/
def vld (l : List Jb) : Int := if 32 < l.length then 4 else vl [] [] l
theorem c29' (l : List Jb) (hl : l.length ≤ 1000000) (hb : ∀ j ∈ l, BJ j) (hw : ∀ j ∈ l, WJ j) : callW tbl 29 [jl l] = some (.int .i64 (vld l), []) := c29 l hl hb hw
theorem c30' (l : List Jb) (hl : l.length ≤ 1000000) (hb : ∀ j ∈ l, BJ j) : callW tbl 30 [jl l] = some (.int .i64 (vld l), []) := by
  rw [c30 l hl hb]
  have := v_eq l l.length 0 [] [] (by omega) (by simp) (by simp [memB])
  rw [List.drop_zero] at this
  rw [← this]; rfl
theorem small_bnd {l : List Jb} (h : smL l 40 0 0 = true) : l.length ≤ 40 ∧ ∀ j ∈ l, j.pids.length ≤ 40 ∧ j.stats.length ≤ 40 ∧ j.text.length ≤ 5000 := by
  refine ⟨smL_len h, fun j hj => ?_⟩
  obtain ⟨i, hi, he⟩ := List.getElem_of_mem hj
  have := (smL_all (by omega) h).2 i (by omega) j (by rw [List.getElem?_eq_getElem hi, he])
  have h1 := this.1
  simp [smJ] at h1
  exact ⟨h1.1.1, h1.1.2, h1.2⟩
theorem small_bj {l : List Jb} (h : smL l 40 0 0 = true) : l.length ≤ 1000000 ∧ ∀ j ∈ l, BJ j := by
  obtain ⟨h1, h2⟩ := small_bnd h
  exact ⟨by omega, fun j hj => ⟨by have := (h2 j hj).1; omega, by have := (h2 j hj).2.1; omega⟩⟩
theorem c9 (l : List Jb) : callW tbl 9 [jl l] = some (.bool (smL l 40 0 0 && decide (vld l = 0)), []) := by
  rw [call_run tbl (f := 9) (fn := f9) rfl _ rfl]
  have e1 := c26 l
  cases h : smL l 40 0 0
  · rw [h] at e1
    simp [f9, f9body, e1]
  · rw [h] at e1
    obtain ⟨h1, h2⟩ := small_bj h
    have e2 := c30' l h1 h2
    by_cases h3 : vld l = 0
    · rw [h3] at e2
      simp [f9, f9body, e1, e2, h3]
    · simp [f9, f9body, e1, e2, h3]
theorem t7 (l : List Jb) (hl : l.length ≤ 1000000) (hb : ∀ j ∈ l, BJ j) (hw : ∀ j ∈ l, WJ j) : ∀ (k i : Nat), i + k = l.length → run tbl (.cl [.tmp 2]) [.blk 0, .seq (f7r9.seq .ret)] (.loop [0, 3] f7b8) [(0, jl l), (3, .int .i64 i)] [] = some (.bool true, [])
  | 0, i, h => by
    have e1 := c29' l hl hb hw
    have e2 := c30' l hl hb
    rw [run_loopD _ _ f7b8_eq]
    simp [show i = l.length by omega, e1, e2, c10]
  | k + 1, i, h => by
    have hi : i < l.length := by omega
    have ih := t7 l hl hb hw k (i + 1) (by omega)
    rw [Int.natCast_succ] at ih
    have ws := wrapS i (by omega)
    have e1 := c27 l[i] (hb _ (List.getElem_mem hi)) (hw _ (List.getElem_mem hi))
    have e2 := c28 l[i] (hb _ (List.getElem_mem hi))
    rw [run_loopD _ _ f7b8_eq]
    simp [hi, e1, e2, ws, ih]
theorem c7 (l : List Jb) (hw : ∀ j ∈ l, WJ j) : callW tbl 7 [jl l] = some (.bool true, []) := by
  rw [call_run tbl (f := 7) (fn := f7) rfl _ rfl]
  have e1 := c26 l
  cases h : smL l 40 0 0
  · rw [h] at e1
    simp [f7, f7body, e1, c10]
  · rw [h] at e1
    obtain ⟨h1, h2⟩ := small_bj h
    have ht := t7 l h1 h2 hw l.length 0 (by omega)
    simp at ht
    simp [f7, f7body, e1, ht]
end Go.Proofs.YtpphfbfmoipoaaaDoor
