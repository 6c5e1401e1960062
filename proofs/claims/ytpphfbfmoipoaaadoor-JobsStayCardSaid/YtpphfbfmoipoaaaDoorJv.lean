/- Jobs: what it means that a list is valid. No condition. -/
import Derived.Test.YtpphfbfmoipoaaaDoorJj
namespace Go.Proofs.YtpphfbfmoipoaaaDoor
open Go.PI
set_option maxRecDepth 100000
set_option maxHeartbeats 8000000
set_option linter.unusedSimpArgs false
theorem dupP_iff : ∀ (l S : List Int), dupP S l = false ↔ l.Nodup ∧ ∀ p ∈ l, ¬ p ∈ S
  | [], S => by simp [dupP]
  | p :: r, S => by
    have ih := dupP_iff r (p :: S)
    simp only [dupP, Bool.or_eq_false_iff, decide_eq_false_iff_not, ih, List.nodup_cons, List.mem_cons, not_or, forall_eq_or_imp]
    constructor
    · rintro ⟨h1, h2, h3⟩
      exact ⟨⟨fun h => (h3 p h).1 rfl, h2⟩, h1, fun q hq => (h3 q hq).2⟩
    · rintro ⟨⟨h1, h2⟩, h3, h4⟩
      exact ⟨h3, h2, fun q hq => ⟨fun e => h1 (e ▸ hq), h4 q hq⟩⟩
abbrev OkJ (j : Jb) : Prop := shape j = 0 ∧ j.state = stL j.stats false
theorem vl_iff : ∀ (l : List Jb) (N S : List Int), vl N S l = 0 ↔ (∀ j ∈ l, OkJ j) ∧ ((l.map (·.num)).Nodup ∧ ∀ n ∈ l.map (·.num), ¬ n ∈ N) ∧ ((l.flatMap (·.pids)).Nodup ∧ ∀ p ∈ l.flatMap (·.pids), ¬ p ∈ S)
  | [], N, S => by simp [vl]
  | j :: r, N, S => by
    have ih := vl_iff r (j.num :: N) (j.pids.reverse ++ S)
    simp only [vl]
    by_cases s0 : shape j = 0
    case neg =>
      simp only [s0, not_false_eq_true, if_true]
      constructor
      · intro h; exact absurd h (by simp)
      · rintro ⟨h, _⟩; exact absurd (h j (by simp)).1 s0
    simp only [s0, not_true_eq_false, if_false]
    by_cases hn : j.num ∈ N
    · simp only [hn, if_true]
      constructor
      · intro h; omega
      · rintro ⟨_, ⟨_, h⟩, _⟩; exact absurd hn (h _ (by simp))
    simp only [hn, if_false]
    by_cases hd : dupP S j.pids = true
    · simp only [hd, if_true]
      constructor
      · intro h; omega
      · rintro ⟨_, _, h1, h2⟩
        have : dupP S j.pids = false := (dupP_iff _ _).2 ⟨(List.nodup_append.1 (by simpa using h1)).1, fun p hp => h2 p (by simp [hp])⟩
        rw [this] at hd; cases hd
    have hd' : dupP S j.pids = false := by simpa using hd
    simp only [hd', Bool.false_eq_true, if_false]
    by_cases hs : j.state = stL j.stats false
    case neg =>
      simp only [hs, not_false_eq_true, if_true]
      constructor
      · intro h; omega
      · rintro ⟨h, _⟩; exact absurd (h j (by simp)).2 hs
    have hc : ¬ ¬ j.state = stL j.stats false := fun h => h hs
    rw [if_neg hc, ih]
    obtain ⟨d1, d2⟩ := (dupP_iff _ _).1 hd'
    constructor
    · rintro ⟨h1, ⟨h2, h3⟩, h4, h5⟩
      refine ⟨?_, ⟨?_, ?_⟩, ?_, ?_⟩
      · intro x hx
        rcases List.mem_cons.1 hx with rfl | hx
        · exact ⟨s0, hs⟩
        · exact h1 x hx
      · rw [List.map_cons, List.nodup_cons]
        exact ⟨fun h => h3 _ h (by simp), h2⟩
      · intro n hn'
        rw [List.map_cons] at hn'
        rcases List.mem_cons.1 hn' with rfl | hn'
        · exact hn
        · exact fun h => h3 n hn' (by simp [h])
      · rw [List.flatMap_cons, List.nodup_append]
        exact ⟨d1, h4, fun a ha b hb e => h5 b hb (by rw [← e]; simp [ha])⟩
      · intro p hp
        rw [List.flatMap_cons] at hp
        rcases List.mem_append.1 hp with hp | hp
        · exact d2 p hp
        · exact fun h => h5 p hp (by simp [h])
    · rintro ⟨h1, ⟨h2, h3⟩, h4, h5⟩
      rw [List.map_cons, List.nodup_cons] at h2
      rw [List.flatMap_cons, List.nodup_append] at h4
      refine ⟨fun x hx => h1 x (by simp [hx]), ⟨h2.2, ?_⟩, h4.2.1, ?_⟩
      · intro n hn' hm
        rcases List.mem_cons.1 hm with rfl | hm
        · exact h2.1 hn'
        · exact h3 n (by simp at hn' ⊢; exact .inr hn') hm
      · intro p hp hm
        rcases List.mem_append.1 hm with hm | hm
        · exact h4.2.2 p (by simpa using hm) p hp rfl
        · exact h5 p (by rw [List.flatMap_cons]; exact List.mem_append.2 (.inr hp)) hm
/-- a valid list -/
structure Ok (l : List Jb) : Prop where
  len : l.length ≤ 32
  each : ∀ j ∈ l, OkJ j
  nums : (l.map (·.num)).Nodup
  pids : (l.flatMap (·.pids)).Nodup
theorem ok_iff (l : List Jb) : vld l = 0 ↔ Ok l := by
  unfold vld
  by_cases h : 32 < l.length
  · rw [if_pos h]
    constructor
    · intro h; omega
    · intro o; have := o.len; omega
  · rw [if_neg h, vl_iff]
    constructor
    · rintro ⟨h1, ⟨h2, _⟩, h3, _⟩
      exact ⟨by omega, h1, h2, h3⟩
    · intro o
      exact ⟨o.each, ⟨o.nums, fun _ _ h => by cases h⟩, o.pids, fun _ _ h => by cases h⟩
structure Good (j : Jb) : Prop where
  n1 : 1 ≤ j.num
  n2 : j.num ≤ 32
  g : numB j.pgid = true
  ne : j.pids ≠ []
  ls : j.stats.length = j.pids.length
  tx : j.text.length ≤ 4096
  ps : ∀ p ∈ j.pids, numB p = true
  ss : ∀ n ∈ j.stats, okB n = true
theorem shape_iff (j : Jb) : shape j = 0 ↔ Good j := by
  unfold shape
  cases h1 : headB j
  · simp only [if_true]
    constructor
    · intro h; omega
    · intro g
      have : headB j = true := by
        simp [headB, g.n1, g.n2, g.g, g.ls, g.ne]
      rw [this] at h1; cases h1
  · simp [headB] at h1
    simp only [Bool.true_eq_false, if_false]
    by_cases h2 : 4096 < j.text.length
    · rw [if_pos h2]
      constructor
      · intro h; omega
      · intro g; have := g.tx; omega
    · rw [if_neg h2]
      cases h3 : j.pids.all numB
      · simp only [if_true]
        constructor
        · intro h; omega
        · intro g
          have : j.pids.all numB = true := List.all_eq_true.2 g.ps
          rw [this] at h3; cases h3
      · cases h4 : j.stats.all okB
        · simp only [if_true, Bool.true_eq_false, if_false]
          constructor
          · intro h; omega
          · intro g
            have : j.stats.all okB = true := List.all_eq_true.2 g.ss
            rw [this] at h4; cases h4
        · simp only [Bool.true_eq_false, if_false, true_iff]
          exact ⟨h1.1.1.1.1, h1.1.1.1.2, h1.1.1.2, h1.1.2, h1.2, by omega, List.all_eq_true.1 h3, List.all_eq_true.1 h4⟩
theorem okB_mx {n : Int} (h : okB n = true) : n ≤ mx := by
  simp [okB] at h
  rcases kd_cases n with e | ⟨v, e, h1, h2, h3⟩ | ⟨v, e, h1, h2, h3⟩ | ⟨v, e, h1, h2, h3⟩ | ⟨e, h3⟩
  · rcases h with ((h | h) | h) | h
    · subst h; decide
    all_goals (simp [kd, e] at h)
  all_goals (unfold mx; omega)
theorem Good.wj {j : Jb} (g : Good j) : WJ j := fun n hn => okB_mx (g.ss n hn)
theorem numB_iff {n : Int} : numB n = true ↔ 1 ≤ n ∧ n ≤ 2147483647 := by simp [numB]
theorem Ok.good {l : List Jb} (o : Ok l) {j : Jb} (hj : j ∈ l) : Good j := (shape_iff j).1 (o.each j hj).1
/-- the place of a process, and whether it has one -/
theorem memO_none {p : Int} : ∀ {l : List Jb} {k : Nat}, (∀ j ∈ l, j.stats.length = j.pids.length) → (memO p l k = none ↔ memB p l = false)
  | [], k, _ => by simp [memO, memB]
  | j :: r, k, h => by
    have ih := memO_none (p := p) (l := r) (k := k + 1) (fun x hx => h x (by simp [hx]))
    have hix : ∀ (a : List Int) (i : Nat), ixN p a i = none ↔ ¬ p ∈ a := by
      intro a
      induction a with
      | nil => intro i; simp [ixN]
      | cons x r ih =>
        intro i
        simp only [ixN]
        by_cases hx : p = x
        · simp [hx]
        · simp [hx, ih]
    simp only [memO, memB]
    cases hx : ixN p j.pids 0 with
    | none =>
      have := (hix j.pids 0).1 hx
      simp [this, ih]
    | some a =>
      have hlt := (ixN_lt hx).2
      have hl := h j (by simp)
      have hp : p ∈ j.pids := by
        by_cases hm : p ∈ j.pids
        · exact hm
        · rw [(hix j.pids 0).2 hm] at hx; cases hx
      simp [show a < j.stats.length by omega, hp]
end Go.Proofs.YtpphfbfmoipoaaaDoor
