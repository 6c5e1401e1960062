/- slices.Insert of one number into a row of the frame, by the library's contracts. No condition. -/
import Derived.Test.YtlkfejigeeddaaaDoorPi27
import Derived.Shelf.Spec.SlicesInsertGrow
import Derived.Laws.Rows
namespace Go.PI
open Go.RowKit Go.Shelf Go.Proofs

theorem setCells_row (b : Nat) (T : TypeId) : ∀ (vs : List Value) (o : Nat) (cur : Array Value) (w : World), w.heap[b]? = some (.cells cur T (0, 0)) → o + vs.length ≤ cur.size →
    (w.setCells b o vs).heap[b]? = some (.cells (spl cur.toList o vs).toArray T (0, 0)) ∧ w.grownBy (w.setCells b o vs) (some b) ∧ (w.setCells b o vs).heap.size = w.heap.size
  | [], o, cur, w, h, _ => by
    refine ⟨?_, ⟨rfl, rfl, rfl, Nat.le_refl _, fun _ _ _ => rfl⟩, rfl⟩
    show w.heap[b]? = _
    rw [h]
    simp [spl]
  | v :: r, o, cur, w, h, hl => by
    simp only [List.length_cons] at hl
    have h1 := Go.heap_setCell_same w b o cur T v h
    obtain ⟨h2, h3, h4⟩ := setCells_row b T r (o + 1) (cur.setIfInBounds o v) (w.setCell ⟨b, o, none⟩ v) h1 (by simp; omega)
    have hsz : (w.setCell ⟨b, o, none⟩ v).heap.size = w.heap.size := by simp [World.setCell]
    refine ⟨?_, ⟨h3.os, h3.tape, h3.output, by have := h3.size; rw [hsz] at this; exact this, fun k hk hne => ?_⟩, by rw [← hsz]; exact h4⟩
    · show ((w.setCell ⟨b, o, none⟩ v).setCells b (o + 1) r).heap[b]? = _
      rw [h2]
      congr 2
      apply Array.ext'
      simp only [List.toList_toArray, Array.toList_setIfInBounds]
      apply List.ext_getElem?
      intro j
      rw [spl_get _ _ _ (by simp; omega), spl_get _ _ _ (by simp; omega)]
      by_cases c1 : j < o
      · rw [if_pos (by omega), if_pos c1, List.getElem?_set_ne (by omega)]
      · by_cases c2 : j = o
        · subst c2
          rw [if_pos (by omega), if_neg c1, if_pos (by simp), List.getElem?_set_self (by simp; omega)]
          simp
        · by_cases c3 : j < o + 1 + r.length
          · rw [if_neg (by omega), if_pos c3, if_neg c1, if_pos (by simp; omega)]
            obtain ⟨m, hm⟩ : ∃ m, j = o + 1 + m := ⟨j - (o + 1), by omega⟩
            subst hm
            rw [show o + 1 + m - (o + 1) = m by omega, show o + 1 + m - o = m + 1 by omega]
            simp
          · rw [if_neg (by omega), if_neg c3, if_neg c1, if_neg (by simp; omega), List.getElem?_set_ne (by omega)]
    · rw [← Go.heap_setCell_other w ⟨b, o, none⟩ k v (fun e => hne (by rw [e]))]
      exact h3.block k (by rw [hsz]; exact hk) hne

theorem alloc_grown (w : World) (o : Obj) (r : Option Nat) : w.grownBy (w.drew.alloc o) r :=
  ⟨rfl, rfl, rfl, by show w.heap.size ≤ (w.heap.push o).size; simp, fun k hk _ => by show (w.heap.push o)[k]? = _; rw [Array.getElem?_push, if_neg (by omega)]⟩
theorem alloc_new (w : World) (o : Obj) : (w.drew.alloc o).heap[w.heap.size]? = some o := by show (w.heap.push o)[w.heap.size]? = _; simp
theorem alloc_new' (w : World) (o : Obj) : (w.alloc o).drew.heap[w.heap.size]? = some o := by show (w.heap.push o)[w.heap.size]? = _; simp

/-- what Insert leaves of a row -/
def insL {α : Type} (l : List α) (i : Nat) (x : α) : List α := l.take i ++ x :: l.drop i
theorem insL_length {α : Type} (l : List α) (i : Nat) (x : α) (h : i ≤ l.length) : (insL l i x).length = l.length + 1 := by
  simp [insL]; omega
theorem insL_spl {α : Type} {l cur : List α} {n i : Nat} {x : α} (hn : n < cur.length) (hi : i ≤ n) (hl : cur.take n = l) : (spl (spl cur (i + 1) (l.drop i)) i [x]).take (n + 1) = insL l i x := by
  subst hl
  have h1 : i + 1 + ((cur.take n).drop i).length ≤ cur.length := by simp; omega
  have h2 : i + [x].length ≤ (spl cur (i + 1) ((cur.take n).drop i)).length := by rw [spl_len _ _ _ h1]; simp; omega
  apply List.ext_getElem?
  intro j
  rw [List.getElem?_take, spl_get _ _ _ h2, spl_get _ _ _ h1]
  unfold insL
  have hti : ((cur.take n).take i).length = i := by simp; omega
  by_cases c0 : j < n + 1
  · rw [if_pos c0]
    by_cases c1 : j < i
    · rw [if_pos c1, if_pos (by omega), List.getElem?_append_left (by omega)]
      simp [List.getElem?_take, c1]
      omega
    · rw [if_neg c1, List.getElem?_append_right (by omega), hti]
      by_cases c2 : j = i
      · subst c2; simp
      · rw [if_neg (by simp; omega), if_neg (by omega), if_pos (by simp; omega)]
        obtain ⟨m, rfl⟩ : ∃ m, j = i + 1 + m := ⟨j - (i + 1), by omega⟩
        rw [show i + 1 + m - (i + 1) = m by omega, show i + 1 + m - i = m + 1 by omega]
        simp
  · rw [if_neg c0, List.getElem?_eq_none]
    simp; omega
theorem insL_end {α : Type} {l cur : List α} {n : Nat} {x : α} (hn : n < cur.length) (hl : cur.take n = l) : (spl cur n [x]).take (n + 1) = insL l n x := by
  subst hl
  have h2 : n + [x].length ≤ cur.length := by simp; omega
  unfold insL spl
  simp only [List.take_take, Nat.min_self]
  have e : (cur.take n).length = n := by simp; omega
  rw [List.drop_eq_nil_of_le (show (cur.take n).length ≤ n by omega), List.take_append_of_le_length (by simp; omega), List.take_of_length_le (by simp; omega)]

section
variable {P : Program} {C : Cfg} {B : Nat} {F : Nat → Prop} {H : List AO} {ρ : List Value} {w : World}
/-- the memory behind Insert -/
structure InsRes (B : Nat) (T : TypeId) (w : World) (v : Value) (us : List Value) (v' : Value) (w' : World) : Prop where
  grown : w.grownBy w' (blk v)
  blk : blk v' = blk v ∨ ∀ b, blk v' = some b → w.heap.size ≤ b
  own : w'.ownsRow B T 1 v' us.length us

theorem drew_grown (w : World) (r : Option Nat) : w.grownBy w.drew r := ⟨rfl, rfl, rfl, Nat.le_refl _, fun _ _ _ => rfl⟩
theorem grown_trans {a b c : World} {r : Option Nat} (h : a.grownBy b r) (k : b.grownBy c r) : a.grownBy c r :=
  ⟨k.os.trans h.os, k.tape.trans h.tape, k.output.trans h.output, Nat.le_trans h.size k.size, fun j hj hn => (k.block j (Nat.lt_of_lt_of_le hj h.size) hn).trans (h.block j hj hn)⟩

theorem insert_mem {ρL : Ren} (L : Lays2.n21 P ρL) {v x0 : Value} {N n i vb voff vc : Nat} {us : List Value} {u : Value} (own : w.ownsRow B (ρL.t 3) 1 v N us) (hn : n ≤ N) (hi : i ≤ n) (hbig : n + 1 ≤ 1073741824) (hB : B ≤ w.heap.size)
    (hx0 : ∃ A M cap, v = .slice A M cap ∧ x0 = .slice A n cap) (one : ∀ u ∈ us, u.oneCell' = true) (hu1 : u.oneCell' = true) {cur2 : Array Value} {T2 : TypeId} (hvb : w.heap[vb]? = some (.cells cur2 T2 (0, 0))) (hvo : cur2[voff]? = some u) (hne : blk v ≠ some vb) :
    Calls P (ρL.f 21) #[x0, .int .i64 i, .slice (some ⟨vb, voff, none⟩) 1 vc] w fun e w' => ∃ v', e = .returned v' ∧ InsRes B (ρL.t 3) w v (insL (us.take n) i u) v' w' := by
  obtain ⟨A, M, cap, rfl, rfl⟩ := hx0
  obtain ⟨hul, own⟩ := own
  have hvs : ∀ (j : Nat) (y : Value), [u][j]? = some y → w.cell? ⟨vb, voff + j, none⟩ = some y := by
    intro j y hy
    cases j with
    | zero => simp at hy; subst hy; simp [World.cell?, hvb, hvo]
    | succ j => simp at hy
  have h1v : ∀ y ∈ [u], y.oneCell' = true := by intro y hy; simp at hy; subst hy; exact hu1
  have hcsl : (us.take n).length = n := by simp; omega
  have h1c : ∀ y ∈ us.take n, y.oneCell' = true := fun y hy => one y (List.mem_of_mem_take hy)
  have hlen : (insL (us.take n) i u).length = n + 1 := by rw [insL_length _ _ _ (by omega), hcsl]
  have newRow : ∀ (w' : World) (c : Nat) (cells : Array Value), w.grownBy w' (blk (.slice A M cap)) → w'.heap[w.heap.size]? = some (.cells cells (ρL.t 3) (0, 0)) → n + 1 ≤ c → c ≤ maxLen → cells.size = c → cells.toList.take (n + 1) = insL (us.take n) i u →
      InsRes B (ρL.t 3) w (.slice A M cap) (insL (us.take n) i u) (.slice (some ⟨w.heap.size, 0, none⟩) (n + 1) c) w' := by
    intro w' c cells hg hh hc hm hs ht
    refine ⟨hg, .inr (fun b hb => by simp [blk] at hb; omega), ?_⟩
    rw [hlen]
    exact ⟨by rw [hlen]; omega, .inr ⟨w.heap.size, c, cells, rfl, hB, hh, hc, hm, by omega, by rw [Nat.mul_one]; exact ht⟩⟩
  have hge := grownCap_ge w (n + 1) cap (ρL.t 3)
  have hgm : grownCap w (n + 1) cap (ρL.t 3) ≤ maxLen := grownCap_le_maxLen w (n + 1) cap (ρL.t 3) (by simp only [maxLen]; omega)
  rcases own with ⟨hnil, hN⟩ | ⟨b, cap', cur, hvv, hbg, hgb, hnc, hcm, hcs, htk⟩
  · injection hnil with q1 q2 q3
    subst q1 q2 q3
    have hn0 : n = 0 := by omega
    have hi0 : i = 0 := by omega
    subst hn0 hi0
    refine (Any2.slices_Insert_int_end_grow L none 0 0 vb voff 1 vc [] [u] w (by omega) (by omega) (by omega) (by omega) rfl rfl (fun _ => rfl) (fun a ha => by cases ha) hvs h1v).mono ?_
    rintro e w' ⟨rfl, rfl⟩
    refine ⟨_, rfl, newRow _ _ (([] ++ [u]).toArray ++ Builtin.zeroCells (Value.int .i64 0).cells (grownCap w (0 + 1) 0 (ρL.t 3) - (0 + 1))) ?_ ?_ hge hgm ?_ ?_⟩
    · exact alloc_grown w _ _
    · exact alloc_new w _
    · simp only [Array.size_append, List.size_toArray, size_zeroCells]
      simp [Value.cells]
      have := hge
      simp at this
      omega
    · simp [insL]
  · injection hvv with q1 q2 q3
    subst q1 q2 q3
    have hcurl : cur.toList.length = cap := by simpa using hcs
    have htk' : cur.toList.take n = us.take n := by
      have := congrArg (List.take n) htk
      rw [List.take_take, Nat.mul_one, Nat.min_eq_left hn] at this
      exact this
    have hcell : ∀ j, w.cell? ⟨b, 0 + j, none⟩ = cur[j]? := by intro j; simp [World.cell?, hgb]
    have hcu : ∀ (j : Nat) (y : Value), (us.take n)[j]? = some y → w.cell? ⟨b, 0 + j, none⟩ = some y := by
      intro j y hy
      rw [hcell]
      rw [← htk', List.getElem?_take] at hy
      split at hy
      · simpa using hy
      · cases hy
    have hsome : ∀ j, j < cap → (w.cell? ⟨b, 0 + j, none⟩).isSome = true := by
      intro j hj
      rw [hcell]
      simp; omega
    have hfz : ∀ j, w.frozen? ⟨b, 0 + j, none⟩ = false := fun j => frozen_of_row w b (0 + j) cur _ hgb
    have hbne : vb ≠ b := fun e => hne (by simp [blk, e])
    have hblt : b < w.heap.size := by
      rcases Nat.lt_or_ge b w.heap.size with h1 | h1
      · exact h1
      · rw [Array.getElem?_eq_none h1] at hgb; cases hgb
    by_cases hroom : n + 1 ≤ cap
    · have stay : ∀ (w' : World) (cells : Array Value), w.grownBy w' (some b) → w'.heap[b]? = some (.cells cells (ρL.t 3) (0, 0)) → cells.size = cap → cells.toList.take (n + 1) = insL (us.take n) i u →
          InsRes B (ρL.t 3) w (.slice (some ⟨b, 0, none⟩) M cap) (insL (us.take n) i u) (.slice (some ⟨b, 0, none⟩) (n + 1) cap) w' := by
        intro w' cells hg hh hs ht
        refine ⟨hg, .inl rfl, ?_⟩
        rw [hlen]
        exact ⟨by rw [hlen]; omega, .inr ⟨b, cap, cells, rfl, hbg, hh, hroom, hcm, by omega, by rw [Nat.mul_one]; exact ht⟩⟩
      by_cases hin : i = n
      · subst hin
        refine (Any2.slices_Insert_int_end_room L b 0 i cap vb voff 1 vc [u] w (by omega) hroom (by simp only [maxLen] at hcm; omega) rfl (fun j hj => by rw [Nat.add_assoc]; exact hsome (i + j) (by omega)) (fun j _ => by rw [Nat.add_assoc]; exact hfz (i + j)) hvs h1v).mono ?_
        rintro e w' ⟨rfl, rfl⟩
        obtain ⟨g1, g2, _⟩ := setCells_row b (ρL.t 3) [u] (0 + i) cur w hgb (by simp; omega)
        refine ⟨_, rfl, stay _ _ g2 g1 ?_ ?_⟩
        · simp only [List.size_toArray]
          rw [spl_len _ _ _ (by simp; omega)]
          exact hcurl
        · rw [Nat.zero_add]
          exact insL_end (by omega) htk'
      · refine (Any2.slices_Insert_int_shift L b 0 n cap i vb voff 1 vc (us.take n) [u] w (by omega) (by omega) hroom (by simp only [maxLen] at hcm; omega) hbne hcsl rfl hcu (fun j hj => hsome j (by omega)) (fun j _ => hfz j) hvs h1c h1v
          T2 (ρL.t 3) cur2.size cur.size (by simp [World.shape?, hvb]) (by simp [World.shape?, hgb]) (by omega) (frozen_of_row w vb voff cur2 _ hvb) (frozen_of_row w vb cur2.size cur2 _ hvb)).mono ?_
        rintro e w' ⟨rfl, rfl⟩
        have hgb' : w.drew.heap[b]? = some (.cells cur (ρL.t 3) (0, 0)) := hgb
        have hd1 : ((us.take n).drop i).length = n - i := by simp; omega
        obtain ⟨g1, g2, _⟩ := setCells_row b (ρL.t 3) ((us.take n).drop i) (0 + (i + 1)) cur w.drew hgb' (by rw [hd1]; omega)
        rw [Nat.zero_add] at g1 g2
        have hs1 : (spl cur.toList (i + 1) ((us.take n).drop i)).length = cap := by rw [spl_len _ _ _ (by rw [hd1]; omega)]; exact hcurl
        obtain ⟨k1, k2, _⟩ := setCells_row b (ρL.t 3) [u] (0 + i) _ _ g1 (by simp only [List.size_toArray]; rw [hs1]; simp; omega)
        rw [Nat.zero_add] at k1 k2
        simp only [List.toList_toArray] at k1
        refine ⟨_, rfl, stay _ (spl (spl cur.toList (i + 1) ((us.take n).drop i)) i [u]).toArray ?_ ?_ ?_ ?_⟩
        · rw [Nat.zero_add, Nat.zero_add]
          exact grown_trans (drew_grown w _) (grown_trans g2 k2)
        · rw [Nat.zero_add, Nat.zero_add]; exact k1
        · simp only [List.size_toArray]
          rw [spl_len _ _ _ (by rw [hs1]; simp; omega)]
          exact hs1
        · exact insL_spl (by omega) (by omega) htk'
    · have hcapn : cap < n + 1 := by omega
      by_cases hin : i = n
      · subst hin
        refine (Any2.slices_Insert_int_end_grow L (some ⟨b, 0, none⟩) i cap vb voff 1 vc (us.take i) [u] w (by omega) (by omega) hcapn (by omega) hcsl rfl (fun h => by cases h) (fun a ha j y hy => by
          cases ha
          rw [Addr.add_lit]
          exact hcu j y hy) hvs h1v).mono ?_
        rintro e w' ⟨rfl, rfl⟩
        refine ⟨_, rfl, newRow _ _ ((us.take i ++ [u]).toArray ++ Builtin.zeroCells (Value.int .i64 0).cells (grownCap w (i + 1) cap (ρL.t 3) - (i + 1))) ?_ ?_ hge hgm ?_ ?_⟩
        · exact alloc_grown w _ _
        · exact alloc_new w _
        · simp only [Array.size_append, List.size_toArray, size_zeroCells]
          simp [Value.cells]
          omega
        · have hus : us.take i = us := List.take_of_length_le (by omega)
          simp only [Array.toList_append, List.toList_toArray, hus]
          rw [List.take_append_of_le_length (by simp; omega), List.take_of_length_le (by simp; omega)]
          unfold insL
          rw [hus, List.drop_eq_nil_of_le (by omega)]
      · refine (Any2.slices_Insert_int_grow L b 0 n cap i vb voff 1 vc (us.take n) [u] w (by omega) (by omega) (by omega) hcapn (by omega) hcsl rfl hcu hvs h1c h1v).mono ?_
        rintro e w' ⟨rfl, rfl⟩
        let cells0 : Array Value := ((us.take n).take i).toArray ++ Builtin.zeroCells (Value.int .i64 0).cells (n + 1 - i) ++ Builtin.zeroCells (Value.int .i64 0).cells (grownCap w (n + 1) cap (ρL.t 3) - (n + 1))
        have hc0 : cells0.size = grownCap w (n + 1) cap (ρL.t 3) := by
          show (((us.take n).take i).toArray ++ _ ++ _).size = _
          simp only [Array.size_append, List.size_toArray, size_zeroCells]
          simp [Value.cells]
          omega
        have hW : (w.alloc (.cells cells0 (ρL.t 3))).drew.heap[w.heap.size]? = some (.cells cells0 (ρL.t 3) (0, 0)) := alloc_new' w _
        obtain ⟨g1, g2, g3⟩ := setCells_row w.heap.size (ρL.t 3) [u] i cells0 _ hW (by rw [hc0]; simp; omega)
        have hs1 : (spl cells0.toList i [u]).length = grownCap w (n + 1) cap (ρL.t 3) := by rw [spl_len _ _ _ (by simp [hc0]; omega)]; simpa using hc0
        have hd1 : ((us.take n).drop i).length = n - i := by simp; omega
        obtain ⟨k1, k2, _⟩ := setCells_row w.heap.size (ρL.t 3) ((us.take n).drop i) (i + 1) _ ((w.alloc (.cells cells0 (ρL.t 3))).drew.setCells w.heap.size i [u]).drew g1 (by simp only [List.size_toArray]; rw [hs1, hd1]; omega)
        simp only [List.toList_toArray] at k1
        have big : ∀ (a c : World), a.grownBy c (some w.heap.size) → w.heap.size ≤ a.heap.size → (∀ k, k < w.heap.size → a.heap[k]? = w.heap[k]?) → a.os = w.os → a.tape = w.tape → a.output = w.output → w.grownBy c (some b) :=
          fun a c h hs hb h1 h2 h3 => ⟨h.os.trans h1, h.tape.trans h2, h.output.trans h3, Nat.le_trans hs h.size, fun k hk _ => (h.block k (Nat.lt_of_lt_of_le hk hs) (fun e => by injection e with e; omega)).trans (hb k hk)⟩
        refine ⟨_, rfl, newRow _ _ (spl (spl cells0.toList i [u]) (i + 1) ((us.take n).drop i)).toArray ?_ k1 hge hgm ?_ ?_⟩
        · exact big (w.alloc (.cells cells0 (ρL.t 3))).drew _ (grown_trans g2 (grown_trans (drew_grown _ _) k2)) (by show w.heap.size ≤ (w.heap.push _).size; simp) (fun k hk => by show (w.heap.push _)[k]? = _; rw [Array.getElem?_push, if_neg (by omega)]) rfl rfl rfl
        · simp only [List.size_toArray]
          rw [spl_len _ _ _ (by rw [hs1, hd1]; omega)]
          exact hs1
        · have hti : ((us.take n).take i).length = i := by simp; omega
          have h0 : ∀ j, j < i → cells0.toList[j]? = (us.take n)[j]? := by
            intro j hj
            show (((us.take n).take i).toArray ++ _ ++ _).toList[j]? = _
            simp only [Array.toList_append, List.toList_toArray, List.append_assoc]
            rw [List.getElem?_append_left (by omega), List.getElem?_take, if_pos hj]
          apply List.ext_getElem?
          intro j
          have hl0 : cells0.toList.length = grownCap w (n + 1) cap (ρL.t 3) := by simpa using hc0
          rw [List.getElem?_take, spl_get _ _ _ (by rw [hs1, hd1]; omega), spl_get _ _ _ (by rw [hl0]; simp; omega)]
          unfold insL
          by_cases c0 : j < n + 1
          · rw [if_pos c0]
            by_cases c1 : j < i
            · rw [if_pos (by omega), if_pos c1, h0 j c1, List.getElem?_append_left (by omega), show ((us.take n).take i)[j]? = (us.take n)[j]? from by rw [List.getElem?_take, if_pos c1]]
            · rw [List.getElem?_append_right (by omega), hti]
              by_cases c2 : j = i
              · subst c2
                rw [if_pos (by omega), if_neg c1, if_pos (by simp)]
                simp
              · rw [if_neg (by omega), if_pos (by rw [hd1]; omega)]
                obtain ⟨m, rfl⟩ : ∃ m, j = i + 1 + m := ⟨j - (i + 1), by omega⟩
                rw [show i + 1 + m - (i + 1) = m by omega, show i + 1 + m - i = m + 1 by omega]
                simp
          · rw [if_neg c0, List.getElem?_eq_none]
            simp; omega
theorem flat_drop1 {l : List AV} (h : ∀ e ∈ l, e.cells.length = 1) (k : Nat) : flat (l.drop k) = (flat l).drop k := by
  have h4 := flat_sub h k l.length
  rw [List.take_of_length_le (show (l.drop k).length ≤ l.length by simp), Nat.mul_one, Nat.mul_one, List.take_of_length_le (by rw [List.length_drop, flat_len h]; omega)] at h4
  exact h4
/-- Insert, as a call in the caller's frame -/
def insX (T0 : Nat) (H : List AO) : List AV → Option (AV × List AO)
  | [.ref id g 0 n, .int .i64 i, .ref vid vg 0 1] => match H[id]?, H[vid]? with
    | some (.row T 1 g' es), some (.row _ 1 vg' [x]) => if T = T0 ∧ g' = g ∧ vg' = vg ∧ n ≤ es.length ∧ 0 ≤ i ∧ i ≤ n ∧ id ≠ vid ∧ n + 1 ≤ maxRow then some (.ref id (g + 1) 0 (n + 1), H.set id (.row T 1 (g + 1) (insL (es.take n) i.toNat x))) else none
    | _, _ => none
  | _ => none
theorem ins_ok {ρL : Ren} (L : Lays2.n21 P ρL) {args : List AV} {H' : List AO} {res : AV} (h : insX (ρL.t 3) H args = some (res, H')) : FnOkO C P (ρL.f 21) args H res H' := by
  unfold insX at h
  split at h
  case h_2 => cases h
  rename_i id g n i vid vg
  split at h
  case h_2 => cases h
  rename_i T g' es T2 vg' x hob hob2
  split at h
  case isFalse => cases h
  rename_i hc
  obtain ⟨rfl, rfl, rfl, hn, hi0, hin, hne, hbig⟩ := hc
  simp only [Option.some.injEq, Prod.mk.injEq] at h
  obtain ⟨rfl, rfl⟩ := h
  intro B F ρ w vs hp hg hl hr
  match vs, hl with
  | [x0, x1, x2], _ =>
    have h0 := hr 0 _ x0 rfl rfl
    have h1 := hr 1 _ x1 rfl rfl
    have h2 := hr 2 _ x2 rfl rfl
    have e1 := h1.int_inv
    subst e1
    obtain ⟨A, c, rfl, ob, hob', _, hq⟩ := h0.ref_inv
    have : ob = .row (ρL.t 3) 1 g' es := by have := hob'.symm.trans hob; simpa using this
    subst this
    obtain ⟨_, hq⟩ := hq 1 g' es.length rfl
    obtain ⟨_, v, hv, A0, Nn, cap, A', rfl, hx, hoN, _, hA⟩ := hq rfl
    obtain rfl := hA rfl
    injection hx with x1' x2' x3'
    subst x1'
    obtain ⟨A2, c2, rfl, ob2, hob2', _, hq2⟩ := h2.ref_inv
    have : ob2 = .row T2 1 vg' [x] := by have := hob2'.symm.trans hob2; simpa using this
    subst this
    obtain ⟨_, hq2⟩ := hq2 1 vg' 1 rfl
    obtain ⟨_, v2, hv2, B0, N2, cap2, B', rfl, hx2, hoN2, hadd2, _⟩ := hq2 rfl
    obtain ⟨ad, rfl, rfl⟩ := hadd2 (by omega)
    injection hx2 with y1 y2 y3
    subst y1
    obtain ⟨v1, us, R⟩ := hp.row _ _ _ _ _ hob
    have : v1 = .slice A Nn cap := by have := R.at_.symm.trans hv; simpa using this
    subst this
    obtain ⟨v1, us2, R2⟩ := hp.row _ _ _ _ _ hob2
    have : v1 = .slice (some ad) N2 cap2 := by have := R2.at_.symm.trans hv2; simpa using this
    subst this
    rcases R2.own.2 with ⟨hnil, _⟩ | ⟨vb, cap2', cur2, hvv2, _, hgb2, hnc2, _, hcs2, htk2⟩
    · cases hnil
    injection hvv2 with z1 z2 z3
    injection z1 with z1
    subst z1
    obtain ⟨u, rfl⟩ : ∃ u, us2 = [u] := by
      have := R2.own.1
      match us2, this with
      | [u], _ => exact ⟨u, rfl⟩
    have hu1 : u.oneCell' = true := R2.one u (by simp)
    have hcx := R2.cells x (by simp)
    have hux : ∀ (j : Nat) (c : AV) (y : Value), x.cells[j]? = some c → [u][j]? = some y → IR F w c y := fun j c y hc hy => R2.rel j c y (by simpa [flat] using hc) hy
    have hc20 : cur2[0]? = some u := by
      have : (cur2.toList.take ([x].length * 1))[0]? = some u := by rw [htk2]; rfl
      simpa using this
    have hblk : blk (.slice A Nn cap) ≠ some vb := fun e => hne (hp.dist id vid _ _ _ _ vb hob hob2 rfl rfl R.at_ R2.at_ e (by simp [blk]))
    have e0 : (⟨vb, 0, none⟩ : Addr).add (0 * 1) = ⟨vb, 0, none⟩ := by simp [Addr.add]
    obtain ⟨k, rfl⟩ : ∃ k : Nat, i = k := ⟨i.toNat, by omega⟩
    simp only [Int.toNat_natCast]
    have hkn : k ≤ n := by omega
    have hcap : c = cap := by omega
    subst hcap
    have hmem := insert_mem (n := n) (i := k) (vc := c2) (x0 := .slice A n c) L R.own hn hkn (by simp only [maxRow] at hbig; omega) hp.base ⟨A, Nn, c, rfl, rfl⟩ R.one hu1 hgb2 hc20 hblk
    rw [e0]
    refine hmem.mono ?_
    rintro en w' ⟨v', rfl, hres⟩
    have hlen : (insL (us.take n) k u).length = n + 1 := by
      have : (us.take n).length = n := by have := R.own.1; simp; omega
      rw [insL_length _ _ _ (by omega), this]
    have hlen2 : (insL (es.take n) k x).length = n + 1 := by
      have : (es.take n).length = n := by simp; omega
      rw [insL_length _ _ _ (by omega), this]
    have hown := hres.own
    rw [hlen] at hown
    have hFb : ∀ b, F b → w'.heap[b]? = w.heap[b]? := fun b hb => hres.grown.block b (hp.fb b hb) (fun e => R.free b e.symm hb)
    have ev : Ev H ρ (H.set id (.row (ρL.t 3) 1 (g' + 1) (insL (es.take n) k x))) (ρ.set id v') := Ev.setGen hob hp.len rfl (fun s' g1 N' hvw => by
      simp [AO.view] at hvw
      obtain ⟨rfl, rfl, rfl⟩ := hvw
      exact ⟨1, g', es.length, rfl, by omega⟩)
    have hidlt : id < ρ.length := by have := lt_of_some hob; rw [hp.len]; exact this
    have hcell1 : ∀ e ∈ es, e.cells.length = 1 := R.cells
    have hcells' : ∀ e ∈ insL (es.take n) k x, e.cells.length = 1 := by
      intro e he
      simp only [insL, List.mem_append, List.mem_cons] at he
      rcases he with he | rfl | he
      · exact hcell1 e (List.mem_of_mem_take (List.mem_of_mem_take he))
      · exact hcx
      · exact hcell1 e (List.mem_of_mem_take (List.mem_of_mem_drop he))
    have hft : ∀ m, flat (es.take m) = (flat es).take m := fun m => by
      have := flat_sub hcell1 0 m
      simpa using this
    have hrt : ∀ (j : Nat) (c : AV) (u : Value), (flat (es.take n))[j]? = some c → (us.take n)[j]? = some u → IR F w c u := by
      intro j c0 u0 hc0 hu0
      rw [hft, List.getElem?_take] at hc0
      rw [List.getElem?_take] at hu0
      split at hc0
      · rename_i hj
        rw [if_pos hj] at hu0
        exact R.rel j c0 u0 hc0 hu0
      · cases hc0
    have hcellt : ∀ e ∈ es.take n, e.cells.length = 1 := fun e he => hcell1 e (List.mem_of_mem_take he)
    have hrel : ∀ (j : Nat) (c : AV) (u' : Value), (flat (insL (es.take n) k x))[j]? = some c → (insL (us.take n) k u)[j]? = some u' → IR F w c u' := by
      unfold insL
      rw [flat_append]
      have h3 := flat_sub hcellt 0 k
      have h4 := flat_drop1 hcellt k
      simp only [List.drop_zero, Nat.zero_mul, Nat.mul_one] at h3
      have hfl : (flat (es.take n)).length = n := by rw [flat_len hcellt]; simp; omega
      have hul : (us.take n).length = n := by have := R.own.1; simp; omega
      refine rel_append (by rw [h3]; simp [hfl, hul]) (fun j c0 u0 hc0 hu0 => ?_) ?_
      · rw [h3, List.getElem?_take] at hc0
        rw [List.getElem?_take] at hu0
        split at hc0
        · rename_i hj
          rw [if_pos hj] at hu0
          exact hrt j c0 u0 hc0 hu0
        · cases hc0
      · have hsp : flat (x :: (es.take n).drop k) = x.cells ++ flat ((es.take n).drop k) := by simp [flat]
        rw [hsp, h4]
        have : u :: (us.take n).drop k = [u] ++ (us.take n).drop k := rfl
        rw [this]
        refine rel_append (by rw [hcx]; rfl) hux (fun j c0 u0 hc0 hu0 => ?_)
        rw [List.getElem?_drop] at hc0 hu0
        exact hrt _ c0 u0 hc0 hu0
    have key := hp.setObj (w' := w') (v' := v') (o' := .row (ρL.t 3) 1 (g' + 1) (insL (es.take n) k x)) hob rfl rfl R.at_ hres.grown hres.blk ev
      (fun T1 s1 gg es1 hh => by
        injection hh with q1 q2 q3 q4; subst q1 q2 q3 q4
        refine ⟨insL (us.take n) k u, by rw [List.getElem?_set_self hidlt], by rw [hlen2]; exact hown, by omega, hcells', fun y hy => ?_, fun j c0 u0 hc0 hu0 => (hrel j c0 u0 hc0 hu0).mono (fun _ x => x) hFb, fun b hb hF => ?_⟩
        · simp only [insL, List.mem_append, List.mem_cons] at hy
          rcases hy with hy | rfl | hy
          · exact R.one y (List.mem_of_mem_take (List.mem_of_mem_take hy))
          · exact hu1
          · exact R.one y (List.mem_of_mem_take (List.mem_of_mem_drop hy))
        · rcases hres.blk with hh | hh
          · exact R.free b (by rw [← hh]; exact hb) hF
          · have := hh b hb
            have := hp.fb b hF
            omega)
      (fun _ _ _ hh => by cases hh) (fun _ hh => by cases hh)
    obtain ⟨bb, capb, curb, rfl, _⟩ : ∃ bb capb curb, v' = .slice (some ⟨bb, 0, none⟩) (n + 1) capb ∧ curb = curb := by
      rcases hown.2 with ⟨_, h0⟩ | ⟨bb, capb, curb, hv', _⟩
      · omega
      · exact ⟨bb, capb, curb, hv', rfl⟩
    refine ⟨_, _, F, rfl, key.1, ?_, ev, key.2, fun _ x => x, fun _ x => .inl x⟩
    refine .ref _ _ _ _ _ _ ⟨.row (ρL.t 3) 1 (g' + 1) (insL (es.take n) k x), by rw [List.getElem?_set_self (lt_of_some hob)], rfl, fun s1 g1 N1 hvw => ?_⟩
    simp [AO.view, hlen2] at hvw
    obtain ⟨rfl, rfl, rfl⟩ := hvw
    exact ⟨Nat.le_refl _, fun _ => ⟨by omega, _, by rw [List.getElem?_set_self hidlt], some ⟨bb, 0, none⟩, n + 1, capb, some ⟨bb, 0, none⟩, rfl, rfl, by omega, fun _ => ⟨_, rfl, by simp [Addr.add]⟩, fun _ => rfl⟩⟩
end
end Go.PI
