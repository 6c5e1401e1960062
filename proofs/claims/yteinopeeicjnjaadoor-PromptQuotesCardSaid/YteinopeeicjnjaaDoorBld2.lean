/- strings.Builder in the caller's frame, second part: the contracts for the interpreter. No condition. -/
import Derived.Test.YteinopeeicjnjaaDoorBld
import Derived.Test.YteinopeeicjnjaaDoorShelf
import Derived.Test.YteinopeeicjnjaaDoorTbl
namespace Go.PI
section
variable {P : Program} {C : Cfg} {B N : Nat} {F F' : Nat → Prop} {H H' : List AO} {ρ ρ' : List Value} {w w' : World} {x y : Value}
/-- one field of a variable of the frame is written -/
theorem boxSet (hp : HeapRep B F H ρ w) {id T s o b : Nat} {cs : List AV} {us : List Value} {c' : AV} {u' : Value} (hob : H[id]? = some (.box T s (.agg cs))) (R : BoxRep B H ρ F w id T s (.agg cs) b us) (ho : o < s) (hv : VR H ρ F w c' u') (h1 : u'.oneCell' = true) :
    HeapRep B F (H.set id (.box T s (.agg (cs.set o c')))) ρ (w.setCell ⟨b, o, none⟩ u') ∧ Ev H ρ (H.set id (.box T s (.agg (cs.set o c')))) ρ ∧ Kept B F w (w.setCell ⟨b, o, none⟩ u') ∧
      (w.setCell ⟨b, o, none⟩ u').heap[b]? = some (.cells (us.set o u').toArray T (0, 0)) ∧ ∀ k, k ≠ b → (w.setCell ⟨b, o, none⟩ u').heap[k]? = w.heap[k]? := by
  have hset : ρ.set id (.pointer (some ⟨b, 0, none⟩)) = ρ := set_self R.at_
  have ev : Ev H ρ (H.set id (.box T s (.agg (cs.set o c')))) ρ := Ev.setSame hob rfl rfl
  have hoth : ∀ k, k ≠ b → (w.setCell ⟨b, o, none⟩ u').heap[k]? = w.heap[k]? := fun k hk => heap_setCell_other w ⟨b, o, none⟩ k u' hk
  have hself : (w.setCell ⟨b, o, none⟩ u').heap[b]? = some (.cells (us.set o u').toArray T (0, 0)) := by
    rw [heap_setCell_same w b o us.toArray T u' R.own]
    simp
  have hw : ∀ q, F q → (w.setCell ⟨b, o, none⟩ u').heap[q]? = w.heap[q]? := fun q hq => hoth q (fun e0 => R.free (e0 ▸ hq))
  have hcl : cs.length = s := R.cells
  have hsz : (w.setCell ⟨b, o, none⟩ u').heap.size = w.heap.size := by unfold World.setCell; simp
  have hgr : w.grownBy (w.setCell ⟨b, o, none⟩ u') (some b) := ⟨rfl, rfl, rfl, by omega, fun k _ hk => hoth k (fun e => hk (by rw [e]))⟩
  have key := hp.setObj (w' := w.setCell ⟨b, o, none⟩ u') (v' := .pointer (some ⟨b, 0, none⟩)) (o' := .box T s (.agg (cs.set o c'))) hob rfl rfl R.at_ hgr (.inl rfl) (by rw [hset]; exact ev)
    (fun _ _ _ _ hh => by cases hh) (fun T' s' e' hh => by
      injection hh with q1 q2 q3; subst q1 q2 q3
      rw [hset]
      refine ⟨b, us.set o u', R.at_, hself, R.base, by simpa [AV.cells] using hcl, by simpa using R.len, fun u hu => ?_, fun j c u hc hu => ?_, R.free⟩
      · rcases List.mem_or_eq_of_mem_set hu with h | h
        · exact R.one u h
        · rw [h]; exact h1
      · have hc' : (cs.set o c')[j]? = some c := hc
        by_cases e : o = j
        · subst e
          rw [List.getElem?_set_self (by omega)] at hc'
          rw [List.getElem?_set_self (by rw [R.len]; omega)] at hu
          cases hc'; cases hu
          exact hv.mono ev (fun _ x => x) hw
        · rw [List.getElem?_set_ne e] at hc' hu
          exact (R.rel j c u hc' hu).mono ev (fun _ x => x) hw) (fun d hh => by cases hh)
  rw [hset] at key
  exact ⟨key.1, ev, key.2, hself, hoth⟩
/-- a row of the frame is grown at its end -/
theorem rowApp (hp : HeapRep B F H ρ w) {id T s g : Nat} {es news : List AV} {v v' : Value} {us0 us : List Value} (hob : H[id]? = some (.row T s g es)) (R : RowRep B ρ F w id T s es v us0)
    (hown : w'.ownsRow B T s v' (es.length + news.length) (us0 ++ us)) (hg : w.grownBy w' v.ownBlock) (hblk : v'.ownBlock = v.ownBlock ∨ v'.ownBlock = some w.heap.size)
    (hnc : ∀ e ∈ news, e.cells.length = s) (hu1 : ∀ u ∈ us, u.oneCell' = true) (hur : ∀ (j : Nat) (c : AV) (u : Value), (flat news)[j]? = some c → us[j]? = some u → IR F w c u) :
    HeapRep B F (H.set id (.row T s (g + 1) (es ++ news))) (ρ.set id v') w' ∧ Ev H ρ (H.set id (.row T s (g + 1) (es ++ news))) (ρ.set id v') ∧ Kept B F w w' ∧
      VR (H.set id (.row T s (g + 1) (es ++ news))) (ρ.set id v') F w' (.ref id (g + 1) 0 (es.length + news.length)) v' := by
  have eb : blk v = v.ownBlock := ownsRow_blk R.own
  have eb' : blk v' = v'.ownBlock := ownsRow_blk hown
  have hvb : blk v' = blk v ∨ ∀ b, blk v' = some b → w.heap.size ≤ b := by
    rw [eb, eb']
    rcases hblk with h | h
    · exact .inl h
    · right; intro b hb; rw [h] at hb; injection hb with hb; omega
  have hw : ∀ b, F b → w'.heap[b]? = w.heap[b]? := fun b hb => hg.block b (hp.fb b hb) (fun e0 => R.free b (by rw [eb]; exact e0.symm) hb)
  have ev := Ev.setGen (ρ := ρ) (v' := v') (o' := .row T s (g + 1) (es ++ news)) hob hp.len rfl (fun s1 g1 N1 hv => by
    simp [AO.view] at hv; exact ⟨s, g, es.length, rfl, by omega⟩)
  have hfree : ∀ b, blk v' = some b → ¬ F b := by
    intro b hb hF
    rcases hvb with h | h
    · exact R.free b (by rw [← h]; exact hb) hF
    · have := h b hb; have := hp.fb b hF; omega
  have hltρ : id < ρ.length := by rw [hp.len]; exact lt_of_some hob
  have key := hp.setObj (w' := w') (v' := v') (o' := .row T s (g + 1) (es ++ news)) hob rfl rfl R.at_ (by rw [eb]; exact hg) hvb ev
    (fun T2 s2 g2 es2 hh => by
      injection hh with p1 p2 p3 p4; subst p1 p2 p3 p4
      refine ⟨us0 ++ us, by rw [getElem?_set_eq _ _ _ _ hltρ, if_pos rfl], by rw [List.length_append]; exact hown, R.pos, fun q0 he0 => ?_, fun u hu => ?_, fun j cc u hc hu => ?_, hfree⟩
      · rcases List.mem_append.1 he0 with h | h
        · exact R.cells q0 h
        · exact hnc q0 h
      · rcases List.mem_append.1 hu with h | h
        · exact R.one u h
        · exact hu1 u h
      · rw [flat_append] at hc
        have hfl : (flat es).length = us0.length := by rw [flat_len R.cells, R.own.1]
        rcases Nat.lt_or_ge j us0.length with hj | hj
        · rw [List.getElem?_append_left (by omega)] at hc
          rw [List.getElem?_append_left hj] at hu
          exact (R.rel j cc u hc hu).mono (fun _ x => x) hw
        · rw [List.getElem?_append_right (by omega)] at hc
          rw [List.getElem?_append_right hj] at hu
          rw [hfl] at hc
          exact (hur _ cc u hc hu).mono (fun _ x => x) hw)
    (fun _ _ _ hh => by cases hh) (fun _ hh => by cases hh)
  refine ⟨key.1, ev, key.2, ?_⟩
  have hform : ∃ A2 cap2, v' = .slice A2 (es.length + news.length) cap2 := by
    rcases hown.2 with ⟨rfl, h0⟩ | ⟨gb, cap, cur, rfl, _⟩
    · exact ⟨none, 0, by rw [h0]⟩
    · exact ⟨_, _, rfl⟩
  obtain ⟨A2, cap2, rfl⟩ := hform
  refine .ref _ _ _ _ _ _ ⟨.row T s (g + 1) (es ++ news), by rw [getElem?_set_eq _ _ _ _ (lt_of_some hob), if_pos rfl], rfl, fun s2 g2 N2 hv2 => ?_⟩
  simp only [AO.view, List.length_append, Option.some.injEq, Prod.mk.injEq] at hv2
  obtain ⟨rfl, rfl, rfl⟩ := hv2
  refine ⟨Nat.le_refl _, fun _ => ⟨by omega, _, by rw [getElem?_set_eq _ _ _ _ hltρ, if_pos rfl], A2, es.length + news.length, cap2, A2, rfl, rfl, by omega, fun hpos => ?_, fun _ => rfl⟩⟩
  rcases hown.2 with ⟨hh, h0⟩ | ⟨gb, cap, cur, hh, _⟩
  · omega
  · injection hh with h1; subst h1; exact ⟨_, rfl, by simp [Addr.add_zero']⟩
/-- what a slice of a whole row is -/
theorem ref_row (hp : HeapRep B F H ρ w) {id T s g : Nat} {es : List AV} (hob : H[id]? = some (.row T s g es)) (hx : VR H ρ F w (.ref id g 0 es.length) x) : ∃ us, RowRep B ρ F w id T s es x us := by
  obtain ⟨A', c', rfl, hok⟩ := hx.ref_inv
  obtain ⟨v0, us0, R⟩ := hp.row _ _ _ _ _ hob
  obtain ⟨ob', hob', _, hv'⟩ := hok
  have : ob' = .row T s g es := by have := hob'.symm.trans hob; simpa using this
  subst this
  obtain ⟨_, hq⟩ := hv' s g es.length rfl
  obtain ⟨_, v1, hv1, A1, N1, cap1, A2, rfl, hx2, hoN, _, hA⟩ := hq rfl
  have : v0 = .slice A1 N1 cap1 := by have := R.at_.symm.trans hv1; simpa using this
  subst this
  have hN : N1 = es.length ∧ es.length ≤ cap1 := by
    rcases R.own.2 with ⟨hnil, h0⟩ | ⟨gb, cap, cur, hvv, _, _, hnc', _⟩
    · injection hnil with _ q2 q3; omega
    · injection hvv with _ q2 q3; exact ⟨q2, by omega⟩
  obtain ⟨rfl, hcap⟩ := hN
  injection hx2 with q1 _ q3
  have hA' : A' = A1 := by rw [q1]; exact hA rfl
  have hc' : cap1 = c' := by rw [q3]; rfl
  subst hA' hc'
  exact ⟨us0, R⟩
end
end Go.PI
