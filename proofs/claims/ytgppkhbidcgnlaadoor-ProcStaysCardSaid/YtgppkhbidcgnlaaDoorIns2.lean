/- slices.Insert of one process into a row of the frame: the contract for the interpreter. No condition. -/
import Derived.Test.YtgppkhbidcgnlaaDoorIns
import Derived.Test.YtgppkhbidcgnlaaDoorTbl
namespace Go.PI
/-- what Insert leaves of a row -/
def insL {α : Type} (l : List α) (i : Nat) (x : α) : List α := l.take i ++ x :: l.drop i
theorem insL_length {α : Type} (l : List α) (i : Nat) (x : α) (h : i ≤ l.length) : (insL l i x).length = l.length + 1 := by
  simp [insL]; omega
theorem flat_insL {l : List AV} {s : Nat} (h : ∀ e ∈ l, e.cells.length = s) (k : Nat) (x : AV) : flat (insL l k x) = (flat l).take (k * s) ++ x.cells ++ (flat l).drop (k * s) := by
  unfold insL
  have h1 := flat_sub h 0 k
  have h2 := flat_sub h k l.length
  rw [List.take_of_length_le (show (l.drop k).length ≤ l.length by simp), List.take_of_length_le (by rw [List.length_drop, flat_len h]; omega)] at h2
  simp only [List.drop_zero, Nat.zero_mul] at h1
  rw [flat_append, h1]
  have : flat (x :: l.drop k) = x.cells ++ flat (l.drop k) := by simp [flat]
  rw [this, h2, List.append_assoc]
theorem callV_sound {P : Program} {C : Cfg} {tbl : TB} (hm : P.follows .mixedOrders = true) (ht : TBok P C tbl) {f : Nat} {args : List AV} {H : List AO} {res : AV} {H' : List AO} (h : callV tbl f args H = some (res, H')) : FnOkO C P f args H res H' := by
  obtain ⟨k, hk⟩ := (callV_iff tbl).1 h
  exact ((fn_sound ht k (sound hm ht k)).op f args H res H' hk).1
end Go.PI
namespace Go.Proofs.YtgppkhbidcgnlaaDoor
open Go.PI
set_option maxRecDepth 100000
set_option maxHeartbeats 8000000
set_option linter.unusedSimpArgs false
def insX (H : List AO) : List AV → Option (AV × List AO)
  | [.ref id g 0 n, .int .i64 i, .sl 13 [x]] => match H[id]? with
    | some (.row 30 13 g' es) => if g' = g ∧ n = es.length ∧ 0 ≤ i ∧ i < n ∧ n ≤ 1000000 then some (.ref id (g + 1) 0 (n + 1), H.set id (.row 30 13 (g + 1) (insL es i.toNat x))) else none
    | _ => none
  | _ => none
theorem ins_ok {args : List AV} {H H' : List AO} {res : AV} (h : insX H args = some (res, H')) : FnOkO cfg Tryd.prog 68 args H res H' := by
  unfold insX at h
  split at h
  case h_2 => cases h
  rename_i id g n i x
  split at h
  case h_2 => cases h
  rename_i g' es hob
  split at h
  case isFalse => cases h
  rename_i hc
  obtain ⟨rfl, rfl, hi0, hin, hbig⟩ := hc
  simp only [Option.some.injEq, Prod.mk.injEq] at h
  obtain ⟨rfl, rfl⟩ := h
  intro B F ρ w vs hp hg hl hr
  match vs, hl with
  | [x0, x1, x2], _ =>
    have h0 := hr 0 _ x0 rfl rfl
    have h1 := hr 1 _ x1 rfl rfl
    have h2 := hr 2 _ x2 rfl rfl
    have e1 := h1.int_inv
    subst e1
    obtain ⟨A, c, rfl, ob, hob', _, hq⟩ := h0.ref_inv
    have : ob = .row 30 13 g' es := by have := hob'.symm.trans hob; simpa using this
    subst this
    obtain ⟨_, hq⟩ := hq 13 g' es.length rfl
    obtain ⟨_, v, hv, A0, Nn, cap, A', rfl, hx, hoN, _, hA⟩ := hq rfl
    obtain rfl := hA rfl
    injection hx with x1' x2' x3'
    subst x1'
    obtain ⟨v1, us, R⟩ := hp.row _ _ _ _ _ hob
    have : v1 = .slice A Nn cap := by have := R.at_.symm.trans hv; simpa using this
    subst this
    obtain ⟨k, rfl⟩ : ∃ k : Nat, i = k := ⟨i.toNat, by omega⟩
    simp only [Int.toNat_natCast]
    have hkn : k < es.length := by omega
    have hcap : c = cap := by omega
    subst hcap
    -- the value to be put in
    have hI := h2.sl_inv
    cases hI with
    | sl _ _ a2 cap2 us2 hc2 hcm2 hs2 hl2 h12 hm2 hr2 =>
    obtain ⟨av, rfl, hFv, hcv⟩ := hm2 (by simp)
    have hx13 : x.cells.length = 13 := hs2 x (by simp)
    have hfl : flat [x] = x.cells := by simp [flat]
    rw [hfl] at hl2 hr2
    have hv13 : us2.length = 13 := by omega
    rcases R.own with ⟨hul, ⟨hnil, hn0⟩ | ⟨b, cap', cur, hvv, hbg, hgb, hnc, hcm, hcs, htk⟩⟩
    · omega
    injection hvv with z1 z2 z3
    subst z1 z2 z3
    have hbF : ¬ F b := fun hF => R.free b (by simp [blk]) hF
    have hvb : av.block ≠ b := fun e => hbF (e ▸ hFv)
    have hvlt : av.block < w.heap.size := hp.fb _ hFv
    have res : Calls Tryd.prog 68 #[.slice (some ⟨b, 0, none⟩) es.length c, .int .i64 k, .slice (some av) 1 cap2] w fun e w' => ∃ v' c', e = .returned v' ∧ v' = .slice (some ⟨c', 0, none⟩) (es.length + 1) (match v' with | .slice _ _ q => q | _ => 0) ∧ w.grownBy w' (some b) ∧ (c' = b ∨ w.heap.size ≤ c') ∧ w'.ownsRow B 30 13 v' (es.length + 1) (us.take (k * 13) ++ us2 ++ us.drop (k * 13)) := by
      by_cases hroom : es.length + 1 ≤ c
      · refine (ins_shift b es.length c k cap2 av us us2 w cur hkn hroom hcm hbig hul hv13 hgb hcs htk hvb hcv R.one h12).mono ?_
        rintro e w' ⟨cells, rfl, hgr, hh, hsz, ht⟩
        exact ⟨_, b, rfl, rfl, hgr, .inl rfl, by simp [hul, hv13]; omega, .inr ⟨b, c, cells, rfl, hbg, hh, hroom, hcm, hsz, ht⟩⟩
      · refine (ins_grow b es.length c k cap2 av us us2 w cur hkn hnc (by omega) hbig hul hv13 hgb htk hvlt hcv R.one h12).mono ?_
        rintro e w' ⟨G, cells, rfl, hgr, hh, hG1, hG2, hsz, ht⟩
        exact ⟨_, w.heap.size, rfl, rfl, ⟨hgr.os, hgr.tape, hgr.output, hgr.size, fun j hj _ => hgr.block j hj (by simp)⟩, .inr (Nat.le_refl _), by simp [hul, hv13]; omega, .inr ⟨w.heap.size, G, cells, rfl, hp.base, hh, hG1, hG2, hsz, ht⟩⟩
    refine res.mono ?_
    rintro e w' ⟨v', c', rfl, hv', hgr, hcc, hown⟩
    have hFb : ∀ q, F q → w'.heap[q]? = w.heap[q]? := fun q hQ => hgr.block q (hp.fb q hQ) (fun e => by injection e with e; exact hbF (e ▸ hQ))
    have hlen2 : (insL es k x).length = es.length + 1 := insL_length _ _ _ (by omega)
    have ev : Ev H ρ (H.set id (.row 30 13 (g' + 1) (insL es k x))) (ρ.set id v') := Ev.setGen hob hp.len rfl (fun s' g1 N' hvw => by
      simp [AO.view] at hvw
      obtain ⟨rfl, rfl, rfl⟩ := hvw
      exact ⟨13, g', es.length, rfl, by omega⟩)
    have hidlt : id < ρ.length := by have := lt_of_some hob; rw [hp.len]; exact this
    have hblk : blk v' = some c' := by rw [hv']; rfl
    have hcells' : ∀ e ∈ insL es k x, e.cells.length = 13 := by
      intro e he
      simp only [insL, List.mem_append, List.mem_cons] at he
      rcases he with he | rfl | he
      · exact R.cells e (List.mem_of_mem_take he)
      · exact hx13
      · exact R.cells e (List.mem_of_mem_drop he)
    have hfll : (flat es).length = us.length := by rw [flat_len R.cells, hul]
    have hrel : ∀ (j : Nat) (c : AV) (u' : Value), (flat (insL es k x))[j]? = some c → (us.take (k * 13) ++ us2 ++ us.drop (k * 13))[j]? = some u' → IR F w c u' := by
      rw [flat_insL R.cells, List.append_assoc, List.append_assoc]
      refine rel_append (by simp [hfll]) (fun j c0 u0 hc0 hu0 => ?_) (rel_append hl2 hr2 (fun j c0 u0 hc0 hu0 => ?_))
      · rw [List.getElem?_take] at hc0 hu0
        split at hc0
        · rename_i hj
          rw [if_pos hj] at hu0
          exact R.rel j c0 u0 hc0 hu0
        · cases hc0
      · rw [List.getElem?_drop] at hc0 hu0
        exact R.rel _ c0 u0 hc0 hu0
    have key := hp.setObj (w' := w') (v' := v') (o' := .row 30 13 (g' + 1) (insL es k x)) hob rfl rfl R.at_ (by simpa [blk] using hgr) (by
        rcases hcc with rfl | hcc
        · exact .inl (by rw [hblk]; rfl)
        · exact .inr (fun q hq => by rw [hblk] at hq; injection hq with hq; omega)) ev
      (fun T1 s1 gg es1 hh => by
        injection hh with q1 q2 q3 q4; subst q1 q2 q3 q4
        refine ⟨us.take (k * 13) ++ us2 ++ us.drop (k * 13), by rw [List.getElem?_set_self hidlt], by rw [hlen2]; exact hown, by omega, hcells', fun y hy => ?_, fun j c0 u0 hc0 hu0 => (hrel j c0 u0 hc0 hu0).mono (fun _ x => x) hFb, fun q hq hF => ?_⟩
        · simp only [List.mem_append] at hy
          rcases hy with (hy | hy) | hy
          · exact R.one y (List.mem_of_mem_take hy)
          · exact h12 y hy
          · exact R.one y (List.mem_of_mem_drop hy)
        · rw [hblk] at hq
          injection hq with hq
          subst hq
          rcases hcc with rfl | hcc
          · exact hbF hF
          · have := hp.fb _ hF; omega)
      (fun _ _ _ hh => by cases hh) (fun _ hh => by cases hh)
    obtain ⟨cq, hcq⟩ : ∃ cq, v' = .slice (some ⟨c', 0, none⟩) (es.length + 1) cq := ⟨_, hv'⟩
    subst hcq
    refine ⟨_, _, F, rfl, key.1, ?_, ev, key.2, fun _ x => x, fun _ x => .inl x⟩
    refine .ref _ _ _ _ _ _ ⟨.row 30 13 (g' + 1) (insL es k x), by rw [List.getElem?_set_self (lt_of_some hob)], rfl, fun s1 g1 N1 hvw => ?_⟩
    simp [AO.view, hlen2] at hvw
    obtain ⟨rfl, rfl, rfl⟩ := hvw
    exact ⟨Nat.le_refl _, fun _ => ⟨by omega, _, by rw [List.getElem?_set_self hidlt], some ⟨c', 0, none⟩, es.length + 1, cq, some ⟨c', 0, none⟩, rfl, rfl, by omega, fun _ => ⟨_, rfl, by simp [Addr.add]⟩, fun _ => rfl⟩⟩
end Go.Proofs.YtgppkhbidcgnlaaDoor
