/- Appends, slices of slices, indexes, arithmetic, comparisons: what the interpreter says is what the model does. No condition. -/
import Derived.Test.YtpphfbfmoipoaaaDoorPi8
namespace Go.PI
open Go.RowKit

section
variable {P : Program} {C : Cfg} {im : Md} {B N : Nat} {F F' : Nat → Prop} {H H' : List AO} {ρ ρ' : List Value} {w w' : World} {x y : Value} {e : Env} {a : Act}

theorem run_append_zero (t ty el : TypeId) (i : TypeInfo) (ht : P.underlying t = some (.slice el)) (hi : P.info? el = some i) (b : Option Addr) (sLen sCap : Nat) (hle : sLen ≤ sCap) (A : Option Addr) (c : Nat) :
    (Builtin.append_ #[t, t] ty #[.slice b sLen sCap, .slice A 0 c]).run P w = .ok (.slice b sLen sCap) w := by
  cases b <;> cases A <;> simp [Builtin.append_, run_underlying ht, sizeOf, typeInfo, hi, Builtin.lenOf, Builtin.firstCells, hle, loadCells, loadCellsFrom, storeCells]

theorem append_ok (hp : HeapRep B F H ρ w) {t ty el : TypeId} {z : Nat × AV} (ht : P.underlying t = some (.slice el)) (hz : tyElem P el = some z) {xv yv d : AV} {news : List AV} (hx : VR H ρ F w xv x) (hy : VR H ρ F w yv y)
    (he : elems H z.1 yv = some news) (ha : aapp0 el z.1 H xv news = some (d, H')) :
    ∃ v w' ρ', (Builtin.append_ #[t, t] ty #[x, y]).run P w = .ok v w' ∧ Post B F H ρ w d H' v w' ρ' F := by
  obtain ⟨i, zv, hi, hzv, hcz, hokz, hpos, hby, hsz, hcl, hzs⟩ := tyElem_spec hz
  have hs0 : 0 < z.1 := by omega
  obtain ⟨A, c, us, rfl, hnc, hul, hu1, hum, hur⟩ := elems_spec hp hy he hs0
  cases xv with
  | e0 =>
    obtain ⟨b, rfl⟩ := hx.e0_inv
    simp only [aapp0] at ha
    split at ha
    case isFalse => cases ha
    rename_i hmax
    simp only [maxRow] at hmax
    cases news with
    | nil =>
      simp at ha
      obtain ⟨rfl, rfl⟩ := ha
      exact ⟨_, w, ρ, run_append_zero t ty el i ht hi b 0 0 (Nat.le_refl _) A c, Post.quiet hp (.imm (.e0 b))⟩
    | cons n0 ns =>
      simp only [Option.some.injEq, Prod.mk.injEq] at ha
      obtain ⟨rfl, rfl⟩ := ha
      have hm : 0 < (n0 :: ns).length := by simp
      obtain ⟨ad, rfl, hcell⟩ := hum hm
      generalize n0 :: ns = news at *
      have hbytes : news.length * i.bytes ≤ 140737488355328 := by
        have := Nat.mul_le_mul hmax hby
        exact Nat.le_trans this (by decide)
      have hlen : us.length = news.length * i.size := by rw [hsz]; exact hul
      have hge := grownCap_ge w news.length 0 el
      have hcm : grownCap w news.length 0 el ≤ maxLen := grownCap_le_maxLen w news.length 0 el (by simp only [maxLen]; omega)
      have hrun : (Builtin.append_ #[t, t] ty #[.slice b 0 0, .slice (some ad) news.length c]).run P w =
          .ok (.slice (some ⟨w.heap.size, 0, none⟩) news.length (grownCap w news.length 0 el)) (w.drew.alloc (.cells (us.toArray ++ Builtin.zeroCells zv.cells (grownCap w news.length 0 el - news.length)) el)) := by
        cases b with
        | none => exact run_append_nil w t ty el i zv ht hi hzv ad news.length c us hlen hcell hm (by omega) (by omega)
        | some b =>
          have := run_append_grow (P := P) w t ty el i zv ht hi hzv b 0 0 [] (by simp) (by simp) ad news.length c us hlen hcell (by omega) (by omega) (growslice_fits (by omega) (by rw [Nat.zero_add]; exact hbytes))
          simpa using this
      refine ⟨_, _, _, hrun, newRow_ok hp ?_ rfl ?_ hs0 hnc hu1 hur⟩
      · exact ((Below.refl w.heap.size w).drew).alloc (Nat.le_refl _) _
      · refine ⟨hul, .inr ⟨w.heap.size, _, _, rfl, hp.base, heap_alloc_new w.drew _, hge, hcm, ?_, ?_⟩⟩
        · simp only [Array.size_append, List.size_toArray, size_zeroCells, hzs, hul, ← Nat.add_mul]
          congr 1; omega
        · simp only [Array.toList_append]
          rw [← hul]; exact List.take_left
  | ref id g o n =>
    obtain ⟨A', c', rfl, hok⟩ := hx.ref_inv
    simp only [aapp0] at ha
    cases hob : H[id]? with
    | none => rw [hob] at ha; cases ha
    | some ob =>
      rw [hob] at ha
      cases ob with
      | row T' s' g' es =>
        simp only at ha
        split at ha
        case isFalse => cases ha
        rename_i hcond
        obtain ⟨rfl, rfl, rfl, rfl, rfl, hmax⟩ := hcond
        simp only [maxRow] at hmax
        simp only [Option.some.injEq, Prod.mk.injEq] at ha
        obtain ⟨rfl, rfl⟩ := ha
        obtain ⟨v0, us0, R⟩ := hp.row _ _ _ _ _ hob
        obtain ⟨ob', hob', _, hv'⟩ := hok
        have : ob' = .row T' z.1 g' es := by have := hob'.symm.trans hob; simpa using this
        subst this
        obtain ⟨_, hq⟩ := hv' z.1 g' es.length rfl
        obtain ⟨_, v1, hv1, A1, N1, cap1, A2, rfl, hx2, hoN, _, hA⟩ := hq rfl
        have : v0 = .slice A1 N1 cap1 := by have := R.at_.symm.trans hv1; simpa using this
        subst this
        have hN : N1 = es.length ∧ es.length ≤ cap1 := by
          rcases R.own.2 with ⟨hnil, h0⟩ | ⟨gb, cap, cur, hvv, _, _, hnc', _⟩
          · injection hnil with _ q2 q3; omega
          · injection hvv with _ q2 q3; exact ⟨q2, by omega⟩
        obtain ⟨rfl, hcap⟩ := hN
        injection hx2 with q1 _ q3
        have hA' : A' = A1 := by rw [q1]; exact hA rfl
        have hc' : cap1 = c' := by rw [q3]; rfl
        subst hA' hc'
        clear hA
        have hbytes : (es.length + news.length) * i.bytes ≤ 140737488355328 := by
          have := Nat.mul_le_mul hmax hby
          exact Nat.le_trans this (by decide)
        have main : ∃ v' w', (Builtin.append_ #[t, t] ty #[.slice A' es.length cap1, .slice A news.length c]).run P w = .ok v' w' ∧ w'.ownsRow B T' z.1 v' (es.length + news.length) (us0 ++ us) ∧
            w.grownBy w' (Value.slice A' es.length cap1).ownBlock ∧ (v'.ownBlock = (Value.slice A' es.length cap1).ownBlock ∨ v'.ownBlock = some w.heap.size) := by
          rcases Nat.eq_zero_or_pos news.length with hm | hm
          · have hn : news = [] := List.eq_nil_of_length_eq_zero hm
            subst hn
            have hu : us = [] := List.eq_nil_of_length_eq_zero (by simpa using hul)
            subst hu
            exact ⟨_, w, run_append_zero t ty T' i ht hi A' es.length cap1 hcap A c, by simpa using R.own, ⟨rfl, rfl, rfl, Nat.le_refl _, fun _ _ _ => rfl⟩, .inl rfl⟩
          · obtain ⟨ad, rfl, hcell⟩ := hum hm
            obtain ⟨v', w', h1, h2, h3, _, h5⟩ := run_append_own_at (P := P) w B t ty T' i zv z.1 i.bytes ht hi hzv hsz rfl hzs hs0 _ es.length us0 R.own ad news.length c us hul hcell hu1 (by simp only [maxLen]; omega) hbytes hp.base
            exact ⟨v', w', h1, h2, h3, h5⟩
        obtain ⟨v', w', hrun, hown, hg, hblk⟩ := main
        have eb : blk (.slice A' es.length cap1) = (Value.slice A' es.length cap1).ownBlock := by cases A' <;> rfl
        have eb' : blk v' = v'.ownBlock := ownsRow_blk hown
        have hvb : blk v' = blk (.slice A' es.length cap1) ∨ ∀ b, blk v' = some b → w.heap.size ≤ b := by
          rw [eb, eb']
          rcases hblk with h | h
          · exact .inl h
          · right; intro b hb; rw [h] at hb; injection hb with hb; omega
        have hw : ∀ b, F b → w'.heap[b]? = w.heap[b]? := fun b hb => hg.block b (hp.fb b hb) (fun e0 => R.free b (by rw [eb]; exact e0.symm) hb)
        have ev := Ev.setGen (ρ := ρ) (v' := v') (o' := .row T' z.1 (g' + 1) (es ++ news)) hob hp.len rfl (fun s1 g1 N1 hv => by
          simp [AO.view] at hv; exact ⟨z.1, g', es.length, rfl, by omega⟩)
        have hfree : ∀ b, blk v' = some b → ¬ F b := by
          intro b hb hF
          rcases hvb with h | h
          · exact R.free b (by rw [← h]; exact hb) hF
          · have := h b hb; have := hp.fb b hF; omega
        have hltρ : id < ρ.length := by rw [hp.len]; exact lt_of_some hob
        have key := hp.setObj (w' := w') (v' := v') (o' := .row T' z.1 (g' + 1) (es ++ news)) hob rfl rfl R.at_ (by rw [eb]; exact hg) hvb ev
          (fun T2 s2 g2 es2 hh => by
            injection hh with p1 p2 p3 p4; subst p1 p2 p3 p4
            refine ⟨us0 ++ us, by rw [getElem?_set_eq _ _ _ _ hltρ, if_pos rfl], by rw [List.length_append]; exact hown, hs0, fun q0 he0 => ?_, fun u hu => ?_, fun j cc u hc hu => ?_, hfree⟩
            · rcases List.mem_append.1 he0 with h | h
              · exact R.cells q0 h
              · exact hnc q0 h
            · rcases List.mem_append.1 hu with h | h
              · exact R.one u h
              · exact hu1 u h
            · rw [flat_append] at hc
              have hfl : (flat es).length = us0.length := by rw [flat_len R.cells, R.own.1]
              rcases Nat.lt_or_ge j us0.length with hj | hj
              · rw [List.getElem?_append_left (by omega)] at hc
                rw [List.getElem?_append_left hj] at hu
                exact (R.rel j cc u hc hu).mono (fun _ x => x) hw
              · rw [List.getElem?_append_right (by omega)] at hc
                rw [List.getElem?_append_right hj] at hu
                rw [hfl] at hc
                exact (hur _ cc u hc hu).mono (fun _ x => x) hw)
          (fun _ _ _ hh => by cases hh) (fun _ hh => by cases hh)
        refine ⟨v', w', ρ.set id v', hrun, ⟨key.1, ?_, ev, key.2, fun _ x => x, fun _ x => .inl x⟩⟩
        have hform : ∃ A2 cap2, v' = .slice A2 (es.length + news.length) cap2 := by
          rcases hown.2 with ⟨rfl, h0⟩ | ⟨gb, cap, cur, rfl, _⟩
          · exact ⟨none, 0, by rw [h0]⟩
          · exact ⟨_, _, rfl⟩
        obtain ⟨A2, cap2, rfl⟩ := hform
        refine .ref _ _ _ _ _ _ ⟨.row T' z.1 (g' + 1) (es ++ news), by rw [getElem?_set_eq _ _ _ _ (lt_of_some hob), if_pos rfl], rfl, fun s2 g2 N2 hv2 => ?_⟩
        simp only [AO.view, List.length_append, Option.some.injEq, Prod.mk.injEq] at hv2
        obtain ⟨rfl, rfl, rfl⟩ := hv2
        refine ⟨Nat.le_refl _, fun _ => ⟨by omega, _, by rw [getElem?_set_eq _ _ _ _ hltρ, if_pos rfl], A2, es.length + news.length, cap2, A2, rfl, rfl, by omega, fun hpos => ?_, fun _ => rfl⟩⟩
        rcases hown.2 with ⟨hh, h0⟩ | ⟨gb, cap, cur, hh, _⟩
        · omega
        · injection hh with h1; subst h1; exact ⟨_, rfl, by simp [Addr.add_zero']⟩
      | fz => cases ha
      | box => cases ha
      | rr => cases ha
      | obj => cases ha
      | rsv => cases ha
      | gone => cases ha
  | _ => cases ha

/-- Where a part of a slice begins. -/
theorem sub_mk {s l h len cap : Nat} {A : Option Addr} (hlh : l ≤ h) (hh : h ≤ len) (hc : len ≤ cap) (hA : 0 < len → ∃ ad, A = some ad) :
    SubSlice (.slice A len cap) s l (h - l) (.slice (if cap = l then A else A.map (·.add (l * s))) (h - l) (cap - l)) := by
  refine ⟨A, len, cap, _, rfl, rfl, by omega, fun hp => ?_, fun h0 => ?_⟩
  · obtain ⟨ad, rfl⟩ := hA (by omega)
    rw [if_neg (by omega)]
    exact ⟨ad, rfl, rfl⟩
  · subst h0
    split
    · rfl
    · cases A with
      | none => rfl
      | some ad => simp [Addr.add_zero']

theorem sub_sub {s o n l h c : Nat} {v : Value} {A : Option Addr} (hs : SubSlice v s o n (.slice A n c)) (hlh : l ≤ h) (hh : h ≤ n) (hnc : n ≤ c) :
    SubSlice v s (o + l) (h - l) (.slice (if c = l then A else A.map (·.add (l * s))) (h - l) (c - l)) := by
  obtain ⟨A0, N0, cap, A', rfl, hx, hon, hpos, h0⟩ := hs
  injection hx with e1 _ e3
  subst e1 e3
  refine ⟨A0, N0, cap, _, rfl, by rw [Nat.sub_sub], by omega, fun hp => ?_, fun hz => ?_⟩
  · obtain ⟨ad, rfl, rfl⟩ := hpos (by omega)
    rw [if_neg (by omega)]
    exact ⟨ad, rfl, by simp [add_add', Nat.add_mul]⟩
  · have e1 : o = 0 := by omega
    have e2 : l = 0 := by omega
    subst e1 e2
    rw [h0 rfl]
    split
    · rfl
    · cases A0 with
      | none => rfl
      | some ad => simp [Addr.add_zero']

theorem natOf_inv {v : AV} {n : Nat} (h : natOf v = some n) : ∃ k i, v = .int k i ∧ 0 ≤ i ∧ i = n := by
  cases v <;> simp [natOf] at h
  rename_i k i
  exact ⟨k, i, rfl, h.1, by omega⟩

/-- The bounds of a slice expression. -/
theorem bnds_ok {isS : Bool} {len cap l h : Nat} (hcap : len ≤ cap) {lo hi : Option OP} {lo' hi' : Option Value} (h1 : ∀ x, lo = some x → ∃ v, lo' = some v ∧ VR H ρ F w (x.ev e) v) (h1' : lo = none → lo' = none)
    (h2 : ∀ x, hi = some x → ∃ v, hi' = some v ∧ VR H ρ F w (x.ev e) v) (h2' : hi = none → hi' = none) (hb : bnds e len lo hi = some (l, h)) :
    (Instr.sliceBounds isS len cap lo' hi' none).run P w = .ok (l, h, cap) w ∧ l ≤ h ∧ h ≤ len := by
  unfold bnds at hb
  cases lo with
  | none =>
    have := h1' rfl; subst this
    cases hi with
    | none =>
      have := h2' rfl; subst this
      simp at hb
      obtain ⟨rfl, rfl⟩ := hb
      exact ⟨by simp [Instr.sliceBounds], Nat.zero_le _, Nat.le_refl _⟩
    | some x =>
      obtain ⟨v, rfl, hv⟩ := h2 x rfl
      cases hn : natOf (x.ev e) with
      | none => simp [hn] at hb
      | some n =>
        simp [hn] at hb
        obtain ⟨hle, rfl, rfl⟩ := hb
        obtain ⟨k, i, he, h0, hi'⟩ := natOf_inv hn
        rw [he] at hv
        have := hv.int_inv; subst this
        subst hi'
        exact ⟨by simp [Instr.sliceBounds, Instr.sliceBound, asIntOf]; omega, Nat.zero_le _, hle⟩
  | some y =>
    obtain ⟨u, rfl, hu⟩ := h1 y rfl
    cases hm : natOf (y.ev e) with
    | none => simp [hm] at hb
    | some m =>
      obtain ⟨k, i, he, h0, hi0⟩ := natOf_inv hm
      rw [he] at hu
      have := hu.int_inv; subst this
      subst hi0
      cases hi with
      | none =>
        have := h2' rfl; subst this
        simp [hm] at hb
        obtain ⟨hle, rfl, rfl⟩ := hb
        exact ⟨by simp [Instr.sliceBounds, Instr.sliceBound, asIntOf]; omega, hle, Nat.le_refl _⟩
      | some x =>
        obtain ⟨v, rfl, hv⟩ := h2 x rfl
        cases hn : natOf (x.ev e) with
        | none => simp [hm, hn] at hb
        | some n =>
          simp [hm, hn] at hb
          obtain ⟨⟨hle, hle2⟩, rfl, rfl⟩ := hb
          obtain ⟨k', i', he', h0', hi0'⟩ := natOf_inv hn
          rw [he'] at hv
          have := hv.int_inv; subst this
          subst hi0'
          refine ⟨?_, hle, hle2⟩
          have e1 : n ≤ cap := by omega
          simp [Instr.sliceBounds, Instr.sliceBound, asIntOf, e1, hle]

theorem bndc_ok {isS : Bool} {len ca cap l h : Nat} (hcap : len ≤ cap) (hca : ca ≤ cap) {lo hi : Option OP} {lo' hi' : Option Value} (h1 : ∀ x, lo = some x → ∃ v, lo' = some v ∧ VR H ρ F w (x.ev e) v) (h1' : lo = none → lo' = none)
    (h2 : ∀ x, hi = some x → ∃ v, hi' = some v ∧ VR H ρ F w (x.ev e) v) (h2' : hi = none → hi' = none) (hb : bndc e len ca lo hi = some (l, h)) :
    (Instr.sliceBounds isS len cap lo' hi' none).run P w = .ok (l, h, cap) w ∧ l ≤ h ∧ (h ≤ len ∨ h ≤ ca) := by
  unfold bndc at hb
  have int : ∀ (x : OP) (n : Nat) (v : Value), natOf (x.ev e) = some n → VR H ρ F w (x.ev e) v → ∃ k, v = .int k (n : Int) := by
    intro x n v hn hv
    obtain ⟨k, i, he, h0, hi'⟩ := natOf_inv hn
    rw [he] at hv
    exact ⟨k, by rw [hv.int_inv, hi']⟩
  obtain ⟨l0, hl0, hb⟩ := Option.bind_eq_some_iff.1 hb
  obtain ⟨h0, hh0, hb⟩ := Option.bind_eq_some_iff.1 hb
  split at hb
  case isFalse => cases hb
  rename_i hc
  simp only [Option.some.injEq, Prod.mk.injEq] at hb
  obtain ⟨rfl, rfl⟩ := hb
  have hle : h0 ≤ cap := by omega
  refine ⟨?_, hc⟩
  cases lo with
  | none =>
    have := h1' rfl; subst this
    simp only [Option.some.injEq] at hl0; subst hl0
    cases hi with
    | none =>
      have := h2' rfl; subst this
      simp only [Option.some.injEq] at hh0; subst hh0
      simp [Instr.sliceBounds]
    | some x =>
      obtain ⟨v, rfl, hv⟩ := h2 x rfl
      obtain ⟨k, rfl⟩ := int x h0 v hh0 hv
      simp [Instr.sliceBounds, Instr.sliceBound, asIntOf]; omega
  | some y =>
    obtain ⟨u, rfl, hu⟩ := h1 y rfl
    obtain ⟨k, rfl⟩ := int y l0 u hl0 hu
    have hl := hc.1
    cases hi with
    | none =>
      have := h2' rfl; subst this
      simp only [Option.some.injEq] at hh0; subst hh0
      simp [Instr.sliceBounds, Instr.sliceBound, asIntOf]; omega
    | some x =>
      obtain ⟨v, rfl, hv⟩ := h2 x rfl
      obtain ⟨k', rfl⟩ := int x h0 v hh0 hv
      simp [Instr.sliceBounds, Instr.sliceBound, asIntOf, hle, hl]

/-- the length of a slice is within its capacity -/
theorem len_cap (hp : HeapRep B F H ρ w) {xv : AV} {n : Nat} (hx : VR H ρ F w xv x) (hn : alen xv = some n) (hrd : rdb H xv = true) : ∃ A c, x = .slice A n c ∧ n ≤ c := by
  cases xv with
  | e0 => simp [alen] at hn; subst hn; obtain ⟨A, h⟩ := hx.e0_inv; exact ⟨A, 0, h, Nat.le_refl _⟩
  | nils => simp [alen] at hn; subst hn; cases hx with | imm hx => cases hx with | nils cap _ => exact ⟨none, cap, rfl, Nat.zero_le _⟩
  | en => simp [alen] at hn; subst hn; cases hx with | imm hx => cases hx with | en ad cap _ => exact ⟨some ad, cap, rfl, Nat.zero_le _⟩
  | sl s es =>
    simp [alen] at hn; subst hn
    have hI := hx.sl_inv
    cases hI with | sl _ _ A cap us hc => exact ⟨A, cap, rfl, hc⟩
  | ref id g o n' =>
    simp [alen] at hn; subst hn
    obtain ⟨A, c, h, hok⟩ := hx.ref_inv
    refine ⟨A, c, h, ?_⟩
    simp only [rdb] at hrd
    obtain ⟨⟨s0, es⟩, hr⟩ := Option.isSome_iff_exists.1 hrd
    obtain ⟨hon, v0, hv0, hsub⟩ := ref_read hp hok hr
    obtain ⟨A1, N1, cap1, A2, rfl, hx2, hoN, _⟩ := hsub
    rw [h] at hx2
    injection hx2 with _ _ q3
    have : N1 ≤ cap1 := by
      rcases rdRow_some hr with ⟨T, hob⟩ | hob
      · obtain ⟨v1, us, R⟩ := hp.row _ _ _ _ _ hob
        have : v1 = .slice A1 N1 cap1 := by have := R.at_.symm.trans hv0; simpa using this
        subst this
        rcases R.own.2 with ⟨hnil, h0⟩ | ⟨gb, cap, cur, hvv, _, _, hnc', _⟩
        · injection hnil with _ q2 q3; omega
        · injection hvv with _ q2 q3; omega
      · obtain ⟨v1, hv1, hI⟩ := hp.fz _ _ _ _ hob
        have : v1 = .slice A1 N1 cap1 := by have := hv1.symm.trans hv0; simpa using this
        subst this
        generalize hxx : Value.slice A1 N1 cap1 = xx at hI
        cases hI with
        | sl _ _ a0 cap0 us hc => injection hxx with _ q2 q3; omega
    omega
  | _ => simp [alen] at hn

theorem sub_sub' {s o n l h c : Nat} {v : Value} {A : Option Addr} (hs : SubSlice v s o n (.slice A n c)) (hlh : l ≤ h) (hc : n ≤ c) (hfit : ∀ (A0 : Option Addr) (N cap : Nat), v = .slice A0 N cap → (o + h ≤ N ∧ N ≤ cap ∧ (0 < N → ∃ ad, A0 = some ad))) (hz : h ≤ n ∨ o = 0 ∨ 0 < n) :
    SubSlice v s (o + l) (h - l) (.slice (if c = l then A else A.map (·.add (l * s))) (h - l) (c - l)) := by
  obtain ⟨A0, N0, cap, A', rfl, hx, hon, hpos, h0⟩ := hs
  obtain ⟨f1, f2, f3⟩ := hfit A0 N0 cap rfl
  injection hx with e1 _ e3
  subst e1 e3
  refine ⟨A0, N0, cap, _, rfl, by rw [Nat.sub_sub], by omega, fun hp => ?_, fun hz' => ?_⟩
  · have key : ∃ ad, A0 = some ad ∧ A = some (ad.add (o * s)) := by
      by_cases hn : 0 < n
      · exact hpos hn
      · have ho : o = 0 := by omega
        obtain ⟨ad, ha⟩ := f3 (by omega)
        refine ⟨ad, ha, ?_⟩
        rw [h0 ho, ha, ho]
        simp [Addr.add_zero']
    obtain ⟨ad, rfl, rfl⟩ := key
    rw [if_neg (by omega)]
    exact ⟨ad, rfl, by simp [add_add', Nat.add_mul]⟩
  · have e1 : o = 0 := by omega
    have e2 : l = 0 := by omega
    subst e1 e2
    split
    · exact h0 rfl
    · rw [h0 rfl]
      cases A0 with
      | none => rfl
      | some ad => simp [Addr.add_zero']

theorem slice_ok (hp : HeapRep B F H ρ w) {t el : TypeId} {z : Nat × AV} (ht : P.underlying t = some (.slice el)) (hz : tyElem P el = some z) {xv d : AV} {n l h : Nat} (hx : VR H ρ F w xv x) (hn : alen xv = some n)
    {lo hi : Option OP} {lo' hi' : Option Value} (h1 : ∀ x, lo = some x → ∃ v, lo' = some v ∧ VR H ρ F w (x.ev e) v) (h1' : lo = none → lo' = none)
    (h2 : ∀ x, hi = some x → ∃ v, hi' = some v ∧ VR H ρ F w (x.ev e) v) (h2' : hi = none → hi' = none) (hb : bndc e n (acap H n xv) lo hi = some (l, h)) (hs : aslc z.1 l h H xv = some d) :
    ∃ v, (Instr.sliceAt t x lo' hi' none).run P w = .ok v w ∧ VR H ρ F w d v := by
  obtain ⟨i, zv, hi0, hzv, hcz, hokz, hpos, hby, hsz, hcl, hzs⟩ := tyElem_spec hz
  have run0 : ∀ (A : Option Addr) (cap : Nat), x = .slice A n cap → n ≤ cap → acap H n xv ≤ cap → (Instr.sliceAt t x lo' hi' none).run P w = .ok (.slice (if cap = l then A else A.map (·.add (l * z.1))) (h - l) (cap - l)) w ∧ l ≤ h ∧ (h ≤ n ∨ h ≤ acap H n xv) := by
    intro A cap hx' hcap hca
    obtain ⟨hr, hl1, hl2⟩ := bndc_ok (P := P) (isS := true) hcap hca h1 h1' h2 h2' hb
    refine ⟨?_, hl1, hl2⟩
    simp [Instr.sliceAt, run_underlying ht, Instr.slice, hx', hr, sizeOf, typeInfo, hi0, hsz]
  have run : acap H n xv = n → ∀ (A : Option Addr) (cap : Nat), x = .slice A n cap → n ≤ cap → (Instr.sliceAt t x lo' hi' none).run P w = .ok (.slice (if cap = l then A else A.map (·.add (l * z.1))) (h - l) (cap - l)) w ∧ l ≤ h ∧ h ≤ n := by
    intro hq A cap hx' hcap
    obtain ⟨hr, hl1, hl2⟩ := run0 A cap hx' hcap (by omega)
    exact ⟨hr, hl1, by omega⟩
  cases xv with
  | e0 =>
    obtain ⟨A, rfl⟩ := hx.e0_inv
    simp [alen] at hn; subst hn
    simp [aslc] at hs; subst hs
    obtain ⟨hr, hl1, hl2⟩ := run rfl A 0 rfl (Nat.le_refl _)
    refine ⟨_, hr, ?_⟩
    have e1 : h = 0 := by omega
    have e2 : l = 0 := by omega
    subst e1 e2
    exact .imm (.e0 _)
  | nils =>
    simp [alen] at hn; subst hn
    simp [aslc] at hs; subst hs
    cases hx with
    | imm hx => cases hx with
      | nils cap hcap =>
        obtain ⟨hr, hl1, hl2⟩ := run rfl none cap rfl (Nat.zero_le _)
        refine ⟨_, hr, ?_⟩
        have e1 : h = 0 := by omega
        have e2 : l = 0 := by omega
        subst e1 e2
        exact .imm (by simpa using IR.nils cap hcap)
  | en =>
    simp [alen] at hn; subst hn
    simp [aslc] at hs; subst hs
    cases hx with
    | imm hx => cases hx with
      | en a cap hcap =>
        obtain ⟨hr, hl1, hl2⟩ := run rfl (some a) cap rfl (Nat.zero_le _)
        refine ⟨_, hr, ?_⟩
        have e1 : h = 0 := by omega
        have e2 : l = 0 := by omega
        subst e1 e2
        refine .imm ?_
        by_cases hc0 : cap = 0
        · simpa [hc0] using IR.en a 0 (Nat.zero_le _)
        · simpa [hc0] using IR.en (a.add 0) cap hcap
  | sl s' es =>
    simp [alen] at hn; subst hn
    simp [aslc] at hs
    obtain ⟨rfl, rfl⟩ := hs
    have hI := hx.sl_inv
    cases hI with
    | sl _ _ A cap us hc hcm hcl' hl' h1'' hm hr' =>
      obtain ⟨hr, hl1, hl2⟩ := run rfl A cap rfl hc
      refine ⟨_, hr, .imm (IR.sub hx.sl_inv (sub_mk hl1 hl2 hc (fun h0 => ?_)))⟩
      obtain ⟨ad, e1, _⟩ := hm (by intro e0; subst e0; simp at h0)
      exact ⟨ad, e1⟩
  | ref id g o n' =>
    simp [alen] at hn; subst hn
    obtain ⟨A, c, rfl, hok⟩ := hx.ref_inv
    simp only [aslc] at hs
    cases hrd : rdRow H id g with
    | none => rw [hrd] at hs; cases hs
    | some r =>
      obtain ⟨s0, es⟩ := r
      rw [hrd] at hs
      simp only [Option.bind_some] at hs
      split at hs
      case isFalse => cases hs
      rename_i hs0
      subst hs0
      injection hs with hs; subst hs
      obtain ⟨hon, v0, hv0, hsub⟩ := ref_read hp hok hrd
      have hrow : ∀ (A1 : Option Addr) (N1 cap1 : Nat), v0 = .slice A1 N1 cap1 → N1 = es.length ∧ N1 ≤ cap1 ∧ (0 < N1 → ∃ ad, A1 = some ad) := by
        intro A1 N1 cap1 hv1'
        subst hv1'
        rcases rdRow_some hrd with ⟨T, hob⟩ | hob
        · obtain ⟨v1, us, R⟩ := hp.row _ _ _ _ _ hob
          have : v1 = .slice A1 N1 cap1 := by have := R.at_.symm.trans hv0; simpa using this
          subst this
          rcases R.own.2 with ⟨hnil, h0⟩ | ⟨gb, cap, cur, hvv, _, _, hnc', _⟩
          · injection hnil with _ q2 q3; exact ⟨by omega, by omega, fun hh => by omega⟩
          · injection hvv with q1 q2 q3; exact ⟨q2, by omega, fun _ => ⟨_, q1⟩⟩
        · obtain ⟨v1, hv1, hI⟩ := hp.fz _ _ _ _ hob
          have : v1 = .slice A1 N1 cap1 := by have := hv1.symm.trans hv0; simpa using this
          subst this
          generalize hxx : Value.slice A1 N1 cap1 = xx at hI
          cases hI with
          | sl _ _ a0 cap0 us hc _ _ _ _ hm =>
            injection hxx with q1 q2 q3
            refine ⟨q2, by omega, fun hh => ?_⟩
            obtain ⟨ad, e1, _⟩ := hm (by intro e0; subst e0; simp at q2; omega)
            exact ⟨ad, by rw [q1, e1]⟩
      have hcap : n' ≤ c ∧ es.length - o ≤ c := by
        obtain ⟨A1, N1, cap1, A2, rfl, hx2, hoN, _⟩ := hsub
        injection hx2 with _ _ q3
        have := hrow A1 N1 cap1 rfl
        omega
      have hac : acap H n' (.ref id g o n') = if o = 0 ∨ 0 < n' then es.length - o else n' := by
        simp only [acap, hrd]
      obtain ⟨hr, hl1, hl2⟩ := run0 A c rfl hcap.1 (by rw [hac]; split <;> omega)
      rw [hac] at hl2
      have hz0 : h ≤ n' ∨ o = 0 ∨ 0 < n' := by split at hl2 <;> omega
      have hfit : o + h ≤ es.length := by split at hl2 <;> omega
      refine ⟨_, hr, .ref _ _ _ _ _ _ ?_⟩
      obtain ⟨ob, hob, hrs, hv⟩ := hok
      refine ⟨ob, hob, hrs, fun s1 g1 N1 hvw => ?_⟩
      obtain ⟨q1, q2⟩ := hv s1 g1 N1 hvw
      refine ⟨q1, fun eq => ?_⟩
      obtain ⟨q3, v1, q4, q5⟩ := q2 eq
      have es1 : s1 = z.1 := by
        rcases rdRow_some hrd with ⟨T, h1⟩ | h1 <;> rw [h1] at hob <;> injection hob with hob <;> subst hob <;> simp [AO.view] at hvw <;> exact hvw.1.symm
      subst es1
      have ev1 : v1 = v0 := by have := q4.symm.trans hv0; simpa using this
      subst ev1
      have eN : N1 = es.length := by
        rcases rdRow_some hrd with ⟨T, h1⟩ | h1 <;> rw [h1] at hob <;> injection hob with hob <;> subst hob <;> simp [AO.view] at hvw <;> omega
      exact ⟨by omega, v1, q4, sub_sub' q5 hl1 hcap.1 (fun A0 N cap hv => by have := hrow A0 N cap hv; exact ⟨by omega, this.2.1, this.2.2⟩) hz0⟩
  | _ => cases hs

theorem idx_ok (hp : HeapRep B F H ρ w) {t el : TypeId} {z : Nat × AV} (ht : P.underlying t = some (.slice el)) (hz : tyElem P el = some z) {xv d : AV} {k : IntKind} {i : Nat} (hx : VR H ρ F w xv x) (hs : aidx z.1 i H xv = some d) :
    ∃ v, (Instr.indexAt t x (.int k (i : Int))).run P w = .ok v w ∧ VR H ρ F w d v := by
  obtain ⟨inf, zv, hi0, hzv, hcz, hokz, hpos, hby, hsz, hcl, hzs⟩ := tyElem_spec hz
  have run : ∀ (ad : Addr) (n cap : Nat), x = .slice (some ad) n cap → i < n → (Instr.indexAt t x (.int k (i : Int))).run P w = .ok (.pointer (some (ad.add (i * z.1)))) w := by
    intro ad n cap hx' hin
    have hin' : (i : Int) < (n : Int) := by omega
    simp [Instr.indexAt, asIntOf, run_underlying ht, hx', sizeOf, typeInfo, hi0, hsz]
    intro hc; omega
  cases xv with
  | sl s' es =>
    simp only [aidx] at hs
    split at hs
    case isFalse => cases hs
    rename_i hs'; subst hs'
    cases hi : es[i]? with
    | none => rw [hi] at hs; cases hs
    | some el0 =>
      rw [hi] at hs; simp at hs; subst hs
      cases hx.sl_inv with
      | sl _ _ A cap us hc hcm hcl' hl' h1'' hm hr' =>
        obtain ⟨ad, rfl, hF, hcell⟩ := hm (by intro e0; subst e0; simp at hi)
        refine ⟨_, run ad _ _ rfl (lt_of_some hi), ?_⟩
        have hlen : ((us.drop (i * z.1)).take z.1).length = z.1 := by
          rw [List.length_take, List.length_drop, ← hl', flat_len hcl', Nat.min_eq_left]
          have := Nat.mul_le_mul_right z.1 (Nat.succ_le_of_lt (lt_of_some hi))
          rw [Nat.succ_mul] at this; omega
        have := IR.cptr (F := F) (w := w) el0 0 (ad.add (i * z.1)) ((us.drop (i * z.1)).take z.1) (by rw [add_block]; exact hF) (by rw [hcl' _ (List.mem_of_getElem? hi), hlen]) (fun u hu => h1'' u (mem_of_sub hu))
          (fun j u hu => by rw [add_add']; exact hcell _ u (getElem?_sub _ _ _ _ hu).2)
          (fun j c u hc hu => by
            obtain ⟨hj, hu'⟩ := getElem?_sub _ _ _ _ hu
            exact hr' _ c u (by rw [flat_get hcl' hi hj]; exact hc) hu')
        rw [Addr.add_zero'] at this
        exact .imm this
  | ref id g o n =>
    obtain ⟨A, c, rfl, hok⟩ := hx.ref_inv
    simp only [aidx] at hs
    cases hrd : rdRow H id g with
    | none => rw [hrd] at hs; cases hs
    | some r =>
      obtain ⟨s0, es⟩ := r
      rw [hrd] at hs
      simp only [Option.bind_some] at hs
      split at hs
      case isFalse => cases hs
      rename_i hcond
      obtain ⟨rfl, hin⟩ := hcond
      injection hs with hs; subst hs
      obtain ⟨hon, v0, hv0, A1, N1, cap1, A2, rfl, hx2, hoN, hpos', _⟩ := ref_read hp hok hrd
      injection hx2 with e1 _ e3
      subst e1
      obtain ⟨ad, rfl, rfl⟩ := hpos' (by omega)
      obtain ⟨ob, hob, hrs, hv⟩ := hok
      refine ⟨_, run _ _ _ rfl hin, .rptr _ _ _ _ _ ⟨ob, hob, hrs, fun s1 g1 N2 hvw => ?_⟩⟩
      obtain ⟨q1, q2⟩ := hv s1 g1 N2 hvw
      refine ⟨q1, fun eq => ?_⟩
      obtain ⟨q3, _⟩ := q2 eq
      have es1 : s1 = z.1 := by
        rcases rdRow_some hrd with ⟨T, h1⟩ | h1 <;> rw [h1] at hob <;> injection hob with hob <;> subst hob <;> simp [AO.view] at hvw <;> exact hvw.1.symm
      subst es1
      exact ⟨by omega, _, hv0, ad, N1, cap1, rfl, by omega, by rw [add_add', Nat.add_mul]; simp⟩
  | _ => cases hs

end
end Go.PI
