/- strings.Builder in the caller's frame, third part: WriteString and String. No condition. -/
import Derived.Test.YteinopeeicjnjaaDoorBld2
namespace Go.Proofs.YteinopeeicjnjaaDoor
open Go.PI Go.Shelf Go.Proofs
set_option maxRecDepth 100000
set_option maxHeartbeats 8000000
abbrev L166 : Lays.n166 Tryd.prog Tryd.lays156_ren := { Tryd.lays156 with }
abbrev L240 : Lays.n240 Tryd.prog Tryd.lays156_ren := { Tryd.lays156 with }
abbrev bs8 (s : List UInt8) : List AV := s.map fun b => .int .u8 b.toNat
def okP (id : Nat) : AV → Bool
  | .nilp => true
  | .bptr k 0 => k == id
  | _ => false
/-- WriteString -/
def bwX (H : List AO) : List AV → Option (AV × List AO)
  | [.bptr id 0, .str s] => match H[id]? with
    | some (.box 47 2 (.agg [p, .ref rid g 0 n])) => match H[rid]? with
      | some (.row 5 1 g' es) => if g' = g ∧ n = es.length ∧ es.length + s.length ≤ maxRow ∧ okP id p = true then
          some (.tup [.int .i64 s.length, .top], ((H.set id (.box 47 2 (.agg [.bptr id 0, .ref rid g 0 n]))).set rid (.row 5 1 (g + 1) (es ++ bs8 s))).set id (.box 47 2 (.agg [.bptr id 0, .ref rid (g + 1) 0 (n + s.length)]))) else none
      | _ => none
    | _ => none
  | _ => none
theorem flat_bs8 (s : List UInt8) : flat (bs8 s) = bs8 s := by
  induction s with
  | nil => rfl
  | cons b s ih =>
    simp only [flat, bs8, List.map_cons, List.flatMap_cons] at ih ⊢
    rw [ih]; rfl
theorem strCells_list (s : List UInt8) : Lib.strCells ⟨s.toArray⟩ = s.map fun b => Value.int .u8 b.toNat := by simp [Lib.strCells]
theorem bw_ok {args : List AV} {H H' : List AO} {res : AV} (h : bwX H args = some (res, H')) : FnOkO cfg Tryd.prog 19 args H res H' := by
  unfold bwX at h
  split at h
  case h_2 => cases h
  rename_i id s
  split at h
  case h_2 => cases h
  rename_i p rid g n hob
  split at h
  case h_2 => cases h
  rename_i g' es hrow
  split at h
  case isFalse => cases h
  rename_i hc
  obtain ⟨rfl, rfl, hmax, hokp⟩ := hc
  simp only [maxRow] at hmax
  simp only [Option.some.injEq, Prod.mk.injEq] at h
  obtain ⟨rfl, rfl⟩ := h
  intro B F ρ w vs hp hg hl hr
  match vs, hl with
  | [x0, x1], _ =>
    have h0 := hr 0 _ x0 rfl rfl
    have h1 := (hr 1 _ x1 rfl rfl).str_inv
    subst h1
    have hne : rid ≠ id := fun e => by subst e; rw [hob] at hrow; cases hrow
    obtain ⟨b, us, R⟩ := hp.box _ _ _ _ hob
    obtain ⟨ad, rfl, ob, hob', hrs0, hbv⟩ := h0.bptr_inv
    have : ob = .box 47 2 (.agg [p, .ref rid g' 0 es.length]) := by have := hob'.symm.trans hob; simpa using this
    subst this
    obtain ⟨b', hb1, hb2⟩ := hbv 2 0 1 rfl rfl
    have : b' = b := by have := hb1.symm.trans R.at_; simpa using this
    subst this
    injection hb2 with hb2; injection hb2 with hb2; subst hb2
    match us, R.len with
    | [u0, u1], _ =>
      have hu0 := R.rel 0 _ u0 rfl rfl
      have hu1 := R.rel 1 _ u1 rfl rfl
      have own0 : w.heap[b']? = some (.cells #[u0, u1] 47 (0, 0)) := R.own
      have hself : VR H ρ F w (.bptr id 0) (.pointer (some ⟨b', 0, none⟩)) := h0
      -- copyCheck
      have step1 : ∃ w1, Calls Tryd.prog 33 #[.pointer (some ⟨b', 0, none⟩)] w (fun e w' => e = .returned (.tuple #[]) ∧ w' = w1) ∧
          HeapRep B F (H.set id (.box 47 2 (.agg [.bptr id 0, .ref rid g' 0 es.length]))) ρ w1 ∧ Ev H ρ (H.set id (.box 47 2 (.agg [.bptr id 0, .ref rid g' 0 es.length]))) ρ ∧ Kept B F w w1 ∧
          w1.heap[b']? = some (.cells #[.pointer (some ⟨b', 0, none⟩), u1] 47 (0, 0)) := by
        have c0 : w.cell? ⟨b', 0, none⟩ = some u0 := by rw [Lib.cell_of_heap own0]; rfl
        unfold okP at hokp
        split at hokp
        · have e0 : u0 = .pointer none := by cases hu0 with | imm h => cases h; rfl
          subst e0
          obtain ⟨k1, k2, k3, k4, _⟩ := boxSet hp hob R (o := 0) (by omega) hself rfl
          refine ⟨_, Any.Builder_copyCheck_fresh L240 Tryd.Builder_Extra_156.toX72 b' w c0 (by simp [World.shape?, own0]; rfl) (Lib.frozen_of_heap own0 0), k1, k2, k3, k4⟩
        · rename_i k
          have hk : k = id := by simpa using hokp
          subst hk
          obtain ⟨ad2, e1, ob2, hob2, _, hbv2⟩ := hu0.bptr_inv
          have : ob2 = .box 47 2 (.agg [.bptr k 0, .ref rid g' 0 es.length]) := by have := hob2.symm.trans hob; simpa using this
          subst this
          obtain ⟨b2, hb1', hb2'⟩ := hbv2 2 0 1 rfl rfl
          have : b2 = b' := by have := hb1'.symm.trans R.at_; simpa using this
          subst this
          subst hb2'
          have hs : H.set k (.box 47 2 (.agg [.bptr k 0, .ref rid g' 0 es.length])) = H := set_self hob
          rw [hs]
          exact ⟨w, Any.Builder_copyCheck_used L240 Tryd.Builder_Extra_156.toX72 b2 w c0, hp, Ev.refl _ _, Kept.refl _ _ _, own0⟩
        · cases hokp
      obtain ⟨w1, hcc, hp1, ev1, kept1, own1⟩ := step1
      -- the append
      generalize hH1 : H.set id (.box 47 2 (.agg [.bptr id 0, .ref rid g' 0 es.length])) = H1 at hp1 ev1
      have hlt : id < H.length := lt_of_some hob
      have hid1 : H1[id]? = some (.box 47 2 (.agg [.bptr id 0, .ref rid g' 0 es.length])) := by rw [← hH1, List.getElem?_set_self hlt]
      have hrow1 : H1[rid]? = some (.row 5 1 g' es) := by rw [← hH1, List.getElem?_set_ne (Ne.symm hne)]; exact hrow
      have hu1' : VR H1 ρ F w1 (.ref rid g' 0 es.length) u1 := hu1.mono ev1 (fun _ x => x) (fun q hq => kept1.block q (hp.fb q hq) (.inr hq))
      obtain ⟨us2, R1⟩ := ref_row hp1 hrow1 hu1'
      obtain ⟨i0, hi, hz0, hz1, hz2⟩ := info_parts Tryd.Builder_Extra_156.infoByte
      have hsz : (⟨s.toArray⟩ : ByteArray).size = s.length := ba_size s
      obtain ⟨v', w2, hrun, hown, hgr, hblk⟩ := run_append_own_string_at (P := Tryd.prog) w1 B _ _ (Tryd.lays156_ren.t 37) _ i0 L166.t37 L166.t9 hi hz0 hz1 hz2 u1 es.length us2 R1.own ⟨s.toArray⟩ (by rw [hsz]; unfold maxLen; omega) (by rw [hsz]; omega) hp1.base
      rw [hsz] at hown
      replace hown : w2.ownsRow B 5 1 v' (es.length + s.length) (us2 ++ Lib.strCells ⟨s.toArray⟩) := hown
      obtain ⟨hp2, ev2, kept2, vref⟩ := rowApp hp1 hrow1 R1 (news := bs8 s) (by simpa [bs8] using hown) hgr hblk (by simp [bs8, AV.cells]) (by rw [strCells_list]; simp [Value.oneCell']) (fun j c u hc hu => by
        rw [flat_bs8] at hc
        rw [strCells_list] at hu
        simp only [bs8, List.getElem?_map] at hc hu
        cases hj : s[j]? with
        | none => rw [hj] at hc; cases hc
        | some q =>
          rw [hj] at hc hu
          simp at hc hu
          subst hc hu
          exact .int _ _)
      have hnb : ∀ k, blk u1 = some k → k ≠ b' := by
        rintro k hk rfl
        exact hne (hp1.dist rid id _ _ u1 (.pointer (some ⟨k, 0, none⟩)) k hrow1 hid1 rfl rfl R1.at_ R.at_ hk rfl)
      have eb : blk u1 = u1.ownBlock := ownsRow_blk R1.own
      have hb1lt : b' < w1.heap.size := heap_lt own1
      have own2 : w2.heap[b']? = some (.cells #[.pointer (some ⟨b', 0, none⟩), u1] 47 (0, 0)) := by
        rw [hgr.block b' hb1lt (fun e => hnb b' (by rw [eb]; exact e.symm) rfl)]; exact own1
      have hlen2 : (bs8 s).length = s.length := by simp [bs8]
      rw [hlen2] at vref
      have hid2 : (H1.set rid (.row 5 1 (g' + 1) (es ++ bs8 s)))[id]? = some (.box 47 2 (.agg [.bptr id 0, .ref rid g' 0 es.length])) := by rw [List.getElem?_set_ne hne]; exact hid1
      obtain ⟨b3, us3, R3⟩ := hp2.box _ _ _ _ hid2
      have : b3 = b' := by
        have h3 := R3.at_
        rw [List.getElem?_set_ne hne] at h3
        have := h3.symm.trans R.at_; simpa using this
      subst this
      have hv' : ∃ A n c, v' = .slice A n c := by
        rcases hown.2 with ⟨rfl, h0⟩ | ⟨gb, cap, cur, rfl, _⟩
        · exact ⟨_, _, _, rfl⟩
        · exact ⟨_, _, _, rfl⟩
      have hvu : ∃ A n c, u1 = .slice A n c := by
        rcases R1.own.2 with ⟨e, h0⟩ | ⟨gb, cap, cur, e, _⟩
        · exact ⟨_, _, _, e⟩
        · exact ⟨_, _, _, e⟩
      have h1c : v'.oneCell' = true := by obtain ⟨_, _, _, rfl⟩ := hv'; rfl
      obtain ⟨hp3, ev3, kept3, _, _⟩ := boxSet hp2 hid2 R3 (o := 1) (by omega) vref h1c
      refine (ws_calls L166 Tryd.Builder_Extra_156 b3 u1 v' ⟨s.toArray⟩ w w1 w2 hcc own1 hrun own2 hv' hvu).mono ?_
      rintro e w' ⟨rfl, rfl⟩
      subst hH1
      refine ⟨_, _, F, rfl, hp3, ?_, ev1.trans (ev2.trans ev3), kept1.trans (kept2.trans kept3 (fun _ x => x)) (fun _ x => x), fun _ x => x, fun _ x => .inl x⟩
      rw [hsz]
      refine .imm (.tup _ [.int .i64 s.length, .nilIface] rfl (fun j c u hc hu => ?_))
      match j, hc, hu with
      | 0, hc, hu => simp at hc hu; subst hc hu; exact .int _ _
      | 1, hc, hu => simp at hc hu; subst hc hu; exact .top _
      | j + 2, hc, hu => simp at hc
def bytesX : List AV → Option (List UInt8)
  | [] => some []
  | .int .u8 n :: r => if ((UInt8.ofNat n.toNat).toNat : Int) = n then (bytesX r).map fun l => UInt8.ofNat n.toNat :: l else none
  | _ :: _ => none
theorem bytesX_map : ∀ l : List UInt8, bytesX (bs8 l) = some l
  | [] => rfl
  | b :: l => by
    have := bytesX_map l
    simp only [bs8, List.map_cons] at this ⊢
    simp [bytesX, this]
theorem bytesX_inv : ∀ {es : List AV} {l : List UInt8}, bytesX es = some l → es = bs8 l
  | [], l, h => by simp [bytesX] at h; subst h; rfl
  | e :: es, l, h => by
    unfold bytesX at h
    split at h
    · cases ‹_ = []›
    · rename_i n r h2
      cases h2
      split at h
      · rename_i hn
        obtain ⟨l', hl', rfl⟩ := Option.map_eq_some_iff.1 h
        rw [bytesX_inv hl']
        simp only [bs8, List.map_cons, hn]
      · cases h
    · cases h
/-- String -/
def stX (H : List AO) : List AV → Option (AV × List AO)
  | [.bptr id 0] => match H[id]? with
    | some (.box 47 2 (.agg [_, .ref rid g 0 n])) => match H[rid]? with
      | some (.row 5 1 g' es) => if g' = g ∧ n = es.length then (bytesX es).map fun l => (.str l, H.set rid (.row 5 1 (g + 1) [])) else none
      | _ => none
    | _ => none
  | _ => none
theorem st_ok {args : List AV} {H H' : List AO} {res : AV} (h : stX H args = some (res, H')) : FnOkO cfg Tryd.prog 21 args H res H' := by
  unfold stX at h
  split at h
  case h_2 => cases h
  rename_i id
  split at h
  case h_2 => cases h
  rename_i p rid g n hob
  split at h
  case h_2 => cases h
  rename_i g' es hrow
  split at h
  case isFalse => cases h
  rename_i hc
  obtain ⟨rfl, rfl⟩ := hc
  obtain ⟨l, hl0, h⟩ := Option.map_eq_some_iff.1 h
  simp only [Prod.mk.injEq] at h
  obtain ⟨rfl, rfl⟩ := h
  obtain rfl := bytesX_inv hl0
  intro B F ρ w vs hp hg hl hr
  match vs, hl with
  | [x0], _ =>
    have h0 := hr 0 _ x0 rfl rfl
    obtain ⟨b, us, R⟩ := hp.box _ _ _ _ hob
    obtain ⟨ad, rfl, ob, hob', hrs0, hbv⟩ := h0.bptr_inv
    have : ob = .box 47 2 (.agg [p, .ref rid g' 0 (bs8 l).length]) := by have := hob'.symm.trans hob; simpa using this
    subst this
    obtain ⟨b', hb1, hb2⟩ := hbv 2 0 1 rfl rfl
    have : b' = b := by have := hb1.symm.trans R.at_; simpa using this
    subst this
    injection hb2 with hb2; injection hb2 with hb2; subst hb2
    match us, R.len with
    | [u0, u1], _ =>
      have hu1 := R.rel 1 _ u1 rfl rfl
      have own0 : w.heap[b']? = some (.cells #[u0, u1] 47 (0, 0)) := R.own
      obtain ⟨us2, R1⟩ := ref_row hp hrow hu1
      have hll : (bs8 l).length = l.length := by simp [bs8]
      have hcalls : Calls Tryd.prog 21 #[.pointer (some ⟨b', 0, none⟩)] w fun e w' => e = .returned (.string ⟨l.toArray⟩) ∧ w.grownBy w' (blk u1) := by
        rcases R1.own.2 with ⟨hv, hn⟩ | ⟨gb, cap, cur, hv, hbg, hgb, hnc, hcm, hcs, htk⟩
        · have hle : l = [] := List.eq_nil_of_length_eq_zero (by omega)
          subst hv hle
          refine (Any.Builder_String_nil Tryd.lays169 Tryd.Builder_Extra_169 w.heap.size b' u0 w own0).mono ?_
          rintro e w' ⟨rfl, hb⟩
          exact ⟨rfl, ⟨hb.os, hb.tape, hb.output, hb.size, fun k hk _ => hb.block k hk⟩⟩
        · subst hv
          by_cases hle : l = []
          · subst hle
            by_cases hc0 : cap = 0
            · subst hc0
              refine (Any.Builder_String_noroom Tryd.lays169 Tryd.Builder_Extra_169 w.heap.size b' gb u0 cur w (Nat.le_refl _) own0 hgb).mono ?_
              rintro e w' ⟨rfl, hb⟩
              exact ⟨rfl, ⟨hb.os, hb.tape, hb.output, hb.size, fun k hk _ => hb.block k hk⟩⟩
            · refine (Any.Builder_String_room Tryd.lays169 Tryd.Builder_Extra_169 w.heap.size b' gb cap u0 w hc0 own0).mono ?_
              rintro e w' ⟨rfl, hb⟩
              exact ⟨rfl, ⟨hb.os, hb.tape, hb.output, hb.size, fun k hk _ => hb.block k hk⟩⟩
          · rw [hll] at own0 hnc
            have hus2 : us2 = l.map fun b => Value.int .u8 b.toNat := by
              apply List.ext_getElem?
              intro j
              have hul : us2.length = l.length := by have := R1.own.1; simpa [bs8] using this
              rcases Nat.lt_or_ge j l.length with hj | hj
              · have := R1.rel j (.int .u8 l[j].toNat) us2[j] (by rw [flat_bs8]; simp [bs8, hj]) (List.getElem?_eq_getElem (by omega))
                rw [List.getElem?_eq_getElem (by omega)]
                generalize us2[j] = q at this
                cases this
                simp [hj]
              · rw [List.getElem?_eq_none (by omega), List.getElem?_eq_none (by simpa using hj)]
            refine (st_calls Tryd.lays169 Tryd.Builder_Extra_169 b' gb cap u0 cur l w hle own0 hgb hnc hcm (by simpa using hcs) (fun j x hx => ?_)).mono ?_
            · have := R1.own.cells (g := gb) rfl j (.int .u8 x.toNat) (by rw [hus2]; simp [hx])
              exact this
            · rintro e w' ⟨rfl, rfl⟩
              refine ⟨rfl, ?_⟩
              have hl0 : l.length ≠ 0 := by simpa using hle
              unfold World.freeze
              rw [if_neg hl0]
              exact ⟨rfl, rfl, rfl, by simp, fun k hk hne => by
                have : gb ≠ k := fun e => hne (by rw [e]; rfl)
                simp only [Array.getElem?_modify, if_neg this]
                rfl⟩
      refine hcalls.mono ?_
      rintro e w' ⟨rfl, hgr⟩
      have ev := Ev.setGen (ρ := ρ) (v' := .slice none 0 0) (o' := .row 5 1 (g' + 1) []) hrow hp.len rfl (fun s1 g1 N1 hv => by
        simp [AO.view] at hv; exact ⟨1, g', (bs8 l).length, rfl, by omega⟩)
      have hltρ : rid < ρ.length := by rw [hp.len]; exact lt_of_some hrow
      have key := hp.setObj (w' := w') (v' := .slice none 0 0) (o' := .row 5 1 (g' + 1) []) hrow rfl rfl R1.at_ hgr (.inr (fun b hb => by cases hb)) ev
        (fun T2 s2 g2 es2 hh => by
          injection hh with p1 p2 p3 p4; subst p1 p2 p3 p4
          exact ⟨[], by rw [getElem?_set_eq _ _ _ _ hltρ, if_pos rfl], World.ownsRow_nil w' B 5 1, by omega, (by simp), (by simp), (fun j c u hc => by simp [flat] at hc), fun b hb => by cases hb⟩)
        (fun _ _ _ hh => by cases hh) (fun _ hh => by cases hh)
      exact ⟨_, _, F, rfl, key.1, .imm (.str l), ev, key.2, fun _ x => x, fun _ x => .inl x⟩
end Go.Proofs.YteinopeeicjnjaaDoor
