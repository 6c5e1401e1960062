/- Every operation but a call of a Go function, put together: what the interpreter says of it is what the model does. No condition. -/
import Derived.Test.YtpphfbfmoipoaaaDoorPi10b
namespace Go.PI
open Go.RowKit

section
variable {P : Program} {C : Cfg} {im : Md} {B N : Nat} {F F' : Nat → Prop} {H H' : List AO} {ρ ρ' : List Value} {w w' : World} {x y : Value} {e : Env} {a : Act}

theorem opds_ok (env : ∀ {x : Operand} {y : OP}, cOpd C x = some y → VR H ρ F w (y.ev e) (a.eval x)) : ∀ (xs : List Operand) (ys : List OP), cOpds C xs = some ys →
    ys.length = xs.length ∧ ∀ (j : Nat) (c : AV) (u : Value), (ys.map fun y => y.ev e)[j]? = some c → (xs.map a.eval)[j]? = some u → VR H ρ F w c u
  | [], ys, h => by simp [cOpds] at h; subst h; exact ⟨rfl, fun j c u hc => by simp at hc⟩
  | x :: r, ys, h => by
    simp only [cOpds] at h
    obtain ⟨y, hy, h⟩ := Option.bind_eq_some_iff.1 h
    obtain ⟨l, hl, rfl⟩ := Option.map_eq_some_iff.1 h
    obtain ⟨h1, h2⟩ := opds_ok env r l hl
    refine ⟨by simp [h1], fun j c u hc hu => ?_⟩
    cases j with
    | zero => simp at hc hu; subst hc hu; exact env hy
    | succ j => simp only [List.map_cons, List.getElem?_cons_succ] at hc hu; exact h2 j c u hc hu

theorem opt_ok (env : ∀ {x : Operand} {y : OP}, cOpd C x = some y → VR H ρ F w (y.ev e) (a.eval x)) {lo : Option Operand} {lo' : Option OP} (h : cOpt C lo = some lo') :
    (∀ x, lo' = some x → ∃ v, lo.map a.eval = some v ∧ VR H ρ F w (x.ev e) v) ∧ (lo' = none → lo.map a.eval = none) := by
  cases lo with
  | none => simp [cOpt] at h; subst h; exact ⟨(fun x hx => by cases hx), fun _ => rfl⟩
  | some x =>
    simp only [cOpt] at h
    obtain ⟨y, hy, rfl⟩ := Option.map_eq_some_iff.1 h
    exact ⟨(fun x' hx => by injection hx with hx; subst hx; exact ⟨_, rfl, env hy⟩), (fun hn => by cases hn)⟩

theorem cBuiltin_inv {b : Builtin} {ts : Array TypeId} {args : List OP} {iop : IOp} (h : cBuiltin P b ts args = some iop) :
    (∃ x t, b = .len ∧ args = [x] ∧ ts[0]? = some t ∧ ((iop = .len x ∧ ∃ el, P.underlying t = some (.slice el)) ∨ (iop = .slen x ∧ P.underlying t = some .string))) ∨
    (∃ x y t el z, b = .append ∧ args = [x, y] ∧ ts = #[t, t] ∧ P.underlying t = some (.slice el) ∧ tyElem P el = some z ∧ iop = .app el z.1 x y) ∨
    (∃ x y, b = .max ∧ args = [x, y] ∧ iop = .mx x y) ∨ (∃ x y, b = .min ∧ args = [x, y] ∧ iop = .mn x y) ∨
    (∃ x t el z, b = .clear ∧ args = [x] ∧ ts[0]? = some t ∧ P.underlying t = some (.slice el) ∧ tyElem P el = some z ∧ iop = .clr z.1 z.2 x) := by
  cases b with
  | len =>
    match args, h with
    | [x], h =>
      simp only [cBuiltin] at h
      obtain ⟨t, ht, h⟩ := Option.bind_eq_some_iff.1 h
      split at h
      · rename_i el hd; injection h with h; exact .inl ⟨x, t, rfl, rfl, ht, .inl ⟨h.symm, el, hd⟩⟩
      · rename_i hd; injection h with h; exact .inl ⟨x, t, rfl, rfl, ht, .inr ⟨h.symm, hd⟩⟩
      · cases h
  | append =>
    match args, h with
    | [x, y], h =>
      simp only [cBuiltin] at h
      obtain ⟨t, ht, h⟩ := Option.bind_eq_some_iff.1 h
      obtain ⟨u, hu, h⟩ := Option.bind_eq_some_iff.1 h
      split at h
      · rename_i el hd
        split at h
        case isFalse => cases h
        rename_i hcond
        obtain ⟨z, hz, h⟩ := Option.map_eq_some_iff.1 h
        obtain ⟨rfl, hsz⟩ := hcond
        refine .inr (.inl ⟨x, y, t, el, z, rfl, rfl, ?_, hd, hz, h.symm⟩)
        obtain ⟨l⟩ := ts
        match l, hsz with
        | [p, q], _ => simp at ht hu; subst ht hu; rfl
      · cases h
  | max =>
    match args, h with
    | [x, y], h => simp [cBuiltin] at h; exact .inr (.inr (.inl ⟨x, y, rfl, rfl, h.symm⟩))
  | min =>
    match args, h with
    | [x, y], h => simp [cBuiltin] at h; exact .inr (.inr (.inr (.inl ⟨x, y, rfl, rfl, h.symm⟩)))
  | clear =>
    match args, h with
    | [x], h =>
      simp only [cBuiltin] at h
      obtain ⟨t, ht, h⟩ := Option.bind_eq_some_iff.1 h
      split at h
      · rename_i el hd
        obtain ⟨z, hz, h⟩ := Option.map_eq_some_iff.1 h
        exact .inr (.inr (.inr (.inr ⟨x, t, el, z, rfl, rfl, ht, hd, hz, h.symm⟩)))
      · cases h
  | _ => simp [cBuiltin] at h

theorem fill_mono {place place' : Nat → Option (Nat × Nat)} (h : ∀ i p, place i = some p → place' i = some p) : ∀ (l : List (Nat × Value)) (cs r : Array Value), Instr.fill place cs l = some r → Instr.fill place' cs l = some r
  | [], cs, r, hf => hf
  | (i, v) :: rest, cs, r, hf => by
    simp only [Instr.fill] at hf ⊢
    cases hp : place i with
    | none => rw [hp] at hf; cases hf
    | some p =>
      rw [hp] at hf
      rw [h i p hp]
      simp only at hf ⊢
      split at hf
      · cases hf
      · rename_i hn
        rw [if_neg hn]
        exact fill_mono h rest _ r hf

theorem conv1_plain {v : AV} (h : plainE v = true) : conv1 H v = v ∧ refs1 v = [] ∧ okCells v = true := by
  have one : ∀ c : AV, plain c = true → conv0 H c = c ∧ refs0 c = [] := by
    intro c hc
    cases c <;> simp [plain] at hc <;> exact ⟨rfl, rfl⟩
  cases v with
  | agg cs =>
    simp only [plainE, List.all_eq_true] at h
    refine ⟨?_, ?_, rfl⟩
    · simp only [conv1]
      congr 1
      have : cs.map (conv0 H) = cs.map id := List.map_congr_left (fun c hc => (one c (h c hc)).1)
      simpa using this
    · simp only [refs1, List.flatMap_eq_nil_iff]
      exact fun c hc => (one c (h c hc)).2
  | bool b => exact ⟨rfl, rfl, rfl⟩
  | int k n => exact ⟨rfl, rfl, rfl⟩
  | str l => exact ⟨rfl, rfl, rfl⟩
  | _ => simp [plainE, plain] at h

theorem fillPl_fillRow {s : Nat} {e : Env} (H : List AO) : ∀ (ps : List (Nat × OP)) (es ds : List AV), fillPl s e es ps = some ds → fillRow s e H es ps = some ds ∧ rowRefs e ps = []
  | [], es, ds, h => ⟨h, rfl⟩
  | (i, x) :: r, es, ds, h => by
    simp only [fillPl] at h
    split at h
    · rename_i hc
      obtain ⟨h1, h2, h3⟩ := conv1_plain (H := H) hc.1
      obtain ⟨g1, g2⟩ := fillPl_fillRow H r _ ds h
      refine ⟨?_, by simp [rowRefs, h2, g2]⟩
      simp only [fillRow]
      rw [if_pos ⟨h3, hc.2⟩, h1]
      exact g1
    · cases h

set_option maxHeartbeats 2000000 in
theorem op_sound {o : Oper} {iop : IOp} (hc : cOp0 P C im o = some iop) (hs : Sim C B F H ρ N e a w) {φ : Phi} {d : AV} (ha : aop φ iop e H = some (d, H')) (hn : iop.isCall = false) :
    ∃ v w' ρ' F', Yields P o a w v w' ∧ Post B F H ρ w d H' v w' ρ' F' := by
  have hp := hs.hp
  have env : ∀ {x : Operand} {y : OP}, cOpd C x = some y → VR H ρ F w (y.ev e) (a.eval x) := fun h => opd_ok hs h
  have quiet : ∀ {v : Value}, (execOp a.eval o).run P w = .ok (.value v) w → VR H ρ F w d v → H' = H → ∃ v w' ρ' F', Yields P o a w v w' ∧ Post B F H ρ w d H' v w' ρ' F' := by
    intro v h1 h2 h3; subst h3; exact ⟨v, w, ρ, F, .inl h1, Post.quiet hp h2⟩
  obtain ⟨dst, op, type, pos, after, guard⟩ := o
  cases op with
  | move x =>
    simp only [cOp0] at hc
    obtain ⟨y, hy, rfl⟩ := Option.map_eq_some_iff.1 hc
    simp only [aop, Option.some.injEq, Prod.mk.injEq] at ha
    obtain ⟨rfl, rfl⟩ := ha
    exact quiet (by simp [execOp]) (env hy) rfl
  | assign x =>
    simp only [cOp0] at hc
    split at hc
    · split at hc
      · rename_i el hd
        obtain ⟨z, hz, rfl⟩ := Option.map_eq_some_iff.1 hc
        simp only [aop, Option.some.injEq, Prod.mk.injEq] at ha
        obtain ⟨rfl, rfl⟩ := ha
        obtain ⟨i, zv, hi, hzv, hcz, hokz, hpos, hby, hsz, hcl, hzs⟩ := tyElem_spec hz
        refine ⟨.slice none 0 0, w, ρ ++ [.slice none 0 0], F, .inl (by simp [execOp, Act.eval]), ?_⟩
        refine ⟨hp.pushRow (World.ownsRow_nil w B el z.1) (by omega) (by simp) (us := []) (by simp) (fun j c u hc => by simp [flat] at hc) (fun b hb => by simp [blk] at hb) (fun _ _ _ _ _ _ _ _ hb => by simp [blk] at hb), ?_, Ev.push _ _ _ _ hp.len, Kept.refl _ _ _, fun _ x => x, fun _ x => .inl x⟩
        refine .ref _ _ _ _ _ _ ⟨.row el z.1 0 [], by simp, rfl, fun s' g' N' hv => ?_⟩
        simp [AO.view] at hv
        obtain ⟨rfl, rfl, rfl⟩ := hv
        exact ⟨Nat.le_refl _, fun _ => ⟨by omega, _, by rw [← hp.len]; simp, none, 0, 0, none, rfl, rfl, by omega, fun h => absurd h (by omega), fun _ => rfl⟩⟩
      · injection hc with hc; subst hc
        simp only [aop, Option.some.injEq, Prod.mk.injEq] at ha
        obtain ⟨rfl, rfl⟩ := ha
        exact quiet (v := .slice none 0 0) (by simp [execOp, Act.eval]) (.imm (.e0 _)) rfl
    · obtain ⟨y, hy, rfl⟩ := Option.map_eq_some_iff.1 hc
      simp only [aop, Option.some.injEq, Prod.mk.injEq] at ha
      obtain ⟨rfl, rfl⟩ := ha
      exact quiet (by simp [execOp]) (env hy) rfl
  | pick c x y =>
    simp only [cOp0] at hc
    obtain ⟨c', hc', hc⟩ := Option.bind_eq_some_iff.1 hc
    obtain ⟨x', hx', hc⟩ := Option.bind_eq_some_iff.1 hc
    obtain ⟨y', hy', rfl⟩ := Option.map_eq_some_iff.1 hc
    simp only [aop] at ha
    split at ha
    · rename_i t ht
      simp only [Option.some.injEq, Prod.mk.injEq] at ha
      obtain ⟨rfl, rfl⟩ := ha
      have hcv := env hc'
      rw [ht] at hcv
      have := hcv.bool_inv
      cases t
      · exact quiet (v := a.eval y) (by simp [execOp, this, asBool]) (env hy') rfl
      · exact quiet (v := a.eval x) (by simp [execOp, this, asBool]) (env hx') rfl
    · cases ha
  | alloc t =>
    simp only [cOp0] at hc
    obtain ⟨z, hz, hc⟩ := Option.bind_eq_some_iff.1 hc
    obtain ⟨i, zv, hi, hzv, hcz, hokz, hpos, hby, hsz, hcl, hzs⟩ := tyElem_spec hz
    obtain ⟨us, hu, hul, hu1, hur⟩ := zero_cells (F := F) (w := w) hcz hokz hcl hzs
    have hrun : (execOp a.eval ⟨dst, .alloc t, type, pos, after, guard⟩).run P w = .ok (.value (.pointer (some ⟨w.heap.size, 0, none⟩))) (w.alloc (.cells us.toArray t)) := by
      simp [execOp, Instr.alloc, zeroValue, typeInfo, hi, hzv, newVar, newRow, hu]
    split at hc
    · obtain ⟨dd, hdd, rfl⟩ := Option.map_eq_some_iff.1 hc
      simp only [aop, hcl, if_true] at ha
      obtain ⟨i0, hi0, ha⟩ := Option.map_eq_some_iff.1 ha
      simp only [Prod.mk.injEq] at ha
      obtain ⟨rfl, rfl⟩ := ha
      exact ⟨_, _, _, F, .inl hrun, newAt_ok hp (T := t) hi0 hcl hul hu1 hur⟩
    split at hc
    · rename_i el hbl
      injection hc with hc; subst hc
      simp only [aop, Option.some.injEq, Prod.mk.injEq] at ha
      obtain ⟨rfl, rfl⟩ := ha
      have hz2 := bldTy_form hbl
      rw [hz2] at hcz
      have hus : us = [.pointer none, .slice none 0 0] := by
        have := cst_bld hcz
        rw [this] at hu
        have := congrArg Array.toList hu
        simpa [Value.cells] using this.symm
      subst hus
      exact ⟨_, _, _, F, .inl hrun, newBld hp⟩
    · injection hc with hc; subst hc
      simp only [aop, hcl, if_true, Option.some.injEq, Prod.mk.injEq] at ha
      obtain ⟨rfl, rfl⟩ := ha
      exact ⟨_, _, _, F, .inl hrun, newBox hp (T := t) hcl hul hu1 (fun j c u hc hu => .imm (hur j c u hc hu))⟩
  | box t x =>
    simp only [cOp0] at hc
    obtain ⟨s, hsz, hc⟩ := Option.bind_eq_some_iff.1 hc
    obtain ⟨x', hx', rfl⟩ := Option.map_eq_some_iff.1 hc
    simp only [aop] at ha
    split at ha
    case isFalse => cases ha
    rename_i hcond
    simp only [Option.some.injEq, Prod.mk.injEq] at ha
    obtain ⟨rfl, rfl⟩ := ha
    obtain ⟨us, hu, hul, hu1, hur⟩ := (env hx').cells hcond.1
    refine ⟨_, _, _, F, .inl ?_, newBox hp (T := t) hcond.2 (by rw [← hul]; exact hcond.2) hu1 hur⟩
    simp [execOp, Instr.box, newVar, newRow, hu]
  | build t ps =>
    simp only [cOp0] at hc
    split at hc
    · rename_i fs hd
      obtain ⟨z, hz, hc⟩ := Option.bind_eq_some_iff.1 hc
      obtain ⟨pl, hpl, hc⟩ := Option.bind_eq_some_iff.1 hc
      obtain ⟨is, his, rfl⟩ := Option.map_eq_some_iff.1 hc
      simp only [aop] at ha
      obtain ⟨cs, hcs, ha⟩ := Option.map_eq_some_iff.1 ha
      simp only [Prod.mk.injEq] at ha
      obtain ⟨rfl, rfl⟩ := ha
      obtain ⟨i, zv, hi, hzv, hcz, hokz, hpos, hby, hsz, hcl, hzs⟩ := tyElem_spec hz
      obtain ⟨us, hu, hul, hu1, hur⟩ := zero_cells (F := F) (w := w) hcz hokz hcl hzs
      obtain ⟨vs, g1, g2, g3, g4⟩ := parts_ok (pl := pl) (e := e) (a := a) env ps.toList is z.2.cells us cs his hcs (by rw [hcl, hul]) hu1 (fun j c u hc hu => .imm (hur j c u hc hu))
      refine quiet (v := .agg vs.toArray) ?_ (.agg cs vs g2 g3 g4) rfl
      have hb : P.built t (ps.map fun (i, x) => (i, a.eval x)).toList = some vs.toArray := by
        unfold places at hpl
        simp only [Program.built, hi, hd, hzv, hpl, hu]
        rw [← g1]
        simp
      simp only [execOp, Sem.run_bind, run_build w t _ _ hb, Result.andThen_ok, Sem.run_pure]
    · rename_i n el hd
      obtain ⟨z, hz, hc⟩ := Option.bind_eq_some_iff.1 hc
      obtain ⟨i1, hi1, hc⟩ := Option.bind_eq_some_iff.1 hc
      obtain ⟨is, his, rfl⟩ := Option.map_eq_some_iff.1 hc
      simp only [aop] at ha
      obtain ⟨cs, hcs, ha⟩ := Option.map_eq_some_iff.1 ha
      simp only [Prod.mk.injEq] at ha
      obtain ⟨rfl, rfl⟩ := ha
      obtain ⟨i, zv, hi, hzv, hcz, hokz, hpos, hby, hsz, hcl, hzs⟩ := tyElem_spec hz
      obtain ⟨us, hu, hul, hu1, hur⟩ := zero_cells (F := F) (w := w) hcz hokz hcl hzs
      obtain ⟨vs, g1, g2, g3, g4⟩ := parts_ok (pl := (List.range n).map fun k => (k * i1.size, i1.size)) (e := e) (a := a) env ps.toList is z.2.cells us cs his hcs (by rw [hcl, hul]) hu1 (fun j c u hc hu => .imm (hur j c u hc hu))
      refine quiet (v := .agg vs.toArray) ?_ (.agg cs vs g2 g3 g4) rfl
      have hfill := fill_mono (place' := fun k => some (k * i1.size, i1.size)) (fun k p hp => by
        have hp : ((List.range n).map fun k => (k * i1.size, i1.size))[k]? = some p := by simpa using hp
        rw [List.getElem?_map] at hp
        obtain ⟨q, hq, rfl⟩ := Option.map_eq_some_iff.1 hp
        obtain ⟨h1, h2⟩ := List.getElem?_eq_some_iff.1 hq
        simp at h2; subst h2; rfl) _ _ _ g1
      have hps : (ps.map fun (i, x) => (i, a.eval x)).toList = ps.toList.map fun p => (p.1, a.eval p.2) := by simp
      have hb : P.built t (ps.map fun (i, x) => (i, a.eval x)).toList = some vs.toArray := by
        simp only [Program.built, hi, hd, hzv, hi1, hu]
        rw [hps]
        exact hfill
      simp only [execOp, Sem.run_bind, run_build w t _ _ hb, Result.andThen_ok, Sem.run_pure]
    · cases hc
  | buildSlice t n ps =>
    simp only [cOp0] at hc
    split at hc
    case h_2 => cases hc
    rename_i el hd
    obtain ⟨z, hz, hc⟩ := Option.bind_eq_some_iff.1 hc
    split at hc
    case isFalse => cases hc
    rename_i hsmall
    obtain ⟨is, his, hc⟩ := Option.map_eq_some_iff.1 hc
    have ha' : ∃ es, fillRow z.1 e H (List.replicate n z.2) is = some es ∧ (if im.im then ((.sl z.1 es : AV), PI.frz (rowRefs e is) H) else (.ref H.length 0 0 n, PI.frz (rowRefs e is) H ++ [.row el z.1 0 es])) = (d, H') := by
      cases hm : im.im with
      | true =>
        rw [hm] at hc
        simp only [if_true] at hc
        split at hc
        · subst hc
          simp only [aop] at ha
          split at ha
          case isFalse => cases ha
          obtain ⟨es, hes, ha⟩ := Option.map_eq_some_iff.1 ha
          obtain ⟨g1, g2⟩ := fillPl_fillRow H is _ es hes
          exact ⟨es, g1, by rw [g2]; exact ha⟩
        · subst hc; simp only [aop] at ha; obtain ⟨es, hes, ha⟩ := Option.map_eq_some_iff.1 ha; exact ⟨es, hes, ha⟩
      | false => rw [hm] at hc; simp only [Bool.false_eq_true, if_false] at hc; subst hc; simp only [aop] at ha; obtain ⟨es, hes, ha⟩ := Option.map_eq_some_iff.1 ha; exact ⟨es, hes, ha⟩
    obtain ⟨es, hes, ha⟩ := ha'
    obtain ⟨i, zv, hi, hzv, hcz, hokz, hpos, hby, hsz, hcl, hzs⟩ := tyElem_spec hz
    obtain ⟨F1, hp1, ev1, hF1, hF1b, hlen1, hF1r⟩ := hp.frz (rowRefs e is)
    obtain ⟨us, hu, hul, hu1, hur⟩ := zero_cells (F := F1) (w := w) hcz hokz hcl hzs
    have hpos' : 0 < z.1 := by omega
    obtain ⟨vs, g1, g2, g3, g4, g5, g6⟩ := rowParts_ok (e := e) (a := a) hp hpos' env hF1 ps.toList is (List.replicate n z.2) (madeCells us.toArray (n * z.1)).toList es his hes hF1r
      (fun q hq => by rw [(List.mem_replicate.1 hq).2]; exact hcl) (by simp [size_madeCells]) (fun u hu' => by
        simp only [madeCells, Array.toList_map, List.mem_map] at hu'
        obtain ⟨j, hj, rfl⟩ := hu'
        have hlt : j % us.toArray.size < us.toArray.size := Nat.mod_lt _ (by simp; omega)
        rw [getElem!_pos us.toArray _ hlt]
        exact hu1 _ (by simp)) (made_rel hpos' hcl hul hur)
    simp only [List.length_replicate] at g2
    have hb := below_alloc w (.cells vs.toArray el)
    have hown := World.ownsRow_lit (base := B) (e := el) (size := z.1) w vs.toArray n hp1.base (by simp only [maxLen]; have := Nat.le_mul_of_pos_right n hpos'; omega) (by simp [g4, g2])
    have hrun : (execOp a.eval ⟨dst, .buildSlice t n ps, type, pos, after, guard⟩).run P w = .ok (.value (.slice (some ⟨w.heap.size, 0, none⟩) n n)) (w.alloc (.cells vs.toArray el)) := by
      have hfill : Instr.fill (fun i => some (i * z.1, z.1)) (madeCells us.toArray (n * z.1)) (ps.map fun (i, x) => (i, a.eval x)).toList = some vs.toArray := by
        rw [← g1]; simp
      have hsm : ¬ (16777216 < n * z.1) := by omega
      unfold madeCells at hfill
      by_cases h0 : n * z.1 = 0
      · rw [h0] at hfill
        simp [Array.range_zero'] at hfill
        have hn0 : n = 0 := by rcases Nat.mul_eq_zero.1 h0 with h | h <;> omega
        subst hn0
        simp [execOp, Instr.buildSlice, run_underlying hd, sizeOf, typeInfo, hi, hsz, newRow, Array.range_zero', hfill]
      · simp [execOp, Instr.buildSlice, run_underlying hd, sizeOf, typeInfo, hi, hsz, zeroValue, hzv, h0, hsm, newRow, hu]
        simp at hfill
        rw [hfill]
        simp
    have kept1 : ∀ {w' : World}, Kept B F1 w w' → Kept B F w w' := fun k => ⟨k.os, k.tape, k.output, k.size, fun i hi hc => k.block i hi (hc.imp (fun x => x) (hF1 i))⟩
    cases hmm : im.im with
    | false =>
      rw [hmm] at ha
      simp only [Bool.false_eq_true, if_false, Prod.mk.injEq] at ha
      obtain ⟨rfl, rfl⟩ := ha
      have key := newRow_ok hp1 hb (T := el) (s := z.1) (n := n) (cap := n) (es := es) (us := vs) g2 (by simpa using hown) hpos' g3 g5 g6
      rw [hlen1] at key
      exact ⟨_, _, _, F1, .inl hrun, ⟨key.hp, key.val, ev1.trans key.ev, kept1 key.kept, hF1, hF1b⟩⟩
    | true =>
      rw [hmm] at ha
      simp only [if_true, Prod.mk.injEq] at ha
      obtain ⟨rfl, rfl⟩ := ha
      have key := newImm_ok hp1 hb (T := el) (s := z.1) (n := n) (cap := n) (es := es) (us := vs) g2 (by simpa using hown) hpos' g3 g5 g6 (by simp)
      refine ⟨_, _, _, _, .inl hrun, ⟨key.hp, key.val, ev1, kept1 key.kept, fun b hb' => .inl (hF1 b hb'), ?_⟩⟩
      intro b hb'
      rcases key.bnd b hb' with h | h
      · exact hF1b b h
      · exact .inr h
  | load t x =>
    simp only [cOp0] at hc
    obtain ⟨s, hsz, hc⟩ := Option.bind_eq_some_iff.1 hc
    obtain ⟨x', hx', hc⟩ := Option.bind_eq_some_iff.1 hc
    split at hc
    case isFalse => cases hc
    injection hc with hc
    have ha' : (aload s.2 s.1 H (x'.ev e) = some d ∨ aloadR s.2 s.1 H (x'.ev e) = some d) ∧ H' = H := by
      split at hc
      · subst hc
        simp only [aop] at ha
        split at ha
        · rename_i hv; rw [hv]; obtain ⟨v0, hv0, ha⟩ := Option.map_eq_some_iff.1 ha; simp only [Prod.mk.injEq] at ha; obtain ⟨rfl, rfl⟩ := ha; exact ⟨.inl hv0, rfl⟩
        · rename_i hv; rw [hv]; obtain ⟨v0, hv0, ha⟩ := Option.map_eq_some_iff.1 ha; simp only [Prod.mk.injEq] at ha; obtain ⟨rfl, rfl⟩ := ha; exact ⟨.inl hv0, rfl⟩
        · cases ha
      · split at hc
        · subst hc
          simp only [aop] at ha
          obtain ⟨v0, hv0, ha⟩ := Option.map_eq_some_iff.1 ha; simp only [Prod.mk.injEq] at ha; obtain ⟨rfl, rfl⟩ := ha; exact ⟨.inr hv0, rfl⟩
        · subst hc
          simp only [aop] at ha
          obtain ⟨v0, hv0, ha⟩ := Option.map_eq_some_iff.1 ha; simp only [Prod.mk.injEq] at ha; obtain ⟨rfl, rfl⟩ := ha; exact ⟨.inl hv0, rfl⟩
    obtain ⟨hv0, rfl⟩ := ha'
    obtain ⟨v, h1, h2⟩ := hv0.elim (load_ok hp hsz (env hx')) (loadR_ok hp hsz (env hx'))
    exact quiet (v := v) (by simp [execOp, h1]) h2 rfl
  | store t x y =>
    simp only [cOp0] at hc
    obtain ⟨s, hsz, hc⟩ := Option.bind_eq_some_iff.1 hc
    obtain ⟨x', hx', hc⟩ := Option.bind_eq_some_iff.1 hc
    obtain ⟨y', hy', hc⟩ := Option.map_eq_some_iff.1 hc
    have ha' : (astore s.1 H (x'.ev e) (y'.ev e) = some H' ∨ astoreK s.1 H (x'.ev e) (y'.ev e) = some H') ∧ d = .tup [] := by
      split at hc
      · subst hc
        simp only [aop] at ha
        split at ha
        · rename_i hv; rw [hv]; obtain ⟨H1, hH1, ha⟩ := Option.map_eq_some_iff.1 ha; simp only [Prod.mk.injEq] at ha; obtain ⟨rfl, rfl⟩ := ha; exact ⟨.inl hH1, rfl⟩
        · cases ha
      · split at hc
        · subst hc
          simp only [aop] at ha
          obtain ⟨H1, hH1, ha⟩ := Option.map_eq_some_iff.1 ha; simp only [Prod.mk.injEq] at ha; obtain ⟨rfl, rfl⟩ := ha; exact ⟨.inr hH1, rfl⟩
        · subst hc
          simp only [aop] at ha
          obtain ⟨H1, hH1, ha⟩ := Option.map_eq_some_iff.1 ha; simp only [Prod.mk.injEq] at ha; obtain ⟨rfl, rfl⟩ := ha; exact ⟨.inl hH1, rfl⟩
    obtain ⟨hH1, rfl⟩ := ha'
    obtain ⟨w', F', h1, h2, h3, h4, h5, h6⟩ := hH1.elim (store_ok hp hsz (env hx') (env hy')) (storeK_ok hp hsz (env hx') (env hy'))
    exact ⟨undef, w', ρ, F', .inr ⟨by simp [execOp, h1], rfl⟩, ⟨h2, VR.tup0, h3, h4, h5, h6⟩⟩
  | nilCheck x =>
    simp only [cOp0] at hc
    obtain ⟨x', hx', rfl⟩ := Option.map_eq_some_iff.1 hc
    simp only [aop] at ha
    obtain ⟨v0, hv0, ha⟩ := Option.map_eq_some_iff.1 ha
    simp only [Prod.mk.injEq] at ha
    obtain ⟨rfl, rfl⟩ := ha
    have hx := env hx'
    have hptr : ∃ ad, a.eval x = .pointer (some ad) ∧ v0 = x'.ev e := by
      cases hv : x'.ev e with
      | cptr el o => rw [hv] at hv0 hx; simp [achk] at hv0; subst hv0; have hI := hx.cptr_inv; generalize a.eval x = xx at hI; cases hI; exact ⟨_, rfl, rfl⟩
      | bptr id o => rw [hv] at hv0 hx; simp [achk] at hv0; subst hv0; obtain ⟨ad, h, _⟩ := hx.bptr_inv; exact ⟨ad, h, rfl⟩
      | rptr id g i o => rw [hv] at hv0 hx; simp [achk] at hv0; subst hv0; obtain ⟨ad, h, _⟩ := hx.rptr_inv; exact ⟨ad, h, rfl⟩
      | _ => rw [hv] at hv0; simp [achk] at hv0
    obtain ⟨ad, h1, h2⟩ := hptr
    subst h2
    exact quiet (v := a.eval x) (by simp [execOp, h1]) hx rfl
  | binOp op t x y yt =>
    simp only [cOp0] at hc
    obtain ⟨x', hx', hc⟩ := Option.bind_eq_some_iff.1 hc
    obtain ⟨y', hy', hc⟩ := Option.bind_eq_some_iff.1 hc
    have hx := env hx'
    have hy := env hy'
    have plain : iop = .bin op x' y' → ∃ v w' ρ' F', Yields P ⟨dst, .binOp op t x y yt, type, pos, after, guard⟩ a w v w' ∧ Post B F H ρ w d H' v w' ρ' F' := by
      intro hh; subst hh
      simp only [aop] at ha
      obtain ⟨v0, hv0, ha⟩ := Option.map_eq_some_iff.1 ha
      simp only [Prod.mk.injEq] at ha
      obtain ⟨rfl, rfl⟩ := ha
      obtain ⟨v, h1, h2⟩ := bin_ok (P := P) (t := t) (xo := x) (yo := y) hx hy hv0
      refine quiet (v := v) ?_ h2 rfl
      simp only [execOp, Sem.run_bind] at h1 ⊢
      rw [h1]; simp
    split at hc
    · rename_i fs hd
      obtain ⟨ks, hks, hc⟩ := Option.bind_eq_some_iff.1 hc
      split at hc
      case isFalse => cases hc
      rename_i hcond
      have main : ∀ neg, iop = .aeq neg ks x' y' → (op = .eql ∧ neg = false ∨ op = .neq ∧ neg = true) → ∃ v w' ρ' F', Yields P ⟨dst, .binOp op t x y yt, type, pos, after, guard⟩ a w v w' ∧ Post B F H ρ w d H' v w' ρ' F' := by
        intro neg hh hop; subst hh
        simp only [aop] at ha
        cases hxv : x'.ev e with
        | agg cs =>
          cases hyv : y'.ev e with
          | agg ds =>
            rw [hxv, hyv] at ha
            rw [hxv] at hx
            rw [hyv] at hy
            obtain ⟨b, hb, ha⟩ := Option.map_eq_some_iff.1 ha
            simp only [Prod.mk.injEq] at ha
            obtain ⟨rfl, rfl⟩ := ha
            obtain ⟨h1, h2⟩ := aeq_ok (P := P) (xo := x) (yo := y) hd hks hcond.1 hcond.2 hx hy hb
            refine quiet (v := .bool (b != neg)) ?_ (.imm (.bool _)) rfl
            rcases hop with ⟨rfl, rfl⟩ | ⟨rfl, rfl⟩
            · simp only [execOp, Sem.run_bind] at h1 ⊢; rw [h1]; simp
            · simp only [execOp, Sem.run_bind] at h2 ⊢; rw [h2]; simp
          | _ => rw [hxv, hyv] at ha; cases ha
        | _ => rw [hxv] at ha; cases ha
      split at hc
      · injection hc with hc; exact main false hc.symm (.inl ⟨rfl, rfl⟩)
      · injection hc with hc; exact main true hc.symm (.inr ⟨rfl, rfl⟩)
      · cases hc
    · injection hc with hc; exact plain hc.symm
    · injection hc with hc; exact plain hc.symm
    · rename_i hd
      have main : ∀ neg, iop = .beq neg x' y' → (op = .eql ∧ neg = false ∨ op = .neq ∧ neg = true) → ∃ v w' ρ' F', Yields P ⟨dst, .binOp op t x y yt, type, pos, after, guard⟩ a w v w' ∧ Post B F H ρ w d H' v w' ρ' F' := by
        intro neg hh hop; subst hh
        simp only [aop] at ha
        cases hxv : x'.ev e with
        | bool a0 =>
          cases hyv : y'.ev e with
          | bool b0 =>
            rw [hxv, hyv] at ha
            rw [hxv] at hx
            rw [hyv] at hy
            simp only [Option.some.injEq, Prod.mk.injEq] at ha
            obtain ⟨rfl, rfl⟩ := ha
            have e1 := hx.bool_inv
            have e2 := hy.bool_inv
            obtain ⟨h1, h2⟩ := beq_ok (P := P) (w := w) (xo := x) (yo := y) (a0 := a0) (b0 := b0) hd
            refine quiet (v := .bool ((a0 == b0) != neg)) ?_ (.imm (.bool _)) rfl
            rcases hop with ⟨rfl, rfl⟩ | ⟨rfl, rfl⟩
            · simp only [execOp, Sem.run_bind, e1, e2] at h1 ⊢; rw [h1]; simp
            · simp only [execOp, Sem.run_bind, e1, e2] at h2 ⊢; rw [h2]; simp
          | _ => rw [hxv, hyv] at ha; cases ha
        | _ => rw [hxv] at ha; cases ha
      split at hc
      · injection hc with hc; exact main false hc.symm (.inl ⟨rfl, rfl⟩)
      · injection hc with hc; exact main true hc.symm (.inr ⟨rfl, rfl⟩)
      · cases hc
    · rename_i el hd
      split at hc
      case isFalse => cases hc
      rename_i hnil
      have hyn : y = .const (.slice none 0 0) := by
        unfold isNilC at hnil
        split at hnil
        · rfl
        · cases hnil
      have hye : a.eval y = .slice none 0 0 := by rw [hyn]; rfl
      have main : ∀ neg, iop = .eqnil neg x' → (op = .eql ∧ neg = false ∨ op = .neq ∧ neg = true) → ∃ v w' ρ' F', Yields P ⟨dst, .binOp op t x y yt, type, pos, after, guard⟩ a w v w' ∧ Post B F H ρ w d H' v w' ρ' F' := by
        intro neg hh hop; subst hh
        simp only [aop] at ha
        obtain ⟨b, hb, ha⟩ := Option.map_eq_some_iff.1 ha
        simp only [Prod.mk.injEq] at ha
        obtain ⟨rfl, rfl⟩ := ha
        obtain ⟨h1, h2⟩ := eqnil_ok (P := P) (xo := x) (yo := y) hp hd hx hb
        refine quiet (v := .bool (b != neg)) ?_ (.imm (.bool _)) rfl
        rcases hop with ⟨rfl, rfl⟩ | ⟨rfl, rfl⟩
        · simp only [execOp, Sem.run_bind, hye] at h1 ⊢; rw [h1]; simp
        · simp only [execOp, Sem.run_bind, hye] at h2 ⊢; rw [h2]; simp
      split at hc
      · injection hc with hc; exact main false hc.symm (.inl ⟨rfl, rfl⟩)
      · injection hc with hc; exact main true hc.symm (.inr ⟨rfl, rfl⟩)
      · cases hc
    · cases hc
  | unOp op t x =>
    simp only [cOp0] at hc
    obtain ⟨x', hx', rfl⟩ := Option.map_eq_some_iff.1 hc
    simp only [aop] at ha
    obtain ⟨v0, hv0, ha⟩ := Option.map_eq_some_iff.1 ha
    simp only [Prod.mk.injEq] at ha
    obtain ⟨rfl, rfl⟩ := ha
    have hx := env hx'
    cases hv : x'.ev e with
    | int k n =>
      rw [hv] at hv0 hx
      have := hx.int_inv
      cases op <;> simp [aun] at hv0
      subst hv0
      exact quiet (by simp [execOp, this, Op.unary, Op.intArith]) (.imm (.int _ _)) rfl
    | bool b =>
      rw [hv] at hv0 hx
      have := hx.bool_inv
      cases op <;> simp [aun] at hv0
      subst hv0
      exact quiet (by simp [execOp, this, Op.unary]) (.imm (.bool _)) rfl
    | _ => rw [hv] at hv0; simp [aun] at hv0
  | convert s t x =>
    simp only [cOp0] at hc
    split at hc
    · rename_i ks kd h1 h2
      obtain ⟨x', hx', rfl⟩ := Option.map_eq_some_iff.1 hc
      simp only [aop] at ha
      have hx := env hx'
      split at ha
      · rename_i k n hv
        simp only [Option.some.injEq, Prod.mk.injEq] at ha
        obtain ⟨rfl, rfl⟩ := ha
        rw [hv] at hx
        have := hx.int_inv
        refine quiet (v := .int kd (kd.wrap n)) ?_ (.imm (.int _ _)) rfl
        simp [execOp, this, convert, run_underlying h1, run_underlying h2, Conv.intToInt]
      · cases ha
    · rename_i h1 h2
      obtain ⟨x', hx', rfl⟩ := Option.map_eq_some_iff.1 hc
      simp only [aop] at ha
      have hx := env hx'
      split at ha
      · rename_i l hv
        simp only [Option.some.injEq, Prod.mk.injEq] at ha
        obtain ⟨rfl, rfl⟩ := ha
        rw [hv] at hx
        have := hx.str_inv
        refine quiet (v := .string ⟨l.toArray⟩) ?_ (.imm (.str _)) rfl
        simp [execOp, this, convert, run_underlying h1, run_underlying h2]
      · cases ha
    · rename_i el h1 h2
      split at hc
      case h_2 => cases hc
      rename_i h3
      obtain ⟨x', hx', rfl⟩ := Option.map_eq_some_iff.1 hc
      simp only [aop] at ha
      have hx := env hx'
      split at ha
      case h_2 => cases ha
      rename_i l hv
      split at ha
      case isFalse => cases ha
      rename_i hm
      simp only [Option.some.injEq, Prod.mk.injEq] at ha
      obtain ⟨rfl, rfl⟩ := ha
      rw [hv] at hx
      have e1 := hx.str_inv
      obtain ⟨c, k1, k2, k3, k4, k5⟩ := bytes_ok (P := P) hp (l := l) hm h1 h2 h3
      exact ⟨_, _, _, F, .inl (by simp [execOp, e1, k1]), ⟨k2, .itr _ _ rfl k5, k3, k4, fun _ x => x, fun _ x => .inl x⟩⟩
    · rename_i el h1 h2
      split at hc
      case h_2 => cases hc
      rename_i h3
      obtain ⟨z, hz, hc⟩ := Option.bind_eq_some_iff.1 hc
      split at hc
      case isFalse => cases hc
      obtain ⟨x', hx', rfl⟩ := Option.map_eq_some_iff.1 hc
      simp only [aop] at ha
      obtain ⟨es, hes, ha⟩ := Option.bind_eq_some_iff.1 ha
      obtain ⟨l, hl, ha⟩ := Option.map_eq_some_iff.1 ha
      simp only [Prod.mk.injEq] at ha
      obtain ⟨rfl, rfl⟩ := ha
      have hx := env hx'
      have hr := b2s_ok (P := P) hp hx hes hl
      obtain ⟨A, c, us, hxe, _⟩ := elems_spec hp hx hes (by omega)
      refine quiet (v := .string ⟨l.toArray⟩) ?_ (.imm (.str _)) rfl
      rw [hxe] at hr
      simp [execOp, hxe, convert, run_underlying h1, run_underlying h2, run_underlying h3, hr]
    · cases hc
  | slice t x lo hi mx =>
    simp only [cOp0] at hc
    obtain ⟨x', hx', hc0⟩ := Option.bind_eq_some_iff.1 hc
    clear hc
    have hc := hc0
    clear hc0
    have hx := env hx'
    split at hc
    · rename_i el hd
      obtain ⟨z, hz, hc⟩ := Option.bind_eq_some_iff.1 hc
      obtain ⟨lo', hlo, hc⟩ := Option.bind_eq_some_iff.1 hc
      obtain ⟨hi', hhi, rfl⟩ := Option.map_eq_some_iff.1 hc
      simp only [aop] at ha
      obtain ⟨n, hn0, ha⟩ := Option.bind_eq_some_iff.1 ha
      obtain ⟨lh, hlh, ha⟩ := Option.bind_eq_some_iff.1 ha
      obtain ⟨v0, hv0, ha⟩ := Option.map_eq_some_iff.1 ha
      simp only [Prod.mk.injEq] at ha
      obtain ⟨rfl, rfl⟩ := ha
      obtain ⟨l, h⟩ := lh
      obtain ⟨o1, o2⟩ := opt_ok (a := a) env hlo
      obtain ⟨o3, o4⟩ := opt_ok (a := a) env hhi
      obtain ⟨v, h1, h2⟩ := slice_ok hp hd hz hx hn0 o1 o2 o3 o4 hlh hv0
      exact quiet (v := v) (by simp [execOp, h1]) h2 rfl
    · rename_i hd
      obtain ⟨lo', hlo, hc⟩ := Option.bind_eq_some_iff.1 hc
      obtain ⟨hi', hhi, rfl⟩ := Option.map_eq_some_iff.1 hc
      simp only [aop] at ha
      split at ha
      · rename_i l hv
        obtain ⟨lh, hlh, ha⟩ := Option.map_eq_some_iff.1 ha
        simp only [Prod.mk.injEq] at ha
        obtain ⟨rfl, rfl⟩ := ha
        rw [hv] at hx
        have e1 := hx.str_inv
        obtain ⟨l0, h0⟩ := lh
        obtain ⟨o1, o2⟩ := opt_ok (a := a) env hlo
        obtain ⟨o3, o4⟩ := opt_ok (a := a) env hhi
        obtain ⟨hr, _, _⟩ := bnds_ok (P := P) (isS := false) (Nat.le_refl l.length) o1 o2 o3 o4 hlh
        refine quiet (v := .string ((⟨l.toArray⟩ : ByteArray).extract l0 h0)) ?_ (by rw [ba_extract]; exact .imm (.str _)) rfl
        have hsz : (⟨l.toArray⟩ : ByteArray).size = l.length := ba_size l
        simp [execOp, e1, Instr.sliceAt, Instr.slice, run_underlying hd, hsz, hr]
      · cases ha
    · rename_i el mm hd
      obtain ⟨z, hz, hc0⟩ := Option.bind_eq_some_iff.1 hc
      clear hc
      have hc := hc0
      clear hc0
      obtain ⟨inf, zv, hinf, _⟩ := tyElem_spec hz
      split at hc
      · rename_i h
        split at hc
        case isFalse => cases hc
        rename_i hcond
        injection hc with hc; subst hc
        simp only [Bool.and_eq_true] at hcond
        simp only [aop] at ha
        obtain ⟨n, hn0, ha⟩ := Option.map_eq_some_iff.1 ha
        have hsl : ∃ A m c, a.eval x = .slice A m c := by
          cases hv : x'.ev e with
          | e0 => rw [hv] at hx; obtain ⟨A, h⟩ := hx.e0_inv; exact ⟨A, 0, 0, h⟩
          | nils => rw [hv] at hx; generalize a.eval x = xx at hx; cases hx with | imm hx => cases hx with | nils cap _ => exact ⟨none, 0, cap, rfl⟩
          | en => rw [hv] at hx; generalize a.eval x = xx at hx; cases hx with | imm hx => cases hx with | en ad cap _ => exact ⟨some ad, 0, cap, rfl⟩
          | sl s es =>
            rw [hv] at hx
            have hI := hx.sl_inv
            generalize a.eval x = xx at hI
            cases hI with | sl _ _ A cap us => exact ⟨A, _, cap, rfl⟩
          | ref id g o n => rw [hv] at hx; obtain ⟨A, c, h, _⟩ := hx.ref_inv; exact ⟨A, n, c, h⟩
          | _ => rw [hv] at hn0; simp [alen] at hn0
        have hres : d = .e0 ∧ H' = H := by
          simp only [Prod.mk.injEq] at ha; exact ⟨ha.1.symm, ha.2.symm⟩
        obtain ⟨rfl, rfl⟩ := hres
        obtain ⟨A, m, c, hxe⟩ := hsl
        have c0 : ∀ o : Operand, isConst0 o = true → ∃ k, a.eval o = .int k 0 := by
          intro o ho
          cases o with
          | const v =>
            cases v <;> simp [isConst0] at ho
            subst ho
            exact ⟨_, rfl⟩
          | _ => simp [isConst0] at ho
        obtain ⟨k1, e1⟩ := c0 _ hcond.1
        obtain ⟨k2, e2⟩ := c0 _ hcond.2
        refine quiet (v := .slice A 0 0) ?_ (.imm (.e0 _)) rfl
        simp [execOp, hxe, Instr.sliceAt, Instr.slice, run_underlying hd, Instr.sliceBounds, Instr.sliceBound, e1, e2, asIntOf, sizeOf, typeInfo, hinf]
      · rename_i l1 h1
        obtain ⟨l2, hl2, hc⟩ := Option.bind_eq_some_iff.1 hc
        obtain ⟨h2, hh2, hc⟩ := Option.bind_eq_some_iff.1 hc
        obtain ⟨m2, hm2, hc⟩ := Option.map_eq_some_iff.1 hc
        subst hc
        simp only [aop, bnd1] at ha
        split at ha
        case isTrue => cases ha
        rename_i hrd0
        obtain ⟨n, hn0, ha⟩ := Option.bind_eq_some_iff.1 ha
        obtain ⟨mv, hmv, ha⟩ := Option.bind_eq_some_iff.1 ha
        obtain ⟨hv, hhv, ha⟩ := Option.bind_eq_some_iff.1 ha
        obtain ⟨lv, hlv, ha⟩ := Option.bind_eq_some_iff.1 ha
        split at ha
        case isFalse => cases ha
        rename_i hcond
        simp only [Option.some.injEq, Prod.mk.injEq] at ha
        obtain ⟨rfl, rfl⟩ := ha
        have int : ∀ (o : Operand) (o' : OP) (k : Nat), cOpd C o = some o' → natOf (o'.ev e) = some k → ∃ kk, a.eval o = .int kk (k : Int) := by
          intro o o' k ho hk
          obtain ⟨kk, ii, he, _, hi'⟩ := natOf_inv hk
          have hv := env ho
          rw [he] at hv
          exact ⟨kk, by rw [hv.int_inv, hi']⟩
        obtain ⟨k1, e1⟩ := int _ _ _ hl2 hlv
        obtain ⟨k2, e2⟩ := int _ _ _ hh2 hhv
        obtain ⟨k3, e3⟩ := int _ _ _ hm2 hmv
        have hsl : ∃ A c, a.eval x = .slice A n c ∧ n ≤ c := len_cap hp hx hn0 (by simpa using hrd0)
        obtain ⟨A, c, hxe, hnc⟩ := hsl
        obtain ⟨c1, c2, c3⟩ := hcond
        have c4 : mv ≤ c := by omega
        refine quiet (v := .slice (if mv = lv then A else A.map (·.add (lv * inf.size))) (hv - lv) (mv - lv)) ?_ (.imm (.top _)) rfl
        simp [execOp, hxe, Instr.sliceAt, Instr.slice, run_underlying hd, Instr.sliceBounds, Instr.sliceBound, e1, e2, e3, asIntOf, sizeOf, typeInfo, hinf, c1, c2, c4]
      · cases hc
    · cases hc
  | fieldAddr t x k =>
    simp only [cOp0] at hc
    split at hc
    case h_2 => cases hc
    rename_i fs hd
    obtain ⟨f, hf, hc⟩ := Option.bind_eq_some_iff.1 hc
    obtain ⟨i, hi, hc⟩ := Option.bind_eq_some_iff.1 hc
    split at hc
    case isTrue => cases hc
    rename_i h0
    obtain ⟨x', hx', rfl⟩ := Option.map_eq_some_iff.1 hc
    simp only [aop] at ha
    obtain ⟨v0, hv0, ha⟩ := Option.map_eq_some_iff.1 ha
    simp only [Prod.mk.injEq] at ha
    obtain ⟨rfl, rfl⟩ := ha
    obtain ⟨v, h1, h2⟩ := fld_ok hd hf hi h0 (env hx') hv0
    exact quiet (v := v) (by simp [execOp, h1]) h2 rfl
  | field t x k =>
    simp only [cOp0] at hc
    split at hc
    case h_2 => cases hc
    rename_i fs hd
    obtain ⟨f, hf, hc⟩ := Option.bind_eq_some_iff.1 hc
    obtain ⟨s, hsz, hc⟩ := Option.bind_eq_some_iff.1 hc
    split at hc
    case isFalse => cases hc
    obtain ⟨x', hx', rfl⟩ := Option.map_eq_some_iff.1 hc
    simp only [aop] at ha
    have hx := env hx'
    split at ha
    case h_2 => cases ha
    rename_i cs hv
    obtain ⟨v0, hv0, ha⟩ := Option.map_eq_some_iff.1 ha
    simp only [Prod.mk.injEq] at ha
    obtain ⟨rfl, rfl⟩ := ha
    rw [hv] at hx
    obtain ⟨us, hxe, hl, h1, hr⟩ := hx.agg_inv
    obtain ⟨i, dd, hi, hdd, hsz', hag⟩ := tySize_spec hsz
    have hpart := part_ok hl h1 hr hv0
    obtain ⟨sz, ag⟩ := s
    simp only at hsz' hag hpart
    cases ag with
    | true =>
      simp only [if_true] at hpart
      refine quiet (v := .agg ((us.drop f.offset).take sz).toArray) ?_ hpart.2 rfl
      simp [execOp, hxe, Instr.field, run_underlying hd, hf, asAgg, Go.part, run_isAgg hdd, hag, sizeOf, typeInfo, hi, hsz']
    | false =>
      simp only [Bool.false_eq_true, if_false] at hpart
      obtain ⟨u, hu, hv'⟩ := hpart
      refine quiet (v := u) ?_ hv' rfl
      simp [execOp, hxe, Instr.field, run_underlying hd, hf, asAgg, Go.part, run_isAgg hdd, hag, hu]
  | indexAddr t x i =>
    simp only [cOp0] at hc
    split at hc
    case h_3 => cases hc
    case h_2 =>
      rename_i n el hd
      obtain ⟨z, hz, hc⟩ := Option.bind_eq_some_iff.1 hc
      split at hc
      case isTrue => cases hc
      obtain ⟨x', hx', hc⟩ := Option.bind_eq_some_iff.1 hc
      obtain ⟨i', hi', rfl⟩ := Option.map_eq_some_iff.1 hc
      simp only [aop] at ha
      obtain ⟨m, hm0, ha⟩ := Option.bind_eq_some_iff.1 ha
      split at ha
      case isFalse => cases ha
      rename_i hlt
      obtain ⟨v0, hv0, ha⟩ := Option.map_eq_some_iff.1 ha
      simp only [Prod.mk.injEq] at ha
      obtain ⟨rfl, rfl⟩ := ha
      obtain ⟨k, q, he, h0, hq⟩ := natOf_inv hm0
      have hiv := env hi'
      rw [he] at hiv
      have e1 := hiv.int_inv
      subst hq
      obtain ⟨v, h1, h2⟩ := pix_ok (P := P) (k := k) hd hz hlt (env hx') hv0
      exact quiet (v := v) (by simp [execOp, e1, h1]) h2 rfl
    rename_i el hd
    obtain ⟨z, hz, hc⟩ := Option.bind_eq_some_iff.1 hc
    obtain ⟨x', hx', hc⟩ := Option.bind_eq_some_iff.1 hc
    obtain ⟨i', hi', hc⟩ := Option.map_eq_some_iff.1 hc
    obtain ⟨n, hn0, hv0, rfl⟩ : ∃ n, natOf (i'.ev e) = some n ∧ (aidx z.1 n H (x'.ev e) = some d ∨ aidxR z.1 n H (x'.ev e) = some d) ∧ H' = H := by
      split at hc
      · subst hc
        simp only [aop] at ha
        obtain ⟨n, hn0, ha⟩ := Option.bind_eq_some_iff.1 ha
        obtain ⟨v0, hv0, ha⟩ := Option.map_eq_some_iff.1 ha
        simp only [Prod.mk.injEq] at ha
        obtain ⟨rfl, rfl⟩ := ha
        exact ⟨n, hn0, .inr hv0, rfl⟩
      · subst hc
        simp only [aop] at ha
        obtain ⟨n, hn0, ha⟩ := Option.bind_eq_some_iff.1 ha
        obtain ⟨v0, hv0, ha⟩ := Option.map_eq_some_iff.1 ha
        simp only [Prod.mk.injEq] at ha
        obtain ⟨rfl, rfl⟩ := ha
        exact ⟨n, hn0, .inl hv0, rfl⟩
    obtain ⟨k, q, he, h0, hq⟩ := natOf_inv hn0
    have hiv := env hi'
    rw [he] at hiv
    have e1 := hiv.int_inv
    subst hq
    obtain ⟨v, h1, h2⟩ := hv0.elim (idx_ok (k := k) hp hd hz (env hx')) (idxR_ok (k := k) hp hd hz (env hx'))
    exact quiet (v := v) (by simp [execOp, e1, h1]) h2 rfl
  | index t x i =>
    simp only [cOp0] at hc
    split at hc
    case h_3 => cases hc
    case h_2 =>
      rename_i n el hd
      obtain ⟨s, hsz, hc⟩ := Option.bind_eq_some_iff.1 hc
      split at hc
      case isFalse => cases hc
      rename_i hs1
      obtain ⟨x', hx', hc⟩ := Option.bind_eq_some_iff.1 hc
      obtain ⟨i', hi', rfl⟩ := Option.map_eq_some_iff.1 hc
      simp only [aop] at ha
      have hx := env hx'
      split at ha
      case h_2 => cases ha
      rename_i cs hv
      obtain ⟨m, hm0, ha⟩ := Option.bind_eq_some_iff.1 ha
      split at ha
      case isFalse => cases ha
      rename_i hlt
      obtain ⟨v0, hv0, ha⟩ := Option.map_eq_some_iff.1 ha
      simp only [Prod.mk.injEq] at ha
      obtain ⟨rfl, rfl⟩ := ha
      obtain ⟨k, q, he, h0, hq⟩ := natOf_inv hm0
      have hiv := env hi'
      rw [he] at hiv
      have e1 := hiv.int_inv
      subst hq
      rw [hv] at hx
      obtain ⟨us, hxe, hl, h1, h2⟩ := hx.agg_inv
      obtain ⟨ii, dd, hii, hdd, hs2, hag⟩ := tySize_spec hsz
      have hpart := part_ok hl h1 h2 hv0
      obtain ⟨sz, ag⟩ := s
      simp only at hs2 hag hpart
      have hlt' : (m : Int) < (n : Int) := by omega
      cases ag with
      | true =>
        simp only [if_true] at hpart
        refine quiet (v := .agg ((us.drop (m * sz)).take sz).toArray) ?_ hpart.2 rfl
        simp [execOp, hxe, e1, Instr.index, asIntOf, run_underlying hd, hlt', hlt, asAgg, Go.part, run_isAgg hdd, hag, sizeOf, typeInfo, hii, hs2]
      | false =>
        simp only [Bool.false_eq_true, if_false] at hpart
        obtain ⟨u, hu, hv'⟩ := hpart
        refine quiet (v := u) ?_ hv' rfl
        simp [execOp, hxe, e1, Instr.index, asIntOf, run_underlying hd, hlt', hlt, asAgg, Go.part, run_isAgg hdd, hag, sizeOf, typeInfo, hii, hs2, hu]
    rename_i hd
    obtain ⟨x', hx', hc⟩ := Option.bind_eq_some_iff.1 hc
    obtain ⟨i', hi', rfl⟩ := Option.map_eq_some_iff.1 hc
    simp only [aop] at ha
    have hx := env hx'
    split at ha
    case h_2 => cases ha
    rename_i l hv
    obtain ⟨n, hn0, ha⟩ := Option.bind_eq_some_iff.1 ha
    obtain ⟨b, hb, ha⟩ := Option.map_eq_some_iff.1 ha
    simp only [Prod.mk.injEq] at ha
    obtain ⟨rfl, rfl⟩ := ha
    rw [hv] at hx
    have e0 := hx.str_inv
    obtain ⟨k, q, he, h0, hq⟩ := natOf_inv hn0
    have hiv := env hi'
    rw [he] at hiv
    have e1 := hiv.int_inv
    subst hq
    refine quiet (v := .int .u8 b.toNat) ?_ (.imm (.int _ _)) rfl
    have hlt := lt_of_some hb
    have hget : (⟨l.toArray⟩ : ByteArray)[n]? = some b := by
      rw [getElem?_pos (⟨l.toArray⟩ : ByteArray) n (by rw [ba_size]; exact hlt)]
      have : l[n] = b := by have := List.getElem?_eq_getElem hlt; rw [hb] at this; injection this with this; exact this.symm
      rw [← this]; rfl
    simp [execOp, e0, e1, Instr.index, asIntOf, run_underlying hd, hget]
  | extract x i =>
    simp only [cOp0] at hc
    obtain ⟨x', hx', rfl⟩ := Option.map_eq_some_iff.1 hc
    simp only [aop] at ha
    have hx := env hx'
    split at ha
    case h_2 => cases ha
    rename_i vs hv
    obtain ⟨c, hcc, ha⟩ := Option.map_eq_some_iff.1 ha
    simp only [Prod.mk.injEq] at ha
    obtain ⟨rfl, rfl⟩ := ha
    rw [hv] at hx
    obtain ⟨us, hxe, hl, hr⟩ := hx.tup_inv
    obtain ⟨u, hu⟩ := getElem?_of_len hl hcc
    exact quiet (v := u) (by simp [execOp, hxe, Instr.extract, hu]) (hr _ _ _ hcc hu) rfl
  | makeMap t r =>
    simp only [cOp0] at hc
    split at hc
    case h_2 => cases hc
    rename_i k el hd
    split at hc
    case h_2 => cases hc
    injection hc with hc; subst hc
    simp only [aop, Option.some.injEq, Prod.mk.injEq] at ha
    obtain ⟨rfl, rfl⟩ := ha
    obtain ⟨h1, h2, h3, h4⟩ := newObj_ok hp (.mp []) (.map #[] 0) ⟨#[], 0, rfl, rfl⟩
    exact ⟨.map (some w.heap.size), _, _, F, .inl (by simp [execOp, Instr.makeMap, newObj, Sem.run]), ⟨h1, .mp _ _ h4, h2, h3, fun _ x => x, fun _ x => .inl x⟩⟩
  | lookup t x k ok =>
    simp only [cOp0] at hc
    split at hc
    case h_2 => cases hc
    rename_i kt el hd
    split at hc
    case h_2 => cases hc
    rename_i hk
    obtain ⟨z, hz, hc⟩ := Option.bind_eq_some_iff.1 hc
    split at hc
    case isFalse => cases hc
    rename_i hpl
    obtain ⟨x', hx', hc⟩ := Option.bind_eq_some_iff.1 hc
    obtain ⟨k', hk', rfl⟩ := Option.map_eq_some_iff.1 hc
    simp only [aop] at ha
    have hx := env hx'
    have hkv := env hk'
    split at ha
    case h_2 => cases ha
    rename_i id n hxv hkk
    split at ha
    case h_2 => cases ha
    rename_i kv hm
    simp only [Option.some.injEq, Prod.mk.injEq] at ha
    obtain ⟨rfl, rfl⟩ := ha
    rw [hxv] at hx
    rw [hkk] at hkv
    have e1 := hkv.int_inv
    obtain ⟨v, h1, h2⟩ := look_ok (P := P) (n := n) (ok := ok) hp hd hk hz hpl hx hm
    exact quiet (v := v) (by simp [execOp, e1, h1]) h2 rfl
  | mapUpdate t x k v =>
    simp only [cOp0] at hc
    split at hc
    case h_2 => cases hc
    rename_i kt el hd
    split at hc
    case h_2 => cases hc
    rename_i hk
    obtain ⟨x', hx', hc⟩ := Option.bind_eq_some_iff.1 hc
    obtain ⟨k', hk', hc⟩ := Option.bind_eq_some_iff.1 hc
    obtain ⟨v', hv', rfl⟩ := Option.map_eq_some_iff.1 hc
    simp only [aop] at ha
    have hx := env hx'
    have hkv := env hk'
    split at ha
    case h_2 => cases ha
    rename_i id n hxv hkk
    split at ha
    case h_2 => cases ha
    rename_i kv hm
    split at ha
    case isFalse => cases ha
    rename_i hpl
    simp only [Option.some.injEq, Prod.mk.injEq] at ha
    obtain ⟨rfl, rfl⟩ := ha
    rw [hxv] at hx
    rw [hkk] at hkv
    have e1 := hkv.int_inv
    obtain ⟨w', h1, h2, h3, h4⟩ := put_ok (P := P) (n := n) hp hd hk hx hm (env hv') hpl
    exact ⟨undef, w', ρ, F, .inr ⟨by simp [execOp, e1, h1], rfl⟩, ⟨h2, VR.tup0, h3, h4, fun _ x => x, fun _ x => .inl x⟩⟩
  | range t x =>
    simp only [cOp0] at hc
    split at hc
    case h_2 => cases hc
    rename_i hd
    obtain ⟨x', hx', rfl⟩ := Option.map_eq_some_iff.1 hc
    simp only [aop] at ha
    have hx := env hx'
    split at ha
    case h_2 => cases ha
    rename_i l hv
    simp only [Option.some.injEq, Prod.mk.injEq] at ha
    obtain ⟨rfl, rfl⟩ := ha
    rw [hv] at hx
    have e1 := hx.str_inv
    obtain ⟨h1, h2, h3, h4⟩ := newObj_ok hp (.it l 0) (.stringIter ⟨l.toArray⟩ 0) rfl
    exact ⟨.pointer (some ⟨w.heap.size, 0, none⟩), _, _, F, .inl (by simp [execOp, e1, Instr.range, run_underlying hd, newObj, Sem.run]), ⟨h1, .itr _ _ rfl h4, h2, h3, fun _ x => x, fun _ x => .inl x⟩⟩
  | next x isS =>
    cases isS with
    | false => simp [cOp0] at hc
    | true =>
      simp only [cOp0] at hc
      obtain ⟨x', hx', rfl⟩ := Option.map_eq_some_iff.1 hc
      simp only [aop] at ha
      have hx := env hx'
      split at ha
      case h_2 => cases ha
      rename_i id hv
      split at ha
      case h_2 => cases ha
      rename_i l p hm
      rw [hv] at hx
      have hn1 := next_ok (P := P) (ty := type) hp hx hm
      split at ha
      · rename_i hlt
        rw [if_pos hlt] at hn1
        obtain ⟨w', h1, h2, h3, h4⟩ := hn1
        simp only [Option.some.injEq, Prod.mk.injEq] at ha
        obtain ⟨rfl, rfl⟩ := ha
        refine ⟨_, w', ρ, F, .inl (by simp [execOp, h1]; rfl), ⟨h2, ?_, h3, h4, fun _ x => x, fun _ x => .inl x⟩⟩
        refine .imm (.tup _ [.bool true, .int .i64 (p : Int), .int .i32 (Utf8.decode ⟨l.toArray⟩ p).1] rfl (fun j c u hc hu => ?_))
        match j, hc, hu with
        | 0, hc, hu => simp at hc hu; subst hc hu; exact .bool _
        | 1, hc, hu => simp at hc hu; subst hc hu; exact .int _ _
        | 2, hc, hu => simp at hc hu; subst hc hu; exact .int _ _
        | j + 3, hc, hu => simp at hc
      · rename_i hlt
        rw [if_neg hlt] at hn1
        simp only [Option.some.injEq, Prod.mk.injEq] at ha
        obtain ⟨rfl, rfl⟩ := ha
        refine quiet (v := .tuple #[.bool false]) (by simp [execOp, hn1]) (.imm (.tup _ [.bool false] rfl (fun j c u hc hu => ?_))) rfl
        match j, hc, hu with
        | 0, hc, hu => simp at hc hu; subst hc hu; exact .bool _
        | j + 1, hc, hu => simp at hc
  | makeSlice t n c =>
    simp only [cOp0] at hc
    split at hc
    case h_2 => cases hc
    rename_i el hd
    obtain ⟨z, hz, hc⟩ := Option.bind_eq_some_iff.1 hc
    obtain ⟨n', hn', hc⟩ := Option.bind_eq_some_iff.1 hc
    obtain ⟨c', hc', rfl⟩ := Option.map_eq_some_iff.1 hc
    simp only [aop] at ha
    obtain ⟨nn, hnn, ha⟩ := Option.bind_eq_some_iff.1 ha
    obtain ⟨cc, hcc, ha⟩ := Option.bind_eq_some_iff.1 ha
    split at ha
    case isFalse => cases ha
    rename_i hcond
    simp only [maxRow] at hcond
    simp only [Option.some.injEq, Prod.mk.injEq] at ha
    obtain ⟨rfl, rfl⟩ := ha
    obtain ⟨k1, q1, he1, h01, hq1⟩ := natOf_inv hnn
    obtain ⟨k2, q2, he2, h02, hq2⟩ := natOf_inv hcc
    have e1 := (env hn'); rw [he1] at e1; have e1 := e1.int_inv
    have e2 := (env hc'); rw [he2] at e2; have e2 := e2.int_inv
    subst hq1 hq2
    obtain ⟨i, zv, hi, hzv, hcz, hokz, hpos, hby, hsz, hcl, hzs⟩ := tyElem_spec hz
    obtain ⟨us, hu, hul, hu1, hur⟩ := zero_cells (F := F) (w := w) hcz hokz hcl hzs
    have hpos' : 0 < z.1 := by omega
    have hbb : (i.bytes : Int) * (cc : Int) ≤ 281474976710656 := by
      have h1 := Nat.mul_le_mul hby hcond.2
      have h2 : i.bytes * cc ≤ 281474976710656 := Nat.le_trans h1 (by decide)
      have h3 : ((i.bytes * cc : Nat) : Int) ≤ 281474976710656 := by omega
      rwa [Int.natCast_mul] at h3
    have hrun := run_make (P := P) w t el i zv hd hi hzv k1 k2 (nn : Int) (cc : Int) h01 (by omega) hbb (by omega)
    simp only [Int.toNat_natCast, hsz, hu] at hrun
    have hb := below_alloc w (.cells (madeCells us.toArray (cc * z.1)) el)
    have hmem : ∀ u ∈ (madeCells us.toArray (cc * z.1)).toList, u.oneCell' = true := by
      intro u hu'
      simp only [madeCells, Array.toList_map, List.mem_map] at hu'
      obtain ⟨j, hj, rfl⟩ := hu'
      have hlt : j % us.toArray.size < us.toArray.size := Nat.mod_lt _ (by simp; omega)
      rw [getElem!_pos us.toArray _ hlt]
      exact hu1 _ (by simp)
    have htake : (madeCells us.toArray (cc * z.1)).toList.take (nn * z.1) = (madeCells us.toArray (nn * z.1)).toList := by
      have hle : nn * z.1 ≤ cc * z.1 := Nat.mul_le_mul_right _ hcond.1
      simp only [madeCells, Array.toList_map, Array.toList_range, ← List.map_take, List.take_range, Nat.min_eq_left hle]
    have key := newRow_ok hp hb (T := el) (s := z.1) (n := nn) (cap := cc) (es := List.replicate nn z.2) (us := (madeCells us.toArray (nn * z.1)).toList) (by simp)
      ⟨by simp [size_madeCells], .inr ⟨w.heap.size, cc, _, rfl, hp.base, heap_alloc_new w _, hcond.1, by simp only [maxLen]; omega, by simp [size_madeCells], htake⟩⟩ hpos'
      (fun q hq => by rw [(List.mem_replicate.1 hq).2]; exact hcl) (fun u hu' => hmem u (by rw [← htake] at hu'; exact List.mem_of_mem_take hu')) (made_rel hpos' hcl hul hur)
    exact ⟨_, _, _, F, .inl (by simp [execOp, e1, e2, hrun]), key⟩
  | makeFunc fn first caps =>
    cases fn with
    | func f =>
      simp only [cOp0] at hc
      split at hc
      case isFalse => cases hc
      rename_i hfirst
      obtain ⟨cs, hcs, rfl⟩ := Option.map_eq_some_iff.1 hc
      simp only [aop, Option.some.injEq, Prod.mk.injEq] at ha
      obtain ⟨rfl, rfl⟩ := ha
      obtain ⟨h1, h2⟩ := opds_ok (e := e) (a := a) env caps.toList cs hcs
      have hf0 : first = #[] := by simpa using hfirst
      subst hf0
      have := VR.fn (H := H) (ρ := ρ) (F := F) (w := w) f (cs.map fun x => x.ev e) (caps.toList.map a.eval) (by simp [h1]) h2
      refine quiet (v := .func (.func f) #[] (caps.map a.eval)) (by simp [execOp, Instr.makeFunc]) ?_ rfl
      have e1 : (caps.toList.map a.eval).toArray = caps.map a.eval := by apply Array.ext'; simp
      rw [e1] at this
      exact this
    | _ => simp [cOp0] at hc
  | call c =>
    simp only [cOp0] at hc
    split at hc
    · rename_i b hb
      obtain ⟨args, hargs, hc1⟩ := Option.bind_eq_some_iff.1 hc
      clear hc
      obtain ⟨callee, cargs, argTypes⟩ := c
      simp only at hb
      subst hb
      simp only at hargs hc1
      obtain ⟨hl, hr⟩ := opds_ok (e := e) (a := a) env cargs.toList args hargs
      have two : ∀ x' y', args = [x', y'] → ∃ x1 y1, cargs = #[x1, y1] ∧ VR H ρ F w (x'.ev e) (a.eval x1) ∧ VR H ρ F w (y'.ev e) (a.eval y1) := by
        intro x' y' he
        subst he
        obtain ⟨x1, y1, hxy⟩ : ∃ x1 y1, cargs.toList = [x1, y1] := by
          match hq : cargs.toList, hl with
          | [x1, y1], _ => exact ⟨x1, y1, rfl⟩
        have hca : cargs = #[x1, y1] := by apply Array.ext'; simpa using hxy
        subst hca
        exact ⟨x1, y1, rfl, hr 0 _ _ (by simp) (by simp), hr 1 _ _ (by simp) (by simp)⟩
      rcases cBuiltin_inv hc1 with ⟨x', t, rfl, rfl, ht, hd⟩ | ⟨x', y', t, el, z, rfl, rfl, rfl, hd, hz, rfl⟩ | ⟨x', y', rfl, rfl, rfl⟩ | ⟨x', y', rfl, rfl, rfl⟩ | ⟨x', t, el, z, rfl, rfl, ht, hd, hz, rfl⟩
      · obtain ⟨xx, hxx⟩ : ∃ x, cargs.toList = [x] := by
          match hq : cargs.toList, hl with
          | [x], _ => exact ⟨x, rfl⟩
        have hca : cargs = #[xx] := by apply Array.ext'; simpa using hxx
        subst hca
        have hx : VR H ρ F w (x'.ev e) (a.eval xx) := hr 0 _ _ (by simp) (by simp)
        rcases hd with ⟨rfl, el, hd⟩ | ⟨rfl, hd⟩
        · simp only [aop] at ha
          obtain ⟨n, hn0, ha⟩ := Option.map_eq_some_iff.1 ha
          simp only [Prod.mk.injEq] at ha
          obtain ⟨rfl, rfl⟩ := ha
          have hsl : ∃ A c, a.eval xx = .slice A n c := by
            cases hv : x'.ev e with
            | e0 => rw [hv] at hx hn0; simp [alen] at hn0; subst hn0; obtain ⟨A, h⟩ := hx.e0_inv; exact ⟨A, 0, h⟩
            | nils => rw [hv] at hx hn0; simp [alen] at hn0; subst hn0; generalize a.eval xx = xx at hx; cases hx with | imm hx => cases hx with | nils cap _ => exact ⟨none, cap, rfl⟩
            | en => rw [hv] at hx hn0; simp [alen] at hn0; subst hn0; generalize a.eval xx = xx at hx; cases hx with | imm hx => cases hx with | en ad cap _ => exact ⟨some ad, cap, rfl⟩
            | sl s es =>
              rw [hv] at hx hn0
              simp [alen] at hn0; subst hn0
              have hI := hx.sl_inv
              generalize a.eval xx = xx at hI
              cases hI with | sl _ _ A cap us => exact ⟨A, cap, rfl⟩
            | ref id g o n => rw [hv] at hx hn0; simp [alen] at hn0; subst hn0; obtain ⟨A, c, h, _⟩ := hx.ref_inv; exact ⟨A, c, h⟩
            | _ => rw [hv] at hn0; simp [alen] at hn0
          obtain ⟨A, c, he⟩ := hsl
          refine quiet (v := .int .i64 n) ?_ (.imm (.int _ _)) rfl
          simp [execOp, resolve, invoke, builtin, Builtin.len_, ht, run_underlying hd, he, goInt]
        · simp only [aop] at ha
          split at ha
          case h_2 => cases ha
          rename_i l hv
          simp only [Option.some.injEq, Prod.mk.injEq] at ha
          obtain ⟨rfl, rfl⟩ := ha
          rw [hv] at hx
          have he := hx.str_inv
          refine quiet (v := .int .i64 l.length) ?_ (.imm (.int _ _)) rfl
          have hsz : (⟨l.toArray⟩ : ByteArray).size = l.length := ba_size l
          simp [execOp, resolve, invoke, builtin, Builtin.len_, ht, run_underlying hd, he, goInt, hsz]
      · obtain ⟨x1, y1, rfl, hx, hy⟩ := two _ _ rfl
        simp only [aop] at ha
        obtain ⟨news, hnews, ha⟩ := Option.bind_eq_some_iff.1 ha
        unfold aapp at ha
        split at ha
        · rename_i r hr
          injection ha with ha
          subst ha
          obtain ⟨v, w', ρ', h1, h2⟩ := append_ok (ty := type) hp hd hz hx hy hnews hr
          exact ⟨v, w', ρ', F, .inl (by simp [execOp, resolve, invoke, builtin, h1]), h2⟩
        · obtain ⟨v, w', ρ', h1, h2⟩ := append_in_ok (ty := type) hp hd hz hx hy hnews ha
          exact ⟨v, w', ρ', F, .inl (by simp [execOp, resolve, invoke, builtin, h1]), h2⟩
      · obtain ⟨x1, y1, rfl, hx, hy⟩ := two _ _ rfl
        simp only [aop] at ha
        split at ha
        case h_2 => cases ha
        rename_i k1 n1 k2 n2 hv1 hv2
        split at ha
        case isFalse => cases ha
        rename_i hk; subst hk
        simp only [Option.some.injEq, Prod.mk.injEq] at ha
        obtain ⟨rfl, rfl⟩ := ha
        rw [hv1] at hx
        rw [hv2] at hy
        have e1 := hx.int_inv
        have e2 := hy.int_inv
        refine quiet (v := .int k1 (if n1 < n2 then n2 else n1)) ?_ (.imm (.int _ _)) rfl
        simp [execOp, resolve, invoke, builtin, e1, e2, Builtin.max_, Builtin.max2]
      · obtain ⟨x1, y1, rfl, hx, hy⟩ := two _ _ rfl
        simp only [aop] at ha
        split at ha
        case h_2 => cases ha
        rename_i k1 n1 k2 n2 hv1 hv2
        split at ha
        case isFalse => cases ha
        rename_i hk; subst hk
        simp only [Option.some.injEq, Prod.mk.injEq] at ha
        obtain ⟨rfl, rfl⟩ := ha
        rw [hv1] at hx
        rw [hv2] at hy
        have e1 := hx.int_inv
        have e2 := hy.int_inv
        refine quiet (v := .int k1 (if n2 < n1 then n2 else n1)) ?_ (.imm (.int _ _)) rfl
        simp [execOp, resolve, invoke, builtin, e1, e2, Builtin.min_, Builtin.min2]
      · obtain ⟨xx, hxx⟩ : ∃ x, cargs.toList = [x] := by
          match hq : cargs.toList, hl with
          | [x], _ => exact ⟨x, rfl⟩
        have hca : cargs = #[xx] := by apply Array.ext'; simpa using hxx
        subst hca
        have hx : VR H ρ F w (x'.ev e) (a.eval xx) := hr 0 _ _ (by simp) (by simp)
        simp only [aop] at ha
        obtain ⟨rfl, w', h1, h2, h3, h4⟩ := clr_ok (ty := type) hp ht hd hz hx ha
        exact ⟨.tuple #[], w', ρ, F, .inl (by simp [execOp, resolve, invoke, builtin, h1]), h2, .imm (.tup [] [] rfl (by simp)), h3, h4, fun _ x => x, fun _ x => .inl x⟩
    · cases hc
  | _ => simp [cOp0] at hc

end
end Go.PI
