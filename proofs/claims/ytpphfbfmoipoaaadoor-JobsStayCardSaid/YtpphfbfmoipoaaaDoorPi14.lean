/- One operation, calls among them, as a step of the walk; a region in the order of its text. No condition. -/
import Derived.Test.YtpphfbfmoipoaaaDoorPi13
namespace Go.PI
open Go.RowKit

section
variable {P : Program} {C : Cfg} {im : Md} {at_ : Bool} {B N : Nat} {F F' : Nat → Prop} {H H' : List AO} {ρ ρ' : List Value} {w w' : World} {x y : Value} {e : Env} {a : Act}

def Callee' (P : Program) (f : Nat) : Prop := ∃ fn c, P.funcs[f]? = some fn ∧ fn.body = some c ∧ (fn.name == "runtime.NumGoroutine") = false

structure PhiOk (C : Cfg) (P : Program) (φ : Phi) : Prop where
  cl : ∀ f args res rows, φ.cl f args = some (res, rows) → FnOk C P f args res rows ∧ Callee' P f
  op : ∀ f args H res H', φ.op f args H = some (res, H') → FnOkO C P f args H res H' ∧ Callee' P f

theorem rel_append {R : AV → Value → Prop} {cs ds : List AV} {us vs : List Value} (hl : cs.length = us.length) (h1 : ∀ (j : Nat) (c : AV) (u : Value), cs[j]? = some c → us[j]? = some u → R c u)
    (h2 : ∀ (j : Nat) (c : AV) (u : Value), ds[j]? = some c → vs[j]? = some u → R c u) : ∀ (j : Nat) (c : AV) (u : Value), (cs ++ ds)[j]? = some c → (us ++ vs)[j]? = some u → R c u := by
  intro j c u hc hu
  rcases Nat.lt_or_ge j cs.length with hj | hj
  · rw [List.getElem?_append_left hj] at hc
    rw [List.getElem?_append_left (by omega)] at hu
    exact h1 j c u hc hu
  · rw [List.getElem?_append_right hj] at hc
    rw [List.getElem?_append_right (by omega), ← hl] at hu
    exact h2 _ c u hc hu

theorem call_step {φ : Phi} (hφ : PhiOk C P φ) {f : Operand} {cargs : Array Operand} {ats : Array TypeId} {dst : Option Nat} {type : TypeId} {pos : String} {after : Array Edge} {guard : Option (Nat × Bool)} {fo : OP} {args : List OP} (hf : cOpd C f = some fo) (hargs : cOpds C cargs.toList = some args)
    (hs : Sim C B F H ρ N e a w) {d : AV} (ha : aop φ (.call fo args) e H = some (d, H'))
    {K : Act → World → Prop} {Q : Exit → Act → World → Prop} (hK : ∀ v w' ρ' F', Post B F H ρ w d H' v w' ρ' F' → K (a.put dst v) w') : (⟨dst, .call ⟨.value f, cargs, ats⟩, type, pos, after, guard⟩ : Oper).wp P a w K Q := by
  have hp := hs.hp
  have env : ∀ {x : Operand} {y : OP}, cOpd C x = some y → VR H ρ F w (y.ev e) (a.eval x) := fun h => opd_ok hs h
  simp only [aop] at ha
  split at ha
  case h_2 => cases ha
  rename_i fid caps hfv
  have hfun := env hf
  rw [hfv] at hfun
  obtain ⟨capV, hfe, hcl, hcr⟩ := hfun.fn_inv
  obtain ⟨r, hr, ha⟩ := Option.map_eq_some_iff.1 ha
  obtain ⟨res, rows⟩ := r
  obtain ⟨⟨hrow, hfn⟩, fn, code, hfn1, hfn2, hfn3⟩ := hφ.cl _ _ _ _ hr
  obtain ⟨hal, har⟩ := opds_ok (e := e) (a := a) env cargs.toList args hargs
  let vs := args.map (fun x => x.ev e) ++ caps
  let cv := cargs.toList.map a.eval ++ capV
  have hvl : vs.length = cv.length := by simp [vs, cv, hal, hcl]
  have hvr : ∀ (j : Nat) (c : AV) (u : Value), vs[j]? = some c → cv[j]? = some u → VR H ρ F w c u := rel_append (by simp [hal]) har hcr
  obtain ⟨F1, hp1, ev1, hF1, hF1b, hlen1, hF1r⟩ := hp.frz (vs.flatMap refs1)
  have hcalls := hfn F1 w cv hp1.fb (hs.glob.mono hF1 (fun _ _ => rfl)) (by simpa [vs] using hvl) (fun j c u hc hu => by
    rw [List.getElem?_map] at hc
    obtain ⟨c0, hc0, rfl⟩ := Option.map_eq_some_iff.1 hc
    exact conv1_ir hp (hvr j c0 u hc0 hu) hF1 (fun id T s g es v0 b h1 h2 h3 h4 => hF1r id T s g es v0 b h1 h2 h3 (List.mem_flatMap.2 ⟨c0, List.mem_of_getElem? hc0, h4⟩)))
  have hrun : (execOp a.eval ⟨dst, .call ⟨.value f, cargs, ats⟩, type, pos, after, guard⟩).run P w = .ok (.enter fid cv.toArray) w := by
    have hca : cargs.map a.eval ++ capV.toArray = cv.toArray := by
      apply Array.ext'; simp [cv]
    simp [execOp, resolve, hfe, Deferred.ofValue, invoke, callFunc, hfn1, hfn2, hca]
    simpa using hfn3
  unfold Oper.wp
  rw [hrun, Oper.upon_enter]
  refine hcalls.mono ?_
  rintro en w' ⟨v, σ, F2, rfl, hR, hres, hb, hF2, hF2b⟩
  simp only
  split at ha
  · rename_i hplain
    simp only [Prod.mk.injEq] at ha
    obtain ⟨rfl, rfl⟩ := ha
    refine hK v w' ρ F ⟨hp.grow hb, plainR_vr hplain.1 hres.vr, Ev.refl _ _, Kept.of_below hb, fun _ x => x, fun _ x => .inl x⟩
  · simp only [Prod.mk.injEq] at ha
    obtain ⟨rfl, rfl⟩ := ha
    have hjoin := hp1.join hR hrow hb hF2 hF2b
    have hl1 : ρ.length = (frz (vs.flatMap refs1) H).length := hp1.len
    have hval := shift2_ok hl1 hres
    rw [hlen1] at hval
    refine hK v w' (ρ ++ σ) F2 ⟨hjoin, hval, ev1.trans (Ev.push _ _ _ _ hp1.len), ?_, fun b hb' => hF2 b (hF1 b hb'), fun b hb' => ?_⟩
    · exact ⟨hb.os, hb.tape, hb.output, hb.size, fun k hk _ => hb.block k hk⟩
    · rcases hF2b b hb' with h | h
      · exact hF1b b h
      · exact .inr (Nat.le_trans hp.base h)

theorem ocall_step {φ : Phi} (hφ : PhiOk C P φ) {f : Operand} {cargs : Array Operand} {ats : Array TypeId} {dst : Option Nat} {type : TypeId} {pos : String} {after : Array Edge} {guard : Option (Nat × Bool)} {fo : OP} {args : List OP} (hf : cOpd C f = some fo) (hargs : cOpds C cargs.toList = some args)
    (hs : Sim C B F H ρ N e a w) {d : AV} (ha : aop φ (.ocall fo args) e H = some (d, H'))
    {K : Act → World → Prop} {Q : Exit → Act → World → Prop} (hK : ∀ v w' ρ' F', Post B F H ρ w d H' v w' ρ' F' → K (a.put dst v) w') : (⟨dst, .call ⟨.value f, cargs, ats⟩, type, pos, after, guard⟩ : Oper).wp P a w K Q := by
  have env : ∀ {x : Operand} {y : OP}, cOpd C x = some y → VR H ρ F w (y.ev e) (a.eval x) := fun h => opd_ok hs h
  simp only [aop] at ha
  split at ha
  case h_2 => cases ha
  rename_i fid caps hfv
  have hfun := env hf
  rw [hfv] at hfun
  obtain ⟨capV, hfe, hcl, hcr⟩ := hfun.fn_inv
  obtain ⟨hfn, fn, code, hfn1, hfn2, hfn3⟩ := hφ.op _ _ _ _ _ ha
  obtain ⟨hal, har⟩ := opds_ok (e := e) (a := a) env cargs.toList args hargs
  let vs := args.map (fun x => x.ev e) ++ caps
  let cv := cargs.toList.map a.eval ++ capV
  have hvl : vs.length = cv.length := by simp [vs, cv, hal, hcl]
  have hvr : ∀ (j : Nat) (c : AV) (u : Value), vs[j]? = some c → cv[j]? = some u → VR H ρ F w c u := rel_append (by simp [hal]) har hcr
  have hcalls := hfn B F ρ w cv hs.hp hs.glob hvl hvr
  have hrun : (execOp a.eval ⟨dst, .call ⟨.value f, cargs, ats⟩, type, pos, after, guard⟩).run P w = .ok (.enter fid cv.toArray) w := by
    have hca : cargs.map a.eval ++ capV.toArray = cv.toArray := by
      apply Array.ext'; simp [cv]
    simp [execOp, resolve, hfe, Deferred.ofValue, invoke, callFunc, hfn1, hfn2, hca]
    simpa using hfn3
  unfold Oper.wp
  rw [hrun, Oper.upon_enter]
  refine hcalls.mono ?_
  rintro en w' ⟨v, ρ', F', rfl, hpost⟩
  exact hK v w' ρ' F' hpost

theorem indep_ir {F0 : Nat → Prop} {w0 : World} {c : AV} (h : IR F w c x) (hi : indep0 c = true) : IR F0 w0 c x := by
  cases h <;> simp only [indep0, Bool.false_eq_true] at hi
  case top => exact .top _
  case bool => exact .bool _
  case int => exact .int _ _
  case str => exact .str _
  case nilp => exact .nilp
  case e0 => exact .e0 _
  case nils => exact .nils _ (by assumption)
  case en => exact .en _ _ (by assumption)
  case fn f cs us hl hr =>
    cases cs with
    | nil => exact .fn f [] us hl (fun j c u hc => by simp at hc)
    | cons => simp at hi

theorem indep_cr {R : List AO} {σ : List Value} {F0 : Nat → Prop} {c : AV} (h : CR R σ F w c x) (hi : indepR0 c = true) : CR R σ F0 w c x := by
  rcases h with h | ⟨id, g, o, n, rfl, h⟩
  · left
    cases c <;> simp only [indepR0] at hi <;> first | exact indep_ir h hi | cases h
  · right
    refine ⟨id, g, o, n, rfl, ?_⟩
    cases h with
    | imm h => cases h
    | ref _ _ _ _ A c h => exact .ref _ _ _ _ A c h

theorem indep_r1 {R : List AO} {σ : List Value} {F0 : Nat → Prop} {c : AV} (h : RR1 R σ F w c x) (hi : indepR1 c = true) : RR1 R σ F0 w c x := by
  rcases h with h | ⟨cs, us, rfl, rfl, hl, h1, hr⟩
  · cases c with
    | agg cs =>
      rcases h with h | ⟨_, _, _, _, hc, _⟩
      · cases h with
        | agg _ us hl h1 hr =>
          simp only [indepR1, List.all_eq_true] at hi
          refine .inr ⟨cs, us, rfl, rfl, hl, h1, fun j c u hc hu => ?_⟩
          exact indep_cr (.inl (hr j c u hc hu)) (hi c (List.mem_of_getElem? hc))
      · cases hc
    | _ => exact .inl (indep_cr h hi)
  · simp only [indepR1, List.all_eq_true] at hi
    exact .inr ⟨cs, us, rfl, rfl, hl, h1, fun j c u hc hu => indep_cr (hr j c u hc hu) (hi c (List.mem_of_getElem? hc))⟩

theorem indep_r2 {R : List AO} {σ : List Value} {F0 : Nat → Prop} {c : AV} (h : RR2 R σ F w c x) (hi : indepR2 c = true) : RR2 R σ F0 w c x := by
  rcases h with h | ⟨cs, us, rfl, rfl, hl, hr⟩
  · cases c with
    | tup vs =>
      rcases h with (h | ⟨_, _, _, _, hc, _⟩) | ⟨_, _, hc, _⟩
      · cases h with
        | tup _ us hl hr =>
          simp only [indepR2, List.all_eq_true] at hi
          exact .inr ⟨vs, us, rfl, rfl, hl, fun j c u hc hu => indep_r1 (.inl (.inl (hr j c u hc hu))) (hi c (List.mem_of_getElem? hc))⟩
      · cases hc
      · cases hc
    | _ => exact .inl (indep_r1 h hi)
  · simp only [indepR2, List.all_eq_true] at hi
    exact .inr ⟨cs, us, rfl, rfl, hl, fun j c u hc hu => indep_r1 (hr j c u hc hu) (hi c (List.mem_of_getElem? hc))⟩

/-- rows that hang on no memory -/
theorem HeapRep.indep {F0 : Nat → Prop} {R : List AO} {σ : List Value} {b0 : Nat} (h : HeapRep b0 F R σ w) (hi : R.all indepO = true) (hs : ∀ b, F0 b → F b) : HeapRep b0 F0 R σ w := by
  simp only [List.all_eq_true] at hi
  have isRow : ∀ (id : Nat) (o : AO), R[id]? = some o → indepO o = true := fun id o ho => hi o (List.mem_of_getElem? ho)
  refine ⟨h.len, h.base, fun b hb => h.fb b (hs b hb), ?_, ?_, ?_, ?_, ?_, h.dist⟩
  · intro id T s g es hr
    obtain ⟨v, us, r⟩ := h.row id T s g es hr
    have := isRow id _ hr
    simp only [indepO, List.all_eq_true] at this
    exact ⟨v, us, r.at_, r.own, r.pos, r.cells, r.one, fun j c u hc hu => indep_ir (r.rel j c u hc hu) (this c (List.mem_of_getElem? hc)), fun b hb hF => r.free b hb (hs b hF)⟩
  all_goals (intros; rename_i hr; have := isRow _ _ hr; simp [indepO] at this)

theorem callr_step {φ : Phi} (hφ : PhiOk C P φ) {f : Operand} {cargs : Array Operand} {ats : Array TypeId} {dst : Option Nat} {type : TypeId} {pos : String} {after : Array Edge} {guard : Option (Nat × Bool)} {fo : OP} {args : List OP} (hf : cOpd C f = some fo) (hargs : cOpds C cargs.toList = some args)
    (hs : Sim C B F H ρ N e a w) {d : AV} (ha : aop φ (.callr fo args) e H = some (d, H'))
    {K : Act → World → Prop} {Q : Exit → Act → World → Prop} (hK : ∀ v w' ρ' F', Post B F H ρ w d H' v w' ρ' F' → K (a.put dst v) w') : (⟨dst, .call ⟨.value f, cargs, ats⟩, type, pos, after, guard⟩ : Oper).wp P a w K Q := by
  have hp := hs.hp
  have env : ∀ {x : Operand} {y : OP}, cOpd C x = some y → VR H ρ F w (y.ev e) (a.eval x) := fun h => opd_ok hs h
  simp only [aop] at ha
  split at ha
  case h_2 => cases ha
  rename_i fid caps hfv
  have hfun := env hf
  rw [hfv] at hfun
  obtain ⟨capV, hfe, hcl, hcr⟩ := hfun.fn_inv
  obtain ⟨r, hr, ha⟩ := Option.map_eq_some_iff.1 ha
  obtain ⟨res, rows⟩ := r
  obtain ⟨⟨hrow, hfn⟩, fn, code, hfn1, hfn2, hfn3⟩ := hφ.cl _ _ _ _ hr
  obtain ⟨hal, har⟩ := opds_ok (e := e) (a := a) env cargs.toList args hargs
  let vs := args.map (fun x => x.ev e) ++ caps
  let cv := cargs.toList.map a.eval ++ capV
  have hvl : vs.length = cv.length := by simp [vs, cv, hal, hcl]
  have hvr0 : ∀ (j : Nat) (c : AV) (u : Value), vs[j]? = some c → cv[j]? = some u → VR H ρ F w c u := rel_append (by simp [hal]) har hcr
  obtain ⟨F0, hp0, ev0, hF0, hF0b, hlen0⟩ := hp.closeL (vs.flatMap refs1)
  have hvr : ∀ (j : Nat) (c : AV) (u : Value), vs[j]? = some c → cv[j]? = some u → VR (closeL (vs.flatMap refs1) H) ρ F0 w c u := fun j c u hc hu => (hvr0 j c u hc hu).mono ev0 hF0 (fun _ _ => rfl)
  obtain ⟨F1, hp1, ev1, hF1, hF1b, hlen1, hF1r⟩ := hp0.frz (vs.flatMap refs1)
  have hcalls := hfn F1 w cv hp1.fb (hs.glob.mono (fun b hb => hF1 b (hF0 b hb)) (fun _ _ => rfl)) (by simpa [vs] using hvl) (fun j c u hc hu => by
    rw [List.getElem?_map] at hc
    obtain ⟨c0, hc0, rfl⟩ := Option.map_eq_some_iff.1 hc
    exact conv1_ir hp0 (hvr j c0 u hc0 hu) hF1 (fun id T s g es v0 b h1 h2 h3 h4 => hF1r id T s g es v0 b h1 h2 h3 (List.mem_flatMap.2 ⟨c0, List.mem_of_getElem? hc0, h4⟩)))
  have hrun : (execOp a.eval ⟨dst, .call ⟨.value f, cargs, ats⟩, type, pos, after, guard⟩).run P w = .ok (.enter fid cv.toArray) w := by
    have hca : cargs.map a.eval ++ capV.toArray = cv.toArray := by
      apply Array.ext'; simp [cv]
    simp [execOp, resolve, hfe, Deferred.ofValue, invoke, callFunc, hfn1, hfn2, hca]
    simpa using hfn3
  unfold Oper.wp
  rw [hrun, Oper.upon_enter]
  refine hcalls.mono ?_
  rintro en w' ⟨v, σ, F2, rfl, hR, hres, hb, hF2, hF2b⟩
  simp only
  split at ha
  · rename_i hplain
    simp only [Prod.mk.injEq] at ha
    obtain ⟨rfl, rfl⟩ := ha
    refine hK v w' ρ F ⟨hp.grow hb, plainR_vr hplain.1 hres.vr, Ev.refl _ _, Kept.of_below hb, fun _ x => x, fun _ x => .inl x⟩
  split at ha
  · rename_i hind
    simp only [Prod.mk.injEq] at ha
    obtain ⟨rfl, rfl⟩ := ha
    have hR' : HeapRep w.heap.size F rows σ w' := hR.indep hind.2 (fun b hb' => hF2 b (hF1 b (hF0 b hb')))
    have hres' : RR2 rows σ F w' res v := indep_r2 hres hind.1
    have hjoin := hp.join hR' hrow hb (fun _ x => x) (fun b hb' => .inl hb')
    have hval := shift2_ok hp.len hres'
    refine hK v w' (ρ ++ σ) F ⟨hjoin, hval, Ev.push _ _ _ _ hp.len, ?_, fun _ x => x, fun _ x => .inl x⟩
    exact ⟨hb.os, hb.tape, hb.output, hb.size, fun k hk _ => hb.block k hk⟩
  · simp only [Prod.mk.injEq] at ha
    obtain ⟨rfl, rfl⟩ := ha
    have hjoin := hp1.join hR hrow hb hF2 hF2b
    have hl1 : ρ.length = (frz (vs.flatMap refs1) (closeL (vs.flatMap refs1) H)).length := hp1.len
    have hval := shift2_ok hl1 hres
    rw [hlen1, hlen0] at hval
    refine hK v w' (ρ ++ σ) F2 ⟨hjoin, hval, (ev0.trans ev1).trans (Ev.push _ _ _ _ hp1.len), ?_, fun b hb' => hF2 b (hF1 b (hF0 b hb')), fun b hb' => ?_⟩
    · exact ⟨hb.os, hb.tape, hb.output, hb.size, fun k hk _ => hb.block k hk⟩
    · rcases hF2b b hb' with h | h
      · exact (hF1b b h).elim (hF0b b) .inr
      · exact .inr (Nat.le_trans hp.base h)

theorem ocallc_step {φ : Phi} (hφ : PhiOk C P φ) {f : Operand} {cargs : Array Operand} {ats : Array TypeId} {dst : Option Nat} {type : TypeId} {pos : String} {after : Array Edge} {guard : Option (Nat × Bool)} {fo : OP} {args : List OP} (hf : cOpd C f = some fo) (hargs : cOpds C cargs.toList = some args)
    (hs : Sim C B F H ρ N e a w) {d : AV} (ha : aop φ (.ocallc fo args) e H = some (d, H'))
    {K : Act → World → Prop} {Q : Exit → Act → World → Prop} (hK : ∀ v w' ρ' F', Post B F H ρ w d H' v w' ρ' F' → K (a.put dst v) w') : (⟨dst, .call ⟨.value f, cargs, ats⟩, type, pos, after, guard⟩ : Oper).wp P a w K Q := by
  simp only [aop] at ha
  split at ha
  case h_2 => cases ha
  rename_i fid caps hfv
  obtain ⟨F0, hp0, ev0, hF0, hF0b, hlen0⟩ := hs.hp.closeL ((args.map (fun x => x.ev e) ++ caps).flatMap refs1)
  have hs0 : Sim C B F0 (closeL ((args.map (fun x => x.ev e) ++ caps).flatMap refs1) H) ρ N e a w :=
    ⟨hp0, hs.defers, hs.size, fun i => (hs.env i).mono ev0 hF0 (fun _ _ => rfl), hs.glob.mono hF0 (fun _ _ => rfl)⟩
  refine ocall_step hφ hf hargs hs0 (by simp only [aop, hfv]; exact ha) (fun v w' ρ' F' hpost => hK v w' ρ' F' ?_)
  exact ⟨hpost.hp, hpost.val, ev0.trans hpost.ev, ⟨hpost.kept.os, hpost.kept.tape, hpost.kept.output, hpost.kept.size, fun k hk hc => hpost.kept.block k hk (hc.imp id (hF0 k))⟩, fun b hb => hpost.sub b (hF0 b hb), fun b hb => (hpost.bnd b hb).elim (hF0b b) .inr⟩

/-- One operation. -/
theorem step_sound {φ : Phi} (hφ : PhiOk C P φ) {o : Oper} {iop : IOp} (hc : cOp P C im o = some iop) (hs : Sim C B F H ρ N e a w) {d : AV} (ha : aop φ iop e H = some (d, H'))
    {K : Act → World → Prop} {Q : Exit → Act → World → Prop} (hK : ∀ v w' ρ' F', Post B F H ρ w d H' v w' ρ' F' → K (a.put o.dst v) w') : o.wp P a w K Q := by
  rcases cOp_inv hc with ⟨hcall, hc⟩ | ⟨f, cargs, ats, ho, hc'⟩ | rfl
  · obtain ⟨v, w', ρ', F', hy, hpost⟩ := op_sound hc hs ha hcall
    unfold Oper.wp
    rcases hy with hy | ⟨hy, rfl⟩
    · rw [hy, Oper.upon_value]; exact hK v w' ρ' F' hpost
    · rw [hy, Oper.upon_skip]; exact hK undef w' ρ' F' hpost
  · obtain ⟨dst, op, type, pos, after, guard⟩ := o
    simp only at ho
    subst ho
    clear hc
    unfold cCall at hc'
    obtain ⟨fo, hf, hc⟩ := Option.bind_eq_some_iff.1 hc'
    obtain ⟨args, hargs, hc⟩ := Option.map_eq_some_iff.1 hc
    split at hc
    · split at hc
      · subst hc; exact ocallc_step hφ hf hargs hs ha hK
      · subst hc; exact ocall_step hφ hf hargs hs ha hK
    · split at hc
      · subst hc; exact callr_step hφ hf hargs hs ha hK
      · subst hc; exact call_step hφ hf hargs hs ha hK
  · simp [aop] at ha

theorem getD_put {tmps : Array Value} {d : Nat} {v : Value} (hd : d < tmps.size) (i : Nat) : (tmps.setIfInBounds d v).getD i undef = if d = i then v else tmps.getD i undef := by
  simp only [Array.getD_eq_getD_getElem?, Array.getElem?_setIfInBounds]
  split
  · rename_i h; subst h; simp [hd]
  · rfl

/-- The frame behind an operation. -/
theorem Sim.step (hs : Sim C B F H ρ N e a w) {d : AV} {v : Value} (hp : Post B F H ρ w d H' v w' ρ' F') {dst : Option Nat} (hd : ∀ k, dst = some k → k < N) : Sim C B F' H' ρ' N (e.put dst d) (a.put dst v) w' := by
  have hw : ∀ b, F b → w'.heap[b]? = w.heap[b]? := fun b hb => hp.kept.block b (hs.hp.fb b hb) (.inr hb)
  cases dst with
  | none => exact ⟨hp.hp, hs.defers, hs.size, fun i => (hs.env i).mono hp.ev hp.sub hw, hs.glob.mono hp.sub hw⟩
  | some k =>
    refine ⟨hp.hp, hs.defers, by simp [Act.put, hs.size], fun i => ?_, hs.glob.mono hp.sub hw⟩
    simp only [Act.put, Env.put, Env.get]
    rw [getD_put (by rw [hs.size]; exact hd k rfl)]
    split
    · exact hp.val
    · exact (hs.env i).mono hp.ev hp.sub hw

theorem Sim.skip (hs : Sim C B F H ρ N e a w) {dst : Option Nat} (hd : ∀ k, dst = some k → k < N) : Sim C B F H ρ N (e.put dst (.tup [])) (a.put dst undef) w :=
  hs.step (Post.quiet hs.hp VR.tup0) hd

/-- Is the operation carried out? -/
theorem wanted_ok (hs : Sim C B F H ρ N e a w) {ops : Array Oper} {o : Oper} {io : IOper} (hc : cOper P C N at_ ops o = some io) {b : Bool} (h : wantedA e io.guard = some b) : Region.wanted o (yielded ops a.tmps) = b := by
  unfold cOper at hc
  obtain ⟨op, hop, hc⟩ := Option.bind_eq_some_iff.1 hc
  split at hc
  case isFalse => cases hc
  cases hg : o.guard with
  | none =>
    rw [hg] at hc
    simp at hc; subst hc
    simp [wantedA] at h
    simp [Region.wanted, hg, h]
  | some q =>
    obtain ⟨j, want⟩ := q
    rw [hg] at hc
    obtain ⟨d, hd, hc⟩ := Option.bind_eq_some_iff.1 hc
    split at hc
    case isFalse => cases hc
    rename_i hdN
    injection hc with hc; subst hc
    simp only [wantedA] at h
    have hv := hs.env d
    have hget : a.tmps[d]? = some (a.tmps.getD d undef) := by
      have : d < a.tmps.size := by rw [hs.size]; exact hdN
      simp [Array.getD_eq_getD_getElem?, this]
    simp only [Region.wanted, hg, yielded, hd, Option.bind_some, hget]
    split at h
    · rename_i b0 hb0
      rw [hb0] at hv
      rw [hv.bool_inv]
      obtain rfl : (b0 == want) = b := by simpa using h
      cases b0 <;> cases want <;> rfl
    · rename_i ht
      rw [ht] at hv
      obtain ⟨us, he, hl, _⟩ := hv.tup_inv
      rw [he]
      obtain rfl : false = b := by simpa using h
      rfl
    · cases h

theorem cOper_spec {ops : Array Oper} {o : Oper} {io : IOper} (hc : cOper P C N at_ ops o = some io) : cOp P C ⟨isTmp C at_ ops o, at_, ops.toList.filterMap (·.dst), ops.toList.filterMap newDst⟩ o = some io.op ∧ io.dst = o.dst ∧ ∀ k, o.dst = some k → k < N := by
  unfold cOper at hc
  obtain ⟨op, hop, hc⟩ := Option.bind_eq_some_iff.1 hc
  split at hc
  case isFalse => cases hc
  rename_i hd
  have hd' : ∀ k, o.dst = some k → k < N := by intro k hk; rw [hk] at hd; simpa [dstOk] using hd
  split at hc
  · injection hc with hc; subst hc; exact ⟨hop, rfl, hd'⟩
  · obtain ⟨d, _, hc⟩ := Option.bind_eq_some_iff.1 hc
    split at hc
    · injection hc with hc; subst hc; exact ⟨hop, rfl, hd'⟩
    · cases hc

/-- What holds behind a piece of code. -/
structure After (C : Cfg) (B : Nat) (F : Nat → Prop) (H : List AO) (ρ : List Value) (w : World) (N : Nat) (e' : Env) (H' : List AO) (a' : Act) (w' : World) (ρ' : List Value) (F' : Nat → Prop) : Prop where
  sim : Sim C B F' H' ρ' N e' a' w'
  ev : Ev H ρ H' ρ'
  kept : Kept B F w w'
  sub : ∀ b, F b → F' b
  bnd : ∀ b, F' b → F b ∨ B ≤ b

theorem After.refl (hs : Sim C B F H ρ N e a w) : After C B F H ρ w N e H a w ρ F := ⟨hs, Ev.refl _ _, Kept.refl _ _ _, fun _ x => x, fun _ x => .inl x⟩

theorem After.trans {a1 a2 : Act} {w1 w2 : World} {ρ1 ρ2 : List Value} {F1 F2 : Nat → Prop} {e1 e2 : Env} {H1 H2 : List AO} (h : After C B F H ρ w N e1 H1 a1 w1 ρ1 F1) (k : After C B F1 H1 ρ1 w1 N e2 H2 a2 w2 ρ2 F2) : After C B F H ρ w N e2 H2 a2 w2 ρ2 F2 :=
  ⟨k.sim, h.ev.trans k.ev, h.kept.trans k.kept h.sub, fun b hb => k.sub b (h.sub b hb), fun b hb => (k.bnd b hb).elim (h.bnd b) .inr⟩

theorem After.of_post (hs : Sim C B F H ρ N e a w) {d : AV} {v : Value} (hp : Post B F H ρ w d H' v w' ρ' F') {dst : Option Nat} (hd : ∀ k, dst = some k → k < N) : After C B F H ρ w N (e.put dst d) H' (a.put dst v) w' ρ' F' :=
  ⟨hs.step hp hd, hp.ev, hp.kept, hp.sub, hp.bnd⟩

theorem get_scrub (keep : List Nat) (e : Env) (i : Nat) : (scrub keep e).get i = e.get i ∨ (scrub keep e).get i = .top := by
  unfold scrub
  induction keep with
  | nil => exact .inr rfl
  | cons k r ih =>
    simp only [List.map_cons, Env.get]
    split
    · rename_i h; subst h; exact .inl rfl
    · exact ih

theorem Sim.scrub (h : Sim C B F H ρ N e a w) (keep : List Nat) : Sim C B F H ρ N (scrub keep e) a w :=
  ⟨h.hp, h.defers, h.size, fun i => by
    rcases get_scrub keep e i with h1 | h1 <;> rw [h1]
    · exact h.env i
    · exact .imm (.top _), h.glob⟩

theorem After.scrub {e' : Env} {a' : Act} (h : After C B F H ρ w N e' H' a' w' ρ' F') (keep : List Nat) : After C B F H ρ w N (PI.scrub keep e') H' a' w' ρ' F' :=
  ⟨h.sim.scrub keep, h.ev, h.kept, h.sub, h.bnd⟩

theorem After.scr {e' : Env} {a' : Act} (h : After C B F H ρ w N e' H' a' w' ρ' F') (l : Option (List Nat)) : After C B F H ρ w N (PI.scr l e') H' a' w' ρ' F' := by
  cases l with
  | none => exact h
  | some k => exact h.scrub k

/-- A region in the order of its text. -/
theorem ops_sound {φ : Phi} (hφ : PhiOk C P φ) {ops : Array Oper} {Q : Exit → Act → World → Prop} : ∀ (l : List Oper) (is : List IOper) (e : Env) (H : List AO) (ρ : List Value) (F : Nat → Prop) (a : Act) (w : World) (e' : Env) (H' : List AO),
    cOpers P C N at_ ops l = some (is.map IOper.bare) → runOps φ is e H = some (e', H') → Sim C B F H ρ N e a w → (∀ a' w' ρ' F', After C B F H ρ w N e' H' a' w' ρ' F' → Q .normal a' w') → wpList P ops Q l a w
  | [], is, e, H, ρ, F, a, w, e', H', hc, hr, hs, hQ => by
    have : is = [] := by simpa [cOpers] using hc
    subst this
    simp [runOps] at hr
    obtain ⟨rfl, rfl⟩ := hr
    exact hQ a w ρ F (After.refl hs)
  | o :: r, is, e, H, ρ, F, a, w, e', H', hc, hr, hs, hQ => by
    simp only [cOpers] at hc
    obtain ⟨io0, hio, hc⟩ := Option.bind_eq_some_iff.1 hc
    obtain ⟨is0, his, hc⟩ := Option.map_eq_some_iff.1 hc
    cases is with
    | nil => cases hc
    | cons io is' =>
      simp only [List.map_cons, List.cons.injEq] at hc
      obtain ⟨rfl, rfl⟩ := hc
      simp only [runOps] at hr
      obtain ⟨b, hb, hr⟩ := Option.bind_eq_some_iff.1 hr
      have hw := wanted_ok hs hio (b := b) hb
      obtain ⟨hop, hdst, hdN⟩ := cOper_spec hio
      have hdst : io.dst = o.dst := hdst
      unfold wpList
      rw [hw]
      cases b with
      | true =>
        simp only [if_true] at hr ⊢
        obtain ⟨q, hq, hr⟩ := Option.bind_eq_some_iff.1 hr
        left
        refine step_sound hφ hop hs hq (fun v w' ρ' F' hpost => ?_)
        have haft := (After.of_post hs hpost hdN).scr io.live
        rw [hdst] at hr
        exact ops_sound hφ r is' _ _ ρ' F' _ w' e' H' his hr haft.sim (fun a2 w2 ρ2 F2 h2 => hQ a2 w2 ρ2 F2 (haft.trans h2))
      | false =>
        simp only [Bool.false_eq_true, if_false] at hr ⊢
        have haft := (After.of_post hs (Post.quiet hs.hp VR.tup0) hdN).scr io.live
        rw [hdst] at hr
        exact ops_sound hφ r is' _ _ ρ F _ w e' H' his hr haft.sim (fun a2 w2 ρ2 F2 h2 => hQ a2 w2 ρ2 F2 (haft.trans h2))

end
end Go.PI
