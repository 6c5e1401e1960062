/- All arguments of a row at once; the contract of a law's row out of one run of the interpreter. No condition. -/
import Derived.Test.YtpphfbfmoipoaaaDoorPi22
namespace Go.PI
open Go.RowKit Go.WideShapes Go.ChangeShapes

/-- a value of the type, as the interpreter has it -/
def ArgTy (P : Program) (n : Nat) (t : TypeId) (a : AV) : Prop :=
  ∃ ts cs, tys P n t = some ts ∧ a = mkEl (isStruct P t) cs ∧ cs.length = ts.length ∧ ∀ (j : Nat) (q : Ty) (c : AV), ts[j]? = some q → cs[j]? = some c → HasTy q c

section
variable {T : Type} {enc : TypeId × Value → T} {P : Program} {W : World} {base b0 : Nat} {spare : Nat → Bool} {held : Bool}

theorem tys_scalar {n : Nat} {t : TypeId} {ts : List Ty} (h : tys P n t = some ts) (hs : isStruct P t = false) : ts.length = 1 := by
  cases n with
  | zero => cases h
  | succ n =>
    unfold tys at h
    split at h
    · cases h; rfl
    · cases h; rfl
    · cases h; rfl
    · rename_i e hu
      cases he : tys P n e with
      | none => rw [he] at h; cases h; rfl
      | some ts' =>
        rw [he] at h
        simp only at h
        split at h
        · cases h; rfl
        · cases h; rfl
    · rename_i fs hu
      simp [isStruct, hu] at hs
    · rename_i m e hu
      simp [isStruct, hu] at hs
    · cases h

theorem arg_read {n : Nat} {t : TypeId} {ts : List Ty} {v : Value} {d : DataW T} {ps : List MemPlace} (hty : tys P n t = some ts) (hok : Value.okWide P W .any b0 t v)
    (h : DataW.Trod enc P W base spare held t v d ps) : ∃ a, IR (fun b => b < W.heap.size) W a v ∧ ArgTy P n t a := by
  obtain ⟨fuel, hf⟩ := h
  obtain ⟨avs, hr⟩ := rd_of_trod n t ts hty fuel _ _ hf
  refine ⟨mkEl (isStruct P t) avs, ?_, ts, avs, hty, rfl, by rw [hr.len.1, hr.len.2], hr.ty⟩
  cases hs : isStruct P t with
  | true =>
    have : (∃ fs, P.underlying t = some (.struct fs)) ∨ ∃ m e, P.underlying t = some (.array m e) := by
      unfold isStruct at hs
      split at hs
      · exact .inl ⟨_, by assumption⟩
      · exact .inr ⟨_, _, by assumption⟩
      · cases hs
    obtain ⟨cs, rfl⟩ : ∃ cs, v = .agg cs := by
      unfold Value.okWide at hok
      rcases this with ⟨fs, hu⟩ | ⟨m, e, hu⟩ <;> rw [hu] at hok <;> obtain ⟨cs, h1, _, _⟩ := hok <;> exact ⟨cs, h1⟩
    have := IR.agg (F := fun b => b < W.heap.size) (w := W) avs cs.toList hr.len.1 hr.one hr.ir
    simpa [mkEl] using this
  | false =>
    have h1 := tys_scalar hty hs
    generalize hc : v.cells.toList = us at hr
    cases hr with
    | nil => simp at h1
    | cons ha hb hc' hd => cases hd with
      | cons => simp at h1
      | nil =>
        rename_i u c q
        have hv : v = u := by
          unfold Value.okWide at hok
          cases v with
          | agg cs =>
            exfalso
            split at hok
            · rename_i fs hu; simp [isStruct, hu] at hs
            · rename_i m e hu; simp [isStruct, hu] at hs
            · simp [Cell.okWide, Cell.ok] at hok
          | _ => simpa [Value.cells] using hc
        subst hv
        exact hb

/-- all arguments -/
theorem args_read (n : Nat) : ∀ {ts : List TypeId} {vs : List Value} {ds : List (DataW T)} {ps : List MemPlace}, (∀ t ∈ ts, (tys P n t).isSome = true) →
    (∀ (j : Nat) t v, ts[j]? = some t → vs[j]? = some v → Value.okWide P W .any b0 t v) → DataW.TrodAll enc P W base spare held ts vs ds ps →
    ∃ as : List AV, as.length = vs.length ∧ as.length = ts.length ∧ (∀ (j : Nat) (c : AV) (u : Value), as[j]? = some c → vs[j]? = some u → IR (fun b => b < W.heap.size) W c u) ∧
      ∀ (j : Nat) (t : TypeId) (c : AV), ts[j]? = some t → as[j]? = some c → ArgTy P n t c
  | [], vs, ds, ps, _, _, h => by
    obtain ⟨rfl, rfl, rfl⟩ := trodAll_nil h
    exact ⟨[], rfl, rfl, by simp, by simp⟩
  | t :: ts, vs, ds, ps, ht, hv, h => by
    obtain ⟨v, vs', d, ds', p, q, rfl, rfl, rfl, h1, h2⟩ := trodAll_cons h
    obtain ⟨tt, htt⟩ := Option.isSome_iff_exists.1 (ht t (by simp))
    obtain ⟨a, ha, hat⟩ := arg_read htt (hv 0 t v rfl rfl) h1
    obtain ⟨as, l1, l2, h3, h4⟩ := args_read n (fun t' h' => ht t' (by simp [h'])) (fun j t' v' a1 a2 => hv (j + 1) t' v' (by simpa using a1) (by simpa using a2)) h2
    refine ⟨a :: as, by simp [l1], by simp [l2], ?_, ?_⟩
    · intro j c u hc hu
      cases j with
      | zero => simp at hc hu; subst hc hu; exact ha
      | succ j => simp at hc hu; exact h3 j c u hc hu
    · intro j t' c hc hu
      cases j with
      | zero => simp at hc hu; subst hc hu; exact hat
      | succ j => simp at hc hu; exact h4 j t' c hc hu

/-- THE ROW's CONTRACT for a law: of all arguments of the types the interpreter's run gives true. -/
theorem law_calls {C : Cfg} {f : FuncId} {fn : Func} {s : ChangeSpec} {apart fresh handsOn again : Bool} {tb : TypeId} {tbl : TB} (n : Nat)
    (hm : P.follows .mixedOrders = true) (ht : TBok P C tbl)
    (hl : laidOutB P = true) (hread : ∀ t ∈ fn.params.toList, P.readableRec t = true ∧ t < P.types.size) (hv0 : s.vars = []) (hrt : fn.resultTypes = #[tb]) (hu : P.underlying tb = some .bool)
    (hty : ∀ t ∈ fn.params.toList, (tys P n t).isSome = true)
    (hrun : ∀ as : List AV, as.length = fn.params.toList.length → (∀ (j : Nat) (t : TypeId) (c : AV), fn.params.toList[j]? = some t → as[j]? = some c → ArgTy P n t c) → callW tbl f as = some (.bool true, []))
    {args : Array Value} {ds gs : List (DataW T)} {before : List MemPlace} (hg : Glob C (fun b => b < W.heap.size) W)
    (hval : ∀ (j : Nat) t v, fn.params[j]? = some t → args[j]? = some v → Value.okWide P W .any b0 t v)
    (hW : DataW.Whole enc P fn.params.toList s.vars apart W args.toList ds gs before)
    (hfr : (s.fn T (ds ++ gs)).results = [.lit (.bool true)]) (hfa : (s.fn T (ds ++ gs)).args = ds) (hfv : (s.fn T (ds ++ gs)).vars = []) :
    Calls P f args W fun e W' => ∃ v, e = .returned v ∧ s.post enc P fn apart fresh handsOn again W args v W' := by
  obtain ⟨pa, pv, hA, _⟩ := id hW
  obtain ⟨as, l1, l2, h3, h4⟩ := args_read (b0 := b0) n hty (fun j t v a1 a2 => hval j t v (by rw [← Array.getElem?_toList]; exact a1) (by rw [← Array.getElem?_toList]; exact a2)) hA
  have := true_of hm ht (hrun as l2 h4) W args.toList hg l1 h3
  rw [Array.toArray_toList] at this
  refine this.mono ?_
  rintro e W' ⟨rfl, hb⟩
  exact ⟨_, rfl, law_post hl hread hv0 hrt hu hW hfr hfa hfv hb⟩
end
end Go.PI
