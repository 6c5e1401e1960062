/- Every operation but a call of a Go function: what the interpreter says of it is what the model does. No condition. -/
import Derived.Test.YtpphfbfmoipoaaaDoorPi9r
import Derived.Laws.Strings
namespace Go.PI
open Go.RowKit

section
variable {P : Program} {C : Cfg} {im : Md} {B N : Nat} {F F' : Nat → Prop} {H H' : List AO} {ρ ρ' : List Value} {w w' : World} {x y : Value} {e : Env} {a : Act}

theorem ba_toList (l : List UInt8) : (⟨l.toArray⟩ : ByteArray).toList = l := by rw [ByteArray.toList_eq]
theorem ba_size (l : List UInt8) : (⟨l.toArray⟩ : ByteArray).size = l.length := by simp [ByteArray.size]
theorem ba_append (l m : List UInt8) : (⟨l.toArray⟩ : ByteArray) ++ ⟨m.toArray⟩ = ⟨(l ++ m).toArray⟩ := by
  apply ByteArray.ext
  simp [ByteArray.data_append]
theorem ba_extract (l : List UInt8) (i j : Nat) : (⟨l.toArray⟩ : ByteArray).extract i j = ⟨((l.drop i).take (j - i)).toArray⟩ := by
  apply ByteArray.ext
  rw [ByteArray.data_extract]
  simp [List.take_drop]

theorem bin_ok {op : BinOp} {t : TypeId} {xo yo : Operand} {xv yv d : AV} (hx : VR H ρ F w xv x) (hy : VR H ρ F w yv y) (h : abin op xv yv = some d) :
    ∃ v, (do eqGuard op t xo yo x y; binOp op t x y : Sem Value).run P w = .ok v w ∧ VR H ρ F w d v := by
  cases xv with
  | int k n =>
    cases yv with
    | int k' m =>
      have := hx.int_inv; subst this
      have := hy.int_inv; subst this
      simp only [eqGuard_at_int]
      simp only [abin] at h
      cases op with
      | shl =>
        simp only at h
        split at h
        case isTrue => cases h
        rename_i hm
        injection h with h; subst h
        refine ⟨_, ?_, .imm (.int _ _)⟩
        simp [binOp, Op.shift, hm]
      | shr =>
        simp only at h
        split at h
        case isTrue => cases h
        rename_i hm
        injection h with h; subst h
        refine ⟨_, ?_, .imm (.int _ _)⟩
        simp [binOp, Op.shift, hm]
      | add =>
        simp only at h
        split at h
        case isFalse => cases h
        rename_i hk; subst hk
        simp only [aint] at h
        injection h with h; subst h
        exact ⟨_, by simp [binOp, Op.intArith], .imm (.int _ _)⟩
      | sub =>
        simp only at h
        split at h
        case isFalse => cases h
        rename_i hk; subst hk
        simp only [aint] at h
        injection h with h; subst h
        exact ⟨_, by simp [binOp, Op.intArith], .imm (.int _ _)⟩
      | mul =>
        simp only at h
        split at h
        case isFalse => cases h
        rename_i hk; subst hk
        simp only [aint] at h
        injection h with h; subst h
        exact ⟨_, by simp [binOp, Op.intArith], .imm (.int _ _)⟩
      | quo =>
        simp only at h
        split at h
        case isFalse => cases h
        rename_i hk; subst hk
        simp only [aint] at h
        split at h
        case isTrue => cases h
        rename_i h0
        injection h with h; subst h
        exact ⟨_, by simp [binOp, Op.intDiv, h0], .imm (.int _ _)⟩
      | rem =>
        simp only at h
        split at h
        case isFalse => cases h
        rename_i hk; subst hk
        simp only [aint] at h
        split at h
        case isTrue => cases h
        rename_i h0
        injection h with h; subst h
        exact ⟨_, by simp [binOp, Op.intDiv, h0], .imm (.int _ _)⟩
      | and =>
        simp only at h
        split at h
        case isFalse => cases h
        rename_i hk; subst hk
        simp only [aint] at h
        injection h with h; subst h
        exact ⟨_, by simp [binOp]; rfl, .imm (.int _ _)⟩
      | or =>
        simp only at h
        split at h
        case isFalse => cases h
        rename_i hk; subst hk
        simp only [aint] at h
        injection h with h; subst h
        exact ⟨_, by simp [binOp]; rfl, .imm (.int _ _)⟩
      | xor =>
        simp only at h
        split at h
        case isFalse => cases h
        rename_i hk; subst hk
        simp only [aint] at h
        injection h with h; subst h
        exact ⟨_, by simp [binOp]; rfl, .imm (.int _ _)⟩
      | andNot =>
        simp only at h
        split at h
        case isFalse => cases h
        rename_i hk; subst hk
        simp only [aint] at h
        injection h with h; subst h
        exact ⟨_, by simp [binOp]; rfl, .imm (.int _ _)⟩
      | eql =>
        simp only at h
        split at h
        case isFalse => cases h
        rename_i hk; subst hk
        simp only [aint] at h
        injection h with h; subst h
        exact ⟨_, by simp [binOp, Op.intCmp], .imm (.bool _)⟩
      | neq =>
        simp only at h
        split at h
        case isFalse => cases h
        rename_i hk; subst hk
        simp only [aint] at h
        injection h with h; subst h
        exact ⟨_, by simp [binOp, Op.intCmp], .imm (.bool _)⟩
      | lss =>
        simp only at h
        split at h
        case isFalse => cases h
        rename_i hk; subst hk
        simp only [aint] at h
        injection h with h; subst h
        exact ⟨_, by simp [binOp, Op.intCmp], .imm (.bool _)⟩
      | leq =>
        simp only at h
        split at h
        case isFalse => cases h
        rename_i hk; subst hk
        simp only [aint] at h
        injection h with h; subst h
        exact ⟨_, by simp [binOp, Op.intCmp], .imm (.bool _)⟩
      | gtr =>
        simp only at h
        split at h
        case isFalse => cases h
        rename_i hk; subst hk
        simp only [aint] at h
        injection h with h; subst h
        exact ⟨_, by simp [binOp, Op.intCmp], .imm (.bool _)⟩
      | geq =>
        simp only at h
        split at h
        case isFalse => cases h
        rename_i hk; subst hk
        simp only [aint] at h
        injection h with h; subst h
        exact ⟨_, by simp [binOp, Op.intCmp], .imm (.bool _)⟩
    | _ => simp [abin] at h
  | str l =>
    cases yv with
    | str m =>
      have := hx.str_inv; subst this
      have := hy.str_inv; subst this
      simp only [eqGuard_at_string]
      simp only [abin] at h
      cases op <;> simp only [astr, reduceCtorEq] at h
      case add =>
        split at h
        case isFalse => cases h
        rename_i hle
        simp only [maxStr] at hle
        injection h with h; subst h
        refine ⟨.string (⟨l.toArray⟩ ++ ⟨m.toArray⟩), ?_, by rw [ba_append]; exact .imm (.str _)⟩
        have h2 : ¬ (9223372036854775807 < ((l.length : Int) + (m.length : Int))) := by omega
        simp [binOp, Op.stringOp, ba_size, h2]
      all_goals (injection h with h; subst h; exact ⟨_, by simp [binOp, Op.stringOp, ba_toList], .imm (.bool _)⟩)
    | _ => simp [abin] at h
  | _ => simp [abin] at h

theorem ceq_ok {t : TypeId} {k : CK} {c d : AV} {b : Bool} {u v : Value} (ht : ckOf P t = some k) (h : ceq k c d = some b) (hu : VR H ρ F w c u) (hv : VR H ρ F w d v) (n : Nat) :
    (Op.equalIn (n + 1) t u v).run P w = .ok b w ∧ u.oneCell' = true ∧ v.oneCell' = true := by
  unfold ckOf at ht
  split at ht
  · rename_i kk hd
    cases ht
    cases c <;> cases d <;> simp [ceq] at h
    obtain ⟨rfl, rfl⟩ := h
    have := hu.int_inv; subst this
    have := hv.int_inv; subst this
    exact ⟨run_equalIn_int w n t _ _ _ _ hd, rfl, rfl⟩
  · rename_i hd
    cases ht
    cases c <;> cases d <;> simp [ceq] at h
    subst h
    have := hu.bool_inv; subst this
    have := hv.bool_inv; subst this
    exact ⟨run_equalIn_bool' w n t _ _ hd, rfl, rfl⟩
  · rename_i hd
    cases ht
    cases c <;> cases d <;> simp [ceq] at h
    subst h
    have := hu.str_inv; subst this
    have := hv.str_inv; subst this
    exact ⟨by rw [run_equalIn_string w n t _ _ hd, ba_toList, ba_toList], rfl, rfl⟩
  · cases ht

theorem run_part1 {t : TypeId} {k : CK} {xs : Array Value} {i : Nat} {u : Value} (ht : ckOf P t = some k) (h : xs[i]? = some u) : (Go.part t xs i).run P w = .ok u w := by
  have hd : ∃ d, P.underlying t = some d ∧ aggD d = false := by
    unfold ckOf at ht
    split at ht
    · exact ⟨_, by assumption, rfl⟩
    · exact ⟨_, by assumption, rfl⟩
    · exact ⟨_, by assumption, rfl⟩
    · cases ht
  obtain ⟨d, hd, hag⟩ := hd
  simp [Go.part, run_isAgg hd, hag, h]

theorem ceqs_ok (n : Nat) {xs ys : List Value} : ∀ (fs : List Field) (i : Nat) (ks : List CK) (cs ds : List AV) (b : Bool), eqPlain P i fs = some ks → ceqs ks cs ds = some b →
    cs.length = (xs.drop i).length → ds.length = (ys.drop i).length →
    (∀ (j : Nat) (c : AV) (u : Value), cs[j]? = some c → (xs.drop i)[j]? = some u → VR H ρ F w c u) → (∀ (j : Nat) (c : AV) (u : Value), ds[j]? = some c → (ys.drop i)[j]? = some u → VR H ρ F w c u) →
    (Op.eqFields (n + 1) xs.toArray ys.toArray fs).run P w = .ok b w
  | [], i, ks, cs, ds, b, hk, hc, _, _, _, _ => by
    simp [eqPlain] at hk; subst hk
    cases cs <;> cases ds <;> simp [ceqs] at hc
    subst hc
    simp [Op.eqFields]
  | f :: r, i, ks, cs, ds, b, hk, hc, hl1, hl2, hr1, hr2 => by
    simp only [eqPlain] at hk
    split at hk
    case isFalse => cases hk
    rename_i hcond
    obtain ⟨hname, hoff⟩ := hcond
    obtain ⟨k, hk1, hk2⟩ := Option.bind_eq_some_iff.1 hk
    obtain ⟨ks', hk3, rfl⟩ := Option.map_eq_some_iff.1 hk2
    cases cs with
    | nil => simp [ceqs] at hc
    | cons c cs =>
      cases ds with
      | nil => simp [ceqs] at hc
      | cons d ds =>
        simp only [ceqs] at hc
        obtain ⟨b0, hb0, hc'⟩ := Option.bind_eq_some_iff.1 hc
        obtain ⟨b1, hb1, rfl⟩ := Option.map_eq_some_iff.1 hc'
        have e1 : ∃ u, xs[i]? = some u := by
          have : i < xs.length := by simp at hl1; omega
          exact ⟨_, List.getElem?_eq_getElem this⟩
        have e2 : ∃ u, ys[i]? = some u := by
          have : i < ys.length := by simp at hl2; omega
          exact ⟨_, List.getElem?_eq_getElem this⟩
        obtain ⟨u, hu⟩ := e1
        obtain ⟨v, hv⟩ := e2
        have ih := ceqs_ok (xs := xs) (ys := ys) n r (i + 1) ks' cs ds b1 hk3 hb1 (by simp at hl1 ⊢; omega) (by simp at hl2 ⊢; omega)
          (fun j c' u' h1 h2 => hr1 (j + 1) c' u' (by simpa using h1) (by rw [List.getElem?_drop] at h2 ⊢; rw [← h2]; congr 1; omega))
          (fun j c' u' h1 h2 => hr2 (j + 1) c' u' (by simpa using h1) (by rw [List.getElem?_drop] at h2 ⊢; rw [← h2]; congr 1; omega))
        have heq := (ceq_ok (P := P) hk1 hb0 (hr1 0 c u rfl (by simpa using hu)) (hr2 0 d v rfl (by simpa using hv)) n).1
        subst hoff
        simp only [Op.eqFields, hname, ne_eq, not_false_eq_true, if_true, Sem.run_bind]
        rw [run_part1 hk1 (by simpa using hu)]
        simp only [Result.andThen_ok]
        rw [run_part1 hk1 (by simpa using hv)]
        simp only [Result.andThen_ok, heq]
        cases b0
        · simp
        · simp [ih]

theorem aeq_ok {t : TypeId} {fs : Array Field} {ks : List CK} {xo yo : Operand} {cs ds : List AV} {b : Bool} (ht : P.underlying t = some (.struct fs)) (hk : eqPlain P 0 fs.toList = some ks) (h1 : P.stoodInHeld t = false) (h2 : P.eqGuardType P.depth t = false)
    (hx : VR H ρ F w (.agg cs) x) (hy : VR H ρ F w (.agg ds) y) (h : ceqs ks cs ds = some b) :
    (do eqGuard .eql t xo yo x y; binOp .eql t x y : Sem Value).run P w = .ok (.bool (b != false)) w ∧ (do eqGuard .neq t xo yo x y; binOp .neq t x y : Sem Value).run P w = .ok (.bool (b != true)) w := by
  obtain ⟨us, rfl, hl, _, hr⟩ := hx.agg_inv
  obtain ⟨vs, rfl, hl', _, hr'⟩ := hy.agg_inv
  have hf : P.fieldsOf t = fs := by simp [Program.fieldsOf, ht]
  have hrun : (Op.equalIn 10000 t (.agg us.toArray) (.agg vs.toArray)).run P w = .ok b w := by
    rw [run_equalIn_agg w 9999 t _ _ (by rw [hf]; exact ht) h1, hf]
    exact ceqs_ok 9998 fs.toList 0 ks cs ds b hk h (by simpa using hl) (by simpa using hl') (by simpa using hr) (by simpa using hr')
  constructor
  · simp only [Sem.run_bind, run_eqGuard_agg w .eql t xo yo _ _ h2, Result.andThen_ok, run_eql_struct, hrun]
    cases b <;> rfl
  · simp only [Sem.run_bind, run_eqGuard_agg w .neq t xo yo _ _ h2, Result.andThen_ok, run_neq_struct, hrun]
    cases b <;> rfl

theorem beq_ok {t : TypeId} {xo yo : Operand} {a0 b0 : Bool} (ht : P.underlying t = some .bool) :
    (do eqGuard .eql t xo yo (.bool a0) (.bool b0); binOp .eql t (.bool a0) (.bool b0) : Sem Value).run P w = .ok (.bool ((a0 == b0) != false)) w ∧
    (do eqGuard .neq t xo yo (.bool a0) (.bool b0); binOp .neq t (.bool a0) (.bool b0) : Sem Value).run P w = .ok (.bool ((a0 == b0) != true)) w := by
  have hrun : (Op.equalIn 10000 t (.bool a0) (.bool b0)).run P w = .ok (a0 == b0) w := run_equalIn_bool' w 9999 t a0 b0 ht
  constructor
  · simp only [eqGuard_at_bool]
    simp only [binOp]
    simp [Op.equal, Op.maxDepth, hrun]
  · simp only [eqGuard_at_bool]
    simp only [binOp]
    simp [Op.equal, Op.maxDepth, hrun]

theorem fld_ok {t : TypeId} {fs : Array Field} {k : Nat} {f : Field} {i : TypeInfo} {xv d : AV} (ht : P.underlying t = some (.struct fs)) (hf : fs[k]? = some f) (hi : P.info? f.type = some i) (h0 : ¬ i.size = 0) (hx : VR H ρ F w xv x) (h : afld f.offset xv = some d) :
    ∃ v, (Instr.fieldAt t x k).run P w = .ok v w ∧ VR H ρ F w d v := by
  have run : ∀ ad : Addr, x = .pointer (some ad) → (Instr.fieldAt t x k).run P w = .ok (.pointer (some (ad.add f.offset))) w := by
    intro ad hx'
    simp [Instr.fieldAt, run_underlying ht, hf, hx', Instr.sureAddr, fieldPlace, sizeOf, typeInfo, hi, h0]
  cases xv with
  | cptr el o =>
    simp [afld] at h; subst h
    cases hx.cptr_inv with
    | cptr _ _ ad us hF hl h1 hm hr =>
      refine ⟨_, run _ rfl, ?_⟩
      rw [add_add']
      exact .imm (.cptr el _ ad us hF hl h1 hm hr)
  | bptr id o =>
    simp [afld] at h; subst h
    obtain ⟨ad, rfl, ob, hob, hrs, hv⟩ := hx.bptr_inv
    refine ⟨_, run _ rfl, .bptr _ _ _ ⟨ob, hob, hrs, fun s g' N' hvw h0 => ?_⟩⟩
    obtain ⟨b, q1, q2⟩ := hv s g' N' hvw h0
    injection q2 with q2; injection q2 with q2; subst q2
    exact ⟨b, q1, by rw [Addr.add_lit]⟩
  | rptr id g i0 o =>
    simp [afld] at h; subst h
    obtain ⟨ad, rfl, ob, hob, hrs, hv⟩ := hx.rptr_inv
    refine ⟨_, run _ rfl, .rptr _ _ _ _ _ ⟨ob, hob, hrs, fun s g' N' hvw => ?_⟩⟩
    obtain ⟨q1, q2⟩ := hv s g' N' hvw
    refine ⟨q1, fun eq => ?_⟩
    obtain ⟨q3, v0, q4, b, Nn, cap, q5, q6, q7⟩ := q2 eq
    injection q7 with q7; injection q7 with q7; subst q7
    exact ⟨q3, v0, q4, b, Nn, cap, q5, q6, by rw [add_add', Nat.add_assoc]⟩
  | _ => simp [afld] at h

end
end Go.PI
