/- Package variables that are arrays of numbers or strings: from a row's condition on them to what the interpreter takes; a table that a contract asks for. No condition. -/
import Derived.Test.YtpphfbfmoipoaaaDoorPi26
import Derived.LaidLaws
import Derived.OpenShut
import Derived.Lib.LaidTab
import Derived.MakeChecks
namespace Go.PI
open Go.RowKit
/-- a datum that is a number or a string -/
def litA : DataW Unit → AV
  | .lit (.int k z) => .int k z
  | .lit (.string s) => .str s
  | _ => .top
def aggL : DataW Unit → List (DataW Unit)
  | .agg ds => ds
  | _ => []
theorem reads_of {P : Program} {w : World} : ∀ {l : List (String × DataW Unit)} {ps : List MemPlace}, DataW.LaidVars P w l ps → ∀ (i : Nat) (n : String) (d : DataW Unit), l[i]? = some (n, d) →
    ∃ g t cs fuel p, P.globalNamed n = some g ∧ (P.globals[g]?).map (·.type) = some t ∧ w.var? P n = some cs ∧ DataW.trod (fun _ => ()) P w 0 (fun _ => true) false fuel t cs.toList = some (d, p)
  | [], _, _, i, n, d, hm => by simp at hm
  | (n', d') :: r, ps, h, i, n, d, hm => by
    obtain ⟨g, t, cs, fuel, p, q, h1, h2, h3, h4, h5, _⟩ := h
    cases i with
    | zero =>
      simp at hm
      obtain ⟨rfl, rfl⟩ := hm
      exact ⟨g, t, cs, fuel, p, h1, h2, h3, h4⟩
    | succ i => exact reads_of h5 i n d (by simpa using hm)
/-- one such variable -/
theorem arr_glob {P : Program} {W : World} {l : List (String × DataW Unit)} {name : String} {d : DataW Unit} {g : Nat} {t e : TypeId} {n : Nat} {a : AV} (i : Nat) (hi : l[i]? = some (name, d))
    (hg : P.globalNamed name = some g) (hty : (P.globals[g]?).map (·.type) = some t) (ht : P.underlying t = some (.array n e)) (hce : P.cellsOf e = 1) (hct : P.cellsOf t = n)
    (he : (∃ k, P.underlying e = some (.int k)) ∨ P.underlying e = some .string) (ha : a = .agg ((aggL d).map litA)) (h : laidMet P l W) :
    IR (fun b => b < W.heap.size) W (.cptr a 0) (.pointer (some ⟨g, 0, none⟩)) ∧ g < W.heap.size ∧ ∃ cs u z, W.heap[g]? = some (.cells cs u z) ∧ cs.size = a.cells.length := by
  subst ha
  obtain ⟨ps, hv, _⟩ := h
  obtain ⟨g', t', cs, fuel, p, hg', ht', hvar, hd⟩ := reads_of hv i name d hi
  obtain rfl := Option.some.inj (hg.symm.trans hg')
  obtain rfl := Option.some.inj (hty.symm.trans ht')
  obtain ⟨xs, m, rfl, hx, hlen, hxn, hel⟩ := DataW.trod_array ht hd
  simp only [Prod.mk.injEq] at hx
  obtain ⟨rfl, -⟩ := hx
  have hobj : ∃ u z, W.heap[g]? = some (.cells cs u z) := by
    unfold World.var? at hvar
    rw [hg, Option.bind_some] at hvar
    split at hvar
    · rename_i cs' u z hh
      cases hvar
      exact ⟨u, z, hh⟩
    · cases hvar
  obtain ⟨u, z, hh⟩ := hobj
  have hlt : g < W.heap.size := by
    rcases Nat.lt_or_ge g W.heap.size with h1 | h1
    · exact h1
    · rw [Array.getElem?_eq_none h1] at hh; cases hh
  have hcn : cs.toList.length = n := by rw [hlen, hct]
  have one : ∀ j, j < n → ∃ v, cs.toList[j]? = some v ∧ v.oneCell' = true ∧ ∃ y, xs[j]? = some y ∧ IR (fun b => b < W.heap.size) W (litA y.1) v := by
    intro j hj
    have h1 := hel j hj
    rw [hce, Nat.mul_one] at h1
    have hjx : j < xs.length := by omega
    rw [List.getElem?_eq_getElem hjx] at h1
    have hjc : j < cs.toList.length := by omega
    have htk : (cs.toList.drop j).take 1 = [cs.toList[j]] := by
      rw [List.drop_eq_getElem_cons hjc, List.take_succ_cons, List.take_zero]
    rw [htk] at h1
    refine ⟨cs.toList[j], List.getElem?_eq_getElem hjc, ?_⟩
    rcases he with ⟨k, he⟩ | he
    · obtain ⟨z, hz, hy, _⟩ := DataW.trod_int he h1
      simp only [List.cons.injEq, and_true] at hz
      rw [hz]
      exact ⟨rfl, _, List.getElem?_eq_getElem hjx, by rw [hy]; exact .int k z⟩
    · obtain ⟨s, hz, hy, _⟩ := DataW.trod_string he h1
      simp only [List.cons.injEq, and_true] at hz
      rw [hz]
      refine ⟨rfl, _, List.getElem?_eq_getElem hjx, ?_⟩
      rw [hy]
      have := IR.str (F := fun b => b < W.heap.size) (w := W) s.data.toList
      simpa [litA] using this
  refine ⟨?_, hlt, cs, u, z, hh, by simp [aggL, AV.cells, hxn, ← hcn]⟩
  have := IR.cptr (F := fun b => b < W.heap.size) (w := W) (.agg ((aggL (.agg (xs.map (·.1)))).map litA)) 0 ⟨g, 0, none⟩ cs.toList hlt (by simp [AV.cells, aggL, hxn, ← hcn])
    (fun v hv => by
      obtain ⟨j, hj, rfl⟩ := List.getElem_of_mem hv
      obtain ⟨v', h1, h2, _⟩ := one j (by omega)
      rw [List.getElem?_eq_getElem hj] at h1
      cases h1
      exact h2)
    (fun j v hv => by
      have := World.var?_cell hg hvar j
      have ea : (⟨g, 0, none⟩ : Addr).add j = ⟨g, j, none⟩ := by
        by_cases hj : j = 0
        · subst hj; simp [Addr.add]
        · simp [Addr.add, hj]
      rw [ea, this]
      simpa using hv)
    (fun j c v hc hv => by
      have hj : j < n := by
        have := (List.getElem?_eq_some_iff.1 hv).1
        omega
      obtain ⟨v', h1, _, y, hy, hir⟩ := one j hj
      rw [hv] at h1
      cases h1
      simp [AV.cells, aggL, hy] at hc
      rw [← hc]
      exact hir)
  simpa [Addr.add] using this
/-- the table, as the library's contracts ask for it -/
theorem tab_of_glob {P : Program} {C : Cfg} {F : Nat → Prop} {w : World} {name : String} {g : Nat} {k : IntKind} {zs : List Int} (h : Glob C F w) (hG : C.G g = some (.agg (zs.map (.int k)))) (hn : P.globalNamed name = some g) :
    Lib.TabIs P w name k zs := by
  obtain ⟨hi, _, cs, t, z, hc, hs⟩ := h g _ hG
  unfold Lib.TabIs World.var?
  rw [hn, Option.bind_some, hc]
  simp only [Option.some.injEq]
  simp [AV.cells] at hs
  generalize hp : Value.pointer (some ⟨g, 0, none⟩) = x at hi
  cases hi with
  | cptr _ _ ad us hF hl h1 hm hr =>
    have had : ad = ⟨g, 0, none⟩ := by
      have : ad.add 0 = ad := by simp [Addr.add]
      rw [this] at hp
      simpa using hp.symm
    subst had
    simp [AV.cells] at hl
    apply Array.ext_getElem?
    intro j
    by_cases hj : j < zs.length
    · have hu : us[j]? = some us[j] := List.getElem?_eq_getElem (by omega)
      have h2 := hr j (.int k zs[j]) us[j] (by simp [AV.cells, hj]) hu
      have h3 := hm j us[j] hu
      have ea : (⟨g, 0, none⟩ : Addr).add j = ⟨g, j, none⟩ := by
        by_cases hj : j = 0
        · subst hj; simp [Addr.add]
        · simp [Addr.add, hj]
      rw [ea] at h3
      simp only [World.cell?, hc] at h3
      simp at h3
      rw [h3]
      generalize us[j] = v at h2
      cases h2
      simp [hj]
    · rw [Array.getElem?_eq_none (by omega), Array.getElem?_eq_none (by simpa using hj)]
/-- a contract of the library: plain results, new memory alone -/
theorem FnOk.of_plain {C : Cfg} {P : Program} {f : Nat} {args : List AV} {res : AV} (h : ∀ (F : Nat → Prop) (w : World) (vs : List Value), (∀ b, F b → b < w.heap.size) → Glob C F w → args.length = vs.length →
    (∀ (j : Nat) (c : AV) (u : Value), args[j]? = some c → vs[j]? = some u → IR F w c u) → Calls P f vs.toArray w fun en w' => ∃ v, en = .returned v ∧ IR F w' res v ∧ Below w.heap.size w w') : FnOk C P f args res [] := by
  refine ⟨by simp, fun F w vs hF hg hl hr => (h F w vs hF hg hl hr).mono ?_⟩
  rintro en w' ⟨v, rfl, hi, hb⟩
  refine ⟨v, [], F, rfl, ⟨rfl, hb.size, fun b hb' => Nat.lt_of_lt_of_le (hF b hb') hb.size, by simp, by simp, by simp, by simp, by simp, by simp⟩, .inl (.inl (.inl hi)), hb, fun _ x => x, fun _ x => .inl x⟩
end Go.PI
