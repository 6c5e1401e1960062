/- Jobs: how a law's list is read; what the package's variables hold; the frame of a law whose code asks the library's MaxLen for some number. No condition. -/
import Derived.Test.YtpphfbfmoipoaaaDoorJj
import Derived.Shelf.Vars
import Derived.Handed
namespace Go.Proofs.YtpphfbfmoipoaaaDoor
open Go.PI
set_option maxRecDepth 100000
set_option maxHeartbeats 8000000
set_option linter.unusedSimpArgs false
theorem jbs {c : AV} (h : HasTy (.sl true [.int .i64, .int .i64, .int .i64, .sl false [.int .i64], .sl false [.int .i64], .str, .bool]) c) : ∃ l : List Jb, c = .sl 7 (l.map encJ) ∧ l.length ≤ maxLen ∧ ∀ j ∈ l, WJ j :=
  HasTy.structs h (fun cs hl hj => by
    have h0 := Tys.of _ cs hl hj
    obtain ⟨_, _, rfl, k0, h0⟩ := h0.cons_inv
    obtain ⟨_, _, rfl, k1, h0⟩ := h0.cons_inv
    obtain ⟨_, _, rfl, k2, h0⟩ := h0.cons_inv
    obtain ⟨_, _, rfl, k3, h0⟩ := h0.cons_inv
    obtain ⟨_, _, rfl, k4, h0⟩ := h0.cons_inv
    obtain ⟨_, _, rfl, k5, h0⟩ := h0.cons_inv
    obtain ⟨_, _, rfl, k6, h0⟩ := h0.cons_inv
    obtain rfl := h0.nil_inv
    obtain ⟨a0, rfl, _⟩ := k0.int_inv
    obtain ⟨a1, rfl, _⟩ := k1.int_inv
    obtain ⟨a2, rfl, _⟩ := k2.int_inv
    obtain ⟨a3, rfl, _⟩ := k3.ints
    obtain ⟨a4, rfl, _, w4⟩ := k4.ints
    obtain ⟨a5, rfl, _⟩ := k5.str_inv
    obtain ⟨a6, rfl⟩ := k6.bool_inv
    exact ⟨⟨a0, a1, a2, a3, a4, a5, a6⟩, rfl, fun n hn => (wf64 (w4 n hn)).2⟩)
theorem maxlen (w : World) (h : w.ShapedOpen Tryd.prog) : ∃ m, w.cell? ⟨1, 0, none⟩ = some (.int .i64 m) ∧ ∃ cs t z, w.heap[1]? = some (.cells cs t z) ∧ cs.size = 1 := by
  obtain ⟨m, hm⟩ := cell_of_shapedOpen_int (P := Tryd.prog) (g := 1) (t := 3) (zero := #[.int .i64 0]) h (of_decide_eq_true (by kernel_rfl)) (by kernel_rfl) rfl (by kernel_rfl) (by kernel_rfl) (by kernel_rfl)
  obtain ⟨cs, hh, hs, _⟩ := h.1 1 #[.int .i64 0] 3 (of_decide_eq_true (by kernel_rfl)) (by kernel_rfl)
  exact ⟨m, hm, cs, _, _, hh, hs⟩
theorem globOk {W : World} {m : Int} (hm : W.cell? ⟨1, 0, none⟩ = some (.int .i64 m)) (hs : ∃ cs t z, W.heap[1]? = some (.cells cs t z) ∧ cs.size = 1) (h : laidMet Tryd.prog Rows.jobsValidRow.laid W) : Glob (cfg m) (fun b => b < W.heap.size) W := by
  intro g e hg
  unfold cfg at hg
  simp only at hg
  split at hg
  · rename_i hg1
    subst hg1
    cases hg
    obtain ⟨cs, t, z, h1, h2⟩ := hs
    have hlt : 1 < W.heap.size := by
      rcases Nat.lt_or_ge 1 W.heap.size with h | h
      · exact h
      · rw [Array.getElem?_eq_none h] at h1; cases h1
    refine ⟨.cptr (.int .i64 m) 0 ⟨1, 0, none⟩ [.int .i64 m] hlt rfl (fun u hu => by simp at hu; subst hu; rfl) (fun j u hu => ?_) (fun j c u hc hu => ?_), hlt, cs, t, z, h1, h2⟩
    · cases j with
      | zero => simp at hu; subst hu; simpa [Addr.add] using hm
      | succ j => simp at hu
    · cases j with
      | zero => simp [AV.cells] at hc hu; subst hc hu; exact .int _ _
      | succ j => simp at hu
  · unfold gl at hg
    split at hg
    · cases hg; exact arr_glob (t := 121) (e := 5) (n := 32) 0 (by rfl) (by kernel_rfl) (by kernel_rfl) (by kernel_rfl) (by kernel_rfl) (by kernel_rfl) (.inl ⟨.u8, by kernel_rfl⟩) (by kernel_rfl) h
    · cases hg; exact arr_glob (t := 122) (e := 5) (n := 64) 1 (by rfl) (by kernel_rfl) (by kernel_rfl) (by kernel_rfl) (by kernel_rfl) (by kernel_rfl) (.inl ⟨.u8, by kernel_rfl⟩) (by kernel_rfl) h
    · cases hg; exact arr_glob (t := 111) (e := 102) (n := 20) 2 (by rfl) (by kernel_rfl) (by kernel_rfl) (by kernel_rfl) (by kernel_rfl) (by kernel_rfl) (.inl ⟨.u64, by kernel_rfl⟩) (by kernel_rfl) h
    · cases hg; exact arr_glob (t := 100) (e := 9) (n := 21) 3 (by rfl) (by kernel_rfl) (by kernel_rfl) (by kernel_rfl) (by kernel_rfl) (by kernel_rfl) (.inr (by kernel_rfl)) (by kernel_rfl) h
    · cases hg
end Go.Proofs.YtpphfbfmoipoaaaDoor
namespace Go
variable {H : Type} {enc : TypeId × Value → H}
theorem handed_shaped_and {a : Assume} {C : Checked} {os : Os} {f : FuncId} {fn : Func} {s : ChangeSpec} {conds : List PathCond} {apart fresh handsOn again : Bool} {X : World → Array Value → Prop}
    (hX : ∀ (w w' : World) (args : Array Value), w.heap = w'.heap → X w args → X w' args)
    (own : ownKnob C.prog.godebug = none) (started : os.Started) (noInit : C.prog.inits.idxOf? f = none) (hfn : C.prog.funcs[f]? = some fn)
    (witness : ∃ (w : World) (tape : Tape) (i : Input), w.os = os ∧ (w.forCall tape i).Shaped C.prog ∧ i.vars = [] ∧ Input.okWide C.prog (w.forCall tape i) .any w.heap.size f i ∧
      ((s.pre enc C.prog fn conds apart (w.forCall tape i).memory i.args ∧ X (w.forCall tape i).memory i.args) ∧ sizedMet enc C.prog fn (OpenSpec.ofChange s) apart (w.forCall tape i).memory i.args) ∧ a.holds C.prog (lone (Frame.enter C.prog f i.args .normal) [] (w.forCall tape i)))
    (contract : ∀ (W : World) (base : Nat) (args : Array Value) (ds gs : List (DataW H)) (before : List MemPlace),
      (∀ (j : Nat) t v, fn.params[j]? = some t → args[j]? = some v → Value.okWide C.prog W .any base t v) →
      DataW.Whole enc C.prog fn.params.toList s.vars apart W args.toList ds gs before →
      X W args → W.ShapedOpen C.prog →
      Calls C.prog f args W fun e W' => ∃ v, e = .returned v ∧ s.post enc C.prog fn apart fresh handsOn again W args v W') :
    ReturnsInHanded a C os f .any (fun w args => (s.pre enc C.prog fn conds apart w args ∧ X w args) ∧ sizedMet enc C.prog fn (OpenSpec.ofChange s) apart w args) (s.post enc C.prog fn apart fresh handsOn again) := by
  refine returnsInHanded_of_calls own started noInit witness ?_
  intro w tape i _ hsh _ hok hpre hholds
  obtain ⟨_, _, _, fn', hfn', _, _, _, _, hval⟩ := hok
  have e : fn' = fn := Option.some.inj (hfn'.symm.trans hfn)
  subst e
  obtain ⟨⟨⟨ds, gs, before, hw, hc⟩, hx⟩, hz⟩ := hpre
  have hw' := DataW.Whole.of_heap (w' := w.forCall tape i) (by rfl) hw
  refine (contract (w.forCall tape i) w.heap.size i.args ds gs before hval hw' (hX _ _ _ (by rfl) hx) hsh).mono fun e W' ⟨v, he, hp⟩ => ?_
  subst he
  exact ChangeSpec.post_blind hp
end Go
