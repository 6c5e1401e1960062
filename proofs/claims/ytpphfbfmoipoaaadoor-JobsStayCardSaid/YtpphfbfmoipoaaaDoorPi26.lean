/- A call whose argument is an empty slice, out of the two cases: nil, or not nil. No condition. -/
import Derived.Test.YtpphfbfmoipoaaaDoorPi25
namespace Go.PI
theorem empty_split {F : Nat → Prop} {w : World} {x : AV} {v : Value} (hx : x = .e0 ∨ ∃ s, x = .sl s []) (h : IR F w x v) : IR F w .nils v ∨ IR F w .en v := by
  rcases hx with rfl | ⟨s, rfl⟩
  · cases h with
    | e0 a => cases a with
      | none => exact .inl (.nils 0 (Nat.zero_le _))
      | some a => exact .inr (.en a 0 (Nat.zero_le _))
  · cases h with
    | sl _ _ a cap us hc hcm => cases a with
      | none => exact .inl (.nils cap hcm)
      | some a => exact .inr (.en a cap hcm)
theorem FnOk.empty {C : Cfg} {P : Program} {f : Nat} {x res : AV} {rows : List AO} (hx : x = .e0 ∨ ∃ s, x = .sl s []) (h1 : FnOk C P f [.nils] res rows) (h2 : FnOk C P f [.en] res rows) : FnOk C P f [x] res rows := by
  refine ⟨h1.1, fun F w vs hF hg hl hr => ?_⟩
  match vs, hl with
  | [v], _ =>
    rcases empty_split hx (hr 0 x v rfl rfl) with h | h
    · exact h1.2 F w [v] hF hg rfl (fun j c u hc hu => by
        match j, hc, hu with
        | 0, rfl, rfl => exact h)
    · exact h2.2 F w [v] hF hg rfl (fun j c u hc hu => by
        match j, hc, hu with
        | 0, rfl, rfl => exact h)
end Go.PI
