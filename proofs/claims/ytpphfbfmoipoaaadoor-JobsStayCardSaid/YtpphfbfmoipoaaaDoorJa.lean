/- Jobs: how lists of jobs read; the library's functions by contracts. No condition. -/
import Derived.Test.YtpphfbfmoipoaaaDoorTbl
import Derived.Test.YtpphfbfmoipoaaaDoorTbU
import Derived.Test.YtpphfbfmoipoaaaDoorPi27
import Derived.Test.YtpphfbfmoipoaaaDoorShelf
import Derived.Test.YtpphfbfmoipoaaaDoorRows
import Derived.Lib.AppendIntMem
namespace Go.Proofs.YtpphfbfmoipoaaaDoor
open Go.PI
set_option maxRecDepth 100000
set_option maxHeartbeats 8000000
set_option linter.unusedSimpArgs false
theorem mixed : Tryd.prog.follows .mixedOrders = true := by kernel_rfl
theorem callee20 : Callee' Tryd.prog 20 := by
  obtain ⟨c, hc⟩ := Option.isSome_iff_exists.1 (show Tryd.f20.body.isSome = true by kernel_rfl)
  exact ⟨_, c, Tryd.func20, hc, by kernel_rfl⟩
theorem callee21 : Callee' Tryd.prog 21 := by
  obtain ⟨c, hc⟩ := Option.isSome_iff_exists.1 (show Tryd.f21.body.isSome = true by kernel_rfl)
  exact ⟨_, c, Tryd.func21, hc, by kernel_rfl⟩
theorem callee80 : Callee' Tryd.prog 80 := by
  obtain ⟨c, hc⟩ := Option.isSome_iff_exists.1 (show Tryd.f80.body.isSome = true by kernel_rfl)
  exact ⟨_, c, Tryd.func80, hc, by kernel_rfl⟩
theorem callee52 : Callee' Tryd.prog 52 := by
  obtain ⟨c, hc⟩ := Option.isSome_iff_exists.1 (show Tryd.f52.body.isSome = true by kernel_rfl)
  exact ⟨_, c, Tryd.func52, hc, by kernel_rfl⟩
theorem callee38 : Callee' Tryd.prog 38 := by
  obtain ⟨c, hc⟩ := Option.isSome_iff_exists.1 (show Tryd.f38.body.isSome = true by kernel_rfl)
  exact ⟨_, c, Tryd.func38, hc, by kernel_rfl⟩
theorem callee73 : Callee' Tryd.prog 73 := by
  obtain ⟨c, hc⟩ := Option.isSome_iff_exists.1 (show Tryd.f73.body.isSome = true by kernel_rfl)
  exact ⟨_, c, Tryd.func73, hc, by kernel_rfl⟩
theorem callee34 : Callee' Tryd.prog 34 := by
  obtain ⟨c, hc⟩ := Option.isSome_iff_exists.1 (show Tryd.f34.body.isSome = true by kernel_rfl)
  exact ⟨_, c, Tryd.func34, hc, by kernel_rfl⟩
theorem callee62 : Callee' Tryd.prog 62 := by
  obtain ⟨c, hc⟩ := Option.isSome_iff_exists.1 (show Tryd.f62.body.isSome = true by kernel_rfl)
  exact ⟨_, c, Tryd.func62, hc, by kernel_rfl⟩
theorem callee63 : Callee' Tryd.prog 63 := by
  obtain ⟨c, hc⟩ := Option.isSome_iff_exists.1 (show Tryd.f63.body.isSome = true by kernel_rfl)
  exact ⟨_, c, Tryd.func63, hc, by kernel_rfl⟩
theorem callee64 : Callee' Tryd.prog 64 := by
  obtain ⟨c, hc⟩ := Option.isSome_iff_exists.1 (show Tryd.f64.body.isSome = true by kernel_rfl)
  exact ⟨_, c, Tryd.func64, hc, by kernel_rfl⟩

abbrev im (l : List Int) : List AV := l.map (.int .i64)
abbrev il (l : List Int) : AV := .sl 1 (im l)
structure Jb where
  num : Int
  pgid : Int
  state : Int
  pids : List Int
  stats : List Int
  text : List UInt8
  noted : Bool
abbrev encJ (r : Jb) : AV := .agg [.int .i64 r.num, .int .i64 r.pgid, .int .i64 r.state, il r.pids, il r.stats, .str r.text, .bool r.noted]
abbrev jl (l : List Jb) : AV := .sl 7 (l.map encJ)
/- Itoa -/
def itoaX : AV → Option (AV × List AO)
  | .int .i64 n => if -9223372036854775808 ≤ n ∧ n ≤ 9223372036854775807 then some (.str (Lib.itoa n), []) else none
  | _ => none
theorem itoa_ok (m : Int) (x res : AV) (rows : List AO) (h : itoaX x = some (res, rows)) : FnOk (cfg m) Tryd.prog 20 [x] res rows := by
  unfold itoaX at h
  split at h
  · rename_i n
    split at h
    · rename_i hn
      cases h
      refine FnOk.of_plain fun F w vs hF hg hl hr => ?_
      match vs, hl with
      | [v], _ =>
        have hv := hr 0 _ v rfl rfl
        cases hv
        refine (Tryd.strconv_Itoa n hn.1 hn.2 w (tab_of_glob (C := cfg m) (F := F) (g := 2) hg (by kernel_rfl) (by kernel_rfl))).mono ?_
        rintro e w' ⟨rfl, k, os, rfl⟩
        exact ⟨_, rfl, .str _, Lib.below_grow _ w (Nat.le_refl _) k os⟩
    · cases h
  · cases h
/- Contains -/
def contX : AV → AV → Option (AV × List AO)
  | .str s, .str t => if s.length < 4294967281 then some (.bool (Lib.contains s t), []) else none
  | _, _ => none
theorem cont_ok (m : Int) (x y res : AV) (rows : List AO) (h : contX x y = some (res, rows)) : FnOk (cfg m) Tryd.prog 52 [x, y] res rows := by
  unfold contX at h
  split at h
  · rename_i s t
    split at h
    case isFalse => cases h
    rename_i hs
    cases h
    refine FnOk.of_plain fun F w vs hF hg hl hr => ?_
    match vs, hl with
    | [v, u], _ =>
      have hv := hr 0 _ v rfl rfl
      have hu := hr 1 _ u rfl rfl
      cases hv
      cases hu
      have hm : w.cell? ⟨1, 0, none⟩ = some (.int .i64 m) := by
        have h1 := (hg 1 (.int .i64 m) rfl).1
        cases h1 with
        | cptr _ _ ad us hF' hl' h1' hm' hr' =>
          have hus : us = [.int .i64 m] := by
            match us, hl' with
            | [u0], _ =>
              have := hr' 0 _ u0 rfl rfl
              cases this
              rfl
          have := hm' 0 _ (by rw [hus]; rfl)
          simpa [Addr.add] using this
      refine (Tryd.strings_Contains ⟨s.toArray⟩ ⟨t.toArray⟩ m w (show s.toArray.size < 4294967281 by simpa using hs) hm).mono ?_
      rintro e w' ⟨rfl, rfl⟩
      exact ⟨_, rfl, .bool _, ⟨rfl, rfl, rfl, Nat.le_refl _, fun _ _ => rfl⟩⟩
  · cases h
/- Join -/
def strsOf : List AV → Option (List (List UInt8))
  | [] => some []
  | .str s :: r => (strsOf r).map (s :: ·)
  | _ :: _ => none
theorem strsOf_eq : ∀ {es : List AV} {l : List (List UInt8)}, strsOf es = some l → es = l.map .str
  | [], l, h => by simp [strsOf] at h; subst h; rfl
  | e :: es, l, h => by
    cases e with
    | str s =>
      simp only [strsOf] at h
      obtain ⟨r, hr, rfl⟩ := Option.map_eq_some_iff.1 h
      rw [strsOf_eq hr]; rfl
    | _ => cases h
theorem flat_strs (l : List (List UInt8)) : flat (l.map AV.str) = l.map AV.str := by
  induction l with
  | nil => rfl
  | cons y l ih =>
    simp only [flat] at ih ⊢
    simp only [List.map_cons, List.flatMap_cons, ih]
    rfl
def joinX : AV → AV → Option (AV × List AO)
  | .e0, .str _ => some (.str [], [])
  | .sl 1 es, .str sep => (strsOf es).bind fun l => if l.length ≤ 1000000 ∧ (Lib.join l sep).length ≤ 1000000000 then some (.str (Lib.join l sep), []) else none
  | _, _ => none
theorem join_ok (m : Int) (x y res : AV) (rows : List AO) (h : joinX x y = some (res, rows)) : FnOk (cfg m) Tryd.prog 80 [x, y] res rows := by
  unfold joinX at h
  split at h
  · rename_i sep
    cases h
    refine FnOk.of_plain fun F w vs hF hg hl hr => ?_
    match vs, hl with
    | [v, u], _ =>
      have hv := hr 0 _ v rfl rfl
      have hu := hr 1 _ u rfl rfl
      cases hv
      cases hu
      refine (Tryd.strings_Join_none _ 0 ⟨sep.toArray⟩ w).mono ?_
      rintro e w' ⟨rfl, rfl⟩
      exact ⟨_, rfl, .str _, ⟨rfl, rfl, rfl, Nat.le_refl _, fun _ _ => rfl⟩⟩
  · rename_i es sep
    obtain ⟨l, hl0, h⟩ := Option.bind_eq_some_iff.1 h
    split at h
    case isFalse => cases h
    rename_i hb
    cases h
    obtain rfl := strsOf_eq hl0
    refine FnOk.of_plain fun F w vs hF hg hl hr => ?_
    match vs, hl with
    | [v, u], _ =>
      have hv := hr 0 _ v rfl rfl
      have hu := hr 1 _ u rfl rfl
      cases hu
      cases hv with
      | sl _ _ a cap us hc hcm hs hln h1 hm hrl =>
      by_cases hn : l = []
      · subst hn
        refine (Tryd.strings_Join_none a cap ⟨sep.toArray⟩ w).mono ?_
        rintro e w' ⟨rfl, rfl⟩
        exact ⟨_, rfl, .str _, ⟨rfl, rfl, rfl, Nat.le_refl _, fun _ _ => rfl⟩⟩
      · obtain ⟨ad, rfl, hFa, hcell⟩ := hm (by simpa using hn)
        have hfl := flat_strs l
        rw [hfl] at hln hrl
        simp only [List.length_map] at hln hc
        have hus : ∀ (j : Nat) (s : List UInt8), l[j]? = some s → us[j]? = some (.string ⟨s.toArray⟩) := by
          intro j s hj
          have hjl : j < us.length := by
            rcases Nat.lt_or_ge j l.length with h | h
            · omega
            · rw [List.getElem?_eq_none h] at hj; cases hj
          have := hrl j (.str s) us[j] (by simp [hj]) (List.getElem?_eq_getElem hjl)
          rw [List.getElem?_eq_getElem hjl]
          generalize us[j] = q at this
          cases this
          rfl
        obtain ⟨s0, hs0⟩ : ∃ s0, l[0]? = some s0 := by
          cases l with
          | nil => exact absurd rfl hn
          | cons y l => exact ⟨y, rfl⟩
        have hspot : ad.spot = none := by
          have := hcell 0 _ (hus 0 s0 hs0)
          simp only [Addr.add, if_true] at this
          unfold World.cell? at this
          split at this
          · split at this
            · cases this
            · rename_i hsp; simpa using hsp
          · cases this
        obtain ⟨ab, ao, asp⟩ := ad
        simp only at hspot
        subst hspot
        have hj := Tryd.strings_Join ab ao cap (l.map fun s => ⟨s.toArray⟩) ⟨sep.toArray⟩ w (fun j x hx => by
          rw [List.getElem?_map] at hx
          cases hq : l[j]? with
          | none => rw [hq] at hx; cases hx
          | some s =>
            rw [hq] at hx
            simp only [Option.map_some, Option.some.injEq] at hx
            subst hx
            have := hcell j _ (hus j s hq)
            have hadd : (⟨ab, ao, none⟩ : Addr).add j = ⟨ab, ao + j, none⟩ := by unfold Addr.add; split <;> simp_all
            rw [hadd] at this
            exact this) (hF _ hFa) (by simp; omega) (by simpa using hc) (by simp only [List.map_map, Function.comp_def]; simp; omega)
        simp only [List.length_map, List.map_map, Function.comp_def, List.map_id'] at hj ⊢
        refine hj.mono ?_
        rintro e w' ⟨rfl, hbelow⟩
        exact ⟨_, rfl, .str _, hbelow⟩
  · cases h
/- Clone -/
def tblC : TB := ⟨tblF, fun _ _ => none, fun _ _ _ => none⟩
theorem tblC_ok (m : Int) : TBok Tryd.prog (cfg m) tblC := ⟨tbl_ok m, (by intro _ _ _ _ _ h; cases h), (by intro _ _ _ _ _ _ h; cases h)⟩
def cloneX (T s : Nat) : AV → Option (AV × List AO)
  | .e0 => some (.ref 0 0 0 0, [.row T s 0 []])
  | .sl s' es => if s' = s ∧ es.length ≤ maxRow then some (.ref 0 0 0 es.length, [.row T s 0 es]) else none
  | _ => none
theorem clone_nils38 : callW tblC 38 [.nils] = some (.ref 0 0 0 0, [.row 3 1 0 []]) := callW_of tblC (k := 50) (by kernel_rfl)
theorem clone_en38 : callW tblC 38 [.en] = some (.ref 0 0 0 0, [.row 3 1 0 []]) := callW_of tblC (k := 50) (by kernel_rfl)
theorem clone_sl38 (e : AV) (es : List AV) (h : es.length + 1 ≤ maxRow) : callW tblC 38 [.sl 1 (e :: es)] = some (.ref 0 0 0 (es.length + 1), [.row 3 1 0 (e :: es)]) := by
  rw [call_run tblC (f := 38) (fn := f38) rfl _ rfl]
  simp [f38, f38body, show es.length ≤ 1073741823 by simpa using h]
theorem clone_nils73 : callW tblC 73 [.nils] = some (.ref 0 0 0 0, [.row 42 7 0 []]) := callW_of tblC (k := 50) (by kernel_rfl)
theorem clone_en73 : callW tblC 73 [.en] = some (.ref 0 0 0 0, [.row 42 7 0 []]) := callW_of tblC (k := 50) (by kernel_rfl)
theorem clone_sl73 (e : AV) (es : List AV) (h : es.length + 1 ≤ maxRow) : callW tblC 73 [.sl 7 (e :: es)] = some (.ref 0 0 0 (es.length + 1), [.row 42 7 0 (e :: es)]) := by
  rw [call_run tblC (f := 73) (fn := f73) rfl _ rfl]
  simp [f73, f73body, show es.length ≤ 1073741823 by simpa using h]
theorem clone_ok (m : Int) {f T s : Nat} (h1 : callW tblC f [.nils] = some (.ref 0 0 0 0, [.row T s 0 []])) (h2 : callW tblC f [.en] = some (.ref 0 0 0 0, [.row T s 0 []])) (h3 : ∀ (e : AV) (es : List AV), es.length + 1 ≤ maxRow → callW tblC f [.sl s (e :: es)] = some (.ref 0 0 0 (es.length + 1), [.row T s 0 (e :: es)]))
    (x res : AV) (rows : List AO) (h : cloneX T s x = some (res, rows)) : FnOk (cfg m) Tryd.prog f [x] res rows := by
  unfold cloneX at h
  split at h
  · cases h
    exact FnOk.empty (.inl rfl) (callW_sound mixed (tblC_ok m) h1) (callW_sound mixed (tblC_ok m) h2)
  · rename_i s' es
    split at h
    · rename_i hl
      cases h
      obtain ⟨rfl, hl⟩ := hl
      cases es with
      | nil => exact FnOk.empty (.inr ⟨s', rfl⟩) (callW_sound mixed (tblC_ok m) h1) (callW_sound mixed (tblC_ok m) h2)
      | cons e es => exact callW_sound mixed (tblC_ok m) (h3 e es (by simpa using hl))
    · cases h
  · cases h
/-- the table without Update; Clone is met by its contract -/
def tbl0F : Nat → Option IFn := fun f => if f = 38 ∨ f = 73 then none else tblF f
def ext0 : Nat → List AV → Option (AV × List AO) := fun f args => match f, args with
  | 20, [x] => itoaX x
  | 80, [x, y] => joinX x y
  | 52, [x, y] => contX x y
  | 38, [x] => cloneX 3 1 x
  | 73, [x] => cloneX 42 7 x
  | _, _ => none
theorem ext0_ok (m : Int) (f : Nat) (args : List AV) (res : AV) (rows : List AO) (h : ext0 f args = some (res, rows)) : FnOk (cfg m) Tryd.prog f args res rows ∧ Callee' Tryd.prog f := by
  unfold ext0 at h
  split at h
  · exact ⟨itoa_ok m _ _ _ h, callee20⟩
  · exact ⟨join_ok m _ _ _ _ h, callee80⟩
  · exact ⟨cont_ok m _ _ _ _ h, callee52⟩
  · exact ⟨clone_ok m clone_nils38 clone_en38 clone_sl38 _ _ _ h, callee38⟩
  · exact ⟨clone_ok m clone_nils73 clone_en73 clone_sl73 _ _ _ h, callee73⟩
  · cases h
/-- a call of Contains in the caller's frame -/
def extO0 : Nat → List AV → List AO → Option (AV × List AO) := fun f args H => match f, args with
  | 52, [.str s, .str t] => (contX (.str s) (.str t)).map fun r => (r.1, H)
  | _, _ => none
theorem extO0_ok (m : Int) (f : Nat) (args : List AV) (H : List AO) (res : AV) (H' : List AO) (h : extO0 f args H = some (res, H')) : FnOkO (cfg m) Tryd.prog f args H res H' ∧ Callee' Tryd.prog f := by
  unfold extO0 at h
  split at h
  · rename_i s t
    obtain ⟨r, hr, h⟩ := Option.map_eq_some_iff.1 h
    obtain ⟨r1, r2⟩ := r
    simp only [Prod.mk.injEq] at h
    obtain ⟨rfl, rfl⟩ := h
    refine ⟨fun B F ρ w vs hp hg hl hv => ?_, callee52⟩
    have hpl : r2 = [] ∧ ∃ b, r1 = .bool b := by
      simp only [contX] at hr
      by_cases hq : s.length < 4294967281
      · rw [if_pos hq] at hr
        simp only [Option.some.injEq, Prod.mk.injEq] at hr
        exact ⟨hr.2.symm, _, hr.1.symm⟩
      · rw [if_neg hq] at hr; cases hr
    obtain ⟨rfl, b, rfl⟩ := hpl
    have := (cont_ok m _ _ _ _ hr).2 F w vs hp.fb hg hl (fun j c u hc hu => by
      have h1 := hv j c u hc hu
      have hc' : c = .str s ∨ c = .str t := by
        rcases j with _ | _ | j
        · simp at hc; exact .inl hc.symm
        · simp at hc; exact .inr hc.symm
        · simp at hc
      rcases hc' with rfl | rfl <;> (cases h1 with | imm h => exact h))
    refine this.mono ?_
    rintro en w' ⟨v, σ, F2, rfl, hR, hres, hb, _, _⟩
    have hvv : v = .bool b := by
      rcases hres with (hres | ⟨_, _, hc, _⟩) | ⟨_, _, hc, _⟩
      · rcases hres with hres | ⟨_, _, _, _, hc, _⟩
        · cases hres; rfl
        · cases hc
      · cases hc
      · cases hc
    subst hvv
    exact ⟨_, ρ, F, rfl, hp.grow hb, .imm (.bool b), Ev.refl _ _, Kept.of_below hb, fun _ x => x, fun _ x => .inl x⟩
  · cases h
def tbl0 : TB := ⟨tbl0F, ext0, extO0⟩
theorem tbl0_ok (m : Int) : TBok Tryd.prog (cfg m) tbl0 := by
  refine ⟨fun f fn h => ?_, fun f args res rows _ h => ext0_ok m f args res rows h, fun f args H res H' _ h => extO0_ok m f args H res H' h⟩
  simp only [tbl0, tbl0F] at h
  split at h
  · cases h
  · exact tbl_ok m f fn h
end Go.Proofs.YtpphfbfmoipoaaaDoor
