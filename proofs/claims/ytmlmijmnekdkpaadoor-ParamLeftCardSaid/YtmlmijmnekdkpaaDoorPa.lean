/- Parameters: the table of functions, with the library's functions by contracts; the packages' tables; the chapter's examples. No condition. -/
import Derived.Test.YtmlmijmnekdkpaaDoorRev
import Derived.Test.YtmlmijmnekdkpaaDoorShelf
import Derived.Test.YtmlmijmnekdkpaaDoorRows
import Derived.Lib.AppendIntMem
namespace Go.Proofs.YtmlmijmnekdkpaaDoor
open Go.PI
set_option maxRecDepth 100000
set_option maxHeartbeats 8000000
set_option linter.unusedSimpArgs false
theorem mixed : Tryd.prog.follows .mixedOrders = true := by kernel_rfl
theorem callee38 : Callee' Tryd.prog 38 := by
  obtain ⟨c, hc⟩ := Option.isSome_iff_exists.1 (show Tryd.f38.body.isSome = true by kernel_rfl)
  exact ⟨_, c, Tryd.func38, hc, by kernel_rfl⟩
theorem callee39 : Callee' Tryd.prog 39 := by
  obtain ⟨c, hc⟩ := Option.isSome_iff_exists.1 (show Tryd.f39.body.isSome = true by kernel_rfl)
  exact ⟨_, c, Tryd.func39, hc, by kernel_rfl⟩
theorem callee41 : Callee' Tryd.prog 41 := by
  obtain ⟨c, hc⟩ := Option.isSome_iff_exists.1 (show Tryd.f41.body.isSome = true by kernel_rfl)
  exact ⟨_, c, Tryd.func41, hc, by kernel_rfl⟩
theorem callee50 : Callee' Tryd.prog 50 := by
  obtain ⟨c, hc⟩ := Option.isSome_iff_exists.1 (show Tryd.f50.body.isSome = true by kernel_rfl)
  exact ⟨_, c, Tryd.func50, hc, by kernel_rfl⟩
theorem callee52 : Callee' Tryd.prog 52 := by
  obtain ⟨c, hc⟩ := Option.isSome_iff_exists.1 (show Tryd.f52.body.isSome = true by kernel_rfl)
  exact ⟨_, c, Tryd.func52, hc, by kernel_rfl⟩
/- Itoa -/
def itoaX : AV → Option (AV × List AO)
  | .int .i64 n => if -9223372036854775808 ≤ n ∧ n ≤ 9223372036854775807 then some (.str (Lib.itoa n), []) else none
  | _ => none
theorem itoa_ok (x res : AV) (rows : List AO) (h : itoaX x = some (res, rows)) : FnOk cfg Tryd.prog 41 [x] res rows := by
  unfold itoaX at h
  split at h
  · rename_i n
    split at h
    · rename_i hn
      cases h
      refine FnOk.of_plain fun F w vs hF hg hl hr => ?_
      match vs, hl with
      | [v], _ =>
        have hv := hr 0 _ v rfl rfl
        cases hv
        refine (Tryd.strconv_Itoa n hn.1 hn.2 w (tab_of_glob (C := cfg) (F := F) (g := 1) hg (by kernel_rfl) (by kernel_rfl))).mono ?_
        rintro e w' ⟨rfl, k, os, rfl⟩
        exact ⟨_, rfl, .str _, Lib.below_grow _ w (Nat.le_refl _) k os⟩
    · cases h
  · cases h
/- Contains, of one byte -/
def contX : AV → AV → Option (AV × List AO)
  | .str s, .str [c] => some (.bool (decide (0 ≤ Lib.indexByte s c)), [])
  | _, _ => none
theorem cont_ok (x y res : AV) (rows : List AO) (h : contX x y = some (res, rows)) : FnOk cfg Tryd.prog 38 [x, y] res rows := by
  unfold contX at h
  split at h
  · rename_i s c
    cases h
    refine FnOk.of_plain fun F w vs hF hg hl hr => ?_
    match vs, hl with
    | [v, u], _ =>
      have hv := hr 0 _ v rfl rfl
      have hu := hr 1 _ u rfl rfl
      cases hv
      cases hu
      refine (Tryd.strings_Contains_one ⟨s.toArray⟩ c w).mono ?_
      rintro e w' ⟨rfl, rfl⟩
      exact ⟨_, rfl, .bool _, ⟨rfl, rfl, rfl, Nat.le_refl _, fun _ _ => rfl⟩⟩
  · cases h
/- Join -/
def strsOf : List AV → Option (List (List UInt8))
  | [] => some []
  | .str s :: r => (strsOf r).map (s :: ·)
  | _ :: _ => none
theorem strsOf_eq : ∀ {es : List AV} {l : List (List UInt8)}, strsOf es = some l → es = l.map .str
  | [], l, h => by simp [strsOf] at h; subst h; rfl
  | e :: es, l, h => by
    cases e with
    | str s =>
      simp only [strsOf] at h
      obtain ⟨r, hr, rfl⟩ := Option.map_eq_some_iff.1 h
      rw [strsOf_eq hr]; rfl
    | _ => cases h
theorem flat_strs (l : List (List UInt8)) : flat (l.map AV.str) = l.map AV.str := by
  induction l with
  | nil => rfl
  | cons y l ih =>
    simp only [flat] at ih ⊢
    simp only [List.map_cons, List.flatMap_cons, ih]
    rfl
def joinX : AV → AV → Option (AV × List AO)
  | .e0, .str _ => some (.str [], [])
  | .sl 1 es, .str sep => (strsOf es).bind fun l => if l.length ≤ 1000000 ∧ (Lib.join l sep).length ≤ 1000000000 then some (.str (Lib.join l sep), []) else none
  | _, _ => none
theorem join_ok (x y res : AV) (rows : List AO) (h : joinX x y = some (res, rows)) : FnOk cfg Tryd.prog 39 [x, y] res rows := by
  unfold joinX at h
  split at h
  · rename_i sep
    cases h
    refine FnOk.of_plain fun F w vs hF hg hl hr => ?_
    match vs, hl with
    | [v, u], _ =>
      have hv := hr 0 _ v rfl rfl
      have hu := hr 1 _ u rfl rfl
      cases hv
      cases hu
      refine (Tryd.strings_Join_none _ 0 ⟨sep.toArray⟩ w).mono ?_
      rintro e w' ⟨rfl, rfl⟩
      exact ⟨_, rfl, .str _, ⟨rfl, rfl, rfl, Nat.le_refl _, fun _ _ => rfl⟩⟩
  · rename_i es sep
    obtain ⟨l, hl0, h⟩ := Option.bind_eq_some_iff.1 h
    split at h
    case isFalse => cases h
    rename_i hb
    cases h
    obtain rfl := strsOf_eq hl0
    refine FnOk.of_plain fun F w vs hF hg hl hr => ?_
    match vs, hl with
    | [v, u], _ =>
      have hv := hr 0 _ v rfl rfl
      have hu := hr 1 _ u rfl rfl
      cases hu
      cases hv with
      | sl _ _ a cap us hc hcm hs hln h1 hm hrl =>
      by_cases hn : l = []
      · subst hn
        refine (Tryd.strings_Join_none a cap ⟨sep.toArray⟩ w).mono ?_
        rintro e w' ⟨rfl, rfl⟩
        exact ⟨_, rfl, .str _, ⟨rfl, rfl, rfl, Nat.le_refl _, fun _ _ => rfl⟩⟩
      · obtain ⟨ad, rfl, hFa, hcell⟩ := hm (by simpa using hn)
        have hfl := flat_strs l
        rw [hfl] at hln hrl
        simp only [List.length_map] at hln hc
        have hus : ∀ (j : Nat) (s : List UInt8), l[j]? = some s → us[j]? = some (.string ⟨s.toArray⟩) := by
          intro j s hj
          have hjl : j < us.length := by
            rcases Nat.lt_or_ge j l.length with h | h
            · omega
            · rw [List.getElem?_eq_none h] at hj; cases hj
          have := hrl j (.str s) us[j] (by simp [hj]) (List.getElem?_eq_getElem hjl)
          rw [List.getElem?_eq_getElem hjl]
          generalize us[j] = q at this
          cases this
          rfl
        obtain ⟨s0, hs0⟩ : ∃ s0, l[0]? = some s0 := by
          cases l with
          | nil => exact absurd rfl hn
          | cons y l => exact ⟨y, rfl⟩
        have hspot : ad.spot = none := by
          have := hcell 0 _ (hus 0 s0 hs0)
          simp only [Addr.add, if_true] at this
          unfold World.cell? at this
          split at this
          · split at this
            · cases this
            · rename_i hsp; simpa using hsp
          · cases this
        obtain ⟨ab, ao, asp⟩ := ad
        simp only at hspot
        subst hspot
        have hj := Tryd.strings_Join ab ao cap (l.map fun s => ⟨s.toArray⟩) ⟨sep.toArray⟩ w (fun j x hx => by
          rw [List.getElem?_map] at hx
          cases hq : l[j]? with
          | none => rw [hq] at hx; cases hx
          | some s =>
            rw [hq] at hx
            simp only [Option.map_some, Option.some.injEq] at hx
            subst hx
            have := hcell j _ (hus j s hq)
            have hadd : (⟨ab, ao, none⟩ : Addr).add j = ⟨ab, ao + j, none⟩ := by unfold Addr.add; split <;> simp_all
            rw [hadd] at this
            exact this) (hF _ hFa) (by simp; omega) (by simpa using hc) (by simp only [List.map_map, Function.comp_def]; simp; omega)
        simp only [List.length_map, List.map_map, Function.comp_def, List.map_id'] at hj ⊢
        refine hj.mono ?_
        rintro e w' ⟨rfl, hbelow⟩
        exact ⟨_, rfl, .str _, hbelow⟩
  · cases h
/- Clone -/
def tbl0 : TB := ⟨tblF, fun _ _ => none, fun _ _ _ => none⟩
theorem tbl0_ok : TBok Tryd.prog cfg tbl0 := ⟨tbl_ok, (by intro _ _ _ _ _ h; cases h), (by intro _ _ _ _ _ _ h; cases h)⟩
def cloneX (T s : Nat) : AV → Option (AV × List AO)
  | .e0 => some (.ref 0 0 0 0, [.row T s 0 []])
  | .sl s' es => if s' = s ∧ es.length ≤ maxRow then some (.ref 0 0 0 es.length, [.row T s 0 es]) else none
  | _ => none
theorem clone_nils50 : callW tbl0 50 [.nils] = some (.ref 0 0 0 0, [.row 52 4 0 []]) := callW_of tbl0 (k := 50) (by kernel_rfl)
theorem clone_en50 : callW tbl0 50 [.en] = some (.ref 0 0 0 0, [.row 52 4 0 []]) := callW_of tbl0 (k := 50) (by kernel_rfl)
theorem clone_sl50 (e : AV) (es : List AV) (h : es.length + 1 ≤ maxRow) : callW tbl0 50 [.sl 4 (e :: es)] = some (.ref 0 0 0 (es.length + 1), [.row 52 4 0 (e :: es)]) := by
  rw [call_run tbl0 (f := 50) (fn := f50) rfl _ rfl]
  simp [f50, f50body, show es.length ≤ 1073741823 by simpa using h]
theorem clone_ok {f T s : Nat} (h1 : callW tbl0 f [.nils] = some (.ref 0 0 0 0, [.row T s 0 []])) (h2 : callW tbl0 f [.en] = some (.ref 0 0 0 0, [.row T s 0 []])) (h3 : ∀ (e : AV) (es : List AV), es.length + 1 ≤ maxRow → callW tbl0 f [.sl s (e :: es)] = some (.ref 0 0 0 (es.length + 1), [.row T s 0 (e :: es)]))
    (x res : AV) (rows : List AO) (h : cloneX T s x = some (res, rows)) : FnOk cfg Tryd.prog f [x] res rows := by
  unfold cloneX at h
  split at h
  · cases h
    exact FnOk.empty (.inl rfl) (callW_sound mixed tbl0_ok h1) (callW_sound mixed tbl0_ok h2)
  · rename_i s' es
    split at h
    · rename_i hl
      cases h
      obtain ⟨rfl, hl⟩ := hl
      cases es with
      | nil => exact FnOk.empty (.inr ⟨s', rfl⟩) (callW_sound mixed tbl0_ok h1) (callW_sound mixed tbl0_ok h2)
      | cons e es => exact callW_sound mixed tbl0_ok (h3 e es (by simpa using hl))
    · cases h
  · cases h
def tbl : TB := ⟨fun f => if f = 50 then none else tblF f, fun f args => match f, args with
  | 38, [x, y] => contX x y
  | 39, [x, y] => joinX x y
  | 41, [x] => itoaX x
  | 50, [x] => cloneX 52 4 x
  | _, _ => none, fun f args H => match f with
  | 52 => revX H args
  | _ => none⟩
theorem tblOk : TBok Tryd.prog cfg tbl := by
  refine ⟨fun f fn h => ?_, fun f args res rows _ h => ?_, fun f args H res H' _ h => ?_⟩
  · by_cases hf : f = 50
    · simp [tbl, hf] at h
    · simp [tbl, hf] at h
      exact tbl_ok f fn h
  · simp only [tbl] at h
    split at h
    · exact ⟨cont_ok _ _ _ _ h, callee38⟩
    · exact ⟨join_ok _ _ _ _ h, callee39⟩
    · exact ⟨itoa_ok _ _ _ h, callee41⟩
    · exact ⟨clone_ok clone_nils50 clone_en50 clone_sl50 _ _ _ h, callee50⟩
    · cases h
  · simp only [tbl] at h
    split at h
    · exact ⟨rev_ok h, callee52⟩
    · cases h
/-- what the packages' tables hold -/
theorem globOk {W : World} (h : laidMet Tryd.prog Rows.paramValuesRow.laid W) : Glob cfg (fun b => b < W.heap.size) W := by
  intro g e hg
  unfold cfg gl at hg
  simp only at hg
  split at hg
  · cases hg; exact arr_glob (t := 121) (e := 5) (n := 32) 0 (by rfl) (by kernel_rfl) (by kernel_rfl) (by kernel_rfl) (by kernel_rfl) (by kernel_rfl) (.inl ⟨.u8, by kernel_rfl⟩) (by kernel_rfl) h
  · cases hg; exact arr_glob (t := 122) (e := 5) (n := 64) 1 (by rfl) (by kernel_rfl) (by kernel_rfl) (by kernel_rfl) (by kernel_rfl) (by kernel_rfl) (.inl ⟨.u8, by kernel_rfl⟩) (by kernel_rfl) h
  · cases hg; exact arr_glob (t := 116) (e := 67) (n := 20) 2 (by rfl) (by kernel_rfl) (by kernel_rfl) (by kernel_rfl) (by kernel_rfl) (by kernel_rfl) (.inl ⟨.u64, by kernel_rfl⟩) (by kernel_rfl) h
  · cases hg
theorem c10 : callW tbl 10 [] = some (.bool true, []) := callW_of tbl (k := 1500) (by kernel_rfl)
end Go.Proofs.YtmlmijmnekdkpaaDoor
