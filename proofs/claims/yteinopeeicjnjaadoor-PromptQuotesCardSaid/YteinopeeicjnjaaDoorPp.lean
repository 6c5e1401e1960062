/- Prompts: the table of functions, with the library's functions by contracts; the packages' tables; the chapter's examples. No condition. -/
import Derived.Test.YteinopeeicjnjaaDoorBld3
import Derived.Test.YteinopeeicjnjaaDoorShelf
import Derived.Test.YteinopeeicjnjaaDoorRows
import Derived.Lib.AppendIntMem
namespace Go.Proofs.YteinopeeicjnjaaDoor
open Go.PI
set_option maxRecDepth 100000
set_option maxHeartbeats 8000000
set_option linter.unusedSimpArgs false
theorem mixed : Tryd.prog.follows .mixedOrders = true := by kernel_rfl
theorem callee54 : Callee' Tryd.prog 54 := by
  obtain ⟨c, hc⟩ := Option.isSome_iff_exists.1 (show Tryd.f54.body.isSome = true by kernel_rfl)
  exact ⟨_, c, Tryd.func54, hc, by kernel_rfl⟩
theorem callee55 : Callee' Tryd.prog 55 := by
  obtain ⟨c, hc⟩ := Option.isSome_iff_exists.1 (show Tryd.f55.body.isSome = true by kernel_rfl)
  exact ⟨_, c, Tryd.func55, hc, by kernel_rfl⟩
theorem callee32 : Callee' Tryd.prog 32 := by
  obtain ⟨c, hc⟩ := Option.isSome_iff_exists.1 (show Tryd.f32.body.isSome = true by kernel_rfl)
  exact ⟨_, c, Tryd.func32, hc, by kernel_rfl⟩
theorem callee51 : Callee' Tryd.prog 51 := by
  obtain ⟨c, hc⟩ := Option.isSome_iff_exists.1 (show Tryd.f51.body.isSome = true by kernel_rfl)
  exact ⟨_, c, Tryd.func51, hc, by kernel_rfl⟩
theorem callee19 : Callee' Tryd.prog 19 := by
  obtain ⟨c, hc⟩ := Option.isSome_iff_exists.1 (show Tryd.f19.body.isSome = true by kernel_rfl)
  exact ⟨_, c, Tryd.func19, hc, by kernel_rfl⟩
theorem callee21 : Callee' Tryd.prog 21 := by
  obtain ⟨c, hc⟩ := Option.isSome_iff_exists.1 (show Tryd.f21.body.isSome = true by kernel_rfl)
  exact ⟨_, c, Tryd.func21, hc, by kernel_rfl⟩
/- Itoa -/
def itoaX : AV → Option (AV × List AO)
  | .int .i64 n => if -9223372036854775808 ≤ n ∧ n ≤ 9223372036854775807 then some (.str (Lib.itoa n), []) else none
  | _ => none
theorem itoa_ok (x res : AV) (rows : List AO) (h : itoaX x = some (res, rows)) : FnOk cfg Tryd.prog 32 [x] res rows := by
  unfold itoaX at h
  split at h
  · rename_i n
    split at h
    · rename_i hn
      cases h
      refine FnOk.of_plain fun F w vs hF hg hl hr => ?_
      match vs, hl with
      | [v], _ =>
        have hv := hr 0 _ v rfl rfl
        cases hv
        refine (Tryd.strconv_Itoa n hn.1 hn.2 w (tab_of_glob (C := cfg) (F := F) (g := 1) hg (by kernel_rfl) (by kernel_rfl))).mono ?_
        rintro e w' ⟨rfl, k, os, rfl⟩
        exact ⟨_, rfl, .str _, Lib.below_grow _ w (Nat.le_refl _) k os⟩
    · cases h
  · cases h
/- Contains, of one byte -/
def contX : AV → AV → Option (AV × List AO)
  | .str s, .str [c] => some (.bool (decide (0 ≤ Lib.indexByte s c)), [])
  | _, _ => none
theorem cont_ok (x y res : AV) (rows : List AO) (h : contX x y = some (res, rows)) : FnOk cfg Tryd.prog 54 [x, y] res rows := by
  unfold contX at h
  split at h
  · rename_i s c
    cases h
    refine FnOk.of_plain fun F w vs hF hg hl hr => ?_
    match vs, hl with
    | [v, u], _ =>
      have hv := hr 0 _ v rfl rfl
      have hu := hr 1 _ u rfl rfl
      cases hv
      cases hu
      refine (Tryd.strings_Contains_one ⟨s.toArray⟩ c w).mono ?_
      rintro e w' ⟨rfl, rfl⟩
      exact ⟨_, rfl, .bool _, ⟨rfl, rfl, rfl, Nat.le_refl _, fun _ _ => rfl⟩⟩
  · cases h
/- Join -/
def strsOf : List AV → Option (List (List UInt8))
  | [] => some []
  | .str s :: r => (strsOf r).map (s :: ·)
  | _ :: _ => none
theorem strsOf_eq : ∀ {es : List AV} {l : List (List UInt8)}, strsOf es = some l → es = l.map .str
  | [], l, h => by simp [strsOf] at h; subst h; rfl
  | e :: es, l, h => by
    cases e with
    | str s =>
      simp only [strsOf] at h
      obtain ⟨r, hr, rfl⟩ := Option.map_eq_some_iff.1 h
      rw [strsOf_eq hr]; rfl
    | _ => cases h
theorem flat_strs (l : List (List UInt8)) : flat (l.map AV.str) = l.map AV.str := by
  induction l with
  | nil => rfl
  | cons y l ih =>
    simp only [flat] at ih ⊢
    simp only [List.map_cons, List.flatMap_cons, ih]
    rfl
def joinX : AV → AV → Option (AV × List AO)
  | .e0, .str _ => some (.str [], [])
  | .sl 1 es, .str sep => (strsOf es).bind fun l => if l.length ≤ 1000000 ∧ (Lib.join l sep).length ≤ 1000000000 then some (.str (Lib.join l sep), []) else none
  | _, _ => none
theorem join_ok (x y res : AV) (rows : List AO) (h : joinX x y = some (res, rows)) : FnOk cfg Tryd.prog 55 [x, y] res rows := by
  unfold joinX at h
  split at h
  · rename_i sep
    cases h
    refine FnOk.of_plain fun F w vs hF hg hl hr => ?_
    match vs, hl with
    | [v, u], _ =>
      have hv := hr 0 _ v rfl rfl
      have hu := hr 1 _ u rfl rfl
      cases hv
      cases hu
      refine (Tryd.strings_Join_none _ 0 ⟨sep.toArray⟩ w).mono ?_
      rintro e w' ⟨rfl, rfl⟩
      exact ⟨_, rfl, .str _, ⟨rfl, rfl, rfl, Nat.le_refl _, fun _ _ => rfl⟩⟩
  · rename_i es sep
    obtain ⟨l, hl0, h⟩ := Option.bind_eq_some_iff.1 h
    split at h
    case isFalse => cases h
    rename_i hb
    cases h
    obtain rfl := strsOf_eq hl0
    refine FnOk.of_plain fun F w vs hF hg hl hr => ?_
    match vs, hl with
    | [v, u], _ =>
      have hv := hr 0 _ v rfl rfl
      have hu := hr 1 _ u rfl rfl
      cases hu
      cases hv with
      | sl _ _ a cap us hc hcm hs hln h1 hm hrl =>
      by_cases hn : l = []
      · subst hn
        refine (Tryd.strings_Join_none a cap ⟨sep.toArray⟩ w).mono ?_
        rintro e w' ⟨rfl, rfl⟩
        exact ⟨_, rfl, .str _, ⟨rfl, rfl, rfl, Nat.le_refl _, fun _ _ => rfl⟩⟩
      · obtain ⟨ad, rfl, hFa, hcell⟩ := hm (by simpa using hn)
        have hfl := flat_strs l
        rw [hfl] at hln hrl
        simp only [List.length_map] at hln hc
        have hus : ∀ (j : Nat) (s : List UInt8), l[j]? = some s → us[j]? = some (.string ⟨s.toArray⟩) := by
          intro j s hj
          have hjl : j < us.length := by
            rcases Nat.lt_or_ge j l.length with h | h
            · omega
            · rw [List.getElem?_eq_none h] at hj; cases hj
          have := hrl j (.str s) us[j] (by simp [hj]) (List.getElem?_eq_getElem hjl)
          rw [List.getElem?_eq_getElem hjl]
          generalize us[j] = q at this
          cases this
          rfl
        obtain ⟨s0, hs0⟩ : ∃ s0, l[0]? = some s0 := by
          cases l with
          | nil => exact absurd rfl hn
          | cons y l => exact ⟨y, rfl⟩
        have hspot : ad.spot = none := by
          have := hcell 0 _ (hus 0 s0 hs0)
          simp only [Addr.add, if_true] at this
          unfold World.cell? at this
          split at this
          · split at this
            · cases this
            · rename_i hsp; simpa using hsp
          · cases this
        obtain ⟨ab, ao, asp⟩ := ad
        simp only at hspot
        subst hspot
        have hj := Tryd.strings_Join ab ao cap (l.map fun s => ⟨s.toArray⟩) ⟨sep.toArray⟩ w (fun j x hx => by
          rw [List.getElem?_map] at hx
          cases hq : l[j]? with
          | none => rw [hq] at hx; cases hx
          | some s =>
            rw [hq] at hx
            simp only [Option.map_some, Option.some.injEq] at hx
            subst hx
            have := hcell j _ (hus j s hq)
            have hadd : (⟨ab, ao, none⟩ : Addr).add j = ⟨ab, ao + j, none⟩ := by unfold Addr.add; split <;> simp_all
            rw [hadd] at this
            exact this) (hF _ hFa) (by simp; omega) (by simpa using hc) (by simp only [List.map_map, Function.comp_def]; simp; omega)
        simp only [List.length_map, List.map_map, Function.comp_def, List.map_id'] at hj ⊢
        refine hj.mono ?_
        rintro e w' ⟨rfl, hbelow⟩
        exact ⟨_, rfl, .str _, hbelow⟩
  · cases h
/- IndexByte -/
def ixbX : AV → AV → Option (AV × List AO)
  | .str s, .int .u8 c => if 0 ≤ c ∧ c ≤ 255 then some (.int .i64 (Lib.indexByte s (UInt8.ofNat c.toNat)), []) else none
  | _, _ => none
theorem ixb_ok (x y res : AV) (rows : List AO) (h : ixbX x y = some (res, rows)) : FnOk cfg Tryd.prog 51 [x, y] res rows := by
  unfold ixbX at h
  split at h
  · rename_i s c
    split at h
    case isFalse => cases h
    rename_i hc
    cases h
    refine FnOk.of_plain fun F w vs hF hg hl hr => ?_
    match vs, hl with
    | [v, u], _ =>
      have hv := hr 0 _ v rfl rfl
      have hu := hr 1 _ u rfl rfl
      cases hv
      cases hu
      refine (Tryd.strings_IndexByte ⟨s.toArray⟩ c w).mono ?_
      rintro e w' ⟨rfl, rfl⟩
      exact ⟨_, rfl, .int _ _, ⟨rfl, rfl, rfl, Nat.le_refl _, fun _ _ => rfl⟩⟩
  · cases h
def tbl : TB := ⟨tblF, fun f args => match f, args with
  | 54, [x, y] => contX x y
  | 55, [x, y] => joinX x y
  | 32, [x] => itoaX x
  | 51, [x, y] => ixbX x y
  | _, _ => none, fun f args H => match f with
  | 19 => bwX H args
  | 21 => stX H args
  | _ => none⟩
theorem tblOk : TBok Tryd.prog cfg tbl := by
  refine ⟨fun f fn h => tbl_ok f fn h, fun f args res rows _ h => ?_, fun f args H res H' _ h => ?_⟩
  · simp only [tbl] at h
    split at h
    · exact ⟨cont_ok _ _ _ _ h, callee54⟩
    · exact ⟨join_ok _ _ _ _ h, callee55⟩
    · exact ⟨itoa_ok _ _ _ h, callee32⟩
    · exact ⟨ixb_ok _ _ _ _ h, callee51⟩
    · cases h
  · simp only [tbl] at h
    split at h
    · exact ⟨bw_ok h, callee19⟩
    · exact ⟨st_ok h, callee21⟩
    · cases h
/-- what the packages' tables hold -/
theorem globOk {W : World} (h : laidMet Tryd.prog Rows.promptExpandsRow.laid W) : Glob cfg (fun b => b < W.heap.size) W := by
  intro g e hg
  unfold cfg gl at hg
  simp only at hg
  split at hg
  · cases hg; exact arr_glob (t := 106) (e := 5) (n := 32) 0 (by rfl) (by kernel_rfl) (by kernel_rfl) (by kernel_rfl) (by kernel_rfl) (by kernel_rfl) (.inl ⟨.u8, by kernel_rfl⟩) (by kernel_rfl) h
  · cases hg; exact arr_glob (t := 107) (e := 5) (n := 64) 1 (by rfl) (by kernel_rfl) (by kernel_rfl) (by kernel_rfl) (by kernel_rfl) (by kernel_rfl) (.inl ⟨.u8, by kernel_rfl⟩) (by kernel_rfl) h
  · cases hg; exact arr_glob (t := 96) (e := 81) (n := 20) 2 (by rfl) (by kernel_rfl) (by kernel_rfl) (by kernel_rfl) (by kernel_rfl) (by kernel_rfl) (.inl ⟨.u64, by kernel_rfl⟩) (by kernel_rfl) h
  · cases hg
theorem c11 : callW tbl 11 [] = some (.bool true, []) := callW_of tbl (k := 1500) (by kernel_rfl)
end Go.Proofs.YteinopeeicjnjaaDoor
