/- slices.Insert of one process into a row: the road without room. No condition. -/
import Derived.Test.YtgppkhbidcgnlaaDoorPi27
import Derived.Test.YtgppkhbidcgnlaaDoorProg
import Derived.Lib.AppendZerosOnto
import Derived.Lib.AppendZeros
import Derived.Laws.CopyRow
import Derived.Laws.NewBlocks
import Derived.Lib.Walk
import Derived.Lib.SliceRun
import Derived.Lib.JoinLaws
import Derived.Lib.Overlaps
import Derived.Laws.Externs
import Derived.WalkKit
import Derived.Shelf.RegionOpenPlain
import Derived.Handy
namespace Go.Proofs.YtgppkhbidcgnlaaDoor
open Go.PI Go.RowKit Go.Lib
set_option maxRecDepth 100000
set_option maxHeartbeats 8000000
set_option linter.unusedVariables false
set_option linter.unusedSimpArgs false
theorem run_copy_rowS {P : Program} (w : World) (dT sT ty elem : TypeId) (g o dLen dCap : Nat) (a : Addr) (sLen sCap s : Nat) (cur : Array Value) (t : TypeId) (cs : List Value)
    (hu : P.underlying dT = some (.slice elem)) (hs : (P.info? elem).map (·.size) = some s)
    (hg : w.heap[g]? = some (.cells cur t (0, 0))) (hn : cs.length = Nat.min sLen dLen * s)
    (hsrc : ∀ j v, cs[j]? = some v → w.cell? (a.add j) = some v) (hfit : o + cs.length ≤ cur.size) (h1 : ∀ v ∈ cs, v.oneCell' = true) :
    (Builtin.copy_ #[dT, sT] ty #[.slice (some ⟨g, o, none⟩) dLen dCap, .slice (some a) sLen sCap]).run P w =
      .ok (goInt (Nat.min sLen dLen)) (w.setRow g (cur.toList.take o ++ cs ++ cur.toList.drop (o + cs.length)).toArray) := by
  have hl := run_loadCells_list (P := P) w a cs hsrc
  have hst := run_storeCells_at P g o t cs 0 cur w hg (by simpa using hfit) h1
  cases hq : P.info? elem with
  | none => simp [hq] at hs
  | some i =>
    have hi : i.size = s := by simpa [hq] using hs
    simp [Builtin.copy_, run_underlying hu, Builtin.lenOf, Builtin.firstCells, sizeOf, typeInfo, hq, hi, ← hn, hl, hst]
theorem wp_copy_runI {P : Program} (w : World) {o : Oper} {a : Act} {K : Act → World → Prop} {Q : Exit → Act → World → Prop} (d s : Operand) (t t' : TypeId)
    (ho : o.op = .call { callee := .builtin .copy, args := #[d, s], argTypes := #[t, t'] }) (v u : Value) (hd : a.eval d = v) (hs : a.eval s = u) {v' : Value} {w' : World}
    (hr : (Builtin.copy_ #[t, t'] o.type #[v, u]).run P w = .ok v' w') (h : K (a.put o.dst v') w') : o.wp P a w K Q := by
  unfold Oper.wp execOp
  simp only [ho, resolve, invoke, builtin, Sem.run_bind, Sem.run_pure, Result.andThen_ok, List.map_toArray, List.map_cons, List.map_nil, hd, hs, hr]
  exact h
theorem wpList_copy_runI {P : Program} (w : World) {ops : Array Oper} {rest : List Oper} {o : Oper} {a : Act} {Q : Exit → Act → World → Prop} (hgd : o.guard = none) (d s : Operand) (t t' : TypeId)
    (ho : o.op = .call { callee := .builtin .copy, args := #[d, s], argTypes := #[t, t'] }) (v u : Value) (hd : a.eval d = v) (hs : a.eval s = u) {v' : Value} {w' : World}
    (hr : (Builtin.copy_ #[t, t'] o.type #[v, u]).run P w = .ok v' w') (h : wpList P ops Q rest (a.put o.dst v') w') : wpList P ops Q (o :: rest) a w :=
  wpList_plain hgd fun _ hK => wp_copy_runI w d s t t' ho v u hd hs hr (hK _ _ h)
theorem step_copy_runI {P : Program} {ops : Array Oper} {o : Oper} {a : Act} {w : World} {K : Act → World → Prop} {Q : Exit → Act → World → Prop} {E : Prop}
    (hg : o.guard = none) (d x : Operand) (dT sT : TypeId) (hop : o.op = Op.call { callee := Callee.builtin Builtin.copy, args := #[d, x], argTypes := #[dT, sT] })
    (v u : Value) (hd : a.eval d = v) (hx : a.eval x = u) {v' : Value} {w' : World} (hr : (Builtin.copy_ #[dT, sT] o.type #[v, u]).run P w = .ok v' w') (hK : K (a.put o.dst v') w') :
    if Region.wanted o (yielded ops a.tmps) = true then Oper.wp P o a w K Q else E := by
  have hw : Region.wanted o (yielded ops a.tmps) = true := by simp [Region.wanted, hg]
  rw [if_pos hw]
  unfold Oper.wp
  simp [execOp, hop, resolve, invoke, builtin, hd, hx, hr, Result.andThen]
  exact hK
theorem info30 : ∃ i0 z, Tryd.prog.info? 30 = some i0 ∧ i0.zero = some z ∧ i0.size = 13 ∧ z.cells.size = 13 ∧ 0 < i0.bytes ∧ i0.bytes ≤ 1000 := by
  obtain ⟨i0, hi0⟩ := Option.isSome_iff_exists.1 (show (Tryd.prog.info? 30).isSome = true by kernel_rfl)
  have h1 : (Tryd.prog.info? 30).map (·.size) = some 13 := by kernel_rfl
  have h2 : ((Tryd.prog.info? 30).bind (·.zero)).map (·.cells.size) = some 13 := by kernel_rfl
  have h3 : (Tryd.prog.info? 30).map (fun i => decide (0 < i.bytes) && decide (i.bytes ≤ 1000)) = some true := by kernel_rfl
  rw [hi0] at h1 h2 h3
  simp at h1 h2 h3
  obtain ⟨z, hz, hz2⟩ := h2
  exact ⟨i0, z, hi0, hz, h1, hz2, h3.1, h3.2⟩
theorem ins_grow (b n c i vc : Nat) (av : Addr) (cs vs : List Value) (w : World) (cur : Array Value) (hi : i < n) (hnc : n ≤ c) (hroom : c < n + 1) (hbig : n ≤ 1000000)
    (hcl : cs.length = n * 13) (hvl : vs.length = 13) (hgb : w.heap[b]? = some (.cells cur 30 (0, 0))) (hcs : cur.toList.take (n * 13) = cs) (hav : av.block < w.heap.size) (hvs : ∀ j v, vs[j]? = some v → w.cell? (av.add j) = some v)
    (h1c : ∀ v ∈ cs, v.oneCell' = true) (h1v : ∀ v ∈ vs, v.oneCell' = true) :
    Calls Tryd.prog 68 #[.slice (some ⟨b, 0, none⟩) n c, .int .i64 i, .slice (some av) 1 vc] w fun e w' => ∃ G cells, e = .returned (.slice (some ⟨w.heap.size, 0, none⟩) (n + 1) G) ∧ w.grownBy w' none ∧ w'.heap[w.heap.size]? = some (.cells cells 30 (0, 0)) ∧ n + 1 ≤ G ∧ G ≤ maxLen ∧ cells.size = G * 13 ∧ cells.toList.take ((n + 1) * 13) = cs.take (i * 13) ++ vs ++ cs.drop (i * 13) := by
  have mixed : Tryd.prog.follows .mixedOrders = true := by kernel_rfl
  obtain ⟨i0, z, hi0, hz0, hzs, hzc, hzb0, hzb⟩ := info30
  have hz2 : ¬ ((i : Int) = (n : Int)) := by omega
  have hz3 : (c : Int) < (n : Int) + 1 := by omega
  have hin : i ≤ n := by omega
  have hkk : (n : Int) + 1 - (i : Int) = ((n + 1 - i : Nat) : Int) := by omega
  have hik : i + (n + 1 - i) = n + 1 := by omega
  have hbw : b < w.heap.size := by
    rcases Nat.lt_or_ge b w.heap.size with h1 | h1
    · exact h1
    · rw [Array.getElem?_eq_none h1] at hgb; cases hgb
  have hsrc : ∀ (k : Nat) (l : List Value), cs.drop k = l ∨ cs.take k = l → True := fun _ _ _ => trivial
  have hcell : ∀ j v, cs[j]? = some v → w.cell? ⟨b, j, none⟩ = some v := by
    intro j v hj
    rw [← hcs, List.getElem?_take] at hj
    split at hj
    · simp [World.cell?, hgb]; simpa using hj
    · cases hj
  have hold : (Builtin.firstCells i0.size i (.slice (some ⟨b, 0, none⟩) i c)).run Tryd.prog w.drew = .ok (cs.take (i * 13)).toArray w.drew := by
    rw [hzs]
    exact run_firstCells_some w.drew 13 i ⟨b, 0, none⟩ i c (cs.take (i * 13)) (by rw [List.length_take]; omega) (fun j v hj => by
      rw [Addr.add_lit, Nat.zero_add]
      rw [List.getElem?_take] at hj
      split at hj
      · exact hcell j v hj
      · cases hj)
  have hrz : ∀ ty, (Builtin.append_ #[22, 3] ty #[.slice (some ⟨b, 0, none⟩) i c, .int .i64 ((n : Int) + 1 - (i : Int))]).run Tryd.prog w =
      .ok (.slice (some ⟨w.heap.size, 0, none⟩) (n + 1) (grownCap w (n + 1) c 30)) (w.drew.alloc (.cells ((cs.take (i * 13)).toArray ++ Builtin.zeroCells z.cells (n + 1 - i) ++ Builtin.zeroCells z.cells (grownCap w (n + 1) c 30 - (n + 1))) 30)) := fun ty => by
    have h := Lib.run_append_grow_zeros w 22 3 ty 30 i0 z .i64 .i64 Tryd.underlying22 Tryd.underlying3 hi0 hz0 (some ⟨b, 0, none⟩) i c (cs.take (i * 13)) hold (n + 1 - i) (by omega) (by omega) (by omega) (by omega) (Nat.le_trans (Nat.mul_le_mul_left _ hzb) (by omega)) (by rw [hik]; exact growslice_fits hroom (Nat.le_trans (Nat.mul_le_mul_left _ hzb) (by omega)))
    rw [hik] at h
    rw [hkk]
    exact h
  have hG1 := grownCap_ge w (n + 1) c 30
  have hG2 : grownCap w (n + 1) c 30 ≤ maxLen := grownCap_le_maxLen w (n + 1) c 30 (by simp only [maxLen]; omega)
  generalize grownCap w (n + 1) c 30 = G at hrz hG1 hG2
  have hRl : ((cs.take (i * 13)).toArray ++ Builtin.zeroCells z.cells (n + 1 - i) ++ Builtin.zeroCells z.cells (G - (n + 1))).size = G * 13 := by
    simp only [Array.size_append, List.size_toArray, size_zeroCells, hzc, List.length_take]
    omega
  have hRt : ((cs.take (i * 13)).toArray ++ Builtin.zeroCells z.cells (n + 1 - i) ++ Builtin.zeroCells z.cells (G - (n + 1))).toList.take (i * 13) = cs.take (i * 13) := by
    simp only [Array.toList_append, List.append_assoc]
    rw [List.take_append_of_le_length (by simp; omega), List.take_of_length_le (by simp; omega)]
  generalize (cs.take (i * 13)).toArray ++ Builtin.zeroCells z.cells (n + 1 - i) ++ Builtin.zeroCells z.cells (G - (n + 1)) = ROW at hrz hRl hRt
  have hGi : ¬ G = i := by omega
  have hGim : ¬ G = i + 1 := by omega
  have hci : ¬ c = i := by omega
  have hsz : (Tryd.prog.info? 30).map (·.size) = some 13 := by rw [hi0]; simp [hzs]
  obtain ⟨W1, hW1⟩ : ∃ W1, W1 = (w.alloc (.cells ROW 30)).drew := ⟨_, rfl⟩
  have hN1 : W1.heap[w.heap.size]? = some (.cells ROW 30 (0, 0)) := by rw [hW1]; show (w.heap.push _)[w.heap.size]? = _; simp
  have hO1 : ∀ k, k < w.heap.size → W1.heap[k]? = w.heap[k]? := fun k hk => by rw [hW1]; show (w.heap.push _)[k]? = _; rw [Array.getElem?_push, if_neg (by omega)]
  have hcpA : ∀ ty, (Builtin.copy_ #[22, 22] ty #[.slice (some ⟨w.heap.size, i * 13, none⟩) (n + 1 - i) (G - i), .slice (some av) 1 vc]).run Tryd.prog W1 = .ok (goInt 1) (W1.setRow w.heap.size (ROW.toList.take (i * 13) ++ vs ++ ROW.toList.drop (i * 13 + vs.length)).toArray) := fun ty => by
    have hm : Nat.min 1 (n + 1 - i) = 1 := by simp only [Nat.min_def]; split <;> omega
    have h := run_copy_rowS W1 22 22 ty 30 w.heap.size (i * 13) (n + 1 - i) (G - i) av 1 vc 13 ROW 30 vs Tryd.underlying22 hsz hN1 (by rw [hm, hvl]) (fun j v hj => by
      have hbk : (av.add j).block = av.block := by unfold Addr.add; split <;> rfl
      rw [World.cell?_of_block (w := w) (by rw [hbk]; exact hO1 _ hav)]; exact hvs j v hj) (by rw [hRl, hvl]; omega) h1v
    rwa [hm] at h
  have hA1 : (ROW.toList.take (i * 13) ++ vs ++ ROW.toList.drop (i * 13 + vs.length)).toArray.size = G * 13 := by
    simp [hvl, hRl]; omega
  have hA2 : (ROW.toList.take (i * 13) ++ vs ++ ROW.toList.drop (i * 13 + vs.length)).toArray.toList.take ((i + 1) * 13) = cs.take (i * 13) ++ vs := by
    simp only [List.toList_toArray]
    rw [hRt, List.take_append_of_le_length (by simp [hvl]; omega), List.take_of_length_le (by simp [hvl]; omega)]
  generalize (ROW.toList.take (i * 13) ++ vs ++ ROW.toList.drop (i * 13 + vs.length)).toArray = A1 at hcpA hA1 hA2
  have hN2 : (W1.setRow w.heap.size A1).heap[w.heap.size]? = some (.cells A1 30 (0, 0)) := setRow_heap W1 w.heap.size ROW A1 30 (0, 0) hN1
  have hcpB : ∀ (W : World), W.heap = (W1.setRow w.heap.size A1).heap → ∀ ty, (Builtin.copy_ #[22, 22] ty #[.slice (some ⟨w.heap.size, (i + 1) * 13, none⟩) (n - i) (G - (i + 1)), .slice (some ⟨b, i * 13, none⟩) (n - i) (c - i)]).run Tryd.prog W = .ok (goInt ((n - i : Nat) : Int)) (W.setRow w.heap.size (A1.toList.take ((i + 1) * 13) ++ cs.drop (i * 13) ++ A1.toList.drop ((i + 1) * 13 + (cs.drop (i * 13)).length)).toArray) := by
    intro W hW ty
    have hdl : (cs.drop (i * 13)).length = (n - i) * 13 := by rw [List.length_drop, hcl, Nat.sub_mul]
    have hm : Nat.min (n - i) (n - i) = n - i := Nat.min_self _
    have hbN : b ≠ w.heap.size := by omega
    have h := run_copy_rowS W 22 22 ty 30 w.heap.size ((i + 1) * 13) (n - i) (G - (i + 1)) ⟨b, i * 13, none⟩ (n - i) (c - i) 13 A1 30 (cs.drop (i * 13)) Tryd.underlying22 hsz (by rw [hW]; exact hN2) (by rw [hm, hdl]) (fun j v hj => by
      rw [Addr.add_lit]
      rw [List.getElem?_drop] at hj
      have h1 := hcell _ _ hj
      rw [World.cell?_of_block (w := w)]
      · exact h1
      · show W.heap[b]? = w.heap[b]?
        rw [hW, setRow_other _ _ _ _ hbN]
        exact hO1 b hbw) (by rw [hA1, hdl]; omega) (fun v hv => h1c v (List.mem_of_mem_drop hv))
    rwa [hm] at h
  have hdl : (cs.drop (i * 13)).length = (n - i) * 13 := by rw [List.length_drop, hcl, Nat.sub_mul]
  have hF1 : (A1.toList.take ((i + 1) * 13) ++ cs.drop (i * 13) ++ A1.toList.drop ((i + 1) * 13 + (cs.drop (i * 13)).length)).toArray.size = G * 13 := by
    simp [hA1, hdl]; omega
  have hF2 : (A1.toList.take ((i + 1) * 13) ++ cs.drop (i * 13) ++ A1.toList.drop ((i + 1) * 13 + (cs.drop (i * 13)).length)).toArray.toList.take ((n + 1) * 13) = cs.take (i * 13) ++ vs ++ cs.drop (i * 13) := by
    simp only [List.toList_toArray]
    rw [hA2, List.take_append_of_le_length (by simp [hvl, hdl]; omega), List.take_of_length_le (by simp [hvl, hdl]; omega)]
  generalize (A1.toList.take ((i + 1) * 13) ++ cs.drop (i * 13) ++ A1.toList.drop ((i + 1) * 13 + (cs.drop (i * 13)).length)).toArray = A3 at hcpB hF1 hF2
  have hw1 : IntKind.i64.wrap ((i : Int) + 1) = (i : Int) + 1 := by rw [IntKind.wrap_i64]; omega
  have hb1 : (0 : Int) ≤ (i : Int) + 1 := by omega
  have htn : ((i : Int) + 1).toNat = i + 1 := by omega
  have hb3 : (i : Int) ≤ (n : Int) := by omega
  clear hkk hik hold hRl hRt hA1 hA2 hdl
  subst hW1
  go_enter Tryd.func68, Tryd.ntmps68
  go_wp2_with (first
    | (at_builtin; refine Lib.wpList_append_run _ rfl _ _ _ _ rfl _ _ rfl rfl _ _ (hrz _) ?_)
    | (at_builtin; refine wpList_copy_runI _ rfl _ _ 22 22 rfl _ _ rfl rfl (hcpA _) ?_)
    | (at_builtin; refine wpList_copy_runI _ rfl _ _ 22 22 rfl _ _ rfl rfl (hcpB _ rfl _) ?_))
  go_region_law_o (refine step_copy_runI rfl _ _ 22 22 rfl (.slice (some ⟨w.heap.size, (i + 1) * 13, none⟩) (n - i) (G - (i + 1))) (.slice (some ⟨b, i * 13, none⟩) (n - i) (c - i)) (by simp [Act.eval, Act.put]) (by simp [Act.eval, Act.put]) (hcpB ((w.alloc (.cells ROW 30)).drew.setRow w.heap.size A1).drew rfl 3) ?_)
  go_wp2
  go_ret
  refine ⟨G, A3, rfl, ⟨rfl, rfl, rfl, ?_, fun k hk _ => ?_⟩, setRow_heap _ _ A1 A3 30 (0, 0) hN2, hG1, hG2, hF1, hF2⟩
  · show w.heap.size ≤ (((w.alloc (.cells ROW 30)).drew.setRow w.heap.size A1).drew.setRow w.heap.size A3).heap.size
    rw [size_setRow]
    show w.heap.size ≤ ((w.alloc (.cells ROW 30)).drew.setRow w.heap.size A1).heap.size
    rw [size_setRow]
    show w.heap.size ≤ (w.heap.push _).size
    simp
  · rw [setRow_other _ _ _ _ (by omega)]
    show ((w.alloc (.cells ROW 30)).drew.setRow w.heap.size A1).heap[k]? = _
    rw [setRow_other _ _ _ _ (by omega)]
    exact hO1 k hk
theorem run_overlaps_row {P : Program} (w : World) (tS tR e : TypeId) (ht : P.underlying tS = some (.slice e)) (size : Nat) (hz : ∀ w, (Go.sizeOf e).run P w = .ok size w)
    (a : Addr) (b off la ca lb cb : Nat) (hne : a.block ≠ b) (x : Value) (ha : w.cell? a = some x) (cur : Array Value) (t : TypeId) (hb : w.heap[b]? = some (.cells cur t (0, 0))) :
    (Extern.SlicesOverlaps.overlaps #[tS, tS] #[tR] #[.slice (some a) la ca, .slice (some ⟨b, off, none⟩) lb cb]).run P w = .ok (.bool false) w := by
  have hnb : (a.block != b) = true := by simpa using hne
  have hnb' : (a.block == b) = false := by simpa using hne
  have hsb : w.shape? b = some (t, cur.size) := by simp [World.shape?, hb]
  have hfb : ∀ o, w.frozen? ⟨b, o, none⟩ = false := fun o => by simp [World.frozen?, hb]
  obtain ⟨tA, kA, hsa⟩ : ∃ tA kA, w.shape? a.block = some (tA, kA + 1) := by
    unfold World.cell? at ha
    split at ha
    · rename_i c t' z hc
      refine ⟨t', c.size - 1, ?_⟩
      simp only [World.shape?, hc]
      split at ha
      · cases ha
      · have : a.off < c.size := by
          rcases Nat.lt_or_ge a.off c.size with h | h
          · exact h
          · rw [Array.getElem?_eq_none h] at ha; cases ha
        congr 2; omega
    · cases ha
  change Sem.run P (α := Value) (do
    let some t := (#[tS, tS] : Array TypeId)[0]? | stuck "slices.overlaps: no parameter types"
    let .slice elem ← underlying t | stuck "slices.overlaps: slice type expected"
    let size ← sizeOf elem
    match (some a : Option Addr), (some ⟨b, off, none⟩ : Option Addr) with
    | some a, some b =>
      if la = 0 ∨ lb = 0 ∨ size = 0 then pure (Value.bool false)
      else if a.block != b.block && (← frozen a) && (← frozen b) then unsupported .addressObserved
      else do
        if a.block != b.block then do
          noView a; noView b
          if ← mayBeOne a b then return Value.bool ((← choose (.extern "sameAddr.stringBytes" 2)) == 1)
        pure (Value.bool (a.block == b.block && a.off < b.off + lb * size && b.off < a.off + la * size))
    | _, _ => pure (Value.bool false)) w = _
  by_cases h0 : la = 0 ∨ lb = 0 ∨ size = 0
  · simp [run_underlying ht, hz, h0]
  · cases hf1 : w.frozen? a <;> cases hf2 : w.frozen? ⟨a.block, kA + 1, none⟩ <;>
      simp [run_underlying ht, hz, h0, hnb, hnb', frozen, noView, viewAt, mayBeOne, stringish, shape, Sem.run, hsa, hsb, hfb, hf1, hf2]
theorem ins_shift (b n c i vc : Nat) (av : Addr) (cs vs : List Value) (w : World) (cur : Array Value) (hi : i < n) (hroom : n + 1 ≤ c) (hcm : c ≤ maxLen) (hbig : n ≤ 1000000)
    (hcl : cs.length = n * 13) (hvl : vs.length = 13) (hgb : w.heap[b]? = some (.cells cur 30 (0, 0))) (hcz : cur.size = c * 13) (hcs : cur.toList.take (n * 13) = cs) (hav : av.block ≠ b) (hvs : ∀ j v, vs[j]? = some v → w.cell? (av.add j) = some v)
    (h1c : ∀ v ∈ cs, v.oneCell' = true) (h1v : ∀ v ∈ vs, v.oneCell' = true) :
    Calls Tryd.prog 68 #[.slice (some ⟨b, 0, none⟩) n c, .int .i64 i, .slice (some av) 1 vc] w fun e w' => ∃ cells, e = .returned (.slice (some ⟨b, 0, none⟩) (n + 1) c) ∧ w.grownBy w' (some b) ∧ w'.heap[b]? = some (.cells cells 30 (0, 0)) ∧ cells.size = c * 13 ∧ cells.toList.take ((n + 1) * 13) = cs.take (i * 13) ++ vs ++ cs.drop (i * 13) := by
  have mixed : Tryd.prog.follows .mixedOrders = true := by kernel_rfl
  have hz2 : ¬ ((i : Int) = (n : Int)) := by omega
  have hz3 : ¬ ((c : Int) < (n : Int) + 1) := by omega
  have hin : i ≤ n := by omega
  have hci : ¬ c = i := by omega
  have hcim : ¬ c = i + 1 := by omega
  have hw1 : IntKind.i64.wrap ((i : Int) + 1) = (i : Int) + 1 := by rw [IntKind.wrap_i64]; omega
  have hb1 : (0 : Int) ≤ (i : Int) + 1 := by omega
  have htn : ((i : Int) + 1).toNat = i + 1 := by omega
  have hb3 : (i : Int) ≤ (n : Int) := by omega
  have hb4 : (i : Int) ≤ (n : Int) + 1 := by omega
  have hc63 : (c : Int) ≤ 9223372036854775807 := by simp only [maxLen] at hcm; omega
  obtain ⟨v0, hv0⟩ : ∃ v0, vs[0]? = some v0 := ⟨vs[0], List.getElem?_eq_getElem (by omega)⟩
  have hva : w.cell? av = some v0 := by
    have := hvs 0 v0 hv0
    simpa [Addr.add] using this
  have hov : ∀ lb cb, (callFunc 90 #[.slice (some av) 1 vc, .slice (some ⟨b, (i + 1) * 13, none⟩) lb cb]).run Tryd.prog w = .ok (.value (.bool false)) w := fun lb cb => by
    rw [run_callFunc_extern Tryd.func90 (by kernel_rfl) (by kernel_rfl) (by kernel_rfl) (e := Extern.SlicesOverlaps.overlaps #[22, 22] #[4]) (by kernel_rfl),
      run_overlaps_row w 22 4 30 Tryd.underlying22 13 Tryd.sizeOf30 av b ((i + 1) * 13) 1 vc lb cb hav v0 hva cur 30 hgb]
    rfl
  obtain ⟨i0, z, hi0, hz0, hzs, hzc, hzb0, hzb⟩ := info30
  have hsz : (Tryd.prog.info? 30).map (·.size) = some 13 := by rw [hi0]; simp [hzs]
  have hcell : ∀ j v, cs[j]? = some v → w.cell? ⟨b, j, none⟩ = some v := by
    intro j v hj
    rw [← hcs, List.getElem?_take] at hj
    split at hj
    · simp [World.cell?, hgb]; simpa using hj
    · cases hj
  have hdl : (cs.drop (i * 13)).length = (n - i) * 13 := by rw [List.length_drop, hcl, Nat.sub_mul]
  have hgd : w.drew.heap[b]? = some (.cells cur 30 (0, 0)) := hgb
  have hcpA : ∀ ty, (Builtin.copy_ #[22, 22] ty #[.slice (some ⟨b, (i + 1) * 13, none⟩) (n - i) (c - (i + 1)), .slice (some ⟨b, i * 13, none⟩) (n + 1 - i) (c - i)]).run Tryd.prog w.drew = .ok (goInt ((n - i : Nat) : Int)) (w.drew.setRow b (cur.toList.take ((i + 1) * 13) ++ cs.drop (i * 13) ++ cur.toList.drop ((i + 1) * 13 + (cs.drop (i * 13)).length)).toArray) := fun ty => by
    have hm : Nat.min (n + 1 - i) (n - i) = n - i := by simp only [Nat.min_def]; split <;> omega
    have h := run_copy_rowS w.drew 22 22 ty 30 b ((i + 1) * 13) (n - i) (c - (i + 1)) ⟨b, i * 13, none⟩ (n + 1 - i) (c - i) 13 cur 30 (cs.drop (i * 13)) Tryd.underlying22 hsz hgd (by rw [hm, hdl]) (fun j v hj => by
      rw [Addr.add_lit]
      rw [List.getElem?_drop] at hj
      exact hcell _ _ hj) (by rw [hcz, hdl]; omega) (fun v hv => h1c v (List.mem_of_mem_drop hv))
    rwa [hm] at h
  have hA1 : (cur.toList.take ((i + 1) * 13) ++ cs.drop (i * 13) ++ cur.toList.drop ((i + 1) * 13 + (cs.drop (i * 13)).length)).toArray.size = c * 13 := by
    simp [hcz, hdl]; omega
  have hA2 : (cur.toList.take ((i + 1) * 13) ++ cs.drop (i * 13) ++ cur.toList.drop ((i + 1) * 13 + (cs.drop (i * 13)).length)).toArray.toList.take (i * 13) = cs.take (i * 13) := by
    simp only [List.toList_toArray, List.append_assoc]
    rw [List.take_append_of_le_length (by simp [hcz]; omega), List.take_take, ← hcs, List.take_take]
    congr 1; omega
  have hA3 : (cur.toList.take ((i + 1) * 13) ++ cs.drop (i * 13) ++ cur.toList.drop ((i + 1) * 13 + (cs.drop (i * 13)).length)).toArray.toList.drop ((i + 1) * 13) = cs.drop (i * 13) ++ cur.toList.drop ((n + 1) * 13) := by
    simp only [List.toList_toArray, List.append_assoc]
    rw [List.drop_append_of_le_length (by simp [hcz]; omega), List.drop_of_length_le (by simp; omega), List.nil_append, hdl]
    congr 2; omega
  generalize (cur.toList.take ((i + 1) * 13) ++ cs.drop (i * 13) ++ cur.toList.drop ((i + 1) * 13 + (cs.drop (i * 13)).length)).toArray = A1 at hcpA hA1 hA2 hA3
  have hN1 : (w.drew.setRow b A1).heap[b]? = some (.cells A1 30 (0, 0)) := setRow_heap w.drew b cur A1 30 (0, 0) hgd
  have hcpB : ∀ (W : World), W.heap = (w.drew.setRow b A1).heap → ∀ ty, (Builtin.copy_ #[22, 22] ty #[.slice (some ⟨b, i * 13, none⟩) (n + 1 - i) (c - i), .slice (some av) 1 vc]).run Tryd.prog W = .ok (goInt 1) (W.setRow b (A1.toList.take (i * 13) ++ vs ++ A1.toList.drop (i * 13 + vs.length)).toArray) := by
    intro W hW ty
    have hm : Nat.min 1 (n + 1 - i) = 1 := by simp only [Nat.min_def]; split <;> omega
    have h := run_copy_rowS W 22 22 ty 30 b (i * 13) (n + 1 - i) (c - i) av 1 vc 13 A1 30 vs Tryd.underlying22 hsz (by rw [hW]; exact hN1) (by rw [hm, hvl]) (fun j v hj => by
      have hbk : (av.add j).block = av.block := by unfold Addr.add; split <;> rfl
      rw [World.cell?_of_block (w := w)]
      · exact hvs j v hj
      · rw [hbk, hW, setRow_other _ _ _ _ hav]; rfl) (by rw [hA1, hvl]; omega) h1v
    rwa [hm] at h
  have hF1 : (A1.toList.take (i * 13) ++ vs ++ A1.toList.drop (i * 13 + vs.length)).toArray.size = c * 13 := by
    simp [hA1, hvl]; omega
  have hF2 : (A1.toList.take (i * 13) ++ vs ++ A1.toList.drop (i * 13 + vs.length)).toArray.toList.take ((n + 1) * 13) = cs.take (i * 13) ++ vs ++ cs.drop (i * 13) := by
    simp only [List.toList_toArray]
    rw [hA2, hvl, show i * 13 + 13 = (i + 1) * 13 by omega, hA3, ← List.append_assoc, List.take_append_of_le_length (by simp [hvl, hdl]; omega), List.take_of_length_le (by simp [hvl, hdl]; omega)]
  generalize (A1.toList.take (i * 13) ++ vs ++ A1.toList.drop (i * 13 + vs.length)).toArray = A3 at hcpB hF1 hF2
  clear hA1 hA2 hA3 hdl
  go_enter Tryd.func68, Tryd.ntmps68
  go_wp2
  go_region_law_o (refine step_copy_runI rfl _ _ 22 22 rfl (.slice (some ⟨b, (i + 1) * 13, none⟩) (n - i) (c - (i + 1))) (.slice (some ⟨b, i * 13, none⟩) (n + 1 - i) (c - i)) (by simp [Act.eval, Act.put]) (by simp [Act.eval, Act.put]) (hcpA 3) ?_)
  go_wp2_with (first
    | (at_builtin; refine wpList_copy_runI _ rfl _ _ 22 22 rfl _ _ rfl rfl (hcpB _ rfl _) ?_))
  go_ret
  refine ⟨A3, rfl, ⟨rfl, rfl, rfl, ?_, fun k hk hne => ?_⟩, setRow_heap _ _ A1 A3 30 (0, 0) hN1, hF1, hF2⟩
  · rw [size_setRow, size_setRow]
    exact Nat.le_refl _
  · have hkb : k ≠ b := fun e => hne (by rw [e])
    rw [setRow_other _ _ _ _ hkb, setRow_other _ _ _ _ hkb]
    rfl
end Go.Proofs.YtgppkhbidcgnlaaDoor
