/- slices.Reverse at bytes, by the library's contract. No condition. -/
import Derived.Test.YtmlmijmnekdkpaaDoorPi27
import Derived.Test.YtmlmijmnekdkpaaDoorProg
import Derived.Shelf.SlicesE.Reverse
import Derived.Test.YtmlmijmnekdkpaaDoorTbl
namespace Go.Proofs.YtmlmijmnekdkpaaDoor
open Go.PI Go.Shelf Go.Proofs
set_option maxRecDepth 100000
set_option maxHeartbeats 8000000
def revRen : Ren := ⟨fun | 35 => 52 | n => n, fun | 0 => 0 | 3 => 3 | 4 => 4 | 22 => 45 | 23 => 5 | n => n, fun n => n⟩
theorem revLay : SlLaysE.n35 Tryd.prog revRen := {
  mixed := by kernel_rfl
  f35 := ⟨Tryd.f52.name, by kernel_rfl, Tryd.func52.trans (congrArg some (by kernel_rfl))⟩
  t0 := Tryd.underlying0
  a0 := Tryd.isAgg0
  z0 := Tryd.sizeOf0
  v0 := Tryd.zeroValue0
  t3 := Tryd.underlying3
  a3 := Tryd.isAgg3
  z3 := Tryd.sizeOf3
  v3 := Tryd.zeroValue3
  t4 := Tryd.underlying4
  a4 := Tryd.isAgg4
  z4 := Tryd.sizeOf4
  v4 := Tryd.zeroValue4
  t22 := Tryd.underlying45
  a22 := Tryd.isAgg45
  z22 := Tryd.sizeOf45
  v22 := Tryd.zeroValue45
  a23 := Tryd.isAgg5
  z23 := Tryd.sizeOf5 }
abbrev encB (b : UInt8) : Value := .int .u8 b.toNat
/-- Reverse of the bytes of a string -/
def revX (H : List AO) : List AV → Option (AV × List AO)
  | [.itr id] => match H[id]? with
    | some (.obj (.bb l)) => if l.length ≤ maxRow then some (.tup [], H.set id (.obj (.bb l.reverse))) else none
    | _ => none
  | _ => none
theorem rev_ok {args : List AV} {H H' : List AO} {res : AV} (h : revX H args = some (res, H')) : FnOkO cfg Tryd.prog 52 args H res H' := by
  unfold revX at h
  split at h
  case h_2 => cases h
  rename_i id
  split at h
  case h_2 => cases h
  rename_i l hob
  split at h
  case isFalse => cases h
  rename_i hm
  simp only [Option.some.injEq, Prod.mk.injEq] at h
  obtain ⟨rfl, rfl⟩ := h
  intro B F ρ w vs hp hg hl hr
  match vs, hl with
  | [x], _ =>
    have h0 := hr 0 _ x rfl rfl
    obtain ⟨b, c, R, hx⟩ := obj_at hp hob h0.itr_inv
    simp only [OD.handle] at hx
    subst hx
    obtain ⟨cur, T, fz, hcur, hfz, hlen, hcell⟩ := R.own
    have hT0 : VR (H.set id (.obj (.bb l.reverse))) ρ F w (.tup []) (.tuple #[]) := .imm (.tup [] [] rfl (fun j c u hc _ => by simp at hc))
    by_cases hnil : l = []
    · subst hnil
      have hself : H.set id (.obj (.bb ([] : List UInt8).reverse)) = H := set_self hob
      rw [hself]
      refine (AnyE.slices_Reverse_empty revLay (some ⟨b, 0, none⟩) c w).mono ?_
      rintro e w' ⟨rfl, rfl⟩
      exact ⟨_, ρ, F, rfl, Post.quiet hp (.imm (.tup [] [] rfl (fun j c u hc _ => by simp at hc)))⟩
    · have hH : Sort.Holds encB w b 0 l.toArray := by
        intro j hj
        have hj' : j < l.length := by simpa using hj
        have hg1 : l[j]? = some l[j] := List.getElem?_eq_getElem hj'
        refine ⟨?_, ?_⟩
        · rw [Nat.zero_add]
          simp [World.cell?, hcur, hcell j _ hg1, getElem!_pos l.toArray j hj]
        · rw [Nat.zero_add]
          simp [World.frozen?, hcur]
          intro hle
          have := hfz
          omega
      refine (AnyE.slices_Reverse revLay encB (fun _ => rfl) b 0 c l w hH (by simp only [maxRow] at hm; omega)).mono ?_
      rintro e w' ⟨rfl, n, rfl⟩
      have hgb : (Sort.putRow encB (Sort.ahead w n) b 0 l.reverse.toArray).heap[b]? = some (.cells (Sort.putCells encB 0 l.reverse.toArray cur) T fz) := by
        show ((Sort.ahead w n).heap.modify b (Sort.onCells (Sort.putCells encB 0 l.reverse.toArray)))[b]? = _
        rw [Array.getElem?_modify, if_pos rfl]
        show (w.heap[b]?).map _ = _
        rw [hcur]; rfl
      have hgo : ∀ k, k ≠ b → (Sort.putRow encB (Sort.ahead w n) b 0 l.reverse.toArray).heap[k]? = w.heap[k]? := by
        intro k hk
        show ((Sort.ahead w n).heap.modify b (Sort.onCells (Sort.putCells encB 0 l.reverse.toArray)))[k]? = _
        rw [Array.getElem?_modify, if_neg (fun e => hk e.symm)]
        rfl
      have hsz : (Sort.putRow encB (Sort.ahead w n) b 0 l.reverse.toArray).heap.size = w.heap.size := by rw [Sort.size_putRow]; rfl
      generalize hw : Sort.putRow encB (Sort.ahead w n) b 0 l.reverse.toArray = w' at hgb hgo hsz
      have hset : ρ.set id ((OD.bb l).handle b c) = ρ := set_self R.at_
      have hgr : w.grownBy w' (blk ((OD.bb l).handle b c)) := by
        refine ⟨by rw [← hw]; rfl, by rw [← hw]; rfl, by rw [← hw]; rfl, by omega, fun k hk hne => hgo k (fun e => hne (by rw [e]; rfl))⟩
      have ev : Ev H ρ (H.set id (.obj (.bb l.reverse))) ρ := Ev.setSame hob rfl rfl
      have key := hp.setObj (w' := w') (v' := (OD.bb l).handle b c) (o' := .obj (.bb l.reverse)) hob rfl rfl R.at_ hgr (.inl rfl) (by rw [hset]; exact ev) (fun _ _ _ _ h => by cases h) (fun _ _ _ h => by cases h) (fun d2 h => by
        injection h with h; subst h
        rw [hset]
        refine ⟨b, c, by rw [R.at_]; simp [OD.handle], ⟨_, T, fz, hgb, by simpa [Sort.putCells] using hfz, by simpa [Sort.putCells] using hlen, fun j y hj => ?_⟩, R.base, by rw [hsz]; exact R.lt, R.free⟩
        have hjl : j < l.length := by
          rcases Nat.lt_or_ge j l.length with h | h
          · exact h
          · rw [List.getElem?_eq_none (by simpa using h)] at hj; cases hj
        have hjc : j < cur.size := by omega
        have hjr : l.reverse[j]? = some y := hj
        unfold Sort.putCells
        rw [Array.getElem?_mapIdx, Array.getElem?_eq_getElem hjc]
        simp only [Option.map_some]
        rw [if_pos ⟨by omega, by simpa using hjl⟩, Nat.sub_zero]
        have hjr2 : l.reverse.toArray[j]! = y := by
          rw [getElem!_pos l.reverse.toArray j (by simpa using hjl)]
          have := hjr
          rw [List.getElem?_eq_getElem (by simpa using hjl)] at this
          simpa using this
        rw [hjr2])
      rw [hset] at key
      exact ⟨_, ρ, F, rfl, key.1, .imm (.tup [] [] rfl (fun j c u hc _ => by simp at hc)), ev, key.2, fun _ x => x, fun _ x => .inl x⟩
end Go.Proofs.YtmlmijmnekdkpaaDoor
