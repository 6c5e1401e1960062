/- Maps, iterators, arrays, tests for nil, bytes to a string; variables whose places were kept: what the interpreter says is what the model does. No condition. -/
import Derived.Test.YtpphfbfmoipoaaaDoorPi10
import Derived.MapKept
import Derived.Laws.RangeString
import Derived.Laws.BytesString
import Derived.Laws.Cover3
namespace Go.PI
open Go.RowKit

section
variable {P : Program} {C : Cfg} {im : Md} {B N : Nat} {F F' : Nat → Prop} {H H' : List AO} {ρ ρ' : List Value} {w w' : World} {x y : Value} {e : Env} {a : Act}

theorem VR.mp_inv {id : Nat} (h : VR H ρ F w (.mp id) x) : ∃ b, x = .map (some b) ∧ ObjOk H ρ id x := by
  cases h with
  | imm h => cases h
  | mp _ b h => exact ⟨b, rfl, h⟩
theorem VR.itr_inv {id : Nat} (h : VR H ρ F w (.itr id) x) : ObjOk H ρ id x := by
  cases h with
  | imm h => cases h
  | itr _ _ _ h => exact h

theorem rsvIdx_some {tag : Nat} : ∀ {H : List AO} {i : Nat}, rsvIdx tag H = some i → H[i]? = some (.rsv tag)
  | [], i, h => by cases h
  | o :: r, i, h => by
    simp only [rsvIdx] at h
    cases hr : rsvIdx tag r with
    | some k =>
      rw [hr] at h
      simp at h; subst h
      simpa using rsvIdx_some hr
    | none =>
      rw [hr] at h
      cases o with
      | rsv t =>
        simp only at h
        split at h
        · rename_i ht; subst ht; injection h with h; subst h; rfl
        · cases h
      | _ => cases h

/-- a variable takes the place that was kept for it -/
theorem newAt_ok (hp : HeapRep B F H ρ w) {tag T s i : Nat} {el : AV} {us : List Value} (hi : rsvIdx tag H = some i) (cells : el.cells.length = s) (len : us.length = s) (one : ∀ u ∈ us, u.oneCell' = true)
    (rel : ∀ (j : Nat) (c : AV) (u : Value), el.cells[j]? = some c → us[j]? = some u → IR F w c u) :
    Post B F H ρ w (.bptr i 0) (H.set i (.box T s el)) (.pointer (some ⟨w.heap.size, 0, none⟩)) (w.alloc (.cells us.toArray T)) (ρ.set i (.pointer (some ⟨w.heap.size, 0, none⟩))) F := by
  have hb := below_alloc w (.cells us.toArray T)
  have hr := rsvIdx_some hi
  have hw : ∀ b, F b → (w.alloc (.cells us.toArray T)).heap[b]? = w.heap[b]? := fun b h => hb.block b (hp.fb b h)
  have hlt := lt_of_some hr
  obtain ⟨h1, h2⟩ := (hp.grow hb).fillRsv (b := w.heap.size) (T := T) (s := s) (e := el) (us := us) hr (by show (w.heap.push _)[w.heap.size]? = _; simp) hp.base cells len one (fun j c u hc hu => (rel j c u hc hu).mono (fun _ x => x) hw)
    (fun hF => by have := hp.fb _ hF; omega) (fun id o v' a1 a2 a3 a4 => by have := (hp.ownBlk a1 a2 a3 a4).2.1; omega)
  refine ⟨h1, .bptr _ _ _ ⟨.box T s el, by rw [getElem?_set_eq _ _ _ _ hlt, if_pos rfl], rfl, fun s' g' N' _ h0 => ⟨w.heap.size, by rw [getElem?_set_eq _ _ _ _ (by rw [hp.len]; exact hlt), if_pos rfl], rfl⟩⟩, h2, Kept.of_below hb, fun _ x => x, fun _ x => .inl x⟩

/-- a new map or iterator -/
theorem newObj_ok (hp : HeapRep B F H ρ w) (d : OD) (o : Obj) (ho : d.is (some o)) (c : Nat := 0) : HeapRep B F (H ++ [.obj d]) (ρ ++ [d.handle w.heap.size c]) (w.alloc o) ∧ Ev H ρ (H ++ [.obj d]) (ρ ++ [d.handle w.heap.size c]) ∧ Kept B F w (w.alloc o) ∧
    ObjOk (H ++ [.obj d]) (ρ ++ [d.handle w.heap.size c]) H.length (d.handle w.heap.size c) := by
  have hb := below_alloc w o
  refine ⟨(hp.grow hb).pushObj (b := w.heap.size) c (by show d.is ((w.heap.push o)[w.heap.size]?); simpa using ho) hp.base (by simp) (fun hF => by have := hp.fb _ hF; omega) (fun id o v' a1 a2 a3 a4 => by have := (hp.ownBlk a1 a2 a3 a4).2.1; omega), Ev.push _ _ _ _ hp.len, Kept.of_below hb, ?_⟩
  exact ⟨.obj d, by simp, rfl, fun _ _ _ _ _ => by rw [← hp.len]; simp⟩

/-- what a handle of a map or an iterator is -/
theorem obj_at (hp : HeapRep B F H ρ w) {id : Nat} {d : OD} (hd : H[id]? = some (.obj d)) (h : ObjOk H ρ id x) : ∃ b c, ObjRep B ρ F w id d b c ∧ x = d.handle b c := by
  obtain ⟨b, c, R⟩ := hp.obj _ _ hd
  obtain ⟨ob, h1, _, h2⟩ := h
  have : ob = .obj d := by have := h1.symm.trans hd; simpa using this
  subst this
  have h3 := h2 0 0 0 rfl rfl
  have := h3.symm.trans R.at_
  exact ⟨b, c, R, by simpa using this⟩

/-- a map or an iterator is turned -/
theorem setObj_ok (hp : HeapRep B F H ρ w) {id : Nat} {d d' : OD} {b c : Nat} {o : Obj} (hd : H[id]? = some (.obj d)) (R : ObjRep B ρ F w id d b c) (hh : d'.handle b c = d.handle b c) (ho : d'.is (some o)) :
    HeapRep B F (H.set id (.obj d')) ρ { w with heap := w.heap.setIfInBounds b o } ∧ Ev H ρ (H.set id (.obj d')) ρ ∧ Kept B F w { w with heap := w.heap.setIfInBounds b o } := by
  have hset : ρ.set id (d.handle b c) = ρ := set_self R.at_
  have hlt := R.lt
  have hbk : ∀ k, k ≠ b → ({ w with heap := w.heap.setIfInBounds b o } : World).heap[k]? = w.heap[k]? := by
    intro k hk
    show (w.heap.setIfInBounds b o)[k]? = w.heap[k]?
    simp only [Array.getElem?_setIfInBounds]
    rw [if_neg (fun e => hk e.symm)]
  have hg : w.grownBy { w with heap := w.heap.setIfInBounds b o } (blk (d.handle b c)) :=
    ⟨rfl, rfl, rfl, by simp, fun i hi hne => hbk i (fun e => hne (by rw [OD.blk_handle, e]))⟩
  have ev : Ev H ρ (H.set id (.obj d')) ρ := Ev.setSame hd rfl rfl
  have key := hp.setObj (v' := d.handle b c) (o' := .obj d') hd rfl rfl R.at_ hg (.inl rfl) (by rw [hset]; exact ev) (fun _ _ _ _ h => by cases h) (fun _ _ _ h => by cases h) (fun d2 h => by
    injection h with h; subst h
    rw [hset]
    exact ⟨b, c, by rw [hh]; exact R.at_, by
      show d'.is ((w.heap.setIfInBounds b o)[b]?)
      simpa [Array.getElem?_setIfInBounds, hlt] using ho, R.base, by show b < (w.heap.setIfInBounds b o).size; simpa using hlt, R.free⟩)
  rw [hset] at key
  exact ⟨key.1, ev, key.2⟩

/- maps -/
theorem is_mp {kv : List (Int × AV)} {o : Option Obj} (h : (OD.mp kv).is o) : ∃ es clock, o = some (.map es clock) ∧ es.toList.map (fun e => (e.key, some e.val)) = kv.map fun p => (.int .i64 p.1, plainV p.2) := h

theorem plainV_ir {v : AV} {u : Value} (h : plainV v = some u) : IR F w v u := by
  cases v <;> simp [plainV] at h <;> subst h
  · exact .bool _
  · exact .int _ _
  · exact .str _

theorem plainV_of {v : AV} (h : plain v = true) (hv : VR H ρ F w v x) : plainV v = some x := by
  cases v <;> simp [plain] at h
  · rw [hv.bool_inv]; rfl
  · rw [hv.int_inv]; rfl
  · rw [hv.str_inv]; rfl

theorem findNow_mp {n : Int} : ∀ (kv : List (Int × AV)) (l : List MapEntry) (i : Nat), l.map (fun e => (e.key, some e.val)) = kv.map (fun p => (Value.int .i64 p.1, plainV p.2)) →
    ∃ r, Instr.findNow (.int .i64) (.int .i64 n) l i = some r ∧ (∀ z, ∃ u, plainV (mgetD z kv n).1 = (if (mgetD z kv n).2 then some u else plainV z) ∧ (mgetD z kv n).2 = r.isSome ∧ ∀ p, r = some p → p.2 = u) ∧
      (r = none → ∀ v, mset kv n v = kv ++ [(n, v)]) ∧
      ∀ p, r = some p → i ≤ p.1 ∧ (∃ e, l[p.1 - i]? = some e ∧ e.key = .int .i64 n) ∧ ∀ v u, plainV v = some u → (l.modify (p.1 - i) fun e => { e with key := .int .i64 n, val := u }).map (fun e => (e.key, some e.val)) = (mset kv n v).map fun p => (Value.int .i64 p.1, plainV p.2)
  | [], l, i, h => by
    have hl : l = [] := by simpa using h
    subst hl
    exact ⟨none, rfl, fun z => ⟨undef, by simp [mgetD], rfl, fun p hp => (nomatch hp)⟩, fun _ v => rfl, fun p hp => (nomatch hp)⟩
  | (j, u0) :: kv, l, i, h => by
    cases l with
    | nil => simp at h
    | cons en l =>
      simp only [List.map_cons, List.cons.injEq, Prod.mk.injEq] at h
      obtain ⟨⟨hk, hval⟩, h⟩ := h
      by_cases hj : j = n
      · subst hj
        refine ⟨some (i, en.val), by simp [Instr.findNow, hk, Instr.sameNow], fun z => ⟨en.val, by simp [mgetD, ← hval], by simp [mgetD], fun p hp => by (cases hp; rfl)⟩, fun hn => (nomatch hn), fun p hp => ?_⟩
        injection hp with hp; subst hp
        refine ⟨Nat.le_refl _, ⟨en, by simp, hk⟩, fun v u hv => ?_⟩
        simp [mset, hv, h]
      · obtain ⟨r, h1, h2, h3, h4⟩ := findNow_mp (n := n) kv l (i + 1) h
        have hne : (n == j) = false := by simp; exact fun e => hj e.symm
        refine ⟨r, by simp [Instr.findNow, hk, Instr.sameNow, hne, h1], fun z => ?_, fun hn v => ?_, fun p hp => ?_⟩
        · obtain ⟨u, a1, a2, a3⟩ := h2 z
          exact ⟨u, by simpa [mgetD, hj] using a1, by simpa [mgetD, hj] using a2, a3⟩
        · simp [mset, hj, h3 hn v]
        · obtain ⟨a1, ⟨e1, a2, a3⟩, a4⟩ := h4 p hp
          have hp1 : p.1 - i = (p.1 - (i + 1)) + 1 := by omega
          refine ⟨by omega, ⟨e1, by rw [hp1]; simpa using a2, a3⟩, fun v u hv => ?_⟩
          rw [hp1]
          simp [mset, hj, hk, hval, a4 v u hv]

theorem look_ok (hp : HeapRep B F H ρ w) {t kt el : TypeId} {z : Nat × AV} {id : Nat} {kv : List (Int × AV)} {n : Int} {ok : Bool} (ht : P.underlying t = some (.map kt el)) (hk : P.underlying kt = some (.int .i64)) (hz : tyElem P el = some z) (hpl : plain z.2 = true)
    (hx : VR H ρ F w (.mp id) x) (hm : H[id]? = some (.obj (.mp kv))) :
    ∃ v, (Instr.lookup t x (.int .i64 n) ok).run P w = .ok v w ∧ VR H ρ F w (if ok then .tup [(mgetD z.2 kv n).1, .bool (mgetD z.2 kv n).2] else (mgetD z.2 kv n).1) v := by
  obtain ⟨b, rfl, hok⟩ := hx.mp_inv
  obtain ⟨b', c', R, hb⟩ := obj_at hp hm hok
  simp only [OD.handle, Value.map.injEq, Option.some.injEq] at hb
  subst hb
  obtain ⟨es, clock, hes, hrel⟩ := is_mp R.own
  obtain ⟨r, h1, h2, _, _⟩ := findNow_mp (n := n) kv es.toList 0 hrel
  obtain ⟨i, zv, hi, hzv, hcz, hokz, hpos, hby, hsz, hcl, hzs⟩ := tyElem_spec hz
  have hzp : plainV z.2 = some zv := by
    have := (cstV_ir (F := F) (w := w) hcz).1
    exact plainV_of (H := H) (ρ := ρ) hpl (.imm this)
  obtain ⟨u, g1, g2, g3⟩ := h2 z.2
  have hkey : MapKept.IsKey (.int .i64) (.int .i64 n) := by simp [MapKept.IsKey]
  have hval : ∃ v0, (Instr.lookup t (.map (some b)) (.int .i64 n) ok).run P w = .ok (if ok then .tuple #[v0, .bool (mgetD z.2 kv n).2] else v0) w ∧ plainV (mgetD z.2 kv n).1 = some v0 := by
    cases r with
    | none =>
      simp at g2
      refine ⟨zv, ?_, ?_⟩
      · simp [Instr.lookup, run_underlying ht, MapKept.run_getObj_map hes, MapKept.run_checkKey hk hkey, MapKept.run_findKey hk h1, zeroValue, typeInfo, hi, hzv, g2]
      · rw [g1, g2]; simpa using hzp
    | some p =>
      simp at g2
      have := g3 p rfl
      obtain ⟨p1, p2⟩ := p
      refine ⟨p2, ?_, ?_⟩
      · simp [Instr.lookup, run_underlying ht, MapKept.run_getObj_map hes, MapKept.run_checkKey hk hkey, MapKept.run_findKey hk h1, g2]
      · rw [g1, g2]; simp at this; simp [this]
  obtain ⟨v0, hv0, hv1⟩ := hval
  refine ⟨_, hv0, ?_⟩
  cases ok with
  | true =>
    simp only [if_true]
    refine .imm (.tup _ [v0, .bool (mgetD z.2 kv n).2] rfl (fun j c u hc hu => ?_))
    match j, hc, hu with
    | 0, hc, hu => simp at hc hu; subst hc hu; exact plainV_ir hv1
    | 1, hc, hu => simp at hc hu; subst hc hu; exact .bool _
    | j + 2, hc, hu => simp at hc
  | false => simp only [Bool.false_eq_true, if_false]; exact .imm (plainV_ir hv1)

theorem put_ok (hp : HeapRep B F H ρ w) {t kt el : TypeId} {id : Nat} {kv : List (Int × AV)} {n : Int} {v : AV} (ht : P.underlying t = some (.map kt el)) (hk : P.underlying kt = some (.int .i64))
    (hx : VR H ρ F w (.mp id) x) (hm : H[id]? = some (.obj (.mp kv))) (hv : VR H ρ F w v y) (hpl : plain v = true) :
    ∃ w', (Instr.mapUpdate t x (.int .i64 n) y).run P w = .ok () w' ∧ HeapRep B F (H.set id (.obj (.mp (mset kv n v)))) ρ w' ∧ Ev H ρ (H.set id (.obj (.mp (mset kv n v)))) ρ ∧ Kept B F w w' := by
  obtain ⟨b, rfl, hok⟩ := hx.mp_inv
  obtain ⟨b', c', R, hb⟩ := obj_at hp hm hok
  simp only [OD.handle, Value.map.injEq, Option.some.injEq] at hb
  subst hb
  obtain ⟨es, clock, hes, hrel⟩ := is_mp R.own
  obtain ⟨r, h1, _, h3, h4⟩ := findNow_mp (n := n) kv es.toList 0 hrel
  have hkey : MapKept.IsKey (.int .i64) (.int .i64 n) := by simp [MapKept.IsKey]
  have hpv := plainV_of hpl hv
  cases r with
  | none =>
    have hset := setObj_ok hp (d' := .mp (mset kv n v)) (o := .map (es.push { key := .int .i64 n, val := y, born := clock }) (clock + 1)) hm R rfl ⟨_, _, rfl, by simp [hrel, h3 rfl v, hpv]⟩
    refine ⟨_, ?_, hset⟩
    simp [Instr.mapUpdate, run_underlying ht, MapKept.run_getObj_map hes, MapKept.run_checkKey hk hkey, MapKept.run_findKey hk h1, MapKept.run_setObj_map _ hes]
  | some p =>
    obtain ⟨p1, p2⟩ := p
    obtain ⟨_, ⟨e0, he0, hke⟩, hmod⟩ := h4 _ rfl
    simp only [Nat.sub_zero] at he0 hmod
    have hj : es[p1]? = some e0 := by simpa using he0
    have hset := setObj_ok hp (d' := .mp (mset kv n v)) (o := .map (es.modify p1 fun e => { e with key := .int .i64 n, val := y }) clock) hm R rfl ⟨_, _, rfl, by rw [← hmod v y hpv]; simp⟩
    refine ⟨_, ?_, hset⟩
    simp [Instr.mapUpdate, run_underlying ht, MapKept.run_getObj_map hes, MapKept.run_checkKey hk hkey, MapKept.run_findKey hk h1, hj, hke, MapKept.run_keyThatStays hkey, MapKept.run_setObj_map _ hes]

/- iterators over strings -/
theorem next_ok (hp : HeapRep B F H ρ w) {id : Nat} {l : List UInt8} {pos : Nat} {ty : TypeId} (hx : VR H ρ F w (.itr id) x) (hm : H[id]? = some (.obj (.it l pos))) :
    if pos < l.length then
      ∃ w', (Instr.next x true ty).run P w = .ok (.tuple #[.bool true, .int .i64 (pos : Int), .int .i32 (Utf8.decode ⟨l.toArray⟩ pos).1]) w' ∧ HeapRep B F (H.set id (.obj (.it l (pos + (Utf8.decode ⟨l.toArray⟩ pos).2)))) ρ w' ∧
        Ev H ρ (H.set id (.obj (.it l (pos + (Utf8.decode ⟨l.toArray⟩ pos).2)))) ρ ∧ Kept B F w w'
    else (Instr.next x true ty).run P w = .ok (.tuple #[.bool false]) w := by
  have hok := hx.itr_inv
  obtain ⟨b, c', R, hb⟩ := obj_at hp hm hok
  simp only [OD.handle] at hb
  subst hb
  have hes : w.heap[b]? = some (.stringIter ⟨l.toArray⟩ pos) := R.own
  have hget : (getObj b).run P w = .ok (.stringIter ⟨l.toArray⟩ pos) w := by simp [getObj, Sem.run, hes]
  have hsize : (⟨l.toArray⟩ : ByteArray).size = l.length := by simp [ByteArray.size]
  split
  · rename_i hlt
    have hset := setObj_ok hp (d' := .it l (pos + (Utf8.decode ⟨l.toArray⟩ pos).2)) (o := .stringIter ⟨l.toArray⟩ (pos + (Utf8.decode ⟨l.toArray⟩ pos).2)) hm R rfl rfl
    refine ⟨_, ?_, hset⟩
    have hs : (setObj b (.stringIter ⟨l.toArray⟩ (pos + (Utf8.decode ⟨l.toArray⟩ pos).2))).run P w = .ok () { w with heap := w.heap.setIfInBounds b (.stringIter ⟨l.toArray⟩ (pos + (Utf8.decode ⟨l.toArray⟩ pos).2)) } := by simp [setObj, Sem.run, hes]
    simp [Instr.next, hget, hsize, hlt, hs, goInt]
  · rename_i hlt
    simp [Instr.next, hget, hsize, hlt]

/- a string to bytes -/
theorem bytes_ok (hp : HeapRep B F H ρ w) {l : List UInt8} (hm : l.length ≤ maxRow) {src dst el : TypeId} (h1 : P.underlying src = some .string) (h2 : P.underlying dst = some (.slice el)) (h3 : P.underlying el = some (.int .u8)) :
    ∃ c, (convert src dst (.string ⟨l.toArray⟩)).run P w = .ok (.slice (some ⟨w.heap.size, 0, none⟩) l.length c) (Lib.bytesWorld w el ⟨l.toArray⟩) ∧
      HeapRep B F (H ++ [.obj (.bb l)]) (ρ ++ [.slice (some ⟨w.heap.size, 0, none⟩) l.length c]) (Lib.bytesWorld w el ⟨l.toArray⟩) ∧
      Ev H ρ (H ++ [.obj (.bb l)]) (ρ ++ [.slice (some ⟨w.heap.size, 0, none⟩) l.length c]) ∧ Kept B F w (Lib.bytesWorld w el ⟨l.toArray⟩) ∧
      ObjOk (H ++ [.obj (.bb l)]) (ρ ++ [.slice (some ⟨w.heap.size, 0, none⟩) l.length c]) H.length (.slice (some ⟨w.heap.size, 0, none⟩) l.length c) := by
  have hs : (⟨l.toArray⟩ : ByteArray).size = l.length := by simp [ByteArray.size]
  have hr := Lib.run_convert_string_bytes (P := P) w src dst el ⟨l.toArray⟩ h1 h2 h3
  rw [hs] at hr
  refine ⟨_, hr, ?_⟩
  generalize grownCap w l.length 0 el = c
  have hsz := Lib.bytesWorld_size w el ⟨l.toArray⟩
  have hb : Below w.heap.size w (Lib.bytesWorld w el ⟨l.toArray⟩) := by
    refine ⟨?_, ?_, ?_, by omega, fun k hk => Lib.bytesWorld_at_old w el _ k hk⟩ <;> simp [Lib.bytesWorld, World.freeze] <;> rfl
  refine ⟨(hp.grow hb).pushObj (d := .bb l) (b := w.heap.size) c ?_ hp.base (by omega) (fun hF => by have := hp.fb _ hF; omega) (fun id o v' a1 a2 a3 a4 => by have := (hp.ownBlk a1 a2 a3 a4).2.1; omega), Ev.push _ _ _ _ hp.len, Kept.of_below hb, ?_⟩
  · refine ⟨_, _, _, Lib.bytesWorld_at_new w el _, Nat.le_refl _, by simp [Lib.bytesCells], fun j b hj => ?_⟩
    have hjl : j < l.length := by
      rcases Nat.lt_or_ge j l.length with h | h
      · exact h
      · rw [List.getElem?_eq_none h] at hj; cases hj
    unfold Lib.bytesCells
    rw [Array.getElem?_append_left (by simpa using hjl)]
    simp [hj]
  · exact ⟨.obj (.bb l), by simp, rfl, fun _ _ _ _ _ => by rw [← hp.len]; simp⟩

/- bytes to a string -/
theorem bytesOf_ints : ∀ (es : List AV) (l : List UInt8) (us : List Value), bytesOf es = some l → (flat es).length = us.length → (∀ (j : Nat) (c : AV) (u : Value), (flat es)[j]? = some c → us[j]? = some u → IR F w c u) →
    ∃ ns : List Int, us = ns.map (Value.int .u8) ∧ ns.length = es.length ∧ ∀ acc : ByteArray, ns.foldl (fun r n => r.push (UInt8.ofNat n.toNat)) acc = acc ++ ⟨l.toArray⟩
  | [], l, us, h, hl, _ => by
    simp [bytesOf] at h; subst h
    have : us = [] := List.eq_nil_of_length_eq_zero (by simpa [flat] using hl.symm)
    subst this
    exact ⟨[], rfl, rfl, fun acc => by simp [ByteArray.ext_iff]⟩
  | c :: es, l, us, h, hl, hr => by
    cases c with
    | int k n =>
      cases k <;> simp [bytesOf] at h
      obtain ⟨l', h', rfl⟩ := h
      cases us with
      | nil => simp [flat, AV.cells] at hl
      | cons u us =>
        have h0 := hr 0 (.int .u8 n) u (by simp [flat, AV.cells]) rfl
        cases h0
        obtain ⟨ns, e1, e2, e3⟩ := bytesOf_ints es l' us h' (by simpa [flat, AV.cells] using hl) (fun j c u hc hu => hr (j + 1) c u (by simpa [flat, AV.cells] using hc) (by simpa using hu))
        refine ⟨n :: ns, by simp [e1], by simp [e2], fun acc => ?_⟩
        rw [List.foldl_cons, e3]
        simp [ByteArray.ext_iff]
    | _ => simp [bytesOf] at h

theorem b2s_ok (hp : HeapRep B F H ρ w) {xv : AV} {es : List AV} {l : List UInt8} (hx : VR H ρ F w xv x) (he : elems H 1 xv = some es) (hb : bytesOf es = some l) : (Conv.bytesToString x).run P w = .ok (.string ⟨l.toArray⟩) w := by
  obtain ⟨A, c, us, rfl, hcl, hul, hu1, hm, hr⟩ := elems_spec hp hx he (by omega)
  obtain ⟨ns, e1, e2, e3⟩ := bytesOf_ints es l us hb (by rw [flat_len hcl, hul]) hr
  have e4 := e3 ByteArray.empty
  have e5 : ByteArray.empty ++ (⟨l.toArray⟩ : ByteArray) = ⟨l.toArray⟩ := by simp [ByteArray.ext_iff]
  rw [e5] at e4
  by_cases h0 : es = []
  · subst h0
    simp [bytesOf] at hb; subst hb
    cases A with
    | none => simp [Conv.bytesToString]; rfl
    | some ad =>
      have hns : ns = [] := List.eq_nil_of_length_eq_zero (by simpa using e2)
      subst hns
      have := run_bytesToString (P := P) w ad 0 c [] (by simpa using run_loadCells_list (P := P) (w := w) ad [] (fun j v h => by simp at h))
      rw [List.length_nil]
      exact this
  · have hpos : 0 < es.length := by cases es with | nil => exact absurd rfl h0 | cons => simp
    obtain ⟨ad, rfl, hcell⟩ := hm hpos
    have hlen : us.length = es.length := by rw [hul]; omega
    have hload := run_loadCells_list (P := P) (w := w) ad us hcell
    rw [hlen] at hload
    rw [run_bytesToString (P := P) w ad es.length c ns (by rw [hload, e1]), e4]

/- tests for nil -/
theorem eqnil_ok (hp : HeapRep B F H ρ w) {t el : TypeId} {xv : AV} {b : Bool} {xo yo : Operand} (ht : P.underlying t = some (.slice el)) (hx : VR H ρ F w xv x) (h : aeqnil H xv = some b) :
    (do eqGuard .eql t xo yo x (.slice none 0 0); binOp .eql t x (.slice none 0 0)).run P w = .ok (.bool b) w ∧
    (do eqGuard .neq t xo yo x (.slice none 0 0); binOp .neq t x (.slice none 0 0)).run P w = .ok (.bool (!b)) w := by
  have key : ∃ A n c, x = .slice A n c ∧ A.isNone = b := by
    cases xv with
    | nils => simp [aeqnil] at h; subst h; cases hx with | imm hx => cases hx with | nils cap _ => exact ⟨none, 0, cap, rfl, rfl⟩
    | en => simp [aeqnil] at h; subst h; cases hx with | imm hx => cases hx with | en a cap hc => exact ⟨some a, 0, cap, rfl, rfl⟩
    | sl s es =>
      cases es with
      | nil => simp [aeqnil] at h
      | cons e1 es =>
        simp [aeqnil] at h; subst h
        cases hx.sl_inv with
        | sl _ _ a cap us hc hcm hcl hl h1 hm hr =>
          obtain ⟨ad, e1, _⟩ := hm (by simp)
          subst e1
          exact ⟨some ad, _, cap, rfl, rfl⟩
    | ref id g o n =>
      cases n with
      | zero => simp [aeqnil] at h
      | succ n =>
        obtain ⟨A, c, rfl, hok⟩ := hx.ref_inv
        simp only [aeqnil] at h
        obtain ⟨r, hr, rfl⟩ := Option.map_eq_some_iff.1 h
        obtain ⟨s, es⟩ := r
        obtain ⟨_, v0, _, A1, N1, cap1, A2, _, e2, _, hn, _⟩ := ref_read hp hok hr
        injection e2 with e2a
        obtain ⟨ad, _, f2⟩ := hn (by omega)
        subst e2a; subst f2
        exact ⟨_, _, c, rfl, rfl⟩
    | _ => simp [aeqnil] at h
  obtain ⟨A, n, c, rfl, hb⟩ := key
  have h1 := run_equalIn_slice_nil (P := P) w 9999 t el A n c ht
  rw [hb] at h1
  have h1 : (Op.equalIn Op.maxDepth t (.slice A n c) (.slice none 0 0)).run P w = .ok b w := h1
  simp [eqGuard, binOp, Op.equal, h1]

/- arrays -/
theorem pix_ok {t el : TypeId} {n : Nat} {i0 : TypeInfo} {xv d : AV} {k : IntKind} {i : Nat} (ht : P.underlying t = some (.array n el)) (hi : P.info? el = some i0) (hlt : i < n) (hx : VR H ρ F w xv x) (h : afld (i * i0.size) xv = some d) :
    ∃ v, (Instr.indexAt t x (.int k (i : Int))).run P w = .ok v w ∧ VR H ρ F w d v := by
  have run : ∀ ad, x = .pointer (some ad) → (Instr.indexAt t x (.int k (i : Int))).run P w = .ok (.pointer (some (ad.add (i * i0.size)))) w := by
    intro ad hx'
    have h1 : (i : Int) < (n : Int) := by omega
    simp [Instr.indexAt, hx', asIntOf, run_underlying ht, Instr.sureAddr, sizeOf, typeInfo, hi, h1]
    intro h2; omega
  cases xv with
  | cptr el o =>
    simp [afld] at h; subst h
    cases hx.cptr_inv with
    | cptr _ _ ad us hF hl h1 hm hr =>
      refine ⟨_, run _ rfl, ?_⟩
      rw [add_add']
      exact .imm (.cptr el _ ad us hF hl h1 hm hr)
  | bptr id o =>
    simp [afld] at h; subst h
    obtain ⟨ad, rfl, ob, hob, hrs, hv⟩ := hx.bptr_inv
    refine ⟨_, run _ rfl, .bptr _ _ _ ⟨ob, hob, hrs, fun s g' N' hvw h0 => ?_⟩⟩
    obtain ⟨b, q1, q2⟩ := hv s g' N' hvw h0
    injection q2 with q2; injection q2 with q2; subst q2
    exact ⟨b, q1, by rw [Addr.add_lit]⟩
  | rptr id g i1 o =>
    simp [afld] at h; subst h
    obtain ⟨ad, rfl, ob, hob, hrs, hv⟩ := hx.rptr_inv
    refine ⟨_, run _ rfl, .rptr _ _ _ _ _ ⟨ob, hob, hrs, fun s g' N' hvw => ?_⟩⟩
    obtain ⟨q1, q2⟩ := hv s g' N' hvw
    refine ⟨q1, fun eq => ?_⟩
    obtain ⟨q3, v0, q4, b, Nn, cap, q5, q6, q7⟩ := q2 eq
    injection q7 with q7; injection q7 with q7; subst q7
    exact ⟨q3, v0, q4, b, Nn, cap, q5, q6, by rw [add_add', Nat.add_assoc]⟩
  | _ => simp [afld] at h

theorem tops_cells (s : Nat) (hs : 0 < s) : (tops s).cells = List.replicate s .top := by
  unfold tops
  split
  · rename_i h; subst h; rfl
  · rfl
theorem flat_tops (s n : Nat) (hs : 0 < s) : ∀ c ∈ flat (List.replicate n (tops s)), c = .top := by
  intro c hc
  simp only [flat, List.mem_flatMap] at hc
  obtain ⟨e, he, hc⟩ := hc
  rw [List.eq_of_mem_replicate he, tops_cells s hs] at hc
  exact List.eq_of_mem_replicate hc
theorem flat_spl {s : Nat} {es m : List AV} (h : ∀ e ∈ es, e.cells.length = s) (hm : ∀ e ∈ m, e.cells.length = s) (o : Nat) (ho : o + m.length ≤ es.length) : flat (spl es o m) = spl (flat es) (o * s) (flat m) := by
  have h1 := flat_sub h 0 o
  rw [List.drop_zero, Nat.zero_mul, List.drop_zero] at h1
  have h2 := flat_sub h (o + m.length) es.length
  rw [List.take_of_length_le (by simp), List.take_of_length_le (by rw [List.length_drop, flat_len h]; omega)] at h2
  unfold spl
  rw [flat_append, flat_append, h1, h2, flat_len hm, ← Nat.add_mul]
/-- A slice of the frame is cleared. -/
theorem clr_ok (hp : HeapRep B F H ρ w) {t ty el : TypeId} {ts : Array TypeId} {z : Nat × AV} (hts : ts[0]? = some t) (ht : P.underlying t = some (.slice el)) (hz : tyElem P el = some z) {a0 d : AV} (h : VR H ρ F w a0 x)
    (hl : (if isE a0 then some (.tup [], H) else (wrow H z.1 a0).map fun (id, T, g, o, n, es) => (AV.tup [], H.set id (.row T z.1 g (spl es o (List.replicate n (tops z.1)))))) = some (d, H')) :
    d = .tup [] ∧ ∃ w', (Builtin.clear_ ts ty #[x]).run P w = .ok (.tuple #[]) w' ∧ HeapRep B F H' ρ w' ∧ Ev H ρ H' ρ ∧ Kept B F w w' := by
  obtain ⟨i, zv, hi, hzv, hcz, hokz, hpos, hby, hsz, hcl, hzs⟩ := tyElem_spec hz
  by_cases hE : isE a0 = true
  · rw [if_pos hE] at hl
    simp only [Option.some.injEq, Prod.mk.injEq] at hl
    obtain ⟨rfl, rfl⟩ := hl
    have hx : ∃ A c, x = .slice A 0 c := by
      cases a0 with
      | e0 => obtain ⟨A, h⟩ := h.e0_inv; exact ⟨A, 0, h⟩
      | nils => cases h with | imm h => cases h with | nils cap _ => exact ⟨none, cap, rfl⟩
      | en => cases h with | imm h => cases h with | en ad cap _ => exact ⟨some ad, cap, rfl⟩
      | sl s es => cases es with
        | nil => have hI := h.sl_inv; cases hI with | sl _ _ A cap us => exact ⟨A, cap, rfl⟩
        | cons => simp [isE] at hE
      | ref id g o n => cases n with
        | zero => obtain ⟨A, c, h, _⟩ := h.ref_inv; exact ⟨A, c, h⟩
        | succ => simp [isE] at hE
      | _ => simp [isE] at hE
    obtain ⟨A, c, rfl⟩ := hx
    refine ⟨rfl, w, ?_, hp, Ev.refl _ _, Kept.refl _ _ _⟩
    cases A <;> simp [Builtin.clear_, hts, run_underlying ht]
  · rw [if_neg hE] at hl
    obtain ⟨⟨id, T, g, o, n, es⟩, hw0, hl⟩ := Option.map_eq_some_iff.1 hl
    simp only [Prod.mk.injEq] at hl
    obtain ⟨rfl, rfl⟩ := hl
    cases a0 with
    | ref id' g' o' n' =>
      simp only [wrow] at hw0
      split at hw0
      case h_2 => cases hw0
      rename_i T' s' g'' es' hob
      split at hw0
      case isFalse => cases hw0
      rename_i hcond
      obtain ⟨rfl, rfl, hfit⟩ := hcond
      simp only [Option.some.injEq, Prod.mk.injEq] at hw0
      obtain ⟨rfl, rfl, rfl, rfl, rfl, rfl⟩ := hw0
      have hn0 : 0 < n' := by
        cases n' with
        | zero => simp [isE] at hE
        | succ => omega
      obtain ⟨A, c, rfl, ob, hob', _, hq⟩ := h.ref_inv
      have : ob = .row T' z.1 g'' es' := by have := hob'.symm.trans hob; simpa using this
      subst this
      obtain ⟨_, hq⟩ := hq z.1 g'' es'.length rfl
      obtain ⟨_, v0, hv0, A0, Nn, cap, A', rfl, hx, hoN, hadd, _⟩ := hq rfl
      obtain ⟨ad, rfl, rfl⟩ := hadd hn0
      obtain ⟨v1, us, R⟩ := hp.row _ _ _ _ _ hob
      have : v1 = .slice (some ad) Nn cap := by have := R.at_.symm.trans hv0; simpa using this
      subst this
      rcases R.own.2 with ⟨hnil, _⟩ | ⟨b, cap', cur, hvv, hbg, hgb, hnc, hcm, hcs, htk⟩
      · cases hnil
      injection hvv with q1 q2 q3
      injection q1 with q1; subst q1 q3
      injection hx with x1 x2 x3
      subst x1
      have hpz0 : 0 < z.1 := R.pos
      let vs := (Builtin.zeroCells zv.cells n').toList
      have hvl : vs.length = n' * z.1 := by
        show (Builtin.zeroCells zv.cells n').toList.length = _
        rw [Array.length_toList, size_zeroCells, hzs]
      have hv1 : ∀ u ∈ vs, u.oneCell' = true := by
        obtain ⟨us0, hu, hul, hu1, _⟩ := zero_cells (F := F) (w := w) hcz hokz hcl hzs
        intro u hu'
        have hu' : u ∈ (Builtin.zeroCells zv.cells n').toList := hu'
        simp only [Builtin.zeroCells, Array.toList_map, List.mem_map] at hu'
        obtain ⟨k, _, rfl⟩ := hu'
        have hpz : 0 < zv.cells.size := by omega
        have hk : k % zv.cells.size < zv.cells.size := Nat.mod_lt _ hpz
        rw [getElem!_pos zv.cells (k % zv.cells.size) hk]
        refine hu1 _ ?_
        have hm : zv.cells[k % zv.cells.size] ∈ zv.cells := Array.getElem_mem hk
        have hall : ∀ u ∈ zv.cells, u ∈ us0 := by rw [hu]; simp
        exact hall _ hm
      have hmul : o' * z.1 + n' * z.1 ≤ es'.length * z.1 := by rw [← Nat.add_mul]; exact Nat.mul_le_mul_right _ hfit
      have hcap : es'.length * z.1 ≤ cap * z.1 := Nat.mul_le_mul_right _ hnc
      have hcurlen : cur.toList.length = cap * z.1 := by simpa using hcs
      have hst := run_storeCells_at P b (o' * z.1) T' vs 0 cur w hgb (by rw [hvl, hcs]; omega) hv1
      simp only [Nat.add_zero] at hst
      have hrun : (Builtin.clear_ ts ty #[.slice (some ((⟨b, 0, none⟩ : Addr).add (o' * z.1))) n' c]).run P w = .ok (.tuple #[]) (w.setRow b (spl cur.toList (o' * z.1) vs).toArray) := by
        have ea : (⟨b, 0, none⟩ : Addr).add (o' * z.1) = ⟨b, o' * z.1, none⟩ := by rw [Addr.add_lit, Nat.zero_add]
        rw [ea]
        cases n' with
        | zero => omega
        | succ m => simp [Builtin.clear_, hts, run_underlying ht, zeroValue, typeInfo, hi, hzv, hst, spl, vs]
      have hset : ρ.set id' (.slice (some ⟨b, 0, none⟩) Nn cap) = ρ := set_self R.at_
      have hlen : o' + (List.replicate n' (tops z.1)).length ≤ es'.length := by simpa using hfit
      have hml : ∀ e ∈ List.replicate n' (tops z.1), e.cells.length = z.1 := fun e he => by rw [List.eq_of_mem_replicate he, tops_cells _ hpz0]; simp
      have ev2 : Ev H ρ (H.set id' (.row T' z.1 g'' (spl es' o' (List.replicate n' (tops z.1))))) ρ := Ev.setSame hob (by simp [AO.view, spl_len _ _ _ hlen]) rfl
      have hulen : us.length = es'.length * z.1 := R.own.1
      have hsplu : o' * z.1 + vs.length ≤ us.length := by rw [hvl]; omega
      have hsl := spl_len es' o' (List.replicate n' (tops z.1)) hlen
      have htake : (spl cur.toList (o' * z.1) vs).take (es'.length * z.1) = spl us (o' * z.1) vs := by
        apply List.ext_getElem?
        intro j
        rw [List.getElem?_take, spl_get _ _ _ (by omega), spl_get _ _ _ hsplu]
        have hcu : ∀ k, k < es'.length * z.1 → cur.toList[k]? = us[k]? := by
          intro k hk; rw [← htk, List.getElem?_take, if_pos hk]
        by_cases hj : j < es'.length * z.1
        · rw [if_pos hj, hcu j hj]
        · rw [if_neg hj, if_neg (by omega), if_neg (by omega), List.getElem?_eq_none (by omega)]
      have hcells' : ∀ e ∈ spl es' o' (List.replicate n' (tops z.1)), e.cells.length = z.1 := fun e he => (spl_mem he).elim (R.cells e) (hml e)
      have hw : ∀ bb, F bb → (w.setRow b (spl cur.toList (o' * z.1) vs).toArray).heap[bb]? = w.heap[bb]? := fun bb hb => setRow_other w b bb _ (fun e0 => R.free b rfl (e0 ▸ hb))
      have key := hp.setObj (w' := w.setRow b (spl cur.toList (o' * z.1) vs).toArray) (v' := .slice (some ⟨b, 0, none⟩) Nn cap) (o' := .row T' z.1 g'' (spl es' o' (List.replicate n' (tops z.1)))) hob rfl rfl R.at_ grownBy_setRow (.inl rfl) (by rw [hset]; exact ev2)
        (fun T1 s1 gg es1 hh => by
          injection hh with q1 q2' q3 q4; subst q1 q2' q3 q4
          rw [hset]
          refine ⟨spl us (o' * z.1) vs, R.at_, ?_, R.pos, hcells', fun u hu => (spl_mem hu).elim (R.one u) (hv1 u), fun j c0 u hc hu => ?_, R.free⟩
          · refine ⟨by rw [spl_len _ _ _ hsplu, hsl, hulen], .inr ⟨b, cap, (spl cur.toList (o' * z.1) vs).toArray, by rw [hsl, q2], hbg, setRow_heap w b cur _ T' (0, 0) hgb, by rw [hsl]; exact hnc, hcm, ?_, ?_⟩⟩
            · simp only [List.size_toArray]
              rw [spl_len _ _ _ (by omega)]; exact hcurlen
            · rw [hsl]; exact htake
          · refine IR.mono ?_ (fun _ x => x) hw
            rw [flat_spl R.cells hml o' hlen] at hc
            refine spl_rel (R := IR F w) (cs := flat es') (ds := flat (List.replicate n' (tops z.1))) (us := us) (vs := vs) (o := o' * z.1) (by rw [flat_len R.cells, hulen]) (by rw [flat_len hml, hvl]; simp) (by rw [flat_len hml, flat_len R.cells]; simpa using hmul) R.rel (fun j c1 u1 hc1 _ => ?_) j c0 u hc hu
            rw [flat_tops _ _ hpz0 c1 (List.mem_of_getElem? hc1)]
            exact .top _)
        (fun _ _ _ hh => by cases hh) (fun _ hh => by cases hh)
      rw [hset] at key
      exact ⟨rfl, _, hrun, key.1, ev2, key.2⟩
    | _ => simp [wrow] at hw0

/-- An append into what the row of a slice holds already. -/
theorem append_in_ok {y : Value} (hp : HeapRep B F H ρ w) {t ty el : TypeId} {z : Nat × AV} (ht : P.underlying t = some (.slice el)) (hz : tyElem P el = some z) {xv yv d : AV} {news : List AV} (hx : VR H ρ F w xv x) (hy : VR H ρ F w yv y)
    (he : elems H z.1 yv = some news) (ha : aappIn el z.1 H xv news = some (d, H')) :
    ∃ v w' ρ', (Builtin.append_ #[t, t] ty #[x, y]).run P w = .ok v w' ∧ Post B F H ρ w d H' v w' ρ' F := by
  obtain ⟨i, zv, hi, hzv, hcz, hokz, hpos, hby, hsz, hcl, hzs⟩ := tyElem_spec hz
  have hs0 : 0 < z.1 := by omega
  obtain ⟨A, c, us, rfl, hnc0, hul, hu1, hum, hur⟩ := elems_spec hp hy he hs0
  cases xv with
  | ref id g o n =>
    simp only [aappIn] at ha
    split at ha
    case h_2 => cases ha
    rename_i T' s' g' es hob
    split at ha
    case isFalse => cases ha
    rename_i hcond
    obtain ⟨rfl, rfl, rfl, rfl, hfit⟩ := hcond
    simp only [Option.some.injEq, Prod.mk.injEq] at ha
    obtain ⟨rfl, rfl⟩ := ha
    obtain ⟨A', c', rfl, hok⟩ := hx.ref_inv
    have hok0 := hok
    obtain ⟨ob', hob', hrs, hv'⟩ := hok
    have : ob' = .row T' z.1 g' es := by have := hob'.symm.trans hob; simpa using this
    subst this
    obtain ⟨_, hq⟩ := hv' z.1 g' es.length rfl
    obtain ⟨hle, v1, hv1, A1, N1, cap1, A2, rfl, hx2, hoN, _, hA⟩ := hq rfl
    obtain ⟨v0, us0, R⟩ := hp.row _ _ _ _ _ hob
    have : v0 = .slice A1 N1 cap1 := by have := R.at_.symm.trans hv1; simpa using this
    subst this
    injection hx2 with q1 _ q3
    have hA' : A' = A1 := by rw [q1]; exact hA rfl
    have hc' : c' = cap1 := by rw [q3]; rfl
    subst hA' hc'
    cases hnn : news with
    | nil =>
      subst hnn
      have hspl : spl es n ([] : List AV) = es := by simp [spl]
      have hset : H.set id (.row T' z.1 g' (spl es n [])) = H := by rw [hspl]; exact set_self hob
      have hcap : n ≤ c' := by
        rcases R.own.2 with ⟨hnil, h0⟩ | ⟨gb, cap, cur, hvv, _, _, hnc', _⟩
        · injection hnil with _ q2 q3; omega
        · injection hvv with _ q2 q3; omega
      rw [hset]
      exact ⟨_, w, ρ, run_append_zero t ty T' i ht hi A' n c' hcap A c, Post.quiet hp hx⟩
    | cons n0 ns =>
      have hm : 0 < news.length := by rw [hnn]; simp
      rw [← hnn]
      clear hnn
      obtain ⟨ad, rfl, hcell⟩ := hum hm
      rcases R.own.2 with ⟨hnil, h0⟩ | ⟨b, cap', cur, hvv, hbg, hgb, hnc, hcm, hcs, htk⟩
      · injection hnil with _ q2 q3; omega
      injection hvv with r1 r2 r3
      subst r1 r3
      have hmul : n * z.1 + us.length ≤ es.length * z.1 := by rw [hul, ← Nat.add_mul]; exact Nat.mul_le_mul_right _ hfit
      have hcapm : es.length * z.1 ≤ c' * z.1 := Nat.mul_le_mul_right _ hnc
      have hcurlen : cur.toList.length = c' * z.1 := by simpa using hcs
      have hrun := run_append_room w t ty T' i ht hi b n c' cur hgb ad news.length c us (by rw [hsz]; exact hul) hcell hu1 (by omega) (by rw [hsz]; have : cur.size = c' * z.1 := hcs; omega)
      rw [hsz] at hrun
      have hset : ρ.set id (.slice (some ⟨b, 0, none⟩) N1 c') = ρ := set_self R.at_
      have hlen : n + news.length ≤ es.length := hfit
      have ev2 : Ev H ρ (H.set id (.row T' z.1 g' (spl es n news))) ρ := Ev.setSame hob (by simp [AO.view, spl_len _ _ _ hlen]) rfl
      have hulen : us0.length = es.length * z.1 := R.own.1
      have hsplu : n * z.1 + us.length ≤ us0.length := by omega
      have hsl := spl_len es n news hlen
      have htake : (spl cur.toList (n * z.1) us).take (es.length * z.1) = spl us0 (n * z.1) us := by
        apply List.ext_getElem?
        intro j
        rw [List.getElem?_take, spl_get _ _ _ (by omega), spl_get _ _ _ hsplu]
        have hcu : ∀ k, k < es.length * z.1 → cur.toList[k]? = us0[k]? := by
          intro k hk; rw [← htk, List.getElem?_take, if_pos hk]
        by_cases hj : j < es.length * z.1
        · rw [if_pos hj, hcu j hj]
        · rw [if_neg hj, if_neg (by omega), if_neg (by omega), List.getElem?_eq_none (by omega)]
      have hcells' : ∀ e ∈ spl es n news, e.cells.length = z.1 := fun e he => (spl_mem he).elim (R.cells e) (hnc0 e)
      have hw : ∀ bb, F bb → (w.setRow b (spl cur.toList (n * z.1) us).toArray).heap[bb]? = w.heap[bb]? := fun bb hb => setRow_other w b bb _ (fun e0 => R.free b rfl (e0 ▸ hb))
      have key := hp.setObj (w' := w.setRow b (spl cur.toList (n * z.1) us).toArray) (v' := .slice (some ⟨b, 0, none⟩) N1 c') (o' := .row T' z.1 g' (spl es n news)) hob rfl rfl R.at_ grownBy_setRow (.inl rfl) (by rw [hset]; exact ev2)
        (fun T1 s1 gg es1 hh => by
          injection hh with q1 q2' q3 q4; subst q1 q2' q3 q4
          rw [hset]
          refine ⟨spl us0 (n * z.1) us, R.at_, ?_, R.pos, hcells', fun u hu => (spl_mem hu).elim (R.one u) (hu1 u), fun j c0 u hc hu => ?_, R.free⟩
          · refine ⟨by rw [spl_len _ _ _ hsplu, hsl, hulen], .inr ⟨b, c', (spl cur.toList (n * z.1) us).toArray, by rw [hsl, r2], hbg, setRow_heap w b cur _ T' (0, 0) hgb, by rw [hsl]; exact hnc, hcm, ?_, ?_⟩⟩
            · simp only [List.size_toArray]
              rw [spl_len _ _ _ (by omega)]; exact hcurlen
            · rw [hsl]; exact htake
          · refine IR.mono ?_ (fun _ x => x) hw
            rw [flat_spl R.cells hnc0 n hlen] at hc
            exact spl_rel (R := IR F w) (cs := flat es) (ds := flat news) (us := us0) (vs := us) (o := n * z.1) (by rw [flat_len R.cells, hulen]) (by rw [flat_len hnc0, hul]) (by rw [flat_len hnc0, flat_len R.cells, ← hul]; exact hmul) R.rel hur j c0 u hc hu)
        (fun _ _ _ hh => by cases hh) (fun _ hh => by cases hh)
      rw [hset] at key
      refine ⟨_, _, ρ, hrun, ⟨key.1, ?_, ev2, key.2, fun _ x => x, fun _ x => .inl x⟩⟩
      refine .ref _ _ _ _ _ _ ⟨.row T' z.1 g' (spl es n news), by rw [getElem?_set_eq _ _ _ _ (lt_of_some hob), if_pos rfl], rfl, fun s2 g2 N2 hv2 => ?_⟩
      simp only [AO.view, Option.some.injEq, Prod.mk.injEq] at hv2
      obtain ⟨rfl, rfl, rfl⟩ := hv2
      refine ⟨Nat.le_refl _, fun _ => ⟨by rw [hsl]; omega, _, R.at_, some ⟨b, 0, none⟩, N1, c', some ⟨b, 0, none⟩, rfl, rfl, by omega, fun _ => ⟨_, rfl, by simp [Addr.add_zero']⟩, fun _ => rfl⟩⟩
  | _ => cases ha

end
end Go.PI
