/- A region whose operations do not all commute: whatever order the edges allow, it ends as every order that was tried. No condition. -/
import Derived.Test.YtpphfbfmoipoaaaDoorPi17b
namespace Go.PI
open Go.RowKit

section
variable {P : Program} {C : Cfg} {at_ : Bool} {B N : Nat} {φ : Phi}

/-- an order of what is left -/
def Lin (bf : List Nat) : List Nat → List Nat → Prop
  | un, [] => un = []
  | un, j :: l => j ∈ un ∧ (∀ i ∈ un, ((bf.getD j 0).testBit i) = false) ∧ Lin bf (un.filter (· != j)) l

theorem filter_comm (un : List Nat) (j k : Nat) : (un.filter (· != k)).filter (· != j) = (un.filter (· != j)).filter (· != k) := by
  rw [List.filter_filter, List.filter_filter]
  congr 1
  funext i
  exact Bool.and_comm _ _

theorem mem_filter_ne {un : List Nat} {j i : Nat} : i ∈ un.filter (· != j) ↔ i ∈ un ∧ i ≠ j := by
  simp [List.mem_filter]

theorem Lin.split {bf : List Nat} {j : Nat} : ∀ {l un : List Nat}, Lin bf un l → j ∈ un →
    ∃ l1 l2, l = l1 ++ j :: l2 ∧ Lin bf (un.filter (· != j)) (l1 ++ l2) ∧ ∀ p ∈ l1, p ∈ un ∧ p ≠ j ∧ ((bf.getD p 0).testBit j) = false
  | [], un, h, hj => by simp only [Lin] at h; subst h; cases hj
  | k :: l, un, h, hj => by
    obtain ⟨h1, h2, h3⟩ := h
    by_cases hk : k = j
    · subst hk
      exact ⟨[], l, rfl, h3, fun p hp => by cases hp⟩
    · obtain ⟨l1, l2, rfl, h4, h5⟩ := Lin.split h3 (mem_filter_ne.2 ⟨hj, fun e => hk e.symm⟩)
      refine ⟨k :: l1, l2, rfl, ⟨mem_filter_ne.2 ⟨h1, hk⟩, fun i hi => h2 i (mem_filter_ne.1 hi).1, by rw [filter_comm]; exact h4⟩, fun p hp => ?_⟩
      rcases List.mem_cons.1 hp with rfl | hp
      · exact ⟨h1, hk, h2 j hj⟩
      · obtain ⟨h6, h7, h8⟩ := h5 p hp
        exact ⟨(mem_filter_ne.1 h6).1, h7, h8⟩

theorem Lin.mem {bf : List Nat} : ∀ {l un : List Nat}, Lin bf un l → ∀ p ∈ l, p ∈ un
  | [], _, _, p, hp => by cases hp
  | k :: l, un, h, p, hp => by
    obtain ⟨h1, _, h3⟩ := h
    rcases List.mem_cons.1 hp with rfl | hp
    · exact h1
    · exact (mem_filter_ne.1 (Lin.mem h3 p hp)).1

/-- the order of the text is one -/
theorem Lin.text {bf : List Nat} (hb : ∀ j i, (bf.getD j 0).testBit i = true → i < j) : ∀ {un : List Nat}, un.Pairwise (· < ·) → Lin bf un un
  | [], _ => rfl
  | j :: un, h => by
    have h0 := List.pairwise_cons.1 h
    have hf : (j :: un).filter (· != j) = un := by
      rw [List.filter_cons, if_neg (by simp)]
      exact List.filter_eq_self.2 (fun i hi => by have := h0.1 i hi; simp; omega)
    refine ⟨by simp, fun i hi => ?_, by rw [hf]; exact Lin.text hb h0.2⟩
    cases hbit : (bf.getD j 0).testBit i with
    | false => rfl
    | true =>
      exfalso
      have h1 := hb j i hbit
      rcases List.mem_cons.1 hi with rfl | hi
      · omega
      · have := h0.1 i hi; omega

/-- an operation goes back behind those with which it may change places -/
theorem unbubble (hφ : PhiOk C P φ) {ops : Array Oper} {j : IOper} (hj : OpOf P C N at_ ops j) {L2 : List IOper} : ∀ (L1 : List IOper), (∀ p ∈ L1, OpOf P C N at_ ops p ∧ okSwap j p = true) → ∀ {e e2 : Env} {H H2 : List AO}, Fits C N e H →
    runOps φ (j :: (L1 ++ L2)) e H = some (e2, H2) → ∃ e3, runOps φ (L1 ++ j :: L2) e H = some (e3, H2) ∧ ∀ t, e3.get t = e2.get t
  | [], _, e, e2, H, H2, _, h => ⟨e2, h, fun _ => rfl⟩
  | p :: L1, hL, e, e2, H, H2, hf, h => by
    rw [List.cons_append, runOps_cons] at h
    obtain ⟨⟨e1, H1⟩, h1, h⟩ := Option.bind_eq_some_iff.1 h
    simp only at h
    rw [runOps_cons] at h
    obtain ⟨⟨e4, H4⟩, h4, h⟩ := Option.bind_eq_some_iff.1 h
    simp only at h
    have hpj : runOps φ [j, p] e H = some (e4, H4) := by rw [runOps_cons, h1]; exact h4
    obtain ⟨e5, h5, he5⟩ := swap hφ hj (hL p (by simp)).1 (hL p (by simp)).2 hf hpj
    rw [runOps_cons] at h5
    obtain ⟨⟨e6, H6⟩, h6, h5⟩ := Option.bind_eq_some_iff.1 h5
    simp only at h5
    obtain ⟨e7, h7, he7⟩ := runOps_ext (L1 ++ L2) (fun t => (he5 t).symm) h
    have hf6 := hf.step hφ (hL p (by simp)).1 h6
    have h8 : runOps φ (j :: (L1 ++ L2)) e6 H6 = some (e7, H2) := by rw [runOps_cons, h5]; exact h7
    obtain ⟨e9, h9, he9⟩ := unbubble hφ hj L1 (fun q hq => hL q (by simp [hq])) hf6 h8
    refine ⟨e9, ?_, fun t => (he9 t).trans (he7 t)⟩
    rw [List.cons_append, runOps_cons, h6]
    exact h9

def opsAt (is : List IOper) (l : List Nat) : List IOper := l.map fun j => is.getD j default

/-- an order comes to this -/
def Good (φ : Phi) (is : List IOper) (keep l : List Nat) (e : Env) (H : List AO) (e' : Env) (H' : List AO) : Prop :=
  ∃ e2, runOps φ (opsAt is l) e H = some (e2, H') ∧ ∀ t ∈ keep, e2.get t = e'.get t

theorem agree_spec {keep : List Nat} {x y : Env × List AO} (h : agree keep x y = true) : y.2 = x.2 ∧ ∀ t ∈ keep, y.1.get t = x.1.get t := by
  simp only [agree, Bool.and_eq_true, List.all_eq_true] at h
  exact ⟨(AO.eq_of_beqL _ _ h.2).symm, fun t ht => (AV.eq_of_beq _ _ (h.1 t ht)).symm⟩

theorem dt_all (hφ : PhiOk C P φ) {ops : Array Oper} {is : List IOper} {bf keep : List Nat} (opOf : ∀ j, j < is.length → OpOf P C N at_ ops (is.getD j default)) :
    ∀ (t : DX) (m : Bool) (un : List Nat) (e : Env) (H : List AO) (e' : Env) (H' : List AO), (∀ j ∈ un, j < is.length) → dtOk is bf m un t = true → Fits C N e H → runDT φ keep (t.toDT is) e H = some (e', H') →
      ∀ l, Lin bf un l → (m = false → ∃ j l', l = j :: l' ∧ j ∈ t.heads) → Good φ is keep l e H e' H'
  | .nil, m, un, e, H, e', H', hun, hok, hf, hr, l, hl, hm => by
    simp only [dtOk, Bool.and_eq_true, List.isEmpty_iff] at hok
    obtain ⟨_, rfl⟩ := hok
    simp only [DX.toDT, runDT, Option.some.injEq, Prod.mk.injEq] at hr
    obtain ⟨rfl, rfl⟩ := hr
    cases l with
    | nil => exact ⟨e, rfl, fun _ _ => rfl⟩
    | cons k l => exact absurd hl.1 (by simp)
  | .op j r, m, un, e, H, e', H', hun, hok, hf, hr, l, hl, hm => by
    simp only [dtOk, Bool.and_eq_true, List.contains_iff_mem] at hok
    obtain ⟨⟨hj, hmov⟩, hok⟩ := hok
    simp only [DX.toDT, runDT] at hr
    obtain ⟨⟨e1, H1⟩, h1, hr⟩ := Option.bind_eq_some_iff.1 hr
    simp only at hr
    have oj := opOf j (hun j hj)
    have hf1 := hf.step hφ oj h1
    have ih := dt_all hφ opOf r true (un.filter (· != j)) e1 H1 e' H' (fun i hi => hun i (mem_filter_ne.1 hi).1) hok hf1 hr
    cases m with
    | true =>
      simp only [Bool.not_true, Bool.false_or] at hmov
      obtain ⟨l1, l2, rfl, h3, h4⟩ := hl.split hj
      obtain ⟨e2, h5, h6⟩ := ih (l1 ++ l2) h3 (fun h => by cases h)
      have hsw : ∀ p ∈ opsAt is l1, OpOf P C N at_ ops p ∧ okSwap (is.getD j default) p = true := by
        intro p hp
        obtain ⟨q, hq, rfl⟩ := List.mem_map.1 hp
        obtain ⟨h7, h8, h9⟩ := h4 q hq
        refine ⟨opOf q (hun q h7), ?_⟩
        have := List.all_eq_true.1 hmov q h7
        simp only [Bool.or_eq_true, beq_iff_eq] at this
        rcases this with (h | h) | h
        · exact absurd h h8
        · exact h
        · rw [h9] at h; cases h
      have h7 : runOps φ (is.getD j default :: (opsAt is l1 ++ opsAt is l2)) e H = some (e2, H') := by
        rw [runOps_cons, h1]
        have : opsAt is l1 ++ opsAt is l2 = opsAt is (l1 ++ l2) := by simp [opsAt]
        rw [this]; exact h5
      obtain ⟨e3, h8, h9⟩ := unbubble hφ oj (opsAt is l1) hsw hf h7
      refine ⟨e3, ?_, fun t ht => (h9 t).trans (h6 t ht)⟩
      have : opsAt is (l1 ++ j :: l2) = opsAt is l1 ++ is.getD j default :: opsAt is l2 := by simp [opsAt]
      rw [this]; exact h8
    | false =>
      obtain ⟨j', l', rfl, hj'⟩ := hm rfl
      simp only [DX.heads, List.mem_singleton] at hj'
      subst hj'
      obtain ⟨e2, h5, h6⟩ := ih l' hl.2.2 (fun h => by cases h)
      refine ⟨e2, ?_, h6⟩
      show runOps φ (is.getD j' default :: opsAt is l') e H = _
      rw [runOps_cons, h1]; exact h5
  | .br a b, m, un, e, H, e', H', hun, hok, hf, hr, l, hl, hm => by
    simp only [dtOk, Bool.and_eq_true] at hok
    obtain ⟨⟨⟨hne, hcov⟩, hoa⟩, hob⟩ := hok
    simp only [DX.toDT, runDT] at hr
    obtain ⟨x, hx, hr⟩ := Option.bind_eq_some_iff.1 hr
    obtain ⟨y, hy, hr⟩ := Option.bind_eq_some_iff.1 hr
    split at hr
    case isFalse => cases hr
    rename_i hag
    injection hr with hr
    subst hr
    obtain ⟨hag1, hag2⟩ := agree_spec hag
    have pick : ∀ j l', l = j :: l' → j ∈ a.heads ++ b.heads → Good φ is keep l e H e' H' := by
      intro j l' hl' hj
      rcases List.mem_append.1 hj with hj | hj
      · exact dt_all hφ opOf a false un e H e' H' hun hoa hf hx l hl (fun _ => ⟨j, l', hl', hj⟩)
      · obtain ⟨y1, y2⟩ := y
        obtain ⟨e2, h1, h2⟩ := dt_all hφ opOf b false un e H y1 y2 hun hob hf hy l hl (fun _ => ⟨j, l', hl', hj⟩)
        simp only at hag1 hag2
        subst hag1
        exact ⟨e2, h1, fun t ht => (h2 t ht).trans (hag2 t ht)⟩
    cases m with
    | true =>
      simp only [Bool.not_true, Bool.false_or] at hcov
      cases l with
      | nil =>
        simp only [Lin] at hl
        subst hl
        simp at hne
      | cons k l' =>
        refine pick k l' rfl ?_
        have := List.all_eq_true.1 hcov k hl.1
        simp only [Bool.or_eq_true, Bool.not_eq_true', List.contains_iff_mem] at this
        rcases this with h | h
        · exfalso
          have hr : readyU bf un k = true := List.all_eq_true.2 (fun i hi => by rw [hl.2.1 i hi]; rfl)
          rw [hr] at h; cases h
        · exact h
    | false =>
      obtain ⟨j, l', hl', hj⟩ := hm rfl
      exact pick j l' hl' hj

/-- edges go back -/
theorem befs_lt {ops : List Oper} (hb : ∀ (j : Nat) (o : Oper) (ed : Edge), ops[j]? = some o → ed ∈ o.after.toList → Region.binds .any ed = true → ed.on < j) :
    ∀ (j i : Nat), ((befs ops []).getD j 0).testBit i = true → i < j := by
  intro j
  induction j using Nat.strongRecOn with
  | _ j ih =>
    intro i h
    have hlen : (befs ops []).length = ops.length := by
      have : ∀ (l : List Oper) (acc : List Nat), (befs l acc).length = acc.length + l.length := by
        intro l
        induction l with
        | nil => intro acc; simp [befs]
        | cons o r ih => intro acc; simp [befs, ih]; omega
      simpa using this ops []
    cases ho : ops[j]? with
    | none =>
      exfalso
      have : ops.length ≤ j := by simpa using ho
      rw [List.getD_eq_getElem?_getD, List.getElem?_eq_none (by omega)] at h
      simp at h
    | some o =>
      obtain ⟨ed, hm, hbd, hh⟩ := befs_bit ho h
      have h1 := hb j o ed ho hm hbd
      rcases hh with rfl | hh
      · exact h1
      · have := ih ed.on h1 i hh; omega

set_option maxHeartbeats 1000000 in
theorem drawT_sound (hφ : PhiOk C P φ) {ops : Array Oper} {is : List IOper} {t : DX} {keep : List Nat} (hc : cOpers P C N at_ ops ops.toList = some is) (hd : dtChk ops.toList is t = true) {e e' : Env} {H H' : List AO} (hr : runDT φ keep (t.toDT is) e H = some (e', H')) {Q : Exit → Act → World → Prop} {a0 : Act} {w0 : World} {ρ0 : List Value} {F0 : Nat → Prop}
    (hs : Sim C B F0 H ρ0 N e a0 w0) (hQ : ∀ e1 a' w' ρ' F', (∀ t ∈ keep, e1.get t = e'.get t) → After C B F0 H ρ0 w0 N e1 H' a' w' ρ' F' → Q .normal a' w') : wpAny P .any ops Q ops.size (Array.replicate ops.size false) a0 w0 := by
  obtain ⟨hlen, hat⟩ := cOpers_at ops.toList is hc
  have hlen' : is.length = ops.size := by simpa using hlen
  unfold dtChk at hd
  simp only [Bool.and_eq_true, List.all_eq_true] at hd
  obtain ⟨⟨hconst, hback0⟩, hdt⟩ := hd
  have hback : ∀ (j : Nat) (o : Oper) (ed : Edge), ops.toList[j]? = some o → ed ∈ o.after.toList → Region.binds .any ed = true → ed.on < j := by
    intro j o ed hj hm hb
    have := hback0 (o, j) (by rw [List.mem_zipIdx_iff_getElem?]; exact hj) ed hm
    simpa [hb] using this
  have opOf' : ∀ (j : Nat) (io : IOper), is[j]? = some io → OpOf P C N at_ ops io := by
    intro j io hj
    have hjl := lt_of_some hj
    obtain ⟨io', h1, h2⟩ := hat j (ops.toList[j]'(by simpa using (hlen' ▸ hjl))) (List.getElem?_eq_getElem _)
    rw [hj] at h1; injection h1 with h1; subst h1
    exact ⟨⟨_, h2⟩, hconst io (List.mem_of_getElem? hj), cOper_live h2⟩
  have opOf : ∀ j, j < is.length → OpOf P C N at_ ops (is.getD j default) := by
    intro j hj
    have : is[j]? = some (is.getD j default) := by simp [List.getD_eq_getElem?_getD, hj]
    exact opOf' j _ this
  have hbl := befs_lt hback
  let un : Array Bool → List Nat := fun listed => (List.range ops.size).filter fun i => !listed.getD i true
  have key : ∀ (fuel : Nat) (listed : Array Bool) (e1 : Env) (H1 : List AO) (a : Act) (w : World) (ρ : List Value) (F : Nat → Prop), listed.size = ops.size → (un listed).length ≤ fuel →
      Closed ops.toList (fun i => listed.getD i false) → (∀ l, Lin (befs ops.toList []) (un listed) l → Good φ is keep l e1 H1 e' H') →
      After C B F0 H ρ0 w0 N e1 H1 a w ρ F → wpAny P .any ops Q fuel listed a w := by
    have done : ∀ (listed : Array Bool) (e1 : Env) (H1 : List AO) (a : Act) (w : World) (ρ : List Value) (F : Nat → Prop), (∀ i, i < ops.size → listed.getD i true = true) →
        (∀ l, Lin (befs ops.toList []) (un listed) l → Good φ is keep l e1 H1 e' H') → After C B F0 H ρ0 w0 N e1 H1 a w ρ F → Q .normal a w := by
      intro listed e1 H1 a w ρ F hall hrun haft
      have hnil : un listed = [] := List.filter_eq_nil_iff.2 (fun i hi => by rw [hall i (by have := List.mem_range.1 hi; omega)]; simp)
      obtain ⟨e2, h2, h3⟩ := hrun [] hnil
      simp only [opsAt, List.map_nil, runOps, Option.some.injEq, Prod.mk.injEq] at h2
      obtain ⟨rfl, rfl⟩ := h2
      exact hQ e1 a w ρ F h3 haft
    intro fuel
    induction fuel with
    | zero =>
      intro listed e1 H1 a w ρ F hsz hcnt hcl hrun haft
      have hnil : un listed = [] := List.eq_nil_of_length_eq_zero (by omega)
      have hall : ∀ i, i < ops.size → listed.getD i true = true := by
        intro i hi
        have := List.filter_eq_nil_iff.1 hnil i (List.mem_range.2 hi)
        simpa using this
      refine ⟨?_, done listed e1 H1 a w ρ F hall hrun haft⟩
      apply List.eq_nil_iff_forall_not_mem.2
      intro i hi
      obtain ⟨h1, o, ho, _⟩ := mem_ready.1 hi
      have hlt : i < ops.size := (Array.getElem?_eq_some_iff.1 ho).1
      rw [hall i hlt] at h1; cases h1
    | succ fuel ih =>
      intro listed e1 H1 a w ρ F hsz hcnt hcl hrun haft
      refine ⟨fun hnil => done listed e1 H1 a w ρ F ?_ hrun haft, fun j hj => ?_⟩
      · intro i
        induction i using Nat.strongRecOn with
        | _ i ihi =>
          intro hi
          have hi' : i < listed.size := by omega
          cases hli : listed.getD i true with
          | true => rfl
          | false =>
            exfalso
            have hmem : i ∈ Region.ready .any ops listed := by
              refine mem_ready.2 ⟨hli, ops[i], by simp [hi], fun ed hed hb => ?_⟩
              have hlt := hback i ops[i] ed (by simp [hi]) (by simpa using hed) hb
              have h9 := ihi ed.on hlt (by omega)
              have hl9 : ed.on < listed.size := by omega
              simpa [Array.getD_eq_getD_getElem?, hl9] using h9
            rw [hnil] at hmem; cases hmem
      · obtain ⟨hjl, o, ho, hedges⟩ := mem_ready.1 hj
        have hjlt : j < ops.size := (Array.getElem?_eq_some_iff.1 ho).1
        have hjlt' : j < listed.size := by omega
        have hol : ops.toList[j]? = some o := by simpa using ho
        obtain ⟨io, hio, hcio⟩ := hat j o hol
        obtain ⟨hop, hdst, hdN⟩ := cOper_spec hcio
        have hgd : is.getD j default = io := by simp [List.getD_eq_getElem?_getD, hio]
        have hbef : ∀ i, ((befs ops.toList []).getD j 0).testBit i = true → listed.getD i false = true := by
          intro i hbit
          obtain ⟨ed, hm, hb, hh⟩ := befs_bit hol hbit
          have hl := hedges ed (by simpa using hm) hb
          rcases hh with rfl | hh
          · exact hl
          · exact hcl ed.on i hl hh
        have hjun : j ∈ un listed := List.mem_filter.2 ⟨List.mem_range.2 hjlt, by simpa using hjl⟩
        have hfree : ∀ i ∈ un listed, (((befs ops.toList []).getD j 0).testBit i) = false := by
          intro i hi
          obtain ⟨hir, hiu⟩ := List.mem_filter.1 hi
          cases hbit : ((befs ops.toList []).getD j 0).testBit i with
          | false => rfl
          | true =>
            exfalso
            have h9 := hbef i hbit
            have hi' : i < listed.size := by have := List.mem_range.1 hir; omega
            simp [Array.getD_eq_getD_getElem?, hi'] at h9 hiu
            rw [h9] at hiu; cases hiu
        have hun' : ∀ i, i ≠ j → (!(listed.setIfInBounds j true).getD i true) = !listed.getD i true := by
          intro i hij
          simp only [Array.getD_eq_getD_getElem?, Array.getElem?_setIfInBounds]
          rw [if_neg (fun h => hij h.symm)]
        have hunj : (!(listed.setIfInBounds j true).getD j true) = false := by
          simp [Array.getD_eq_getD_getElem?, Array.getElem?_setIfInBounds, hjlt']
        have hunE : un (listed.setIfInBounds j true) = (un listed).filter (· != j) := by
          show (List.range ops.size).filter _ = ((List.range ops.size).filter _).filter _
          rw [List.filter_filter]
          apply List.filter_congr
          intro i _
          by_cases hij : i = j
          · subst hij; rw [hunj]; simp
          · rw [hun' i hij]; simp [hij]
        have htext : Lin (befs ops.toList []) ((un listed).filter (· != j)) ((un listed).filter (· != j)) :=
          Lin.text hbl (((List.pairwise_lt_range (n := ops.size)).filter _).filter _)
        obtain ⟨e3, h3, _⟩ := hrun (j :: (un listed).filter (· != j)) ⟨hjun, hfree, htext⟩
        have h3 : runOps φ (io :: opsAt is ((un listed).filter (· != j))) e1 H1 = some (e3, H') := by rw [← hgd]; exact h3
        rw [runOps_cons] at h3
        obtain ⟨⟨e4, H4⟩, h4, _⟩ := Option.bind_eq_some_iff.1 h3
        have hrun' : ∀ l, Lin (befs ops.toList []) (un (listed.setIfInBounds j true)) l → Good φ is keep l e4 H4 e' H' := by
          intro l hl
          rw [hunE] at hl
          obtain ⟨e5, h5, h6⟩ := hrun (j :: l) ⟨hjun, hfree, hl⟩
          have h5 : runOps φ (io :: opsAt is l) e1 H1 = some (e5, H') := by rw [← hgd]; exact h5
          rw [runOps_cons, h4] at h5
          exact ⟨e5, h5, h6⟩
        have hsz' : (listed.setIfInBounds j true).size = ops.size := by simp [hsz]
        have hcl' : Closed ops.toList (fun i => (listed.setIfInBounds j true).getD i false) := by
          have hget : ∀ i, (listed.setIfInBounds j true).getD i false = if i = j then true else listed.getD i false := by
            intro i
            simp only [Array.getD_eq_getD_getElem?, Array.getElem?_setIfInBounds]
            by_cases hij : j = i
            · subst hij; simp [hjlt']
            · rw [if_neg hij, if_neg (Ne.symm hij)]
          intro k i hk hbit
          simp only [hget] at hk ⊢
          split
          · rfl
          · split at hk
            · rename_i hkj; subst hkj; exact hbef i hbit
            · exact hcl k i hk hbit
        have hcnt' : (un (listed.setIfInBounds j true)).length ≤ fuel := by
          rw [hunE]
          have hlt : ((un listed).filter (· != j)).length < (un listed).length :=
            List.length_filter_lt_length_iff_exists.2 ⟨j, hjun, by simp⟩
          omega
        have next : ∀ (a' : Act) (w' : World) (ρ' : List Value) (F' : Nat → Prop), After C B F H1 ρ w N e4 H4 a' w' ρ' F' → wpAny P .any ops Q fuel (listed.setIfInBounds j true) a' w' := fun a' w' ρ' F' h9 =>
          ih (listed.setIfInBounds j true) e4 H4 a' w' ρ' F' hsz' hcnt' hcl' hrun' (haft.trans h9)
        simp only [runOps, cOper_live hcio, scr] at h4
        obtain ⟨b, hb, h4⟩ := Option.bind_eq_some_iff.1 h4
        have hw := wanted_ok haft.sim hcio hb
        unfold wpOp
        rw [ho]
        simp only
        rw [hw]
        cases b with
        | false =>
          simp only [Bool.false_eq_true, if_false, Option.some.injEq, Prod.mk.injEq] at h4 ⊢
          obtain ⟨rfl, rfl⟩ := h4
          refine next _ w ρ F ?_
          rw [hdst]
          exact After.of_post haft.sim (Post.quiet haft.sim.hp VR.tup0) hdN
        | true =>
          simp only [if_true] at h4 ⊢
          obtain ⟨q, hq, h4⟩ := Option.bind_eq_some_iff.1 h4
          simp only [Option.some.injEq, Prod.mk.injEq] at h4
          obtain ⟨rfl, rfl⟩ := h4
          left
          refine step_sound hφ hop haft.sim hq (fun v w' ρ' F' hpost => ?_)
          refine next _ w' ρ' F' ?_
          rw [hdst]
          exact After.of_post haft.sim hpost hdN
  have hun0 : un (Array.replicate ops.size false) = List.range is.length := by
    show (List.range ops.size).filter _ = _
    rw [hlen']
    exact List.filter_eq_self.2 (fun i hi => by have := List.mem_range.1 hi; simp [Array.getD_eq_getD_getElem?, this])
  refine key ops.size _ e H a0 w0 ρ0 F0 (by simp) ?_ ?_ ?_ (After.refl hs)
  · exact Nat.le_trans (List.length_filter_le _ _) (by simp)
  · intro j i hj
    exfalso
    by_cases hj' : j < ops.size <;> simp [Array.getD_eq_getD_getElem?, hj'] at hj
  · intro l hl
    rw [hun0] at hl
    exact dt_all hφ opOf t true _ e H e' H' (fun j hj => List.mem_range.1 hj) hdt ⟨B, F0, ρ0, a0, w0, hs⟩ hr l hl (fun h => by cases h)

end
end Go.PI
