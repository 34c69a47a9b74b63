/- Regions that draw their order and lay variables in memory, then write them: one goal for each operation, whatever the order. No condition. -/
import Derived.Test.YtkpcdnbjngpooaaGreatDoorPR5
import Derived.Test.YtkpcdnbjngpooaaGreatDoorPR12
namespace Go.Proofs.YtkpcdnbjngpooaaGreatDoor
open Go.ChangeShapes Go.WideShapes Go.ChangeAt Go.RowKit
set_option linter.unusedVariables false
set_option maxRecDepth 100000
section
variable {P : Program}
theorem relAt_mono {o : Oper} {a : Act} {w : World} {K K' : Value → World → Prop} (h : relAt P o a w K) (hk : ∀ v w', K v w' → K' v w') : relAt P o a w K' := by
  unfold relAt at h ⊢
  generalize (execOp a.eval o).run P w = r at *
  cases r with
  | ok n w' =>
    cases n <;> simp only [relUpon] at h ⊢
    case value u => exact hk _ _ h
    case skip => exact hk _ _ h
    case enter f args => exact h.mono fun e w'' ⟨v, he, hv⟩ => ⟨v, he, hk _ _ hv⟩
  | halt x w' => simp only [relUpon] at h
def upd (L : Nat → Bool) (i : Nat) : Nat → Bool := fun j => if j = i then true else L j
theorem upd_self (L : Nat → Bool) (i : Nat) : upd L i i = true := if_pos rfl
theorem upd_other {L : Nat → Bool} {i j : Nat} (h : j ≠ i) : upd L i j = L j := if_neg h
theorem wpAny_inv {ops : Array Oper} {md : Region.Mode} {Q : Exit → Act → World → Prop} {J : (Nat → Bool) → List Value → World → Prop} {a0 : Act}
    (hd : dstsOk ops.toList = true) (ho : ordOk md 0 ops.toList = true)
    (hs : ∀ (i : Nat) (o : Oper) (L : Nat → Bool) (vs : List Value) (w : World), ops.toList[i]? = some o → vs.length = ops.toList.length → L i = false → (∀ e ∈ o.after, Region.binds md e = true → L e.on = true) → J L vs w →
      relAt P o (putAll ops.toList vs a0) w fun v w' => J (upd L i) (vs.set i v) w')
    (he : ∀ (L : Nat → Bool) (vs : List Value) w, vs.length = ops.toList.length → (∀ i, i < ops.toList.length → L i = true) → J L vs w → Q .normal (putAll ops.toList vs a0) w) :
    ∀ (fuel : Nat) (listed : Array Bool) (vs : List Value) (w : World), vs.length = ops.toList.length → listed.size = ops.size → listed.toList.count false ≤ fuel →
      J (fun j => listed.getD j false) vs w → wpAny P md ops Q fuel listed (putAll ops.toList vs a0) w := by
  have hdone : ∀ (listed : Array Bool), listed.size = ops.size → Region.ready md ops listed = [] → ∀ i, i < ops.toList.length → listed.getD i false = true := by
    intro listed hls hr i
    induction i using Nat.strongRecOn with
    | _ i ih =>
      intro hi
      cases hq : listed.getD i false with
      | true => rfl
      | false =>
        exfalso
        have hil : i < ops.size := by simpa using hi
        have h0 : ops[i]? = some ops[i] := Array.getElem?_eq_getElem hil
        have hor := ordOk_at ops.toList 0 i ops[i] ho (by rw [Array.getElem?_toList]; exact h0)
        have hm : i ∈ Region.ready md ops listed := by
          refine mem_ready.2 ⟨?_, ops[i], h0, fun e hee hb => ?_⟩
          · have hil2 : i < listed.size := by omega
            simp [hil2] at hq ⊢
            exact hq
          · have := hor.2 e hee hb
            exact ih e.on (by omega) (by omega)
        rw [hr] at hm
        cases hm
  intro fuel
  induction fuel with
  | zero =>
    intro listed vs w hvl hls hc hI
    have hall : ∀ i, i < listed.size → listed.getD i false = true := by
      intro i hi
      cases hq : listed.getD i false with
      | true => rfl
      | false =>
        exfalso
        have hm : false ∈ listed.toList := by
          have h2 : listed[i] = false := by simpa [hi] using hq
          rw [← h2]
          simp
        have := List.count_pos_iff.2 hm
        omega
    have hr : Region.ready md ops listed = [] := by
      cases hr : Region.ready md ops listed with
      | nil => rfl
      | cons x xs =>
        exfalso
        have hm : x ∈ Region.ready md ops listed := by rw [hr]; exact List.mem_cons_self ..
        obtain ⟨h1, o, h2, _⟩ := mem_ready.1 hm
        have hx : x < listed.size := by rw [hls]; exact (Array.getElem?_eq_some_iff.1 h2).1
        have h3 := hall x hx
        simp [hx] at h1 h3
        rw [h3] at h1
        cases h1
    exact ⟨hr, he _ vs w hvl (fun i hi => hall i (by rw [hls]; simpa using hi)) hI⟩
  | succ fuel ih =>
    intro listed vs w hvl hls hc hI
    refine ⟨fun hr => he _ vs w hvl (fun i hi => hdone listed hls hr i hi) hI, fun i hi => ?_⟩
    obtain ⟨h1, o, h2, h3⟩ := mem_ready.1 hi
    have hio : i < ops.size := (Array.getElem?_eq_some_iff.1 h2).1
    have hil : i < listed.size := by omega
    have h2l : ops.toList[i]? = some o := by rw [Array.getElem?_toList]; exact h2
    have hor := ordOk_at ops.toList 0 i o ho h2l
    have hf : listed.toList[i]'(by simpa using hil) = false := by simpa [hil] using h1
    have hrel := hs i o (fun j => listed.getD j false) vs w h2l hvl (by simpa [hil] using h1) (fun e hee hb => h3 e (by simpa using hee) hb) hI
    unfold wpOp
    simp only [h2]
    have hw : Region.wanted o (yielded ops (putAll ops.toList vs a0).tmps) = true := by simp [Region.wanted, hor.1]
    rw [if_pos hw]
    refine .inl (Oper.wp_mono ?_ (wp_of_rel hrel))
    rintro a' w' ⟨v, rfl, hJ⟩
    rw [putAll_set ops.toList vs a0 i o hd hvl h2l]
    refine ih _ (vs.set i v) w' (by simpa using hvl) (by simpa using hls) ?_ ?_
    · have hm : false ∈ listed.toList := by rw [← hf]; exact List.getElem_mem _
      have := List.count_pos_iff.2 hm
      have h9 := List.count_set (a := true) (b := false) (l := listed.toList) (i := i) (by simpa using hil)
      rw [hf] at h9
      rw [Array.toList_setIfInBounds, h9]
      have e1 : (if (false == false) = true then 1 else 0) = 1 := rfl
      have e2 : (if (true == false) = true then 1 else 0) = 0 := rfl
      rw [e1, e2]
      omega
    · have e : (fun j => (listed.setIfInBounds i true).getD j false) = upd (fun j => listed.getD j false) i := by
        funext j
        unfold upd
        by_cases hj : j = i
        · subst hj
          rw [if_pos rfl]
          simp [hil]
        · rw [if_neg hj, getD_set_ne false (fun h => hj h.symm)]
      rw [e]
      exact hJ
/-- a variable that is laid by operation p, with cells z, and written by operation s, with cells c -/
structure Cel where
  p : Nat
  s : Nat
  z : List Value
  c : List Value
inductive Cls where
  | plain
  | lay (r : Cel)
  | put (r : Cel)
def clsOf (prs : List Cel) (i : Nat) : Cls := match prs.find? (fun r => r.p == i) with
  | some r => .lay r
  | none => match prs.find? (fun r => r.s == i) with
    | some r => .put r
    | none => .plain
theorem clsOf_cases {prs : List Cel} {i : Nat} : (clsOf prs i = .plain ∧ ∀ r ∈ prs, r.p ≠ i ∧ r.s ≠ i) ∨ (∃ r ∈ prs, clsOf prs i = .lay r ∧ r.p = i) ∨ (∃ r ∈ prs, clsOf prs i = .put r ∧ r.s = i) := by
  unfold clsOf
  cases h1 : prs.find? (fun r => r.p == i) with
  | some r => exact .inr (.inl ⟨r, List.mem_of_find?_eq_some h1, rfl, by have := List.find?_some h1; simpa using this⟩)
  | none =>
    cases h2 : prs.find? (fun r => r.s == i) with
    | some r => exact .inr (.inr ⟨r, List.mem_of_find?_eq_some h2, rfl, by have := List.find?_some h2; simpa using this⟩)
    | none =>
      refine .inl ⟨rfl, fun r hr => ⟨?_, ?_⟩⟩
      · have := List.find?_eq_none.1 h1 r hr; simpa using this
      · have := List.find?_eq_none.1 h2 r hr; simpa using this
theorem Box.fillA {g : Nat} : ∀ (c : List Value) {w : World} (pre rest : List Value), Box w g (pre ++ rest) → rest.length = c.length → Box (setRunW w g pre.length c) g (pre ++ c) := by
  intro c
  induction c with
  | nil => intro w pre rest h hl; rw [List.eq_nil_of_length_eq_zero hl] at h; exact h
  | cons x c ih =>
    intro w pre rest h hl
    cases rest with
    | nil => cases hl
    | cons y rest =>
      have h1 := h.set1 (j := pre.length) (by simp) x
      rw [List.set_append_right _ _ (Nat.le_refl _), Nat.sub_self] at h1
      have h2 := ih (pre ++ [x]) rest (by simpa using h1) (by simpa using hl)
      rw [List.append_assoc] at h2
      rw [List.length_append] at h2
      exact h2
theorem Box.fill {w : World} {g : Nat} {z c : List Value} (h : Box w g z) (hl : z.length = c.length) : Box (setRunW w g 0 c) g c := Box.fillA c [] z h hl
theorem Box.keepR {g h : Nat} (hne : h ≠ g) : ∀ (c : List Value) {w : World} (i : Nat) {cs : List Value}, Box w g cs → Box (setRunW w h i c) g cs := by
  intro c
  induction c with
  | nil => intro w i cs hb; exact hb
  | cons x c ih => intro w i cs hb; exact ih (i + 1) (hb.other (p := ⟨h, i, none⟩) hne x)
abbrev kInv (K : Nat → Option Value) (i : Nat) (v : Value) (_ : World) : Prop := ∀ u, K i = some u → v = u
theorem dep_get {md : Region.Mode} {K : Nat → Option Value} {vs : List Value} {w : World} (j : Nat) (u : Value) (hK : K j = some u) : ∀ {es : List Edge}, (es.any fun e => Region.binds md e && e.on == j) = true → depInv md (kInv K) vs w es → vs.getD j undef = u
  | [], h, _ => by cases h
  | e :: es, h, hd => by
    rw [List.any_cons, Bool.or_eq_true, Bool.and_eq_true] at h
    rcases h with ⟨h1, h2⟩ | h
    · have : e.on = j := by simpa using h2
      subst this
      exact hd.1 h1 u hK
    · exact dep_get j u hK h hd.2
def celStep (P : Program) (W : World) (K : Nat → Option Value) (a : Act) (vs : List Value) (i : Nat) (o : Oper) : Cls → Prop
  | .plain => ∀ w, Below W.heap.size W w → depInv .any (kInv K) vs w o.after.toList → relAt P o a w fun v w' => Below w.heap.size w w' ∧ kInv K i v w'
  | .lay r => ∀ w, relAt P o a w fun v w' => v = .pointer (some ⟨w.heap.size, 0, none⟩) ∧ ∃ t, w' = w.alloc (.cells r.z.toArray t)
  | .put r => ∀ w X, vs.getD r.p undef = .pointer (some ⟨X, 0, none⟩) → depInv .any (kInv K) vs w o.after.toList → Box w X r.z → relAt P o a w fun _ w' => w' = setRunW w X 0 r.c
theorem celStep_plain {W : World} {K : Nat → Option Value} {a : Act} {vs : List Value} {i : Nat} {o : Oper} {c : Cls} (h : c = .plain)
    (k : ∀ w, Below W.heap.size W w → depInv .any (kInv K) vs w o.after.toList → relAt P o a w fun v w' => Below w.heap.size w w' ∧ kInv K i v w') : celStep P W K a vs i o c := by subst h; exact k
theorem celStep_lay {W : World} {K : Nat → Option Value} {a : Act} {vs : List Value} {i : Nat} {o : Oper} {c : Cls} (r : Cel) (h : c = .lay r)
    (k : ∀ w, relAt P o a w fun v w' => v = .pointer (some ⟨w.heap.size, 0, none⟩) ∧ ∃ t, w' = w.alloc (.cells r.z.toArray t)) : celStep P W K a vs i o c := by subst h; exact k
theorem celStep_put {W : World} {K : Nat → Option Value} {a : Act} {vs : List Value} {i : Nat} {o : Oper} {c : Cls} (r : Cel) (h : c = .put r)
    (k : ∀ w X, vs.getD r.p undef = .pointer (some ⟨X, 0, none⟩) → depInv .any (kInv K) vs w o.after.toList → Box w X r.z → relAt P o a w fun _ w' => w' = setRunW w X 0 r.c) : celStep P W K a vs i o c := by subst h; exact k
def celSteps (P : Program) (W : World) (K : Nat → Option Value) (prs : List Cel) (a : Act) (vs : List Value) : Nat → List Oper → Prop
  | _, [] => True
  | i, o :: os => celStep P W K a vs i o (clsOf prs i) ∧ celSteps P W K prs a vs (i + 1) os
theorem celSteps_at {W : World} {K : Nat → Option Value} {prs : List Cel} {a : Act} {vs : List Value} : ∀ (os : List Oper) (k i : Nat) (o : Oper), celSteps P W K prs a vs k os → os[i]? = some o → celStep P W K a vs (k + i) o (clsOf prs (k + i))
  | [], _, _, _, _, h => by simp at h
  | o :: os, k, 0, o', hh, h => by
    obtain rfl : o = o' := by simpa using h
    exact hh.1
  | o :: os, k, i + 1, o', hh, h => by
    have := celSteps_at os (k + 1) i o' hh.2 (by simpa using h)
    rwa [show k + 1 + i = k + (i + 1) by omega] at this
/-- the variables are laid ahead of their writing, by operations of their own -/
def prsOk (prs : List Cel) (l : List Oper) : Bool :=
  (prs.all fun r => (match l[r.s]? with | some o => o.after.any fun e => Region.binds .any e && e.on == r.p | none => false) && decide (r.p < l.length)) &&
  (prs.all fun r => prs.all fun q => r.p != q.s) && decide ((prs.map Cel.p).Nodup) && decide ((prs.map Cel.s).Nodup)
theorem nodup_map {f : Cel → Nat} : ∀ {l : List Cel}, (l.map f).Nodup → ∀ r ∈ l, ∀ q ∈ l, f r = f q → r = q
  | [], _, r, hr, _, _, _ => by cases hr
  | a :: l, h, r, hr, q, hq, e => by
    rw [List.map_cons, List.nodup_cons] at h
    rcases List.mem_cons.1 hr with h1 | hr
    · rcases List.mem_cons.1 hq with h2 | hq
      · rw [h1, h2]
      · exact absurd (List.mem_map.2 ⟨q, hq, by rw [← e, h1]⟩) h.1
    · rcases List.mem_cons.1 hq with h2 | hq
      · exact absurd (List.mem_map.2 ⟨r, hr, by rw [e, h2]⟩) h.1
      · exact nodup_map h.2 r hr q hq e
def celJ (W : World) (K : Nat → Option Value) (prs : List Cel) (L : Nat → Bool) (vs : List Value) (w : World) : Prop :=
  Below W.heap.size W w ∧ (∀ i, L i = true → ∀ u, K i = some u → vs.getD i undef = u) ∧
  (∀ r ∈ prs, L r.p = true → ∃ X, vs.getD r.p undef = .pointer (some ⟨X, 0, none⟩) ∧ W.heap.size ≤ X ∧ Box w X (if L r.s = true then r.c else r.z)) ∧
  (∀ r ∈ prs, ∀ q ∈ prs, r.p ≠ q.p → L r.p = true → L q.p = true → vs.getD r.p undef ≠ vs.getD q.p undef) ∧ (∀ r ∈ prs, L r.s = true → L r.p = true)
theorem getD_setS {vs : List Value} {i : Nat} {v : Value} (h : i < vs.length) : (vs.set i v).getD i undef = v := by rw [List.getD_eq_getElem?_getD, List.getElem?_set_self h]; rfl
theorem getD_setN {vs : List Value} {i j : Nat} {v : Value} (h : i ≠ j) : (vs.set i v).getD j undef = vs.getD j undef := by rw [List.getD_eq_getElem?_getD, List.getD_eq_getElem?_getD, List.getElem?_set_ne h]
/-- a region that draws its order, whose operations only make memory, but for variables that it lays and writes itself -/
theorem wp_region_cel {id : Nat} {Q : Exit → Act → World → Prop} {a : Act} {W : World} {l : List Oper} (K : Nat → Option Value) (prs : List Cel) (hm : P.follows .mixedOrders = true) (hd : dstsOk l = true) (ho : ordOk .any 0 l = true) (hp : prsOk prs l = true)
    (hk : ∀ r ∈ prs, K r.p = none ∧ K r.s = none ∧ r.z.length = r.c.length)
    (hs : ∀ vs : List Value, vs.length = l.length → celSteps P W K prs (putAll l vs a) vs 0 l)
    (he : ∀ (vs : List Value) w, vs.length = l.length → Below W.heap.size W w → (∀ i, i < l.length → kInv K i (vs.getD i undef) w) → (∀ r ∈ prs, ∃ X, vs.getD r.p undef = .pointer (some ⟨X, 0, none⟩) ∧ W.heap.size ≤ X ∧ Box w X r.c) → Q .normal (putAll l vs a) w) :
    (Code.region id l.toArray true).wp P Q a W := by
  refine wp_region_any hm ?_
  have hC0 : Below W.heap.size W { W with drawn := W.drawn + 1 } := ⟨rfl, rfl, rfl, Nat.le_refl _, fun _ _ => rfl⟩
  unfold prsOk at hp
  simp only [Bool.and_eq_true, List.all_eq_true, decide_eq_true_eq, bne_iff_ne] at hp
  obtain ⟨⟨⟨hp1, hp2⟩, hp3⟩, hp4⟩ := hp
  have hpl : ∀ r ∈ prs, r.p < l.length := fun r hr => (hp1 r hr).2
  have hsp : ∀ r ∈ prs, ∃ o, l[r.s]? = some o ∧ ∃ e ∈ o.after, Region.binds .any e = true ∧ e.on = r.p := by
    intro r hr
    have h := (hp1 r hr).1
    cases ho : l[r.s]? with
    | none => rw [ho] at h; cases h
    | some o =>
      rw [ho] at h
      simp only [Array.any_eq_true'] at h
      obtain ⟨e, he, hb⟩ := h
      rw [Bool.and_eq_true] at hb
      exact ⟨o, rfl, e, he, hb.1, by simpa using hb.2⟩
  have h := wpAny_inv (P := P) (ops := l.toArray) (md := .any) (Q := Q) (J := celJ W K prs) (a0 := a) (by simpa using hd) (by simpa using ho) ?hs ?he
    l.toArray.size (Array.replicate l.toArray.size false) (ownVals l a) { W with drawn := W.drawn + 1 } (by simp [ownVals]) (by simp) (by simp)
    ⟨hC0, fun i hi => (by exfalso; by_cases h : i < l.length <;> simp [h] at hi), fun r hr hl => (by exfalso; have h := hpl r hr; simp [h] at hl), fun r hr q hq _ hl => (by exfalso; have h := hpl r hr; simp [h] at hl), fun r hr hl => (by exfalso; by_cases h : r.s < l.length <;> simp [h] at hl)⟩
  · have e : putAll l.toArray.toList (ownVals l a) a = a := by rw [List.toList_toArray]; exact putAll_own l a
    rw [e] at h
    exact h
  case he =>
    intro L vs w hvl hall hJ
    obtain ⟨j1, j2, j3, j4, j5⟩ := hJ
    dsimp only at hvl hall ⊢
    refine he vs w hvl j1 (fun i hi u hu => j2 i (hall i hi) u hu) (fun r hr => ?_)
    obtain ⟨X, h1, h2, h3⟩ := j3 r hr (hall _ (hpl r hr))
    obtain ⟨o, ho2, _⟩ := hsp r hr
    rw [if_pos (hall _ (List.getElem?_eq_some_iff.1 ho2).1)] at h3
    exact ⟨X, h1, h2, h3⟩
  case hs =>
    intro i o L vs w hio hvl hLi hdep hJ
    obtain ⟨j1, j2, j3, j4, j5⟩ := hJ
    dsimp only at hio hvl hs ⊢
    have hil : i < vs.length := by rw [hvl]; exact (List.getElem?_eq_some_iff.1 hio).1
    have hst := celSteps_at l 0 i o (hs vs hvl) hio
    rw [Nat.zero_add] at hst
    have hdi : depInv .any (kInv K) vs w o.after.toList := depInv_of _ fun e hee hb u hu => j2 e.on (hdep e (by simpa using hee) hb) u hu
    rcases clsOf_cases (prs := prs) (i := i) with ⟨hc, hno⟩ | ⟨r, hr, hc, rfl⟩ | ⟨r, hr, hc, rfl⟩
    · rw [hc] at hst
      refine relAt_mono (hst w j1 hdi) ?_
      rintro v w' ⟨hb, hkv⟩
      refine ⟨j1.trans (hb.mono j1.size), fun j hj u hu => ?_, fun r hr hl => ?_, fun r hr q hq hne hl1 hl2 => ?_, fun r hr hl => ?_⟩
      · by_cases e : j = i
        · subst e; rw [getD_setS hil]; exact hkv u hu
        · rw [upd_other e] at hj; rw [getD_setN (fun h => e h.symm)]; exact j2 j hj u hu
      · have hn := hno r hr
        rw [upd_other hn.1] at hl
        obtain ⟨X, h1, h2, h3⟩ := j3 r hr hl
        refine ⟨X, by rw [getD_setN (fun h => hn.1 h.symm)]; exact h1, h2, ?_⟩
        rw [upd_other hn.2]
        exact h3.on hb
      · have hn := hno r hr
        have hm := hno q hq
        rw [upd_other hn.1] at hl1
        rw [upd_other hm.1] at hl2
        rw [getD_setN (fun h => hn.1 h.symm), getD_setN (fun h => hm.1 h.symm)]
        exact j4 r hr q hq hne hl1 hl2
      · have hn := hno r hr
        rw [upd_other hn.2] at hl
        rw [upd_other hn.1]
        exact j5 r hr hl
    · rw [hc] at hst
      refine relAt_mono (hst w) ?_
      rintro v w' ⟨rfl, t, rfl⟩
      have hLs : L r.s = false := by
        cases h : L r.s with
        | false => rfl
        | true => rw [j5 r hr h] at hLi; cases hLi
      have hps : ∀ q ∈ prs, q.s ≠ r.p := fun q hq h => hp2 r hr q hq h.symm
      refine ⟨j1.alloc j1.size _, fun j hj u hu => ?_, fun q hq hl => ?_, fun q hq q' hq' hne hl1 hl2 => ?_, fun q hq hl => ?_⟩
      · by_cases e : j = r.p
        · subst e; rw [(hk r hr).1] at hu; cases hu
        · rw [upd_other e] at hj; rw [getD_setN (fun h => e h.symm)]; exact j2 j hj u hu
      · by_cases e : q.p = r.p
        · obtain rfl := nodup_map hp3 q hq r hr e
          refine ⟨w.heap.size, getD_setS hil, j1.size, ?_⟩
          rw [upd_other (hps q hq), if_neg (by rw [hLs]; decide)]
          exact Box.new w q.z t
        · rw [upd_other e] at hl
          obtain ⟨X, h1, h2, h3⟩ := j3 q hq hl
          refine ⟨X, by rw [getD_setN (fun h => e h.symm)]; exact h1, h2, ?_⟩
          rw [upd_other (hps q hq)]
          exact h3.alloc _
      · have key : ∀ q ∈ prs, q.p ≠ r.p → L q.p = true → vs.getD q.p undef ≠ .pointer (some ⟨w.heap.size, 0, none⟩) := by
          intro q hq e hl h
          obtain ⟨X, h1, h2, h3⟩ := j3 q hq hl
          rw [h1] at h
          injection h with h; injection h with h; injection h with h
          have := h3.lt
          omega
        by_cases e : q.p = r.p
        · have e' : q'.p ≠ r.p := fun h => hne (e.trans h.symm)
          rw [upd_other e'] at hl2
          rw [e, getD_setS hil, getD_setN (fun h => e' h.symm)]
          exact fun h => key q' hq' e' hl2 h.symm
        · rw [upd_other e] at hl1
          rw [getD_setN (fun h => e h.symm)]
          by_cases e' : q'.p = r.p
          · rw [e', getD_setS hil]; exact key q hq e hl1
          · rw [upd_other e'] at hl2
            rw [getD_setN (fun h => e' h.symm)]
            exact j4 q hq q' hq' hne hl1 hl2
      · rw [upd_other (hps q hq)] at hl
        by_cases e : q.p = r.p
        · rw [e]; exact upd_self _ _
        · rw [upd_other e]; exact j5 q hq hl
    · rw [hc] at hst
      obtain ⟨o2, ho2, e2, he2, hb2, hon⟩ := hsp r hr
      obtain rfl : o = o2 := by rw [hio] at ho2; exact Option.some.inj ho2
      have hLp : L r.p = true := by have := hdep e2 he2 hb2; rwa [hon] at this
      obtain ⟨X, h1, h2, h3⟩ := j3 r hr hLp
      rw [if_neg (by rw [hLi]; decide)] at h3
      refine relAt_mono (hst w X h1 hdi h3) ?_
      rintro v w' rfl
      have hps : ∀ q ∈ prs, q.p ≠ r.s := fun q hq => hp2 q hq r hr
      have hlen := (hk r hr).2.2
      refine ⟨j1.run h2 _, fun j hj u hu => ?_, fun q hq hl => ?_, fun q hq q' hq' hne hl1 hl2 => ?_, fun q hq hl => ?_⟩
      · by_cases e : j = r.s
        · subst e; rw [(hk r hr).2.1] at hu; cases hu
        · rw [upd_other e] at hj; rw [getD_setN (fun h => e h.symm)]; exact j2 j hj u hu
      · rw [upd_other (hps q hq)] at hl
        by_cases e : q.s = r.s
        · obtain rfl := nodup_map hp4 q hq r hr e
          refine ⟨X, by rw [getD_setN (fun h => hps q hq h.symm)]; exact h1, h2, ?_⟩
          rw [if_pos (upd_self _ _)]
          exact h3.fill hlen
        · obtain ⟨Y, k1, k2, k3⟩ := j3 q hq hl
          refine ⟨Y, by rw [getD_setN (fun h => hps q hq h.symm)]; exact k1, k2, ?_⟩
          rw [upd_other e]
          refine Box.keepR ?_ _ _ k3
          intro hXY
          have hne : q.p ≠ r.p := fun h => e (by rw [nodup_map hp3 q hq r hr h])
          exact j4 q hq r hr hne hl hLp (by rw [k1, h1, hXY])
      · rw [upd_other (hps q hq)] at hl1
        rw [upd_other (hps q' hq')] at hl2
        rw [getD_setN (fun h => hps q hq h.symm), getD_setN (fun h => hps q' hq' h.symm)]
        exact j4 q hq q' hq' hne hl1 hl2
      · rw [upd_other (hps q hq)]
        by_cases e : q.s = r.s
        · obtain rfl := nodup_map hp4 q hq r hr e
          exact hLp
        · rw [upd_other e] at hl; exact j5 q hq hl
end
end Go.Proofs.YtkpcdnbjngpooaaGreatDoor
