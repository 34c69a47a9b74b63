/- Slices of slices of numbers of the call's own: made, marked, held. No condition. -/
import Derived.Test.YtpnmcgjfemaleaaMat
import Derived.Test.YtpnmcgjfemaleaaApp
namespace Go.Proofs.Ytpnmcgjfemaleaa
open Go.ChangeShapes Go.WideShapes Go.ChangeAt Go.RowKit
set_option linter.unusedVariables false
set_option maxRecDepth 100000
/-- two values that own no block in common -/
def Apart (v v' : Value) : Prop := ∀ g, v.ownBlock = some g → v'.ownBlock ≠ some g
theorem Apart.kept {v v' : Value} (h : Apart v v') : v'.ownBlock = none ∨ v'.ownBlock ≠ v.ownBlock := by
  cases hv : v.ownBlock with
  | none => cases h' : v'.ownBlock with
    | none => exact .inl rfl
    | some g => exact .inr (by simp)
  | some g => exact .inr (h g hv)
theorem ne_swap {a b : Option Nat} (h : a = none ∨ a ≠ b) : b = none ∨ b ≠ a := by
  rcases h with h | h
  · rw [h]
    cases b with
    | none => exact .inl rfl
    | some q => exact .inr (by simp)
  · exact .inr (Ne.symm h)
theorem OwnT.mono {α : Type} {E : Elt α} {e : TypeId} {base tp tp' : Nat} {w : World} {v : Value} {xs : List α} (h : OwnT E e base tp w v xs) (ht : tp ≤ tp') : OwnT E e base tp' w v xs := ⟨h.1, fun k hk => Nat.lt_of_lt_of_le (h.2 k hk) ht⟩
theorem OwnT.keep {α : Type} {E : Elt α} {e : TypeId} {base tp : Nat} {w w' : World} {v : Value} {xs : List α} {row : Option Nat} (h : OwnT E e base tp w v xs) (hg : w.grownBy w' row) (hne : v.ownBlock = none ∨ v.ownBlock ≠ row) : OwnT E e base tp w' v xs := ⟨h.1.kept hg hne, h.2⟩
def OwnTM (e : TypeId) (base tp : Nat) (w : World) (v : Value) (xss : List (List Int)) : Prop :=
  ∃ hs : List SlV, OwnT eS e base tp w v hs ∧ hs.length = xss.length ∧ (∀ (i : Nat) (h : SlV) (xs : List Int), hs[i]? = some h → xss[i]? = some xs → OwnT eI 2 base tp w h.val xs) ∧
    (∀ (i : Nat) (h : SlV), hs[i]? = some h → Apart v h.val) ∧ ∀ (i j : Nat) (h h' : SlV), i ≠ j → hs[i]? = some h → hs[j]? = some h' → Apart h.val h'.val
section
variable {e : TypeId} {base tp tp' B lo hi : Nat} {w w' : World} {v : Value} {xss : List (List Int)}
theorem OwnTM.mono (h : OwnTM e base tp w v xss) (ht : tp ≤ tp') : OwnTM e base tp' w v xss := by
  obtain ⟨hs, h1, h2, h3, h4⟩ := h
  exact ⟨hs, h1.mono ht, h2, fun i x xs e1 e2 => (h3 i x xs e1 e2).mono ht, h4⟩
theorem OwnTM.below (h : OwnTM e base tp w v xss) (hb : Below B w w') (hB : tp ≤ B) : OwnTM e base tp w' v xss := by
  obtain ⟨hs, h1, h2, h3, h4⟩ := h
  exact ⟨hs, h1.below hb hB, h2, fun i x xs e1 e2 => (h3 i x xs e1 e2).below hb hB, h4⟩
theorem OwnTM.within (h : OwnTM e base tp w v xss) (hw : Within lo hi w w') (hhi : hi ≤ base) : OwnTM e base tp w' v xss := by
  obtain ⟨hs, h1, h2, h3, h4⟩ := h
  exact ⟨hs, h1.within hw hhi, h2, fun i x xs e1 e2 => (h3 i x xs e1 e2).within hw hhi, h4⟩
theorem OwnTM.rds (h : OwnTM e base tp w v xss) : RdInt64SS tp w v xss := by
  obtain ⟨hs, h1, h2, h3, _⟩ := h
  exact ⟨hs, h1.rds, h2, fun i x xs e1 e2 => (h3 i x xs e1 e2).rds⟩
theorem OwnTM.nil (e : TypeId) (base tp : Nat) (w : World) : OwnTM e base tp w (.slice none 0 0) [] :=
  ⟨[], ⟨Own.nil _ _ _ _, fun k hk => by cases hk⟩, rfl, fun i h xs e1 => by simp at e1, fun i h e1 => by simp at e1, fun i j h h' _ e1 => by simp at e1⟩
theorem OwnTM.shape (h : OwnTM e base tp w v xss) : ∃ ao cap, v = .slice ao xss.length cap := h.rds.shape
theorem OwnTM.addr (h : OwnTM e base tp w v xss) (h0 : 0 < xss.length) : ∃ g cap, v = .slice (some ⟨g, 0, none⟩) xss.length cap ∧ base ≤ g ∧ g < tp ∧ g < w.heap.size := by
  obtain ⟨hs, h1, h2, _⟩ := h
  obtain ⟨g, cap, hv, h3, h4⟩ := h1.1.addr (by omega)
  exact ⟨g, cap, by rw [← h2]; exact hv, h3, h1.2 g (by rw [hv]; rfl), h4⟩
/-- a row, just made, is laid in -/
theorem OwnTM.put {g n cap k : Nat} {xs : List Int} {u : Value} (h : OwnTM e base tp w (.slice (some ⟨g, 0, none⟩) n cap) xss) (hn : n = xss.length) (hk : k < n) (hu : Own eI 2 tp w u xs) (hb : base ≤ tp) (ht : tp ≤ w.heap.size) :
    (∃ y, w.cell? ⟨g, k, none⟩ = some y) ∧ w.frozen? ⟨g, k, none⟩ = false ∧ OwnTM e base w.heap.size (w.setCell ⟨g, k, none⟩ u) (.slice (some ⟨g, 0, none⟩) n cap) (xss.set k xs) ∧ w.grownBy (w.setCell ⟨g, k, none⟩ u) (some g) := by
  obtain ⟨hs, h1, h2, h3, h4, h5⟩ := h
  obtain ⟨ao, c, hu2⟩ := hu.shape
  have hg : g < tp := h1.2 g rfl
  have hk2 : hs[k]? = some (hs[k]'(by omega)) := List.getElem?_eq_getElem (by omega)
  have hst := Own.store1 (E := eS) (by decide) h1.1 (by omega) (x := hs[k]'(by omega)) (y := ⟨ao, xs.length, c⟩) (v := u) hk2 (j := 0) (by decide) (by rw [hu2]; rfl) trivial
  have hc := Own.cellE (E := eS) h1.1 (by omega) (k := k) (j := 0) hk (by decide)
  simp only [show eS.sz = 1 from rfl, Nat.mul_one, Nat.add_zero] at hst hc
  have hu3 : ∀ j, u.ownBlock = some j → tp ≤ j ∧ j < w.heap.size := hu.lt
  have hval : SlV.val ⟨ao, xs.length, c⟩ = u := hu2.symm
  have hsz : (w.setCell ⟨g, k, none⟩ u).heap.size = w.heap.size := by simp
  refine ⟨hc.1, hc.2, ⟨hs.set k ⟨ao, xs.length, c⟩, ⟨hst.1, fun j hj => by have : g = j := Option.some.inj hj; omega⟩, by simp [h2], ?_, ?_, ?_⟩, hst.2⟩
  · intro i x ys e1 e2
    rw [List.getElem?_set] at e1 e2
    by_cases hik : k = i
    · subst hik
      rw [if_pos rfl] at e1 e2
      rw [if_pos (by omega)] at e1 e2
      cases e1; cases e2
      rw [hval]
      refine ⟨(hu.mono hb).kept hst.2 ?_, fun j hj => (hu3 j hj).2⟩
      cases hub : u.ownBlock with
      | none => exact .inl rfl
      | some j => exact .inr (by have := hu3 j hub; intro hh; cases hh; omega)
    · rw [if_neg hik] at e1 e2
      exact ((h3 i x ys e1 e2).mono ht).keep hst.2 (h4 i x e1).kept
  · intro i x e1
    rw [List.getElem?_set] at e1
    by_cases hik : k = i
    · subst hik
      rw [if_pos rfl, if_pos (by omega)] at e1
      cases e1
      rw [hval]
      intro j hj hj2
      cases hj
      have := hu3 g hj2
      omega
    · rw [if_neg hik] at e1
      exact h4 i x e1
  · intro i j x y hij e1 e2
    rw [List.getElem?_set] at e1 e2
    by_cases hik : k = i
    · subst hik
      rw [if_pos rfl, if_pos (by omega)] at e1
      rw [if_neg hij] at e2
      cases e1
      rw [hval]
      intro q hq hq2
      have := hu3 q hq
      have h7 : j < hs.length := at_lt e2
      have := (h3 j y (xss[j]'(by omega)) e2 (List.getElem?_eq_getElem (by omega))).2 q hq2
      omega
    · rw [if_neg hik] at e1
      by_cases hjk : k = j
      · subst hjk
        rw [if_pos rfl, if_pos (by omega)] at e2
        cases e2
        rw [hval]
        intro q hq hq2
        have := hu3 q hq2
        have h7 : i < hs.length := at_lt e1
        have := (h3 i x (xss[i]'(by omega)) e1 (List.getElem?_eq_getElem (by omega))).2 q hq
        omega
      · rw [if_neg hjk] at e2
        exact h5 i j x y hij e1 e2
/-- a row, read; and put back -/
theorem OwnTM.row {g n cap k : Nat} {xs : List Int} (h : OwnTM e base tp w (.slice (some ⟨g, 0, none⟩) n cap) xss) (hx : xss[k]? = some xs) :
    ∃ ao c, w.cell? ⟨g, k, none⟩ = some (.slice ao xs.length c) ∧ OwnT eI 2 base tp w (.slice ao xs.length c) xs ∧
      ∀ (w' : World) (ys : List Int), OwnT eI 2 base tp w' (.slice ao xs.length c) ys → w.grownBy w' (Value.slice ao xs.length c).ownBlock → OwnTM e base tp w' (.slice (some ⟨g, 0, none⟩) n cap) (xss.set k ys) := by
  obtain ⟨hs, h1, h2, h3, h4, h5⟩ := h
  have hk := at_lt hx
  have hk2 : hs[k]? = some (hs[k]'(by omega)) := List.getElem?_eq_getElem (by omega)
  generalize hs[k]'(by omega) = x at hk2
  have h6 := h3 k x xs hk2 hx
  obtain ⟨ao, c, hv⟩ := h6.1.shape
  have hx2 : x = ⟨ao, xs.length, c⟩ := by cases x; simp only [SlV.val, Value.slice.injEq] at hv; obtain ⟨a1, a2, a3⟩ := hv; subst a1; subst a2; subst a3; rfl
  rw [hv] at h6
  have hcell : w.cell? ⟨g, k, none⟩ = some (.slice ao xs.length c) := by
    have hn : n = hs.length := by
      obtain ⟨a, b, hh⟩ := h1.1.shape
      cases hh; rfl
    subst hn
    have h7 := World.ownsRow.cellAt h1.1.1 (k * 1 + 0) (by show _ < hs.length * 1; omega)
    have h8 := Elt.all_get eS hk2 (j := 0) (by decide)
    have h9 : (eS.cells x)[0]? = some x.val := rfl
    rw [show eS.sz = 1 from rfl] at h8
    rw [h8, h9, hv, Nat.mul_one, Nat.add_zero] at h7
    exact h7
  refine ⟨ao, c, hcell, h6, fun w' ys ho hg => ⟨hs, ?_, by simp [h2], ?_, h4, h5⟩⟩
  · refine h1.keep hg ?_
    have h7 := h4 k x hk2
    rw [hv] at h7
    cases hb : (Value.slice ao xs.length c).ownBlock with
    | none => exact .inr (by intro hh; cases hh)
    | some q => exact .inr (by intro hh; exact h7 g rfl (by rw [hb]; exact hh.symm))
  · intro i y zs e1 e2
    rw [List.getElem?_set] at e2
    by_cases hik : k = i
    · subst hik
      rw [if_pos rfl, if_pos hk] at e2
      cases e2
      rw [hk2] at e1
      cases e1
      rw [hv]
      exact ho
    · rw [if_neg hik] at e2
      have h7 := h5 k i x y hik hk2 e1
      rw [hv] at h7
      exact (h3 i y zs e1 e2).keep hg h7.kept
end
theorem set_take_rows {xss : List (List Int)} {k n : Nat} {x : List Int} (hx : xss[k]? = some x) (hn : n = xss.length) (hk : k < n) : (xss.take k ++ List.replicate (n - k) []).set k x = xss.take (k + 1) ++ List.replicate (n - (k + 1)) [] := by
  have hl := at_lt hx
  rw [take_snoc hx]
  have e : n - k = (n - (k + 1)) + 1 := by omega
  have h0 : (xss.take k).length = k := by simp; omega
  rw [e, List.replicate_succ, List.set_append_right _ _ (by omega), h0, Nat.sub_self]
  simp
/-- the marks of rows -/
def mkRows : Int → List (List Int) → List (List Int)
  | _, [] => []
  | k, x :: xs => markL k x.length :: mkRows (k + x.length) xs
theorem mkRows_length : ∀ (k : Int) (xs : List (List Int)), (mkRows k xs).length = xs.length := by
  intro k xs
  induction xs generalizing k with
  | nil => rfl
  | cons x xs ih => simp [mkRows, ih]
theorem sumBy_eq (y : List Int) (xs : List (List Int)) : sumBy (fun r : List Int => (r.length : Int)) (y :: xs) = y.length + sumBy (fun r : List Int => (r.length : Int)) xs := by
  have h := sumBy_append (fun r : List Int => (r.length : Int)) [y] xs
  have h2 := sumBy_snoc (fun r : List Int => (r.length : Int)) (xs := [y]) (k := 0) rfl
  simp [sumBy] at h h2
  simp [sumBy]
theorem mkRows_snoc : ∀ (xs : List (List Int)) (k : Int) (x : List Int), mkRows k (xs ++ [x]) = mkRows k xs ++ [markL (k + sumBy (fun r : List Int => (r.length : Int)) xs) x.length] := by
  intro xs
  induction xs with
  | nil => intro k x; simp [mkRows, sumBy]
  | cons y xs ih =>
    intro k x
    simp only [List.cons_append, mkRows, ih]
    rw [show sumBy (fun r : List Int => (r.length : Int)) (y :: xs) = y.length + sumBy (fun r : List Int => (r.length : Int)) xs from sumBy_eq y xs, Int.add_assoc]
theorem mkRows_set {xss : List (List Int)} {j : Nat} {x : List Int} {k : Int} (hx : xss[j]? = some x) : (mkRows k (xss.take j) ++ xss.drop j).set j (markL (k + sumBy (fun r : List Int => (r.length : Int)) (xss.take j)) x.length) = mkRows k (xss.take (j + 1)) ++ xss.drop (j + 1) := by
  have hl := at_lt hx
  rw [take_snoc hx, mkRows_snoc]
  have h0 : (mkRows k (xss.take j)).length = j := by rw [mkRows_length]; simp; omega
  have hd : xss.drop j = x :: xss.drop (j + 1) := by rw [List.drop_eq_getElem_cons hl, (List.getElem?_eq_some_iff.1 hx).2]
  rw [hd, List.set_append_right _ _ (by omega), h0, Nat.sub_self]
  simp
theorem mkRows_get {xss : List (List Int)} {j : Nat} {x : List Int} {k : Int} (hx : xss[j]? = some x) : (mkRows k xss)[j]? = some (markL (k + sumBy (fun r : List Int => (r.length : Int)) (xss.take j)) x.length) := by
  have hl := at_lt hx
  have h1 : xss = xss.take (j + 1) ++ xss.drop (j + 1) := by simp
  have h2 : ∀ (a b : List (List Int)) (k : Int), mkRows k (a ++ b) = mkRows k a ++ mkRows (k + sumBy (fun r : List Int => (r.length : Int)) a) b := by
    intro a
    induction a with
    | nil => intro b k; simp [mkRows, sumBy]
    | cons y a ih => intro b k; simp only [List.cons_append, mkRows, ih]; rw [sumBy_eq y a, Int.add_assoc]
  conv => lhs; rw [h1, h2, take_snoc hx, mkRows_snoc]
  have h3 : (mkRows k (xss.take j)).length = j := by rw [mkRows_length, List.length_take]; omega
  rw [List.append_assoc, List.getElem?_append_right (by omega), h3, Nat.sub_self]
  rfl
theorem Try.infoSlI : (Try.prog.info? 29).map (fun i => (i.zero, i.size, i.bytes)) = some (some (.slice none 0 0), 1, 24) := by kernel_rfl
abbrev OwnTInt64SS (base top : Nat) (w : World) (v : Value) (x : List (List Int)) : Prop := OwnTM 29 base top w v x
def OwnInt64SS (base : Nat) (w : World) (v : Value) (x : List (List Int)) : Prop := OwnTM 29 base w.heap.size w v x
theorem OwnInt64SS.top {base : Nat} {w : World} {v : Value} {x : List (List Int)} (h : OwnInt64SS base w v x) : OwnTInt64SS base w.heap.size w v x := h
theorem OwnInt64SS.rds {base : Nat} {w : World} {v : Value} {x : List (List Int)} (h : OwnInt64SS base w v x) : RdInt64SS w.heap.size w v x := OwnTM.rds h
def mkInt64SS (k : Int) (x : List (List Int)) : List (List Int) := mkRows k x
theorem toInt64SS_c {w : World} {A : Nat} {xss : List (List Int)} {v : Value} (ha : RdInt64SS A w v xss) (hl : szInt64SS xss ≤ 1048576) :
    Calls Try.prog 16 #[v] w fun e w' => ∃ u, e = .returned u ∧ OwnInt64SS w.heap.size w' u xss ∧ Below w.heap.size w w' := by
  have hl2 : xss.length ≤ 1048576 := by have := szInt64SS_len xss; omega
  have hrow : ∀ (k : Nat) (x : List Int), xss[k]? = some x → x.length ≤ 1048576 := by
    intro k x hx
    have h4 := sumBy_snoc (fun r : List Int => (r.length : Int)) hx
    have h5 := sumBy_take_le (f := fun r : List Int => (r.length : Int)) (fun r => by omega) xss (k + 1)
    have h6 := sumBy_nonneg (f := fun r : List Int => (r.length : Int)) (fun r => by omega) (xss.take k)
    unfold szInt64SS at hl
    omega
  have ha := ha.tight
  have hle := ha.le
  obtain ⟨ao, cap, rfl, ho⟩ := ha.open
  obtain ⟨n, hn⟩ : ∃ n, n = xss.length := ⟨_, rfl⟩
  rw [← hn]
  have Hn := Lib.hid hn
  have Ho := Lib.hid ho
  have Hrow := Lib.hid hrow
  have hle' : n ≤ 1048576 := by omega
  obtain ⟨i0, hi, hz0, hz1, hz2⟩ := info_parts Try.infoSlI
  clear ho hn hle ha hl hl2 hrow
  go_enter Try.func16, Try.ntmps16
  go_wp2_with (first | (at_make; refine wpList_make_full _ rfl _ _ 22 rfl w.heap.size 29 i0 (.slice none 0 0) 1 Try.underlying22 hi hz0 hz1 _ _ _ _ n rfl rfl rfl rfl ?b1 ?b2 (Nat.le_refl _) ?_))
  case b1 => first | omega | (rw [hz2]; omega)
  case b2 => unfold maxLen; omega
  intro w1 hown hgr
  have hb1 : Below w.heap.size w w1 := (Below.refl _ _).grown hgr (Nat.le_refl _) (fun k hk => by cases hk)
  have hown0 : OwnTM 29 w.heap.size w1.heap.size w1 (.slice (some ⟨w.heap.size, 0, none⟩) n n) (xss.take 0 ++ List.replicate (n - 0) []) := by
    have h1 : Own eS 29 w.heap.size w1 (.slice (some ⟨w.heap.size, 0, none⟩) n n) (List.replicate n ⟨none, 0, 0⟩) := by
      refine ⟨?_, fun x hx => trivial⟩
      have hown2 : w1.ownsRow w.heap.size 29 eS.sz (.slice (some ⟨w.heap.size, 0, none⟩) n n) n (madeCells (Value.slice none 0 0).cells (n * eS.sz)).toList := by rw [show n * eS.sz = n from Nat.mul_one n]; exact hown
      rw [Elt.all_made (E := eS) (z := ⟨none, 0, 0⟩) (zv := Value.slice none 0 0) (by decide) rfl n] at hown2
      simpa using hown2
    refine ⟨List.replicate n ⟨none, 0, 0⟩, h1.top, by simp, ?_, ?_, ?_⟩
    · intro i h xs e1 e2
      simp only [List.take_zero, List.nil_append, Nat.sub_zero] at e2
      rw [List.getElem?_replicate] at e1 e2
      by_cases hi : i < n
      · rw [if_pos hi] at e1 e2; cases e1; cases e2; exact ⟨Own.nil _ _ _ _, fun k hk => by cases hk⟩
      · rw [if_neg hi] at e1; cases e1
    · intro i h e1
      rw [List.getElem?_replicate] at e1
      by_cases hi : i < n
      · rw [if_pos hi] at e1; cases e1; intro g _ hg; cases hg
      · rw [if_neg hi] at e1; cases e1
    · intro i j h h' _ e1 e2
      rw [List.getElem?_replicate] at e1
      by_cases hi : i < n
      · rw [if_pos hi] at e1; cases e1; intro g hg; cases hg
      · rw [if_neg hi] at e1; cases e1
  clear hown hgr
  go_wp2
  go_loopw [4] (fun i wr => ∃ k : Nat, k ≤ n ∧ i = .int .i64 k ∧ OwnTM 29 w.heap.size wr.heap.size wr (.slice (some ⟨w.heap.size, 0, none⟩) n n) (xss.take k ++ List.replicate (n - k) []) ∧ Below w.heap.size w wr) (fun i _ => n - (intOf i).toNat)
  case atStart => exact ⟨0, Nat.zero_le _, rfl, hown0, hb1⟩
  case round =>
    obtain ⟨k, hk, rfl, hw, hb⟩ := hrel
    by_cases hkn : k < n
    · obtain ⟨b, off, rfl, hlt, hc⟩ := Ho.out (by have := Hn.out; omega)
      obtain ⟨x, ro, rc, hx, hcell, hrd⟩ := hc k (by have := Hn.out; omega)
      have hrd2 := hrd.below hb (Nat.le_refl _)
      have hl3 := Hrow.out k x hx
      have Hx := Lib.hid hx
      clear hx hc hrd hb1 hown0
      have d := (hb.cell (p := ⟨b, off + k, none⟩) hlt.2).trans hcell
      clear hcell
      have Hrd := Lib.hid hrd2
      clear hrd2
      have hb0 := hb.size
      go_wp2_with fail
      with_reducible refine (toI Hrd.out hl3).mono ?_
      rintro e w2 ⟨u, rfl, hu, hb2⟩
      have hw2 := hw.below hb2 (Nat.le_refl _)
      have hb3 : Below w.heap.size w w2 := hb.trans (hb2.mono hb0)
      have hlen : n = (xss.take k ++ List.replicate (n - k) []).length := by have := Hn.out; simp; omega
      obtain ⟨uo, uc, rfl⟩ := hu.shape
      obtain ⟨⟨y, hy⟩, hf, ho, hg⟩ := hw2.put hlen hkn hu hb0 hb2.size
      have Hst := Lib.hid ho
      have Hb3 := Lib.hid hb3
      clear ho hlen hb hb2 hw hw2 hb3 d hu hg
      go_wp2
      go_roundw
      case rel => exact ⟨k + 1, by omega, by go_num, by have h := Hst.out; rw [set_take_rows Hx.out Hn.out hkn] at h; simpa using h, Hb3.out.setCell (Nat.le_refl _) _⟩
      case measure => simp [intOf]; omega
    · go_wp2
      go_ret
      refine ⟨_, rfl, ?_, hb⟩
      have := Hn.out
      rw [List.take_of_length_le (by omega), show n - k = 0 by omega] at hw
      simpa [OwnInt64SS] using hw
theorem markInt64SS_c {xss : List (List Int)} {base top : Nat} {v : Value} {w : World} (k : Int) (ha : OwnTInt64SS base top w v xss) (hk : 0 ≤ k) (hl : k + cntInt64SS xss ≤ 9223372036854775807) :
    Calls Try.prog 24 #[v, .int .i64 k] w fun e w' => e = .returned (.int .i64 (k + cntInt64SS xss)) ∧ OwnTInt64SS base top w' v (mkInt64SS k xss) ∧ Within base top w w' := by
  have hle := ha.rds.le
  obtain ⟨ao, cap, rfl⟩ := ha.shape
  obtain ⟨n, hn⟩ : ∃ n, n = xss.length := ⟨_, rfl⟩
  have hcnt : (cntInt64SS xss : Int) = sumBy (fun r : List Int => (r.length : Int)) xss := by unfold cntInt64SS; have := sumBy_nonneg (f := fun r : List Int => (r.length : Int)) (fun r => by omega) xss; omega
  rw [hcnt] at hl ⊢
  rw [← hn] at ha ⊢
  have Hn := Lib.hid hn
  have Hl := Lib.hid hl
  have hle' : n ≤ 9223372036854775807 := by omega
  clear hn hle hl hcnt
  go_enter Try.func24, Try.ntmps24
  go_wp2
  go_loopw [1, 5] (fun c i wr => ∃ j : Nat, j ≤ n ∧ i = .int .i64 j ∧ ∃ s : Int, c = .int .i64 (k + s) ∧ s = sumBy (fun r : List Int => (r.length : Int)) (xss.take j) ∧ 0 ≤ s ∧ OwnTM 29 base top wr (.slice ao n cap) (mkRows k (xss.take j) ++ xss.drop j) ∧ Within base top w wr) (fun _ i _ => n - (intOf i).toNat)
  case atStart => exact ⟨0, Nat.zero_le _, rfl, 0, by simp, by simp [sumBy], by omega, by simpa [mkRows] using ha, Within.refl _ _ _⟩
  case round =>
    obtain ⟨j, hj, rfl, s, rfl, hs, hs0, hw, hwi⟩ := hrel
    clear ha
    by_cases hjn : j < n
    · have hlen : (mkRows k (xss.take j) ++ xss.drop j).length = n := by have := Hn.out; rw [List.length_append, mkRows_length]; simp; omega
      obtain ⟨g, cp, hv, hg1, hg2, hg3⟩ := hw.addr (by omega)
      obtain ⟨hv1, hv2, hv3⟩ := Value.slice.inj hv
      subst hv1; subst hv3
      clear hv2
      have hx : xss[j]? = some (xss[j]'(by have := Hn.out; omega)) := List.getElem?_eq_getElem _
      generalize xss[j]'(by have := Hn.out; omega) = x at hx
      have hx2 : (mkRows k (xss.take j) ++ xss.drop j)[j]? = some x := by
        have h0 : (mkRows k (xss.take j)).length = j := by rw [mkRows_length]; have := Hn.out; simp; omega
        rw [List.getElem?_append_right (by omega), h0, Nat.sub_self, List.getElem?_drop, Nat.add_zero]; exact hx
      obtain ⟨ro, rc, hcell, hown, hback⟩ := hw.row hx2
      have h4 := sumBy_snoc (fun r : List Int => (r.length : Int)) hx
      have h5 := sumBy_take_le (f := fun r : List Int => (r.length : Int)) (fun r => by omega) xss (j + 1)
      have hl2 : (k + s) + x.length ≤ 9223372036854775807 := by have := Hl.out; omega
      have Hx := Lib.hid hx
      have ho1 := hown.1
      have ho2 := hown.2
      have Ho1 := Lib.hid ho1
      have Ho2 := Lib.hid ho2
      have Hback := Lib.hid hback
      have Hs := Lib.hid hs
      have Hwi := Lib.hid hwi
      clear hx hx2 hown ho1 ho2 hback hs hw hv hwi h4 h5 hlen
      go_wp2_with fail
      with_reducible refine (markI (k + s) Ho1.out (by omega) hl2).mono ?_
      rintro e w2 ⟨rfl, ho, hg, hz⟩
      have ht := Hback.out w2 _ ⟨ho, Ho2.out⟩ hg
      rw [Hs.out, mkRows_set Hx.out] at ht
      have Ht := Lib.hid ht
      have hwi2 : Within base top w w2 := Hwi.out.trans (Within.of_grown hg fun q hq => ⟨(Ho1.out.lt q hq).1, Ho2.out q hq⟩)
      have Hwi2 := Lib.hid hwi2
      clear ho hg ht hwi2 hz
      go_wp2
      go_roundw
      case rel => exact ⟨j + 1, by omega, by go_num, s + x.length, by go_num, by rw [sumBy_snoc (fun r : List Int => (r.length : Int)) Hx.out, ← Hs.out], by omega, Ht.out, Hwi2.out⟩
      case measure => simp [intOf]; omega
    · go_wp2
      go_ret
      have := Hn.out
      rw [List.take_of_length_le (by omega)] at hs
      rw [List.take_of_length_le (by omega), List.drop_of_length_le (by omega), List.append_nil] at hw
      exact ⟨ret_int (by rw [hs]), hw, hwi⟩
theorem heldInt64SS_c {xss : List (List Int)} {v : Value} {w : World} {A : Nat} (k : Int) (ha : RdInt64SS A w v (mkInt64SS k xss)) (hk : 0 ≤ k) (hl : k + cntInt64SS xss ≤ 9223372036854775807) :
    Calls Try.prog 38 #[v, .int .i64 k] w fun e w' => e = .returned (.int .i64 (k + cntInt64SS xss)) ∧ Below w.heap.size w w' := by
  have hle := ha.le
  obtain ⟨ao, cap, rfl, ho⟩ := ha.open
  have e0 : (mkInt64SS k xss).length = xss.length := mkRows_length _ _
  rw [e0] at hle ho ⊢
  obtain ⟨n, hn⟩ : ∃ n, n = xss.length := ⟨_, rfl⟩
  have hcnt : (cntInt64SS xss : Int) = sumBy (fun r : List Int => (r.length : Int)) xss := by unfold cntInt64SS; have := sumBy_nonneg (f := fun r : List Int => (r.length : Int)) (fun r => by omega) xss; omega
  rw [hcnt] at hl ⊢
  rw [← hn] at ho ⊢
  have Hn := Lib.hid hn
  have Ho := Lib.hid ho
  have Hl := Lib.hid hl
  have hle' : n ≤ 9223372036854775807 := by omega
  clear ho hn hle ha hl hcnt e0
  go_enter Try.func38, Try.ntmps38
  go_wp2
  go_loopw [1, 5] (fun c i wr => ∃ j : Nat, j ≤ n ∧ i = .int .i64 j ∧ ∃ s : Int, c = .int .i64 (k + s) ∧ Hid (s = sumBy (fun r : List Int => (r.length : Int)) (xss.take j)) ∧ 0 ≤ s ∧ wr = w) (fun _ i _ => n - (intOf i).toNat)
  case atStart => exact ⟨0, Nat.zero_le _, rfl, 0, by simp, by show (0 : Int) = _; simp [sumBy], by omega, by first | rfl | trivial⟩
  case round =>
    obtain ⟨j, hj, rfl, s, rfl, hs, hs0, rfl⟩ := hrel
    by_cases hjn : j < n
    · obtain ⟨b, off, rfl, hlt, hc⟩ := Ho.out (by omega)
      obtain ⟨y, ro, rc, hy, hcell, hrd⟩ := hc j hjn
      have hx : xss[j]? = some (xss[j]'(by have := Hn.out; omega)) := List.getElem?_eq_getElem _
      generalize xss[j]'(by have := Hn.out; omega) = x at hx
      have hy2 : y = markL (k + s) x.length := by
        have := mkRows_get (k := k) hx
        rw [← hs.out] at this
        exact Option.some.inj (hy.symm.trans this)
      subst hy2
      have h4 := sumBy_snoc (fun r : List Int => (r.length : Int)) hx
      have h5 := sumBy_take_le (f := fun r : List Int => (r.length : Int)) (fun r => by omega) xss (j + 1)
      have hl2 : (k + s) + x.length ≤ 9223372036854775807 := by have := Hl.out; have := hs.out; omega
      have Hx := Lib.hid hx
      have Hrd := Lib.hid hrd
      clear hx hc hrd hy h4 h5
      go_wp2_with fail
      with_reducible refine (heldI (k + s) Hrd.out (by omega) hl2).mono ?_
      rintro e w1 ⟨rfl, rfl⟩
      go_wp2
      go_roundw
      case rel => exact ⟨j + 1, by omega, by go_num, s + x.length, by go_num, by show s + x.length = _; rw [sumBy_snoc (fun r : List Int => (r.length : Int)) Hx.out, ← hs.out], by omega, by first | rfl | trivial⟩
      case measure => simp [intOf]; omega
    · go_wp2
      go_ret
      refine ⟨ret_int ?_, Below.refl _ _⟩
      rw [hs.out, List.take_of_length_le (by have := Hn.out; omega)]
end Go.Proofs.Ytpnmcgjfemaleaa
