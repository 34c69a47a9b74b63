/- Lists of numbers: copies, and whether a number is among them. No condition. -/
import Derived.Test.YtfieilbcdhbigaaGreatDoorSmall
import Derived.Test.YtfieilbcdhbigaaGreatDoorApp
import Derived.Test.YtfieilbcdhbigaaGreatDoorInts
import Derived.Test.YtfieilbcdhbigaaGreatDoorStr
namespace Go.Proofs.YtfieilbcdhbigaaGreatDoor
open Go.ChangeShapes Go.WideShapes Go.ChangeAt Go.RowKit
set_option linter.unusedVariables false
set_option maxRecDepth 100000
/-- the numbers below k that are chosen -/
def selI (p : Int → Bool) : Nat → List Int
  | 0 => []
  | k + 1 => selI p k ++ (if p (k : Int) = true then [(k : Int)] else [])
theorem selI_succ (p : Int → Bool) (k : Nat) : selI p (k + 1) = selI p k ++ (if p (k : Int) = true then [(k : Int)] else []) := rfl
theorem selI_len (p : Int → Bool) (k : Nat) : (selI p k).length ≤ k := by
  induction k with
  | zero => exact Nat.le_refl _
  | succ k ih => rw [selI_succ, List.length_append]; split <;> simp <;> omega
def atI (xs : List Int) (k : Nat) : Int := xs.getD k 0
theorem atI_of {xs : List Int} {k : Nat} {x : Int} (h : xs[k]? = some x) : atI xs k = x := by unfold atI; rw [List.getD_eq_getElem?_getD, h]; rfl
/-- the rest of a slice -/
theorem Rds.dropI {w : World} {B b off n cap k : Nat} {xs : List Int} (h : RdI B w (.slice (some ⟨b, off, none⟩) n cap) xs) (hk : k ≤ n) (hn : 0 < n) :
    RdI B w (.slice (some ⟨b, off + k, none⟩) (n - k) (cap - k)) (xs.drop k) := by
  have hc := Rds.cap h
  have hcap := hc.2.2 hn
  rcases Nat.lt_or_ge k n with hlt | hge
  · have h1 := Rds.sub (lo := k) (hi := n) (cap' := cap - k) h (by omega) hlt ⟨by omega, by omega⟩
    rw [show k * eI.sz = k from Nat.mul_one k] at h1
    rw [List.take_of_length_le (by omega)] at h1
    exact h1
  · have hd : xs.drop k = [] := List.drop_of_length_le (by omega)
    rw [hd]
    refine ⟨⟨by simp [Elt.all], by simp, .inl ⟨rfl, some ⟨b, off + k, none⟩, cap - k, ?_, fun hh => by cases hh⟩⟩, fun x hx => by cases hx⟩
    rw [show n - k = 0 by omega]
theorem Rds.drop0 {w : World} {B b off n cap k : Nat} {xs : List Int} (h : RdI B w (.slice (some ⟨b, off, none⟩) n cap) xs) (hk : n ≤ k) :
    RdI B w (.slice (some ⟨b, off, none⟩) (n - k) 0) (xs.drop k) := by
  have hc := Rds.cap h
  have hd : xs.drop k = [] := List.drop_of_length_le (by omega)
  rw [hd]
  refine ⟨⟨by simp [Elt.all], by simp, .inl ⟨rfl, some ⟨b, off, none⟩, 0, ?_, fun hh => by cases hh⟩⟩, fun x hx => by cases hx⟩
  rw [show n - k = 0 by omega]
def hasI (xs : List Int) (x : Int) : Bool := xs.contains x
theorem hasI_take {xs : List Int} {k : Nat} {x y : Int} (hx : xs[k]? = some x) (h : hasI (xs.take k) y = false) : hasI (xs.take (k + 1)) y = (x == y) := by
  unfold hasI at *
  rw [take_snoc hx, List.contains_eq_any_beq, List.any_append, ← List.contains_eq_any_beq, h]
  simp
  rw [Bool.eq_iff_iff, beq_iff_eq, beq_iff_eq]
  exact eq_comm
theorem hasI_mem {xs : List Int} {k : Nat} {x : Int} (hx : xs[k]? = some x) : hasI xs x = true := by
  unfold hasI
  have := List.mem_of_getElem? hx
  simpa using this
theorem copyInts_c {xs : List Int} {v : Value} {w : World} {A : Nat} (ha : RdI A w v xs) (hl : xs.length ≤ 2097152) :
    Calls Tryz.prog 98 #[v] w fun e w' => ∃ u, e = .returned u ∧ OwnInt64S w.heap.size w' u xs ∧ Below w.heap.size w w' := by
  obtain ⟨i0, hi, hz0, hz1, hz2⟩ := info_parts Tryz.infoInt64
  have h0 : OwnInt64S w.heap.size (w.alloc (.cells #[] 2)) (.slice (some ⟨w.heap.size, 0, none⟩) 0 0) [] := Own.lit (E := eI) (xs := []) (cs := #[]) (Nat.le_refl _) rfl rfl (by decide) (fun x hx => by cases hx)
  have hb0 : Below w.heap.size w (w.alloc (.cells #[] 2)) := (Below.refl _ _).alloc (Nat.le_refl _) _
  have hr : RdI (w.heap.size + 1) (w.alloc (.cells #[] 2)) v xs := by have := Rds.onn ha hb0; simpa using this
  have H0 := Lib.hid h0
  have Hb0 := Lib.hid hb0
  have Hr := Lib.hid hr
  have Hl := Lib.hid hl
  clear h0 hb0 hr ha hl
  go_enter Tryz.func98, Tryz.ntmps98
  go_wp2_with (first | (at_builtin; refine wpList_appS (E := eI) rfl _ _ 41 rfl Tryz.underlying41 hi hz0 hz1 hz2 rfl (by decide) rfl rfl H0.out Hr.out ?b1 ?b2 ?b3 ?_))
  case b1 => have := Hl.out; unfold maxLen; simp; omega
  case b2 => have := Hl.out; simp; omega
  case b3 => simp
  intro v' w2 hR2 hg
  have hb2 := hg.below Hb0.out (by simp) (fun q hq => (H0.out.lt q hq).1)
  clear hg
  have hR3 : OwnInt64S w.heap.size w2 v' xs := hR2
  clear hR2
  have HR3 := Lib.hid hR3
  clear hR3
  go_wp2
  go_ret
  exact ⟨_, rfl, HR3.out, hb2⟩
end Go.Proofs.YtfieilbcdhbigaaGreatDoor
