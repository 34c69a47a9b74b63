/- What columns say: texts and numbers, in plain words. No condition. -/
import Derived.Test.YtfieilbcdhbigaaGreatDoorRank
namespace Go.Proofs.YtfieilbcdhbigaaGreatDoor
open Go.ChangeShapes Go.WideShapes Go.ChangeAt Go.RowKit
set_option linter.unusedVariables false
set_option maxRecDepth 100000
def okTx (h : List Int) : Bool := !h.any noCh
def txI (h : List Int) : List Int := h.map chrI
def toB (l : List Int) : ByteArray := ⟨(l.map fun c => c.toNat.toUInt8).toArray⟩
theorem bytesI_toB {l : List Int} (h : ∀ c ∈ l, 0 ≤ c ∧ c ≤ 255) : bytesI (toB l) = l := by
  unfold bytesI toB
  simp only [List.map_map]
  conv => rhs; rw [← List.map_id l]
  refine List.map_congr_left fun c hc => ?_
  have := h c hc
  simp only [Function.comp, id]
  have h1 : c.toNat < 256 := by omega
  have h2 : (c.toNat.toUInt8).toNat = c.toNat := by simp; omega
  rw [h2]; omega
theorem toB_bytesI (s : ByteArray) : toB (bytesI s) = s := by
  unfold toB bytesI
  rw [List.map_map]
  cases s with
  | mk d =>
    congr 1
    apply Array.toList_inj.1
    simp only
    conv => rhs; rw [← List.map_id d.toList]
    refine List.map_congr_left fun c hc => ?_
    simp
theorem toB_size (l : List Int) : (toB l).size = l.length := by unfold toB ByteArray.size; simp
theorem txI_bd {h : List Int} (ho : okTx h = true) : ∀ c ∈ txI h, 0 ≤ c ∧ c ≤ 255 := by
  intro c hc
  obtain ⟨m, hm, rfl⟩ := List.mem_map.1 hc
  unfold okTx at ho
  have h1 : h.any noCh = false := by simpa using ho
  have h2 := List.any_eq_false.1 h1 m hm
  unfold noCh at h2
  obtain ⟨k, hk, _, he⟩ := rk_neg (m := m) (by simpa using h2)
  have := chA_bd ⟨k, hk⟩
  rw [he]
  exact ⟨this.1, this.2.1⟩
/-- without the blanks at its end -/
def trimL : List Int → List Int
  | [] => []
  | c :: l => if c = 32 ∧ trimL l = [] then [] else c :: trimL l
theorem trimL_snoc_blank (l : List Int) : trimL (l ++ [32]) = trimL l := by
  induction l with
  | nil => rfl
  | cons c l ih => show (if c = 32 ∧ trimL (l ++ [32]) = [] then [] else c :: trimL (l ++ [32])) = _; rw [ih]; rfl
theorem trimL_snoc_other {l : List Int} {c : Int} (h : c ≠ 32) : trimL (l ++ [c]) = l ++ [c] := by
  induction l with
  | nil => show (if c = 32 ∧ trimL [] = [] then [] else c :: trimL []) = _; rw [if_neg (fun e => h e.1)]; rfl
  | cons d l ih =>
    show (if d = 32 ∧ trimL (l ++ [c]) = [] then [] else d :: trimL (l ++ [c])) = _
    rw [ih, if_neg (fun e => by have := e.2; simp at this)]
    rfl
theorem trimL_len (l : List Int) : (trimL l).length ≤ l.length := by
  induction l with
  | nil => exact Nat.le_refl _
  | cons c l ih => show (if c = 32 ∧ trimL l = [] then [] else c :: trimL l).length ≤ _; split <;> simp; exact ih
theorem trimL_mem {l : List Int} {c : Int} (h : c ∈ trimL l) : c ∈ l := by
  induction l with
  | nil => cases h
  | cons d l ih =>
    change c ∈ (if d = 32 ∧ trimL l = [] then [] else d :: trimL l) at h
    split at h
    · cases h
    · rcases List.mem_cons.1 h with rfl | h
      · exact List.mem_cons_self ..
      · exact List.mem_cons_of_mem _ (ih h)
/-- the text of columns, without the blanks at its end -/
def whoV (h : List Int) : ByteArray := if okTx h = true then toB (trimL (txI h)) else ⟨#[]⟩
/-- a text with capital letters -/
def capI (c : Int) : Int := if 97 ≤ c ∧ c ≤ 122 then c - 32 else c
def capB (s : ByteArray) : ByteArray := toB ((bytesI s).map capI)
/-- the digit of a column; -1 if it has none -/
def digN (m : Int) : Option Nat := (List.range 10).find? (fun d => decide ((4 * 2 ^ d : Int) = m))
def digI (m : Int) : Int := match digN m with
  | some d => d
  | none => -1
theorem dig_found {m : Int} {d : Nat} (hd : d < 10) (h : (4 * 2 ^ d : Int) = m) : digI m = d := by
  have hh : d = 0 ∨ d = 1 ∨ d = 2 ∨ d = 3 ∨ d = 4 ∨ d = 5 ∨ d = 6 ∨ d = 7 ∨ d = 8 ∨ d = 9 := by omega
  subst h
  rcases hh with rfl | rfl | rfl | rfl | rfl | rfl | rfl | rfl | rfl | rfl <;> decide +kernel
theorem dig_none {m : Int} (h : ∀ d : Nat, d < 10 → (4 * 2 ^ d : Int) ≠ m) : digI m = -1 := by
  have : digN m = none := by
    unfold digN
    rw [List.find?_eq_none]
    intro d hd
    have := h d (List.mem_range.1 hd)
    simpa using this
  unfold digI; rw [this]
theorem dig_bd (m : Int) : -1 ≤ digI m ∧ digI m ≤ 9 := by
  unfold digI
  cases h : digN m with
  | none => simp
  | some d =>
    have := List.mem_of_find?_eq_some h
    have := List.mem_range.1 this
    simp only
    omega
theorem dig_zero : digI 0 = -1 := by decide +kernel
/-- the sign is punched -/
def sgnB (m : Int) : Bool := bits BinOp.and IntKind.i64 m 2 != 0
theorem sgn_fin : ∀ m : Fin 4096, (sgnB (m.val : Int) = true → bits BinOp.and IntKind.i64 (m.val : Int) 2 = 2 ∧ bits BinOp.andNot IntKind.i64 (m.val : Int) 2 = (m.val : Int) - 2 ∧ 2 ≤ m.val) ∧ (sgnB (m.val : Int) = false → bits BinOp.and IntKind.i64 (m.val : Int) 2 = 0 ∧ bits BinOp.andNot IntKind.i64 (m.val : Int) 2 = (m.val : Int)) := by decide +kernel
def strip (m : Int) : Int := if sgnB m = true then m - 2 else m
theorem sgn_of {m : Int} (h : 0 ≤ m ∧ m ≤ 4095) : bits BinOp.andNot IntKind.i64 m 2 = strip m ∧ 0 ≤ strip m ∧ strip m ≤ 4095 := by
  obtain ⟨n, rfl⟩ := Int.eq_ofNat_of_zero_le h.1
  have hf := sgn_fin ⟨n, by omega⟩
  unfold strip
  cases hs : sgnB (n : Int) with
  | true => have := hf.1 hs; rw [if_pos rfl]; exact ⟨this.2.1, by have := this.2.2; simp only at this; omega⟩
  | false => have := hf.2 hs; rw [if_neg (by decide)]; exact ⟨this.2, by omega⟩
/-- a column read behind others: the number so far and whether it has begun; nothing if there is no digit -/
def numS : Option (Int × Bool) → Int → Option (Int × Bool)
  | none, _ => none
  | some (n, b), m => if m = 0 ∧ b = false then some (n, b) else if digI m < 0 then none else some (10 * n + digI m, true)
def numG (h : List Int) : Option (Int × Bool) := h.foldl numS (some (0, false))
theorem numG_snoc {h : List Int} {k : Nat} {m : Int} (hm : h[k]? = some m) : numG (h.take (k + 1)) = numS (numG (h.take k)) m := by
  unfold numG; rw [take_snoc hm, List.foldl_append]; rfl
/-- the number in columns, and whether there is one -/
def numR (h : List Int) : Int × Bool :=
  match h.getLast? with
  | none => (0, true)
  | some l => match numG h.dropLast with
    | none => (0, false)
    | some (n, b) =>
      if sgnB l = true then (if digI (l - 2) < 0 then (0, false) else (-(10 * n + digI (l - 2)), decide (10 * n + digI (l - 2) ≠ 0)))
      else if l = 0 ∧ b = false then (n, true) else if digI l < 0 then (0, false) else (10 * n + digI l, true)
theorem numG_false : ∀ {h : List Int} {n : Int}, numG h = some (n, false) → n = 0 ∧ ∀ m ∈ h, m = 0 := by
  intro h
  have key : ∀ (l : List Int) (s : Option (Int × Bool)) (n : Int), l.foldl numS s = some (n, false) → (s = some (n, false) ∧ ∀ m ∈ l, m = 0) := by
    intro l
    induction l with
    | nil => intro s n e; exact ⟨e, fun m hm => by cases hm⟩
    | cons x l ih =>
      intro s n e
      obtain ⟨h1, h2⟩ := ih (numS s x) n e
      cases s with
      | none => cases h1
      | some p =>
        obtain ⟨a, b⟩ := p
        change (if x = 0 ∧ b = false then some (a, b) else if digI x < 0 then none else some (10 * a + digI x, true)) = _ at h1
        by_cases hx : x = 0 ∧ b = false
        · rw [if_pos hx] at h1
          exact ⟨h1, fun m hm => by rcases List.mem_cons.1 hm with rfl | hm; exact hx.1; exact h2 m hm⟩
        · rw [if_neg hx] at h1
          split at h1
          · cases h1
          · injection h1 with h1; injection h1 with _ h3; cases h3
  intro n e
  obtain ⟨h1, h2⟩ := key h _ n e
  injection h1 with h1
  injection h1 with h3 _
  exact ⟨h3.symm, h2⟩
theorem numG_zero : ∀ {h : List Int}, (∀ m ∈ h, m = 0) → numG h = some (0, false) := by
  intro h
  have key : ∀ (l : List Int), (∀ m ∈ l, m = 0) → l.foldl numS (some (0, false)) = some (0, false) := by
    intro l
    induction l with
    | nil => intro _; rfl
    | cons x l ih =>
      intro hz
      have hx := hz x (List.mem_cons_self ..)
      subst hx
      exact ih fun m hm => hz m (List.mem_cons_of_mem _ hm)
  exact key h
end Go.Proofs.YtfieilbcdhbigaaGreatDoor
