/- Insertion sort of an array, told by lists. No condition. -/
import Derived.Test.YtpnmcgjfemaleaaSchP
import Derived.Sort.Defs
namespace Go.Proofs.Ytpnmcgjfemaleaa
open Go.ChangeShapes Go.WideShapes Go.ChangeAt Go.RowKit
set_option linter.unusedVariables false
set_option maxRecDepth 100000
section
variable {α : Type} [Inhabited α]
theorem swp_list {A C : List α} {x y : α} {d : Array α} (h : d.toList = A ++ y :: x :: C) : (Go.Sort.swp d (A.length + 1) A.length).toList = A ++ x :: y :: C := by
  have hs : d.size = A.length + (C.length + 2) := by rw [← Array.length_toList, h]; simp
  have h1 : d[A.length + 1]! = x := by
    rw [getElem!_pos d (A.length + 1) (by omega), ← Array.getElem_toList]
    simp [h]
  have h0 : d[A.length]! = y := by
    rw [getElem!_pos d A.length (by omega), ← Array.getElem_toList]
    simp [h]
  unfold Go.Sort.swp
  simp only [h1, h0, Array.toList_setIfInBounds, h]
  simp [List.set_append]
theorem inner_list {b : Int → Int → Bool} {f : α → Int} {lt : α → α → Bool} (hb : ∀ x y, lt x y = b (f x) (f y)) : ∀ (A C : List α) (x : α) (d : Array α), d.toList = A ++ x :: C →
    ∃ A', (Go.Sort.insInner lt 0 A.length d).toList = A' ++ C ∧ Ins b (f x) (A.map f) (A'.map f) ∧ A'.length = A.length + 1 := by
  intro A
  induction hn : A.length generalizing A with
  | zero =>
    intro C x d hd
    obtain rfl : A = [] := List.eq_nil_of_length_eq_zero hn
    refine ⟨[x], by show d.toList = _; rw [hd]; rfl, ⟨[], [], rfl, rfl, fun y h => (by cases h), fun p' y h => (by simp at h)⟩, rfl⟩
  | succ n ih =>
    intro C x d hd
    obtain ⟨A0, y, rfl⟩ : ∃ A0 y, A = A0 ++ [y] := ⟨A.dropLast, A.getLast (by intro h; rw [h] at hn; cases hn), (List.dropLast_concat_getLast _).symm⟩
    have hA0 : A0.length = n := by simpa using hn
    have hd2 : d.toList = A0 ++ y :: x :: C := by rw [hd, List.append_assoc]; rfl
    have hs : d.size = A0.length + (C.length + 2) := by rw [← Array.length_toList, hd2]; simp
    have h1 : d[n + 1]! = x := by
      subst hA0
      rw [getElem!_pos d (A0.length + 1) (by omega), ← Array.getElem_toList]
      simp [hd2]
    have h0 : d[n]! = y := by
      subst hA0
      rw [getElem!_pos d A0.length (by omega), ← Array.getElem_toList]
      simp [hd2]
    unfold Go.Sort.insInner
    rw [h1, h0]
    cases hl : lt x y with
    | true =>
      rw [if_pos (by simp)]
      have hw := swp_list hd2
      rw [hA0] at hw
      obtain ⟨A', e1, ⟨p, q, e2, e3, e4, e5⟩, e6⟩ := ih A0 hA0 (y :: C) x _ hw
      refine ⟨A' ++ [y], by rw [e1, List.append_assoc]; rfl, ⟨p, q ++ [f y], ?_, ?_, ?_, e5⟩, by simp [e6]⟩
      · rw [List.map_append, e2, List.append_assoc]; rfl
      · rw [List.map_append, e3, List.append_assoc]; rfl
      · intro z hz
        rcases List.mem_append.1 hz with hz | hz
        · exact e4 z hz
        · rw [List.mem_singleton] at hz
          rw [hz, ← hb]; exact hl
    | false =>
      rw [if_neg (by simp)]
      refine ⟨A0 ++ [y] ++ [x], by rw [hd]; simp, ⟨(A0 ++ [y]).map f, [], by simp, by simp, fun z h => (by cases h), ?_⟩, by simp [hA0]⟩
      intro p' z h
      rw [List.map_append] at h
      have h2 := List.append_inj_right' h rfl
      have h3 : f y = z := by simpa using h2
      rw [← h3, ← hb]
      exact hl
theorem outer_list {b : Int → Int → Bool} {f : α → Int} {lt : α → α → Bool} (hb : ∀ x y, lt x y = b (f x) (f y)) : ∀ (C A : List α) (d : Array α) (P : List Int), d.toList = A ++ C → InsAll b P [] (A.map f) →
    InsAll b (P ++ C.map f) [] ((Go.Sort.insOuter lt 0 d.size A.length d).toList.map f) ∧ (Go.Sort.insOuter lt 0 d.size A.length d).size = d.size := by
  intro C
  induction C with
  | nil =>
    intro A d P hd hP
    have hs : d.size = A.length := by rw [← Array.length_toList, hd]; simp
    rw [Go.Sort.insOuter, if_neg (by omega)]
    rw [hd, List.append_nil, List.map_nil, List.append_nil]
    exact ⟨hP, rfl⟩
  | cons x C ih =>
    intro A d P hd hP
    have hs : d.size = A.length + (C.length + 1) := by rw [← Array.length_toList, hd]; simp
    rw [Go.Sort.insOuter, if_pos (by omega)]
    obtain ⟨A', e1, e2, e3⟩ := inner_list hb A C x d hd
    have hsz : (Go.Sort.insInner lt 0 A.length d).size = d.size := by rw [← Array.length_toList, e1, hs]; simp [e3]; omega
    have := ih A' (Go.Sort.insInner lt 0 A.length d) (P ++ [f x]) e1 (InsAll.snoc hP e2)
    rw [hsz, e3, List.append_assoc] at this
    exact this
theorem insertion_list {b : Int → Int → Bool} {f : α → Int} {lt : α → α → Bool} (hb : ∀ x y, lt x y = b (f x) (f y)) (d : Array α) :
    InsAll b (d.toList.map f) [] ((Go.Sort.insertionSort lt d 0 d.size).toList.map f) ∧ (Go.Sort.insertionSort lt d 0 d.size).size = d.size := by
  unfold Go.Sort.insertionSort
  cases hd : d.toList with
  | nil =>
    have hs : d.size = 0 := by rw [← Array.length_toList, hd]; rfl
    rw [Go.Sort.insOuter, if_neg (by omega), hd]
    exact ⟨rfl, rfl⟩
  | cons x C =>
    have h := outer_list hb C [x] d [f x] hd ⟨[f x], ⟨[], [], rfl, rfl, fun y h => (by cases h), fun p' y h => (by simp at h)⟩, rfl⟩
    exact h
end
end Go.Proofs.Ytpnmcgjfemaleaa
