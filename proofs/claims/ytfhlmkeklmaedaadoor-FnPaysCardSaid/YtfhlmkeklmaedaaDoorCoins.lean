/- CoinsFor: the program's and the reference's, each by its contract. No condition. -/
import Derived.Test.YtfhlmkeklmaedaaDoorSmall
import Derived.Test.YtfhlmkeklmaedaaDoorApp
import Derived.Test.YtfhlmkeklmaedaaDoorInts
namespace Go.Proofs.YtfhlmkeklmaedaaDoor
open Go.ChangeShapes Go.WideShapes Go.ChangeAt Go.RowKit
set_option linter.unusedVariables false
set_option maxRecDepth 100000

def pieces : List Int := [5000, 2000, 1000, 500, 200, 100, 50, 20, 10, 5, 2, 1]
/-- what is left behind k pieces, and the counts so far -/
def leftF (a : Int) (k : Nat) : Int := (pieces.take k).foldl (fun r p => r % p) a
def coinsF (a : Int) (k : Nat) : List Int := (List.range k).map fun j => leftF a j / pieces.getD j 1
theorem leftF_succ (a : Int) (k : Nat) (p : Int) (h : pieces[k]? = some p) : leftF a (k + 1) = leftF a k % p := by
  unfold leftF; rw [take_snoc h, List.foldl_append]; rfl
theorem coinsF_succ (a : Int) (k : Nat) (p : Int) (h : pieces[k]? = some p) : coinsF a (k + 1) = coinsF a k ++ [leftF a k / p] := by
  unfold coinsF; rw [List.range_succ, List.map_append]; simp [h]
theorem piece_bd {k : Nat} {p : Int} (h : pieces[k]? = some p) : 1 ≤ p ∧ p ≤ 5000 := by
  have : p ∈ pieces := List.mem_of_getElem? h
  simp [pieces] at this
  omega
theorem leftF_bd (a : Int) (h0 : 0 ≤ a) (h1 : a ≤ 100000000) : ∀ k, k ≤ 12 → 0 ≤ leftF a k ∧ leftF a k ≤ 100000000 := by
  intro k
  induction k with
  | zero => intro _; simp [leftF]; omega
  | succ k ih =>
    intro hk
    have hp : pieces[k]? = some (pieces[k]'(by simp [pieces]; omega)) := by simp [pieces]
    have hb := piece_bd hp
    rw [leftF_succ a k _ hp]
    have := ih (by omega)
    have h1 := Int.emod_nonneg (leftF a k) (b := pieces[k]'(by simp [pieces]; omega)) (by omega)
    have h2 := Int.emod_lt_of_pos (leftF a k) (b := pieces[k]'(by simp [pieces]; omega)) (by omega)
    omega
theorem coinsF_ok (a : Int) (h0 : 0 ≤ a) (h1 : a ≤ 100000000) (k : Nat) (hk : k ≤ 12) : ∀ x ∈ coinsF a k, eI.ok x := by
  intro x hx
  obtain ⟨j, hj, rfl⟩ := List.mem_map.1 hx
  have hj' : j < k := List.mem_range.1 hj
  have hb := leftF_bd a h0 h1 j (by omega)
  have hp : pieces[j]? = some (pieces[j]'(by simp [pieces]; omega)) := by simp [pieces]
  have hpb := piece_bd hp
  have e : pieces.getD j 1 = pieces[j]'(by simp [pieces]; omega) := by rw [List.getD_eq_getElem?_getD, hp]; rfl
  rw [e]
  have h2 := Int.ediv_nonneg hb.1 (show 0 ≤ pieces[j]'(by simp [pieces]; omega) by omega)
  have h3 := Int.ediv_le_self (pieces[j]'(by simp [pieces]; omega)) hb.1
  show -9223372036854775808 ≤ _ ∧ _ ≤ 9223372036854775807
  omega
theorem coinsF_length (a : Int) (k : Nat) : (coinsF a k).length = k := by simp [coinsF]
def litPieces : Obj := .cells #[.int .i64 5000, .int .i64 2000, .int .i64 1000, .int .i64 500, .int .i64 200, .int .i64 100, .int .i64 50, .int .i64 20, .int .i64 10, .int .i64 5, .int .i64 2, .int .i64 1] 2
theorem lit_cell {w : World} {b k : Nat} {p : Int} (h : w.heap[b]? = some litPieces) (hp : pieces[k]? = some p) : w.cell? ⟨b, k, none⟩ = some (.int .i64 p) := by
  have hk := at_lt hp
  unfold litPieces at h
  rw [cell_of_row w b k _ _ _ h]
  have hk' : k < 12 := hk
  rcases k with _ | _ | _ | _ | _ | _ | _ | _ | _ | _ | _ | _ | k <;> simp [pieces] at hp ⊢ <;> omega

theorem CoinsFor_ok (a : Int) (h0 : 0 ≤ a) (h1 : a ≤ 100000000) (w : World) :
    Calls Tryd.prog 21 #[.int .i64 a] w fun e w' => ∃ u, e = .returned (.tuple #[u, .int .i64 0]) ∧ Own eI 2 w.heap.size w' u (coinsF a 12) ∧ Below w.heap.size w w' := by
  obtain ⟨i0, hi, hz0, hz1, hz2⟩ := info_parts Tryd.infoInt64
  go_enter Tryd.func21, Tryd.ntmps21
  go_wp2_with (go_at_call 51; refine (inside_yes _ _ _ _ (by omega) (by omega)).mono ?_; rintro e w' ⟨rfl, rfl⟩)
  go_loopw [0, 4, 13] (fun am v i wr => ∃ k : Nat, k ≤ 12 ∧ i = .int .i64 k ∧ am = .int .i64 (leftF a k) ∧ Own eI 2 w.heap.size wr v (coinsF a k) ∧ v.ownBlock ≠ some (w.heap.size + 1) ∧ wr.heap[w.heap.size + 1]? = some litPieces ∧ Below w.heap.size w wr) (fun _ _ i _ => 12 - (intOf i).toNat)
  case atStart =>
    refine ⟨0, Nat.zero_le _, rfl, rfl, ?_, ?_, ?_, ?_⟩
    · exact Own.alloc (Own.lit (E := eI) (xs := []) (Nat.le_refl _) rfl rfl (by decide) (fun x hx => by cases hx)) _
    · simp [Value.ownBlock]
    · have h := heap_alloc_new (w.alloc (.cells #[] 2)) litPieces
      rw [show (w.alloc (.cells #[] 2)).heap.size = w.heap.size + 1 by simp] at h
      exact h
    · exact ((Below.refl _ _).alloc (Nat.le_refl _) _).alloc (by simp) _
  case round =>
    obtain ⟨k, hk, rfl, rfl, hown, hne, hlit, hb⟩ := hrel
    by_cases hkn : k < 12
    · have hp : pieces[k]? = some (pieces[k]'(by simp [pieces]; omega)) := by simp [pieces]
      obtain ⟨p, hpe⟩ : ∃ p, p = pieces[k]'(by simp [pieces]; omega) := ⟨_, rfl⟩
      rw [← hpe] at hp
      clear hpe
      have hpb := piece_bd hp
      have hcell := lit_cell hlit hp
      have hlb := leftF_bd a h0 h1 k hk
      have Hp := Lib.hid hp
      have Hlit := Lib.hid hlit
      have Hne := Lib.hid hne
      obtain ⟨q, hq⟩ : ∃ q, q = leftF a k := ⟨_, rfl⟩
      rw [← hq] at hlb ⊢
      have Hq := Lib.hid hq
      have hs : w.heap.size + 1 < wr.heap.size := (Array.getElem?_eq_some_iff.1 hlit).1
      have hqp : eI.ok (q / p) := by
        show -9223372036854775808 ≤ q / p ∧ q / p ≤ 9223372036854775807
        have h2 := Int.ediv_nonneg hlb.1 (show 0 ≤ p by omega)
        have h3 := Int.ediv_le_self p hlb.1
        omega
      have Hqp := Lib.hid hqp
      clear hp hlit hne hq hqp
      go_wp2_with (first | (at_builtin; go_loud (refine wpList_appS (E := eI) rfl _ _ 47 rfl Tryd.underlying47 hi hz0 hz1 hz2 rfl (by decide) rfl rfl (hown.alloc _) (rds_one (E := eI) (x := q / p) Hqp.out rfl) ?b1 ?b2 ?b3 ?_)))
      case b1 => rw [coinsF_length]; unfold maxLen; simp; omega
      case b2 => rw [coinsF_length]; simp; omega
      case b3 => simp; omega
      intro v' w1 hown' hg
      have hg' := hg.alloc
      have hb' : Below w.heap.size w w1 := hg'.below hb hb.size (fun j hj => (hown.lt j hj).1)
      have hne' : v'.ownBlock ≠ some (w.heap.size + 1) := by
        rcases hg'.2 with h | ⟨j, h, hj⟩
        · rw [h]; exact Hne.out
        · rw [h]; intro e; have := Option.some.inj e; omega
      have hlit' : w1.heap[w.heap.size + 1]? = some litPieces := by rw [hg'.1.block _ hs (fun e => Hne.out e.symm)]; exact Hlit.out
      have Hlit' := Lib.hid hlit'
      have Hne' := Lib.hid hne'
      clear hlit' hne' hg hg' hb hown hcell
      go_wp2
      go_roundw
      case rel =>
        refine ⟨k + 1, by omega, by go_num, ?_, ?_, Hne'.out, Hlit'.out, hb'⟩
        · rw [leftF_succ a k p Hp.out, ← Hq.out]
        · rw [coinsF_succ a k p Hp.out, ← Hq.out]; exact hown'
      case measure => simp [intOf]; omega
    · go_wp2
      go_ret2
      obtain rfl : k = 12 := by omega
      exact ⟨_, rfl, hown, hb⟩
/-- the counts, and the code, whatever the amount -/
def CoinsR (a : Int) : List Int := if 0 ≤ a ∧ a ≤ 100000000 then coinsF a 12 else []
def CoinsC (a : Int) : Int := if 0 ≤ a ∧ a ≤ 100000000 then 0 else 2
theorem CoinsFor_c (a : Int) (w : World) :
    Calls Tryd.prog 21 #[.int .i64 a] w fun e w' => ∃ u, e = .returned (.tuple #[u, .int .i64 (CoinsC a)]) ∧ OwnInt64S w.heap.size w' u (CoinsR a) ∧ Below w.heap.size w w' := by
  by_cases h : 0 ≤ a ∧ a ≤ 100000000
  · rw [show CoinsC a = 0 from if_pos h, show CoinsR a = coinsF a 12 from if_pos h]
    exact CoinsFor_ok a h.1 h.2 w
  · rw [show CoinsC a = 2 from if_neg h, show CoinsR a = [] from if_neg h]
    have h' : a < 0 ∨ 100000000 < a := by omega
    have H := Lib.hid h'
    clear h h'
    go_enter Tryd.func21, Tryd.ntmps21
    go_wp2_with (go_at_call 51; refine (inside_no _ _ _ _ H.out).mono ?_; rintro e w' ⟨rfl, rfl⟩)
    go_ret2
    exact ⟨_, rfl, Own.nil _ _ _ _, Below.refl _ _⟩

theorem sCoinsFor_ok (a : Int) (h0 : 0 ≤ a) (h1 : a ≤ 100000000) (w : World) :
    Calls Tryd.prog 22 #[.int .i64 a] w fun e w' => ∃ u, e = .returned (.tuple #[u, .int .i64 0]) ∧ Own eI 2 w.heap.size w' u (coinsF a 12) ∧ Below w.heap.size w w' := by
  obtain ⟨i0, hi, hz0, hz1, hz2⟩ := info_parts Tryd.infoInt64
  go_enter Tryd.func22, Tryd.ntmps22
  go_wp2_with (go_at_call 46; refine (l00In_yes _ _ _ _ (by omega) (by omega)).mono ?_; rintro e w' ⟨rfl, rfl⟩)
  go_loopw [0, 5, 6] (fun am v i wr => ∃ k : Nat, k ≤ 12 ∧ i = .int .i64 k ∧ am = .int .i64 (leftF a k) ∧ Own eI 2 (w.heap.size + 1) wr v (coinsF a k) ∧ wr.heap[w.heap.size]? = some litPieces ∧ Below (w.heap.size + 1) (w.alloc litPieces) wr) (fun _ _ i _ => 12 - (intOf i).toNat)
  case atStart =>
    refine ⟨0, Nat.zero_le _, rfl, rfl, ?_, ?_, ?_⟩
    · have h := Own.lit (E := eI) (e := 2) (cs := #[]) (n := 0) (xs := []) (base := w.heap.size + 1) (w := w.alloc litPieces) (by simp) rfl rfl (by decide) (fun x hx => by cases hx)
      rw [show (w.alloc litPieces).heap.size = w.heap.size + 1 by simp] at h
      exact h
    · have h := heap_alloc_new w litPieces
      have h2 : ((w.alloc litPieces).alloc (.cells #[] 2)).heap[w.heap.size]? = (w.alloc litPieces).heap[w.heap.size]? := Below.heap_alloc _ _ _ (by simp)
      exact h2.trans h
    · exact (Below.refl _ _).alloc (by simp) _
  case round =>
    obtain ⟨k, hk, rfl, rfl, hown, hlit, hb⟩ := hrel
    by_cases hkn : k < 12
    · have hp : pieces[k]? = some (pieces[k]'(by simp [pieces]; omega)) := by simp [pieces]
      obtain ⟨p, hpe⟩ : ∃ p, p = pieces[k]'(by simp [pieces]; omega) := ⟨_, rfl⟩
      rw [← hpe] at hp
      clear hpe
      have hpb := piece_bd hp
      have hcell := lit_cell hlit hp
      have hlb := leftF_bd a h0 h1 k hk
      have Hp := Lib.hid hp
      have Hlit := Lib.hid hlit
      obtain ⟨q, hq⟩ : ∃ q, q = leftF a k := ⟨_, rfl⟩
      rw [← hq] at hlb ⊢
      have Hq := Lib.hid hq
      have hs : w.heap.size + 1 ≤ wr.heap.size := by have := hb.size; simpa using this
      have hqp : eI.ok (q / p) := by
        show -9223372036854775808 ≤ q / p ∧ q / p ≤ 9223372036854775807
        have h2 := Int.ediv_nonneg hlb.1 (show 0 ≤ p by omega)
        have h3 := Int.ediv_le_self p hlb.1
        omega
      have Hqp := Lib.hid hqp
      clear hp hlit hq hqp
      go_wp2_with (first | (at_builtin; refine wpList_appS (E := eI) rfl _ _ 47 rfl Tryd.underlying47 hi hz0 hz1 hz2 rfl (by decide) rfl rfl (hown.alloc _) (rds_one (E := eI) (x := q / p) Hqp.out rfl) ?b1 ?b2 ?b3 ?_))
      case b1 => rw [coinsF_length]; unfold maxLen; simp; omega
      case b2 => rw [coinsF_length]; simp; omega
      case b3 => simp; omega
      intro v' w1 hown' hg
      have hg' := hg.alloc
      have hb' : Below (w.heap.size + 1) (w.alloc litPieces) w1 := hg'.below hb hs (fun j hj => (hown.lt j hj).1)
      have hlit' : w1.heap[w.heap.size]? = some litPieces := by rw [hb'.block _ (by omega)]; exact heap_alloc_new w litPieces
      have hcell' := lit_cell hlit' Hp.out
      have Hlit' := Lib.hid hlit'
      clear hlit' hg hg' hb hown hcell
      go_wp2
      go_roundw
      case rel =>
        refine ⟨k + 1, by omega, by go_num, ?_, ?_, Hlit'.out, hb'⟩
        · rw [leftF_succ a k p Hp.out, ← Hq.out]
        · rw [coinsF_succ a k p Hp.out, ← Hq.out]; exact hown'
      case measure => simp [intOf]; omega
    · go_wp2
      go_ret2
      obtain rfl : k = 12 := by omega
      exact ⟨_, rfl, hown.mono (by omega), ((Below.refl _ _).alloc (Nat.le_refl _) _).trans (hb.mono (by omega))⟩
theorem sCoinsFor_c (a : Int) (w : World) :
    Calls Tryd.prog 22 #[.int .i64 a] w fun e w' => ∃ u, e = .returned (.tuple #[u, .int .i64 (CoinsC a)]) ∧ OwnInt64S w.heap.size w' u (CoinsR a) ∧ Below w.heap.size w w' := by
  by_cases h : 0 ≤ a ∧ a ≤ 100000000
  · rw [show CoinsC a = 0 from if_pos h, show CoinsR a = coinsF a 12 from if_pos h]
    exact sCoinsFor_ok a h.1 h.2 w
  · rw [show CoinsC a = 2 from if_neg h, show CoinsR a = [] from if_neg h]
    have h' : a < 0 ∨ 100000000 < a := by omega
    have H := Lib.hid h'
    clear h h'
    go_enter Tryd.func22, Tryd.ntmps22
    go_wp2_with (go_at_call 46; refine (l00In_no _ _ _ _ H.out).mono ?_; rintro e w' ⟨rfl, rfl⟩)
    go_ret2
    exact ⟨_, rfl, Own.nil _ _ _ _, Below.refl _ _⟩
theorem CoinsR_le (a : Int) : (CoinsR a).length ≤ 1000000000 := by
  unfold CoinsR; split
  · rw [coinsF_length]; omega
  · simp
end Go.Proofs.YtfhlmkeklmaedaaDoor
