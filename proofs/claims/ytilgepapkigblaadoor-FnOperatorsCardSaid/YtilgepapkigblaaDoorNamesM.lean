/- The machines' names: the table of the program, read off the condition. No condition. -/
import Derived.Test.YtilgepapkigblaaDoorLawD
import Derived.Test.YtilgepapkigblaaDoorSmall
namespace Go.Proofs.YtilgepapkigblaaDoor
open Go.ChangeShapes Go.WideShapes Go.ChangeAt Go.RowKit
set_option linter.unusedVariables false
set_option maxRecDepth 100000
/-- the names -/
def nmL : List ByteArray := [⟨#[107, 101, 121, 112, 117, 110, 99, 104]⟩, ⟨#[115, 111, 114, 116, 101, 114]⟩, ⟨#[99, 111, 108, 108, 97, 116, 111, 114]⟩, ⟨#[114, 101, 112, 114, 111, 100, 117, 99, 101, 114]⟩, ⟨#[116, 97, 98, 117, 108, 97, 116, 111, 114]⟩, ⟨#[99, 97, 108, 99, 117, 108, 97, 116, 111, 114]⟩]
def nmB (k : Nat) : ByteArray := nmL.getD k ⟨#[]⟩
theorem g_names : Tryd.prog.globalNamed "loop.example/g01012/impl.machineNames" = some 0 := by kernel_rfl
theorem t_names : (Tryd.prog.globals[0]?).map (·.type) = some 58 := by kernel_rfl
/-- the table lies where the program laid it -/
def NamesAt (W : World) : Prop := ∀ k, k < 6 → W.cell? ⟨0, k, none⟩ = some (.string (nmB k))
theorem NamesAt.below {W W' : World} (h : NamesAt W) (hb : Below W.heap.size W W') : NamesAt W' := fun k hk =>
  (hb.cell (p := ⟨0, k, none⟩) (World.block_lt_of_cell? W _ (h k hk))).trans (h k hk)
theorem names_of_var {W : World} {cs : Array Value} {fuel : Nat} {sp : Nat → Bool} {held : Bool} {p : List MemPlace} (hv : W.var? Tryd.prog "loop.example/g01012/impl.machineNames" = some cs)
    (hd : DataW.trod (fun _ => ()) Tryd.prog W 0 sp held fuel 58 cs.toList = some (Rows.laid_loop_example_g01012_impl_machineNames, p)) : NamesAt W := by
  intro k hk
  have h1 := cells_of_strs (ss := nmL) Tryd.underlying58 Tryd.underlying9 (by kernel_rfl) (by kernel_rfl) hd
  have h2 := World.var?_cell g_names hv k
  rw [h2, ← Array.getElem?_toList, h1, List.getElem?_map]
  unfold nmB
  have hl : nmL.length = 6 := rfl
  rw [List.getElem?_eq_getElem (by omega), List.getD_eq_getElem?_getD, List.getElem?_eq_getElem (by omega)]
  rfl
/-- from the row's condition, the names alone listed -/
theorem names_of1 {W : World} (h : laidMetH Tryd.prog [("loop.example/g01012/impl.machineNames", Rows.laid_loop_example_g01012_impl_machineNames)] W) : NamesAt W := by
  rw [MakeChecks.laidMetH_plain _ _ _ (by kernel_rfl)] at h
  obtain ⟨ps, ⟨g, t, cs, fuel, p, q, hg, ht, hv, hd, _⟩, _⟩ := h
  obtain rfl := Option.some.inj (t_names.symm.trans ((Option.some.inj (g_names.symm.trans hg)) ▸ ht))
  exact names_of_var hv hd
def MNV (k : Int) : ByteArray := if 0 ≤ k ∧ k ≤ 5 then nmB k.toNat else ⟨#[]⟩
theorem l22Names_c (w : World) : Calls Tryd.prog 57 #[] w fun e w' => e = .returned (.slice (some ⟨w.heap.size, 0, none⟩) 6 6) ∧ (∀ k, k < 6 → w'.cell? ⟨w.heap.size, k, none⟩ = some (.string (nmB k))) ∧ Below w.heap.size w w' := by
  go_enter Tryd.func57, Tryd.ntmps57
  go_wp2
  go_ret
  refine ⟨rfl, fun k hk => ?_, (Below.refl _ _).alloc (Nat.le_refl _) _⟩
  rw [cell_of_row _ w.heap.size k _ _ _ (heap_alloc_new w _)]
  obtain rfl | rfl | rfl | rfl | rfl | rfl : k = 0 ∨ k = 1 ∨ k = 2 ∨ k = 3 ∨ k = 4 ∨ k = 5 := by omega
  all_goals rfl
theorem isMach_any (m : Int) (w : World) : Calls Tryd.prog 42 #[.int .i64 m] w fun e w' => e = .returned (.bool (decide (0 ≤ m ∧ m ≤ 5))) ∧ w = w' := by
  go_enter Tryd.func42, Tryd.ntmps42
  go_wp2_with fail
  with_reducible refine (inside_any m 0 5 w).mono ?_
  rintro e w' ⟨rfl, rfl⟩
  go_wp2
  go_ret
  exact ⟨ret_bool (by simp), rfl⟩
theorem MachineName_c (k : Int) {w : World} (hn : NamesAt w) : Calls Tryd.prog 26 #[.int .i64 k] w fun e w' => e = .returned (.string (MNV k)) ∧ w = w' := by
  by_cases h : 0 ≤ k ∧ k ≤ 5
  · have e : MNV k = nmB k.toNat := if_pos h
    rw [e]
    obtain ⟨j, rfl⟩ := Int.eq_ofNat_of_zero_le h.1
    have hc := hn j (by omega)
    have hj : j < 6 := by omega
    have H := Lib.hid h
    clear h e hn
    go_enter Tryd.func26, Tryd.ntmps26
    go_wp2_with fail
    with_reducible refine (isMach_any _ _).mono ?_
    rw [decide_eq_true H.out]
    rintro e w1 ⟨rfl, rfl⟩
    go_wp2
    go_ret
    exact ⟨rfl, rfl⟩
  · have e : MNV k = ⟨#[]⟩ := if_neg h
    rw [e]
    have H := Lib.hid h
    clear h e hn
    go_enter Tryd.func26, Tryd.ntmps26
    go_wp2_with fail
    with_reducible refine (isMach_any _ _).mono ?_
    rw [decide_eq_false H.out]
    rintro e w1 ⟨rfl, rfl⟩
    go_wp2
    go_ret
    exact ⟨rfl, rfl⟩
theorem sMachineName_c (k : Int) (w : World) : Calls Tryd.prog 27 #[.int .i64 k] w fun e w' => e = .returned (.string (MNV k)) ∧ Below w.heap.size w w' := by
  by_cases h : 0 ≤ k ∧ k ≤ 5
  · have e : MNV k = nmB k.toNat := if_pos h
    rw [e]
    obtain ⟨j, rfl⟩ := Int.eq_ofNat_of_zero_le h.1
    have hj : j < 6 := by omega
    have H := Lib.hid h
    clear h e
    go_enter Tryd.func27, Tryd.ntmps27
    go_wp2_with fail
    with_reducible refine (l00In_any _ _ _ _).mono ?_
    rw [decide_eq_true H.out]
    rintro e w1 ⟨rfl, rfl⟩
    go_wp2_with fail
    with_reducible refine (l22Names_c _).mono ?_
    rintro e w1 ⟨rfl, hc, hb⟩
    have hc := hc j hj
    go_wp2
    go_ret
    exact ⟨rfl, hb⟩
  · have e : MNV k = ⟨#[]⟩ := if_neg h
    rw [e]
    have H := Lib.hid h
    clear h e
    go_enter Tryd.func27, Tryd.ntmps27
    go_wp2_with fail
    with_reducible refine (l00In_any _ _ _ _).mono ?_
    rw [decide_eq_false H.out]
    rintro e w1 ⟨rfl, rfl⟩
    go_wp2
    go_ret
    exact ⟨rfl, Below.refl _ _⟩
end Go.Proofs.YtilgepapkigblaaDoor
