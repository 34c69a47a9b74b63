/- The line of a pay: the program's. The condition: the library's table of powers of ten lies as its text lays it. -/
import Derived.Test.YtfhlmkeklmaedaaDoorPayL
import Derived.Test.YtfhlmkeklmaedaaDoorMoney
import Derived.Test.YtfhlmkeklmaedaaDoorRely
namespace Go.Proofs.YtfhlmkeklmaedaaDoor
open Go.ChangeShapes Go.WideShapes Go.ChangeAt Go.RowKit Go.Sort
set_option linter.unusedVariables false
set_option maxRecDepth 100000
def litL (nm D G T M : ByteArray) : List ByteArray := [nm, D ++ ⟨#[104]⟩, G, ⟨#[45]⟩, T, ⟨#[61]⟩, M]
def LitS (v : Value) (w : World) (nm D G T M : ByteArray) : Prop := ∃ X, v = .slice (some ⟨X, 0, none⟩) 7 7 ∧ Box w X ((litL nm D G T M).map Value.string)
theorem LitS.below {v : Value} {w w' : World} {nm D G T M : ByteArray} (h : LitS v w nm D G T M) (hb : Below w.heap.size w w') : LitS v w' nm D G T M := by
  obtain ⟨X, h1, h2⟩ := h
  exact ⟨X, h1, h2.on hb⟩
theorem LitS.new (w : World) (nm D G T M : ByteArray) : LitS (.slice (some ⟨w.heap.size, 0, none⟩) 7 7) (w.alloc (.cells #[.string nm, .string (D ++ ⟨#[104]⟩), .string G, .string ⟨#[45]⟩, .string T, .string ⟨#[61]⟩, .string M] 9)) nm D G T M :=
  ⟨_, rfl, Box.new w ((litL nm D G T M).map Value.string) _⟩
def joinS (nm D G T M : ByteArray) : ByteArray := ⟨(Lib.join ((litL nm D G T M).map (·.data.toList)) [32]).toArray⟩
theorem ba_eq {a b : ByteArray} (h : a.data.toList = b.data.toList) : a = b := by
  cases a; cases b
  congr 1
  exact Array.toList_inj.1 h
theorem joinS_line (nm D G T M : ByteArray) : joinS nm D G T M = nm ++ ⟨#[32]⟩ ++ D ++ ⟨#[104, 32]⟩ ++ G ++ ⟨#[32, 45, 32]⟩ ++ T ++ ⟨#[32, 61, 32]⟩ ++ M := by
  apply ba_eq
  unfold joinS litL
  simp [Lib.join, List.intercalate, ByteArray.data_append]
theorem joinS_len (nm D G T M : ByteArray) : (Lib.join ((litL nm D G T M).map (·.data.toList)) [32]).length = nm.size + D.size + G.size + T.size + M.size + 9 := by
  have h := congrArg ByteArray.size (joinS_line nm D G T M)
  have e : (joinS nm D G T M).size = (Lib.join ((litL nm D G T M).map (·.data.toList)) [32]).length := by show (Array.size _) = _; simp
  rw [← e, h]
  simp only [ByteArray.size_append]
  have l1 : (⟨#[32]⟩ : ByteArray).size = 1 := rfl
  have l2 : (⟨#[104, 32]⟩ : ByteArray).size = 2 := rfl
  have l3 : (⟨#[32, 45, 32]⟩ : ByteArray).size = 3 := rfl
  have l4 : (⟨#[32, 61, 32]⟩ : ByteArray).size = 3 := rfl
  omega
theorem Box.join {w : World} {X : Nat} {nm D G T M : ByteArray} (h : Box w X ((litL nm D G T M).map Value.string)) (hs : nm.size + D.size + G.size + T.size + M.size ≤ 1000000) :
    Calls Tryd.prog 31 #[.slice (some ⟨X, 0, none⟩) 7 7, .string ⟨#[32]⟩] w fun e w' => e = .returned (.string (joinS nm D G T M)) ∧ Below w.heap.size w w' :=
  Tryd.strings_Join X 0 7 (litL nm D G T M) ⟨#[32]⟩ w (fun j x hx => by rw [Nat.zero_add]; exact h.cell j _ (by rw [List.getElem?_map, hx]; rfl)) h.lt (by show (7 : Nat) ≤ _; decide) (by show (7 : Nat) ≤ 7; decide) (by
    show (Lib.join ((litL nm D G T M).map (·.data.toList)) [32]).length ≤ _
    rw [joinS_len]; omega)
set_option maxHeartbeats 1000000 in
theorem PayLine_c (x : WorkerT) (p : PayT) (w : World) (a : okWorker x) (ht : PowAt w) :
    Calls Tryd.prog 9 #[vWorker x, vPay p] w fun e w' => e = .returned (.tuple #[.string (PLV x p), .int .i64 (PLC x p)]) ∧ Below w.heap.size w w' := by
  obtain ⟨W, hW⟩ : ∃ W, W = (w.alloc (.cells #[.string x.nm, .int .i64 x.rate, .int .i64 x.tax] 29)).alloc (.cells #[.int .i64 p.hours, .int .i64 p.gross, .int .i64 p.tax, .int .i64 p.net] 31) := ⟨_, rfl⟩
  have hs1 : (w.alloc (.cells #[.string x.nm, .int .i64 x.rate, .int .i64 x.tax] 29)).heap.size = w.heap.size + 1 := by simp
  have hb0 : Below w.heap.size w W := by rw [hW]; exact ((Below.refl w.heap.size w).alloc (Nat.le_refl _) _).alloc (by simp) _
  have hBw : Box W w.heap.size [.string x.nm, .int .i64 x.rate, .int .i64 x.tax] := by rw [hW]; exact (Box.new w [.string x.nm, .int .i64 x.rate, .int .i64 x.tax] _).alloc _
  have hBp : Box W (w.heap.size + 1) [.int .i64 p.hours, .int .i64 p.gross, .int .i64 p.tax, .int .i64 p.net] := by
    have h := Box.new (w.alloc (.cells #[.string x.nm, .int .i64 x.rate, .int .i64 x.tax] 29)) [.int .i64 p.hours, .int .i64 p.gross, .int .i64 p.tax, .int .i64 p.net] 31
    rw [hs1] at h
    rw [hW]; exact h
  have hone := isWorker_c x W a
  have hpl := fun V => isPlainPay_c p V
  have ht0 := ht.below hb0
  have Ht0 := Lib.hid ht0
  clear ht ht0
  have Hone := Lib.hid hone
  have Hpl := Lib.hid hpl
  have Hb0 := Lib.hid hb0
  have HBw := Lib.hid hBw
  have HBp := Lib.hid hBp
  have HW := Lib.hid hW
  clear hb0 hBw hBp hone hpl hW hs1
  cases hv : validW x with
  | false =>
    have e1 : PLC x p = 1 := by unfold PLC; rw [hv]; rfl
    have e2 : PLV x p = ⟨#[]⟩ := by unfold PLV; rw [hv]; rfl
    rw [e1, e2]
    rw [hv] at Hone
    clear hv e1 e2
    go_enter Tryd.func9, Tryd.ntmps9
    go_wp2_with fail
    rw [← HW.out]
    with_reducible refine Hone.out.mono ?_
    rintro e w1 ⟨rfl, hb1⟩
    have Hb1 := Lib.hid (Hb0.out.trans (hb1.mono Hb0.out.size))
    clear hb1
    go_wp2
    go_ret2
    exact ⟨rfl, Hb1.out⟩
  | true =>
    cases hq : plainB p with
    | false =>
      have e1 : PLC x p = 1 := by unfold PLC; rw [hv, hq]; rfl
      have e2 : PLV x p = ⟨#[]⟩ := by unfold PLV; rw [hv, hq]; rfl
      rw [e1, e2]
      rw [hv] at Hone
      rw [hq] at Hpl
      clear hv hq e1 e2
      go_enter Tryd.func9, Tryd.ntmps9
      go_wp2_with fail
      rw [← HW.out]
      with_reducible refine Hone.out.mono ?_
      rintro e w1 ⟨rfl, hb1⟩
      have hP1 := HBp.out.on hb1
      have hB1 := HBw.out.on hb1
      have Hb1 := Lib.hid (Hb0.out.trans (hb1.mono Hb0.out.size))
      have Ht1 := Lib.hid (Ht0.out.below hb1)
      have q0 := hP1.cell 0 _ rfl
      have q1 := hP1.cell 1 _ rfl
      have q2 := hP1.cell 2 _ rfl
      have q3 := hP1.cell 3 _ rfl
      have HP1 := Lib.hid hP1
      have HB1 := Lib.hid hB1
      clear hb1 hP1 hB1
      go_wp2_with fail
      with_reducible refine (Hpl.out _).mono ?_
      rintro e w2 ⟨rfl, hb2⟩
      have Hb2 := Lib.hid (Hb1.out.trans (hb2.mono Hb1.out.size))
      clear hb2 q0 q1 q2 q3
      go_wp2
      go_ret2
      exact ⟨rfl, Hb2.out⟩
    | true =>
      have e1 : PLC x p = 0 := by unfold PLC; rw [hv, hq]; rfl
      have e2 : PLV x p = lineP x p := by unfold PLV; rw [hv, hq]; rfl
      rw [e1, e2]
      have hnm : x.nm.size ≤ 12 := by
        have h := hv
        unfold validW at h
        rw [Bool.and_eq_true] at h
        exact (nameB_size h.1).2
      rw [hv] at Hone
      rw [hq] at Hpl
      obtain ⟨na, nb, nc, nd, rfl, ha, hb, hc, hd⟩ := plainB_nat hq
      unfold lineP
      simp only [Int.toNat_natCast]
      have hc1 := fun (W : World) (hW : PowAt W) => Decimal_c (n := (na : Int)) (w := W) (by omega) (by omega) hW
      have hc2 := fun (W : World) (hW : PowAt W) => money_c (n := nb) (w := W) (by omega) hW
      have hc3 := fun (W : World) (hW : PowAt W) => money_c (n := nc) (w := W) (by omega) hW
      have hc4 := fun (W : World) (hW : PowAt W) => money_c (n := nd) (w := W) (by omega) hW
      have z1 := itoaB_len (n := na) (by omega)
      have z2 := twoD_size (n := nb) (by omega)
      have z3 := twoD_size (n := nc) (by omega)
      have z4 := twoD_size (n := nd) (by omega)
      generalize itoaB (na : Int) = D at hc1 z1 ⊢
      generalize twoD nb = G at hc2 z2 ⊢
      generalize twoD nc = T at hc3 z3 ⊢
      generalize twoD nd = M at hc4 z4 ⊢
      obtain ⟨nm, rt, tx⟩ := x
      simp only at hnm HBw HW ⊢
      have l1 : (⟨#[32]⟩ : ByteArray).size = 1 := rfl
      have l2 : (⟨#[104, 32]⟩ : ByteArray).size = 2 := rfl
      have l3 : (⟨#[32, 45, 32]⟩ : ByteArray).size = 3 := rfl
      have l4 : (⟨#[32, 61, 32]⟩ : ByteArray).size = 3 := rfl
      have g1 : ¬ 9223372036854775807 < D.size + 1 := by omega
      obtain ⟨J, hJ⟩ : ∃ J, J = joinS nm D G T M := ⟨_, rfl⟩
      rw [← joinS_line, ← hJ]
      have HJ := Lib.hid hJ
      clear hJ
      have Hc1 := Lib.hid hc1
      have Hc2 := Lib.hid hc2
      have Hc3 := Lib.hid hc3
      have Hc4 := Lib.hid hc4
      clear hc1 hc2 hc3 hc4 hv hq e1 e2 l1 l2 l3 l4 a
      go_enter Tryd.func9, Tryd.ntmps9
      go_wp2_with fail
      rw [← HW.out]
      with_reducible refine Hone.out.mono ?_
      rintro e w1 ⟨rfl, hb1⟩
      have hP1 := HBp.out.on hb1
      have hB1 := HBw.out.on hb1
      have Hb1 := Lib.hid (Hb0.out.trans (hb1.mono Hb0.out.size))
      have Ht1 := Lib.hid (Ht0.out.below hb1)
      have q0 := hP1.cell 0 _ rfl
      have q1 := hP1.cell 1 _ rfl
      have q2 := hP1.cell 2 _ rfl
      have q3 := hP1.cell 3 _ rfl
      have HP1 := Lib.hid hP1
      have HB1 := Lib.hid hB1
      clear hb1 hP1 hB1
      go_wp2_with fail
      with_reducible refine (Hpl.out _).mono ?_
      rintro e w2 ⟨rfl, hb2⟩
      have Hb2 := Lib.hid (Hb1.out.trans (hb2.mono Hb1.out.size))
      have Ht2 := Lib.hid (Ht1.out.below hb2)
      have hB2 := HB1.out.on hb2
      have hP2 := HP1.out.on hb2
      obtain ⟨N, hN⟩ : ∃ N, N = w.heap.size := ⟨_, rfl⟩
      have HN := Lib.hid hN
      go_upto_region 3 with fail
      rw [← hN] at hB2 hP2
      have f0 := hB2.cell 0 _ rfl
      have p0 := hP2.cell 0 _ rfl
      have p1 := hP2.cell 1 _ rfl
      have p2 := hP2.cell 2 _ rfl
      have p3 := hP2.cell 3 _ rfl
      rw [← hN]
      clear hB2 hP2 q0 q1 q2 q3 hN hb2
      refine wp_region_below (fun i v w => match i with | 0 => v = .pointer (some ⟨N, 0, none⟩) | 1 => v = .string nm | 2 => v = .pointer (some ⟨N + 1, 0, none⟩) | 3 => v = .int .i64 (na : Int) | 4 => v = .string D | 5 => v = .string (D ++ ⟨#[104]⟩) | 6 => v = .pointer (some ⟨N + 1, 1, none⟩) | 7 => v = .int .i64 (nb : Int) | 8 => v = .string G | 9 => v = .pointer (some ⟨N + 1, 2, none⟩) | 10 => v = .int .i64 (nc : Int) | 11 => v = .string T | 12 => v = .pointer (some ⟨N + 1, 3, none⟩) | 13 => v = .int .i64 (nd : Int) | 14 => v = .string M | 15 => LitS v w nm D G T M | 16 => v = .string J | 17 => v = .string J | 18 => v = .int .i64 0 | _ => True) (by kernel_rfl) (by kernel_rfl) (by kernel_rfl) ?_ ?_ ?_
      · intro i v w w' h hb
        match i, h with
        | 0, h => exact h
        | 1, h => exact h
        | 2, h => exact h
        | 3, h => exact h
        | 4, h => exact h
        | 5, h => exact h
        | 6, h => exact h
        | 7, h => exact h
        | 8, h => exact h
        | 9, h => exact h
        | 10, h => exact h
        | 11, h => exact h
        | 12, h => exact h
        | 13, h => exact h
        | 14, h => exact h
        | 15, h => exact h.below hb
        | 16, h => exact h
        | 17, h => exact h
        | 18, h => exact h
        | (_ + 19), h => exact h
      · intro vs hvs
        match vs, hvs with
        | [v0, v1, v2, v3, v4, v5, v6, v7, v8, v9, v10, v11, v12, v13, v14, v15, v16, v17, v18], _ =>
          refine ⟨?_, ?_, ?_, ?_, ?_, ?_, ?_, ?_, ?_, ?_, ?_, ?_, ?_, ?_, ?_, ?_, ?_, ?_, ?_, trivial⟩
          · intro wr hC hd
            clear hd
            unfold relAt
            simp only [putAll]
            go_simp
            simp only [relUpon]
            exact ⟨Below.refl _ _, by first | rfl | trivial⟩
          · intro wr hC hd
            have d0 : v0 = .pointer (some ⟨N, 0, none⟩) := by first | exact hd.1 rfl | exact hd.2.1 rfl | exact hd.2.2.1 rfl | exact hd.2.2.2.1 rfl | exact hd.2.2.2.2.1 rfl | exact hd.2.2.2.2.2.1 rfl | exact hd.2.2.2.2.2.2.1 rfl | exact hd.2.2.2.2.2.2.2.1 rfl | exact hd.2.2.2.2.2.2.2.2.1 rfl | exact hd.2.2.2.2.2.2.2.2.2.1 rfl
            subst d0
            clear hd
            have e := (hC.cell (p := ⟨N, 0, none⟩) (World.block_lt_of_cell? _ _ f0)).trans f0
            unfold relAt
            simp only [putAll]
            go_simp
            simp only [relUpon]
            exact ⟨Below.refl _ _, by first | rfl | trivial⟩
          · intro wr hC hd
            clear hd
            unfold relAt
            simp only [putAll]
            go_simp
            simp only [relUpon]
            exact ⟨Below.refl _ _, by first | rfl | trivial⟩
          · intro wr hC hd
            have d2 : v2 = .pointer (some ⟨N + 1, 0, none⟩) := by first | exact hd.1 rfl | exact hd.2.1 rfl | exact hd.2.2.1 rfl | exact hd.2.2.2.1 rfl | exact hd.2.2.2.2.1 rfl | exact hd.2.2.2.2.2.1 rfl | exact hd.2.2.2.2.2.2.1 rfl | exact hd.2.2.2.2.2.2.2.1 rfl | exact hd.2.2.2.2.2.2.2.2.1 rfl | exact hd.2.2.2.2.2.2.2.2.2.1 rfl
            subst d2
            clear hd
            have e := (hC.cell (p := ⟨N + 1, 0, none⟩) (World.block_lt_of_cell? _ _ p0)).trans p0
            unfold relAt
            simp only [putAll]
            go_simp
            simp only [relUpon]
            exact ⟨Below.refl _ _, by first | rfl | trivial⟩
          · intro wr hC hd
            have d3 : v3 = .int .i64 (na : Int) := by first | exact hd.1 rfl | exact hd.2.1 rfl | exact hd.2.2.1 rfl | exact hd.2.2.2.1 rfl | exact hd.2.2.2.2.1 rfl | exact hd.2.2.2.2.2.1 rfl | exact hd.2.2.2.2.2.2.1 rfl | exact hd.2.2.2.2.2.2.2.1 rfl | exact hd.2.2.2.2.2.2.2.2.1 rfl | exact hd.2.2.2.2.2.2.2.2.2.1 rfl
            subst d3
            clear hd
            unfold relAt
            simp only [putAll]
            go_simp
            simp only [relUpon]
            with_reducible refine (Hc1.out _ (Ht2.out.below hC)).mono ?_
            rintro e w9 ⟨rfl, hb9⟩
            exact ⟨_, rfl, hb9, rfl⟩
          · intro wr hC hd
            have d4 : v4 = .string D := by first | exact hd.1 rfl | exact hd.2.1 rfl | exact hd.2.2.1 rfl | exact hd.2.2.2.1 rfl | exact hd.2.2.2.2.1 rfl | exact hd.2.2.2.2.2.1 rfl | exact hd.2.2.2.2.2.2.1 rfl | exact hd.2.2.2.2.2.2.2.1 rfl | exact hd.2.2.2.2.2.2.2.2.1 rfl | exact hd.2.2.2.2.2.2.2.2.2.1 rfl
            subst d4
            clear hd
            unfold relAt
            simp only [putAll]
            go_simp
            simp only [relUpon]
            exact ⟨Below.refl _ _, by first | rfl | trivial⟩
          · intro wr hC hd
            clear hd
            unfold relAt
            simp only [putAll]
            go_simp
            simp only [relUpon]
            exact ⟨Below.refl _ _, by first | rfl | trivial⟩
          · intro wr hC hd
            have d6 : v6 = .pointer (some ⟨N + 1, 1, none⟩) := by first | exact hd.1 rfl | exact hd.2.1 rfl | exact hd.2.2.1 rfl | exact hd.2.2.2.1 rfl | exact hd.2.2.2.2.1 rfl | exact hd.2.2.2.2.2.1 rfl | exact hd.2.2.2.2.2.2.1 rfl | exact hd.2.2.2.2.2.2.2.1 rfl | exact hd.2.2.2.2.2.2.2.2.1 rfl | exact hd.2.2.2.2.2.2.2.2.2.1 rfl
            subst d6
            clear hd
            have e := (hC.cell (p := ⟨N + 1, 1, none⟩) (World.block_lt_of_cell? _ _ p1)).trans p1
            unfold relAt
            simp only [putAll]
            go_simp
            simp only [relUpon]
            exact ⟨Below.refl _ _, by first | rfl | trivial⟩
          · intro wr hC hd
            have d7 : v7 = .int .i64 (nb : Int) := by first | exact hd.1 rfl | exact hd.2.1 rfl | exact hd.2.2.1 rfl | exact hd.2.2.2.1 rfl | exact hd.2.2.2.2.1 rfl | exact hd.2.2.2.2.2.1 rfl | exact hd.2.2.2.2.2.2.1 rfl | exact hd.2.2.2.2.2.2.2.1 rfl | exact hd.2.2.2.2.2.2.2.2.1 rfl | exact hd.2.2.2.2.2.2.2.2.2.1 rfl
            subst d7
            clear hd
            unfold relAt
            simp only [putAll]
            go_simp
            simp only [relUpon]
            with_reducible refine (Hc2.out _ (Ht2.out.below hC)).mono ?_
            rintro e w9 ⟨rfl, hb9⟩
            exact ⟨_, rfl, hb9, rfl⟩
          · intro wr hC hd
            clear hd
            unfold relAt
            simp only [putAll]
            go_simp
            simp only [relUpon]
            exact ⟨Below.refl _ _, by first | rfl | trivial⟩
          · intro wr hC hd
            have d9 : v9 = .pointer (some ⟨N + 1, 2, none⟩) := by first | exact hd.1 rfl | exact hd.2.1 rfl | exact hd.2.2.1 rfl | exact hd.2.2.2.1 rfl | exact hd.2.2.2.2.1 rfl | exact hd.2.2.2.2.2.1 rfl | exact hd.2.2.2.2.2.2.1 rfl | exact hd.2.2.2.2.2.2.2.1 rfl | exact hd.2.2.2.2.2.2.2.2.1 rfl | exact hd.2.2.2.2.2.2.2.2.2.1 rfl
            subst d9
            clear hd
            have e := (hC.cell (p := ⟨N + 1, 2, none⟩) (World.block_lt_of_cell? _ _ p2)).trans p2
            unfold relAt
            simp only [putAll]
            go_simp
            simp only [relUpon]
            exact ⟨Below.refl _ _, by first | rfl | trivial⟩
          · intro wr hC hd
            have d10 : v10 = .int .i64 (nc : Int) := by first | exact hd.1 rfl | exact hd.2.1 rfl | exact hd.2.2.1 rfl | exact hd.2.2.2.1 rfl | exact hd.2.2.2.2.1 rfl | exact hd.2.2.2.2.2.1 rfl | exact hd.2.2.2.2.2.2.1 rfl | exact hd.2.2.2.2.2.2.2.1 rfl | exact hd.2.2.2.2.2.2.2.2.1 rfl | exact hd.2.2.2.2.2.2.2.2.2.1 rfl
            subst d10
            clear hd
            unfold relAt
            simp only [putAll]
            go_simp
            simp only [relUpon]
            with_reducible refine (Hc3.out _ (Ht2.out.below hC)).mono ?_
            rintro e w9 ⟨rfl, hb9⟩
            exact ⟨_, rfl, hb9, rfl⟩
          · intro wr hC hd
            clear hd
            unfold relAt
            simp only [putAll]
            go_simp
            simp only [relUpon]
            exact ⟨Below.refl _ _, by first | rfl | trivial⟩
          · intro wr hC hd
            have d12 : v12 = .pointer (some ⟨N + 1, 3, none⟩) := by first | exact hd.1 rfl | exact hd.2.1 rfl | exact hd.2.2.1 rfl | exact hd.2.2.2.1 rfl | exact hd.2.2.2.2.1 rfl | exact hd.2.2.2.2.2.1 rfl | exact hd.2.2.2.2.2.2.1 rfl | exact hd.2.2.2.2.2.2.2.1 rfl | exact hd.2.2.2.2.2.2.2.2.1 rfl | exact hd.2.2.2.2.2.2.2.2.2.1 rfl
            subst d12
            clear hd
            have e := (hC.cell (p := ⟨N + 1, 3, none⟩) (World.block_lt_of_cell? _ _ p3)).trans p3
            unfold relAt
            simp only [putAll]
            go_simp
            simp only [relUpon]
            exact ⟨Below.refl _ _, by first | rfl | trivial⟩
          · intro wr hC hd
            have d13 : v13 = .int .i64 (nd : Int) := by first | exact hd.1 rfl | exact hd.2.1 rfl | exact hd.2.2.1 rfl | exact hd.2.2.2.1 rfl | exact hd.2.2.2.2.1 rfl | exact hd.2.2.2.2.2.1 rfl | exact hd.2.2.2.2.2.2.1 rfl | exact hd.2.2.2.2.2.2.2.1 rfl | exact hd.2.2.2.2.2.2.2.2.1 rfl | exact hd.2.2.2.2.2.2.2.2.2.1 rfl
            subst d13
            clear hd
            unfold relAt
            simp only [putAll]
            go_simp
            simp only [relUpon]
            with_reducible refine (Hc4.out _ (Ht2.out.below hC)).mono ?_
            rintro e w9 ⟨rfl, hb9⟩
            exact ⟨_, rfl, hb9, rfl⟩
          · intro wr hC hd
            have d1 : v1 = .string nm := by first | exact hd.1 rfl | exact hd.2.1 rfl | exact hd.2.2.1 rfl | exact hd.2.2.2.1 rfl | exact hd.2.2.2.2.1 rfl | exact hd.2.2.2.2.2.1 rfl | exact hd.2.2.2.2.2.2.1 rfl | exact hd.2.2.2.2.2.2.2.1 rfl | exact hd.2.2.2.2.2.2.2.2.1 rfl | exact hd.2.2.2.2.2.2.2.2.2.1 rfl
            subst d1
            have d5 : v5 = .string (D ++ ⟨#[104]⟩) := by first | exact hd.1 rfl | exact hd.2.1 rfl | exact hd.2.2.1 rfl | exact hd.2.2.2.1 rfl | exact hd.2.2.2.2.1 rfl | exact hd.2.2.2.2.2.1 rfl | exact hd.2.2.2.2.2.2.1 rfl | exact hd.2.2.2.2.2.2.2.1 rfl | exact hd.2.2.2.2.2.2.2.2.1 rfl | exact hd.2.2.2.2.2.2.2.2.2.1 rfl
            subst d5
            have d8 : v8 = .string G := by first | exact hd.1 rfl | exact hd.2.1 rfl | exact hd.2.2.1 rfl | exact hd.2.2.2.1 rfl | exact hd.2.2.2.2.1 rfl | exact hd.2.2.2.2.2.1 rfl | exact hd.2.2.2.2.2.2.1 rfl | exact hd.2.2.2.2.2.2.2.1 rfl | exact hd.2.2.2.2.2.2.2.2.1 rfl | exact hd.2.2.2.2.2.2.2.2.2.1 rfl
            subst d8
            have d11 : v11 = .string T := by first | exact hd.1 rfl | exact hd.2.1 rfl | exact hd.2.2.1 rfl | exact hd.2.2.2.1 rfl | exact hd.2.2.2.2.1 rfl | exact hd.2.2.2.2.2.1 rfl | exact hd.2.2.2.2.2.2.1 rfl | exact hd.2.2.2.2.2.2.2.1 rfl | exact hd.2.2.2.2.2.2.2.2.1 rfl | exact hd.2.2.2.2.2.2.2.2.2.1 rfl
            subst d11
            have d14 : v14 = .string M := by first | exact hd.1 rfl | exact hd.2.1 rfl | exact hd.2.2.1 rfl | exact hd.2.2.2.1 rfl | exact hd.2.2.2.2.1 rfl | exact hd.2.2.2.2.2.1 rfl | exact hd.2.2.2.2.2.2.1 rfl | exact hd.2.2.2.2.2.2.2.1 rfl | exact hd.2.2.2.2.2.2.2.2.1 rfl | exact hd.2.2.2.2.2.2.2.2.2.1 rfl
            subst d14
            clear hd
            unfold relAt
            simp only [putAll]
            go_simp
            simp only [relUpon]
            exact ⟨(Below.refl _ _).alloc (Nat.le_refl _) _, LitS.new wr nm D G T M⟩
          · intro wr hC hd
            have d15 : LitS v15 wr nm D G T M := by first | exact hd.1 rfl | exact hd.2.1 rfl | exact hd.2.2.1 rfl | exact hd.2.2.2.1 rfl | exact hd.2.2.2.2.1 rfl | exact hd.2.2.2.2.2.1 rfl | exact hd.2.2.2.2.2.2.1 rfl | exact hd.2.2.2.2.2.2.2.1 rfl | exact hd.2.2.2.2.2.2.2.2.1 rfl | exact hd.2.2.2.2.2.2.2.2.2.1 rfl
            clear hd
            obtain ⟨X, rfl, hX⟩ := d15
            have hj := hX.join (by omega)
            rw [← HJ.out] at hj
            unfold relAt
            simp only [putAll]
            go_simp
            simp only [relUpon]
            with_reducible refine hj.mono ?_
            rintro e w9 ⟨rfl, hb9⟩
            exact ⟨_, rfl, hb9, rfl⟩
          · intro wr hC hd
            have d16 : v16 = .string J := by first | exact hd.1 rfl | exact hd.2.1 rfl | exact hd.2.2.1 rfl | exact hd.2.2.2.1 rfl | exact hd.2.2.2.2.1 rfl | exact hd.2.2.2.2.2.1 rfl | exact hd.2.2.2.2.2.2.1 rfl | exact hd.2.2.2.2.2.2.2.1 rfl | exact hd.2.2.2.2.2.2.2.2.1 rfl | exact hd.2.2.2.2.2.2.2.2.2.1 rfl
            subst d16
            clear hd
            unfold relAt
            simp only [putAll]
            go_simp
            simp only [relUpon]
            exact ⟨Below.refl _ _, by first | rfl | trivial⟩
          · intro wr hC hd
            clear hd
            unfold relAt
            simp only [putAll]
            go_simp
            simp only [relUpon]
            exact ⟨Below.refl _ _, by first | rfl | trivial⟩
      · intro vs wq hvs hC hI
        match vs, hvs, hI with
        | [v0, v1, v2, v3, v4, v5, v6, v7, v8, v9, v10, v11, v12, v13, v14, v15, v16, v17, v18], _, hI =>
          have d0 : v0 = .pointer (some ⟨N, 0, none⟩) := hI 0 (by decide)
          subst d0
          have d1 : v1 = .string nm := hI 1 (by decide)
          subst d1
          have d2 : v2 = .pointer (some ⟨N + 1, 0, none⟩) := hI 2 (by decide)
          subst d2
          have d3 : v3 = .int .i64 (na : Int) := hI 3 (by decide)
          subst d3
          have d4 : v4 = .string D := hI 4 (by decide)
          subst d4
          have d5 : v5 = .string (D ++ ⟨#[104]⟩) := hI 5 (by decide)
          subst d5
          have d6 : v6 = .pointer (some ⟨N + 1, 1, none⟩) := hI 6 (by decide)
          subst d6
          have d7 : v7 = .int .i64 (nb : Int) := hI 7 (by decide)
          subst d7
          have d8 : v8 = .string G := hI 8 (by decide)
          subst d8
          have d9 : v9 = .pointer (some ⟨N + 1, 2, none⟩) := hI 9 (by decide)
          subst d9
          have d10 : v10 = .int .i64 (nc : Int) := hI 10 (by decide)
          subst d10
          have d11 : v11 = .string T := hI 11 (by decide)
          subst d11
          have d12 : v12 = .pointer (some ⟨N + 1, 3, none⟩) := hI 12 (by decide)
          subst d12
          have d13 : v13 = .int .i64 (nd : Int) := hI 13 (by decide)
          subst d13
          have d14 : v14 = .string M := hI 14 (by decide)
          subst d14
          have d15 : LitS v15 wq nm D G T M := hI 15 (by decide)
          have d16 : v16 = .string J := hI 16 (by decide)
          subst d16
          have d17 : v17 = .string J := hI 17 (by decide)
          subst d17
          have d18 : v18 = .int .i64 0 := hI 18 (by decide)
          subst d18
          clear hI
          simp only [putAll]
          go_simp
          have Hb3 := Lib.hid (Hb2.out.trans (hC.mono (by have := Hb2.out.size; have := HN.out; omega)))
          clear hC f0 p0 p1 p2 p3
          go_wp2
          go_ret2
          exact ⟨rfl, Hb3.out⟩
end Go.Proofs.YtfhlmkeklmaedaaDoor

