/- The text of operators: plain, and the program's. The condition: the table of names lies as the program's text lays it. -/
import Derived.Test.YtilgepapkigblaaDoorNamesM
import Derived.Test.YtilgepapkigblaaDoorCan
import Derived.Test.YtilgepapkigblaaDoorAppSt
namespace Go.Proofs.YtilgepapkigblaaDoor
open Go.ChangeShapes Go.WideShapes Go.ChangeAt Go.RowKit
set_option linter.unusedVariables false
set_option maxRecDepth 100000
def mT (x : OperatorT) (T : ByteArray) : Nat → ByteArray
  | 0 => T
  | k + 1 => if canB x.skills (k : Int) = true then mT x T k ++ (⟨#[32]⟩ ++ nmB k) else mT x T k
def rowT (T : ByteArray) (x : OperatorT) : ByteArray := mT x (T ++ (x.nm ++ ⟨#[58]⟩)) 6 ++ ⟨#[10]⟩
def textO (xs : List OperatorT) : ByteArray := xs.foldl rowT ⟨#[]⟩
theorem textO_take {xs : List OperatorT} {k : Nat} {x : OperatorT} (h : xs[k]? = some x) : textO (xs.take (k + 1)) = rowT (textO (xs.take k)) x := by
  unfold textO
  rw [take_snoc h, List.foldl_append]
  rfl
theorem nmB_size : ∀ k, (nmB k).size ≤ 10 := by
  intro k
  by_cases h : k < 6
  · obtain rfl | rfl | rfl | rfl | rfl | rfl : k = 0 ∨ k = 1 ∨ k = 2 ∨ k = 3 ∨ k = 4 ∨ k = 5 := by omega
    all_goals decide
  · unfold nmB
    rw [List.getD_eq_getElem?_getD, List.getElem?_eq_none (by show 6 ≤ k; omega)]
    decide
theorem mT_size (x : OperatorT) (T : ByteArray) : ∀ k, (mT x T k).size ≤ T.size + 11 * k := by
  intro k
  induction k with
  | zero => exact Nat.le_refl _
  | succ k ih =>
    unfold mT
    split
    · have h1 := nmB_size k
      have h2 : (⟨#[32]⟩ : ByteArray).size = 1 := rfl
      rw [ByteArray.size_append, ByteArray.size_append, h2]
      omega
    · omega
theorem rowT_size {x : OperatorT} (h : x.nm.size ≤ 12) (T : ByteArray) : (rowT T x).size ≤ T.size + 80 := by
  unfold rowT
  have h1 := mT_size x (T ++ (x.nm ++ ⟨#[58]⟩)) 6
  have h2 : (⟨#[58]⟩ : ByteArray).size = 1 := rfl
  have h3 : (⟨#[10]⟩ : ByteArray).size = 1 := rfl
  rw [ByteArray.size_append, ByteArray.size_append, h2] at h1
  rw [ByteArray.size_append, h3]
  omega
theorem textO_size {xs : List OperatorT} (h : ∀ x ∈ xs, x.nm.size ≤ 12) : ∀ k, k ≤ xs.length → (textO (xs.take k)).size ≤ 80 * k := by
  intro k
  induction k with
  | zero => intro _; exact Nat.le_refl _
  | succ k ih =>
    intro hk
    obtain ⟨x, hx⟩ : ∃ x, xs[k]? = some x := ⟨_, List.getElem?_eq_getElem (by omega)⟩
    rw [textO_take hx]
    have h1 := rowT_size (h x (List.mem_of_getElem? hx)) (textO (xs.take k))
    have h2 := ih (by omega)
    omega
def OTV (xs : List OperatorT) : ByteArray := if validOs xs = true then textO xs else ⟨#[]⟩
theorem run_nm6 (q : Nat) (hq : q < 6) (w : World) : (Instr.index 58 (.agg #[.string (nmB 0), .string (nmB 1), .string (nmB 2), .string (nmB 3), .string (nmB 4), .string (nmB 5)]) (.int .i64 (q : Int))).run Tryd.prog w = .ok (.string (nmB q)) w := by
  obtain rfl | rfl | rfl | rfl | rfl | rfl : q = 0 ∨ q = 1 ∨ q = 2 ∨ q = 3 ∨ q = 4 ∨ q = 5 := by omega
  all_goals
    have hu := Tryd.underlying58
    simp [Instr.index, asIntOf, run_underlying hu, part, sizeOf, typeInfo, go_sem]
    try rfl
set_option maxHeartbeats 1000000 in
theorem OperatorsText_c {xs : List OperatorT} {v : Value} {w : World} {A : Nat} (hn : NamesAt w) (ha : RdOperatorS A w v xs) :
    Calls Tryd.prog 18 #[v] w fun e w' => e = .returned (.string (OTV xs)) ∧ Below w.heap.size w w' := by
  have hle := ha.le
  obtain ⟨ao, cap, rfl, ho⟩ := eOperator_open ha.tight
  have Ha := Lib.hid ha
  have HN := Lib.hid hn
  cases hv : validOs xs with
  | false =>
    have e1 : OTV xs = ⟨#[]⟩ := by unfold OTV; rw [hv]; rfl
    rw [e1]
    have Hv := Lib.hid hv
    clear hv e1 ha ho hn
    go_enter Tryd.func18, Tryd.ntmps18
    go_wp2_with fail
    with_reducible refine (ValidOperators_c Ha.out).mono ?_
    rw [Hv.out]
    rintro e w1 ⟨rfl, hb⟩
    go_wp2
    go_ret
    exact ⟨rfl, hb⟩
  | true =>
    have e1 : OTV xs = textO xs := by unfold OTV; rw [if_pos hv]
    rw [e1]
    obtain ⟨hn8, hxs⟩ := validOs_parts hv
    obtain ⟨n, hnn⟩ : ∃ n, n = xs.length := ⟨_, rfl⟩
    rw [← hnn] at hn8 hle ho Ha ⊢
    have Hv := Lib.hid hv
    have Hxs := Lib.hid hxs
    have Ho := Lib.hid ho
    have Hnn := Lib.hid hnn
    clear hv e1 ha ho hn hxs hnn
    go_enter Tryd.func18, Tryd.ntmps18
    go_wp2_with fail
    with_reducible refine (ValidOperators_c Ha.out).mono ?_
    rw [Hv.out]
    rintro e w1 ⟨rfl, hb⟩
    have Hb := Lib.hid hb
    clear hb
    go_wp2
    go_loopw [3, 13] (fun t i wr => ∃ k : Nat, k ≤ n ∧ i = .int .i64 k ∧ t = .string (textO (xs.take k)) ∧ Below w.heap.size w wr) (fun _ i _ => n - (intOf i).toNat)
    case atStart => exact ⟨0, Nat.zero_le _, rfl, rfl, Hb.out⟩
    case round =>
      obtain ⟨k, hk, rfl, rfl, hb⟩ := hrel
      clear Hb
      by_cases hkn : k < n
      · obtain ⟨b, off, rfl, lt, cc⟩ := Ho.out (by omega)
        obtain ⟨x, hx, ⟨x0, x1⟩, xb⟩ := cc k (by have := Hnn.out; omega)
        have d0 := (hb.cell (p := ⟨b, off + k * 2, none⟩) (by show b < w.heap.size; omega)).trans x0
        have d1 := (hb.cell (p := ⟨b, off + k * 2 + 1, none⟩) (by show b < w.heap.size; omega)).trans x1
        have hxr := Hxs.out x (List.mem_of_getElem? hx)
        have hnm := (nameB_size hxr.1).2
        have hT := textO_size (xs := xs) (fun x hx => (nameB_size (Hxs.out x hx).1).2) k (by have := Hnn.out; omega)
        have hta := textO_take hx
        obtain ⟨T, hTe⟩ : ∃ T, T = textO (xs.take k) := ⟨_, rfl⟩
        rw [← hTe] at hT hta ⊢
        have Hta := Lib.hid hta
        have hN := HN.out.below hb
        have n0 := hN 0 (by decide)
        have n1 := hN 1 (by decide)
        have n2 := hN 2 (by decide)
        have n3 := hN 3 (by decide)
        have n4 := hN 4 (by decide)
        have n5 := hN 5 (by decide)
        have hgz : 0 < wr.heap.size := World.block_lt_of_cell? wr _ n0
        have hTs : T.size ≤ 640 := by omega
        have h1s : (x.nm ++ (⟨#[58]⟩ : ByteArray)).size ≤ 13 := by rw [ByteArray.size_append]; have h2 : (⟨#[58]⟩ : ByteArray).size = 1 := rfl; omega
        clear hx xb cc x0 x1 hta hN hTe
        obtain ⟨T1, hT1⟩ : ∃ T1, T1 = T ++ (x.nm ++ ⟨#[58]⟩) := ⟨_, rfl⟩
        have hT1s : T1.size ≤ 653 := by rw [hT1, ByteArray.size_append]; omega
        have Hrow : Hid (rowT T x = mT x T1 6 ++ ⟨#[10]⟩) := Lib.hid (by unfold rowT; rw [hT1])
        have Hxs' := Lib.hid hxr.2
        have hle2 : xs.length ≤ 8 := by have := Hnn.out; omega
        obtain ⟨N, hN2⟩ : ∃ N, N = wr.heap.size := ⟨_, rfl⟩
        have a0 : Hid (∀ T, (wr.alloc (.cells #[.string x.nm, .int .i64 x.skills] T)).cell? ⟨N, 0, none⟩ = some (.string x.nm)) := Lib.hid (fun T => by subst hN2; rw [cell_of_row _ wr.heap.size 0 _ _ _ (heap_alloc_new wr _)]; rfl)
        have a1 : Hid (∀ T, (wr.alloc (.cells #[.string x.nm, .int .i64 x.skills] T)).cell? ⟨N, 1, none⟩ = some (.int .i64 x.skills)) := Lib.hid (fun T => by subst hN2; rw [cell_of_row _ wr.heap.size 1 _ _ _ (heap_alloc_new wr _)]; rfl)
        have HB := Lib.hid hb
        have HwN : w.heap.size ≤ N := by have := hb.size; omega
        have HN2 := Lib.hid hN2
        have HT1 := Lib.hid hT1
        clear hN2 hT1
        go_wp2_with fail
        rw [← HN2.out, ← HT1.out]
        clear d0 d1 n0 n1 n2 n3 n4 n5
        go_loopw [3, 23] (fun t i wr => ∃ q : Nat, q ≤ 6 ∧ i = .int .i64 q ∧ t = .string (mT x T1 q) ∧ Below w.heap.size w wr ∧ wr.cell? ⟨N, 0, none⟩ = some (.string x.nm) ∧ wr.cell? ⟨N, 1, none⟩ = some (.int .i64 x.skills)) (fun _ i _ => 6 - (intOf i).toNat)
        case atStart => exact ⟨0, Nat.zero_le _, rfl, rfl, HB.out.alloc HB.out.size _, a0.out _, a1.out _⟩
        case round =>
          obtain ⟨q, hq, rfl, rfl, hb, c0, c1⟩ := hrel
          clear HB a0 a1
          by_cases hq6 : q < 6
          · have hms := mT_size x T1 q
            have hmss : (mT x T1 q).size ≤ 719 := by omega
            have Hq6 := Lib.hid hq6
            have hNb := World.block_lt_of_cell? wr _ c0
            have Hb := Lib.hid hb
            have Hms : Hid (mT x T1 (q + 1) = if canB x.skills (q : Int) = true then mT x T1 q ++ (⟨#[32]⟩ ++ nmB q) else mT x T1 q) := Lib.hid rfl
            have hns := nmB_size q
            have hidx := run_nm6 q hq6 wr
            obtain ⟨M, hM⟩ : ∃ M, M = mT x T1 q := ⟨_, rfl⟩
            rw [← hM] at hmss Hms ⊢
            have Hkeep : Hid (∀ W, Below wr.heap.size wr W → Below w.heap.size w W ∧ W.cell? ⟨N, 0, none⟩ = some (.string x.nm) ∧ W.cell? ⟨N, 1, none⟩ = some (.int .i64 x.skills)) := Lib.hid (fun W hW => ⟨hb.trans (hW.mono hb.size), (hW.cell (p := ⟨N, 0, none⟩) hNb).trans c0, (hW.cell (p := ⟨N, 1, none⟩) hNb).trans c1⟩)
            obtain ⟨nb, hnb⟩ : ∃ nb, nb = nmB q := ⟨_, rfl⟩
            have hns1 : nb.size ≤ 10 := by rw [hnb]; exact hns
            have hns2 : ((⟨#[32]⟩ : ByteArray) ++ nb).size ≤ 11 := by rw [ByteArray.size_append, hnb]; have h2 : (⟨#[32]⟩ : ByteArray).size = 1 := rfl; omega
            rw [← hnb] at Hms hidx
            clear hb hM hms hnb hns
            go_wp2_with fail
            with_reducible refine (canRun_c x _ _ Hxs'.out (by omega)).mono ?_
            rintro e w2 ⟨rfl, hb2⟩
            cases hcan : canB x.skills (q : Int) with
            | true =>
              rw [hcan, if_pos rfl] at Hms
              go_wp2
              go_roundw
              case rel => exact ⟨q + 1, by omega, by go_num, congrArg Value.string Hms.out.symm, Hkeep.out _ hb2⟩
              case measure => simp [intOf]; omega
            | false =>
              rw [hcan, if_neg (by decide)] at Hms
              go_wp2
              go_roundw
              case rel => exact ⟨q + 1, by omega, by go_num, congrArg Value.string Hms.out.symm, Hkeep.out _ hb2⟩
              case measure => simp [intOf]; omega
          · obtain rfl : q = 6 := by omega
            have hms := mT_size x T1 6
            have hmss : (mT x T1 6).size ≤ 719 := by omega
            clear c0 c1
            go_wp2
            go_roundw
            case rel => exact ⟨k + 1, hkn, by go_num, congrArg Value.string (Hrow.out.symm.trans Hta.out.symm), hb⟩
            case measure => simp [intOf]; omega
      · obtain rfl : k = n := by omega
        rw [List.take_of_length_le (by have := Hnn.out; omega)]
        go_wp2
        go_ret
        exact ⟨rfl, hb⟩
end Go.Proofs.YtilgepapkigblaaDoor
