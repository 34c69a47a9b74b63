/- Operators: what is drawn is valid. No condition. -/
import Derived.Test.YtilgepapkigblaaDoorOpD
import Derived.Test.YtilgepapkigblaaDoorOper
namespace Go.Proofs.YtilgepapkigblaaDoor
open Go.ChangeShapes Go.WideShapes Go.ChangeAt Go.RowKit
set_option linter.unusedVariables false
set_option maxRecDepth 100000
def namesL : List ByteArray := [⟨#[97, 110, 110]⟩, ⟨#[98, 101, 97]⟩, ⟨#[99, 121]⟩, ⟨#[100, 111, 116]⟩, ⟨#[101, 118, 101]⟩, ⟨#[102, 97, 121]⟩, ⟨#[103, 117, 115]⟩, ⟨#[104, 97, 108]⟩]
def nmO (k : Nat) : ByteArray := namesL.getD k ⟨#[]⟩
theorem nmO_size (k : Nat) : (nmO k).size ≤ 100 := by
  by_cases h : k < 8
  · have : ∀ k, k < 8 → (nmO k).size ≤ 100 := by decide
    exact this k h
  · have hl : namesL.length ≤ k := by show 8 ≤ k; omega
    unfold nmO; rw [List.getD_eq_getElem?_getD, List.getElem?_eq_none hl]; decide
def NamAt (W : World) (nb : Nat) : Prop := nb < W.heap.size ∧ ∀ k, k < 8 → W.cell? ⟨nb, k, none⟩ = some (.string (nmO k))
theorem NamAt.grown {W W' : World} {nb : Nat} {row : Option Nat} (h : NamAt W nb) (hg : W.grownBy W' row) (hne : some nb ≠ row) : NamAt W' nb :=
  ⟨Nat.lt_of_lt_of_le h.1 hg.size, fun k hk => (World.cell?_of_block (w := W) (a := ⟨nb, k, none⟩) (hg.block nb h.1 hne)).trans (h.2 k hk)⟩
theorem NamAt.new {w : World} {cs : Array Value} {T : TypeId} (h : ∀ k, k < 8 → cs[k]? = some (.string (nmO k))) : NamAt (w.alloc (.cells cs T)) w.heap.size :=
  ⟨by simp, fun k hk => by rw [cell_of_row _ w.heap.size k _ _ _ (heap_alloc_new w _)]; exact h k hk⟩
def RowN (xs : List OperatorT) : Prop := ∀ i x, xs[i]? = some x → x.nm = nmO i ∧ 0 ≤ x.skills ∧ x.skills ≤ 63
theorem rowN_nil : RowN [] := fun i x h => by simp at h
theorem rowN_snoc {xs : List OperatorT} {s : ByteArray} {sk : Int} (h : RowN xs) (hs : s = nmO xs.length) (hk : 0 ≤ sk ∧ sk ≤ 63) : RowN (xs ++ [⟨s, sk⟩]) := by
  intro i x hx
  by_cases hi : i < xs.length
  · rw [List.getElem?_append_left hi] at hx; exact h i x hx
  · rw [List.getElem?_append_right (by omega)] at hx
    obtain ⟨q, hq⟩ : ∃ q, q = i - xs.length := ⟨_, rfl⟩
    rw [← hq] at hx
    cases q with
    | zero => 
      have e : i = xs.length := by omega
      have := Option.some.inj hx
      subst this
      rw [e]; exact ⟨hs, hk.1, hk.2⟩
    | succ q => simp at hx
theorem rowN_valid {xs : List OperatorT} (h : RowN xs) (hl : xs.length ≤ 8) : validOs xs = true := by
  rw [validOs_end]
  · exact decide_eq_true hl
  · intro j hj
    obtain ⟨h1, h2, h3⟩ := h j xs[j] (by simp [hj])
    rw [goodAt_of (x := xs[j]) (by simp [hj])]
    have hv : validO xs[j] = true := by
      unfold validO
      rw [h1, Bool.and_eq_true, decide_eq_true_eq]
      have hn : ∀ k, k < 8 → nameB (nmO k) = true := by decide
      exact ⟨hn j (by omega), h2, h3⟩
    rw [hv]
    have hno : (xs.take j).any (eqNm xs[j]) = false := by
      rw [List.any_eq_false]
      intro y hy
      obtain ⟨i, hi, rfl⟩ := List.mem_iff_getElem.1 hy
      have hij : i < j := by simp at hi; omega
      have hil : i < xs.length := by omega
      rw [List.getElem_take]
      obtain ⟨g1, -, -⟩ := h i xs[i] (by simp [hil])
      unfold eqNm
      rw [g1, h1]
      have hd : ∀ i, i < 8 → ∀ j, j < 8 → i < j → ¬ ((nmO i).toList == (nmO j).toList) = true := by decide +kernel
      exact hd i (by omega) j (by omega) hij
    rw [hno]; rfl
def DrawnN (base : Nat) (e : Ending) (w' : World) : Prop := ∃ u xs, e = .returned u ∧ Own eOperator 50 base w' u xs ∧ xs.length ≤ 6 ∧ RowN xs
set_option maxHeartbeats 1000000 in
theorem l22Draw_v {w : World} {b N : Nat} (hs : Src w b N) (hN : N ≤ 1000000) :
    Calls Tryd.prog 53 #[.pointer (some ⟨b, 0, none⟩)] w fun e w' => DrawnN w.heap.size e w' ∧ Src w' b (N + 200) ∧ w.grownBy w' (some b) := by
  obtain ⟨i0, hi, hz0, hz1, hz2⟩ := info_parts Tryd.infoOperator
  have hbl := hs.lt
  have hlit : ∀ o : Obj, Own eOperator 50 (w.heap.size + 1) ((w.alloc o).alloc (.cells #[] 50)) (.slice (some ⟨w.heap.size + 1, 0, none⟩) 0 0) [] := fun o => by
    have h := Own.lit (E := eOperator) (e := 50) (base := w.heap.size + 1) (w := w.alloc o) (xs := []) (cs := #[]) (n := 0) (by simp) rfl rfl (by decide) (fun x hx => by cases hx)
    simpa using h
  go_enter Tryd.func53, Tryd.ntmps53
  go_wp2_with fail
  refine (pick_any 7 ((hs.alloc _).alloc _) (by omega) (by omega)).mono ?_
  rintro e w1 ⟨⟨r, rfl, hr0, hr1, _⟩, hs1, hg1, hz1⟩
  have hr2 := hr1 (by omega)
  have ho1 := Own.keptS (hlit _) hg1 (by omega)
  have hst1 : NamAt w1 w.heap.size := by
    refine ((NamAt.new ?_).grown (World.grownBy_alloc _ _ none) (by simp)).grown hg1 (fun h => by have := Option.some.inj h; omega)
    intro k hk
    obtain rfl | rfl | rfl | rfl | rfl | rfl | rfl | rfl : k = 0 ∨ k = 1 ∨ k = 2 ∨ k = 3 ∨ k = 4 ∨ k = 5 ∨ k = 6 ∨ k = 7 := by omega
    all_goals rfl
  have hg1' : w.grownBy w1 (some b) := grownBy_trans (World.grownBy_alloc w _ _) (grownBy_trans (World.grownBy_alloc _ _ _) hg1)
  clear hr1 hz1 hg1 hlit
  go_wp2_with fail
  go_loopw [4, 5] (fun v k wr => ∃ (kk : Int) (xs : List OperatorT), 0 ≤ kk ∧ kk + xs.length ≤ 6 ∧ Hid (RowN xs) ∧ k = .int .i64 kk ∧ Own eOperator 50 (w.heap.size + 1) wr v xs ∧ Src wr b (N + 2 + 20 * xs.length) ∧ w.grownBy wr (some b) ∧ NamAt wr w.heap.size) (fun _ k _ => (intOf k).toNat)
  case atStart => exact ⟨r, [], by omega, by simp; omega, Lib.hid (rowN_nil), rfl, ho1, hs1, hg1', hst1⟩
  case round =>
    obtain ⟨kk, xs, hk0, hkj, Hrow, rfl, hown, hsr, hgr, hst⟩ := hrel
    have hsz : w.heap.size ≤ wr.heap.size := hgr.size
    have hsz1 : w.heap.size < wr.heap.size := hst.1
    clear ho1 hs1 hg1' hst1
    obtain ⟨ao, cap, rfl⟩ := hown.shape
    by_cases hk : 0 < kk
    · have hcs := hst.2 xs.length (by omega)
      obtain ⟨s, hse⟩ : ∃ s, s = nmO xs.length := ⟨_, rfl⟩
      have Hse := Lib.hid hse
      rw [← hse] at hcs
      have hss : s.size ≤ 100 := by rw [hse]; exact nmO_size _
      clear hse
      have hxl8 : xs.length < 8 := by omega
      go_wp2_with fail
      generalize hXe : wr.heap.size = X
      have HXe := Lib.hid hXe
      clear hXe
      have Hne : Hid ((Value.slice ao xs.length cap).ownBlock = none ∨ (Value.slice ao xs.length cap).ownBlock ≠ some X) := Lib.hid (by
        cases ho : (Value.slice ao xs.length cap).ownBlock with
        | none => exact .inl rfl
        | some k => right; intro e; have := (hown.lt k ho).2; have := Option.some.inj e; have := HXe.out; omega)
      go_loopw [7] (fun m wr => ∃ (mm : Nat) (sk : Int), mm ≤ 6 ∧ m = .int .i64 mm ∧ (0 ≤ sk ∧ sk ≤ 63) ∧ wr.heap[X]? = some (.cells #[.string s, .int .i64 sk] 50 (0, 0)) ∧ Own eOperator 50 (w.heap.size + 1) wr (.slice ao xs.length cap) xs ∧ Src wr b (N + 2 + 20 * xs.length + 2 * mm) ∧ w.grownBy wr (some b) ∧ NamAt wr w.heap.size ∧ X < wr.heap.size ∧ w.heap.size < X) (fun m _ => 6 - (intOf m).toNat)
      case atStart => exact ⟨0, 0, by omega, rfl, by omega, by rw [← HXe.out]; exact heap_alloc_new wr _, hown.alloc _, hsr.alloc _, grownBy_trans hgr (World.grownBy_alloc _ _ _), hst.grown (World.grownBy_alloc wr _ none) (by simp), by rw [← HXe.out]; simp, by have := HXe.out; omega⟩
      case round =>
        obtain ⟨mm, sk, hmm, rfl, hsk, hX, hownq, hsq, hgq, hstq, hszq, hszx⟩ := hrel
        clear hown hsr hgr hst hcs
        by_cases hm6 : mm < 6
        · go_wp2_with fail
          refine (one_any 3 hsq (by omega) (by omega)).mono ?_
          rintro e w2 ⟨⟨q, rfl⟩, hs2, hg2, hz2⟩
          have hX2 := kept_heap hX hg2 (fun h => by have := Option.some.inj h; omega)
          have hown2 := hownq.keptS hg2 (by omega)
          have hst2 := hstq.grown hg2 (fun h => by have := Option.some.inj h; omega)
          have hgq2 := grownBy_trans hgq hg2
          have hsz2 : X < w2.heap.size := by omega
          have c1 : w2.cell? ⟨X, 1, none⟩ = some (.int .i64 sk) := by rw [cell_of_row w2 X 1 _ _ _ hX2]; rfl
          have f1 : w2.frozen? ⟨X, 1, none⟩ = false := frozen_of_row w2 X 1 _ _ hX2
          have hso := fun v => set_one (v := v) hX2
          have hsk2 := skill_any (s := sk) (m := (mm : Int)) hsk ⟨by omega, by omega⟩
          have hpw := (pow_m (m := (mm : Int)) ⟨by omega, by omega⟩).1
          simp only [Int.toNat_natCast] at hpw
          have Hso := Lib.hid hso
          have HX2 := Lib.hid hX2
          have Hsk2 := Lib.hid hsk2.1
          clear hz2 hX hg2 hownq hsq hgq hstq hso hX2 hsk2
          cases q with
          | true =>
            go_wp2
            go_roundw
            case rel =>
              have hg3 := (Hso.out (.int .i64 (orB sk (mm : Int)))).2
              exact ⟨mm + 1, orB sk (mm : Int), by omega, by go_num, Hsk2.out, (Hso.out _).1, hown2.kept hg3 Hne.out, (hs2.kept hg3 (fun k hk => by have := Option.some.inj hk; omega)).mono (by omega), grown_own hgq2 hg3 (fun k hk => by have := Option.some.inj hk; omega), hst2.grown hg3 (fun h => by have := Option.some.inj h; omega), by simpa using hsz2, hszx⟩
            case measure => simp [intOf]; omega
          | false =>
            go_wp2
            go_roundw
            case rel => exact ⟨mm + 1, sk, by omega, by go_num, hsk, HX2.out, hown2, hs2.mono (by omega), hgq2, hst2, hsz2, hszx⟩
            case measure => simp [intOf]; omega
        · have c0 : wr.cell? ⟨X, 0, none⟩ = some (.string s) := by rw [cell_of_row wr X 0 _ _ _ hX]; rfl
          have c1 : wr.cell? ⟨X, 1, none⟩ = some (.int .i64 sk) := by rw [cell_of_row wr X 1 _ _ _ hX]; rfl
          have Hsk := Lib.hid hsk
          have Hqp : okOperator ⟨s, sk⟩ := ⟨by show s.size ≤ _; omega, by show -9223372036854775808 ≤ sk; omega, by show sk ≤ 9223372036854775807; omega⟩
          have hszw : w.heap.size + 1 ≤ wr.heap.size := by omega
          have hmm6 : mm ≤ 6 := hmm
          clear hX hsk
          go_wp2_with (first | (at_builtin; refine wpList_appS (E := eOperator) rfl _ _ 22 rfl Tryd.underlying22 hi hz0 hz1 hz2 rfl (by decide) rfl rfl (hownq.alloc _) (rds_one (E := eOperator) (x := ⟨s, sk⟩) Hqp rfl) ?b1 ?b2 ?b3 ?_))
          case b1 => unfold maxLen; simp; omega
          case b2 => simp; omega
          case b3 => simp; omega
          intro v' w3 hown3 hg3
          have hg3' := hg3.alloc.1
          have hs3 : Src w3 b (N + 2 + 20 * xs.length + 2 * mm) := hsq.kept hg3' (fun k hk => by have := (hownq.lt k hk).1; omega)
          have hg4 := grown_own hgq hg3' (fun k hk => by have := (hownq.lt k hk).1; omega)
          have hst3 := hstq.grown hg3' (fun h => by have := (hownq.lt _ h.symm).1; omega)
          clear hg3 hg3' hgq hsq hstq hownq Hqp
          go_wp2
          go_roundw
          case rel => exact ⟨kk - 1, _, by omega, by simp; omega, Lib.hid (rowN_snoc Hrow.out Hse.out Hsk.out), by go_num, hown3, hs3.mono (by simp; omega), hg4, hst3⟩
          case measure => simp [intOf]; omega
    · go_wp2
      go_ret
      exact ⟨⟨_, xs, rfl, hown.mono (by omega), by omega, Hrow.out⟩, hsr.mono (by omega), hgr⟩
end Go.Proofs.YtilgepapkigblaaDoor
