/- Who can run a machine: the program's and the reference's, each by its contract. No condition. -/
import Derived.Test.YtilgepapkigblaaDoorOper
import Derived.Test.YtilgepapkigblaaDoorApp
import Derived.Test.YtilgepapkigblaaDoorInts
import Derived.Test.YtilgepapkigblaaDoorCopy
namespace Go.Proofs.YtilgepapkigblaaDoor
open Go.ChangeShapes Go.WideShapes Go.ChangeAt Go.RowKit
set_option linter.unusedVariables false
set_option maxRecDepth 100000
/-- a skill's bit -/
def canB (s m : Int) : Bool := bits BinOp.and IntKind.i64 (s / 2 ^ m.toNat) 1 == 1
def isM (m : Int) : Prop := 0 ≤ m ∧ m ≤ 5
theorem canRun_c (x : OperatorT) (m : Int) (w : World) (hx : 0 ≤ x.skills ∧ x.skills ≤ 63) (hm : 0 ≤ m ∧ m ≤ 5) :
    Calls Tryd.prog 45 #[vOperator x, .int .i64 m] w fun e w' => e = .returned (.bool (canB x.skills m)) ∧ Below w.heap.size w w' := by
  obtain ⟨hx1, hx2⟩ := hx
  obtain ⟨hm1, hm2⟩ := hm
  unfold canB
  go_enter Tryd.func45, Tryd.ntmps45
  go_wp2
  go_ret
  exact ⟨rfl, (Below.refl _ _).alloc (Nat.le_refl _) _⟩
theorem l22Can_c (x : OperatorT) (m : Int) (w : World) (hx : 0 ≤ x.skills ∧ x.skills ≤ 63) (hm : 0 ≤ m ∧ m ≤ 5) {b off : Nat} (c1 : w.cell? ⟨b, off + 1, none⟩ = some (.int .i64 x.skills)) :
    Calls Tryd.prog 48 #[.pointer (some ⟨b, off, none⟩), .int .i64 m] w fun e w' => e = .returned (.bool (canB x.skills m)) ∧ w = w' := by
  obtain ⟨hx1, hx2⟩ := hx
  obtain ⟨hm1, hm2⟩ := hm
  unfold canB
  go_enter Tryd.func48, Tryd.ntmps48
  go_wp2
  go_ret
  exact ⟨rfl, rfl⟩
theorem isMachine_any (m : Int) (w : World) : Calls Tryd.prog 42 #[.int .i64 m] w fun e w' => e = .returned (.bool (decide (0 ≤ m ∧ m ≤ 5))) ∧ w = w' := by
  go_enter Tryd.func42, Tryd.ntmps42
  go_wp2_with fail
  with_reducible refine (inside_any m 0 5 w).mono ?_
  rintro e w' ⟨rfl, rfl⟩
  go_wp2
  go_ret
  exact ⟨ret_bool (by simp), rfl⟩
def canAt (xs : List OperatorT) (m i : Int) : Bool := match xs[i.toNat]? with
  | some x => canB x.skills m
  | none => false
theorem canAt_of {xs : List OperatorT} {m : Int} {k : Nat} {x : OperatorT} (h : xs[k]? = some x) : canAt xs m (k : Int) = canB x.skills m := by
  unfold canAt
  rw [Int.toNat_natCast, h]
theorem sizeO_any0 {ao : Option Addr} {n cap : Nat} {w : World} (hn : n ≤ 9223372036854775807) :
    Calls Tryd.prog 44 #[.slice ao n cap] w fun e w' => e = .returned (.int .i64 n) ∧ w = w' := by
  go_enter Tryd.func44, Tryd.ntmps44
  go_wp2
  go_ret
  exact ⟨rfl, rfl⟩
theorem sizeO_any {α : Type} {E : Elt α} {xs : List α} {ao : Option Addr} {n cap : Nat} {w : World} {A : Nat} (ha : Rds E A w (.slice ao n cap) xs) :
    Calls Tryd.prog 44 #[.slice ao n cap] w fun e w' => e = .returned (.int .i64 n) ∧ w = w' := by
  have hle := ha.le
  have hcap := ha.cap
  have hn : n ≤ 9223372036854775807 := by omega
  clear ha hcap hle
  go_enter Tryd.func44, Tryd.ntmps44
  go_wp2
  go_ret
  exact ⟨rfl, rfl⟩
theorem clo_OF {xs : List OperatorT} {ao : Option Addr} {n cap : Nat} {W : World} {A : Nat} {i : Nat} {m : Int} {c d : Nat} (hv : validOs xs = true) (hm : 0 ≤ m ∧ m ≤ 5) (hn : n = xs.length) (hi : i < n)
    (hc : W.cell? ⟨c, 0, none⟩ = some (.slice ao n cap)) (hd : W.cell? ⟨d, 0, none⟩ = some (.int .i64 m)) (ha : RdOperatorS A W (.slice ao n cap) xs) :
    Calls Tryd.prog 51 #[.int .i64 (i : Int), .pointer (some ⟨c, 0, none⟩), .pointer (some ⟨d, 0, none⟩)] W fun e w' => e = .returned (.bool (canAt xs m i)) ∧ Below W.heap.size W w' := by
  have hle := ha.le
  obtain ⟨ao', cap', hs, ho⟩ := eOperator_open ha
  injection hs with h1 h2 h3
  subst h1
  subst h3
  obtain ⟨b, off, rfl, hlt, hcc⟩ := ho (by omega)
  obtain ⟨x, hx, ⟨c0, c1⟩, bx⟩ := hcc i (by omega)
  have hxs := (validOs_parts hv).2 x (List.mem_of_getElem? hx)
  rw [canAt_of hx]
  have hin : n ≤ 9223372036854775807 := by omega
  have Hm := Lib.hid hm
  have Hxs := Lib.hid hxs
  clear hcc ho hx bx h2 hle ha hv hxs hn hm
  go_enter Tryd.func51, Tryd.ntmps51
  go_wp2_with fail
  go_still_tail 5, (by kernel_rfl)
  change wpList _ _ _ _ _ W.drew
  go_wp2_with fail
  with_reducible refine (canRun_c x m _ Hxs.out.2 Hm.out).mono ?_
  rintro e w1 ⟨rfl, hb⟩
  have hb2 : Below W.heap.size W w1 := (Below.drew1 (Below.refl _ _)).trans hb
  clear hb c0 c1 hc hd
  go_wp2
  go_ret
  exact ⟨rfl, hb2⟩
theorem cols_OF {w : World} {n : Nat} {p : Int → Bool} {c d : Nat} (hn : n ≤ 1000)
    (hclo : ∀ (i : Nat) (W : World), i < n → Below w.heap.size w W → Calls Tryd.prog 51 #[.int .i64 (i : Int), .pointer (some ⟨c, 0, none⟩), .pointer (some ⟨d, 0, none⟩)] W fun e w' => e = .returned (.bool (p i)) ∧ Below W.heap.size W w') :
    Calls Tryd.prog 50 #[.int .i64 (n : Int), .func (.func 51) #[] #[.pointer (some ⟨c, 0, none⟩), .pointer (some ⟨d, 0, none⟩)]] w fun e w' => ∃ u, e = .returned u ∧ Own eI 2 w.heap.size w' u (selI p n) ∧ Below w.heap.size w w' := by
  obtain ⟨i0, hi, hz0, hz1, hz2⟩ := info_parts Tryd.infoInt64
  have Hclo := Lib.hid hclo
  have ho0 : Own eI 2 w.heap.size (w.alloc (.cells #[] 2)) (.slice (some ⟨w.heap.size, 0, none⟩) 0 0) (selI p 0) :=
    Own.lit (E := eI) (xs := []) (cs := #[]) (Nat.le_refl _) rfl rfl (by decide) (fun x hx => by cases hx)
  have hb0 : Below w.heap.size w (w.alloc (.cells #[] 2)) := (Below.refl _ _).alloc (Nat.le_refl _) _
  clear hclo
  go_enter Tryd.func50, Tryd.ntmps50
  go_wp2
  go_loopw [5, 9] (fun v i wr => ∃ k : Nat, k ≤ n ∧ i = .int .i64 k ∧ Own eI 2 w.heap.size wr v (selI p k) ∧ Below w.heap.size w wr) (fun _ i _ => n - (intOf i).toNat)
  case atStart => exact ⟨0, Nat.zero_le _, rfl, ho0, hb0⟩
  case round =>
    obtain ⟨k, hk, rfl, hown, hb⟩ := hrel
    clear ho0 hb0
    by_cases hkn : k < n
    · have hc := Hclo.out k _ hkn hb
      have Hc := Lib.hid hc
      have hsl := selI_len p k
      have hss := selI_succ p k
      have Hss := Lib.hid hss
      have Hb := Lib.hid hb
      have Hown := Lib.hid hown
      clear hc hss hb hown
      go_wp2_with fail
      with_reducible refine Hc.out.mono ?_
      cases hp : p (k : Int) with
      | true =>
        have Hp := Lib.hid hp
        clear hp
        rintro e w1 ⟨rfl, hb1⟩
        have hb2 := Hb.out.trans (hb1.mono Hb.out.size)
        have hown1 := Hown.out.below hb1 (Nat.le_refl _)
        have Hqp : eI.ok (k : Int) := by show -9223372036854775808 ≤ (k : Int) ∧ (k : Int) ≤ 9223372036854775807; omega
        have hsz := hb2.size
        clear hb1 Hb Hown
        go_wp2_with (first | (at_builtin; refine wpList_appS (E := eI) rfl _ _ 35 rfl Tryd.underlying35 hi hz0 hz1 hz2 rfl (by decide) rfl rfl (hown1.alloc _) (rds_one (E := eI) (x := (k : Int)) Hqp rfl) ?b1 ?b2 ?b3 ?_))
        case b1 => unfold maxLen; simp; omega
        case b2 => simp; omega
        case b3 => simp; omega
        intro v' w3 hown3 hg3
        have hb3 : Below w.heap.size w w3 := hg3.alloc.below hb2 hb2.size (fun j hj => (hown1.lt j hj).1)
        clear hg3 hb2 hown1 Hqp
        go_wp2
        go_roundw
        case rel => exact ⟨k + 1, by omega, by go_num, by rw [Hss.out, Hp.out]; exact hown3, hb3⟩
        case measure => simp [intOf]; omega
      | false =>
        have Hp := Lib.hid hp
        clear hp
        rintro e w1 ⟨rfl, hb1⟩
        have hb2 := Hb.out.trans (hb1.mono Hb.out.size)
        have hown1 := Hown.out.below hb1 (Nat.le_refl _)
        clear hb1 Hb Hown
        go_wp2
        go_roundw
        case rel => exact ⟨k + 1, by omega, by go_num, by rw [Hss.out, Hp.out]; simpa using hown1, hb2⟩
        case measure => simp [intOf]; omega
    · obtain rfl : k = n := by omega
      go_wp2
      go_ret
      exact ⟨_, rfl, hown, hb⟩

def OFC (xs : List OperatorT) (m : Int) : Int := if validOs xs = true then (if 0 ≤ m ∧ m ≤ 5 then 0 else 2) else 1
def OFR (xs : List OperatorT) (m : Int) : List Int := if OFC xs m = 0 then selI (canAt xs m) xs.length else []
theorem OFR_ok {xs : List OperatorT} {m : Int} (h : OFC xs m = 0) : OFR xs m = selI (canAt xs m) xs.length := if_pos h
theorem OFR_no {xs : List OperatorT} {m : Int} (h : OFC xs m ≠ 0) : OFR xs m = [] := if_neg h
theorem OperatorsFor_c {xs : List OperatorT} {v : Value} {w : World} {A : Nat} (m : Int) (ha : RdOperatorS A w v xs) :
    Calls Tryd.prog 15 #[v, .int .i64 m] w fun e w' => ∃ u, e = .returned (.tuple #[u, .int .i64 (OFC xs m)]) ∧ Own eI 2 w.heap.size w' u (OFR xs m) ∧ Below w.heap.size w w' := by
  have hle := ha.le
  obtain ⟨ao, cap, rfl⟩ := ha.shape
  obtain ⟨n, hn⟩ : ∃ n, n = xs.length := ⟨_, rfl⟩
  rw [← hn] at ha ⊢
  have hB0 : Box ((w.alloc (.cells #[.slice ao n cap] 22)).alloc (.cells #[.int .i64 m] 2)) w.heap.size [.slice ao n cap] := (Box.new w [.slice ao n cap] _).alloc _
  have hB1 : Box ((w.alloc (.cells #[.slice ao n cap] 22)).alloc (.cells #[.int .i64 m] 2)) (w.heap.size + 1) [.int .i64 m] := by
    have := Box.new (w.alloc (.cells #[.slice ao n cap] 22)) [.int .i64 m] 2
    simpa using this
  have hb0 : Below w.heap.size w ((w.alloc (.cells #[.slice ao n cap] 22)).alloc (.cells #[.int .i64 m] 2)) := ((Below.refl _ _).alloc (Nat.le_refl _) _).alloc (by simp) _
  have ha0 := ha.onn hb0
  have Hn := Lib.hid hn
  have Hb0 := Lib.hid hb0
  have HB0 := Lib.hid hB0
  have HB1 := Lib.hid hB1
  have Ha0 := Lib.hid ha0
  have hle' : n ≤ 9223372036854775807 := by omega
  clear hn hb0 hB0 hB1 ha0 ha hle
  cases hv : validOs xs with
  | false =>
    have e1 : OFC xs m = 1 := by unfold OFC; rw [hv]; rfl
    rw [OFR_no (by rw [e1]; decide), e1]
    have Hv := Lib.hid hv
    clear hv e1
    go_enter Tryd.func15, Tryd.ntmps15
    go_wp2_with fail
    with_reducible refine (ValidOperators_c Ha0.out).mono ?_
    rw [Hv.out]
    rintro e w1 ⟨rfl, hb⟩
    have hb2 := Hb0.out.trans (hb.mono Hb0.out.size)
    clear hb
    go_wp2
    go_ret2
    exact ⟨_, rfl, Own.nil _ _ _ _, hb2⟩
  | true =>
    have h8 := (validOs_parts hv).1
    have H8 := Lib.hid h8
    by_cases hm : 0 ≤ m ∧ m ≤ 5
    · have e1 : OFC xs m = 0 := by unfold OFC; rw [hv, if_pos rfl, if_pos hm]
      rw [OFR_ok e1, e1]
      have Hv := Lib.hid hv
      have Hm := Lib.hid hm
      clear hv e1 hm h8
      go_enter Tryd.func15, Tryd.ntmps15
      go_wp2_with fail
      with_reducible refine (ValidOperators_c Ha0.out).mono ?_
      rw [Hv.out]
      rintro e w1 ⟨rfl, hb⟩
      have hb2 := Hb0.out.trans (hb.mono Hb0.out.size)
      have hA1 := Ha0.out.onn hb
      have hB0 := HB0.out.on hb
      have hB1 := HB1.out.on hb
      have hl0 := hB0.lt
      have hl1 := hB1.lt
      have c0 := hB0.cell 0 _ rfl
      have c1 := hB1.cell 0 _ rfl
      have Hb2 := Lib.hid hb2
      have HA1 := Lib.hid hA1
      have C0 := Lib.hid c0
      have C1 := Lib.hid c1
      clear hb hb2 hA1 hB0 hB1
      go_wp2_with fail
      with_reducible refine (isMachine_any m _).mono ?_
      rw [decide_eq_true Hm.out]
      rintro e w' ⟨rfl, rfl⟩
      go_wp2_with fail
      with_reducible refine (sizeO_any HA1.out).mono ?_
      rintro e w' ⟨rfl, rfl⟩
      go_wp2_with fail
      have hcols := cols_OF (w := w1) (n := n) (p := canAt xs m) (c := w.heap.size) (d := w.heap.size + 1) (by have := H8.out; have := Hn.out; omega)
        (fun i W hi hW => clo_OF (A := W.heap.size) Hv.out Hm.out Hn.out hi ((hW.cell (p := ⟨w.heap.size, 0, none⟩) hl0).trans C0.out) ((hW.cell (p := ⟨w.heap.size + 1, 0, none⟩) hl1).trans C1.out) (HA1.out.onn hW))
      with_reducible refine hcols.mono ?_
      clear hcols
      rintro e w2 ⟨u, rfl, hown, hb⟩
      have hb3 := Hb2.out.trans (hb.mono Hb2.out.size)
      rw [Hn.out] at hown
      have hown2 := hown.mono Hb2.out.size
      have Hown2 := Lib.hid hown2
      clear hb hown hown2 c0 c1
      go_wp2
      go_ret2
      exact ⟨_, rfl, Hown2.out, hb3⟩
    · have e1 : OFC xs m = 2 := by unfold OFC; rw [hv, if_pos rfl, if_neg hm]
      rw [OFR_no (by rw [e1]; decide), e1]
      have Hv := Lib.hid hv
      have Hm := Lib.hid hm
      clear hv e1 hm h8
      go_enter Tryd.func15, Tryd.ntmps15
      go_wp2_with fail
      with_reducible refine (ValidOperators_c Ha0.out).mono ?_
      rw [Hv.out]
      rintro e w1 ⟨rfl, hb⟩
      have hb2 := Hb0.out.trans (hb.mono Hb0.out.size)
      have hB1 := HB1.out.on hb
      have c1 := hB1.cell 0 _ rfl
      have Hb2 := Lib.hid hb2
      clear hb hb2 hB1
      go_wp2_with fail
      with_reducible refine (isMachine_any m _).mono ?_
      rw [decide_eq_false Hm.out]
      rintro e w' ⟨rfl, rfl⟩
      go_wp2
      go_ret2
      exact ⟨_, rfl, Own.nil _ _ _ _, Hb2.out⟩
theorem sOperatorsFor_c {xs : List OperatorT} {v : Value} {w : World} {A : Nat} (m : Int) (ha : RdOperatorS A w v xs) :
    Calls Tryd.prog 16 #[v, .int .i64 m] w fun e w' => ∃ u, e = .returned (.tuple #[u, .int .i64 (OFC xs m)]) ∧ Own eI 2 w.heap.size w' u (OFR xs m) ∧ Below w.heap.size w w' := by
  have hle := ha.le
  have Ha := Lib.hid ha
  obtain ⟨ao, cap, rfl, ho⟩ := eOperator_open ha
  obtain ⟨n, hn⟩ : ∃ n, n = xs.length := ⟨_, rfl⟩
  rw [← hn] at Ha ⊢
  have Hn := Lib.hid hn
  have Ho := Lib.hid ho
  have hle' : n ≤ 9223372036854775807 := by omega
  clear hn ha ho hle
  cases hv : validOs xs with
  | false =>
    have e1 : OFC xs m = 1 := by unfold OFC; rw [hv]; rfl
    rw [OFR_no (by rw [e1]; decide), e1]
    have Hv := Lib.hid hv
    clear hv e1
    go_enter Tryd.func16, Tryd.ntmps16
    go_wp2_with fail
    with_reducible refine (l22Ok_c Ha.out).mono ?_
    rw [Hv.out]
    rintro e w1 ⟨rfl, q, rfl⟩
    go_wp2
    go_ret2
    exact ⟨_, rfl, Own.nil _ _ _ _, (Below.refl _ _).drewNy _⟩
  | true =>
    have h8 := (validOs_parts hv).1
    have hxs := (validOs_parts hv).2
    have H8 := Lib.hid h8
    have Hxs := Lib.hid hxs
    have h8n : n ≤ 8 := by have := Hn.out; omega
    by_cases hm : 0 ≤ m ∧ m ≤ 5
    · have e1 : OFC xs m = 0 := by unfold OFC; rw [hv, if_pos rfl, if_pos hm]
      rw [OFR_ok e1, e1]
      obtain ⟨i0, hi, hz0, hz1, hz2⟩ := info_parts Tryd.infoInt64
      have Hv := Lib.hid hv
      have Hm := Lib.hid hm
      clear hv e1 hm h8 hxs
      go_enter Tryd.func16, Tryd.ntmps16
      go_wp2_with fail
      with_reducible refine (l22Ok_c Ha.out).mono ?_
      rw [Hv.out]
      rintro e w1 ⟨rfl, q, rfl⟩
      go_wp2_with fail
      with_reducible refine (l00In_yes m 0 5 _ Hm.out.1 Hm.out.2).mono ?_
      rintro e w' ⟨rfl, rfl⟩
      have hb0 : Below w.heap.size w (w.drewN q) := (Below.refl _ _).drewNy _
      generalize w.drewN q = w1 at hb0 ⊢
      have ho0 : Own eI 2 w.heap.size (w1.alloc (.cells #[] 2)) (.slice (some ⟨w1.heap.size, 0, none⟩) 0 0) (selI (canAt xs m) 0) :=
        Own.lit (E := eI) (xs := []) (cs := #[]) hb0.size rfl rfl (by decide) (fun x hx => by cases hx)
      have hb1 : Below w.heap.size w (w1.alloc (.cells #[] 2)) := hb0.alloc hb0.size _
      clear hb0
      go_wp2_with fail
      go_loopw [6, 7] (fun v i wr => ∃ k : Nat, k ≤ n ∧ i = .int .i64 k ∧ Own eI 2 w.heap.size wr v (selI (canAt xs m) k) ∧ Below w.heap.size w wr) (fun _ i _ => n - (intOf i).toNat)
      case atStart => exact ⟨0, Nat.zero_le _, rfl, ho0, hb1⟩
      case round =>
        obtain ⟨k, hk, rfl, hown, hb⟩ := hrel
        clear ho0 hb1
        by_cases hkn : k < n
        · obtain ⟨b, off, rfl, hlt, hc⟩ := Ho.out (by have := Hn.out; omega)
          obtain ⟨x, hx, ⟨c0, c1⟩, bx⟩ := hc k (by have := Hn.out; omega)
          have d1 := (hb.cell (p := ⟨b, off + k * 2 + 1, none⟩) hlt.2).trans c1
          have hcan := l22Can_c x m wr (Hxs.out x (List.mem_of_getElem? hx)).2 Hm.out (b := b) (off := off + k * 2) d1
          have Hcan := Lib.hid hcan
          have hsl := selI_len (canAt xs m) k
          have hss := selI_succ (canAt xs m) k
          rw [canAt_of hx] at hss
          have Hss := Lib.hid hss
          have Hown := Lib.hid hown
          have hsz := hb.size
          have Hb := Lib.hid hb
          clear hx hc bx c0 c1 d1 hcan hss hown hb
          go_wp2_with fail
          with_reducible refine Hcan.out.mono ?_
          cases hp : canB x.skills m with
          | true =>
            have Hp := Lib.hid hp
            clear hp
            rintro e w2 ⟨rfl, rfl⟩
            have Hqp : eI.ok (k : Int) := by show -9223372036854775808 ≤ (k : Int) ∧ (k : Int) ≤ 9223372036854775807; omega
            go_wp2_with (first | (at_builtin; refine wpList_appS (E := eI) rfl _ _ 35 rfl Tryd.underlying35 hi hz0 hz1 hz2 rfl (by decide) rfl rfl (Hown.out.alloc _) (rds_one (E := eI) (x := (k : Int)) Hqp rfl) ?b1 ?b2 ?b3 ?_))
            case b1 => unfold maxLen; simp; omega
            case b2 => simp; omega
            case b3 => simp; omega
            intro v' w3 hown3 hg3
            have hb3 : Below w.heap.size w w3 := hg3.alloc.below Hb.out Hb.out.size (fun j hj => (Hown.out.lt j hj).1)
            clear hg3 Hb Hown Hqp
            go_wp2
            go_roundw
            case rel => exact ⟨k + 1, by omega, by go_num, by rw [Hss.out, Hp.out]; exact hown3, hb3⟩
            case measure => simp [intOf]; omega
          | false =>
            have Hp := Lib.hid hp
            clear hp
            rintro e w2 ⟨rfl, rfl⟩
            go_wp2
            go_roundw
            case rel => exact ⟨k + 1, by omega, by go_num, by rw [Hss.out, Hp.out]; simpa using Hown.out, Hb.out⟩
            case measure => simp [intOf]; omega
        · obtain rfl : k = n := by omega
          rw [Hn.out] at hown
          go_wp2
          go_ret2
          exact ⟨_, rfl, hown, hb⟩
    · have e1 : OFC xs m = 2 := by unfold OFC; rw [hv, if_pos rfl, if_neg hm]
      rw [OFR_no (by rw [e1]; decide), e1]
      have Hv := Lib.hid hv
      have Hm := Lib.hid (show m < 0 ∨ 5 < m by omega)
      clear hv e1 hm h8 hxs
      go_enter Tryd.func16, Tryd.ntmps16
      go_wp2_with fail
      with_reducible refine (l22Ok_c Ha.out).mono ?_
      rw [Hv.out]
      rintro e w1 ⟨rfl, q, rfl⟩
      go_wp2_with fail
      with_reducible refine (l00In_no m 0 5 _ Hm.out).mono ?_
      rintro e w' ⟨rfl, rfl⟩
      go_wp2
      go_ret2
      exact ⟨_, rfl, Own.nil _ _ _ _, (Below.refl _ _).drewNy _⟩
end Go.Proofs.YtilgepapkigblaaDoor
