/- Cards that occur before: the program's. No condition. -/
import Derived.Test.YtjmiecjlpndfbaaCard
import Derived.Test.YtjmiecjlpndfbaaApp
namespace Go.Proofs.Ytjmiecjlpndfbaa
open Go.ChangeShapes Go.WideShapes Go.ChangeAt Go.RowKit Go.Sort
set_option linter.unusedVariables false
set_option maxRecDepth 100000
theorem any_endC {α : Type} {xs : List α} {p : α → Bool} (h : xs.any p = false) : (0 : Int) ≤ -1 ↔ ∃ x, x ∈ xs ∧ p x = true :=
  ⟨fun h => by omega, fun ⟨x, hx, hp⟩ => by rw [List.any_eq_true.2 ⟨x, hx, hp⟩] at h; cases h⟩
/-- the first k of a slice of slices -/
theorem RdInt64SS.takeN {w : World} {B b off n cap k : Nat} {xss : List (List Int)} (h : RdInt64SS B w (.slice (some ⟨b, off, none⟩) n cap) xss) (hk : k ≤ n) : RdInt64SS B w (.slice (some ⟨b, off, none⟩) k cap) (xss.take k) := by
  obtain ⟨hs, h1, h2, h3⟩ := h
  have hn := h1.cap.2.1
  refine ⟨hs.take k, h1.takeN hk, by rw [List.length_take, List.length_take, h2], fun i x xs e1 e2 => ?_⟩
  rw [List.getElem?_take] at e1 e2
  split at e1
  · rename_i hi
    rw [if_pos hi] at e2
    exact h3 i x xs e1 e2
  · cases e1
theorem RdInt64SS.cap {w : World} {B n cap : Nat} {ao : Option Addr} {xss : List (List Int)} (h : RdInt64SS B w (.slice ao n cap) xss) : n ≤ cap ∧ n = xss.length ∧ (0 < n → cap ≤ 9223372036854775807) := by
  obtain ⟨hs, h1, h2, h3⟩ := h
  have h4 := h1.cap
  exact ⟨h4.1, by rw [← h2]; exact h4.2.1, h4.2.2⟩
def dblAt (xss : List (List Int)) (i : Int) : Bool := (xss.take i.toNat).any fun y => decide (y = xss.getD i.toNat [])
def DBC (xss : List (List Int)) : Int := if deckB xss = true then 0 else 1
def DBR (xss : List (List Int)) : List Int := if deckB xss = true then selI (dblAt xss) xss.length else []
theorem sizeC_any0 {ao : Option Addr} {n cap : Nat} {w : World} (hn : n ≤ 9223372036854775807) :
    Calls Try.prog 19 #[.slice ao n cap] w fun e w' => e = .returned (.int .i64 n) ∧ w = w' := by
  go_enter Try.func19, Try.ntmps19
  go_wp2
  go_ret
  exact ⟨rfl, rfl⟩
theorem clo_SC {xss : List (List Int)} {x y : List Int} {ao : Option Addr} {n cap c d i A : Nat} {v : Value} {W : World} (hi : i < n) (hx : xss[i]? = some x) (hc : W.cell? ⟨c, 0, none⟩ = some (.slice ao n cap))
    (hd : W.cell? ⟨d, 0, none⟩ = some (.int .i64 (i : Int))) (ha : RdInt64SS A W (.slice ao n cap) xss) (hy : RdI W.heap.size W v y) :
    Calls Try.prog 22 #[.agg #[v], .pointer (some ⟨c, 0, none⟩), .pointer (some ⟨d, 0, none⟩)] W fun e w' => e = .returned (.bool (decide (y = x))) ∧ Below W.heap.size W w' := by
  have hn := ha.cap.2.1
  have hle := ha.le
  obtain ⟨ao', cap', hs, ho⟩ := ha.open
  rw [← hn] at hs
  injection hs with h1 h2 h3
  subst h1
  subst h3
  obtain ⟨b, off, rfl, hlt, hcc⟩ := ho (by omega)
  obtain ⟨x', ro, rc, hx', hcell, hrd⟩ := hcc i (by omega)
  obtain rfl : x = x' := Option.some.inj (hx.symm.trans hx')
  obtain ⟨T, hT⟩ : ∃ T, T = W.alloc (.cells #[v] 38) := ⟨_, rfl⟩
  have hbT : Below W.heap.size W T := by rw [hT]; exact (Below.refl _ _).alloc (Nat.le_refl _) _
  have hBT : Box T W.heap.size [v] := by rw [hT]; exact Box.new W [v] _
  have f0 := cell_regrown (hBT.cell 0 _ rfl)
  have f1 := cell_regrown ((hbT.cell (p := ⟨c, 0, none⟩) (World.block_lt_of_cell? W _ hc)).trans hc)
  have f2 := cell_regrown ((hbT.cell (p := ⟨d, 0, none⟩) (World.block_lt_of_cell? W _ hd)).trans hd)
  have f3 := cell_regrown ((hbT.cell (p := ⟨b, off + i, none⟩) (World.block_lt_of_cell? W _ hcell)).trans hcell)
  have hcon := fun q os => SameCard_c (w := grow (redrawn T q) os) (A := T.heap.size) (B := T.heap.size) (xs := y) (ys := x) (Rds.regrown (Rds.onn hy hbT) (Nat.le_refl _) q os) (Rds.regrown (Rds.onn hrd hbT) (Nat.le_refl _) q os)
  have hii : (i : Int) < (n : Int) := by omega
  have HbT := Lib.hid hbT
  have HT := Lib.hid hT
  have Hcon := Lib.hid hcon
  obtain ⟨vo, vc, rfl⟩ := hy.shape
  clear ho hcc hx hx' hcell hrd hT hbT hBT hcon hc hd ha hy hn hle h2
  go_enter Try.func22, Try.ntmps22
  go_upto_region 1 with fail
  rw [← HT.out]
  refine wp_region_quiet_below (by kernel_rfl) (by kernel_rfl) ?_
  repeat ((with_reducible refine wpQuiet_step (fun K hK => ?_)); go_simp; first | ((with_reducible refine hK _ ?_); clear hK K) | (apply Exists.intro; refine ⟨fun _ => ?_, hK _ ?_⟩; ((first | (go_at_call 23; with_reducible exact qb_below (Hcon.out _ _)))); clear hK K))
  refine wpQuiet_nil ?_
  intro _ hw'
  obtain ⟨⟨dq, osq⟩, hw''⟩ := hw'
  subst hw''
  have hbq := below_regrown T dq osq
  generalize grow (redrawn T dq) osq = wq at hbq ⊢
  have Hb1 := Lib.hid (HbT.out.trans (hbq.mono HbT.out.size))
  clear hbq f0 f1 f2 f3
  go_wp2
  go_ret
  exact ⟨rfl, Hb1.out⟩
theorem indexCard_c {xss : List (List Int)} {v : Value} {w : World} {A : Nat} {p : List Int → Bool} {c d : Nat} (ha : RdInt64SS A w v xss)
    (hclo : ∀ (W : World) (u : Value) (y : List Int), Below w.heap.size w W → RdI W.heap.size W u y → Calls Try.prog 22 #[.agg #[u], .pointer (some ⟨c, 0, none⟩), .pointer (some ⟨d, 0, none⟩)] W fun e w' => e = .returned (.bool (p y)) ∧ Below W.heap.size W w') :
    Calls Try.prog 30 #[v, .func (.func 22) #[] #[.pointer (some ⟨c, 0, none⟩), .pointer (some ⟨d, 0, none⟩)]] w fun e w' =>
      (∃ r : Int, e = .returned (.int .i64 r) ∧ -1 ≤ r ∧ (0 ≤ r ↔ xss.any p = true)) ∧ Below w.heap.size w w' := by
  have hle := ha.le
  obtain ⟨ao, cap, rfl, ho⟩ := ha.open
  obtain ⟨n, hn⟩ : ∃ n, n = xss.length := ⟨_, rfl⟩
  rw [← hn]
  have Hn := Lib.hid hn
  have Ho := Lib.hid ho
  have Hclo := Lib.hid hclo
  have hle' : n ≤ 9223372036854775807 := by omega
  clear ho hn hle ha hclo
  go_enter Try.func30, Try.ntmps30
  go_wp2
  go_loopw [8] (fun i wr => ∃ k : Nat, k ≤ n ∧ i = .int .i64 k ∧ Hid ((xss.take k).any p = false) ∧ Below w.heap.size w wr) (fun i _ => n - (intOf i).toNat)
  case atStart => exact ⟨0, Nat.zero_le _, rfl, rfl, Below.refl _ _⟩
  case round =>
    obtain ⟨k, hk, rfl, hp, hbb⟩ := hrel
    by_cases hkn : k < n
    · obtain ⟨b, off, rfl, hlt, hc⟩ := Ho.out (by have := Hn.out; omega)
      obtain ⟨y, ro, rc, hy, hcell, hrd⟩ := hc k (by have := Hn.out; omega)
      have Hy := Lib.hid hy
      replace hcell := (hbb.cell (p := ⟨b, off + k, none⟩) hlt.2).trans hcell
      have hcon := Hclo.out wr _ _ hbb (Rds.onn hrd hbb)
      have Hcon := Lib.hid hcon
      have Hbb := Lib.hid hbb
      clear hy hc hrd hcon hbb
      go_wp2_with fail
      with_reducible refine Hcon.out.mono ?_
      cases hq : p y with
      | true =>
        have Hq := Lib.hid hq
        clear hq
        rintro e w1 ⟨rfl, hb1⟩
        have Hb2 := Lib.hid (Hbb.out.trans (hb1.mono Hbb.out.size))
        clear hb1
        go_wp2
        go_ret
        refine ⟨⟨_, rfl, by omega, ?_⟩, Hb2.out⟩
        have : xss.any p = true := List.any_eq_true.2 ⟨y, List.mem_of_getElem? Hy.out, Hq.out⟩
        simp [this]
      | false =>
        have Hq := Lib.hid hq
        clear hq
        rintro e w1 ⟨rfl, hb1⟩
        have Hb2 := Lib.hid (Hbb.out.trans (hb1.mono Hbb.out.size))
        clear hb1 hcell Hcon
        go_wp2
        go_roundw
        case rel => exact ⟨k + 1, by omega, by go_num, by show _ = false; rw [take_snoc Hy.out, List.any_append, hp.out]; simp [Hq.out], Hb2.out⟩
        case measure => simp [intOf]; omega
    · go_wp2
      go_ret
      refine ⟨⟨_, rfl, by omega, ?_⟩, hbb⟩
      have hq := hp.out
      rw [List.take_of_length_le (by have := Hn.out; omega)] at hq
      simp [hq]
theorem containsCard_c {xss : List (List Int)} {v : Value} {w : World} {A : Nat} {p : List Int → Bool} {c d : Nat} (ha : RdInt64SS A w v xss)
    (hclo : ∀ (W : World) (u : Value) (y : List Int), Below w.heap.size w W → RdI W.heap.size W u y → Calls Try.prog 22 #[.agg #[u], .pointer (some ⟨c, 0, none⟩), .pointer (some ⟨d, 0, none⟩)] W fun e w' => e = .returned (.bool (p y)) ∧ Below W.heap.size W w') :
    Calls Try.prog 21 #[v, .func (.func 22) #[] #[.pointer (some ⟨c, 0, none⟩), .pointer (some ⟨d, 0, none⟩)]] w fun e w' =>
      e = .returned (.bool (xss.any p)) ∧ Below w.heap.size w w' := by
  have Ha := Lib.hid ha
  have Hclo := Lib.hid hclo
  obtain ⟨ao, cap, rfl⟩ := ha.shape
  clear ha hclo
  go_enter Try.func21, Try.ntmps21
  go_wp2_with fail
  with_reducible refine (indexCard_c Ha.out Hclo.out).mono ?_
  rintro e w' ⟨⟨r, rfl, hr, hi⟩, hb⟩
  have Hi := Lib.hid hi
  clear hi
  go_wp2
  go_ret
  refine ⟨ret_bool ?_, hb⟩
  rw [Bool.eq_iff_iff, decide_eq_true_iff]
  exact Hi.out
theorem clo_DC {xss : List (List Int)} {ao : Option Addr} {n cap c i A : Nat} {W : World} (hi : i < n) (hc : W.cell? ⟨c, 0, none⟩ = some (.slice ao n cap)) (ha : RdInt64SS A W (.slice ao n cap) xss) :
    Calls Try.prog 20 #[.int .i64 (i : Int), .pointer (some ⟨c, 0, none⟩)] W fun e w' => e = .returned (.bool (dblAt xss (i : Int))) ∧ Below W.heap.size W w' := by
  have hcp := ha.cap
  have hle := ha.le
  have hx : xss[i]? = some (xss[i]'(by omega)) := List.getElem?_eq_getElem (by omega)
  generalize xss[i]'(by omega) = x at hx
  have hd : dblAt xss (i : Int) = (xss.take i).any fun y => decide (y = x) := by
    unfold dblAt
    rw [Int.toNat_natCast, List.getD_eq_getElem?_getD, hx]
    rfl
  rw [hd]
  obtain ⟨ao', cap', hs, ho⟩ := ha.open
  rw [← hcp.2.1] at hs
  injection hs with h1 h2 h3
  subst h1
  subst h3
  obtain ⟨b, off, rfl, hlt, _⟩ := ho (by omega)
  obtain ⟨T, hT⟩ : ∃ T, T = W.alloc (.cells #[.int .i64 (i : Int)] 2) := ⟨_, rfl⟩
  have hbT : Below W.heap.size W T := by rw [hT]; exact (Below.refl _ _).alloc (Nat.le_refl _) _
  have hBT : Box T W.heap.size [.int .i64 (i : Int)] := by rw [hT]; exact Box.new W [.int .i64 (i : Int)] _
  have haT := ha.onn hbT
  have hcT := (hbT.cell (p := ⟨c, 0, none⟩) (World.block_lt_of_cell? W _ hc)).trans hc
  have hcl := World.block_lt_of_cell? W _ hc
  have hii : (i : Int) ≤ (n : Int) := by omega
  have hic : i ≤ cap := by omega
  have hcon := containsCard_c (w := T) (A := T.heap.size) (xss := xss.take i) (v := .slice (some ⟨b, off, none⟩) i cap) (p := fun y => decide (y = x)) (c := c) (d := W.heap.size) (haT.takeN (by omega)) (fun V u y hV hu =>
    clo_SC (i := i) (n := n) (cap := cap) (ao := some ⟨b, off, none⟩) (xss := xss) (A := V.heap.size) hi hx ((hV.cell (p := ⟨c, 0, none⟩) (World.block_lt_of_cell? T _ hcT)).trans hcT) ((hV.cell (p := ⟨W.heap.size, 0, none⟩) hBT.lt).trans (hBT.cell 0 _ rfl)) (haT.onn hV) hu)
  have Hcon := Lib.hid hcon
  have HbT := Lib.hid hbT
  have HT := Lib.hid hT
  have hcap := hcp.2.2 (by omega)
  clear ho hT hbT hBT haT hcT hcon hx hd ha hcp hle h2
  go_enter Try.func20, Try.ntmps20
  go_wp2_with fail
  rw [← HT.out]
  with_reducible refine Hcon.out.mono ?_
  rintro e w1 ⟨rfl, hb1⟩
  have Hb1 := Lib.hid (HbT.out.trans (hb1.mono HbT.out.size))
  clear hb1
  go_wp2
  go_ret
  exact ⟨rfl, Hb1.out⟩
theorem cols_DC {w : World} {n : Nat} {p : Int → Bool} {c : Nat} (hn : n ≤ 1000)
    (hclo : ∀ (i : Nat) (W : World), i < n → Below w.heap.size w W → Calls Try.prog 20 #[.int .i64 (i : Int), .pointer (some ⟨c, 0, none⟩)] W fun e w' => e = .returned (.bool (p i)) ∧ Below W.heap.size W w') :
    Calls Try.prog 18 #[.int .i64 (n : Int), .func (.func 20) #[] #[.pointer (some ⟨c, 0, none⟩)]] w fun e w' => ∃ u, e = .returned u ∧ Own eI 2 w.heap.size w' u (selI p n) ∧ Below w.heap.size w w' := by
  obtain ⟨i0, hi, hz0, hz1, hz2⟩ := info_parts Try.infoInt64
  have Hclo := Lib.hid hclo
  have ho0 : Own eI 2 w.heap.size (w.alloc (.cells #[] 2)) (.slice (some ⟨w.heap.size, 0, none⟩) 0 0) (selI p 0) :=
    Own.lit (E := eI) (xs := []) (cs := #[]) (Nat.le_refl _) rfl rfl (by decide) (fun x hx => by cases hx)
  have hb0 : Below w.heap.size w (w.alloc (.cells #[] 2)) := (Below.refl _ _).alloc (Nat.le_refl _) _
  clear hclo
  go_enter Try.func18, Try.ntmps18
  go_wp2
  go_loopw [5, 9] (fun v i wr => ∃ k : Nat, k ≤ n ∧ i = .int .i64 k ∧ Own eI 2 w.heap.size wr v (selI p k) ∧ Below w.heap.size w wr) (fun _ i _ => n - (intOf i).toNat)
  case atStart => exact ⟨0, Nat.zero_le _, rfl, ho0, hb0⟩
  case round =>
    obtain ⟨k, hk, rfl, hown, hb⟩ := hrel
    clear ho0 hb0
    by_cases hkn : k < n
    · have hc := Hclo.out k _ hkn hb
      have Hc := Lib.hid hc
      have hsl := selI_len p k
      have hss := selI_succ p k
      have Hss := Lib.hid hss
      have Hb := Lib.hid hb
      have Hown := Lib.hid hown
      clear hc hss hb hown
      go_wp2_with fail
      with_reducible refine Hc.out.mono ?_
      cases hp : p (k : Int) with
      | true =>
        have Hp := Lib.hid hp
        clear hp
        rintro e w1 ⟨rfl, hb1⟩
        have hb2 := Hb.out.trans (hb1.mono Hb.out.size)
        have hown1 := Hown.out.below hb1 (Nat.le_refl _)
        have Hqp : eI.ok (k : Int) := by show -9223372036854775808 ≤ (k : Int) ∧ (k : Int) ≤ 9223372036854775807; omega
        have hsz := hb2.size
        clear hb1 Hb Hown
        go_wp2_with (first | (at_builtin; refine wpList_appS (E := eI) rfl _ _ 24 rfl Try.underlying24 hi hz0 hz1 hz2 rfl (by decide) rfl rfl (hown1.alloc _) (rds_one (E := eI) (x := (k : Int)) Hqp rfl) ?b1 ?b2 ?b3 ?_))
        case b1 => unfold maxLen; simp; omega
        case b2 => simp; omega
        case b3 => simp; omega
        intro v' w3 hown3 hg3
        have hb3 : Below w.heap.size w w3 := hg3.alloc.below hb2 hb2.size (fun j hj => (hown1.lt j hj).1)
        clear hg3 hb2 hown1 Hqp
        go_wp2
        go_roundw
        case rel => exact ⟨k + 1, by omega, by go_num, by rw [Hss.out, Hp.out]; exact hown3, hb3⟩
        case measure => simp [intOf]; omega
      | false =>
        have Hp := Lib.hid hp
        clear hp
        rintro e w1 ⟨rfl, hb1⟩
        have hb2 := Hb.out.trans (hb1.mono Hb.out.size)
        have hown1 := Hown.out.below hb1 (Nat.le_refl _)
        clear hb1 Hb Hown
        go_wp2
        go_roundw
        case rel => exact ⟨k + 1, by omega, by go_num, by rw [Hss.out, Hp.out]; simpa using hown1, hb2⟩
        case measure => simp [intOf]; omega
    · obtain rfl : k = n := by omega
      go_wp2
      go_ret
      exact ⟨_, rfl, hown, hb⟩

theorem DoubleCards_c {xss : List (List Int)} {v : Value} {w : World} {A : Nat} (ha : RdInt64SS A w v xss) :
    Calls Try.prog 7 #[v] w fun e w' => ∃ u, e = .returned (.tuple #[u, .int .i64 (DBC xss)]) ∧ Own eI 2 w.heap.size w' u (DBR xss) ∧ Below w.heap.size w w' := by
  have hle := ha.le
  obtain ⟨ao, cap, rfl⟩ := ha.shape
  obtain ⟨n, hn⟩ : ∃ n, n = xss.length := ⟨_, rfl⟩
  rw [← hn] at ha ⊢
  have hB0 : Box (w.alloc (.cells #[.slice ao n cap] 27)) w.heap.size [.slice ao n cap] := Box.new w [.slice ao n cap] _
  have hb0 : Below w.heap.size w (w.alloc (.cells #[.slice ao n cap] 27)) := (Below.refl _ _).alloc (Nat.le_refl _) _
  have ha0 := ha.onn hb0
  have Hn := Lib.hid hn
  have Hb0 := Lib.hid hb0
  have HB0 := Lib.hid hB0
  have Ha0 := Lib.hid ha0
  have hle' : n ≤ 9223372036854775807 := by omega
  obtain ⟨W0, hW0⟩ : ∃ W0, W0 = w.alloc (.cells #[.slice ao n cap] 27) := ⟨_, rfl⟩
  rw [← hW0] at Hb0 HB0 Ha0
  have HW0 := Lib.hid hW0
  clear hn hb0 hB0 ha0 ha hle hW0
  cases hv : deckB xss with
  | false =>
    have e1 : DBC xss = 1 := by unfold DBC; rw [hv]; rfl
    have e2 : DBR xss = [] := by unfold DBR; rw [hv]; rfl
    rw [e1, e2]
    have Hv := Lib.hid hv
    clear hv e1 e2
    go_enter Try.func7, Try.ntmps7
    go_wp2_with fail
    rw [← HW0.out]
    with_reducible refine (ValidDeck_c Ha0.out).mono ?_
    rw [Hv.out]
    rintro e w1 ⟨rfl, hb⟩
    have Hb2 := Lib.hid (Hb0.out.trans (hb.mono Hb0.out.size))
    clear hb
    go_wp2
    go_ret2
    exact ⟨_, rfl, Own.nil _ _ _ _, Hb2.out⟩
  | true =>
    have e1 : DBC xss = 0 := by unfold DBC; rw [hv]; rfl
    have e2 : DBR xss = selI (dblAt xss) n := by unfold DBR; rw [if_pos hv, ← Hn.out]
    have h40 : n ≤ 40 := by rw [Hn.out]; exact (deckB_parts hv).1
    rw [e1, e2]
    have Hv := Lib.hid hv
    clear hv e1 e2
    go_enter Try.func7, Try.ntmps7
    go_wp2_with fail
    rw [← HW0.out]
    with_reducible refine (ValidDeck_c Ha0.out).mono ?_
    rw [Hv.out]
    rintro e w1 ⟨rfl, hb⟩
    have hB1 := HB0.out.on hb
    have q0 := hB1.cell 0 _ rfl
    have Ha1 := Lib.hid (Ha0.out.onn hb)
    have Hb1 := Lib.hid (Hb0.out.trans (hb.mono Hb0.out.size))
    have hcols := cols_DC (w := w1) (n := n) (p := dblAt xss) (c := w.heap.size) (by omega) (fun i W hi hW => clo_DC hi ((hW.cell (p := ⟨w.heap.size, 0, none⟩) hB1.lt).trans q0) (Ha1.out.onn hW))
    have Hcols := Lib.hid hcols
    clear hb hB1 hcols
    go_wp2_with fail
    with_reducible refine (sizeC_any0 hle').mono ?_
    rintro e w2 ⟨rfl, rfl⟩
    go_wp2_with fail
    with_reducible refine Hcols.out.mono ?_
    rintro e w3 ⟨u, rfl, hu, hb3⟩
    have hs := Hb1.out.size
    have Hu := Lib.hid (hu.mono hs)
    have Hb3 := Lib.hid (Hb1.out.trans (hb3.mono hs))
    clear hu hb3 q0
    obtain ⟨uo, uc, rfl⟩ := Hu.out.shape
    go_wp2
    go_ret2
    exact ⟨_, rfl, Hu.out, Hb3.out⟩
end Go.Proofs.Ytjmiecjlpndfbaa
