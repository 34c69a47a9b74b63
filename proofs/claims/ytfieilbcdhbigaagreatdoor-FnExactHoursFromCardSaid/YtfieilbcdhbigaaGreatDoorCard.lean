/- Cards and decks: which are valid, which are the same; the program's and the reference's. No condition. -/
import Derived.Test.YtfieilbcdhbigaaGreatDoorMatO
import Derived.Test.YtfieilbcdhbigaaGreatDoorCopy
import Derived.Test.YtfieilbcdhbigaaGreatDoorQB
import Derived.Test.YtfieilbcdhbigaaGreatDoorSmall
namespace Go.Proofs.YtfieilbcdhbigaaGreatDoor
open Go.ChangeShapes Go.WideShapes Go.ChangeAt Go.RowKit Go.Sort
set_option linter.unusedVariables false
set_option maxRecDepth 100000
def badHole (x : Int) : Bool := !decide (0 ≤ x ∧ x ≤ 4095)
def cardB (h : List Int) : Bool := decide (1 ≤ h.length ∧ h.length ≤ 20) && !h.any badHole
def okAt (d : List (List Int)) (c : List Int) : Bool := cardB c && decide (c.length = (d.headD []).length)
def deckB (d : List (List Int)) : Bool := d.all (okAt d) && decide (d.length ≤ 40)
theorem deckB_parts {d : List (List Int)} (h : deckB d = true) : d.length ≤ 40 ∧ ∀ c ∈ d, cardB c = true ∧ c.length = (d.headD []).length := by
  unfold deckB at h
  rw [Bool.and_eq_true, decide_eq_true_eq, List.all_eq_true] at h
  refine ⟨h.2, fun c hc => ?_⟩
  have := h.1 c hc
  unfold okAt at this
  rw [Bool.and_eq_true, decide_eq_true_eq] at this
  exact this
theorem all_take_snoc {α : Type} {d : List α} {k : Nat} {x : α} (p : α → Bool) (h : d[k]? = some x) : (d.take (k + 1)).all p = ((d.take k).all p && p x) := by
  rw [take_snoc h, List.all_append]; simp
theorem all_not {α : Type} {d : List α} {k : Nat} {x : α} {p : α → Bool} (h : d[k]? = some x) (hp : p x = false) : d.all p = false := by
  rw [List.all_eq_false]
  exact ⟨x, List.mem_of_getElem? h, by rw [hp]; decide⟩
theorem head_of {d : List (List Int)} {x : List Int} (h : d[0]? = some x) : d.headD [] = x := by
  cases d with
  | nil => cases h
  | cons a b => exact Option.some.inj h
theorem columns_c {ao : Option Addr} {n cap : Nat} {w : World} (hn : n ≤ 9223372036854775807) :
    Calls Tryz.prog 95 #[.agg #[.slice ao n cap]] w fun e w' => e = .returned (.int .i64 n) ∧ Below w.heap.size w w' := by
  go_enter Tryz.func95, Tryz.ntmps95
  go_wp2_with fail
  with_reducible refine (size_any0 hn).mono ?_
  rintro e w1 ⟨rfl, rfl⟩
  go_wp2
  go_ret
  exact ⟨rfl, (Below.refl _ _).alloc (Nat.le_refl _) _⟩
theorem clo_badHole (x : Int) (w : World) (_h : okInt64 x) : Calls Tryz.prog 125 #[.int .i64 x] w fun e w' => e = .returned (.bool (badHole x)) ∧ w = w' := by
  go_enter Tryz.func125, Tryz.ntmps125
  go_wp2_with fail
  refine (inside_any _ _ _ _).mono ?_
  rintro e w' ⟨rfl, rfl⟩
  go_wp2
  go_ret
  exact ⟨ret_bool (by unfold badHole; simp), rfl⟩
theorem indexFunc_badHole {xs : List Int} {v : Value} {w : World} {A : Nat} (ha : RdI A w v xs) :
    Calls Tryz.prog 128 #[v, .func (.func 125) #[] #[]] w fun e w' => (∃ r : Int, e = .returned (.int .i64 r) ∧ -1 ≤ r ∧ (0 ≤ r ↔ xs.any badHole = true)) ∧ w = w' := by
  have hle := ha.le
  obtain ⟨ao, cap, rfl, ho⟩ := ha.open
  obtain ⟨l, hl⟩ : ∃ l, l = xs.length := ⟨_, rfl⟩
  rw [← hl]
  have Hl := Lib.hid hl
  have Ho := Lib.hid ho
  have hl' : l ≤ 9223372036854775807 := by omega
  clear ho hl hle ha
  go_enter Tryz.func128, Tryz.ntmps128
  go_wp2
  go_loop [8] (fun i => ∃ k : Nat, k ≤ l ∧ i = .int .i64 k ∧ Hid ((xs.take k).any badHole = false)) (fun i => l - (intOf i).toNat)
  case atStart => exact ⟨0, Nat.zero_le _, rfl, rfl⟩
  case round =>
    obtain ⟨k, hk, rfl, hp⟩ := hrel
    by_cases hkn : k < l
    · obtain ⟨b, off, rfl, hlt, hc⟩ := Ho.out (by have := Hl.out; omega)
      obtain ⟨x, hx, hcx, bx⟩ := hc k (by have := Hl.out; omega)
      have Hx := Lib.hid hx
      have Hb := Lib.hid bx
      clear hx hc bx
      cases hq : badHole x with
      | true =>
        have Hq := Lib.hid hq
        clear hq
        go_wp2_with (go_at_call 125; refine (clo_badHole x _ Hb.out).mono ?_; rw [Hq.out]; rintro e w' ⟨rfl, rfl⟩)
        go_ret
        refine ⟨⟨_, rfl, by omega, ?_⟩, rfl⟩
        have : xs.any badHole = true := List.any_eq_true.2 ⟨x, List.mem_of_getElem? Hx.out, Hq.out⟩
        simp [this]
      | false =>
        have Hq := Lib.hid hq
        clear hq
        go_wp2_with (go_at_call 125; refine (clo_badHole x _ Hb.out).mono ?_; rw [Hq.out]; rintro e w' ⟨rfl, rfl⟩)
        go_round
        case rel => exact ⟨k + 1, by omega, by go_num, by show _ = false; rw [take_snoc Hx.out, List.any_append, hp.out]; simp [Hq.out]⟩
        case measure => simp [intOf]; omega
    · go_wp2
      go_ret
      refine ⟨⟨_, rfl, by omega, ?_⟩, rfl⟩
      have hq := hp.out
      rw [List.take_of_length_le (by have := Hl.out; omega)] at hq
      exact any_end hq
theorem any_badHole {xs : List Int} {v : Value} {w : World} {A : Nat} (ha : RdI A w v xs) :
    Calls Tryz.prog 99 #[v, .func (.func 125) #[] #[]] w fun e w' => e = .returned (.bool (xs.any badHole)) ∧ w = w' := by
  have Ha := Lib.hid ha
  obtain ⟨ao, cap, rfl⟩ := ha.shape
  clear ha
  go_enter Tryz.func99, Tryz.ntmps99
  go_wp2_with fail
  refine (indexFunc_badHole Ha.out).mono ?_
  rintro e w' ⟨⟨r, rfl, hr, hi⟩, rfl⟩
  have Hi := Lib.hid hi
  clear hi
  go_wp2
  go_ret
  refine ⟨ret_bool ?_, rfl⟩
  rw [Bool.eq_iff_iff, decide_eq_true_iff]
  exact Hi.out
theorem ValidCard_c {xs : List Int} {v : Value} {w : World} {A : Nat} (ha : RdI A w v xs) :
    Calls Tryz.prog 96 #[.agg #[v]] w fun e w' => e = .returned (.bool (cardB xs)) ∧ Below w.heap.size w w' := by
  have hle := ha.le
  have hb0 : Below w.heap.size w (w.alloc (.cells #[v] 67)) := (Below.refl _ _).alloc (Nat.le_refl _) _
  have hB0 : Box (w.alloc (.cells #[v] 67)) w.heap.size [v] := Box.new w [v] 67
  have ha0 := Rds.onn ha hb0
  obtain ⟨ao, cap, rfl⟩ := ha.shape
  have Ha0 := Lib.hid ha0
  have Hb0 := Lib.hid hb0
  have HB0 := Lib.hid hB0
  obtain ⟨n, hn⟩ : ∃ n, n = xs.length := ⟨_, rfl⟩
  obtain ⟨W0, hW0⟩ : ∃ W0, W0 = w.alloc (.cells #[.slice ao xs.length cap] 67) := ⟨_, rfl⟩
  rw [← hW0] at Ha0 Hb0 HB0
  unfold cardB
  rw [← hn] at Ha0 HB0 hle hW0 ⊢
  have HW0 := Lib.hid hW0
  clear ha ha0 hb0 hB0 hW0 hn
  have hcol := fun W => columns_c (ao := ao) (n := n) (cap := cap) (w := W) hle
  have Hcol := Lib.hid hcol
  clear hcol
  by_cases hc : 1 ≤ n ∧ n ≤ 20
  · rw [decide_eq_true hc, Bool.true_and]
    have hci : (1 : Int) ≤ (n : Int) ∧ (n : Int) ≤ 20 := by omega
    have Hci := Lib.hid hci
    clear hci hc
    go_enter Tryz.func96, Tryz.ntmps96
    go_wp2_with fail
    rw [← HW0.out]
    with_reducible refine (Hcol.out _).mono ?_
    rintro e w1 ⟨rfl, hb1⟩
    have hB1 := HB0.out.on hb1
    have q0 := hB1.cell 0 _ rfl
    have Ha1 := Lib.hid (Rds.onn Ha0.out hb1)
    have Hb1 := Lib.hid (Hb0.out.trans (hb1.mono Hb0.out.size))
    clear hB1 hb1
    go_wp2_with fail
    with_reducible refine (inside_any _ _ _ _).mono ?_
    rw [decide_eq_true Hci.out]
    rintro e w2 ⟨rfl, rfl⟩
    go_wp2_with fail
    with_reducible refine (any_badHole Ha1.out).mono ?_
    rintro e w3 ⟨rfl, rfl⟩
    go_wp2
    go_ret
    exact ⟨rfl, Hb1.out⟩
  · rw [decide_eq_false hc, Bool.false_and]
    have hci : ¬ ((1 : Int) ≤ (n : Int) ∧ (n : Int) ≤ 20) := by omega
    have Hci := Lib.hid hci
    clear hci hc
    go_enter Tryz.func96, Tryz.ntmps96
    go_wp2_with fail
    rw [← HW0.out]
    with_reducible refine (Hcol.out _).mono ?_
    rintro e w1 ⟨rfl, hb1⟩
    have Hb1 := Lib.hid (Hb0.out.trans (hb1.mono Hb0.out.size))
    clear hb1
    go_wp2_with fail
    with_reducible refine (inside_any _ _ _ _).mono ?_
    rw [decide_eq_false Hci.out]
    rintro e w2 ⟨rfl, rfl⟩
    go_wp2
    go_ret
    exact ⟨rfl, Hb1.out⟩
set_option maxHeartbeats 1000000 in
theorem ValidDeck_c {xss : List (List Int)} {v : Value} {w : World} {A : Nat} (ha : RdInt64SS A w v xss) :
    Calls Tryz.prog 70 #[v] w fun e w' => e = .returned (.bool (deckB xss)) ∧ Below w.heap.size w w' := by
  have hle := ha.le
  obtain ⟨ao, cap, rfl, ho⟩ := ha.open
  obtain ⟨n, hn⟩ : ∃ n, n = xss.length := ⟨_, rfl⟩
  have hdk : deckB xss = (xss.all (okAt xss) && decide (n ≤ 40)) := by unfold deckB; rw [hn]
  rw [hdk, ← hn]
  have Hn := Lib.hid hn
  have Ho := Lib.hid ho
  have hle' : n ≤ 9223372036854775807 := by omega
  clear ho hn hle ha hdk
  go_enter Tryz.func70, Tryz.ntmps70
  go_wp2
  go_loopw [7] (fun i wr => ∃ k : Nat, k ≤ n ∧ i = .int .i64 k ∧ Hid ((xss.take k).all (okAt xss) = true) ∧ Below w.heap.size w wr) (fun i _ => n - (intOf i).toNat)
  case atStart => exact ⟨0, Nat.zero_le _, rfl, Lib.hid (by simp), Below.refl _ _⟩
  case round =>
    obtain ⟨k, hk, rfl, hp, hb⟩ := hrel
    by_cases hkn : k < n
    · obtain ⟨b, off, rfl, hlt, hc⟩ := Ho.out (by have := Hn.out; omega)
      obtain ⟨x, ro, rc, hx, hcell, hrd⟩ := hc k (by have := Hn.out; omega)
      obtain ⟨y, qo, qc, hy, hcell0, hrd0⟩ := hc 0 (by have := Hn.out; omega)
      have hyl := hrd0.le
      have hxl := hrd.le
      have hh := head_of hy
      replace hcell := (hb.cell (p := ⟨b, off + k, none⟩) hlt.2).trans hcell
      replace hcell0 := (hb.cell (p := ⟨b, off + 0, none⟩) hlt.2).trans hcell0
      obtain ⟨T, hT⟩ : ∃ T, T = wr.alloc (.cells #[.slice ro x.length rc] 67) := ⟨_, rfl⟩
      have hbT : Below wr.heap.size wr T := by rw [hT]; exact (Below.refl _ _).alloc (Nat.le_refl _) _
      have hBT : Box T wr.heap.size [.slice ro x.length rc] := by rw [hT]; exact Box.new wr [.slice ro x.length rc] _
      have f0 := cell_regrown (hBT.cell 0 _ rfl)
      have hbl := World.block_lt_of_cell? wr _ hcell0
      have f1 := cell_regrown ((hbT.cell (p := ⟨b, off, none⟩) hbl).trans hcell0)
      have hkni : (k : Int) < (n : Int) := by omega
      have hn0 : 0 < n := by omega
      have hok : okAt xss x = (cardB x && decide (x.length = y.length)) := by unfold okAt; rw [hh]
      have hval := ValidCard_c (Rds.onn (Rds.onn hrd hb) hbT)
      have hvalA := fun d os => ValidCard_c (w := grow (redrawn T d) os) (A := T.heap.size) (xs := x) (Rds.regrown (Rds.onn (Rds.onn hrd hb) hbT) (Nat.le_refl _) d os)
      have hst := all_take_snoc (okAt xss) hx
      have hno := fun h => all_not (p := okAt xss) hx h
      have Hb := Lib.hid hb
      have HbT := Lib.hid hbT
      have HT := Lib.hid hT
      have HvalA := Lib.hid hvalA
      have Hok := Lib.hid hok
      have Hst := Lib.hid hst
      have Hno := Lib.hid hno
      clear hc hx hy hrd hrd0 hb hbT hBT hT hval hvalA hok hst hno hh
      cases hcb : cardB x with
      | false =>
        rw [hcb] at HvalA Hok
        rw [Bool.false_and] at Hok
        clear hcb
        go_upto_region 4 with fail
        rw [← HT.out]
        clear hcell hcell0
        refine wp_region_quiet_below (by kernel_rfl) (by kernel_rfl) ?_
        repeat ((with_reducible refine wpQuiet_step (fun K hK => ?_)); go_simp; first | ((with_reducible refine hK _ ?_); clear hK K) | (apply Exists.intro; refine ⟨fun _ => ?_, hK _ ?_⟩; ((first | (go_at_call 96; with_reducible exact qb_below (HvalA.out _ _)))); clear hK K))
        refine wpQuiet_nil ?_
        intro _ hw'
        obtain ⟨⟨dq, osq⟩, hw''⟩ := hw'
        subst hw''
        have hbq := below_regrown T dq osq
        generalize grow (redrawn T dq) osq = wq at hbq ⊢
        have Hb1 := Lib.hid (Hb.out.trans ((HbT.out.trans (hbq.mono HbT.out.size)).mono Hb.out.size))
        clear hbq f0 f1
        go_wp2
        go_ret
        exact ⟨by rw [Hno.out Hok.out]; rfl, Hb1.out⟩
      | true =>
        rw [hcb] at HvalA Hok
        rw [Bool.true_and] at Hok
        clear hcb
        by_cases hl : x.length = y.length
        · rw [decide_eq_true hl] at Hok
          obtain ⟨m, hm⟩ : ∃ m, m = y.length := ⟨_, rfl⟩
          rw [← hm] at hl f1 hcell0 hyl
          rw [hl] at f0 hcell HT HvalA
          have HT2 := Lib.hid HT.out
          have Hc1 := Lib.hid (fun d os => columns_c (ao := ro) (n := m) (cap := rc) (w := grow (redrawn T d) os) hyl)
          have Hc2 := Lib.hid (fun d os => columns_c (ao := qo) (n := m) (cap := qc) (w := grow (redrawn T d) os) hyl)
          clear hl hm hxl
          go_upto_region 4 with fail
          rw [← HT2.out]
          clear hcell hcell0
          refine wp_region_quiet_below (by kernel_rfl) (by kernel_rfl) ?_
          repeat ((with_reducible refine wpQuiet_step (fun K hK => ?_)); go_simp; first | ((with_reducible refine hK _ ?_); clear hK K) | (apply Exists.intro; refine ⟨fun _ => ?_, hK _ ?_⟩; ((first | (go_at_call 96; with_reducible exact qb_below (HvalA.out _ _)) | (go_at_call 95; first | with_reducible exact qb_below (Hc1.out _ _) | with_reducible exact qb_below (Hc2.out _ _)))); clear hK K))
          refine wpQuiet_nil ?_
          intro _ hw'
          obtain ⟨⟨dq, osq⟩, hw''⟩ := hw'
          subst hw''
          have hbq := below_regrown T dq osq
          generalize grow (redrawn T dq) osq = wq at hbq ⊢
          have Hb1 := Lib.hid (Hb.out.trans ((HbT.out.trans (hbq.mono HbT.out.size)).mono Hb.out.size))
          clear hbq f0 f1
          go_wp2
          go_roundw
          case rel => exact ⟨k + 1, by omega, by go_num, Lib.hid (by rw [Hst.out, hp.out, Hok.out]; rfl), Hb1.out⟩
          case measure => simp [intOf]; omega
        · rw [decide_eq_false hl] at Hok
          obtain ⟨m, hm⟩ : ∃ m, m = y.length := ⟨_, rfl⟩
          obtain ⟨p, hp2⟩ : ∃ p, p = x.length := ⟨_, rfl⟩
          rw [← hm] at hl f1 hcell0 hyl
          rw [← hp2] at hl f0 hcell hxl HT HvalA
          have HT2 := Lib.hid HT.out
          have hl2 : ((p : Int) != (m : Int)) = true := by simp; omega
          have hl3 : (p != m) = true := by simp; omega
          have Hc1 := Lib.hid (fun d os => columns_c (ao := ro) (n := p) (cap := rc) (w := grow (redrawn T d) os) hxl)
          have Hc2 := Lib.hid (fun d os => columns_c (ao := qo) (n := m) (cap := qc) (w := grow (redrawn T d) os) hyl)
          clear hm hp2
          go_upto_region 4 with fail
          rw [← HT2.out]
          clear hcell hcell0
          refine wp_region_quiet_below (by kernel_rfl) (by kernel_rfl) ?_
          repeat ((with_reducible refine wpQuiet_step (fun K hK => ?_)); go_simp; first | ((with_reducible refine hK _ ?_); clear hK K) | (apply Exists.intro; refine ⟨fun _ => ?_, hK _ ?_⟩; ((first | (go_at_call 96; with_reducible exact qb_below (HvalA.out _ _)) | (go_at_call 95; first | with_reducible exact qb_below (Hc1.out _ _) | with_reducible exact qb_below (Hc2.out _ _)))); clear hK K))
          refine wpQuiet_nil ?_
          intro _ hw'
          obtain ⟨⟨dq, osq⟩, hw''⟩ := hw'
          subst hw''
          have hbq := below_regrown T dq osq
          generalize grow (redrawn T dq) osq = wq at hbq ⊢
          have Hb1 := Lib.hid (Hb.out.trans ((HbT.out.trans (hbq.mono HbT.out.size)).mono Hb.out.size))
          clear hbq f0 f1
          go_wp2
          go_ret
          exact ⟨by rw [Hno.out Hok.out]; rfl, Hb1.out⟩
    · obtain rfl : k = n := by omega
      have hal := hp.out
      rw [List.take_of_length_le (by have := Hn.out; omega)] at hal
      have Hal := Lib.hid hal
      clear hal
      go_wp2
      go_ret
      exact ⟨ret_bool (by rw [Hal.out]; simp; omega), hb⟩
end Go.Proofs.YtfieilbcdhbigaaGreatDoor
