/- The items of cards of hours: the program's, each by its contract. No condition. -/
import Derived.Test.YtfieilbcdhbigaaGreatDoorLayI
import Derived.Test.YtfieilbcdhbigaaGreatDoorHrsP
import Derived.Test.YtfieilbcdhbigaaGreatDoorQB
namespace Go.Proofs.YtfieilbcdhbigaaGreatDoor
open Go.ChangeShapes Go.WideShapes Go.ChangeAt Go.RowKit Go.Sort
set_option linter.unusedVariables false
set_option maxRecDepth 100000
theorem box3 (w : World) (A B C : List Value) (ta tb tc : TypeId) : Box (((w.alloc (.cells A.toArray ta)).alloc (.cells B.toArray tb)).alloc (.cells C.toArray tc)) w.heap.size A ∧ Box (((w.alloc (.cells A.toArray ta)).alloc (.cells B.toArray tb)).alloc (.cells C.toArray tc)) (w.heap.size + 1) B ∧ Box (((w.alloc (.cells A.toArray ta)).alloc (.cells B.toArray tb)).alloc (.cells C.toArray tc)) (w.heap.size + 1 + 1) C ∧ Below w.heap.size w (((w.alloc (.cells A.toArray ta)).alloc (.cells B.toArray tb)).alloc (.cells C.toArray tc)) := by
  have s1 : (w.alloc (.cells A.toArray ta)).heap.size = w.heap.size + 1 := by simp
  have s2 : ((w.alloc (.cells A.toArray ta)).alloc (.cells B.toArray tb)).heap.size = w.heap.size + 1 + 1 := by simp
  refine ⟨((Box.new w A ta).alloc _).alloc _, ?_, ?_, (((Below.refl _ _).alloc (Nat.le_refl _) _).alloc (by simp) _).alloc (by simp; omega) _⟩
  · have h := (Box.new (w.alloc (.cells A.toArray ta)) B tb).alloc (.cells C.toArray tc)
    rw [s1] at h; exact h
  · have h := Box.new ((w.alloc (.cells A.toArray ta)).alloc (.cells B.toArray tb)) C tc
    rw [s2] at h; exact h
theorem clo_Idx (nm : ByteArray) (y : ItemT) (w : World) {c : Nat} (hcc : w.cell? ⟨c, 0, none⟩ = some (.string nm)) (hlt : c < w.heap.size) :
    Calls Tryz.prog 127 #[vItem y, .pointer (some ⟨c, 0, none⟩)] w fun e w' => e = .returned (.bool (y.nm.toList == nm.toList)) ∧ Below w.heap.size w w' := by
  have hne : c ≠ w.heap.size := by omega
  go_enter Tryz.func127, Tryz.ntmps127
  go_wp2
  go_ret
  exact ⟨ret_bool (by simp), (Below.refl _ _).alloc (Nat.le_refl _) _⟩
theorem indexIdx_c {xs : List ItemT} {v : Value} {w : World} {A : Nat} (nm : ByteArray) {c : Nat} (hcc : w.cell? ⟨c, 0, none⟩ = some (.string nm)) (hlc : c < w.heap.size) (ha : RdItemS A w v xs) :
    Calls Tryz.prog 126 #[v, .func (.func 127) #[] #[.pointer (some ⟨c, 0, none⟩)]] w fun e w' => e = .returned (.int .i64 (idxI xs nm)) ∧ Below w.heap.size w w' := by
  have hle := ha.le
  obtain ⟨ao, cap, rfl, ho⟩ := eItem_open ha
  obtain ⟨n, hn⟩ : ∃ n, n = xs.length := ⟨_, rfl⟩
  rw [← hn]
  have Hn := Lib.hid hn
  have Ho := Lib.hid ho
  have Hcc := Lib.hid hcc
  have hle' : n ≤ 9223372036854775807 := by omega
  clear ho hn hle ha hcc
  go_enter Tryz.func126, Tryz.ntmps126
  go_wp2
  go_loopw [8] (fun i wr => ∃ k : Nat, k ≤ n ∧ i = .int .i64 k ∧ Hid ((xs.take k).any (fun x => x.nm.toList == nm.toList) = false) ∧ Below w.heap.size w wr) (fun i _ => n - (intOf i).toNat)
  case atStart => exact ⟨0, Nat.zero_le _, rfl, rfl, Below.refl _ _⟩
  case round =>
    obtain ⟨k, hk, rfl, hp, hbb⟩ := hrel
    by_cases hkn : k < n
    · obtain ⟨b, off, rfl, hlt, hc⟩ := Ho.out (by have := Hn.out; omega)
      obtain ⟨y, hy, ⟨c0, c1, c2, c3⟩, bx⟩ := hc k (by have := Hn.out; omega)
      have Hy := Lib.hid hy
      have d0 := (hbb.cell (p := ⟨b, off + k * 4, none⟩) hlt.2).trans c0
      have d1 := (hbb.cell (p := ⟨b, off + k * 4 + 1, none⟩) hlt.2).trans c1
      have d2 := (hbb.cell (p := ⟨b, off + k * 4 + 2, none⟩) hlt.2).trans c2
      have d3 := (hbb.cell (p := ⟨b, off + k * 4 + 3, none⟩) hlt.2).trans c3
      have hcw := (hbb.cell (p := ⟨c, 0, none⟩) hlc).trans Hcc.out
      have hlw : c < wr.heap.size := by have := hbb.size; omega
      have Hcw := Lib.hid hcw
      clear hcw hy hc bx c0 c1 c2 c3
      go_wp2_with fail
      with_reducible refine (clo_Idx nm y wr Hcw.out hlw).mono ?_
      cases hq : (y.nm.toList == nm.toList) with
      | true =>
        have Hq := Lib.hid hq
        clear hq
        rintro e w1 ⟨rfl, hb1⟩
        have hb2 := hbb.trans (hb1.mono hbb.size)
        go_wp2
        go_ret
        exact ⟨ret_int (idx_found Hy.out Hq.out hp.out).symm, hb2⟩
      | false =>
        have Hq := Lib.hid hq
        clear hq
        rintro e w1 ⟨rfl, hb1⟩
        have hb2 := hbb.trans (hb1.mono hbb.size)
        clear d0 d1 d2 d3 hb1 hbb
        go_wp2
        go_roundw
        case rel => exact ⟨k + 1, by omega, by go_num, by show _ = false; rw [take_snoc Hy.out, List.any_append, hp.out]; simpa using Hq.out, hb2⟩
        case measure => simp [intOf]; omega
    · go_wp2
      go_ret
      have hq := hp.out
      rw [List.take_of_length_le (by have := Hn.out; omega)] at hq
      exact ⟨ret_int (idx_none hq).symm, hbb⟩
theorem itemIndex_c {xs : List ItemT} {v : Value} {w : World} {A : Nat} (wd : Int) (nm : ByteArray) (ha : RdItemS A w v xs) :
    Calls Tryz.prog 97 #[.agg #[.int .i64 wd, v], .string nm] w fun e w' => e = .returned (.int .i64 (idxI xs nm)) ∧ Below w.heap.size w w' := by
  have hb0 : Below w.heap.size w ((w.alloc (.cells #[.int .i64 wd, v] 32)).alloc (.cells #[.string nm] 9)) := ((Below.refl _ _).alloc (Nat.le_refl _) _).alloc (by simp) _
  have hN : Box ((w.alloc (.cells #[.int .i64 wd, v] 32)).alloc (.cells #[.string nm] 9)) (w.heap.size + 1) [.string nm] := by
    have h := Box.new (w.alloc (.cells #[.int .i64 wd, v] 32)) [.string nm] 9
    simpa using h
  have Hb0 := Lib.hid hb0
  have HN := Lib.hid hN
  have Ha0 := Lib.hid (Rds.onn ha hb0)
  obtain ⟨ao, cap, rfl⟩ := ha.shape
  clear ha hb0 hN
  go_enter Tryz.func97, Tryz.ntmps97
  go_wp2_with fail
  with_reducible refine (indexIdx_c nm (HN.out.cell 0 _ rfl) HN.out.lt Ha0.out).mono ?_
  rintro e w1 ⟨rfl, hb1⟩
  have hb2 := Hb0.out.trans (hb1.mono Hb0.out.size)
  clear hb1
  go_wp2
  go_ret
  exact ⟨rfl, hb2⟩
def layC (ok : Bool) (w : Int) (xs : List ItemT) (d : List (List Int)) : Int := if layB w xs = true ∧ ok = true then (if d.length = 0 ∨ ((d.headD []).length : Int) = w then 0 else 2) else 1
theorem layoutCode_c {xs : List ItemT} {v u : Value} {w : World} {A B : Nat} {d : List (List Int)} (wd : Int) (ok : Bool) (ha : RdItemS A w v xs) (hd : RdInt64SS B w u d) :
    Calls Tryz.prog 69 #[.agg #[.int .i64 wd, v], u, .bool ok] w fun e w' => e = .returned (.int .i64 (layC ok wd xs d)) ∧ Below w.heap.size w w' := by
  have hle := hd.le
  have hb0 : Below w.heap.size w (w.alloc (.cells #[.int .i64 wd, v] 32)) := (Below.refl _ _).alloc (Nat.le_refl _) _
  have Hb0 := Lib.hid hb0
  have hL := Box.new w [.int .i64 wd, v] 32
  have ha0 := Rds.onn ha hb0
  obtain ⟨ao, cap, rfl⟩ := ha.shape
  obtain ⟨dao, dcap, rfl, ho⟩ := hd.open
  obtain ⟨n, hn⟩ : ∃ n, n = d.length := ⟨_, rfl⟩
  rw [← hn] at ho hle ⊢
  have Ha := Lib.hid ha0
  have HL := Lib.hid hL
  have Hn := Lib.hid hn
  have Ho := Lib.hid ho
  clear hn ho ha ha0 hL hb0 hd
  go_enter Tryz.func69, Tryz.ntmps69
  go_wp2_with fail
  with_reducible refine (ValidLayout_c wd Ha.out).mono ?_
  cases hl : layB wd xs with
  | false =>
    have E := Lib.hid (show layC ok wd xs d = 1 from if_neg (fun h => by have h1 := h.1; rw [hl] at h1; cases h1))
    clear hl
    rintro e w1 ⟨rfl, hb⟩
    have hb1 := Hb0.out.trans (hb.mono Hb0.out.size)
    clear hb
    go_wp2
    go_ret
    exact ⟨ret_int E.out.symm, hb1⟩
  | true =>
    have Hl := Lib.hid hl
    clear hl
    rintro e w1 ⟨rfl, hb⟩
    have hb1 := Hb0.out.trans (hb.mono Hb0.out.size)
    have HL1 := Lib.hid (HL.out.on hb)
    have Hb1 := Lib.hid hb1
    clear hb hb1
    cases hok : ok with
    | false =>
      have E := Lib.hid (show layC false wd xs d = 1 from if_neg (fun h => by cases h.2))
      subst hok
      go_wp2
      go_ret
      exact ⟨ret_int E.out.symm, Hb1.out⟩
    | true =>
      subst hok
      by_cases h0 : n = 0
      · have E := Lib.hid (show layC true wd xs d = 0 from by unfold layC; rw [if_pos ⟨Hl.out, rfl⟩, if_pos (.inl (by have := Hn.out; omega))])
        subst h0
        go_upto_region 3 with fail
        refine wp_region_quiet_below (by kernel_rfl) (by kernel_rfl) ?_
        repeat ((with_reducible refine wpQuiet_step (fun K hK => ?_)); go_simp; first | ((with_reducible refine hK _ ?_); clear hK K) | (apply Exists.intro; refine ⟨fun _ => ?_, hK _ ?_⟩; ((fail)); clear hK K))
        refine wpQuiet_nil ?_
        intro _ hw'
        obtain ⟨⟨dq, osq⟩, hw''⟩ := hw'
        subst hw''
        have hbq := below_regrown w1 dq osq
        generalize grow (redrawn w1 dq) osq = wq at hbq ⊢
        have Hq := Lib.hid (Hb1.out.trans (hbq.mono Hb1.out.size))
        clear hbq
        go_wp2
        go_ret
        exact ⟨ret_int E.out.symm, Hq.out⟩
      · obtain ⟨b, off, rfl, hlt, hc⟩ := Ho.out (by omega)
        obtain ⟨x, ro, rc, hx, hcell, hrd⟩ := hc 0 (by omega)
        have hxl := hrd.le
        have hh := head_of hx
        have f0 := cell_regrown (((Hb1.out).cell (p := ⟨b, off + 0, none⟩) hlt.2).trans hcell)
        have f1 := cell_regrown (HL1.out.cell 0 _ rfl)
        have hn0 : 0 < n := by omega
        have hn1 : (0 : Int) < (n : Int) := by omega
        have Hc1 := Lib.hid (fun q os => columns_c (ao := ro) (n := x.length) (cap := rc) (w := grow (redrawn w1 q) os) hxl)
        rw [Nat.add_zero] at f0
        clear hc hcell hrd
        by_cases hw : (x.length : Int) = wd
        · have E := Lib.hid (show layC true wd xs d = 0 from by unfold layC; rw [if_pos ⟨Hl.out, rfl⟩, if_pos (.inr (by rw [hh]; exact hw))])
          have q1 : ((x.length : Int) != wd) = false := by simpa using hw
          clear hw hh hx
          generalize x.length = m at f0 Hc1 q1 hxl
          go_upto_region 3 with fail
          refine wp_region_quiet_below (by kernel_rfl) (by kernel_rfl) ?_
          repeat ((with_reducible refine wpQuiet_step (fun K hK => ?_)); go_simp; first | ((with_reducible refine hK _ ?_); clear hK K) | (apply Exists.intro; refine ⟨fun _ => ?_, hK _ ?_⟩; ((first | (go_at_call 95; with_reducible exact qb_below (Hc1.out _ _)))); clear hK K))
          refine wpQuiet_nil ?_
          intro _ hw'
          obtain ⟨⟨dq, osq⟩, hw''⟩ := hw'
          subst hw''
          have hbq := below_regrown w1 dq osq
          generalize grow (redrawn w1 dq) osq = wq at hbq ⊢
          have Hq := Lib.hid (Hb1.out.trans (hbq.mono Hb1.out.size))
          clear hbq f0 f1 q1
          go_wp2
          go_ret
          exact ⟨ret_int E.out.symm, Hq.out⟩
        · have E := Lib.hid (show layC true wd xs d = 2 from by unfold layC; rw [if_pos ⟨Hl.out, rfl⟩, if_neg (fun h => h.elim (fun e => h0 (by have := Hn.out; omega)) (fun e => hw (by rw [hh] at e; exact e)))])
          have q1 : ((x.length : Int) != wd) = true := by simpa using hw
          clear hw hh hx
          generalize x.length = m at f0 Hc1 q1 hxl
          go_upto_region 3 with fail
          refine wp_region_quiet_below (by kernel_rfl) (by kernel_rfl) ?_
          repeat ((with_reducible refine wpQuiet_step (fun K hK => ?_)); go_simp; first | ((with_reducible refine hK _ ?_); clear hK K) | (apply Exists.intro; refine ⟨fun _ => ?_, hK _ ?_⟩; ((first | (go_at_call 95; with_reducible exact qb_below (Hc1.out _ _)))); clear hK K))
          refine wpQuiet_nil ?_
          intro _ hw'
          obtain ⟨⟨dq, osq⟩, hw''⟩ := hw'
          subst hw''
          have hbq := below_regrown w1 dq osq
          generalize grow (redrawn w1 dq) osq = wq at hbq ⊢
          have Hq := Lib.hid (Hb1.out.trans (hbq.mono Hb1.out.size))
          clear hbq f0 f1 q1
          go_wp2
          go_ret
          exact ⟨ret_int E.out.symm, Hq.out⟩
end Go.Proofs.YtfieilbcdhbigaaGreatDoor
