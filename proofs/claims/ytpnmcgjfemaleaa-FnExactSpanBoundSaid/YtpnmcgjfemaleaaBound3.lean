/- The bound of a schedule: the reference's walk. No condition. -/
import Derived.Test.YtpnmcgjfemaleaaSchP
namespace Go.Proofs.Ytpnmcgjfemaleaa
open Go.ChangeShapes Go.WideShapes Go.ChangeAt Go.RowKit
set_option linter.unusedVariables false
set_option maxRecDepth 100000
theorem rowI_row {xss : List (List Int)} {i : Nat} {x : List Int} (h : xss[i]? = some x) (k : Nat) : bef xss k i = sumI (x.take k) ∧ beh xss k i = sumI (x.drop (k + 1)) := by
  unfold bef beh
  rw [rowI_of h]
  exact ⟨rfl, rfl⟩
theorem sSpanBound_c {xss : List (List Int)} {v : Value} {w : World} {A : Nat} (hA : A ≤ w.heap.size) (ha : RdInt64SS A w v xss) :
    Calls Try.prog 19 #[v] w fun e w' => e = .returned (.tuple #[.int .i64 (SBV xss), .int .i64 (SBC xss)]) ∧ Below w.heap.size w w' := by
  have Ha := Lib.hid ha
  obtain ⟨ao, cap, rfl, ho⟩ := ha.open
  cases ht : validJ xss with
  | false =>
    have Ht := Lib.hid ht
    clear ht ho ha
    go_enter Try.func19, Try.ntmps19
    go_wp2_with fail
    with_reducible refine (l21Ok_c Ha.out).mono ?_
    rw [Ht.out]
    rintro e w' ⟨rfl, q, rfl⟩
    go_wp2
    go_ret2
    refine ⟨?_, (Below.refl _ _).drewNy _⟩
    unfold SBV SBC
    rw [Ht.out]; rfl
  | true =>
    obtain ⟨hn8, hm4, hrows⟩ := validJ_parts ht
    have e0 : SBC xss = 0 := by unfold SBC; rw [if_pos ht]
    have e1 : SBV xss = mx (bnd xss) (colsJ xss) := by unfold SBV; rw [if_pos ht]
    rw [e0, e1]
    have hbb := bnd_bound ht
    have hbf := bef_bound ht
    have hbh := beh_bound ht
    have hct := fun k => colT_bound (xss := xss) (k := k) (fun r hr => (hrows r hr).2)
    have Hbb := Lib.hid hbb
    have Hbf := Lib.hid hbf
    have Hbh := Lib.hid hbh
    have Hct := Lib.hid hct
    have Ht := Lib.hid ht
    have Hrows := Lib.hid hrows
    obtain ⟨n, hn⟩ : ∃ n, n = xss.length := ⟨_, rfl⟩
    obtain ⟨m, hm⟩ : ∃ m, m = colsJ xss := ⟨_, rfl⟩
    rw [← hn] at Ha hn8 ⊢
    rw [← hm] at hm4 ⊢
    have Hn := Lib.hid hn
    have Hm := Lib.hid hm
    obtain ⟨b, off, rfl, hlt, hc⟩ := ho (by omega)
    obtain ⟨x0, ro0, rc0, hx0, hcell0, hrd0⟩ := hc 0 (by omega)
    have hx0m : x0.length = m := by rw [hm, colsJ_of hx0]
    have hx0r := hrows x0 (List.mem_of_getElem? hx0)
    rw [hx0m] at hcell0 hrd0
    have hcell0' : w.cell? ⟨b, off, none⟩ = some (.slice ro0 m rc0) := by simpa using hcell0
    have hrb0 := rowI_row hx0
    obtain ⟨ro', rc', hsh, hin⟩ := RdI.open hrd0
    injection hsh with hs1 hs2 hs3
    subst hs1; subst hs3
    obtain ⟨b0, off0, rfl, hlt0, hc0⟩ := hin (by omega)
    have hr0cap := (Rds.cap hrd0).1
    have Hrb0 := Lib.hid hrb0
    have Hx0r := Lib.hid hx0r
    have Hx0m := Lib.hid hx0m
    have Hrd0 := Lib.hid hrd0
    have Hc := Lib.hid hc
    obtain ⟨hn1, hn2⟩ := hn8
    obtain ⟨hm1, hm2⟩ := hm4
    clear ht hrows ho hn ha e0 e1 hbb hbf hbh hct hm hc hcell0 hx0 hrd0 hx0m hx0r hrb0 hin hc0 hs2
    go_enter Try.func19, Try.ntmps19
    go_wp2_with fail
    with_reducible refine (l21Ok_c Ha.out).mono ?_
    rw [Ht.out]
    rintro e w' ⟨rfl, q, rfl⟩
    go_wp2
    go_loop [4, 5] (fun bd i => ∃ k : Nat, k ≤ m ∧ i = .int .i64 k ∧ bd = .int .i64 (mx (bnd xss) k)) (fun _ i => m - (intOf i).toNat)
    case atStart => exact ⟨0, Nat.zero_le _, rfl, rfl⟩
    case round =>
      obtain ⟨k, hk, rfl, rfl⟩ := hrel
      by_cases hkm : k < m
      · have hr1 := Hrd0.out.takeN (k := k) (by omega)
        have Hr1 := Lib.hid (Rds.drewN hr1 q)
        clear hr1
        by_cases hq0 : rc0 - (k + 1) = 0
        case' pos =>
          have Hr2 : Hid (RdI A (w.drewN q) (.slice (some ⟨b0, off0, none⟩) (m - (k + 1)) 0) (x0.drop (k + 1))) := Lib.hid (Rds.drop0 Hrd0.out (by omega))
        case' neg =>
          have Hr2 : Hid (RdI A (w.drewN q) (.slice (some ⟨b0, off0 + (k + 1), none⟩) (m - (k + 1)) (rc0 - (k + 1))) (x0.drop (k + 1))) := Lib.hid (Rds.dropI Hrd0.out (by omega) (by omega))
        all_goals
          go_wp2_with fail
          with_reducible refine (l21Sum_any Hr1.out (fun y hy => by have := Hx0r.out.2 y (List.mem_of_mem_take hy); omega) (by rw [List.length_take]; omega)).mono ?_
          rw [← (Hrb0.out k).1]
          rintro e w1 ⟨rfl, rfl⟩
          go_wp2_with fail
          with_reducible refine (l21Sum_any Hr2.out (fun y hy => by have := Hx0r.out.2 y (List.mem_of_mem_drop hy); omega) (by rw [List.length_drop]; have := Hx0m.out; omega)).mono ?_
          rw [← (Hrb0.out k).2]
          rintro e w1 ⟨rfl, rfl⟩
          go_wp2
          go_loop [6, 7, 8, 9] (fun av bv hv i => ∃ j : Nat, j ≤ n ∧ i = .int .i64 j ∧ av = .int .i64 (colT xss k j) ∧ bv = .int .i64 (mn (bef xss k) j) ∧ hv = .int .i64 (mn (beh xss k) j)) (fun _ _ _ i => n - (intOf i).toNat)
          case atStart => exact ⟨0, Nat.zero_le _, rfl, rfl, rfl, rfl⟩
          case round =>
            obtain ⟨j, hj, rfl, rfl, rfl, rfl⟩ := hrel
            by_cases hjn : j < n
            · obtain ⟨x, ro, rc, hx, hcell, hrd⟩ := Hc.out j (by have := Hn.out; omega)
              have hxr := Hrows.out x (List.mem_of_getElem? hx)
              have hxm : x.length = m := by rw [hxr.1, ← Hm.out]
              rw [hxm] at hcell hrd
              have hsb := rowI_row hx k
              obtain ⟨ro', rc', hsh, hin⟩ := RdI.open hrd
              injection hsh with hs1 hs2 hs3
              subst hs1; subst hs3
              obtain ⟨b2, off2, rfl, hlt2, hc2⟩ := hin (by omega)
              obtain ⟨y, hy, hcy, by2⟩ := hc2 k (by omega)
              have hcol : colT xss k (j + 1) = colT xss k j + y := by show colT xss k j + _ = _; rw [rowI_of hx, atI_of hy]
              have hyb := hxr.2 y (List.mem_of_getElem? hy)
              have hctj := Hct.out k j
              have hr1 := hrd.takeN (k := k) (by omega)
              have Hr3 := Lib.hid (Rds.drewN hr1 q)
              have Hcol := Lib.hid hcol
              have Hsb := Lib.hid hsb
              have Hxr := Lib.hid hxr
              have Hxm := Lib.hid hxm
              have hrcap := (Rds.cap hrd).1
              have z0 : IntKind.i64.wrap (colT xss k j + y) = colT xss k j + y := IntWalk.i64_in _ (by omega)
              have Hrd := Lib.hid hrd
              clear hx hrd hr1 hxr hy hc2 hin hs2 hcol hsb hxm
              by_cases hq : rc - (k + 1) = 0
              case' pos =>
                have Hr4 : Hid (RdI A (w.drewN q) (.slice (some ⟨b2, off2, none⟩) (m - (k + 1)) 0) (x.drop (k + 1))) := Lib.hid (Rds.drop0 Hrd.out (by omega))
              case' neg =>
                have Hr4 : Hid (RdI A (w.drewN q) (.slice (some ⟨b2, off2 + (k + 1), none⟩) (m - (k + 1)) (rc - (k + 1))) (x.drop (k + 1))) := Lib.hid (Rds.dropI Hrd.out (by omega) (by omega))
              all_goals
                go_wp2_with fail
                with_reducible refine (l21Sum_any Hr3.out (fun y hy => by have := Hxr.out.2 y (List.mem_of_mem_take hy); omega) (by rw [List.length_take]; omega)).mono ?_
                rw [← Hsb.out.1]
                rintro e w1 ⟨rfl, rfl⟩
                go_wp2_with fail
                with_reducible refine (l00Min_any _ _ _).mono ?_
                rintro e w1 ⟨rfl, rfl⟩
                go_wp2_with fail
                with_reducible refine (l21Sum_any Hr4.out (fun y hy => by have := Hxr.out.2 y (List.mem_of_mem_drop hy); omega) (by rw [List.length_drop]; have := Hxm.out; omega)).mono ?_
                rw [← Hsb.out.2]
                rintro e w1 ⟨rfl, rfl⟩
                go_wp2_with fail
                with_reducible refine (l00Min_any _ _ _).mono ?_
                rintro e w1 ⟨rfl, rfl⟩
                go_wp2
                go_round
                case rel => exact ⟨j + 1, by omega, by go_num, by rw [Hcol.out], by rw [minI_eq]; rfl, by rw [minI_eq]; rfl⟩
                case measure => simp [intOf]; omega
            · obtain rfl : j = n := by omega
              have hmb := mn_bound (f := bef xss k) (lo := 0) (hi := 4000) (n := j) (by omega) (fun i _ => Hbf.out k i)
              have hmh := mn_bound (f := beh xss k) (lo := 0) (hi := 4000) (n := j) (by omega) (fun i _ => Hbh.out k i)
              have hctj := Hct.out k j
              have hbk := Hbb.out k
              have hbe : bnd xss k = mn (bef xss k) j + colT xss k j + mn (beh xss k) j := by unfold bnd; rw [← Hn.out]
              have hmxs : max (mx (bnd xss) k) (bnd xss k) = mx (bnd xss) (k + 1) := rfl
              have z1 : IntKind.i64.wrap (mn (bef xss k) j + colT xss k j) = mn (bef xss k) j + colT xss k j := IntWalk.i64_in _ (by omega)
              have z2 : IntKind.i64.wrap (mn (bef xss k) j + colT xss k j + mn (beh xss k) j) = mn (bef xss k) j + colT xss k j + mn (beh xss k) j := IntWalk.i64_in _ (by omega)
              have Hbe := Lib.hid hbe
              have Hmx := Lib.hid hmxs
              clear hbe hmxs
              go_wp2_with fail
              with_reducible refine (l00Max_any _ _ _).mono ?_
              rintro e w1 ⟨rfl, rfl⟩
              go_wp2
              go_round
              case rel => exact ⟨k + 1, by omega, by go_num, by rw [← Hmx.out, Hbe.out, maxI_eq]⟩
              case measure => simp [intOf]; omega
      · obtain rfl : k = m := by omega
        go_wp2
        go_ret2
        exact ⟨rfl, (Below.refl _ _).drewNy _⟩
end Go.Proofs.Ytpnmcgjfemaleaa
