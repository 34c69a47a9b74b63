/- The law of the ends of jobs: jobs end one after the other on each machine, and idle times are what is left. No condition. -/
import Derived.Test.YtpnmcgjfemaleaaSchD
import Derived.Test.YtpnmcgjfemaleaaEndsP
import Derived.Test.YtpnmcgjfemaleaaA2L
import Derived.Deep.DeepCutAuto
namespace Go.Proofs.Ytpnmcgjfemaleaa
open Go.ChangeShapes Go.WideShapes Go.ChangeAt Go.RowKit
set_option linter.unusedVariables false
set_option maxRecDepth 100000
set_option maxRecDepth 100000 in
set_option maxHeartbeats 2000000 in
theorem walk_FnEnds (w : World) {x0 : List Int} {v0 : Value} (a0 : Rds eB w.heap.size w v0 x0) {x1 : List Int} {v1 : Value} (a1 : Rds eB w.heap.size w v1 x1) :
    Calls Try.prog 13 #[v0, v1] w fun e w' => e = .returned (.bool true) ∧ Below w.heap.size w w' := by
  obtain ⟨i0, hi, hz0, hz1, hz2⟩ := info_parts Try.infoInt64
  have A0 := Lib.hid a0
  have A1 := Lib.hid a1
  clear a0 a1
  by_cases hbig : (3000 : Int) < x0.length ∨ (3000 : Int) < x1.length
  · have Hbig := Lib.hid hbig
    clear hbig
    go_enter Try.func13, Try.ntmps13
    go_wp2_with fail
    with_reducible refine (a2Long_any A0.out A1.out).mono ?_
    rw [decide_eq_true Hbig.out]
    rintro e w' ⟨rfl, rfl⟩
    go_wp2
    go_ret
    exact ⟨rfl, Below.refl _ _⟩
  have Hbig := Lib.hid hbig
  clear hbig
  go_enter Try.func13, Try.ntmps13
  go_wp2_with fail
  with_reducible refine (a2Long_any A0.out A1.out).mono ?_
  rw [decide_eq_false Hbig.out]
  rintro e w' ⟨rfl, rfl⟩
  go_wp2_with fail
  with_reducible refine (A2Jobs_any A0.out (Nat.le_refl _)).mono ?_
  rintro e w1 ⟨⟨u, xss, rfl, ou, hv, hl4⟩, hb1⟩
  have l := ou.rds
  have hp := validJ_parts hv
  obtain ⟨n, hn⟩ : ∃ n, n = xss.length := ⟨_, rfl⟩
  obtain ⟨m, hm⟩ : ∃ m, m = colsJ xss := ⟨_, rfl⟩
  rw [← hn] at hl4 hp
  rw [← hm] at hp
  obtain ⟨hn8, hm4, hrows⟩ := hp
  obtain ⟨ao, cap, hsh, hao⟩ := l.open
  rw [← hn] at hsh hao
  subst hsh
  obtain ⟨b, off, rfl, _, _⟩ := hao (by omega)
  have a1' := A1.out.on hb1
  have Hn := Lib.hid hn
  have Hm := Lib.hid hm
  have Hv := Lib.hid hv
  have Hrows := Lib.hid hrows
  have Hl := Lib.hid l
  have HA1 := Lib.hid a1'
  have Hb1 := Lib.hid hb1
  clear hao ou hn hm hv hrows l a1' hb1
  go_wp2_with fail
  with_reducible refine (A2Order_any HA1.out (Nat.le_refl _) (n := n) (by omega)).mono ?_
  rintro e w2 ⟨⟨u2, o, rfl, oo, ho⟩, hb2⟩
  have p := oo.rds
  have hol : o.length = n := ho.1
  have l2 := Hl.out.onn hb2
  have Ho := Lib.hid ho
  have Hol := Lib.hid hol
  have Hp := Lib.hid p
  have Hl2 := Lib.hid l2
  have Hb2 := Lib.hid (Hb1.out.trans (hb2.mono Hb1.out.size))
  obtain ⟨po, pcap, hpsh, hpo⟩ := RdI.open p
  rw [hol] at hpsh hpo
  subst hpsh
  obtain ⟨pb, poff, rfl, _, hpc⟩ := hpo (by omega)
  have Hpc := Lib.hid hpc
  clear ho hol oo p l2 hb2 hpo hpc Hl Hb1 HA1
  go_wp2_with fail
  with_reducible refine (EndTimes_c (Nat.le_refl _) (Nat.le_refl _) Hl2.out Hp.out (by have := Hol.out; omega)).mono ?_
  rw [OCode_zero Hv.out (by have := Ho.out; rw [Hn.out] at this; exact this)]
  rintro e w3 ⟨u3, rfl, oe, hb3⟩
  have hE : ETR xss o = endsJ xss o := by unfold ETR; rw [if_pos (OCode_zero Hv.out (by have := Ho.out; rw [Hn.out] at this; exact this))]
  rw [hE] at oe
  clear hE
  have d := oe.rds
  have her := ends_rows xss o
  rw [Hol.out, ← Hm.out] at her
  obtain ⟨eo, ecap, hesh, heo⟩ := d.open
  rw [her.2] at hesh heo
  subst hesh
  obtain ⟨eb, eoff, rfl, _, _⟩ := heo (by omega)
  have Hd := Lib.hid d
  have Her := Lib.hid her.1
  have Hl3 := Lib.hid (Hl2.out.onn hb3)
  have Hp3 := Lib.hid (Hp.out.on hb3)
  have Hb3 := Lib.hid (Hb2.out.trans (hb3.mono Hb2.out.size))
  have hjob := fun i k (hi : i < n) (hk : k < m) => jobAt Hl3.out (m := m) Hrows.out hi hk
  have hend := fun i k (hi : i < n) (hk : k < m) => matAt Hd.out Her.out hi hk
  have hord : ∀ i, i < n → ∃ ix : Nat, ix < n ∧ o[i]? = some (ix : Int) ∧ w3.cell? ⟨pb, poff + i, none⟩ = some (.int .i64 (ix : Int)) := by
    intro i hi
    obtain ⟨x, hx, hcx, _⟩ := Hpc.out i (by have := Hol.out; omega)
    have hxr := Ho.out.2.1 x (List.mem_of_getElem? hx)
    obtain ⟨ix, rfl⟩ := Int.eq_ofNat_of_zero_le hxr.1
    exact ⟨ix, by omega, hx, (hb3.cell (p := ⟨pb, poff + i, none⟩) (World.block_lt_of_cell? w2 _ hcx)).trans hcx⟩
  have Hjob := Lib.hid hjob
  have Hend := Lib.hid hend
  have Hord := Lib.hid hord
  obtain ⟨j0b, j0o, j0c, _, hj0, _⟩ := hjob 0 0 (by omega) (by omega)
  clear hjob hend hord d her heo oe hb3 Hl2 Hp Hb2 Hpc
  rw [Nat.add_zero] at hj0
  go_wp2
  go_loopw [10] (fun i wr => ∃ k : Nat, k ≤ n ∧ i = .int .i64 k ∧ Below w3.heap.size w3 wr) (fun i _ => n - (intOf i).toNat)
  case atStart => exact ⟨0, Nat.zero_le _, rfl, Below.refl _ _⟩
  case round =>
    obtain ⟨i, hin, rfl, hbr⟩ := hrel
    clear hj0
    by_cases hi2 : i < n
    · obtain ⟨e1b, e1o, e1c, _, _, he1, _⟩ := Hend.out i 0 hi2 (by omega)
      have d1 := (hbr.cell (p := ⟨eb, eoff + i, none⟩) (World.block_lt_of_cell? w3 _ he1)).trans he1
      go_wp2_with fail
      go_loopw [11, 12] (fun kv sv wr => ∃ k : Nat, k ≤ m ∧ kv = .int .i64 k ∧ Below w3.heap.size w3 wr) (fun kv _ _ => m - (intOf kv).toNat)
      case atStart => exact ⟨0, Nat.zero_le _, rfl, hbr⟩
      case round =>
        obtain ⟨k, hkm, rfl, hbr2⟩ := hrel
        clear hbr d1
        by_cases hk2 : k < m
        · obtain ⟨ix, hix, hox, hcx⟩ := Hord.out i hi2
          obtain ⟨e2b, e2o, e2c, y, row, he2, hy, hrow, hyr⟩ := Hend.out i k hi2 hk2
          obtain ⟨j2b, j2o, j2c, x, hj2, hxc, hjf, hx0, hx1⟩ := Hjob.out ix k hix hk2
          have hyv := ends_get (by have := Hol.out; omega) (by have := Hm.out; omega) hrow hyr
          have hst := start_at Hv.out hox (k := k) (by omega)
          have hfb := freeJ_bound (rows_ok Hv.out) (o.take (i + 1)) (k := k) (by omega)
          have htl : ((o.take (i + 1)).length : Int) ≤ 8 := by rw [List.length_take]; have := Hol.out; omega
          rw [← hyv, hjf] at hst
          rw [← hyv] at hfb
          have hyb : 0 ≤ y ∧ y ≤ 32000 := by omega
          have hs0 : 0 ≤ y - x := hst.1
          have c1 := (hbr2.cell (p := ⟨eb, eoff + i, none⟩) (World.block_lt_of_cell? w3 _ he2)).trans he2
          have c2 := (hbr2.cell (p := ⟨e2b, e2o + k, none⟩) (World.block_lt_of_cell? w3 _ hy)).trans hy
          have c3 := (hbr2.cell (p := ⟨pb, poff + i, none⟩) (World.block_lt_of_cell? w3 _ hcx)).trans hcx
          have c4 := (hbr2.cell (p := ⟨b, off + ix, none⟩) (World.block_lt_of_cell? w3 _ hj2)).trans hj2
          have c5 := (hbr2.cell (p := ⟨j2b, j2o + k, none⟩) (World.block_lt_of_cell? w3 _ hxc)).trans hxc
          have hin1 : (i : Int) < (n : Int) := by omega
          have hkm1 : (k : Int) < (m : Int) := by omega
          have hixn : (ix : Int) < (n : Int) := by omega
          have hzs : IntKind.i64.wrap (y - x) = y - x := IntWalk.i64_in _ (by omega)
          have hprev : ∀ i', i = i' + 1 → ∃ (p2b p2o p2c : Nat) (y2 : Int), w3.cell? ⟨eb, eoff + i', none⟩ = some (.slice (some ⟨p2b, p2o, none⟩) m p2c) ∧ w3.cell? ⟨p2b, p2o + k, none⟩ = some (.int .i64 y2) ∧ y2 ≤ y - x := by
            intro i' hi'
            obtain ⟨p2b, p2o, p2c, y2, row2, hp2, hy2, hrow2, hyr2⟩ := Hend.out i' k (by omega) hk2
            have hy2v := ends_get (by have := Hol.out; omega) (by have := Hm.out; omega) hrow2 hyr2
            exact ⟨p2b, p2o, p2c, y2, hp2, hy2, by rw [hy2v]; exact hst.2.1 i' hi'⟩
          have hleft : ∀ k', k = k' + 1 → ∃ y3 : Int, w3.cell? ⟨e2b, e2o + k', none⟩ = some (.int .i64 y3) ∧ y3 ≤ y - x := by
            intro k' hk'
            obtain ⟨q2b, q2o, q2c, y3, row3, hq2, hy3, hrow3, hyr3⟩ := Hend.out i k' hi2 (by omega)
            rw [he2] at hq2
            cases hq2
            have hy3v := ends_get (by have := Hol.out; omega) (by have := Hm.out; omega) hrow3 hyr3
            exact ⟨y3, hy3, by rw [hy3v]; exact hst.2.2 k' hk'⟩
          have Hprev := Lib.hid hprev
          have Hleft := Lib.hid hleft
          clear he1 he2 hy hcx hj2 hxc hyv hst hfb htl hrow hyr hjf hox hprev hleft
          go_wp2
          go_quiet (fail)
          have hbq : Below w3.heap.size w3 (wr.drewN nq) := hbr2.drewNy _
          have k1 : (wr.drewN nq).cell? ⟨eb, eoff + i, none⟩ = some (.slice (some ⟨e2b, e2o, none⟩) m e2c) := c1
          clear c1 c2 c3 c4 c5 hzs hbr2
          generalize wr.drewN nq = wq at hbq k1 ⊢
          generalize y - x = s at hs0 Hprev Hleft ⊢
          have hneg : decide (s < 0) = false := decide_eq_false (by omega)
          by_cases hi0 : i = 0
          · have ti : ¬ 0 < i := by omega
            clear hi0
            by_cases hk0 : k = 0
            · have tk : ¬ 0 < k := by omega
              clear hk0 Hleft Hprev
              go_wp2
              go_roundw
              case rel => exact ⟨k + 1, by omega, by go_num, hbq⟩
              case measure => simp [intOf]; omega
            · have tk : 0 < k := by omega
              obtain ⟨y3, hy3, hs3⟩ := Hleft.out (k - 1) (by omega)
              have hkm3 : (k : Int) - 1 < (m : Int) := by omega
              have g3 := (hbq.cell (p := ⟨e2b, e2o + (k - 1), none⟩) (World.block_lt_of_cell? w3 _ hy3)).trans hy3
              have t3 : decide (s < y3) = false := decide_eq_false (by omega)
              clear hk0 hy3 hs3 Hleft Hprev
              go_wp2
              go_roundw
              case rel => exact ⟨k + 1, by omega, by go_num, hbq⟩
              case measure => simp [intOf]; omega
          · have ti : 0 < i := by omega
            obtain ⟨p2b, p2o, p2c, y2, hp2, hy2, hs2⟩ := Hprev.out (i - 1) (by omega)
            have hin3 : (i : Int) - 1 < (n : Int) := by omega
            have g1 := (hbq.cell (p := ⟨eb, eoff + (i - 1), none⟩) (World.block_lt_of_cell? w3 _ hp2)).trans hp2
            have g2 := (hbq.cell (p := ⟨p2b, p2o + k, none⟩) (World.block_lt_of_cell? w3 _ hy2)).trans hy2
            have t2 : decide (s < y2) = false := decide_eq_false (by omega)
            clear hi0 hp2 hy2 hs2
            by_cases hk0 : k = 0
            · have tk : ¬ 0 < k := by omega
              clear hk0 Hleft Hprev
              go_wp2
              go_roundw
              case rel => exact ⟨k + 1, by omega, by go_num, hbq⟩
              case measure => simp [intOf]; omega
            · have tk : 0 < k := by omega
              obtain ⟨y3, hy3, hs3⟩ := Hleft.out (k - 1) (by omega)
              have hkm3 : (k : Int) - 1 < (m : Int) := by omega
              have g3 := (hbq.cell (p := ⟨e2b, e2o + (k - 1), none⟩) (World.block_lt_of_cell? w3 _ hy3)).trans hy3
              have t3 : decide (s < y3) = false := decide_eq_false (by omega)
              clear hk0 hy3 hs3 Hleft Hprev
              go_wp2
              go_roundw
              case rel => exact ⟨k + 1, by omega, by go_num, hbq⟩
              case measure => simp [intOf]; omega
        · obtain rfl : k = m := by omega
          go_wp2
          go_roundw
          case rel => exact ⟨i + 1, by omega, by go_num, hbr2⟩
          case measure => simp [intOf]; omega
    · obtain rfl : i = n := by omega
      have hid := idle_ok Hv.out (by have := Ho.out; rw [Hn.out] at this; exact this)
      rw [← Hm.out] at hid
      have Hid1 := Lib.hid hid.1
      have hiv := hid.2
      obtain ⟨e9b, e9o, e9c, y9, row9, he9, hy9, hrow9, hyr9⟩ := Hend.out (i - 1) (m - 1) (by omega) (by omega)
      have hy9v := ends_get (by have := Hol.out; omega) (by have := Hm.out; omega) hrow9 hyr9
      rw [show i - 1 + 1 = i by omega, ← Hol.out, List.take_length] at hy9v
      have hfb := freeJ_bound (rows_ok Hv.out) o (k := m - 1) (by omega)
      have hokf : eI.ok y9 := by
        have h8 : (o.length : Int) ≤ 8 := by have := Hol.out; omega
        show -9223372036854775808 ≤ y9 ∧ y9 ≤ 9223372036854775807
        omega
      have Hy9v := Lib.hid hy9v
      have He9 := Lib.hid he9
      have Hy9 := Lib.hid hy9
      have Hl4 := Lib.hid (Hl3.out.onn hbr)
      have Hp4 := Lib.hid (Hp3.out.on hbr)
      have Hbr := Lib.hid hbr
      have hms : (m : Int) - 1 ≤ 3 ∧ 0 ≤ (m : Int) - 1 := by omega
      clear hid hrow9 hyr9 hy9v hfb he9 hy9 hbr hi2
      go_wp2_with fail
      with_reducible refine (IdleMinutes_c ((m : Int) - 1) (by omega) (Nat.le_refl _) (Nat.le_refl _) Hl4.out Hp4.out (by have := Hol.out; omega)).mono ?_
      rw [Hid1.out]
      rintro e w5 ⟨rfl, hb5⟩
      generalize IMV xss o ((m : Int) - 1) = iv at hiv ⊢
      have Hl5 := Lib.hid (Hl4.out.onn hb5)
      have Hp5 := Lib.hid (Hp4.out.on hb5)
      have Hb5 := Lib.hid (Hbr.out.trans (hb5.mono Hbr.out.size))
      have ho5 : OwnInt64S w5.heap.size (w5.alloc (.cells #[] 2)) (.slice (some ⟨w5.heap.size, 0, none⟩) 0 0) [] := Own.lit (E := eI) (xs := []) (cs := #[]) (Nat.le_refl _) rfl rfl (by decide) (fun x hx => by cases hx)
      have hbe : Below w5.heap.size w5 (w5.alloc (.cells #[] 2)) := (Below.refl _ _).alloc (Nat.le_refl _) _
      clear hb5 Hl4 Hp4 Hbr Hid1
      go_wp2
      go_loopw [15, 16] (fun v k wr => ∃ (j : Nat) (dl : List Int), j ≤ i ∧ k = .int .i64 j ∧ Hid (dl.length = j) ∧ Hid (∀ x ∈ dl, x = y9) ∧ OwnInt64S w5.heap.size wr v dl ∧ Below w5.heap.size w5 wr) (fun _ k _ => i - (intOf k).toNat)
      case atStart => exact ⟨0, [], Nat.zero_le _, rfl, rfl, Lib.hid (fun x hx => by cases hx), ho5, hbe⟩
      case round =>
        obtain ⟨j, dl, hj, rfl, Hdl, Hdx, hown, hbw⟩ := hrel
        clear ho5 hbe
        by_cases hjn : j < i
        · have hb3w := Hb5.out.trans (hbw.mono Hb5.out.size)
          have g1 := (hb3w.cell (p := ⟨eb, eoff + (i - 1), none⟩) (World.block_lt_of_cell? w3 _ He9.out)).trans He9.out
          have g2 := (hb3w.cell (p := ⟨e9b, e9o + (m - 1), none⟩) (World.block_lt_of_cell? w3 _ Hy9.out)).trans Hy9.out
          have t1 : (i : Int) - 1 < (i : Int) := by omega
          have t2 : (m : Int) - 1 < (m : Int) := by omega
          have hszw : w5.heap.size ≤ wr.heap.size := hbw.size
          have Hown := Lib.hid hown
          have Hbw := Lib.hid hbw
          clear hown hbw hb3w
          go_wp2_with (first | (at_builtin; refine wpList_appS (E := eI) rfl _ _ 29 rfl Try.underlying29 hi hz0 hz1 hz2 rfl (by decide) rfl rfl (Hown.out.alloc _) (rds_one (E := eI) (x := y9) hokf rfl) ?b1 ?b2 ?b3 ?_))
          case b1 => rw [Hdl.out]; unfold maxLen; simp; omega
          case b2 => rw [Hdl.out]; simp; omega
          case b3 => simp; omega
          intro v' w6 hown6 hg6
          have hg6' := hg6.alloc
          have hb6 := hg6'.below Hbw.out hszw (fun q hq => (Hown.out.lt q hq).1)
          have Hown6 := Lib.hid hown6
          have Hb6 := Lib.hid hb6
          clear hg6 hg6' hb6 hown6 g1 g2
          go_wp2
          go_roundw
          case rel => exact ⟨j + 1, _, by omega, by go_num, Lib.hid (by rw [List.length_append, Hdl.out]; rfl), Lib.hid (fun x hx => by
            rcases List.mem_append.1 hx with hx | hx
            · exact Hdx.out x hx
            · exact List.mem_singleton.1 hx), Hown6.out, Hb6.out⟩
          case measure => simp [intOf]; omega
        · obtain rfl : j = i := by omega
          have hlate := late_ok Hv.out (by have := Ho.out; rw [Hn.out] at this; exact this) (dl := dl) (by rw [Hdl.out]; exact Hn.out) (fun x hx => by rw [Hdx.out x hx, Hy9v.out, Hm.out])
          have Hlate := Lib.hid hlate
          have Hl6 := Lib.hid (Hl5.out.onn hbw)
          have Hp6 := Lib.hid (Hp5.out.on hbw)
          have Hd6 := Lib.hid hown.rds
          have Hb6 := Lib.hid (Hb3.out.trans ((Hb5.out.trans (hbw.mono Hb5.out.size)).mono Hb3.out.size))
          clear hlate hown hbw
          go_wp2_with fail
          with_reducible refine (LateJobs_c (Nat.le_refl _) (Nat.le_refl _) Hl6.out Hp6.out Hd6.out (by have := Hol.out; omega)).mono ?_
          rw [Hlate.out.1, Hlate.out.2]
          rintro e w7 ⟨u7, rfl, ou7, hb7⟩
          obtain ⟨ao7, cap7, rfl⟩ := ou7.shape
          have hbf := Hb6.out.trans (hb7.mono Hb6.out.size)
          have tiv : decide (0 ≤ iv) = true := decide_eq_true hiv
          clear ou7 hb7
          go_wp2
          go_ret
          exact ⟨rfl, hbf⟩
namespace fnEnds
theorem own : ownKnob Try.prog.godebug = none := by kernel_rfl
set_option maxRecDepth 100000 in
theorem lifted (os : Os) (started : os.Started) (H : Type) (enc : TypeId × Value → H) :
    ReturnsInHanded {} Try.checked os 13 .any (Rows.fnEndsSpec.pre6 enc Try.prog Try.f13 Rows.fnEndsRow.domain false) (Rows.fnEndsSpec.post enc Try.prog Try.f13 false true false false) := by
  refine returnsInHanded_of_change_sized (C := Try.checked) own started (by kernel_rfl) Try.func13
    (ChangeSpec.witness6 (enc := enc) (C := Try.checked) false ⟨#[], #[.slice none 0 0, .slice none 0 0], []⟩ 8 (by kernel_rfl) (by kernel_rfl) (by kernel_rfl) (by kernel_rfl)) ?_
  intro W base args ds gs before hval0 hW hcnd hsz _
  have hval : ∀ (j : Nat) t v, Try.f13.params[j]? = some t → args[j]? = some v → Value.okWide Try.prog W .any base t v := hval0
  have hW' := hW
  obtain ⟨p, q, hA0, hV, rfl, hfz, hnd⟩ := hW
  have hA : DataW.TrodAll enc Try.prog W 0 (fun _ => true) true Try.f13.params.toList args.toList ds p := hA0
  rw [Try.params13] at hA hval
  obtain ⟨v0, vs0, d0, ds0, p0, s0, hargs, rfl, rfl, h0, q0⟩ := trodAll_cons hA
  obtain ⟨v1, vs1, d1, ds1, p1, s1, rfl, rfl, rfl, h1, q1⟩ := trodAll_cons q0
  obtain ⟨rfl, rfl, rfl⟩ := trodAll_nil q1
  obtain rfl : args = #[v0, v1] := by cases args; simp_all
  obtain ⟨x0, r0, _⟩ := open_rdB Try.underlying43 Try.underlying5 (by kernel_rfl) (hval 0 43 v0 rfl rfl) h0
  obtain ⟨x1, r1, _⟩ := open_rdB Try.underlying43 Try.underlying5 (by kernel_rfl) (hval 1 43 v1 rfl rfl) h1
  exact (walk_FnEnds W r0 r1).mono fun e W' hh => ⟨_, hh.1, law_post (f := Try.f13) (s := Rows.fnEndsSpec) (T := 4) (by kernel_rfl) (of_decide_eq_true (by kernel_rfl)) rfl rfl Try.underlying4 rfl hW' hh.2⟩
theorem proved : Rows.FnEndsSaid :=
  OpenClaim.holds_of_wide 13 Try.f13 rfl rfl rfl rfl rfl rfl rfl ⟨rfl, rfl, rfl, rfl, rfl⟩ rfl rfl rfl rfl rfl (by kernel_rfl) Try.func13 (by kernel_rfl)
    (of_decide_eq_true (by kernel_rfl)) (by unfold Func.isWrapper; first | (rw [if_pos (by decide +kernel)]; kernel_rfl) | (rw [if_neg (by decide +kernel)]; exact ⟨rfl, rfl⟩))
    (fun os started H enc _ => lifted os started H enc)
end fnEnds
#print axioms fnEnds.proved
end Go.Proofs.Ytpnmcgjfemaleaa
