/- Sums of tables: the program's and the reference's. No condition. -/
import Derived.Test.YtljjilgpmckccaaTab
namespace Go.Proofs.Ytljjilgpmckccaa
open Go.ChangeShapes Go.WideShapes Go.ChangeAt Go.RowKit
set_option linter.unusedVariables false
set_option maxRecDepth 100000
theorem Apart.symm {v v' : Value} (h : Apart v v') : Apart v' v := fun g h1 h2 => h g h2 h1
theorem Apart.grew {w w' : World} {v v' u : Value} (h : Apart v u) (hg : Grew w w' v v') (hu : ∀ k, u.ownBlock = some k → k < w.heap.size) : Apart v' u := by
  intro g h1 h2
  rcases hg.2 with h3 | ⟨k, h3, h4⟩
  · exact h g (by rw [← h3]; exact h1) h2
  · have := hu g h2
    rw [h1] at h3
    injection h3 with h3
    omega
theorem Own.cellI {e : TypeId} {base g n cap k : Nat} {w : World} {xs : List Int} {x : Int} (h : Own eI e base w (.slice (some ⟨g, 0, none⟩) n cap) xs) (hn : n = xs.length) (hx : xs[k]? = some x) : w.cell? ⟨g, k, none⟩ = some (.int .i64 x) := by
  subst hn
  rw [h.ints.cellAt k (by have := at_lt hx; omega), List.getElem?_map, hx]; rfl
def cf (f : Nat → Int) (m : Nat) : List Int := (List.range m).map f
theorem cf_length (f : Nat → Int) (m : Nat) : (cf f m).length = m := by simp [cf]
theorem cf_get {f : Nat → Int} {m j : Nat} (h : j < m) : (cf f m)[j]? = some (f j) := by simp [cf, h]
theorem cf_snoc (f : Nat → Int) (m : Nat) : cf f (m + 1) = cf f m ++ [f m] := by simp [cf, List.range_succ]
theorem cf_congr {f g : Nat → Int} {m : Nat} (h : ∀ k, k < m → f k = g k) : cf f m = cf g m := by
  unfold cf
  exact List.map_congr_left fun k hk => h k (List.mem_range.1 hk)
theorem cf_set {f g : Nat → Int} {m j : Nat} {y : Int} (hj : g j = y) (h : ∀ k, k ≠ j → f k = g k) : (cf f m).set j y = cf g m := by
  apply List.ext_getElem?
  intro i
  rw [List.getElem?_set, cf_length]
  by_cases hi : i < m
  · rw [cf_get hi, cf_get hi]
    by_cases e : j = i
    · subst e; rw [if_pos rfl, if_pos hi, hj]
    · rw [if_neg e, h i (fun h => e h.symm)]
  · rw [List.getElem?_eq_none (by rw [cf_length]; omega)]
    by_cases e : j = i
    · subst e; rw [if_pos rfl, if_neg hi]; rw [List.getElem?_eq_none (by rw [cf_length]; omega)]
    · rw [if_neg e]; rw [List.getElem?_eq_none (by rw [cf_length]; omega)]
theorem cf_mem {f : Nat → Int} {m : Nat} {x : Int} (h : x ∈ cf f m) : ∃ k, k < m ∧ f k = x := by
  obtain ⟨k, hk, rfl⟩ := List.mem_map.1 h
  exact ⟨k, List.mem_range.1 hk, rfl⟩
def colS (xss : List (List Int)) (k : Nat) : Int := sumI (xss.map fun r => r.getD k 0)
theorem colS_snoc (xss : List (List Int)) (r : List Int) (k : Nat) : colS (xss ++ [r]) k = colS xss k + r.getD k 0 := by unfold colS; rw [List.map_append, List.map_cons, List.map_nil, sumI_snoc]
theorem colS_bound {xss : List (List Int)} {M : Int} (hM : 0 ≤ M) (h : ∀ r ∈ xss, ∀ x ∈ r, 0 ≤ x ∧ x ≤ M) (k : Nat) : 0 ≤ colS xss k ∧ colS xss k ≤ xss.length * M := by
  unfold colS
  have hb : ∀ y ∈ xss.map (fun r => r.getD k 0), 0 ≤ y ∧ y ≤ M := by
    intro y hy
    obtain ⟨r, hr, rfl⟩ := List.mem_map.1 hy
    rw [List.getD_eq_getElem?_getD]
    cases hk : r[k]? with
    | none => exact ⟨Int.le_refl _, hM⟩
    | some x => exact h r hr x (List.mem_of_getElem? hk)
  have h1 := sumI_nonneg fun y hy => (hb y hy).1
  have h2 := sumI_le hM fun y hy => (hb y hy).2
  rw [List.length_map] at h2
  exact ⟨h1, h2⟩
/-- the columns after i rows and j numbers of the next -/
def gcol (xss : List (List Int)) (i j : Nat) (k : Nat) : Int := colS (xss.take i) k + if k < j then (xss.getD i []).getD k 0 else 0
theorem gcol_zero (xss : List (List Int)) (i : Nat) (k : Nat) : gcol xss i 0 k = colS (xss.take i) k := by unfold gcol; rw [if_neg (by omega)]; omega
theorem gcol_step {xss : List (List Int)} {i j : Nat} {r : List Int} {x : Int} (hr : xss[i]? = some r) (hx : r[j]? = some x) (m : Nat) : (cf (gcol xss i j) m).set j (gcol xss i j j + x) = cf (gcol xss i (j + 1)) m := by
  have e : xss.getD i [] = r := by rw [List.getD_eq_getElem?_getD, hr]; rfl
  have e2 : r.getD j 0 = x := by rw [List.getD_eq_getElem?_getD, hx]; rfl
  apply cf_set
  · unfold gcol; rw [e, e2, if_pos (by omega), if_neg (by omega)]; omega
  · intro k hk
    unfold gcol
    by_cases h : k < j
    · rw [if_pos h, if_pos (by omega)]
    · rw [if_neg h, if_neg (by omega)]
theorem gcol_row {xss : List (List Int)} {i : Nat} {r : List Int} (hr : xss[i]? = some r) (m : Nat) (hm : m = r.length) : cf (gcol xss i m) m = cf (gcol xss (i + 1) 0) m := by
  have e : xss.getD i [] = r := by rw [List.getD_eq_getElem?_getD, hr]; rfl
  apply cf_congr
  intro k hk
  rw [gcol_zero, take_snoc hr, colS_snoc]
  unfold gcol
  rw [e, if_pos hk]
theorem gcol_bound {xss : List (List Int)} {i j k : Nat} (h : ∀ r ∈ xss, ∀ x ∈ r, 0 ≤ x ∧ x ≤ 1000000) (hi : i < 40) : 0 ≤ gcol xss i j k ∧ gcol xss i j k ≤ 41000000 := by
  have h1 := colS_bound (xss := xss.take i) (M := 1000000) (by omega) (fun r hr => h r (List.mem_of_mem_take hr)) k
  have h2 : ((xss.take i).length : Int) ≤ 40 := by rw [List.length_take]; omega
  have h3 : 0 ≤ (xss.getD i []).getD k 0 ∧ (xss.getD i []).getD k 0 ≤ 1000000 := by
    rw [List.getD_eq_getElem?_getD (l := xss)]
    cases hr : xss[i]? with
    | none => simp
    | some r =>
      show 0 ≤ r.getD k 0 ∧ r.getD k 0 ≤ 1000000
      rw [List.getD_eq_getElem?_getD]
      cases hk : r[k]? with
      | none => simp
      | some x => exact h r (List.mem_of_getElem? hr) x (List.mem_of_getElem? hk)
  unfold gcol
  split <;> omega
def TSC (xss : List (List Int)) : Int := if tabB xss = true then 0 else 1
def TSR (xss : List (List Int)) : List Int := if tabB xss = true then xss.map sumI else []
def TSK (xss : List (List Int)) : List Int := if tabB xss = true then cf (colS xss) (colsJ xss) else []
theorem TableSums_c {xss : List (List Int)} {v : Value} {w : World} {A : Nat} (hA : A ≤ w.heap.size) (ha : RdInt64SS A w v xss) :
    Calls Try.prog 40 #[v] w fun e w' => ∃ u0 u1, e = .returned (.tuple #[u0, u1, .int .i64 (TSC xss)]) ∧ OwnInt64S w.heap.size w' u0 (TSR xss) ∧ OwnInt64S w.heap.size w' u1 (TSK xss) ∧ (u1.ownBlock = none ∨ u1.ownBlock ≠ u0.ownBlock) ∧ Below w.heap.size w w' := by
  have Ha := Lib.hid ha
  have hle := ha.le
  obtain ⟨ao, cap, rfl, ho⟩ := ha.open
  cases ht : tabB xss with
  | false =>
    have Ht := Lib.hid ht
    clear ht ho ha
    go_enter Try.func40, Try.ntmps40
    go_wp2_with fail
    with_reducible refine (isTable_c Ha.out).mono ?_
    rw [Ht.out]
    rintro e w' ⟨rfl, rfl⟩
    go_wp2
    go_ret3
    refine ⟨.slice none 0 0, .slice none 0 0, ?_, ?_, ?_, .inl rfl, Below.refl _ _⟩
    · unfold TSC; rw [Ht.out]; rfl
    · unfold TSR; rw [Ht.out]; exact Own.nil _ _ _ _
    · unfold TSK; rw [Ht.out]; exact Own.nil _ _ _ _
  | true =>
    obtain ⟨hn40, hrows⟩ := tabB_parts ht
    have e0 : TSC xss = 0 := by unfold TSC; rw [if_pos ht]
    have e1 : TSR xss = xss.map sumI := by unfold TSR; rw [if_pos ht]
    have e2 : TSK xss = cf (colS xss) (colsJ xss) := by unfold TSK; rw [if_pos ht]
    rw [e0, e1, e2]
    have Ht := Lib.hid ht
    have Hrows := Lib.hid hrows
    obtain ⟨n, hn⟩ : ∃ n, n = xss.length := ⟨_, rfl⟩
    rw [← hn] at Ha ⊢
    have Hn := Lib.hid hn
    have Ho := Lib.hid ho
    have hn' : n ≤ 40 := by omega
    obtain ⟨i0, hi, hz0, hz1, hz2⟩ := info_parts Try.infoInt64
    clear ht hrows ho hn ha e0 e1 e2 hn40 hle
    go_enter Try.func40, Try.ntmps40
    go_wp2_with fail
    with_reducible refine (isTable_c Ha.out).mono ?_
    rw [Ht.out]
    rintro e w' ⟨rfl, rfl⟩
    have HR0 : Hid (OwnInt64S w.heap.size (w.alloc (.cells #[] 2)) (.slice (some ⟨w.heap.size, 0, none⟩) 0 0) ([] : List Int)) := Lib.hid (Own.lit (E := eI) (xs := []) (cs := #[]) (Nat.le_refl _) rfl rfl (by decide) (fun x hx => by cases hx))
    have HK0 : Hid (OwnInt64S w.heap.size ((w.alloc (.cells #[] 2)).alloc (.cells #[] 2)) (.slice (some ⟨w.heap.size + 1, 0, none⟩) 0 0) ([] : List Int)) := Lib.hid (by have := Own.lit (E := eI) (e := 2) (base := w.heap.size) (w := w.alloc (.cells #[] 2)) (xs := []) (cs := #[]) (n := 0) (by simp) rfl rfl (by decide) (fun x hx => by cases hx); simpa using this)
    have HR1 := Lib.hid (HR0.out.alloc (.cells #[] 2))
    have HB0 : Hid (Below w.heap.size w ((w.alloc (.cells #[] 2)).alloc (.cells #[] 2))) := Lib.hid (((Below.refl _ _).alloc (Nat.le_refl _) _).alloc (by simp) _)
    go_wp2
    go_loopw [5, 6, 18] (fun rv cv i wr => ∃ k : Nat, k ≤ n ∧ i = .int .i64 k ∧ OwnInt64S w.heap.size wr rv ((xss.take k).map sumI) ∧ OwnInt64S w.heap.size wr cv (cf (gcol xss k 0) (if k = 0 then 0 else colsJ xss)) ∧ Apart rv cv ∧ Below w.heap.size w wr) (fun _ _ i _ => n - (intOf i).toNat)
    case atStart => exact ⟨0, Nat.zero_le _, rfl, HR1.out, HK0.out, by intro g h1 h2; simp [Value.ownBlock] at h1 h2; omega, HB0.out⟩
    case round =>
      obtain ⟨k, hk, rfl, hR, hC, hap, hb⟩ := hrel
      clear HR0 HK0 HR1 HB0
      by_cases hkn : k < n
      · obtain ⟨b, off, rfl, hlt, hc⟩ := Ho.out (by have := Hn.out; omega)
        obtain ⟨x, ro, rc, hx, hcell, hrd⟩ := hc k (by have := Hn.out; omega)
        have d := (hb.cell (p := ⟨b, off + k, none⟩) hlt.2).trans hcell
        have hxr := Hrows.out x (List.mem_of_getElem? hx)
        have hrd2 := hrd.below hb hA
        have Hx := Lib.hid hx
        have Hrd := Lib.hid hrd
        have Hrd2 := Lib.hid hrd2
        have Hxr := Lib.hid hxr
        have Hcols := Lib.hid hxr.1
        have hm40 := hxr.2.1
        have hsb : 0 ≤ sumI x ∧ sumI x ≤ 40000000 := by
          have h1 := sumI_nonneg fun y hy => (hxr.2.2 y hy).1
          have h2 := sumI_le (M := 1000000) (by omega) fun y hy => (hxr.2.2 y hy).2
          omega
        have Hqp : eI.ok (sumI x) := by show -9223372036854775808 ≤ sumI x ∧ sumI x ≤ 9223372036854775807; omega
        have HC := Lib.hid hC
        have HR := Lib.hid hR
        have Hap := Lib.hid hap
        have Hb := Lib.hid hb
        clear hx hc hcell hrd hrd2 hxr hC hR hap hb
        have hl1 : ((xss.take k).map sumI).length = k := by rw [List.length_map, List.length_take]; have := Hn.out; omega
        go_wp2_with fail
        with_reducible refine (sumOf_any Hrd2.out (fun y hy => by have := Hxr.out.2.2 y hy; omega) (by omega)).mono ?_
        rintro e w1 ⟨rfl, rfl⟩
        go_wp2_with (first | (at_builtin; refine wpList_appS (E := eI) rfl _ _ 22 rfl Try.underlying22 hi hz0 hz1 hz2 rfl (by decide) rfl rfl (HR.out.alloc _) (rds_one (E := eI) (x := sumI x) Hqp rfl) ?b1 ?b2 ?b3 ?_))
        case b1 => rw [hl1]; unfold maxLen; simp; omega
        case b2 => rw [hl1]; simp; omega
        case b3 => have := Hb.out.size; simp; omega
        intro v' w2 hR2 hg
        have hg2 := hg.alloc
        have hb2 := hg2.below Hb.out Hb.out.size (fun j hj => (HR.out.lt j hj).1)
        have hap2 := Hap.out.grew hg2 (fun q hq => (HC.out.lt q hq).2)
        have hC2 := HC.out.kept hg2.1 Hap.out.kept
        have d2 := (hb2.cell (p := ⟨b, off + k, none⟩) hlt.2).trans ((Hb.out.cell (p := ⟨b, off + k, none⟩) hlt.2).symm.trans d)
        have hR3 : OwnInt64S w.heap.size w2 v' ((xss.take (k + 1)).map sumI) := by rw [take_snoc Hx.out, List.map_append, List.map_take]; exact hR2
        have Hin := Lib.hid (RdI.open Hrd.out)
        have HR3 := Lib.hid hR3
        have HC2 := Lib.hid hC2
        have Hap2 := Lib.hid hap2
        have Hb2 := Lib.hid hb2
        clear hR2 hg hg2 hb2 hap2 hC2 d2 hR3 hl1 d
        clear HC HR Hap Hb
        go_wp2
        go_loopw [6, 30] (fun cv i wr => ∃ j : Nat, j ≤ x.length ∧ i = .int .i64 j ∧ OwnInt64S w.heap.size wr v' ((xss.take (k + 1)).map sumI) ∧ OwnInt64S w.heap.size wr cv (cf (gcol xss k j) (if k = 0 then j else colsJ xss)) ∧ Apart v' cv ∧ Below w.heap.size w wr) (fun _ i _ => x.length - (intOf i).toNat)
        case atStart => exact ⟨0, Nat.zero_le _, rfl, HR3.out, HC2.out, Hap2.out, Hb2.out⟩
        case round =>
          obtain ⟨j, hj, rfl, hR, hC, hap, hb⟩ := hrel
          clear HR3 HC2 Hap2 Hb2
          by_cases hjn : j < x.length
          · obtain ⟨ro2, rc2, hsh2, hin2⟩ := Hin.out
            injection hsh2 with hq1 hq2 hq3
            subst hq1; subst hq3
            obtain ⟨b2, off2, rfl, hlt2, hc2⟩ := hin2 (by omega)
            obtain ⟨y, hy, hcy, by2⟩ := hc2 j hjn
            have dy := (hb.cell (p := ⟨b2, off2 + j, none⟩) hlt2.2).trans hcy
            have hyb := Hxr.out.2.2 y (List.mem_of_getElem? hy)
            have hgb := gcol_bound (j := j) (k := j) (fun r hr => (Hrows.out r hr).2.2) (show k < 40 by omega)
            have Hy := Lib.hid hy
            have z0 : IntKind.i64.wrap (gcol xss k j j + y) = gcol xss k j j + y := IntWalk.i64_in _ (by omega)
            have hok2 : eI.ok (gcol xss k j j + y) := by show -9223372036854775808 ≤ _ ∧ _ ≤ 9223372036854775807; omega
            have Hst := Lib.hid (gcol_step Hx.out Hy.out)
            clear hy hcy hc2 hin2 hq2
            by_cases hk0 : k = 0
            · rw [if_pos hk0] at hC
              have Hk0 := Lib.hid hk0
              have hq0 : ((k : Int) == 0) = true := by simp; omega
              clear hk0
              have HR := Lib.hid hR
              have HC := Lib.hid hC
              have Hap := Lib.hid hap
              have Hb := Lib.hid hb
              have hl1 : (cf (gcol xss k j) j).length = j := cf_length _ _
              have Hq0 : eI.ok 0 := by show -9223372036854775808 ≤ (0 : Int) ∧ (0 : Int) ≤ 9223372036854775807; omega
              have dy0 := Lib.hid dy
              clear hR hC hap hb
              go_wp2_with (first | (at_builtin; refine wpList_appS (E := eI) rfl _ _ 22 rfl Try.underlying22 hi hz0 hz1 hz2 rfl (by decide) rfl rfl (HC.out.alloc _) (rds_one (E := eI) (x := 0) Hq0 rfl) ?b1 ?b2 ?b3 ?_))
              case b1 => rw [hl1]; unfold maxLen; simp; omega
              case b2 => rw [hl1]; simp; omega
              case b3 => have := Hb.out.size; simp; omega
              intro cv' w3 hC3 hg
              have hg2 := hg.alloc
              have hb3 := hg2.below Hb.out Hb.out.size (fun q hq => (HC.out.lt q hq).1)
              have hap3 := Hap.out.symm.grew hg2 (fun q hq => (HR.out.lt q hq).2)
              have hR3 := HR.out.kept hg2.1 Hap.out.symm.kept
              have e3 : cf (gcol xss k j) j ++ [0] = cf (gcol xss k j) (j + 1) := by rw [cf_snoc]; congr 2; unfold gcol; rw [if_neg (by omega), Hk0.out]; rfl
              rw [e3] at hC3
              have dy3 := (hb3.cell (p := ⟨b2, off2 + j, none⟩) hlt2.2).trans ((Hb.out.cell (p := ⟨b2, off2 + j, none⟩) hlt2.2).symm.trans dy)
              replace hC3 : OwnInt64S w.heap.size w3 cv' (cf (gcol xss k j) (j + 1)) := hC3
              obtain ⟨g, cp, hcv, hg1, hg3⟩ := hC3.addr (by rw [cf_length]; omega)
              rw [cf_length] at hcv
              subst hcv
              have hst := Own.storeI hC3 (cf_length _ _).symm (k := j) (by omega) hok2
              obtain ⟨⟨y0, hy0⟩, hfz, hC4, hg4⟩ := hst
              have hcg : w3.cell? ⟨g, j, none⟩ = some (.int .i64 (gcol xss k j j)) := Own.cellI hC3 (cf_length _ _).symm (cf_get (by omega))
              rw [Hst.out] at hC4
              have hR4 := hR3.kept hg4 hap3.kept
              have HC4 := Lib.hid hC4
              have HR4 := Lib.hid hR4
              have Hap4 := Lib.hid hap3.symm
              have Hb4 := Lib.hid (hb3.setCell (p := ⟨g, j, none⟩) hg1 (.int .i64 (gcol xss k j j + y)))
              clear hy0 hg hg2 hb3 hap3 hR3 hC3 hC4 hg4 hR4 dy HC HR Hap Hb
              go_wp2
              go_roundw
              case rel => exact ⟨j + 1, by omega, by go_num, HR4.out, by rw [if_pos Hk0.out]; exact HC4.out, Hap4.out, Hb4.out⟩
              case measure => simp [intOf]; omega
            · rw [if_neg hk0] at hC
              have hk0' : ¬ (k : Int) = 0 := by omega
              have hjm : j < colsJ xss := by have := Hcols.out; omega
              obtain ⟨g, cp, hcv, hg1, hg3⟩ := hC.addr (by rw [cf_length]; omega)
              rw [cf_length] at hcv
              subst hcv
              have hst := Own.storeI hC (cf_length _ _).symm (k := j) hjm hok2
              obtain ⟨⟨y0, hy0⟩, hfz, hC4, hg4⟩ := hst
              have hcg : wr.cell? ⟨g, j, none⟩ = some (.int .i64 (gcol xss k j j)) := Own.cellI hC (cf_length _ _).symm (cf_get hjm)
              rw [Hst.out] at hC4
              have hR4 := hR.kept hg4 hap.symm.kept
              have HC4 := Lib.hid hC4
              have HR4 := Lib.hid hR4
              have Hap4 := Lib.hid hap
              have Hb4 := Lib.hid (hb.setCell (p := ⟨g, j, none⟩) hg1 (.int .i64 (gcol xss k j j + y)))
              clear hy0 hb hap hR hC hC4 hg4 hR4
              go_wp2
              go_roundw
              case rel => exact ⟨j + 1, by omega, by go_num, HR4.out, by rw [if_neg hk0]; exact HC4.out, Hap4.out, Hb4.out⟩
              case measure => simp [intOf]; omega
          · obtain rfl : j = x.length := by omega
            go_wp2
            go_roundw
            case rel =>
              refine ⟨k + 1, by omega, by go_num, hR, ?_, hap, hb⟩
              rw [if_neg (by omega)]
              have hcols := Hcols.out
              rw [← gcol_row Hx.out _ hcols.symm, hcols.symm]
              by_cases hk0 : k = 0
              · rw [if_pos hk0] at hC; exact hC
              · rw [if_neg hk0] at hC; rw [hcols.symm] at hC; exact hC
            case measure => simp [intOf]; omega
      · obtain rfl : k = n := by omega
        go_wp2
        go_ret3
        refine ⟨_, _, rfl, ?_, ?_, hap.kept, hb⟩
        · rw [List.take_of_length_le (by have := Hn.out; omega)] at hR; exact hR
        · have e : cf (gcol xss k 0) (colsJ xss) = cf (colS xss) (colsJ xss) := cf_congr fun q hq => by rw [gcol_zero, List.take_of_length_le (by have := Hn.out; omega)]
          rw [← e]
          by_cases hk0 : k = 0
          · subst hk0
            rw [if_pos rfl] at hC
            have : colsJ xss = 0 := by
              have := Hn.out
              cases xss with
              | nil => rfl
              | cons y ys => simp at this
            rw [this]; exact hC
          · rw [if_neg hk0] at hC; exact hC
end Go.Proofs.Ytljjilgpmckccaa
