/- Jobs and orders: the drawing of inputs. No condition. -/
import Derived.Test.YtpnmcgjfemaleaaDraw
import Derived.Test.YtpnmcgjfemaleaaMatA
import Derived.Test.YtpnmcgjfemaleaaSchP
import Derived.Test.YtpnmcgjfemaleaaJohS
import Derived.Test.YtpnmcgjfemaleaaCopy
namespace Go.Proofs.Ytpnmcgjfemaleaa
open Go.ChangeShapes Go.WideShapes Go.ChangeAt Go.RowKit
set_option linter.unusedVariables false
set_option maxRecDepth 100000
theorem BldG.keepS {α : Type} {E : Elt α} {er e : TypeId} {base rb tp b : Nat} {w w' : World} {v : Value} {xss : List (List α)} (h : BldG E er e base rb tp w v xss) (hg : w.grownBy w' (some b)) (h1 : b < base) (h2 : b < rb) : BldG E er e base rb tp w' v xss :=
  h.keep hg (by
    obtain ⟨hs, ho, _⟩ := h
    cases hb : v.ownBlock with
    | none => exact .inl rfl
    | some k => right; intro hh; have := (ho.1.lt k hb).1; have := Option.some.inj hh; omega) (fun k hk => .inl (by have := Option.some.inj hk; omega))
theorem below_grownS {w w' : World} (h : Below w.heap.size w w') (row : Option Nat) : w.grownBy w' row := ⟨h.os, h.tape, h.output, h.size, fun k hk _ => h.block k hk⟩
def RowsM (m : Nat) (xss : List (List Int)) : Prop := ∀ r ∈ xss, r.length = m ∧ ∀ x ∈ r, 0 ≤ x ∧ x ≤ 1000
theorem validJ_mk {xss : List (List Int)} {m : Nat} (h1 : 1 ≤ xss.length ∧ xss.length ≤ 8) (hm : 1 ≤ m ∧ m ≤ 4) (hr : RowsM m xss) : validJ xss = true := by
  obtain ⟨x0, hx0⟩ : ∃ x0, xss[0]? = some x0 := ⟨_, List.getElem?_eq_getElem (by omega)⟩
  have hc : colsJ xss = m := by rw [colsJ_of hx0, (hr x0 (List.mem_of_getElem? hx0)).1]
  unfold validJ
  rw [hc, decide_eq_true h1, decide_eq_true hm, Bool.and_self, Bool.true_and, List.all_eq_true]
  intro r hrr
  unfold okRow
  rw [decide_eq_true (hr r hrr).1, Bool.true_and, Bool.not_eq_true', List.any_eq_false]
  intro x hx
  have := (hr r hrr).2 x hx
  unfold badMin
  simpa using this
def DrawnJ (base : Nat) (e : Ending) (w' : World) : Prop := ∃ u xss m, e = .returned u ∧ OwnTM 29 base w'.heap.size w' u xss ∧ (1 ≤ xss.length ∧ xss.length ≤ 4) ∧ (1 ≤ m ∧ m ≤ 3) ∧ RowsM m xss
set_option maxHeartbeats 1000000 in
theorem l21Draw_any {w : World} {b N : Nat} (hs : Src w b N) (hN : N ≤ 100000) :
    Calls Try.prog 83 #[.pointer (some ⟨b, 0, none⟩), .int .i64 4] w fun e w' => DrawnJ w.heap.size e w' ∧ Src w' b (N + 200) ∧ w.grownBy w' (some b) := by
  obtain ⟨i0, hi, hz0, hz1, hz2⟩ := info_parts Try.infoInt64
  obtain ⟨i1, hi1, hy0, hy1, hy2⟩ := info_parts Try.infoSlI
  have hbl := hs.lt
  go_enter Try.func83, Try.ntmps83
  go_wp2_with fail
  refine (pick_any 3 hs (by omega) (by omega)).mono ?_
  rintro e w1 ⟨⟨r, rfl, hr0, hr1, _⟩, hs1, hg1, hz1'⟩
  have hr2 := hr1 (by omega)
  clear hr1
  go_wp2_with fail
  refine (one_any 3 hs1 (by omega) (by omega)).mono ?_
  rintro e w2 ⟨⟨q, rfl⟩, hs2, hg2, hz2'⟩
  have hg2' := grownBy_trans hg1 hg2
  clear hg1 hg2 hs1 hz1' hz2'
  obtain ⟨m, hm, hq⟩ : ∃ m : Nat, (1 ≤ m ∧ m ≤ 3) ∧ (m : Int) = if q then 2 else 1 + r := by
    cases q with
    | true => exact ⟨2, by omega, rfl⟩
    | false => exact ⟨(1 + r).toNat, by omega, by show (((1 + r).toNat : Nat) : Int) = 1 + r; omega⟩
  have hm' : (1 : Int) ≤ (m : Int) ∧ (m : Int) ≤ 3 := by omega
  cases q
  all_goals
    simp only [if_true, if_false, Bool.false_eq_true] at hq
    have hv := congrArg (Value.int IntKind.i64) hq
    have Hv := Lib.hid hv
    clear hq hv
    have hlit : Own eS 29 w.heap.size (w2.alloc (.cells #[] 29)) (.slice (some ⟨w2.heap.size, 0, none⟩) 0 0) [] := Own.lit (E := eS) (xs := []) (cs := #[]) hg2'.size rfl rfl (by decide) (fun x hx => by cases hx)
    go_wp2_with fail
    refine (pick_any 4 (hs2.alloc _) (by omega) (by omega)).mono ?_
    rintro e w3 ⟨⟨q3, rfl, hq30, hq31, _⟩, hs3, hg3, hz3⟩
    have hq32 := hq31 (by omega)
    have hB3 : BldG eI 2 29 w.heap.size w.heap.size w3.heap.size w3 (.slice (some ⟨w2.heap.size, 0, none⟩) 0 0) ([] : List (List Int)) := BldG.empty (B := w2.heap.size) rfl (hlit.keptS hg3 hbl) (by rw [hz3]; simp)
    have hg3' := grownBy_trans hg2' (grownBy_trans (World.grownBy_alloc _ _ _) hg3)
    clear hq31 hz3 hg3 hlit hs2 hg2'
    go_wp2_with fail
    rw [← Hv.out]
    go_loopw [6, 7] (fun v k wr => ∃ (kk : Int) (xss : List (List Int)), 0 ≤ kk ∧ kk + xss.length ≤ 4 ∧ 1 ≤ kk + xss.length ∧ k = .int .i64 kk ∧ BldG eI 2 29 w.heap.size w.heap.size wr.heap.size wr v xss ∧ RowsM m xss ∧ Src wr b (N + 10 + 10 * xss.length) ∧ w.grownBy wr (some b)) (fun _ k _ => (intOf k).toNat)
    case atStart => exact ⟨1 + q3, [], by omega, by simp; omega, by simp; omega, rfl, hB3, (fun r hr => by cases hr), hs3.mono (by (try simp) <;> omega), hg3'⟩
    case round =>
      obtain ⟨kk, xss, hk0, hkj, hkl, rfl, hB, hrows, hsr, hgr⟩ := hrel
      clear hB3 hs3 hg3'
      have hsz : w.heap.size ≤ wr.heap.size := hgr.size
      by_cases hk : 0 < kk
      · obtain ⟨tp, htp⟩ : ∃ tp, tp = wr.heap.size := ⟨_, rfl⟩
        have hR0 : OwnInt64S tp (wr.alloc (.cells #[] 2)) (.slice (some ⟨wr.heap.size, 0, none⟩) 0 0) [] := Own.lit (E := eI) (xs := []) (cs := #[]) (by omega) rfl rfl (by decide) (fun x hx => by cases hx)
        have hB0 : BldG eI 2 29 w.heap.size w.heap.size tp (wr.alloc (.cells #[] 2)) u6 xss := by rw [htp]; exact hB.below ((Below.refl wr.heap.size wr).alloc (Nat.le_refl _) _) (Nat.le_refl _)
        have hg0 := grownBy_trans hgr (World.grownBy_alloc wr (.cells #[] 2) (some b))
        have hs0 := hsr.alloc (.cells #[] 2)
        have htw : w.heap.size ≤ tp := by omega
        have htp0 : tp ≤ (wr.alloc (.cells #[] 2)).heap.size := by simp; omega
        have Hrows := Lib.hid hrows
        clear hB hgr hsr hrows htp
        have hxl4 : xss.length ≤ 4 := by omega
        go_wp2
        go_loopw [8, 9] (fun rv jv wr => ∃ (j : Nat) (xs : List Int), j ≤ m ∧ jv = .int .i64 j ∧ Hid (xs.length = j) ∧ Hid (∀ x ∈ xs, 0 ≤ x ∧ x ≤ 1000) ∧ OwnInt64S tp wr rv xs ∧ BldG eI 2 29 w.heap.size w.heap.size tp wr u6 xss ∧ Src wr b (N + 10 + 10 * xss.length + 2 * j) ∧ w.grownBy wr (some b) ∧ tp ≤ wr.heap.size) (fun _ jv _ => m - (intOf jv).toNat)
        case atStart => exact ⟨0, [], Nat.zero_le _, rfl, rfl, Lib.hid (fun x hx => by cases hx), hR0, hB0, hs0, hg0, htp0⟩
        case round =>
          obtain ⟨j, xs, hj, rfl, Hl, Hx, hR, hB, hsr, hgr, htp⟩ := hrel
          clear hR0 hB0 hg0 hs0 htp0
          by_cases hjm : j < m
          · go_wp2_with fail
            refine (pick_any 12 hsr (by omega) (by omega)).mono ?_
            rintro e w5 ⟨⟨q5, rfl, hq50, hq51, _⟩, hs5, hg5, hz5⟩
            have hq52 := hq51 (by omega)
            have hR5 := hR.keptS hg5 (by omega)
            have hB5 := hB.keepS hg5 hbl hbl
            have hgr5 := grownBy_trans hgr hg5
            have htp5 : tp ≤ w5.heap.size := by omega
            have hok : eI.ok q5 := by show -9223372036854775808 ≤ q5 ∧ q5 ≤ 9223372036854775807; omega
            have HR := Lib.hid hR5
            have HB := Lib.hid hB5
            clear hq51 hz5 hg5 hR hB hsr hgr htp hR5 hB5
            go_wp2_with (first | (at_builtin; refine wpList_appS (E := eI) rfl _ _ 29 rfl Try.underlying29 hi hz0 hz1 hz2 rfl (by decide) rfl rfl (HR.out.alloc _) (rds_one (E := eI) (x := q5) hok rfl) ?b1 ?b2 ?b3 ?_))
            case b1 => rw [Hl.out]; unfold maxLen; simp; omega
            case b2 => rw [Hl.out]; simp; omega
            case b3 => simp; omega
            intro v' w6 hR6 hg6
            have hg6' := hg6.alloc
            have hrl := HR.out.lt
            have hB6 := HB.out.keep hg6'.1 (HB.out.sep (fun q hq => (hrl q hq).1)) (fun q hq => .inr (hrl q hq).1)
            have hs6 := hs5.kept hg6'.1 (fun q hq => by have := (hrl q hq).1; omega)
            have hgr6 := grown_own hgr5 hg6'.1 (fun q hq => by have := (hrl q hq).1; omega)
            have htp6 := Nat.le_trans htp5 hg6'.1.size
            have hx6 : ∀ x ∈ xs ++ [q5], 0 ≤ x ∧ x ≤ 1000 := by
              intro x hx
              rcases List.mem_append.1 hx with hx | hx
              · exact Hx.out x hx
              · have := List.mem_singleton.1 hx; omega
            have Hx6 := Lib.hid hx6
            have HR6 := Lib.hid hR6
            have HB6 := Lib.hid hB6
            clear hg6 hg6' hrl hB6 hR6 hx6 hs5 hgr5 htp5
            go_wp2
            go_roundw
            case rel => exact ⟨j + 1, _, by omega, by go_num, Lib.hid (by rw [List.length_append, Hl.out]; rfl), Hx6, HR6.out, HB6.out, hs6.mono (by omega), hgr6, htp6⟩
            case measure => simp [intOf]; omega
          · obtain rfl : j = m := by omega
            obtain ⟨rao, rcap, hsh⟩ := hR.shape
            rw [Hl.out] at hsh
            subst hsh
            obtain ⟨hs', xh, hval, hokx, hlen, hO, hfn⟩ := hB.app hR (by omega) htp
            have hcells : (#[.slice rao j rcap] : Array Value) = (eS.cells xh).toArray := by rw [← hval]; rfl
            have HO := Lib.hid hO
            have Hfn := Lib.hid hfn
            have Hlen := Lib.hid hlen
            have Hcells := Lib.hid hcells
            have hl0 := HO.out.lt
            have Hl0 := Lib.hid hl0
            have hszr : w.heap.size ≤ wr.heap.size := hgr.size
            clear hR hB hval hlen hO hfn hcells hl0
            go_wp2_with (first | (at_builtin; refine wpList_appS (E := eS) rfl _ _ 22 rfl Try.underlying22 hi1 hy0 hy1 hy2 rfl (by decide) rfl rfl (HO.out.alloc _) (rds_one (E := eS) (x := xh) hokx Hcells.out) ?b1 ?b2 ?b3 ?_))
            case b1 => rw [Hlen.out]; unfold maxLen; simp; omega
            case b2 => rw [Hlen.out]; simp; omega
            case b3 => simp; omega
            intro v' w6 hO6 hg6
            have hg6' := hg6.alloc
            have hB6 := Hfn.out w6 v' hO6 hg6'
            have hs6 := hsr.kept hg6'.1 (fun q hq => by have := (Hl0.out q hq).1; omega)
            have hgr6 := grown_own hgr hg6'.1 (fun q hq => (Hl0.out q hq).1)
            have hrows6 : RowsM j (xss ++ [xs]) := by
              intro r hr
              rcases List.mem_append.1 hr with hr | hr
              · exact Hrows.out r hr
              · rw [List.mem_singleton.1 hr]; exact ⟨Hl.out, Hx.out⟩
            have HB6 := Lib.hid hB6
            have Hr6 := Lib.hid hrows6
            clear hO6 hg6 hg6' hB6 hrows6 hsr hgr
            go_wp2
            go_roundw
            case rel => exact ⟨kk - 1, _, by omega, by simp; omega, by simp; omega, by go_num, HB6.out, Hr6.out, hs6.mono (by simp; omega), hgr6⟩
            case measure => simp [intOf]; omega
      · have hM := hB.toM (Nat.le_refl _)
        have hl4 : 1 ≤ xss.length ∧ xss.length ≤ 4 := by omega
        clear hB
        go_wp2
        go_ret
        exact ⟨⟨_, xss, m, rfl, hM, hl4, hm, hrows⟩, hsr.mono (by omega), hgr⟩
def DrawnJB (base : Nat) (e : Ending) (w' : World) : Prop := ∃ u xss, e = .returned u ∧ OwnTM 29 base w'.heap.size w' u xss ∧ validJ xss = true ∧ xss.length ≤ 4
theorem A2Jobs_any {w : World} {A : Nat} {v : Value} {cs : List Int} (ha : Rds eB A w v cs) (hA : A ≤ w.heap.size) :
    Calls Try.prog 42 #[v] w fun e w' => DrawnJB w.heap.size e w' ∧ Below w.heap.size w w' := by
  have Ha := Lib.hid ha
  obtain ⟨ao, cap, rfl⟩ := ha.shape
  clear ha
  go_enter Try.func42, Try.ntmps42
  go_wp2_with fail
  refine (l00From_any Ha.out hA).mono ?_
  rintro e w1 ⟨rfl, hs1, hb1⟩
  have hz1 : w.heap.size < w1.heap.size := hs1.lt
  have Hb1 := Lib.hid hb1
  clear hb1
  go_wp2_with fail
  refine (l21Draw_any hs1 (by omega)).mono ?_
  rintro e w2 ⟨⟨u, xss, m, rfl, ho2, hl, hm, hr⟩, hs2, hg2⟩
  have hv := validJ_mk ⟨hl.1, by omega⟩ ⟨hm.1, by omega⟩ hr
  have Hv := Lib.hid hv
  have hb2 := grown_below Hb1.out hg2 (Nat.le_refl _) (by omega)
  have ho3 : OwnTM 29 w.heap.size w2.heap.size w2 u xss := by
    obtain ⟨hs, h1, h2, h3, h4⟩ := ho2
    exact ⟨hs, ⟨h1.1.mono (by omega), h1.2⟩, h2, fun i x xs e1 e2 => ⟨(h3 i x xs e1 e2).1.mono (by omega), (h3 i x xs e1 e2).2⟩, h4⟩
  clear ho2 hg2 hs1 hs2 hr hv
  go_wp2
  go_ret
  exact ⟨⟨_, xss, rfl, ho3, Hv.out, hl.2⟩, hb2⟩
def DrawnP (base n : Nat) (e : Ending) (w' : World) : Prop := ∃ u o, e = .returned u ∧ OwnInt64S base w' u o ∧ orderP n o
theorem orderP_put {k : Nat} {o : List Int} (h : orderP k o) (j : Nat) : orderP (k + 1) (o.take j ++ (k : Int) :: o.drop j) := by
  rw [orderP_perm] at h ⊢
  have h1 : (o.take j ++ (k : Int) :: o.drop j).Perm ((k : Int) :: o) := putAt_perm o (k : Int) j
  refine h1.trans ((List.Perm.cons _ h).trans ?_)
  have h2 : rangeI (k + 1) = rangeI k ++ [(k : Int)] := by unfold rangeI; rw [List.range_succ, List.map_append]; rfl
  rw [h2]
  exact (List.perm_append_comm (l₁ := [(k : Int)]) (l₂ := rangeI k))
set_option maxHeartbeats 1000000 in
theorem A2Order_any {w : World} {A n : Nat} {v : Value} {cs : List Int} (ha : Rds eB A w v cs) (hA : A ≤ w.heap.size) (hn : n ≤ 8) :
    Calls Try.prog 43 #[v, .int .i64 (n : Int)] w fun e w' => DrawnP w.heap.size n e w' ∧ Below w.heap.size w w' := by
  obtain ⟨i0, hi, hz0, hz1, hz2⟩ := info_parts Try.infoInt64
  have Ha := Lib.hid ha
  obtain ⟨ao, cap, rfl⟩ := ha.shape
  clear ha
  go_enter Try.func43, Try.ntmps43
  go_wp2_with fail
  refine (l00From_any Ha.out hA).mono ?_
  rintro e w1 ⟨rfl, hs1, hb1⟩
  obtain ⟨b, hbe⟩ : ∃ b, w.heap.size = b := ⟨_, rfl⟩
  rw [hbe] at hs1
  have hz1' : b < w1.heap.size := hs1.lt
  have hbw : b ≤ w.heap.size ∧ w.heap.size ≤ b := by omega
  have ho1 : OwnInt64S (b + 1) (w1.alloc (.cells #[] 2)) (.slice (some ⟨w1.heap.size, 0, none⟩) 0 0) [] := Own.lit (E := eI) (xs := []) (cs := #[]) (by omega) rfl rfl (by decide) (fun x hx => by cases hx)
  have hb1' := hb1.alloc hb1.size (.cells #[] 2)
  have hs1' := hs1.alloc (.cells #[] 2)
  rw [← hbe] at hs1' ho1
  clear hbe hs1 hb1
  go_wp2
  rw [show (w.heap.size : Nat) = w.heap.size from rfl] at *
  go_loopw [6, 7] (fun v k wr => ∃ (j g cap : Nat) (o : List Int), j ≤ n ∧ k = .int .i64 j ∧ v = .slice (some ⟨g, 0, none⟩) j cap ∧ Hid (orderP j o) ∧ OwnInt64S (w.heap.size + 1) wr (.slice (some ⟨g, 0, none⟩) j cap) o ∧ Src wr w.heap.size (2 * j) ∧ Below w.heap.size w wr) (fun _ k _ => n - (intOf k).toNat)
  case atStart => exact ⟨0, _, 0, [], Nat.zero_le _, rfl, rfl, Lib.hid (by rw [orderP_perm]; exact List.Perm.refl _), ho1, hs1'.mono (by omega), hb1'⟩
  case round =>
    obtain ⟨k, g, cap, o, hk, rfl, rfl, Ho, hown, hsr, hb⟩ := hrel
    clear ho1 hb1' hs1'
    have hol : o.length = k := by have := Ho.out.1; exact this
    have Hol := Lib.hid hol
    have hwr : w.heap.size < wr.heap.size := hsr.lt
    clear hol
    by_cases hkn : k < n
    · go_wp2_with fail
      refine (pick_any ((k : Int) + 1) hsr (by omega) (by omega)).mono ?_
      rintro e w2 ⟨⟨r, rfl, hr0, hr1, _⟩, hs2, hg2, hz2'⟩
      have hr2 := hr1 (by omega)
      obtain ⟨j, rfl⟩ := Int.eq_ofNat_of_zero_le hr0
      have hjk : j ≤ k := by omega
      have hown2 := hown.keptS hg2 (by omega)
      have hb2 := grown_below hb hg2 (by omega) (by omega)
      have hcap0 : k ≤ cap := by have := Rds.cap hown2.rds; omega
      have hjc : (j : Int) ≤ (cap : Int) := by omega
      have hjk9 : (j : Int) ≤ (k : Int) := by omega
      have hr1' := hown2.rds.takeN (k := j) hjk
      have Hr1 := Lib.hid hr1'
      have Hown2 := Lib.hid hown2
      have Hb2 := Lib.hid hb2
      have Hs2 := Lib.hid hs2
      have hz22 : w.heap.size < w2.heap.size := hs2.lt
      clear hr1 hz2' hg2 hown hb hr1' hown2 hb2 hsr hs2
      go_wp2_with fail
      with_reducible refine (l00Own_c Hr1.out (by rw [List.length_take]; omega)).mono ?_
      rintro e w3 ⟨u3, rfl, hu3, hb3⟩
      have hs23 := hb3.size
      have hs3 := Hs2.out.kept (below_grownS hb3 none) (fun k hk => by cases hk)
      have hownA := Hown2.out.below hb3 (Nat.le_refl _)
      have hbA := Hb2.out.trans (hb3.mono Hb2.out.size)
      have Hqp : eI.ok (k : Int) := by show -9223372036854775808 ≤ (k : Int) ∧ (k : Int) ≤ 9223372036854775807; omega
      have hlt : (o.take j).length = j := by rw [List.length_take]; have := Hol.out; omega
      have hld : (o.drop j).length = k - j := by rw [List.length_drop]; have := Hol.out; omega
      have Hlt := Lib.hid hlt
      have Hld := Lib.hid hld
      have Hu3 := Lib.hid hu3
      have Hs3 := Lib.hid hs3
      have HownA := Lib.hid hownA
      have HbA := Lib.hid hbA
      clear hu3 hb3 hs3 hownA hbA hlt hld
      go_wp2_with (first | (at_builtin; refine wpList_appS (E := eI) rfl _ _ 29 rfl Try.underlying29 hi hz0 hz1 hz2 rfl (by decide) rfl rfl (Hu3.out.alloc _) (rds_one (E := eI) (x := (k : Int)) Hqp rfl) ?b1 ?b2 ?b3 ?_))
      case b1 => rw [Hlt.out]; unfold maxLen; (try simp) <;> omega
      case b2 => rw [Hlt.out]; (try simp) <;> omega
      case b3 => (try simp) <;> omega
      intro v4 w4 hR4 hg4
      have hg4' := hg4.alloc
      have hu3l := Hu3.out.lt
      have hs4 := Hs3.out.kept hg4'.1 (fun q hq => by have := (hu3l q hq).1; omega)
      have hb4 := Below.grown HbA.out hg4'.1 (by omega) (fun q hq => by have := (hu3l q hq).1; omega)
      have hownB := HownA.out.kept hg4'.1 (by
        right; intro hh
        have h1 := (hu3l g hh.symm).1
        have h2 := (Hown2.out.lt g rfl).2
        omega)
      have hz4 := hg4'.1.size
      have HR4 := Lib.hid hR4
      have Hb4 := Lib.hid hb4
      have HrB := Lib.hid hownB.rds
      have Hs4 := Lib.hid hs4
      have HownB := Lib.hid hownB
      clear hR4 hg4 hg4' hu3l hs4 hb4 hownB
      by_cases hq : j = cap
      case' pos =>
        subst hq
        have Hr2 : Hid (RdI w4.heap.size w4 (.slice (some ⟨g, 0, none⟩) (k - j) 0) (o.drop j)) := Lib.hid (Rds.drop0 HrB.out (by omega))
        rw [show k - j = 0 by omega] at Hr2
      case' neg =>
        have hq' : ¬ cap = j := fun h => hq h.symm
        have Hr2 : Hid (RdI w4.heap.size w4 (.slice (some ⟨g, 0 + j, none⟩) (k - j) (cap - j)) (o.drop j)) := Lib.hid (by
          by_cases hk0 : 0 < k
          · exact Rds.dropI HrB.out hjk hk0
          · have e0 : o = [] := List.eq_nil_of_length_eq_zero (by have := Hol.out; omega)
            have hj0 : j = 0 := by omega
            subst hj0
            rw [List.drop_zero]
            exact HrB.out)
        rw [Nat.zero_add] at Hr2
      all_goals
        go_wp2_with (first | (at_builtin; refine wpList_appS (E := eI) rfl _ _ 29 rfl Try.underlying29 hi hz0 hz1 hz2 rfl (by decide) rfl rfl HR4.out Hr2.out ?b1 ?b2 ?b3 ?_))
        case b1 => rw [List.length_append, Hlt.out, Hld.out]; unfold maxLen; (try simp) <;> omega
        case b2 => rw [List.length_append, Hlt.out, Hld.out]; (try simp) <;> omega
        case b3 => omega
        intro v5 w5 hR5 hg5
        have hs5 := Hs4.out.kept hg5.1 (fun q hq => by have := (HR4.out.lt q hq).1; omega)
        have hb5 := Below.grown Hb4.out hg5.1 (by omega) (fun q hq => by have := (HR4.out.lt q hq).1; omega)
        have ho5 := orderP_put Ho.out j
        have hR6 : OwnInt64S (w.heap.size + 1) w5 v5 (o.take j ++ (k : Int) :: o.drop j) := by
          have h := hR5.mono (base' := w.heap.size + 1) (by omega)
          first | exact h | (rw [List.append_assoc] at h; exact h)
        obtain ⟨g5, cap5, hv5, _, _⟩ := hR6.addr (by have := ho5.1; omega)
        rw [ho5.1] at hv5
        subst hv5
        have HR6 := Lib.hid hR6
        have Hs5 := Lib.hid hs5
        have Hb5 := Lib.hid hb5
        have Ho5 := Lib.hid ho5
        clear hR5 hg5 hs5 hb5 ho5 hR6
        go_wp2
        go_roundw
        case rel => exact ⟨k + 1, g5, cap5, _, by omega, by go_num, rfl, Ho5, HR6.out, Hs5.out.mono (by omega), Hb5.out⟩
        case measure => simp [intOf]; omega
    · obtain rfl : k = n := by omega
      go_wp2
      go_ret
      exact ⟨⟨_, o, rfl, hown.mono (by omega), Ho.out⟩, hb⟩
end Go.Proofs.Ytpnmcgjfemaleaa
