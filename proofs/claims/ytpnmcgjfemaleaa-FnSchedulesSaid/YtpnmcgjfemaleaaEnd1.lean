/- The times at which jobs end: the reference's walk. No condition. -/
import Derived.Test.YtpnmcgjfemaleaaSchP
import Derived.Test.YtpnmcgjfemaleaaMatA
import Derived.StillTailTactics
namespace Go.Proofs.Ytpnmcgjfemaleaa
open Go.ChangeShapes Go.WideShapes Go.ChangeAt Go.RowKit
set_option linter.unusedVariables false
set_option maxRecDepth 100000
theorem Own.cellAtI {e : TypeId} {base g n cap j : Nat} {w : World} {xs : List Int} {x : Int} (h : Own eI e base w (.slice (some ⟨g, 0, none⟩) n cap) xs) (hn : n = xs.length) (hx : xs[j]? = some x) : w.cell? ⟨g, j, none⟩ = some (.int .i64 x) := by
  subst hn
  have hj := at_lt hx
  have := h.ints.cellAt j (by omega)
  rw [this]
  simp [hx]
theorem zeros_own {e : TypeId} {base m cap : Nat} {g : Nat} {w : World} (h : w.ownsRow base e 1 (.slice (some ⟨g, 0, none⟩) m cap) m (madeCells #[.int .i64 0] m).toList) : Own eI e base w (.slice (some ⟨g, 0, none⟩) m cap) (cf (fun _ => 0) m) := by
  have hz : cf (fun _ => 0) m = List.replicate m 0 := by
    clear h
    induction m with
    | zero => rfl
    | succ m ih => rw [cf_snoc, ih, List.replicate_succ']
  rw [hz]
  rw [toList_madeCells_one] at h
  refine Own.ofInts ?_ ?_
  · rw [List.length_replicate, List.map_replicate]; exact h
  · intro x hx
    rw [(List.mem_replicate.1 hx).2]
    show -9223372036854775808 ≤ (0 : Int) ∧ (0 : Int) ≤ 9223372036854775807
    omega
/-- the first m of a function, 0 behind -/
def cutF (m : Nat) (g : Nat → Int) : Nat → Int := fun j => if j < m then g j else 0
theorem cutF_upd (m : Nat) (g : Nat → Int) (k : Nat) (v : Int) (h : k < m) : updI (cutF m g) k v = cutF m (updI g k v) := by
  funext j
  unfold updI cutF
  by_cases e : j = k
  · subst e; simp [h]
  · simp [e]
theorem cutF_at {m : Nat} {g : Nat → Int} {j : Nat} (h : j < m) : cutF m g j = g j := if_pos h
theorem midF_all (g x : Nat → Int) (m : Nat) : cutF m (midF g x m) = cutF m (endF g x) := by
  funext j
  unfold cutF midF
  split <;> rfl
theorem cf_cut (g : Nat → Int) (m : Nat) : cf (cutF m g) m = cf g m := cf_congr fun k hk => cutF_at hk
theorem rowI_jobI (xss : List (List Int)) {i : Nat} {x : List Int} (h : xss[i]? = some x) : jobI xss (i : Int) = x := by
  unfold jobI
  rw [Int.toNat_natCast, List.getD_eq_getElem?_getD, h]
  rfl
set_option maxHeartbeats 1000000 in
theorem l21Ends_c {xss : List (List Int)} {o : List Int} {v u : Value} {w : World} {A B : Nat} (hA : A ≤ w.heap.size) (hB' : B ≤ w.heap.size) (ha : RdInt64SS A w v xss) (ho : RdI B w u o)
    (hv : validJ xss = true) (hr : ∀ i ∈ o, 0 ≤ i ∧ i < xss.length) (hl : o.length ≤ 8) :
    Calls Try.prog 76 #[v, u] w fun e w' => ∃ r, e = .returned r ∧ OwnInt64SS w.heap.size w' r (endsJ xss o) ∧ Below w.heap.size w w' := by
  obtain ⟨hn8, hm4, hrows⟩ := validJ_parts hv
  obtain ⟨ao, cap, rfl, hao⟩ := ha.open
  obtain ⟨oo, oc, rfl, hoo⟩ := RdI.open ho
  obtain ⟨n, hn⟩ : ∃ n, n = xss.length := ⟨_, rfl⟩
  obtain ⟨m, hm⟩ : ∃ m, m = colsJ xss := ⟨_, rfl⟩
  obtain ⟨L, hL⟩ : ∃ L, L = o.length := ⟨_, rfl⟩
  have hends : endsJ xss o = rowsJ xss o m L := by unfold endsJ; rw [← hm, ← hL]
  rw [hends]
  rw [← hn] at hn8 hr ⊢
  rw [← hm] at hm4
  rw [← hL] at hl hoo ⊢
  obtain ⟨b, off, rfl, hlt, hc⟩ := hao (by omega)
  have hjb := jobF_bound (xss := xss) (fun r h => (hrows r h).2)
  have hfb := fun o' k hk => freeJ_bound (xss := xss) (fun r h => (hrows r h).2) o' (k := k) hk
  have Hn := Lib.hid hn
  have Hm := Lib.hid hm
  have HL := Lib.hid hL
  have Hr := Lib.hid hr
  have Hc := Lib.hid hc
  have Hoo := Lib.hid hoo
  have Hrows := Lib.hid hrows
  have Hjb := Lib.hid hjb
  have Hfb := Lib.hid hfb
  obtain ⟨hm1, hm2⟩ := hm4
  obtain ⟨i0, hi, hz0, hz1, hz2⟩ := info_parts Try.infoInt64
  obtain ⟨i1, hi1, hy0, hy1, hy2⟩ := info_parts Try.infoSlI
  have HO : Hid (Own eS 29 w.heap.size (w.alloc (.cells #[] 29)) (.slice (some ⟨w.heap.size, 0, none⟩) 0 0) []) := Lib.hid (Own.lit (E := eS) (xs := []) (cs := #[]) (Nat.le_refl _) rfl rfl (by decide) (fun x hx => by cases hx))
  have HB0 : Hid (Below w.heap.size w (w.alloc (.cells #[] 29))) := Lib.hid ((Below.refl _ _).alloc (Nat.le_refl _) _)
  clear hn hm hL hr hc hoo hrows hjb hfb hao ha ho hv hends
  go_enter Try.func76, Try.ntmps76
  go_wp2_with (first | (at_make; refine wpList_make_full _ rfl _ _ 29 rfl w.heap.size 2 i0 (.int .i64 0) 1 Try.underlying29 hi hz0 hz1 _ _ _ _ 4 rfl rfl rfl rfl ?b1 ?b2 ?b3 ?_))
  case b1 => first | omega | (rw [hz2]; omega)
  case b2 => unfold maxLen; omega
  case b3 => simp; try omega
  intro w1 hown hgr
  have hF0 : OwnInt64S (w.heap.size + 1) w1 (.slice (some ⟨w.heap.size + 1, 0, none⟩) 4 4) (cf (fun _ => 0) 4) := by
    have h1 := zeros_own hown
    refine ⟨⟨h1.1.1, ?_⟩, h1.2⟩
    rcases h1.1.2 with ⟨hx, _⟩ | ⟨g, cp, cur, hx, hbg, rest⟩
    · cases hx
    · have : g = w.heap.size + 1 := by cases hx; rfl
      exact .inr ⟨g, cp, cur, hx, by omega, rest⟩
  have hsz1 : w.heap.size + 1 < w1.heap.size := (hF0.lt _ rfl).2
  have hO1 := HO.out.kept hgr (.inr (by intro h; cases h))
  have hb1 : Below w.heap.size w w1 := HB0.out.grown hgr (by simp) (fun k hk => by cases hk)
  have hB1 : BldG eI 2 29 w.heap.size (w.heap.size + 2) w1.heap.size w1 (.slice (some ⟨w.heap.size, 0, none⟩) 0 0) (rowsJ xss o m 0) := BldG.empty (B := w.heap.size) rfl hO1 (by omega)
  have hF1 : OwnInt64S (w.heap.size + 1) w1 (.slice (some ⟨w.heap.size + 1, 0, none⟩) 4 4) (cf (cutF m (freeJ xss (o.take 0))) 4) := by
    have e : cutF m (freeJ xss (o.take 0)) = fun _ => 0 := by funext j; unfold cutF; split <;> rfl
    rw [e]; exact hF0
  have HB1 := Lib.hid hB1
  have HF1 := Lib.hid hF1
  have Hb1 := Lib.hid hb1
  clear hown hgr hF0 hO1 hb1 hB1 hF1 HO HB0
  go_wp2
  go_loopw [5, 7] (fun ov i wr => ∃ k : Nat, k ≤ L ∧ i = .int .i64 k ∧ BldG eI 2 29 w.heap.size (w.heap.size + 2) wr.heap.size wr ov (rowsJ xss o m k) ∧ ov.ownBlock ≠ some (w.heap.size + 1) ∧
    OwnInt64S (w.heap.size + 1) wr (.slice (some ⟨w.heap.size + 1, 0, none⟩) 4 4) (cf (cutF m (freeJ xss (o.take k))) 4) ∧ Below w.heap.size w wr) (fun _ i _ => L - (intOf i).toNat)
  case atStart => exact ⟨0, Nat.zero_le _, rfl, HB1.out, by simp [Value.ownBlock], HF1.out, Hb1.out⟩
  case round =>
    obtain ⟨k, hk, rfl, hB, hne, hF, hb⟩ := hrel
    clear HB1 HF1 Hb1 hsz1
    by_cases hkL : k < L
    · obtain ⟨ob, ooff, rfl, olt, oc1⟩ := Hoo.out (by omega)
      obtain ⟨ii, hii, hoc, _⟩ := oc1 k (by have := HL.out; omega)
      have hir := Hr.out ii (List.mem_of_getElem? hii)
      obtain ⟨ix, rfl⟩ : ∃ ix : Nat, ii = ix := ⟨ii.toNat, by omega⟩
      obtain ⟨x, ro, rc, hx, hcell, hrd⟩ := Hc.out ix (by have := Hn.out; omega)
      have hxr := Hrows.out x (List.mem_of_getElem? hx)
      have hxm : x.length = m := by rw [hxr.1, ← Hm.out]
      rw [hxm] at hcell hrd
      obtain ⟨ro', rc', hsh, hin⟩ := RdI.open hrd
      injection hsh with hs1 hs2 hs3
      subst hs1; subst hs3
      obtain ⟨b2, off2, rfl, hlt2, hc2⟩ := hin (by omega)
      have hix : (ix : Int) < n := by omega
      have hixn : (0 : Int) ≤ ix := by omega
      have htk := take_snoc hii
      have hjx : jobI xss (ix : Int) = x := rowI_jobI xss hx
      have hjf : ∀ j y, x[j]? = some y → jobF xss (ix : Int) j = y := fun j y hy => by unfold jobF; rw [hjx, atI_of hy]
      obtain ⟨g, hg⟩ : ∃ g, freeJ xss (o.take k) = g := ⟨_, rfl⟩
      obtain ⟨E, hE⟩ : ∃ E, endF g (jobF xss (ix : Int)) = E := ⟨_, rfl⟩
      have hgn : freeJ xss (o.take (k + 1)) = E := by rw [htk, freeJ_snoc, hg, hE]
      have hgb : ∀ j, j < 4 → 0 ≤ g j ∧ g j ≤ 32000 := fun j hj => by
        have := Hfb.out (o.take k) j hj
        rw [hg, List.length_take] at this
        omega
      have hEb : ∀ j, j < 4 → 0 ≤ E j ∧ E j ≤ 36000 := fun j hj => by
        rw [← hE]
        exact endF_bound4 (B := 32000) (by omega) hgb (Hjb.out ix) hj
      have hEe : ∀ j, E j = max (prevF E j) (g j) + jobF xss (ix : Int) j := fun j => by
        have := endF_eq g (jobF xss (ix : Int)) j
        rw [hE] at this
        exact this
      have hmid : ∀ j, updI (midF g (jobF xss (ix : Int)) j) j (E j) = midF g (jobF xss (ix : Int)) (j + 1) := fun j => by
        have := midF_succ g (jobF xss (ix : Int)) j
        rw [hE] at this
        exact this
      have hmid0 := midF_zero g (jobF xss (ix : Int))
      have hmidm : cutF m (midF g (jobF xss (ix : Int)) m) = cutF m E := by rw [midF_all, hE]
      rw [hg, ← hmid0] at hF
      obtain ⟨tp, htp⟩ : ∃ tp, tp = wr.heap.size := ⟨_, rfl⟩
      have hR0 : OwnInt64S tp (wr.alloc (.cells #[] 2)) (.slice (some ⟨wr.heap.size, 0, none⟩) 0 0) (cf E 0) := Own.lit (E := eI) (xs := []) (cs := #[]) (by omega) rfl rfl (by decide) (fun x hx => by cases hx)
      have hF0 := hF.alloc (.cells #[] 2)
      have hB0 : BldG eI 2 29 w.heap.size (w.heap.size + 2) tp (wr.alloc (.cells #[] 2)) u5 (rowsJ xss o m k) := by rw [htp]; exact hB.below ((Below.refl wr.heap.size wr).alloc (Nat.le_refl _) _) (Nat.le_refl _)
      have hb0 := hb.alloc hb.size (.cells #[] 2)
      have htp2 : w.heap.size + 2 ≤ tp := by have h9 : w.heap.size + 1 < wr.heap.size := (hF.lt _ rfl).2; omega
      have htp3 : tp ≤ (wr.alloc (.cells #[] 2)).heap.size := by simp; omega
      have Hoc := Lib.hid hoc
      have Hcell := Lib.hid hcell
      have Hc2 := Lib.hid hc2
      have Hxm := Lib.hid hxm
      have Hjf := Lib.hid hjf
      have Hgn := Lib.hid hgn
      have Hgb := Lib.hid hgb
      have HEb := Lib.hid hEb
      have HEe := Lib.hid hEe
      have Hmid := Lib.hid hmid
      have Hmidm := Lib.hid hmidm
      have Hne := Lib.hid hne
      have HR0 := Lib.hid hR0
      have HF0 := Lib.hid hF0
      have HB0 := Lib.hid hB0
      have Hb0 := Lib.hid hb0
      have Htp3 := Lib.hid htp3
      have Hxr := Lib.hid hxr
      have d1 := (hb0.cell (p := ⟨ob, ooff + k, none⟩) (show ob < w.heap.size from Nat.lt_of_lt_of_le olt.1 hB')).trans hoc
      have d2 := (hb0.cell (p := ⟨b, off + ix, none⟩) (by show b < w.heap.size; omega)).trans hcell
      clear hB hne hF hb hoc hcell hc2 hin hs2 hxm hjf hgn hgb hEb hEe hmid hmid0 hmidm hR0 hF0 hB0 hb0 htp3 hxr hii hir hx hrd htk hjx hE hg oc1 htp d1 d2
      go_wp2
      go_loopw [8, 9, 10] (fun rv av jv wr => ∃ j : Nat, j ≤ m ∧ jv = .int .i64 j ∧ av = .int .i64 (prevF E j) ∧ OwnInt64S tp wr rv (cf E j) ∧ BldG eI 2 29 w.heap.size (w.heap.size + 2) tp wr u5 (rowsJ xss o m k) ∧
        OwnInt64S (w.heap.size + 1) wr (.slice (some ⟨w.heap.size + 1, 0, none⟩) 4 4) (cf (cutF m (midF g (jobF xss (ix : Int)) j)) 4) ∧ Below w.heap.size w wr ∧ tp ≤ wr.heap.size) (fun _ _ jv _ => m - (intOf jv).toNat)
      case atStart => exact ⟨0, Nat.zero_le _, rfl, rfl, HR0.out, HB0.out, HF0.out, Hb0.out, Htp3.out⟩
      case round =>
        obtain ⟨j, hj, rfl, rfl, hR, hB, hF, hb, htp⟩ := hrel
        clear HR0 HB0 HF0 Hb0 Htp3
        have d1 := (hb.cell (p := ⟨ob, ooff + k, none⟩) (show ob < w.heap.size from Nat.lt_of_lt_of_le olt.1 hB')).trans Hoc.out
        have d2 := (hb.cell (p := ⟨b, off + ix, none⟩) (by show b < w.heap.size; omega)).trans Hcell.out
        by_cases hjm : j < m
        · obtain ⟨y, hy, hcy, _⟩ := Hc2.out j (by have := Hxm.out; omega)
          have d3 := (hb.cell (p := ⟨b2, off2 + j, none⟩) (by show b2 < w.heap.size; omega)).trans hcy
          have d4 : wr.cell? ⟨w.heap.size + 1, j, none⟩ = some (.int .i64 (g j)) := Own.cellAtI hF (by rw [cf_length]) (by rw [cf_get (by omega), cutF_at hjm, midF_at])
          have hyb := Hxr.out.2 y (List.mem_of_getElem? hy)
          have hev := HEe.out j
          rw [Hjf.out j y hy, ← maxI_eq] at hev
          obtain ⟨mv, hmv⟩ : ∃ mv, maxI (prevF E j) (g j) = mv := ⟨_, rfl⟩
          rw [hmv] at hev
          have heb := HEb.out j (by omega)
          have hgj := Hgb.out j (by omega)
          obtain ⟨ev, hev2⟩ : ∃ ev, E j = ev := ⟨_, rfl⟩
          have hmx := fun w' => l00Max_any (prevF E j) (g j) w'
          rw [hmv] at hmx
          have Hmx := Lib.hid hmx
          rw [hev2] at hev heb
          have z0 : IntKind.i64.wrap (mv + y) = ev := by rw [← hev]; exact IntWalk.i64_in _ (by omega)
          have Hev := Lib.hid hev
          have Hev2 := Lib.hid hev2
          have hok : eI.ok ev := by show -9223372036854775808 ≤ ev ∧ ev ≤ 9223372036854775807; omega
          have HR := Lib.hid hR
          have HB := Lib.hid hB
          have HF := Lib.hid hF
          have Hb := Lib.hid hb
          clear hy hcy hmv hmx hev hev2 hR hB hF hb
          go_wp2
          go_quiet ((go_at_call 53; exact quiet_at0 (Hmx.out _)))
          have hR2 : OwnInt64S tp (wr.drewN nq) u8 (cf E j) := HR.out.drewN nq
          have hB2 := HB.out.drewN nq
          have hF2 := HF.out.drewN nq
          have hb2 : Below w.heap.size w (wr.drewN nq) := Hb.out.drewNy nq
          have htp2' : tp ≤ (wr.drewN nq).heap.size := htp
          have d5 : (wr.drewN nq).cell? ⟨w.heap.size + 1, j, none⟩ = some (.int .i64 (g j)) := d4
          clear d1 d2 d3 d4 HR HB HF Hb htp z0
          generalize wr.drewN nq = w2 at hR2 hB2 hF2 hb2 htp2' d5 ⊢
          have hst := Own.storeI (x := ev) hF2 (by rw [cf_length]) (k := j) (by omega) hok
          obtain ⟨_, hfz, hF3, hg3⟩ := hst
          have hRk := hR2.kept hg3 (.inr (by intro hh; have := (hR2.lt _ hh).1; omega))
          have hBk := hB2.keep hg3 (by
            cases hob : u5.ownBlock with
            | none => exact .inl rfl
            | some q => exact .inr (by rw [← hob]; exact Hne.out)) (fun q hq => by cases hq; omega)
          have hbk := hb2.setCell (p := ⟨w.heap.size + 1, j, none⟩) (by show w.heap.size ≤ w.heap.size + 1; omega) (.int .i64 ev)
          have hszk : (w2.setCell ⟨w.heap.size + 1, j, none⟩ (.int .i64 ev)).heap.size = w2.heap.size := by simp
          have hFk : OwnInt64S (w.heap.size + 1) (w2.setCell ⟨w.heap.size + 1, j, none⟩ (.int .i64 ev)) (.slice (some ⟨w.heap.size + 1, 0, none⟩) 4 4) (cf (cutF m (midF g (jobF xss (ix : Int)) (j + 1))) 4) := by
            rw [cf_set, cutF_upd _ _ _ _ hjm, ← Hev2.out, Hmid.out] at hF3
            rw [← Hev2.out]
            exact hF3
          have hrd1 : RdI (w2.heap.size + 1) ((w2.setCell ⟨w.heap.size + 1, j, none⟩ (.int .i64 ev)).alloc (.cells #[.int .i64 ev] 2)) (.slice (some ⟨w2.heap.size, 0, none⟩) 1 1) [ev] := by
            have h1 := rds_one (E := eI) (e := 2) (w := w2.setCell ⟨w.heap.size + 1, j, none⟩ (.int .i64 ev)) (x := ev) (cs := #[.int .i64 ev]) hok rfl
            rw [hszk] at h1
            exact h1
          have Hrd1 := Lib.hid hrd1
          have HRk := Lib.hid hRk
          have HBk := Lib.hid hBk
          have HFk := Lib.hid hFk
          have Hbk := Lib.hid hbk
          have Hszk := Lib.hid hszk
          have hl1 : (cf E j).length = j := cf_length _ _
          have hw2 : w.heap.size ≤ w2.heap.size := hb2.size
          clear hR2 hB2 hF2 hb2 hF3 hg3 hRk hBk hFk hbk hszk hrd1
          go_wp2_with (first | (at_builtin; refine wpList_appS (E := eI) rfl _ _ 29 rfl Try.underlying29 hi hz0 hz1 hz2 rfl (by decide) rfl rfl (HRk.out.alloc _) Hrd1.out ?b1 ?b2 ?b3 ?_))
          case b1 => rw [hl1]; unfold maxLen; simp; omega
          case b2 => rw [hl1]; simp; omega
          case b3 => have := Hszk.out; simp; omega
          intro v' w3 hR5 hg
          have hg2 := hg.alloc
          have hrl := HRk.out.lt
          have hB5 := HBk.out.keep hg2.1 (HBk.out.sep (fun q hq => (hrl q hq).1)) (fun q hq => .inr (hrl q hq).1)
          have hF5 := HFk.out.kept hg2.1 (.inr (by intro hh; have h9 : tp ≤ w.heap.size + 1 := (hrl _ hh.symm).1; omega))
          have hb5 := hg2.below Hbk.out Hbk.out.size (fun q hq => by have := (hrl q hq).1; omega)
          have hsz5 : tp ≤ w3.heap.size := by have := hg2.1.size; have := Hszk.out; omega
          have hR6 : OwnInt64S tp w3 v' (cf E (j + 1)) := by rw [cf_snoc, Hev2.out]; exact hR5
          have HR6 := Lib.hid hR6
          have HB5 := Lib.hid hB5
          have HF5 := Lib.hid hF5
          have Hb5 := Lib.hid hb5
          clear hg hg2 hrl hB5 hF5 hb5 hR5 hR6 hl1 d5
          go_wp2
          go_roundw
          case rel => exact ⟨j + 1, by omega, by go_num, by rw [← Hev2.out]; rfl, HR6.out, HB5.out, HF5.out, Hb5.out, hsz5⟩
          case measure => simp [intOf]; omega
        · obtain rfl : j = m := by omega
          obtain ⟨rao, rcap, hsh⟩ := hR.shape
          rw [cf_length] at hsh
          subst hsh
          obtain ⟨hs, xh, hval, hokx, hlen, hO, hfn⟩ := hB.app hR (by omega) htp
          have hlen2 : hs.length = k := by rw [hlen, rowsJ_length]
          have hcells : (#[.slice rao j rcap] : Array Value) = (eS.cells xh).toArray := by rw [← hval]; rfl
          have hgn := Hgn.out
          have HO := Lib.hid hO
          have Hfn := Lib.hid hfn
          have HF := Lib.hid hF
          have Hb := Lib.hid hb
          have Hlen2 := Lib.hid hlen2
          have Hcells := Lib.hid hcells
          have hl0 := HO.out.lt
          have Hl0 := Lib.hid hl0
          clear hR hB hF hb hval hlen hO hfn hlen2 hcells hgn hl0
          go_wp2_with (first | (at_builtin; refine wpList_appS (E := eS) rfl _ _ 22 rfl Try.underlying22 hi1 hy0 hy1 hy2 rfl (by decide) rfl rfl (HO.out.alloc _) (rds_one (E := eS) (x := xh) hokx Hcells.out) ?b1 ?b2 ?b3 ?_))
          case b1 => rw [Hlen2.out]; unfold maxLen; simp; omega
          case b2 => rw [Hlen2.out]; simp; omega
          case b3 => have := Hb.out.size; simp; omega
          intro v' w3 hO5 hg
          have hg2 := hg.alloc
          have hB5 := Hfn.out w3 v' hO5 hg2
          have hF5 := HF.out.kept hg2.1 (.inr (by intro hh; exact Hne.out hh.symm))
          have hb5 := hg2.below Hb.out Hb.out.size (fun q hq => (Hl0.out q hq).1)
          have hne5 : v'.ownBlock ≠ some (w.heap.size + 1) := by
            rcases hg2.2 with h6 | ⟨q, h6, h7⟩
            · rw [h6]; exact Hne.out
            · rw [h6]; intro hh; cases hh; omega
          have hB6 : BldG eI 2 29 w.heap.size (w.heap.size + 2) w3.heap.size w3 v' (rowsJ xss o j (k + 1)) := by rw [rowsJ_succ, Hgn.out]; exact hB5
          have hF6 : OwnInt64S (w.heap.size + 1) w3 (.slice (some ⟨w.heap.size + 1, 0, none⟩) 4 4) (cf (cutF j (freeJ xss (o.take (k + 1)))) 4) := by rw [Hgn.out, ← Hmidm.out]; exact hF5
          have HB6 := Lib.hid hB6
          have HF6 := Lib.hid hF6
          have Hb5 := Lib.hid hb5
          have Hne5 := Lib.hid hne5
          clear hO5 hg hg2 hB5 hF5 hb5 hne5 hB6 hF6 d1 d2
          go_wp2
          go_roundw
          case rel => exact ⟨k + 1, by omega, by go_num, HB6.out, Hne5.out, HF6.out, Hb5.out⟩
          case measure => simp [intOf]; omega
    · obtain rfl : k = L := by omega
      have hM := hB.toM (by omega)
      go_wp2
      go_ret
      exact ⟨_, rfl, hM, hb⟩
end Go.Proofs.Ytpnmcgjfemaleaa
