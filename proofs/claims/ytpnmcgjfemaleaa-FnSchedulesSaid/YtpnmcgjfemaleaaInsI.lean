/- Inserting jobs: the program's. No condition. -/
import Derived.Test.YtpnmcgjfemaleaaInsO
import Derived.Test.YtpnmcgjfemaleaaOrd
import Derived.Test.YtpnmcgjfemaleaaQB
namespace Go.Proofs.Ytpnmcgjfemaleaa
open Go.ChangeShapes Go.WideShapes Go.ChangeAt Go.RowKit Go.Sort
set_option linter.unusedVariables false
set_option maxRecDepth 100000
/-- the order so far holds k jobs -/
theorem insO_facts {xss : List (List Int)} {r : List Int} {n k : Nat} (hp : r.Perm (rangeI n)) (hk : k ≤ n) : (insO xss [] (r.take k)).length = k ∧ ∀ z ∈ insO xss [] (r.take k), 0 ≤ z ∧ z < (n : Int) := by
  have h := insO_perm xss (r.take k) []
  rw [List.append_nil] at h
  have hl : r.length = n := by rw [hp.length_eq]; simp [rangeI]
  refine ⟨by rw [h.length_eq, List.length_take]; omega, fun z hz => ?_⟩
  exact rangeI_mem.1 (hp.mem_iff.1 (List.mem_of_mem_take (h.mem_iff.1 hz)))
theorem insB_facts {xss : List (List Int)} {o : List Int} {y : Int} {n q : Nat} (ho : ∀ z ∈ o, 0 ≤ z ∧ z < (n : Int)) (hy : 0 ≤ y ∧ y < (n : Int)) (hq : 0 < q) : (insB xss o y q).length = o.length + 1 ∧ ∀ z ∈ insB xss o y q, 0 ≤ z ∧ z < (n : Int) := by
  have h := (insB_perm xss o y q).resolve_left (fun h => by omega)
  refine ⟨by rw [h.length_eq]; rfl, fun z hz => ?_⟩
  rcases List.mem_cons.1 (h.mem_iff.1 hz) with rfl | hz
  · exact hy
  · exact ho z hz
theorem putAt_facts {o : List Int} {y : Int} {n q : Nat} (ho : ∀ z ∈ o, 0 ≤ z ∧ z < (n : Int)) (hy : 0 ≤ y ∧ y < (n : Int)) : (putAt o y q).length = o.length + 1 ∧ ∀ z ∈ putAt o y q, 0 ≤ z ∧ z < (n : Int) := by
  have h := putAt_perm o y q
  refine ⟨by rw [h.length_eq]; rfl, fun z hz => ?_⟩
  rcases List.mem_cons.1 (h.mem_iff.1 hz) with rfl | hz
  · exact hy
  · exact ho z hz
set_option maxHeartbeats 1000000 in
theorem InsertOrder_c {xss : List (List Int)} {v : Value} {w : World} {A : Nat} (ha : RdInt64SS A w v xss) :
    Calls Try.prog 30 #[v] w fun e w' => ∃ u0, e = .returned (.tuple #[u0, .int .i64 (IOC xss)]) ∧ OwnInt64S w.heap.size w' u0 (IOR xss) ∧ Below w.heap.size w w' := by
  have ha1 := ha.tight
  have hxle := ha.le
  obtain ⟨ao, cap, rfl, hao⟩ := ha1.open
  obtain ⟨n, hn⟩ : ∃ n, n = xss.length := ⟨_, rfl⟩
  rw [← hn] at ha1 hao hxle ⊢
  obtain ⟨W0, hW0⟩ : ∃ W0, W0 = w.alloc (.cells #[.slice ao n cap] 22) := ⟨_, rfl⟩
  have hb0 : Below w.heap.size w W0 := by rw [hW0]; exact (Below.refl _ _).alloc (Nat.le_refl _) _
  have hB0 : Box W0 w.heap.size [.slice ao n cap] := by rw [hW0]; exact Box.new w [.slice ao n cap] _
  have ha0 := ha1.below hb0 (Nat.le_refl _)
  have HW0 := Lib.hid hW0
  have Ha := Lib.hid ha1
  have Ha0 := Lib.hid ha0
  have Hb0 := Lib.hid hb0
  have HB0 := Lib.hid hB0
  have Hn := Lib.hid hn
  cases hv : validJ xss with
  | false =>
    have e1 : IOC xss = 1 := by unfold IOC; rw [hv]; rfl
    rw [IOR_no (by rw [e1]; decide), e1]
    have Hv := Lib.hid hv
    clear hv e1 ha ha1 hao hW0 hb0 hB0 ha0 hn
    go_enter Try.func30, Try.ntmps30
    go_wp2_with fail
    rw [← HW0.out]
    with_reducible refine (ValidJobs_c Ha0.out).mono ?_
    rw [Hv.out]
    rintro e w' ⟨rfl, rfl⟩
    go_wp2
    go_ret2
    exact ⟨_, rfl, Own.nil _ _ _ _, Hb0.out⟩
  | true =>
    obtain ⟨hn8, hm4, hrows⟩ := validJ_parts hv
    rw [← hn] at hn8
    have e1 : IOC xss = 0 := by unfold IOC; rw [if_pos hv]
    rw [e1, IOR_yes hv]
    obtain ⟨b, off, rfl, hlt, hcc⟩ := hao (by omega)
    clear hcc
    have c0 := hB0.cell 0 _ rfl
    have Hv := Lib.hid hv
    have Hrows := Lib.hid hrows
    have Hm4 := Lib.hid hm4
    obtain ⟨B, hBw⟩ : ∃ B, B = w.heap.size := ⟨_, rfl⟩
    have hBW : W0.heap.size = B + 1 := by rw [hW0, hBw]; simp
    rw [← hBw] at c0 hB0
    have HB1 := Lib.hid hB0
    have HBW := Lib.hid hBW
    have HBw := Lib.hid hBw
    clear hv e1 ha ha1 hao hW0 ha0 hrows hm4 hn hb0 hB0 HB0 hBW hBw
    go_enter Try.func30, Try.ntmps30
    go_wp2_with fail
    rw [← HW0.out, ← HBw.out]
    with_reducible refine (ValidJobs_c Ha0.out).mono ?_
    rw [Hv.out]
    rintro e w' ⟨rfl, rfl⟩
    go_wp2_with fail
    with_reducible refine (allJobs_c Ha0.out (by have := Hn.out; omega)).mono ?_
    rintro e w1 ⟨u1, rfl, hu1, hbd1⟩
    have hs01 := hbd1.size
    have hB1 := HB1.out.on hbd1
    have hb1 := Hb0.out.trans (hbd1.mono Hb0.out.size)
    rw [← Hn.out] at hu1
    have hcmp : CmpI 72 #[.pointer (some ⟨B, 0, none⟩)] (fun x y => cmpZ (sumF xss y) (sumF xss x)) (n - 1 + 1) u1.ownBlock w1 := by
      intro W hg i j hi hj
      have hbW := hb1.grown hg hb1.size (fun k hk => Nat.le_trans Hb0.out.size (hu1.lt k hk).1)
      exact cmpSum ((hB1.kept hg (fun hh => by have h5 := (hu1.lt _ hh).1; have := HBW.out; omega)).cell 0 _ rfl) (Ha.out.below hbW (Nat.le_refl _)) Hrows.out Hm4.out.2 (by omega) (by omega)
    have hst := stable_c (enters_of Try.func72 (by kernel_rfl) rfl) hu1 (by simp [rangeI]; omega) (L := n - 1) (fun x hx => by have := rangeI_mem.1 hx; omega) hcmp
    have Hst := Lib.hid hst
    have Hu1 := Lib.hid hu1
    have Hb1 := Lib.hid hb1
    have HB2 := Lib.hid hB1
    clear hcmp hst hu1 hbd1 hb1 hB1 HB1 c0
    go_wp2_with fail
    with_reducible refine Hst.out.mono ?_
    rintro e w2 ⟨rfl, r, hins, hv1, hg1⟩
    have hperm : r.Perm (rangeI n) := by have := hins.perm; rwa [List.append_nil] at this
    have hrl : r.length = n := by rw [hperm.length_eq, rangeI_length]
    rw [Hn.out] at hins
    have hr := IOS_cmp hins
    have Hr := Lib.hid hr
    have hb2 := Hb1.out.grown hg1 Hb1.out.size (fun k hk => Nat.le_trans Hb0.out.size (Hu1.out.lt k hk).1)
    have hB3 := HB2.out.kept hg1 (fun hh => by have h5 := (Hu1.out.lt _ hh).1; have := HBW.out; omega)
    obtain ⟨a1, c1, rfl⟩ := hv1.shape
    rw [hrl] at hv1 ⊢
    have Hv1 := Lib.hid hv1.rds
    have Hb2 := Lib.hid hb2
    have HB3 := Lib.hid hB3
    have Hperm := Lib.hid hperm
    have Hrl := Lib.hid hrl
    have hB3l := hB3.lt
    have HR0 : Hid (OwnInt64S w2.heap.size (w2.alloc (.cells #[] 2)) (.slice (some ⟨w2.heap.size, 0, none⟩) 0 0) ([] : List Int)) := Lib.hid (Own.lit (E := eI) (xs := []) (cs := #[]) (Nat.le_refl _) rfl rfl (by decide) (fun x hx => by cases hx))
    have HBL : Hid (Below w2.heap.size w2 (w2.alloc (.cells #[] 2))) := Lib.hid ((Below.refl _ _).alloc (Nat.le_refl _) _)
    clear hins hr hg1 hb2 hB3 hv1 hperm hrl Hst Hu1 Hb1 HB2
    go_wp2
    go_loopw [5, 22] (fun ov i wr => ∃ k : Nat, k ≤ n ∧ i = .int .i64 k ∧ OwnInt64S w2.heap.size wr ov (insO xss [] (r.take k)) ∧ Below w2.heap.size w2 wr) (fun _ i _ => n - (intOf i).toNat)
    case atStart => exact ⟨0, Nat.zero_le _, rfl, HR0.out, HBL.out⟩
    case round =>
      obtain ⟨k, hk, rfl, hO, hb⟩ := hrel
      clear HR0 HBL
      have hf := insO_facts (xss := xss) Hperm.out hk
      by_cases hkn : k < n
      · obtain ⟨ao', rc', hsh, hin⟩ := RdI.open (Hv1.out.below hb (Nat.le_refl _))
        injection hsh with hs1 hs2 hs3
        subst hs1; subst hs3
        obtain ⟨b2, off2, rfl, hlt2, hc2⟩ := hin (by have := Hrl.out; omega)
        obtain ⟨y, hy, hcy, hby⟩ := hc2 k (by have := Hrl.out; omega)
        have hyn := rangeI_mem.1 (Hperm.out.mem_iff.1 (List.mem_of_getElem? hy))
        have hns := insO_snoc xss y (r.take k) []
        rw [← take_snoc hy, hf.1] at hns
        obtain ⟨o, ho⟩ : ∃ o, o = insO xss [] (r.take k) := ⟨_, rfl⟩
        rw [← ho] at hO hf hns
        obtain ⟨oa, oc, rfl⟩ := hO.shape
        rw [hf.1] at hO ⊢
        have Hns := Lib.hid hns
        have HO := Lib.hid hO
        have Hf := Lib.hid hf
        have Hyn := Lib.hid hyn
        have Hb := Lib.hid hb
        have Hby : Hid (eI.ok y) := Lib.hid hby
        have hsz := hb.size
        have HOa := Lib.hid (hO.alloc (.cells #[] 2))
        have HBa : Hid (OwnInt64S w2.heap.size (wr.alloc (.cells #[] 2)) (.slice (some ⟨wr.heap.size, 0, none⟩) 0 0) ([] : List Int)) := Lib.hid (Own.lit (E := eI) (xs := []) (cs := #[]) hsz rfl rfl (by decide) (fun x hx => by cases hx))
        have HBb := Lib.hid (hb.alloc hsz (.cells #[] 2))
        clear hns hO hf hyn hb hby hin hc2 hy ho hs2
        go_wp2
        clear hcy
        go_loopw [8, 30] (fun bv i wr => ∃ q : Nat, q ≤ k + 1 ∧ i = .int .i64 q ∧ OwnInt64S w2.heap.size wr (.slice oa k oc) o ∧ OwnInt64S w2.heap.size wr bv (insB xss o y q) ∧ Below w2.heap.size w2 wr) (fun _ i _ => k + 1 - (intOf i).toNat)
        case atStart => exact ⟨0, Nat.zero_le _, rfl, HOa.out, HBa.out, HBb.out⟩
        case round =>
          obtain ⟨q, hq, rfl, hO, hB, hb⟩ := hrel
          clear HOa HBa HBb HO Hb
          by_cases hqk : q < k + 1
          · have HO := Lib.hid hO
            have HB := Lib.hid hB
            have Hb := Lib.hid hb
            clear hO hB hb
            go_wp2_with fail
            with_reducible refine (copyInts_c HO.out.rds (by have := Hf.out.1; omega)).mono ?_
            rintro e w3 ⟨u3, rfl, hu3, hb3⟩
            have Hu3 := Lib.hid hu3
            have Hb3 := Lib.hid hb3
            clear hu3 hb3
            go_wp2_with fail
            with_reducible refine (insert_c (Hu3.out.alloc _) (Nat.le_trans Hb3.out.size (by simp)) (by have := Hf.out.1; omega) Hby.out (heap_alloc_new w3 _) (fun g hg => by have := (Hu3.out.lt g hg).2; omega) (by have := Hf.out.1; omega)).mono ?_
            rintro e w4 ⟨u4, rfl, hu4, hg4⟩
            have hu3l := Hu3.out.lt
            have hb4 := hg4.alloc.below Hb3.out Hb3.out.size (fun z hz => (hu3l z hz).1)
            have hO4 := HO.out.below hb4 (Nat.le_refl _)
            have hB4 := HB.out.below hb4 (Nat.le_refl _)
            have hbb := Hb.out.trans (hb4.mono Hb.out.size)
            have hbw := Hb2.out.trans (hbb.mono Hb2.out.size)
            have hj4 := Ha.out.below hbw (Nat.le_refl _)
            have hc4 := (hbb.cell (p := ⟨B, 0, none⟩) hB3l).trans (HB3.out.cell 0 _ rfl)
            have hs4 : w.heap.size ≤ w4.heap.size := hbw.size
            have hpf := putAt_facts (q := q) Hf.out.2 Hyn.out
            have hiu := insB_succ xss o y q
            have hbf := fun h => insB_facts (xss := xss) (q := q) Hf.out.2 Hyn.out h
            have hbz : q = 0 → insB xss o y q = [] := fun h => by rw [h]; rfl
            have hu5 := hu4.mono (show w2.heap.size ≤ wr.heap.size from Hb.out.size)
            generalize hP : putAt o y q = P at hu5 hpf hiu
            generalize hBS : insB xss o y q = bs at hB4 hbf hiu hbz
            rw [Hf.out.1] at hpf hbf
            obtain ⟨nb, hnb⟩ : ∃ nb, nb = bs.length := ⟨_, rfl⟩
            obtain ⟨ba, bc, hbe⟩ := hB4.shape
            rw [← hnb] at hbe
            subst hbe
            obtain ⟨ua, uc, hue⟩ := hu5.shape
            rw [hpf.1] at hue
            subst hue
            have Hnb := Lib.hid hnb
            have HU := Lib.hid hu5
            have HBs := Lib.hid hB4
            have HO4 := Lib.hid hO4
            have Hbb := Lib.hid hbb
            have Hpf := Lib.hid hpf
            have Hbf := Lib.hid hbf
            have Hbz := Lib.hid hbz
            have Hiu := Lib.hid hiu
            have hcon1 := fun d os => spanOf_c (w := grow (redrawn w4 d) os) (A := w.heap.size) (B := w4.heap.size) (o := P) (Nat.le_trans hs4 (below_regrown w4 d os).size) (below_regrown w4 d os).size (hj4.below (below_regrown w4 d os) hs4) (Rds.regrown HU.out.rds (Nat.le_refl _) d os) Hv.out (fun i hi => by have := Hpf.out.2 i hi; rwa [Hn.out] at this) (by have := Hpf.out.1; omega) (fun h => by have := Hpf.out.1; rw [h] at this; simp at this)
            generalize hsp : spanJ xss P = sp at hcon1
            have Hsp := Lib.hid hsp
            have Hcon1 := Lib.hid hcon1
            have f0 := cell_regrown hc4
            have hns : nb ≤ 8 := by
              rcases Nat.eq_zero_or_pos q with h0 | h0
              · have := hbz h0; rw [hnb, this]; decide
              · have := (hbf h0).1; omega
            clear hu4 hg4 hu3l hb4 hO4 hB4 hbb hbw hpf hbf hbz hiu hu5 hnb hcon1 hsp hP hBS HO HB Hu3 Hb3
            by_cases h0 : nb = 0
            · have t0 : ((nb : Int) == 0) = true := by simp; omega
              have Hbs : Hid (bStep xss bs P = P) := Lib.hid (by unfold bStep; rw [if_pos (.inl (List.eq_nil_of_length_eq_zero (by have := Hnb.out; omega)))])
              clear h0
              go_wp2
              refine wp_region_quiet_below (by kernel_rfl) (by kernel_rfl) ?_
              repeat ((with_reducible refine wpQuiet_step (fun K hK => ?_)); go_simp; first | ((with_reducible refine hK _ ?_); clear hK K) | (apply Exists.intro; refine ⟨fun _ => ?_, hK _ ?_⟩; ((fail)); clear hK K))
              refine wpQuiet_nil ?_
              intro _ hw'
              obtain ⟨⟨dq, osq⟩, hw''⟩ := hw'
              subst hw''
              have hbq := below_regrown w4 dq osq
              generalize grow (redrawn w4 dq) osq = wq at hbq ⊢
              have HU2 := Lib.hid (HU.out.below hbq (Nat.le_refl _))
              have HO5 := Lib.hid (HO4.out.below hbq (Nat.le_refl _))
              have Hb5 := Lib.hid (Hbb.out.trans (hbq.mono Hbb.out.size))
              clear f0 hbq hc4 hj4
              go_wp2
              go_roundw
              case rel => exact ⟨q + 1, by omega, by go_num, HO5.out, by rw [Hiu.out, Hbs.out]; exact HU2.out, Hb5.out⟩
              case measure => simp [intOf]; omega
            · have t0 : ((nb : Int) == 0) = false := by simp; omega
              have hne : bs ≠ [] := fun h => h0 (by have := Hnb.out; rw [h] at this; exact this)
              have hq0 : 0 < q := Nat.pos_of_ne_zero fun h => hne (Hbz.out h)
              have hbi := Hbf.out hq0
              have hcon2 := fun d os => spanOf_c (w := grow (redrawn w4 d) os) (A := w.heap.size) (B := w4.heap.size) (o := bs) (Nat.le_trans hs4 (below_regrown w4 d os).size) (below_regrown w4 d os).size (hj4.below (below_regrown w4 d os) hs4) (Rds.regrown HBs.out.rds (Nat.le_refl _) d os) Hv.out (fun i hi => by have := hbi.2 i hi; rwa [Hn.out] at this) (by have := Hnb.out; omega) hne
              generalize hsb : spanJ xss bs = sb at hcon2
              have Hsb := Lib.hid hsb
              have Hcon2 := Lib.hid hcon2
              have Hne := Lib.hid hne
              clear hcon2 hsb hbi h0 hne
              by_cases h1 : sp < sb
              · have Hbs : Hid (bStep xss bs P = P) := Lib.hid (by unfold bStep; rw [if_pos (.inr (by rw [Hsp.out, Hsb.out]; exact h1))])
                have t2 : decide (sp < sb) = true := decide_eq_true h1
                go_wp2
                refine wp_region_quiet_below (by kernel_rfl) (by kernel_rfl) ?_
                repeat ((with_reducible refine wpQuiet_step (fun K hK => ?_)); go_simp; first | ((with_reducible refine hK _ ?_); clear hK K) | (apply Exists.intro; refine ⟨fun _ => ?_, hK _ ?_⟩; ((first | (go_at_call 60; with_reducible exact qb_below (Hcon1.out _ _)) | (go_at_call 60; with_reducible exact qb_below (Hcon2.out _ _)))); clear hK K))
                refine wpQuiet_nil ?_
                intro _ hw'
                obtain ⟨⟨dq, osq⟩, hw''⟩ := hw'
                subst hw''
                have hbq := below_regrown w4 dq osq
                generalize grow (redrawn w4 dq) osq = wq at hbq ⊢
                have HU2 := Lib.hid (HU.out.below hbq (Nat.le_refl _))
                have HO5 := Lib.hid (HO4.out.below hbq (Nat.le_refl _))
                have Hb5 := Lib.hid (Hbb.out.trans (hbq.mono Hbb.out.size))
                clear f0 hbq hc4 hj4
                go_wp2
                go_roundw
                case rel => exact ⟨q + 1, by omega, by go_num, HO5.out, by rw [Hiu.out, Hbs.out]; exact HU2.out, Hb5.out⟩
                case measure => simp [intOf]; omega
              · have Hbs : Hid (bStep xss bs P = bs) := Lib.hid (by unfold bStep; rw [if_neg (by rw [Hsp.out, Hsb.out]; exact fun h => h.elim (fun h => Hne.out h) h1)])
                have t2 : decide (sp < sb) = false := decide_eq_false h1
                clear h1
                go_wp2
                refine wp_region_quiet_below (by kernel_rfl) (by kernel_rfl) ?_
                repeat ((with_reducible refine wpQuiet_step (fun K hK => ?_)); go_simp; first | ((with_reducible refine hK _ ?_); clear hK K) | (apply Exists.intro; refine ⟨fun _ => ?_, hK _ ?_⟩; ((first | (go_at_call 60; with_reducible exact qb_below (Hcon1.out _ _)) | (go_at_call 60; with_reducible exact qb_below (Hcon2.out _ _)))); clear hK K))
                refine wpQuiet_nil ?_
                intro _ hw'
                obtain ⟨⟨dq, osq⟩, hw''⟩ := hw'
                subst hw''
                have hbq := below_regrown w4 dq osq
                generalize grow (redrawn w4 dq) osq = wq at hbq ⊢
                have HU2 := Lib.hid (HBs.out.below hbq (Nat.le_refl _))
                have HO5 := Lib.hid (HO4.out.below hbq (Nat.le_refl _))
                have Hb5 := Lib.hid (Hbb.out.trans (hbq.mono Hbb.out.size))
                clear f0 hbq hc4 hj4
                go_wp2
                go_roundw
                case rel => exact ⟨q + 1, by omega, by go_num, HO5.out, by rw [Hiu.out, Hbs.out]; exact HU2.out, Hb5.out⟩
                case measure => simp [intOf]; omega
          · obtain rfl : q = k + 1 := by omega
            have HB := Lib.hid hB
            have Hb := Lib.hid hb
            clear hO hB hb
            go_wp2
            go_roundw
            case rel => exact ⟨k + 1, by omega, by go_num, by rw [Hns.out]; exact HB.out, Hb.out⟩
            case measure => simp [intOf]; omega
      · obtain rfl : k = n := by omega
        rw [List.take_of_length_le (by have := Hrl.out; omega)] at hO
        have HO := Lib.hid (hO.mono (Nat.le_trans Hb2.out.size (Nat.le_refl _)))
        have Hb := Lib.hid (Hb2.out.trans (hb.mono Hb2.out.size))
        clear hO hb hf
        go_wp2
        go_ret2
        exact ⟨_, rfl, by rw [← Hr.out]; exact HO.out, Hb.out⟩
end Go.Proofs.Ytpnmcgjfemaleaa
