/- Operators and posts: the drawing of inputs for PostFault. No condition. -/
import Derived.Test.YtfojfcmjoacbgaaOpD3
import Derived.Test.YtfojfcmjoacbgaaFillS2
namespace Go.Proofs.Ytfojfcmjoacbgaa
open Go.ChangeShapes Go.WideShapes Go.ChangeAt Go.RowKit
set_option linter.unusedVariables false
set_option maxRecDepth 100000
theorem below_grown {w w' : World} (h : Below w.heap.size w w') (row : Option Nat) : w.grownBy w' row := ⟨h.os, h.tape, h.output, h.size, fun k hk _ => h.block k hk⟩
theorem FPR_le8 (xs : List OperatorT) (ps : List Int) : (FPR xs ps).length ≤ 8 := by
  unfold FPR
  split
  · rename_i h
    have hm8 := (postsB_parts (PCode_ok h).2).1
    cases hl : leaves xs ps ps.length [] with
    | nil => simp
    | cons l ls =>
      have := leaves_len xs ps ps.length [] l (by rw [hl]; exact List.mem_cons_self ..)
      show l.length ≤ 8
      rw [this]
      simpa using hm8
  · simp
def LPO (B : Nat) (u v : Value) (xs : List OperatorT) (ps : List Int) (W : World) : Prop := Own eOperator 58 B W u xs ∧ Own eI 2 B W v ps
set_option maxHeartbeats 1000000 in
theorem DrawPostFault_any {w : World} {A : Nat} {v : Value} {cs : List Int} (ha : Rds eB A w v cs) (hA : A ≤ w.heap.size) :
    Calls Try.prog 42 #[v] w fun e w' => DrawnOII w.heap.size 9 9 10 e w' ∧ Below w.heap.size w w' := by
  obtain ⟨i0, hi, hz0, hz1, hz2⟩ := info_parts Try.infoInt64
  have Ha := Lib.hid ha
  obtain ⟨ao, cap, rfl⟩ := ha.shape
  clear ha
  go_enter Try.func42, Try.ntmps42
  go_wp2_with fail
  refine (l00From_any Ha.out hA).mono ?_
  rintro e w1 ⟨rfl, hs1, hb1⟩
  have hzz1 : w.heap.size < w1.heap.size := hs1.lt
  have Hb1 := Lib.hid hb1
  clear hb1
  obtain ⟨b, hb⟩ : ∃ b, w.heap.size = b := ⟨_, rfl⟩
  rw [hb] at hs1
  have Hb := Lib.hid hb
  have hbw : b ≤ w.heap.size ∧ w.heap.size ≤ b := by omega
  go_wp2_with fail
  refine (l22Bent_any hs1 (by omega)).mono ?_
  rintro e w2 ⟨⟨u, xs, rfl, ho2, hl2⟩, hs2, hg2⟩
  have hu2 : ∀ k, u.ownBlock = some k → k < w2.heap.size := fun k hk => (ho2.lt k hk).2
  have hz12 := hg2.size
  have hgr2 := grown_below Hb1.out hg2 (by omega) (by omega)
  clear hb
  go_wp2_with fail
  refine (l22DrawPosts_any hs2 (by omega)).mono ?_
  rintro e w3 ⟨⟨v, ps, rfl, ho3, hl3⟩, hs3, hg3⟩
  have hz23 := hg3.size
  have hgr3 := grown_below hgr2 hg3 (by omega) (by omega)
  have hx3 := ho2.keptS hg3 (by omega)
  have hv3 : ∀ k, v.ownBlock = some k → k < w3.heap.size := fun k hk => (ho3.lt k hk).2
  obtain ⟨H3, hH3⟩ : ∃ H3, H3 = w3.heap.size := ⟨_, rfl⟩
  have hHH : H3 ≤ w3.heap.size ∧ w3.heap.size ≤ H3 := by omega
  have HK : Hid (∀ (W W' : World) (row : Option Nat), W.grownBy W' row → (∀ k, row = some k → k = b ∨ H3 ≤ k) → LPO w1.heap.size u v xs ps W → LPO w1.heap.size u v xs ps W') := Lib.hid (by
    intro W W' row hg hr hL
    refine ⟨hL.1.kept hg ?_, hL.2.kept hg ?_⟩
    · cases ho : u.ownBlock with
      | none => exact .inl rfl
      | some k => right; intro e; have h1 := hr k e.symm; have h2 := hu2 k ho; have h3 := (hL.1.lt k ho).1; omega
    · cases ho : v.ownBlock with
      | none => exact .inl rfl
      | some k => right; intro e; have h1 := hr k e.symm; have h2 := hv3 k ho; have h3 := (hL.2.lt k ho).1; omega)
  have hLP3 : LPO w1.heap.size u v xs ps w3 := ⟨hx3, ho3.mono (by omega)⟩
  clear ho2 ho3 hg2 hg3 hgr2 hu2 hv3 hs1 hs2 hH3
  obtain ⟨po, pcap, hpsh⟩ := hLP3.2.shape
  have Hpsh := Lib.hid hpsh
  clear hx3 hpsh
  go_wp2_with fail
  refine (sFillPosts_c (Nat.le_refl _) (Nat.le_refl _) hLP3.1.rds hLP3.2.rds).mono ?_
  rintro e w4 ⟨z, rfl, hz4, hb4⟩
  have hq4 := FPR_le8 xs ps
  have hs4 := hs3.kept (below_grown hb4 none) (fun k hk => by cases hk)
  have hLP4 := HK.out _ _ _ (below_grown hb4 none) (fun k hk => by cases hk) hLP3
  have hgr4 := hgr3.trans (hb4.mono hgr3.size)
  have hz34 := hb4.size
  have hown4 : Own eI 2 H3 w4 z (FPR xs ps) := hz4.mono hHH.1
  have hsz4 := hgr4.size
  clear hb4 hs3 hLP3 hgr3 hz4
  by_cases hbad : FPC xs ps = 0
  · rw [hbad]
    have hs : Src w4 b 1000 := hs4.mono (by omega)
    have hown := hown4
    have hLP := hLP4
    have hgr := hgr4
    obtain ⟨qs, hqs⟩ : ∃ qs, qs = FPR xs ps := ⟨_, rfl⟩
    rw [← hqs] at hown hq4
    have hq : qs.length ≤ 9 := by omega
    clear hqs hs4 hown4 hLP4 hgr4 hbad
    have hszw : w.heap.size ≤ w4.heap.size := hgr.size
    by_cases h0 : qs.length = 0
    · obtain rfl : qs = [] := List.eq_nil_of_length_eq_zero h0
      obtain ⟨zo, zcap, hsh⟩ := hown.shape
      subst hsh
      go_wp2_with fail
      refine (one_any 16 hs (by omega) (by omega)).mono ?_
      rintro e w8 ⟨⟨q8, rfl⟩, hs8, hg8, hz8⟩
      have hown8 := hown.keptS hg8 (by omega)
      have hLP8 := HK.out _ _ _ hg8 (fun k hk => .inl (Option.some.inj hk).symm) hLP
      have hgr8 := grown_below hgr hg8 (by omega) (by omega)
      have hq8 := hq
      (try clear hlT)
      have hH8 : H3 ≤ w8.heap.size := by omega
      clear hz8 hg8 hs8 hs hown hLP hgr
      cases q8 with
      | true =>
        have Hqp : eI.ok 0 := by show -9223372036854775808 ≤ (0 : Int) ∧ (0 : Int) ≤ 9223372036854775807; decide
        go_wp2_with (first | (at_builtin; refine wpList_appS (E := eI) rfl _ _ 34 rfl Try.underlying34 hi hz0 hz1 hz2 rfl (by decide) rfl rfl (hown8.alloc _) (rds_one (E := eI) (x := 0) Hqp rfl) ?b1 ?b2 ?b3 ?_))
        case b1 => unfold maxLen; (try simp) <;> omega
        case b2 => (try simp) <;> omega
        case b3 => (try simp) <;> omega
        intro v9 w9 hown9 hg9
        have hg9' := hg9.alloc.1
        have hLP9 := HK.out _ _ _ hg9' (fun k hk => .inr (hown8.lt k hk).1) hLP8
        have hgr9 := Below.grown hgr8 hg9' (by omega) (fun k hk => by have := (hown8.lt k hk).1; omega)
        clear hg9 hg9' hLP8 hgr8 hown8 Hqp
        go_wp2
        go_ret3
        exact ⟨⟨_, _, _, xs, ps, _, rfl, hLP9.1.mono (by omega), hl2, hLP9.2.mono (by omega), hl3, hown9.mono (by omega), by (try simp) <;> omega⟩, hgr9⟩
      | false =>
        have Hown := Lib.hid hown8
        have HLP := Lib.hid hLP8
        have Hgr := Lib.hid hgr8
        clear hown8 hLP8 hgr8
        go_wp2
        go_ret3
        exact ⟨⟨_, _, _, xs, ps, _, rfl, HLP.out.1.mono (by omega), hl2, HLP.out.2.mono (by omega), hl3, Hown.out.mono (by omega), by omega⟩, Hgr.out⟩
    obtain ⟨g, cap, hsh, hbg, hgl⟩ := hown.addr (by omega)
    obtain ⟨n, hn⟩ : ∃ n, n = qs.length := ⟨_, rfl⟩
    have hn1 : 1 ≤ n ∧ n ≤ 9 := by omega
    have hn2 : (0 : Int) < (n : Int) := by omega
    rw [← hn] at hsh
    subst hsh
    have Hn := Lib.hid hn
    clear h0 hn
    go_wp2_with fail
    refine (one_any 3 hs (by omega) (by omega)).mono ?_
    rintro e w5 ⟨⟨q5, rfl⟩, hs5, hg5, hz5⟩
    have hown5 := hown.keptS hg5 (by omega)
    have hLP5 := HK.out _ _ _ hg5 (fun k hk => .inl (Option.some.inj hk).symm) hLP
    have hgr5 := grown_below hgr hg5 (by omega) (by omega)
    have hH5 : H3 ≤ w5.heap.size := by omega
    have hsz5 : w.heap.size ≤ w5.heap.size := hgr5.size
    clear hz5 hg5 hs hown hLP hgr
    cases q5 with
    | true =>
      go_wp2_with fail
      refine (pick_any (n : Int) hs5 (by omega) (by omega)).mono ?_
      rintro e w6 ⟨⟨k0, rfl, hk00, hk01, _⟩, hs6, hg6, hz6⟩
      have hk02 := hk01 (by omega)
      obtain ⟨k, rfl⟩ := Int.eq_ofNat_of_zero_le hk00
      have hown6 := hown5.keptS hg6 (by omega)
      have hLP6 := HK.out _ _ _ hg6 (fun k hk => .inl (Option.some.inj hk).symm) hLP5
      have hgr6 := grown_below hgr5 hg6 (by omega) (by omega)
      have hH6 : H3 ≤ w6.heap.size := by omega
      have hsz6 : w.heap.size ≤ w6.heap.size := hgr6.size
      clear hk01 hz6 hg6 hs5 hown5 hLP5 hgr5
      go_wp2_with fail
      refine (pick_any 9 hs6 (by omega) (by omega)).mono ?_
      rintro e w7 ⟨⟨q7, rfl, hq70, hq71, _⟩, hs7, hg7, hz7⟩
      have hq72 := hq71 (by omega)
      have hown7 := hown6.keptS hg7 (by omega)
      have hLP7 := HK.out _ _ _ hg7 (fun k hk => .inl (Option.some.inj hk).symm) hLP6
      have hgr7 := grown_below hgr6 hg7 (by omega) (by omega)
      have hH7 : H3 ≤ w7.heap.size := by omega
      have hsz7 : w.heap.size ≤ w7.heap.size := hgr7.size
      have hst := hown7.storeI (k := k) (x := q7 - 1) Hn.out (by omega) (by show -9223372036854775808 ≤ q7 - 1 ∧ q7 - 1 ≤ 9223372036854775807; omega)
      obtain ⟨⟨y, hcy⟩, hfy, hownS, hgS⟩ := hst
      have hLPS := HK.out _ _ _ hgS (fun k hk => .inr (by have := Option.some.inj hk; omega)) hLP7
      have hsS := hs7.kept hgS (fun k hk => by have := Option.some.inj hk; omega)
      have hgrS := Below.grown hgr7 hgS (by omega) (fun k hk => by have := Option.some.inj hk; omega)
      have hHS := Nat.le_trans hH7 hgS.size
      have hszS := Nat.le_trans hsz7 hgS.size
      have hlS : (qs.set k (q7 - 1)).length = n := by rw [List.length_set]; exact Hn.out.symm
      clear hq71 hz7 hg7 hs6 hown6 hLP6 hgr6 hs7 hown7 hLP7 hgr7 hgS
      have HS := Lib.hid (And.intro hownS (And.intro hLPS (And.intro hsS (And.intro hgrS (And.intro hHS (And.intro hszS hlS))))))
      clear hownS hLPS hsS hgrS hHS hszS hlS
      have hc7 : wrap64 (q7 - 1) = q7 - 1 := IntWalk.wrap64_in _ (by omega)
      go_wp2_with fail
      obtain ⟨hownT, hLPT, hsT, hgrT, hHT, hszT, hlT⟩ := HS.out
      clear HS hcy hfy
      generalize w7.setCell ⟨g, k, none⟩ (.int .i64 (q7 - 1)) = wt at hownT hLPT hsT hgrT hHT hszT ⊢
      generalize qs.set k (q7 - 1) = qt at hownT hlT
      refine (one_any 16 hsT (by omega) (by omega)).mono ?_
      rintro e w8 ⟨⟨q8, rfl⟩, hs8, hg8, hz8⟩
      have hown8 := hownT.keptS hg8 (by omega)
      have hLP8 := HK.out _ _ _ hg8 (fun k hk => .inl (Option.some.inj hk).symm) hLPT
      have hgr8 := grown_below hgrT hg8 (by omega) (by omega)
      have hq8 := (show qt.length ≤ 9 by omega)
      (try clear hlT)
      have hH8 : H3 ≤ w8.heap.size := by omega
      clear hz8 hg8 hs8 hsT hownT hLPT hgrT
      cases q8 with
      | true =>
        have Hqp : eI.ok 0 := by show -9223372036854775808 ≤ (0 : Int) ∧ (0 : Int) ≤ 9223372036854775807; decide
        go_wp2_with (first | (at_builtin; refine wpList_appS (E := eI) rfl _ _ 34 rfl Try.underlying34 hi hz0 hz1 hz2 rfl (by decide) rfl rfl (hown8.alloc _) (rds_one (E := eI) (x := 0) Hqp rfl) ?b1 ?b2 ?b3 ?_))
        case b1 => unfold maxLen; (try simp) <;> omega
        case b2 => (try simp) <;> omega
        case b3 => (try simp) <;> omega
        intro v9 w9 hown9 hg9
        have hg9' := hg9.alloc.1
        have hLP9 := HK.out _ _ _ hg9' (fun k hk => .inr (hown8.lt k hk).1) hLP8
        have hgr9 := Below.grown hgr8 hg9' (by omega) (fun k hk => by have := (hown8.lt k hk).1; omega)
        clear hg9 hg9' hLP8 hgr8 hown8 Hqp
        go_wp2
        go_ret3
        exact ⟨⟨_, _, _, xs, ps, _, rfl, hLP9.1.mono (by omega), hl2, hLP9.2.mono (by omega), hl3, hown9.mono (by omega), by (try simp) <;> omega⟩, hgr9⟩
      | false =>
        have Hown := Lib.hid hown8
        have HLP := Lib.hid hLP8
        have Hgr := Lib.hid hgr8
        clear hown8 hLP8 hgr8
        go_wp2
        go_ret3
        exact ⟨⟨_, _, _, xs, ps, _, rfl, HLP.out.1.mono (by omega), hl2, HLP.out.2.mono (by omega), hl3, Hown.out.mono (by omega), by omega⟩, Hgr.out⟩
    | false =>
      go_wp2_with fail
      refine (one_any 16 hs5 (by omega) (by omega)).mono ?_
      rintro e w8 ⟨⟨q8, rfl⟩, hs8, hg8, hz8⟩
      have hown8 := hown5.keptS hg8 (by omega)
      have hLP8 := HK.out _ _ _ hg8 (fun k hk => .inl (Option.some.inj hk).symm) hLP5
      have hgr8 := grown_below hgr5 hg8 (by omega) (by omega)
      have hq8 := (show qs.length ≤ 9 by have := Hn.out; omega)
      (try clear hlT)
      have hH8 : H3 ≤ w8.heap.size := by omega
      clear hz8 hg8 hs8 hs5 hown5 hLP5 hgr5
      cases q8 with
      | true =>
        have Hqp : eI.ok 0 := by show -9223372036854775808 ≤ (0 : Int) ∧ (0 : Int) ≤ 9223372036854775807; decide
        go_wp2_with (first | (at_builtin; refine wpList_appS (E := eI) rfl _ _ 34 rfl Try.underlying34 hi hz0 hz1 hz2 rfl (by decide) rfl rfl (hown8.alloc _) (rds_one (E := eI) (x := 0) Hqp rfl) ?b1 ?b2 ?b3 ?_))
        case b1 => unfold maxLen; (try simp) <;> omega
        case b2 => (try simp) <;> omega
        case b3 => (try simp) <;> omega
        intro v9 w9 hown9 hg9
        have hg9' := hg9.alloc.1
        have hLP9 := HK.out _ _ _ hg9' (fun k hk => .inr (hown8.lt k hk).1) hLP8
        have hgr9 := Below.grown hgr8 hg9' (by omega) (fun k hk => by have := (hown8.lt k hk).1; omega)
        clear hg9 hg9' hLP8 hgr8 hown8 Hqp
        go_wp2
        go_ret3
        exact ⟨⟨_, _, _, xs, ps, _, rfl, hLP9.1.mono (by omega), hl2, hLP9.2.mono (by omega), hl3, hown9.mono (by omega), by (try simp) <;> omega⟩, hgr9⟩
      | false =>
        have Hown := Lib.hid hown8
        have HLP := Lib.hid hLP8
        have Hgr := Lib.hid hgr8
        clear hown8 hLP8 hgr8
        go_wp2
        go_ret3
        exact ⟨⟨_, _, _, xs, ps, _, rfl, HLP.out.1.mono (by omega), hl2, HLP.out.2.mono (by omega), hl3, Hown.out.mono (by omega), by omega⟩, Hgr.out⟩
  · have hbb : (FPC xs ps != 0) = true := by simpa using hbad
    have hlit : Own eI 2 H3 (w4.alloc (.cells #[] 2)) (.slice (some ⟨w4.heap.size, 0, none⟩) 0 0) [] := Own.lit (E := eI) (xs := []) (cs := #[]) (by omega) rfl rfl (by decide) (fun x hx => by cases hx)
    have hLPa := HK.out _ _ _ (World.grownBy_alloc w4 (.cells #[] 2) none) (fun k hk => by cases hk) hLP4
    have hgra := hgr4.alloc (by omega) (.cells #[] 2)
    have hsa := hs4.alloc (.cells #[] 2)
    obtain ⟨m, hm⟩ : ∃ m, m = ps.length := ⟨_, rfl⟩
    have hpsh := Hpsh.out
    rw [← hm] at hpsh
    have hm9 : m ≤ 9 := by omega
    clear Hpsh
    subst hpsh
    clear hown4 hLP4 hgr4 hs4 hbad hm
    go_wp2
    go_loopw [8, 10] (fun z i wr => ∃ (j : Nat) (qs : List Int), j ≤ m ∧ i = .int .i64 j ∧ qs.length = j ∧ Own eI 2 H3 wr z qs ∧ Src wr b (600 + 2 * j) ∧ LPO w1.heap.size u (.slice po m pcap) xs ps wr ∧ Below w.heap.size w wr ∧ H3 ≤ wr.heap.size) (fun _ i _ => m - (intOf i).toNat)
    case atStart => exact ⟨0, [], Nat.zero_le _, rfl, rfl, hlit, hsa.mono (by omega), hLPa, hgra, by simp; omega⟩
    case round =>
      obtain ⟨j, qs, hj, rfl, hql, hown, hs, hLP, hgr, hHr⟩ := hrel
      have Hql := Lib.hid hql
      have hq : qs.length ≤ 9 := by omega
      clear hlit hsa hLPa hgra hql
      by_cases hjm : j < m
      · go_wp2_with fail
        refine (pick_any 8 hs (by omega) (by omega)).mono ?_
        rintro e w5 ⟨⟨q5, rfl, hq50, hq51, _⟩, hs5, hg5, hz5⟩
        have hq52 := hq51 (by omega)
        have hown5 := hown.keptS hg5 (by omega)
        have hLP5 := HK.out _ _ _ hg5 (fun k hk => .inl (Option.some.inj hk).symm) hLP
        have hgr5 := grown_below hgr hg5 (by omega) (by omega)
        have hH5 : H3 ≤ w5.heap.size := by omega
        have Hqp : eI.ok q5 := by show -9223372036854775808 ≤ q5 ∧ q5 ≤ 9223372036854775807; omega
        clear hz5 hg5 hs hown hLP hgr hq51
        go_wp2_with (first | (at_builtin; refine wpList_appS (E := eI) rfl _ _ 34 rfl Try.underlying34 hi hz0 hz1 hz2 rfl (by decide) rfl rfl (hown5.alloc _) (rds_one (E := eI) (x := q5) Hqp rfl) ?b1 ?b2 ?b3 ?_))
        case b1 => unfold maxLen; simp; omega
        case b2 => simp; omega
        case b3 => simp; omega
        intro v9 w9 hown9 hg9
        have hg9' := hg9.alloc.1
        have hLP9 := HK.out _ _ _ hg9' (fun k hk => .inr (hown5.lt k hk).1) hLP5
        have hgr9 := Below.grown hgr5 hg9' (by omega) (fun k hk => by have := (hown5.lt k hk).1; omega)
        have hs9 := hs5.kept hg9' (fun k hk => by have := (hown5.lt k hk).1; omega)
        have hH9 := Nat.le_trans hH5 hg9'.size
        clear hg9 hg9' hLP5 hgr5 hown5 Hqp hs5
        go_wp2
        go_roundw
        case rel => exact ⟨j + 1, _, by omega, by go_num, by have := Hql.out; simp; omega, hown9, hs9.mono (by omega), hLP9, hgr9, hH9⟩
        case measure => simp [intOf]; omega
      · have hs : Src wr b 1000 := hs.mono (by omega)
        obtain ⟨v, hv⟩ : ∃ v, v = Value.slice po m pcap := ⟨_, rfl⟩
        have hszw : w.heap.size ≤ wr.heap.size := hgr.size
        by_cases h0 : qs.length = 0
        · obtain rfl : qs = [] := List.eq_nil_of_length_eq_zero h0
          obtain ⟨zo, zcap, hsh⟩ := hown.shape
          subst hsh
          go_wp2_with fail
          refine (one_any 16 hs (by omega) (by omega)).mono ?_
          rintro e w8 ⟨⟨q8, rfl⟩, hs8, hg8, hz8⟩
          have hown8 := hown.keptS hg8 (by omega)
          have hLP8 := HK.out _ _ _ hg8 (fun k hk => .inl (Option.some.inj hk).symm) hLP
          have hgr8 := grown_below hgr hg8 (by omega) (by omega)
          have hq8 := hq
          (try clear hlT)
          have hH8 : H3 ≤ w8.heap.size := by omega
          clear hz8 hg8 hs8 hs hown hLP hgr
          cases q8 with
          | true =>
            have Hqp : eI.ok 0 := by show -9223372036854775808 ≤ (0 : Int) ∧ (0 : Int) ≤ 9223372036854775807; decide
            go_wp2_with (first | (at_builtin; refine wpList_appS (E := eI) rfl _ _ 34 rfl Try.underlying34 hi hz0 hz1 hz2 rfl (by decide) rfl rfl (hown8.alloc _) (rds_one (E := eI) (x := 0) Hqp rfl) ?b1 ?b2 ?b3 ?_))
            case b1 => unfold maxLen; (try simp) <;> omega
            case b2 => (try simp) <;> omega
            case b3 => (try simp) <;> omega
            intro v9 w9 hown9 hg9
            have hg9' := hg9.alloc.1
            have hLP9 := HK.out _ _ _ hg9' (fun k hk => .inr (hown8.lt k hk).1) hLP8
            have hgr9 := Below.grown hgr8 hg9' (by omega) (fun k hk => by have := (hown8.lt k hk).1; omega)
            clear hg9 hg9' hLP8 hgr8 hown8 Hqp
            go_wp2
            go_ret3
            exact ⟨⟨_, _, _, xs, ps, _, rfl, hLP9.1.mono (by omega), hl2, hLP9.2.mono (by omega), hl3, hown9.mono (by omega), by (try simp) <;> omega⟩, hgr9⟩
          | false =>
            have Hown := Lib.hid hown8
            have HLP := Lib.hid hLP8
            have Hgr := Lib.hid hgr8
            clear hown8 hLP8 hgr8
            go_wp2
            go_ret3
            exact ⟨⟨_, _, _, xs, ps, _, rfl, HLP.out.1.mono (by omega), hl2, HLP.out.2.mono (by omega), hl3, Hown.out.mono (by omega), by omega⟩, Hgr.out⟩
        obtain ⟨g, cap, hsh, hbg, hgl⟩ := hown.addr (by omega)
        obtain ⟨n, hn⟩ : ∃ n, n = qs.length := ⟨_, rfl⟩
        have hn1 : 1 ≤ n ∧ n ≤ 9 := by omega
        have hn2 : (0 : Int) < (n : Int) := by omega
        rw [← hn] at hsh
        subst hsh
        have Hn := Lib.hid hn
        clear h0 hn
        go_wp2_with fail
        refine (one_any 3 hs (by omega) (by omega)).mono ?_
        rintro e w5 ⟨⟨q5, rfl⟩, hs5, hg5, hz5⟩
        have hown5 := hown.keptS hg5 (by omega)
        have hLP5 := HK.out _ _ _ hg5 (fun k hk => .inl (Option.some.inj hk).symm) hLP
        have hgr5 := grown_below hgr hg5 (by omega) (by omega)
        have hH5 : H3 ≤ w5.heap.size := by omega
        have hsz5 : w.heap.size ≤ w5.heap.size := hgr5.size
        clear hz5 hg5 hs hown hLP hgr
        cases q5 with
        | true =>
          go_wp2_with fail
          refine (pick_any (n : Int) hs5 (by omega) (by omega)).mono ?_
          rintro e w6 ⟨⟨k0, rfl, hk00, hk01, _⟩, hs6, hg6, hz6⟩
          have hk02 := hk01 (by omega)
          obtain ⟨k, rfl⟩ := Int.eq_ofNat_of_zero_le hk00
          have hown6 := hown5.keptS hg6 (by omega)
          have hLP6 := HK.out _ _ _ hg6 (fun k hk => .inl (Option.some.inj hk).symm) hLP5
          have hgr6 := grown_below hgr5 hg6 (by omega) (by omega)
          have hH6 : H3 ≤ w6.heap.size := by omega
          have hsz6 : w.heap.size ≤ w6.heap.size := hgr6.size
          clear hk01 hz6 hg6 hs5 hown5 hLP5 hgr5
          go_wp2_with fail
          refine (pick_any 9 hs6 (by omega) (by omega)).mono ?_
          rintro e w7 ⟨⟨q7, rfl, hq70, hq71, _⟩, hs7, hg7, hz7⟩
          have hq72 := hq71 (by omega)
          have hown7 := hown6.keptS hg7 (by omega)
          have hLP7 := HK.out _ _ _ hg7 (fun k hk => .inl (Option.some.inj hk).symm) hLP6
          have hgr7 := grown_below hgr6 hg7 (by omega) (by omega)
          have hH7 : H3 ≤ w7.heap.size := by omega
          have hsz7 : w.heap.size ≤ w7.heap.size := hgr7.size
          have hst := hown7.storeI (k := k) (x := q7 - 1) Hn.out (by omega) (by show -9223372036854775808 ≤ q7 - 1 ∧ q7 - 1 ≤ 9223372036854775807; omega)
          obtain ⟨⟨y, hcy⟩, hfy, hownS, hgS⟩ := hst
          have hLPS := HK.out _ _ _ hgS (fun k hk => .inr (by have := Option.some.inj hk; omega)) hLP7
          have hsS := hs7.kept hgS (fun k hk => by have := Option.some.inj hk; omega)
          have hgrS := Below.grown hgr7 hgS (by omega) (fun k hk => by have := Option.some.inj hk; omega)
          have hHS := Nat.le_trans hH7 hgS.size
          have hszS := Nat.le_trans hsz7 hgS.size
          have hlS : (qs.set k (q7 - 1)).length = n := by rw [List.length_set]; exact Hn.out.symm
          clear hq71 hz7 hg7 hs6 hown6 hLP6 hgr6 hs7 hown7 hLP7 hgr7 hgS
          have HS := Lib.hid (And.intro hownS (And.intro hLPS (And.intro hsS (And.intro hgrS (And.intro hHS (And.intro hszS hlS))))))
          clear hownS hLPS hsS hgrS hHS hszS hlS
          have hc7 : wrap64 (q7 - 1) = q7 - 1 := IntWalk.wrap64_in _ (by omega)
          go_wp2_with fail
          obtain ⟨hownT, hLPT, hsT, hgrT, hHT, hszT, hlT⟩ := HS.out
          clear HS hcy hfy
          generalize w7.setCell ⟨g, k, none⟩ (.int .i64 (q7 - 1)) = wt at hownT hLPT hsT hgrT hHT hszT ⊢
          generalize qs.set k (q7 - 1) = qt at hownT hlT
          refine (one_any 16 hsT (by omega) (by omega)).mono ?_
          rintro e w8 ⟨⟨q8, rfl⟩, hs8, hg8, hz8⟩
          have hown8 := hownT.keptS hg8 (by omega)
          have hLP8 := HK.out _ _ _ hg8 (fun k hk => .inl (Option.some.inj hk).symm) hLPT
          have hgr8 := grown_below hgrT hg8 (by omega) (by omega)
          have hq8 := (show qt.length ≤ 9 by omega)
          (try clear hlT)
          have hH8 : H3 ≤ w8.heap.size := by omega
          clear hz8 hg8 hs8 hsT hownT hLPT hgrT
          cases q8 with
          | true =>
            have Hqp : eI.ok 0 := by show -9223372036854775808 ≤ (0 : Int) ∧ (0 : Int) ≤ 9223372036854775807; decide
            go_wp2_with (first | (at_builtin; refine wpList_appS (E := eI) rfl _ _ 34 rfl Try.underlying34 hi hz0 hz1 hz2 rfl (by decide) rfl rfl (hown8.alloc _) (rds_one (E := eI) (x := 0) Hqp rfl) ?b1 ?b2 ?b3 ?_))
            case b1 => unfold maxLen; (try simp) <;> omega
            case b2 => (try simp) <;> omega
            case b3 => (try simp) <;> omega
            intro v9 w9 hown9 hg9
            have hg9' := hg9.alloc.1
            have hLP9 := HK.out _ _ _ hg9' (fun k hk => .inr (hown8.lt k hk).1) hLP8
            have hgr9 := Below.grown hgr8 hg9' (by omega) (fun k hk => by have := (hown8.lt k hk).1; omega)
            clear hg9 hg9' hLP8 hgr8 hown8 Hqp
            go_wp2
            go_ret3
            exact ⟨⟨_, _, _, xs, ps, _, rfl, hLP9.1.mono (by omega), hl2, hLP9.2.mono (by omega), hl3, hown9.mono (by omega), by (try simp) <;> omega⟩, hgr9⟩
          | false =>
            have Hown := Lib.hid hown8
            have HLP := Lib.hid hLP8
            have Hgr := Lib.hid hgr8
            clear hown8 hLP8 hgr8
            go_wp2
            go_ret3
            exact ⟨⟨_, _, _, xs, ps, _, rfl, HLP.out.1.mono (by omega), hl2, HLP.out.2.mono (by omega), hl3, Hown.out.mono (by omega), by omega⟩, Hgr.out⟩
        | false =>
          go_wp2_with fail
          refine (one_any 16 hs5 (by omega) (by omega)).mono ?_
          rintro e w8 ⟨⟨q8, rfl⟩, hs8, hg8, hz8⟩
          have hown8 := hown5.keptS hg8 (by omega)
          have hLP8 := HK.out _ _ _ hg8 (fun k hk => .inl (Option.some.inj hk).symm) hLP5
          have hgr8 := grown_below hgr5 hg8 (by omega) (by omega)
          have hq8 := (show qs.length ≤ 9 by have := Hn.out; omega)
          (try clear hlT)
          have hH8 : H3 ≤ w8.heap.size := by omega
          clear hz8 hg8 hs8 hs5 hown5 hLP5 hgr5
          cases q8 with
          | true =>
            have Hqp : eI.ok 0 := by show -9223372036854775808 ≤ (0 : Int) ∧ (0 : Int) ≤ 9223372036854775807; decide
            go_wp2_with (first | (at_builtin; refine wpList_appS (E := eI) rfl _ _ 34 rfl Try.underlying34 hi hz0 hz1 hz2 rfl (by decide) rfl rfl (hown8.alloc _) (rds_one (E := eI) (x := 0) Hqp rfl) ?b1 ?b2 ?b3 ?_))
            case b1 => unfold maxLen; (try simp) <;> omega
            case b2 => (try simp) <;> omega
            case b3 => (try simp) <;> omega
            intro v9 w9 hown9 hg9
            have hg9' := hg9.alloc.1
            have hLP9 := HK.out _ _ _ hg9' (fun k hk => .inr (hown8.lt k hk).1) hLP8
            have hgr9 := Below.grown hgr8 hg9' (by omega) (fun k hk => by have := (hown8.lt k hk).1; omega)
            clear hg9 hg9' hLP8 hgr8 hown8 Hqp
            go_wp2
            go_ret3
            exact ⟨⟨_, _, _, xs, ps, _, rfl, hLP9.1.mono (by omega), hl2, hLP9.2.mono (by omega), hl3, hown9.mono (by omega), by (try simp) <;> omega⟩, hgr9⟩
          | false =>
            have Hown := Lib.hid hown8
            have HLP := Lib.hid hLP8
            have Hgr := Lib.hid hgr8
            clear hown8 hLP8 hgr8
            go_wp2
            go_ret3
            exact ⟨⟨_, _, _, xs, ps, _, rfl, HLP.out.1.mono (by omega), hl2, HLP.out.2.mono (by omega), hl3, Hown.out.mono (by omega), by omega⟩, Hgr.out⟩
end Go.Proofs.Ytfojfcmjoacbgaa
