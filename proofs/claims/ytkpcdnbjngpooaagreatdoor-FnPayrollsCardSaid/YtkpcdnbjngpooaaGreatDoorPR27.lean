/- StrangeCards: the program's by its contract. PayrollOf: the program's by its contract. What a payroll says, in plain words. PayrollOf and StrangeCards: the reference's, each by its contract. No condition. -/
import Derived.Test.YtkpcdnbjngpooaaGreatDoorPR26
import Derived.Test.YtkpcdnbjngpooaaGreatDoorPR15
import Derived.Test.YtkpcdnbjngpooaaGreatDoorPR12
namespace Go.Proofs.YtkpcdnbjngpooaaGreatDoor
open Go.ChangeShapes Go.WideShapes Go.ChangeAt Go.RowKit Go.Sort
set_option linter.unusedVariables false
set_option maxRecDepth 100000
abbrev itC (x : ItemT) : List Value := [.string x.nm, .int .i64 x.kd, .int .i64 x.ff, .int .i64 x.ft]
abbrev zC : List Value := [.string ⟨#[]⟩, .int .i64 0, .int .i64 0, .int .i64 0]
theorem sizeCard_c {ao : Option Addr} {n cap : Nat} {w : World} (hn : n ≤ 9223372036854775807) :
    Calls Tryz.prog 31 #[.slice ao n cap] w fun e w' => e = .returned (.int .i64 n) ∧ w = w' := by
  go_enter Tryz.func31, Tryz.ntmps31
  go_wp2
  go_ret
  exact ⟨rfl, rfl⟩
def strC (ok : Bool) (wd : Int) (xs : List ItemT) (d : List (List Int)) : Int := payC ok wd xs d
def strL (L : List WorkerT) (wd : Int) (xs : List ItemT) (d : List (List Int)) : List Int := if payC (validWs L) wd xs d = 0 then whereL (fun k => strB (itAt xs whoT) L (d.getD k [])) d.length else []
set_option maxHeartbeats 2000000 in
theorem StrangeCards_c {L : List WorkerT} {xs : List ItemT} {v u t : Value} {w : World} {A B C : Nat} {d : List (List Int)} (wd : Int) (hL : RdWorkerS C w t L) (ha : RdItemS A w v xs) (hd : RdInt64SS B w u d) :
    Calls Tryz.prog 8 #[t, .agg #[.int .i64 wd, v], u] w fun e w' => ∃ r, e = .returned (.tuple #[r, .int .i64 (strC (validWs L) wd xs d)]) ∧ OwnInt64S w.heap.size w' r (strL L wd xs d) ∧ Below w.heap.size w w' := by
  obtain ⟨lo, lcap, rfl⟩ := hL.shape
  obtain ⟨ao, cap, rfl⟩ := ha.shape
  obtain ⟨dao, dcap, rfl⟩ := hd.shape
  obtain ⟨W, hW⟩ : ∃ W, W = ((w.alloc (.cells #[.slice lo L.length lcap] 24)).alloc (.cells #[.int .i64 wd, .slice ao xs.length cap] 27)).alloc (.cells #[.slice dao d.length dcap] 28) := ⟨_, rfl⟩
  have h3 : Box W w.heap.size [.slice lo L.length lcap] ∧ Box W (w.heap.size + 1) [.int .i64 wd, .slice ao xs.length cap] ∧ Box W (w.heap.size + 1 + 1) [.slice dao d.length dcap] ∧ Below w.heap.size w W := by
    rw [hW]; exact box3 w [.slice lo L.length lcap] [.int .i64 wd, .slice ao xs.length cap] [.slice dao d.length dcap] 24 27 28
  obtain ⟨hP, hQ, hR, hb0⟩ := h3
  have Ha := Lib.hid (Rds.onn ha hb0)
  have Hd := Lib.hid (RdInt64SS.onn hd hb0)
  have HL := Lib.hid (Rds.onn hL hb0)
  have HW := Lib.hid hW
  have HP := Lib.hid hP
  have HQ := Lib.hid hQ
  have HR := Lib.hid hR
  have Hb0 := Lib.hid hb0
  obtain ⟨c, hc⟩ : ∃ c, payC (validWs L) wd xs d = c := ⟨_, rfl⟩
  obtain ⟨a, hia⟩ : ∃ a, payX (validWs L) wd xs d whoT = a := ⟨_, rfl⟩
  obtain ⟨b, hib⟩ : ∃ b, payX (validWs L) wd xs d hrsT = b := ⟨_, rfl⟩
  have Hvw := Lib.hid (fun wx (hw : Below W.heap.size W wx) => ValidWorkers_c (w := wx) (Rds.onn HL.out hw))
  have Hpi := Lib.hid (fun wx (hw : Below W.heap.size W wx) => payItems_c (w := wx) wd (validWs L) (Rds.onn Ha.out hw) (RdInt64SS.onn Hd.out hw))
  rw [hc, hia, hib] at Hpi
  obtain ⟨o, ho⟩ : ∃ o, o = validWs L := ⟨_, rfl⟩
  rw [← ho] at Hpi Hvw hc hia hib
  have Ho := Lib.hid ho
  have Hc := Lib.hid hc
  have Hia := Lib.hid hia
  have Hib := Lib.hid hib
  have q0 := HP.out.cell 0 _ rfl
  have q1 := HQ.out.cell 0 _ rfl
  have q2 := HQ.out.cell 1 _ rfl
  have q3 := HR.out.cell 0 _ rfl
  have s0 := HP.out.lt
  have s1 := HQ.out.lt
  have s2 := HR.out.lt
  clear hP hQ hR hb0 hW ha hd hL ho hc hia hib
  go_enter Tryz.func8, Tryz.ntmps8
  go_upto_region 1 with fail
  rw [← HW.out]
  refine wp_region_cel (W := W) (fun i => match i with | 0 => some (.agg #[.int .i64 wd, .slice ao xs.length cap]) | 1 => some (.slice dao d.length dcap) | 2 => some (.slice lo L.length lcap) | 3 => some (.bool o) | 4 => some (.tuple #[vItem a, vItem b, .int .i64 c]) | 5 => some (.tuple #[vItem a, vItem b, .int .i64 c]) | 6 => some (vItem a) | 7 => some (vItem b) | 8 => some (.int .i64 c) | 13 => some (.int .i64 c) | _ => none) [⟨9, 11, zC, itC a⟩, ⟨10, 12, zC, itC b⟩] (by kernel_rfl) (by kernel_rfl) (by kernel_rfl) (by kernel_rfl) ?_ ?_ ?_
  · intro r hr
    simp only [List.mem_cons, List.not_mem_nil, or_false] at hr
    rcases hr with rfl | rfl <;> exact ⟨rfl, rfl, rfl⟩
  · intro vs hvs
    match vs, hvs with
    | [v0, v1, v2, v3, v4, v5, v6, v7, v8, v9, v10, v11, v12, v13], _ =>
      refine ⟨?_, ?_, ?_, ?_, ?_, ?_, ?_, ?_, ?_, ?_, ?_, ?_, ?_, ?_, trivial⟩
      · refine celStep_plain ?_ ?_
        case refine_1 => rfl
        intro wr hC hd
        clear hd
        have e1 := (hC.cell (p := ⟨w.heap.size + 1, 0, none⟩) s1).trans q1
        have e2 := (hC.cell (p := ⟨w.heap.size + 1, 1, none⟩) s1).trans q2
        unfold relAt
        simp only [putAll]
        go_simp
        simp only [relUpon]
        exact ⟨Below.refl _ _, fun u hu => by injection hu⟩
      · refine celStep_plain ?_ ?_
        case refine_1 => rfl
        intro wr hC hd
        clear hd
        have e1 := (hC.cell (p := ⟨w.heap.size + 1 + 1, 0, none⟩) s2).trans q3
        unfold relAt
        simp only [putAll]
        go_simp
        simp only [relUpon]
        exact ⟨Below.refl _ _, fun u hu => by injection hu⟩
      · refine celStep_plain ?_ ?_
        case refine_1 => rfl
        intro wr hC hd
        clear hd
        have e1 := (hC.cell (p := ⟨w.heap.size, 0, none⟩) s0).trans q0
        unfold relAt
        simp only [putAll]
        go_simp
        simp only [relUpon]
        exact ⟨Below.refl _ _, fun u hu => by injection hu⟩
      · refine celStep_plain ?_ ?_
        case refine_1 => rfl
        intro wr hC hd
        have d2 : v2 = .slice lo L.length lcap := dep_get 2 _ rfl (by kernel_rfl) hd
        subst d2
        clear hd
        unfold relAt
        simp only [putAll]
        go_simp
        simp only [relUpon]
        refine (Hvw.out _ hC).mono ?_
        rintro e w8 ⟨rfl, hb⟩
        exact ⟨_, rfl, hb, fun u hu => by injection hu⟩
      · refine celStep_plain ?_ ?_
        case refine_1 => rfl
        intro wr hC hd
        have d0 : v0 = .agg #[.int .i64 wd, .slice ao xs.length cap] := dep_get 0 _ rfl (by kernel_rfl) hd
        subst d0
        have d1 : v1 = .slice dao d.length dcap := dep_get 1 _ rfl (by kernel_rfl) hd
        subst d1
        have d3 : v3 = .bool o := dep_get 3 _ rfl (by kernel_rfl) hd
        subst d3
        clear hd
        unfold relAt
        simp only [putAll]
        go_simp
        simp only [relUpon]
        refine (Hpi.out _ hC).mono ?_
        rintro e w8 ⟨rfl, hb⟩
        exact ⟨_, rfl, hb, fun u hu => by injection hu⟩
      · refine celStep_plain ?_ ?_
        case refine_1 => rfl
        intro wr hC hd
        have d4 : v4 = .tuple #[vItem a, vItem b, .int .i64 c] := dep_get 4 _ rfl (by kernel_rfl) hd
        subst d4
        clear hd
        unfold relAt
        simp only [putAll]
        go_simp
        simp only [relUpon]
        exact ⟨Below.refl _ _, fun u hu => by injection hu⟩
      · refine celStep_plain ?_ ?_
        case refine_1 => rfl
        intro wr hC hd
        have d5 : v5 = .tuple #[vItem a, vItem b, .int .i64 c] := dep_get 5 _ rfl (by kernel_rfl) hd
        subst d5
        clear hd
        unfold relAt
        simp only [putAll]
        go_simp
        simp only [relUpon]
        exact ⟨Below.refl _ _, fun u hu => by injection hu⟩
      · refine celStep_plain ?_ ?_
        case refine_1 => rfl
        intro wr hC hd
        have d5 : v5 = .tuple #[vItem a, vItem b, .int .i64 c] := dep_get 5 _ rfl (by kernel_rfl) hd
        subst d5
        clear hd
        unfold relAt
        simp only [putAll]
        go_simp
        simp only [relUpon]
        exact ⟨Below.refl _ _, fun u hu => by injection hu⟩
      · refine celStep_plain ?_ ?_
        case refine_1 => rfl
        intro wr hC hd
        have d5 : v5 = .tuple #[vItem a, vItem b, .int .i64 c] := dep_get 5 _ rfl (by kernel_rfl) hd
        subst d5
        clear hd
        unfold relAt
        simp only [putAll]
        go_simp
        simp only [relUpon]
        exact ⟨Below.refl _ _, fun u hu => by injection hu⟩
      · refine celStep_lay ⟨9, 11, zC, itC a⟩ ?_ ?_
        case refine_1 => rfl
        intro wr
        unfold relAt
        simp only [putAll]
        go_simp
        simp only [relUpon]
        exact ⟨by first | trivial | rfl, _, rfl⟩
      · refine celStep_lay ⟨10, 12, zC, itC b⟩ ?_ ?_
        case refine_1 => rfl
        intro wr
        unfold relAt
        simp only [putAll]
        go_simp
        simp only [relUpon]
        exact ⟨by first | trivial | rfl, _, rfl⟩
      · have hc9 : clsOf [⟨9, 11, zC, itC a⟩, ⟨10, 12, zC, itC b⟩] 11 = .put ⟨9, 11, zC, itC a⟩ := by rfl
        generalize hcc : clsOf _ _ = cc
        replace hcc : cc = .put ⟨9, 11, zC, itC a⟩ := hcc.symm.trans hc9
        clear hc9
        generalize hax : putAll _ _ _ = ax
        refine celStep_put ⟨9, 11, zC, itC a⟩ hcc ?_
        intro wr X hX hd hB
        rw [← hax]
        clear hax hcc
        replace hX : v9 = .pointer (some ⟨X, 0, none⟩) := hX
        subst hX
        have d6 : v6 = vItem a := dep_get 6 _ rfl (by kernel_rfl) hd
        subst d6
        clear hd
        have b0 := hB.cell 0 _ rfl
        have b1 := hB.cell 1 _ rfl
        have b2 := hB.cell 2 _ rfl
        have b3 := hB.cell 3 _ rfl
        have bl := hB.lt
        have bf0 := hB.free 0
        have bf1 := hB.free 1
        have bf2 := hB.free 2
        have bf3 := hB.free 3
        unfold relAt
        simp only [putAll]
        go_simp
        simp only [relUpon]
        rfl
      · have hc9 : clsOf [⟨9, 11, zC, itC a⟩, ⟨10, 12, zC, itC b⟩] 12 = .put ⟨10, 12, zC, itC b⟩ := by rfl
        generalize hcc : clsOf _ _ = cc
        replace hcc : cc = .put ⟨10, 12, zC, itC b⟩ := hcc.symm.trans hc9
        clear hc9
        generalize hax : putAll _ _ _ = ax
        refine celStep_put ⟨10, 12, zC, itC b⟩ hcc ?_
        intro wr X hX hd hB
        rw [← hax]
        clear hax hcc
        replace hX : v10 = .pointer (some ⟨X, 0, none⟩) := hX
        subst hX
        have d7 : v7 = vItem b := dep_get 7 _ rfl (by kernel_rfl) hd
        subst d7
        clear hd
        have b0 := hB.cell 0 _ rfl
        have b1 := hB.cell 1 _ rfl
        have b2 := hB.cell 2 _ rfl
        have b3 := hB.cell 3 _ rfl
        have bl := hB.lt
        have bf0 := hB.free 0
        have bf1 := hB.free 1
        have bf2 := hB.free 2
        have bf3 := hB.free 3
        unfold relAt
        simp only [putAll]
        go_simp
        simp only [relUpon]
        rfl
      · refine celStep_plain ?_ ?_
        case refine_1 => rfl
        intro wr hC hd
        have d8 : v8 = .int .i64 c := dep_get 8 _ rfl (by kernel_rfl) hd
        subst d8
        clear hd
        unfold relAt
        simp only [putAll]
        go_simp
        simp only [relUpon]
        exact ⟨Below.refl _ _, fun u hu => by injection hu⟩
  · intro vs wq hvs hC hI hR
    match vs, hvs, hI, hR with
    | [v0, v1, v2, v3, v4, v5, v6, v7, v8, v9, v10, v11, v12, v13], _, hI, hR =>
      have d0 : v0 = .agg #[.int .i64 wd, .slice ao xs.length cap] := hI 0 (by decide) _ rfl
      subst d0
      have d1 : v1 = .slice dao d.length dcap := hI 1 (by decide) _ rfl
      subst d1
      have d2 : v2 = .slice lo L.length lcap := hI 2 (by decide) _ rfl
      subst d2
      have d3 : v3 = .bool o := hI 3 (by decide) _ rfl
      subst d3
      have d4 : v4 = .tuple #[vItem a, vItem b, .int .i64 c] := hI 4 (by decide) _ rfl
      subst d4
      have d5 : v5 = .tuple #[vItem a, vItem b, .int .i64 c] := hI 5 (by decide) _ rfl
      subst d5
      have d6 : v6 = vItem a := hI 6 (by decide) _ rfl
      subst d6
      have d7 : v7 = vItem b := hI 7 (by decide) _ rfl
      subst d7
      have d8 : v8 = .int .i64 c := hI 8 (by decide) _ rfl
      subst d8
      have d13 : v13 = .int .i64 c := hI 13 (by decide) _ rfl
      subst d13
      obtain ⟨X0, hX0, lX0, bX0⟩ := hR ⟨9, 11, zC, itC a⟩ (List.mem_cons_self ..)
      replace hX0 : v9 = .pointer (some ⟨X0, 0, none⟩) := hX0
      subst hX0
      obtain ⟨X1, hX1, lX1, bX1⟩ := hR ⟨10, 12, zC, itC b⟩ (List.mem_cons_of_mem _ (List.mem_cons_self ..))
      replace hX1 : v10 = .pointer (some ⟨X1, 0, none⟩) := hX1
      subst hX1
      clear hI hR
      simp only [putAll]
      go_simp
      have Hb1 := Lib.hid (Hb0.out.trans (hC.mono Hb0.out.size))
      have HR1 := Lib.hid (HR.out.on hC)
      have HP1 := Lib.hid (HP.out.on hC)
      have Hd1 := Lib.hid (RdInt64SS.onn Hd.out hC)
      have HL1 := Lib.hid (Rds.onn HL.out hC)
      have HX1 := Lib.hid bX0
      clear hC bX0 bX1 lX0 lX1 q0 q1 q2 q3
      by_cases hc0 : c = 0
      · subst hc0
        have hp := payC_ok Hc.out
        have ha0 : itAt xs whoT = a := by rw [← Hia.out]; unfold payX; rw [if_pos Hc.out]
        have hok := hrOk_of hp
        rw [ha0] at hok
        have hdl := hok.len
        have Hok := Lib.hid hok
        have Hcl := Lib.hid (fun (k : Nat) (wx : World) (hk : k < d.length) (hw : Below wq.heap.size wq wx) => clo_Str (w := wx) (k := k) (c := d.getD k []) Hok.out (Rds.onn HL1.out hw) (RdInt64SS.onn Hd1.out hw) (HX1.out.on hw) (HR1.out.on hw) (HP1.out.on hw) (by rw [List.getD_eq_getElem?_getD, List.getElem?_eq_getElem hk]; rfl))
        have E1 : Hid (strL L wd xs d = whereL (fun k => strB a L (d.getD k [])) d.length) := Lib.hid (by unfold strL; rw [← Ho.out, if_pos Hc.out, ha0])
        have E2 : Hid (strC (validWs L) wd xs d = 0) := Lib.hid (by unfold strC; rw [← Ho.out]; exact Hc.out)
        have r0 := HR1.out.cell 0 _ rfl
        clear hp ha0 hok
        go_wp2_with fail
        with_reducible refine (sizeCard_c (by omega)).mono ?_
        rintro e w2 ⟨rfl, rfl⟩
        clear r0
        go_wp2_with fail
        with_reducible refine (columnsWhere_c d.length (by omega) Hcl.out).mono ?_
        rintro e w3 ⟨r, rfl, hr, hb3⟩
        have Hb3 := Lib.hid (Hb1.out.trans (hb3.mono Hb1.out.size))
        have Hr := Lib.hid (hr.mono Hb1.out.size)
        clear hr hb3
        go_wp2
        go_ret2
        rw [E1.out, E2.out]
        exact ⟨_, rfl, Hr.out, Hb3.out⟩
      · have q1 : (c != 0) = true := by simpa using hc0
        have E1 : Hid (strL L wd xs d = []) := Lib.hid (by unfold strL; rw [← Ho.out, Hc.out, if_neg hc0])
        have E2 : Hid (strC (validWs L) wd xs d = c) := Lib.hid (by unfold strC; rw [← Ho.out]; exact Hc.out)
        clear hc0
        go_wp2
        go_ret2
        rw [E1.out, E2.out]
        exact ⟨_, rfl, Own.nil _ _ _ _, Hb1.out⟩
end Go.Proofs.YtkpcdnbjngpooaaGreatDoor
namespace Go.Proofs.YtkpcdnbjngpooaaGreatDoor
open Go.ChangeShapes Go.WideShapes Go.ChangeAt Go.RowKit Go.Sort
set_option linter.unusedVariables false
set_option maxRecDepth 100000
/-- a worker's pay behind others: the code of the first fault, or the pays so far -/
def pyS (x y : ItemT) (d : List (List Int)) : Except Int (List PayT) → WorkerT → Except Int (List PayT)
  | .error c, _ => .error c
  | .ok l, z => match hrF x y z.nm d with
    | none => .error 8
    | some n => if 0 ≤ n ∧ n ≤ 120 then .ok (l ++ [payF z n]) else .error 10
def pyF (x y : ItemT) (d : List (List Int)) (L : List WorkerT) : Except Int (List PayT) := L.foldl (pyS x y d) (.ok [])
theorem pyF_snoc {x y : ItemT} {d : List (List Int)} {L : List WorkerT} {k : Nat} {z : WorkerT} (h : L[k]? = some z) : pyF x y d (L.take (k + 1)) = pyS x y d (pyF x y d (L.take k)) z := by
  unfold pyF; rw [take_snoc h, List.foldl_append]; rfl
theorem pyF_bad {x y : ItemT} {d : List (List Int)} {L : List WorkerT} {k : Nat} {c : Int} (h : pyF x y d (L.take k) = .error c) : pyF x y d L = .error c := by
  have hd : L = L.take k ++ L.drop k := (List.take_append_drop k L).symm
  unfold pyF at h ⊢
  rw [hd, List.foldl_append, h]
  generalize L.drop k = l
  induction l with
  | nil => rfl
  | cons a l ih => exact ih
theorem pyF_len {x y : ItemT} {d : List (List Int)} : ∀ {L : List WorkerT} {l : List PayT}, pyF x y d L = .ok l → l.length = L.length := by
  intro L
  have key : ∀ (L : List WorkerT) (l0 l : List PayT), L.foldl (pyS x y d) (.ok l0) = .ok l → l.length = l0.length + L.length := by
    intro L
    induction L with
    | nil => intro l0 l h; injection h with h; rw [h]; rfl
    | cons z L ih =>
      intro l0 l h
      have hb : ∀ (c : Int) (L : List WorkerT), L.foldl (pyS x y d) (.error c) = .error c := by intro c L; induction L with | nil => rfl | cons a L ih => exact ih
      change L.foldl (pyS x y d) (match hrF x y z.nm d with | none => .error 8 | some n => if 0 ≤ n ∧ n ≤ 120 then .ok (l0 ++ [payF z n]) else .error 10) = _ at h
      cases hq : hrF x y z.nm d with
      | none => rw [hq] at h; simp only at h; rw [hb] at h; cases h
      | some n =>
        rw [hq] at h
        simp only at h
        by_cases hn : 0 ≤ n ∧ n ≤ 120
        · rw [if_pos hn] at h
          rw [ih _ _ h]; simp; omega
        · rw [if_neg hn, hb] at h; cases h
  intro l h
  have := key L [] l h
  simpa using this
theorem pyS_none {x y : ItemT} {d : List (List Int)} {l : List PayT} {z : WorkerT} (h : hrF x y z.nm d = none) : pyS x y d (.ok l) z = .error 8 := by unfold pyS; simp only [h]
theorem pyS_in {x y : ItemT} {d : List (List Int)} {l : List PayT} {z : WorkerT} {s : Int} (h : hrF x y z.nm d = some s) (hs : 0 ≤ s ∧ s ≤ 120) : pyS x y d (.ok l) z = .ok (l ++ [payF z s]) := by unfold pyS; simp only [h]; rw [if_pos hs]
theorem pyS_out {x y : ItemT} {d : List (List Int)} {l : List PayT} {z : WorkerT} {s : Int} (h : hrF x y z.nm d = some s) (hs : ¬ (0 ≤ s ∧ s ≤ 120)) : pyS x y d (.ok l) z = .error 10 := by unfold pyS; simp only [h]; rw [if_neg hs]
def prE (r : Except Int (List PayT)) : Int := match r with
  | .error c => c
  | .ok _ => 0
def prL (r : Except Int (List PayT)) : List PayT := match r with
  | .error _ => []
  | .ok l => l
/-- the payroll, or the code -/
def prR (L : List WorkerT) (wd : Int) (xs : List ItemT) (d : List (List Int)) : Except Int (List PayT) := if payC (validWs L) wd xs d = 0 then pyF (itAt xs whoT) (itAt xs hrsT) d L else .error (payC (validWs L) wd xs d)
theorem validWs_parts {L : List WorkerT} (h : validWs L = true) : L.length ≤ 30 ∧ ∀ x ∈ L, validW x = true := by
  unfold validWs at h
  rw [Bool.and_eq_true, decide_eq_true_eq, List.all_eq_true] at h
  refine ⟨h.2, fun x hx => ?_⟩
  obtain ⟨j, hj, rfl⟩ := List.mem_iff_getElem.1 hx
  have h1 := h.1 j (List.mem_range.2 hj)
  rw [goodAt_of (x := L[j]) (by simp [hj]), Bool.and_eq_true] at h1
  exact h1.1
theorem okPay_payF {x : WorkerT} {h : Int} (hv : validW x = true) (hh : 0 ≤ h ∧ h ≤ 120) : okPay (payF x h) := by
  obtain ⟨_, hr, ht⟩ := validW_parts hv
  have h1 := grossF_bd hr hh
  have h2 := taxF_bd h1 ht
  refine ⟨⟨?_, ?_⟩, ⟨?_, ?_⟩, ⟨?_, ?_⟩, ⟨?_, ?_⟩⟩ <;> simp only [payF] <;> omega
theorem infoPayN : (Tryz.prog.info? 47).map (fun i => (i.zero, i.size, i.bytes)) = some (some (vPay zPay), 4, 32) := by kernel_rfl
set_option maxHeartbeats 2000000 in
theorem PayrollOf_c {L : List WorkerT} {xs : List ItemT} {v u t : Value} {w : World} {A B C : Nat} {d : List (List Int)} (wd : Int) (hL : RdWorkerS C w t L) (ha : RdItemS A w v xs) (hd : RdInt64SS B w u d) :
    Calls Tryz.prog 6 #[t, .agg #[.int .i64 wd, v], u] w fun e w' => ∃ r, e = .returned (.tuple #[r, .int .i64 (prE (prR L wd xs d))]) ∧ OwnPayS w.heap.size w' r (prL (prR L wd xs d)) ∧ Below w.heap.size w w' := by
  obtain ⟨lo, lcap, rfl, hop⟩ := eWorker_open hL
  obtain ⟨ao, cap, rfl⟩ := ha.shape
  obtain ⟨dao, dcap, rfl⟩ := hd.shape
  obtain ⟨W, hW⟩ : ∃ W, W = w.alloc (.cells #[.int .i64 wd, .slice ao xs.length cap] 27) := ⟨_, rfl⟩
  have hb0 : Below w.heap.size w W := by rw [hW]; exact (Below.refl _ _).alloc (Nat.le_refl _) _
  have hQ : Box W w.heap.size [.int .i64 wd, .slice ao xs.length cap] := by rw [hW]; exact Box.new w [.int .i64 wd, .slice ao xs.length cap] 27
  have Ha := Lib.hid (Rds.onn ha hb0)
  have Hd := Lib.hid (RdInt64SS.onn hd hb0)
  have HL := Lib.hid (Rds.onn hL hb0)
  have HW := Lib.hid hW
  have HQ := Lib.hid hQ
  have Hb0 := Lib.hid hb0
  obtain ⟨c, hc⟩ : ∃ c, payC (validWs L) wd xs d = c := ⟨_, rfl⟩
  obtain ⟨a, hia⟩ : ∃ a, payX (validWs L) wd xs d whoT = a := ⟨_, rfl⟩
  obtain ⟨b, hib⟩ : ∃ b, payX (validWs L) wd xs d hrsT = b := ⟨_, rfl⟩
  have Hvw := Lib.hid (fun wx (hw : Below W.heap.size W wx) => ValidWorkers_c (w := wx) (Rds.onn HL.out hw))
  have Hpi := Lib.hid (fun wx (hw : Below W.heap.size W wx) => payItems_c (w := wx) wd (validWs L) (Rds.onn Ha.out hw) (RdInt64SS.onn Hd.out hw))
  rw [hc, hia, hib] at Hpi
  obtain ⟨o, ho⟩ : ∃ o, o = validWs L := ⟨_, rfl⟩
  rw [← ho] at Hpi Hvw hc hia hib
  have Ho := Lib.hid ho
  have Hc := Lib.hid hc
  have Hia := Lib.hid hia
  have Hib := Lib.hid hib
  have Hop := Lib.hid hop
  have q1 := HQ.out.cell 0 _ rfl
  have q2 := HQ.out.cell 1 _ rfl
  have s1 := HQ.out.lt
  clear hQ hb0 hW ha hd hL ho hc hia hib hop
  obtain ⟨i0, hi, hz0, hz1, hz2⟩ := info_parts infoPayN
  go_enter Tryz.func6, Tryz.ntmps6
  go_upto_region 1 with fail
  rw [← HW.out]
  refine wp_region_cel (W := W) (fun i => match i with | 0 => some (.agg #[.int .i64 wd, .slice ao xs.length cap]) | 1 => some (.slice dao d.length dcap) | 2 => some (.slice lo L.length lcap) | 3 => some (.bool o) | 4 => some (.tuple #[vItem a, vItem b, .int .i64 c]) | 5 => some (.tuple #[vItem a, vItem b, .int .i64 c]) | 6 => some (vItem a) | 7 => some (vItem b) | 8 => some (.int .i64 c) | 13 => some (.int .i64 c) | _ => none) [⟨9, 11, zC, itC a⟩, ⟨10, 12, zC, itC b⟩] (by kernel_rfl) (by kernel_rfl) (by kernel_rfl) (by kernel_rfl) ?_ ?_ ?_
  · intro r hr
    simp only [List.mem_cons, List.not_mem_nil, or_false] at hr
    rcases hr with rfl | rfl <;> exact ⟨rfl, rfl, rfl⟩
  · intro vs hvs
    match vs, hvs with
    | [v0, v1, v2, v3, v4, v5, v6, v7, v8, v9, v10, v11, v12, v13], _ =>
      refine ⟨?_, ?_, ?_, ?_, ?_, ?_, ?_, ?_, ?_, ?_, ?_, ?_, ?_, ?_, trivial⟩
      · refine celStep_plain ?_ ?_
        case refine_1 => rfl
        intro wr hC hd
        clear hd
        have e1 := (hC.cell (p := ⟨w.heap.size, 0, none⟩) s1).trans q1
        have e2 := (hC.cell (p := ⟨w.heap.size, 1, none⟩) s1).trans q2
        unfold relAt
        simp only [putAll]
        go_simp
        simp only [relUpon]
        exact ⟨Below.refl _ _, fun u hu => by injection hu⟩
      · refine celStep_plain ?_ ?_
        case refine_1 => rfl
        intro wr hC hd
        clear hd
        unfold relAt
        simp only [putAll]
        go_simp
        simp only [relUpon]
        exact ⟨Below.refl _ _, fun u hu => by injection hu⟩
      · refine celStep_plain ?_ ?_
        case refine_1 => rfl
        intro wr hC hd
        clear hd
        unfold relAt
        simp only [putAll]
        go_simp
        simp only [relUpon]
        exact ⟨Below.refl _ _, fun u hu => by injection hu⟩
      · refine celStep_plain ?_ ?_
        case refine_1 => rfl
        intro wr hC hd
        have d2 : v2 = .slice lo L.length lcap := dep_get 2 _ rfl (by kernel_rfl) hd
        subst d2
        clear hd
        unfold relAt
        simp only [putAll]
        go_simp
        simp only [relUpon]
        refine (Hvw.out _ hC).mono ?_
        rintro e w8 ⟨rfl, hb⟩
        exact ⟨_, rfl, hb, fun u hu => by injection hu⟩
      · refine celStep_plain ?_ ?_
        case refine_1 => rfl
        intro wr hC hd
        have d0 : v0 = .agg #[.int .i64 wd, .slice ao xs.length cap] := dep_get 0 _ rfl (by kernel_rfl) hd
        subst d0
        have d1 : v1 = .slice dao d.length dcap := dep_get 1 _ rfl (by kernel_rfl) hd
        subst d1
        have d3 : v3 = .bool o := dep_get 3 _ rfl (by kernel_rfl) hd
        subst d3
        clear hd
        unfold relAt
        simp only [putAll]
        go_simp
        simp only [relUpon]
        refine (Hpi.out _ hC).mono ?_
        rintro e w8 ⟨rfl, hb⟩
        exact ⟨_, rfl, hb, fun u hu => by injection hu⟩
      · refine celStep_plain ?_ ?_
        case refine_1 => rfl
        intro wr hC hd
        have d4 : v4 = .tuple #[vItem a, vItem b, .int .i64 c] := dep_get 4 _ rfl (by kernel_rfl) hd
        subst d4
        clear hd
        unfold relAt
        simp only [putAll]
        go_simp
        simp only [relUpon]
        exact ⟨Below.refl _ _, fun u hu => by injection hu⟩
      · refine celStep_plain ?_ ?_
        case refine_1 => rfl
        intro wr hC hd
        have d5 : v5 = .tuple #[vItem a, vItem b, .int .i64 c] := dep_get 5 _ rfl (by kernel_rfl) hd
        subst d5
        clear hd
        unfold relAt
        simp only [putAll]
        go_simp
        simp only [relUpon]
        exact ⟨Below.refl _ _, fun u hu => by injection hu⟩
      · refine celStep_plain ?_ ?_
        case refine_1 => rfl
        intro wr hC hd
        have d5 : v5 = .tuple #[vItem a, vItem b, .int .i64 c] := dep_get 5 _ rfl (by kernel_rfl) hd
        subst d5
        clear hd
        unfold relAt
        simp only [putAll]
        go_simp
        simp only [relUpon]
        exact ⟨Below.refl _ _, fun u hu => by injection hu⟩
      · refine celStep_plain ?_ ?_
        case refine_1 => rfl
        intro wr hC hd
        have d5 : v5 = .tuple #[vItem a, vItem b, .int .i64 c] := dep_get 5 _ rfl (by kernel_rfl) hd
        subst d5
        clear hd
        unfold relAt
        simp only [putAll]
        go_simp
        simp only [relUpon]
        exact ⟨Below.refl _ _, fun u hu => by injection hu⟩
      · refine celStep_lay ⟨9, 11, zC, itC a⟩ ?_ ?_
        case refine_1 => rfl
        intro wr
        unfold relAt
        simp only [putAll]
        go_simp
        simp only [relUpon]
        exact ⟨by first | trivial | rfl, _, rfl⟩
      · refine celStep_lay ⟨10, 12, zC, itC b⟩ ?_ ?_
        case refine_1 => rfl
        intro wr
        unfold relAt
        simp only [putAll]
        go_simp
        simp only [relUpon]
        exact ⟨by first | trivial | rfl, _, rfl⟩
      · have hc9 : clsOf [⟨9, 11, zC, itC a⟩, ⟨10, 12, zC, itC b⟩] 11 = .put ⟨9, 11, zC, itC a⟩ := by rfl
        generalize hcc : clsOf _ _ = cc
        replace hcc : cc = .put ⟨9, 11, zC, itC a⟩ := hcc.symm.trans hc9
        clear hc9
        generalize hax : putAll _ _ _ = ax
        refine celStep_put ⟨9, 11, zC, itC a⟩ hcc ?_
        intro wr X hX hd hB
        rw [← hax]
        clear hax hcc
        replace hX : v9 = .pointer (some ⟨X, 0, none⟩) := hX
        subst hX
        have d6 : v6 = vItem a := dep_get 6 _ rfl (by kernel_rfl) hd
        subst d6
        clear hd
        have b0 := hB.cell 0 _ rfl
        have b1 := hB.cell 1 _ rfl
        have b2 := hB.cell 2 _ rfl
        have b3 := hB.cell 3 _ rfl
        have bl := hB.lt
        have bf0 := hB.free 0
        have bf1 := hB.free 1
        have bf2 := hB.free 2
        have bf3 := hB.free 3
        unfold relAt
        simp only [putAll]
        go_simp
        simp only [relUpon]
        rfl
      · have hc9 : clsOf [⟨9, 11, zC, itC a⟩, ⟨10, 12, zC, itC b⟩] 12 = .put ⟨10, 12, zC, itC b⟩ := by rfl
        generalize hcc : clsOf _ _ = cc
        replace hcc : cc = .put ⟨10, 12, zC, itC b⟩ := hcc.symm.trans hc9
        clear hc9
        generalize hax : putAll _ _ _ = ax
        refine celStep_put ⟨10, 12, zC, itC b⟩ hcc ?_
        intro wr X hX hd hB
        rw [← hax]
        clear hax hcc
        replace hX : v10 = .pointer (some ⟨X, 0, none⟩) := hX
        subst hX
        have d7 : v7 = vItem b := dep_get 7 _ rfl (by kernel_rfl) hd
        subst d7
        clear hd
        have b0 := hB.cell 0 _ rfl
        have b1 := hB.cell 1 _ rfl
        have b2 := hB.cell 2 _ rfl
        have b3 := hB.cell 3 _ rfl
        have bl := hB.lt
        have bf0 := hB.free 0
        have bf1 := hB.free 1
        have bf2 := hB.free 2
        have bf3 := hB.free 3
        unfold relAt
        simp only [putAll]
        go_simp
        simp only [relUpon]
        rfl
      · refine celStep_plain ?_ ?_
        case refine_1 => rfl
        intro wr hC hd
        have d8 : v8 = .int .i64 c := dep_get 8 _ rfl (by kernel_rfl) hd
        subst d8
        clear hd
        unfold relAt
        simp only [putAll]
        go_simp
        simp only [relUpon]
        exact ⟨Below.refl _ _, fun u hu => by injection hu⟩
  · intro vs wq hvs hC hI hR
    match vs, hvs, hI, hR with
    | [v0, v1, v2, v3, v4, v5, v6, v7, v8, v9, v10, v11, v12, v13], _, hI, hR =>
      have d0 : v0 = .agg #[.int .i64 wd, .slice ao xs.length cap] := hI 0 (by decide) _ rfl
      subst d0
      have d1 : v1 = .slice dao d.length dcap := hI 1 (by decide) _ rfl
      subst d1
      have d2 : v2 = .slice lo L.length lcap := hI 2 (by decide) _ rfl
      subst d2
      have d3 : v3 = .bool o := hI 3 (by decide) _ rfl
      subst d3
      have d4 : v4 = .tuple #[vItem a, vItem b, .int .i64 c] := hI 4 (by decide) _ rfl
      subst d4
      have d5 : v5 = .tuple #[vItem a, vItem b, .int .i64 c] := hI 5 (by decide) _ rfl
      subst d5
      have d6 : v6 = vItem a := hI 6 (by decide) _ rfl
      subst d6
      have d7 : v7 = vItem b := hI 7 (by decide) _ rfl
      subst d7
      have d8 : v8 = .int .i64 c := hI 8 (by decide) _ rfl
      subst d8
      have d13 : v13 = .int .i64 c := hI 13 (by decide) _ rfl
      subst d13
      obtain ⟨X0, hX0, lX0, bX0⟩ := hR ⟨9, 11, zC, itC a⟩ (List.mem_cons_self ..)
      replace hX0 : v9 = .pointer (some ⟨X0, 0, none⟩) := hX0
      subst hX0
      obtain ⟨X1, hX1, lX1, bX1⟩ := hR ⟨10, 12, zC, itC b⟩ (List.mem_cons_of_mem _ (List.mem_cons_self ..))
      replace hX1 : v10 = .pointer (some ⟨X1, 0, none⟩) := hX1
      subst hX1
      clear hI hR
      simp only [putAll]
      go_simp
      have Hb1 := Lib.hid (Hb0.out.trans (hC.mono Hb0.out.size))
      have Hd1 := Lib.hid (RdInt64SS.onn Hd.out hC)
      have HL1 := Lib.hid (Rds.onn HL.out hC)
      have HX1 := Lib.hid bX0
      have HY1 := Lib.hid bX1
      clear hC bX0 bX1 lX0 lX1 q1 q2
      by_cases hc0 : c = 0
      · subst hc0
        have hp := payC_ok Hc.out
        have ha0 : itAt xs whoT = a := by rw [← Hia.out]; unfold payX; rw [if_pos Hc.out]
        have hb0 : itAt xs hrsT = b := by rw [← Hib.out]; unfold payX; rw [if_pos Hc.out]
        have hok := hrOk_of hp
        rw [ha0, hb0] at hok
        have Hok := Lib.hid hok
        have hvl := validWs_parts (L := L) (by rw [← Ho.out]; exact hp.ok)
        have Hvl := Lib.hid hvl
        have E1 : Hid (prR L wd xs d = pyF a b d L) := Lib.hid (by unfold prR; rw [← Ho.out, if_pos Hc.out, ha0, hb0])
        have HR0 : Hid (OwnPayS wq.heap.size (wq.alloc (.cells #[] 47)) (.slice (some ⟨wq.heap.size, 0, none⟩) 0 0) []) := Lib.hid (Own.lit (E := ePay) (xs := []) (cs := #[]) (Nat.le_refl _) rfl rfl (by decide) (fun x hx => by cases hx))
        have HB0 : Hid (Below wq.heap.size wq (wq.alloc (.cells #[] 47))) := Lib.hid ((Below.refl _ _).alloc (Nat.le_refl _) _)
        obtain ⟨n, hn⟩ : ∃ n, n = L.length := ⟨_, rfl⟩
        rw [← hn]
        have hn30 : n ≤ 30 := by rw [hn]; exact hvl.1
        have Hn := Lib.hid hn
        clear hp ha0 hb0 hok hvl hn
        go_wp2
        go_loopw [11, 31] (fun ov i wr => ∃ (k : Nat) (l : List PayT), k ≤ n ∧ i = .int .i64 k ∧ Hid (pyF a b d (L.take k) = .ok l) ∧ OwnPayS wq.heap.size wr ov l ∧ Below wq.heap.size wq wr) (fun _ i _ => n - (intOf i).toNat)
        case atStart => exact ⟨0, [], Nat.zero_le _, rfl, Lib.hid rfl, HR0.out, HB0.out⟩
        case round =>
          obtain ⟨k, l, hk, rfl, hst, hR, hbb⟩ := hrel
          clear HR0 HB0
          by_cases hkn : k < n
          · obtain ⟨lb, loff, rfl, hlt, hcs⟩ := Hop.out (by have := Hn.out; omega)
            obtain ⟨z, hz, ⟨c0, c1, c2⟩, bz⟩ := hcs k (by have := Hn.out; omega)
            have hbw := Hb1.out.trans (hbb.mono Hb1.out.size)
            have d0 := (hbw.cell (p := ⟨lb, loff + k * 3, none⟩) hlt.2).trans c0
            have d1 := (hbw.cell (p := ⟨lb, loff + k * 3 + 1, none⟩) hlt.2).trans c1
            have d2 := (hbw.cell (p := ⟨lb, loff + k * 3 + 2, none⟩) hlt.2).trans c2
            have HXr := Lib.hid (HX1.out.on hbb)
            have HYr := Lib.hid (HY1.out.on hbb)
            have x0 := HXr.out.cell 0 _ rfl
            have x1 := HXr.out.cell 1 _ rfl
            have x2 := HXr.out.cell 2 _ rfl
            have x3 := HXr.out.cell 3 _ rfl
            have y0 := HYr.out.cell 0 _ rfl
            have y1 := HYr.out.cell 1 _ rfl
            have y2 := HYr.out.cell 2 _ rfl
            have y3 := HYr.out.cell 3 _ rfl
            have xl := HXr.out.lt
            have yl := HYr.out.lt
            have hzv := Hvl.out.2 z (List.mem_of_getElem? hz)
            have hll : l.length ≤ k := by rw [pyF_len hst.out]; exact List.length_take_le _ _
            obtain ⟨ro, rc, hro⟩ := hR.shape
            subst hro
            obtain ⟨W2, hW2⟩ : ∃ W2, W2 = wr.alloc (.cells #[.string z.nm, .int .i64 z.rate, .int .i64 z.tax] 49) := ⟨_, rfl⟩
            have hb2 : Below wr.heap.size wr W2 := by rw [hW2]; exact (Below.refl _ _).alloc (Nat.le_refl _) _
            have hZ2 : Box W2 wr.heap.size [.string z.nm, .int .i64 z.rate, .int .i64 z.tax] := by rw [hW2]; exact Box.new wr [.string z.nm, .int .i64 z.rate, .int .i64 z.tax] 49
            have HZ2 := Lib.hid hZ2
            have HW2 := Lib.hid hW2
            have Hd2 := Lib.hid (RdInt64SS.onn (RdInt64SS.onn Hd1.out hbb) hb2)
            have HR2 := Lib.hid (Own.below hR hb2 (Nat.le_refl _))
            have Hb2 := Lib.hid (hbb.trans (hb2.mono hbb.size))
            have Hz := Lib.hid hz
            have Hbz := Lib.hid bz
            have Hzv := Lib.hid hzv
            have Hst := Lib.hid (show pyF a b d (L.take (k + 1)) = pyS a b d (.ok l) z by rw [pyF_snoc hz, hst.out])
            have hnz : z.nm.size ≤ 9223372036854775807 := bz.1
            clear hcs hz c0 c1 c2 bz hbw hzv hR hb2 hZ2 hW2 hbb
            go_wp2_with fail
            rw [← HW2.out]
            with_reducible refine (hoursFrom_c z.nm hnz Hok.out Hd2.out).mono ?_
            cases hf : hrF a b z.nm d with
            | none =>
              have E : Hid (pyF a b d L = .error 8) := Lib.hid (pyF_bad (k := k + 1) (by rw [Hst.out]; exact pyS_none hf))
              clear hf
              rw [show hrV none = 0 from rfl, show hrC none = 8 from rfl]
              rintro e w3 ⟨rfl, hb3⟩
              have Hb3 := Lib.hid (Hb1.out.trans ((Hb2.out.trans (hb3.mono Hb2.out.size)).mono Hb1.out.size))
              clear hb3
              go_wp2
              go_ret2
              rw [E1.out, E.out]
              exact ⟨_, rfl, Own.nil _ _ _ _, Hb3.out⟩
            | some s =>
              by_cases hs : 0 ≤ s ∧ s ≤ 120
              · have E : Hid (pyF a b d (L.take (k + 1)) = .ok (l ++ [payF z s])) := Lib.hid (by rw [Hst.out]; exact pyS_in hf hs)
                have Hs := Lib.hid hs
                clear hf hs
                rw [show hrV (some s) = s from rfl, show hrC (some s) = 0 from rfl]
                rintro e w3 ⟨rfl, hb3⟩
                have Hb3 := Lib.hid (Hb2.out.trans (hb3.mono Hb2.out.size))
                have HR3 := Lib.hid (Own.below HR2.out hb3 (Nat.le_refl _))
                have HZ3 := Lib.hid (HZ2.out.on hb3)
                clear hb3
                have z0 := HZ3.out.cell 0 _ rfl
                have z1 := HZ3.out.cell 1 _ rfl
                have z2 := HZ3.out.cell 2 _ rfl
                go_wp2_with fail
                with_reducible refine (areHours_yes _ _ Hs.out).mono ?_
                rintro e w' ⟨rfl, rfl⟩
                go_wp2_with fail
                with_reducible refine (payFor_c z s _ Hzv.out Hs.out).mono ?_
                have Hpo := Lib.hid (okPay_payF Hzv.out Hs.out)
                obtain ⟨p, hp⟩ : ∃ p, p = payF z s := ⟨_, rfl⟩
                rw [← hp] at E Hpo ⊢
                clear hp
                rintro e w4 ⟨rfl, hb4⟩
                have Hb4 := Lib.hid (Hb3.out.trans (hb4.mono Hb3.out.size))
                have HR4 := Lib.hid (Own.below HR3.out hb4 (Nat.le_refl _))
                clear hb4 z0 z1 z2 x0 x1 x2 x3 y0 y1 y2 y3 d0 d1 d2
                go_wp2_with (first | (at_builtin; refine wpList_appS (E := ePay) rfl _ _ 31 rfl Tryz.underlying31 hi hz0 hz1 hz2 rfl (by decide) rfl rfl (HR4.out.alloc _) (rds_one (E := ePay) (x := p) Hpo.out rfl) ?b1 ?b2 ?b3 ?_))
                case b1 => unfold maxLen; (try simp) <;> omega
                case b2 => (try simp) <;> omega
                case b3 => have := Hb4.out.size; have := Hb1.out.size; (try simp) <;> omega
                intro v5 w5 hR5 hg
                have hsz : w.heap.size ≤ w4.heap.size := by have := Hb4.out.size; have := Hb1.out.size; omega
                have hb5 : Below wq.heap.size wq w5 := hg.alloc.below Hb4.out Hb4.out.size (fun j hj => (HR4.out.lt j hj).1)
                have HR5 := Lib.hid hR5
                have HB5 := Lib.hid hb5
                clear hR5 hg hb5
                go_wp2
                go_roundw
                case rel => exact ⟨k + 1, l ++ [p], by omega, by go_num, E, HR5.out, HB5.out⟩
                case measure => simp [intOf]; omega
              · have E : Hid (pyF a b d L = .error 10) := Lib.hid (pyF_bad (k := k + 1) (by rw [Hst.out]; exact pyS_out hf hs))
                have Hs := Lib.hid (show s < 0 ∨ 120 < s by omega)
                clear hf hs
                rw [show hrV (some s) = s from rfl, show hrC (some s) = 0 from rfl]
                rintro e w3 ⟨rfl, hb3⟩
                have Hb3 := Lib.hid (Hb1.out.trans ((Hb2.out.trans (hb3.mono Hb2.out.size)).mono Hb1.out.size))
                clear hb3
                go_wp2_with fail
                with_reducible refine (areHours_no _ _ Hs.out).mono ?_
                rintro e w' ⟨rfl, rfl⟩
                go_wp2
                go_ret2
                rw [E1.out, E.out]
                exact ⟨_, rfl, Own.nil _ _ _ _, Hb3.out⟩
          · obtain rfl : k = n := by omega
            have hf := hst.out
            rw [List.take_of_length_le (by have := Hn.out; omega)] at hf
            have Hf := Lib.hid hf
            have HB := Lib.hid (Hb1.out.trans (hbb.mono Hb1.out.size))
            have HR := Lib.hid (hR.mono Hb1.out.size)
            obtain ⟨ro, rc, hro⟩ := hR.shape
            subst hro
            clear hf hst hbb hR
            go_wp2
            go_ret2
            rw [E1.out, Hf.out]
            exact ⟨_, rfl, HR.out, HB.out⟩
      · have q1 : (c != 0) = true := by simpa using hc0
        have E1 : Hid (prR L wd xs d = .error c) := Lib.hid (by unfold prR; rw [← Ho.out, Hc.out, if_neg hc0])
        clear hc0
        go_wp2
        go_ret2
        rw [E1.out]
        exact ⟨_, rfl, Own.nil _ _ _ _, Hb1.out⟩
end Go.Proofs.YtkpcdnbjngpooaaGreatDoor
namespace Go.Proofs.YtkpcdnbjngpooaaGreatDoor
open Go.ChangeShapes Go.WideShapes Go.ChangeAt Go.RowKit
set_option linter.unusedVariables false
set_option maxRecDepth 100000
theorem pyF_at {x y : ItemT} {d : List (List Int)} : ∀ {L : List WorkerT} {l : List PayT}, pyF x y d L = .ok l → ∀ (i : Nat) (z : WorkerT), L[i]? = some z → ∃ n, hrF x y z.nm d = some n ∧ (0 ≤ n ∧ n ≤ 120) ∧ l[i]? = some (payF z n) := by
  have key : ∀ (L : List WorkerT) (l0 l : List PayT), L.foldl (pyS x y d) (.ok l0) = .ok l → ∃ l1, l = l0 ++ l1 ∧ ∀ (i : Nat) (z : WorkerT), L[i]? = some z → ∃ n, hrF x y z.nm d = some n ∧ (0 ≤ n ∧ n ≤ 120) ∧ l1[i]? = some (payF z n) := by
    intro L
    induction L with
    | nil => intro l0 l h; injection h with h; exact ⟨[], by rw [h, List.append_nil], fun i z hz => by cases hz⟩
    | cons z L ih =>
      intro l0 l h
      have hb : ∀ (c : Int) (L : List WorkerT), L.foldl (pyS x y d) (.error c) = .error c := by intro c L; induction L with | nil => rfl | cons a L ih => exact ih
      rw [List.foldl_cons] at h
      cases hq : hrF x y z.nm d with
      | none => rw [pyS_none hq, hb] at h; cases h
      | some n =>
        by_cases hn : 0 ≤ n ∧ n ≤ 120
        · rw [pyS_in hq hn] at h
          obtain ⟨l1, hl, hi⟩ := ih _ _ h
          refine ⟨payF z n :: l1, by rw [hl, List.append_assoc]; rfl, fun i u hu => ?_⟩
          cases i with
          | zero => obtain rfl : z = u := Option.some.inj hu; exact ⟨n, hq, hn, rfl⟩
          | succ i => exact hi i u hu
        · rw [pyS_out hq hn, hb] at h; cases h
  intro L l h i z hz
  obtain ⟨l1, hl, hi⟩ := key L [] l h
  rw [List.nil_append] at hl
  rw [hl]
  exact hi i z hz
/-- a payroll that stands pays each worker the hours on the cards -/
theorem payroll_law {L : List WorkerT} {wd : Int} {xs : List ItemT} {d : List (List Int)} (h : prE (prR L wd xs d) = 0) (i : Nat) (z : WorkerT) (hz : L[i]? = some z) :
    hoursC wd xs d z.nm = 0 ∧ validW z = true ∧ (0 ≤ hoursV wd xs d z.nm ∧ hoursV wd xs d z.nm ≤ 120) ∧ (prL (prR L wd xs d))[i]? = some (payF z (hoursV wd xs d z.nm)) := by
  by_cases hp : payC (validWs L) wd xs d = 0
  · have hok := payC_ok hp
    have hv : validWs L = true := hok.ok
    have hp2 : payC true wd xs d = 0 := by rw [← hv]; exact hp
    have e : prR L wd xs d = pyF (itAt xs whoT) (itAt xs hrsT) d L := if_pos hp
    rw [e] at h ⊢
    cases hq : pyF (itAt xs whoT) (itAt xs hrsT) d L with
    | error c =>
      exfalso
      have key : ∀ (L : List WorkerT) (r : Except Int (List PayT)), (∀ c, r = .error c → c = 8 ∨ c = 10) → ∀ c, L.foldl (pyS (itAt xs whoT) (itAt xs hrsT) d) r = .error c → c = 8 ∨ c = 10 := by
        intro L
        induction L with
        | nil => intro r hr c hc; exact hr c hc
        | cons u L ih =>
          intro r hr c hc
          refine ih _ ?_ c hc
          intro c' hc'
          cases r with
          | error c0 => exact hr c' hc'
          | ok l0 =>
            cases hh : hrF (itAt xs whoT) (itAt xs hrsT) u.nm d with
            | none => rw [pyS_none hh] at hc'; injection hc' with hc'; exact .inl hc'.symm
            | some n =>
              by_cases hn : 0 ≤ n ∧ n ≤ 120
              · rw [pyS_in hh hn] at hc'; cases hc'
              · rw [pyS_out hh hn] at hc'; injection hc' with hc'; exact .inr hc'.symm
      have := key L (.ok []) (fun c hc => by cases hc) c hq
      rw [hq] at h
      have h2 : c = 0 := h
      omega
    | ok l =>
      obtain ⟨n, h1, h2, h3⟩ := pyF_at hq i z hz
      have e1 : hoursV wd xs d z.nm = n := by unfold hoursV; rw [if_pos hp2, h1]; rfl
      have e2 : hoursC wd xs d z.nm = 0 := by unfold hoursC; rw [if_pos hp2, h1]; rfl
      rw [e1]
      exact ⟨e2, (validWs_parts hv).2 z (List.mem_of_getElem? hz), h2, h3⟩
  · exfalso
    have e : prR L wd xs d = .error (payC (validWs L) wd xs d) := if_neg hp
    rw [e] at h
    exact hp h
end Go.Proofs.YtkpcdnbjngpooaaGreatDoor
namespace Go.Proofs.YtkpcdnbjngpooaaGreatDoor
open Go.ChangeShapes Go.WideShapes Go.ChangeAt Go.RowKit Go.Sort
set_option linter.unusedVariables false
set_option maxRecDepth 100000
theorem payC_false {w : Int} {xs : List ItemT} {d : List (List Int)} : payC false w xs d = 1 := if_neg (fun h => by cases h.2.1)
set_option maxHeartbeats 2000000 in
theorem sPayrollOf_c {L : List WorkerT} {xs : List ItemT} {v u t : Value} {w : World} {A B C : Nat} {d : List (List Int)} (wd : Int) (hL : RdWorkerS C w t L) (ha : RdItemS A w v xs) (hd : RdInt64SS B w u d) :
    Calls Tryz.prog 7 #[t, .agg #[.int .i64 wd, v], u] w fun e w' => ∃ r, e = .returned (.tuple #[r, .int .i64 (prE (prR L wd xs d))]) ∧ OwnPayS w.heap.size w' r (prL (prR L wd xs d)) ∧ Below w.heap.size w w' := by
  obtain ⟨i0, hi, hz0, hz1, hz2⟩ := info_parts infoPayN
  have hll := hL.le
  obtain ⟨W, hW⟩ : ∃ W, W = w.alloc (.cells #[.int .i64 wd, v] 27) := ⟨_, rfl⟩
  have hb0 : Below w.heap.size w W := by rw [hW]; exact (Below.refl _ _).alloc (Nat.le_refl _) _
  have hP : Box W w.heap.size [.int .i64 wd, v] := by rw [hW]; exact Box.new w [.int .i64 wd, v] 27
  have Ha := Lib.hid (Rds.onn ha hb0)
  have Hd := Lib.hid (RdInt64SS.onn hd hb0)
  have HL := Lib.hid (Rds.onn hL hb0)
  have Hb0 := Lib.hid hb0
  have HW := Lib.hid hW
  have HP := Lib.hid hP
  obtain ⟨lo, lcap, rfl, hop⟩ := eWorker_open hL
  obtain ⟨ao, cap, rfl⟩ := ha.shape
  obtain ⟨dao, dcap, rfl⟩ := hd.shape
  obtain ⟨n, hn⟩ : ∃ n, n = L.length := ⟨_, rfl⟩
  rw [← hn] at hop HL hll ⊢
  have Hn := Lib.hid hn
  have Hop := Lib.hid hop
  clear ha hd hb0 hW hP hL hop hn
  go_enter Tryz.func7, Tryz.ntmps7
  go_wp2_with fail
  rw [← HW.out]
  with_reducible refine (l23Ok_c HL.out).mono ?_
  cases hv : validWs L with
  | false =>
    have E : Hid (prR L wd xs d = .error 1) := Lib.hid (by unfold prR; rw [hv, payC_false]; rfl)
    clear hv
    rintro e w1 ⟨rfl, m, rfl⟩
    go_wp2
    go_ret2
    rw [E.out]
    exact ⟨_, rfl, Own.nil _ _ _ _, Hb0.out.drewNy _⟩
  | true =>
    have Hv := Lib.hid hv
    clear hv
    rintro e w1 ⟨rfl, m, rfl⟩
    have HP1 := Lib.hid (HP.out.drewN m)
    have Ha1 := Lib.hid (Ha.out.drewN m)
    have Hd1 : Hid (RdInt64SS (W.drewN m).heap.size (W.drewN m) (.slice dao d.length dcap) d) := Lib.hid (RdInt64SS.onn Hd.out ((Below.refl _ _).drewNy m))
    have Hb1 := Lib.hid (Hb0.out.drewNy m)
    obtain ⟨W1, hW1⟩ : ∃ W1, W1 = W.drewN m := ⟨_, rfl⟩
    rw [← hW1] at HP1 Ha1 Hd1 Hb1 ⊢
    clear hW1 HP Ha Hd HL Hb0 HW
    go_wp2_with fail
    with_reducible refine (l23Items_c wd HP1.out Ha1.out Hd1.out).mono ?_
    by_cases hc : payC true wd xs d = 0
    · obtain ⟨k1, k2, x, y, h1, h2, hx, hy, e1, e2, hok⟩ := it_places hc
      rw [hc, h1, h2]
      have E1 : Hid (prR L wd xs d = pyF x y d L) := Lib.hid (by unfold prR; rw [Hv.out, if_pos hc, e1, e2])
      have hvl := validWs_parts (L := L) Hv.out
      have hn30 : n ≤ 30 := by have := Hn.out; omega
      have Hvl := Lib.hid hvl
      have Hx := Lib.hid hx
      have Hy := Lib.hid hy
      have Hok := Lib.hid hok
      clear hc h1 h2 hx hy e1 e2 hok hvl
      rintro e w2 ⟨rfl, hb⟩
      have Hb2 := Lib.hid (Hb1.out.trans (hb.mono Hb1.out.size))
      have Hd2 := Lib.hid (RdInt64SS.onn Hd1.out hb)
      have Ha2 := Lib.hid (Rds.onn Ha1.out hb)
      have HP2 := Lib.hid (HP1.out.on hb)
      have HR0 : Hid (OwnPayS w2.heap.size (w2.alloc (.cells #[] 47)) (.slice (some ⟨w2.heap.size, 0, none⟩) 0 0) []) := Lib.hid (Own.lit (E := ePay) (xs := []) (cs := #[]) (Nat.le_refl _) rfl rfl (by decide) (fun x hx => by cases hx))
      have HB0 : Hid (Below w2.heap.size w2 (w2.alloc (.cells #[] 47))) := Lib.hid ((Below.refl _ _).alloc (Nat.le_refl _) _)
      clear hb Hd1 Ha1 HP1 Hb1
      go_wp2
      go_loopw [11, 12] (fun ov i wr => ∃ (k : Nat) (l : List PayT), k ≤ n ∧ i = .int .i64 k ∧ Hid (pyF x y d (L.take k) = .ok l) ∧ OwnPayS w2.heap.size wr ov l ∧ Below w2.heap.size w2 wr) (fun _ i _ => n - (intOf i).toNat)
      case atStart => exact ⟨0, [], Nat.zero_le _, rfl, Lib.hid rfl, HR0.out, HB0.out⟩
      case round =>
        obtain ⟨k, l, hk, rfl, hst, hR, hbb⟩ := hrel
        clear HR0 HB0
        by_cases hkn : k < n
        · obtain ⟨lb, loff, rfl, hlt, hcs⟩ := Hop.out (by have := Hn.out; omega)
          obtain ⟨z, hz, ⟨c0, c1, c2⟩, bz⟩ := hcs k (by have := Hn.out; omega)
          have hbw := Hb2.out.trans (hbb.mono Hb2.out.size)
          have d0 := (hbw.cell (p := ⟨lb, loff + k * 3, none⟩) hlt.2).trans c0
          have d1 := (hbw.cell (p := ⟨lb, loff + k * 3 + 1, none⟩) hlt.2).trans c1
          have d2 := (hbw.cell (p := ⟨lb, loff + k * 3 + 2, none⟩) hlt.2).trans c2
          have hlbw : lb < wr.heap.size := by have := hbw.size; have := hlt.2; omega
          have hzv := Hvl.out.2 z (List.mem_of_getElem? hz)
          have hll2 : l.length ≤ k := by rw [pyF_len hst.out]; exact List.length_take_le _ _
          obtain ⟨ro, rc, hro⟩ := hR.shape
          subst hro
          have Hd3 := Lib.hid (RdInt64SS.onn Hd2.out hbb)
          have Ha3 := Lib.hid (Rds.onn Ha2.out hbb)
          have HP3 := Lib.hid (HP2.out.on hbb)
          have HR3 := Lib.hid hR
          have Hbb := Lib.hid hbb
          have Hz := Lib.hid hz
          have Hzv := Lib.hid hzv
          have Hst := Lib.hid (show pyF x y d (L.take (k + 1)) = pyS x y d (.ok l) z by rw [pyF_snoc hz, hst.out])
          have hnz : z.nm.size ≤ 9223372036854775807 := bz.1
          have D1 := Lib.hid d1
          have D2 := Lib.hid d2
          clear hcs hz c0 c1 c2 bz hbw hzv hR hbb hst hlt
          go_wp2_with fail
          with_reducible refine (l23Sum_c wd z.nm hnz HP3.out Ha3.out Hx.out Hy.out Hok.out Hd3.out).mono ?_
          clear d0 d1 d2
          cases hf : hrF x y z.nm d with
          | none =>
            have E : Hid (pyF x y d L = .error 8) := Lib.hid (pyF_bad (k := k + 1) (by rw [Hst.out]; exact pyS_none hf))
            clear hf
            rw [show hrV none = 0 from rfl, show hrC none = 8 from rfl]
            rintro e w3 ⟨rfl, hb3⟩
            have Hb3 := Lib.hid (Hb2.out.trans ((Hbb.out.trans (hb3.mono Hbb.out.size)).mono Hb2.out.size))
            clear hb3
            go_wp2
            go_ret2
            rw [E1.out, E.out]
            exact ⟨_, rfl, Own.nil _ _ _ _, Hb3.out⟩
          | some s =>
            by_cases hs : 0 ≤ s ∧ s ≤ 120
            · have E : Hid (pyF x y d (L.take (k + 1)) = .ok (l ++ [payF z s])) := Lib.hid (by rw [Hst.out]; exact pyS_in hf hs)
              have Hs := Lib.hid hs
              clear hf hs
              rw [show hrV (some s) = s from rfl, show hrC (some s) = 0 from rfl]
              rintro e w3 ⟨rfl, hb3⟩
              have Hb3 := Lib.hid (Hbb.out.trans (hb3.mono Hbb.out.size))
              have HR4 := Lib.hid (Own.below HR3.out hb3 (Nat.le_refl _))
              have d1 := (hb3.cell (p := ⟨lb, loff + k * 3 + 1, none⟩) hlbw).trans D1.out
              have d2 := (hb3.cell (p := ⟨lb, loff + k * 3 + 2, none⟩) hlbw).trans D2.out
              have Hpay := Lib.hid (l23Pay_c z s w3 Hzv.out Hs.out d1 d2)
              clear hb3 d1 d2
              go_wp2_with fail
              with_reducible refine (l23Hours_yes _ _ Hs.out).mono ?_
              rintro e w' ⟨rfl, rfl⟩
              go_wp2_with fail
              with_reducible refine Hpay.out.mono ?_
              have Hpo := Lib.hid (okPay_payF Hzv.out Hs.out)
              obtain ⟨p, hp⟩ : ∃ p, p = payF z s := ⟨_, rfl⟩
              rw [← hp] at E Hpo ⊢
              clear hp
              rintro e w4 ⟨rfl, hb4⟩
              have Hb4 := Lib.hid (Hb3.out.trans (hb4.mono Hb3.out.size))
              have HR5 := Lib.hid (Own.below HR4.out hb4 (Nat.le_refl _))
              clear hb4 Hpay
              go_wp2_with (first | (at_builtin; refine wpList_appS (E := ePay) rfl _ _ 31 rfl Tryz.underlying31 hi hz0 hz1 hz2 rfl (by decide) rfl rfl (HR5.out.alloc _) (rds_one (E := ePay) (x := p) Hpo.out rfl) ?b1 ?b2 ?b3 ?_))
              case b1 => unfold maxLen; (try simp) <;> omega
              case b2 => (try simp) <;> omega
              case b3 => have := Hb4.out.size; (try simp) <;> omega
              intro v5 w5 hR5 hg
              have hb5 : Below w2.heap.size w2 w5 := hg.alloc.below Hb4.out Hb4.out.size (fun j hj => (HR5.out.lt j hj).1)
              have HR6 := Lib.hid hR5
              have HB5 := Lib.hid hb5
              clear hR5 hg hb5
              go_wp2
              go_roundw
              case rel => exact ⟨k + 1, l ++ [p], by omega, by go_num, E, HR6.out, HB5.out⟩
              case measure => simp [intOf]; omega
            · have E : Hid (pyF x y d L = .error 10) := Lib.hid (pyF_bad (k := k + 1) (by rw [Hst.out]; exact pyS_out hf hs))
              have Hs := Lib.hid (show s < 0 ∨ 120 < s by omega)
              clear hf hs
              rw [show hrV (some s) = s from rfl, show hrC (some s) = 0 from rfl]
              rintro e w3 ⟨rfl, hb3⟩
              have Hb3 := Lib.hid (Hb2.out.trans ((Hbb.out.trans (hb3.mono Hbb.out.size)).mono Hb2.out.size))
              clear hb3
              go_wp2_with fail
              with_reducible refine (l23Hours_no _ _ Hs.out).mono ?_
              rintro e w' ⟨rfl, rfl⟩
              go_wp2
              go_ret2
              rw [E1.out, E.out]
              exact ⟨_, rfl, Own.nil _ _ _ _, Hb3.out⟩
        · obtain rfl : k = n := by omega
          have hf := hst.out
          rw [List.take_of_length_le (by have := Hn.out; omega)] at hf
          have Hf := Lib.hid hf
          have HB := Lib.hid (Hb2.out.trans (hbb.mono Hb2.out.size))
          have HR := Lib.hid (hR.mono Hb2.out.size)
          obtain ⟨ro, rc, hro⟩ := hR.shape
          subst hro
          clear hf hst hbb hR
          go_wp2
          go_ret2
          rw [E1.out, Hf.out]
          exact ⟨_, rfl, HR.out, HB.out⟩
    · obtain ⟨c, hcc⟩ : ∃ c, payC true wd xs d = c := ⟨_, rfl⟩
      rw [hcc] at hc ⊢
      have E0 := it_bad hcc hc
      rw [E0, E0]
      have q1 : (c != 0) = true := by simpa using hc
      have E1 : Hid (prR L wd xs d = .error c) := Lib.hid (by unfold prR; rw [Hv.out, hcc, if_neg hc])
      clear hc hcc E0
      rintro e w2 ⟨rfl, hb⟩
      have Hb2 := Lib.hid (Hb1.out.trans (hb.mono Hb1.out.size))
      clear hb
      go_wp2
      go_ret2
      rw [E1.out]
      exact ⟨_, rfl, Own.nil _ _ _ _, Hb2.out⟩
set_option maxHeartbeats 2000000 in
theorem sStrangeCards_c {L : List WorkerT} {xs : List ItemT} {v u t : Value} {w : World} {A B C : Nat} {d : List (List Int)} (wd : Int) (hL : RdWorkerS C w t L) (ha : RdItemS A w v xs) (hd : RdInt64SS B w u d) :
    Calls Tryz.prog 9 #[t, .agg #[.int .i64 wd, v], u] w fun e w' => ∃ r, e = .returned (.tuple #[r, .int .i64 (strC (validWs L) wd xs d)]) ∧ OwnInt64S w.heap.size w' r (strL L wd xs d) ∧ Below w.heap.size w w' := by
  obtain ⟨i0, hi, hz0, hz1, hz2⟩ := info_parts Tryz.infoInt64
  have hll := hL.le
  have hxl := ha.le
  obtain ⟨W, hW⟩ : ∃ W, W = w.alloc (.cells #[.int .i64 wd, v] 27) := ⟨_, rfl⟩
  have hb0 : Below w.heap.size w W := by rw [hW]; exact (Below.refl _ _).alloc (Nat.le_refl _) _
  have hP : Box W w.heap.size [.int .i64 wd, v] := by rw [hW]; exact Box.new w [.int .i64 wd, v] 27
  have Ha := Lib.hid (Rds.onn ha hb0)
  have Hd := Lib.hid (RdInt64SS.onn hd hb0)
  have HL := Lib.hid (Rds.onn hL hb0)
  have Hb0 := Lib.hid hb0
  have HW := Lib.hid hW
  have HP := Lib.hid hP
  obtain ⟨lo, lcap, rfl, hop⟩ := eWorker_open hL
  obtain ⟨ao, cap, rfl, hio⟩ := eItem_open ha
  obtain ⟨dao, dcap, rfl, hdo⟩ := hd.open
  obtain ⟨n, hn⟩ : ∃ n, n = L.length := ⟨_, rfl⟩
  obtain ⟨p, hp⟩ : ∃ p, p = d.length := ⟨_, rfl⟩
  obtain ⟨m9, hm9⟩ : ∃ m9, m9 = xs.length := ⟨_, rfl⟩
  rw [← hn] at hop HL hll ⊢
  rw [← hp] at hdo Hd ⊢
  rw [← hm9] at HP Ha hxl hio HW ⊢
  have Hn := Lib.hid hn
  have Hp := Lib.hid hp
  have Hm9 := Lib.hid hm9
  have Hop := Lib.hid hop
  have Hio := Lib.hid hio
  have Hdo := Lib.hid hdo
  clear ha hd hb0 hW hP hL hop hn hp hio hdo hm9
  go_enter Tryz.func9, Tryz.ntmps9
  go_wp2_with fail
  rw [← HW.out]
  with_reducible refine (l23Ok_c HL.out).mono ?_
  cases hv : validWs L with
  | false =>
    have E1 : Hid (strL L wd xs d = []) := Lib.hid (by unfold strL; rw [hv, payC_false]; rfl)
    have E2 : Hid (strC (validWs L) wd xs d = 1) := Lib.hid (by unfold strC; rw [hv]; exact payC_false)
    clear hv
    rintro e w1 ⟨rfl, m, rfl⟩
    go_wp2
    go_ret2
    rw [E1.out, E2.out]
    exact ⟨_, rfl, Own.nil _ _ _ _, Hb0.out.drewNy _⟩
  | true =>
    have Hv := Lib.hid hv
    clear hv
    rintro e w1 ⟨rfl, m, rfl⟩
    have HP1 := Lib.hid (HP.out.drewN m)
    have Ha1 := Lib.hid (Ha.out.drewN m)
    have Hd1 : Hid (RdInt64SS (W.drewN m).heap.size (W.drewN m) (.slice dao p dcap) d) := Lib.hid (RdInt64SS.onn Hd.out ((Below.refl _ _).drewNy m))
    have Hb1 := Lib.hid (Hb0.out.drewNy m)
    obtain ⟨W1, hW1⟩ : ∃ W1, W1 = W.drewN m := ⟨_, rfl⟩
    rw [← hW1] at HP1 Ha1 Hd1 Hb1 ⊢
    clear hW1 HP Ha Hd HL Hb0 HW
    go_wp2_with fail
    with_reducible refine (l23Items_c wd HP1.out Ha1.out Hd1.out).mono ?_
    by_cases hc : payC true wd xs d = 0
    · obtain ⟨k1, k2, x, y, h1, h2, hx, hy, e1, e2, hok⟩ := it_places hc
      rw [hc, h1, h2]
      obtain ⟨pf, hpf⟩ : ∃ pf : Nat → Bool, pf = fun k => strB x L (d.getD k []) := ⟨_, rfl⟩
      have E1 : Hid (strL L wd xs d = whereL pf p) := Lib.hid (by unfold strL; rw [Hv.out, if_pos hc, e1, ← Hp.out, hpf])
      have Hpf := Lib.hid (fun k => congrFun hpf k)
      clear hpf
      have E2 : Hid (strC (validWs L) wd xs d = 0) := Lib.hid (by unfold strC; rw [Hv.out]; exact hc)
      obtain ⟨ib, io, rfl, hilt, hic⟩ := Hio.out (by have := at_lt hx; have := Hm9.out; omega)
      obtain ⟨x', hx', ⟨_, i1, i2, i3⟩, _⟩ := hic k1 (by have := at_lt hx; have := Hm9.out; omega)
      obtain rfl : x' = x := by rw [hx] at hx'; exact (Option.some.inj hx').symm
      have hib : ib < w.heap.size := hilt.2
      have hk1 : k1 < m9 := by have := at_lt hx; have := Hm9.out; omega
      have hpl : p ≤ 40 := by have := Hp.out; have := hok.len; omega
      have I1 := Lib.hid i1
      have I2 := Lib.hid i2
      have I3 := Lib.hid i3
      have Hok := Lib.hid hok
      clear hc h1 h2 hx hy e1 e2 hok hx' i1 i2 i3 hilt hic
      rintro e w2 ⟨rfl, hb⟩
      have Hb2 := Lib.hid (Hb1.out.trans (hb.mono Hb1.out.size))
      have HP2 := Lib.hid (HP1.out.on hb)
      have HR0 : Hid (OwnInt64S w2.heap.size (w2.alloc (.cells #[] 2)) (.slice (some ⟨w2.heap.size, 0, none⟩) 0 0) []) := Lib.hid (Own.lit (E := eI) (xs := []) (cs := #[]) (Nat.le_refl _) rfl rfl (by decide) (fun x hx => by cases hx))
      have HB0 : Hid (Below w2.heap.size w2 (w2.alloc (.cells #[] 2))) := Lib.hid ((Below.refl _ _).alloc (Nat.le_refl _) _)
      clear hb Hd1 Ha1 HP1 Hb1
      go_wp2
      go_loopw [11, 12] (fun ov i wr => ∃ k : Nat, k ≤ p ∧ i = .int .i64 k ∧ OwnInt64S w2.heap.size wr ov (whereL pf k) ∧ Below w2.heap.size w2 wr) (fun _ i _ => p - (intOf i).toNat)
      case atStart => exact ⟨0, Nat.zero_le _, rfl, HR0.out, HB0.out⟩
      case round =>
        obtain ⟨k, hk, rfl, hR, hbb⟩ := hrel
        clear HR0 HB0
        by_cases hkn : k < p
        · obtain ⟨b, off, rfl, hlt, hc⟩ := Hdo.out (by have := Hp.out; omega)
          obtain ⟨c, ro, rc, hck, hcell, hrd⟩ := hc k (by have := Hp.out; omega)
          have hcm := Hok.out.cards c (List.mem_of_getElem? hck)
          have hrx := Hok.out.rx
          have hkx := Hok.out.kx
          have hcl : 0 < c.length := by omega
          obtain ⟨cb, co, rfl⟩ := hrd.full hcl
          obtain ⟨q, hq⟩ : ∃ q, q = c.length := ⟨_, rfl⟩
          rw [← hq] at hcell hrd hcm
          have hbw := Hb2.out.trans (hbb.mono Hb2.out.size)
          have d0 := (hbw.cell (p := ⟨b, off + k, none⟩) hlt.2).trans hcell
          have e1 := (hbw.cell (p := ⟨ib, io + k1 * 4 + 1, none⟩) hib).trans I1.out
          have e2 := (hbw.cell (p := ⟨ib, io + k1 * 4 + 2, none⟩) hib).trans I2.out
          have e3 := (hbw.cell (p := ⟨ib, io + k1 * 4 + 3, none⟩) hib).trans I3.out
          have hb9 : b < wr.heap.size := by have := hbw.size; have := hlt.2; omega
          have hi9 : ib < wr.heap.size := by have := hbw.size; omega
          have hrd2 := Rds.onn hrd hbw
          have Hlv := Lib.hid (fun q os => l04Value_c (w := grow (redrawn wr q) os) x' hkx hrx.1 hrx.2 (show x'.ft ≤ _ from hcm.1) hcm.2.2.1 (cell_regrown e1 q os) (cell_regrown e2 q os) (cell_regrown e3 q os) (Nat.lt_of_lt_of_le hi9 (below_regrown wr q os).size) (cell_regrown d0 q os) (Nat.lt_of_lt_of_le hb9 (below_regrown wr q os).size) (Rds.regrown hrd2 (Nat.le_refl _) q os))
          have f1 := cell_regrown ((HP2.out.on hbb).cell 1 _ rfl)
          have hgd : d.getD k [] = c := by rw [List.getD_eq_getElem?_getD, hck]; rfl
          have hsu := whereL_succ pf k
          rw [show pf k = strB x' L c by rw [Hpf.out k, hgd]] at hsu
          have Hsu := Lib.hid hsu
          have Hlw := Lib.hid (whereL_len pf k)
          obtain ⟨ro2, rc2, hro⟩ := hR.shape
          subst hro
          have HR3 := Lib.hid hR
          have Hbb := Lib.hid hbb
          clear hc hcell hrd hcm hrx hkx hcl hq hck d0 e1 e2 e3 hi9 hrd2 hbw hgd hsu hR hbb
          obtain ⟨T, hT⟩ : ∃ T, T = whoV (partC c x'.ff x'.ft) := ⟨_, rfl⟩
          obtain ⟨o, hoo⟩ : ∃ o, o = okTx (partC c x'.ff x'.ft) := ⟨_, rfl⟩
          have ES : Hid (strB x' L c = (!o || !(L.any (capEq T)))) := Lib.hid (by rw [hT, hoo]; rfl)
          rw [← hT, ← hoo] at Hlv
          clear hT hoo
          go_upto_region 10 with fail
          refine wp_region_quiet_below (by kernel_rfl) (by kernel_rfl) ?_
          repeat ((with_reducible refine wpQuiet_step (fun K hK => ?_)); go_simp; first | ((with_reducible refine hK _ ?_); clear hK K) | (apply Exists.intro; refine ⟨fun _ => ?_, hK _ ?_⟩; ((first | (go_at_call 37; with_reducible exact qb_below (Hlv.out _ _)))); clear hK K))
          refine wpQuiet_nil ?_
          intro _ hw'
          obtain ⟨⟨dq, osq⟩, hw''⟩ := hw'
          subst hw''
          have hbq := below_regrown wr dq osq
          generalize grow (redrawn wr dq) osq = wq at hbq ⊢
          have Hb4 := Lib.hid (Hbb.out.trans (hbq.mono Hbb.out.size))
          have HR4 := Lib.hid (Own.below HR3.out hbq (Nat.le_refl _))
          clear hbq f1 Hlv
          go_wp2
          go_loopw [15, 16] (fun kv i wr => ∃ q : Nat, q ≤ n ∧ i = .int .i64 q ∧ kv = .bool (o && (L.take q).any (capEq T)) ∧ Below w2.heap.size w2 wr ∧ OwnInt64S w2.heap.size wr (.slice ro2 (whereL pf k).length rc2) (whereL pf k)) (fun _ i _ => n - (intOf i).toNat)
          case atStart => exact ⟨0, Nat.zero_le _, rfl, by cases o <;> rfl, Hb4.out, HR4.out⟩
          case round =>
            obtain ⟨q, hq, rfl, rfl, hbb, hR⟩ := hrel
            have HR5 := Lib.hid hR
            have Hbb5 := Lib.hid hbb
            clear hR hbb
            by_cases hqn : q < n
            · obtain ⟨lb, loff, rfl, hlt2, hcs⟩ := Hop.out (by have := Hn.out; omega)
              obtain ⟨z, hz, ⟨c0, _, _⟩, bz⟩ := hcs q (by have := Hn.out; omega)
              have hbw := Hb2.out.trans (Hbb5.out.mono Hb2.out.size)
              have d0 := (hbw.cell (p := ⟨lb, loff + q * 3, none⟩) hlt2.2).trans c0
              have hnz : z.nm.size ≤ 9223372036854775807 := bz.1
              have Hz := Lib.hid (show (L.take (q + 1)).any (capEq T) = ((L.take q).any (capEq T) || capEq T z) by rw [take_snoc hz, List.any_append]; simp)
              clear hcs hz c0 bz hbw
              cases o with
              | false =>
                go_wp2
                go_roundw
                case rel => exact ⟨q + 1, by omega, by go_num, rfl, Hbb5.out, HR5.out⟩
                case measure => simp [intOf]; omega
              | true =>
                cases ha : (L.take q).any (capEq T) with
                | true =>
                  have Ha9 := Lib.hid ha
                  clear ha
                  go_wp2
                  go_roundw
                  case rel => exact ⟨q + 1, by omega, by go_num, by rw [Hz.out, Ha9.out]; rfl, Hbb5.out, HR5.out⟩
                  case measure => simp [intOf]; omega
                | false =>
                  have Ha9 := Lib.hid ha
                  clear ha
                  go_wp2_with fail
                  with_reducible refine (l23Upper_c z.nm _ hnz).mono ?_
                  obtain ⟨U, hU⟩ : ∃ U, U = capB z.nm := ⟨_, rfl⟩
                  have Hce : Hid (capEq T z = (T.toList == U.toList)) := Lib.hid (by unfold capEq; rw [hU]; exact Bool.beq_comm)
                  rw [← hU]
                  clear hU
                  rintro e w6 ⟨rfl, hb6⟩
                  have Hb6 := Lib.hid (Hbb5.out.trans (hb6.mono Hbb5.out.size))
                  have HR6 := Lib.hid (Own.below HR5.out hb6 (Nat.le_refl _))
                  clear hb6 d0
                  go_wp2
                  go_roundw
                  case rel => exact ⟨q + 1, by omega, by go_num, by rw [Hz.out, Ha9.out, Hce.out]; rfl, Hb6.out, HR6.out⟩
                  case measure => simp [intOf]; omega
            · obtain rfl : q = n := by omega
              have htk : L.take q = L := List.take_of_length_le (by have := Hn.out; omega)
              rw [htk]
              clear htk
              obtain ⟨g, hg⟩ : ∃ g, g = (o && L.any (capEq T)) := ⟨_, rfl⟩
              rw [← hg]
              have ES2 : Hid (strB x' L c = !g) := Lib.hid (by rw [ES.out, hg]; cases o <;> simp)
              clear hg
              cases g with
              | true =>
                go_wp2
                go_roundw
                case rel => exact ⟨k + 1, by omega, by go_num, by rw [Hsu.out, ES2.out]; exact HR5.out, Hbb5.out⟩
                case measure => simp [intOf]; omega
              | false =>
                have Hkb : Hid (eI.ok (k : Int)) := Lib.hid (by show -9223372036854775808 ≤ (k : Int) ∧ (k : Int) ≤ 9223372036854775807; omega)
                go_wp2_with (first | (at_builtin; refine wpList_appS (E := eI) rfl _ _ 34 rfl Tryz.underlying34 hi hz0 hz1 hz2 rfl (by decide) rfl rfl (HR5.out.alloc _) (rds_one (E := eI) (x := (k : Int)) Hkb.out rfl) ?b1 ?b2 ?b3 ?_))
                case b1 => have := Hlw.out; unfold maxLen; (try simp) <;> omega
                case b2 => have := Hlw.out; (try simp) <;> omega
                case b3 => have := Hbb5.out.size; (try simp) <;> omega
                intro v7 w7 hR7 hg
                have hb7 : Below w2.heap.size w2 w7 := hg.alloc.below Hbb5.out Hbb5.out.size (fun j hj => (HR5.out.lt j hj).1)
                have HR7 := Lib.hid hR7
                have HB7 := Lib.hid hb7
                clear hR7 hg hb7
                go_wp2
                go_roundw
                case rel => exact ⟨k + 1, by omega, by go_num, by rw [Hsu.out, ES2.out]; exact HR7.out, HB7.out⟩
                case measure => simp [intOf]; omega
        · obtain rfl : k = p := by omega
          have HB := Lib.hid (Hb2.out.trans (hbb.mono Hb2.out.size))
          have HR := Lib.hid (hR.mono Hb2.out.size)
          obtain ⟨ro, rc, hro⟩ := hR.shape
          subst hro
          clear hbb hR
          go_wp2
          go_ret2
          rw [E1.out, E2.out]
          exact ⟨_, rfl, HR.out, HB.out⟩
    · obtain ⟨c, hcc⟩ : ∃ c, payC true wd xs d = c := ⟨_, rfl⟩
      rw [hcc] at hc ⊢
      have E0 := it_bad hcc hc
      rw [E0, E0]
      have q1 : (c != 0) = true := by simpa using hc
      have E1 : Hid (strL L wd xs d = []) := Lib.hid (by unfold strL; rw [Hv.out, hcc, if_neg hc])
      have E2 : Hid (strC (validWs L) wd xs d = c) := Lib.hid (by unfold strC; rw [Hv.out]; exact hcc)
      clear hc hcc E0
      rintro e w2 ⟨rfl, hb⟩
      have Hb2 := Lib.hid (Hb1.out.trans (hb.mono Hb1.out.size))
      clear hb
      go_wp2
      go_ret2
      rw [E1.out, E2.out]
      exact ⟨_, rfl, Own.nil _ _ _ _, Hb2.out⟩
end Go.Proofs.YtkpcdnbjngpooaaGreatDoor
