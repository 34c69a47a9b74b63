/- The items of cards of hours, with their code: the program's by its contract. No condition. -/
import Derived.Test.YtfieilbcdhbigaaGreatDoorPayT
namespace Go.Proofs.YtfieilbcdhbigaaGreatDoor
open Go.ChangeShapes Go.WideShapes Go.ChangeAt Go.RowKit Go.Sort
set_option linter.unusedVariables false
set_option maxRecDepth 100000
def payX (ok : Bool) (w : Int) (xs : List ItemT) (d : List (List Int)) (nm : ByteArray) : ItemT := if payC ok w xs d = 0 then itAt xs nm else zItem
theorem pay_bad {ok : Bool} {w : Int} {xs : List ItemT} {d : List (List Int)} {c : Int} (h : layC (ok && deckB d) w xs d = c) (hc : c ≠ 0) : payC ok w xs d = c ∧ ∀ nm, payX ok w xs d nm = zItem := by
  have e : payC ok w xs d = c := by
    unfold layC at h
    unfold payC
    by_cases h1 : layB w xs = true ∧ (ok && deckB d) = true
    · rw [if_pos h1] at h
      have h2 := h1.2
      rw [Bool.and_eq_true] at h2
      rw [if_pos ⟨h1.1, h2.1, h2.2⟩]
      by_cases h3 : d.length = 0 ∨ ((d.headD []).length : Int) = w
      · rw [if_pos h3] at h; exact absurd h.symm hc
      · rw [if_neg h3] at h ⊢; exact h
    · rw [if_neg h1] at h
      rw [if_neg (fun h2 => h1 ⟨h2.1, by rw [h2.2.1, h2.2.2]; rfl⟩)]
      exact h
  exact ⟨e, fun nm => by unfold payX; rw [e, if_neg hc]⟩
theorem pay_good {ok : Bool} {w : Int} {xs : List ItemT} {d : List (List Int)} (h : layC (ok && deckB d) w xs d = 0) : payC ok w xs d = twoC xs whoT hrsT ∧ ∀ nm, payX ok w xs d nm = twoX xs whoT hrsT nm := by
  have e : payC ok w xs d = twoC xs whoT hrsT := by
    unfold layC at h
    unfold payC
    by_cases h1 : layB w xs = true ∧ (ok && deckB d) = true
    · rw [if_pos h1] at h
      have h2 := h1.2
      rw [Bool.and_eq_true] at h2
      rw [if_pos ⟨h1.1, h2.1, h2.2⟩]
      by_cases h3 : d.length = 0 ∨ ((d.headD []).length : Int) = w
      · rw [if_pos h3]; rfl
      · rw [if_neg h3] at h; cases h
    · rw [if_neg h1] at h; cases h
  exact ⟨e, fun nm => by unfold payX twoX; rw [e]⟩
set_option maxHeartbeats 2000000 in
theorem payItems_c {xs : List ItemT} {v u : Value} {w : World} {A B : Nat} {d : List (List Int)} (wd : Int) (ok : Bool) (ha : RdItemS A w v xs) (hd : RdInt64SS B w u d) :
    Calls Tryz.prog 36 #[.agg #[.int .i64 wd, v], u, .bool ok] w fun e w' => e = .returned (.tuple #[vItem (payX ok wd xs d whoT), vItem (payX ok wd xs d hrsT), .int .i64 (payC ok wd xs d)]) ∧ Below w.heap.size w w' := by
  obtain ⟨ao, cap, rfl⟩ := ha.shape
  obtain ⟨dao, dcap, rfl⟩ := hd.shape
  obtain ⟨n, hn⟩ : ∃ n, n = xs.length := ⟨_, rfl⟩
  obtain ⟨m, hm⟩ : ∃ m, m = d.length := ⟨_, rfl⟩
  rw [← hn] at ha ⊢
  rw [← hm] at hd ⊢
  clear hn hm
  obtain ⟨W, hW⟩ : ∃ W, W = ((w.alloc (.cells #[.int .i64 wd, .slice ao n cap] 32)).alloc (.cells #[.string ⟨#[]⟩, .int .i64 0, .int .i64 0, .int .i64 0] 72)).alloc (.cells #[.string ⟨#[]⟩, .int .i64 0, .int .i64 0, .int .i64 0] 72) := ⟨_, rfl⟩
  have h3 : Box W w.heap.size [.int .i64 wd, .slice ao n cap] ∧ Box W (w.heap.size + 1) [.string ⟨#[]⟩, .int .i64 0, .int .i64 0, .int .i64 0] ∧ Box W (w.heap.size + 1 + 1) [.string ⟨#[]⟩, .int .i64 0, .int .i64 0, .int .i64 0] ∧ Below w.heap.size w W := by
    rw [hW]; exact box3 w [.int .i64 wd, .slice ao n cap] [.string ⟨#[]⟩, .int .i64 0, .int .i64 0, .int .i64 0] [.string ⟨#[]⟩, .int .i64 0, .int .i64 0, .int .i64 0] 32 72 72
  obtain ⟨hL, hX, hY, hb0⟩ := h3
  have Ha := Lib.hid (Rds.onn ha hb0)
  have Hd := Lib.hid (RdInt64SS.onn hd hb0)
  have HW := Lib.hid hW
  have HL := Lib.hid hL
  have HX := Lib.hid hX
  have HY := Lib.hid hY
  have Hb0 := Lib.hid hb0
  have Hi1 := Lib.hid (fun q os => layoutCode_c wd (ok && deckB d) (Rds.regrown Ha.out (Nat.le_refl _) q os) (Hd.out.below (below_regrown W q os) (Nat.le_refl _)))
  have Hi2 := Lib.hid (fun q os => ValidDeck_c (Hd.out.below (below_regrown W q os) (Nat.le_refl _)))
  have f0 := cell_regrown (HL.out.cell 0 _ rfl)
  have f1 := cell_regrown (HL.out.cell 1 _ rfl)
  clear hL hX hY hb0 hW ha hd
  obtain ⟨c, hc⟩ : ∃ c, layC (ok && deckB d) wd xs d = c := ⟨_, rfl⟩
  rw [hc] at Hi1
  have Hc := Lib.hid hc
  clear hc
  cases hok : ok with
  | false =>
    subst hok
    simp only [Bool.false_and] at Hi1
    go_enter Tryz.func36, Tryz.ntmps36
    go_upto_region 1 with fail
    rw [← HW.out]
    refine wp_region_quiet_below (by kernel_rfl) (by kernel_rfl) ?_
    repeat ((with_reducible refine wpQuiet_step (fun K hK => ?_)); go_simp; first | ((with_reducible refine hK _ ?_); clear hK K) | (apply Exists.intro; refine ⟨fun _ => ?_, hK _ ?_⟩; ((first | (go_at_call 69; with_reducible exact qb_below (Hi1.out _ _)) | (go_at_call 70; with_reducible exact qb_below (Hi2.out _ _)))); clear hK K))
    refine wpQuiet_nil ?_
    intro _ hw'
    obtain ⟨⟨dq, osq⟩, hw''⟩ := hw'
    subst hw''
    have hbq := below_regrown W dq osq
    generalize grow (redrawn W dq) osq = wq at hbq ⊢
    by_cases hc0 : c = 0
    · subst hc0
      have e := pay_good Hc.out
      have E := Lib.hid e
      have Haq := Lib.hid (Rds.onn Ha.out hbq)
      have l0 := (HL.out.on hbq).cell 0 _ rfl
      have l1 := (HL.out.on hbq).cell 1 _ rfl
      have HXq := Lib.hid (HX.out.on hbq)
      have HYq := Lib.hid (HY.out.on hbq)
      have Hb := Lib.hid (Hb0.out.trans (hbq.mono Hb0.out.size))
      clear hbq f0 f1 e
      go_wp2_with fail
      with_reducible refine (twoItems_c wd whoT hrsT Haq.out).mono ?_
      obtain ⟨a, Hia⟩ : ∃ a, Hid (twoX xs whoT hrsT whoT = a) := ⟨_, Lib.hid rfl⟩
      obtain ⟨b, Hib⟩ : ∃ b, Hid (twoX xs whoT hrsT hrsT = b) := ⟨_, Lib.hid rfl⟩
      rw [Hia.out, Hib.out]
      rintro e w2 ⟨rfl, hbq⟩
      have hb := Hb.out.trans (hbq.mono Hb.out.size)
      have x0 := (HXq.out.on hbq).cell 0 _ rfl
      have x1 := (HXq.out.on hbq).cell 1 _ rfl
      have x2 := (HXq.out.on hbq).cell 2 _ rfl
      have x3 := (HXq.out.on hbq).cell 3 _ rfl
      have y0 := (HYq.out.on hbq).cell 0 _ rfl
      have y1 := (HYq.out.on hbq).cell 1 _ rfl
      have y2 := (HYq.out.on hbq).cell 2 _ rfl
      have y3 := (HYq.out.on hbq).cell 3 _ rfl
      have hlx := (HXq.out.on hbq).lt
      have hly := (HYq.out.on hbq).lt
      have fx := (HXq.out.on hbq).free
      have fy := (HYq.out.on hbq).free
      clear hbq l0 l1
      go_wp2
      refine bodyPost_ret (v := .tuple #[vItem a, vItem b, .int .i64 (twoC xs whoT hrsT)]) (by simp [results, Tryz.results36, go_sem, x0, x1, x2, x3, y0, y1, y2, y3, hlx, hly, fx, fy]) rfl ⟨?_, (hb.run (g := w.heap.size + 1) (by omega) [_, _, _, _]).run (g := w.heap.size + 1 + 1) (by omega) [_, _, _, _]⟩
      rw [E.out.1, E.out.2, E.out.2, Hia.out, Hib.out]
    · have e := pay_bad Hc.out hc0
      have E := Lib.hid e
      have q1 : (c != 0) = true := by simpa using hc0
      have hb := Hb0.out.trans (hbq.mono Hb0.out.size)
      have x0 := (HX.out.on hbq).cell 0 _ rfl
      have x1 := (HX.out.on hbq).cell 1 _ rfl
      have x2 := (HX.out.on hbq).cell 2 _ rfl
      have x3 := (HX.out.on hbq).cell 3 _ rfl
      have y0 := (HY.out.on hbq).cell 0 _ rfl
      have y1 := (HY.out.on hbq).cell 1 _ rfl
      have y2 := (HY.out.on hbq).cell 2 _ rfl
      have y3 := (HY.out.on hbq).cell 3 _ rfl
      have hlx := (HX.out.on hbq).lt
      have hly := (HY.out.on hbq).lt
      have fx := (HX.out.on hbq).free
      have fy := (HY.out.on hbq).free
      clear hbq f0 f1 e
      go_wp2
      refine bodyPost_ret (v := .tuple #[vItem zItem, vItem zItem, .int .i64 c]) (by simp [results, Tryz.results36, go_sem, x0, x1, x2, x3, y0, y1, y2, y3, hlx, hly, fx, fy, zItem]) rfl ⟨?_, (hb.run (g := w.heap.size + 1) (by omega) [_, _, _, _]).run (g := w.heap.size + 1 + 1) (by omega) [_, _, _, _]⟩
      rw [E.out.1, E.out.2, E.out.2]
  | true =>
    subst hok
    simp only [Bool.true_and] at Hi1
    go_enter Tryz.func36, Tryz.ntmps36
    go_upto_region 1 with fail
    rw [← HW.out]
    refine wp_region_quiet_below (by kernel_rfl) (by kernel_rfl) ?_
    repeat ((with_reducible refine wpQuiet_step (fun K hK => ?_)); go_simp; first | ((with_reducible refine hK _ ?_); clear hK K) | (apply Exists.intro; refine ⟨fun _ => ?_, hK _ ?_⟩; ((first | (go_at_call 69; with_reducible exact qb_below (Hi1.out _ _)) | (go_at_call 70; with_reducible exact qb_below (Hi2.out _ _)))); clear hK K))
    refine wpQuiet_nil ?_
    intro _ hw'
    obtain ⟨⟨dq, osq⟩, hw''⟩ := hw'
    subst hw''
    have hbq := below_regrown W dq osq
    generalize grow (redrawn W dq) osq = wq at hbq ⊢
    by_cases hc0 : c = 0
    · subst hc0
      have e := pay_good Hc.out
      have E := Lib.hid e
      have Haq := Lib.hid (Rds.onn Ha.out hbq)
      have l0 := (HL.out.on hbq).cell 0 _ rfl
      have l1 := (HL.out.on hbq).cell 1 _ rfl
      have HXq := Lib.hid (HX.out.on hbq)
      have HYq := Lib.hid (HY.out.on hbq)
      have Hb := Lib.hid (Hb0.out.trans (hbq.mono Hb0.out.size))
      clear hbq f0 f1 e
      go_wp2_with fail
      with_reducible refine (twoItems_c wd whoT hrsT Haq.out).mono ?_
      obtain ⟨a, Hia⟩ : ∃ a, Hid (twoX xs whoT hrsT whoT = a) := ⟨_, Lib.hid rfl⟩
      obtain ⟨b, Hib⟩ : ∃ b, Hid (twoX xs whoT hrsT hrsT = b) := ⟨_, Lib.hid rfl⟩
      rw [Hia.out, Hib.out]
      rintro e w2 ⟨rfl, hbq⟩
      have hb := Hb.out.trans (hbq.mono Hb.out.size)
      have x0 := (HXq.out.on hbq).cell 0 _ rfl
      have x1 := (HXq.out.on hbq).cell 1 _ rfl
      have x2 := (HXq.out.on hbq).cell 2 _ rfl
      have x3 := (HXq.out.on hbq).cell 3 _ rfl
      have y0 := (HYq.out.on hbq).cell 0 _ rfl
      have y1 := (HYq.out.on hbq).cell 1 _ rfl
      have y2 := (HYq.out.on hbq).cell 2 _ rfl
      have y3 := (HYq.out.on hbq).cell 3 _ rfl
      have hlx := (HXq.out.on hbq).lt
      have hly := (HYq.out.on hbq).lt
      have fx := (HXq.out.on hbq).free
      have fy := (HYq.out.on hbq).free
      clear hbq l0 l1
      go_wp2
      refine bodyPost_ret (v := .tuple #[vItem a, vItem b, .int .i64 (twoC xs whoT hrsT)]) (by simp [results, Tryz.results36, go_sem, x0, x1, x2, x3, y0, y1, y2, y3, hlx, hly, fx, fy]) rfl ⟨?_, (hb.run (g := w.heap.size + 1) (by omega) [_, _, _, _]).run (g := w.heap.size + 1 + 1) (by omega) [_, _, _, _]⟩
      rw [E.out.1, E.out.2, E.out.2, Hia.out, Hib.out]
    · have e := pay_bad Hc.out hc0
      have E := Lib.hid e
      have q1 : (c != 0) = true := by simpa using hc0
      have hb := Hb0.out.trans (hbq.mono Hb0.out.size)
      have x0 := (HX.out.on hbq).cell 0 _ rfl
      have x1 := (HX.out.on hbq).cell 1 _ rfl
      have x2 := (HX.out.on hbq).cell 2 _ rfl
      have x3 := (HX.out.on hbq).cell 3 _ rfl
      have y0 := (HY.out.on hbq).cell 0 _ rfl
      have y1 := (HY.out.on hbq).cell 1 _ rfl
      have y2 := (HY.out.on hbq).cell 2 _ rfl
      have y3 := (HY.out.on hbq).cell 3 _ rfl
      have hlx := (HX.out.on hbq).lt
      have hly := (HY.out.on hbq).lt
      have fx := (HX.out.on hbq).free
      have fy := (HY.out.on hbq).free
      clear hbq f0 f1 e
      go_wp2
      refine bodyPost_ret (v := .tuple #[vItem zItem, vItem zItem, .int .i64 c]) (by simp [results, Tryz.results36, go_sem, x0, x1, x2, x3, y0, y1, y2, y3, hlx, hly, fx, fy, zItem]) rfl ⟨?_, (hb.run (g := w.heap.size + 1) (by omega) [_, _, _, _]).run (g := w.heap.size + 1 + 1) (by omega) [_, _, _, _]⟩
      rw [E.out.1, E.out.2, E.out.2]
end Go.Proofs.YtfieilbcdhbigaaGreatDoor
