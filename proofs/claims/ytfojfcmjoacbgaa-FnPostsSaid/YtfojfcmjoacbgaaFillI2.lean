/- Fillings of posts, counted, and the first one: the program's. No condition. -/
import Derived.Test.YtfojfcmjoacbgaaFillI
namespace Go.Proofs.Ytfojfcmjoacbgaa
open Go.ChangeShapes Go.WideShapes Go.ChangeAt Go.RowKit Go.Sort
set_option linter.unusedVariables false
set_option maxRecDepth 100000
theorem within_below {lo hi B : Nat} {a w w' : World} (h : Below B a w) (hw : Within lo hi w w') (hB : B ≤ lo) (hs : lo ≤ w.heap.size) : Below B a w' := h.trans ((hw.below hs).mono hB)
set_option maxHeartbeats 400000 in
theorem CountFillings_c {xs : List OperatorT} {ps : List Int} {v u : Value} {w : World} {A B : Nat} (hA : A ≤ w.heap.size) (hB : B ≤ w.heap.size) (ha : RdOperatorS A w v xs) (hp : RdI B w u ps) :
    Calls Try.prog 35 #[v, u] w fun e w' => e = .returned (.tuple #[.int .i64 (CFV xs ps), .int .i64 (PCode xs ps)]) ∧ Below w.heap.size w w' := by
  have Ha := Lib.hid (Rds.tight ha)
  have Hp := Lib.hid (Rds.tight hp)
  by_cases hc : PCode xs ps = 0
  · obtain ⟨hv, hps⟩ := PCode_ok hc
    have hn8 := (validOs_parts hv).1
    have hm8 := (postsB_parts hps).1
    have hsm := leaves_small (xs := xs) (ps := ps) hn8 hm8 []
    have e1 : CFV xs ps = (leaves xs ps ps.length []).length := by unfold CFV; rw [if_pos hc]
    have hrun := runL_count (leaves xs ps ps.length []) 0
    rw [show (0 : Int) + ((leaves xs ps ps.length []).length : Int) = (leaves xs ps ps.length []).length by omega] at hrun
    have hpre : preC 0 (leaves xs ps ps.length []) := ⟨Int.le_refl _, by omega⟩
    rw [e1, hc]
    obtain ⟨cnt, hcnt⟩ : ∃ cnt : Int, ((leaves xs ps ps.length []).length : Int) = cnt := ⟨_, rfl⟩
    rw [hcnt] at hrun ⊢
    have Hrun := Lib.hid hrun
    have Hpre := Lib.hid hpre
    have Hc := Lib.hid hc
    have Hv := Lib.hid hv
    have Hps := Lib.hid hps
    clear hc e1 hrun hpre hcnt hsm hn8 hm8 hv hps ha hp
    go_enter Try.func35, Try.ntmps35
    go_wp2_with fail
    with_reducible refine (postCode_c Ha.out Hp.out).mono ?_
    rw [Hc.out]
    rintro e w1 ⟨rfl, hb⟩
    have hs1 := hb.size
    have ha1 := Ha.out.below hb (Nat.le_refl _)
    have hp1 := Hp.out.below hb (Nat.le_refl _)
    have hb2 : Below w1.heap.size w1 ((w1.alloc (.cells #[.int .i64 0] 2)).alloc (.cells #[] 2)) := ((Below.refl _ _).alloc (Nat.le_refl _) _).alloc (by simp) _
    have hbx : Box ((w1.alloc (.cells #[.int .i64 0] 2)).alloc (.cells #[] 2)) w1.heap.size [.int .i64 0] := (Box.new w1 [.int .i64 0] _).alloc _
    have hO : OwnInt64S (w1.heap.size + 1) ((w1.alloc (.cells #[.int .i64 0] 2)).alloc (.cells #[] 2)) (.slice (some ⟨w1.heap.size + 1, 0, none⟩) 0 0) [] := by
      have := Own.lit (E := eI) (e := 2) (base := w1.heap.size + 1) (w := w1.alloc (.cells #[.int .i64 0] 2)) (xs := []) (cs := #[]) (n := 0) (by simp) rfl rfl (by decide) (fun x hx => by cases hx)
      simpa using this
    have hcall := fill_C (b := w1.heap.size) Hv.out Hps.out hs1 hs1 ps.length _ [] _ 0 (ha1.below hb2 hs1) (hp1.below hb2 hs1) hbx hO (by simp) (by simp) Hpre.out
    rw [Hrun.out] at hcall
    have Hcall := Lib.hid hcall
    have Hb2 := Lib.hid (hb.trans (hb2.mono hs1))
    clear hcall hbx hO hb2 ha1 hp1 hb
    go_wp2_with fail
    with_reducible refine Hcall.out.mono ?_
    rintro e w5 ⟨rfl, h51, h52⟩
    have c0 := Box.cell h51 0 _ rfl
    have hb6 := within_below Hb2.out h52 hs1 (by simp; omega)
    clear h51 h52
    go_wp2
    go_ret2
    exact ⟨rfl, hb6⟩
  · have e1 : CFV xs ps = 0 := by unfold CFV; rw [if_neg hc]
    obtain ⟨c, hcc⟩ : ∃ c, PCode xs ps = c := ⟨_, rfl⟩
    have hc12 : c = 1 ∨ c = 2 := by have := PCode_01 xs ps; omega
    have Hcc := Lib.hid hcc
    rw [e1, hcc]
    clear ha hp hc e1 hcc
    rcases hc12 with rfl | rfl <;>
    · go_enter Try.func35, Try.ntmps35
      go_wp2_with fail
      with_reducible refine (postCode_c Ha.out Hp.out).mono ?_
      rw [Hcc.out]
      rintro e w1 ⟨rfl, hb⟩
      go_wp2
      go_ret2
      exact ⟨rfl, hb⟩
/-- the first filling, and whether there is one -/
def firstR (xs : List OperatorT) (ps : List Int) : List Int := (leaves xs ps ps.length []).headD []
def firstB (xs : List OperatorT) (ps : List Int) : Bool := !(leaves xs ps ps.length []).isEmpty
theorem first_run (xs : List OperatorT) (ps : List Int) : (runL firstS ([], false) (leaves xs ps ps.length [])).1 = (firstR xs ps, firstB xs ps) := by
  rw [runL_first]
  unfold firstR firstB
  cases leaves xs ps ps.length [] with
  | nil => rfl
  | cons l ls => rfl
set_option maxHeartbeats 400000 in
theorem filled_c {xs : List OperatorT} {ps : List Int} {v u : Value} {w : World} {A B : Nat} (hA : A ≤ w.heap.size) (hB : B ≤ w.heap.size) (ha : RdOperatorS A w v xs) (hp : RdI B w u ps) (hv : validOs xs = true) (hps : postsB ps = true) :
    Calls Try.prog 72 #[v, u] w fun e w' => ∃ r, e = .returned (.tuple #[r, .bool (firstB xs ps)]) ∧ OwnInt64S w.heap.size w' r (firstR xs ps) ∧ Below w.heap.size w w' := by
  have hrun := first_run xs ps
  obtain ⟨W, hW⟩ : ∃ W, W = ((w.alloc (.cells #[] 2)).alloc (.cells #[.slice (some ⟨w.heap.size, 0, none⟩) 0 0] 34)).alloc (.cells #[.bool false] 4) := ⟨_, rfl⟩
  have hb1 : Below w.heap.size w W := by rw [hW]; exact (((Below.refl _ _).alloc (Nat.le_refl _) _).alloc (by simp) _).alloc (by simp; omega) _
  have hsW : W.heap.size = w.heap.size + 3 := by rw [hW]; simp
  have hO0 : OwnInt64S w.heap.size W (.slice (some ⟨w.heap.size, 0, none⟩) 0 0) [] := by
    rw [hW]
    exact ((Own.lit (E := eI) (xs := []) (cs := #[]) (Nat.le_refl _) rfl rfl (by decide) (fun x hx => by cases hx)).alloc _).alloc _
  have hx1 : Box W (w.heap.size + 1) [.slice (some ⟨w.heap.size, 0, none⟩) 0 0] := by
    rw [hW]
    have := (Box.new (w.alloc (.cells #[] 2)) [.slice (some ⟨w.heap.size, 0, none⟩) 0 0] 34).alloc (.cells #[.bool false] 4)
    simpa using this
  have hx2 : Box W (w.heap.size + 1 + 1) [.bool false] := by
    rw [hW]
    have := Box.new ((w.alloc (.cells #[] 2)).alloc (.cells #[.slice (some ⟨w.heap.size, 0, none⟩) 0 0] 34)) [.bool false] 4
    simpa using this
  have hinv : InvF w.heap.size (w.heap.size + 1) ([], false) W := ⟨_, hx1, hx2, hO0⟩
  have hO : OwnInt64S (w.heap.size + 1 + 2) (W.alloc (.cells #[] 2)) (.slice (some ⟨w.heap.size + 3, 0, none⟩) 0 0) [] := by
    have := Own.lit (E := eI) (e := 2) (base := w.heap.size + 1 + 2) (w := W) (xs := []) (cs := #[]) (n := 0) (by omega) rfl rfl (by decide) (fun x hx => by cases hx)
    rw [hsW] at this
    exact this
  have hb2 : Below W.heap.size W (W.alloc (.cells #[] 2)) := (Below.refl _ _).alloc (Nat.le_refl _) _
  have hb3 : Below w.heap.size w (W.alloc (.cells #[] 2)) := hb1.alloc (by omega) _
  have hcall := fill_F (ob := w.heap.size) (b := w.heap.size + 1) hv hps (show A ≤ w.heap.size + 1 by omega) (show B ≤ w.heap.size + 1 by omega) (by omega) ps.length _ [] _ ([], false) (ha.below hb3 hA) (hp.below hb3 hB) (invF_on hinv hb2) hO (by simp; omega) (by simp) trivial
  rw [hrun] at hcall
  obtain ⟨bb, hbb⟩ : ∃ bb, (runL firstS ([], false) (leaves xs ps ps.length [])).2 = bb := ⟨_, rfl⟩
  rw [hbb] at hcall
  rw [hW] at hcall hb3
  have Hcall := Lib.hid hcall
  have Hb3 := Lib.hid hb3
  clear hrun hW hb1 hsW hO0 hx1 hx2 hinv hO hb2 hb3 hcall hbb ha hp hv hps
  go_enter Try.func72, Try.ntmps72
  go_wp2_with fail
  with_reducible refine Hcall.out.mono ?_
  rintro e w5 ⟨rfl, h51, h52⟩
  obtain ⟨ov, b1, b2, b3⟩ := h51
  have c0 := b1.cell 0 _ rfl
  have c1 := b2.cell 0 _ rfl
  have hb6 := within_below Hb3.out h52 (by omega) (by simp <;> omega)
  have B3 := Lib.hid b3
  clear b1 b2 b3 h52
  go_wp2
  go_quiet (fail)
  go_wp2
  go_ret2
  exact ⟨_, rfl, B3.out, hb6.drewNy _⟩
theorem FillPosts_c {xs : List OperatorT} {ps : List Int} {v u : Value} {w : World} {A B : Nat} (hA : A ≤ w.heap.size) (hB : B ≤ w.heap.size) (ha : RdOperatorS A w v xs) (hp : RdI B w u ps) :
    Calls Try.prog 39 #[v, u] w fun e w' => ∃ r, e = .returned (.tuple #[r, .int .i64 (FPC xs ps)]) ∧ OwnInt64S w.heap.size w' r (FPR xs ps) ∧ Below w.heap.size w w' := by
  have Ha := Lib.hid (Rds.tight ha)
  have Hp := Lib.hid (Rds.tight hp)
  by_cases hc : PCode xs ps = 0
  · obtain ⟨hv, hps⟩ := PCode_ok hc
    have e1 : FPR xs ps = firstR xs ps := by unfold FPR; rw [if_pos hc]; rfl
    have e2 : FPC xs ps = if firstB xs ps = true then 0 else 3 := by
      unfold FPC firstB
      rw [if_pos hc]
      cases leaves xs ps ps.length [] <;> simp
    rw [e1, e2]
    have e3 : firstB xs ps = false → firstR xs ps = [] := by
      unfold firstB firstR
      cases leaves xs ps ps.length [] <;> simp
    have Hc := Lib.hid hc
    have Hv := Lib.hid hv
    have Hps := Lib.hid hps
    have H3 := Lib.hid e3
    clear hc e1 e2 e3 hv hps ha hp
    cases hbb : firstB xs ps with
    | true =>
      have Hbb := Lib.hid hbb
      clear hbb
      rw [if_pos rfl]
      go_enter Try.func39, Try.ntmps39
      go_wp2_with fail
      with_reducible refine (postCode_c Ha.out Hp.out).mono ?_
      rw [Hc.out]
      rintro e w1 ⟨rfl, hb⟩
      have hcall := filled_c hb.size hb.size (Ha.out.below hb (Nat.le_refl _)) (Hp.out.below hb (Nat.le_refl _)) Hv.out Hps.out
      rw [Hbb.out] at hcall
      have Hcall := Lib.hid hcall
      have Hb := Lib.hid hb
      clear hb hcall
      go_wp2_with fail
      with_reducible refine Hcall.out.mono ?_
      rintro e w5 ⟨r, rfl, h51, h52⟩
      have hb6 := Hb.out.trans (h52.mono Hb.out.size)
      have H51 := Lib.hid (h51.mono Hb.out.size)
      clear h51 h52
      go_wp2
      go_ret2
      exact ⟨_, rfl, H51.out, hb6⟩
    | false =>
      have Hbb := Lib.hid hbb
      clear hbb
      rw [if_neg (by decide), H3.out Hbb.out]
      go_enter Try.func39, Try.ntmps39
      go_wp2_with fail
      with_reducible refine (postCode_c Ha.out Hp.out).mono ?_
      rw [Hc.out]
      rintro e w1 ⟨rfl, hb⟩
      have hcall := filled_c hb.size hb.size (Ha.out.below hb (Nat.le_refl _)) (Hp.out.below hb (Nat.le_refl _)) Hv.out Hps.out
      rw [Hbb.out] at hcall
      have Hcall := Lib.hid hcall
      have Hb := Lib.hid hb
      clear hb hcall
      go_wp2_with fail
      with_reducible refine Hcall.out.mono ?_
      rintro e w5 ⟨r, rfl, h51, h52⟩
      have hb6 := Hb.out.trans (h52.mono Hb.out.size)
      clear h51 h52
      go_wp2
      go_ret2
      exact ⟨_, rfl, Own.nil _ _ _ _, hb6⟩
  · have e1 : FPR xs ps = [] := by unfold FPR; rw [if_neg hc]
    have e2 : FPC xs ps = PCode xs ps := by unfold FPC; rw [if_neg hc]
    obtain ⟨c, hcc⟩ : ∃ c, PCode xs ps = c := ⟨_, rfl⟩
    have hc12 : c = 1 ∨ c = 2 := by have := PCode_01 xs ps; omega
    have Hcc := Lib.hid hcc
    rw [e1, e2, hcc]
    clear ha hp hc e1 e2 hcc
    rcases hc12 with rfl | rfl <;>
    · go_enter Try.func39, Try.ntmps39
      go_wp2_with fail
      with_reducible refine (postCode_c Ha.out Hp.out).mono ?_
      rw [Hcc.out]
      rintro e w1 ⟨rfl, hb⟩
      go_wp2
      go_ret2
      exact ⟨_, rfl, Own.nil _ _ _ _, hb⟩
end Go.Proofs.Ytfojfcmjoacbgaa
