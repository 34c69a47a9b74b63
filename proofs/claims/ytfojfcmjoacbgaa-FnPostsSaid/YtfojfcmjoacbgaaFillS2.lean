/- Fillings of posts, counted, and the first one: the reference's. No condition. -/
import Derived.Test.YtfojfcmjoacbgaaFillS
namespace Go.Proofs.Ytfojfcmjoacbgaa
open Go.ChangeShapes Go.WideShapes Go.ChangeAt Go.RowKit
set_option linter.unusedVariables false
set_option maxRecDepth 100000
def CFV (xs : List OperatorT) (ps : List Int) : Int := if PCode xs ps = 0 then ((leaves xs ps ps.length []).length : Int) else 0
def FPR (xs : List OperatorT) (ps : List Int) : List Int := if PCode xs ps = 0 then (leaves xs ps ps.length []).headD [] else []
def FPC (xs : List OperatorT) (ps : List Int) : Int := if PCode xs ps = 0 then (if (leaves xs ps ps.length []) = [] then 3 else 0) else PCode xs ps
theorem l22Fill_c {xs : List OperatorT} {ps : List Int} {v u : Value} {w : World} {A B : Nat} (hA : A ≤ w.heap.size) (hB : B ≤ w.heap.size) (ha : RdOperatorS A w v xs) (hp : RdI B w u ps) (hc : PCode xs ps = 0) :
    Calls Try.prog 69 #[v, u] w fun e w' => ∃ FB, e = .returned (.pointer (some ⟨FB, 0, none⟩)) ∧ FillSt w.heap.size FB v u w' [] ((leaves xs ps ps.length []).headD []) (leaves xs ps ps.length []).length ∧ Below w.heap.size w w' := by
  obtain ⟨hv, hps⟩ := PCode_ok hc
  have hn8 := (validOs_parts hv).1
  have hm8 := (postsB_parts hps).1
  obtain ⟨ao, cap, rfl⟩ := ha.shape
  obtain ⟨po, pcap, rfl⟩ := hp.shape
  obtain ⟨n, hn⟩ : ∃ n, n = xs.length := ⟨_, rfl⟩
  obtain ⟨m, hm⟩ : ∃ m, m = ps.length := ⟨_, rfl⟩
  obtain ⟨ls, hls⟩ : ∃ ls, leaves xs ps ps.length [] = ls := ⟨_, rfl⟩
  rw [hls]
  have hsm := leaves_small (xs := xs) (ps := ps) hn8 hm8 []
  rw [hls] at hsm
  rw [← hn] at ha ⊢
  rw [← hm] at hp ⊢
  have hO : OwnInt64S w.heap.size (w.alloc (.cells #[] 2)) (.slice (some ⟨w.heap.size, 0, none⟩) 0 0) [] := Own.lit (E := eI) (xs := []) (cs := #[]) (Nat.le_refl _) rfl rfl (by decide) (fun x hx => by cases hx)
  have hb1 : Below w.heap.size w (w.alloc (.cells #[] 2)) := (Below.refl _ _).alloc (Nat.le_refl _) _
  have hbx : Box ((w.alloc (.cells #[] 2)).alloc (.cells #[.slice ao n cap, .slice po m pcap, .slice (some ⟨w.heap.size, 0, none⟩) 0 0, .slice none 0 0, .int .i64 0] 77)) (w.heap.size + 1) [.slice ao n cap, .slice po m pcap, .slice (some ⟨w.heap.size, 0, none⟩) 0 0, .slice none 0 0, .int .i64 0] := by
    have := Box.new (w.alloc (.cells #[] 2)) [.slice ao n cap, .slice po m pcap, .slice (some ⟨w.heap.size, 0, none⟩) 0 0, .slice none 0 0, .int .i64 0] 77
    simpa using this
  have hst : FillSt w.heap.size (w.heap.size + 1) (.slice ao n cap) (.slice po m pcap) ((w.alloc (.cells #[] 2)).alloc (.cells #[.slice ao n cap, .slice po m pcap, .slice (some ⟨w.heap.size, 0, none⟩) 0 0, .slice none 0 0, .int .i64 0] 77)) [] [] 0 :=
    ⟨_, _, hbx, hO.alloc _, Own.nil _ _ _ _, .inr (by intro h; cases h), .inl rfl, by intro h; simp [Value.ownBlock] at h, by intro h; cases h⟩
  have hb2 := hb1.alloc hb1.size (.cells #[.slice ao n cap, .slice po m pcap, .slice (some ⟨w.heap.size, 0, none⟩) 0 0, .slice none 0 0, .int .i64 0] 77)
  have hcall := fwalk_c (OB := w.heap.size) (FB := w.heap.size + 1) hv hps hA hB (by omega) ps.length _ [] [] 0 (ha.below hb2 hA) (hp.below hb2 hB) hst (by simp) (Int.le_refl _) (by rw [hls]; omega)
  rw [hls] at hcall
  have Hcall := Lib.hid hcall
  have Hb2 := Lib.hid hb2
  clear hcall hst hbx hO hb1 hb2 ha hp hls hn hm hn8 hm8
  go_enter Try.func69, Try.ntmps69
  go_wp2_with fail
  with_reducible refine Hcall.out.mono ?_
  rintro e w5 ⟨rfl, hst5, hb5⟩
  have hb6 := Hb2.out.trans hb5
  have Hst5 := Lib.hid hst5
  clear hst5 hb5
  go_wp2
  go_ret
  refine ⟨_, rfl, ?_, hb6⟩
  have h := Hst5.out
  rw [show firstF 0 [] ls = ls.headD [] by unfold firstF; rw [if_pos rfl], show (0 : Int) + (ls.length : Int) = ls.length by omega] at h
  exact h
theorem sCountFillings_c {xs : List OperatorT} {ps : List Int} {v u : Value} {w : World} {A B : Nat} (hA : A ≤ w.heap.size) (hB : B ≤ w.heap.size) (ha : RdOperatorS A w v xs) (hp : RdI B w u ps) :
    Calls Try.prog 34 #[v, u] w fun e w' => e = .returned (.tuple #[.int .i64 (CFV xs ps), .int .i64 (PCode xs ps)]) ∧ Below w.heap.size w w' := by
  have Ha := Lib.hid ha
  have Hp := Lib.hid hp
  by_cases hc : PCode xs ps = 0
  · have e1 : CFV xs ps = (leaves xs ps ps.length []).length := by unfold CFV; rw [if_pos hc]
    have hcon := fun q => l22Fill_c (w := w.drewN q) hA hB (Rds.drewN ha q) (Rds.drewN hp q) hc
    rw [e1, hc]
    obtain ⟨cnt, hcnt⟩ : ∃ cnt : Int, ((leaves xs ps ps.length []).length : Int) = cnt := ⟨_, rfl⟩
    rw [hcnt] at hcon ⊢
    have Hcon := Lib.hid hcon
    have Hc := Lib.hid hc
    clear hc e1 hcon ha hp hcnt
    go_enter Try.func34, Try.ntmps34
    go_wp2_with fail
    with_reducible refine (l22Code_c Ha.out Hp.out).mono ?_
    rw [Hc.out]
    rintro e w1 ⟨rfl, q, rfl⟩
    go_wp2_with fail
    with_reducible refine (Hcon.out q).mono ?_
    rintro e w2 ⟨FB, rfl, hst, hb⟩
    obtain ⟨wv, fv, hbox, _⟩ := hst
    have c4 := hbox.cell 4 _ rfl
    have hb2 : Below w.heap.size w w2 := ((Below.refl w.heap.size w).drewNy q).trans hb
    clear hbox hb
    go_wp2
    go_ret2
    exact ⟨rfl, hb2⟩
  · have e1 : CFV xs ps = 0 := by unfold CFV; rw [if_neg hc]
    obtain ⟨c, hcc⟩ : ∃ c, PCode xs ps = c := ⟨_, rfl⟩
    have hc12 : c = 1 ∨ c = 2 := by have := PCode_01 xs ps; omega
    have Hcc := Lib.hid hcc
    rw [e1, hcc]
    clear ha hp hc e1 hcc
    rcases hc12 with rfl | rfl <;>
    · go_enter Try.func34, Try.ntmps34
      go_wp2_with fail
      with_reducible refine (l22Code_c Ha.out Hp.out).mono ?_
      rw [Hcc.out]
      rintro e w1 ⟨rfl, q, rfl⟩
      go_wp2
      go_ret2
      exact ⟨rfl, (Below.refl _ _).drewNy _⟩
theorem sFillPosts_c {xs : List OperatorT} {ps : List Int} {v u : Value} {w : World} {A B : Nat} (hA : A ≤ w.heap.size) (hB : B ≤ w.heap.size) (ha : RdOperatorS A w v xs) (hp : RdI B w u ps) :
    Calls Try.prog 38 #[v, u] w fun e w' => ∃ r, e = .returned (.tuple #[r, .int .i64 (FPC xs ps)]) ∧ OwnInt64S w.heap.size w' r (FPR xs ps) ∧ Below w.heap.size w w' := by
  have Ha := Lib.hid ha
  have Hp := Lib.hid hp
  by_cases hc : PCode xs ps = 0
  · have e1 : FPR xs ps = (leaves xs ps ps.length []).headD [] := by unfold FPR; rw [if_pos hc]
    have e2 : FPC xs ps = if (leaves xs ps ps.length []) = [] then 3 else 0 := by unfold FPC; rw [if_pos hc]
    have hcon := fun q => l22Fill_c (w := w.drewN q) hA hB (Rds.drewN ha q) (Rds.drewN hp q) hc
    have hsm := leaves_small (xs := xs) (ps := ps) (validOs_parts (PCode_ok hc).1).1 (postsB_parts (PCode_ok hc).2).1 []
    rw [e1, e2]
    obtain ⟨ls, hls⟩ : ∃ ls, leaves xs ps ps.length [] = ls := ⟨_, rfl⟩
    rw [hls] at hcon hsm ⊢
    have Hc := Lib.hid hc
    cases ls with
    | nil =>
      have Hcon := Lib.hid hcon
      clear hc e1 e2 hcon ha hp hls hsm
      rw [if_pos rfl]
      go_enter Try.func38, Try.ntmps38
      go_wp2_with fail
      with_reducible refine (l22Code_c Ha.out Hp.out).mono ?_
      rw [Hc.out]
      rintro e w1 ⟨rfl, q, rfl⟩
      go_wp2_with fail
      with_reducible refine (Hcon.out q).mono ?_
      rintro e w2 ⟨FB, rfl, hst, hb⟩
      obtain ⟨wv, fv, hbox, _⟩ := hst
      have c4 := hbox.cell 4 _ rfl
      have hb2 : Below w.heap.size w w2 := ((Below.refl w.heap.size w).drewNy q).trans hb
      clear hbox hb
      go_wp2
      go_ret2
      exact ⟨_, rfl, Own.nil _ _ _ _, hb2⟩
    | cons l ls =>
      obtain ⟨cnt, hcnt⟩ : ∃ cnt : Int, (((l :: ls).length : Nat) : Int) = cnt := ⟨_, rfl⟩
      have hpos : 0 < cnt := by rw [← hcnt, List.length_cons]; omega
      have hz : ((cnt : Int) == 0) = false := by simp; omega
      rw [hcnt] at hcon
      have Hcon := Lib.hid hcon
      clear hc e1 e2 hcon ha hp hls hsm hcnt
      rw [if_neg (by simp)]
      go_enter Try.func38, Try.ntmps38
      go_wp2_with fail
      with_reducible refine (l22Code_c Ha.out Hp.out).mono ?_
      rw [Hc.out]
      rintro e w1 ⟨rfl, q, rfl⟩
      go_wp2_with fail
      with_reducible refine (Hcon.out q).mono ?_
      rintro e w2 ⟨FB, rfl, hst, hb⟩
      obtain ⟨wv, fv, hbox, _, hf, _⟩ := hst
      have c4 := hbox.cell 4 _ rfl
      have c3 := hbox.cell 3 _ rfl
      have hb2 : Below w.heap.size w w2 := ((Below.refl w.heap.size w).drewNy q).trans hb
      have Hf := Lib.hid hf
      clear hbox hb hf
      go_wp2
      go_ret2
      exact ⟨_, rfl, Hf.out, hb2⟩
  · have e1 : FPR xs ps = [] := by unfold FPR; rw [if_neg hc]
    have e2 : FPC xs ps = PCode xs ps := by unfold FPC; rw [if_neg hc]
    obtain ⟨c, hcc⟩ : ∃ c, PCode xs ps = c := ⟨_, rfl⟩
    have hc12 : c = 1 ∨ c = 2 := by have := PCode_01 xs ps; omega
    have Hcc := Lib.hid hcc
    rw [e1, e2, hcc]
    clear ha hp hc e1 e2 hcc
    rcases hc12 with rfl | rfl <;>
    · go_enter Try.func38, Try.ntmps38
      go_wp2_with fail
      with_reducible refine (l22Code_c Ha.out Hp.out).mono ?_
      rw [Hcc.out]
      rintro e w1 ⟨rfl, q, rfl⟩
      go_wp2
      go_ret2
      exact ⟨_, rfl, Own.nil _ _ _ _, (Below.refl _ _).drewNy _⟩
end Go.Proofs.Ytfojfcmjoacbgaa
