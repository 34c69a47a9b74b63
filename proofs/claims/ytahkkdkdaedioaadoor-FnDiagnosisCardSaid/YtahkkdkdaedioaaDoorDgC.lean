/- Faults: what they must be, both readings. Printed by gdgc.py. No condition. -/
import Derived.Test.YtahkkdkdaedioaaDoorDiaS
import Derived.Test.YtahkkdkdaedioaaDoorDiaL
import Derived.Test.YtahkkdkdaedioaaDoorQB
namespace Go.Proofs.YtahkkdkdaedioaaDoor
open Go.ChangeShapes Go.WideShapes Go.ChangeAt Go.RowKit Go.Sort
set_option linter.unusedVariables false
set_option maxRecDepth 100000
def formP (f : FaultT) : Bool := decide (1 ≤ f.kind ∧ f.kind ≤ 3) && (decide (0 ≤ f.card ∧ f.card ≤ 11) && (if f.kind = 3 then decide (0 ≤ f.place ∧ f.place ≤ 3) && decide (0 ≤ f.digit ∧ f.digit ≤ 9) else decide (f.place = 0) && decide (f.digit = 0)))
set_option maxHeartbeats 1000000 in
theorem l19Form_c (f : FaultT) (w : World) : Calls Tryd.prog 76 #[vFault f] w fun e w' => e = .returned (.bool (formP f)) ∧ Below w.heap.size w w' := by
  obtain ⟨k, c, p, d⟩ := f
  unfold formP
  simp only
  by_cases h1 : 1 ≤ k ∧ k ≤ 3
  · rw [decide_eq_true h1, Bool.true_and]
    have H1 := Lib.hid h1
    by_cases h2 : 0 ≤ c ∧ c ≤ 11
    · rw [decide_eq_true h2, Bool.true_and]
      have H2 := Lib.hid h2
      by_cases h3 : k = 3
      · subst h3
        rw [if_pos rfl]
        by_cases h4 : 0 ≤ p ∧ p ≤ 3
        · rw [decide_eq_true h4, Bool.true_and]
          have H4 := Lib.hid h4
          clear h1 h2 h4
          go_enter Tryd.func76, Tryd.ntmps76
          go_wp2_with fail
          with_reducible refine (l00In_any _ _ _ _).mono ?_
          rw [decide_eq_true H1.out]
          rintro e w' ⟨rfl, rfl⟩
          go_wp2_with fail
          with_reducible refine (l00In_any _ _ _ _).mono ?_
          rw [decide_eq_true H2.out]
          rintro e w' ⟨rfl, rfl⟩
          go_wp2_with fail
          with_reducible refine (l00In_any _ _ _ _).mono ?_
          rw [decide_eq_true H4.out]
          rintro e w' ⟨rfl, rfl⟩
          go_wp2_with fail
          with_reducible refine (l00In_any _ _ _ _).mono ?_
          rintro e w' ⟨rfl, rfl⟩
          go_wp2
          go_ret
          exact ⟨ret_bool (by rw [Bool.eq_iff_iff]; simp), (Below.refl _ _).alloc (Nat.le_refl _) _⟩
        · rw [decide_eq_false h4, Bool.false_and]
          have H4 := Lib.hid h4
          clear h1 h2 h4
          go_enter Tryd.func76, Tryd.ntmps76
          go_wp2_with fail
          with_reducible refine (l00In_any _ _ _ _).mono ?_
          rw [decide_eq_true H1.out]
          rintro e w' ⟨rfl, rfl⟩
          go_wp2_with fail
          with_reducible refine (l00In_any _ _ _ _).mono ?_
          rw [decide_eq_true H2.out]
          rintro e w' ⟨rfl, rfl⟩
          go_wp2_with fail
          with_reducible refine (l00In_any _ _ _ _).mono ?_
          rw [decide_eq_false H4.out]
          rintro e w' ⟨rfl, rfl⟩
          go_wp2
          go_ret
          exact ⟨rfl, (Below.refl _ _).alloc (Nat.le_refl _) _⟩
      · rw [if_neg h3]
        have h3' : (k == 3) = false := by simpa using h3
        by_cases h4 : p = 0
        · subst h4
          clear h1 h2 h3
          go_enter Tryd.func76, Tryd.ntmps76
          go_wp2_with fail
          with_reducible refine (l00In_any _ _ _ _).mono ?_
          rw [decide_eq_true H1.out]
          rintro e w' ⟨rfl, rfl⟩
          go_wp2_with fail
          with_reducible refine (l00In_any _ _ _ _).mono ?_
          rw [decide_eq_true H2.out]
          rintro e w' ⟨rfl, rfl⟩
          go_wp2
          go_ret
          exact ⟨ret_bool (by rw [Bool.eq_iff_iff]; simp), (Below.refl _ _).alloc (Nat.le_refl _) _⟩
        · have h4' : (p == 0) = false := by simpa using h4
          rw [decide_eq_false h4, Bool.false_and]
          clear h1 h2 h3 h4
          go_enter Tryd.func76, Tryd.ntmps76
          go_wp2_with fail
          with_reducible refine (l00In_any _ _ _ _).mono ?_
          rw [decide_eq_true H1.out]
          rintro e w' ⟨rfl, rfl⟩
          go_wp2_with fail
          with_reducible refine (l00In_any _ _ _ _).mono ?_
          rw [decide_eq_true H2.out]
          rintro e w' ⟨rfl, rfl⟩
          go_wp2
          go_ret
          exact ⟨rfl, (Below.refl _ _).alloc (Nat.le_refl _) _⟩
    · rw [decide_eq_false h2, Bool.false_and]
      have H2 := Lib.hid h2
      clear h1 h2
      go_enter Tryd.func76, Tryd.ntmps76
      go_wp2_with fail
      with_reducible refine (l00In_any _ _ _ _).mono ?_
      rw [decide_eq_true H1.out]
      rintro e w' ⟨rfl, rfl⟩
      go_wp2_with fail
      with_reducible refine (l00In_any _ _ _ _).mono ?_
      rw [decide_eq_false H2.out]
      rintro e w' ⟨rfl, rfl⟩
      go_wp2
      go_ret
      exact ⟨rfl, (Below.refl _ _).alloc (Nat.le_refl _) _⟩
  · rw [decide_eq_false h1, Bool.false_and]
    have H1 := Lib.hid h1
    clear h1
    go_enter Tryd.func76, Tryd.ntmps76
    go_wp2_with fail
    with_reducible refine (l00In_any _ _ _ _).mono ?_
    rw [decide_eq_false H1.out]
    rintro e w' ⟨rfl, rfl⟩
    go_wp2
    go_ret
    exact ⟨rfl, (Below.refl _ _).alloc (Nat.le_refl _) _⟩
def fltB (xs : List Int) (f : FaultT) : Bool := formP f && (decide (f.card < (xs.length : Int)) && (!(f.kind == 3) || !(digA (atN xs f.card) f.place == f.digit)))
theorem formP_true {f : FaultT} (h : formP f = true) : (1 ≤ f.kind ∧ f.kind ≤ 3) ∧ (0 ≤ f.card ∧ f.card ≤ 11) ∧ (f.kind = 3 ∧ (0 ≤ f.place ∧ f.place ≤ 3) ∧ (0 ≤ f.digit ∧ f.digit ≤ 9) ∨ f.kind ≠ 3 ∧ f.place = 0 ∧ f.digit = 0) := by
  unfold formP at h
  simp only [Bool.and_eq_true, decide_eq_true_eq] at h
  obtain ⟨h1, h2, h3⟩ := h
  refine ⟨h1, h2, ?_⟩
  split at h3
  · rename_i hk
    simp only [Bool.and_eq_true, decide_eq_true_eq] at h3
    exact .inl ⟨hk, h3⟩
  · rename_i hk
    simp only [Bool.and_eq_true, decide_eq_true_eq] at h3
    exact .inr ⟨hk, h3⟩
theorem fltB_iff {xs : List Int} (hl : xs.length ≤ 12) (f : FaultT) : fltB xs f = true ↔ fOk xs f := by
  unfold fltB
  simp only [Bool.and_eq_true, Bool.or_eq_true, decide_eq_true_eq, Bool.not_eq_true', beq_eq_false_iff_ne]
  constructor
  · rintro ⟨h1, h2, h3⟩
    obtain ⟨a, b, c⟩ := formP_true h1
    refine ⟨⟨b.1, h2⟩, ?_⟩
    rcases c with ⟨c1, c2, c3⟩ | ⟨c1, c2, c3⟩
    · refine .inr ⟨c1, c2, c3, ?_⟩
      rcases h3 with h3 | h3
      · exact absurd c1 h3
      · exact h3
    · exact .inl ⟨by omega, c2, c3⟩
  · rintro ⟨⟨a, b⟩, c⟩
    refine ⟨?_, b, ?_⟩
    · unfold formP
      simp only [Bool.and_eq_true, decide_eq_true_eq]
      rcases c with ⟨c1, c2, c3⟩ | ⟨c1, c2, c3, _⟩
      · exact ⟨by omega, by omega, by rw [if_neg (by omega)]; simp [c2, c3]⟩
      · exact ⟨by omega, by omega, by rw [if_pos c1]; simp only [Bool.and_eq_true, decide_eq_true_eq]; exact ⟨c2, c3⟩⟩
    · rcases c with ⟨c1, _⟩ | ⟨_, _, _, c4⟩
      · left; omega
      · right; exact c4
set_option maxHeartbeats 1000000 in
theorem l19Fault_c {xs : List Int} (f : FaultT) {v : Value} {w : World} {A : Nat} (ha : RdI A w v xs) (hl : xs.length ≤ 12) (hx : ∀ n ∈ xs, 0 ≤ n ∧ n ≤ 9999) :
    Calls Tryd.prog 52 #[v, vFault f] w fun e w' => e = .returned (.bool (fltB xs f)) ∧ Below w.heap.size w w' := by
  cases hq : formP f with
  | true =>
    obtain ⟨hk, hc, h3⟩ := formP_true hq
    by_cases hcl : f.card < (xs.length : Int)
    · by_cases h3k : f.kind = 3
      · rcases h3 with ⟨_, hp, hd⟩ | ⟨h, _⟩
        · obtain ⟨k, c, p, d⟩ := f
          simp only at hk hc hcl h3k hp hd
          subst h3k
          obtain ⟨c', rfl⟩ := Int.eq_ofNat_of_zero_le hc.1
          obtain ⟨p', rfl⟩ := Int.eq_ofNat_of_zero_le hp.1
          obtain ⟨d', rfl⟩ := Int.eq_ofNat_of_zero_le hd.1
          have h := l19Fault_three (p := p') (d := d') ha hl hx (c := c') (by omega) (by omega) (by omega)
          refine h.mono fun e w' hh => ⟨hh.1.trans ?_, hh.2⟩
          unfold fltB atN
          rw [hq]
          simp [hcl]
        · exact absurd h3k h
      · have hB : fltB xs f = true := by
          unfold fltB
          rw [hq]
          simp [hcl, h3k]
        rw [hB]
        have hcon := fun W => l19Form_c f W
        rw [hq] at hcon
        obtain ⟨k, c, p, d⟩ := f
        simp only at hk hc hcl h3k
        have h3k' : (k != 3) = true := by simpa using h3k
        have hle := ha.le
        obtain ⟨ao, cap, rfl⟩ := ha.shape
        have Hcon := Lib.hid hcon
        have hB0 := Box.new w [.int .i64 k, .int .i64 c, .int .i64 p, .int .i64 d] 40
        have hb0 : Below w.heap.size w (w.alloc (.cells #[.int .i64 k, .int .i64 c, .int .i64 p, .int .i64 d] 40)) := (Below.refl _ _).alloc (Nat.le_refl _) _
        have HB0 := Lib.hid hB0
        have Hb0 := Lib.hid hb0
        clear hcon hB0 hb0 ha hx h3 h3k hB hq hk hc
        go_enter Tryd.func52, Tryd.ntmps52
        go_wp2_with fail
        with_reducible refine (Hcon.out _).mono ?_
        rintro e w1 ⟨rfl, hb1⟩
        have hB1 := HB0.out.on hb1
        have hbx := Hb0.out.trans (hb1.mono Hb0.out.size)
        have k0 := hB1.cell 0 _ rfl
        have k1 := hB1.cell 1 _ rfl
        have k2 := hB1.cell 2 _ rfl
        have k3 := hB1.cell 3 _ rfl
        have Hbx := Lib.hid hbx
        clear hB1 hb1 hbx HB0 Hb0 Hcon
        go_wp2
        go_quiet (fail)
        go_wp2
        go_ret
        exact ⟨ret_bool (by simp), ⟨Hbx.out.os, Hbx.out.tape, Hbx.out.output, Hbx.out.size, Hbx.out.block⟩⟩
    · have hB : fltB xs f = false := by
        unfold fltB
        rw [decide_eq_false hcl]
        simp
      rw [hB]
      have hcon := fun W => l19Form_c f W
      rw [hq] at hcon
      obtain ⟨k, c, p, d⟩ := f
      simp only at hcl
      have hle := ha.le
      obtain ⟨ao, cap, rfl⟩ := ha.shape
      have Hcon := Lib.hid hcon
      have hB0 := Box.new w [.int .i64 k, .int .i64 c, .int .i64 p, .int .i64 d] 40
      have hb0 : Below w.heap.size w (w.alloc (.cells #[.int .i64 k, .int .i64 c, .int .i64 p, .int .i64 d] 40)) := (Below.refl _ _).alloc (Nat.le_refl _) _
      have HB0 := Lib.hid hB0
      have Hb0 := Lib.hid hb0
      clear hcon hB0 hb0 ha hx h3 hB hq hk hc
      go_enter Tryd.func52, Tryd.ntmps52
      go_wp2_with fail
      with_reducible refine (Hcon.out _).mono ?_
      rintro e w1 ⟨rfl, hb1⟩
      have hB1 := HB0.out.on hb1
      have hbx := Hb0.out.trans (hb1.mono Hb0.out.size)
      have k1 := hB1.cell 1 _ rfl
      have Hbx := Lib.hid hbx
      clear hB1 hb1 hbx HB0 Hb0 Hcon
      go_wp2
      go_ret
      exact ⟨rfl, Hbx.out⟩
  | false =>
    have hB : fltB xs f = false := by unfold fltB; rw [hq]; rfl
    rw [hB]
    have hcon := fun W => l19Form_c f W
    rw [hq] at hcon
    obtain ⟨k, c, p, d⟩ := f
    obtain ⟨ao, cap, rfl⟩ := ha.shape
    have Hcon := Lib.hid hcon
    have hb0 : Below w.heap.size w (w.alloc (.cells #[.int .i64 k, .int .i64 c, .int .i64 p, .int .i64 d] 40)) := (Below.refl _ _).alloc (Nat.le_refl _) _
    have Hb0 := Lib.hid hb0
    clear hcon hb0 ha hx hB hq
    go_enter Tryd.func52, Tryd.ntmps52
    go_wp2_with fail
    with_reducible refine (Hcon.out _).mono ?_
    rintro e w1 ⟨rfl, hb1⟩
    have hbx := Hb0.out.trans (hb1.mono Hb0.out.size)
    have Hbx := Lib.hid hbx
    clear hb1 hbx Hb0 Hcon
    go_wp2
    go_ret
    exact ⟨rfl, Hbx.out⟩
/-- the first k faults stand as they must -/
def okK (xs : List Int) (fs : List FaultT) (k : Nat) : Prop := ∀ j f, j < k → fs[j]? = some f → fOk xs f ∧ ∀ i g, j = i + 1 → fs[i]? = some g → g.card < f.card
theorem okK_zero (xs : List Int) (fs : List FaultT) : okK xs fs 0 := fun j f h => absurd h (by omega)
theorem okK_first {xs : List Int} {fs : List FaultT} {f : FaultT} (h : fs[0]? = some f) (hf : fOk xs f) : okK xs fs 1 := by
  intro j g hj hg
  obtain rfl : j = 0 := by omega
  rw [h] at hg
  obtain rfl := Option.some.inj hg
  exact ⟨hf, fun i g h => by omega⟩
theorem okK_succ {xs : List Int} {fs : List FaultT} {k : Nat} {f g : FaultT} (h : okK xs fs (k + 1)) (hg : fs[k]? = some g) (hf : fs[k + 1]? = some f) (ho : fOk xs f) (hc : g.card < f.card) : okK xs fs (k + 2) := by
  intro j z hj hz
  by_cases e : j < k + 1
  · exact h j z e hz
  · obtain rfl : j = k + 1 := by omega
    rw [hf] at hz
    obtain rfl := Option.some.inj hz
    refine ⟨ho, fun i g' h' hg' => ?_⟩
    obtain rfl : i = k := by omega
    rw [hg] at hg'
    obtain rfl := Option.some.inj hg'
    exact hc
theorem okK_of {xs : List Int} {fs : List FaultT} (h : fsOk xs fs) : okK xs fs fs.length := by
  intro j f hj hf
  refine ⟨h.1 f (List.mem_of_getElem? hf), fun i g hi hg => ?_⟩
  have h2 := h.2.1
  rw [List.pairwise_iff_getElem] at h2
  have h3 := at_lt hg
  have h4 := h2 i j h3 hj (by omega)
  have e1 : fs[i] = g := Option.some.inj ((List.getElem?_eq_getElem h3).symm.trans hg)
  have e2 : fs[j] = f := Option.some.inj ((List.getElem?_eq_getElem hj).symm.trans hf)
  rw [e1, e2] at h4
  exact h4
theorem fsOk_of {xs : List Int} {fs : List FaultT} (h : okK xs fs fs.length) (hl : fs.length ≤ 2) : fsOk xs fs := by
  match fs, h, hl with
  | [], _, _ => exact fsOk_nil xs
  | [f], h, _ => exact fsOk_one (h 0 f (by simp) rfl).1
  | [f, g], h, _ => exact fsOk_two (h 0 f (by simp) rfl).1 (h 1 g (by simp) rfl).1 ((h 1 g (by simp) rfl).2 0 f rfl rfl)
  | _ :: _ :: _ :: _, _, hl => simp at hl
def FltsR (xs : List Int) (fs : List FaultT) (e : Ending) : Prop := ∃ q : Bool, e = .returned (.bool q) ∧ (q = true ↔ fsOk xs fs)
theorem not_fs {xs : List Int} {fs : List FaultT} (h : ¬ okK xs fs fs.length) : false = true ↔ fsOk xs fs := ⟨(fun e => by cases e), fun e => absurd (okK_of e) h⟩
set_option maxHeartbeats 2000000 in
theorem l19Faults_c {xs : List Int} {fs : List FaultT} {v u : Value} {w : World} {A B : Nat} (ha : RdI A w v xs) (hf : RdFaultS B w u fs) (hl : xs.length ≤ 12) (hx : ∀ n ∈ xs, 0 ≤ n ∧ n ≤ 9999) :
    Calls Tryd.prog 30 #[v, u] w fun e w' => FltsR xs fs e ∧ Below w.heap.size w w' := by
  have Ha := Lib.hid ha.tight
  have hfle := hf.le
  obtain ⟨fo, fcap, rfl, hfc⟩ := eFault_open hf
  obtain ⟨n, hn⟩ : ∃ n, n = fs.length := ⟨_, rfl⟩
  rw [← hn] at hfle hfc ⊢
  have Hn := Lib.hid hn
  have Hfc := Lib.hid hfc
  have Hx := Lib.hid hx
  clear ha hf hfc hn hx
  go_enter Tryd.func30, Tryd.ntmps30
  go_wp2
  go_loopw [5] (fun i wr => ∃ k : Nat, k ≤ n ∧ i = .int .i64 k ∧ Hid (okK xs fs k) ∧ Below w.heap.size w wr) (fun i _ => n - (intOf i).toNat)
  case atStart => exact ⟨0, Nat.zero_le _, rfl, Lib.hid (okK_zero _ _), Below.refl _ _⟩
  case round =>
    obtain ⟨k, hk, rfl, hp, hb⟩ := hrel
    by_cases hkn : k < n
    · obtain ⟨b, off, rfl, hlt, hc⟩ := Hfc.out (by omega)
      obtain ⟨y, hy, ⟨c0, c1, c2, c3⟩, hyo⟩ := hc k hkn
      have f0 := cell_regrown ((hb.cell (p := ⟨b, off + k * 4, none⟩) hlt.2).trans c0)
      have f1 := cell_regrown ((hb.cell (p := ⟨b, off + k * 4 + 1, none⟩) hlt.2).trans c1)
      have f2 := cell_regrown ((hb.cell (p := ⟨b, off + k * 4 + 2, none⟩) hlt.2).trans c2)
      have f3 := cell_regrown ((hb.cell (p := ⟨b, off + k * 4 + 3, none⟩) hlt.2).trans c3)
      have hcon := fun d os => l19Fault_c (w := grow (redrawn wr d) os) (A := wr.heap.size) y (Rds.regrown (Rds.onn Ha.out hb) (Nat.le_refl _) d os) hl Hx.out
      have hiff := fltB_iff hl y
      have Hcon := Lib.hid hcon
      have Hy := Lib.hid hy
      have hkni : (k : Int) < (n : Int) := by omega
      clear hcon hy c0 c1 c2 c3 hyo
      cases hq : fltB xs y with
      | false =>
        rw [hq] at Hcon hiff
        have hno : ¬ okK xs fs fs.length := fun h => by have := hiff.2 (h k y (by have := Hn.out; omega) Hy.out).1; cases this
        have Hno := Lib.hid hno
        have Hb := Lib.hid hb
        clear hq hiff hno hc hb
        go_upto_region 4 with fail
        refine wp_region_quiet_below (by kernel_rfl) (by kernel_rfl) ?_
        repeat ((with_reducible refine wpQuiet_step (fun K hK => ?_)); go_simp; first | ((with_reducible refine hK _ ?_); clear hK K) | ((with_reducible rw [if_neg]); rotate_left; (intro hgd; cases hgd); (with_reducible refine hK _ ?_); clear hK K) | (apply Exists.intro; refine ⟨fun _ => ?_, hK _ ?_⟩; ((first | (go_at_call 52; with_reducible exact qb_below (Hcon.out _ _)))); clear hK K))
        refine wpQuiet_nil ?_
        intro _ hw'
        obtain ⟨⟨dq, osq⟩, hw''⟩ := hw'
        subst hw''
        have hbq := below_regrown wr dq osq
        generalize grow (redrawn wr dq) osq = wq at hbq ⊢
        have Hb1 := Lib.hid (Hb.out.trans (hbq.mono Hb.out.size))
        clear hbq f0 f1 f2 f3
        go_wp2
        go_ret
        exact ⟨⟨false, rfl, not_fs Hno.out⟩, Hb1.out⟩
      | true =>
        rw [hq] at Hcon hiff
        have hyk : fOk xs y := hiff.1 rfl
        have Hyk := Lib.hid hyk
        have Hb := Lib.hid hb
        clear hq hiff hyk
        rcases k with _ | k
        · clear hc hb
          simp only [Nat.zero_mul, Nat.add_zero] at f0 f1 f2 f3
          go_upto_region 4 with fail
          refine wp_region_quiet_below (by kernel_rfl) (by kernel_rfl) ?_
          repeat ((with_reducible refine wpQuiet_step (fun K hK => ?_)); go_simp; first | ((with_reducible refine hK _ ?_); clear hK K) | ((with_reducible rw [if_neg]); rotate_left; (intro hgd; cases hgd); (with_reducible refine hK _ ?_); clear hK K) | (apply Exists.intro; refine ⟨fun _ => ?_, hK _ ?_⟩; ((first | (go_at_call 52; with_reducible exact qb_below (Hcon.out _ _)))); clear hK K))
          refine wpQuiet_nil ?_
          intro _ hw'
          obtain ⟨⟨dq, osq⟩, hw''⟩ := hw'
          subst hw''
          have hbq := below_regrown wr dq osq
          generalize grow (redrawn wr dq) osq = wq at hbq ⊢
          have Hb1 := Lib.hid (Hb.out.trans (hbq.mono Hb.out.size))
          clear hbq f0 f1 f2 f3
          go_wp2
          go_roundw
          case rel => exact ⟨1, by omega, by go_num, Lib.hid (okK_first Hy.out Hyk.out), Hb1.out⟩
          case measure => simp [intOf]; omega
        · obtain ⟨z, hz, ⟨_, d1, _, _⟩, _⟩ := hc k (by omega)
          have g1 := cell_regrown ((hb.cell (p := ⟨b, off + k * 4 + 1, none⟩) hlt.2).trans d1)
          have Hz := Lib.hid hz
          have hs1 : IntKind.i64.wrap ((k : Int) + 1 - 1) = (k : Int) := by rw [show (k : Int) + 1 - 1 = (k : Int) by omega]; exact IntWalk.i64_in _ (by omega)
          have hs2 : IntKind.i64.wrap (k : Int) = (k : Int) := IntWalk.i64_in _ (by omega)
          have hkn4 : (k : Int) + 1 < (n : Int) := by omega
          have hkn5 : ((k : Int) + 1).toNat = k + 1 := by omega
          have hkn6 : (0 : Int) < (k : Int) + 1 := by omega
          have hkn7 : (0 : Int) ≤ (k : Int) + 1 := by omega
          have hkn2 : (k : Int) < (n : Int) := by omega
          have hkn3 : k < n := by omega
          clear hc hb d1 hz
          by_cases hlt2 : z.card < y.card
          · have ht : decide (y.card ≤ z.card) = false := by simp; omega
            go_upto_region 4 with fail
            refine wp_region_quiet_below (by kernel_rfl) (by kernel_rfl) ?_
            repeat ((with_reducible refine wpQuiet_step (fun K hK => ?_)); go_simp; first | ((with_reducible refine hK _ ?_); clear hK K) | ((with_reducible rw [if_neg]); rotate_left; (intro hgd; cases hgd); (with_reducible refine hK _ ?_); clear hK K) | (apply Exists.intro; refine ⟨fun _ => ?_, hK _ ?_⟩; ((first | (go_at_call 52; with_reducible exact qb_below (Hcon.out _ _)))); clear hK K))
            refine wpQuiet_nil ?_
            intro _ hw'
            obtain ⟨⟨dq, osq⟩, hw''⟩ := hw'
            subst hw''
            have hbq := below_regrown wr dq osq
            generalize grow (redrawn wr dq) osq = wq at hbq ⊢
            have Hb1 := Lib.hid (Hb.out.trans (hbq.mono Hb.out.size))
            clear hbq f0 f1 f2 f3 g1 hs1 hs2 ht hkn4 hkn5 hkn6 hkn7
            go_wp2
            go_roundw
            case rel => exact ⟨k + 2, by omega, by go_num, Lib.hid (okK_succ hp.out Hz.out Hy.out Hyk.out hlt2), Hb1.out⟩
            case measure => simp [intOf]; omega
          · have ht : decide (y.card ≤ z.card) = true := by simp; omega
            have hno : ¬ okK xs fs fs.length := fun h => by have := (h (k + 1) y (by have := Hn.out; omega) Hy.out).2 k z rfl Hz.out; omega
            have Hno := Lib.hid hno
            clear hno
            go_upto_region 4 with fail
            refine wp_region_quiet_below (by kernel_rfl) (by kernel_rfl) ?_
            repeat ((with_reducible refine wpQuiet_step (fun K hK => ?_)); go_simp; first | ((with_reducible refine hK _ ?_); clear hK K) | ((with_reducible rw [if_neg]); rotate_left; (intro hgd; cases hgd); (with_reducible refine hK _ ?_); clear hK K) | (apply Exists.intro; refine ⟨fun _ => ?_, hK _ ?_⟩; ((first | (go_at_call 52; with_reducible exact qb_below (Hcon.out _ _)))); clear hK K))
            refine wpQuiet_nil ?_
            intro _ hw'
            obtain ⟨⟨dq, osq⟩, hw''⟩ := hw'
            subst hw''
            have hbq := below_regrown wr dq osq
            generalize grow (redrawn wr dq) osq = wq at hbq ⊢
            have Hb1 := Lib.hid (Hb.out.trans (hbq.mono Hb.out.size))
            clear hbq f0 f1 f2 f3 g1 hs1 hs2 ht hkn4 hkn5 hkn6 hkn7
            go_wp2
            go_ret
            exact ⟨⟨false, rfl, not_fs Hno.out⟩, Hb1.out⟩
    · obtain rfl : k = n := by omega
      have Hb := Lib.hid hb
      clear hb
      go_wp2
      go_ret
      have hp2 := hp.out
      rw [Hn.out] at hp2
      exact ⟨⟨_, rfl, by rw [decide_eq_true_iff]; exact ⟨fun h => fsOk_of hp2 (by have := Hn.out; omega), fun h => by have := h.2.2; have := Hn.out; omega⟩⟩, Hb.out⟩
end Go.Proofs.YtahkkdkdaedioaaDoor
