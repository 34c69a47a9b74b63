/- How many posts can be filled: the program's. No condition. -/
import Derived.Test.YtfojfcmjoacbgaaAug3
import Derived.Test.YtfojfcmjoacbgaaFillI
namespace Go.Proofs.Ytfojfcmjoacbgaa
open Go.ChangeShapes Go.WideShapes Go.ChangeAt Go.RowKit Go.Sort
set_option linter.unusedVariables false
set_option maxRecDepth 100000
def bitB (l : Int) (k : Nat) : Bool := bits BinOp.and IntKind.i64 (l / 2 ^ k) 1 == 1
def andnB (l : Int) (k : Nat) : Int := bits BinOp.andNot IntKind.i64 l (IntKind.i64.wrap (2 ^ k))
theorem andn_fin : ∀ l : Fin 256, ∀ k : Fin 8, (decide (0 ≤ andnB (l.val : Int) k.val) && decide (andnB (l.val : Int) k.val < 256)) = true := by decide +kernel
theorem bit_fin : ∀ l : Fin 256, ∀ k : Fin 8, ∀ j : Fin 8, bitB (andnB (l.val : Int) k.val) j.val = (if j.val = k.val then false else bitB (l.val : Int) j.val) := by decide +kernel
theorem full_fin : ∀ n : Fin 9, ∀ j : Fin 8, j.val < n.val → bitB ((2 : Int) ^ n.val - 1) j.val = true := by decide +kernel
theorem andn_bd {l : Int} {k : Nat} (h0 : 0 ≤ l) (h1 : l < 256) (hk : k < 8) : 0 ≤ andnB l k ∧ andnB l k < 256 := by
  have := andn_fin ⟨l.toNat, by omega⟩ ⟨k, hk⟩
  rw [Bool.and_eq_true, decide_eq_true_eq, decide_eq_true_eq] at this
  rw [show ((l.toNat : Nat) : Int) = l by omega] at this
  exact this
theorem bit_andn {l : Int} {k j : Nat} (h0 : 0 ≤ l) (h1 : l < 256) (hk : k < 8) (hj : j < 8) : bitB (andnB l k) j = upd (bitB l) k false j := by
  have := bit_fin ⟨l.toNat, by omega⟩ ⟨k, hk⟩ ⟨j, hj⟩
  rw [show ((l.toNat : Nat) : Int) = l by omega] at this
  exact this
theorem mostF_congr (E : Nat → Nat → Bool) {n : Nat} : ∀ (r d : Nat) (a b : Nat → Bool), (∀ j, j < n → a j = b j) → mostF E n r d a = mostF E n r d b := by
  intro r
  induction r with
  | zero => intro d a b _; rfl
  | succ r ih =>
    intro d a b h
    rw [mostF_succ, mostF_succ, ih (d + 1) a b h]
    generalize mostF E n r (d + 1) b = b0
    have key : ∀ (l : List Nat) (c : Nat), (∀ k ∈ l, k < n) → l.foldl (fun b' k => if (a k && E k d) = true then max b' (1 + mostF E n r (d + 1) (upd a k false)) else b') c = l.foldl (fun b' k => if (b k && E k d) = true then max b' (1 + mostF E n r (d + 1) (upd b k false)) else b') c := by
      intro l
      induction l with
      | nil => intro c _; rfl
      | cons k l ihl =>
        intro c hl
        have hk := hl k (List.mem_cons_self ..)
        rw [List.foldl_cons, List.foldl_cons, h k hk, ih (d + 1) (upd a k false) (upd b k false) (fun j hj => by unfold upd; split; rfl; exact h j hj)]
        exact ihl _ fun k' hk' => hl k' (List.mem_cons_of_mem _ hk')
    exact key _ _ fun k hk => List.mem_range.1 hk
def mostK (E : Nat → Nat → Bool) (n r d : Nat) (left : Nat → Bool) (k : Nat) : Nat := (List.range k).foldl (fun b k => if (left k && E k d) = true then max b (1 + mostF E n r (d + 1) (upd left k false)) else b) (mostF E n r (d + 1) left)
theorem mostK_zero (E : Nat → Nat → Bool) (n r d : Nat) (left : Nat → Bool) : mostK E n r d left 0 = mostF E n r (d + 1) left := rfl
theorem mostK_succ (E : Nat → Nat → Bool) (n r d : Nat) (left : Nat → Bool) (k : Nat) : mostK E n r d left (k + 1) = if (left k && E k d) = true then max (mostK E n r d left k) (1 + mostF E n r (d + 1) (upd left k false)) else mostK E n r d left k := by
  unfold mostK
  rw [List.range_succ, List.foldl_append]
  rfl
theorem mostF_bd (E : Nat → Nat → Bool) (n : Nat) : ∀ (r d : Nat) (left : Nat → Bool), mostF E n r d left ≤ r := by
  intro r
  induction r with
  | zero => intro d left; exact Nat.le_refl _
  | succ r ih =>
    intro d left
    show mostK E n r d left n ≤ r + 1
    have key : ∀ k, mostK E n r d left k ≤ r + 1 := by
      intro k
      induction k with
      | zero => rw [mostK_zero]; have := ih (d + 1) left; omega
      | succ k ihk =>
        rw [mostK_succ]
        split
        · have := ih (d + 1) (upd left k false); omega
        · exact ihk
    exact key n
theorem mostK_bd (E : Nat → Nat → Bool) (n r d : Nat) (left : Nat → Bool) (k : Nat) : mostK E n r d left k ≤ r + 1 := by
  induction k with
  | zero => rw [mostK_zero]; have := mostF_bd E n r (d + 1) left; omega
  | succ k ihk =>
    rw [mostK_succ]
    split
    · have := mostF_bd E n r (d + 1) (upd left k false); omega
    · exact ihk
set_option maxHeartbeats 2000000 in
theorem mostPosts_c {xs : List OperatorT} {ps : List Int} {lv : Value} {OB A B : Nat} (hv : validOs xs = true) (hp : postsB ps = true) (hA : A ≤ OB) (hB : B ≤ OB) :
    ∀ (r d : Nat) (left : Int) (W : World) (pv : Value), d + r = ps.length → OB ≤ W.heap.size → RdOperatorS A W lv xs → RdI B W pv (ps.drop d) → 0 ≤ left → left < 256 →
    Calls Try.prog 68 #[lv, pv, .int .i64 left] W fun e w' => e = .returned (.int .i64 (mostF (edgeO xs ps) xs.length r d (bitB left) : Nat)) ∧ Below W.heap.size W w' := by
  obtain ⟨hn8, hxs⟩ := validOs_parts hv
  obtain ⟨hm8, hps⟩ := postsB_parts hp
  intro r
  induction r with
  | zero =>
    intro d left W pv hd hOB hl hpo h0 h1
    obtain ⟨pa, pc, rfl⟩ := hpo.shape
    have e0 : (ps.drop d).length = 0 := by rw [List.length_drop]; omega
    rw [e0]
    clear hpo hl
    go_enter Try.func68, Try.ntmps68
    go_wp2
    go_ret
    exact ⟨rfl, Below.refl _ _⟩
  | succ r ih =>
    intro d left W pv hd hOB hl hpo h0 h1
    obtain ⟨n, hn⟩ : ∃ n, n = xs.length := ⟨_, rfl⟩
    obtain ⟨L, hL⟩ : ∃ L, L = (ps.drop d).length := ⟨_, rfl⟩
    have hLr : L = r + 1 := by rw [hL, List.length_drop]; omega
    obtain ⟨la, lc, rfl, hlo⟩ := eOperator_open hl
    obtain ⟨pa, pc, rfl, hpo2⟩ := RdI.open hpo
    rw [← hL] at hpo2 hpo ⊢
    rw [← hn] at hlo hn8 hl ih ⊢
    obtain ⟨pb, poff, rfl, plt, pcc⟩ := hpo2 (by omega)
    obtain ⟨y, hy, pcy, _⟩ := pcc 0 (by omega)
    have hyd : ps[d]? = some y := by rw [List.getElem?_drop] at hy; simpa using hy
    have hyr := hps y (List.mem_of_getElem? hyd)
    have hE : ∀ k, edgeO xs ps k d = canAt xs y (k : Int) := fun k => by unfold edgeO; rw [atI_of hyd]
    obtain ⟨hc1, -, hc2⟩ := hpo.cap
    have hc3 := hc2 (by omega)
    have hpcy : W.cell? ⟨pb, poff, none⟩ = some (.int .i64 y) := by simpa using pcy
    have hdrop : (ps.drop d).drop 1 = ps.drop (d + 1) := by rw [List.drop_drop]
    have hms : mostF (edgeO xs ps) n (r + 1) d (bitB left) = mostK (edgeO xs ps) n r d (bitB left) n := rfl
    have hbd := mostF_bd (edgeO xs ps) n r (d + 1)
    rw [hms]
    have Hl := Lib.hid hl
    have Hlo := Lib.hid hlo
    have Hpo := Lib.hid hpo
    have Hn := Lib.hid hn
    have Hxs := Lib.hid hxs
    have HE := Lib.hid hE
    have Hyr := Lib.hid hyr
    have Hpcy := Lib.hid hpcy
    have Hd := Lib.hid hd
    have HLr := Lib.hid hLr
    have Hbd := Lib.hid hbd
    have hL1 : 1 ≤ L := by omega
    have hL0 : 0 < L := by omega
    have hL1i : (1 : Int) ≤ (L : Int) := by omega
    have hL8 : L ≤ 8 := by omega
    have hpbO : pb < OB := by omega
    have hLne : ((L : Int) == 0) = false := by simp; omega
    by_cases hq : pc = 1
    · subst hq
      have hsubr : RdI B W (.slice (some ⟨pb, poff, none⟩) 0 0) (ps.drop (d + 1)) := by
        have h9 : RdI B W (.slice (some ⟨pb, poff, none⟩) (L - 1) 0) ((ps.drop d).drop 1) := Rds.drop0 hpo (by omega)
        rw [hdrop, show L - 1 = 0 by omega] at h9
        exact h9
      have hcall := ih (d + 1) left W (.slice (some ⟨pb, poff, none⟩) 0 0) (by omega) hOB hl hsubr h0 h1
      have Hcall := Lib.hid hcall
      have Hsub := Lib.hid hsubr
      clear hl hlo hpo hn hyr hE hpo2 pcc hy pcy hyd hL hLr hd hdrop hms hpcy hc2 hsubr hcall hbd
      go_enter Try.func68, Try.ntmps68
      go_wp2_with fail
      with_reducible refine Hcall.out.mono ?_
      rintro e w1 ⟨rfl, hb1⟩
      have Hb1 := Lib.hid hb1
      clear hb1
      go_wp2
      go_loopw [7, 20] (fun mv i wr => ∃ k : Nat, k ≤ n ∧ i = .int .i64 k ∧ mv = .int .i64 (mostK (edgeO xs ps) n r d (bitB left) k : Nat) ∧ Below W.heap.size W wr) (fun _ i _ => n - (intOf i).toNat)
      case atStart => exact ⟨0, Nat.zero_le _, rfl, rfl, Hb1.out⟩
      case round =>
        obtain ⟨k, hk, rfl, rfl, hb⟩ := hrel
        by_cases hkn : k < n
        · obtain ⟨b0, off, rfl, lt, cc⟩ := Hlo.out (by omega)
          obtain ⟨x, hx, ⟨x0, x1⟩, xb⟩ := cc k (by have := Hn.out; omega)
          have hxr := (Hxs.out x (List.mem_of_getElem? hx)).2
          have ecan : edgeO xs ps k d = canB x.skills y := by rw [HE.out k]; exact canAt_of hx
          have d0 := (hb.cell (p := ⟨b0, off + k * 2, none⟩) (by show b0 < W.heap.size; omega)).trans x0
          have d1 := (hb.cell (p := ⟨b0, off + k * 2 + 1, none⟩) (by show b0 < W.heap.size; omega)).trans x1
          have d2 := (hb.cell (p := ⟨pb, poff, none⟩) (by show pb < W.heap.size; omega)).trans Hpcy.out
          have hks := mostK_succ (edgeO xs ps) n r d (bitB left) k
          have Hxr := Lib.hid hxr
          have Hks := Lib.hid hks
          have Hb := Lib.hid hb
          have Hecan := Lib.hid ecan
          have hk8 : k < 8 := by omega
          clear hx xb cc x0 x1 hxr hks hb ecan
          go_wp2
          have f0 : (wr.alloc (.cells #[.string x.nm, .int .i64 x.skills] 58)).cell? ⟨wr.heap.size, 0, none⟩ = some (.string x.nm) := by simp [World.cell?_alloc_new]
          have f1 : (wr.alloc (.cells #[.string x.nm, .int .i64 x.skills] 58)).cell? ⟨wr.heap.size, 1, none⟩ = some (.int .i64 x.skills) := by simp [World.cell?_alloc_new]
          have f2 : (wr.alloc (.cells #[.string x.nm, .int .i64 x.skills] 58)).cell? ⟨pb, poff, none⟩ = some (.int .i64 y) := (((Below.refl wr.heap.size wr).alloc (Nat.le_refl _) _).cell (p := ⟨pb, poff, none⟩) (by have := Hb.out.size; show pb < wr.heap.size; omega)).trans d2
          have hb2 := Hb.out.alloc Hb.out.size (.cells #[.string x.nm, .int .i64 x.skills] 58)
          obtain ⟨H, hH⟩ : ∃ H, H = wr.heap.size := ⟨_, rfl⟩
          rw [← hH] at f0 f1 ⊢
          clear d0 d1 d2 hH
          generalize wr.alloc (.cells #[.string x.nm, .int .i64 x.skills] 58) = w2 at f0 f1 f2 hb2 ⊢
          have g0 := cell_regrown f0
          have g1 := cell_regrown f1
          have g2 := cell_regrown f2
          have Hb2 := Lib.hid hb2
          clear f0 f1 f2 hb2 Hb
          cases hbit : bitB left k with
          | false =>
            have hbit2 : (bits BinOp.and IntKind.i64 (left / 2 ^ k) 1 == 1) = false := hbit
            have h8 := Hks.out
            rw [hbit, Bool.false_and, if_neg (by decide)] at h8
            have H8 := Lib.hid h8
            clear hbit h8
            refine wp_region_quiet_below (by kernel_rfl) (by kernel_rfl) ?_
            repeat ((with_reducible refine wpQuiet_step (fun K hK => ?_)); go_simp; first | ((with_reducible refine hK _ ?_); clear hK K) | (apply Exists.intro; refine ⟨fun _ => ?_, hK _ ?_⟩; ((fail)); clear hK K))
            refine wpQuiet_nil ?_
            intro _ hw'
            obtain ⟨⟨dq, osq⟩, hw''⟩ := hw'
            subst hw''
            have hbq := below_regrown w2 dq osq
            generalize grow (redrawn w2 dq) osq = wq at hbq ⊢
            have hb3 := Hb2.out.trans (hbq.mono Hb2.out.size)
            clear hbq g0 g1 g2
            go_wp2
            go_roundw
            case rel => exact ⟨k + 1, by omega, by go_num, by rw [H8.out], hb3⟩
            case measure => simp [intOf]; omega
          | true =>
            have hbit2 : (bits BinOp.and IntKind.i64 (left / 2 ^ k) 1 == 1) = true := hbit
            cases hcan : canB x.skills y with
            | false =>
              have hcon := fun w' => canRun_c x y w' Hxr.out Hyr.out
              rw [hcan] at hcon
              have h8 := Hks.out
              rw [hbit, Hecan.out, hcan, Bool.and_false, if_neg (by decide)] at h8
              have H8 := Lib.hid h8
              have Hcon := Lib.hid hcon
              clear hbit h8 hcan hcon
              refine wp_region_quiet_below (by kernel_rfl) (by kernel_rfl) ?_
              repeat ((with_reducible refine wpQuiet_step (fun K hK => ?_)); go_simp; first | ((with_reducible refine hK _ ?_); clear hK K) | (apply Exists.intro; refine ⟨fun _ => ?_, hK _ ?_⟩; ((first | (go_at_call 58; exact qb_below (Hcon.out _)))); clear hK K))
              refine wpQuiet_nil ?_
              intro _ hw'
              obtain ⟨⟨dq, osq⟩, hw''⟩ := hw'
              subst hw''
              have hbq := below_regrown w2 dq osq
              generalize grow (redrawn w2 dq) osq = wq at hbq ⊢
              have hb3 := Hb2.out.trans (hbq.mono Hb2.out.size)
              clear hbq g0 g1 g2
              go_wp2
              go_roundw
              case rel => exact ⟨k + 1, by omega, by go_num, by rw [H8.out], hb3⟩
              case measure => simp [intOf]; omega
            | true =>
              have hcon := fun w' => canRun_c x y w' Hxr.out Hyr.out
              rw [hcan] at hcon
              have h8 := Hks.out
              rw [hbit, Hecan.out, hcan, Bool.and_self, if_pos rfl] at h8
              have H8 := Lib.hid h8
              have Hcon := Lib.hid hcon
              clear hbit h8 hcan hcon
              refine wp_region_quiet_below (by kernel_rfl) (by kernel_rfl) ?_
              repeat ((with_reducible refine wpQuiet_step (fun K hK => ?_)); go_simp; first | ((with_reducible refine hK _ ?_); clear hK K) | (apply Exists.intro; refine ⟨fun _ => ?_, hK _ ?_⟩; ((first | (go_at_call 58; exact qb_below (Hcon.out _)))); clear hK K))
              refine wpQuiet_nil ?_
              intro _ hw'
              obtain ⟨⟨dq, osq⟩, hw''⟩ := hw'
              subst hw''
              have hbq := below_regrown w2 dq osq
              generalize grow (redrawn w2 dq) osq = wq at hbq ⊢
              have hb3 := Hb2.out.trans (hbq.mono Hb2.out.size)
              have Hb3 := Lib.hid hb3
              clear hbq g0 g1 g2 hb3 Hb2
              have hab := andn_bd h0 h1 hk8
              have hcg : mostF (edgeO xs ps) n r (d + 1) (bitB (andnB left k)) = mostF (edgeO xs ps) n r (d + 1) (upd (bitB left) k false) := mostF_congr _ _ _ _ _ fun j hj => bit_andn h0 h1 hk8 (by omega)
              have hbv := Hbd.out (upd (bitB left) k false)
              have hbm := mostF_bd (edgeO xs ps) n (r + 1) d (bitB left)
              obtain ⟨v2, hv2⟩ : ∃ v2, mostF (edgeO xs ps) n r (d + 1) (upd (bitB left) k false) = v2 := ⟨_, rfl⟩
              rw [hv2] at hcg hbv
              have hcall2 : ∀ W' : World, Below W.heap.size W W' → Calls Try.prog 68 #[.slice (some ⟨b0, off, none⟩) n lc, (.slice (some ⟨pb, poff, none⟩) 0 0), .int .i64 (bits BinOp.andNot IntKind.i64 left (IntKind.i64.wrap (2 ^ k)))] W' fun e w' => e = .returned (.int .i64 (v2 : Nat)) ∧ Below W'.heap.size W' w' := by
                intro W' hW
                have h9 := ih (d + 1) (andnB left k) W' ((.slice (some ⟨pb, poff, none⟩) 0 0)) (by have := Hd.out; omega) (by have := hW.size; omega) (Hl.out.below hW (by omega)) (Hsub.out.below hW (by omega)) hab.1 hab.2
                rw [hcg] at h9
                exact h9
              have hcall3 := fun dd os => hcall2 (grow (redrawn wq dd) os) (Hb3.out.trans ((below_regrown wq dd os).mono Hb3.out.size))
              have Hcall3 := Lib.hid hcall3
              have hh8 := H8.out
              rw [hv2] at hh8
              have hmk : mostK (edgeO xs ps) n r d (bitB left) k ≤ 9 := by
                have := mostK_bd (edgeO xs ps) n r d (bitB left) k
                have := HLr.out
                omega
              obtain ⟨mk, hmke⟩ : ∃ mk, mostK (edgeO xs ps) n r d (bitB left) k = mk := ⟨_, rfl⟩
              rw [hmke] at hh8 hmk ⊢
              have Hh8 := Lib.hid hh8
              have hv9 : v2 ≤ 9 := by have := HLr.out; omega
              have z2 : IntKind.i64.wrap (1 + (v2 : Int)) = 1 + (v2 : Int) := IntWalk.i64_in _ (by omega)
              clear hcg hbv hbm hv2 hcall2 hcall3 hh8 hab hmke
              go_wp2
              refine wp_region_quiet_below (by kernel_rfl) (by kernel_rfl) ?_
              repeat ((with_reducible refine wpQuiet_step (fun K hK => ?_)); go_simp; first | ((with_reducible refine hK _ ?_); clear hK K) | (apply Exists.intro; refine ⟨fun _ => ?_, hK _ ?_⟩; ((first | (go_at_call 68; exact qb_below (Hcall3.out _ _)))); clear hK K))
              refine wpQuiet_nil ?_
              intro _ hw'
              obtain ⟨⟨dq, osq⟩, hw''⟩ := hw'
              subst hw''
              have hbq := below_regrown wq dq osq
              generalize grow (redrawn wq dq) osq = wq2 at hbq ⊢
              have hb4 := Hb3.out.trans (hbq.mono Hb3.out.size)
              have Hb4 := Lib.hid hb4
              clear hbq hb4 Hb3
              go_wp2
              go_roundw
              case rel => exact ⟨k + 1, by omega, by go_num, by rw [Hh8.out]; congr 1; first | omega | (split <;> omega), Hb4.out⟩
              case measure => simp [intOf]; omega
        · obtain rfl : k = n := by omega
          go_wp2
          go_ret
          exact ⟨rfl, hb⟩

    · have hsubr : RdI B W (.slice (some ⟨pb, poff + 1, none⟩) (L - 1) (pc - 1)) (ps.drop (d + 1)) := by rw [← hdrop]; exact Rds.dropI hpo (by omega) (by omega)
      have hcall := ih (d + 1) left W (.slice (some ⟨pb, poff + 1, none⟩) (L - 1) (pc - 1)) (by omega) hOB hl hsubr h0 h1
      have Hcall := Lib.hid hcall
      have Hsub := Lib.hid hsubr
      clear hl hlo hpo hn hyr hE hpo2 pcc hy pcy hyd hL hLr hd hdrop hms hpcy hc2 hsubr hcall hbd
      go_enter Try.func68, Try.ntmps68
      go_wp2_with fail
      with_reducible refine Hcall.out.mono ?_
      rintro e w1 ⟨rfl, hb1⟩
      have Hb1 := Lib.hid hb1
      clear hb1
      go_wp2
      go_loopw [7, 20] (fun mv i wr => ∃ k : Nat, k ≤ n ∧ i = .int .i64 k ∧ mv = .int .i64 (mostK (edgeO xs ps) n r d (bitB left) k : Nat) ∧ Below W.heap.size W wr) (fun _ i _ => n - (intOf i).toNat)
      case atStart => exact ⟨0, Nat.zero_le _, rfl, rfl, Hb1.out⟩
      case round =>
        obtain ⟨k, hk, rfl, rfl, hb⟩ := hrel
        by_cases hkn : k < n
        · obtain ⟨b0, off, rfl, lt, cc⟩ := Hlo.out (by omega)
          obtain ⟨x, hx, ⟨x0, x1⟩, xb⟩ := cc k (by have := Hn.out; omega)
          have hxr := (Hxs.out x (List.mem_of_getElem? hx)).2
          have ecan : edgeO xs ps k d = canB x.skills y := by rw [HE.out k]; exact canAt_of hx
          have d0 := (hb.cell (p := ⟨b0, off + k * 2, none⟩) (by show b0 < W.heap.size; omega)).trans x0
          have d1 := (hb.cell (p := ⟨b0, off + k * 2 + 1, none⟩) (by show b0 < W.heap.size; omega)).trans x1
          have d2 := (hb.cell (p := ⟨pb, poff, none⟩) (by show pb < W.heap.size; omega)).trans Hpcy.out
          have hks := mostK_succ (edgeO xs ps) n r d (bitB left) k
          have Hxr := Lib.hid hxr
          have Hks := Lib.hid hks
          have Hb := Lib.hid hb
          have Hecan := Lib.hid ecan
          have hk8 : k < 8 := by omega
          clear hx xb cc x0 x1 hxr hks hb ecan
          go_wp2
          have f0 : (wr.alloc (.cells #[.string x.nm, .int .i64 x.skills] 58)).cell? ⟨wr.heap.size, 0, none⟩ = some (.string x.nm) := by simp [World.cell?_alloc_new]
          have f1 : (wr.alloc (.cells #[.string x.nm, .int .i64 x.skills] 58)).cell? ⟨wr.heap.size, 1, none⟩ = some (.int .i64 x.skills) := by simp [World.cell?_alloc_new]
          have f2 : (wr.alloc (.cells #[.string x.nm, .int .i64 x.skills] 58)).cell? ⟨pb, poff, none⟩ = some (.int .i64 y) := (((Below.refl wr.heap.size wr).alloc (Nat.le_refl _) _).cell (p := ⟨pb, poff, none⟩) (by have := Hb.out.size; show pb < wr.heap.size; omega)).trans d2
          have hb2 := Hb.out.alloc Hb.out.size (.cells #[.string x.nm, .int .i64 x.skills] 58)
          obtain ⟨H, hH⟩ : ∃ H, H = wr.heap.size := ⟨_, rfl⟩
          rw [← hH] at f0 f1 ⊢
          clear d0 d1 d2 hH
          generalize wr.alloc (.cells #[.string x.nm, .int .i64 x.skills] 58) = w2 at f0 f1 f2 hb2 ⊢
          have g0 := cell_regrown f0
          have g1 := cell_regrown f1
          have g2 := cell_regrown f2
          have Hb2 := Lib.hid hb2
          clear f0 f1 f2 hb2 Hb
          cases hbit : bitB left k with
          | false =>
            have hbit2 : (bits BinOp.and IntKind.i64 (left / 2 ^ k) 1 == 1) = false := hbit
            have h8 := Hks.out
            rw [hbit, Bool.false_and, if_neg (by decide)] at h8
            have H8 := Lib.hid h8
            clear hbit h8
            refine wp_region_quiet_below (by kernel_rfl) (by kernel_rfl) ?_
            repeat ((with_reducible refine wpQuiet_step (fun K hK => ?_)); go_simp; first | ((with_reducible refine hK _ ?_); clear hK K) | (apply Exists.intro; refine ⟨fun _ => ?_, hK _ ?_⟩; ((fail)); clear hK K))
            refine wpQuiet_nil ?_
            intro _ hw'
            obtain ⟨⟨dq, osq⟩, hw''⟩ := hw'
            subst hw''
            have hbq := below_regrown w2 dq osq
            generalize grow (redrawn w2 dq) osq = wq at hbq ⊢
            have hb3 := Hb2.out.trans (hbq.mono Hb2.out.size)
            clear hbq g0 g1 g2
            go_wp2
            go_roundw
            case rel => exact ⟨k + 1, by omega, by go_num, by rw [H8.out], hb3⟩
            case measure => simp [intOf]; omega
          | true =>
            have hbit2 : (bits BinOp.and IntKind.i64 (left / 2 ^ k) 1 == 1) = true := hbit
            cases hcan : canB x.skills y with
            | false =>
              have hcon := fun w' => canRun_c x y w' Hxr.out Hyr.out
              rw [hcan] at hcon
              have h8 := Hks.out
              rw [hbit, Hecan.out, hcan, Bool.and_false, if_neg (by decide)] at h8
              have H8 := Lib.hid h8
              have Hcon := Lib.hid hcon
              clear hbit h8 hcan hcon
              refine wp_region_quiet_below (by kernel_rfl) (by kernel_rfl) ?_
              repeat ((with_reducible refine wpQuiet_step (fun K hK => ?_)); go_simp; first | ((with_reducible refine hK _ ?_); clear hK K) | (apply Exists.intro; refine ⟨fun _ => ?_, hK _ ?_⟩; ((first | (go_at_call 58; exact qb_below (Hcon.out _)))); clear hK K))
              refine wpQuiet_nil ?_
              intro _ hw'
              obtain ⟨⟨dq, osq⟩, hw''⟩ := hw'
              subst hw''
              have hbq := below_regrown w2 dq osq
              generalize grow (redrawn w2 dq) osq = wq at hbq ⊢
              have hb3 := Hb2.out.trans (hbq.mono Hb2.out.size)
              clear hbq g0 g1 g2
              go_wp2
              go_roundw
              case rel => exact ⟨k + 1, by omega, by go_num, by rw [H8.out], hb3⟩
              case measure => simp [intOf]; omega
            | true =>
              have hcon := fun w' => canRun_c x y w' Hxr.out Hyr.out
              rw [hcan] at hcon
              have h8 := Hks.out
              rw [hbit, Hecan.out, hcan, Bool.and_self, if_pos rfl] at h8
              have H8 := Lib.hid h8
              have Hcon := Lib.hid hcon
              clear hbit h8 hcan hcon
              refine wp_region_quiet_below (by kernel_rfl) (by kernel_rfl) ?_
              repeat ((with_reducible refine wpQuiet_step (fun K hK => ?_)); go_simp; first | ((with_reducible refine hK _ ?_); clear hK K) | (apply Exists.intro; refine ⟨fun _ => ?_, hK _ ?_⟩; ((first | (go_at_call 58; exact qb_below (Hcon.out _)))); clear hK K))
              refine wpQuiet_nil ?_
              intro _ hw'
              obtain ⟨⟨dq, osq⟩, hw''⟩ := hw'
              subst hw''
              have hbq := below_regrown w2 dq osq
              generalize grow (redrawn w2 dq) osq = wq at hbq ⊢
              have hb3 := Hb2.out.trans (hbq.mono Hb2.out.size)
              have Hb3 := Lib.hid hb3
              clear hbq g0 g1 g2 hb3 Hb2
              have hab := andn_bd h0 h1 hk8
              have hcg : mostF (edgeO xs ps) n r (d + 1) (bitB (andnB left k)) = mostF (edgeO xs ps) n r (d + 1) (upd (bitB left) k false) := mostF_congr _ _ _ _ _ fun j hj => bit_andn h0 h1 hk8 (by omega)
              have hbv := Hbd.out (upd (bitB left) k false)
              have hbm := mostF_bd (edgeO xs ps) n (r + 1) d (bitB left)
              obtain ⟨v2, hv2⟩ : ∃ v2, mostF (edgeO xs ps) n r (d + 1) (upd (bitB left) k false) = v2 := ⟨_, rfl⟩
              rw [hv2] at hcg hbv
              have hcall2 : ∀ W' : World, Below W.heap.size W W' → Calls Try.prog 68 #[.slice (some ⟨b0, off, none⟩) n lc, (.slice (some ⟨pb, poff + 1, none⟩) (L - 1) (pc - 1)), .int .i64 (bits BinOp.andNot IntKind.i64 left (IntKind.i64.wrap (2 ^ k)))] W' fun e w' => e = .returned (.int .i64 (v2 : Nat)) ∧ Below W'.heap.size W' w' := by
                intro W' hW
                have h9 := ih (d + 1) (andnB left k) W' ((.slice (some ⟨pb, poff + 1, none⟩) (L - 1) (pc - 1))) (by have := Hd.out; omega) (by have := hW.size; omega) (Hl.out.below hW (by omega)) (Hsub.out.below hW (by omega)) hab.1 hab.2
                rw [hcg] at h9
                exact h9
              have hcall3 := fun dd os => hcall2 (grow (redrawn wq dd) os) (Hb3.out.trans ((below_regrown wq dd os).mono Hb3.out.size))
              have Hcall3 := Lib.hid hcall3
              have hh8 := H8.out
              rw [hv2] at hh8
              have hmk : mostK (edgeO xs ps) n r d (bitB left) k ≤ 9 := by
                have := mostK_bd (edgeO xs ps) n r d (bitB left) k
                have := HLr.out
                omega
              obtain ⟨mk, hmke⟩ : ∃ mk, mostK (edgeO xs ps) n r d (bitB left) k = mk := ⟨_, rfl⟩
              rw [hmke] at hh8 hmk ⊢
              have Hh8 := Lib.hid hh8
              have hv9 : v2 ≤ 9 := by have := HLr.out; omega
              have z2 : IntKind.i64.wrap (1 + (v2 : Int)) = 1 + (v2 : Int) := IntWalk.i64_in _ (by omega)
              clear hcg hbv hbm hv2 hcall2 hcall3 hh8 hab hmke
              go_wp2
              refine wp_region_quiet_below (by kernel_rfl) (by kernel_rfl) ?_
              repeat ((with_reducible refine wpQuiet_step (fun K hK => ?_)); go_simp; first | ((with_reducible refine hK _ ?_); clear hK K) | (apply Exists.intro; refine ⟨fun _ => ?_, hK _ ?_⟩; ((first | (go_at_call 68; exact qb_below (Hcall3.out _ _)))); clear hK K))
              refine wpQuiet_nil ?_
              intro _ hw'
              obtain ⟨⟨dq, osq⟩, hw''⟩ := hw'
              subst hw''
              have hbq := below_regrown wq dq osq
              generalize grow (redrawn wq dq) osq = wq2 at hbq ⊢
              have hb4 := Hb3.out.trans (hbq.mono Hb3.out.size)
              have Hb4 := Lib.hid hb4
              clear hbq hb4 Hb3
              go_wp2
              go_roundw
              case rel => exact ⟨k + 1, by omega, by go_num, by rw [Hh8.out]; congr 1; first | omega | (split <;> omega), Hb4.out⟩
              case measure => simp [intOf]; omega
        · obtain rfl : k = n := by omega
          go_wp2
          go_ret
          exact ⟨rfl, hb⟩

end Go.Proofs.Ytfojfcmjoacbgaa
