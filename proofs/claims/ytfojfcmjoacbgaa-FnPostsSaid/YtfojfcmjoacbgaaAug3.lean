/- How many posts can be filled: the reference's. No condition. -/
import Derived.Test.YtfojfcmjoacbgaaAug2
namespace Go.Proofs.Ytfojfcmjoacbgaa
open Go.ChangeShapes Go.WideShapes Go.ChangeAt Go.RowKit
set_option linter.unusedVariables false
set_option maxRecDepth 100000
theorem Try.infoBool : (Try.prog.info? 4).map (fun i => (i.zero, i.size, i.bytes)) = some (some (.bool false), 1, 1) := by kernel_rfl
theorem cg_repl {β : Type} (v : β) (m : Nat) : cg (fun _ => v) m = List.replicate m v := by
  induction m with
  | zero => rfl
  | succ m ih => rw [cg_snoc, ih, List.replicate_succ']
theorem falses_own {base m cap g : Nat} {w : World} (h : w.ownsRow base 4 1 (.slice (some ⟨g, 0, none⟩) m cap) m (madeCells #[.bool false] m).toList) : Own eBl 4 base w (.slice (some ⟨g, 0, none⟩) m cap) (cg (fun _ => false) m) := by
  rw [cg_repl]
  rw [toList_madeCells_one] at h
  refine ⟨?_, fun x hx => trivial⟩
  have e : eBl.all (List.replicate m false) = List.replicate m (Value.bool false) := by
    clear h
    induction m with
    | zero => rfl
    | succ m ih => rw [List.replicate_succ, List.replicate_succ, ← ih]; rfl
  rw [List.length_replicate, e]
  exact h
theorem unseen_le (n : Nat) (s : Nat → Bool) : unseen n s ≤ n := by
  unfold unseen
  exact Nat.le_trans (List.countP_le_length) (by simp)
theorem kuhn_range (E : Nat → Nat → Bool) (n m : Nat) : ∀ p, p ≤ m → ∀ i, -1 ≤ kuhn E n p i ∧ kuhn E n p i < m := by
  intro p
  induction p with
  | zero => intro _ i; show -1 ≤ (-1 : Int) ∧ (-1 : Int) < m; omega
  | succ p ih => intro h; exact aug_range (n + 1) p (kuhn E n p, fun _ => false) (by omega) (ih (by omega))
theorem kuhnN_le (E : Nat → Nat → Bool) (n : Nat) : ∀ p, kuhnN E n p ≤ p := by
  intro p
  induction p with
  | zero => exact Nat.le_refl _
  | succ p ih => show kuhnN E n p + _ ≤ p + 1; split <;> omega
set_option maxHeartbeats 1000000 in
theorem l22Most_c {xs : List OperatorT} {ps : List Int} {v u : Value} {w : World} {A B : Nat} (hA : A ≤ w.heap.size) (hB : B ≤ w.heap.size) (ha : RdOperatorS A w v xs) (hp : RdI B w u ps) (hv : validOs xs = true) (hps : postsB ps = true) :
    Calls Try.prog 67 #[v, u] w fun e w' => e = .returned (.int .i64 (kuhnN (edgeO xs ps) xs.length ps.length : Nat)) ∧ Below w.heap.size w w' := by
  have hn8 := (validOs_parts hv).1
  have hm8 := (postsB_parts hps).1
  obtain ⟨ao, cap, rfl⟩ := ha.shape
  obtain ⟨po, pcap, rfl⟩ := hp.shape
  obtain ⟨n, hn⟩ : ∃ n, n = xs.length := ⟨_, rfl⟩
  obtain ⟨m, hm⟩ : ∃ m, m = ps.length := ⟨_, rfl⟩
  have hrg := kuhn_range (edgeO xs ps) n m
  have hcn := kuhnN_le (edgeO xs ps) n
  have haug := fun (W : World) hlW hpW p st atv snv h1 h2 h3 h4 => augment_c (lv := .slice ao xs.length cap) (pv := .slice po ps.length pcap) (OB := w.heap.size) hv hps hA hB (n + 1) p st W atv snv hlW hpW h1 h2 h3 h4
  rw [← hn] at ha hn8 haug ⊢
  rw [← hm] at hp hm8 haug ⊢
  obtain ⟨i0, hi, hz0, hz1, hz2⟩ := info_parts Try.infoInt64
  obtain ⟨i1, hi1, hy0, hy1, hy2⟩ := info_parts Try.infoBool
  have hO : OwnInt64S w.heap.size (w.alloc (.cells #[] 2)) (.slice (some ⟨w.heap.size, 0, none⟩) 0 0) (cg (fun _ => -1) 0) := Own.lit (E := eI) (xs := []) (cs := #[]) (Nat.le_refl _) rfl rfl (by decide) (fun x hx => by cases hx)
  have hb0 : Below w.heap.size w (w.alloc (.cells #[] 2)) := (Below.refl _ _).alloc (Nat.le_refl _) _
  have Ha := Lib.hid ha
  have Hp := Lib.hid hp
  have Hrg := Lib.hid hrg
  have Hcn := Lib.hid hcn
  have Haug := Lib.hid haug
  have HO := Lib.hid hO
  have Hb0 := Lib.hid hb0
  clear ha hp hrg hcn haug hO hb0 hn hm hv hps
  go_enter Try.func67, Try.ntmps67
  go_wp2
  go_loopw [5, 6] (fun v i wr => ∃ k : Nat, k ≤ n ∧ i = .int .i64 k ∧ OwnInt64S w.heap.size wr v (cg (fun _ => -1) k) ∧ Below w.heap.size w wr) (fun _ i _ => n - (intOf i).toNat)
  case atStart => exact ⟨0, Nat.zero_le _, rfl, HO.out, Hb0.out⟩
  case round =>
    obtain ⟨k, hk, rfl, ho, hb⟩ := hrel
    clear HO Hb0
    by_cases hkn : k < n
    · have Ho := Lib.hid ho
      have Hb := Lib.hid hb
      have hsz := hb.size
      have hl1 : (cg (fun _ => (-1 : Int)) k).length = k := cg_length _ _
      have Hl1 := Lib.hid hl1
      have Hqp : eI.ok (-1) := by show -9223372036854775808 ≤ (-1 : Int) ∧ (-1 : Int) ≤ 9223372036854775807; omega
      clear ho hb hl1
      go_wp2_with (first | (at_builtin; refine wpList_appS (E := eI) rfl _ _ 34 rfl Try.underlying34 hi hz0 hz1 hz2 rfl (by decide) rfl rfl (Ho.out.alloc _) (rds_one (E := eI) (x := -1) Hqp rfl) ?b1 ?b2 ?b3 ?_))
      case b1 => rw [Hl1.out]; unfold maxLen; simp; omega
      case b2 => rw [Hl1.out]; simp; omega
      case b3 => simp; omega
      intro v' w3 hR hg
      have hb3 := hg.alloc.below Hb.out Hb.out.size (fun q hq => (Ho.out.lt q hq).1)
      have hR2 : OwnInt64S w.heap.size w3 v' (cg (fun _ => -1) (k + 1)) := by rw [cg_snoc]; exact hR
      have HR2 := Lib.hid hR2
      clear hR hg hR2
      go_wp2
      go_roundw
      case rel => exact ⟨k + 1, by omega, by go_num, HR2.out, hb3⟩
      case measure => simp [intOf]; omega
    · obtain rfl : k = n := by omega
      have hk0 : OwnInt64S w.heap.size wr u5 (cg (kuhn (edgeO xs ps) k 0) k) := ho
      have Hk0 := Lib.hid hk0
      have Hb1 := Lib.hid hb
      obtain ⟨atv, hatv⟩ : ∃ atv : Value, atv = u5 := ⟨_, rfl⟩
      rw [← hatv] at Hk0 ⊢
      obtain ⟨aa, ac, hsh⟩ := Hk0.out.shape
      rw [cg_length] at hsh
      subst hsh
      clear ho hb hk0 hatv
      go_wp2
      go_loopw [7, 8] (fun c i wr => ∃ p : Nat, p ≤ m ∧ i = .int .i64 p ∧ c = .int .i64 (kuhnN (edgeO xs ps) k p : Nat) ∧ OwnInt64S w.heap.size wr (.slice aa k ac) (cg (kuhn (edgeO xs ps) k p) k) ∧ Below w.heap.size w wr) (fun _ i _ => m - (intOf i).toNat)
      case atStart => exact ⟨0, Nat.zero_le _, rfl, rfl, Hk0.out, Hb1.out⟩
      case round =>
        obtain ⟨p, hp, rfl, rfl, ho, hb⟩ := hrel
        clear Hk0 Hb1
        by_cases hpm : p < m
        · have Ho := Lib.hid ho
          have Hb := Lib.hid hb
          have hsz := hb.size
          have hcp := Hcn.out p
          clear ho hb
          go_wp2_with (first | (at_make; refine wpList_make_full _ rfl _ _ 95 rfl w.heap.size 4 i1 (.bool false) 1 Try.underlying95 hi1 hy0 hy1 _ _ _ _ k rfl rfl rfl rfl ?b1 ?b2 ?b3 ?_))
          case b1 => first | omega | (rw [hy2]; omega)
          case b2 => unfold maxLen; omega
          case b3 => first | omega | (simp; omega)
          intro w1 hown hgr
          have hs := falses_own hown
          have ho1 := Ho.out.kept hgr (Classical.em _)
          have hb1 := Hb.out.grown hgr hsz (fun k hk => by cases hk)
          have hap : ∀ q, (Value.slice aa k ac).ownBlock = some q → (Value.slice (some ⟨wr.heap.size, 0, none⟩) k k).ownBlock ≠ some q := by
            intro q hq hq2
            have h1 := (Ho.out.lt q hq).2
            simp [Value.ownBlock] at hq2
            omega
          have hcall := Haug.out w1 (Ha.out.below hb1 hA) (Hp.out.below hb1 hB) p (kuhn (edgeO xs ps) k p, fun _ => false) (.slice aa k ac) (.slice (some ⟨wr.heap.size, 0, none⟩) k k) ⟨ho1, hs, hap⟩ hpm (by have := unseen_le k (fun _ => false); show unseen k (fun _ => false) < k + 1; omega) (Hrg.out p (by omega))
          have hN : kuhnN (edgeO xs ps) k (p + 1) = kuhnN (edgeO xs ps) k p + if (aug (edgeO xs ps) k (k + 1) p (kuhn (edgeO xs ps) k p, fun _ => false)).1 = true then 1 else 0 := rfl
          have hK : kuhn (edgeO xs ps) k (p + 1) = (aug (edgeO xs ps) k (k + 1) p (kuhn (edgeO xs ps) k p, fun _ => false)).2.1 := rfl
          obtain ⟨rr, hrr⟩ : ∃ rr, aug (edgeO xs ps) k (k + 1) p (kuhn (edgeO xs ps) k p, fun _ => false) = rr := ⟨_, rfl⟩
          rw [hrr] at hcall hN hK
          obtain ⟨bb, at2, se2⟩ := rr
          have HK := Lib.hid hK
          have Hb1 := Lib.hid hb1
          cases bb with
          | true =>
            have hN2 : kuhnN (edgeO xs ps) k (p + 1) = kuhnN (edgeO xs ps) k p + 1 := hN
            have HN := Lib.hid hN2
            have Hcall := Lib.hid hcall
            clear hcall hN hN2 hK hown hgr hs ho1 hb1 hap hrr
            go_wp2_with fail
            with_reducible refine Hcall.out.mono ?_
            rintro e w5 ⟨rfl, ⟨ha5, _, _⟩, hb5⟩
            have Ha5 := Lib.hid ha5
            have Hb5 := Lib.hid (Hb1.out.trans hb5)
            clear ha5 hb5
            go_wp2
            go_roundw
            case rel => exact ⟨p + 1, by omega, by go_num, by rw [HN.out]; go_num, by rw [HK.out]; exact Ha5.out, Hb5.out⟩
            case measure => simp [intOf]; omega
          | false =>
            have hN2 : kuhnN (edgeO xs ps) k (p + 1) = kuhnN (edgeO xs ps) k p := hN
            have HN := Lib.hid hN2
            have Hcall := Lib.hid hcall
            clear hcall hN hN2 hK hown hgr hs ho1 hb1 hap hrr
            go_wp2_with fail
            with_reducible refine Hcall.out.mono ?_
            rintro e w5 ⟨rfl, ⟨ha5, _, _⟩, hb5⟩
            have Ha5 := Lib.hid ha5
            have Hb5 := Lib.hid (Hb1.out.trans hb5)
            clear ha5 hb5
            go_wp2
            go_roundw
            case rel => exact ⟨p + 1, by omega, by go_num, by rw [HN.out], by rw [HK.out]; exact Ha5.out, Hb5.out⟩
            case measure => simp [intOf]; omega
        · obtain rfl : p = m := by omega
          go_wp2
          go_ret
          exact ⟨rfl, hb⟩
def MPV (xs : List OperatorT) (ps : List Int) : Int := if PCode xs ps = 0 then (kuhnN (edgeO xs ps) xs.length ps.length : Nat) else 0
theorem sMostPosts_c {xs : List OperatorT} {ps : List Int} {v u : Value} {w : World} {A B : Nat} (hA : A ≤ w.heap.size) (hB : B ≤ w.heap.size) (ha : RdOperatorS A w v xs) (hp : RdI B w u ps) :
    Calls Try.prog 32 #[v, u] w fun e w' => e = .returned (.tuple #[.int .i64 (MPV xs ps), .int .i64 (PCode xs ps)]) ∧ Below w.heap.size w w' := by
  have Ha := Lib.hid ha
  have Hp := Lib.hid hp
  by_cases hc : PCode xs ps = 0
  · obtain ⟨hv, hps⟩ := PCode_ok hc
    have e1 : MPV xs ps = (kuhnN (edgeO xs ps) xs.length ps.length : Nat) := by unfold MPV; rw [if_pos hc]
    have hcon := fun q => l22Most_c (w := w.drewN q) hA hB (Rds.drewN ha q) (Rds.drewN hp q) hv hps
    rw [e1, hc]
    obtain ⟨cnt, hcnt⟩ : ∃ cnt : Int, ((kuhnN (edgeO xs ps) xs.length ps.length : Nat) : Int) = cnt := ⟨_, rfl⟩
    rw [hcnt] at hcon ⊢
    have Hcon := Lib.hid hcon
    have Hc := Lib.hid hc
    clear hc e1 hcon ha hp hcnt hv hps
    go_enter Try.func32, Try.ntmps32
    go_wp2_with fail
    with_reducible refine (l22Code_c Ha.out Hp.out).mono ?_
    rw [Hc.out]
    rintro e w1 ⟨rfl, q, rfl⟩
    go_wp2_with fail
    with_reducible refine (Hcon.out q).mono ?_
    rintro e w2 ⟨rfl, hb⟩
    have hb2 : Below w.heap.size w w2 := ((Below.refl w.heap.size w).drewNy q).trans hb
    clear hb
    go_wp2
    go_ret2
    exact ⟨rfl, hb2⟩
  · have e1 : MPV xs ps = 0 := by unfold MPV; rw [if_neg hc]
    obtain ⟨c, hcc⟩ : ∃ c, PCode xs ps = c := ⟨_, rfl⟩
    have hc12 : c = 1 ∨ c = 2 := by have := PCode_01 xs ps; omega
    have Hcc := Lib.hid hcc
    rw [e1, hcc]
    clear ha hp hc e1 hcc
    rcases hc12 with rfl | rfl <;>
    · go_enter Try.func32, Try.ntmps32
      go_wp2_with fail
      with_reducible refine (l22Code_c Ha.out Hp.out).mono ?_
      rw [Hcc.out]
      rintro e w1 ⟨rfl, q, rfl⟩
      go_wp2
      go_ret2
      exact ⟨rfl, (Below.refl _ _).drewNy _⟩
end Go.Proofs.Ytfojfcmjoacbgaa
