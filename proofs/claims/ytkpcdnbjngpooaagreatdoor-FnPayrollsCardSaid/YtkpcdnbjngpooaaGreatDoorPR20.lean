/- Cards: texts of one list that are drawn, a card from a text, the columns of a number, columns put into a card. No condition. -/
import Derived.Test.YtkpcdnbjngpooaaGreatDoorPR16
import Derived.Test.YtkpcdnbjngpooaaGreatDoorPR13
import Derived.Test.YtkpcdnbjngpooaaGreatDoorPR19
namespace Go.Proofs.YtkpcdnbjngpooaaGreatDoor
open Go.ChangeShapes Go.WideShapes Go.ChangeAt Go.RowKit
set_option linter.unusedVariables false
set_option maxRecDepth 100000
/-- strings of one kind in a block -/
def StrIn (P : ByteArray → Prop) (W : World) (nb n : Nat) : Prop := nb < W.heap.size ∧ ∀ k, k < n → ∃ s : ByteArray, W.cell? ⟨nb, k, none⟩ = some (.string s) ∧ P s
theorem StrIn.grown {P : ByteArray → Prop} {W W' : World} {nb n : Nat} {row : Option Nat} (h : StrIn P W nb n) (hg : W.grownBy W' row) (hne : some nb ≠ row) : StrIn P W' nb n :=
  ⟨Nat.lt_of_lt_of_le h.1 hg.size, fun k hk => by
    obtain ⟨s, h1, h2⟩ := h.2 k hk
    exact ⟨s, (World.cell?_of_block (w := W) (a := ⟨nb, k, none⟩) (hg.block nb h.1 hne)).trans h1, h2⟩⟩
theorem StrIn.new {P : ByteArray → Prop} {w : World} {cs : Array Value} {T : TypeId} {n : Nat} (h : ∀ k, k < n → ∃ s : ByteArray, cs[k]? = some (.string s) ∧ P s) : StrIn P (w.alloc (.cells cs T)) w.heap.size n :=
  ⟨by simp, fun k hk => by
    obtain ⟨s, h1, h2⟩ := h k hk
    exact ⟨s, by rw [cell_of_row _ w.heap.size k _ _ _ (heap_alloc_new w _)]; exact h1, h2⟩⟩
theorem text_in (P : ByteArray → Prop) {w : World} {b N nb n : Nat} (hs : Src w b N) (hN : N ≤ 1000000) (hst : StrIn P w nb n) (hne : nb ≠ b) (hn : 1 ≤ n ∧ n ≤ 100) :
    Calls Tryz.prog 42 #[.pointer (some ⟨b, 0, none⟩), .slice (some ⟨nb, 0, none⟩) n n] w fun e w' => (∃ s : ByteArray, e = .returned (.string s) ∧ P s) ∧ Src w' b (N + 2) ∧ w.grownBy w' (some b) := by
  go_enter Tryz.func42, Tryz.ntmps42
  go_wp2_with fail
  refine (pick_any (n : Int) hs (by omega) (by omega)).mono ?_
  rintro e w1 ⟨⟨r, rfl, hr0, hr1, _⟩, hs1, hg1, hz1⟩
  have hr2 := hr1 (by omega)
  obtain ⟨k, rfl⟩ := Int.eq_ofNat_of_zero_le hr0
  obtain ⟨s, hcs, hss⟩ := (hst.grown hg1 (fun h => hne (Option.some.inj h))).2 k (by omega)
  have Hs1 := Lib.hid hs1
  have Hg1 := Lib.hid hg1
  have Hss := Lib.hid hss
  clear hr1 hz1 hs1 hg1 hst hss
  go_wp2
  go_ret
  exact ⟨⟨_, rfl, Hss.out⟩, Hs1.out.mono (by omega), Hg1.out⟩
theorem BldG.keepS {α : Type} {E : Elt α} {er e : TypeId} {base rb tp b : Nat} {w w' : World} {v : Value} {xss : List (List α)} (h : BldG E er e base rb tp w v xss) (hg : w.grownBy w' (some b)) (h1 : b < base) (h2 : b < rb) : BldG E er e base rb tp w' v xss :=
  h.keep hg (by
    obtain ⟨hs, ho, _⟩ := h
    cases hb : v.ownBlock with
    | none => exact .inl rfl
    | some k => right; intro hh; have := (ho.1.lt k hb).1; have := Option.some.inj hh; omega) (fun k hk => .inl (by have := Option.some.inj hk; omega))
theorem below_grownS {w w' : World} (h : Below w.heap.size w w') (row : Option Nat) : w.grownBy w' row := ⟨h.os, h.tape, h.output, h.size, fun k hk _ => h.block k hk⟩
theorem codeI_bds : ∀ n : Fin 256, -1 ≤ codeI (n.val : Int) ∧ codeI (n.val : Int) ≤ 4095 := by decide +kernel
theorem codeI_ok {c : Int} (h : 0 ≤ c ∧ c ≤ 255) : eI.ok (codeI c) := by
  have h1 := codeI_bds ⟨c.toNat, by omega⟩
  have e : ((c.toNat : Nat) : Int) = c := by omega
  simp only [e] at h1
  show -9223372036854775808 ≤ codeI c ∧ codeI c ≤ 9223372036854775807
  omega
theorem Rds.drew1 {α : Type} {E : Elt α} {B : Nat} {w : World} {v : Value} {xs : List α} (h : Rds E B w v xs) : Rds E B w.drew v xs := h
set_option maxHeartbeats 1000000 in
theorem l03Card_any (s : ByteArray) (w : World) (hs : s.size ≤ 1000) :
    Calls Tryz.prog 72 #[.string s] w fun e w' => (∃ u xs, e = .returned (.agg #[u]) ∧ OwnInt64S w.heap.size w' u xs ∧ xs.length = s.size) ∧ Below w.heap.size w w' := by
  obtain ⟨i0, hi, hz0, hz1, hz2⟩ := info_parts Tryz.infoInt64
  obtain ⟨W, hW⟩ : ∃ W, W = (w.alloc (.cells #[.slice none 0 0] 70)).alloc (.cells #[.slice none 0 0] 70) := ⟨_, rfl⟩
  have hR0 : Box W w.heap.size [.slice none 0 0] := by rw [hW]; exact (Box.new w [.slice none 0 0] _).alloc _
  have hD0 : Box W (w.heap.size + 1) [.slice none 0 0] := by
    rw [hW]
    have h := Box.new (w.alloc (.cells #[.slice none 0 0] 70)) [.slice none 0 0] 70
    rw [show (w.alloc (.cells #[.slice none 0 0] 70)).heap.size = w.heap.size + 1 from by simp] at h
    exact h
  have hb0 : Below w.heap.size w W := by rw [hW]; exact ((Below.refl _ _).alloc (Nat.le_refl _) _).alloc (by simp) _
  have HR0 := Lib.hid hR0
  have HD0 := Lib.hid hD0
  have Hb0 := Lib.hid hb0
  have HW := Lib.hid hW
  clear hR0 hD0 hb0 hW
  go_enter Tryz.func72, Tryz.ntmps72
  go_wp2
  rw [← HW.out]
  go_loopw [4] (fun i wr => ∃ (k : Nat) (u : Value) (xs : List Int), k ≤ s.size ∧ i = .int .i64 k ∧ Hid (xs.length = k) ∧ OwnInt64S (w.heap.size + 2) wr u xs ∧ Box wr w.heap.size [.slice none 0 0] ∧ Box wr (w.heap.size + 1) [u] ∧ Below w.heap.size w wr) (fun i _ => s.size - (intOf i).toNat)
  case atStart => exact ⟨0, _, [], Nat.zero_le _, rfl, rfl, Own.nil _ _ _ _, HR0.out, HD0.out, Hb0.out⟩
  case round =>
    obtain ⟨k, u, xs, hk, rfl, Hl, hown, hR, hD, hb⟩ := hrel
    clear HR0 HD0 Hb0
    obtain ⟨ao, cap, hu⟩ := hown.shape
    rw [Hl.out] at hu
    subst hu
    have hsz : w.heap.size + 1 < wr.heap.size := hD.lt
    have d1 := hD.cell 0 _ rfl
    have d2 := hD.free 0
    by_cases hkn : k < s.size
    · have hbd : 0 ≤ (s[k].toNat : Int) ∧ (s[k].toNat : Int) ≤ 255 := by have := s[k].toNat_lt; omega
      have hok := codeI_ok hbd
      have Hbd := Lib.hid hbd
      have Hown := Lib.hid hown
      have HR := Lib.hid hR
      have HD := Lib.hid hD
      have Hb := Lib.hid hb
      clear hbd hown hb hR hD
      go_wp2
      go_region_law (first
        | (refine step_appS (E := eI) rfl _ _ 34 (by rfl) Tryz.underlying34 hi hz0 hz1 hz2 rfl (by decide) (by rfl) (by rfl) (Own.drew (Hown.out.alloc _)) (Rds.drew1 (rds_one' (E := eI) (x := codeI (s[k].toNat : Int)) (H := wr.heap.size) rfl hok rfl)) (by rw [Hl.out]; unfold maxLen; simp; omega) (by rw [Hl.out]; simp; omega) (by simp; omega) ?_; intro v3 w3 hO3 hg3; obtain ⟨ao3, cap3, hv3⟩ := hO3.shape; rw [show (xs ++ [codeI (s[k].toNat : Int)]).length = k + 1 from (by rw [List.length_append, Hl.out]; rfl)] at hv3; subst hv3; have hg4 : wr.grownBy w3 (Value.slice ao k cap).ownBlock := (by first | exact hg3.alloc.1 | exact grownBy_trans (World.grownBy_alloc wr _ _) (grownBy_trans (grownBy_drew _ _) hg3.1)); have hne3 : ∀ q, (Value.slice ao k cap).ownBlock = some q → w.heap.size + 2 ≤ q := (fun q hq => (Hown.out.lt q hq).1); have hR3 := Box.keptB HR.out hg4 (fun e => by have := hne3 _ e; omega); have hD3 := Box.keptB HD.out hg4 (fun e => by have := hne3 _ e; omega); have f3 := hD3.free 0; have c3 := hD3.cell 0 _ rfl; have HO3 := Lib.hid hO3; have HR3 := Lib.hid hR3; have HD3 := Lib.hid hD3; have Hb3 : Hid (Below w.heap.size w w3) := Lib.hid (Hb.out.grown hg4 (by omega) (fun q hq => by have := hne3 q hq; omega)); clear hR3 hD3 hO3 hg3 hg4 hne3)
        | (go_simp; go_at_call 103; with_reducible refine (l03Code_c _ _ Hbd.out).mono ?_; rintro e w1 ⟨rfl, rfl⟩))
      all_goals
        go_wp2
        go_roundw
        case rel => exact ⟨k + 1, _, _, by omega, by go_num, Lib.hid (by rw [List.length_append, Hl.out]; rfl), HO3.out.kept (grown_setP _ _ _) (by first | exact .inr (fun e => by have h := (HO3.out.lt _ e).1; simp only at h; omega)), HR3.out.other (by show w.heap.size + 1 ≠ w.heap.size; omega) _, HD3.out.set1 (j := 0) (by simp) _, Hb3.out.setCell (by show w.heap.size ≤ w.heap.size + 1; omega) _⟩
        case measure => simp [intOf]; omega
    · obtain rfl : k = s.size := by omega
      have r1 := hR.cell 0 _ rfl
      have r2 := hR.free 0
      have Hown := Lib.hid hown
      have HR := Lib.hid hR
      have Hb := Lib.hid hb
      clear hown hb hR hD
      go_wp2
      refine bodyPost_ret (v := .agg #[.slice ao s.size cap]) (by simp [results, Tryz.results72, go_sem, r1]) rfl ⟨⟨_, xs, rfl, ?_, Hl.out⟩, Hb.out.setCell (Nat.le_refl _) _⟩
      exact (Hown.out.kept (grown_setP _ _ _) (.inr (fun e => by have h := (Hown.out.lt _ e).1; simp only at h; omega))).mono (by omega)
theorem bit_bds : ∀ n : Fin 10, 0 ≤ (4 * 2 ^ n.val : Int) ∧ (4 * 2 ^ n.val : Int) ≤ 4095 := by decide +kernel
theorem bit_ok {n : Int} (h : 0 ≤ n ∧ n ≤ 9) : eI.ok (4 * 2 ^ n.toNat) := by
  have h1 := bit_bds ⟨n.toNat, by omega⟩
  show -9223372036854775808 ≤ (4 * 2 ^ n.toNat : Int) ∧ (4 * 2 ^ n.toNat : Int) ≤ 9223372036854775807
  simp only at h1
  omega
def Drawn3 (base : Nat) (e : Ending) (w' : World) : Prop := ∃ (u : Value) (xs : List Int) (q : Bool), e = .returned (.tuple #[u, .bool q]) ∧ OwnInt64S base w' u xs ∧ xs.length = 3
theorem zerosI {e : TypeId} {base m cap g : Nat} {w : World} (h : w.ownsRow base e 1 (.slice (some ⟨g, 0, none⟩) m cap) m (madeCells #[.int .i64 0] m).toList) : Own eI e base w (.slice (some ⟨g, 0, none⟩) m cap) (List.replicate m 0) := by
  rw [toList_madeCells_one] at h
  refine Own.ofInts ?_ ?_
  · rw [List.map_replicate, List.length_replicate]; exact h
  · intro x hx
    have := List.eq_of_mem_replicate hx
    subst this
    show -9223372036854775808 ≤ (0 : Int) ∧ (0 : Int) ≤ 9223372036854775807
    omega
set_option maxHeartbeats 400000 in
theorem l03Put_any (n : Int) (w : World) (hn : 0 ≤ n ∧ n < 1000) :
    Calls Tryz.prog 73 #[.int .i64 n, .int .i64 3] w fun e w' => Drawn3 w.heap.size e w' ∧ Below w.heap.size w w' := by
  obtain ⟨i0, hi, hz0, hz1, hz2⟩ := info_parts Tryz.infoInt64
  go_enter Tryz.func73, Tryz.ntmps73
  go_wp2_with (first | (at_make; refine wpList_make_full _ rfl _ _ 34 rfl w.heap.size 2 i0 (.int .i64 0) 1 Tryz.underlying34 hi hz0 hz1 _ _ _ _ 3 rfl rfl rfl rfl ?b1 ?b2 (Nat.le_refl _) ?_))
  case b1 => first | omega | (rw [hz2]; omega)
  case b2 => unfold maxLen; omega
  intro w1 hown hgr
  have hF0 : OwnInt64S w.heap.size w1 (.slice (some ⟨w.heap.size, 0, none⟩) 3 3) (List.replicate 3 0) := zerosI hown
  have hb1 : Below w.heap.size w w1 := (Below.refl _ _).grown hgr (Nat.le_refl _) (fun k hk => by cases hk)
  have HF0 := Lib.hid hF0
  have Hb1 := Lib.hid hb1
  clear hown hgr hF0 hb1
  go_wp2
  go_loopw [7, 8] (fun xv kv wr => ∃ (x k : Int) (xs : List Int), (0 ≤ x ∧ x < 1000) ∧ (-1 ≤ k ∧ k ≤ 2) ∧ xv = .int .i64 x ∧ kv = .int .i64 k ∧ Hid (3 = xs.length) ∧ OwnInt64S w.heap.size wr (.slice (some ⟨w.heap.size, 0, none⟩) 3 3) xs ∧ Below w.heap.size w wr) (fun _ k _ => (intOf k + 1).toNat)
  case atStart => exact ⟨n, 2, _, hn, by omega, rfl, rfl, Lib.hid rfl, HF0.out, Hb1.out⟩
  case round =>
    obtain ⟨x, k, xs, hx, hk, rfl, rfl, Hl, hF, hb⟩ := hrel
    clear HF0 Hb1
    by_cases hk0 : 0 ≤ k
    · obtain ⟨kk, rfl⟩ := Int.eq_ofNat_of_zero_le hk0
      have hm0 : 0 ≤ x % 10 ∧ x % 10 ≤ 9 := by omega
      have hok := bit_ok hm0
      have hst := Own.storeI (x := 4 * 2 ^ (x % 10).toNat) hF Hl.out (k := kk) (by omega) hok
      obtain ⟨⟨y0, hc0⟩, hfz, hF2, hg2⟩ := hst
      have hb2 := hb.setCell (p := ⟨w.heap.size, kk, none⟩) (Nat.le_refl _) (.int .i64 (4 * 2 ^ (x % 10).toNat))
      have Hm0 := Lib.hid hm0
      have HF2 := Lib.hid hF2
      have Hb2 := Lib.hid hb2
      have hd0 : 0 ≤ x / 10 ∧ x / 10 < 1000 := by omega
      clear hF hb hF2 hg2 hb2 hok
      go_wp2_with fail
      with_reducible refine (l02Bit_c _ _ Hm0.out).mono ?_
      rintro e w1 ⟨rfl, rfl⟩
      go_wp2
      go_roundw
      case rel => exact ⟨x / 10, (kk : Int) - 1, _, hd0, by omega, rfl, by first | rfl | go_num, Lib.hid (by rw [List.length_set]; exact Hl.out), HF2.out, Hb2.out⟩
      case measure => simp [intOf] <;> omega
    · have HF := Lib.hid hF
      have Hb := Lib.hid hb
      have hn0 : ¬ n < 0 := by omega
      clear hF hb
      go_wp2
      go_ret2
      exact ⟨⟨_, _, _, rfl, HF.out, Hl.out.symm⟩, Hb.out⟩
set_option maxHeartbeats 1000000 in
/-- some columns put into a card that lies in a block -/
theorem l04Put_any {w : World} {X g cap B f m n : Nat} {xs ys : List Int} {v : Value} {t : Int} (hX : Box w X [.slice (some ⟨g, 0, none⟩) n cap]) (ho : OwnInt64S B w (.slice (some ⟨g, 0, none⟩) n cap) xs) (hn : n = xs.length)
    (hy : OwnInt64S B w v ys) (hm : m = ys.length) (hf : f + m ≤ n) (hn1 : n ≤ 1000) (hgX : g ≠ X) (hgv : ∀ k, v.ownBlock = some k → k ≠ g) :
    Calls Tryz.prog 74 #[.pointer (some ⟨X, 0, none⟩), .agg #[.int .i64 f, .int .i64 t], v] w fun e w' => e = .returned (.tuple #[]) ∧ (∃ zs, OwnInt64S B w' (.slice (some ⟨g, 0, none⟩) n cap) zs ∧ zs.length = n) ∧ w.grownBy w' (some g) := by
  obtain ⟨W, hW⟩ : ∃ W, W = w.alloc (.cells #[.int .i64 f, .int .i64 t] 53) := ⟨_, rfl⟩
  have hg0 : w.grownBy W (some g) := by rw [hW]; exact World.grownBy_alloc _ _ _
  have hF0 : Box W w.heap.size [.int .i64 f, .int .i64 t] := by rw [hW]; exact Box.new w [.int .i64 f, .int .i64 t] _
  have hX0 : Box W X [.slice (some ⟨g, 0, none⟩) n cap] := by rw [hW]; exact hX.alloc _
  have ho0 : OwnInt64S B W (.slice (some ⟨g, 0, none⟩) n cap) xs := by rw [hW]; exact ho.alloc _
  have hy0 : OwnInt64S B W v ys := by rw [hW]; exact hy.alloc _
  have hgl : g < w.heap.size := (ho.lt g rfl).2
  obtain ⟨vo, vc, hv⟩ := hy0.shape
  have HW := Lib.hid hW
  have HG := Lib.hid hg0
  have HF := Lib.hid hF0
  have HX := Lib.hid hX0
  have HO := Lib.hid ho0
  have HY := Lib.hid hy0
  have Hgv := Lib.hid hgv
  have Hn := Lib.hid hn
  rw [← hm] at hv
  subst hv
  have Hm := Lib.hid hm
  clear hX ho hy hW hg0 hF0 hX0 ho0 hy0 hgv hn hm
  go_enter Tryz.func74, Tryz.ntmps74
  go_wp2
  rw [← HW.out]
  go_loopw [6] (fun i wr => ∃ (k : Nat) (zs : List Int), k ≤ m ∧ i = .int .i64 k ∧ OwnInt64S B wr (.slice (some ⟨g, 0, none⟩) n cap) zs ∧ Hid (n = zs.length) ∧ OwnInt64S B wr (.slice vo m vc) ys ∧ Box wr w.heap.size [.int .i64 f, .int .i64 t] ∧ Box wr X [.slice (some ⟨g, 0, none⟩) n cap] ∧ w.grownBy wr (some g)) (fun i _ => m - (intOf i).toNat)
  case atStart => exact ⟨0, xs, Nat.zero_le _, rfl, HO.out, Hn, HY.out, HF.out, HX.out, HG.out⟩
  case round =>
    obtain ⟨k, zs, hk, rfl, hO, Hz, hY, hF, hX, hg⟩ := hrel
    clear HO HG HF HX HY
    by_cases hkm : k < m
    · obtain ⟨ao', c', hv', hop⟩ := RdI.open hY.rds
      rw [← Hm.out] at hv'
      cases hv'
      obtain ⟨b', off, e1, hlt, hc⟩ := hop (by have := Hm.out; omega)
      subst e1
      obtain ⟨y, hy, hcy, by1⟩ := hc k (by have := Hm.out; omega)
      obtain ⟨j, hj⟩ : ∃ j, j = f + k := ⟨_, rfl⟩
      have hst := Own.storeI (x := y) hO Hz.out (k := j) (by omega) by1
      obtain ⟨⟨y0, hc0⟩, hfz, hO2, hg2⟩ := hst
      have hbg : b' ≠ g := Hgv.out b' rfl
      have d1 := hX.cell 0 _ rfl
      have d2 := hF.cell 0 _ rfl
      have hY2 := hY.kept hg2 (.inr (fun e => hbg (Option.some.inj e)))
      have hF2 := Box.keptB hF hg2 (fun e => by have := Option.some.inj e; omega)
      have hX2 := Box.keptB hX hg2 (fun e => hgX (Option.some.inj e))
      have HO2 := Lib.hid hO2
      have HY2 := Lib.hid hY2
      have HF2 := Lib.hid hF2
      have HX2 := Lib.hid hX2
      have HG2 := Lib.hid (grownBy_trans hg hg2)
      have hfk : (f : Int) + (k : Int) = (j : Int) := by omega
      have hwr : IntKind.i64.wrap ((f : Int) + (k : Int)) = (j : Int) := by rw [hfk]; exact IntWalk.i64_in _ (by omega)
      have hfn : (j : Int) < (n : Int) := by omega
      clear hj
      clear hO hY hF hX hg hO2 hY2 hF2 hX2 hg2 hy hc hop
      go_wp2
      go_region
      all_goals
        go_wp2
        go_roundw
        case rel => exact ⟨k + 1, _, by omega, by go_num, HO2.out, Lib.hid (by rw [List.length_set]; exact Hz.out), HY2.out, HF2.out.drew1, HX2.out.drew1, grownBy_trans HG2.out (grownBy_drew _ _)⟩
        case measure => simp [intOf]; omega
    · have HO := Lib.hid hO
      have HG := Lib.hid hg
      clear hO hg hY hF hX
      go_wp2
      go_end0
      exact ⟨rfl, ⟨zs, HO.out, Hz.out.symm⟩, HG.out⟩
end Go.Proofs.YtkpcdnbjngpooaaGreatDoor
