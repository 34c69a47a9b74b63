/- Counters of wheels: what they show, digit for digit. No condition. -/
import Derived.Test.YtahkkdkdaedioaaDoorApp
import Derived.Test.YtahkkdkdaedioaaDoorInts
import Derived.Test.YtahkkdkdaedioaaDoorSmall
import Derived.Test.YtahkkdkdaedioaaDoorStr
namespace Go.Proofs.YtahkkdkdaedioaaDoor
open Go.ChangeShapes Go.WideShapes Go.ChangeAt Go.RowKit
set_option linter.unusedVariables false
set_option maxRecDepth 100000
def tenN (k : Nat) : Int := 10 ^ k
/-- the number behind k wheels, and the wheels' digits -/
def shr (n : Int) : Nat → Int
  | 0 => n
  | k + 1 => shr n k / 10
def wl (n : Int) (k : Nat) : List Int := (List.range k).map fun j => shr n j % 10
theorem wl_succ (n : Int) (k : Nat) : wl n (k + 1) = wl n k ++ [shr n k % 10] := by unfold wl; rw [List.range_succ, List.map_append]; rfl
theorem wl_length (n : Int) (k : Nat) : (wl n k).length = k := by simp [wl]
theorem shr_bd {n : Int} (h0 : 0 ≤ n) (h1 : n ≤ 9223372036854775807) : ∀ k, 0 ≤ shr n k ∧ shr n k ≤ 9223372036854775807
  | 0 => ⟨h0, h1⟩
  | k + 1 => by have := shr_bd h0 h1 k; show 0 ≤ shr n k / 10 ∧ shr n k / 10 ≤ _; omega
theorem wl_ok (n : Int) (k : Nat) : ∀ x ∈ wl n k, 0 ≤ x ∧ x ≤ 9 := by
  intro x hx
  obtain ⟨j, _, rfl⟩ := List.mem_map.1 hx
  omega
/-- a struct of one slice, made by the call -/
def CtrAt (base B : Nat) (w : World) (xs : List Int) : Prop := ∃ u, Box w B [u] ∧ OwnInt64S base w u xs ∧ u.ownBlock ≠ some B
theorem Box.keptW {w w' : World} {b : Nat} {cs : List Value} {row : Option Nat} (h : Box w b cs) (hg : w.grownBy w' row) (hne : row ≠ some b) : Box w' b cs := by
  have hb := hg.block b h.lt (fun e => hne e.symm)
  exact ⟨Nat.lt_of_lt_of_le h.lt hg.size, fun j v hj => (World.cell?_of_block (w := w) (a := ⟨b, j, none⟩) hb).trans (h.cell j v hj), fun j => (World.frozen?_of_block (w := w) (a := ⟨b, j, none⟩) hb).trans (h.free j)⟩
theorem grown_setW (w : World) (a : Addr) (u : Value) : w.grownBy (w.setCell a u) (some a.block) :=
  ⟨rfl, rfl, rfl, by simp [World.setCell], fun k hk hne => Below.heap_setCell _ _ _ _ (fun e => hne (by rw [e]))⟩
theorem setApartW {α : Type} {E : Elt α} {e : TypeId} {base FB j : Nat} {w : World} {v : Value} {xs : List α} (h : Own E e base w v xs) (hne : v.ownBlock ≠ some FB) (u : Value) : Own E e base (w.setCell ⟨FB, j, none⟩ u) v xs :=
  Own.kept h (grown_setW w ⟨FB, j, none⟩ u) (.inr hne)
theorem CtrAt.start (W : World) (t u : TypeId) : let X := ((W.alloc (.cells #[.slice none 0 0] t)).alloc (.cells #[] 2)).alloc (.cells #[.slice (some ⟨W.heap.size + 1, 0, none⟩) 0 0] u)
    CtrAt (W.heap.size + 1) (W.heap.size + 1 + 1) X [] ∧ Box X W.heap.size [.slice none 0 0] ∧ Below W.heap.size W X := by
  intro X
  have e2 : (W.alloc (.cells #[.slice none 0 0] t)).heap.size = W.heap.size + 1 := by simp
  have e3 : ((W.alloc (.cells #[.slice none 0 0] t)).alloc (.cells #[] 2)).heap.size = W.heap.size + 1 + 1 := by simp
  have h1 := Box.new ((W.alloc (.cells #[.slice none 0 0] t)).alloc (.cells #[] 2)) [.slice (some ⟨W.heap.size + 1, 0, none⟩) 0 0] u
  have h2 := ((Box.new W [.slice none 0 0] t).alloc (.cells #[] 2)).alloc (.cells #[.slice (some ⟨W.heap.size + 1, 0, none⟩) 0 0] u)
  have h3 := (Own.lit (E := eI) (e := 2) (base := W.heap.size + 1) (w := W.alloc (.cells #[.slice none 0 0] t)) (xs := []) (cs := #[]) (n := 0) (by rw [e2]; omega) rfl rfl (by decide) (fun x hx => by cases hx)).alloc (.cells #[.slice (some ⟨W.heap.size + 1, 0, none⟩) 0 0] u)
  rw [e3] at h1
  rw [e2] at h3
  refine ⟨⟨_, h1, h3, ?_⟩, h2, (((Below.refl _ _).alloc (Nat.le_refl _) _).alloc (by rw [e2]; omega) _).alloc (by rw [e3]; omega) _⟩
  intro h
  have h2 : W.heap.size + 1 = W.heap.size + 1 + 1 := Option.some.inj h
  omega
set_option maxHeartbeats 1000000 in
theorem wheelsShow_c {K : Nat} {n : Int} {w : World} (hK : K ≤ 21) (h0 : 0 ≤ n) (h1 : n ≤ 9223372036854775807) :
    Calls Tryd.prog 57 #[.int .i64 (K : Int), .int .i64 n] w fun e w' => ∃ u, e = .returned (.agg #[u]) ∧ OwnInt64S w.heap.size w' u (wl n K) ∧ Below w.heap.size w w' := by
  obtain ⟨i0, hi, hz0, hz1, hz2⟩ := info_parts Tryd.infoInt64
  have hbd := shr_bd h0 h1
  have Hbd := Lib.hid hbd
  clear hbd h0 h1
  go_enter Tryd.func57, Tryd.ntmps57
  go_wp2_with fail
  obtain ⟨k1, k2, k3⟩ := CtrAt.start w 81 81
  go_loopw [9, 1] (fun i nv wr => ∃ k : Nat, k ≤ K ∧ i = .int .i64 (k : Int) ∧ nv = .int .i64 (shr n k) ∧ CtrAt (w.heap.size + 1) (w.heap.size + 1 + 1) wr (wl n k) ∧ Box wr w.heap.size [.slice none 0 0] ∧ Below w.heap.size w wr) (fun i _ _ => K - (intOf i).toNat)
  case atStart => exact ⟨0, Nat.zero_le _, rfl, rfl, k1, k2, k3⟩
  case round =>
    obtain ⟨k, hk, rfl, rfl, ⟨u, hB, hO, hne⟩, hR, hb⟩ := hrel
    clear k1 k2 k3
    by_cases hkK : k < K
    · obtain ⟨q, hq⟩ : ∃ q, q = shr n k := ⟨_, rfl⟩
      have hqb := Hbd.out k
      have hws := wl_succ n k
      have hsk : shr n (k + 1) = q / 10 := by rw [hq]; rfl
      have hwl := wl_length n k
      rw [← hq] at hqb hws ⊢
      obtain ⟨ua, uc, hu⟩ := hO.shape
      rw [hwl] at hu
      subst hu
      have c0 := hB.cell 0 _ rfl
      have f0 := hB.free 0
      have hbl := hb.size
      have hxok : eI.ok (q % 10) := by show -9223372036854775808 ≤ q % 10 ∧ q % 10 ≤ 9223372036854775807; omega
      obtain ⟨hq0, hq1⟩ := hqb
      have HB := Lib.hid hB
      have HO := Lib.hid hO
      have HR := Lib.hid hR
      have Hb := Lib.hid hb
      have Hne := Lib.hid hne
      have Hws := Lib.hid hws
      have Hsk := Lib.hid hsk
      have Hwl := Lib.hid hwl
      clear hq hws hsk hwl hB hO hR hb hne
      go_wp2_with (first | (at_builtin; refine wpList_appS (E := eI) rfl _ _ 24 rfl Tryd.underlying24 hi hz0 hz1 hz2 rfl (by decide) rfl rfl (HO.out.alloc _) (rds_one (E := eI) (x := q % 10) hxok rfl) ?b1 ?b2 ?b3 ?_))
      case b1 => rw [Hwl.out]; unfold maxLen; (try simp) <;> omega
      case b2 => rw [Hwl.out]; (try simp) <;> omega
      case b3 => (try simp) <;> omega
      intro v5 w5 hO5 hg5
      obtain ⟨va, vc, hv5⟩ := hO5.shape
      rw [List.length_append, Hwl.out] at hv5
      have hv6 : v5 = .slice va (k + 1) vc := hv5
      clear hv5
      subst hv6
      have hg := hg5.alloc
      have hl := HO.out.lt
      have hB5 := HB.out.keptW hg.1 Hne.out
      have hR5 := HR.out.keptW hg.1 (fun h => by have := (hl _ h).1; omega)
      have hb5 := hg.below Hb.out hbl (fun z hz => by have := (hl z hz).1; omega)
      have hun : (Value.slice va (k + 1) vc).ownBlock ≠ some (w.heap.size + 1 + 1) := by
        rcases hg.2 with h | ⟨z, h, hz⟩
        · rw [h]; exact Hne.out
        · rw [h]; intro hh; have h2 := Option.some.inj hh; have := HB.out.lt; omega
      have c1 := hB5.cell 0 _ rfl
      have f1 := hB5.free 0
      have HS : Hid (CtrAt (w.heap.size + 1) (w.heap.size + 1 + 1) (w5.setCell ⟨w.heap.size + 1 + 1, 0, none⟩ (.slice va (k + 1) vc)) (wl n (k + 1))) := Lib.hid (by
        rw [Hws.out]
        exact ⟨_, hB5.set1 (j := 0) (by simp) (.slice va (k + 1) vc), setApartW hO5 (j := 0) hun (.slice va (k + 1) vc), hun⟩)
      have HR2 := Lib.hid (hR5.other (p := ⟨w.heap.size + 1 + 1, 0, none⟩) (by show w.heap.size + 1 + 1 ≠ w.heap.size; omega) (.slice va (k + 1) vc))
      have Hb2 := Lib.hid (hb5.setCell (p := ⟨w.heap.size + 1 + 1, 0, none⟩) (by show w.heap.size ≤ w.heap.size + 1 + 1; omega) (.slice va (k + 1) vc))
      clear hg5 hg hl hB5 hR5 hb5 hun hO5 c0 f0 HB HO HR Hb Hne
      go_wp2
      go_roundw
      case rel => exact ⟨k + 1, by omega, by go_num, by rw [Hsk.out], HS.out, HR2.out, Hb2.out⟩
      case measure => simp [intOf]; omega
    · obtain rfl : k = K := by omega
      obtain ⟨ua, uc, rfl⟩ := hO.shape
      have c0 := hB.cell 0 _ rfl
      have d0 := hR.cell 0 _ rfl
      have e0 := hR.free 0
      have hun : (Value.slice ua (wl n k).length uc).ownBlock ≠ some w.heap.size := fun h => by have := (hO.lt _ h).1; omega
      have HO2 := Lib.hid (setApartW (hO.mono (show w.heap.size ≤ w.heap.size + 1 by omega)) (j := 0) hun (.slice ua (wl n k).length uc))
      have Hb2 := Lib.hid (hb.setCell (p := ⟨w.heap.size, 0, none⟩) (Nat.le_refl _) (.slice ua (wl n k).length uc))
      have HR2 := Lib.hid (hR.set1 (j := 0) (by simp) (.slice ua (wl n k).length uc))
      have g0 := HR2.out.cell 0 _ rfl
      clear hB hO hR hb hne hun
      go_wp2
      exact bodyPost_ret (v := .agg #[.slice ua (wl n k).length uc]) (by simp [results, Tryd.results57, go_sem, g0]) rfl ⟨_, rfl, HO2.out, Hb2.out⟩
end Go.Proofs.YtahkkdkdaedioaaDoor
