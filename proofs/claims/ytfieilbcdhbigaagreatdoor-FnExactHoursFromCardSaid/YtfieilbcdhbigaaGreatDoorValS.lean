/- The value of a text item of a card: the reference's by its contract. No condition. -/
import Derived.Test.YtfieilbcdhbigaaGreatDoorChrS
namespace Go.Proofs.YtfieilbcdhbigaaGreatDoor
open Go.ChangeShapes Go.WideShapes Go.ChangeAt Go.RowKit Go.Sort
set_option linter.unusedVariables false
set_option maxRecDepth 100000
theorem toB_take (a b : List Int) : (toB (a ++ b)).extract 0 a.length = toB a := by
  have h : ((toB (a ++ b)).extract 0 a.length).data.toList = (toB a).data.toList := by
    rw [Lib.extract_data]
    unfold toB
    simp
  have e := Array.toList_inj.1 h
  cases hx : (toB (a ++ b)).extract 0 a.length with
  | mk d =>
    rw [hx] at e
    cases hy : toB a with
    | mk d' =>
      rw [hy] at e
      rw [show d = d' from e]
theorem toB_last {a : List Int} {z : Int} (h : 0 ≤ z ∧ z ≤ 255) (hb : ∀ c ∈ a, 0 ≤ c ∧ c ≤ 255) (w : World) : (Instr.index 9 (.string (toB (a ++ [z]))) (.int .i64 (a.length : Int))).run Tryz.prog w = .ok (.int .u8 z) w := by
  have hs : (toB (a ++ [z])).size = a.length + 1 := by rw [toB_size]; simp
  have hall : ∀ c ∈ a ++ [z], 0 ≤ c ∧ c ≤ 255 := by
    intro c hc
    rcases List.mem_append.1 hc with hc | hc
    · exact hb c hc
    · rw [List.mem_singleton.1 hc]; exact h
  have h1 := bytesI_at (toB (a ++ [z])) a.length (by rw [hs]; omega)
  rw [bytesI_toB hall] at h1
  have h2 : (a ++ [z])[a.length]? = some z := by simp
  rw [h2] at h1
  have h3 := Option.some.inj h1
  rw [run_index_string w 9 (toB (a ++ [z])) .i64 (a.length : Int) Tryz.underlying9, dif_pos ⟨by omega, by rw [hs]; omega⟩]
  have e : (((toB (a ++ [z]))[(a.length : Int).toNat]'(by rw [hs]; omega)).toNat : Int) = z := h3.symm
  rw [e]
/-- the value's text; of no use where a column has no character -/
theorem l04Value_c {c : List Int} {b off ib io cb co n cap : Nat} {w : World} {A : Nat} (x : ItemT) (hk : x.kd = 1) (hx : 0 ≤ x.ff) (hxy : x.ff < x.ft) (hy : x.ft ≤ n) (hn : n ≤ 20)
    (c1 : w.cell? ⟨ib, io + 1, none⟩ = some (.int .i64 x.kd)) (c2 : w.cell? ⟨ib, io + 2, none⟩ = some (.int .i64 x.ff)) (c3 : w.cell? ⟨ib, io + 3, none⟩ = some (.int .i64 x.ft)) (hib : ib < w.heap.size)
    (hcell : w.cell? ⟨b, off, none⟩ = some (.slice (some ⟨cb, co, none⟩) n cap)) (hb : b < w.heap.size) (ha : RdI A w (.slice (some ⟨cb, co, none⟩) n cap) c) :
    Calls Tryz.prog 42 #[.pointer (some ⟨ib, io, none⟩), .pointer (some ⟨b, off, none⟩)] w fun e w' => e = .returned (.tuple #[.string (whoV (partC c x.ff x.ft)), .bool (okTx (partC c x.ff x.ft))]) ∧ Below w.heap.size w w' := by
  have hc := Rds.cap ha
  have hcap := hc.2.2 (by omega)
  have Hpart := Lib.hid (fun w' (h : Below w.heap.size w w') => Rds.part (Rds.onn ha h) hx hxy hy)
  have Hlp := Lib.hid (l02Part_c x.ff x.ft hx hxy hy hc.1 hcap hcell hb)
  have hpl : (partC c x.ff x.ft).length ≤ 1000 := by
    unfold partC
    rw [List.length_drop, List.length_take]
    omega
  obtain ⟨h, hh⟩ : ∃ h, h = partC c x.ff x.ft := ⟨_, rfl⟩
  rw [← hh] at Hpart hpl ⊢
  have Hpl := Lib.hid hpl
  have q2 : (x.kd == 2) = false := by rw [hk]; decide
  clear hc hcap hpl hh hk hx hxy hy hcell
  go_enter Tryz.func42, Tryz.ntmps42
  go_wp2_with fail
  with_reducible refine Hlp.out.mono ?_
  rintro e w1 ⟨rfl, hb1⟩
  have Hb1 := Lib.hid hb1
  have d1 := (hb1.cell (p := ⟨ib, io + 1, none⟩) hib).trans c1
  have Hp1 := Lib.hid (Hpart.out w1 hb1)
  clear hb1 c1 c2 c3
  go_wp2_with fail
  with_reducible refine (l03Text_c Hpl.out Hp1.out).mono ?_
  rintro e w2 ⟨rfl, hb2⟩
  have Hb2 := Lib.hid (Hb1.out.trans (hb2.mono Hb1.out.size))
  clear hb2 d1
  cases ho : okTx h with
  | false =>
    have E1 : Hid (txV h = ⟨#[]⟩) := Lib.hid (if_neg (by rw [ho]; decide))
    have E2 : Hid (whoV h = ⟨#[]⟩) := Lib.hid (if_neg (by rw [ho]; decide))
    have Ho := Lib.hid ho
    rw [E1.out]
    clear ho
    go_wp2
    go_rounds 1
    go_ret2
    rw [E2.out, Ho.out]
    exact ⟨rfl, Hb2.out⟩
  | true =>
    have E2 : Hid (whoV h = toB (trimL (txI h))) := Lib.hid (if_pos ho)
    have E1 : Hid (txV h = toB (txI h)) := Lib.hid (if_pos ho)
    have Hbd := Lib.hid (txI_bd ho)
    have hl1 : (txI h).length ≤ 1000 := by unfold txI; rw [List.length_map]; exact Hpl.out
    obtain ⟨L, hL⟩ : ∃ L, L = txI h := ⟨_, rfl⟩
    rw [← hL] at E1 E2 Hbd hl1
    rw [E1.out]
    have Ho := Lib.hid ho
    have Hl1 := Lib.hid hl1
    clear ho hL hl1
    obtain ⟨S, hS⟩ : ∃ S, S = toB L := ⟨_, rfl⟩
    rw [← hS]
    have HS := Lib.hid hS
    clear hS
    go_wp2
    go_loop [9] (fun tv => ∃ (l : List Int) (T : ByteArray), tv = .string T ∧ Hid (T = toB l ∧ trimL l = trimL L ∧ l.length ≤ 1000 ∧ ∀ c ∈ l, 0 ≤ c ∧ c ≤ 255)) (fun tv => match tv with | .string T => T.size | _ => 0)
    case atStart => exact ⟨L, S, rfl, Lib.hid ⟨HS.out, rfl, Hl1.out, Hbd.out⟩⟩
    case round =>
      obtain ⟨l, T, rfl, hst⟩ := hrel
      obtain ⟨hT, htr, hll, hbd⟩ := hst.out
      have hsz : T.size = l.length := by rw [hT, toB_size]
      by_cases hl0 : l = []
      · subst hl0
        have hT0 : T = ⟨#[]⟩ := hT
        have F : Hid (toB (trimL L) = ⟨#[]⟩) := Lib.hid (by rw [← htr]; rfl)
        subst hT0
        clear hst hT htr hll hbd hsz
        go_wp2
        go_ret2
        rw [E2.out, Ho.out, F.out]
        exact ⟨rfl, Hb2.out⟩
      · obtain ⟨a, z, rfl⟩ : ∃ a z, l = a ++ [z] := ⟨l.dropLast, l.getLast hl0, (List.dropLast_concat_getLast _).symm⟩
        have hza := hbd z (by simp)
        have hba : ∀ c ∈ a, 0 ≤ c ∧ c ≤ 255 := fun c hc => hbd c (by simp [hc])
        obtain ⟨q, hq⟩ : ∃ q, q = a.length := ⟨_, rfl⟩
        have hsq : T.size = q + 1 := by rw [hsz, hq]; simp
        have hix := toB_last hza hba
        rw [← hT, ← hq] at hix
        have hex : T.extract 0 q = toB a := by rw [hT, hq]; exact toB_take a [z]
        have Hex := Lib.hid hex
        have Hq := Lib.hid hq
        have hqb : q ≤ 1000 := by rw [hq]; simp at hll; omega
        by_cases hz : z = 32
        · have q1 : (z == 32) = true := by simpa using hz
          have F : Hid (trimL a = trimL L) := Lib.hid (by rw [← htr, hz, trimL_snoc_blank])
          have Hba := Lib.hid hba
          have Hsa := Lib.hid (show (T.extract 0 q).size = q by rw [hex, toB_size, ← hq])
          clear hst hT htr hll hbd hsz hl0 hza hba hq hex hz
          go_wp2
          go_round
          case rel => exact ⟨a, _, rfl, Lib.hid ⟨Hex.out, F.out, by have := Hq.out; omega, Hba.out⟩⟩
          case measure => have := Hsa.out; simp only; omega
        · have q1 : (z == 32) = false := by simpa using hz
          have F : Hid (toB (trimL L) = T) := Lib.hid (by rw [← htr, trimL_snoc_other hz]; exact hT.symm)
          clear hst hT htr hll hbd hsz hl0 hza hba hq hex hz
          go_wp2
          go_ret2
          rw [E2.out, Ho.out, F.out]
          exact ⟨rfl, Hb2.out⟩
end Go.Proofs.YtfieilbcdhbigaaGreatDoor
