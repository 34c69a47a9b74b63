/- What trays the rest of a flow needs: the program's and the reference's answers, each by its contract. No condition. -/
import Derived.Test.YtipldgbfenhknaaUseI
namespace Go.Proofs.Ytipldgbfenhknaa
open Go.ChangeShapes Go.WideShapes Go.ChangeAt Go.RowKit
set_option linter.unusedVariables false
set_option maxRecDepth 100000
def NTok (xs : List StepT) (a : Int) : Prop := flB xs 20 = true ∧ 0 ≤ a ∧ a ≤ xs.length
instance (xs : List StepT) (a : Int) : Decidable (NTok xs a) := inferInstanceAs (Decidable (_ ∧ _))
def NTC (xs : List StepT) (a : Int) : Int := if NTok xs a then UseC (xs.drop a.toNat) else 2
def NTR (xs : List StepT) (a : Int) : List Int := if NTok xs a then UseR (xs.drop a.toNat) else []
theorem Rds.dropE {α : Type} {E : Elt α} {w : World} {B b off n cap k : Nat} {xs : List α} (h : Rds E B w (.slice (some ⟨b, off, none⟩) n cap) xs) (hk : k < n) :
    Rds E B w (.slice (some ⟨b, off + k * E.sz, none⟩) (n - k) (cap - k)) (xs.drop k) := by
  have hc := Rds.cap h
  have hcap := hc.2.2 (by omega)
  have h1 := Rds.sub (lo := k) (hi := n) (cap' := cap - k) h (by omega) hk ⟨by omega, by omega⟩
  rw [List.take_of_length_le (by omega)] at h1
  exact h1
theorem Rds.dropN {α : Type} {E : Elt α} {w : World} {B n c k : Nat} {v : Value} {ao : Option Addr} {xs : List α} (h : Rds E B w v xs) (hk : xs.length ≤ k) (ha : ao = none → c = 0) :
    Rds E B w (.slice ao 0 c) (xs.drop k) := by
  have hd : xs.drop k = [] := List.drop_of_length_le hk
  rw [hd]
  exact ⟨⟨by simp [Elt.all], by simp, .inl ⟨rfl, ao, c, rfl, ha⟩⟩, fun x hx => by cases hx⟩
theorem sizeStep_c {ao : Option Addr} {n cap : Nat} (w : World) (hn : n ≤ 9223372036854775807) :
    Calls Try.prog 20 #[.slice ao n cap] w fun e w' => e = .returned (.int .i64 n) ∧ w = w' := by
  go_enter Try.func20, Try.ntmps20
  go_wp2
  go_ret
  exact ⟨rfl, rfl⟩
theorem NeededTrays_c {xs : List StepT} {v : Value} {w : World} {A : Nat} (a : Int) (hai : -9223372036854775808 ≤ a ∧ a ≤ 9223372036854775807) (ha : RdStepS A w v xs) :
    Calls Try.prog 7 #[v, .int .i64 a] w fun e w' => ∃ u, e = .returned (.tuple #[u, .int .i64 (NTC xs a)]) ∧ OwnInt64S w.heap.size w' u (NTR xs a) ∧ Below w.heap.size w w' := by
  have hle := ha.le
  have ht := ha.tight
  obtain ⟨ao, cap, rfl⟩ := ha.shape
  have hcap := ht.cap
  obtain ⟨n, hn⟩ : ∃ n, n = xs.length := ⟨_, rfl⟩
  rw [← hn] at ht hle hcap ⊢
  have Ha := Lib.hid ht
  have Hn := Lib.hid hn
  have hcp : n ≤ cap := by omega
  have hnil : ao = none → cap = 0 := by
    intro h
    subst h
    rcases ht.1.2.2 with ⟨_, ao2, c2, e, h2⟩ | ⟨b2, o2, c2, e, _⟩
    · injection e with e1 e2 e3
      rw [e3]; exact h2 e1.symm
    · injection e with e1 e2 e3
      cases e1
  have Hnil := Lib.hid hnil
  clear hnil
  have Hcap := Lib.hid hcap
  clear hn ht ha hcap
  cases hf : flB xs 20 with
  | false =>
    have hno : ¬ NTok xs a := fun h => by have h1 := h.1; rw [hf] at h1; cases h1
    have e1 : NTC xs a = 2 := if_neg hno
    have e2 : NTR xs a = [] := if_neg hno
    rw [e1, e2]
    have Hf := Lib.hid hf
    clear e1 e2 hf hno
    go_enter Try.func7, Try.ntmps7
    go_wp2_with fail
    with_reducible refine (ValidFlow_c 20 ⟨by decide, by decide⟩ Ha.out).mono ?_
    rw [Hf.out]
    rintro e w1 ⟨rfl, hb⟩
    go_wp2
    go_ret2
    exact ⟨_, rfl, Own.nil _ _ _ _, hb⟩
  | true =>
    have Hf := Lib.hid hf
    clear hf
    by_cases hin : 0 ≤ a ∧ a ≤ n
    · obtain ⟨k, rfl⟩ := Int.eq_ofNat_of_zero_le hin.1
      have hkn : k ≤ n := by omega
      have hok : NTok xs (k : Int) := ⟨Hf.out, hin.1, by have := Hn.out; omega⟩
      have e1 : NTC xs (k : Int) = UseC (xs.drop k) := if_pos hok
      have e2 : NTR xs (k : Int) = UseR (xs.drop k) := if_pos hok
      rw [e1, e2]
      clear e1 e2 hok
      have Hin := Lib.hid hin
      clear hin hai
      by_cases hc : cap = k
      · obtain rfl : k = cap := hc.symm
        have hdr : ∀ W, Below w.heap.size w W → Rds eStep W.heap.size W (.slice ao 0 0) (xs.drop k) := fun W hW => Rds.dropN (n := 0) ((Ha.out.below hW (Nat.le_refl _)).mono hW.size) (by have := Hn.out; omega) (fun _ => rfl)
        have Hdr := Lib.hid hdr
        clear hdr
        obtain rfl : n = k := by omega
        go_enter Try.func7, Try.ntmps7
        go_wp2_with fail
        with_reducible refine (ValidFlow_c 20 ⟨by decide, by decide⟩ Ha.out).mono ?_
        rw [Hf.out]
        rintro e w1 ⟨rfl, hb⟩
        have Hb := Lib.hid hb
        clear hb
        go_wp2_with fail
        with_reducible refine (sizeStep_c _ (by omega)).mono ?_
        rintro e w9 ⟨rfl, rfl⟩
        go_wp2_with fail
        with_reducible refine (inside_yes _ _ _ _ (by omega) (by omega)).mono ?_
        rintro e w9 ⟨rfl, rfl⟩
        go_wp2_with fail
        with_reducible refine (FlowUses_c (Hdr.out _ Hb.out)).mono ?_
        rintro e w2 ⟨u, rfl, hu, hb2⟩
        have Hu := Lib.hid (hu.mono Hb.out.size)
        have hb3 := Hb.out.trans (hb2.mono Hb.out.size)
        clear hu hb2
        go_wp2
        go_ret2
        exact ⟨_, rfl, Hu.out, hb3⟩
      · by_cases hkl : k < n
        · obtain ⟨b, off, rfl⟩ : ∃ b off, ao = some ⟨b, off, none⟩ := by
            obtain ⟨ao2, cap2, he, ho⟩ := eStep_open Ha.out
            injection he with h1 h2 h3
            subst h1
            obtain ⟨b, off, h, _⟩ := ho (by have := Hn.out; omega)
            exact ⟨b, off, h⟩
          have hdr : ∀ W, Below w.heap.size w W → Rds eStep W.heap.size W (.slice (some ⟨b, off + k * 9, none⟩) (n - k) (cap - k)) (xs.drop k) := fun W hW => Rds.dropE (E := eStep) ((Ha.out.below hW (Nat.le_refl _)).mono hW.size) hkl
          have Hdr := Lib.hid hdr
          clear hdr
          go_enter Try.func7, Try.ntmps7
          go_wp2_with fail
          with_reducible refine (ValidFlow_c 20 ⟨by decide, by decide⟩ Ha.out).mono ?_
          rw [Hf.out]
          rintro e w1 ⟨rfl, hb⟩
          have Hb := Lib.hid hb
          clear hb
          go_wp2_with fail
          with_reducible refine (sizeStep_c _ (by omega)).mono ?_
          rintro e w9 ⟨rfl, rfl⟩
          go_wp2_with fail
          with_reducible refine (inside_yes _ _ _ _ (by omega) (by omega)).mono ?_
          rintro e w9 ⟨rfl, rfl⟩
          go_wp2_with fail
          with_reducible refine (FlowUses_c (Hdr.out _ Hb.out)).mono ?_
          rintro e w2 ⟨u, rfl, hu, hb2⟩
          have Hu := Lib.hid (hu.mono Hb.out.size)
          have hb3 := Hb.out.trans (hb2.mono Hb.out.size)
          clear hu hb2
          go_wp2
          go_ret2
          exact ⟨_, rfl, Hu.out, hb3⟩
        · obtain rfl : k = n := by omega
          have hdr : ∀ W (ao' : Option Addr), Below w.heap.size w W → (ao' = none → ao = none) → Rds eStep W.heap.size W (.slice ao' 0 (cap - k)) (xs.drop k) := fun W ao' hW h0 => Rds.dropN (n := 0) ((Ha.out.below hW (Nat.le_refl _)).mono hW.size) (by have := Hn.out; omega) (fun hh => by have h1 := Hnil.out (h0 hh); omega)
          have hmap : Option.map (fun x => x.add (k * 9)) ao = none → ao = none := by cases ao with | none => exact fun h => h | some a => intro h; cases h
          have Hmap := Lib.hid hmap
          have Hdr := Lib.hid hdr
          clear hdr hmap
          go_enter Try.func7, Try.ntmps7
          go_wp2_with fail
          with_reducible refine (ValidFlow_c 20 ⟨by decide, by decide⟩ Ha.out).mono ?_
          rw [Hf.out]
          rintro e w1 ⟨rfl, hb⟩
          have Hb := Lib.hid hb
          clear hb
          go_wp2_with fail
          with_reducible refine (sizeStep_c _ (by omega)).mono ?_
          rintro e w9 ⟨rfl, rfl⟩
          go_wp2_with fail
          with_reducible refine (inside_yes _ _ _ _ (by omega) (by omega)).mono ?_
          rintro e w9 ⟨rfl, rfl⟩
          go_wp2_with fail
          with_reducible refine (FlowUses_c (Hdr.out _ _ Hb.out Hmap.out)).mono ?_
          rintro e w2 ⟨u, rfl, hu, hb2⟩
          have Hu := Lib.hid (hu.mono Hb.out.size)
          have hb3 := Hb.out.trans (hb2.mono Hb.out.size)
          clear hu hb2
          go_wp2
          go_ret2
          exact ⟨_, rfl, Hu.out, hb3⟩
    · have hno : ¬ NTok xs a := fun h => hin ⟨h.2.1, by have := Hn.out; have := h.2.2; omega⟩
      have e1 : NTC xs a = 2 := if_neg hno
      have e2 : NTR xs a = [] := if_neg hno
      rw [e1, e2]
      have hin2 : a < 0 ∨ (n : Int) < a := by omega
      have Hin := Lib.hid hin2
      clear e1 e2 hno hin hin2
      go_enter Try.func7, Try.ntmps7
      go_wp2_with fail
      with_reducible refine (ValidFlow_c 20 ⟨by decide, by decide⟩ Ha.out).mono ?_
      rw [Hf.out]
      rintro e w1 ⟨rfl, hb⟩
      go_wp2_with fail
      with_reducible refine (sizeStep_c _ (by omega)).mono ?_
      rintro e w9 ⟨rfl, rfl⟩
      go_wp2_with fail
      with_reducible refine (inside_no _ _ _ _ Hin.out).mono ?_
      rintro e w9 ⟨rfl, rfl⟩
      go_wp2
      go_ret2
      exact ⟨_, rfl, Own.nil _ _ _ _, hb⟩
theorem sNeededTrays_c {xs : List StepT} {v : Value} {w : World} {A : Nat} (a : Int) (hai : -9223372036854775808 ≤ a ∧ a ≤ 9223372036854775807) (ha : RdStepS A w v xs) :
    Calls Try.prog 5 #[v, .int .i64 a] w fun e w' => ∃ u, e = .returned (.tuple #[u, .int .i64 (NTC xs a)]) ∧ OwnInt64S w.heap.size w' u (NTR xs a) ∧ Below w.heap.size w w' := by
  have hle := ha.le
  have ht := ha.tight
  obtain ⟨ao, cap, rfl⟩ := ha.shape
  have hcap := ht.cap
  obtain ⟨n, hn⟩ : ∃ n, n = xs.length := ⟨_, rfl⟩
  rw [← hn] at ht hle hcap ⊢
  have Ha := Lib.hid ht
  have Hn := Lib.hid hn
  have hcp : n ≤ cap := by omega
  have hnil : ao = none → cap = 0 := by
    intro h
    subst h
    rcases ht.1.2.2 with ⟨_, ao2, c2, e, h2⟩ | ⟨b2, o2, c2, e, _⟩
    · injection e with e1 e2 e3
      rw [e3]; exact h2 e1.symm
    · injection e with e1 e2 e3
      cases e1
  have Hnil := Lib.hid hnil
  clear hnil
  have Hcap := Lib.hid hcap
  clear hn ht ha hcap
  cases hf : flB xs 20 with
  | false =>
    have hno : ¬ NTok xs a := fun h => by have h1 := h.1; rw [hf] at h1; cases h1
    have e1 : NTC xs a = 2 := if_neg hno
    have e2 : NTR xs a = [] := if_neg hno
    rw [e1, e2]
    have Hf := Lib.hid hf
    clear e1 e2 hf hno
    go_enter Try.func5, Try.ntmps5
    go_wp2_with fail
    with_reducible refine (l15Flow_c 20 ⟨by decide, by decide⟩ Ha.out).mono ?_
    rw [Hf.out]
    rintro e w1 ⟨rfl, hb⟩
    go_wp2
    go_ret2
    exact ⟨_, rfl, Own.nil _ _ _ _, hb⟩
  | true =>
    have Hf := Lib.hid hf
    clear hf
    by_cases hin : 0 ≤ a ∧ a ≤ n
    · obtain ⟨k, rfl⟩ := Int.eq_ofNat_of_zero_le hin.1
      have hkn : k ≤ n := by omega
      have hok : NTok xs (k : Int) := ⟨Hf.out, hin.1, by have := Hn.out; omega⟩
      have e1 : NTC xs (k : Int) = UseC (xs.drop k) := if_pos hok
      have e2 : NTR xs (k : Int) = UseR (xs.drop k) := if_pos hok
      rw [e1, e2]
      clear e1 e2 hok
      have Hin := Lib.hid hin
      clear hin hai
      by_cases hc : cap = k
      · obtain rfl : k = cap := hc.symm
        have hdr : ∀ W, Below w.heap.size w W → Rds eStep W.heap.size W (.slice ao 0 0) (xs.drop k) := fun W hW => Rds.dropN (n := 0) ((Ha.out.below hW (Nat.le_refl _)).mono hW.size) (by have := Hn.out; omega) (fun _ => rfl)
        have Hdr := Lib.hid hdr
        clear hdr
        obtain rfl : n = k := by omega
        go_enter Try.func5, Try.ntmps5
        go_wp2_with fail
        with_reducible refine (l15Flow_c 20 ⟨by decide, by decide⟩ Ha.out).mono ?_
        rw [Hf.out]
        rintro e w1 ⟨rfl, hb⟩
        have Hb := Lib.hid hb
        clear hb
        go_wp2_with fail
        with_reducible refine (l00In_yes _ _ _ _ (by omega) (by omega)).mono ?_
        rintro e w9 ⟨rfl, rfl⟩
        go_wp2_with fail
        with_reducible refine (sFlowUses_c (Hdr.out _ Hb.out)).mono ?_
        rintro e w2 ⟨u, rfl, hu, hb2⟩
        have Hu := Lib.hid (hu.mono Hb.out.size)
        have hb3 := Hb.out.trans (hb2.mono Hb.out.size)
        clear hu hb2
        go_wp2
        go_ret2
        exact ⟨_, rfl, Hu.out, hb3⟩
      · by_cases hkl : k < n
        · obtain ⟨b, off, rfl⟩ : ∃ b off, ao = some ⟨b, off, none⟩ := by
            obtain ⟨ao2, cap2, he, ho⟩ := eStep_open Ha.out
            injection he with h1 h2 h3
            subst h1
            obtain ⟨b, off, h, _⟩ := ho (by have := Hn.out; omega)
            exact ⟨b, off, h⟩
          have hdr : ∀ W, Below w.heap.size w W → Rds eStep W.heap.size W (.slice (some ⟨b, off + k * 9, none⟩) (n - k) (cap - k)) (xs.drop k) := fun W hW => Rds.dropE (E := eStep) ((Ha.out.below hW (Nat.le_refl _)).mono hW.size) hkl
          have Hdr := Lib.hid hdr
          clear hdr
          go_enter Try.func5, Try.ntmps5
          go_wp2_with fail
          with_reducible refine (l15Flow_c 20 ⟨by decide, by decide⟩ Ha.out).mono ?_
          rw [Hf.out]
          rintro e w1 ⟨rfl, hb⟩
          have Hb := Lib.hid hb
          clear hb
          go_wp2_with fail
          with_reducible refine (l00In_yes _ _ _ _ (by omega) (by omega)).mono ?_
          rintro e w9 ⟨rfl, rfl⟩
          go_wp2_with fail
          with_reducible refine (sFlowUses_c (Hdr.out _ Hb.out)).mono ?_
          rintro e w2 ⟨u, rfl, hu, hb2⟩
          have Hu := Lib.hid (hu.mono Hb.out.size)
          have hb3 := Hb.out.trans (hb2.mono Hb.out.size)
          clear hu hb2
          go_wp2
          go_ret2
          exact ⟨_, rfl, Hu.out, hb3⟩
        · obtain rfl : k = n := by omega
          have hdr : ∀ W (ao' : Option Addr), Below w.heap.size w W → (ao' = none → ao = none) → Rds eStep W.heap.size W (.slice ao' 0 (cap - k)) (xs.drop k) := fun W ao' hW h0 => Rds.dropN (n := 0) ((Ha.out.below hW (Nat.le_refl _)).mono hW.size) (by have := Hn.out; omega) (fun hh => by have h1 := Hnil.out (h0 hh); omega)
          have hmap : Option.map (fun x => x.add (k * 9)) ao = none → ao = none := by cases ao with | none => exact fun h => h | some a => intro h; cases h
          have Hmap := Lib.hid hmap
          have Hdr := Lib.hid hdr
          clear hdr hmap
          go_enter Try.func5, Try.ntmps5
          go_wp2_with fail
          with_reducible refine (l15Flow_c 20 ⟨by decide, by decide⟩ Ha.out).mono ?_
          rw [Hf.out]
          rintro e w1 ⟨rfl, hb⟩
          have Hb := Lib.hid hb
          clear hb
          go_wp2_with fail
          with_reducible refine (l00In_yes _ _ _ _ (by omega) (by omega)).mono ?_
          rintro e w9 ⟨rfl, rfl⟩
          go_wp2_with fail
          with_reducible refine (sFlowUses_c (Hdr.out _ _ Hb.out Hmap.out)).mono ?_
          rintro e w2 ⟨u, rfl, hu, hb2⟩
          have Hu := Lib.hid (hu.mono Hb.out.size)
          have hb3 := Hb.out.trans (hb2.mono Hb.out.size)
          clear hu hb2
          go_wp2
          go_ret2
          exact ⟨_, rfl, Hu.out, hb3⟩
    · have hno : ¬ NTok xs a := fun h => hin ⟨h.2.1, by have := Hn.out; have := h.2.2; omega⟩
      have e1 : NTC xs a = 2 := if_neg hno
      have e2 : NTR xs a = [] := if_neg hno
      rw [e1, e2]
      have hin2 : a < 0 ∨ (n : Int) < a := by omega
      have Hin := Lib.hid hin2
      clear e1 e2 hno hin hin2
      go_enter Try.func5, Try.ntmps5
      go_wp2_with fail
      with_reducible refine (l15Flow_c 20 ⟨by decide, by decide⟩ Ha.out).mono ?_
      rw [Hf.out]
      rintro e w1 ⟨rfl, hb⟩
      go_wp2_with fail
      with_reducible refine (l00In_no _ _ _ _ Hin.out).mono ?_
      rintro e w9 ⟨rfl, rfl⟩
      go_wp2
      go_ret2
      exact ⟨_, rfl, Own.nil _ _ _ _, hb⟩
end Go.Proofs.Ytipldgbfenhknaa
