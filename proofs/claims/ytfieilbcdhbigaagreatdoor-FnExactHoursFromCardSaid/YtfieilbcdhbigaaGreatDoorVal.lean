/- The value of a text item of a card: the program's by its contract. No condition. -/
import Derived.Test.YtfieilbcdhbigaaGreatDoorTxt
import Derived.Test.YtfieilbcdhbigaaGreatDoorShAll
namespace Go.Proofs.YtfieilbcdhbigaaGreatDoor
open Go.ChangeShapes Go.WideShapes Go.ChangeAt Go.RowKit
set_option linter.unusedVariables false
set_option maxRecDepth 100000
theorem trimR_eq (l : List Int) (h : ∀ c ∈ l, 0 ≤ c ∧ c ≤ 255) : (⟨(Lib.trimRightB (toB l).data.toList 32).toArray⟩ : ByteArray) = toB (trimL l) := by
  have key : ∀ n (l : List Int), l.length = n → (∀ c ∈ l, 0 ≤ c ∧ c ≤ 255) → Lib.trimRightB (l.map fun c => c.toNat.toUInt8) 32 = (trimL l).map fun c => c.toNat.toUInt8 := by
    intro n
    induction n with
    | zero => intro l hl _; rw [List.eq_nil_of_length_eq_zero hl]; rfl
    | succ n ih =>
      intro l hl hb
      have hne : l ≠ [] := fun e => by rw [e] at hl; cases hl
      have hsp := (List.dropLast_concat_getLast hne).symm
      generalize l.dropLast = a at hsp
      generalize l.getLast hne = z at hsp
      subst hsp
      have hz := hb z (by simp)
      by_cases e : z = 32
      · subst e
        rw [trimL_snoc_blank, ← ih a (by simpa using hl) (fun c hc => hb c (by simp [hc]))]
        unfold Lib.trimRightB
        rw [List.map_append, List.reverse_append]
        rfl
      · rw [trimL_snoc_other e]
        unfold Lib.trimRightB
        rw [List.map_append, List.reverse_append]
        have e2 : (z.toNat.toUInt8 == 32) = false := by
          rw [beq_eq_false_iff_ne]
          intro h
          have h3 := congrArg UInt8.toNat h
          have h4 : (z.toNat.toUInt8).toNat = z.toNat := by simp; omega
          rw [h4] at h3
          exact e (by have : (32 : UInt8).toNat = 32 := rfl; omega)
        show (List.dropWhile _ (z.toNat.toUInt8 :: _)).reverse = _
        rw [List.dropWhile_cons, e2]
        simp
  unfold toB
  rw [key l.length l rfl h]
theorem hasField_c {c : List Int} {b off n cap : Nat} {w : World} {A : Nat} (x y : Int) (hx : 0 ≤ x) (hxy : x < y) (hy : y ≤ n) (ha : RdI A w (.slice (some ⟨b, off, none⟩) n cap) c) :
    Calls Tryz.prog 81 #[.agg #[.slice (some ⟨b, off, none⟩) n cap], .agg #[.int .i64 x, .int .i64 y]] w fun e w' => e = .returned (.bool (okTx (partC c x y))) ∧ Below w.heap.size w w' := by
  have hc := Rds.cap ha
  have hcap := hc.2.2 (by omega)
  obtain ⟨lo, rfl⟩ := Int.eq_ofNat_of_zero_le hx
  obtain ⟨hi, rfl⟩ := Int.eq_ofNat_of_zero_le (show 0 ≤ y by omega)
  have hb0 : Below w.heap.size w ((w.alloc (.cells #[.slice (some ⟨b, off, none⟩) n cap] 67)).alloc (.cells #[.int .i64 (lo : Int), .int .i64 (hi : Int)] 70)) := ((Below.refl _ _).alloc (Nat.le_refl _) _).alloc (by simp) _
  have ha1 := Rds.part (Rds.onn ha hb0) hx hxy (by omega)
  simp only [Int.toNat_natCast] at ha1
  have Ha := Lib.hid ha1
  have Hb0 := Lib.hid hb0
  have h1 : lo < hi := by omega
  have h2 : hi ≤ n := by omega
  have h3 : hi ≤ cap := by omega
  have h4 : ¬ cap = lo := by omega
  have h5 : lo ≤ hi := by omega
  clear hc ha hb0 ha1
  go_enter Tryz.func81, Tryz.ntmps81
  go_wp2_with fail
  with_reducible refine (hasCharacters_c Ha.out).mono ?_
  rintro e w1 ⟨rfl, rfl⟩
  go_wp2
  go_ret
  exact ⟨rfl, Hb0.out⟩
theorem itemValue_c {c : List Int} {b off n cap : Nat} {w : World} {A : Nat} (x : ItemT) (hk : x.kd = 1) (hx : 0 ≤ x.ff) (hxy : x.ff < x.ft) (hy : x.ft ≤ n) (hn : n ≤ 20) (ha : RdI A w (.slice (some ⟨b, off, none⟩) n cap) c) :
    Calls Tryz.prog 49 #[vItem x, .agg #[.slice (some ⟨b, off, none⟩) n cap]] w fun e w' => e = .returned (.tuple #[.string (whoV (partC c x.ff x.ft)), .bool (okTx (partC c x.ff x.ft))]) ∧ Below w.heap.size w w' := by
  have hc := Rds.cap ha
  have hcap := hc.2.2 (by omega)
  have hb0 : Below w.heap.size w ((w.alloc (.cells #[.string x.nm, .int .i64 x.kd, .int .i64 x.ff, .int .i64 x.ft] 72)).alloc (.cells #[.slice (some ⟨b, off, none⟩) n cap] 67)) := ((Below.refl _ _).alloc (Nat.le_refl _) _).alloc (by simp) _
  have hX : Box ((w.alloc (.cells #[.string x.nm, .int .i64 x.kd, .int .i64 x.ff, .int .i64 x.ft] 72)).alloc (.cells #[.slice (some ⟨b, off, none⟩) n cap] 67)) w.heap.size [.string x.nm, .int .i64 x.kd, .int .i64 x.ff, .int .i64 x.ft] := (Box.new w [.string x.nm, .int .i64 x.kd, .int .i64 x.ff, .int .i64 x.ft] 72).alloc _
  have hC : Box ((w.alloc (.cells #[.string x.nm, .int .i64 x.kd, .int .i64 x.ff, .int .i64 x.ft] 72)).alloc (.cells #[.slice (some ⟨b, off, none⟩) n cap] 67)) (w.heap.size + 1) [.slice (some ⟨b, off, none⟩) n cap] := by
    have h := Box.new (w.alloc (.cells #[.string x.nm, .int .i64 x.kd, .int .i64 x.ff, .int .i64 x.ft] 72)) [.slice (some ⟨b, off, none⟩) n cap] 67
    simpa using h
  have q2 : (x.kd == 2) = false := by rw [hk]; decide
  have hnc : n ≤ cap := by omega
  have ha0 := Rds.onn ha hb0
  have Ha := Lib.hid ha0
  have Hb0 := Lib.hid hb0
  have HX := Lib.hid hX
  have HC := Lib.hid hC
  have Hr := Lib.hid (And.intro hx (And.intro hxy hy))
  clear hc ha ha0 hb0 hX hC hk hx hxy hy
  go_enter Tryz.func49, Tryz.ntmps49
  go_wp2_with fail
  with_reducible refine (hasField_c x.ff x.ft Hr.out.1 Hr.out.2.1 Hr.out.2.2 Ha.out).mono ?_
  rintro e w1 ⟨rfl, hb⟩
  have HX1 := Lib.hid (HX.out.on hb)
  have HC1 := Lib.hid (HC.out.on hb)
  have Hb1 := Lib.hid (Hb0.out.trans (hb.mono Hb0.out.size))
  have Ha1 := Lib.hid (Rds.onn Ha.out hb)
  clear hb Ha Hb0 HX HC
  cases ho : okTx (partC c x.ff x.ft) with
  | false =>
    have E := Lib.hid (show whoV (partC c x.ff x.ft) = ⟨#[]⟩ by unfold whoV; rw [if_neg (by rw [ho]; decide)])
    have Ho := Lib.hid ho
    clear ho
    go_wp2
    go_ret2
    rw [E.out, Ho.out]
    exact ⟨rfl, Hb1.out⟩
  | true =>
    have Ho := Lib.hid ho
    have E := Lib.hid (show whoV (partC c x.ff x.ft) = toB (trimL (txI (partC c x.ff x.ft))) by unfold whoV; rw [if_pos ho])
    obtain ⟨lo, hlo⟩ := Int.eq_ofNat_of_zero_le Hr.out.1
    obtain ⟨hi, hhi⟩ := Int.eq_ofNat_of_zero_le (show 0 ≤ x.ft by have := Hr.out; omega)
    have hpt := Rds.part Ha1.out Hr.out.1 Hr.out.2.1 Hr.out.2.2
    have hpl : (partC c x.ff x.ft).length ≤ 1000 := by
      unfold partC
      rw [List.length_drop, List.length_take]
      have := Hr.out
      omega
    have c0 := HC1.out.cell 0 _ rfl
    have x2 := HX1.out.cell 2 _ rfl
    have x3 := HX1.out.cell 3 _ rfl
    rw [hlo] at x2
    rw [hhi] at x3
    have hz : x.ff.toNat = lo ∧ x.ft.toNat = hi := by omega
    rw [hz.1, hz.2] at hpt
    have h1 : lo < hi := by have := Hr.out; omega
    have h2 : hi ≤ n := by have := Hr.out; omega
    have h3 : hi ≤ cap := by omega
    have h4 : ¬ cap = lo := by omega
    have h5 : lo ≤ hi := by omega
    have Hpt := Lib.hid hpt
    have Hpl := Lib.hid hpl
    have Hbd := Lib.hid (txI_bd ho)
    clear ho hlo hhi hpt hpl hz
    go_wp2_with fail
    with_reducible refine (textOf_c Ho.out Hpl.out Hpt.out).mono ?_
    rintro e w2 ⟨rfl, hb⟩
    have Hb2 := Lib.hid (Hb1.out.trans (hb.mono Hb1.out.size))
    clear hb c0 x2 x3
    have hts : (toB (txI (partC c x.ff x.ft))).size ≤ 9223372036854775807 := by rw [toB_size]; unfold txI; rw [List.length_map]; have := Hpl.out; omega
    have Hts := Lib.hid hts
    have Htr := Lib.hid (trimR_eq _ Hbd.out)
    clear hts
    generalize toB (txI (partC c x.ff x.ft)) = T at Hts Htr ⊢
    go_wp2_with fail
    with_reducible refine (Tryz.strings_TrimRight_one T 32 (by decide) _ Hts.out).mono ?_
    rintro e w3 ⟨rfl, rfl⟩
    rw [Htr.out]
    go_wp2
    go_ret2
    rw [E.out, Ho.out]
    exact ⟨rfl, Hb2.out⟩
end Go.Proofs.YtfieilbcdhbigaaGreatDoor
