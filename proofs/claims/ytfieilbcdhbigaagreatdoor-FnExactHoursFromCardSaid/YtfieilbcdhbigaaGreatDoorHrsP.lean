/- The hours on cards: in plain words. No condition. -/
import Derived.Test.YtfieilbcdhbigaaGreatDoorLayV
import Derived.Test.YtfieilbcdhbigaaGreatDoorRolP
import Derived.Test.YtfieilbcdhbigaaGreatDoorCard
namespace Go.Proofs.YtfieilbcdhbigaaGreatDoor
open Go.ChangeShapes Go.WideShapes Go.ChangeAt Go.RowKit
set_option linter.unusedVariables false
set_option maxRecDepth 100000
/-- the columns of a field -/
def partC (c : List Int) (a b : Int) : List Int := (c.take b.toNat).drop a.toNat
theorem partC_len {c : List Int} {a b w : Int} (hf : fieldP a b w) (hw : (c.length : Int) = w) : (partC c a b).length = (b - a).toNat := by
  obtain ⟨h1, h2, h3⟩ := hf
  unfold partC
  rw [List.length_drop, List.length_take]; omega
theorem partC_mem {c : List Int} {a b : Int} {m : Int} (h : m ∈ partC c a b) : m ∈ c := List.mem_of_mem_take (List.mem_of_mem_drop h)
theorem card_masks {c : List Int} (h : cardB c = true) : ∀ m ∈ c, 0 ≤ m ∧ m ≤ 4095 := by
  intro m hm
  unfold cardB at h
  rw [Bool.and_eq_true] at h
  have h1 : c.any badHole = false := by simpa using h.2
  have h2 := List.any_eq_false.1 h1 m hm
  unfold badHole at h2
  simpa using h2
theorem card_len {c : List Int} (h : cardB c = true) : 1 ≤ c.length ∧ c.length ≤ 20 := by
  unfold cardB at h
  rw [Bool.and_eq_true, decide_eq_true_eq] at h
  exact h.1
abbrev whoT : ByteArray := ⟨#[119, 104, 111]⟩
abbrev hrsT : ByteArray := ⟨#[104, 111, 117, 114, 115]⟩
def itAt (xs : List ItemT) (nm : ByteArray) : ItemT := xs.getD (idxI xs nm).toNat zItem
theorem itAt_of {xs : List ItemT} {nm : ByteArray} {k : Nat} {x : ItemT} (h : idxI xs nm = k) (hx : xs[k]? = some x) : itAt xs nm = x := by
  unfold itAt
  rw [h, Int.toNat_natCast, List.getD_eq_getElem?_getD, hx]; rfl
/-- the code of a layout and cards of hours -/
def payC (ok : Bool) (w : Int) (xs : List ItemT) (d : List (List Int)) : Int :=
  if layB w xs = true ∧ ok = true ∧ deckB d = true then
    (if d.length = 0 ∨ ((d.headD []).length : Int) = w then
      (if ¬ idxI xs whoT < 0 ∧ ¬ idxI xs hrsT < 0 then (if (itAt xs whoT).kd = 1 ∧ (itAt xs hrsT).kd = 2 then 0 else 6) else 3)
    else 2)
  else 1
structure PayOk (ok : Bool) (w : Int) (xs : List ItemT) (d : List (List Int)) : Prop where
  lay : layB w xs = true
  ok : ok = true
  deck : deckB d = true
  wid : d.length = 0 ∨ ((d.headD []).length : Int) = w
  who : ¬ idxI xs whoT < 0
  hrs : ¬ idxI xs hrsT < 0
  kw : (itAt xs whoT).kd = 1
  kh : (itAt xs hrsT).kd = 2
theorem payC_ok {ok : Bool} {w : Int} {xs : List ItemT} {d : List (List Int)} (h : payC ok w xs d = 0) : PayOk ok w xs d := by
  unfold payC at h
  by_cases h1 : layB w xs = true ∧ ok = true ∧ deckB d = true
  · rw [if_pos h1] at h
    by_cases h2 : d.length = 0 ∨ ((d.headD []).length : Int) = w
    · rw [if_pos h2] at h
      by_cases h3 : ¬ idxI xs whoT < 0 ∧ ¬ idxI xs hrsT < 0
      · rw [if_pos h3] at h
        by_cases h4 : (itAt xs whoT).kd = 1 ∧ (itAt xs hrsT).kd = 2
        · exact ⟨h1.1, h1.2.1, h1.2.2, h2, h3.1, h3.2, h4.1, h4.2⟩
        · rw [if_neg h4] at h; cases h
      · rw [if_neg h3] at h; cases h
    · rw [if_neg h2] at h; cases h
  · rw [if_neg h1] at h; cases h
/-- a card read behind others: the sum so far; nothing if a card says nothing -/
def hrS (x y : ItemT) (nm : ByteArray) : Option Int → List Int → Option Int
  | none, _ => none
  | some s, c => if okTx (partC c x.ff x.ft) = true then
      (if whoV (partC c x.ff x.ft) = capB nm then (if (numR (partC c y.ff y.ft)).2 = true then some (s + (numR (partC c y.ff y.ft)).1) else none) else some s)
    else none
def hrF (x y : ItemT) (nm : ByteArray) (d : List (List Int)) : Option Int := d.foldl (hrS x y nm) (some 0)
theorem hrF_snoc {x y : ItemT} {nm : ByteArray} {d : List (List Int)} {k : Nat} {c : List Int} (h : d[k]? = some c) : hrF x y nm (d.take (k + 1)) = hrS x y nm (hrF x y nm (d.take k)) c := by
  unfold hrF; rw [take_snoc h, List.foldl_append]; rfl
theorem hrF_none {x y : ItemT} {nm : ByteArray} {d : List (List Int)} {k : Nat} (h : hrF x y nm (d.take k) = none) : hrF x y nm d = none := by
  have hd : d = d.take k ++ d.drop k := (List.take_append_drop k d).symm
  unfold hrF at h ⊢
  rw [hd, List.foldl_append, h]
  generalize d.drop k = l
  induction l with
  | nil => rfl
  | cons a l ih => exact ih
/-- how great a number in columns is -/
theorem numG_bd : ∀ (h : List Int) (n : Int) (b : Bool), numG h = some (n, b) → 0 ≤ n ∧ n < 10 ^ h.length := by
  intro h
  have key : ∀ (l : List Int) (n0 : Int) (b0 : Bool) (e : Nat), 0 ≤ n0 → n0 < 10 ^ e → ∀ n b, l.foldl numS (some (n0, b0)) = some (n, b) → 0 ≤ n ∧ n < 10 ^ (e + l.length) := by
    intro l
    induction l with
    | nil => intro n0 b0 e h0 h1 n b hh; injection hh with hh; injection hh with h2 h3; subst h2; exact ⟨h0, by simpa using h1⟩
    | cons x l ih =>
      intro n0 b0 e h0 h1 n b hh
      change l.foldl numS (if x = 0 ∧ b0 = false then some (n0, b0) else if digI x < 0 then none else some (10 * n0 + digI x, true)) = _ at hh
      have hp : (10 : Int) ^ (e + 1) = 10 * 10 ^ e := by rw [Int.pow_succ]; omega
      have hle : (e + (x :: l).length) = (e + 1 + l.length) := by simp; omega
      rw [hle]
      by_cases hx : x = 0 ∧ b0 = false
      · rw [if_pos hx] at hh
        exact ih n0 b0 (e + 1) h0 (by omega) n b hh
      · rw [if_neg hx] at hh
        by_cases hd : digI x < 0
        · rw [if_pos hd] at hh
          exfalso
          have : ∀ l : List Int, l.foldl numS none = none := by intro l; induction l with | nil => rfl | cons a l ih => exact ih
          rw [this] at hh; cases hh
        · rw [if_neg hd] at hh
          have := dig_bd x
          exact ih _ true (e + 1) (by omega) (by omega) n b hh
  intro n b hh
  have := key h 0 false 0 (by decide) (by decide) n b hh
  simpa using this
theorem numR_bd (h : List Int) (hl : h.length ≤ 12) : -1000000000000 ≤ (numR h).1 ∧ (numR h).1 ≤ 1000000000000 := by
  unfold numR
  cases hg : h.getLast? with
  | none => simp
  | some l =>
    cases hn : numG h.dropLast with
    | none => simp
    | some p =>
      obtain ⟨n, b⟩ := p
      have h1 := numG_bd _ n b hn
      have hlen : h.dropLast.length ≤ 11 := by rw [List.length_dropLast]; omega
      have h2 : (10 : Int) ^ h.dropLast.length ≤ 10 ^ 11 := by
        have hp : (10 : Nat) ^ h.dropLast.length ≤ 10 ^ 11 := Nat.pow_le_pow_right (by decide) hlen
        exact_mod_cast hp
      have h3 : (10 : Int) ^ 11 = 100000000000 := by decide
      have d1 := dig_bd (l - 2)
      have d2 := dig_bd l
      simp only
      split
      · split <;> simp only <;> omega
      · split
        · simp only; omega
        · split <;> simp only <;> omega
theorem hrF_bd {x y : ItemT} {nm : ByteArray} : ∀ {d : List (List Int)} {s : Int}, (∀ c ∈ d, (partC c y.ff y.ft).length ≤ 12) → hrF x y nm d = some s → -1000000000000 * (d.length : Int) ≤ s ∧ s ≤ 1000000000000 * (d.length : Int) := by
  intro d
  have key : ∀ (l : List (List Int)) (s0 s : Int) (e : Nat), (∀ c ∈ l, (partC c y.ff y.ft).length ≤ 12) → -1000000000000 * (e : Int) ≤ s0 → s0 ≤ 1000000000000 * (e : Int) → l.foldl (hrS x y nm) (some s0) = some s → -1000000000000 * ((e + l.length : Nat) : Int) ≤ s ∧ s ≤ 1000000000000 * ((e + l.length : Nat) : Int) := by
    intro l
    induction l with
    | nil => intro s0 s e _ h1 h2 hh; injection hh with hh; subst hh; exact ⟨by simpa using h1, by simpa using h2⟩
    | cons c l ih =>
      intro s0 s e hc h1 h2 hh
      have hnone : ∀ l : List (List Int), l.foldl (hrS x y nm) none = none := by intro l; induction l with | nil => rfl | cons a l ih => exact ih
      have hle : e + (c :: l).length = e + 1 + l.length := by simp; omega
      rw [hle]
      have hb := numR_bd _ (hc c (List.mem_cons_self ..))
      change l.foldl (hrS x y nm) (if okTx (partC c x.ff x.ft) = true then (if whoV (partC c x.ff x.ft) = capB nm then (if (numR (partC c y.ff y.ft)).2 = true then some (s0 + (numR (partC c y.ff y.ft)).1) else none) else some s0) else none) = _ at hh
      by_cases g1 : okTx (partC c x.ff x.ft) = true
      · rw [if_pos g1] at hh
        by_cases g2 : whoV (partC c x.ff x.ft) = capB nm
        · rw [if_pos g2] at hh
          by_cases g3 : (numR (partC c y.ff y.ft)).2 = true
          · rw [if_pos g3] at hh
            exact ih _ s (e + 1) (fun z hz => hc z (List.mem_cons_of_mem _ hz)) (by omega) (by omega) hh
          · rw [if_neg g3, hnone] at hh; cases hh
        · rw [if_neg g2] at hh
          exact ih _ s (e + 1) (fun z hz => hc z (List.mem_cons_of_mem _ hz)) (by omega) (by omega) hh
      · rw [if_neg g1, hnone] at hh; cases hh
  intro s hc hh
  have := key d 0 s 0 hc (by decide) (by decide) hh
  simpa using this
end Go.Proofs.YtfieilbcdhbigaaGreatDoor
