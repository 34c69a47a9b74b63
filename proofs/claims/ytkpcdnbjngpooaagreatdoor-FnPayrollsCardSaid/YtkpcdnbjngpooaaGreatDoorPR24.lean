/- The hours on cards: in plain words. The items of cards of hours: the program's, each by its contract. The texts of columns: the program's, each by its contract. The value of a text item of a card: the program's by its contract. The number in columns: the program's, by its contract. The items of cards of hours, with their codes: the reference's, each by its contract. What columns say: the reference's characters and texts, each by its contract. The value of a text item of a card: the reference's by its contract. The number in columns: the reference's, by its contract. No condition. -/
import Derived.Test.YtkpcdnbjngpooaaGreatDoorPR14
import Derived.Test.YtkpcdnbjngpooaaGreatDoorPR21
import Derived.Test.YtkpcdnbjngpooaaGreatDoorPR3
import Derived.Test.YtkpcdnbjngpooaaGreatDoorPR12
import Derived.Test.YtkpcdnbjngpooaaGreatDoorPR10
namespace Go.Proofs.YtkpcdnbjngpooaaGreatDoor
open Go.ChangeShapes Go.WideShapes Go.ChangeAt Go.RowKit
set_option linter.unusedVariables false
set_option maxRecDepth 100000
/-- the columns of a field -/
def partC (c : List Int) (a b : Int) : List Int := (c.take b.toNat).drop a.toNat
theorem partC_len {c : List Int} {a b w : Int} (hf : fieldP a b w) (hw : (c.length : Int) = w) : (partC c a b).length = (b - a).toNat := by
  obtain ⟨h1, h2, h3⟩ := hf
  unfold partC
  rw [List.length_drop, List.length_take]; omega
theorem partC_mem {c : List Int} {a b : Int} {m : Int} (h : m ∈ partC c a b) : m ∈ c := List.mem_of_mem_take (List.mem_of_mem_drop h)
theorem card_masks {c : List Int} (h : cardB c = true) : ∀ m ∈ c, 0 ≤ m ∧ m ≤ 4095 := by
  intro m hm
  unfold cardB at h
  rw [Bool.and_eq_true] at h
  have h1 : c.any badHole = false := by simpa using h.2
  have h2 := List.any_eq_false.1 h1 m hm
  unfold badHole at h2
  simpa using h2
theorem card_len {c : List Int} (h : cardB c = true) : 1 ≤ c.length ∧ c.length ≤ 20 := by
  unfold cardB at h
  rw [Bool.and_eq_true, decide_eq_true_eq] at h
  exact h.1
abbrev whoT : ByteArray := ⟨#[119, 104, 111]⟩
abbrev hrsT : ByteArray := ⟨#[104, 111, 117, 114, 115]⟩
def itAt (xs : List ItemT) (nm : ByteArray) : ItemT := xs.getD (idxI xs nm).toNat zItem
theorem itAt_of {xs : List ItemT} {nm : ByteArray} {k : Nat} {x : ItemT} (h : idxI xs nm = k) (hx : xs[k]? = some x) : itAt xs nm = x := by
  unfold itAt
  rw [h, Int.toNat_natCast, List.getD_eq_getElem?_getD, hx]; rfl
/-- the code of a layout and cards of hours -/
def payC (ok : Bool) (w : Int) (xs : List ItemT) (d : List (List Int)) : Int :=
  if layB w xs = true ∧ ok = true ∧ deckB d = true then
    (if d.length = 0 ∨ ((d.headD []).length : Int) = w then
      (if ¬ idxI xs whoT < 0 ∧ ¬ idxI xs hrsT < 0 then (if (itAt xs whoT).kd = 1 ∧ (itAt xs hrsT).kd = 2 then 0 else 6) else 3)
    else 2)
  else 1
structure PayOk (ok : Bool) (w : Int) (xs : List ItemT) (d : List (List Int)) : Prop where
  lay : layB w xs = true
  ok : ok = true
  deck : deckB d = true
  wid : d.length = 0 ∨ ((d.headD []).length : Int) = w
  who : ¬ idxI xs whoT < 0
  hrs : ¬ idxI xs hrsT < 0
  kw : (itAt xs whoT).kd = 1
  kh : (itAt xs hrsT).kd = 2
theorem payC_ok {ok : Bool} {w : Int} {xs : List ItemT} {d : List (List Int)} (h : payC ok w xs d = 0) : PayOk ok w xs d := by
  unfold payC at h
  by_cases h1 : layB w xs = true ∧ ok = true ∧ deckB d = true
  · rw [if_pos h1] at h
    by_cases h2 : d.length = 0 ∨ ((d.headD []).length : Int) = w
    · rw [if_pos h2] at h
      by_cases h3 : ¬ idxI xs whoT < 0 ∧ ¬ idxI xs hrsT < 0
      · rw [if_pos h3] at h
        by_cases h4 : (itAt xs whoT).kd = 1 ∧ (itAt xs hrsT).kd = 2
        · exact ⟨h1.1, h1.2.1, h1.2.2, h2, h3.1, h3.2, h4.1, h4.2⟩
        · rw [if_neg h4] at h; cases h
      · rw [if_neg h3] at h; cases h
    · rw [if_neg h2] at h; cases h
  · rw [if_neg h1] at h; cases h
/-- a card read behind others: the sum so far; nothing if a card says nothing -/
def hrS (x y : ItemT) (nm : ByteArray) : Option Int → List Int → Option Int
  | none, _ => none
  | some s, c => if okTx (partC c x.ff x.ft) = true then
      (if whoV (partC c x.ff x.ft) = capB nm then (if (numR (partC c y.ff y.ft)).2 = true then some (s + (numR (partC c y.ff y.ft)).1) else none) else some s)
    else none
def hrF (x y : ItemT) (nm : ByteArray) (d : List (List Int)) : Option Int := d.foldl (hrS x y nm) (some 0)
theorem hrF_snoc {x y : ItemT} {nm : ByteArray} {d : List (List Int)} {k : Nat} {c : List Int} (h : d[k]? = some c) : hrF x y nm (d.take (k + 1)) = hrS x y nm (hrF x y nm (d.take k)) c := by
  unfold hrF; rw [take_snoc h, List.foldl_append]; rfl
theorem hrF_none {x y : ItemT} {nm : ByteArray} {d : List (List Int)} {k : Nat} (h : hrF x y nm (d.take k) = none) : hrF x y nm d = none := by
  have hd : d = d.take k ++ d.drop k := (List.take_append_drop k d).symm
  unfold hrF at h ⊢
  rw [hd, List.foldl_append, h]
  generalize d.drop k = l
  induction l with
  | nil => rfl
  | cons a l ih => exact ih
/-- how great a number in columns is -/
theorem numG_bd : ∀ (h : List Int) (n : Int) (b : Bool), numG h = some (n, b) → 0 ≤ n ∧ n < 10 ^ h.length := by
  intro h
  have key : ∀ (l : List Int) (n0 : Int) (b0 : Bool) (e : Nat), 0 ≤ n0 → n0 < 10 ^ e → ∀ n b, l.foldl numS (some (n0, b0)) = some (n, b) → 0 ≤ n ∧ n < 10 ^ (e + l.length) := by
    intro l
    induction l with
    | nil => intro n0 b0 e h0 h1 n b hh; injection hh with hh; injection hh with h2 h3; subst h2; exact ⟨h0, by simpa using h1⟩
    | cons x l ih =>
      intro n0 b0 e h0 h1 n b hh
      change l.foldl numS (if x = 0 ∧ b0 = false then some (n0, b0) else if digI x < 0 then none else some (10 * n0 + digI x, true)) = _ at hh
      have hp : (10 : Int) ^ (e + 1) = 10 * 10 ^ e := by rw [Int.pow_succ]; omega
      have hle : (e + (x :: l).length) = (e + 1 + l.length) := by simp; omega
      rw [hle]
      by_cases hx : x = 0 ∧ b0 = false
      · rw [if_pos hx] at hh
        exact ih n0 b0 (e + 1) h0 (by omega) n b hh
      · rw [if_neg hx] at hh
        by_cases hd : digI x < 0
        · rw [if_pos hd] at hh
          exfalso
          have : ∀ l : List Int, l.foldl numS none = none := by intro l; induction l with | nil => rfl | cons a l ih => exact ih
          rw [this] at hh; cases hh
        · rw [if_neg hd] at hh
          have := dig_bd x
          exact ih _ true (e + 1) (by omega) (by omega) n b hh
  intro n b hh
  have := key h 0 false 0 (by decide) (by decide) n b hh
  simpa using this
theorem numR_bd (h : List Int) (hl : h.length ≤ 12) : -1000000000000 ≤ (numR h).1 ∧ (numR h).1 ≤ 1000000000000 := by
  unfold numR
  cases hg : h.getLast? with
  | none => simp
  | some l =>
    cases hn : numG h.dropLast with
    | none => simp
    | some p =>
      obtain ⟨n, b⟩ := p
      have h1 := numG_bd _ n b hn
      have hlen : h.dropLast.length ≤ 11 := by rw [List.length_dropLast]; omega
      have h2 : (10 : Int) ^ h.dropLast.length ≤ 10 ^ 11 := by
        have hp : (10 : Nat) ^ h.dropLast.length ≤ 10 ^ 11 := Nat.pow_le_pow_right (by decide) hlen
        exact_mod_cast hp
      have h3 : (10 : Int) ^ 11 = 100000000000 := by decide
      have d1 := dig_bd (l - 2)
      have d2 := dig_bd l
      simp only
      split
      · split <;> simp only <;> omega
      · split
        · simp only; omega
        · split <;> simp only <;> omega
theorem hrF_bd {x y : ItemT} {nm : ByteArray} : ∀ {d : List (List Int)} {s : Int}, (∀ c ∈ d, (partC c y.ff y.ft).length ≤ 12) → hrF x y nm d = some s → -1000000000000 * (d.length : Int) ≤ s ∧ s ≤ 1000000000000 * (d.length : Int) := by
  intro d
  have key : ∀ (l : List (List Int)) (s0 s : Int) (e : Nat), (∀ c ∈ l, (partC c y.ff y.ft).length ≤ 12) → -1000000000000 * (e : Int) ≤ s0 → s0 ≤ 1000000000000 * (e : Int) → l.foldl (hrS x y nm) (some s0) = some s → -1000000000000 * ((e + l.length : Nat) : Int) ≤ s ∧ s ≤ 1000000000000 * ((e + l.length : Nat) : Int) := by
    intro l
    induction l with
    | nil => intro s0 s e _ h1 h2 hh; injection hh with hh; subst hh; exact ⟨by simpa using h1, by simpa using h2⟩
    | cons c l ih =>
      intro s0 s e hc h1 h2 hh
      have hnone : ∀ l : List (List Int), l.foldl (hrS x y nm) none = none := by intro l; induction l with | nil => rfl | cons a l ih => exact ih
      have hle : e + (c :: l).length = e + 1 + l.length := by simp; omega
      rw [hle]
      have hb := numR_bd _ (hc c (List.mem_cons_self ..))
      change l.foldl (hrS x y nm) (if okTx (partC c x.ff x.ft) = true then (if whoV (partC c x.ff x.ft) = capB nm then (if (numR (partC c y.ff y.ft)).2 = true then some (s0 + (numR (partC c y.ff y.ft)).1) else none) else some s0) else none) = _ at hh
      by_cases g1 : okTx (partC c x.ff x.ft) = true
      · rw [if_pos g1] at hh
        by_cases g2 : whoV (partC c x.ff x.ft) = capB nm
        · rw [if_pos g2] at hh
          by_cases g3 : (numR (partC c y.ff y.ft)).2 = true
          · rw [if_pos g3] at hh
            exact ih _ s (e + 1) (fun z hz => hc z (List.mem_cons_of_mem _ hz)) (by omega) (by omega) hh
          · rw [if_neg g3, hnone] at hh; cases hh
        · rw [if_neg g2] at hh
          exact ih _ s (e + 1) (fun z hz => hc z (List.mem_cons_of_mem _ hz)) (by omega) (by omega) hh
      · rw [if_neg g1, hnone] at hh; cases hh
  intro s hc hh
  have := key d 0 s 0 hc (by decide) (by decide) hh
  simpa using this
end Go.Proofs.YtkpcdnbjngpooaaGreatDoor
namespace Go.Proofs.YtkpcdnbjngpooaaGreatDoor
open Go.ChangeShapes Go.WideShapes Go.ChangeAt Go.RowKit Go.Sort
set_option linter.unusedVariables false
set_option maxRecDepth 100000
theorem box3 (w : World) (A B C : List Value) (ta tb tc : TypeId) : Box (((w.alloc (.cells A.toArray ta)).alloc (.cells B.toArray tb)).alloc (.cells C.toArray tc)) w.heap.size A ∧ Box (((w.alloc (.cells A.toArray ta)).alloc (.cells B.toArray tb)).alloc (.cells C.toArray tc)) (w.heap.size + 1) B ∧ Box (((w.alloc (.cells A.toArray ta)).alloc (.cells B.toArray tb)).alloc (.cells C.toArray tc)) (w.heap.size + 1 + 1) C ∧ Below w.heap.size w (((w.alloc (.cells A.toArray ta)).alloc (.cells B.toArray tb)).alloc (.cells C.toArray tc)) := by
  have s1 : (w.alloc (.cells A.toArray ta)).heap.size = w.heap.size + 1 := by simp
  have s2 : ((w.alloc (.cells A.toArray ta)).alloc (.cells B.toArray tb)).heap.size = w.heap.size + 1 + 1 := by simp
  refine ⟨((Box.new w A ta).alloc _).alloc _, ?_, ?_, (((Below.refl _ _).alloc (Nat.le_refl _) _).alloc (by simp) _).alloc (by simp; omega) _⟩
  · have h := (Box.new (w.alloc (.cells A.toArray ta)) B tb).alloc (.cells C.toArray tc)
    rw [s1] at h; exact h
  · have h := Box.new ((w.alloc (.cells A.toArray ta)).alloc (.cells B.toArray tb)) C tc
    rw [s2] at h; exact h
theorem clo_Idx (nm : ByteArray) (y : ItemT) (w : World) {c : Nat} (hcc : w.cell? ⟨c, 0, none⟩ = some (.string nm)) (hlt : c < w.heap.size) :
    Calls Tryz.prog 115 #[vItem y, .pointer (some ⟨c, 0, none⟩)] w fun e w' => e = .returned (.bool (y.nm.toList == nm.toList)) ∧ Below w.heap.size w w' := by
  have hne : c ≠ w.heap.size := by omega
  go_enter Tryz.func115, Tryz.ntmps115
  go_wp2
  go_ret
  exact ⟨ret_bool (by simp), (Below.refl _ _).alloc (Nat.le_refl _) _⟩
theorem indexIdx_c {xs : List ItemT} {v : Value} {w : World} {A : Nat} (nm : ByteArray) {c : Nat} (hcc : w.cell? ⟨c, 0, none⟩ = some (.string nm)) (hlc : c < w.heap.size) (ha : RdItemS A w v xs) :
    Calls Tryz.prog 114 #[v, .func (.func 115) #[] #[.pointer (some ⟨c, 0, none⟩)]] w fun e w' => e = .returned (.int .i64 (idxI xs nm)) ∧ Below w.heap.size w w' := by
  have hle := ha.le
  obtain ⟨ao, cap, rfl, ho⟩ := eItem_open ha
  obtain ⟨n, hn⟩ : ∃ n, n = xs.length := ⟨_, rfl⟩
  rw [← hn]
  have Hn := Lib.hid hn
  have Ho := Lib.hid ho
  have Hcc := Lib.hid hcc
  have hle' : n ≤ 9223372036854775807 := by omega
  clear ho hn hle ha hcc
  go_enter Tryz.func114, Tryz.ntmps114
  go_wp2
  go_loopw [8] (fun i wr => ∃ k : Nat, k ≤ n ∧ i = .int .i64 k ∧ Hid ((xs.take k).any (fun x => x.nm.toList == nm.toList) = false) ∧ Below w.heap.size w wr) (fun i _ => n - (intOf i).toNat)
  case atStart => exact ⟨0, Nat.zero_le _, rfl, rfl, Below.refl _ _⟩
  case round =>
    obtain ⟨k, hk, rfl, hp, hbb⟩ := hrel
    by_cases hkn : k < n
    · obtain ⟨b, off, rfl, hlt, hc⟩ := Ho.out (by have := Hn.out; omega)
      obtain ⟨y, hy, ⟨c0, c1, c2, c3⟩, bx⟩ := hc k (by have := Hn.out; omega)
      have Hy := Lib.hid hy
      have d0 := (hbb.cell (p := ⟨b, off + k * 4, none⟩) hlt.2).trans c0
      have d1 := (hbb.cell (p := ⟨b, off + k * 4 + 1, none⟩) hlt.2).trans c1
      have d2 := (hbb.cell (p := ⟨b, off + k * 4 + 2, none⟩) hlt.2).trans c2
      have d3 := (hbb.cell (p := ⟨b, off + k * 4 + 3, none⟩) hlt.2).trans c3
      have hcw := (hbb.cell (p := ⟨c, 0, none⟩) hlc).trans Hcc.out
      have hlw : c < wr.heap.size := by have := hbb.size; omega
      have Hcw := Lib.hid hcw
      clear hcw hy hc bx c0 c1 c2 c3
      go_wp2_with fail
      with_reducible refine (clo_Idx nm y wr Hcw.out hlw).mono ?_
      cases hq : (y.nm.toList == nm.toList) with
      | true =>
        have Hq := Lib.hid hq
        clear hq
        rintro e w1 ⟨rfl, hb1⟩
        have hb2 := hbb.trans (hb1.mono hbb.size)
        go_wp2
        go_ret
        exact ⟨ret_int (idx_found Hy.out Hq.out hp.out).symm, hb2⟩
      | false =>
        have Hq := Lib.hid hq
        clear hq
        rintro e w1 ⟨rfl, hb1⟩
        have hb2 := hbb.trans (hb1.mono hbb.size)
        clear d0 d1 d2 d3 hb1 hbb
        go_wp2
        go_roundw
        case rel => exact ⟨k + 1, by omega, by go_num, by show _ = false; rw [take_snoc Hy.out, List.any_append, hp.out]; simpa using Hq.out, hb2⟩
        case measure => simp [intOf]; omega
    · go_wp2
      go_ret
      have hq := hp.out
      rw [List.take_of_length_le (by have := Hn.out; omega)] at hq
      exact ⟨ret_int (idx_none hq).symm, hbb⟩
theorem itemIndex_c {xs : List ItemT} {v : Value} {w : World} {A : Nat} (wd : Int) (nm : ByteArray) (ha : RdItemS A w v xs) :
    Calls Tryz.prog 84 #[.agg #[.int .i64 wd, v], .string nm] w fun e w' => e = .returned (.int .i64 (idxI xs nm)) ∧ Below w.heap.size w w' := by
  have hb0 : Below w.heap.size w ((w.alloc (.cells #[.int .i64 wd, v] 27)).alloc (.cells #[.string nm] 9)) := ((Below.refl _ _).alloc (Nat.le_refl _) _).alloc (by simp) _
  have hN : Box ((w.alloc (.cells #[.int .i64 wd, v] 27)).alloc (.cells #[.string nm] 9)) (w.heap.size + 1) [.string nm] := by
    have h := Box.new (w.alloc (.cells #[.int .i64 wd, v] 27)) [.string nm] 9
    simpa using h
  have Hb0 := Lib.hid hb0
  have HN := Lib.hid hN
  have Ha0 := Lib.hid (Rds.onn ha hb0)
  obtain ⟨ao, cap, rfl⟩ := ha.shape
  clear ha hb0 hN
  go_enter Tryz.func84, Tryz.ntmps84
  go_wp2_with fail
  with_reducible refine (indexIdx_c nm (HN.out.cell 0 _ rfl) HN.out.lt Ha0.out).mono ?_
  rintro e w1 ⟨rfl, hb1⟩
  have hb2 := Hb0.out.trans (hb1.mono Hb0.out.size)
  clear hb1
  go_wp2
  go_ret
  exact ⟨rfl, hb2⟩
def layC (ok : Bool) (w : Int) (xs : List ItemT) (d : List (List Int)) : Int := if layB w xs = true ∧ ok = true then (if d.length = 0 ∨ ((d.headD []).length : Int) = w then 0 else 2) else 1
theorem layoutCode_c {xs : List ItemT} {v u : Value} {w : World} {A B : Nat} {d : List (List Int)} (wd : Int) (ok : Bool) (ha : RdItemS A w v xs) (hd : RdInt64SS B w u d) :
    Calls Tryz.prog 50 #[.agg #[.int .i64 wd, v], u, .bool ok] w fun e w' => e = .returned (.int .i64 (layC ok wd xs d)) ∧ Below w.heap.size w w' := by
  have hle := hd.le
  have hb0 : Below w.heap.size w (w.alloc (.cells #[.int .i64 wd, v] 27)) := (Below.refl _ _).alloc (Nat.le_refl _) _
  have Hb0 := Lib.hid hb0
  have hL := Box.new w [.int .i64 wd, v] 27
  have ha0 := Rds.onn ha hb0
  obtain ⟨ao, cap, rfl⟩ := ha.shape
  obtain ⟨dao, dcap, rfl, ho⟩ := hd.open
  obtain ⟨n, hn⟩ : ∃ n, n = d.length := ⟨_, rfl⟩
  rw [← hn] at ho hle ⊢
  have Ha := Lib.hid ha0
  have HL := Lib.hid hL
  have Hn := Lib.hid hn
  have Ho := Lib.hid ho
  clear hn ho ha ha0 hL hb0 hd
  go_enter Tryz.func50, Tryz.ntmps50
  go_wp2_with fail
  with_reducible refine (ValidLayout_c wd Ha.out).mono ?_
  cases hl : layB wd xs with
  | false =>
    have E := Lib.hid (show layC ok wd xs d = 1 from if_neg (fun h => by have h1 := h.1; rw [hl] at h1; cases h1))
    clear hl
    rintro e w1 ⟨rfl, hb⟩
    have hb1 := Hb0.out.trans (hb.mono Hb0.out.size)
    clear hb
    go_wp2
    go_ret
    exact ⟨ret_int E.out.symm, hb1⟩
  | true =>
    have Hl := Lib.hid hl
    clear hl
    rintro e w1 ⟨rfl, hb⟩
    have hb1 := Hb0.out.trans (hb.mono Hb0.out.size)
    have HL1 := Lib.hid (HL.out.on hb)
    have Hb1 := Lib.hid hb1
    clear hb hb1
    cases hok : ok with
    | false =>
      have E := Lib.hid (show layC false wd xs d = 1 from if_neg (fun h => by cases h.2))
      subst hok
      go_wp2
      go_ret
      exact ⟨ret_int E.out.symm, Hb1.out⟩
    | true =>
      subst hok
      by_cases h0 : n = 0
      · have E := Lib.hid (show layC true wd xs d = 0 from by unfold layC; rw [if_pos ⟨Hl.out, rfl⟩, if_pos (.inl (by have := Hn.out; omega))])
        subst h0
        go_upto_region 3 with fail
        refine wp_region_quiet_below (by kernel_rfl) (by kernel_rfl) ?_
        repeat ((with_reducible refine wpQuiet_step (fun K hK => ?_)); go_simp; first | ((with_reducible refine hK _ ?_); clear hK K) | (apply Exists.intro; refine ⟨fun _ => ?_, hK _ ?_⟩; ((fail)); clear hK K))
        refine wpQuiet_nil ?_
        intro _ hw'
        obtain ⟨⟨dq, osq⟩, hw''⟩ := hw'
        subst hw''
        have hbq := below_regrown w1 dq osq
        generalize grow (redrawn w1 dq) osq = wq at hbq ⊢
        have Hq := Lib.hid (Hb1.out.trans (hbq.mono Hb1.out.size))
        clear hbq
        go_wp2
        go_ret
        exact ⟨ret_int E.out.symm, Hq.out⟩
      · obtain ⟨b, off, rfl, hlt, hc⟩ := Ho.out (by omega)
        obtain ⟨x, ro, rc, hx, hcell, hrd⟩ := hc 0 (by omega)
        have hxl := hrd.le
        have hh := head_of hx
        have f0 := cell_regrown (((Hb1.out).cell (p := ⟨b, off + 0, none⟩) hlt.2).trans hcell)
        have f1 := cell_regrown (HL1.out.cell 0 _ rfl)
        have hn0 : 0 < n := by omega
        have hn1 : (0 : Int) < (n : Int) := by omega
        have Hc1 := Lib.hid (fun q os => columns_c (ao := ro) (n := x.length) (cap := rc) (w := grow (redrawn w1 q) os) hxl)
        rw [Nat.add_zero] at f0
        clear hc hcell hrd
        by_cases hw : (x.length : Int) = wd
        · have E := Lib.hid (show layC true wd xs d = 0 from by unfold layC; rw [if_pos ⟨Hl.out, rfl⟩, if_pos (.inr (by rw [hh]; exact hw))])
          have q1 : ((x.length : Int) != wd) = false := by simpa using hw
          clear hw hh hx
          generalize x.length = m at f0 Hc1 q1 hxl
          go_upto_region 3 with fail
          refine wp_region_quiet_below (by kernel_rfl) (by kernel_rfl) ?_
          repeat ((with_reducible refine wpQuiet_step (fun K hK => ?_)); go_simp; first | ((with_reducible refine hK _ ?_); clear hK K) | (apply Exists.intro; refine ⟨fun _ => ?_, hK _ ?_⟩; ((first | (go_at_call 82; with_reducible exact qb_below (Hc1.out _ _)))); clear hK K))
          refine wpQuiet_nil ?_
          intro _ hw'
          obtain ⟨⟨dq, osq⟩, hw''⟩ := hw'
          subst hw''
          have hbq := below_regrown w1 dq osq
          generalize grow (redrawn w1 dq) osq = wq at hbq ⊢
          have Hq := Lib.hid (Hb1.out.trans (hbq.mono Hb1.out.size))
          clear hbq f0 f1 q1
          go_wp2
          go_ret
          exact ⟨ret_int E.out.symm, Hq.out⟩
        · have E := Lib.hid (show layC true wd xs d = 2 from by unfold layC; rw [if_pos ⟨Hl.out, rfl⟩, if_neg (fun h => h.elim (fun e => h0 (by have := Hn.out; omega)) (fun e => hw (by rw [hh] at e; exact e)))])
          have q1 : ((x.length : Int) != wd) = true := by simpa using hw
          clear hw hh hx
          generalize x.length = m at f0 Hc1 q1 hxl
          go_upto_region 3 with fail
          refine wp_region_quiet_below (by kernel_rfl) (by kernel_rfl) ?_
          repeat ((with_reducible refine wpQuiet_step (fun K hK => ?_)); go_simp; first | ((with_reducible refine hK _ ?_); clear hK K) | (apply Exists.intro; refine ⟨fun _ => ?_, hK _ ?_⟩; ((first | (go_at_call 82; with_reducible exact qb_below (Hc1.out _ _)))); clear hK K))
          refine wpQuiet_nil ?_
          intro _ hw'
          obtain ⟨⟨dq, osq⟩, hw''⟩ := hw'
          subst hw''
          have hbq := below_regrown w1 dq osq
          generalize grow (redrawn w1 dq) osq = wq at hbq ⊢
          have Hq := Lib.hid (Hb1.out.trans (hbq.mono Hb1.out.size))
          clear hbq f0 f1 q1
          go_wp2
          go_ret
          exact ⟨ret_int E.out.symm, Hq.out⟩
end Go.Proofs.YtkpcdnbjngpooaaGreatDoor
namespace Go.Proofs.YtkpcdnbjngpooaaGreatDoor
open Go.ChangeShapes Go.WideShapes Go.ChangeAt Go.RowKit
set_option linter.unusedVariables false
set_option maxRecDepth 100000
/-- the columns of a field, in memory -/
theorem Rds.part {w : World} {B b off n cap : Nat} {c : List Int} {x y : Int} (h : RdI B w (.slice (some ⟨b, off, none⟩) n cap) c) (hx : 0 ≤ x) (hxy : x < y) (hy : y ≤ n) :
    RdI B w (.slice (some ⟨b, off + x.toNat, none⟩) (y.toNat - x.toNat) (cap - x.toNat)) (partC c x y) := by
  have hc := Rds.cap h
  have hcap := hc.2.2 (by omega)
  have h1 := Rds.sub (lo := x.toNat) (hi := y.toNat) (cap' := cap - x.toNat) h (by omega) (by omega) ⟨by omega, by omega⟩
  rw [show x.toNat * eI.sz = x.toNat from Nat.mul_one _] at h1
  exact h1
theorem clo_noCh (x : Int) (w : World) (_h : okInt64 x) : Calls Tryz.prog 122 #[.int .i64 x] w fun e w' => e = .returned (.bool (noCh x)) ∧ w = w' := by
  go_enter Tryz.func122, Tryz.ntmps122
  go_wp2_with fail
  refine (rankOf_c x _).mono ?_
  rintro e w' ⟨rfl, rfl⟩
  go_wp2
  go_ret
  exact ⟨ret_bool (by unfold noCh; simp), rfl⟩
theorem indexFunc_noCh {xs : List Int} {v : Value} {w : World} {A : Nat} (ha : RdI A w v xs) :
    Calls Tryz.prog 116 #[v, .func (.func 122) #[] #[]] w fun e w' => (∃ r : Int, e = .returned (.int .i64 r) ∧ -1 ≤ r ∧ (0 ≤ r ↔ xs.any noCh = true)) ∧ w = w' := by
  have hle := ha.le
  obtain ⟨ao, cap, rfl, ho⟩ := ha.open
  obtain ⟨l, hl⟩ : ∃ l, l = xs.length := ⟨_, rfl⟩
  rw [← hl]
  have Hl := Lib.hid hl
  have Ho := Lib.hid ho
  have hl' : l ≤ 9223372036854775807 := by omega
  clear ho hl hle ha
  go_enter Tryz.func116, Tryz.ntmps116
  go_wp2
  go_loop [8] (fun i => ∃ k : Nat, k ≤ l ∧ i = .int .i64 k ∧ Hid ((xs.take k).any noCh = false)) (fun i => l - (intOf i).toNat)
  case atStart => exact ⟨0, Nat.zero_le _, rfl, rfl⟩
  case round =>
    obtain ⟨k, hk, rfl, hp⟩ := hrel
    by_cases hkn : k < l
    · obtain ⟨b, off, rfl, hlt, hc⟩ := Ho.out (by have := Hl.out; omega)
      obtain ⟨x, hx, hcx, bx⟩ := hc k (by have := Hl.out; omega)
      have Hx := Lib.hid hx
      have Hb := Lib.hid bx
      clear hx hc bx
      cases hq : noCh x with
      | true =>
        have Hq := Lib.hid hq
        clear hq
        go_wp2_with (go_at_call 122; refine (clo_noCh x _ Hb.out).mono ?_; rw [Hq.out]; rintro e w' ⟨rfl, rfl⟩)
        go_ret
        refine ⟨⟨_, rfl, by omega, ?_⟩, rfl⟩
        have : xs.any noCh = true := List.any_eq_true.2 ⟨x, List.mem_of_getElem? Hx.out, Hq.out⟩
        simp [this]
      | false =>
        have Hq := Lib.hid hq
        clear hq
        go_wp2_with (go_at_call 122; refine (clo_noCh x _ Hb.out).mono ?_; rw [Hq.out]; rintro e w' ⟨rfl, rfl⟩)
        go_round
        case rel => exact ⟨k + 1, by omega, by go_num, by show _ = false; rw [take_snoc Hx.out, List.any_append, hp.out]; simp [Hq.out]⟩
        case measure => simp [intOf]; omega
    · go_wp2
      go_ret
      refine ⟨⟨_, rfl, by omega, ?_⟩, rfl⟩
      have hq := hp.out
      rw [List.take_of_length_le (by have := Hl.out; omega)] at hq
      exact any_end hq
theorem any_noCh {xs : List Int} {v : Value} {w : World} {A : Nat} (ha : RdI A w v xs) :
    Calls Tryz.prog 86 #[v, .func (.func 122) #[] #[]] w fun e w' => e = .returned (.bool (xs.any noCh)) ∧ w = w' := by
  have Ha := Lib.hid ha
  obtain ⟨ao, cap, rfl⟩ := ha.shape
  clear ha
  go_enter Tryz.func86, Tryz.ntmps86
  go_wp2_with fail
  refine (indexFunc_noCh Ha.out).mono ?_
  rintro e w' ⟨⟨r, rfl, hr, hi⟩, rfl⟩
  have Hi := Lib.hid hi
  clear hi
  go_wp2
  go_ret
  refine ⟨ret_bool ?_, rfl⟩
  rw [Bool.eq_iff_iff, decide_eq_true_iff]
  exact Hi.out
theorem hasCharacters_c {h : List Int} {v : Value} {w : World} {A : Nat} (ha : RdI A w v h) :
    Calls Tryz.prog 96 #[v] w fun e w' => e = .returned (.bool (okTx h)) ∧ w = w' := by
  have Ha := Lib.hid ha
  obtain ⟨ao, cap, rfl⟩ := ha.shape
  clear ha
  go_enter Tryz.func96, Tryz.ntmps96
  go_wp2_with fail
  refine (any_noCh Ha.out).mono ?_
  rintro e w' ⟨rfl, rfl⟩
  go_wp2
  go_ret
  exact ⟨ret_bool (by unfold okTx; simp), rfl⟩
theorem textOf_c {h : List Int} {v : Value} {w : World} {A : Nat} (ho : okTx h = true) (hl : h.length ≤ 1000) (ha : RdI A w v h) :
    Calls Tryz.prog 66 #[v] w fun e w' => e = .returned (.string (toB (txI h))) ∧ Below w.heap.size w w' := by
  obtain ⟨i0, hi, hz0, hz1, hz2⟩ := info_parts Tryz.infoU8t
  have HR0 : Hid (Own eB 5 w.heap.size (w.alloc (.cells #[] 5)) (.slice (some ⟨w.heap.size, 0, none⟩) 0 0) ([] : List Int)) := Lib.hid (Own.lit (E := eB) (xs := []) (cs := #[]) (Nat.le_refl _) rfl rfl (by decide) (fun x hx => by cases hx))
  have HB0 : Hid (Below w.heap.size w (w.alloc (.cells #[] 5))) := Lib.hid ((Below.refl _ _).alloc (Nat.le_refl _) _)
  obtain ⟨ao, cap, rfl, hop⟩ := RdI.open ha
  obtain ⟨n, hn⟩ : ∃ n, n = h.length := ⟨_, rfl⟩
  rw [← hn] at hl hop ⊢
  have Hn := Lib.hid hn
  have Ho := Lib.hid hop
  have Hok := Lib.hid ho
  have hbt := bytesI_toB (txI_bd ho)
  have Hbt := Lib.hid hbt
  clear hop hn ha ho hbt
  go_enter Tryz.func66, Tryz.ntmps66
  go_wp2
  go_loopw [3, 9] (fun ov i wr => ∃ k : Nat, k ≤ n ∧ i = .int .i64 k ∧ Own eB 5 w.heap.size wr ov ((txI h).take k) ∧ Below w.heap.size w wr) (fun _ i _ => n - (intOf i).toNat)
  case atStart => exact ⟨0, Nat.zero_le _, rfl, HR0.out, HB0.out⟩
  case round =>
    obtain ⟨k, hk, rfl, hR, hb⟩ := hrel
    clear HR0 HB0
    by_cases hkn : k < n
    · obtain ⟨b, off, rfl, hlt, hc⟩ := Ho.out (by omega)
      obtain ⟨m, hm, hcm, bm⟩ := hc k hkn
      have d1 := (hb.cell (p := ⟨b, off + k, none⟩) hlt.2).trans hcm
      have hnc : ¬ rkI m < 0 := by
        have h1 := Hok.out
        unfold okTx at h1
        have h2 : h.any noCh = false := by simpa using h1
        have h3 := List.any_eq_false.1 h2 m (List.mem_of_getElem? hm)
        unfold noCh at h3
        simpa using h3
      obtain ⟨q, hq, hrk, hch⟩ := rk_neg hnc
      have htx : (txI h)[k]? = some (chA q) := by unfold txI; rw [List.getElem?_map, hm, ← hch]; rfl
      have hsn := take_snoc htx
      have hlk : ((txI h).take k).length ≤ k := List.length_take_le _ _
      have Hdg : Hid (eB.ok (chA q)) := Lib.hid (by have := chA_bd ⟨q, hq⟩; show 0 ≤ chA q ∧ chA q ≤ 255; exact ⟨this.1, this.2.1⟩)
      have HR := Lib.hid hR
      have HB := Lib.hid hb
      have Hsn := Lib.hid hsn
      have Hrk := Lib.hid hrk
      have hqi : (q : Int) < 40 := by omega
      clear hR hb hc hm hcm hnc hrk hch htx hsn
      go_wp2_with fail
      with_reducible refine (rankOf_c m _).mono ?_
      rw [Hrk.out]
      rintro e w2 ⟨rfl, rfl⟩
      have hix := fun w => chars_run hq w
      go_wp2_with (first | (at_builtin; refine wpList_appS (E := eB) rfl _ _ 22 rfl Tryz.underlying22 hi hz0 hz1 hz2 rfl (by decide) rfl rfl (HR.out.alloc _) (rds_one (E := eB) (x := chA q) Hdg.out rfl) ?b1 ?b2 ?b3 ?_))
      case b1 => unfold maxLen; (try simp) <;> omega
      case b2 => (try simp) <;> omega
      case b3 => have := HB.out.size; (try simp) <;> omega
      intro s2 w2 hR2 hg
      have hb2 : Below w.heap.size w w2 := hg.alloc.below HB.out HB.out.size (fun j hj => (HR.out.lt j hj).1)
      have HR2 := Lib.hid hR2
      have HB2 := Lib.hid hb2
      clear hR2 hg hb2 HR HB d1 hix
      go_wp2
      go_roundw
      case rel => exact ⟨k + 1, by omega, by go_num, by rw [Hsn.out]; exact HR2.out, HB2.out⟩
      case measure => simp [intOf]; omega
    · obtain rfl : k = n := by omega
      rw [List.take_of_length_le (by unfold txI; rw [List.length_map]; have := Hn.out; omega), ← Hbt.out] at hR
      have hcv := conv_own hR
      obtain ⟨ro, rc, hrv⟩ := hR.shape
      have HB := Lib.hid hb
      subst hrv
      clear hR hb
      go_wp2
      go_ret
      exact ⟨rfl, HB.out⟩
end Go.Proofs.YtkpcdnbjngpooaaGreatDoor
namespace Go.Proofs.YtkpcdnbjngpooaaGreatDoor
open Go.ChangeShapes Go.WideShapes Go.ChangeAt Go.RowKit
set_option linter.unusedVariables false
set_option maxRecDepth 100000
theorem trimR_eq (l : List Int) (h : ∀ c ∈ l, 0 ≤ c ∧ c ≤ 255) : (⟨(Lib.trimRightB (toB l).data.toList 32).toArray⟩ : ByteArray) = toB (trimL l) := by
  have key : ∀ n (l : List Int), l.length = n → (∀ c ∈ l, 0 ≤ c ∧ c ≤ 255) → Lib.trimRightB (l.map fun c => c.toNat.toUInt8) 32 = (trimL l).map fun c => c.toNat.toUInt8 := by
    intro n
    induction n with
    | zero => intro l hl _; rw [List.eq_nil_of_length_eq_zero hl]; rfl
    | succ n ih =>
      intro l hl hb
      have hne : l ≠ [] := fun e => by rw [e] at hl; cases hl
      have hsp := (List.dropLast_concat_getLast hne).symm
      generalize l.dropLast = a at hsp
      generalize l.getLast hne = z at hsp
      subst hsp
      have hz := hb z (by simp)
      by_cases e : z = 32
      · subst e
        rw [trimL_snoc_blank, ← ih a (by simpa using hl) (fun c hc => hb c (by simp [hc]))]
        unfold Lib.trimRightB
        rw [List.map_append, List.reverse_append]
        rfl
      · rw [trimL_snoc_other e]
        unfold Lib.trimRightB
        rw [List.map_append, List.reverse_append]
        have e2 : (z.toNat.toUInt8 == 32) = false := by
          rw [beq_eq_false_iff_ne]
          intro h
          have h3 := congrArg UInt8.toNat h
          have h4 : (z.toNat.toUInt8).toNat = z.toNat := by simp; omega
          rw [h4] at h3
          exact e (by have : (32 : UInt8).toNat = 32 := rfl; omega)
        show (List.dropWhile _ (z.toNat.toUInt8 :: _)).reverse = _
        rw [List.dropWhile_cons, e2]
        simp
  unfold toB
  rw [key l.length l rfl h]
theorem hasField_c {c : List Int} {b off n cap : Nat} {w : World} {A : Nat} (x y : Int) (hx : 0 ≤ x) (hxy : x < y) (hy : y ≤ n) (ha : RdI A w (.slice (some ⟨b, off, none⟩) n cap) c) :
    Calls Tryz.prog 64 #[.agg #[.slice (some ⟨b, off, none⟩) n cap], .agg #[.int .i64 x, .int .i64 y]] w fun e w' => e = .returned (.bool (okTx (partC c x y))) ∧ Below w.heap.size w w' := by
  have hc := Rds.cap ha
  have hcap := hc.2.2 (by omega)
  obtain ⟨lo, rfl⟩ := Int.eq_ofNat_of_zero_le hx
  obtain ⟨hi, rfl⟩ := Int.eq_ofNat_of_zero_le (show 0 ≤ y by omega)
  have hb0 : Below w.heap.size w ((w.alloc (.cells #[.slice (some ⟨b, off, none⟩) n cap] 70)).alloc (.cells #[.int .i64 (lo : Int), .int .i64 (hi : Int)] 53)) := ((Below.refl _ _).alloc (Nat.le_refl _) _).alloc (by simp) _
  have ha1 := Rds.part (Rds.onn ha hb0) hx hxy (by omega)
  simp only [Int.toNat_natCast] at ha1
  have Ha := Lib.hid ha1
  have Hb0 := Lib.hid hb0
  have h1 : lo < hi := by omega
  have h2 : hi ≤ n := by omega
  have h3 : hi ≤ cap := by omega
  have h4 : ¬ cap = lo := by omega
  have h5 : lo ≤ hi := by omega
  clear hc ha hb0 ha1
  go_enter Tryz.func64, Tryz.ntmps64
  go_wp2_with fail
  with_reducible refine (hasCharacters_c Ha.out).mono ?_
  rintro e w1 ⟨rfl, rfl⟩
  go_wp2
  go_ret
  exact ⟨rfl, Hb0.out⟩
theorem itemValue_c {c : List Int} {b off n cap : Nat} {w : World} {A : Nat} (x : ItemT) (hk : x.kd = 1) (hx : 0 ≤ x.ff) (hxy : x.ff < x.ft) (hy : x.ft ≤ n) (hn : n ≤ 20) (ha : RdI A w (.slice (some ⟨b, off, none⟩) n cap) c) :
    Calls Tryz.prog 33 #[vItem x, .agg #[.slice (some ⟨b, off, none⟩) n cap]] w fun e w' => e = .returned (.tuple #[.string (whoV (partC c x.ff x.ft)), .bool (okTx (partC c x.ff x.ft))]) ∧ Below w.heap.size w w' := by
  have hc := Rds.cap ha
  have hcap := hc.2.2 (by omega)
  have hb0 : Below w.heap.size w ((w.alloc (.cells #[.string x.nm, .int .i64 x.kd, .int .i64 x.ff, .int .i64 x.ft] 55)).alloc (.cells #[.slice (some ⟨b, off, none⟩) n cap] 70)) := ((Below.refl _ _).alloc (Nat.le_refl _) _).alloc (by simp) _
  have hX : Box ((w.alloc (.cells #[.string x.nm, .int .i64 x.kd, .int .i64 x.ff, .int .i64 x.ft] 55)).alloc (.cells #[.slice (some ⟨b, off, none⟩) n cap] 70)) w.heap.size [.string x.nm, .int .i64 x.kd, .int .i64 x.ff, .int .i64 x.ft] := (Box.new w [.string x.nm, .int .i64 x.kd, .int .i64 x.ff, .int .i64 x.ft] 55).alloc _
  have hC : Box ((w.alloc (.cells #[.string x.nm, .int .i64 x.kd, .int .i64 x.ff, .int .i64 x.ft] 55)).alloc (.cells #[.slice (some ⟨b, off, none⟩) n cap] 70)) (w.heap.size + 1) [.slice (some ⟨b, off, none⟩) n cap] := by
    have h := Box.new (w.alloc (.cells #[.string x.nm, .int .i64 x.kd, .int .i64 x.ff, .int .i64 x.ft] 55)) [.slice (some ⟨b, off, none⟩) n cap] 70
    simpa using h
  have q2 : (x.kd == 2) = false := by rw [hk]; decide
  have hnc : n ≤ cap := by omega
  have ha0 := Rds.onn ha hb0
  have Ha := Lib.hid ha0
  have Hb0 := Lib.hid hb0
  have HX := Lib.hid hX
  have HC := Lib.hid hC
  have Hr := Lib.hid (And.intro hx (And.intro hxy hy))
  clear hc ha ha0 hb0 hX hC hk hx hxy hy
  go_enter Tryz.func33, Tryz.ntmps33
  go_wp2_with fail
  with_reducible refine (hasField_c x.ff x.ft Hr.out.1 Hr.out.2.1 Hr.out.2.2 Ha.out).mono ?_
  rintro e w1 ⟨rfl, hb⟩
  have HX1 := Lib.hid (HX.out.on hb)
  have HC1 := Lib.hid (HC.out.on hb)
  have Hb1 := Lib.hid (Hb0.out.trans (hb.mono Hb0.out.size))
  have Ha1 := Lib.hid (Rds.onn Ha.out hb)
  clear hb Ha Hb0 HX HC
  cases ho : okTx (partC c x.ff x.ft) with
  | false =>
    have E := Lib.hid (show whoV (partC c x.ff x.ft) = ⟨#[]⟩ by unfold whoV; rw [if_neg (by rw [ho]; decide)])
    have Ho := Lib.hid ho
    clear ho
    go_wp2
    go_ret2
    rw [E.out, Ho.out]
    exact ⟨rfl, Hb1.out⟩
  | true =>
    have Ho := Lib.hid ho
    have E := Lib.hid (show whoV (partC c x.ff x.ft) = toB (trimL (txI (partC c x.ff x.ft))) by unfold whoV; rw [if_pos ho])
    obtain ⟨lo, hlo⟩ := Int.eq_ofNat_of_zero_le Hr.out.1
    obtain ⟨hi, hhi⟩ := Int.eq_ofNat_of_zero_le (show 0 ≤ x.ft by have := Hr.out; omega)
    have hpt := Rds.part Ha1.out Hr.out.1 Hr.out.2.1 Hr.out.2.2
    have hpl : (partC c x.ff x.ft).length ≤ 1000 := by
      unfold partC
      rw [List.length_drop, List.length_take]
      have := Hr.out
      omega
    have c0 := HC1.out.cell 0 _ rfl
    have x2 := HX1.out.cell 2 _ rfl
    have x3 := HX1.out.cell 3 _ rfl
    rw [hlo] at x2
    rw [hhi] at x3
    have hz : x.ff.toNat = lo ∧ x.ft.toNat = hi := by omega
    rw [hz.1, hz.2] at hpt
    have h1 : lo < hi := by have := Hr.out; omega
    have h2 : hi ≤ n := by have := Hr.out; omega
    have h3 : hi ≤ cap := by omega
    have h4 : ¬ cap = lo := by omega
    have h5 : lo ≤ hi := by omega
    have Hpt := Lib.hid hpt
    have Hpl := Lib.hid hpl
    have Hbd := Lib.hid (txI_bd ho)
    clear ho hlo hhi hpt hpl hz
    go_wp2_with fail
    with_reducible refine (textOf_c Ho.out Hpl.out Hpt.out).mono ?_
    rintro e w2 ⟨rfl, hb⟩
    have Hb2 := Lib.hid (Hb1.out.trans (hb.mono Hb1.out.size))
    clear hb c0 x2 x3
    have hts : (toB (txI (partC c x.ff x.ft))).size ≤ 9223372036854775807 := by rw [toB_size]; unfold txI; rw [List.length_map]; have := Hpl.out; omega
    have Hts := Lib.hid hts
    have Htr := Lib.hid (trimR_eq _ Hbd.out)
    clear hts
    generalize toB (txI (partC c x.ff x.ft)) = T at Hts Htr ⊢
    go_wp2_with fail
    with_reducible refine (Tryz.strings_TrimRight_one T 32 (by decide) _ Hts.out).mono ?_
    rintro e w3 ⟨rfl, rfl⟩
    rw [Htr.out]
    go_wp2
    go_ret2
    rw [E.out, Ho.out]
    exact ⟨rfl, Hb2.out⟩
end Go.Proofs.YtkpcdnbjngpooaaGreatDoor
namespace Go.Proofs.YtkpcdnbjngpooaaGreatDoor
open Go.ChangeShapes Go.WideShapes Go.ChangeAt Go.RowKit Go.Sort
set_option linter.unusedVariables false
set_option maxRecDepth 100000
theorem Own.cellAtQ {e : TypeId} {base g n cap j : Nat} {w : World} {xs : List Int} {x : Int} (h : Own eI e base w (.slice (some ⟨g, 0, none⟩) n cap) xs) (hn : n = xs.length) (hx : xs[j]? = some x) : w.cell? ⟨g, j, none⟩ = some (.int .i64 x) := by
  subst hn
  have hj := at_lt hx
  have := h.ints.cellAt j (by omega)
  rw [this]
  simp [hx]
theorem numG_fail {h : List Int} {k : Nat} (hk : numG (h.take k) = none) : numG h = none := by
  have hd : h = h.take k ++ h.drop k := (List.take_append_drop k h).symm
  unfold numG at hk ⊢
  rw [hd, List.foldl_append, hk]
  generalize h.drop k = l
  induction l with
  | nil => rfl
  | cons a l ih => exact ih
theorem numR_zero {h : List Int} (hz : ∀ m ∈ h, m = 0) : numR h = (0, true) := by
  unfold numR
  cases hg : h.getLast? with
  | none => rfl
  | some l =>
    have hl : l = 0 := hz l (List.mem_of_getLast? hg)
    subst hl
    rw [numG_zero (fun m hm => hz m (List.dropLast_subset h hm))]
    have e : sgnB 0 = false := by decide +kernel
    simp [e]
theorem numR_of {a : List Int} {l : Int} (hl : 0 ≤ l ∧ l ≤ 4095) (hnz : ¬ ∀ m ∈ a ++ [l], m = 0) :
    numR (a ++ [l]) = match numG (a ++ [strip l]) with
      | none => (0, false)
      | some (n, b) => if b = false ∨ strip l = 0 ∨ (sgnB l = true ∧ n = 0) then (0, false) else ((if sgnB l = true then -n else n), true) := by
  have hs : numG (a ++ [strip l]) = numS (numG a) (strip l) := by unfold numG; rw [List.foldl_append]; rfl
  rw [hs]
  unfold numR
  rw [List.getLast?_append, List.getLast?_singleton]
  simp only [Option.some_or, List.dropLast_concat]
  cases hg : numG a with
  | none => rfl
  | some p =>
    obtain ⟨n, b⟩ := p
    simp only [numS]
    have hd0 := dig_zero
    cases hsg : sgnB l with
    | true =>
      have e : strip l = l - 2 := by unfold strip; rw [if_pos hsg]
      rw [e]
      simp only [if_true, true_and]
      by_cases z : l - 2 = 0 ∧ b = false
      · rw [if_pos z]
        rw [z.1, hd0]
        simp [z.2]
      · rw [if_neg z]
        by_cases hd : digI (l - 2) < 0
        · rw [if_pos hd, if_pos hd]
        · rw [if_neg hd, if_neg hd]
          have h0 : ¬ l - 2 = 0 := fun h => by rw [h, hd0] at hd; exact hd (by decide)
          simp only
          by_cases hq : 10 * n + digI (l - 2) = 0
          · rw [if_pos (.inr (.inr hq)), hq]; rfl
          · rw [if_neg (fun h => by rcases h with h | h | h; cases h; exact h0 h; exact hq h)]
            rw [decide_eq_true hq]
    | false =>
      have e : strip l = l := by unfold strip; rw [if_neg (by rw [hsg]; decide)]
      rw [e]
      by_cases z : l = 0 ∧ b = false
      · exfalso
        obtain ⟨z1, z2⟩ := z
        subst z2
        have hz := (numG_false hg).2
        refine hnz fun m hm => ?_
        rcases List.mem_append.1 hm with hm | hm
        · exact hz m hm
        · rw [List.mem_singleton.1 hm, z1]
      · rw [if_neg z, if_neg z]
        simp only [Bool.false_eq_true, if_false, false_and, or_false]
        by_cases hd : digI l < 0
        · rw [if_pos hd, if_pos hd]
        · rw [if_neg hd, if_neg hd]
          have h0 : ¬ l = 0 := fun h => by rw [h, hd0] at hd; exact hd (by decide)
          simp [h0]
theorem bitOf_d (k : Nat) (w : World) (h : k < 10) : Calls Tryz.prog 88 #[.int .i64 (k : Int)] w fun e w' => e = .returned (.int .i64 (4 * 2 ^ k)) ∧ w = w' := by
  have h1 := bitOf_c (k : Int) w (.inr (.inr ⟨by omega, by omega⟩))
  rw [if_neg (by omega), if_neg (by omega), Int.toNat_natCast] at h1
  exact h1
theorem digitOf_c (m : Int) (w : World) : Calls Tryz.prog 89 #[.int .i64 m] w fun e w' => e = .returned (.int .i64 (digI m)) ∧ w = w' := by
  go_enter Tryz.func89, Tryz.ntmps89
  go_wp2
  go_loop [4] (fun i => ∃ k : Nat, k ≤ 10 ∧ i = .int .i64 k ∧ Hid (∀ d, d < k → (4 * 2 ^ d : Int) ≠ m)) (fun i => 10 - (intOf i).toNat)
  case atStart => exact ⟨0, by decide, rfl, fun j hj => absurd hj (Nat.not_lt_zero _)⟩
  case round =>
    obtain ⟨k, hk, rfl, hp⟩ := hrel
    by_cases hkn : k < 10
    · have hki : (k : Int) < 10 := by omega
      have hcd := fun w => bitOf_d k w hkn
      obtain ⟨z, hz⟩ : ∃ z : Int, z = 4 * 2 ^ k := ⟨_, rfl⟩
      rw [← hz] at hcd
      have Hcd := Lib.hid hcd
      have Hz := Lib.hid hz
      clear hz hcd
      cases hq : (z == m) with
      | true =>
        have Hq := Lib.hid (beq_iff_eq.1 hq)
        go_wp2_with fail
        with_reducible refine (Hcd.out _).mono ?_
        rintro e w' ⟨rfl, rfl⟩
        go_wp2
        go_ret
        exact ⟨ret_int (dig_found hkn (by rw [← Hz.out]; exact Hq.out)).symm, rfl⟩
      | false =>
        have Hq : Hid (z ≠ m) := Lib.hid (by simpa using hq)
        go_wp2_with fail
        with_reducible refine (Hcd.out _).mono ?_
        rintro e w' ⟨rfl, rfl⟩
        go_wp2
        go_round
        case rel => exact ⟨k + 1, by omega, by go_num, fun j hj => by rcases Nat.lt_succ_iff_lt_or_eq.1 hj with hj | rfl; exact hp.out j hj; rw [← Hz.out]; exact Hq.out⟩
        case measure => simp [intOf]; omega
    · obtain rfl : k = 10 := by omega
      go_wp2
      go_ret
      exact ⟨ret_int (dig_none hp.out).symm, rfl⟩
def nz (x : Int) : Bool := x != 0
theorem clo_nz (x : Int) (w : World) (_h : okInt64 x) : Calls Tryz.prog 87 #[.int .i64 x] w fun e w' => e = .returned (.bool (nz x)) ∧ w = w' := by
  go_enter Tryz.func87, Tryz.ntmps87
  go_wp2
  go_ret
  exact ⟨rfl, rfl⟩
theorem indexFunc_nz {xs : List Int} {v : Value} {w : World} {A : Nat} (ha : RdI A w v xs) :
    Calls Tryz.prog 116 #[v, .func (.func 87) #[] #[]] w fun e w' => (∃ r : Int, e = .returned (.int .i64 r) ∧ -1 ≤ r ∧ (0 ≤ r ↔ xs.any nz = true)) ∧ w = w' := by
  have hle := ha.le
  obtain ⟨ao, cap, rfl, ho⟩ := ha.open
  obtain ⟨l, hl⟩ : ∃ l, l = xs.length := ⟨_, rfl⟩
  rw [← hl]
  have Hl := Lib.hid hl
  have Ho := Lib.hid ho
  have hl' : l ≤ 9223372036854775807 := by omega
  clear ho hl hle ha
  go_enter Tryz.func116, Tryz.ntmps116
  go_wp2
  go_loop [8] (fun i => ∃ k : Nat, k ≤ l ∧ i = .int .i64 k ∧ Hid ((xs.take k).any nz = false)) (fun i => l - (intOf i).toNat)
  case atStart => exact ⟨0, Nat.zero_le _, rfl, rfl⟩
  case round =>
    obtain ⟨k, hk, rfl, hp⟩ := hrel
    by_cases hkn : k < l
    · obtain ⟨b, off, rfl, hlt, hc⟩ := Ho.out (by have := Hl.out; omega)
      obtain ⟨x, hx, hcx, bx⟩ := hc k (by have := Hl.out; omega)
      have Hx := Lib.hid hx
      have Hb := Lib.hid bx
      clear hx hc bx
      cases hq : nz x with
      | true =>
        have Hq := Lib.hid hq
        clear hq
        go_wp2_with (go_at_call 87; refine (clo_nz x _ Hb.out).mono ?_; rw [Hq.out]; rintro e w' ⟨rfl, rfl⟩)
        go_ret
        refine ⟨⟨_, rfl, by omega, ?_⟩, rfl⟩
        have : xs.any nz = true := List.any_eq_true.2 ⟨x, List.mem_of_getElem? Hx.out, Hq.out⟩
        simp [this]
      | false =>
        have Hq := Lib.hid hq
        clear hq
        go_wp2_with (go_at_call 87; refine (clo_nz x _ Hb.out).mono ?_; rw [Hq.out]; rintro e w' ⟨rfl, rfl⟩)
        go_round
        case rel => exact ⟨k + 1, by omega, by go_num, by show _ = false; rw [take_snoc Hx.out, List.any_append, hp.out]; simp [Hq.out]⟩
        case measure => simp [intOf]; omega
    · go_wp2
      go_ret
      refine ⟨⟨_, rfl, by omega, ?_⟩, rfl⟩
      have hq := hp.out
      rw [List.take_of_length_le (by have := Hl.out; omega)] at hq
      exact any_end hq
theorem any_nz {xs : List Int} {v : Value} {w : World} {A : Nat} (ha : RdI A w v xs) :
    Calls Tryz.prog 86 #[v, .func (.func 87) #[] #[]] w fun e w' => e = .returned (.bool (xs.any nz)) ∧ w = w' := by
  have Ha := Lib.hid ha
  obtain ⟨ao, cap, rfl⟩ := ha.shape
  clear ha
  go_enter Tryz.func86, Tryz.ntmps86
  go_wp2_with fail
  refine (indexFunc_nz Ha.out).mono ?_
  rintro e w' ⟨⟨r, rfl, hr, hi⟩, rfl⟩
  have Hi := Lib.hid hi
  clear hi
  go_wp2
  go_ret
  refine ⟨ret_bool ?_, rfl⟩
  rw [Bool.eq_iff_iff, decide_eq_true_iff]
  exact Hi.out
theorem bitOf_11 (w : World) : Calls Tryz.prog 88 #[.int .i64 11] w fun e w' => e = .returned (.int .i64 2) ∧ w = w' := bitOf_c 11 w (.inr (.inl rfl))
set_option maxHeartbeats 2000000 in
theorem numberIn_c {c : List Int} {b off n cap : Nat} {w : World} {A : Nat} (x y : Int) (hx : 0 ≤ x) (hxy : x < y) (hy : y ≤ n) (h12 : y - x ≤ 12) (hm : ∀ m ∈ c, 0 ≤ m ∧ m ≤ 4095) (ha : RdI A w (.slice (some ⟨b, off, none⟩) n cap) c) :
    Calls Tryz.prog 53 #[.agg #[.slice (some ⟨b, off, none⟩) n cap], .agg #[.int .i64 x, .int .i64 y]] w fun e w' => e = .returned (.tuple #[.int .i64 (numR (partC c x y)).1, .bool (numR (partC c x y)).2]) ∧ Below w.heap.size w w' := by
  have hc := Rds.cap ha
  have hcap := hc.2.2 (by omega)
  have hb0 : Below w.heap.size w ((w.alloc (.cells #[.slice (some ⟨b, off, none⟩) n cap] 70)).alloc (.cells #[.int .i64 x, .int .i64 y] 53)) := ((Below.refl _ _).alloc (Nat.le_refl _) _).alloc (by simp) _
  have ha1 := Rds.part (Rds.onn ha hb0) hx hxy (by omega)
  have hmp : ∀ m ∈ partC c x y, 0 ≤ m ∧ m ≤ 4095 := fun m h => hm m (partC_mem h)
  have hlen : (partC c x y).length = y.toNat - x.toNat := by unfold partC; rw [List.length_drop, List.length_take]; omega
  obtain ⟨h, hh⟩ : ∃ h, h = partC c x y := ⟨_, rfl⟩
  rw [← hh] at ha1 hmp hlen ⊢
  obtain ⟨lo, rfl⟩ := Int.eq_ofNat_of_zero_le hx
  obtain ⟨hi, rfl⟩ := Int.eq_ofNat_of_zero_le (show 0 ≤ y by omega)
  simp only [Int.toNat_natCast] at ha1 hlen
  obtain ⟨p, hp⟩ : ∃ p, p = hi - lo := ⟨_, rfl⟩
  rw [← hp] at hlen ha1
  have Ha := Lib.hid ha1
  have Hb0 := Lib.hid hb0
  have Hmp := Lib.hid hmp
  have Hlen := Lib.hid hlen
  have Hp := Lib.hid hp
  have h1 : lo < hi := by omega
  have h2 : hi ≤ n := by omega
  have h3 : hi ≤ cap := by omega
  have h4 : ¬ cap = lo := by omega
  have h5 : lo ≤ hi := by omega
  have hp0 : 0 < p := by omega
  have hp12 : p ≤ 12 := by omega
  clear hc ha hb0 ha1 hmp hlen hp hm hh h12 hx hxy hy
  go_enter Tryz.func53, Tryz.ntmps53
  go_wp2_with fail
  rw [← Hp.out]
  with_reducible refine (copyInts_c Ha.out (by have := Hlen.out; omega)).mono ?_
  rintro e w1 ⟨u, rfl, hu, hb⟩
  have hb1 := Hb0.out.trans (hb.mono Hb0.out.size)
  have huw := hu.mono Hb0.out.size
  obtain ⟨g, uc, rfl, hug, huw1⟩ := huw.addr (by have := Hlen.out; omega)
  rw [Hlen.out] at huw ⊢
  have Hu := Lib.hid huw
  have Hb1 := Lib.hid hb1
  clear hb hu huw hb1 h1 h2 h3 h4 h5
  go_wp2_with fail
  with_reducible refine (any_nz Hu.out.rds).mono ?_
  cases hany : h.any nz with
  | false =>
    have E : Hid (numR h = (0, true)) := Lib.hid (numR_zero fun m hm => by have := List.any_eq_false.1 hany m hm; unfold nz at this; simpa using this)
    clear hany
    rintro e w2 ⟨rfl, rfl⟩
    go_wp2
    go_ret2
    rw [E.out]
    exact ⟨rfl, Hb1.out⟩
  | true =>
    obtain ⟨a, l, hal⟩ : ∃ a l, h = a ++ [l] := ⟨h.dropLast, h.getLast (fun e => by rw [e] at hany; cases hany), (List.dropLast_concat_getLast _).symm⟩
    have hlb := Hmp.out l (by rw [hal]; simp)
    have hap : a.length + 1 = p := by have := Hlen.out; rw [hal] at this; simpa using this
    have hnz : ¬ ∀ m ∈ a ++ [l], m = 0 := by
      intro hz
      obtain ⟨m, hm, hq⟩ := List.any_eq_true.1 hany
      rw [hal] at hm
      rw [hz m hm] at hq
      cases hq
    have hR := numR_of hlb hnz
    rw [← hal] at hR
    have hst := sgn_of hlb
    have hlat : h[p - 1]? = some l := by rw [hal, ← hap]; simp
    have hca := Own.cellAtQ Hu.out Hlen.out.symm hlat
    have hcf := (Own.cellE (E := eI) Hu.out Hlen.out.symm (k := p - 1) (j := 0) (by omega) (by decide)).2
    rw [show (p - 1) * eI.sz + 0 = p - 1 by show (p - 1) * 1 + 0 = p - 1; omega] at hcf
    have Hca := Lib.hid hca
    have Hlat := Lib.hid hlat
    have HR := Lib.hid hR
    have Hst := Lib.hid hst
    have Hal := Lib.hid hal
    have Hap := Lib.hid hap
    have hpi : (p : Int) - 1 = ((p - 1 : Nat) : Int) := by omega
    have Hpi := Lib.hid hpi
    have hx2 : ∃ q : Bool, sgnB l = q ∧ bits BinOp.and IntKind.i64 l 2 = (if q = true then 2 else 0) := by
      obtain ⟨m, rfl⟩ := Int.eq_ofNat_of_zero_le hlb.1
      have hf := sgn_fin ⟨m, by omega⟩
      cases hq : sgnB (m : Int) with
      | true => exact ⟨true, rfl, (hf.1 hq).1⟩
      | false => exact ⟨false, rfl, (hf.2 hq).1⟩
    obtain ⟨sg, hsg, hand⟩ := hx2
    have Hsg := Lib.hid hsg
    have hlst := hst.1
    clear hany hlb hnz hR hal hlat hca hap hst hsg hcf
    rintro e w2 ⟨rfl, rfl⟩
    go_upto_region 5 with fail
    have hpp : p - 1 < p := by omega
    have hca := cell_regrown Hca.out
    cases sg with
    | true =>
      simp only [if_true] at hand
      refine wp_region_quiet_below (by kernel_rfl) (by kernel_rfl) ?_
      repeat ((with_reducible refine wpQuiet_step (fun K hK => ?_)); go_simp; first | ((with_reducible refine hK _ ?_); clear hK K) | (apply Exists.intro; refine ⟨fun _ => ?_, hK _ ?_⟩; ((first | (go_at_call 88; exact qb_same (bitOf_11 _)))); clear hK K))
      refine wpQuiet_nil ?_
      intro _ hw'
      obtain ⟨⟨dq, osq⟩, hw''⟩ := hw'
      subst hw''
      have hbq := below_regrown w1 dq osq
      generalize grow (redrawn w1 dq) osq = wq at hbq ⊢
      have Hu2 := Lib.hid (show Own eI 2 w.heap.size wq (.slice (some ⟨g, 0, none⟩) p uc) h from Hu.out.below hbq (Nat.le_refl _))
      have Hb2 := Lib.hid (Hb1.out.trans (hbq.mono Hb1.out.size))
      clear hbq hca Hu Hb1 Hca
      go_upto_region 6 with fail
      have hca := Own.cellAtQ Hu2.out Hlen.out.symm (Hlat.out)
      have hcf2 := (Own.cellE (E := eI) Hu2.out Hlen.out.symm (k := p - 1) (j := 0) (by omega) (by decide)).2
      rw [show (p - 1) * eI.sz + 0 = p - 1 by show (p - 1) * 1 + 0 = p - 1; omega] at hcf2
      go_cut [] (fun wx => Own eI 2 w.heap.size wx (.slice (some ⟨g, 0, none⟩) p uc) (a ++ [strip l]) ∧ Below w.heap.size w wx)
      case first =>
        have hsto := (Own.storeI Hu2.out Hlen.out.symm (k := p - 1) (by omega) (x := strip l) (by have := Hst.out; show -9223372036854775808 ≤ strip l ∧ strip l ≤ 9223372036854775807; omega)).2.2.1
        have hset : h.set (p - 1) (strip l) = a ++ [strip l] := by
          rw [Hal.out, List.set_append_right _ _ (by have := Hap.out; omega), show p - 1 - a.length = 0 by have := Hap.out; omega]
          rfl
        rw [hset] at hsto
        have Hsto := Lib.hid hsto
        clear hsto hset
        go_region_with (go_at_call 88; refine (bitOf_11 _).mono ?_; rintro e w' ⟨rfl, rfl⟩)
        all_goals
          go_wp2_with fail
          go_meet
          exact ⟨Hsto.out, (Hb2.out.setCell (p := ⟨g, p - 1, none⟩) (by show w.heap.size ≤ g; omega) _).drew1⟩
      case rest =>
      obtain ⟨hu3, hb3⟩ := hcut
      obtain ⟨L, hL⟩ : ∃ L, L = a ++ [strip l] := ⟨_, rfl⟩
      rw [← hL] at hu3
      have HR2 := HR.out
      rw [← hL] at HR2
      have HRL := Lib.hid HR2
      have hLl : p = L.length := by rw [hL]; have := Hap.out; simp; omega
      have hlL : L[p - 1]? = some (strip l) := by rw [hL, ← Hap.out]; simp
      have HLl := Lib.hid hLl
      have HlL := Lib.hid hlL
      have Hu3 := Lib.hid hu3
      have Hb3 := Lib.hid hb3
      clear hca hcf2 Hu2 Hb2 HR HR2 hL hLl hlL hu3 hb3 hand
      go_wp2
      go_loopw [9, 10, 44] (fun nv bv i wr => ∃ (k : Nat) (z : Int) (q : Bool), k ≤ p ∧ i = .int .i64 k ∧ nv = .int .i64 z ∧ bv = .bool q ∧ Hid (numG (L.take k) = some (z, q)) ∧ Below wc.heap.size wc wr) (fun _ _ i _ => p - (intOf i).toNat)
      case atStart => exact ⟨0, 0, false, Nat.zero_le _, rfl, rfl, rfl, rfl, Below.refl _ _⟩
      case round =>
        obtain ⟨k, z, q, hk, rfl, rfl, rfl, hst, hbb⟩ := hrel
        have hzb := numG_bd _ z q hst.out
        have hzl : (10 : Int) ^ (L.take k).length ≤ 10 ^ 12 := by
          have hp9 : (10 : Nat) ^ (L.take k).length ≤ 10 ^ 12 := Nat.pow_le_pow_right (by decide) (by rw [List.length_take]; omega)
          exact_mod_cast hp9
        have hz12 : z ≤ 1000000000000 := by
          have h3 : (10 : Int) ^ 12 = 1000000000000 := by decide
          omega
        have hz0 : 0 ≤ z := hzb.1
        clear hzb hzl
        have Hu4 := Lib.hid (show Own eI 2 w.heap.size wr (.slice (some ⟨g, 0, none⟩) p uc) L from Hu3.out.below hbb (Nat.le_refl _))
        by_cases hkp : k < p
        · obtain ⟨m, hm⟩ : ∃ m, L[k]? = some m := ⟨L[k]'(by have := HLl.out; omega), by simp⟩
          have d1 := Own.cellAtQ Hu4.out HLl.out hm
          have hsn := numG_snoc hm
          rw [hst.out] at hsn
          have Hsn := Lib.hid hsn
          have hdb := dig_bd m
          obtain ⟨hdb1, hdb2⟩ := hdb
          clear hm hsn
          by_cases hm0 : m = 0
          · have q1 : (m == 0) = true := by simpa using hm0
            have Hm0 := Lib.hid hm0
            cases q with
            | false =>
              have E := Lib.hid (show numG (L.take (k + 1)) = some (z, false) by rw [Hsn.out]; show (if m = 0 ∧ false = false then _ else _) = _; rw [if_pos ⟨hm0, rfl⟩])
              clear hm0
              go_wp2_with fail
              with_reducible refine (digitOf_c m _).mono ?_
              rintro e w' ⟨rfl, rfl⟩
              clear d1
              go_wp2
              go_roundw
              case rel => exact ⟨k + 1, z, false, by omega, by go_num, rfl, rfl, E.out, hbb⟩
              case measure => simp [intOf]; omega
            | true =>
              have E : Hid (numG L = none) := Lib.hid (numG_fail (k := k + 1) (by rw [Hsn.out]; show (if m = 0 ∧ true = false then _ else _) = _; rw [if_neg (fun h => by cases h.2), if_pos (by rw [hm0, dig_zero]; decide)]))
              have hd : digI m < 0 := by rw [hm0, dig_zero]; decide
              clear hm0
              go_wp2_with fail
              with_reducible refine (digitOf_c m _).mono ?_
              rintro e w' ⟨rfl, rfl⟩
              clear d1
              go_wp2
              go_ret2
              have hR9 := HRL.out
              rw [E.out] at hR9
              rw [hR9]
              exact ⟨rfl, Hb3.out.trans (hbb.mono Hb3.out.size)⟩
          · have q1 : (m == 0) = false := by simpa using hm0
            have Hm0 := Lib.hid hm0
            by_cases hd : digI m < 0
            · have E : Hid (numG L = none) := Lib.hid (numG_fail (k := k + 1) (by rw [Hsn.out]; show (if m = 0 ∧ q = false then _ else _) = _; rw [if_neg (fun h => hm0 h.1), if_pos hd]))
              clear hm0
              go_wp2_with fail
              with_reducible refine (digitOf_c m _).mono ?_
              rintro e w' ⟨rfl, rfl⟩
              clear d1
              go_wp2
              go_ret2
              have hR9 := HRL.out
              rw [E.out] at hR9
              rw [hR9]
              exact ⟨rfl, Hb3.out.trans (hbb.mono Hb3.out.size)⟩
            · have E := Lib.hid (show numG (L.take (k + 1)) = some (10 * z + digI m, true) by rw [Hsn.out]; show (if m = 0 ∧ q = false then _ else _) = _; rw [if_neg (fun h => hm0 h.1), if_neg hd])
              clear hm0
              go_wp2_with fail
              with_reducible refine (digitOf_c m _).mono ?_
              rintro e w' ⟨rfl, rfl⟩
              clear d1
              go_wp2
              go_roundw
              case rel => exact ⟨k + 1, 10 * z + digI m, true, by omega, by go_num, rfl, rfl, E.out, hbb⟩
              case measure => simp [intOf]; omega
        · obtain rfl : k = p := by omega
          have hg := hst.out
          rw [List.take_of_length_le (by have := HLl.out; omega)] at hg
          have hR9 := HRL.out
          rw [hg] at hR9
          simp only at hR9
          have HR9 := Lib.hid hR9
          have hca := Own.cellAtQ Hu4.out HLl.out HlL.out
          have Hbf := Lib.hid (Hb3.out.trans (hbb.mono Hb3.out.size))
          clear hg hR9 hst
          cases q with
          | false =>
            go_wp2
            go_ret2
            rw [HR9.out, if_pos (.inl (by trivial))]
            exact ⟨rfl, Hbf.out⟩
          | true =>
            by_cases s0 : strip l = 0
            · have q0 : (strip l == 0) = true := by simpa using s0
              have S0 := Lib.hid s0
              clear s0
              go_wp2
              go_ret2
              rw [HR9.out, if_pos (.inr (.inl S0.out))]
              exact ⟨rfl, Hbf.out⟩
            · have q0 : (strip l == 0) = false := by simpa using s0
              have S0 := Lib.hid s0
              clear s0
              by_cases z0 : z = 0
              · have q9 : (z == 0) = true := by simpa using z0
                have Z0 := Lib.hid z0
                clear z0
                go_wp2
                go_ret2
                rw [HR9.out, if_pos (.inr (.inr ⟨Hsg.out, Z0.out⟩))]
                exact ⟨rfl, Hbf.out⟩
              · have q9 : (z == 0) = false := by simpa using z0
                have Z0 := Lib.hid z0
                clear z0
                go_wp2
                go_ret2
                rw [HR9.out, if_neg (fun h => by rcases h with h | h | h; cases h; exact S0.out h; exact Z0.out h.2), if_pos Hsg.out]
                exact ⟨rfl, Hbf.out⟩
    | false =>
      simp only [if_false, Bool.false_eq_true] at hand
      refine wp_region_quiet_below (by kernel_rfl) (by kernel_rfl) ?_
      repeat ((with_reducible refine wpQuiet_step (fun K hK => ?_)); go_simp; first | ((with_reducible refine hK _ ?_); clear hK K) | (apply Exists.intro; refine ⟨fun _ => ?_, hK _ ?_⟩; ((first | (go_at_call 88; exact qb_same (bitOf_11 _)))); clear hK K))
      refine wpQuiet_nil ?_
      intro _ hw'
      obtain ⟨⟨dq, osq⟩, hw''⟩ := hw'
      subst hw''
      have hbq := below_regrown w1 dq osq
      generalize grow (redrawn w1 dq) osq = wq at hbq ⊢
      have Hu2 := Lib.hid (show Own eI 2 w.heap.size wq (.slice (some ⟨g, 0, none⟩) p uc) h from Hu.out.below hbq (Nat.le_refl _))
      have Hb2 := Lib.hid (Hb1.out.trans (hbq.mono Hb1.out.size))
      clear hbq hca Hu Hb1 Hca
      go_upto_region 6 with fail
      have hca := Own.cellAtQ Hu2.out Hlen.out.symm (Hlat.out)
      have hcf2 := (Own.cellE (E := eI) Hu2.out Hlen.out.symm (k := p - 1) (j := 0) (by omega) (by decide)).2
      rw [show (p - 1) * eI.sz + 0 = p - 1 by show (p - 1) * 1 + 0 = p - 1; omega] at hcf2
      go_cut [] (fun wx => Own eI 2 w.heap.size wx (.slice (some ⟨g, 0, none⟩) p uc) (a ++ [strip l]) ∧ Below w.heap.size w wx)
      case first =>
        have hsto := (Own.storeI Hu2.out Hlen.out.symm (k := p - 1) (by omega) (x := strip l) (by have := Hst.out; show -9223372036854775808 ≤ strip l ∧ strip l ≤ 9223372036854775807; omega)).2.2.1
        have hset : h.set (p - 1) (strip l) = a ++ [strip l] := by
          rw [Hal.out, List.set_append_right _ _ (by have := Hap.out; omega), show p - 1 - a.length = 0 by have := Hap.out; omega]
          rfl
        rw [hset] at hsto
        have Hsto := Lib.hid hsto
        clear hsto hset
        go_region_with (go_at_call 88; refine (bitOf_11 _).mono ?_; rintro e w' ⟨rfl, rfl⟩)
        all_goals
          go_wp2_with fail
          go_meet
          exact ⟨Hsto.out, (Hb2.out.setCell (p := ⟨g, p - 1, none⟩) (by show w.heap.size ≤ g; omega) _).drew1⟩
      case rest =>
      obtain ⟨hu3, hb3⟩ := hcut
      obtain ⟨L, hL⟩ : ∃ L, L = a ++ [strip l] := ⟨_, rfl⟩
      rw [← hL] at hu3
      have HR2 := HR.out
      rw [← hL] at HR2
      have HRL := Lib.hid HR2
      have hLl : p = L.length := by rw [hL]; have := Hap.out; simp; omega
      have hlL : L[p - 1]? = some (strip l) := by rw [hL, ← Hap.out]; simp
      have HLl := Lib.hid hLl
      have HlL := Lib.hid hlL
      have Hu3 := Lib.hid hu3
      have Hb3 := Lib.hid hb3
      clear hca hcf2 Hu2 Hb2 HR HR2 hL hLl hlL hu3 hb3 hand
      go_wp2
      go_loopw [9, 10, 44] (fun nv bv i wr => ∃ (k : Nat) (z : Int) (q : Bool), k ≤ p ∧ i = .int .i64 k ∧ nv = .int .i64 z ∧ bv = .bool q ∧ Hid (numG (L.take k) = some (z, q)) ∧ Below wc.heap.size wc wr) (fun _ _ i _ => p - (intOf i).toNat)
      case atStart => exact ⟨0, 0, false, Nat.zero_le _, rfl, rfl, rfl, rfl, Below.refl _ _⟩
      case round =>
        obtain ⟨k, z, q, hk, rfl, rfl, rfl, hst, hbb⟩ := hrel
        have hzb := numG_bd _ z q hst.out
        have hzl : (10 : Int) ^ (L.take k).length ≤ 10 ^ 12 := by
          have hp9 : (10 : Nat) ^ (L.take k).length ≤ 10 ^ 12 := Nat.pow_le_pow_right (by decide) (by rw [List.length_take]; omega)
          exact_mod_cast hp9
        have hz12 : z ≤ 1000000000000 := by
          have h3 : (10 : Int) ^ 12 = 1000000000000 := by decide
          omega
        have hz0 : 0 ≤ z := hzb.1
        clear hzb hzl
        have Hu4 := Lib.hid (show Own eI 2 w.heap.size wr (.slice (some ⟨g, 0, none⟩) p uc) L from Hu3.out.below hbb (Nat.le_refl _))
        by_cases hkp : k < p
        · obtain ⟨m, hm⟩ : ∃ m, L[k]? = some m := ⟨L[k]'(by have := HLl.out; omega), by simp⟩
          have d1 := Own.cellAtQ Hu4.out HLl.out hm
          have hsn := numG_snoc hm
          rw [hst.out] at hsn
          have Hsn := Lib.hid hsn
          have hdb := dig_bd m
          obtain ⟨hdb1, hdb2⟩ := hdb
          clear hm hsn
          by_cases hm0 : m = 0
          · have q1 : (m == 0) = true := by simpa using hm0
            have Hm0 := Lib.hid hm0
            cases q with
            | false =>
              have E := Lib.hid (show numG (L.take (k + 1)) = some (z, false) by rw [Hsn.out]; show (if m = 0 ∧ false = false then _ else _) = _; rw [if_pos ⟨hm0, rfl⟩])
              clear hm0
              go_wp2_with fail
              with_reducible refine (digitOf_c m _).mono ?_
              rintro e w' ⟨rfl, rfl⟩
              clear d1
              go_wp2
              go_roundw
              case rel => exact ⟨k + 1, z, false, by omega, by go_num, rfl, rfl, E.out, hbb⟩
              case measure => simp [intOf]; omega
            | true =>
              have E : Hid (numG L = none) := Lib.hid (numG_fail (k := k + 1) (by rw [Hsn.out]; show (if m = 0 ∧ true = false then _ else _) = _; rw [if_neg (fun h => by cases h.2), if_pos (by rw [hm0, dig_zero]; decide)]))
              have hd : digI m < 0 := by rw [hm0, dig_zero]; decide
              clear hm0
              go_wp2_with fail
              with_reducible refine (digitOf_c m _).mono ?_
              rintro e w' ⟨rfl, rfl⟩
              clear d1
              go_wp2
              go_ret2
              have hR9 := HRL.out
              rw [E.out] at hR9
              rw [hR9]
              exact ⟨rfl, Hb3.out.trans (hbb.mono Hb3.out.size)⟩
          · have q1 : (m == 0) = false := by simpa using hm0
            have Hm0 := Lib.hid hm0
            by_cases hd : digI m < 0
            · have E : Hid (numG L = none) := Lib.hid (numG_fail (k := k + 1) (by rw [Hsn.out]; show (if m = 0 ∧ q = false then _ else _) = _; rw [if_neg (fun h => hm0 h.1), if_pos hd]))
              clear hm0
              go_wp2_with fail
              with_reducible refine (digitOf_c m _).mono ?_
              rintro e w' ⟨rfl, rfl⟩
              clear d1
              go_wp2
              go_ret2
              have hR9 := HRL.out
              rw [E.out] at hR9
              rw [hR9]
              exact ⟨rfl, Hb3.out.trans (hbb.mono Hb3.out.size)⟩
            · have E := Lib.hid (show numG (L.take (k + 1)) = some (10 * z + digI m, true) by rw [Hsn.out]; show (if m = 0 ∧ q = false then _ else _) = _; rw [if_neg (fun h => hm0 h.1), if_neg hd])
              clear hm0
              go_wp2_with fail
              with_reducible refine (digitOf_c m _).mono ?_
              rintro e w' ⟨rfl, rfl⟩
              clear d1
              go_wp2
              go_roundw
              case rel => exact ⟨k + 1, 10 * z + digI m, true, by omega, by go_num, rfl, rfl, E.out, hbb⟩
              case measure => simp [intOf]; omega
        · obtain rfl : k = p := by omega
          have hg := hst.out
          rw [List.take_of_length_le (by have := HLl.out; omega)] at hg
          have hR9 := HRL.out
          rw [hg] at hR9
          simp only at hR9
          have HR9 := Lib.hid hR9
          have hca := Own.cellAtQ Hu4.out HLl.out HlL.out
          have Hbf := Lib.hid (Hb3.out.trans (hbb.mono Hb3.out.size))
          clear hg hR9 hst
          cases q with
          | false =>
            go_wp2
            go_ret2
            rw [HR9.out, if_pos (.inl (by trivial))]
            exact ⟨rfl, Hbf.out⟩
          | true =>
            by_cases s0 : strip l = 0
            · have q0 : (strip l == 0) = true := by simpa using s0
              have S0 := Lib.hid s0
              clear s0
              go_wp2
              go_ret2
              rw [HR9.out, if_pos (.inr (.inl S0.out))]
              exact ⟨rfl, Hbf.out⟩
            · have q0 : (strip l == 0) = false := by simpa using s0
              have S0 := Lib.hid s0
              clear s0
              go_wp2
              go_ret2
              rw [HR9.out, if_neg (fun h => by rcases h with h | h | h; cases h; exact S0.out h; have h7 := h.1; rw [Hsg.out] at h7; cases h7), if_neg (by rw [Hsg.out]; decide)]
              exact ⟨rfl, Hbf.out⟩
end Go.Proofs.YtkpcdnbjngpooaaGreatDoor
namespace Go.Proofs.YtkpcdnbjngpooaaGreatDoor
open Go.ChangeShapes Go.WideShapes Go.ChangeAt Go.RowKit Go.Sort
set_option linter.unusedVariables false
set_option maxRecDepth 100000
def lyC (w : Int) (xs : List ItemT) (d : List (List Int)) : Int := if layB w xs = true ∧ deckB d = true then (if d.length = 0 ∨ ((d.headD []).length : Int) = w then 0 else 2) else 1
def dkC (w : Int) (xs : List ItemT) (d : List (List Int)) (nm : ByteArray) : Int := if lyC w xs d = 0 then (if idxI xs nm < 0 then 3 else 0) else lyC w xs d
def dkV (w : Int) (xs : List ItemT) (d : List (List Int)) (nm : ByteArray) : Int := if dkC w xs d nm = 0 then idxI xs nm else 0
theorem dk_bad {w : Int} {xs : List ItemT} {d : List (List Int)} {nm : ByteArray} {c : Int} (h : lyC w xs d = c) (hc : c ≠ 0) : dkC w xs d nm = c ∧ dkV w xs d nm = 0 := by
  have e : dkC w xs d nm = c := by unfold dkC; rw [h, if_neg hc]
  exact ⟨e, by unfold dkV; rw [e, if_neg hc]⟩
theorem dk_none {w : Int} {xs : List ItemT} {d : List (List Int)} {nm : ByteArray} (h : lyC w xs d = 0) (hi : idxI xs nm < 0) : dkC w xs d nm = 3 ∧ dkV w xs d nm = 0 := by
  have e : dkC w xs d nm = 3 := by unfold dkC; rw [if_pos h, if_pos hi]
  exact ⟨e, by unfold dkV; rw [e]; rfl⟩
theorem dk_some {w : Int} {xs : List ItemT} {d : List (List Int)} {nm : ByteArray} (h : lyC w xs d = 0) (hi : ¬ idxI xs nm < 0) : dkC w xs d nm = 0 ∧ dkV w xs d nm = idxI xs nm := by
  have e : dkC w xs d nm = 0 := by unfold dkC; rw [if_pos h, if_neg hi]
  exact ⟨e, by unfold dkV; rw [if_pos e]⟩
set_option maxHeartbeats 1000000 in
theorem l04Deck_c {xs : List ItemT} {v u : Value} {w : World} {A B C : Nat} {d : List (List Int)} (wd : Int) (nm : ByteArray) (hP : Box w B [.int .i64 wd, v]) (ha : RdItemS A w v xs) (hd : RdInt64SS C w u d) :
    Calls Tryz.prog 57 #[.pointer (some ⟨B, 0, none⟩), u, .string nm] w fun e w' => e = .returned (.tuple #[.int .i64 (dkV wd xs d nm), .int .i64 (dkC wd xs d nm)]) ∧ Below w.heap.size w w' := by
  have hle := hd.le
  obtain ⟨ao, cap, rfl⟩ := ha.shape
  have hd0 := hd
  obtain ⟨dao, dcap, rfl, ho⟩ := hd.open
  obtain ⟨n, hn⟩ : ∃ n, n = d.length := ⟨_, rfl⟩
  rw [← hn] at ho hle hd0 ⊢
  have Ha := Lib.hid ha
  have HP := Lib.hid hP
  have Hn := Lib.hid hn
  have Ho := Lib.hid ho
  have Hd := Lib.hid hd0
  clear hn ho ha hP hd hd0
  go_enter Tryz.func57, Tryz.ntmps57
  go_wp2_with fail
  with_reducible refine (l04Ok_c wd HP.out Ha.out).mono ?_
  cases hl : layB wd xs with
  | false =>
    have E := Lib.hid (dk_bad (nm := nm) (show lyC wd xs d = 1 from if_neg (fun h => by have h1 := h.1; rw [hl] at h1; cases h1)) (by decide))
    clear hl
    rintro e w1 ⟨rfl, hb⟩
    go_wp2
    go_ret2
    rw [E.out.1, E.out.2]
    exact ⟨rfl, hb⟩
  | true =>
    have Hl := Lib.hid hl
    clear hl
    rintro e w1 ⟨rfl, hb⟩
    have HP1 := Lib.hid (HP.out.on hb)
    have Ha1 := Lib.hid (Rds.onn Ha.out hb)
    have Hd1 := Lib.hid (Hd.out.onn hb)
    have Hb1 := Lib.hid hb
    clear hb
    go_wp2_with fail
    with_reducible refine (l02Deck_c Hd1.out).mono ?_
    cases hk : deckB d with
    | false =>
      have E := Lib.hid (dk_bad (nm := nm) (show lyC wd xs d = 1 from if_neg (fun h => by have h1 := h.2; rw [hk] at h1; cases h1)) (by decide))
      clear hk
      rintro e w2 ⟨rfl, m, rfl⟩
      go_wp2
      go_ret2
      rw [E.out.1, E.out.2]
      exact ⟨rfl, Hb1.out.drewNy _⟩
    | true =>
      have Hk := Lib.hid hk
      clear hk
      rintro e w2 ⟨rfl, m, rfl⟩
      have HP2 := Lib.hid (HP1.out.drewN m)
      have Ha2 := Lib.hid (Ha1.out.drewN m)
      have Hb2 := Lib.hid (Hb1.out.drewNy m)
      obtain ⟨W, hW⟩ : ∃ W, W = w1.drewN m := ⟨_, rfl⟩
      rw [← hW] at HP2 Ha2 Hb2 ⊢
      clear hW
      by_cases h0 : n = 0
      · have EL := Lib.hid (show lyC wd xs d = 0 from by unfold lyC; rw [if_pos ⟨Hl.out, Hk.out⟩, if_pos (.inl (by have := Hn.out; omega))])
        subst h0
        go_upto_region 3 with fail
        refine wp_region_quiet_below (by kernel_rfl) (by kernel_rfl) ?_
        repeat ((with_reducible refine wpQuiet_step (fun K hK => ?_)); go_simp; first | ((with_reducible refine hK _ ?_); clear hK K) | (apply Exists.intro; refine ⟨fun _ => ?_, hK _ ?_⟩; ((fail)); clear hK K))
        refine wpQuiet_nil ?_
        intro _ hw'
        obtain ⟨⟨dq, osq⟩, hw''⟩ := hw'
        subst hw''
        have hbq := below_regrown W dq osq
        generalize grow (redrawn W dq) osq = wq at hbq ⊢
        have HP3 := Lib.hid (HP2.out.on hbq)
        have Ha3 := Lib.hid (Rds.onn Ha2.out hbq)
        have Hq := Lib.hid (Hb2.out.trans (hbq.mono Hb2.out.size))
        clear hbq
        go_wp2_with fail
        with_reducible refine (l04Find_c wd nm HP3.out Ha3.out).mono ?_
        by_cases hi : idxI xs nm < 0
        · have E := Lib.hid (dk_none EL.out hi)
          rintro e w' ⟨rfl, rfl⟩
          go_wp2
          go_ret2
          rw [E.out.1, E.out.2]
          exact ⟨rfl, Hq.out⟩
        · have E := Lib.hid (dk_some EL.out hi)
          rintro e w' ⟨rfl, rfl⟩
          go_wp2
          go_ret2
          rw [E.out.1, E.out.2]
          exact ⟨rfl, Hq.out⟩
      · obtain ⟨b, off, rfl, hlt, hc⟩ := Ho.out (by have := Hn.out; omega)
        obtain ⟨x, ro, rc, hx, hcell, hrd⟩ := hc 0 (by have := Hn.out; omega)
        have hxl := hrd.le
        have hh := head_of hx
        have f0 := cell_regrown ((Hb2.out.cell (p := ⟨b, off + 0, none⟩) hlt.2).trans hcell)
        have f1 := cell_regrown (HP2.out.cell 0 _ rfl)
        have hn0 : 0 < n := by omega
        have hn1 : (0 : Int) < (n : Int) := by omega
        rw [Nat.add_zero] at f0
        clear hc hcell hrd
        by_cases hw : (x.length : Int) = wd
        · have EL := Lib.hid (show lyC wd xs d = 0 from by unfold lyC; rw [if_pos ⟨Hl.out, Hk.out⟩, if_pos (.inr (by rw [hh]; exact hw))])
          have q1 : ((x.length : Int) != wd) = false := by simpa using hw
          clear hw hh hx
          generalize x.length = m at f0 q1 hxl
          go_upto_region 3 with fail
          refine wp_region_quiet_below (by kernel_rfl) (by kernel_rfl) ?_
          repeat ((with_reducible refine wpQuiet_step (fun K hK => ?_)); go_simp; first | ((with_reducible refine hK _ ?_); clear hK K) | (apply Exists.intro; refine ⟨fun _ => ?_, hK _ ?_⟩; ((fail)); clear hK K))
          refine wpQuiet_nil ?_
          intro _ hw'
          obtain ⟨⟨dq, osq⟩, hw''⟩ := hw'
          subst hw''
          have hbq := below_regrown W dq osq
          generalize grow (redrawn W dq) osq = wq at hbq ⊢
          have HP3 := Lib.hid (HP2.out.on hbq)
          have Ha3 := Lib.hid (Rds.onn Ha2.out hbq)
          have Hq := Lib.hid (Hb2.out.trans (hbq.mono Hb2.out.size))
          clear hbq f0 f1 q1
          go_wp2_with fail
          with_reducible refine (l04Find_c wd nm HP3.out Ha3.out).mono ?_
          by_cases hi : idxI xs nm < 0
          · have E := Lib.hid (dk_none EL.out hi)
            rintro e w' ⟨rfl, rfl⟩
            go_wp2
            go_ret2
            rw [E.out.1, E.out.2]
            exact ⟨rfl, Hq.out⟩
          · have E := Lib.hid (dk_some EL.out hi)
            rintro e w' ⟨rfl, rfl⟩
            go_wp2
            go_ret2
            rw [E.out.1, E.out.2]
            exact ⟨rfl, Hq.out⟩
        · have E := Lib.hid (dk_bad (nm := nm) (show lyC wd xs d = 2 from by unfold lyC; rw [if_pos ⟨Hl.out, Hk.out⟩, if_neg (fun h => h.elim (fun e => h0 (by have := Hn.out; omega)) (fun e => hw (by rw [hh] at e; exact e)))]) (by decide))
          have q1 : ((x.length : Int) != wd) = true := by simpa using hw
          clear hw hh hx
          generalize x.length = m at f0 q1 hxl
          go_upto_region 3 with fail
          refine wp_region_quiet_below (by kernel_rfl) (by kernel_rfl) ?_
          repeat ((with_reducible refine wpQuiet_step (fun K hK => ?_)); go_simp; first | ((with_reducible refine hK _ ?_); clear hK K) | (apply Exists.intro; refine ⟨fun _ => ?_, hK _ ?_⟩; ((fail)); clear hK K))
          refine wpQuiet_nil ?_
          intro _ hw'
          obtain ⟨⟨dq, osq⟩, hw''⟩ := hw'
          subst hw''
          have hbq := below_regrown W dq osq
          generalize grow (redrawn W dq) osq = wq at hbq ⊢
          have Hq := Lib.hid (Hb2.out.trans (hbq.mono Hb2.out.size))
          clear hbq f0 f1 q1
          go_wp2
          go_ret2
          rw [E.out.1, E.out.2]
          exact ⟨rfl, Hq.out⟩
def itV (w : Int) (xs : List ItemT) (d : List (List Int)) (nm : ByteArray) : Int := if payC true w xs d = 0 then idxI xs nm else 0
theorem it_ly {w : Int} {xs : List ItemT} {d : List (List Int)} : (lyC w xs d = 0 → payC true w xs d = if ¬ idxI xs whoT < 0 ∧ ¬ idxI xs hrsT < 0 then (if (itAt xs whoT).kd = 1 ∧ (itAt xs hrsT).kd = 2 then 0 else 6) else 3) ∧ (lyC w xs d ≠ 0 → payC true w xs d = lyC w xs d) := by
  unfold lyC payC
  by_cases h1 : layB w xs = true ∧ deckB d = true
  · have g : layB w xs = true ∧ true = true ∧ deckB d = true := ⟨h1.1, rfl, h1.2⟩
    by_cases h3 : d.length = 0 ∨ ((d.headD []).length : Int) = w
    · refine ⟨fun _ => ?_, fun h => absurd ?_ h⟩
      · rw [if_pos g, if_pos h3]
      · rw [if_pos h1, if_pos h3]
    · refine ⟨fun h => ?_, fun _ => ?_⟩
      · rw [if_pos h1, if_neg h3] at h; cases h
      · rw [if_pos h1, if_pos g, if_neg h3, if_neg h3]
  · have g : ¬ (layB w xs = true ∧ true = true ∧ deckB d = true) := fun h => h1 ⟨h.1, h.2.2⟩
    refine ⟨fun h => ?_, fun _ => ?_⟩
    · rw [if_neg h1] at h; cases h
    · rw [if_neg h1, if_neg g]
theorem it_bad {w : Int} {xs : List ItemT} {d : List (List Int)} {c : Int} (h : payC true w xs d = c) (hc : c ≠ 0) : ∀ nm, itV w xs d nm = 0 := fun nm => by unfold itV; rw [h, if_neg hc]
set_option maxHeartbeats 1000000 in
theorem l23Items_c {xs : List ItemT} {v u : Value} {w : World} {A B C : Nat} {d : List (List Int)} (wd : Int) (hP : Box w B [.int .i64 wd, v]) (ha : RdItemS A w v xs) (hd : RdInt64SS C w u d) :
    Calls Tryz.prog 26 #[.pointer (some ⟨B, 0, none⟩), u] w fun e w' => e = .returned (.tuple #[.int .i64 (itV wd xs d whoT), .int .i64 (itV wd xs d hrsT), .int .i64 (payC true wd xs d)]) ∧ Below w.heap.size w w' := by
  have hle := ha.le
  have Ha := Lib.hid ha
  obtain ⟨ao, cap, rfl, ho⟩ := eItem_open ha
  obtain ⟨dao, dcap, rfl⟩ := hd.shape
  obtain ⟨n, hn⟩ : ∃ n, n = xs.length := ⟨_, rfl⟩
  rw [← hn] at hP ho hle Ha
  have HP := Lib.hid hP
  have Hn := Lib.hid hn
  have Ho := Lib.hid ho
  have Hd := Lib.hid hd
  clear hn ho ha hP hd
  go_enter Tryz.func26, Tryz.ntmps26
  go_wp2_with fail
  with_reducible refine (l04Deck_c wd whoT HP.out Ha.out Hd.out).mono ?_
  by_cases hl : lyC wd xs d = 0
  · by_cases hi : idxI xs whoT < 0
    · have E := dk_none hl hi
      have E3 : Hid (payC true wd xs d = 3) := Lib.hid (by rw [it_ly.1 hl, if_neg (fun h => h.1 hi)])
      have E4 := Lib.hid (it_bad E3.out (by decide))
      rw [E.1, E.2]
      clear E hl hi
      rintro e w1 ⟨rfl, hb⟩
      go_wp2
      refine bodyPost_ret (v := .tuple #[.int .i64 0, .int .i64 0, .int .i64 3]) (by simp [results, Tryz.results26, go_sem]) rfl ⟨?_, hb⟩
      rw [E4.out, E4.out, E3.out]
    · have E := dk_some hl hi
      obtain ⟨k1, a, hk1, hka⟩ := idx_at hi
      have hia := itAt_of hk1 hka
      rw [E.1, E.2, hk1]
      have Hly := Lib.hid hl
      have Hi1 := Lib.hid hi
      have Hk1 := Lib.hid hk1
      have Hia := Lib.hid hia
      have Hka := Lib.hid hka
      clear E hl hi hk1 hia hka
      rintro e w1 ⟨rfl, hb⟩
      have HP1 := Lib.hid (HP.out.on hb)
      have Ha1 := Lib.hid (Rds.onn Ha.out hb)
      have Hb1 := Lib.hid hb
      clear hb
      go_wp2_with fail
      with_reducible refine (l04Find_c wd hrsT HP1.out Ha1.out).mono ?_
      by_cases hi2 : idxI xs hrsT < 0
      · have E3 : Hid (payC true wd xs d = 3) := Lib.hid (by rw [it_ly.1 Hly.out, if_neg (fun h => h.2 hi2)])
        have E4 := Lib.hid (it_bad E3.out (by decide))
        rintro e w' ⟨rfl, rfl⟩
        go_wp2
        refine bodyPost_ret (v := .tuple #[.int .i64 0, .int .i64 0, .int .i64 3]) (by simp [results, Tryz.results26, go_sem]) rfl ⟨?_, Hb1.out⟩
        rw [E4.out, E4.out, E3.out]
      · obtain ⟨k2, c, hk2, hkc⟩ := idx_at hi2
        have hic := itAt_of hk2 hkc
        rw [hk2]
        rintro e w' ⟨rfl, rfl⟩
        obtain ⟨b, off, rfl, hlt, hc⟩ := Ho.out (by have := at_lt hkc; have := Hn.out; omega)
        obtain ⟨a', ha', ⟨_, c1, _, _⟩, ba⟩ := hc k1 (by have := at_lt Hka.out; have := Hn.out; omega)
        obtain rfl : a' = a := by have h := Hka.out; rw [h] at ha'; exact (Option.some.inj ha').symm
        obtain ⟨c', hc', ⟨_, d1, _, _⟩, bc⟩ := hc k2 (by have := at_lt hkc; have := Hn.out; omega)
        obtain rfl : c' = c := by rw [hkc] at hc'; exact (Option.some.inj hc').symm
        have hl1 : k1 < n := by have := at_lt Hka.out; have := Hn.out; omega
        have hl2 : k2 < n := by have := at_lt hkc; have := Hn.out; omega
        have e1 := (Hb1.out.cell (p := ⟨b, off + k1 * 4 + 1, none⟩) hlt.2).trans c1
        have g1 := (Hb1.out.cell (p := ⟨b, off + k2 * 4 + 1, none⟩) hlt.2).trans d1
        have p1 := HP1.out.cell 1 _ rfl
        have hle1 : k1 < 9223372036854775807 := by omega
        have hle2 : k2 < 9223372036854775807 := by omega
        have Hi2 := Lib.hid hi2
        have Hk2 := Lib.hid hk2
        have Hic := Lib.hid hic
        clear hi2 hk2 hkc hic hc ha' c1 ba hc' d1 bc
        by_cases p2 : a'.kd = 1
        · by_cases p3 : c'.kd = 2
          · have E3 : Hid (payC true wd xs d = 0) := Lib.hid (by rw [it_ly.1 Hly.out, if_pos ⟨by have := Hi1.out; omega, by have := Hi2.out; omega⟩, if_pos ⟨by rw [Hia.out]; exact p2, by rw [Hic.out]; exact p3⟩])
            have E4 : Hid (itV wd xs d whoT = k1 ∧ itV wd xs d hrsT = k2) := Lib.hid ⟨by unfold itV; rw [if_pos E3.out]; exact Hk1.out, by unfold itV; rw [if_pos E3.out]; exact Hk2.out⟩
            have q1 : (a'.kd != 1) = false := by simpa using p2
            have q2 : (c'.kd != 2) = false := by simpa using p3
            go_wp2
            refine bodyPost_ret (v := .tuple #[.int .i64 (k1 : Int), .int .i64 (k2 : Int), .int .i64 0]) (by simp [results, Tryz.results26, go_sem]) rfl ⟨?_, Hb1.out⟩
            rw [E4.out.1, E4.out.2, E3.out]
          · have E3 : Hid (payC true wd xs d = 6) := Lib.hid (by rw [it_ly.1 Hly.out, if_pos ⟨by have := Hi1.out; omega, by have := Hi2.out; omega⟩, if_neg (fun h => p3 (by have := h.2; rw [Hic.out] at this; exact this))])
            have E4 := Lib.hid (it_bad E3.out (by decide))
            have q1 : (a'.kd != 1) = false := by simpa using p2
            have q2 : (c'.kd != 2) = true := by simpa using p3
            go_wp2
            refine bodyPost_ret (v := .tuple #[.int .i64 0, .int .i64 0, .int .i64 6]) (by simp [results, Tryz.results26, go_sem]) rfl ⟨?_, Hb1.out⟩
            rw [E4.out, E4.out, E3.out]
        · have E3 : Hid (payC true wd xs d = 6) := Lib.hid (by rw [it_ly.1 Hly.out, if_pos ⟨by have := Hi1.out; omega, by have := Hi2.out; omega⟩, if_neg (fun h => p2 (by have := h.1; rw [Hia.out] at this; exact this))])
          have E4 := Lib.hid (it_bad E3.out (by decide))
          have q1 : (a'.kd != 1) = true := by simpa using p2
          go_wp2
          refine bodyPost_ret (v := .tuple #[.int .i64 0, .int .i64 0, .int .i64 6]) (by simp [results, Tryz.results26, go_sem]) rfl ⟨?_, Hb1.out⟩
          rw [E4.out, E4.out, E3.out]
  · obtain ⟨c, hc⟩ : ∃ c, lyC wd xs d = c := ⟨_, rfl⟩
    have hc0 : c ≠ 0 := by rw [← hc]; exact hl
    have E := dk_bad (nm := whoT) hc hc0
    have E3 : Hid (payC true wd xs d = c) := Lib.hid (by rw [it_ly.2 hl, hc])
    have E4 := Lib.hid (it_bad E3.out hc0)
    have q1 : (c != 0) = true := by simpa using hc0
    rw [E.1, E.2]
    clear E hl hc hc0
    rintro e w1 ⟨rfl, hb⟩
    go_wp2
    refine bodyPost_ret (v := .tuple #[.int .i64 0, .int .i64 0, .int .i64 c]) (by simp [results, Tryz.results26, go_sem]) rfl ⟨?_, hb⟩
    rw [E4.out, E4.out, E3.out]
end Go.Proofs.YtkpcdnbjngpooaaGreatDoor
namespace Go.Proofs.YtkpcdnbjngpooaaGreatDoor
open Go.ChangeShapes Go.WideShapes Go.ChangeAt Go.RowKit Go.Sort
set_option linter.unusedVariables false
set_option maxRecDepth 100000
theorem l03Order_c (w : World) : Calls Tryz.prog 127 #[] w fun e w' => e = .returned (.string charsB) ∧ w = w' := by
  go_enter Tryz.func127, Tryz.ntmps127
  go_wp2
  go_ret
  exact ⟨rfl, rfl⟩
theorem l03Char_c (m : Int) (w : World) : Calls Tryz.prog 102 #[.int .i64 m] w fun e w' => e = .returned (.tuple #[.int .u8 (if rkI m < 0 then 0 else chrI m), .bool (!noCh m)]) ∧ w = w' := by
  obtain ⟨S, hS⟩ : ∃ S, S = charsB := ⟨_, rfl⟩
  have hsz : S.size = 40 := by rw [hS]; decide +kernel
  have hix0 : ∀ (k : Nat), k < 40 → ∀ w, (Instr.index 9 (.string S) (.int .i64 (k : Int))).run Tryz.prog w = .ok (.int .u8 (chA k)) w := by intro k hk w; rw [hS]; exact chars_run hk w
  have Hix := Lib.hid hix0
  have ho := l03Order_c w
  rw [← hS] at ho
  have Ho := Lib.hid ho
  obtain ⟨r, hr⟩ : ∃ r, r = (if rkI m < 0 then 0 else chrI m) := ⟨_, rfl⟩
  obtain ⟨t, ht⟩ : ∃ t, t = !noCh m := ⟨_, rfl⟩
  rw [← hr, ← ht]
  have Hr := Lib.hid hr
  have Ht := Lib.hid ht
  clear ho hS hix0 hr ht
  go_enter Tryz.func102, Tryz.ntmps102
  go_wp2_with fail
  with_reducible refine Ho.out.mono ?_
  rintro e w' ⟨rfl, rfl⟩
  go_wp2
  go_loop [5] (fun i => ∃ k : Nat, k ≤ 40 ∧ i = .int .i64 k ∧ Hid (∀ j, j < k → codeI (chA j) ≠ m)) (fun i => 40 - (intOf i).toNat)
  case atStart => exact ⟨0, by decide, rfl, fun j hj => absurd hj (Nat.not_lt_zero _)⟩
  case round =>
    obtain ⟨k, hk, rfl, hp⟩ := hrel
    by_cases hkn : k < 40
    · have hix := Hix.out k hkn
      have hcb := chA_bd ⟨k, hkn⟩
      have Hcb := Lib.hid hcb
      obtain ⟨c, hc⟩ : ∃ c, c = chA k := ⟨_, rfl⟩
      rw [← hc] at hix
      have Hc := Lib.hid hc
      have hc0 : 0 ≤ c ∧ c ≤ 255 := by rw [hc]; exact ⟨hcb.1, hcb.2.1⟩
      have Hc0 := Lib.hid hc0
      have hki : (k : Int) < 40 := by omega
      clear hcb hc hc0
      cases hq : (codeI c == m) with
      | true =>
        have Hq := Lib.hid (beq_iff_eq.1 hq)
        go_wp2_with fail
        with_reducible refine (l03Code_c c _ Hc0.out).mono ?_
        rintro e w' ⟨rfl, rfl⟩
        go_wp2
        go_ret2
        have hr := rk_found hkn (by rw [← Hc.out]; exact Hq.out) hp.out
        have hn : noCh m = false := by unfold noCh; rw [hr]; exact decide_eq_false (by omega)
        have hch : chrI m = c := by unfold chrI; rw [hr, Int.toNat_natCast, Hc.out]
        have e1 : r = c := by rw [Hr.out, if_neg (by rw [hr]; omega), hch]
        have e2 : t = true := by rw [Ht.out, hn]; rfl
        rw [e1, e2]
        exact ⟨rfl, rfl⟩
      | false =>
        have Hq : Hid (codeI c ≠ m) := Lib.hid (by simpa using hq)
        go_wp2_with fail
        with_reducible refine (l03Code_c c _ Hc0.out).mono ?_
        rintro e w' ⟨rfl, rfl⟩
        clear hix
        go_wp2
        go_round
        case rel => exact ⟨k + 1, by omega, by go_num, fun j hj => by rcases Nat.lt_succ_iff_lt_or_eq.1 hj with hj | rfl; exact hp.out j hj; rw [← Hc.out]; exact Hq.out⟩
        case measure => simp [intOf]; omega
    · obtain rfl : k = 40 := by omega
      go_wp2
      go_ret2
      have hr := rk_none hp.out
      have hn : noCh m = true := by unfold noCh; rw [hr]; rfl
      have e1 : r = 0 := by rw [Hr.out, hr]; rfl
      have e2 : t = false := by rw [Ht.out, hn]; rfl
      rw [e1, e2]
      exact ⟨rfl, rfl⟩
/-- the text of columns; empty if one has no character -/
def txV (h : List Int) : ByteArray := if okTx h = true then toB (txI h) else ⟨#[]⟩
theorem l03Text_c {h : List Int} {v : Value} {w : World} {A : Nat} (hl : h.length ≤ 1000) (ha : RdI A w v h) :
    Calls Tryz.prog 70 #[v] w fun e w' => e = .returned (.tuple #[.string (txV h), .bool (okTx h)]) ∧ Below w.heap.size w w' := by
  obtain ⟨i0, hi, hz0, hz1, hz2⟩ := info_parts Tryz.infoU8t
  have HR0 : Hid (Own eB 5 w.heap.size (w.alloc (.cells #[] 5)) (.slice (some ⟨w.heap.size, 0, none⟩) 0 0) ([] : List Int)) := Lib.hid (Own.lit (E := eB) (xs := []) (cs := #[]) (Nat.le_refl _) rfl rfl (by decide) (fun x hx => by cases hx))
  have HB0 : Hid (Below w.heap.size w (w.alloc (.cells #[] 5))) := Lib.hid ((Below.refl _ _).alloc (Nat.le_refl _) _)
  obtain ⟨ao, cap, rfl, hop⟩ := RdI.open ha
  obtain ⟨n, hn⟩ : ∃ n, n = h.length := ⟨_, rfl⟩
  rw [← hn] at hl hop ⊢
  have Hn := Lib.hid hn
  have Ho := Lib.hid hop
  clear hop hn ha
  go_enter Tryz.func70, Tryz.ntmps70
  go_wp2
  go_loopw [4, 5] (fun ov i wr => ∃ k : Nat, k ≤ n ∧ i = .int .i64 k ∧ Hid (okTx (h.take k) = true) ∧ Own eB 5 w.heap.size wr ov (txI (h.take k)) ∧ Below w.heap.size w wr) (fun _ i _ => n - (intOf i).toNat)
  case atStart => exact ⟨0, Nat.zero_le _, rfl, rfl, HR0.out, HB0.out⟩
  case round =>
    obtain ⟨k, hk, rfl, hok, hR, hb⟩ := hrel
    clear HR0 HB0
    by_cases hkn : k < n
    · obtain ⟨b, off, rfl, hlt, hc⟩ := Ho.out (by omega)
      obtain ⟨m, hm, hcm, bm⟩ := hc k hkn
      have d1 := (hb.cell (p := ⟨b, off + k, none⟩) hlt.2).trans hcm
      obtain ⟨ro, rc, hro⟩ := hR.shape
      subst hro
      by_cases hnc : rkI m < 0
      · have hnm : noCh m = true := decide_eq_true hnc
        have E : Hid (okTx h = false) := Lib.hid (by
          unfold okTx
          have : h.any noCh = true := List.any_eq_true.2 ⟨m, List.mem_of_getElem? hm, hnm⟩
          rw [this]; rfl)
        have Hnm := Lib.hid hnm
        have HB := Lib.hid hb
        have Hneg := Lib.hid hnc
        clear hR hb hc hm hcm hnm hnc
        go_wp2_with fail
        with_reducible refine (l03Char_c m _).mono ?_
        rw [Hnm.out, if_pos (by have := Hneg.out; omega)]
        rintro e w2 ⟨rfl, rfl⟩
        clear d1
        go_wp2
        go_ret2
        unfold txV
        rw [E.out]
        exact ⟨rfl, HB.out⟩
      · obtain ⟨q, hq, hrk, hch⟩ := rk_neg hnc
        have hnm : noCh m = false := decide_eq_false hnc
        have htx : txI (h.take (k + 1)) = txI (h.take k) ++ [chrI m] := by unfold txI; rw [take_snoc hm, List.map_append]; rfl
        have hok2 : okTx (h.take (k + 1)) = true := by
          have h1 := hok.out
          unfold okTx at h1 ⊢
          rw [take_snoc hm, List.any_append]
          have h2 : (h.take k).any noCh = false := by simpa using h1
          rw [h2]
          simp [hnm]
        have hlk : (txI (h.take k)).length ≤ k := by unfold txI; rw [List.length_map]; exact List.length_take_le _ _
        have Hdg : Hid (eB.ok (chrI m)) := Lib.hid (by rw [hch]; have := chA_bd ⟨q, hq⟩; show 0 ≤ chA q ∧ chA q ≤ 255; exact ⟨this.1, this.2.1⟩)
        have HR := Lib.hid hR
        have HB := Lib.hid hb
        have Htx := Lib.hid htx
        have Hok2 := Lib.hid hok2
        have Hnm := Lib.hid hnm
        have Hnc := Lib.hid hnc
        clear hR hb hc hm hcm hnc hrk hch htx hok2 hnm
        go_wp2_with fail
        with_reducible refine (l03Char_c m _).mono ?_
        rw [Hnm.out, if_neg (by have := Hnc.out; omega)]
        rintro e w2 ⟨rfl, rfl⟩
        clear d1
        go_wp2_with (first | (at_builtin; refine wpList_appS (E := eB) rfl _ _ 22 rfl Tryz.underlying22 hi hz0 hz1 hz2 rfl (by decide) rfl rfl (HR.out.alloc _) (rds_one (E := eB) (x := chrI m) Hdg.out rfl) ?b1 ?b2 ?b3 ?_))
        case b1 => unfold maxLen; (try simp) <;> omega
        case b2 => (try simp) <;> omega
        case b3 => have := HB.out.size; (try simp) <;> omega
        intro s2 w2 hR2 hg
        have hb2 : Below w.heap.size w w2 := hg.alloc.below HB.out HB.out.size (fun j hj => (HR.out.lt j hj).1)
        have HR2 := Lib.hid hR2
        have HB2 := Lib.hid hb2
        clear hR2 hg hb2 HR HB
        go_wp2
        go_roundw
        case rel => exact ⟨k + 1, by omega, by go_num, Hok2, by rw [Htx.out]; exact HR2.out, HB2.out⟩
        case measure => simp [intOf]; omega
    · obtain rfl : k = n := by omega
      rw [List.take_of_length_le (by have := Hn.out; omega)] at hok hR
      have hbt := bytesI_toB (txI_bd hok.out)
      rw [← hbt] at hR
      have hcv := conv_own hR
      obtain ⟨ro, rc, hrv⟩ := hR.shape
      have HB := Lib.hid hb
      have E : Hid (txV h = toB (txI h)) := Lib.hid (if_pos hok.out)
      subst hrv
      clear hR hb hbt
      go_wp2
      go_ret2
      rw [E.out, hok.out]
      exact ⟨rfl, HB.out⟩
theorem l02Part_c {b off cb co n cap : Nat} {w : World} (x y : Int) (hx : 0 ≤ x) (hxy : x < y) (hy : y ≤ n) (hnc : n ≤ cap) (hcap : cap ≤ 9223372036854775807) (hcell : w.cell? ⟨b, off, none⟩ = some (.slice (some ⟨cb, co, none⟩) n cap)) (hb : b < w.heap.size) :
    Calls Tryz.prog 60 #[.pointer (some ⟨b, off, none⟩), .agg #[.int .i64 x, .int .i64 y]] w fun e w' => e = .returned (.slice (some ⟨cb, co + x.toNat, none⟩) (y.toNat - x.toNat) (cap - x.toNat)) ∧ Below w.heap.size w w' := by
  obtain ⟨lo, rfl⟩ := Int.eq_ofNat_of_zero_le hx
  obtain ⟨hi, rfl⟩ := Int.eq_ofNat_of_zero_le (show 0 ≤ y by omega)
  simp only [Int.toNat_natCast]
  obtain ⟨W, hW⟩ : ∃ W, W = w.alloc (.cells #[.int .i64 (lo : Int), .int .i64 (hi : Int)] 53) := ⟨_, rfl⟩
  have hb0 : Below w.heap.size w W := by rw [hW]; exact (Below.refl _ _).alloc (Nat.le_refl _) _
  have hF : Box W w.heap.size [.int .i64 (lo : Int), .int .i64 (hi : Int)] := by rw [hW]; exact Box.new w [.int .i64 (lo : Int), .int .i64 (hi : Int)] 53
  have HW := Lib.hid hW
  have Hb0 := Lib.hid hb0
  have f0 := cell_regrown ((hb0.cell (p := ⟨b, off, none⟩) hb).trans hcell)
  have f1 := cell_regrown (hF.cell 0 _ rfl)
  have f2 := cell_regrown (hF.cell 1 _ rfl)
  have h1 : lo < hi := by omega
  have h2 : hi ≤ n := by omega
  have h3 : hi ≤ cap := by omega
  have h4 : ¬ cap = lo := by omega
  have h5 : lo ≤ hi := by omega
  clear hW hb0 hF hcell hx hxy hy
  go_enter Tryz.func60, Tryz.ntmps60
  go_upto_region 1 with fail
  rw [← HW.out]
  refine wp_region_quiet_below (by kernel_rfl) (by kernel_rfl) ?_
  repeat ((with_reducible refine wpQuiet_step (fun K hK => ?_)); go_simp; first | ((with_reducible refine hK _ ?_); clear hK K) | (apply Exists.intro; refine ⟨fun _ => ?_, hK _ ?_⟩; ((fail)); clear hK K))
  refine wpQuiet_nil ?_
  intro _ hw'
  obtain ⟨⟨dq, osq⟩, hw''⟩ := hw'
  subst hw''
  have hbq := below_regrown W dq osq
  generalize grow (redrawn W dq) osq = wq at hbq ⊢
  have hb := Hb0.out.trans (hbq.mono Hb0.out.size)
  clear hbq f0 f1 f2
  go_wp2
  go_ret
  exact ⟨rfl, hb⟩
end Go.Proofs.YtkpcdnbjngpooaaGreatDoor
namespace Go.Proofs.YtkpcdnbjngpooaaGreatDoor
open Go.ChangeShapes Go.WideShapes Go.ChangeAt Go.RowKit Go.Sort
set_option linter.unusedVariables false
set_option maxRecDepth 100000
theorem toB_take (a b : List Int) : (toB (a ++ b)).extract 0 a.length = toB a := by
  have h : ((toB (a ++ b)).extract 0 a.length).data.toList = (toB a).data.toList := by
    rw [Lib.extract_data]
    unfold toB
    simp
  have e := Array.toList_inj.1 h
  cases hx : (toB (a ++ b)).extract 0 a.length with
  | mk d =>
    rw [hx] at e
    cases hy : toB a with
    | mk d' =>
      rw [hy] at e
      rw [show d = d' from e]
theorem toB_last {a : List Int} {z : Int} (h : 0 ≤ z ∧ z ≤ 255) (hb : ∀ c ∈ a, 0 ≤ c ∧ c ≤ 255) (w : World) : (Instr.index 9 (.string (toB (a ++ [z]))) (.int .i64 (a.length : Int))).run Tryz.prog w = .ok (.int .u8 z) w := by
  have hs : (toB (a ++ [z])).size = a.length + 1 := by rw [toB_size]; simp
  have hall : ∀ c ∈ a ++ [z], 0 ≤ c ∧ c ≤ 255 := by
    intro c hc
    rcases List.mem_append.1 hc with hc | hc
    · exact hb c hc
    · rw [List.mem_singleton.1 hc]; exact h
  have h1 := bytesI_at (toB (a ++ [z])) a.length (by rw [hs]; omega)
  rw [bytesI_toB hall] at h1
  have h2 : (a ++ [z])[a.length]? = some z := by simp
  rw [h2] at h1
  have h3 := Option.some.inj h1
  rw [run_index_string w 9 (toB (a ++ [z])) .i64 (a.length : Int) Tryz.underlying9, dif_pos ⟨by omega, by rw [hs]; omega⟩]
  have e : (((toB (a ++ [z]))[(a.length : Int).toNat]'(by rw [hs]; omega)).toNat : Int) = z := h3.symm
  rw [e]
/-- the value's text; of no use where a column has no character -/
theorem l04Value_c {c : List Int} {b off ib io cb co n cap : Nat} {w : World} {A : Nat} (x : ItemT) (hk : x.kd = 1) (hx : 0 ≤ x.ff) (hxy : x.ff < x.ft) (hy : x.ft ≤ n) (hn : n ≤ 20)
    (c1 : w.cell? ⟨ib, io + 1, none⟩ = some (.int .i64 x.kd)) (c2 : w.cell? ⟨ib, io + 2, none⟩ = some (.int .i64 x.ff)) (c3 : w.cell? ⟨ib, io + 3, none⟩ = some (.int .i64 x.ft)) (hib : ib < w.heap.size)
    (hcell : w.cell? ⟨b, off, none⟩ = some (.slice (some ⟨cb, co, none⟩) n cap)) (hb : b < w.heap.size) (ha : RdI A w (.slice (some ⟨cb, co, none⟩) n cap) c) :
    Calls Tryz.prog 37 #[.pointer (some ⟨ib, io, none⟩), .pointer (some ⟨b, off, none⟩)] w fun e w' => e = .returned (.tuple #[.string (whoV (partC c x.ff x.ft)), .bool (okTx (partC c x.ff x.ft))]) ∧ Below w.heap.size w w' := by
  have hc := Rds.cap ha
  have hcap := hc.2.2 (by omega)
  have Hpart := Lib.hid (fun w' (h : Below w.heap.size w w') => Rds.part (Rds.onn ha h) hx hxy hy)
  have Hlp := Lib.hid (l02Part_c x.ff x.ft hx hxy hy hc.1 hcap hcell hb)
  have hpl : (partC c x.ff x.ft).length ≤ 1000 := by
    unfold partC
    rw [List.length_drop, List.length_take]
    omega
  obtain ⟨h, hh⟩ : ∃ h, h = partC c x.ff x.ft := ⟨_, rfl⟩
  rw [← hh] at Hpart hpl ⊢
  have Hpl := Lib.hid hpl
  have q2 : (x.kd == 2) = false := by rw [hk]; decide
  clear hc hcap hpl hh hk hx hxy hy hcell
  go_enter Tryz.func37, Tryz.ntmps37
  go_wp2_with fail
  with_reducible refine Hlp.out.mono ?_
  rintro e w1 ⟨rfl, hb1⟩
  have Hb1 := Lib.hid hb1
  have d1 := (hb1.cell (p := ⟨ib, io + 1, none⟩) hib).trans c1
  have Hp1 := Lib.hid (Hpart.out w1 hb1)
  clear hb1 c1 c2 c3
  go_wp2_with fail
  with_reducible refine (l03Text_c Hpl.out Hp1.out).mono ?_
  rintro e w2 ⟨rfl, hb2⟩
  have Hb2 := Lib.hid (Hb1.out.trans (hb2.mono Hb1.out.size))
  clear hb2 d1
  cases ho : okTx h with
  | false =>
    have E1 : Hid (txV h = ⟨#[]⟩) := Lib.hid (if_neg (by rw [ho]; decide))
    have E2 : Hid (whoV h = ⟨#[]⟩) := Lib.hid (if_neg (by rw [ho]; decide))
    have Ho := Lib.hid ho
    rw [E1.out]
    clear ho
    go_wp2
    go_rounds 1
    go_ret2
    rw [E2.out, Ho.out]
    exact ⟨rfl, Hb2.out⟩
  | true =>
    have E2 : Hid (whoV h = toB (trimL (txI h))) := Lib.hid (if_pos ho)
    have E1 : Hid (txV h = toB (txI h)) := Lib.hid (if_pos ho)
    have Hbd := Lib.hid (txI_bd ho)
    have hl1 : (txI h).length ≤ 1000 := by unfold txI; rw [List.length_map]; exact Hpl.out
    obtain ⟨L, hL⟩ : ∃ L, L = txI h := ⟨_, rfl⟩
    rw [← hL] at E1 E2 Hbd hl1
    rw [E1.out]
    have Ho := Lib.hid ho
    have Hl1 := Lib.hid hl1
    clear ho hL hl1
    obtain ⟨S, hS⟩ : ∃ S, S = toB L := ⟨_, rfl⟩
    rw [← hS]
    have HS := Lib.hid hS
    clear hS
    go_wp2
    go_loop [9] (fun tv => ∃ (l : List Int) (T : ByteArray), tv = .string T ∧ Hid (T = toB l ∧ trimL l = trimL L ∧ l.length ≤ 1000 ∧ ∀ c ∈ l, 0 ≤ c ∧ c ≤ 255)) (fun tv => match tv with | .string T => T.size | _ => 0)
    case atStart => exact ⟨L, S, rfl, Lib.hid ⟨HS.out, rfl, Hl1.out, Hbd.out⟩⟩
    case round =>
      obtain ⟨l, T, rfl, hst⟩ := hrel
      obtain ⟨hT, htr, hll, hbd⟩ := hst.out
      have hsz : T.size = l.length := by rw [hT, toB_size]
      by_cases hl0 : l = []
      · subst hl0
        have hT0 : T = ⟨#[]⟩ := hT
        have F : Hid (toB (trimL L) = ⟨#[]⟩) := Lib.hid (by rw [← htr]; rfl)
        subst hT0
        clear hst hT htr hll hbd hsz
        go_wp2
        go_ret2
        rw [E2.out, Ho.out, F.out]
        exact ⟨rfl, Hb2.out⟩
      · obtain ⟨a, z, rfl⟩ : ∃ a z, l = a ++ [z] := ⟨l.dropLast, l.getLast hl0, (List.dropLast_concat_getLast _).symm⟩
        have hza := hbd z (by simp)
        have hba : ∀ c ∈ a, 0 ≤ c ∧ c ≤ 255 := fun c hc => hbd c (by simp [hc])
        obtain ⟨q, hq⟩ : ∃ q, q = a.length := ⟨_, rfl⟩
        have hsq : T.size = q + 1 := by rw [hsz, hq]; simp
        have hix := toB_last hza hba
        rw [← hT, ← hq] at hix
        have hex : T.extract 0 q = toB a := by rw [hT, hq]; exact toB_take a [z]
        have Hex := Lib.hid hex
        have Hq := Lib.hid hq
        have hqb : q ≤ 1000 := by rw [hq]; simp at hll; omega
        by_cases hz : z = 32
        · have q1 : (z == 32) = true := by simpa using hz
          have F : Hid (trimL a = trimL L) := Lib.hid (by rw [← htr, hz, trimL_snoc_blank])
          have Hba := Lib.hid hba
          have Hsa := Lib.hid (show (T.extract 0 q).size = q by rw [hex, toB_size, ← hq])
          clear hst hT htr hll hbd hsz hl0 hza hba hq hex hz
          go_wp2
          go_round
          case rel => exact ⟨a, _, rfl, Lib.hid ⟨Hex.out, F.out, by have := Hq.out; omega, Hba.out⟩⟩
          case measure => have := Hsa.out; simp only; omega
        · have q1 : (z == 32) = false := by simpa using hz
          have F : Hid (toB (trimL L) = T) := Lib.hid (by rw [← htr, trimL_snoc_other hz]; exact hT.symm)
          clear hst hT htr hll hbd hsz hl0 hza hba hq hex hz
          go_wp2
          go_ret2
          rw [E2.out, Ho.out, F.out]
          exact ⟨rfl, Hb2.out⟩
end Go.Proofs.YtkpcdnbjngpooaaGreatDoor
namespace Go.Proofs.YtkpcdnbjngpooaaGreatDoor
open Go.ChangeShapes Go.WideShapes Go.ChangeAt Go.RowKit Go.Sort
set_option linter.unusedVariables false
set_option maxRecDepth 100000
theorem l02Bit_d (k : Nat) (w : World) (h : k < 10) : Calls Tryz.prog 75 #[.int .i64 (k : Int)] w fun e w' => e = .returned (.int .i64 (4 * 2 ^ k)) ∧ w = w' := by
  have h1 := l02Bit_c (k : Int) w ⟨by omega, by omega⟩
  rw [Int.toNat_natCast] at h1
  exact h1
theorem l03Digit_c (m : Int) (w : World) : Calls Tryz.prog 93 #[.int .i64 m] w fun e w' => e = .returned (.int .i64 (digI m)) ∧ w = w' := by
  go_enter Tryz.func93, Tryz.ntmps93
  go_wp2
  go_loop [3] (fun i => ∃ k : Nat, k ≤ 10 ∧ i = .int .i64 k ∧ Hid (∀ d, d < k → (4 * 2 ^ d : Int) ≠ m)) (fun i => 10 - (intOf i).toNat)
  case atStart => exact ⟨0, by decide, rfl, fun j hj => absurd hj (Nat.not_lt_zero _)⟩
  case round =>
    obtain ⟨k, hk, rfl, hp⟩ := hrel
    by_cases hkn : k < 10
    · have hki : (k : Int) ≤ 9 := by omega
      have hcd := fun w => l02Bit_d k w hkn
      obtain ⟨z, hz⟩ : ∃ z : Int, z = 4 * 2 ^ k := ⟨_, rfl⟩
      rw [← hz] at hcd
      have Hcd := Lib.hid hcd
      have Hz := Lib.hid hz
      clear hz hcd
      cases hq : (m == z) with
      | true =>
        have Hq := Lib.hid (beq_iff_eq.1 hq)
        go_wp2_with fail
        with_reducible refine (Hcd.out _).mono ?_
        rintro e w' ⟨rfl, rfl⟩
        go_wp2
        go_ret
        exact ⟨ret_int (dig_found hkn (by rw [← Hz.out]; exact Hq.out.symm)).symm, rfl⟩
      | false =>
        have Hq : Hid (m ≠ z) := Lib.hid (by simpa using hq)
        go_wp2_with fail
        with_reducible refine (Hcd.out _).mono ?_
        rintro e w' ⟨rfl, rfl⟩
        go_wp2
        go_round
        case rel => exact ⟨k + 1, by omega, by go_num, fun j hj => by rcases Nat.lt_succ_iff_lt_or_eq.1 hj with hj | rfl; exact hp.out j hj; rw [← Hz.out]; exact fun h => Hq.out h.symm⟩
        case measure => simp [intOf]; omega
    · obtain rfl : k = 10 := by omega
      go_wp2
      go_ret
      exact ⟨ret_int (dig_none hp.out).symm, rfl⟩
theorem numR_snoc {a : List Int} {l : Int} : numR (a ++ [l]) = match numG a with
    | none => (0, false)
    | some (n, b) =>
      if sgnB l = true then (if digI (l - 2) < 0 then (0, false) else (-(10 * n + digI (l - 2)), decide (10 * n + digI (l - 2) ≠ 0)))
      else if l = 0 ∧ b = false then (n, true) else if digI l < 0 then (0, false) else (10 * n + digI l, true) := by
  unfold numR
  rw [List.getLast?_append, List.getLast?_singleton]
  simp only [Option.some_or, List.dropLast_concat]
  cases numG a <;> rfl
set_option maxHeartbeats 2000000 in
theorem l03Number_c {h : List Int} {v : Value} {w : World} {A : Nat} (h0 : 0 < h.length) (h12 : h.length ≤ 12) (hm : ∀ m ∈ h, 0 ≤ m ∧ m ≤ 4095) (ha : RdI A w v h) :
    Calls Tryz.prog 59 #[v] w fun e w' => e = .returned (.tuple #[.int .i64 (numR h).1, .bool (numR h).2]) ∧ w = w' := by
  obtain ⟨ao, cap, rfl, hop⟩ := RdI.open ha
  obtain ⟨p, hp⟩ : ∃ p, p = h.length := ⟨_, rfl⟩
  obtain ⟨a, l, hal⟩ : ∃ a l, h = a ++ [l] := ⟨h.dropLast, h.getLast (fun e => by rw [e] at h0; cases h0), (List.dropLast_concat_getLast _).symm⟩
  have hap : a.length + 1 = p := by rw [hp, hal]; simp
  have hR := numR_snoc (a := a) (l := l)
  rw [← hal] at hR
  have hat : ∀ k, k < p - 1 → h.take (k + 1) = a.take (k + 1) := by
    intro k hk
    rw [hal, List.take_append_of_le_length (by omega)]
  have hta : h.take (p - 1) = a := by rw [hal, List.take_append_of_le_length (by omega), List.take_of_length_le (by omega)]
  have hlat : h[p - 1]? = some l := by rw [hal, ← hap]; simp
  rw [← hp] at hop h0 h12 ⊢
  have Hp := Lib.hid hp
  have Ho := Lib.hid hop
  have Hm := Lib.hid hm
  have HR := Lib.hid hR
  have Hat := Lib.hid hat
  have Hta := Lib.hid hta
  have Hlat := Lib.hid hlat
  have Hap := Lib.hid hap
  clear hp hop hm hR hat hta hlat hap hal ha
  go_enter Tryz.func59, Tryz.ntmps59
  go_wp2
  go_loop [4, 5, 6, 7] (fun nv bv sv i => ∃ (k : Nat) (z : Int) (q s : Bool), k ≤ p ∧ i = .int .i64 k ∧ nv = .int .i64 z ∧ bv = .bool q ∧ sv = .bool s ∧ Hid (0 ≤ z ∧ z ≤ 1000000000000) ∧
    Hid ((k < p ∧ s = false ∧ numG (h.take k) = some (z, q)) ∨ (k = p ∧ numR h = (if s = true then (-z, decide (z ≠ 0)) else (z, true))))) (fun _ _ _ i => p - (intOf i).toNat)
  case atStart => exact ⟨0, 0, false, false, Nat.zero_le _, rfl, rfl, rfl, rfl, Lib.hid ⟨by decide, by decide⟩, Lib.hid (.inl ⟨h0, rfl, rfl⟩)⟩
  case round =>
    obtain ⟨k, z, q, s, hk, rfl, rfl, rfl, rfl, hz, hst⟩ := hrel
    by_cases hkp : k < p
    · obtain ⟨_, rfl, hg⟩ : k < p ∧ s = false ∧ numG (h.take k) = some (z, q) := hst.out.resolve_right (fun e => by omega)
      obtain ⟨b, off, rfl, hlt, hc⟩ := Ho.out (by omega)
      obtain ⟨m, hmk, hcm, bm⟩ := hc k hkp
      have hmb := Hm.out m (List.mem_of_getElem? hmk)
      have hzb := numG_bd _ z q hg
      have hlk : (h.take k).length = k := by rw [List.length_take]; have := Hp.out; omega
      have hzl : (10 : Int) ^ (h.take k).length ≤ 10 ^ 11 := by
        have hp9 : (10 : Nat) ^ (h.take k).length ≤ 10 ^ 11 := Nat.pow_le_pow_right (by decide) (by omega)
        exact_mod_cast hp9
      have hz11 : z < 100000000000 := by
        have h3 : (10 : Int) ^ 11 = 100000000000 := by decide
        omega
      have hz0 : 0 ≤ z := hzb.1
      have hsn := numG_snoc hmk
      rw [hg] at hsn
      have Hsn := Lib.hid hsn
      have Hg := Lib.hid hg
      have hm1 : 0 ≤ m := hmb.1
      have hm2 : m ≤ 4095 := hmb.2
      have hb1 := dig_bd m
      obtain ⟨hd1, hd2⟩ := hb1
      clear hst hc bm hzb hzl hsn hg hlk hz
      by_cases hlast : k = p - 1
      · have hml : m = l := by rw [hlast] at hmk; have := Hlat.out; rw [hmk] at this; exact Option.some.inj this
        have Hml := Lib.hid hml
        have hgt : numG a = some (z, q) := by rw [← Hta.out, ← hlast]; exact Hg.out
        have HR2 := HR.out
        rw [hgt] at HR2
        simp only at HR2
        rw [← hml] at HR2
        have HR3 := Lib.hid HR2
        have q0 : ((k : Int) == (p : Int) - 1) = true := by rw [beq_iff_eq]; omega
        have Hl := Lib.hid hlast
        clear hlast hml hgt HR2 hmk
        have hx2 : ∃ g : Bool, sgnB m = g ∧ bits BinOp.and IntKind.i64 m 2 = (if g = true then 2 else 0) ∧ (g = true → 2 ≤ m) := by
          obtain ⟨j, rfl⟩ := Int.eq_ofNat_of_zero_le hm1
          have hf := sgn_fin ⟨j, by omega⟩
          cases hg : sgnB (j : Int) with
          | true => exact ⟨true, rfl, (hf.1 hg).1, fun _ => by have := (hf.1 hg).2.2; simp only at this; omega⟩
          | false => exact ⟨false, rfl, (hf.2 hg).1, fun h => by cases h⟩
        obtain ⟨g, hsg, hand, hge⟩ := hx2
        have Hsg := Lib.hid hsg
        clear hsg
        cases g with
        | true =>
          simp only [if_true] at hand
          have hm3 : 2 ≤ m := hge rfl
          have hb2 := dig_bd (m - 2)
          obtain ⟨hd3, hd4⟩ := hb2
          clear hge
          rw [Hsg.out] at HR3
          by_cases e2 : m = 2
          · subst e2
            have E : Hid (numR h = (0, false)) := Lib.hid (by rw [HR3.out, if_pos rfl, if_pos (by decide +kernel)])
            clear hm1 hm2 hm3 hd1 hd2 hd3 hd4
            cases q
            all_goals
              go_wp2_with fail
              with_reducible refine (l03Digit_c 0 _).mono ?_
              rw [dig_zero]
              rintro e w' ⟨rfl, rfl⟩
              go_wp2
              go_ret2
              rw [E.out]
              exact ⟨rfl, rfl⟩
          have q2 : (m - 2 == 0) = false := by rw [beq_eq_false_iff_ne]; omega
          clear e2
          by_cases hd : digI (m - 2) < 0
          · have E : Hid (numR h = (0, false)) := Lib.hid (by rw [HR3.out, if_pos rfl, if_pos hd])
            go_wp2_with fail
            with_reducible refine (l03Digit_c (m - 2) _).mono ?_
            rintro e w' ⟨rfl, rfl⟩
            go_wp2
            go_ret2
            rw [E.out]
            exact ⟨rfl, rfl⟩
          · have E : Hid (numR h = (-(10 * z + digI (m - 2)), decide (10 * z + digI (m - 2) ≠ 0))) := Lib.hid (by rw [HR3.out, if_pos rfl, if_neg hd])
            go_wp2_with fail
            with_reducible refine (l03Digit_c (m - 2) _).mono ?_
            rintro e w' ⟨rfl, rfl⟩
            go_wp2
            go_round
            case rel => exact ⟨k + 1, 10 * z + digI (m - 2), true, true, by omega, by go_num, rfl, rfl, rfl, Lib.hid ⟨by omega, by omega⟩, Lib.hid (.inr ⟨by have := Hl.out; omega, by rw [E.out, if_pos rfl]⟩)⟩
            case measure => simp [intOf]; omega
        | false =>
          simp only [Bool.false_eq_true, if_false] at hand
          clear hge
          rw [Hsg.out] at HR3
          by_cases hz9 : m = 0 ∧ q = false
          · obtain ⟨h1, h2⟩ := hz9
            subst h2
            have E : Hid (numR h = (z, true)) := Lib.hid (by rw [HR3.out, if_neg (by decide), if_pos ⟨h1, rfl⟩])
            have q1 : (m == 0) = true := by simpa using h1
            clear h1
            go_wp2
            go_round
            case rel => exact ⟨k + 1, z, false, false, by omega, by go_num, rfl, rfl, rfl, Lib.hid ⟨by omega, by omega⟩, Lib.hid (.inr ⟨by have := Hl.out; omega, by rw [E.out, if_neg (by decide)]⟩)⟩
            case measure => simp [intOf]; omega
          · have qq : (q = true ∧ m = 0) ∨ (m == 0) = false := by
              by_cases h0 : m = 0
              · exact .inl ⟨by cases q with | true => rfl | false => exact absurd ⟨h0, rfl⟩ hz9, h0⟩
              · exact .inr (by simpa using h0)
            by_cases hd : digI m < 0
            · have E : Hid (numR h = (0, false)) := Lib.hid (by rw [HR3.out, if_neg (by decide), if_neg hz9, if_pos hd])
              clear hz9
              rcases qq with ⟨rfl, rfl⟩ | qq
              · go_wp2_with fail
                with_reducible refine (l03Digit_c 0 _).mono ?_
                rw [dig_zero]
                rintro e w' ⟨rfl, rfl⟩
                go_wp2
                go_ret2
                rw [E.out]
                exact ⟨rfl, rfl⟩
              · go_wp2_with fail
                with_reducible refine (l03Digit_c m _).mono ?_
                rintro e w' ⟨rfl, rfl⟩
                go_wp2
                go_ret2
                rw [E.out]
                exact ⟨rfl, rfl⟩
            · have E : Hid (numR h = (10 * z + digI m, true)) := Lib.hid (by rw [HR3.out, if_neg (by decide), if_neg hz9, if_neg hd])
              clear hz9
              rcases qq with ⟨rfl, rfl⟩ | qq
              · exact absurd (by rw [dig_zero]; decide) hd
              · go_wp2_with fail
                with_reducible refine (l03Digit_c m _).mono ?_
                rintro e w' ⟨rfl, rfl⟩
                go_wp2
                go_round
                case rel => exact ⟨k + 1, 10 * z + digI m, true, false, by omega, by go_num, rfl, rfl, rfl, Lib.hid ⟨by omega, by omega⟩, Lib.hid (.inr ⟨by have := Hl.out; omega, by rw [E.out, if_neg (by decide)]⟩)⟩
                case measure => simp [intOf]; omega
      · have q0 : ((k : Int) == (p : Int) - 1) = false := by rw [beq_eq_false_iff_ne]; omega
        have Hl := Lib.hid hlast
        have hkl : k < p - 1 := by omega
        have Hkl := Lib.hid hkl
        clear hlast hmk hkl
        by_cases hz9 : m = 0 ∧ q = false
        · obtain ⟨h1, h2⟩ := hz9
          subst h2
          have E : Hid (numG (h.take (k + 1)) = some (z, false)) := Lib.hid (by rw [Hsn.out]; show (if m = 0 ∧ false = false then some (z, false) else _) = _; rw [if_pos ⟨h1, rfl⟩])
          have q1 : (m == 0) = true := by simpa using h1
          clear h1
          go_wp2
          go_round
          case rel => exact ⟨k + 1, z, false, false, by omega, by go_num, rfl, rfl, rfl, Lib.hid ⟨by omega, by omega⟩, Lib.hid (.inl ⟨by have := Hkl.out; omega, rfl, E.out⟩)⟩
          case measure => simp [intOf]; omega
        · have qq : (q = true ∧ m = 0) ∨ (m == 0) = false := by
            by_cases h0 : m = 0
            · exact .inl ⟨by cases q with | true => rfl | false => exact absurd ⟨h0, rfl⟩ hz9, h0⟩
            · exact .inr (by simpa using h0)
          by_cases hd : digI m < 0
          · have E : Hid (numR h = (0, false)) := Lib.hid (by
              have h1 : numG (h.take (k + 1)) = none := by rw [Hsn.out]; show (if m = 0 ∧ q = false then _ else if digI m < 0 then none else _) = _; rw [if_neg hz9, if_pos hd]
              rw [Hat.out k Hkl.out] at h1
              rw [HR.out, numG_fail h1])
            clear hz9
            rcases qq with ⟨rfl, rfl⟩ | qq
            · go_wp2_with fail
              with_reducible refine (l03Digit_c 0 _).mono ?_
              rw [dig_zero]
              rintro e w' ⟨rfl, rfl⟩
              go_wp2
              go_ret2
              rw [E.out]
              exact ⟨rfl, rfl⟩
            · go_wp2_with fail
              with_reducible refine (l03Digit_c m _).mono ?_
              rintro e w' ⟨rfl, rfl⟩
              go_wp2
              go_ret2
              rw [E.out]
              exact ⟨rfl, rfl⟩
          · have E : Hid (numG (h.take (k + 1)) = some (10 * z + digI m, true)) := Lib.hid (by rw [Hsn.out]; show (if m = 0 ∧ q = false then _ else if digI m < 0 then none else _) = _; rw [if_neg hz9, if_neg hd])
            clear hz9
            rcases qq with ⟨rfl, rfl⟩ | qq
            · exact absurd (by rw [dig_zero]; decide) hd
            · go_wp2_with fail
              with_reducible refine (l03Digit_c m _).mono ?_
              rintro e w' ⟨rfl, rfl⟩
              go_wp2
              go_round
              case rel => exact ⟨k + 1, 10 * z + digI m, true, false, by omega, by go_num, rfl, rfl, rfl, Lib.hid ⟨by omega, by omega⟩, Lib.hid (.inl ⟨by have := Hkl.out; omega, rfl, E.out⟩)⟩
              case measure => simp [intOf]; omega
    · obtain ⟨rfl, hr⟩ : k = p ∧ numR h = (if s = true then (-z, decide (z ≠ 0)) else (z, true)) := hst.out.resolve_left (fun e => by omega)
      have hzz := hz.out
      obtain ⟨hz0, hz1⟩ := hzz
      have Hr := Lib.hid hr
      clear hst hr hz
      cases s with
      | true =>
        go_wp2
        go_ret2
        rw [Hr.out]
        exact ⟨by by_cases hz : z = 0 <;> simp [hz], rfl⟩
      | false =>
        go_wp2
        go_ret2
        rw [Hr.out]
        exact ⟨rfl, rfl⟩
end Go.Proofs.YtkpcdnbjngpooaaGreatDoor
