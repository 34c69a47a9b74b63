/- Spans and the times of jobs' ends, of jobs and an order that may be wrong: both sides. No condition. -/
import Derived.Test.YtpnmcgjfemaleaaEnd2
import Derived.Test.YtpnmcgjfemaleaaOrd
namespace Go.Proofs.Ytpnmcgjfemaleaa
open Go.ChangeShapes Go.WideShapes Go.ChangeAt Go.RowKit
set_option linter.unusedVariables false
set_option maxRecDepth 100000
/-- the greatest of f 0 .. f (k-1), from f 0 -/
def mxE (f : Nat → Int) : Nat → Int
  | 0 => f 0
  | k + 1 => max (mxE f k) (f k)
theorem mxE_one (f : Nat → Int) : mxE f 1 = f 0 := by show max (f 0) (f 0) = f 0; omega
theorem mxE_up {f : Nat → Int} : ∀ {n : Nat}, (∀ k, k + 1 < n → f k ≤ f (k + 1)) → 0 < n → mxE f n = f (n - 1) := by
  intro n
  induction n with
  | zero => intro _ h; omega
  | succ n ih =>
    intro h _
    rcases Nat.eq_zero_or_pos n with rfl | hn
    · exact mxE_one f
    · have h1 := ih (fun k hk => h k (by omega)) hn
      have h2 := h (n - 1) (by omega)
      rw [show n - 1 + 1 = n by omega] at h2
      show max (mxE f n) (f n) = f n
      rw [h1]
      omega
theorem maxS_c {xs : List Int} {v : Value} {w : World} {A : Nat} (ha : RdI A w v xs) (h0 : 0 < xs.length) :
    Calls Try.prog 89 #[v] w fun e w' => e = .returned (.int .i64 (mxE (atI xs) xs.length)) ∧ w = w' := by
  have hle := ha.le
  obtain ⟨ao, cap, rfl, ho⟩ := RdI.open ha
  obtain ⟨b, off, rfl, hlt, hc⟩ := ho h0
  obtain ⟨x0, hx0, hcx0, bx0⟩ := hc 0 h0
  obtain ⟨n, hn⟩ : ∃ n, n = xs.length := ⟨_, rfl⟩
  rw [← hn] at h0 hle ⊢
  have Hn := Lib.hid hn
  have Hc := Lib.hid hc
  have Hx0 := Lib.hid hx0
  have hcx0' : w.cell? ⟨b, off, none⟩ = some (.int .i64 x0) := by simpa using hcx0
  clear ho hc hn hcx0 hx0 ha
  go_enter Try.func89, Try.ntmps89
  go_wp2
  go_loop [3, 4] (fun s i => ∃ k : Nat, 1 ≤ k ∧ k ≤ n ∧ i = .int .i64 k ∧ ∃ t : Int, s = .int .i64 t ∧ Hid (t = mxE (atI xs) k)) (fun _ i => n - (intOf i).toNat)
  case atStart => exact ⟨1, by omega, by omega, rfl, x0, rfl, by show x0 = _; rw [mxE_one, atI_of Hx0.out]⟩
  case round =>
    obtain ⟨k, hk1, hk, rfl, t, rfl, ht⟩ := hrel
    by_cases hkn : k < n
    · obtain ⟨x, hx, hcx, bx⟩ := Hc.out k (by have := Hn.out; omega)
      have Hx := Lib.hid hx
      clear hx
      go_wp2
      go_round
      case rel => exact ⟨k + 1, by omega, by omega, by go_num, _, rfl, by show _ = max _ _; rw [atI_of Hx.out, ← ht.out] <;> first | rfl | omega | (split <;> omega)⟩
      case measure => simp [intOf]; omega
    · go_wp2
      go_ret
      obtain rfl : k = n := by omega
      exact ⟨ret_int ht.out, rfl⟩
theorem atI_cfs {f : Nat → Int} {m j : Nat} (h : j < m) : atI (cf f m) j = f j := atI_of (cf_get h)
theorem mxE_congr {f g : Nat → Int} : ∀ {n : Nat}, 0 < n → (∀ k, k < n → f k = g k) → mxE f n = mxE g n := by
  intro n
  induction n with
  | zero => intro h; omega
  | succ n ih =>
    intro _ h
    show max (mxE f n) (f n) = max (mxE g n) (g n)
    rcases Nat.eq_zero_or_pos n with rfl | hn
    · show max (f 0) (f 0) = max (g 0) (g 0); rw [h 0 (by omega)]
    · rw [ih hn (fun k hk => h k (by omega)), h n (by omega)]
/-- the last one of the ends, and the greatest of it -/
theorem ends_last {xss : List (List Int)} {o : List Int} (hv : validJ xss = true) (ho : o ≠ []) :
    ∃ L, o.length = L + 1 ∧ (endsJ xss o).length = L + 1 ∧ (endsJ xss o)[L]? = some (cf (freeJ xss o) (colsJ xss)) ∧ mxE (atI (cf (freeJ xss o) (colsJ xss))) (cf (freeJ xss o) (colsJ xss)).length = spanJ xss o ∧
      atI (cf (freeJ xss o) (colsJ xss)) (colsJ xss - 1) = spanJ xss o := by
  obtain ⟨hn8, hm4, hrows⟩ := validJ_parts hv
  have hlast := (List.dropLast_concat_getLast ho).symm
  generalize o.getLast ho = z at hlast
  generalize o.dropLast = p at hlast
  refine ⟨o.length - 1, ?_, ?_, ?_, ?_, ?_⟩
  · have : 0 < o.length := List.length_pos_iff.2 ho; omega
  · unfold endsJ; rw [rowsJ_length]; have : 0 < o.length := List.length_pos_iff.2 ho; omega
  · have h0 : 0 < o.length := List.length_pos_iff.2 ho
    unfold endsJ
    rw [rowsJ_get (by omega), List.take_of_length_le (by omega)]
  · unfold spanJ
    rw [if_neg ho, cf_length, mxE_congr (g := freeJ xss o) (by omega) (fun k hk => atI_cfs hk)]
    refine mxE_up (fun k hk => ?_) (by omega)
    have := freeJ_up (xss := xss) (fun r h => (hrows r h).2) p z (k + 1)
    rw [← hlast] at this
    exact this
  · unfold spanJ
    rw [if_neg ho, atI_cfs (by omega)]
theorem spanOf_c {xss : List (List Int)} {o : List Int} {v u : Value} {w : World} {A B : Nat} (hA : A ≤ w.heap.size) (hB : B ≤ w.heap.size) (ha : RdInt64SS A w v xss) (ho : RdI B w u o)
    (hv : validJ xss = true) (hr : ∀ i ∈ o, 0 ≤ i ∧ i < xss.length) (hl : o.length ≤ 8) (h0 : o ≠ []) :
    Calls Try.prog 60 #[v, u] w fun e w' => e = .returned (.int .i64 (spanJ xss o)) ∧ Below w.heap.size w w' := by
  have hcon := endTimes_c hA hB ha ho hv hr hl
  obtain ⟨L, hL, hlen, hget, hmx, _⟩ := ends_last hv h0
  have hm4 := (validJ_parts hv).2.1
  have Hcon := Lib.hid hcon
  have Hlen := Lib.hid hlen
  have Hget := Lib.hid hget
  have Hmx := Lib.hid hmx
  have hL8 : L < 8 := by omega
  clear hcon hlen hget hmx hL ha ho hr hl h0
  go_enter Try.func60, Try.ntmps60
  go_wp2_with fail
  with_reducible refine Hcon.out.mono ?_
  rintro e w1 ⟨r, rfl, hR, hb⟩
  obtain ⟨rao, rcap, rfl, hro⟩ := (hR.rds).open
  obtain ⟨b, off, rfl, hlt, hc⟩ := hro (by have := Hlen.out; omega)
  obtain ⟨x, ro, rc, hx, hcell, hrd⟩ := hc L (by have := Hlen.out; omega)
  obtain rfl : x = cf (freeJ xss o) (colsJ xss) := by have := Hget.out; rw [hx] at this; exact Option.some.inj this
  rw [Hlen.out]
  have Hrd := Lib.hid hrd
  have Hb := Lib.hid hb
  have hz : IntKind.i64.wrap (((L + 1 : Nat) : Int) - 1) = (L : Int) := by rw [show ((L + 1 : Nat) : Int) - 1 = (L : Int) by omega]; exact IntWalk.i64_in _ (by omega)
  have hlen9 : ((L + 1 : Nat) : Int) = (L : Int) + 1 := by omega
  have hpos : 0 < (cf (freeJ xss o) (colsJ xss)).length := by rw [cf_length]; omega
  clear hx hc hro hR hrd hb
  go_wp2_with fail
  with_reducible refine (maxS_c Hrd.out hpos).mono ?_
  rw [Hmx.out]
  rintro e w2 ⟨rfl, rfl⟩
  go_wp2
  go_ret
  exact ⟨rfl, Hb.out⟩
theorem l21Span_c {xss : List (List Int)} {o : List Int} {v u : Value} {w : World} {A B : Nat} (hA : A ≤ w.heap.size) (hB : B ≤ w.heap.size) (ha : RdInt64SS A w v xss) (ho : RdI B w u o)
    (hv : validJ xss = true) (hr : ∀ i ∈ o, 0 ≤ i ∧ i < xss.length) (hl : o.length ≤ 8) :
    Calls Try.prog 79 #[v, u] w fun e w' => e = .returned (.int .i64 (spanJ xss o)) ∧ Below w.heap.size w w' := by
  have hcon := l21Ends_c hA hB ha ho hv hr hl
  have hm4 := (validJ_parts hv).2.1
  have Hcon := Lib.hid hcon
  by_cases h0 : o = []
  · subst h0
    have e1 : spanJ xss [] = 0 := rfl
    have hlen : (endsJ xss []).length = 0 := rfl
    rw [e1]
    have Hlen := Lib.hid hlen
    clear hcon ha ho hr hl e1 hlen
    go_enter Try.func79, Try.ntmps79
    go_wp2_with fail
    with_reducible refine Hcon.out.mono ?_
    rintro e w1 ⟨r, rfl, hR, hb⟩
    obtain ⟨rao, rcap, rfl⟩ := hR.rds.shape
    rw [Hlen.out]
    clear hR
    go_wp2
    go_ret
    exact ⟨rfl, hb⟩
  · obtain ⟨L, hL, hlen, hget, _, hat⟩ := ends_last hv h0
    obtain ⟨m, hm⟩ : ∃ m, m = colsJ xss := ⟨_, rfl⟩
    rw [← hm] at hget hat hm4
    have hL8 : L < 8 := by omega
    have Hlen := Lib.hid hlen
    have Hget := Lib.hid hget
    have Hat := Lib.hid hat
    obtain ⟨hm1, hm2⟩ := hm4
    clear hcon hlen hget hat hL ha ho hr hl h0 hm
    go_enter Try.func79, Try.ntmps79
    go_wp2_with fail
    with_reducible refine Hcon.out.mono ?_
    rintro e w1 ⟨r, rfl, hR, hb⟩
    obtain ⟨rao, rcap, rfl, hro⟩ := (hR.rds).open
    obtain ⟨b, off, rfl, hlt, hc⟩ := hro (by have := Hlen.out; omega)
    obtain ⟨x, ro, rc, hx, hcell, hrd⟩ := hc L (by have := Hlen.out; omega)
    obtain rfl : x = cf (freeJ xss o) m := by have := Hget.out; rw [hx] at this; exact Option.some.inj this
    rw [Hlen.out]
    obtain ⟨ro', rc', hsh, hin⟩ := RdI.open hrd
    injection hsh with hs1 hs2 hs3
    subst hs1; subst hs3
    obtain ⟨b2, off2, rfl, hlt2, hc2⟩ := hin (by rw [cf_length]; omega)
    obtain ⟨y, hy, hcy, _⟩ := hc2 (m - 1) (by rw [cf_length]; omega)
    have hye : y = spanJ xss o := by rw [← Hat.out, atI_of hy]
    subst hye
    rw [cf_length] at hcell
    have hz : IntKind.i64.wrap (((L + 1 : Nat) : Int) - 1) = (L : Int) := by rw [show ((L + 1 : Nat) : Int) - 1 = (L : Int) by omega]; exact IntWalk.i64_in _ (by omega)
    obtain ⟨m', rfl⟩ : ∃ m', m = m' + 1 := ⟨m - 1, by omega⟩
    have hcy' : w1.cell? ⟨b2, off2 + m', none⟩ = some (.int .i64 (spanJ xss o)) := hcy
    have hlen9 : ((L + 1 : Nat) : Int) = (L : Int) + 1 := by omega
    have hlen8 : ((m' + 1 : Nat) : Int) = (m' : Int) + 1 := by omega
    have Hb := Lib.hid hb
    clear hx hc hro hR hrd hb hin hc2 hy hcy hs2
    go_wp2
    go_ret
    exact ⟨rfl, Hb.out⟩
def ETR (xss : List (List Int)) (o : List Int) : List (List Int) := if OCode xss o = 0 then endsJ xss o else []
def SOV (xss : List (List Int)) (o : List Int) : Int := if OCode xss o = 0 then spanJ xss o else 0
theorem ordP_parts {xss : List (List Int)} {o : List Int} (h : OCode xss o = 0) : validJ xss = true ∧ (∀ i ∈ o, 0 ≤ i ∧ i < xss.length) ∧ o.length ≤ 8 ∧ o ≠ [] := by
  obtain ⟨h1, h2⟩ := OCode_ok h
  have h3 := (validJ_parts h1).1
  exact ⟨h1, h2.2.1, by have := h2.1; omega, orderP_ne (by omega) h2⟩
end Go.Proofs.Ytpnmcgjfemaleaa
