/- Johnson's order: the reference's. No condition. -/
import Derived.Test.YtpnmcgjfemaleaaJohI
namespace Go.Proofs.Ytpnmcgjfemaleaa
open Go.ChangeShapes Go.WideShapes Go.ChangeAt Go.RowKit
set_option linter.unusedVariables false
set_option maxRecDepth 100000
theorem l21Before_c {xss : List (List Int)} {A n b off cap i j : Nat} {W : World} (ha : RdInt64SS A W (.slice (some ⟨b, off, none⟩) n cap) xss)
    (hrows : ∀ r ∈ xss, r.length = 2 ∧ ∀ x ∈ r, 0 ≤ x ∧ x ≤ 1000) (hi : i < n) (hj : j < n) :
    Calls Try.prog 61 #[.slice (some ⟨b, off, none⟩) n cap, .int .i64 (i : Int), .int .i64 (j : Int)] W fun e w' => e = .returned (.bool (johX xss i j)) ∧ ∃ q, w' = W.drewN q := by
  obtain ⟨b1, o1, r1, y1, c1, d1, e1, _⟩ := jobAt ha hrows hi (show 0 < 2 by omega)
  obtain ⟨b1', o1', r1', z1, c1', f1, g1, _⟩ := jobAt ha hrows hi (show 1 < 2 by omega)
  obtain ⟨b2, o2, r2, y2, c2, d2, e2, _⟩ := jobAt ha hrows hj (show 0 < 2 by omega)
  obtain ⟨b2', o2', r2', z2, c2', f2, g2, _⟩ := jobAt ha hrows hj (show 1 < 2 by omega)
  rw [c1] at c1'
  cases c1'
  rw [c2] at c2'
  cases c2'
  have hx : johX xss i j = if decide (y1 < z1) != decide (y2 < z2) then decide (y1 < z1) else if y1 < z1 then decide (y1 < y2) else decide (z1 > z2) := by
    unfold johX johB
    simp only [e1, e2, g1, g2]
  simp only [Nat.add_zero] at d1 d2
  clear ha hrows e1 e2 g1 g2
  by_cases h1 : y1 < z1 <;> by_cases h2 : y2 < z2
  · have t1 : decide (y1 < z1) = true := decide_eq_true h1
    have t2 : decide (y2 < z2) = true := decide_eq_true h2
    rw [show johX xss i j = decide (y1 < y2) by rw [hx]; simp [h1, h2]]
    clear hx
    go_enter Try.func61, Try.ntmps61
    go_wp2
    go_quiet (fail)
    go_wp2
    go_quiet (fail)
    go_wp2
    go_quiet (fail)
    go_wp2
    go_ret
    exact ⟨rfl, _, by first | rfl | simp only [World.drewN_drewN]; rfl⟩
  · have t1 : decide (y1 < z1) = true := decide_eq_true h1
    have t2 : decide (y2 < z2) = false := decide_eq_false h2
    rw [show johX xss i j = true by rw [hx]; simp [h1, h2]]
    clear hx
    go_enter Try.func61, Try.ntmps61
    go_wp2
    go_quiet (fail)
    go_wp2
    go_quiet (fail)
    go_wp2
    go_ret
    exact ⟨rfl, _, by first | rfl | simp only [World.drewN_drewN]; rfl⟩
  · have t1 : decide (y1 < z1) = false := decide_eq_false h1
    have t2 : decide (y2 < z2) = true := decide_eq_true h2
    rw [show johX xss i j = false by rw [hx]; simp [h1, h2]]
    clear hx
    go_enter Try.func61, Try.ntmps61
    go_wp2
    go_quiet (fail)
    go_wp2
    go_quiet (fail)
    go_wp2
    go_ret
    exact ⟨rfl, _, by first | rfl | simp only [World.drewN_drewN]; rfl⟩
  · have t1 : decide (y1 < z1) = false := decide_eq_false h1
    have t2 : decide (y2 < z2) = false := decide_eq_false h2
    rw [show johX xss i j = decide (z2 < z1) by rw [hx]; simp [h1, h2]]
    clear hx
    go_enter Try.func61, Try.ntmps61
    go_wp2
    go_quiet (fail)
    go_wp2
    go_quiet (fail)
    go_wp2
    go_quiet (fail)
    go_wp2
    go_ret
    exact ⟨rfl, _, by first | rfl | simp only [World.drewN_drewN]; rfl⟩
end Go.Proofs.Ytpnmcgjfemaleaa
