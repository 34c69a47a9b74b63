/- slices.SortStableFunc at a few numbers, with a comparison that reads. No condition. -/
import Derived.Test.YtpnmcgjfemaleaaInsL
import Derived.Test.YtpnmcgjfemaleaaInsP
import Derived.Test.YtpnmcgjfemaleaaEnd4
import Derived.Sort.OwnSortedInts
namespace Go.Proofs.Ytpnmcgjfemaleaa
open Go.ChangeShapes Go.WideShapes Go.ChangeAt Go.RowKit Go.Sort
set_option linter.unusedVariables false
set_option maxRecDepth 100000
def encF {L : Nat} (x : Fin (L + 1)) : Value := .int .i64 (x.val : Int)
def fInt {L : Nat} (x : Fin (L + 1)) : Int := (x.val : Int)
theorem putCells_fin {L : Nat} (d : Array (Fin (L + 1))) (cur : Array Value) : putCells encF 0 d cur = putCells (Value.int .i64) 0 (d.toList.map fInt).toArray cur := by
  unfold putCells
  congr 1
  funext k x
  have hs : (d.toList.map fInt).toArray.size = d.size := by simp
  rw [hs]
  by_cases h : 0 ≤ k ∧ k < 0 + d.size
  · rw [if_pos h, if_pos h]
    have hk : k - 0 < d.size := by omega
    rw [getElem!_pos d (k - 0) hk, getElem!_pos (d.toList.map fInt).toArray (k - 0) (by omega)]
    simp [encF, fInt]
  · rw [if_neg h, if_neg h]
theorem putRow_fin {L : Nat} (w : World) (g : Nat) (d : Array (Fin (L + 1))) : putRow encF w g 0 d = putRow (Value.int .i64) w g 0 (d.toList.map fInt).toArray := by
  unfold putRow
  congr 1
  funext cur
  exact putCells_fin d cur
theorem sortWorld_fin {L : Nat} (w : World) (g m : Nat) (d : Array (Fin (L + 1))) (os : Array Obj) : sortWorld encF w g 0 m d os = grow (putRow (Value.int .i64) (Sort.ahead w m) g 0 (d.toList.map fInt).toArray) os := by
  unfold sortWorld
  rw [putRow_fin]
theorem holds_fin {L : Nat} {w : World} {g : Nat} {cur : Array Value} {e : TypeId} {d : Array (Fin (L + 1))} {xs : List Int} (hx : d.toList.map fInt = xs) (hb : w.heap[g]? = some (.cells cur e (0, 0))) (ht : cur.toList.take xs.length = xs.map (Value.int .i64)) : Holds encF w g 0 d := by
  have h := holds_of_blockI hb ht
  intro j hj
  have hl : xs.length = d.size := by rw [← hx]; simp
  obtain ⟨h1, h2⟩ := h j (by simp; omega)
  refine ⟨?_, h2⟩
  rw [h1]
  congr 1
  subst hx
  have hj' : j < d.size := hj
  rw [getElem!_pos d j hj', getElem!_pos (d.toList.map fInt).toArray j (by simp; omega)]
  simp [encF, fInt]
theorem fin_list {L : Nat} : ∀ {xs : List Int}, (∀ x ∈ xs, 0 ≤ x ∧ x < (L : Int) + 1) → ∃ d : List (Fin (L + 1)), d.map fInt = xs := by
  intro xs
  induction xs with
  | nil => intro _; exact ⟨[], rfl⟩
  | cons x xs ih =>
    intro h
    obtain ⟨d, hd⟩ := ih fun y hy => h y (List.mem_cons_of_mem _ hy)
    have hx := h x (List.mem_cons_self ..)
    refine ⟨⟨x.toNat, by omega⟩ :: d, ?_⟩
    rw [List.map_cons, hd]
    congr 1
    show ((x.toNat : Nat) : Int) = x
    omega
/-- what is asked of a comparison: it reads, whatever the row of its numbers holds -/
def CmpI (f : Nat) (cb : Array Value) (cf : Int → Int → Int) (N : Nat) (row : Option Nat) (w : World) : Prop :=
  ∀ W, w.grownBy W row → ∀ i j : Nat, i < N → j < N → Calls Try.prog f (#[.int .i64 (i : Int), .int .i64 (j : Int)] ++ cb) W fun e w' => e = .returned (.int .i64 (cf i j)) ∧ ∃ q, w' = W.drewN q
def ltC (cf : Int → Int → Int) (x y : Int) : Bool := decide (cf x y < 0)
theorem insI_c {L : Nat} {xs : List Int} {base g cap f : Nat} {cb : Array Value} {cf : Int → Int → Int} {w : World} (eg : ∀ args w, (callFunc f args).run Try.prog w = .ok (.enter f args) w)
    (h : OwnInt64S base w (.slice (some ⟨g, 0, none⟩) xs.length cap) xs) (hl : xs.length ≤ 1000) (hxs : ∀ x ∈ xs, 0 ≤ x ∧ x < (L : Int) + 1) (hc : CmpI f cb cf (L + 1) (some g) w) :
    Calls Try.prog 101 #[.slice (some ⟨g, 0, none⟩) xs.length cap, .int .i64 0, .int .i64 (xs.length : Int), .func (.func f) #[] cb] w fun e w' => e = .returned (.tuple #[]) ∧
      ∃ r, InsAll (ltC cf) xs [] r ∧ OwnInt64S base w' (.slice (some ⟨g, 0, none⟩) xs.length cap) r ∧ w.grownBy w' (some g) := by
  obtain ⟨dl, hdl⟩ := fin_list hxs
  rcases h.1.2 with ⟨h0, hn⟩ | ⟨g', cap', cur, hv, hb, hg, hn, hm, hcs, htake⟩
  · cases h0
  · cases hv
    have hall : eI.all xs = xs.map (Value.int .i64) := eI_all xs
    rw [hall] at htake
    have ht : cur.toList.take xs.length = xs.map (Value.int .i64) := by
      rw [show xs.length * eI.sz = xs.length from Nat.mul_one _] at htake
      exact htake
    have hsz : dl.toArray.size = xs.length := by rw [← hdl]; simp
    have hH := holds_fin (d := dl.toArray) hdl hg ht
    have hcmp : CmpReads Try.prog f cb encF (fun x y : Fin (L + 1) => cf (fInt x) (fInt y)) g 0 dl.toArray.size w := by
      intro m os dk hdk x y
      rw [sortWorld_fin]
      exact hc _ (grownBy_sortedI _) x.val y.val x.isLt y.isLt
    have hmain := Any.insertionSortCmpFunc_one (P := Try.prog) Try.mIns encF (fun x => rfl) (fun x y : Fin (L + 1) => cf (fInt x) (fInt y)) f cb g 0 cap 0 dl.toArray.size dl.toArray w eg hcmp hH (Nat.zero_le _) (Nat.le_refl _) (by omega)
    obtain ⟨hins, hsize⟩ := insertion_list (b := ltC cf) (f := fInt) (lt := ltOf fun x y : Fin (L + 1) => cf (fInt x) (fInt y)) (fun x y => rfl) dl.toArray
    rw [hsz] at hmain hins hsize
    refine hmain.mono ?_
    rintro e w' ⟨rfl, n, rfl⟩
    rw [show dl.toArray.toList.map fInt = xs from hdl] at hins
    have hlen := hins.perm.length_eq
    rw [List.append_nil] at hlen
    have hw : (putRow encF w g 0 (Sort.insertionSort (ltOf fun x y : Fin (L + 1) => cf (fInt x) (fInt y)) dl.toArray 0 xs.length)).drewN n = grow (putRow (Value.int .i64) (Sort.ahead w n) g 0 (((Sort.insertionSort (ltOf fun x y : Fin (L + 1) => cf (fInt x) (fInt y)) dl.toArray 0 xs.length).toList.map fInt)).toArray) #[] := by
      rw [← sortWorld_fin, sortWorld_none]
    rw [hw]
    refine ⟨rfl, _, hins, ⟨?_, fun x hx => h.2 x (by have := (hins.perm).mem_iff.1 hx; rwa [List.append_nil] at this)⟩, grownBy_sortedI _⟩
    have := ownsRow_sortedI (base := base) (n := n) (os := #[]) (ts := (Sort.insertionSort (ltOf fun x y : Fin (L + 1) => cf (fInt x) (fInt y)) dl.toArray 0 xs.length).toList.map fInt) hlen hb hg hn hm hcs
    rw [eI_all, hlen]
    exact this
theorem stable0_c {xs : List Int} {v fv : Value} {w : World} {K : Ending → World → Prop} (hl : xs.length ≤ 8) {ao : Option Addr} {cap : Nat} (hv : v = .slice ao xs.length cap)
    (hi : Calls Try.prog 101 #[v, .int .i64 0, .int .i64 (xs.length : Int), fv] w fun e w' => e = .returned (.tuple #[]) ∧ K (.returned (.tuple #[])) w') :
    Calls Try.prog 66 #[v, fv] w K := by
  subst hv
  obtain ⟨n, hn⟩ : ∃ n, n = xs.length := ⟨_, rfl⟩
  rw [← hn] at hi hl ⊢
  have Hi := Lib.hid hi
  clear hi hn
  have hs : Calls Try.prog 90 #[.slice ao n cap, .int .i64 (n : Int), fv] w fun e w' => e = .returned (.tuple #[]) ∧ K (.returned (.tuple #[])) w' := by
    go_enter Try.func90, Try.ntmps90
    go_wp2
    refine wp_loop_rounds 1 ?_
    rw [rounds_succ]
    go_wp2_with fail
    with_reducible refine Hi.out.mono ?_
    rintro e w' ⟨rfl, hk⟩
    have Hk := Lib.hid hk
    clear hk
    go_wp2
    go_rounds 1
    go_end0
    exact ⟨rfl, Hk.out⟩
  have Hs := Lib.hid hs
  clear hs Hi
  go_enter Try.func66, Try.ntmps66
  go_wp2_with fail
  with_reducible refine Hs.out.mono ?_
  rintro e w' ⟨rfl, hk⟩
  have Hk := Lib.hid hk
  clear hk
  go_wp2
  go_end0
  exact Hk.out
theorem ins0_c {fv : Value} {ao : Option Addr} {cap : Nat} {w : World} :
    Calls Try.prog 101 #[.slice ao 0 cap, .int .i64 0, .int .i64 0, fv] w fun e w' => e = .returned (.tuple #[]) ∧ w = w' := by
  go_enter Try.func101, Try.ntmps101
  go_wp2
  go_rounds 1
  go_end0
  exact ⟨rfl, rfl⟩
/-- a few numbers, each put to its place -/
theorem stable_c {L : Nat} {xs : List Int} {base f : Nat} {v : Value} {cb : Array Value} {cf : Int → Int → Int} {w : World} (eg : ∀ args w, (callFunc f args).run Try.prog w = .ok (.enter f args) w)
    (h : OwnInt64S base w v xs) (hl : xs.length ≤ 8) (hxs : ∀ x ∈ xs, 0 ≤ x ∧ x < (L : Int) + 1) (hc : CmpI f cb cf (L + 1) v.ownBlock w) :
    Calls Try.prog 66 #[v, .func (.func f) #[] cb] w fun e w' => e = .returned (.tuple #[]) ∧ ∃ r, InsAll (ltC cf) xs [] r ∧ OwnInt64S base w' v r ∧ w.grownBy w' v.ownBlock := by
  rcases h.1.2 with ⟨hv, hn⟩ | ⟨g, cap, cur, hv, _⟩
  · have hnil : xs = [] := List.eq_nil_of_length_eq_zero hn
    subst hnil
    subst hv
    refine stable0_c (xs := []) (by simp) rfl ?_
    refine ins0_c.mono ?_
    rintro e w' ⟨rfl, rfl⟩
    exact ⟨rfl, rfl, [], rfl, h, World.grownBy.refl _ _⟩
  · subst hv
    refine stable0_c hl rfl ?_
    refine (insI_c eg h (by omega) hxs hc).mono ?_
    rintro e w' ⟨rfl, r, h1, h2, h3⟩
    exact ⟨rfl, rfl, r, h1, h2, h3⟩
end Go.Proofs.Ytpnmcgjfemaleaa
