/- Valid workers: the lists. No condition. -/
import Derived.Test.YtlcmliibdfclnaaWork
namespace Go.Proofs.Ytlcmliibdfclnaa
open Go.ChangeShapes Go.WideShapes Go.ChangeAt Go.RowKit
set_option linter.unusedVariables false
theorem clo_Worker (x y : WorkerT) (w : World) {c : Nat} (hc : w.cell? ⟨c, 0, none⟩ = some (.string x.nm)) (hlt : c < w.heap.size) :
    Calls Try.prog 53 #[vWorker y, .pointer (some ⟨c, 0, none⟩)] w fun e w' => e = .returned (.bool (eqNm x y)) ∧ Below w.heap.size w w' := by
  have hne : c ≠ w.heap.size := by omega
  unfold eqNm
  go_enter Try.func53, Try.ntmps53
  go_wp2
  go_ret
  exact ⟨ret_bool (by simp), (Below.refl _ _).alloc (Nat.le_refl _) _⟩
theorem indexWorker_c {xs : List WorkerT} {v : Value} {w : World} {A : Nat} (x : WorkerT) {c : Nat} (hcc : w.cell? ⟨c, 0, none⟩ = some (.string x.nm)) (hlc : c < w.heap.size) (ha : RdWorkerS A w v xs) :
    Calls Try.prog 58 #[v, .func (.func 53) #[] #[.pointer (some ⟨c, 0, none⟩)]] w fun e w' => (∃ r : Int, e = .returned (.int .i64 r) ∧ -1 ≤ r ∧ (0 ≤ r ↔ xs.any (eqNm x) = true)) ∧ Below w.heap.size w w' := by
  have hle := ha.le
  obtain ⟨ao, cap, rfl, ho⟩ := eWorker_open ha
  obtain ⟨n, hn⟩ : ∃ n, n = xs.length := ⟨_, rfl⟩
  rw [← hn]
  have Hn := Lib.hid hn
  have Ho := Lib.hid ho
  have Hcc := Lib.hid hcc
  have hle' : n ≤ 9223372036854775807 := by omega
  clear ho hn hle ha hcc
  go_enter Try.func58, Try.ntmps58
  go_wp2
  go_loopw [8] (fun i wr => ∃ k : Nat, k ≤ n ∧ i = .int .i64 k ∧ Hid ((xs.take k).any (eqNm x) = false) ∧ Below w.heap.size w wr) (fun i _ => n - (intOf i).toNat)
  case atStart => exact ⟨0, Nat.zero_le _, rfl, rfl, Below.refl _ _⟩
  case round =>
    obtain ⟨k, hk, rfl, hp, hbb⟩ := hrel
    by_cases hkn : k < n
    · obtain ⟨b, off, rfl, hlt, hc⟩ := Ho.out (by have := Hn.out; omega)
      obtain ⟨y, hy, ⟨c0, c1, c2⟩, bx⟩ := hc k (by have := Hn.out; omega)
      have Hy := Lib.hid hy
      have d0 := (hbb.cell (p := ⟨b, off + k * 3, none⟩) hlt.2).trans c0
      have d1 := (hbb.cell (p := ⟨b, off + k * 3 + 1, none⟩) hlt.2).trans c1
      have d2 := (hbb.cell (p := ⟨b, off + k * 3 + 2, none⟩) hlt.2).trans c2
      have hcw := (hbb.cell (p := ⟨c, 0, none⟩) hlc).trans Hcc.out
      have hlw : c < wr.heap.size := by have := hbb.size; omega
      have Hcw := Lib.hid hcw
      clear hy hc bx c0 c1 c2 hcw
      go_wp2_with fail
      with_reducible refine (clo_Worker x y wr Hcw.out hlw).mono ?_
      cases hq : eqNm x y with
      | true =>
        have Hq := Lib.hid hq
        clear hq
        rintro e w1 ⟨rfl, hb1⟩
        have hb2 := hbb.trans (hb1.mono hbb.size)
        go_wp2
        go_ret
        refine ⟨⟨_, rfl, by omega, ?_⟩, hb2⟩
        have : xs.any (eqNm x) = true := List.any_eq_true.2 ⟨y, List.mem_of_getElem? Hy.out, Hq.out⟩
        simp [this]
      | false =>
        have Hq := Lib.hid hq
        clear hq
        rintro e w1 ⟨rfl, hb1⟩
        have hb2 := hbb.trans (hb1.mono hbb.size)
        clear d0 d1 d2 hb1 hbb
        go_wp2
        go_roundw
        case rel => exact ⟨k + 1, by omega, by go_num, by show _ = false; rw [take_snoc Hy.out, List.any_append, hp.out]; simp [Hq.out], hb2⟩
        case measure => simp [intOf]; omega
    · go_wp2
      go_ret
      refine ⟨⟨_, rfl, by omega, ?_⟩, hbb⟩
      have hq := hp.out
      rw [List.take_of_length_le (by have := Hn.out; omega)] at hq
      exact any_endT hq
theorem containsWorker_c {xs : List WorkerT} {v : Value} {w : World} {A : Nat} (x : WorkerT) {c : Nat} (hcc : w.cell? ⟨c, 0, none⟩ = some (.string x.nm)) (hlc : c < w.heap.size) (ha : RdWorkerS A w v xs) :
    Calls Try.prog 52 #[v, .func (.func 53) #[] #[.pointer (some ⟨c, 0, none⟩)]] w fun e w' => e = .returned (.bool (xs.any (eqNm x))) ∧ Below w.heap.size w w' := by
  have Ha := Lib.hid ha
  have Hcc := Lib.hid hcc
  obtain ⟨ao, cap, rfl⟩ := ha.shape
  clear ha hcc
  go_enter Try.func52, Try.ntmps52
  go_wp2_with fail
  with_reducible refine (indexWorker_c x Hcc.out hlc Ha.out).mono ?_
  rintro e w' ⟨⟨r, rfl, hr, hi⟩, hb⟩
  have Hi := Lib.hid hi
  clear hi
  go_wp2
  go_ret
  refine ⟨ret_bool ?_, hb⟩
  rw [Bool.eq_iff_iff, decide_eq_true_iff]
  exact Hi.out
theorem ValidWorkers_c {xs : List WorkerT} {v : Value} {w : World} {A : Nat} (ha : RdWorkerS A w v xs) :
    Calls Try.prog 32 #[v] w fun e w' => e = .returned (.bool (validWs xs)) ∧ Below w.heap.size w w' := by
  have hle := ha.le
  have Ha := Lib.hid ha
  obtain ⟨ao, cap, rfl, ho⟩ := eWorker_open ha
  have hcap := ha.cap
  obtain ⟨n, hn⟩ : ∃ n, n = xs.length := ⟨_, rfl⟩
  rw [← hn] at Ha ⊢
  have Hn := Lib.hid hn
  have Ho := Lib.hid ho
  have hle' : n ≤ 9223372036854775807 := by omega
  have hcp : n ≤ cap ∧ (0 < n → cap ≤ 9223372036854775807) := ⟨by omega, fun h => hcap.2.2 (by omega)⟩
  obtain ⟨hcp1, hcp2⟩ := hcp
  have Hcp2 := Lib.hid hcp2
  clear ho hn hle ha hcap hcp2
  go_enter Try.func32, Try.ntmps32
  go_wp2
  go_loopw [7] (fun i wr => ∃ k : Nat, k ≤ n ∧ i = .int .i64 k ∧ Hid (∀ j, j < k → goodAt xs j = true) ∧ Below w.heap.size w wr) (fun i _ => n - (intOf i).toNat)
  case atStart => exact ⟨0, Nat.zero_le _, rfl, fun j h => by omega, Below.refl _ _⟩
  case round =>
    obtain ⟨k, hk, rfl, hp, hbb⟩ := hrel
    by_cases hkn : k < n
    · obtain ⟨b, off, rfl, hlt, hc⟩ := Ho.out (by have := Hn.out; omega)
      obtain ⟨x, hx, ⟨c0, c1, c2⟩, bx⟩ := hc k (by have := Hn.out; omega)
      have Hx := Lib.hid hx
      have Hbx := Lib.hid bx
      have d0 := (hbb.cell (p := ⟨b, off + k * 3, none⟩) hlt.2).trans c0
      have d1 := (hbb.cell (p := ⟨b, off + k * 3 + 1, none⟩) hlt.2).trans c1
      have d2 := (hbb.cell (p := ⟨b, off + k * 3 + 2, none⟩) hlt.2).trans c2
      have hcap := Hcp2.out (by omega)
      clear hx hc bx c0 c1 c2
      have Hcl := Lib.hid (⟨by simp, by simp [World.cell?_alloc_new]⟩ : (wr.heap.size < (wr.alloc (.cells #[.string x.nm, .int .i64 x.rate, .int .i64 x.tax] 52)).heap.size) ∧ (wr.alloc (.cells #[.string x.nm, .int .i64 x.rate, .int .i64 x.tax] 52)).cell? ⟨wr.heap.size, 0, none⟩ = some (.string x.nm))
      go_wp2_with fail
      with_reducible refine (isWorker_c x _ Hbx.out).mono ?_
      cases hv : validW x with
      | false =>
        have Hv := Lib.hid hv
        clear hv
        rintro e w1 ⟨rfl, hb1⟩
        have hb2 : Below w.heap.size w w1 := (hbb.alloc hbb.size _).trans (hb1.mono (by simp; have := hbb.size; omega))
        clear d0 d1 d2 hb1 hbb
        go_wp2
        go_ret
        exact ⟨ret_bool (validWs_no (j := k) (by have := Hn.out; omega) (by rw [goodAt_of Hx.out, Hv.out]; rfl)).symm, hb2⟩
      | true =>
        have Hv := Lib.hid hv
        clear hv
        rintro e w1 ⟨rfl, hb1⟩
        have hb2 : Below w.heap.size w w1 := (hbb.alloc hbb.size _).trans (hb1.mono (by simp; have := hbb.size; omega))
        have ht := (Ha.out.tight.below hb2 (Nat.le_refl _)).takeN hk
        have hcw := (hb1.cell (p := ⟨wr.heap.size, 0, none⟩) (by have := Hcl.out.1; simp)).trans Hcl.out.2
        have hlw : wr.heap.size < w1.heap.size := Nat.lt_of_lt_of_le Hcl.out.1 hb1.size
        have Ht := Lib.hid ht
        have Hcw := Lib.hid hcw
        clear d0 d1 d2 hb1 hbb ht hcw
        go_wp2_with fail
        with_reducible refine (containsWorker_c x Hcw.out hlw Ht.out).mono ?_
        cases hq : (xs.take k).any (eqNm x) with
        | true =>
          have Hq := Lib.hid hq
          clear hq
          rintro e w2 ⟨rfl, hb3⟩
          have hb4 := hb2.trans (hb3.mono hb2.size)
          go_wp2
          go_ret
          exact ⟨ret_bool (validWs_no (j := k) (by have := Hn.out; omega) (by rw [goodAt_of Hx.out, Hv.out, Hq.out]; rfl)).symm, hb4⟩
        | false =>
          have Hq := Lib.hid hq
          clear hq
          rintro e w2 ⟨rfl, hb3⟩
          have hb4 := hb2.trans (hb3.mono hb2.size)
          clear hb3 hb2
          go_wp2
          go_roundw
          case rel =>
            refine ⟨k + 1, by omega, by go_num, ?_, hb4⟩
            intro j hj
            by_cases e : j < k
            · exact hp.out j e
            · obtain rfl : j = k := by omega
              rw [goodAt_of Hx.out, Hv.out, Hq.out]; rfl
          case measure => simp [intOf]; omega
    · go_wp2
      go_ret
      refine ⟨ret_bool ?_, hbb⟩
      rw [validWs_end (fun j hj => hp.out j (by have := Hn.out; omega)), ← Hn.out]
      exact decide_eq_decide.2 (by omega)
theorem l23Ok_c {xs : List WorkerT} {v : Value} {w : World} {A : Nat} (ha : RdWorkerS A w v xs) :
    Calls Try.prog 51 #[v] w fun e w' => e = .returned (.bool (validWs xs)) ∧ ∃ m, w' = w.drewN m := by
  have hle := ha.le
  obtain ⟨ao, cap, rfl, ho⟩ := eWorker_open ha
  obtain ⟨n, hn⟩ : ∃ n, n = xs.length := ⟨_, rfl⟩
  rw [← hn]
  have Hn := Lib.hid hn
  have Ho := Lib.hid ho
  have hle' : n ≤ 9223372036854775807 := by omega
  clear ho hn hle ha
  go_enter Try.func51, Try.ntmps51
  go_wp2
  go_loopw [3] (fun i wr => ∃ k : Nat, k ≤ n ∧ i = .int .i64 k ∧ Hid (∀ j, j < k → goodAt xs j = true) ∧ ∃ m, wr = w.drewN m) (fun i _ => n - (intOf i).toNat)
  case atStart => exact ⟨0, Nat.zero_le _, rfl, fun j h => by omega, 0, rfl⟩
  case round =>
    obtain ⟨k, hk, rfl, hp, m, rfl⟩ := hrel
    by_cases hkn : k < n
    · obtain ⟨b, off, rfl, hlt, hc⟩ := Ho.out (by have := Hn.out; omega)
      obtain ⟨x, hx, ⟨c0, c1, c2⟩, bx⟩ := hc k (by have := Hn.out; omega)
      have Hc := Lib.hid hc
      have Hx := Lib.hid hx
      have Hbx := Lib.hid bx
      have C0 := Lib.hid c0
      have C1 := Lib.hid c1
      have C2 := Lib.hid c2
      clear hx hc bx c0 c1 c2
      go_wp2_with fail
      have hone := l23One_c x (w.drewN m) Hbx.out (b := b) (off := off + k * 3) C0.out C1.out C2.out
      with_reducible refine hone.mono ?_
      clear hone
      cases hv : validW x with
      | false =>
        have Hv := Lib.hid hv
        clear hv
        rintro e w1 ⟨rfl, rfl⟩
        go_wp2
        go_ret
        exact ⟨ret_bool (validWs_no (j := k) (by have := Hn.out; omega) (by rw [goodAt_of Hx.out, Hv.out]; rfl)).symm, _, rfl⟩
      | true =>
        have Hv := Lib.hid hv
        clear hv
        rintro e w1 ⟨rfl, rfl⟩
        go_wp2_with fail
        go_loopw [4] (fun i wr => ∃ q : Nat, q ≤ k ∧ i = .int .i64 q ∧ Hid ((xs.take q).any (eqNm x) = false) ∧ ∃ m, wr = w.drewN m) (fun i _ => k - (intOf i).toNat)
        case atStart => exact ⟨0, Nat.zero_le _, rfl, rfl, _, rfl⟩
        case round =>
          obtain ⟨q, hq, rfl, hpq, m, rfl⟩ := hrel
          by_cases hqk : q < k
          · obtain ⟨y, hy, ⟨c0, _, _⟩, _⟩ := Hc.out q (by have := Hn.out; omega)
            have Hy := Lib.hid hy
            have hcx := C0.out
            clear hy
            cases he : eqNm x y with
            | true =>
              have hs : (y.nm.toList == x.nm.toList) = true := he
              have hs2 : y.nm.toList = x.nm.toList := by simpa using hs
              have He := Lib.hid he
              have Hs2 := Lib.hid hs2
              clear he hs2
              go_wp2
              go_quiet (fail)
              go_wp2
              go_ret
              refine ⟨ret_bool (validWs_no (j := k) (by have := Hn.out; omega) ?_).symm, _, World.drewN_drewN _ _ _⟩
              rw [goodAt_of Hx.out, Hv.out]
              have : (xs.take k).any (eqNm x) = true := List.any_eq_true.2 ⟨y, List.mem_of_getElem? (i := q) (by rw [List.getElem?_take, if_pos hqk]; exact Hy.out), He.out⟩
              rw [this]; rfl
            | false =>
              have hs : (y.nm.toList == x.nm.toList) = false := he
              have He := Lib.hid he
              clear he
              go_wp2
              go_quiet (fail)
              go_wp2
              go_roundw
              case rel => exact ⟨q + 1, by omega, by go_num, by show _ = false; rw [take_snoc Hy.out, List.any_append, hpq.out]; simp [He.out], _, rfl⟩
              case measure => simp [intOf]; omega
          · go_wp2
            go_roundw
            case rel =>
              refine ⟨k + 1, by omega, by go_num, ?_, _, rfl⟩
              intro j hj
              by_cases e : j < k
              · exact hp.out j e
              · obtain rfl : j = k := by omega
                obtain rfl : q = j := by omega
                rw [goodAt_of Hx.out, Hv.out, hpq.out]; rfl
            case measure => simp [intOf]; omega
    · go_wp2
      go_ret
      refine ⟨ret_bool ?_, m, rfl⟩
      rw [validWs_end (fun j hj => hp.out j (by have := Hn.out; omega)), ← Hn.out]
      exact decide_eq_decide.2 (by omega)
theorem sValidWorkers_c {xs : List WorkerT} {v : Value} {w : World} {A : Nat} (ha : RdWorkerS A w v xs) :
    Calls Try.prog 31 #[v] w fun e w' => e = .returned (.bool (validWs xs)) ∧ Below w.heap.size w w' := by
  obtain ⟨ao, cap, rfl⟩ := ha.shape
  have Ha := Lib.hid ha
  clear ha
  go_enter Try.func31, Try.ntmps31
  go_wp2_with fail
  with_reducible refine (l23Ok_c Ha.out).mono ?_
  rintro e w1 ⟨rfl, m, rfl⟩
  go_wp2
  go_ret
  exact ⟨rfl, (Below.refl _ _).drewNy _⟩
end Go.Proofs.Ytlcmliibdfclnaa
