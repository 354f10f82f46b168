/-
  Signals: whether they are valid; their power.
-/
import Derived.Test.YtokgonhfmidbeaaSmpF
namespace Go.Proofs.Ytokgonhfmidbeaa
open Go.RowKit

def sigOk (xs : List Int) : Bool := inAll xs (-100000) 100000 && decide (xs.length ≤ 512)
theorem sigOk_iff {xs : List Int} : sigOk xs = true ↔ (∀ x ∈ xs, -100000 ≤ x ∧ x ≤ 100000) ∧ xs.length ≤ 512 := by
  simp [sigOk, inAll, inB]
theorem sigOk_at {xs : List Int} (h : sigOk xs = true) (k : Nat) : -100000 ≤ xs.getD k 0 ∧ xs.getD k 0 ≤ 100000 := by
  by_cases hk : k < xs.length
  · exact (sigOk_iff.1 h).1 _ (mem_getD hk)
  · simp [List.getD, List.getElem?_eq_none (by omega : xs.length ≤ k)]
theorem sigOk_of {xs : List Int} (h : ∀ k, k < xs.length → -100000 ≤ xs.getD k 0 ∧ xs.getD k 0 ≤ 100000) (hl : xs.length ≤ 512) : sigOk xs = true := by
  refine sigOk_iff.2 ⟨fun x hx => ?_, hl⟩
  obtain ⟨j, hj, rfl⟩ := List.getElem_of_mem hx
  have := h j hj
  rwa [List.getD_eq_getElem?_getD, List.getElem?_eq_getElem hj] at this
theorem sigOk_no {xs : List Int} {j : Nat} (hj : j < xs.length) (h : inB (xs.getD j 0) (-100000) 100000 = false) : sigOk xs = false := by
  have := inAll_no (lo := -100000) (hi := 100000) hj h
  simp [sigOk, this]
theorem pair_all {xs : List Int} {k : Nat} {x y : Int} (h : ∀ j, j < k * 2 → inB (xs.getD j 0) (-100000) 100000 = true) (hx : xs.getD (k * 2) 0 = x) (hy : xs.getD (k * 2 + 1) 0 = y) (h1 : inB x (-100000) 100000 = true) (h2 : inB y (-100000) 100000 = true) :
    ∀ j, j < (k + 1) * 2 → inB (xs.getD j 0) (-100000) 100000 = true := by
  intro j hj
  by_cases e : j < k * 2
  · exact h j e
  · rcases (by omega : j = k * 2 ∨ j = k * 2 + 1) with rfl | rfl
    · rw [hx]; exact h1
    · rw [hy]; exact h2

set_option maxHeartbeats 1000000 in
theorem specSig_c {C : Nat} {v : Value} {xs : List Int} (w : World) (h : RdM C w v xs) :
    Calls Try.prog 31 #[v] w fun e w' => e = .returned (.bool (sigOk xs)) ∧ w = w' := by
  obtain ⟨A, n, c, rfl, h⟩ := h
  have hlen := hid h.len
  have hm := h.sm
  go_enter Try.func31, Try.ntmps31
  go_wp2
  go_loop [3] (fun i => ∃ k : Nat, k ≤ n ∧ i = .int .i64 k ∧ Hid (∀ j, j < k * 2 → inB (xs.getD j 0) (-100000) 100000 = true)) (fun i => n - (intOf i).toNat)
  case atStart => exact ⟨0, Nat.zero_le _, rfl, fun j hj => absurd hj (by omega)⟩
  case round =>
    obtain ⟨k, hk, rfl, hall⟩ := hrel
    by_cases hlt : k < n
    · obtain ⟨b, off, x, y, rfl, _, c1, c2, hx, hy⟩ := h.at_ hlt
      by_cases hb : inB x (-100000) 100000 = true
      · by_cases hb2 : inB y (-100000) 100000 = true
        · go_wp2_with (go_at_call 38; refine (l1In_c _ _ _ _).mono ?_; rintro e w' ⟨rfl, rfl⟩)
          go_round
          case rel => exact ⟨k + 1, by omega, by go_num, pair_all hall.out hx.out hy.out hb hb2⟩
          case measure => simp [intOf]; omega
        · have hb2' : inB y (-100000) 100000 = false := by simpa using hb2
          clear hb2
          go_wp2_with (go_at_call 38; refine (l1In_c _ _ _ _).mono ?_; rintro e w' ⟨rfl, rfl⟩)
          go_ret
          exact ⟨ret_bool (sigOk_no (j := k * 2 + 1) (by rw [hlen.out]; omega) (by rw [hy.out]; exact hb2')).symm, rfl⟩
      · have hb' : inB x (-100000) 100000 = false := by simpa using hb
        clear hb
        go_wp2_with (go_at_call 38; refine (l1In_c _ _ _ _).mono ?_; rintro e w' ⟨rfl, rfl⟩)
        go_ret
        exact ⟨ret_bool (sigOk_no (j := k * 2) (by rw [hlen.out]; omega) (by rw [hx.out]; exact hb')).symm, rfl⟩
    · obtain rfl : k = n := by omega
      have H : Hid (sigOk xs = decide (k ≤ 256)) := by
        have := inAll_yes (lo := -100000) (hi := 100000) (xs := xs) (fun j hj => hall.out j (by have := hlen.out; omega))
        show _ = _
        rw [sigOk, this, hlen.out, Bool.true_and]
        exact decide_eq_decide.2 (by omega)
      go_wp2
      go_ret
      exact ⟨ret_bool (by rw [H.out]; exact decide_eq_decide.2 (by omega)), rfl⟩

set_option maxHeartbeats 400000 in
theorem levelValid_c (n : Int) (w : World) :
    Calls Try.prog 40 #[.int .i64 n] w fun e w' => e = .returned (.bool (inB n (-100000) 100000)) ∧ w = w' := by
  by_cases h1 : -100000 ≤ n
  · by_cases h2 : n ≤ 100000
    · have H := hid (inB_yes h1 h2)
      go_enter Try.func40, Try.ntmps40
      go_wp2
      go_ret
      exact ⟨ret_bool H.out.symm, rfl⟩
    · have H := hid (inB_hi (lo := -100000) h2)
      go_enter Try.func40, Try.ntmps40
      go_wp2
      go_ret
      exact ⟨ret_bool H.out.symm, rfl⟩
  · have H := hid (inB_lo (hi := 100000) h1)
    go_enter Try.func40, Try.ntmps40
    go_wp2
    go_ret
    exact ⟨ret_bool H.out.symm, rfl⟩

set_option maxHeartbeats 1000000 in
theorem implSig_c {C : Nat} {v : Value} {xs : List Int} (w : World) (h : RdM C w v xs) (hC : C ≤ w.heap.size) :
    Calls Try.prog 30 #[v] w fun e w' => e = .returned (.bool (sigOk xs)) ∧ Below w.heap.size w w' := by
  obtain ⟨A, n, c, rfl, h⟩ := h
  have hlen := hid h.len
  have hm := h.sm
  by_cases h256 : n ≤ 256
  · go_enter Try.func30, Try.ntmps30
    go_wp2
    go_loopw [10] (fun i wr => ∃ k : Nat, k ≤ n ∧ i = .int .i64 k ∧ Hid (∀ j, j < k * 2 → inB (xs.getD j 0) (-100000) 100000 = true) ∧ Below w.heap.size w wr) (fun i _ => n - (intOf i).toNat)
    case atStart => exact ⟨0, Nat.zero_le _, rfl, fun j hj => absurd hj (by omega), Below.refl _ _⟩
    case round =>
      obtain ⟨k, hk, rfl, hall, hb⟩ := hrel
      by_cases hlt : k < n
      · obtain ⟨b, off, x, y, rfl, _, hc1, hc2, hx, hy⟩ := h.at_ hlt
        have c1 := (hb.cell (p := ⟨b, off + k * 2, none⟩) (by simp; omega)).trans hc1
        have c2 := (hb.cell (p := ⟨b, off + k * 2 + 1, none⟩) (by simp; omega)).trans hc2
        have hb1 := hb.alloc hb.size (.cells #[.int .i64 x, .int .i64 y] 35)
        clear hc1 hc2
        by_cases hbx : inB x (-100000) 100000 = true
        · by_cases hby : inB y (-100000) 100000 = true
          · clear hb
            go_wp2_with (go_at_call 40; refine (levelValid_c _ _).mono ?_; rintro e w' ⟨rfl, rfl⟩)
            go_roundw
            case rel => exact ⟨k + 1, by omega, by go_num, pair_all hall.out hx.out hy.out hbx hby, hb1⟩
            case measure => simp [intOf]; omega
          · have hby' : inB y (-100000) 100000 = false := by simpa using hby
            clear hb hby
            go_wp2_with (go_at_call 40; refine (levelValid_c _ _).mono ?_; rintro e w' ⟨rfl, rfl⟩)
            go_ret
            exact ⟨ret_bool (sigOk_no (j := k * 2 + 1) (by rw [hlen.out]; omega) (by rw [hy.out]; exact hby')).symm, hb1⟩
        · have hbx' : inB x (-100000) 100000 = false := by simpa using hbx
          clear hb hbx
          go_wp2_with (go_at_call 40; refine (levelValid_c _ _).mono ?_; rintro e w' ⟨rfl, rfl⟩)
          go_ret
          exact ⟨ret_bool (sigOk_no (j := k * 2) (by rw [hlen.out]; omega) (by rw [hx.out]; exact hbx')).symm, hb1⟩
      · obtain rfl : k = n := by omega
        go_wp2
        go_ret
        refine ⟨ret_bool ?_, hb⟩
        have := inAll_yes (lo := -100000) (hi := 100000) (xs := xs) (fun j hj => hall.out j (by have := hlen.out; omega))
        rw [sigOk, this, hlen.out, Bool.true_and]
        simp; omega
  · go_enter Try.func30, Try.ntmps30
    go_wp2
    go_ret
    refine ⟨ret_bool ?_, Below.refl _ _⟩
    rw [sigOk, hlen.out]
    simp; omega

/-! ### a slice of samples that came in -/
def IsRowM (w : World) (a : Option Addr) (len cap : Nat) (zs : List Int) : Prop :=
  (a = none ∧ len = 0 ∧ cap = 0 ∧ zs = []) ∨
  ∃ x, a = some x ∧ len ≤ cap ∧ cap ≤ maxLen ∧ zs.length = len * 2 ∧ ∀ i, i < len * 2 → w.cell? (x.add i) = some (.int .i64 (zs.getD i 0))
theorem IsRowM.ok {w : World} {a : Option Addr} {len cap : Nat} {zs : List Int} (h : IsRowM w a len cap zs) (hl : len ≤ 1048576) : RdMA w.heap.size w a len cap zs := by
  rcases h with ⟨rfl, rfl, rfl, rfl⟩ | ⟨x, rfl, h1, h2, h3, h4⟩
  · exact ⟨rfl, Nat.le_refl _, by omega, by omega, fun h => by omega⟩
  · refine ⟨h3, h1, by simpa [maxLen] using h2, by omega, fun hn => ?_⟩
    obtain ⟨b, off, spot⟩ := x
    have hc := h4 0 (by omega)
    have hspot : spot = none := by simpa [Addr.add] using World.cell?_spot hc
    subst hspot
    have hadd : ∀ j, (⟨b, off, none⟩ : Addr).add j = ⟨b, off + j, none⟩ := fun j => by unfold Addr.add; split <;> simp_all
    refine ⟨b, off, rfl, ?_, fun i hi => ?_⟩
    · rw [hadd] at hc
      exact World.block_lt_of_cell? w _ hc
    · rw [← hadd, h4 i hi]
theorem IsRowM.cap {w : World} {a : Option Addr} {len cap : Nat} {zs : List Int} (h : IsRowM w a len cap zs) : len ≤ 9223372036854775807 := by
  rcases h with ⟨rfl, rfl, rfl, rfl⟩ | ⟨x, rfl, h1, h2, h3, h4⟩
  · omega
  · unfold maxLen at h2; omega

theorem specSig_t {C : Nat} {v : Value} {xs : List Int} (w : World) (h : RdM C w v xs) (_ : C ≤ w.heap.size) :
    Calls Try.prog 31 #[v] w fun e w' => e = .returned (.bool (sigOk xs)) ∧ Below w.heap.size w w' := b_same (specSig_c w h)
theorem implSig_t {C : Nat} {v : Value} {xs : List Int} (w : World) (h : RdM C w v xs) (hC : C ≤ w.heap.size) :
    Calls Try.prog 30 #[v] w fun e w' => e = .returned (.bool (sigOk xs)) ∧ Below w.heap.size w w' := implSig_c w h hC

/-! ### the power -/
/-- the sum of the squares of the first k numbers -/
def sqTo (xs : List Int) : Nat → Int
  | 0 => 0
  | k + 1 => sqTo xs k + xs.getD k 0 * xs.getD k 0
def pwrOf (xs : List Int) : Int := if sigOk xs = true then sqTo xs xs.length else -1
theorem pwrOf_yes {xs : List Int} (h : sigOk xs = true) : pwrOf xs = sqTo xs xs.length := by simp [pwrOf, h]
theorem pwrOf_no {xs : List Int} (h : sigOk xs = false) : pwrOf xs = -1 := by simp [pwrOf, h]
theorem sq_in {x : Int} (h : -100000 ≤ x ∧ x ≤ 100000) : 0 ≤ x * x ∧ x * x ≤ 10000000000 := by
  have h1 : x * x = (x.natAbs : Int) * x.natAbs := by rw [Int.natAbs_mul_self']
  have h2 : x.natAbs ≤ 100000 := by omega
  have h3 := Nat.mul_le_mul h2 h2
  rw [h1]
  constructor
  · exact Int.mul_nonneg (by omega) (by omega)
  · have : ((x.natAbs * x.natAbs : Nat) : Int) ≤ 10000000000 := by omega
    simpa using this
theorem sqTo_in {xs : List Int} (h : sigOk xs = true) (k : Nat) : 0 ≤ sqTo xs k ∧ sqTo xs k ≤ k * 10000000000 := by
  induction k with
  | zero => simp [sqTo]
  | succ k ih =>
    have := sq_in (sigOk_at h k)
    simp only [sqTo]
    omega

set_option maxHeartbeats 1000000 in
theorem specPow_c {C : Nat} {v : Value} {xs : List Int} (w : World) (h : RdM C w v xs) (_ : C ≤ w.heap.size) :
    Calls Try.prog 14 #[v] w fun e w' => e = .returned (.int .i64 (pwrOf xs)) ∧ Below w.heap.size w w' := by
  have HC := specSig_c w h
  by_cases hs : sigOk xs = true
  case neg =>
    have hs' : sigOk xs = false := by simpa using hs
    have H := hid (pwrOf_no hs')
    rw [hs'] at HC
    have HC := hid HC
    clear hs hs' h
    go_enter Try.func14, Try.ntmps14
    go_wp2_with (go_at_call 31; (with_reducible refine HC.out.mono ?_); rintro e w' ⟨rfl, rfl⟩)
    go_ret
    exact ⟨ret_int H.out.symm, Below.refl _ _⟩
  have H := hid (pwrOf_yes hs)
  rw [hs] at HC
  have HC := hid HC
  have HS := hid hs
  have hl := (sigOk_iff.1 hs).2
  obtain ⟨A, n, c, rfl, h⟩ := h
  have hlen := hid h.len
  have hn : n ≤ 256 := by have := h.len; omega
  clear hs hl
  go_enter Try.func14, Try.ntmps14
  go_wp2_with (go_at_call 31; (with_reducible refine HC.out.mono ?_); rintro e w' ⟨rfl, rfl⟩)
  go_loopw [3, 4] (fun s i wr => ∃ k : Nat, k ≤ n ∧ i = .int .i64 k ∧ s = .int .i64 (sqTo xs (k * 2)) ∧ ∃ q, wr = w.drewN q) (fun _ i _ => n - (intOf i).toNat)
  case atStart => exact ⟨0, Nat.zero_le _, rfl, by first | trivial | rfl, 0, rfl⟩
  case round =>
    obtain ⟨k, hk, rfl, rfl, q, rfl⟩ := hrel
    have hbd := sqTo_in HS.out (k * 2)
    have hnx := hid (show sqTo xs (k * 2 + 1 + 1) = sqTo xs (k * 2) + xs.getD (k * 2) 0 * xs.getD (k * 2) 0 + xs.getD (k * 2 + 1) 0 * xs.getD (k * 2 + 1) 0 from rfl)
    have hfin := hid (fun h : k = n => show sqTo xs (k * 2) = sqTo xs xs.length by rw [hlen.out, h])
    by_cases hlt : k < n
    · obtain ⟨b, off, x, y, rfl, _, c1, c2, hx, hy⟩ := h.at_ hlt
      have bx := sigOk_at HS.out (k * 2)
      have by' := sigOk_at HS.out (k * 2 + 1)
      rw [hx.out] at bx hnx
      rw [hy.out] at by' hnx
      have qx := sq_in bx
      have qy := sq_in by'
      generalize sqTo xs (k * 2) = s at hbd hnx
      have i1 : (k : Int) < (n : Int) := by omega
      have u1 : IntKind.i64.wrap (x * x) = x * x := IntWalk.i64_in _ (by omega)
      have u2 : IntKind.i64.wrap (y * y) = y * y := IntWalk.i64_in _ (by omega)
      have u3 : IntKind.i64.wrap (s + x * x) = s + x * x := IntWalk.i64_in _ (by omega)
      have u4 : IntKind.i64.wrap (s + x * x + y * y) = s + x * x + y * y := IntWalk.i64_in _ (by omega)
      clear hx hy hfin
      go_wp2
      go_quiet (fail)
      clear u1 u2 u3 u4
      go_wp2
      go_roundw
      case rel => exact ⟨k + 1, by omega, by go_num, by rw [show (k + 1) * 2 = k * 2 + 1 + 1 by omega, hnx.out], _, rfl⟩
      case measure => simp [intOf]; omega
    · obtain rfl : k = n := by omega
      go_wp2
      go_ret
      exact ⟨ret_int (by rw [H.out]; exact hfin.out trivial), below_drewN (Below.refl _ _) q⟩
set_option maxHeartbeats 1000000 in
theorem implPow_c {C : Nat} {v : Value} {xs : List Int} (w : World) (h : RdM C w v xs) (hC : C ≤ w.heap.size) :
    Calls Try.prog 13 #[v] w fun e w' => e = .returned (.int .i64 (pwrOf xs)) ∧ Below w.heap.size w w' := by
  have HC := implSig_c w h hC
  by_cases hs : sigOk xs = true
  case neg =>
    have hs' : sigOk xs = false := by simpa using hs
    have H := hid (pwrOf_no hs')
    rw [hs'] at HC
    have HC := hid HC
    clear hs hs' h
    go_enter Try.func13, Try.ntmps13
    go_wp2_with (go_at_call 30; (with_reducible refine HC.out.mono ?_); rintro e w1 ⟨rfl, b1⟩)
    go_ret
    exact ⟨ret_int H.out.symm, b1⟩
  have H := hid (pwrOf_yes hs)
  rw [hs] at HC
  have HC := hid HC
  have HS := hid hs
  have hl := (sigOk_iff.1 hs).2
  obtain ⟨A, n, c, rfl, h⟩ := h
  have hlen := hid h.len
  have hn : n ≤ 256 := by have := h.len; omega
  clear hs hl
  go_enter Try.func13, Try.ntmps13
  go_wp2_with (go_at_call 30; (with_reducible refine HC.out.mono ?_); rintro e w1 ⟨rfl, b1⟩)
  go_loopw [3, 11] (fun s i wr => ∃ k : Nat, k ≤ n ∧ i = .int .i64 k ∧ s = .int .i64 (sqTo xs (k * 2)) ∧ Below w.heap.size w wr) (fun _ i _ => n - (intOf i).toNat)
  case atStart => exact ⟨0, Nat.zero_le _, rfl, by first | trivial | rfl, b1⟩
  case round =>
    obtain ⟨k, hk, rfl, rfl, hb⟩ := hrel
    clear b1
    have hbd := sqTo_in HS.out (k * 2)
    have hnx := hid (show sqTo xs (k * 2 + 1 + 1) = sqTo xs (k * 2) + xs.getD (k * 2) 0 * xs.getD (k * 2) 0 + xs.getD (k * 2 + 1) 0 * xs.getD (k * 2 + 1) 0 from rfl)
    have hfin := hid (fun h : k = n => show sqTo xs (k * 2) = sqTo xs xs.length by rw [hlen.out, h])
    by_cases hlt : k < n
    · obtain ⟨b, off, x, y, rfl, _, hc1, hc2, hx, hy⟩ := h.at_ hlt
      have c1 := (hb.cell (p := ⟨b, off + k * 2, none⟩) (by simp; omega)).trans hc1
      have c2 := (hb.cell (p := ⟨b, off + k * 2 + 1, none⟩) (by simp; omega)).trans hc2
      have hb1 := hb.alloc hb.size (.cells #[.int .i64 x, .int .i64 y] 35)
      have bx := sigOk_at HS.out (k * 2)
      have by' := sigOk_at HS.out (k * 2 + 1)
      rw [hx.out] at bx hnx
      rw [hy.out] at by' hnx
      have qx := sq_in bx
      have qy := sq_in by'
      generalize sqTo xs (k * 2) = s at hbd hnx
      clear hc1 hc2 hx hy hfin
      clear hb
      go_wp2
      go_roundw
      case rel => exact ⟨k + 1, by omega, by go_num, by rw [show (k + 1) * 2 = k * 2 + 1 + 1 by omega, hnx.out]; first | rfl | (congr 1; omega), hb1⟩
      case measure => simp [intOf]; omega
    · obtain rfl : k = n := by omega
      go_wp2
      go_ret
      exact ⟨ret_int (by rw [H.out]; exact hfin.out trivial), hb⟩

end Go.Proofs.Ytokgonhfmidbeaa
