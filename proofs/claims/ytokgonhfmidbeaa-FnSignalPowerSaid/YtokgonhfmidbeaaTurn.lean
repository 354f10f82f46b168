/-
  TurnSamples, of the program and of the reference: every sample turned by quarter turns.
-/
import Derived.Test.YtokgonhfmidbeaaSig
namespace Go.Proofs.Ytokgonhfmidbeaa
open Go.RowKit

/-- a sample turned by k quarter turns -/
def tr (x y : Int) : Nat → Int × Int
  | 0 => (x, y)
  | k + 1 => (-(tr x y k).2, (tr x y k).1)
theorem tr_in {x y : Int} (hx : -100000 ≤ x ∧ x ≤ 100000) (hy : -100000 ≤ y ∧ y ≤ 100000) (k : Nat) : (-100000 ≤ (tr x y k).1 ∧ (tr x y k).1 ≤ 100000) ∧ -100000 ≤ (tr x y k).2 ∧ (tr x y k).2 ≤ 100000 := by
  induction k with
  | zero => exact ⟨hx, hy⟩
  | succ k ih => simp only [tr]; omega
/-- number i of the turned signal -/
def trF (xs : List Int) (q i : Nat) : Int := if i % 2 = 0 then (tr (xs.getD i 0) (xs.getD (i + 1) 0) q).1 else (tr (xs.getD (i - 1) 0) (xs.getD i 0) q).2
theorem trF_even (xs : List Int) (q k : Nat) : trF xs q (k * 2) = (tr (xs.getD (k * 2) 0) (xs.getD (k * 2 + 1) 0) q).1 := by unfold trF; rw [if_pos (by omega)]
theorem trF_odd (xs : List Int) (q k : Nat) : trF xs q (k * 2 + 1) = (tr (xs.getD (k * 2) 0) (xs.getD (k * 2 + 1) 0) q).2 := by unfold trF; rw [if_neg (by omega), Nat.add_sub_cancel]
def turnN (xs : List Int) (q : Nat) : List Int := rg xs.length (trF xs q)
def turn (xs : List Int) (q : Int) : List Int := if (sigOk xs && inB q 0 3) = true then turnN xs q.toNat else []
theorem turn_yes {xs : List Int} {q : Int} (h : sigOk xs = true) (hq : inB q 0 3 = true) : turn xs q = turnN xs q.toNat := by simp [turn, h, hq]
theorem turn_no {xs : List Int} {q : Int} (h : (sigOk xs && inB q 0 3) = false) : turn xs q = [] := by unfold turn; rw [h]; rfl
theorem turn_next {xs : List Int} {q k : Nat} {x y : Int} (hx : xs.getD (k * 2) 0 = x) (hy : xs.getD (k * 2 + 1) 0 = y) : rg (k * 2) (trF xs q) ++ [(tr x y q).1, (tr x y q).2] = rg ((k + 1) * 2) (trF xs q) := by
  have e1 := rg_snoc (k * 2) (trF xs q)
  have e2 := rg_snoc (k * 2 + 1) (trF xs q)
  rw [trF_even, hx, hy] at e1
  rw [trF_odd, hx, hy, ← e1] at e2
  rw [show (k + 1) * 2 = k * 2 + 1 + 1 by omega, ← e2]
  simp

set_option maxHeartbeats 2000000 in
theorem implTurn_c {C : Nat} {v : Value} {xs : List Int} (w : World) (q : Int) (h : RdM C w v xs) (hC : C ≤ w.heap.size) :
    Calls Try.prog 19 #[v, .int .i64 q] w fun e w' => ∃ v' m, e = .returned v' ∧ OwnM w.heap.size w'.heap.size w' v' m (turn xs q) ∧ Below w.heap.size w w' := by
  have HC := implSig_c w h hC
  by_cases hs : sigOk xs = true
  case neg =>
    have hs' : sigOk xs = false := by simpa using hs
    have H := hid (turn_no (xs := xs) (q := q) (by rw [hs']; rfl))
    rw [hs'] at HC
    have HC := hid HC
    clear hs hs' h
    go_enter Try.func19, Try.ntmps19
    go_wp2_with (go_at_call 30; (with_reducible refine HC.out.mono ?_); rintro e w1 ⟨rfl, b1⟩)
    go_ret
    exact ⟨_, 0, rfl, by rw [H.out]; exact OwnM.nil _ _ _, b1⟩
  rw [hs] at HC
  have HC := hid HC
  by_cases h0 : 0 ≤ q
  case neg =>
    have H := hid (turn_no (xs := xs) (q := q) (by rw [inB_lo h0, Bool.and_false]))
    have h0' : q < 0 := by omega
    clear hs h
    go_enter Try.func19, Try.ntmps19
    go_wp2_with (go_at_call 30; (with_reducible refine HC.out.mono ?_); rintro e w1 ⟨rfl, b1⟩)
    go_ret
    exact ⟨_, 0, rfl, by rw [H.out]; exact OwnM.nil _ _ _, b1⟩
  by_cases h3 : q ≤ 3
  case neg =>
    have H := hid (turn_no (xs := xs) (q := q) (by rw [inB_hi h3, Bool.and_false]))
    have h3' : 3 < q := by omega
    clear hs h
    go_enter Try.func19, Try.ntmps19
    go_wp2_with (go_at_call 30; (with_reducible refine HC.out.mono ?_); rintro e w1 ⟨rfl, b1⟩)
    go_ret
    exact ⟨_, 0, rfl, by rw [H.out]; exact OwnM.nil _ _ _, b1⟩
  have H := hid (turn_yes hs (inB_yes h0 h3))
  obtain ⟨q, rfl⟩ := Int.eq_ofNat_of_zero_le h0
  rw [Int.toNat_natCast] at H
  have HS := hid hs
  have hl := (sigOk_iff.1 hs).2
  obtain ⟨A, n, c, rfl, h⟩ := h
  have hlen := hid h.len
  have hn : n ≤ 256 := by have := h.len; omega
  clear hs hl
  obtain ⟨MC, hMC⟩ : ∃ MC, MC = madeCells #[Value.int .i64 0, .int .i64 0] (n * 2) := ⟨_, rfl⟩
  have hmk : ∀ W : World, (Instr.makeSlice 31 (.int .i64 0) (.int .i64 (n : Int))).run Try.prog W = .ok (.slice (some ⟨W.heap.size, 0, none⟩) 0 n) (W.alloc (.cells MC 35)) := by
    intro W
    rw [hMC]
    exact run_mkM smpSl 0 (n : Int) 0 n rfl rfl (by omega) (by omega) W
  have hms := hid (show MC.size = n * 2 by rw [hMC]; exact size_madeCells _ _)
  clear hMC
  go_enter Try.func19, Try.ntmps19
  go_wp2_with (go_at_call 30; (with_reducible refine HC.out.mono ?_); rintro e w1 ⟨rfl, b1⟩)
  have t1 := b1.size
  have hown := (OwnM.made0 w1 MC n hms.out (by omega)).less t1
  have hbel := b1.alloc t1 (.cells MC 35)
  clear hmk b1
  go_loopw [5, 24] (fun out i wr => ∃ k : Nat, k ≤ n ∧ i = .int .i64 k ∧ OwnM w.heap.size wr.heap.size wr out k (rg (k * 2) (trF xs q)) ∧ Below w.heap.size w wr) (fun _ i _ => n - (intOf i).toNat)
  case atStart => exact ⟨0, Nat.zero_le _, rfl, hown.more (by simp), hbel⟩
  case round =>
    obtain ⟨k, hk, rfl, ho, hb⟩ := hrel
    clear hown hbel
    have hsz := hb.size
    by_cases hlt : k < n
    case neg =>
      obtain rfl : k = n := by omega
      go_wp2
      go_ret
      exact ⟨_, k, rfl, by rw [H.out, turnN, hlen.out]; exact ho, hb⟩
    obtain ⟨b, off, x, y, rfl, _, hc1, hc2, hx, hy⟩ := h.at_ hlt
    have c1 := (hb.cell (p := ⟨b, off + k * 2, none⟩) (by simp; omega)).trans hc1
    have c2 := (hb.cell (p := ⟨b, off + k * 2 + 1, none⟩) (by simp; omega)).trans hc2
    have bx := sigOk_at HS.out (k * 2)
    have by' := sigOk_at HS.out (k * 2 + 1)
    have Hn := hid (turn_next (q := q) hx.out hy.out)
    rw [hx.out] at bx
    rw [hy.out] at by'
    clear hc1 hc2 hx hy
    go_wp2
    obtain ⟨wo, rfl⟩ : ∃ wo, wo = wr := ⟨_, rfl⟩
    go_loopw [29] (fun i ws => ∃ j : Nat, j ≤ q ∧ i = .int .i64 j ∧ ws = wo.alloc (.cells #[.int .i64 (tr x y j).1, .int .i64 (tr x y j).2] 35)) (fun i _ => q - (intOf i).toNat)
    case atStart => exact ⟨0, Nat.zero_le _, rfl, rfl⟩
    case round =>
      obtain ⟨j, hj, rfl, rfl⟩ := hrel
      have hin := tr_in bx by' j
      have hnx := hid (show tr x y (j + 1) = (-(tr x y j).2, (tr x y j).1) from rfl)
      have hfin := hid (fun h : j = q => show tr x y j = tr x y q by rw [h])
      by_cases hjq : j < q
      case pos =>
        generalize tr x y j = p at hin hnx
        obtain ⟨p1, p2⟩ := p
        simp only at hin hnx
        clear hfin c1 c2
        go_wp2
        go_roundw
        case rel => exact ⟨j + 1, by omega, by go_num, by rw [hnx.out]⟩
        case measure => simp [intOf]; omega
      case neg =>
        obtain rfl : j = q := by omega
        clear hnx hfin
        generalize tr x y j = p at Hn hin
        obtain ⟨p1, p2⟩ := p
        simp only at hin Hn
        have ho1 := ho.alloc (Nat.le_refl _) (.cells #[.int .i64 p1, .int .i64 p2] 35)
        have hb1 := hb.alloc hsz (.cells #[.int .i64 p1, .int .i64 p2] 35)
        have hz1 : wo.heap.size ≤ (wo.alloc (.cells #[.int .i64 p1, .int .i64 p2] 35)).heap.size := by simp
        clear ho hb c1 c2
        go_wp2_with (at_builtin; refine wpl_applM smpSl _ rfl (.tmp 39) (.tmp 41) rfl w.heap.size wo.heap.size _ _ _ _ [p1, p2] 1 rfl rfl rfl _ rfl (by simp) ho1 hz1 (by omega) (by omega) ?_; intro v' w2 ho2 hg2)
        rw [Hn.out] at ho2
        have hb2 := hb1.grown hg2 (by omega) (fun q hq => (ho1.lt q hq).1)
        clear ho1 hb1 hg2
        go_wp2
        go_roundw
        case rel => exact ⟨k + 1, by omega, by go_num, ho2, hb2⟩
        case measure => simp [intOf]; omega


theorem implTurn_t {C : Nat} {v : Value} {xs : List Int} {q : Int} (w : World) (h : RdM C w v xs) (hC : C ≤ w.heap.size) (_ : -9223372036854775808 ≤ q ∧ q ≤ 9223372036854775807) :
    Calls Try.prog 19 #[v, .int .i64 q] w fun e w' => ∃ v' m, e = .returned v' ∧ OwnM w.heap.size w'.heap.size w' v' m (turn xs q) ∧ Below w.heap.size w w' := implTurn_c w q h hC
end Go.Proofs.Ytokgonhfmidbeaa
