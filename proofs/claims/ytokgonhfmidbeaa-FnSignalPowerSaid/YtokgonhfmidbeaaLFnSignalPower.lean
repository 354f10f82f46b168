/-
  The law FnSignalPower, walked: for every input the call returns true, and nothing that was there has changed.
-/
import Derived.Test.YtokgonhfmidbeaaSigLaw
import Derived.Deep.RegionHeld3
namespace Go.Proofs.Ytokgonhfmidbeaa
open Go.RowKit

set_option maxHeartbeats 2000000 in
theorem FnSignalPower_walk (a0 : Option Addr) (len0 cap0 : Nat) (z0 : List Int) (w : World) (w0 : IsRow .u8 w a0 len0 cap0 z0) :
    Calls Try.prog 4 #[.slice a0 len0 cap0] w fun e w' => e = .returned (.bool true) ∧ Below w.heap.size w w' := by
  by_cases hl0 : len0 ≤ 1048576
  case neg =>
    have hl0' : 1048576 < len0 := by omega
    go_enter Try.func4, Try.ntmps4
    go_wp2
    go_ret
    exact ⟨rfl, Below.refl _ _⟩
  have B0 := w0.bytes
  clear w0
  go_enter Try.func4, Try.ntmps4
  go_wp2_with fail
  refine (DrawSignalPower_c _ B0 (Nat.le_refl _)).mono ?_
  rintro e w1 ⟨v1, m, xs, rfl, O, hm, bb⟩
  have t1 := bb.size
  go_wp2_with fail
  refine (implPow_c _ O.rd (Nat.le_refl _)).mono ?_
  rintro e w2 ⟨rfl, b2⟩
  have t2 := b2.size
  have O := O.below b2 (Nat.le_refl _)
  have bb := bb.trans (b2.mono (by omega))
  go_wp2_with fail
  refine (specPow_c _ O.rd (by omega)).mono ?_
  rintro e w3 ⟨rfl, b3⟩
  have t3 := b3.size
  have O := O.below b3 (by omega)
  have bb := bb.trans (b3.mono (by omega))
  clear b2 b3
  cases hs : sigOk xs with
  | false =>
    rw [pwrOf_no hs]
    clear hs
    go_wp2_with fail
    refine (alive_c _).mono ?_
    rintro e w5 ⟨rfl, b5⟩
    have bb := bb.trans (b5.mono (by omega))
    go_wp2_with fail
    go_ret
    exact ⟨rfl, bb⟩
  | true =>
    obtain ⟨A, n, c, rfl, Q⟩ := O.rd
    obtain rfl : n = m := by have := Q.len; have := O.len; omega
    have hl := Q.len
    have hzp := zerosB_pwr hs hl
    have hpos : 0 ≤ pwrOf xs ∧ pwrOf xs ≤ 6000000000000 := by
      rw [pwrOf_yes hs]
      have := sqTo_in hs xs.length
      have := (sigOk_iff.1 hs).2
      omega
    have hsp := fun k => pwr_split hs k
    generalize hP : pwrOf xs = P at hzp hpos hsp
    obtain ⟨h, hh⟩ : ∃ h, h = n / 2 := ⟨_, rfl⟩
    have d2 : (n : Int) / 2 = (h : Int) := by omega
    have HP := hid hP
    have HZ := hid hzp
    have HSP := hid (hsp (h * 2))
    have HS := hid hs
    have hhn := hid hh
    clear hP hzp hsp hh hs hl
    go_wp2_with fail
    go_loop [6, 7] (fun z i => ∃ k : Nat, k ≤ n ∧ i = .int .i64 k ∧ z = .bool (zerosB xs k)) (fun _ i => n - (intOf i).toNat)
    case atStart => exact ⟨0, by omega, rfl, by rw [show zerosB xs 0 = true from decide_eq_true (fun j hj => by omega)]⟩
    case round =>
      obtain ⟨k, hk, rfl, rfl⟩ := hrel
      by_cases hlt : k < n
      · obtain ⟨b, off, x, y, rfl, _, c1, c2, hx, hy⟩ := Q.at_ hlt
        have nx := hid (zerosB_next hx.out hy.out)
        cases hz : zerosB xs k with
        | false =>
          rw [hz] at nx
          clear hz
          go_wp2
          go_round
          case rel => exact ⟨k + 1, by omega, by go_num, by rw [nx.out]; rfl⟩
          case measure => simp [intOf]; omega
        | true =>
          rw [hz] at nx
          clear hz
          by_cases hx0 : x = 0 <;> by_cases hy0 : y = 0
          all_goals
            have NX : Hid (zerosB xs (k + 1) = (x == 0 && y == 0)) := nx.out
            clear nx
            go_wp2
            go_round
            case rel => exact ⟨k + 1, by omega, by go_num, by rw [NX.out]; simp [hx0, hy0]⟩
            case measure => simp [intOf]; omega
      · obtain rfl : k = n := by omega
        have hhk := hhn.out
        have HC1 := hid (fun W (b : Below w3.heap.size w3 W) => implPow_c W (⟨_, _, _, rfl, (Q.till (k := h) (by omega)).below b (by omega)⟩) (by have := b.size; omega))
        have HC2 := hid (fun W (b : Below w3.heap.size w3 W) => implPow_c W (⟨_, _, _, rfl, (Q.from (k := h) (by omega)).below b (by omega)⟩) (by have := b.size; omega))
        have hp12 := HSP.out
        have hpz : k = 0 → pwrOf (xs.take (h * 2)) = 0 ∧ pwrOf (xs.drop (h * 2)) = 0 := fun e => by
          have e2 : xs = [] := List.eq_nil_of_length_eq_zero (by have := Q.len; omega)
          rw [e2, List.take_nil, List.drop_nil]
          exact ⟨rfl, rfl⟩
        have hh2 : h * 2 ≤ k := by omega
        generalize pwrOf (xs.take (h * 2)) = p1 at HC1 hp12 hpz
        generalize pwrOf (xs.drop (h * 2)) = p2 at HC2 hp12 hpz
        have hz := HZ.out
        clear HSP HZ hhk
        have hb0 : Below w3.heap.size w3 w3.drew := below_drewN (Below.refl _ _) 1
        have HB0 := hid hb0
        have q1 : h ≤ k := by omega
        have q2 : k ≤ c := Q.le
        have q3 : c ≤ 9223372036854775807 := Q.cap
        clear hb0 Q
        have iq1 : (h : Int) ≤ (k : Int) := by omega
        have iq2 : (h : Int) ≤ (c : Int) := by omega
        have iq3 : (k : Int) ≤ (c : Int) := by omega
        have iq4 : h ≤ c := by omega
        have iq5 : (0 : Int) ≤ (h : Int) := by omega
        have uS : IntKind.i64.wrap (p1 + p2) = P := by rw [hp12]; exact IntWalk.i64_in _ (by omega)
        have uP : IntKind.i64.wrap P = P := IntWalk.i64_in _ (by omega)
        by_cases hck : c = h
        · obtain rfl : k = 0 := by omega
          obtain rfl : h = 0 := by omega
          obtain rfl : c = 0 := by omega
          obtain ⟨rfl, rfl⟩ := hpz rfl
          obtain rfl : P = 0 := by omega
          have hzt : zerosB xs 0 = true := hz.symm
          rw [hzt]
          simp only [if_true, Nat.sub_self, Nat.zero_mul] at HC1 HC2
          clear hz hzt hpz hp12 hpos q1 q2 q3 iq1 iq2 iq3 iq4 iq5 uS uP hh2
          go_wp2_with fail
          go_region_held3 (fun _ => True) (trivial) (first | (go_at_call 13; first | ((with_reducible refine (HC1.out _ ?_).mono ?_); (first | exact BB.out | exact HB0.out); rintro e wp ⟨rfl, bp⟩; have BB : Hid (Below w3.heap.size w3 wp) := (by first | exact (HB0.out).trans (bp.mono (HB0.out).size) | exact (BB.out).trans (bp.mono (BB.out).size))) | ((with_reducible refine (HC2.out _ ?_).mono ?_); (first | exact BB.out | exact HB0.out); rintro e wp ⟨rfl, bp⟩; have BB : Hid (Below w3.heap.size w3 wp) := (by first | exact (HB0.out).trans (bp.mono (HB0.out).size) | exact (BB.out).trans (bp.mono (BB.out).size)))))
          all_goals
            go_wp2_with fail
            go_ret
            exact ⟨rfl, bb.trans (BB.out.mono (by have := bb.size; omega))⟩
        · have hcd : decide (c = h) = false := decide_eq_false hck
          simp only [hck, if_false] at HC2
          cases A with
          | none =>
            simp only [Option.map_none] at HC2
            cases hzb : zerosB xs k with
            | false =>
              rw [hzb] at hz
              have hPd : decide (P = 0) = false := by simpa using hz
              clear hzb
              go_wp2_with fail
              go_region_held3 (fun _ => True) (trivial) (first | (go_at_call 13; first | ((with_reducible refine (HC1.out _ ?_).mono ?_); (first | exact BB.out | exact HB0.out); rintro e wp ⟨rfl, bp⟩; have BB : Hid (Below w3.heap.size w3 wp) := (by first | exact (HB0.out).trans (bp.mono (HB0.out).size) | exact (BB.out).trans (bp.mono (BB.out).size))) | ((with_reducible refine (HC2.out _ ?_).mono ?_); (first | exact BB.out | exact HB0.out); rintro e wp ⟨rfl, bp⟩; have BB : Hid (Below w3.heap.size w3 wp) := (by first | exact (HB0.out).trans (bp.mono (HB0.out).size) | exact (BB.out).trans (bp.mono (BB.out).size)))))
              all_goals
                go_wp2_with fail
                go_ret
                exact ⟨rfl, bb.trans (BB.out.mono (by have := bb.size; omega))⟩
            | true =>
              rw [hzb] at hz
              obtain rfl : P = 0 := by simpa using hz
              clear hz hzb
              go_wp2_with fail
              go_region_held3 (fun _ => True) (trivial) (first | (go_at_call 13; first | ((with_reducible refine (HC1.out _ ?_).mono ?_); (first | exact BB.out | exact HB0.out); rintro e wp ⟨rfl, bp⟩; have BB : Hid (Below w3.heap.size w3 wp) := (by first | exact (HB0.out).trans (bp.mono (HB0.out).size) | exact (BB.out).trans (bp.mono (BB.out).size))) | ((with_reducible refine (HC2.out _ ?_).mono ?_); (first | exact BB.out | exact HB0.out); rintro e wp ⟨rfl, bp⟩; have BB : Hid (Below w3.heap.size w3 wp) := (by first | exact (HB0.out).trans (bp.mono (HB0.out).size) | exact (BB.out).trans (bp.mono (BB.out).size)))))
              all_goals
                go_wp2_with fail
                go_ret
                exact ⟨rfl, bb.trans (BB.out.mono (by have := bb.size; omega))⟩
          | some AA =>
            simp only [Option.map_some] at HC2
            cases hzb : zerosB xs k with
            | false =>
              rw [hzb] at hz
              have hPd : decide (P = 0) = false := by simpa using hz
              clear hzb
              go_wp2_with fail
              go_region_held3 (fun _ => True) (trivial) (first | (go_at_call 13; first | ((with_reducible refine (HC1.out _ ?_).mono ?_); (first | exact BB.out | exact HB0.out); rintro e wp ⟨rfl, bp⟩; have BB : Hid (Below w3.heap.size w3 wp) := (by first | exact (HB0.out).trans (bp.mono (HB0.out).size) | exact (BB.out).trans (bp.mono (BB.out).size))) | ((with_reducible refine (HC2.out _ ?_).mono ?_); (first | exact BB.out | exact HB0.out); rintro e wp ⟨rfl, bp⟩; have BB : Hid (Below w3.heap.size w3 wp) := (by first | exact (HB0.out).trans (bp.mono (HB0.out).size) | exact (BB.out).trans (bp.mono (BB.out).size)))))
              all_goals
                go_wp2_with fail
                go_ret
                exact ⟨rfl, bb.trans (BB.out.mono (by have := bb.size; omega))⟩
            | true =>
              rw [hzb] at hz
              obtain rfl : P = 0 := by simpa using hz
              clear hz hzb
              go_wp2_with fail
              go_region_held3 (fun _ => True) (trivial) (first | (go_at_call 13; first | ((with_reducible refine (HC1.out _ ?_).mono ?_); (first | exact BB.out | exact HB0.out); rintro e wp ⟨rfl, bp⟩; have BB : Hid (Below w3.heap.size w3 wp) := (by first | exact (HB0.out).trans (bp.mono (HB0.out).size) | exact (BB.out).trans (bp.mono (BB.out).size))) | ((with_reducible refine (HC2.out _ ?_).mono ?_); (first | exact BB.out | exact HB0.out); rintro e wp ⟨rfl, bp⟩; have BB : Hid (Below w3.heap.size w3 wp) := (by first | exact (HB0.out).trans (bp.mono (HB0.out).size) | exact (BB.out).trans (bp.mono (BB.out).size)))))
              all_goals
                go_wp2_with fail
                go_ret
                exact ⟨rfl, bb.trans (BB.out.mono (by have := bb.size; omega))⟩

end Go.Proofs.Ytokgonhfmidbeaa
