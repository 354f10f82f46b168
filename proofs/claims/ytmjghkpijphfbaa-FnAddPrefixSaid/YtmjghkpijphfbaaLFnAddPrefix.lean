/-
  The law FnAddPrefix, walked: for every input the call returns true, and nothing that was there has changed.
-/
import Derived.Test.YtmjghkpijphfbaaPrefix
import Derived.Test.YtmjghkpijphfbaaDrawPts
namespace Go.Proofs.Ytmjghkpijphfbaa
open Go.RowKit

theorem pfx_len {xs : List Int} {n k : Nat} (h : xs.length = 16) (hk : n + k = 16) : (pfxN xs k).length = 16 + n := by
  unfold pfxN; rw [List.length_append, List.length_drop, h]; omega
theorem pfx_drop {xs : List Int} {n k : Nat} (h : xs.length = 16) (hk : n + k = 16) : (pfxN xs k).drop n = xs := by
  unfold pfxN
  have : (xs.drop k).length = n := by rw [List.length_drop, h]; omega
  rw [List.drop_append_of_le_length (by omega), ← this, List.drop_length, List.nil_append]
theorem pfx_take {xs : List Int} {n k : Nat} (h : xs.length = 16) (hk : n + k = 16) : (pfxN xs k).take n = (pfxN xs k).drop 16 := by
  unfold pfxN
  have e : (xs.drop k).length = n := by rw [List.length_drop, h]; omega
  rw [List.take_append_of_le_length (by omega), List.take_of_length_le (by omega)]
  apply List.ext_getElem?
  intro i
  rw [List.getElem?_drop, List.getElem?_drop]
  by_cases h16 : 16 + i < n
  · omega
  · rw [List.getElem?_append_right (by omega), e]
    congr 1; omega

theorem quiet_add {P : Program} {f : FuncId} {args : Array Value} {w : World} {a n : Nat} {v : Value}
    (h : Calls P f args (w.drewN (a + n)) fun e w' => e = .returned v ∧ ∃ m, w' = (w.drewN (a + n)).drewN m) :
    Calls P f args (w.drewN (a + n)) fun e w'' => e = .returned v ∧ ∃ m, w'' = w.drewN (a + m) :=
  h.mono fun _ _ ⟨he, m, hm⟩ => ⟨he, n + m, by rw [hm, World.drewN_drewN, Nat.add_assoc]⟩
theorem sameInts_y {C D : Nat} {v1 v2 : Value} {xs ys : List Int} (w : World) (h1 : Rd C w v1 xs) (h2 : Rd D w v2 ys) (h : xs = ys) :
    Calls Try.prog 21 #[v1, v2] w fun e w' => e = .returned (.bool true) ∧ ∃ q, w' = w.drewN q := by
  have := sameInts_c w h1 h2
  rwa [h, eqB_self] at this

set_option maxHeartbeats 2000000 in
theorem FnAddPrefix_walk (a0 : Option Addr) (len0 cap0 : Nat) (z0 : List Int) (w : World) (w0 : IsRow .u8 w a0 len0 cap0 z0) :
    Calls Try.prog 6 #[.slice a0 len0 cap0] w fun e w' => e = .returned (.bool true) ∧ Below w.heap.size w w' := by
  by_cases hl0 : len0 ≤ 1048576
  case neg =>
    have hl0' : 1048576 < len0 := by omega
    go_enter Try.func6, Try.ntmps6
    go_wp2
    go_ret
    exact ⟨rfl, Below.refl _ _⟩
  have B0 := w0.bytes
  clear w0
  go_enter Try.func6, Try.ntmps6
  go_wp2_with fail
  refine (DrawAddPrefix_c _ B0 (Nat.le_refl _)).mono ?_
  rintro e w1 ⟨v1, xs, n, rfl, R, ⟨n0, n1⟩, bb⟩
  have t1 := bb.size
  go_wp2_with fail
  refine (implPfx_c w1 n R (Nat.le_refl _)).mono ?_
  rintro e w2 ⟨v2, rfl, O1, b2⟩
  have t2 := b2.size
  have R := R.below b2 (by omega)
  have bb := bb.trans (b2.mono (by omega))
  go_wp2_with fail
  refine (specPfx_c w2 n R (by omega)).mono ?_
  rintro e w3 ⟨v3, rfl, O3, b3⟩
  have t3 := b3.size
  have R := R.below b3 (by omega)
  have O1 := O1.below b3 (by omega)
  have bb := bb.trans (b3.mono (by omega))
  go_wp2_with fail
  refine (sameInts_t _ O1.rd O3.rd).mono ?_
  rintro e w4 ⟨rfl, b4⟩
  have t4 := b4.size
  have R := R.below b4 (by omega)
  have O1 := O1.below b4 (by omega)
  have bb := bb.trans (b4.mono (by omega))
  clear b4 b3 b2 O3
  by_cases hp : pfxOk xs n = true
  case neg =>
    have hp' : pfxOk xs n = false := by simpa using hp
    rw [pfx_no hp'] at O1
    obtain ⟨A, m, c, rfl, Q⟩ := O1.rd
    obtain rfl : m = 0 := by rw [← Q.len]; rfl
    clear hp hp' Q
    go_wp2_with fail
    refine (alive_c _).mono ?_
    rintro e w5 ⟨rfl, b5⟩
    have bb := bb.trans (b5.mono (by omega))
    go_wp2_with fail
    go_ret
    exact ⟨rfl, bb⟩
  rw [pfx_yes hp] at O1
  obtain ⟨hp1, hp2⟩ : ptsOk xs = true ∧ inB n 0 16 = true := by simpa [pfxOk] using hp
  have hin := inB_iff.1 hp2
  obtain ⟨n, rfl⟩ := Int.eq_ofNat_of_zero_le hin.1
  rw [Int.toNat_natCast] at O1
  have hl16 := ptsOk_len hp1
  obtain ⟨k, hk⟩ : ∃ k, k = 16 - n := ⟨_, rfl⟩
  rw [← hk] at O1
  have hnk : n + k = 16 := by omega
  have HPL := pfx_len hl16 hnk
  have HPD := hid (pfx_drop hl16 hnk)
  have HPT := hid (pfx_take hl16 hnk)
  obtain ⟨A, m, c, rfl, Q⟩ := O1.rd
  have hmL : m = 16 + n := by rw [← Q.len]; exact HPL
  have hcap := Q.le
  have hcap2 := Q.cap
  have hm0 : ((m : Int) == 0) = false := by simp; omega
  have Qn := Q.from (k := n) (by omega)
  have Q16 := Q.from (k := 16) (by omega)
  have Qt := Q.till (k := n) (by omega)
  rw [HPD.out, if_neg (by omega)] at Qn
  by_cases hc16 : c = 16
  · subst hc16
    obtain rfl : n = 0 := by omega
    obtain rfl : k = 16 := by omega
    obtain rfl : m = 16 := by omega
    have hx : pfxN xs 16 = xs := by unfold pfxN; rw [← hl16, List.drop_length, List.nil_append]
    rw [hx] at Q
    have R1 : Rd w2.heap.size w4 (.slice A 16 16) xs := ⟨_, _, _, rfl, Q⟩
    have R2 : Rd w2.heap.size w4 (.slice A 0 0) [] := ⟨_, _, _, rfl, rfl, by omega, by omega, by omega, fun h => by omega⟩
    have R3 : Rd w2.heap.size w4 (.slice A 0 16) [] := ⟨_, _, _, rfl, rfl, by omega, by omega, by omega, fun h => by omega⟩
    have u1 : IntKind.i64.wrap 16 = 16 := by decide
    clear Qn Q16 Qt Q hk hmL HPL hl16 hin hp1 hp2 hp n0 n1 O1 hm0 hcap hcap2 hnk HPD HPT hx
    go_wp2
    go_quiet (first | (go_at_call 21; exact Calls.quiet_of (sameInts_y _ (R1.drewN _) (R.drewN _) rfl)) | (go_at_call 21; exact Calls.quiet_of (sameInts_y _ (R3.drewN _) (R2.drewN _) rfl)))
    go_wp2
    go_ret
    exact ⟨rfl, below_drewN bb _⟩
  rw [if_neg hc16] at Q16
  rw [HPT.out] at Qt
  have R1 : Rd w2.heap.size w4 (.slice (A.map (·.add n)) (m - n) (c - n)) xs := ⟨_, _, _, rfl, Qn⟩
  have R2 : Rd w2.heap.size w4 (.slice (A.map (·.add 16)) (m - 16) (c - 16)) ((pfxN xs k).drop 16) := ⟨_, _, _, rfl, Q16⟩
  have R3 : Rd w2.heap.size w4 (.slice A n c) ((pfxN xs k).drop 16) := ⟨_, _, _, rfl, Qt⟩
  have HM := hid hmL
  have u1 : IntKind.i64.wrap (16 + (n : Int)) = (m : Int) := by rw [show (16 : Int) + n = m by omega]; exact IntWalk.i64_in _ (by omega)
  have i1 : (n : Int) ≤ (m : Int) := by omega
  have i2 : (n : Int) ≤ (c : Int) := by omega
  have i3 : (16 : Int) ≤ (m : Int) := by omega
  have i4 : 16 ≤ m := by omega
  have i5 : n ≤ m := by omega
  have i6 : n ≤ c := by omega
  have j1 : ¬ c = n := by omega
  clear Qn Q16 Qt Q hk hmL HPL hl16 hin hp1 hp2 hp n0 n1 O1
  go_wp2
  go_quiet (first | (go_at_call 21; exact Calls.quiet_of (sameInts_y _ (R1.drewN _) (R.drewN _) rfl)) | (go_at_call 21; exact Calls.quiet_of (sameInts_y _ (R3.drewN _) (R2.drewN _) rfl)))
  go_wp2
  go_ret
  exact ⟨rfl, below_drewN bb _⟩

end Go.Proofs.Ytmjghkpijphfbaa
