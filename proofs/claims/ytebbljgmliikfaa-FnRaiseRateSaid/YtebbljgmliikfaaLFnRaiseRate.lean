/-
  The law FnRaiseRate, walked: for every input the call returns true, and nothing that was there has changed.
-/
import Derived.Test.YtebbljgmliikfaaCorrLaw
import Derived.Test.YtebbljgmliikfaaRegionUse
namespace Go.Proofs.Ytebbljgmliikfaa
open Go.RowKit

set_option maxHeartbeats 2000000 in
theorem FnRaiseRate_walk (a0 : Option Addr) (len0 cap0 : Nat) (z0 : List Int) (w : World) (w0 : IsRow .u8 w a0 len0 cap0 z0) :
    Calls Try.prog 7 #[.slice a0 len0 cap0] w fun e w' => e = .returned (.bool true) ∧ Below w.heap.size w w' := by
  by_cases hl0 : len0 ≤ 1048576
  case neg =>
    have hl0' : 1048576 < len0 := by omega
    go_enter Try.func7, Try.ntmps7
    go_wp2
    go_ret
    exact ⟨rfl, Below.refl _ _⟩
  have B0 := w0.bytes
  clear w0
  have bb := Below.refl w.heap.size w
  go_enter Try.func7, Try.ntmps7
  go_wp2_with fail
  refine (DrawRaiseRate_c _ B0 (Nat.le_refl _)).mono ?_
  rintro e w1_ ⟨v1, xs, n, rfl, OX, ⟨hl, hx⟩, ⟨n0, n9⟩, b1⟩
  have t1 := b1.size
  have bb := bb.trans (b1.mono (by omega))
  clear b1
  clear hx hl
  have hn : InI n := ⟨by omega, by omega⟩
  go_wp2_with fail
  refine (implRaise_t _ OX.rd (by omega) hn).mono ?_
  rintro e w2_ ⟨v2, rfl, OU, b2⟩
  have t2 := b2.size
  have OX := OX.below b2 (by omega)
  have bb := bb.trans (b2.mono (by omega))
  clear b2
  go_wp2_with fail
  refine (specRaise_t _ OX.rd (by omega) hn).mono ?_
  rintro e w3_ ⟨v3, rfl, OS, b3⟩
  have t3 := b3.size
  have OX := OX.below b3 (by omega)
  have OU := OU.below b3 (by omega)
  have bb := bb.trans (b3.mono (by omega))
  clear b3
  go_wp2_with fail
  refine (sameInts_t _ OU.rd OS.rd).mono ?_
  rintro e w4_ ⟨rfl, b4⟩
  have t4 := b4.size
  have OX := OX.below b4 (by omega)
  have OU := OU.below b4 (by omega)
  have OS := OS.below b4 (by omega)
  have bb := bb.trans (b4.mono (by omega))
  clear b4
  clear OS
  obtain ⟨Au, nu, cu, rfl, RU⟩ := OU.rd
  have lRU := hid RU.len
  obtain ⟨Ax, nx, cx, rfl, RX⟩ := OX.rd
  have lRX := hid RX.len
  clear hn
  by_cases hu : nu = 0
  case pos =>
    subst hu
    go_wp2_with fail
    refine (alive_c _).mono ?_
    rintro e w5_ ⟨rfl, b5⟩
    have t5 := b5.size
    have OX := OX.below b5 (by omega)
    have OU := OU.below b5 (by omega)
    have RU := RU.below b5 (by omega)
    have RX := RX.below b5 (by omega)
    have bb := bb.trans (b5.mono (by omega))
    clear b5
    go_wp2_with fail
    go_ret
    exact ⟨rfl, bb⟩
  have hu' : ((nu : Int) == 0) = false := by simpa using hu
  have hok : raiseOk xs n = true := by
    cases h : raiseOk xs n with
    | true => rfl
    | false => exact absurd (by rw [← lRU.out, raise_no h]; rfl) hu
  obtain ⟨⟨s1, hin⟩, h64⟩ : (seqOk xs = true ∧ inB n 1 8 = true) ∧ (xs.length : Int) * n ≤ 64 := by simpa [raiseOk] using hok
  have n1 := (inB_iff.1 hin).1
  have n8 := (inB_iff.1 hin).2
  obtain ⟨n, rfl⟩ := Int.eq_ofNat_of_zero_le (show 0 ≤ n by omega)
  have e64 : (xs.length : Int) * (n : Int) = ((xs.length * n : Nat) : Int) := by simp
  have h64n : xs.length * n ≤ 64 := by omega
  clear e64
  rw [raise_yes hok, Int.toNat_natCast] at OU lRU
  simp only [raise_yes hok, Int.toNat_natCast] at RU
  have LR := fun p hp => lower_raised (p := p) s1 (show 1 ≤ n by omega) (show n ≤ 8 by omega) h64n hp
  have LR := hid LR
  have hnu : nu = nx * n := by rw [← lRU.out, ← lRX.out]; exact rg_length _ _
  have nx64 : nx ≤ 64 := by have := seqOk_len s1; rw [lRX.out] at this; exact this
  have hmul : (n : Int) * (nx : Int) = (nu : Int) := by rw [hnu, Int.mul_comm]; simp
  have NU64 := hid (show nu ≤ 64 by rw [hnu, ← lRX.out]; exact h64n)
  have HNU := hid hnu
  have HM := hid hmul
  clear hnu hmul h64 h64n hok hin
  generalize raised xs n = zs at *
  go_wp2_with fail
  go_loopw [6] (fun i wr => ∃ k : Nat, 1 ≤ k ∧ k ≤ n ∧ i = .int .i64 k ∧ Below w4_.heap.size w4_ wr) (fun i _ => n - (intOf i).toNat)
  case atStart => exact ⟨1, Nat.le_refl _, by omega, rfl, Below.refl _ _⟩
  case round =>
    obtain ⟨k, hk1, hk, rfl, hb⟩ := hrel
    have hsz := hb.size
    by_cases hlt : k < n
    case pos =>
      have e := LR.out k hlt
      rw [if_neg (by omega), lRX.out] at e
      have E := hid e
      clear e
      have hcall : ∀ W : World, Hid (RdA w2_.heap.size W Au nu cu zs) → Hid (w2_.heap.size ≤ W.heap.size) → Calls Try.prog 19 #[.slice Au nu cu, .int .i64 (n : Nat), .int .i64 (k : Nat)] W fun e w' => ∃ v', e = .returned v' ∧ Own W.heap.size w'.heap.size w' v' (List.replicate nx 0) ∧ Below W.heap.size W w' := by
        intro W r1 r3
        have := implLower_t (n := (n : Nat)) (p := (k : Nat)) W ⟨_, _, _, rfl, r1.out⟩ r3.out ⟨by omega, by omega⟩ ⟨by omega, by omega⟩
        rw [E.out] at this
        exact this
      have HCALL := hid hcall
      clear hcall
      obtain ⟨MC, hMC⟩ : ∃ MC, MC = madeCells #[Value.int .i64 0] nx := ⟨_, rfl⟩
      have hmc : MC.toList = (List.replicate nx (0 : Int)).map (Value.int .i64) := by rw [hMC]; exact made_zero nx
      have hmk : ∀ W : World, (Instr.makeSlice 23 (.int .i64 (nx : Nat)) (.int .i64 (nx : Nat))).run Try.prog W = .ok (.slice (some ⟨W.heap.size, 0, none⟩) nx nx) (W.alloc (.cells MC 3)) := by
        intro W
        obtain ⟨i, hi, hz0, hz1, hz2⟩ := info_parts intSl.info
        have hrun := run_make (P := Try.prog) W 23 3 i _ intSl.under hi hz0 .i64 .i64 nx nx (by omega) (Int.le_refl _) (by rw [hz2]; omega) (by omega)
        simp only [Int.toNat_natCast, hz1, Nat.mul_one] at hrun
        rw [hrun, hMC]; rfl
      have HMC := hid hmc
      clear hmc hMC
      have RX1 := RX.below hb (by omega)
      have RU1 := RU.below hb (by omega)
      have rA : Hid (RdA w2_.heap.size wr.drew Au nu cu zs) := RU1.drewN 1
      have sA : Hid (w2_.heap.size ≤ wr.drew.heap.size) := by show _ ≤ wr.heap.size; omega
      have rB : Hid (RdA w2_.heap.size (wr.alloc (.cells MC 3)).drew Au nu cu zs) := (RU1.below ((Below.refl wr.heap.size wr).alloc (Nat.le_refl _) (.cells MC 3)) (by omega)).drewN 1
      have sB : Hid (w2_.heap.size ≤ (wr.alloc (.cells MC 3)).drew.heap.size) := by show _ ≤ (wr.alloc (.cells MC 3)).heap.size; simp; omega
      have OM0 : Own wr.heap.size (wr.heap.size + 1) (wr.alloc (.cells MC 3)).drew (.slice (some ⟨wr.heap.size, 0, none⟩) nx nx) (List.replicate nx 0) := (Own.made wr MC (List.replicate nx 0) HMC.out (by simp) (by omega)).drewN 1
      have kB : Below w4_.heap.size w4_ (wr.alloc (.cells MC 3)).drew := below_drewN (hb.alloc hsz (.cells MC 3)) 1
      have kA : Below w4_.heap.size w4_ wr.drew := below_drewN hb 1
      go_wp2_with fail
      go_region_with (first | (go_at_call 19; (with_reducible refine (HCALL.out _ rA sA).mono ?_); rintro e wp ⟨vp, rfl, OP, bp⟩; have OM := Own.made (n := nx) wp MC (List.replicate nx 0) HMC.out (by simp) (by omega); have OP2 := OP.alloc (Nat.le_refl _) (.cells MC 3)) | (go_at_call 19; (with_reducible refine (HCALL.out _ rB sB).mono ?_); rintro e wp ⟨vp, rfl, OP, bp⟩; have OM := OM0.below bp (by simp [World.drew]); have OP2 := OP) | (go_at_call 14; (with_reducible refine (sameInts_t _ OP2.rd OM.rd).mono ?_); rintro e wz ⟨rfl, bz⟩))
      all_goals
        clear OM0 rA rB sA sB HCALL
        go_wp2
        have F : Below w4_.heap.size w4_ wz := by
          have q1 := bp.size
          first
          | exact ((kB.trans (bp.mono (show w4_.heap.size ≤ (wr.alloc (.cells MC 3)).heap.size by simp; omega))).trans (bz.mono (by simp at q1; omega)))
          | exact (((kA.trans (bp.mono (show w4_.heap.size ≤ wr.heap.size by omega))).alloc (by have : wr.heap.size ≤ wp.heap.size := q1; omega) (.cells MC 3)).trans (bz.mono (by have : wr.heap.size ≤ wp.heap.size := q1; simp; omega)))
        go_roundw
        case rel => exact ⟨k + 1, by omega, by omega, by go_num, F⟩
        case measure => simp [intOf]; omega
    obtain ⟨wq, rfl⟩ : ∃ wq, wq = wr := ⟨_, rfl⟩
    have OU := OU.below hb (by omega)
    have OX := OX.below hb (by omega)
    have RU := RU.below hb (by omega)
    have RX := RX.below hb (by omega)
    have bb := bb.trans (hb.mono (by omega))
    clear hb
    obtain ⟨w5_, rfl⟩ : ∃ x, x = wq := ⟨_, rfl⟩
    have e0 := LR.out 0 (by omega)
    rw [if_pos rfl] at e0
    have E0 := hid e0
    clear e0
    go_wp2_with fail
    refine (implLower_t (n := (n : Nat)) (p := 0) _ OU.rd (by omega) ⟨by omega, by omega⟩ ⟨by omega, by omega⟩).mono ?_
    rintro e w6_ ⟨v6, rfl, OZ, b6⟩
    have t6 := b6.size
    have OX := OX.below b6 (by omega)
    have OU := OU.below b6 (by omega)
    have RU := RU.below b6 (by omega)
    have RX := RX.below b6 (by omega)
    have bb := bb.trans (b6.mono (by omega))
    clear b6
    have e1 : lower zs (n : Nat) 0 = xs := E0.out
    rw [e1] at OZ
    clear e1
    have hm := HM.out
    go_wp2_with fail
    refine (sameInts_t _ OZ.rd OX.rd).mono ?_
    rintro e w7_ ⟨rfl, b7⟩
    have t7 := b7.size
    have OX := OX.below b7 (by omega)
    have OU := OU.below b7 (by omega)
    have RU := RU.below b7 (by omega)
    have RX := RX.below b7 (by omega)
    have OZ := OZ.below b7 (by omega)
    have bb := bb.trans (b7.mono (by omega))
    clear b7
    go_wp2_with fail
    go_ret
    have hw : wrap64 (nu : Int) = (nu : Int) := by have := NU64.out; unfold wrap64; omega
    refine ⟨?_, bb⟩
    show Ending.returned (Value.bool ((nu : Int) == wrap64 (nu : Int))) = _
    rw [hw]; simp

end Go.Proofs.Ytebbljgmliikfaa
