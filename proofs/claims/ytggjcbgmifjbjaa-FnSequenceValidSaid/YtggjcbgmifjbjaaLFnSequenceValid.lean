/-
  The law FnSequenceValid, walked: for every input the call returns true, and nothing that was there has changed.
-/
import Derived.Test.YtggjcbgmifjbjaaSeqLaw
namespace Go.Proofs.Ytggjcbgmifjbjaa
open Go.RowKit

set_option maxHeartbeats 1000000 in
theorem FnSequenceValid_walk (a0 : Option Addr) (len0 cap0 : Nat) (z0 : List Int) (w : World) (w0 : IsRow .u8 w a0 len0 cap0 z0) :
    Calls Try.prog 10 #[.slice a0 len0 cap0] w fun e w' => e = .returned (.bool true) ∧ Below w.heap.size w w' := by
  by_cases hl0 : len0 ≤ 1048576
  case neg =>
    have hl0' : 1048576 < len0 := by omega
    go_enter Try.func10, Try.ntmps10
    go_wp2
    go_ret
    exact ⟨rfl, Below.refl _ _⟩
  have B0 := w0.bytes
  clear w0
  have bb := Below.refl w.heap.size w
  go_enter Try.func10, Try.ntmps10
  go_wp2_with fail
  refine (DrawSequenceValid_c _ B0 (Nat.le_refl _)).mono ?_
  rintro e w1_ ⟨v1, xs, rfl, OL, ⟨hl, hx⟩, b1⟩
  have t1 := b1.size
  have bb := bb.trans (b1.mono (by omega))
  clear b1
  go_wp2_with fail
  refine (implSeq_t _ OL.rd (by omega)).mono ?_
  rintro e w2_ ⟨rfl, b2⟩
  have t2 := b2.size
  have OL := OL.below b2 (by omega)
  have bb := bb.trans (b2.mono (by omega))
  clear b2
  go_wp2_with fail
  refine (specSeq_t _ OL.rd (by omega)).mono ?_
  rintro e w3_ ⟨rfl, b3⟩
  have t3 := b3.size
  have OL := OL.below b3 (by omega)
  have bb := bb.trans (b3.mono (by omega))
  clear b3
  obtain ⟨A, n, c, rfl, R⟩ := OL.rd
  have hlen := hid R.len
  have hn : n ≤ 65 := by have := R.len; omega
  have hx2 := hid hx
  clear hx
  have oe := Own.empty w3_
  have be := (Below.refl w3_.heap.size w3_).alloc (Nat.le_refl _) (.cells #[] 3)
  go_wp2_with fail
  go_loopw [5, 6] (fun out i wr => ∃ k : Nat, k ≤ n ∧ i = .int .i64 k ∧ Own w3_.heap.size wr.heap.size wr out (rg k fun i => - xs.getD i 0) ∧ Below w3_.heap.size w3_ wr) (fun _ i _ => n - (intOf i).toNat)
  case atStart => exact ⟨0, Nat.zero_le _, rfl, by simpa [rg] using oe, be⟩
  case round =>
    obtain ⟨k, hk, rfl, ho, hb⟩ := hrel
    clear oe be
    have hsz := hb.size
    by_cases hlt : k < n
    case pos =>
      obtain ⟨b, off, x, rfl, hbC, hcell, hx⟩ := R.at_ hlt
      have hm := hx2.out _ (R.mem hlt)
      rw [hx.out] at hm
      have c1 := (hb.cell (p := ⟨b, off + k, none⟩) (by simp; omega)).trans hcell
      have hnext := rg_snoc k fun i => - xs.getD i 0
      simp only [hx.out] at hnext
      have Hn := hid hnext
      clear hnext hcell hx
      go_wp2_with (at_builtin; refine wpl_appl intSl _ rfl (.tmp 25) (.tmp 31) rfl w3_.heap.size wr.heap.size _ _ _ [-x] 1 rfl rfl rfl rfl ho (Nat.le_refl _) (by rw [rg_length]; omega) hsz ?_; intro v' w1 ho1 hg1)
      rw [Hn.out] at ho1
      have hb1 := hb.grown hg1 hsz (fun q hq => (ho.lt q hq).1)
      clear ho hb hg1
      go_wp2
      go_roundw
      case rel => exact ⟨k + 1, by omega, by go_num, ho1, hb1⟩
      case measure => simp [intOf]; omega
    obtain rfl : k = n := by omega
    have neg1 : seqOk (rg k fun i => - xs.getD i 0) = seqOk xs := by rw [← hlen.out]; exact seqOk_neg xs
    obtain ⟨wq, rfl⟩ : ∃ wq, wq = wr := ⟨_, rfl⟩
    have OL := OL.below hb (by omega)
    have R := R.below hb (by omega)
    have bb := bb.trans (hb.mono (by omega))
    have NG := ho
    clear ho hb
    generalize (rg k fun i => - xs.getD i 0) = zs at NG neg1
    obtain ⟨w4_, rfl⟩ : ∃ x, x = wq := ⟨_, rfl⟩
    by_cases S : seqOk xs = true
    case neg =>
      have S' : seqOk xs = false := by simpa using S
      rw [S'] at neg1
      clear S
      go_wp2_with fail
      refine (implSeq_t _ NG.rd (by omega)).mono ?_
      rintro e w5_ ⟨rfl, b5⟩
      have t5 := b5.size
      have OL := OL.below b5 (by omega)
      have R := R.below b5 (by omega)
      have NG := NG.below b5 (by omega)
      have bb := bb.trans (b5.mono (by omega))
      clear b5
      have o1 := Own.made w5_ #[.int .i64 1001] [1001] rfl rfl (by omega : 1 ≤ 4194304)
      have k1 := (Below.refl w5_.heap.size w5_).alloc (Nat.le_refl _) (.cells #[.int .i64 1001] 3)
      have z1 : seqOk [1001] = false := by decide
      go_wp2_with fail
      refine (implSeq_t _ o1.rd (by simp)).mono ?_
      rintro e wz ⟨rfl, bz⟩
      have bz2 := k1.trans (bz.mono (by simp))
      go_wp2_with fail
      refine (alive_c _).mono ?_
      rintro e wy ⟨rfl, bY⟩
      have bz3 := bz2.trans (bY.mono (by have := bz.size; simp at this; omega))
      go_wp2_with fail
      go_ret
      exact ⟨rfl, bb.trans (bz3.mono (by omega))⟩
    rw [S] at neg1
    obtain ⟨h, hh⟩ : ∃ h, h = k / 2 := ⟨_, rfl⟩
    have hhk : h ≤ k := by omega
    have d2 : (k : Int) / 2 = (h : Int) := by omega
    clear hh
    have hkc := R.le
    have hhc : h ≤ c := by omega
    have R2 := R.take hhk
    have S2 := seqOk_take S h
    go_wp2_with fail
    refine (implSeq_t _ NG.rd (by omega)).mono ?_
    rintro e w5_ ⟨rfl, b5⟩
    have t5 := b5.size
    have OL := OL.below b5 (by omega)
    have R := R.below b5 (by omega)
    have NG := NG.below b5 (by omega)
    have R2 := R2.below b5 (by omega)
    have bb := bb.trans (b5.mono (by omega))
    clear b5
    go_wp2_with fail
    refine (implSeq_t _ ⟨_, _, _, rfl, R2⟩ (by omega)).mono ?_
    rintro e w6_ ⟨rfl, b6⟩
    have t6 := b6.size
    have OL := OL.below b6 (by omega)
    have R := R.below b6 (by omega)
    have NG := NG.below b6 (by omega)
    have R2 := R2.below b6 (by omega)
    have bb := bb.trans (b6.mono (by omega))
    clear b6
    have o1 := Own.made w6_ #[.int .i64 1001] [1001] rfl rfl (by omega : 1 ≤ 4194304)
    have k1 := (Below.refl w6_.heap.size w6_).alloc (Nat.le_refl _) (.cells #[.int .i64 1001] 3)
    have z1 : seqOk [1001] = false := by decide
    go_wp2_with fail
    refine (implSeq_t _ o1.rd (by simp)).mono ?_
    rintro e wz ⟨rfl, bz⟩
    have bz2 := k1.trans (bz.mono (by simp))
    go_wp2_with fail
    refine (alive_c _).mono ?_
    rintro e wy ⟨rfl, bY⟩
    have bz3 := bz2.trans (bY.mono (by have := bz.size; simp at this; omega))
    go_wp2_with fail
    go_ret
    exact ⟨rfl, bb.trans (bz3.mono (by omega))⟩

end Go.Proofs.Ytggjcbgmifjbjaa
