/-
  The drawn lists of the law on interleaved bursts.
-/
import Derived.Test.YtokgonhfmidbeaaDoorDrawBits
import Derived.Test.YtokgonhfmidbeaaDoorStep
namespace Go.Proofs.YtokgonhfmidbeaaDoor
open Go.RowKit

def DrawnBl (w : World) (e : Ending) (w' : World) : Prop :=
  ∃ v o, e = .returned v ∧ Own w.heap.size w'.heap.size w' v o ∧ o.length ≤ 600 ∧ Below w.heap.size w w'
set_option maxHeartbeats 1000000 in
theorem DrawEncodeBlocks_c {C : Nat} {A : Option Addr} {n c : Nat} (w : World) (h : RdB C w A n c) (hC : C ≤ w.heap.size) :
    Calls Tryd.prog 4 #[.slice A n c] w (DrawnBl w) := by
  have H := hid (l20Open_c w h hC)
  clear h
  go_enter Tryd.func4, Tryd.ntmps4
  go_wp2_with fail
  refine H.out.mono ?_
  rintro e w1 ⟨rfl, r1, b1, l1⟩
  go_wp2_with fail
  refine (odd_c _ _ r1 (by omega) (by omega) (by omega)).mono ?_
  rintro e w2 ⟨bo, rfl, r2, g2, s2⟩
  have z2 := g2.size
  have S2 := hid s2
  clear s2 H r1
  cases bo
  · go_wp2_with fail
    refine (pick_c _ _ r2 (by omega) (by omega) (by omega)).mono ?_
    rintro e w3 ⟨x, rfl, ⟨x0, x1⟩, r3, g3, s3⟩
    go_wp2_with fail
    refine (pick_c _ _ r3 (by omega) (by omega) (by omega)).mono ?_
    rintro e w4 ⟨d, rfl, ⟨d0, d1⟩, r4, g4, s4⟩
    have z3 := g3.size
    have z4 := g4.size
    have gr := grown_trans (grown_trans g2 g3) g4
    obtain ⟨K, hK⟩ := Int.eq_ofNat_of_zero_le (show 0 ≤ 4 * x + d / 8 by omega)
    have hK40 : K ≤ 40 := by omega
    have HF : ∀ p, p ≤ 1000 → Rdr w.heap.size w4 w.heap.size p → Calls Tryd.prog 15 #[.pointer (some ⟨w.heap.size, 0, none⟩), .int .i64 (4 * x + d / 8), .int .i64 0] w4 (DrawnL (K + 1) 1001 w.heap.size w.heap.size (p + K + 2) w4) := by intro p hp r; rw [hK]; exact l20Fixed_c K 0 w4 r (by omega) (by omega) (by omega) (by omega)
    have HF := hid (HF _ (by omega) r4)
    clear hK g2 g3 g4 r2 r3 r4 s3 s4
    go_wp2_with fail
    refine HF.out.mono ?_
    rintro e w5 ⟨v, o, rfl, o5, ⟨l5, _⟩, r5, g5⟩
    go_wp2_with fail
    go_ret
    exact ⟨v, o, rfl, o5.fit (by omega) (Nat.le_refl _), by omega, b1.trans (below_of_grown (grown_trans gr g5) (Nat.le_refl _) l1)⟩
  · go_wp2_with fail
    refine (pick_c _ _ r2 (by omega) (by omega) (by omega)).mono ?_
    rintro e w3 ⟨x, rfl, ⟨x0, x1⟩, r3, g3, s3⟩
    have z3 := g3.size
    have bb := b1.trans (below_of_grown (grown_trans g2 g3) (Nat.le_refl _) l1)
    obtain ⟨x, rfl⟩ := Int.eq_ofNat_of_zero_le x0
    clear s3 r2 g2 g3 b1 r3
    go_wp2_with (refine wpl_make intSl _ rfl (.tmp 11) (.tmp 11) rfl _ _ (512 + 4 * x) rfl rfl (by omega) (by omega) (by omega) ?_; intro w4 o4 b4 hlt4)
    go_ret
    exact ⟨_, _, rfl, o4.fit (by omega) (Nat.le_refl _), by simp; omega, bb.trans (b4.mono (by omega))⟩

end Go.Proofs.YtokgonhfmidbeaaDoor
