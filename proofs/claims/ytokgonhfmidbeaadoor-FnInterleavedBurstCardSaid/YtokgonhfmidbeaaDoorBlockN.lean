/-
  The block code: spec.EncodeNibble, by the sixteen cases of four bits.
-/
import Derived.Test.YtokgonhfmidbeaaDoorBlockS
namespace Go.Proofs.YtokgonhfmidbeaaDoor
open Go.RowKit

set_option maxHeartbeats 4000000 in
theorem specNib_c {C : Nat} {v : Value} {a b c d : Int} (w : World) (h : Rd C w v [a, b, c, d]) (hC : C ≤ w.heap.size)
    (ha : a = 0 ∨ a = 1) (hb : b = 0 ∨ b = 1) (hc : c = 0 ∨ c = 1) (hd : d = 0 ∨ d = 1) :
    Calls Tryd.prog 19 #[v] w fun e w' => ∃ v', e = .returned v' ∧ Own w.heap.size w'.heap.size w' v' (cw a b c d) ∧ Below w.heap.size w w' := by
  have SB := specBits_c w h
  have hok : bitsOk [a, b, c, d] = true := bitsOk_iff.2 ⟨fun x hx => by
    simp only [List.mem_cons, List.not_mem_nil, or_false] at hx
    rcases hx with rfl | rfl | rfl | rfl <;> omega, by simp⟩
  rw [hok] at SB
  have SB := hid SB
  obtain ⟨A, n, cap, rfl, h1⟩ := h
  obtain rfl : n = 4 := by rw [← h1.len]; rfl
  obtain ⟨bk, off, x0, rfl, _, c0, e0⟩ := h1.at_ (k := 0) (by omega)
  obtain ⟨_, _, x1, q1, _, c1, e1⟩ := h1.at_ (k := 1) (by omega)
  injection q1 with q1; injection q1 with q1 q2; subst q1 q2
  obtain ⟨_, _, x2, q1, _, c2, e2⟩ := h1.at_ (k := 2) (by omega)
  injection q1 with q1; injection q1 with q1 q2; subst q1 q2
  obtain ⟨_, _, x3, q1, _, c3, e3⟩ := h1.at_ (k := 3) (by omega)
  injection q1 with q1; injection q1 with q1 q2; subst q1 q2
  obtain rfl : a = x0 := e0.out
  obtain rfl : b = x1 := e1.out
  obtain rfl : c = x2 := e2.out
  obtain rfl : d = x3 := e3.out
  simp only [Nat.add_zero] at c0
  have bE := fun (p q r s t u y : Int) => (Below.refl w.heap.size w).alloc (Nat.le_refl _) (.cells #[.int .i64 p, .int .i64 q, .int .i64 r, .int .i64 s, .int .i64 t, .int .i64 u, .int .i64 y] 3)
  have oE := fun (p q r s t u y : Int) => Own.made w #[.int .i64 p, .int .i64 q, .int .i64 r, .int .i64 s, .int .i64 t, .int .i64 u, .int .i64 y] [p, q, r, s, t, u, y] rfl rfl (by omega : 7 ≤ 4194304)
  have x00 := xor00
  have x01 := xor01
  have x10 := xor10
  have x11 := xor11
  have BE := hid bE
  have OE := hid oE
  clear bE oE h1 e0 e1 e2 e3 hok
  rcases ha with rfl | rfl <;> rcases hb with rfl | rfl <;> rcases hc with rfl | rfl <;> rcases hd with rfl | rfl
  all_goals
    go_enter Tryd.func19, Tryd.ntmps19
    go_wp2_with fail
    refine SB.out.mono ?_
    rintro e w' ⟨rfl, rfl⟩
    go_wp2_with fail
    go_ret
    exact ⟨_, rfl, (OE.out _ _ _ _ _ _ _).more (by simp), BE.out _ _ _ _ _ _ _⟩

end Go.Proofs.YtokgonhfmidbeaaDoor
