/-
  Drawn signals for the laws on signals: some list of at most 257 samples.
-/
import Derived.Test.YtokgonhfmidbeaaDrawSeq
import Derived.Test.YtokgonhfmidbeaaSig
namespace Go.Proofs.Ytokgonhfmidbeaa
open Go.RowKit

theorem rdr_grown {B g p : Nat} {w w' : World} {row : Option Nat} (h : Rdr B w g p) (hg : w.grownBy w' row) (hr : ∀ k, row = some k → g < k) : Rdr B w' g p := h.grown hg hr

def Leveled (B g p : Nat) (w : World) (e : Ending) (w' : World) : Prop :=
  ∃ x : Int, e = .returned (.int .i64 x) ∧ Rdr B w' g (p + 3) ∧ w.grownBy w' (some g)
set_option maxHeartbeats 1000000 in
theorem l20Level_c {B g p : Nat} (w : World) (h : Rdr B w g p) (hp : p ≤ 900000) :
    Calls Try.prog 39 #[.pointer (some ⟨g, 0, none⟩)] w (Leveled B g p w) := by
  have hg := h.lt
  have hgr := World.grownBy.refl w (some g)
  go_enter Try.func39, Try.ntmps39
  go_wp2_with fail
  refine (pick_c _ _ h (by omega) (by omega) (by omega)).mono ?_
  rintro e w2 ⟨a, rfl, ⟨a0, a1⟩, r2, g2, s2⟩
  have hgr2 := grown_trans hgr g2
  clear h hgr g2 s2
  go_wp2_with fail
  refine (pick_c _ _ r2 (by omega) (by omega) (by omega)).mono ?_
  rintro e w3 ⟨b, rfl, ⟨b0, b1⟩, r3, g3, s3⟩
  have hgr3 := grown_trans hgr2 g3
  have hsz3 := hgr3.size
  clear r2 hgr2 g3 s3
  have oa := Own.made w3 #[.int .i64 (a - 4), .int .i64 (b - 100), .int .i64 100000, .int .i64 (-100000)] [a - 4, b - 100, 100000, -100000] rfl rfl (by omega : 4 ≤ 4194304)
  have ob := Own.made (w3.alloc (.cells #[.int .i64 (a - 4), .int .i64 (b - 100), .int .i64 100000, .int .i64 (-100000)] 3)) #[.int .i64 0, .int .i64 0, .int .i64 0, .int .i64 0, .int .i64 1, .int .i64 1, .int .i64 2, .int .i64 3] [0, 0, 0, 0, 1, 1, 2, 3] rfl rfl (by omega : 8 ≤ 4194304)
  have oa2 := oa.alloc (by simp) (.cells #[.int .i64 0, .int .i64 0, .int .i64 0, .int .i64 0, .int .i64 1, .int .i64 1, .int .i64 2, .int .i64 3] 3)
  have r4 := (r3.alloc (.cells #[.int .i64 (a - 4), .int .i64 (b - 100), .int .i64 100000, .int .i64 (-100000)] 3)).alloc (.cells #[.int .i64 0, .int .i64 0, .int .i64 0, .int .i64 0, .int .i64 1, .int .i64 1, .int .i64 2, .int .i64 3] 3)
  have hgr4 := grown_alloc (grown_alloc hgr3 (.cells #[.int .i64 (a - 4), .int .i64 (b - 100), .int .i64 100000, .int .i64 (-100000)] 3)) (.cells #[.int .i64 0, .int .i64 0, .int .i64 0, .int .i64 0, .int .i64 1, .int .i64 1, .int .i64 2, .int .i64 3] 3)
  clear oa r3 hgr3
  go_wp2_with fail
  refine (pick_c _ _ r4 (by omega) (by omega) (by omega)).mono ?_
  rintro e w5 ⟨c, rfl, ⟨c0, c1⟩, r5, g5, s5⟩
  have oa5 := oa2.apart g5 (fun k hk => by injection hk; omega)
  have ob5 := ob.apart g5 (fun k hk => by injection hk; simp; omega)
  have hgr5 := grown_trans hgr4 g5
  clear oa2 ob r4 hgr4 g5 s5
  simp only [World.size_alloc] at ob5
  obtain ⟨c, rfl⟩ := Int.eq_ofNat_of_zero_le c0
  have cc := ob5.cell (k := c) (by simp; omega)
  have t8 := tab8 (k := c) (by omega)
  generalize ([0, 0, 0, 0, 1, 1, 2, 3] : List Int).getD c 0 = d at cc t8
  obtain ⟨d, rfl⟩ := Int.eq_ofNat_of_zero_le t8.1
  have cd := oa5.cell (k := d) (by simp; omega)
  generalize ([a - 4, b - 100, 100000, -100000] : List Int).getD d 0 = z at cd
  clear oa5 ob5
  go_wp2
  go_ret
  exact ⟨z, rfl, r5.more (by omega), hgr5⟩

/-- a drawn signal; the reader has gone on -/
def DrawnM (B g p : Nat) (w : World) (e : Ending) (w' : World) : Prop :=
  ∃ v m o, e = .returned v ∧ OwnM w.heap.size w'.heap.size w' v m o ∧ m ≤ 257 ∧ Rdr B w' g p ∧ w.grownBy w' (some g)
set_option maxHeartbeats 1000000 in
theorem l20Signal_c {B g p : Nat} (m : Nat) (n : Int) (w : World) (h : Rdr B w g p) (hp : p ≤ 800000) (hm : m ≤ 60) (h0 : 0 ≤ n) (h1 : n ≤ 1000) :
    Calls Try.prog 29 #[.pointer (some ⟨g, 0, none⟩), .int .i64 m, .int .i64 n] w (DrawnM B g (p + 6 * m + 3) w) := by
  have hg := h.lt
  have r0 := h.alloc (.cells #[] 35)
  have hown := OwnM.empty w
  have hgr := grown_alloc (World.grownBy.refl w (some g)) (.cells #[] 35)
  clear h
  go_enter Try.func29, Try.ntmps29
  go_wp2_with fail
  refine (pick_c _ _ r0 (by omega) (by omega) (by omega)).mono ?_
  rintro e w1 ⟨x, rfl, ⟨x0, x1⟩, r1, g1, s1⟩
  have ho := hown.apart g1 (fun k hk => by injection hk; omega)
  have hgr1 := grown_trans hgr g1
  have ho' : OwnM w.heap.size w1.heap.size w1 (.slice (some ⟨w.heap.size, 0, none⟩) 0 0) 0 [] := ho.more (by rw [s1]; simp)
  obtain ⟨J, rfl⟩ := Int.eq_ofNat_of_zero_le x0
  clear r0 hown hgr g1 ho s1 x0
  go_wp2_with fail
  go_loopw [7, 8] (fun out i wr => ∃ (j k : Nat) (o : List Int) (q : Nat), j ≤ m ∧ i = .int .i64 j ∧ k + j ≤ m ∧ q + 6 * j ≤ p + 1 + 6 * m ∧ OwnM w.heap.size wr.heap.size wr out k o ∧ Rdr B wr g q ∧ w.grownBy wr (some g)) (fun _ i _ => (intOf i).toNat)
  case atStart => exact ⟨J, 0, [], p + 1, by omega, rfl, by omega, by omega, ho', r1, hgr1⟩
  case round =>
    obtain ⟨j, k, o, q, hj, rfl, hlen, hq, ho, hr, hgr⟩ := hrel
    clear r1 ho' hgr1
    have hsz := hgr.size
    by_cases hj0 : 0 < j
    · go_wp2_with fail
      refine (l20Level_c _ hr (by omega)).mono ?_
      rintro e w2 ⟨a, rfl, r2, g2⟩
      have ho2 := (ho.apart g2 (fun k hk => by injection hk; omega)).more g2.size
      have hgr2 := grown_trans hgr g2
      clear ho hr hgr g2 hsz
      go_wp2_with fail
      refine (l20Level_c _ r2 (by omega)).mono ?_
      rintro e w3 ⟨b, rfl, r3, g3⟩
      have ho3 := (ho2.apart g3 (fun k hk => by injection hk; omega)).more g3.size
      have hgr3 := grown_trans hgr2 g3
      have hsz3 := hgr3.size
      clear ho2 r2 hgr2 g3
      go_wp2_with (at_builtin; refine wpl_applM smpSl _ rfl (.tmp 18) (.tmp 24) rfl w.heap.size w3.heap.size _ _ _ _ [a, b] 1 rfl rfl rfl _ rfl rfl ho3 (Nat.le_refl _) (by omega) hsz3 ?_; intro v' w6 ho6 g6)
      have r6 := r3.grown g6 (fun k hk => by have := ho3.lt k hk; omega)
      have hgr6 := grown_own hgr3 g6 (fun k hk => by have := ho3.lt k hk; omega)
      clear ho3 r3 hgr3 g6
      go_wp2
      go_roundw
      case rel => exact ⟨j - 1, k + 1, o ++ [a, b], _, by omega, by first | rfl | go_num | (congr 1; omega), by omega, by omega, ho6, r6, hgr6⟩
      case measure => simp [intOf]; omega
    · obtain rfl : j = 0 := by omega
      clear hj0
      go_wp2_with fail
      refine (odd_c _ _ hr (by omega) (by omega) (by omega)).mono ?_
      rintro e w2 ⟨bo, rfl, r2, g2, s2⟩
      have ho2 := (ho.apart g2 (fun k hk => by injection hk; omega)).more (Nat.le_of_eq s2.symm)
      have hgr2 := grown_trans hgr g2
      clear ho hr hgr g2 s2 hsz
      cases bo
      · go_wp2_with fail
        go_ret
        exact ⟨_, k, o, rfl, ho2, by omega, r2.more (by omega), hgr2⟩
      · go_wp2_with fail
        refine (pick_c _ _ r2 (by omega) (by omega) (by omega)).mono ?_
        rintro e w3 ⟨b, rfl, ⟨b0, b1⟩, r3, g3, s3⟩
        have ho3 := (ho2.apart g3 (fun k hk => by injection hk; omega)).more (Nat.le_of_eq s3.symm)
        have hgr3 := grown_trans hgr2 g3
        have hsz3 := hgr3.size
        clear ho2 r2 hgr2 g3 s3
        by_cases hb : b = 0
        · subst hb
          go_wp2_with (at_builtin; refine wpl_applM smpSl _ rfl (.tmp 32) (.tmp 34) rfl w.heap.size w3.heap.size _ _ _ _ [100001, 0] 1 rfl rfl rfl _ rfl rfl ho3 (Nat.le_refl _) (by omega) hsz3 ?_; intro v' w6 ho6 g6)
          have r6 := r3.grown g6 (fun k hk => by have := ho3.lt k hk; omega)
          have hgr6 := grown_own hgr3 g6 (fun k hk => by have := ho3.lt k hk; omega)
          clear ho3 r3 hgr3 g6
          go_wp2
          go_ret
          exact ⟨_, k + 1, _, rfl, ho6, by omega, r6.more (by omega), hgr6⟩
        · have hb' : (b == 0) = false := by simpa using hb
          obtain ⟨MC, hMC⟩ : ∃ MC, MC = madeCells #[Value.int .i64 0, .int .i64 0] (257 * 2) := ⟨_, rfl⟩
          have hmk : ∀ W : World, (Instr.makeSlice 31 (.int .i64 257) (.int .i64 257)).run Try.prog W = .ok (.slice (some ⟨W.heap.size, 0, none⟩) 257 257) (W.alloc (.cells MC 35)) := by
            intro W
            rw [hMC]
            exact run_mkM smpSl 257 257 257 257 rfl rfl (by omega) (by omega) W
          have om := OwnM.made (n := 257) w3 MC (List.replicate (257 * 2) 0) (by rw [hMC]; exact madeM_zero 257) List.length_replicate (by omega)
          have r4 := r3.alloc (.cells MC 35)
          have hgr4 := grown_alloc hgr3 (.cells MC 35)
          clear hb ho3 hMC
          go_wp2
          go_ret
          exact ⟨_, 257, _, rfl, om.fit hsz3 (by simp), by omega, r4.more (by omega), hgr4⟩

def DrawnMs (w : World) (e : Ending) (w' : World) : Prop :=
  ∃ v m o, e = .returned v ∧ OwnM w.heap.size w'.heap.size w' v m o ∧ m ≤ 257 ∧ Below w.heap.size w w'


set_option maxHeartbeats 400000 in
theorem DrawSignalPower_c {C : Nat} {A : Option Addr} {n c : Nat} (w : World) (h : RdB C w A n c) (hC : C ≤ w.heap.size) :
    Calls Try.prog 12 #[.slice A n c] w (DrawnMs w) := by
  have H := hid (l20Open_c w h hC)
  clear h
  go_enter Try.func12, Try.ntmps12
  go_wp2_with fail
  refine H.out.mono ?_
  rintro e w1 ⟨rfl, r1, b1, l1⟩
  go_wp2_with fail
  refine (l20Signal_c 9 9 _ r1 (by omega) (by omega) (by omega) (by omega)).mono ?_
  rintro e w2 ⟨v, m, o, rfl, ho, hm, r2, g2⟩
  have hb := b1.trans (below_of_grown g2 (Nat.le_refl _) l1)
  have ho' := ho.less (show w.heap.size ≤ w1.heap.size by omega)
  clear ho
  go_wp2_with fail
  go_ret
  exact ⟨_, m, _, rfl, ho', hm, hb⟩

def DrawnMi (lo hi : Int) (w : World) (e : Ending) (w' : World) : Prop :=
  ∃ v m o n, e = .returned (.tuple #[v, .int .i64 n]) ∧ OwnM w.heap.size w'.heap.size w' v m o ∧ m ≤ 257 ∧ (lo ≤ n ∧ n ≤ hi) ∧ Below w.heap.size w w'
def Ordered (B g p : Nat) (w : World) (e : Ending) (w' : World) : Prop :=
  ∃ x : Int, e = .returned (.int .i64 x) ∧ (0 ≤ x ∧ x ≤ 4) ∧ Rdr B w' g (p + 1) ∧ w.grownBy w' (some g)
theorem tabO {k : Nat} (h : k < 5) : 0 ≤ ([1, 2, 4, 0, 3] : List Int).getD k 0 ∧ ([1, 2, 4, 0, 3] : List Int).getD k 0 ≤ 4 := by
  rcases (by omega : k = 0 ∨ k = 1 ∨ k = 2 ∨ k = 3 ∨ k = 4) with rfl | rfl | rfl | rfl | rfl <;> simp
theorem tabP {k : Nat} (h : k < 8) : 0 ≤ ([0, 0, 1, 1, 2, 2, 3, 4] : List Int).getD k 0 ∧ ([0, 0, 1, 1, 2, 2, 3, 4] : List Int).getD k 0 ≤ 4 := by
  rcases (by omega : k = 0 ∨ k = 1 ∨ k = 2 ∨ k = 3 ∨ k = 4 ∨ k = 5 ∨ k = 6 ∨ k = 7) with rfl | rfl | rfl | rfl | rfl | rfl | rfl | rfl <;> simp
set_option maxHeartbeats 1000000 in
theorem l20Order_c {B g p : Nat} (w : World) (h : Rdr B w g p) (hp : p ≤ 900000) :
    Calls Try.prog 32 #[.pointer (some ⟨g, 0, none⟩)] w (Ordered B g p w) := by
  have hg := h.lt
  have oa := Own.made w #[.int .i64 1, .int .i64 2, .int .i64 4, .int .i64 0, .int .i64 3] [1, 2, 4, 0, 3] rfl rfl (by omega : 5 ≤ 4194304)
  have ob := Own.made (w.alloc (.cells #[.int .i64 1, .int .i64 2, .int .i64 4, .int .i64 0, .int .i64 3] 3)) #[.int .i64 0, .int .i64 0, .int .i64 1, .int .i64 1, .int .i64 2, .int .i64 2, .int .i64 3, .int .i64 4] [0, 0, 1, 1, 2, 2, 3, 4] rfl rfl (by omega : 8 ≤ 4194304)
  have oa2 := oa.alloc (by simp) (.cells #[.int .i64 0, .int .i64 0, .int .i64 1, .int .i64 1, .int .i64 2, .int .i64 2, .int .i64 3, .int .i64 4] 3)
  have r4 := (h.alloc (.cells #[.int .i64 1, .int .i64 2, .int .i64 4, .int .i64 0, .int .i64 3] 3)).alloc (.cells #[.int .i64 0, .int .i64 0, .int .i64 1, .int .i64 1, .int .i64 2, .int .i64 2, .int .i64 3, .int .i64 4] 3)
  have hgr4 := grown_alloc (grown_alloc (World.grownBy.refl w (some g)) (.cells #[.int .i64 1, .int .i64 2, .int .i64 4, .int .i64 0, .int .i64 3] 3)) (.cells #[.int .i64 0, .int .i64 0, .int .i64 1, .int .i64 1, .int .i64 2, .int .i64 2, .int .i64 3, .int .i64 4] 3)
  clear oa h
  go_enter Try.func32, Try.ntmps32
  go_wp2_with fail
  refine (pick_c _ _ r4 (by omega) (by omega) (by omega)).mono ?_
  rintro e w5 ⟨c, rfl, ⟨c0, c1⟩, r5, g5, s5⟩
  have oa5 := oa2.apart g5 (fun k hk => by injection hk; omega)
  have ob5 := ob.apart g5 (fun k hk => by injection hk; simp; omega)
  have hgr5 := grown_trans hgr4 g5
  clear oa2 ob r4 hgr4 g5 s5
  simp only [World.size_alloc] at ob5
  obtain ⟨c, rfl⟩ := Int.eq_ofNat_of_zero_le c0
  have cc := ob5.cell (k := c) (by simp; omega)
  have t8 := tabP (k := c) (by omega)
  generalize ([0, 0, 1, 1, 2, 2, 3, 4] : List Int).getD c 0 = d at cc t8
  obtain ⟨d, rfl⟩ := Int.eq_ofNat_of_zero_le t8.1
  have cd := oa5.cell (k := d) (by simp; omega)
  have t5 := tabO (k := d) (by omega)
  generalize ([1, 2, 4, 0, 3] : List Int).getD d 0 = z at cd t5
  clear oa5 ob5
  go_wp2
  go_ret
  exact ⟨z, rfl, t5, r5.more (by omega), hgr5⟩
set_option maxHeartbeats 400000 in
theorem DrawSliceBits_c {C : Nat} {A : Option Addr} {n c : Nat} (w : World) (h : RdB C w A n c) (hC : C ≤ w.heap.size) :
    Calls Try.prog 15 #[.slice A n c] w (DrawnMi 0 4 w) := by
  have H := hid (l20Open_c w h hC)
  clear h
  go_enter Try.func15, Try.ntmps15
  go_wp2_with fail
  refine H.out.mono ?_
  rintro e w1 ⟨rfl, r1, b1, l1⟩
  go_wp2_with fail
  refine (l20Signal_c 9 12 _ r1 (by omega) (by omega) (by omega) (by omega)).mono ?_
  rintro e w2 ⟨v, m, o, rfl, ho, hm, r2, g2⟩
  have t2 := g2.size
  go_wp2_with fail
  refine (l20Order_c _ r2 (by omega)).mono ?_
  rintro e w3 ⟨a, rfl, ⟨a0, a1⟩, r3, g3⟩
  have t3 := g3.size
  have ho := ho.apart g3 (fun k hk => by injection hk; omega)
  have gr := grown_trans g2 g3
  have hb := b1.trans (below_of_grown gr (Nat.le_refl _) l1)
  have ho' := ho.fit (show w.heap.size ≤ w1.heap.size by omega) t3
  clear ho g2 g3 gr
  go_wp2_with fail
  go_ret2
  exact ⟨v, m, o, a, rfl, ho', hm, ⟨by omega, by omega⟩, hb⟩

end Go.Proofs.Ytokgonhfmidbeaa
