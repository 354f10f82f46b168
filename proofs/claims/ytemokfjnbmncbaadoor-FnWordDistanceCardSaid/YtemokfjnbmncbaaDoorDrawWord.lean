/-
  The drawn inputs of the laws on words: lists of symbols, code words with some errors.
-/
import Derived.Test.YtemokfjnbmncbaaDoorDrawBits
import Derived.Test.YtemokfjnbmncbaaDoorEncS
namespace Go.Proofs.YtemokfjnbmncbaaDoor
open Go.RowKit

theorem tabx {w wp : World} {g : Nat} {A : Array Value} {t : TypeId} {i : Nat} (hg : (w.alloc (.cells A t)).grownBy wp (some g)) (hlt : g < w.heap.size) : wp.cell? ⟨w.heap.size, i, none⟩ = A[i]? :=
  (World.cell?_of_block (hg.block w.heap.size (by simp) (fun e => by injection e; omega))).trans (cell_of_row _ w.heap.size i _ _ _ (heap_alloc_new w _))
theorem odd0_c {B g p : Nat} (w : World) (_ : Rdr B w g p) :
    Calls Tryd.prog 51 #[.pointer (some ⟨g, 0, none⟩), .int .i64 0] w fun e w' => e = .returned (.bool false) ∧ w = w' := by
  go_enter Tryd.func51, Tryd.ntmps51
  go_wp2
  go_ret
  exact ⟨rfl, rfl⟩

def DrawnX (B g p : Nat) (w : World) (e : Ending) (w' : World) : Prop :=
  ∃ x : Int, e = .returned (.int .i64 x) ∧ (-1 ≤ x ∧ x ≤ 16) ∧ Rdr B w' g p ∧ w.grownBy w' (some g)
set_option maxHeartbeats 1000000 in
theorem l20Element_c {B g p : Nat} (n : Int) (w : World) (h : Rdr B w g p) (hp : p ≤ 950000) (h0 : 1 ≤ n) (h1 : n ≤ 1000) :
    Calls Tryd.prog 56 #[.pointer (some ⟨g, 0, none⟩), .int .i64 n] w (DrawnX B g (p + 2) w) := by
  have hg := h.lt
  have H := hid (odd_c n w h (by omega) (by omega) (by omega))
  clear h
  go_enter Tryd.func56, Tryd.ntmps56
  go_wp2_with fail
  refine H.out.mono ?_
  rintro e w1 ⟨b, rfl, r1, g1, s1⟩
  cases b
  · have P := hid (pick_c 16 w1 r1 (by omega) (by omega) (by omega))
    clear r1
    go_wp2_with fail
    refine P.out.mono ?_
    rintro e w2 ⟨x, rfl, ⟨x0, x1⟩, r2, g2, s2⟩
    have gg := grown_trans g1 g2
    go_wp2_with fail
    go_ret
    exact ⟨x, rfl, ⟨by omega, by omega⟩, r2, gg⟩
  · have r1' := r1.alloc (.cells #[.int .i64 (-1), .int .i64 16] 3)
    have g1' := grown_alloc g1 (.cells #[.int .i64 (-1), .int .i64 16] 3)
    have P := hid (pick_c 2 _ r1' (by omega) (by omega) (by omega))
    have hlt : g < w1.heap.size := by rw [s1]; exact hg
    have S1 := hid s1
    clear s1
    clear r1 r1'
    go_wp2_with fail
    refine P.out.mono ?_
    rintro e w2 ⟨x, rfl, ⟨x0, x1⟩, r2, g2, s2⟩
    have gg := grown_trans g1' g2
    have c0 : w2.cell? ⟨w1.heap.size, 0, none⟩ = some (.int .i64 (-1)) := tabx g2 (by omega) (w := w1) (i := 0)
    have c1 : w2.cell? ⟨w1.heap.size, 1, none⟩ = some (.int .i64 16) := tabx g2 (by omega) (w := w1) (i := 1)
    have hx : x = 0 ∨ x = 1 := by omega
    clear g1 g1' g2 P
    rcases hx with rfl | rfl
    · go_wp2_with fail
      go_ret
      exact ⟨-1, rfl, ⟨by omega, by omega⟩, r2.more (by omega), gg⟩
    · go_wp2_with fail
      go_ret
      exact ⟨16, rfl, ⟨by omega, by omega⟩, r2.more (by omega), gg⟩

theorem elems_snoc {o : List Int} {x : Int} (h : elems o = true) (h0 : 0 ≤ x) (h1 : x ≤ 15) : elems (o ++ [x]) = true := by
  unfold elems at h ⊢
  rw [List.all_append, h]
  simp [inB, h0, h1]
theorem elems_set {o : List Int} {x : Int} {k : Nat} (h : elems o = true) (h0 : 0 ≤ x) (h1 : x ≤ 15) : elems (o.set k x) = true := by
  unfold elems at h ⊢
  rw [List.all_eq_true] at h ⊢
  intro y hy
  rcases List.mem_or_eq_of_mem_set hy with hy | rfl
  · exact h y hy
  · exact inB_yes h0 h1

/-- a drawn list of n symbols, or, where it may be bad, some list -/
def DrawnE (n : Nat) (bad : Int) (B g p : Nat) (w : World) (e : Ending) (w' : World) : Prop :=
  ∃ v o, e = .returned v ∧ Own w.heap.size w'.heap.size w' v o ∧ o.length ≤ n + 1 ∧ (bad = 0 → elems o = true ∧ o.length = n) ∧ Rdr B w' g p ∧ w.grownBy w' (some g)

set_option maxHeartbeats 2000000 in
theorem l20Elements_c {B g p : Nat} (m : Nat) (n : Int) (w : World) (h : Rdr B w g p) (hp : p ≤ 900000) (hm : m ≤ 2000) (hm1 : 1 ≤ m) (h0 : 0 ≤ n) (h1 : n ≤ 1000) :
    Calls Tryd.prog 45 #[.pointer (some ⟨g, 0, none⟩), .int .i64 m, .int .i64 n] w (DrawnE m n B g (p + m + 5) w) := by
  have hg := h.lt
  have r0 := h.alloc (.cells #[] 3)
  have hown := (Own.empty w).more (show w.heap.size + 1 ≤ (w.alloc (.cells #[] 3)).heap.size by simp)
  have hgr := grown_alloc (World.grownBy.refl w (some g)) (.cells #[] 3)
  clear h
  go_enter Tryd.func45, Tryd.ntmps45
  go_wp2_with fail
  go_loopw [7, 8] (fun out i wr => ∃ (j : Nat) (o : List Int) (q : Nat), j ≤ m ∧ i = .int .i64 j ∧ o.length = j ∧ q ≤ p + j ∧ Hid (elems o = true) ∧ Own w.heap.size wr.heap.size wr out o ∧ Rdr B wr g q ∧ w.grownBy wr (some g)) (fun _ i _ => m - (intOf i).toNat)
  case atStart => exact ⟨0, [], p, by omega, rfl, rfl, by omega, rfl, hown, r0, hgr⟩
  case round =>
    obtain ⟨j, o, q, hj, rfl, hlen, hq, hall, ho, hr, hgr⟩ := hrel
    have HL := hid hlen
    clear r0 hown hlen
    have hsz := hgr.size
    by_cases hlt : j < m
    · go_wp2_with fail
      refine (pick_c _ _ hr (by omega) (by omega) (by omega)).mono ?_
      rintro e w2 ⟨a, rfl, ⟨a0, a1⟩, r2, g2, s2⟩
      have ho2 := (ho.apart g2 (fun k hk => by injection hk; omega)).more g2.size
      have hgr2 := grown_trans hgr g2
      have hsz2 := hgr2.size
      clear ho hr hgr g2 s2 hsz
      have hall2 := hid (elems_snoc hall.out a0 (by omega))
      go_wp2_with (at_builtin; refine wpl_appl intSl _ rfl (.tmp 15) (.tmp 18) rfl w.heap.size w2.heap.size _ _ _ [a] 1 rfl rfl rfl rfl ho2 (Nat.le_refl _) (by rw [HL.out]; omega) hsz2 ?_; intro v' w6 ho6 g6)
      have r6 := r2.grown g6 (fun k hk => by have := ho2.lt k hk; omega)
      have hgr6 := grown_own hgr2 g6 (fun k hk => by have := ho2.lt k hk; omega)
      clear ho2 r2 hgr2 g6
      go_wp2
      go_roundw
      case rel => exact ⟨j + 1, o ++ [a], _, by omega, by go_num, by simp [HL.out], by omega, hall2, ho6, r6, hgr6⟩
      case measure => simp [intOf]; omega
    · obtain rfl : m = j := by omega
      rcases ho.form with ⟨hnil, _⟩ | ⟨gf, cf, rfl, gB, gC, gl, gm'⟩
      · rw [hnil] at HL; have := HL.out; simp at this; omega
      rw [HL.out] at gl ⊢
      rw [HL.out] at ho
      have hm0 : (0 : Int) < (m : Int) := by omega
      by_cases hn : n = 0
      · subst hn
        go_wp2_with fail
        refine (odd0_c _ hr).mono ?_
        rintro e w2 ⟨rfl, rfl⟩
        go_wp2_with fail
        go_ret
        exact ⟨_, _, rfl, ho, by rw [HL.out]; omega, fun _ => ⟨hall.out, HL.out⟩, hr.more (by omega), hgr⟩
      have hnb := hid hn
      clear hn
      go_wp2_with fail
      refine (odd_c _ _ hr (by omega) (by omega) (by omega)).mono ?_
      rintro e w2 ⟨bo, rfl, r2, g2, s2⟩
      have ho2 := (ho.apart g2 (fun k hk => by injection hk; omega)).more g2.size
      have hgr2 := grown_trans hgr g2
      have hsz2 := hgr2.size
      clear ho hr hgr g2 s2 hsz
      cases bo
      · go_wp2_with fail
        go_ret
        exact ⟨_, _, rfl, ho2, by rw [HL.out]; omega, fun h => absurd h hnb.out, r2.more (by omega), hgr2⟩
      · go_wp2_with fail
        refine (pick_c _ _ r2 (by omega) (by omega) (by omega)).mono ?_
        rintro e w3 ⟨b, rfl, ⟨b0, b1⟩, r3, g3, s3⟩
        have ho3 := (ho2.apart g3 (fun k hk => by injection hk; omega)).more g3.size
        have hgr3 := grown_trans hgr2 g3
        have hsz3 := hgr3.size
        clear ho2 r2 hgr2 g3 s3
        by_cases hb : b = 0
        · subst hb
          go_wp2_with fail
          refine (pick_c _ _ r3 (by omega) (by omega) (by omega)).mono ?_
          rintro e w4 ⟨x, rfl, ⟨x0, x1⟩, r4, g4, s4⟩
          obtain ⟨x, rfl⟩ := Int.eq_ofNat_of_zero_le x0
          have ho4 := (ho3.apart g4 (fun k hk => by injection hk; omega)).more g4.size
          have hgr4 := grown_trans hgr3 g4
          have hsz4 := hgr4.size
          clear ho3 r3 hgr3 g4 s4
          go_wp2_with fail
          refine (l20Element_c 1 _ r4 (by omega) (by omega) (by omega)).mono ?_
          rintro e w5 ⟨y, rfl, ⟨y0, y1⟩, r5, g5⟩
          have ho5 := (ho4.apart g5 (fun k hk => by injection hk; omega)).more g5.size
          have hgr5 := grown_trans hgr4 g5
          have hsz5 := hgr5.size
          clear ho4 r4 hgr4 g5
          have cF := ho5.cell (k := x) (by rw [HL.out]; have hh : (x : Int) < (m : Int) := x1; omega)
          have fF := ho5.free x
          have ho6 := ho5.store x y
          have r6 := r5.keep (w' := w5.setCell ⟨gf, x, none⟩ (.int .i64 y)) (fun b hb => Below.heap_setCell w5 ⟨gf, x, none⟩ _ b (by simp; omega))
          have hgr6 := grown_own hgr5 (row := some gf) (c := w5.setCell ⟨gf, x, none⟩ (.int .i64 y)) (grown_set (World.grownBy.refl w5 (some gf)) _) (fun i hi => by injection hi; omega)
          clear ho5 r5 hgr5
          go_wp2
          go_ret
          exact ⟨_, _, rfl, ho6.fit (Nat.le_refl _) (by simp), by rw [List.length_set, HL.out]; omega, fun h => absurd h hnb.out, r6.more (by omega), hgr6⟩
        · have hb' : (b == 0) = false := by simpa using hb
          clear hb
          go_wp2_with (at_builtin; refine wpl_appl intSl _ rfl (.tmp 39) (.tmp 40) rfl w.heap.size w3.heap.size _ _ _ [0] 1 rfl rfl rfl rfl ho3 (Nat.le_refl _) (by rw [HL.out]; omega) hsz3 ?_; intro v' w6 ho6 g6)
          have r6 := r3.grown g6 (fun k hk => by have := ho3.lt k hk; omega)
          have hgr6 := grown_own hgr3 g6 (fun k hk => by have := ho3.lt k hk; omega)
          clear ho3 r3 hgr3 g6
          go_wp2
          go_ret
          exact ⟨_, _, rfl, ho6, by simp [HL.out], fun h => absurd h hnb.out, r6.more (by omega), hgr6⟩

/-- a drawn list of at most 16 numbers -/
def DrawnW (B g p : Nat) (w : World) (e : Ending) (w' : World) : Prop :=
  ∃ v o, e = .returned v ∧ Own w.heap.size w'.heap.size w' v o ∧ o.length ≤ 16 ∧ Rdr B w' g p ∧ w.grownBy w' (some g)
theorem grown_below {a b c : World} {g E : Nat} (h : a.grownBy b (some g)) (k : Below E b c) (hE : a.heap.size ≤ E) : a.grownBy c (some g) :=
  ⟨k.os.trans h.os, k.tape.trans h.tape, k.output.trans h.output, Nat.le_trans h.size k.size, fun i hi hne => (k.block i (by omega)).trans (h.block i hi hne)⟩

set_option maxHeartbeats 2000000 in
theorem l20Word_c {B g p : Nat} (n : Int) (w : World) (h : Rdr B w g p) (hp : p ≤ 800000) (h0 : 1 ≤ n) (h1 : n ≤ 1000) :
    Calls Tryd.prog 49 #[.pointer (some ⟨g, 0, none⟩), .int .i64 n] w (DrawnW B g (p + 60) w) := by
  have hg := h.lt
  have H := hid (l20Elements_c 11 0 w h (by omega) (by omega) (by omega) (by omega) (by omega))
  clear h
  go_enter Tryd.func49, Tryd.ntmps49
  go_wp2_with fail
  refine H.out.mono ?_
  rintro e w1 ⟨v1, o, rfl, o1, l1, k1, r1, g1⟩
  obtain ⟨he, hl⟩ := k1 rfl
  have hd : dOk o = true := dOk_iff.2 ⟨he, hl⟩
  have s1 := g1.size
  have E := hid (specEnc_c w1 o1.rd (Nat.le_refl _))
  have HE := hid (encL_yes hd)
  clear k1 he hl hd H l1
  go_wp2_with fail
  refine E.out.mono ?_
  rintro e w2 ⟨v2, rfl, o2, b2⟩
  have s2 := b2.size
  have r2 := r1.below b2 (by omega)
  have g2 := grown_below g1 b2 s1
  rw [HE.out] at o2
  have hl2 : (lsOf 15 (T.enc (fnOf o))).length = 15 := ls_length _ _
  generalize lsOf 15 (T.enc (fnOf o)) = ys at o2 hl2
  have HL := hid hl2
  clear hl2 E HE r1 g1 o1 b2
  rcases o2.form with ⟨hnil, _⟩ | ⟨gf, cf, rfl, gB, gC, gl, gm'⟩
  · rw [hnil] at HL; have := HL.out; simp at this
  rw [HL.out] at o2 gl ⊢
  go_wp2_with fail
  refine (pick_c _ _ r2 (by omega) (by omega) (by omega)).mono ?_
  rintro e w3 ⟨a, rfl, ⟨a0, a1⟩, r3, g3, s3⟩
  have o3 := (o2.apart g3 (fun k hk => by injection hk; omega)).more g3.size
  have g3 := grown_trans g2 g3
  obtain ⟨a, rfl⟩ := Int.eq_ofNat_of_zero_le a0
  have HLy := hid (show (ys.length = 15) from HL.out)
  have S3 := hid s3
  clear o2 r2 g2 s3 HL
  go_wp2_with fail
  go_loopw [6] (fun i wr => ∃ (j : Nat) (zs : List Int) (q : Nat), j ≤ 5 ∧ i = .int .i64 j ∧ q + 2 * j ≤ p + 35 ∧ Hid (zs.length = 15) ∧ Own w1.heap.size wr.heap.size wr (.slice (some ⟨gf, 0, none⟩) 15 cf) zs ∧ Rdr B wr g q ∧ w.grownBy wr (some g)) (fun i _ => (intOf i).toNat)
  case atStart => exact ⟨a, ys, _, by omega, rfl, by omega, HLy, o3, r3, g3⟩
  case round =>
    obtain ⟨j, zs, q, hj, rfl, hq, hL, ho, hr, hgr⟩ := hrel
    clear o3 r3 g3
    have hsz := hgr.size
    by_cases hj0 : 0 < j
    · go_wp2_with fail
      refine (pick_c _ _ hr (by omega) (by omega) (by omega)).mono ?_
      rintro e w4 ⟨x, rfl, ⟨x0, x1⟩, r4, g4, s4⟩
      obtain ⟨x, rfl⟩ := Int.eq_ofNat_of_zero_le x0
      have o4 := (ho.apart g4 (fun k hk => by injection hk; omega)).more g4.size
      have gr4 := grown_trans hgr g4
      have S4 := hid s4
      clear ho hr hgr g4 s4
      go_wp2_with fail
      refine (pick_c _ _ r4 (by omega) (by omega) (by omega)).mono ?_
      rintro e w5 ⟨y, rfl, ⟨y0, y1⟩, r5, g5, s5⟩
      have o5 := (o4.apart g5 (fun k hk => by injection hk; omega)).more g5.size
      have gr5 := grown_trans gr4 g5
      have S5 := hid s5
      clear o4 r4 gr4 g5 s5
      have hx15 : x < 15 := by omega
      have cF := o5.cell (k := x) (by rw [hL.out]; exact hx15)
      have fF := o5.free x
      have o6 := o5.store x y
      have r6 := r5.keep (w' := w5.setCell ⟨gf, x, none⟩ (.int .i64 y)) (fun b hb => Below.heap_setCell w5 ⟨gf, x, none⟩ _ b (by simp; omega))
      have gr6 := grown_own gr5 (row := some gf) (c := w5.setCell ⟨gf, x, none⟩ (.int .i64 y)) (grown_set (World.grownBy.refl w5 (some gf)) _) (fun i hi => by injection hi; omega)
      have hl6 : Hid ((zs.set x y).length = 15) := by show _ = _; rw [List.length_set]; exact hL.out
      clear o5 r5 gr5
      go_wp2
      go_roundw
      case rel => exact ⟨j - 1, _, _, by omega, by go_num, by omega, hl6, o6.fit (Nat.le_refl _) (by simp), r6, gr6⟩
      case measure => simp [intOf]; omega
    · obtain rfl : j = 0 := by omega
      go_wp2_with fail
      refine (odd_c _ _ hr (by omega) (by omega) (by omega)).mono ?_
      rintro e w4 ⟨bo, rfl, r4, g4, s4⟩
      have o4 := (ho.apart g4 (fun k hk => by injection hk; omega)).more g4.size
      have gr4 := grown_trans hgr g4
      have S4 := hid s4
      have sz4 := gr4.size
      clear ho hr hgr g4 s4
      cases bo
      · go_wp2_with fail
        go_ret
        exact ⟨_, _, rfl, o4.fit (by omega) (Nat.le_refl _), by rw [hL.out]; omega, r4.more (by omega), gr4⟩
      · go_wp2_with fail
        refine (l20Elements_c 15 1 _ r4 (by omega) (by omega) (by omega) (by omega) (by omega)).mono ?_
        rintro e w5 ⟨v5, ws, rfl, o5, l5, _, r5, g5⟩
        have gr5 := grown_trans gr4 g5
        go_wp2_with fail
        go_ret
        exact ⟨_, _, rfl, o5.fit (by omega) (Nat.le_refl _), by omega, r5.more (by omega), gr5⟩

/-- a list drawn whole -/
def DrawnO (m : Nat) (w : World) (e : Ending) (w' : World) : Prop :=
  ∃ v o, e = .returned v ∧ Own w.heap.size w'.heap.size w' v o ∧ o.length ≤ m ∧ Below w.heap.size w w'
set_option maxHeartbeats 1000000 in
theorem DrawEncodeWord_c {C : Nat} {A : Option Addr} {n c : Nat} (w : World) (h : RdB C w A n c) (hC : C ≤ w.heap.size) :
    Calls Tryd.prog 23 #[.slice A n c] w (DrawnO 12 w) := by
  have H := hid (l20Open_c w h hC)
  clear h
  go_enter Tryd.func23, Tryd.ntmps23
  go_wp2_with fail
  refine H.out.mono ?_
  rintro e w1 ⟨rfl, r1, b1, l1⟩
  go_wp2_with fail
  refine (l20Elements_c 11 6 _ r1 (by omega) (by omega) (by omega) (by omega) (by omega)).mono ?_
  rintro e w2 ⟨v, o, rfl, o2, l2, _, r2, g2⟩
  go_wp2_with fail
  go_ret
  exact ⟨v, o, rfl, o2.fit (by omega) (Nat.le_refl _), l2, b1.trans (below_of_grown g2 (Nat.le_refl _) l1)⟩
set_option maxHeartbeats 1000000 in
theorem DrawWordSyndromes_c {C : Nat} {A : Option Addr} {n c : Nat} (w : World) (h : RdB C w A n c) (hC : C ≤ w.heap.size) :
    Calls Tryd.prog 31 #[.slice A n c] w (DrawnO 16 w) := by
  have H := hid (l20Open_c w h hC)
  clear h
  go_enter Tryd.func31, Tryd.ntmps31
  go_wp2_with fail
  refine H.out.mono ?_
  rintro e w1 ⟨rfl, r1, b1, l1⟩
  go_wp2_with fail
  refine (l20Word_c _ _ r1 (by omega) (by omega) (by omega)).mono ?_
  rintro e w2 ⟨v, o, rfl, o2, l2, r2, g2⟩
  go_wp2_with fail
  go_ret
  exact ⟨v, o, rfl, o2.fit (by omega) (Nat.le_refl _), l2, b1.trans (below_of_grown g2 (Nat.le_refl _) l1)⟩
set_option maxHeartbeats 1000000 in
theorem DrawDecodeWord_c {C : Nat} {A : Option Addr} {n c : Nat} (w : World) (h : RdB C w A n c) (hC : C ≤ w.heap.size) :
    Calls Tryd.prog 28 #[.slice A n c] w (DrawnO 16 w) := by
  have H := hid (l20Open_c w h hC)
  clear h
  go_enter Tryd.func28, Tryd.ntmps28
  go_wp2_with fail
  refine H.out.mono ?_
  rintro e w1 ⟨rfl, r1, b1, l1⟩
  go_wp2_with fail
  refine (l20Word_c _ _ r1 (by omega) (by omega) (by omega)).mono ?_
  rintro e w2 ⟨v, o, rfl, o2, l2, r2, g2⟩
  go_wp2_with fail
  go_ret
  exact ⟨v, o, rfl, o2.fit (by omega) (Nat.le_refl _), l2, b1.trans (below_of_grown g2 (Nat.le_refl _) l1)⟩

end Go.Proofs.YtemokfjnbmncbaaDoor
