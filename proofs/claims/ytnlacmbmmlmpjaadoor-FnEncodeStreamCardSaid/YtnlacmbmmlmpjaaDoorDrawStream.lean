/-
  The drawn inputs of the laws on streams: lists of bits, codes with some errors.
-/
import Derived.Test.YtnlacmbmmlmpjaaDoorDrawSeq
import Derived.Test.YtnlacmbmmlmpjaaDoorStreamS
namespace Go.Proofs.YtnlacmbmmlmpjaaDoor
open Go.RowKit

theorem odd0_c {B g p : Nat} (w : World) (_ : Rdr B w g p) :
    Calls Tryd.prog 41 #[.pointer (some ⟨g, 0, none⟩), .int .i64 0] w fun e w' => e = .returned (.bool false) ∧ w = w' := by
  go_enter Tryd.func41, Tryd.ntmps41
  go_wp2
  go_ret
  exact ⟨rfl, rfl⟩
theorem tabx {w wp : World} {g : Nat} {A : Array Value} {t : TypeId} {i : Nat} (hg : (w.alloc (.cells A t)).grownBy wp (some g)) (hlt : g < w.heap.size) : wp.cell? ⟨w.heap.size, i, none⟩ = A[i]? :=
  (World.cell?_of_block (hg.block w.heap.size (by simp) (fun e => by injection e; omega))).trans (cell_of_row _ w.heap.size i _ _ _ (heap_alloc_new w _))
theorem grown_below {a b c : World} {g E : Nat} (h : a.grownBy b (some g)) (k : Below E b c) (hE : a.heap.size ≤ E) : a.grownBy c (some g) :=
  ⟨k.os.trans h.os, k.tape.trans h.tape, k.output.trans h.output, Nat.le_trans h.size k.size, fun i hi hne => (k.block i (by omega)).trans (h.block i hi hne)⟩
def bitsAll (o : List Int) : Prop := ∀ x ∈ o, 0 ≤ x ∧ x ≤ 1
theorem bits_snoc {o : List Int} {x : Int} (h : bitsAll o) (h0 : 0 ≤ x) (h1 : x ≤ 1) : bitsAll (o ++ [x]) := by
  intro y hy
  rcases List.mem_append.1 hy with hy | hy
  · exact h y hy
  · rw [List.mem_singleton.1 hy]; exact ⟨h0, h1⟩

/-- a drawn list of at most m bits, or, where it may be bad, some list -/
def DrawnB (m : Nat) (bad : Int) (B g p : Nat) (w : World) (e : Ending) (w' : World) : Prop :=
  ∃ v o, e = .returned v ∧ Own w.heap.size w'.heap.size w' v o ∧ o.length ≤ m + 1 ∧ (bad = 0 → bitsAll o ∧ o.length ≤ m) ∧ Rdr B w' g p ∧ w.grownBy w' (some g)

set_option maxHeartbeats 2000000 in
theorem l20Bits_c {B g p : Nat} (m : Nat) (n : Int) (w : World) (h : Rdr B w g p) (hp : p ≤ 900000) (hm : m ≤ 2000) (h0 : 0 ≤ n) (h1 : n ≤ 1000) :
    Calls Tryd.prog 43 #[.pointer (some ⟨g, 0, none⟩), .int .i64 m, .int .i64 n] w (DrawnB m n B g (p + 2 * m + 5) w) := by
  have hg := h.lt
  have r0 := h.alloc (.cells #[] 3)
  have hown := (Own.empty w).more (show w.heap.size + 1 ≤ (w.alloc (.cells #[] 3)).heap.size by simp)
  have hgr := grown_alloc (World.grownBy.refl w (some g)) (.cells #[] 3)
  clear h
  go_enter Tryd.func43, Tryd.ntmps43
  go_wp2_with fail
  refine (pick_c _ _ r0 (by omega) (by omega) (by omega)).mono ?_
  rintro e w1 ⟨st, rfl, ⟨st0, st1⟩, r1, g1, s1⟩
  have o1 := (hown.apart g1 (fun k hk => by injection hk; omega)).more g1.size
  have gr1 := grown_trans hgr g1
  have S1 := hid s1
  clear r0 hown hgr g1 s1
  go_wp2_with fail
  refine (pick_c _ _ r1 (by omega) (by omega) (by omega)).mono ?_
  rintro e w2 ⟨nw, rfl, ⟨nw0, nw1⟩, r2, g2, s2⟩
  have o2 := (o1.apart g2 (fun k hk => by injection hk; omega)).more g2.size
  have gr2 := grown_trans gr1 g2
  have S2 := hid s2
  clear r1 o1 gr1 g2 s2
  go_wp2_with fail
  refine (pick_c _ _ r2 (by omega) (by omega) (by omega)).mono ?_
  rintro e w3 ⟨k0, rfl, ⟨k00, k01⟩, r3, g3, s3⟩
  obtain ⟨k0, rfl⟩ := Int.eq_ofNat_of_zero_le k00
  have o3 := (o2.apart g3 (fun k hk => by injection hk; omega)).more g3.size
  have gr3 := grown_trans gr2 g3
  have S3 := hid s3
  clear r2 o2 gr2 g3 s3
  go_wp2_with fail
  go_loopw [7, 9, 10] (fun out now i wr => ∃ (j : Nat) (o : List Int) (q : Nat) (x : Int), j ≤ m ∧ i = .int .i64 j ∧ now = .int .i64 x ∧ (0 ≤ x ∧ x ≤ 1) ∧ o.length + j ≤ m ∧ q + 2 * j ≤ p + 2 * m + 3 ∧ Hid (bitsAll o) ∧ Own w.heap.size wr.heap.size wr out o ∧ Rdr B wr g q ∧ w.grownBy wr (some g)) (fun _ _ i _ => (intOf i).toNat)
  case atStart => exact ⟨k0, [], _, nw, by omega, rfl, rfl, ⟨by omega, by omega⟩, by simp; omega, by omega, fun x hx => by simp at hx, o3, r3, gr3⟩
  case round =>
    rename_i wr
    obtain ⟨j, o, q, x, hj, rfl, rfl, ⟨x0, x1⟩, hlen, hq, hall, ho, hr, hgr⟩ := hrel
    clear r3 o3 gr3
    have hsz := hgr.size
    by_cases hlt : 0 < j
    · go_wp2_with fail
      refine (pick_c _ _ hr (by omega) (by omega) (by omega)).mono ?_
      rintro e w2 ⟨a, rfl, ⟨a0, a1⟩, r2, g2, s2⟩
      have ho2 := (ho.apart g2 (fun k hk => by injection hk; omega)).more g2.size
      have hgr2 := grown_trans hgr g2
      have hsz2 := hgr2.size
      have S2 := hid s2
      clear ho hr hgr g2 s2 hsz
      by_cases ha : a = 0
      · subst ha
        go_wp2_with fail
        refine (pick_c _ _ r2 (by omega) (by omega) (by omega)).mono ?_
        rintro e w3 ⟨y, rfl, ⟨y0, y1⟩, r3, g3, s3⟩
        have ho3 := (ho2.apart g3 (fun k hk => by injection hk; omega)).more g3.size
        have hgr3 := grown_trans hgr2 g3
        have hsz3 := hgr3.size
        have S3 := hid s3
        clear ho2 r2 hgr2 g3 s3 hsz2
        have hall2 := hid (bits_snoc hall.out y0 (by omega))
        go_wp2_with (at_builtin; refine wpl_appl intSl _ rfl (.tmp 31) (.tmp 33) rfl w.heap.size w3.heap.size _ _ _ [y] 1 rfl rfl rfl rfl ho3 (Nat.le_refl _) (by omega) hsz3 ?_; intro v' w6 ho6 g6)
        have r6 := r3.grown g6 (fun k hk => by have := ho3.lt k hk; omega)
        have hgr6 := grown_own hgr3 g6 (fun k hk => by have := ho3.lt k hk; omega)
        clear ho3 r3 hgr3 g6
        go_wp2
        go_roundw
        case rel => exact ⟨j - 1, o ++ [y], _, y, by omega, by go_num, rfl, ⟨y0, by omega⟩, by simp; omega, by omega, hall2, ho6, r6, hgr6⟩
        case measure => simp [intOf]; omega
      · have hb' : (a == 0) = false := by simpa using ha
        have hall2 := hid (bits_snoc hall.out x0 x1)
        clear ha
        go_wp2_with (at_builtin; refine wpl_appl intSl _ rfl (.tmp 31) (.tmp 33) rfl w.heap.size w2.heap.size _ _ _ [x] 1 rfl rfl rfl rfl ho2 (Nat.le_refl _) (by omega) hsz2 ?_; intro v' w6 ho6 g6)
        have r6 := r2.grown g6 (fun k hk => by have := ho2.lt k hk; omega)
        have hgr6 := grown_own hgr2 g6 (fun k hk => by have := ho2.lt k hk; omega)
        clear ho2 r2 hgr2 g6
        go_wp2
        go_roundw
        case rel => exact ⟨j - 1, o ++ [x], _, x, by omega, by go_num, rfl, ⟨x0, x1⟩, by simp; omega, by omega, hall2, ho6, r6, hgr6⟩
        case measure => simp [intOf]; omega
    · obtain rfl : j = 0 := by omega
      by_cases hn : n = 0
      · subst hn
        go_wp2_with fail
        refine (odd0_c _ hr).mono ?_
        rintro e w2 ⟨rfl, rfl⟩
        go_wp2_with fail
        go_ret
        exact ⟨_, _, rfl, ho, by omega, fun _ => ⟨hall.out, by omega⟩, hr.more (by omega), hgr⟩
      have hnb := hid hn
      clear hn
      go_wp2_with fail
      refine (odd_c _ _ hr (by omega) (by omega) (by omega)).mono ?_
      rintro e w2 ⟨bo, rfl, r2, g2, s2⟩
      have ho2 := (ho.apart g2 (fun k hk => by injection hk; omega)).more g2.size
      have hgr2 := grown_trans hgr g2
      have hsz2 := hgr2.size
      have S2 := hid s2
      clear ho hr hgr g2 s2 hsz
      cases bo
      · go_wp2_with fail
        go_ret
        exact ⟨_, _, rfl, ho2, by omega, fun h => absurd h hnb.out, r2.more (by omega), hgr2⟩
      · have r2' := r2.alloc (.cells #[.int .i64 2, .int .i64 (-1)] 3)
        have g2' := grown_alloc hgr2 (.cells #[.int .i64 2, .int .i64 (-1)] 3)
        have o2' := ho2.alloc (Nat.le_refl _) (.cells #[.int .i64 2, .int .i64 (-1)] 3)
        have glt : g < w2.heap.size := by omega
        clear r2 hgr2 ho2
        go_wp2_with fail
        refine (pick_c _ _ r2' (by omega) (by omega) (by omega)).mono ?_
        rintro e w3 ⟨b, rfl, ⟨b0, b1⟩, r3, g3, s3⟩
        have c0 : w3.cell? ⟨w2.heap.size, 0, none⟩ = some (.int .i64 2) := tabx g3 glt (w := w2) (i := 0)
        have c1 : w3.cell? ⟨w2.heap.size, 1, none⟩ = some (.int .i64 (-1)) := tabx g3 glt (w := w2) (i := 1)
        have z3 := g3.size
        rw [World.size_alloc] at z3
        have ho3 := (o2'.apart g3 (fun k hk => by injection hk; omega)).more (show w2.heap.size ≤ w3.heap.size by omega)
        have hgr3 := grown_trans g2' g3
        have hsz3 := hgr3.size
        have S3 := hid s3
        clear o2' r2' g2' g3 s3
        rcases (by omega : b = 0 ∨ b = 1) with rfl | rfl
        · go_wp2_with (at_builtin; refine wpl_appl intSl _ rfl (.tmp 38) (.tmp 44) rfl w.heap.size w3.heap.size _ _ _ [2] 1 rfl rfl rfl rfl ho3 (Nat.le_refl _) (by omega) hsz3 ?_; intro v' w6 ho6 g6)
          have r6 := r3.grown g6 (fun k hk => by have := ho3.lt k hk; omega)
          have hgr6 := grown_own hgr3 g6 (fun k hk => by have := ho3.lt k hk; omega)
          clear ho3 r3 hgr3 g6
          go_wp2
          go_ret
          exact ⟨_, _, rfl, ho6, by simp; omega, fun h => absurd h hnb.out, r6.more (by omega), hgr6⟩
        · go_wp2_with (at_builtin; refine wpl_appl intSl _ rfl (.tmp 38) (.tmp 44) rfl w.heap.size w3.heap.size _ _ _ [-1] 1 rfl rfl rfl rfl ho3 (Nat.le_refl _) (by omega) hsz3 ?_; intro v' w6 ho6 g6)
          have r6 := r3.grown g6 (fun k hk => by have := ho3.lt k hk; omega)
          have hgr6 := grown_own hgr3 g6 (fun k hk => by have := ho3.lt k hk; omega)
          clear ho3 r3 hgr3 g6
          go_wp2
          go_ret
          exact ⟨_, _, rfl, ho6, by simp; omega, fun h => absurd h hnb.out, r6.more (by omega), hgr6⟩

def DrawnO (m : Nat) (w : World) (e : Ending) (w' : World) : Prop :=
  ∃ v o, e = .returned v ∧ Own w.heap.size w'.heap.size w' v o ∧ o.length ≤ m ∧ Below w.heap.size w w'
def DrawnO2 (m : Nat) (w : World) (e : Ending) (w' : World) : Prop :=
  ∃ v u o q, e = .returned (.tuple #[v, u]) ∧ Own w.heap.size w'.heap.size w' v o ∧ Own w.heap.size w'.heap.size w' u q ∧ (o.length ≤ m ∧ q.length ≤ m) ∧ Below w.heap.size w w'
set_option maxHeartbeats 1000000 in
theorem DrawEncodeStream_c {C : Nat} {A : Option Addr} {n c : Nat} (w : World) (h : RdB C w A n c) (hC : C ≤ w.heap.size) :
    Calls Tryd.prog 25 #[.slice A n c] w (DrawnO 41 w) := by
  have H := hid (l20Open_c w h hC)
  clear h
  go_enter Tryd.func25, Tryd.ntmps25
  go_wp2_with fail
  refine H.out.mono ?_
  rintro e w1 ⟨rfl, r1, b1, l1⟩
  go_wp2_with fail
  refine (odd_c _ _ r1 (by omega) (by omega) (by omega)).mono ?_
  rintro e w2 ⟨bo, rfl, r2, g2, s2⟩
  have z2 := g2.size
  have S2 := hid s2
  clear s2 H r1
  cases bo
  · go_wp2_with fail
    refine (l20Bits_c 14 9 _ r2 (by omega) (by omega) (by omega) (by omega)).mono ?_
    rintro e w3 ⟨v, o, rfl, o3, l3, _, r3, g3⟩
    go_wp2_with fail
    go_ret
    exact ⟨v, o, rfl, o3.fit (by omega) (Nat.le_refl _), by omega, b1.trans (below_of_grown (grown_trans g2 g3) (Nat.le_refl _) l1)⟩
  · go_wp2_with fail
    refine (pick_c _ _ r2 (by omega) (by omega) (by omega)).mono ?_
    rintro e w3 ⟨x, rfl, ⟨x0, x1⟩, r3, g3, s3⟩
    have z3 := g3.size
    have bb := b1.trans (below_of_grown (grown_trans g2 g3) (Nat.le_refl _) l1)
    obtain ⟨x, rfl⟩ := Int.eq_ofNat_of_zero_le x0
    have S3 := hid s3
    clear s3 r2 g2 g3 b1 r3
    go_wp2_with (refine wpl_make intSl _ rfl (.tmp 10) (.tmp 10) rfl _ _ (40 + x) rfl rfl (by omega) (by omega) (by omega) ?_; intro w4 o4 b4 hlt4)
    go_ret
    exact ⟨_, _, rfl, o4.fit (by omega) (Nat.le_refl _), by simp; omega, bb.trans (b4.mono (by omega))⟩

def flip1 (zs : List Int) (j : Nat) : List Int := zs.set j (1 - zs.getD j 0)
theorem bits_flip {zs : List Int} {j : Nat} (h : bitsAll zs) (hj : j < zs.length) : bitsAll (flip1 zs j) := by
  intro y hy
  rcases List.mem_or_eq_of_mem_set hy with hy | rfl
  · exact h y hy
  · have := h _ (mem_getD hj); omega
theorem bitsAll_ok {xs : List Int} (h : bitsAll xs) (hl : xs.length ≤ 40) : sOk xs = true := by
  rw [sOk, bitsOk_iff.2 ⟨h, by omega⟩, decide_eq_true hl]; rfl
theorem enc_bitsAll {xs : List Int} : bitsAll (encS xs) := by
  unfold encS
  split
  · intro y hy
    obtain ⟨k, hk, rfl⟩ := List.getElem_of_mem hy
    have := T.cdf_bit (T.way xs) k
    simp only [rg, List.getElem_map, List.getElem_range]
    omega
  · intro y hy; simp at hy

set_option maxHeartbeats 2000000 in
theorem l20Stream_c {B g p : Nat} (w : World) (h : Rdr B w g p) (hp : p ≤ 800000) :
    Calls Tryd.prog 44 #[.pointer (some ⟨g, 0, none⟩)] w fun e w' => ∃ v o, e = .returned v ∧ Own w.heap.size w'.heap.size w' v o ∧ o.length ≤ 31 ∧ Rdr B w' g (p + 200) ∧ w.grownBy w' (some g) := by
  have hg := h.lt
  have H := hid (l20Bits_c 12 0 w h (by omega) (by omega) (by omega) (by omega))
  clear h
  go_enter Tryd.func44, Tryd.ntmps44
  go_wp2_with fail
  refine H.out.mono ?_
  rintro e w1 ⟨v1, o, rfl, o1, l1, k1, r1, g1⟩
  obtain ⟨he, hl⟩ := k1 rfl
  have hok := bitsAll_ok he (by omega)
  have s1 := g1.size
  have E := hid (specEncS_c w1 o1.rd (Nat.le_refl _))
  have hlen : (encS o).length = 2 * (o.length + 2) := by rw [encS_yes hok, rg_length]
  have hba := enc_bitsAll (xs := o)
  clear k1 he hok H l1
  go_wp2_with fail
  refine E.out.mono ?_
  rintro e w2 ⟨v2, rfl, o2, b2⟩
  have s2 := b2.size
  have r2 := r1.below b2 (by omega)
  have g2 := grown_below g1 b2 s1
  generalize encS o = ys at o2 hlen hba
  generalize hN : 2 * (o.length + 2) = N at hlen
  have hN28 : N ≤ 28 := by omega
  have hN1 : 1 ≤ N := by omega
  have HL := hid hlen
  have HBA := hid hba
  clear hlen E hba r1 g1 o1 b2 hN
  rcases o2.form with ⟨hnil, _⟩ | ⟨gf, cf, rfl, gB, gC, gl, gm'⟩
  · rw [hnil] at HL; have := HL.out; simp at this; omega
  rw [HL.out] at o2 gl ⊢
  go_wp2_with fail
  refine (pick_c _ _ r2 (by omega) (by omega) (by omega)).mono ?_
  rintro e w3 ⟨a, rfl, ⟨a0, a1⟩, r3, g3, s3⟩
  have o3 := (o2.apart g3 (fun k hk => by injection hk; omega)).more g3.size
  have g3 := grown_trans g2 g3
  obtain ⟨a, rfl⟩ := Int.eq_ofNat_of_zero_le a0
  have S3 := hid s3
  clear o2 r2 g2 s3
  go_wp2_with fail
  go_loopw [4, 5] (fun i _ wr => ∃ (j : Nat) (zs : List Int) (q : Nat), j ≤ 4 ∧ i = .int .i64 j ∧ q + j ≤ p + 60 ∧ Hid (zs.length = N ∧ bitsAll zs) ∧ Own w1.heap.size wr.heap.size wr (.slice (some ⟨gf, 0, none⟩) N cf) zs ∧ Rdr B wr g q ∧ w.grownBy wr (some g)) (fun i _ _ => (intOf i).toNat)
  case atStart => exact ⟨a, ys, _, by omega, rfl, by omega, ⟨HL.out, HBA.out⟩, o3, r3, g3⟩
  case round =>
    rename_i wr
    obtain ⟨j, zs, q, hj, rfl, hq, hL, ho, hr, hgr⟩ := hrel
    clear o3 r3 g3
    have hsz := hgr.size
    by_cases hj0 : 0 < j
    · go_wp2_with fail
      refine (pick_c _ _ hr (by omega) (by omega) (by omega)).mono ?_
      rintro e w4 ⟨x, rfl, ⟨x0, x1⟩, r4, g4, s4⟩
      obtain ⟨x, rfl⟩ := Int.eq_ofNat_of_zero_le x0
      have o4 := (ho.apart g4 (fun k hk => by injection hk; omega)).more g4.size
      have gr4 := grown_trans hgr g4
      have S4 := hid s4
      clear ho hr hgr g4 s4
      have hx15 : x < zs.length := by rw [hL.out.1]; omega
      have cF := o4.cell (k := x) hx15
      have hb := hL.out.2 _ (mem_getD hx15)
      have fF := o4.free x
      have o6 := o4.store x (1 - zs.getD x 0)
      have hl6 : Hid ((flip1 zs x).length = N ∧ bitsAll (flip1 zs x)) := ⟨by unfold flip1; rw [List.length_set]; exact hL.out.1, bits_flip hL.out.2 hx15⟩
      rw [show zs.set x (1 - zs.getD x 0) = flip1 zs x from rfl] at o6
      generalize flip1 zs x = fz at o6 hl6
      generalize zs.getD x 0 = zx at cF hb o6
      have r6 := r4.keep (w' := w4.setCell ⟨gf, x, none⟩ (.int .i64 (1 - zx))) (fun b hb => Below.heap_setCell w4 ⟨gf, x, none⟩ _ b (by simp; omega))
      have gr6 := grown_own gr4 (row := some gf) (c := w4.setCell ⟨gf, x, none⟩ (.int .i64 (1 - zx))) (grown_set (World.grownBy.refl w4 (some gf)) _) (fun i hi => by injection hi; omega)
      have i1 : (x : Int) < (N : Int) := x1
      clear o4 r4 gr4 hx15
      go_wp2
      go_roundw
      case rel => exact ⟨j - 1, _, _, by omega, by go_num, by omega, hl6, o6.fit (Nat.le_refl _) (by simp), r6, gr6⟩
      case measure => simp [intOf]; omega
    · obtain rfl : j = 0 := by omega
      go_wp2_with fail
      refine (odd_c _ _ hr (by omega) (by omega) (by omega)).mono ?_
      rintro e w4 ⟨bo, rfl, r4, g4, s4⟩
      have o4 := (ho.apart g4 (fun k hk => by injection hk; omega)).more g4.size
      have gr4 := grown_trans hgr g4
      have S4 := hid s4
      have sz4 := gr4.size
      clear ho hr hgr g4 s4
      cases bo
      · go_wp2_with fail
        go_ret
        exact ⟨_, _, rfl, o4.fit (by omega) (Nat.le_refl _), by rw [hL.out.1]; omega, r4.more (by omega), gr4⟩
      · go_wp2_with fail
        refine (l20Bits_c 30 3 _ r4 (by omega) (by omega) (by omega) (by omega)).mono ?_
        rintro e w5 ⟨v5, ws, rfl, o5, l5, _, r5, g5⟩
        have gr5 := grown_trans gr4 g5
        go_wp2_with fail
        go_ret
        exact ⟨_, _, rfl, o5.fit (by omega) (Nat.le_refl _), by omega, r5.more (by omega), gr5⟩
set_option maxHeartbeats 1000000 in
theorem DrawDecodeStream_c {C : Nat} {A : Option Addr} {n c : Nat} (w : World) (h : RdB C w A n c) (hC : C ≤ w.heap.size) :
    Calls Tryd.prog 28 #[.slice A n c] w (DrawnO 31 w) := by
  have H := hid (l20Open_c w h hC)
  clear h
  go_enter Tryd.func28, Tryd.ntmps28
  go_wp2_with fail
  refine H.out.mono ?_
  rintro e w1 ⟨rfl, r1, b1, l1⟩
  go_wp2_with fail
  refine (l20Stream_c _ r1 (by omega)).mono ?_
  rintro e w2 ⟨v, o, rfl, o2, l2, r2, g2⟩
  go_wp2_with fail
  go_ret
  exact ⟨v, o, rfl, o2.fit (by omega) (Nat.le_refl _), l2, b1.trans (below_of_grown g2 (Nat.le_refl _) l1)⟩
set_option maxHeartbeats 1000000 in
theorem DrawStreamErrors_c {C : Nat} {A : Option Addr} {n c : Nat} (w : World) (h : RdB C w A n c) (hC : C ≤ w.heap.size) :
    Calls Tryd.prog 29 #[.slice A n c] w (DrawnO 31 w) := by
  have H := hid (l20Open_c w h hC)
  clear h
  go_enter Tryd.func29, Tryd.ntmps29
  go_wp2_with fail
  refine H.out.mono ?_
  rintro e w1 ⟨rfl, r1, b1, l1⟩
  go_wp2_with fail
  refine (l20Stream_c _ r1 (by omega)).mono ?_
  rintro e w2 ⟨v, o, rfl, o2, l2, r2, g2⟩
  go_wp2_with fail
  go_ret
  exact ⟨v, o, rfl, o2.fit (by omega) (Nat.le_refl _), l2, b1.trans (below_of_grown g2 (Nat.le_refl _) l1)⟩

set_option maxHeartbeats 2000000 in
theorem DrawAddBits_c {C : Nat} {A : Option Addr} {n c : Nat} (w : World) (h : RdB C w A n c) (hC : C ≤ w.heap.size) :
    Calls Tryd.prog 21 #[.slice A n c] w (DrawnO2 21 w) := by
  have H := hid (l20Open_c w h hC)
  clear h
  have TW : ∀ w1, Rdr w.heap.size w1 w.heap.size 0 → Calls Tryd.prog 38 #[.pointer (some ⟨w.heap.size, 0, none⟩), .int .i64 20] w1 fun e w' => ∃ v u o q, e = .returned (.tuple #[v, u]) ∧ Own w1.heap.size w'.heap.size w' v o ∧ Own w1.heap.size w'.heap.size w' u q ∧ (o.length ≤ 21 ∧ q.length ≤ 21) ∧ w1.grownBy w' (some w.heap.size) := by
    intro w1 r1
    have l1 := r1.lt
    go_enter Tryd.func38, Tryd.ntmps38
    go_wp2_with fail
    refine (l20Bits_c 20 12 _ r1 (by omega) (by omega) (by omega) (by omega)).mono ?_
    rintro e w2 ⟨v, o, rfl, o2, l2, _, r2, g2⟩
    have s2 := g2.size
    have hE := (Own.empty w2).more (show w2.heap.size + 1 ≤ (w2.alloc (.cells #[] 3)).heap.size by simp)
    have bE := (Below.refl w2.heap.size w2).alloc (Nat.le_refl _) (.cells #[] 3)
    have oE := o2.below bE (Nat.le_refl _)
    have rE := r2.alloc (.cells #[] 3)
    have gE := grown_alloc g2 (.cells #[] 3)
    clear o2 r2 g2 r1
    go_wp2_with (at_builtin; refine wpl_append intSl _ rfl (.tmp 12) (.tmp 13) rfl w2.heap.size _ w2.heap.size _ _ [] _ rfl rfl hE oE.rd (by simp; omega) (by simp) ?_; intro v3 w3 o3 g3 _; rw [List.nil_append] at o3; have s3 := g3.size; have oA := oE.apart g3 (fun k hk => .inr (hE.lt k hk).1); have r3 := rE.grown g3 (fun k hk => by have := hE.lt k hk; omega); have gr3 := grown_own gE g3 (fun k hk => by have := hE.lt k hk; omega); clear hE bE oE rE gE g3)
    have s3' : w2.heap.size ≤ w3.heap.size := by simp at s3; omega
    have hv3 : ∃ A3 c3, v3 = .slice A3 o.length c3 := by
      obtain ⟨A3, n3, c3, e, R3⟩ := o3.rd
      exact ⟨A3, c3, by rw [e, ← R3.len]⟩
    obtain ⟨A3, c3, rfl⟩ := hv3
    go_loopw [8] (fun i wr => ∃ (j : Nat) (zs : List Int) (q : Nat), j ≤ o.length ∧ i = .int .i64 j ∧ q ≤ 45 + 2 * j ∧ Hid (zs.length = o.length) ∧ Own w2.heap.size wr.heap.size wr (.slice A3 o.length c3) zs ∧ Own w1.heap.size w2.heap.size wr v o ∧ Rdr w.heap.size wr w.heap.size q ∧ w1.grownBy wr (some w.heap.size) ∧ w2.heap.size ≤ wr.heap.size) (fun i _ => o.length - (intOf i).toNat)
    case atStart => exact ⟨0, o, _, by omega, rfl, by omega, rfl, o3, oA, r3, gr3, s3'⟩
    case round =>
      rename_i wr
      obtain ⟨j, zs, q, hj, rfl, hq, hL, ho, hoA, hr, hgr, hs2⟩ := hrel
      clear o3 oA r3 gr3
      have hsz := hgr.size
      by_cases hlt : j < o.length
      · go_wp2_with fail
        refine (pick_c _ _ hr (by omega) (by omega) (by omega)).mono ?_
        rintro e w4 ⟨x, rfl, ⟨x0, x1⟩, r4, g4, s4⟩
        have o4 := (ho.apart g4 (fun k hk => by injection hk; omega)).more g4.size
        have oA4 := hoA.apart g4 (fun k hk => by injection hk; omega)
        have gr4 := grown_trans hgr g4
        have z4 := g4.size
        have S4 := hid s4
        clear ho hoA hr hgr g4 s4
        by_cases hx : x = 0
        · subst hx
          go_wp2_with fail
          refine (pick_c _ _ r4 (by omega) (by omega) (by omega)).mono ?_
          rintro e w5 ⟨y, rfl, ⟨y0, y1⟩, r5, g5, s5⟩
          have o5 := (o4.apart g5 (fun k hk => by injection hk; omega)).more g5.size
          have oA5 := oA4.apart g5 (fun k hk => by injection hk; omega)
          have gr5 := grown_trans gr4 g5
          have z5 := g5.size
          have S5 := hid s5
          clear o4 oA4 r4 gr4 g5 s5
          rcases o5.form with ⟨hnil, _⟩ | ⟨gf, cf, e5, gB, gC, gl, gm'⟩
          · have := hL.out; rw [hnil] at this; simp at this; omega
          injection e5 with e51 e52 e53
          subst e51 e53
          have cF := o5.cell (k := j) (by rw [hL.out]; exact hlt)
          have fF := o5.free j
          have o6 := o5.store j y
          have gst := grown_set (World.grownBy.refl w5 (some gf)) (i := j) (.int .i64 y)
          have oA6 := oA5.apart gst (fun k hk => by injection hk; omega)
          have r6 := r5.keep (w' := w5.setCell ⟨gf, j, none⟩ (.int .i64 y)) (fun b hb => Below.heap_setCell w5 ⟨gf, j, none⟩ _ b (by simp; omega))
          have gr6 := grown_own gr5 (row := some gf) (c := w5.setCell ⟨gf, j, none⟩ (.int .i64 y)) gst (fun i hi => by injection hi; omega)
          have i1 : (j : Int) < (o.length : Int) := by omega
          clear o5 oA5 r5 gr5 gst e52
          go_wp2
          go_roundw
          case rel => exact ⟨j + 1, _, _, by omega, by go_num, by omega, by show _ = _; rw [List.length_set]; exact hL.out, o6.fit (Nat.le_refl _) (by simp), oA6, r6, gr6, by rw [World.size_setCell]; omega⟩
          case measure => simp [intOf]; omega
        · have hb' : (x == 0) = false := by simpa using hx
          clear hx
          go_wp2_with fail
          go_roundw
          case rel => exact ⟨j + 1, _, _, by omega, by go_num, by omega, hL, o4, oA4, r4, gr4, by omega⟩
          case measure => simp [intOf]; omega
      · obtain rfl : j = o.length := by omega
        go_wp2_with fail
        refine (odd_c _ _ hr (by omega) (by omega) (by omega)).mono ?_
        rintro e w4 ⟨bo, rfl, r4, g4, s4⟩
        have o4 := (ho.apart g4 (fun k hk => by injection hk; omega)).more g4.size
        have oA4 := hoA.apart g4 (fun k hk => by injection hk; omega)
        have gr4 := grown_trans hgr g4
        have z4 := g4.size
        have S4 := hid s4
        clear ho hoA hr hgr g4 s4
        cases bo
        · go_wp2_with fail
          go_ret2
          exact ⟨_, _, _, _, rfl, oA4.fit (Nat.le_refl _) (by omega), o4.fit (by omega) (Nat.le_refl _), ⟨by omega, by rw [hL.out]; omega⟩, gr4⟩
        · go_wp2_with fail
          refine (l20Bits_c 20 12 _ r4 (by omega) (by omega) (by omega) (by omega)).mono ?_
          rintro e w5 ⟨v5, ws, rfl, o5, l5, _, r5, g5⟩
          have gr5 := grown_trans gr4 g5
          have oA5 := oA4.apart g5 (fun k hk => by injection hk; omega)
          have z5 := g5.size
          go_wp2_with fail
          go_ret2
          exact ⟨_, _, _, _, rfl, oA5.fit (Nat.le_refl _) (by omega), o5.fit (by omega) (Nat.le_refl _), ⟨by omega, by omega⟩, gr5⟩
  go_enter Tryd.func21, Tryd.ntmps21
  go_wp2_with fail
  refine H.out.mono ?_
  rintro e w1 ⟨rfl, r1, b1, l1⟩
  go_wp2_with fail
  refine (TW w1 r1).mono ?_
  rintro e w2 ⟨v, u, o, q, rfl, o2, q2, hl, g2⟩
  go_wp2_with fail
  go_ret2
  exact ⟨v, u, o, q, rfl, o2.fit (by omega) (Nat.le_refl _), q2.fit (by omega) (Nat.le_refl _), hl, b1.trans (below_of_grown g2 (Nat.le_refl _) l1)⟩

end Go.Proofs.YtnlacmbmmlmpjaaDoor
