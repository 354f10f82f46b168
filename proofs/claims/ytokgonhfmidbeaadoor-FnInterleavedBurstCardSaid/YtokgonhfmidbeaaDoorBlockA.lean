/-
  The block code: impl.appendNibble appends the word of four bits.
-/
import Derived.Test.YtokgonhfmidbeaaDoorBlockS
import Derived.Test.YtokgonhfmidbeaaDoorTabs
import Derived.Test.YtokgonhfmidbeaaDoorStep
import Derived.Laws.Rows
import Derived.BigRegion
namespace Go.Proofs.YtokgonhfmidbeaaDoor
open Go.RowKit

/-- a block of numbers -/
def Wrd (g : Nat) (w : World) (xs : List Int) : Prop := ∃ cs t, w.heap[g]? = some (.cells cs t (0, 0)) ∧ cs.toList = xs.map (Value.int .i64)
theorem Wrd.of {g : Nat} {w : World} {cs : Array Value} {t : TypeId} {xs : List Int} (h : w.heap[g]? = some (.cells cs t (0, 0))) (e : cs.toList = xs.map (Value.int .i64)) : Wrd g w xs := ⟨cs, t, h, e⟩
theorem Wrd.keep {g : Nat} {w w' : World} {xs : List Int} (h : Wrd g w xs) (e : w'.heap[g]? = w.heap[g]?) : Wrd g w' xs := by
  obtain ⟨cs, t, h1, h2⟩ := h
  exact ⟨cs, t, by rw [e, h1], h2⟩
theorem Wrd.cell {g : Nat} {w : World} {xs : List Int} (h : Wrd g w xs) {k : Nat} (hk : k < xs.length) : w.cell? ⟨g, k, none⟩ = some (.int .i64 (xs.getD k 0)) := by
  obtain ⟨cs, t, h1, h2⟩ := h
  rw [cell_of_row w g k _ _ _ h1, ← Array.getElem?_toList, h2, List.getElem?_map, List.getElem?_eq_getElem hk]
  simp [List.getD, hk]
theorem Wrd.free {g : Nat} {w : World} {xs : List Int} (h : Wrd g w xs) (k : Nat) : w.frozen? ⟨g, k, none⟩ = false := by
  obtain ⟨cs, t, h1, _⟩ := h
  exact frozen_of_row w g k _ _ h1
theorem Wrd.store {g : Nat} {w : World} {xs : List Int} (h : Wrd g w xs) (k : Nat) (y : Int) : Wrd g (w.setCell ⟨g, k, none⟩ (.int .i64 y)) (xs.set k y) := by
  obtain ⟨cs, t, h1, h2⟩ := h
  refine ⟨_, t, heap_setCell_same w g k _ _ _ h1, ?_⟩
  rw [Array.toList_setIfInBounds, h2, List.map_set]
theorem Wrd.lt {g : Nat} {w : World} {xs : List Int} (h : Wrd g w xs) : g < w.heap.size := by
  obtain ⟨cs, t, h1, _⟩ := h
  exact (Array.getElem?_eq_some_iff.1 h1).1
theorem Wrd.rd {g : Nat} {w : World} {xs : List Int} (h : Wrd g w xs) (hm : xs.length ≤ 4194304) : Rd w.heap.size w (.slice (some ⟨g, 0, none⟩) xs.length xs.length) xs :=
  ⟨_, _, _, rfl, rfl, Nat.le_refl _, by omega, hm, fun _ => ⟨g, 0, rfl, h.lt, fun i hi => by rw [Nat.zero_add]; exact h.cell hi⟩⟩
theorem set_at {w : World} {g k : Nat} {v : Value} (h : w.cell? ⟨g, k, none⟩ = some v) : True := trivial

/-- the word after k bits were laid at their places -/
def fw (a b c d : Int) (k : Nat) : List Int := [0, 0, if 0 < k then a else 0, 0, if 1 < k then b else 0, if 2 < k then c else 0, if 3 < k then d else 0]
/-- the mask's bit -/
def mk (k i : Nat) : Int := checkMasksL.getD (4 * k + i) 0
def ps (a b c d : Int) (k : Nat) : Nat → Int
  | 0 => 0
  | i + 1 => (ps a b c d k i + mk k i * [a, b, c, d].getD i 0) % 2
/-- the word while the sums are made -/
def wd (a b c d : Int) (k i : Nat) : List Int :=
  [if 0 < k then ps a b c d 0 4 else if k = 0 then ps a b c d 0 i else 0, if 1 < k then ps a b c d 1 4 else if k = 1 then ps a b c d 1 i else 0, a,
   if 2 < k then ps a b c d 2 4 else if k = 2 then ps a b c d 2 i else 0, b, c, d]
theorem fw_wd (a b c d : Int) : fw a b c d 4 = wd a b c d 0 0 := rfl
theorem wd_end (a b c d : Int) {k : Nat} (hk : k < 3) : wd a b c d k 4 = wd a b c d (k + 1) 0 := by
  rcases (by omega : k = 0 ∨ k = 1 ∨ k = 2) with rfl | rfl | rfl <;> rfl
theorem wd_cw {a b c d : Int} : wd a b c d 3 0 = cw a b c d := by
  show [ps a b c d 0 4, ps a b c d 1 4, a, ps a b c d 2 4, b, c, d] = _
  have e (k : Nat) : ps a b c d k 4 = ((((0 + mk k 0 * a) % 2 + mk k 1 * b) % 2 + mk k 2 * c) % 2 + mk k 3 * d) % 2 := rfl
  rw [e, e, e]
  have m0 : mk 0 0 = 1 ∧ mk 0 1 = 1 ∧ mk 0 2 = 0 ∧ mk 0 3 = 1 := ⟨rfl, rfl, rfl, rfl⟩
  have m1 : mk 1 0 = 1 ∧ mk 1 1 = 0 ∧ mk 1 2 = 1 ∧ mk 1 3 = 1 := ⟨rfl, rfl, rfl, rfl⟩
  have m2 : mk 2 0 = 0 ∧ mk 2 1 = 1 ∧ mk 2 2 = 1 ∧ mk 2 3 = 1 := ⟨rfl, rfl, rfl, rfl⟩
  rw [m0.1, m0.2.1, m0.2.2.1, m0.2.2.2, m1.1, m1.2.1, m1.2.2.1, m1.2.2.2, m2.1, m2.2.1, m2.2.2.1, m2.2.2.2]
  unfold cw
  congr 1
  · omega
  · congr 1
    · omega
    · congr 2
      omega
theorem ps_bit (a b c d : Int) (k : Nat) : ∀ i, ps a b c d k i = 0 ∨ ps a b c d k i = 1
  | 0 => .inl rfl
  | i + 1 => by rw [ps]; omega
theorem mk_bit : ∀ k < 3, ∀ i < 4, mk k i = 0 ∨ mk k i = 1 := by decide
theorem and_mul {m x : Int} (hm : m = 0 ∨ m = 1) (hx : x = 0 ∨ x = 1) : bits BinOp.and IntKind.i64 m x = m * x := by
  rcases hm with rfl | rfl <;> rcases hx with rfl | rfl <;> decide
theorem mul_bit {m x : Int} (hm : m = 0 ∨ m = 1) (hx : x = 0 ∨ x = 1) : m * x = 0 ∨ m * x = 1 := by
  rcases hm with rfl | rfl <;> rcases hx with rfl | rfl <;> decide
theorem xor_add {m x : Int} (hm : m = 0 ∨ m = 1) (hx : x = 0 ∨ x = 1) : bits BinOp.xor IntKind.i64 m x = (m + x) % 2 := by
  rcases hm with rfl | rfl <;> rcases hx with rfl | rfl <;> decide
theorem wd_at0 (a b c d : Int) (i : Nat) : (wd a b c d 0 i).getD 0 0 = ps a b c d 0 i := rfl
theorem wd_at1 (a b c d : Int) (i : Nat) : (wd a b c d 1 i).getD 1 0 = ps a b c d 1 i := rfl
theorem wd_at2 (a b c d : Int) (i : Nat) : (wd a b c d 2 i).getD 3 0 = ps a b c d 2 i := rfl
theorem wd_set0 (a b c d : Int) (i : Nat) : (wd a b c d 0 i).set 0 (ps a b c d 0 (i + 1)) = wd a b c d 0 (i + 1) := rfl
theorem wd_set1 (a b c d : Int) (i : Nat) : (wd a b c d 1 i).set 1 (ps a b c d 1 (i + 1)) = wd a b c d 1 (i + 1) := rfl
theorem wd_set2 (a b c d : Int) (i : Nat) : (wd a b c d 2 i).set 3 (ps a b c d 2 (i + 1)) = wd a b c d 2 (i + 1) := rfl

def pl (k : Nat) : Nat := (dataPlacesL.getD k 0).toNat
theorem pl_lt : ∀ k < 4, pl k < 7 := by decide
theorem fw_set {a b c d x : Int} {k : Nat} (hk : k < 4) (hx : [a, b, c, d].getD k 0 = x) : (fw a b c d k).set (pl k) x = fw a b c d (k + 1) := by
  rcases (by omega : k = 0 ∨ k = 1 ∨ k = 2 ∨ k = 3) with rfl | rfl | rfl | rfl <;> (subst hx; rfl)
theorem places_idx : ∀ k < 4, ∀ w, (Instr.index 46 (.agg #[.int .i64 2, .int .i64 4, .int .i64 5, .int .i64 6]) (.int .i64 (k : Nat))).run Tryd.prog w = .ok (.int .i64 (pl k : Nat)) w := by
  intro k hk
  rcases (by omega : k = 0 ∨ k = 1 ∨ k = 2 ∨ k = 3) with rfl | rfl | rfl | rfl <;> intro w <;> kernel_rfl
theorem masks_idx : ∀ k < 3, ∀ w, (Instr.index 47 (.agg #[.int .i64 1, .int .i64 1, .int .i64 0, .int .i64 1, .int .i64 1, .int .i64 0, .int .i64 1, .int .i64 1, .int .i64 0, .int .i64 1, .int .i64 1, .int .i64 1]) (.int .i64 (k : Nat))).run Tryd.prog w = .ok (.agg #[.int .i64 (mk k 0), .int .i64 (mk k 1), .int .i64 (mk k 2), .int .i64 (mk k 3)]) w := by
  intro k hk
  rcases (by omega : k = 0 ∨ k = 1 ∨ k = 2) with rfl | rfl | rfl <;> intro w <;> kernel_rfl
theorem mask_idx (x y z u : Int) : ∀ i < 4, ∀ w, (Instr.index 46 (.agg #[.int .i64 x, .int .i64 y, .int .i64 z, .int .i64 u]) (.int .i64 (i : Nat))).run Tryd.prog w = .ok (.int .i64 ([x, y, z, u].getD i 0)) w := by
  intro k hk
  rcases (by omega : k = 0 ∨ k = 1 ∨ k = 2 ∨ k = 3) with rfl | rfl | rfl | rfl <;> intro w <;> kernel_rfl

theorem wd_at (a b c d : Int) {k j : Nat} (hk : k < 3) : (wd a b c d k j).getD (2 ^ k - 1) 0 = ps a b c d k j := by
  rcases (by omega : k = 0 ∨ k = 1 ∨ k = 2) with rfl | rfl | rfl <;> rfl
theorem wd_set (a b c d : Int) {k j : Nat} (hk : k < 3) : (wd a b c d k j).set (2 ^ k - 1) (ps a b c d k (j + 1)) = wd a b c d k (j + 1) := by
  rcases (by omega : k = 0 ∨ k = 1 ∨ k = 2) with rfl | rfl | rfl <;> rfl

theorem sh_two {k P : Nat} (h : 2 ^ k = P + 1) (hP : P < 8) : IntKind.i64.wrap (2 ^ k) = (P : Int) + 1 := by
  have e : (2 : Int) ^ k = ((2 ^ k : Nat) : Int) := by simp
  rw [e, h]
  exact IntWalk.i64_in _ (by omega)

set_option maxHeartbeats 4000000 in
theorem appendNibble_c {B C D : Nat} {v u : Value} {ws : List Int} {a b c d : Int} (w : World) (ho : Own B C w v ws) (hC : C ≤ w.heap.size) (hB : B ≤ w.heap.size)
    (h : Rd D w u [a, b, c, d]) (hD : D ≤ w.heap.size) (ha : a = 0 ∨ a = 1) (hb : b = 0 ∨ b = 1) (hc : c = 0 ∨ c = 1) (hd : d = 0 ∨ d = 1) (hl : ws.length ≤ 4000000) (T1 : TdataPlaces w) (T2 : TcheckMasks w) :
    Calls Tryd.prog 17 #[v, u] w fun e w' => ∃ v', e = .returned v' ∧ Own B w'.heap.size w' v' (ws ++ cw a b c d) ∧ Below B w w' := by
  obtain ⟨A, n, cap, rfl, h1⟩ := h
  obtain rfl : n = 4 := by rw [← h1.len]; rfl
  have l1 := T1.lt
  have l2 := T2.lt
  obtain ⟨tt1, fr1, hrow1⟩ := T1
  have HR1 : Hid (w.heap[0]? = some (.cells #[.int .i64 2, .int .i64 4, .int .i64 5, .int .i64 6] tt1 fr1)) := hrow1
  obtain ⟨tt2, fr2, hrow2⟩ := T2
  have HR2 : Hid (w.heap[1]? = some (.cells #[.int .i64 1, .int .i64 1, .int .i64 0, .int .i64 1, .int .i64 1, .int .i64 0, .int .i64 1, .int .i64 1, .int .i64 0, .int .i64 1, .int .i64 1, .int .i64 1] tt2 fr2)) := hrow2
  clear hrow1 hrow2
  have bW := (Below.refl w.heap.size w).alloc (Nat.le_refl _) (.cells #[.int .i64 0, .int .i64 0, .int .i64 0, .int .i64 0, .int .i64 0, .int .i64 0, .int .i64 0] 45)
  have hW := Wrd.of (xs := fw a b c d 0) (heap_alloc_new w (.cells #[.int .i64 0, .int .i64 0, .int .i64 0, .int .i64 0, .int .i64 0, .int .i64 0, .int .i64 0] 45)) rfl
  have HW1 := hid ((bW.block _ l1).trans HR1.out)
  go_enter Tryd.func17, Tryd.ntmps17
  go_wp2_with (refine wpList_load_row rfl 46 (.global 0) rfl 0 rfl tt1 _ fr1 _ HW1.out Tryd.underlying46 rfl (by kernel_rfl) ?_)
  go_loopw [6, 7, 13] (fun _ _ i wr => ∃ k : Nat, k ≤ 4 ∧ i = .int .i64 k ∧ Wrd w.heap.size wr (fw a b c d k) ∧ Below w.heap.size w wr) (fun _ _ i _ => 4 - (intOf i).toNat)
  case atStart => exact ⟨0, by omega, rfl, hW, bW⟩
  case round =>
    obtain ⟨k, hk, rfl, hw, hbw⟩ := hrel
    clear hW bW HW1
    by_cases hlt : k < 4
    · obtain ⟨bk, off, x, hA, hbk, c0, hx⟩ := h1.at_ hlt
      subst hA
      have q0 := hbw.cell (p := ⟨bk, off + k, none⟩) (by simp; omega)
      rw [c0] at q0
      have ix := places_idx k hlt
      have p7 := pl_lt k hlt
      have z1 := hw.cell (k := pl k) p7
      have z2 := hw.free (pl k)
      have z3 := hw.store (pl k) x
      rw [fw_set hlt hx.out] at z3
      have z4 := hbw.setCell (p := ⟨w.heap.size, pl k, none⟩) (Nat.le_refl _) (.int .i64 x)
      generalize pl k = P at *
      have i7 : (P : Int) < 7 := by omega
      clear hw hbw c0 ho h1 ha hb hc hd
      go_wp2
      go_roundw
      case rel => exact ⟨k + 1, by omega, by go_num, z3, z4⟩
      case measure => simp [intOf]; omega
    · obtain rfl : k = 4 := by omega
      rw [fw_wd] at hw
      have HW2 := hid ((hbw.block _ l2).trans HR2.out)
      have BW := hid hbw
      clear hbw hlt
      go_wp2_with (refine wpList_load_row rfl 47 (.global 1) rfl 1 rfl tt2 _ fr2 _ HW2.out Tryd.underlying47 rfl (by kernel_rfl) ?_)
      clear HW2
      go_loopw [8, 9, 10, 11, 25] (fun _ _ _ _ i wr => ∃ k : Nat, k ≤ 3 ∧ i = .int .i64 k ∧ Wrd w.heap.size wr (wd a b c d k 0) ∧ Below w.heap.size w wr) (fun _ _ _ _ i _ => 3 - (intOf i).toNat)
      case atStart => exact ⟨0, by omega, rfl, hw, BW.out⟩
      case round =>
        obtain ⟨k, hk, rfl, hw, hbw⟩ := hrel
        clear BW
        by_cases hlt : k < 3
        · have ix := masks_idx k hlt
          have HMB := hid (fun i hi => mk_bit k hlt i hi)
          obtain ⟨M0, e0⟩ : ∃ x, mk k 0 = x := ⟨_, rfl⟩
          obtain ⟨M1, e1⟩ : ∃ x, mk k 1 = x := ⟨_, rfl⟩
          obtain ⟨M2, e2⟩ : ∃ x, mk k 2 = x := ⟨_, rfl⟩
          obtain ⟨M3, e3⟩ : ∃ x, mk k 3 = x := ⟨_, rfl⟩
          rw [e0, e1, e2, e3] at ix
          have HM : Hid (∀ i, i < 4 → [M0, M1, M2, M3].getD i 0 = mk k i) := by
            intro i hi
            rw [← e0, ← e1, ← e2, ← e3]
            rcases (by omega : i = 0 ∨ i = 1 ∨ i = 2 ∨ i = 3) with rfl | rfl | rfl | rfl <;> rfl
          clear e0 e1 e2 e3
          have hal := (Below.refl wr.heap.size wr).alloc (Nat.le_refl _) (.cells #[.int .i64 M0, .int .i64 M1, .int .i64 M2, .int .i64 M3] 46)
          have hW := hw.keep (hal.block _ hw.lt)
          have hB := hbw.trans (hal.mono (hbw.size))
          clear hal hw
          go_wp2_with fail
          generalize wr.alloc (.cells #[.int .i64 M0, .int .i64 M1, .int .i64 M2, .int .i64 M3] 46) = wa at *
          go_loopw [10, 11, 30] (fun _ _ i wr => ∃ j : Nat, j ≤ 4 ∧ i = .int .i64 j ∧ Wrd w.heap.size wr (wd a b c d k j) ∧ Below w.heap.size w wr) (fun _ _ i _ => 4 - (intOf i).toNat)
          case atStart => exact ⟨0, by omega, rfl, hW, hB⟩
          case round =>
            obtain ⟨j, hj, rfl, hw, hbw⟩ := hrel
            clear hW hB ix
            by_cases hlj : j < 4
            · have ix := mask_idx M0 M1 M2 M3 j hlj
              rw [HM.out j hlj] at ix
              obtain ⟨bk, off, x, hA, hbk, c0, hx⟩ := h1.at_ hlj
              subst hA
              have q0 := hbw.cell (p := ⟨bk, off + j, none⟩) (by simp; omega)
              rw [c0] at q0
              have hxb : x = 0 ∨ x = 1 := by
                rw [← hx.out]
                rcases (by omega : j = 0 ∨ j = 1 ∨ j = 2 ∨ j = 3) with rfl | rfl | rfl | rfl
                · exact ha
                · exact hb
                · exact hc
                · exact hd
              have hmb := HMB.out j hlj
              have hpb := ps_bit a b c d k j
              have x1 := and_mul hmb hxb
              have x2 := xor_add hpb (mul_bit hmb hxb)
              have hps : ps a b c d k (j + 1) = (ps a b c d k j + mk k j * x) % 2 := by rw [ps, hx.out]
              obtain ⟨P, hP, hP7, hPk⟩ : ∃ P, P = 2 ^ k - 1 ∧ P < 7 ∧ 2 ^ k = P + 1 := ⟨_, rfl, by rcases (by omega : k = 0 ∨ k = 1 ∨ k = 2) with rfl | rfl | rfl <;> decide, by rcases (by omega : k = 0 ∨ k = 1 ∨ k = 2) with rfl | rfl | rfl <;> decide⟩
              have z1 := hw.cell (k := P) hP7
              have z2 := hw.free P
              have z3 := hw.store P (ps a b c d k (j + 1))
              rw [hP] at z1 z3
              rw [wd_at a b c d hlt] at z1
              rw [wd_set a b c d hlt] at z3
              rw [← hP] at z1 z3
              rw [hps] at z3
              rw [← x2, ← x1] at z3
              have z4 := hbw.setCell (p := ⟨w.heap.size, P, none⟩) (Nat.le_refl _) (.int .i64 (bits BinOp.xor IntKind.i64 (ps a b c d k j) (bits BinOp.and IntKind.i64 (mk k j) x)))
              clear x1 x2
              have HPS := hid hps
              generalize ps a b c d k j = V at *
              generalize mk k j = m at *
              clear hw hbw c0 hps
              go_wp2_with fail
              have sh1 : ¬ ((k : Int) < 0) := by omega
              have sh0 : min k 64 = k := by omega
              have sh2 : IntKind.i64.wrap (2 ^ k) = (P : Int) + 1 := sh_two hPk (by omega)
              have sh3 : IntKind.i64.wrap ((P : Int) + 1 - 1) = (P : Int) := by rw [Int.add_sub_cancel]; exact IntWalk.i64_in _ (by omega)
              have i7 : (P : Int) < 7 := by omega
              have i4 : (j : Int) < 4 := by omega
              clear hPk hP
              go_region
              go_wp2
              go_roundw
              case rel => exact ⟨j + 1, by omega, by go_num, z3.keep rfl, below_drewN z4 1⟩
              case measure => simp [intOf]; omega
            · obtain rfl : j = 4 := by omega
              rw [wd_end a b c d hlt] at hw
              go_wp2
              go_roundw
              case rel => exact ⟨k + 1, by omega, by go_num, hw, hbw⟩
              case measure => simp [intOf]; omega
        · obtain rfl : k = 3 := by omega
          rw [wd_cw] at hw
          have hr := hw.rd (by simp [cw])
          have ho2 := ho.below hbw hC
          have hbB := hbw.mono hB
          have hsz := hbw.size
          have hl7 := hid (show (cw a b c d).length = 7 from rfl)
          have hr : Rd wr.heap.size wr (.slice (some ⟨w.heap.size, 0, none⟩) 7 7) (cw a b c d) := hr
          clear hw hbw ho h1 ha hb hc hd
          obtain ⟨ys, hys⟩ : ∃ ys, cw a b c d = ys := ⟨_, rfl⟩
          rw [hys] at hr hl7
          have HY := hid hys
          clear hys
          go_wp2_with (at_builtin; refine wpl_append intSl _ rfl (.tmp 49) (.tmp 50) rfl B _ wr.heap.size _ _ _ _ rfl rfl ho2 hr (by rw [hl7.out]; omega) (by omega) ?_; intro v3 w3 o3 g3 _)
          have hb3 := hbB.trans (below_of_own ho2 g3 (Nat.le_refl _) (by omega))
          clear ho2 hbB g3
          go_wp2
          go_ret
          exact ⟨v3, rfl, by rw [HY.out]; exact o3, hb3⟩

end Go.Proofs.YtokgonhfmidbeaaDoor
