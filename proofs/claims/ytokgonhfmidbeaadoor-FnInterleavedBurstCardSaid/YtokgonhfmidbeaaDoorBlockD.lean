/-
  The block code: impl.DecodeBlocks, of a list whose every word has one inverted bit.
-/
import Derived.Test.YtokgonhfmidbeaaDoorBlockI
namespace Go.Proofs.YtokgonhfmidbeaaDoor
open Go.RowKit

/-- the data bit j of a word whose place p is inverted -/
def dv (ws : List Int) (p j : Nat) : Int := if pl j = p then 1 - ws.getD (pl j) 0 else ws.getD (pl j) 0
def dn (ws : List Int) (p : Nat) : Nat → List Int
  | 0 => []
  | j + 1 => dn ws p j ++ [dv ws p j]
theorem dn_length (ws : List Int) (p : Nat) : ∀ j, (dn ws p j).length = j
  | 0 => rfl
  | j + 1 => by rw [dn, List.length_append, dn_length ws p j]; rfl
theorem dn_inv (a b c d : Int) {p : Nat} (hp : p < 7) : dn (inv1 (cw a b c d) p) p 4 = [a, b, c, d] := by
  rcases (by omega : p = 0 ∨ p = 1 ∨ p = 2 ∨ p = 3 ∨ p = 4 ∨ p = 5 ∨ p = 6) with rfl | rfl | rfl | rfl | rfl | rfl | rfl <;>
    simp [dn, dv, inv1, cw, pl, dataPlacesL] <;> omega

set_option maxHeartbeats 2000000 in
theorem appendDecoded_c {B C D : Nat} {v u : Value} {os ws : List Int} {p : Nat} (w : World) (ho : Own B C w v os) (hC : C ≤ w.heap.size) (hB : B ≤ w.heap.size)
    (h : Rd D w u ws) (hD : D ≤ B) (hl : ws.length = 7) (hb : ∀ k, ws.getD k 0 = 0 ∨ ws.getD k 0 = 1) (hs : synTo ws 7 = p + 1) (hp : p < 7) (hol : os.length ≤ 4000000) (T1 : TdataPlaces w) :
    Calls Tryd.prog 23 #[v, u] w fun e w' => ∃ v', e = .returned (.tuple #[v', .int .i64 1]) ∧ Own B w'.heap.size w' v' (os ++ dn ws p 4) ∧ Below B w w' := by
  have SY := syndrome_c w h hl hb
  rw [hs] at SY
  have SY := hid SY
  obtain ⟨A, n, cap, rfl, h1⟩ := h
  obtain rfl : n = 7 := by rw [← h1.len]; exact hl
  have hle := h1.le
  have l1 := T1.lt
  obtain ⟨tt1, fr1, hrow1⟩ := T1
  have HR1 : Hid (w.heap[0]? = some (.cells #[.int .i64 2, .int .i64 4, .int .i64 5, .int .i64 6] tt1 fr1)) := hrow1
  have n1 : (((p + 1 : Nat) : Int) != 0) = true := by simp; omega
  have ho := ho.more hC
  clear hrow1 hs hl
  go_enter Tryd.func23, Tryd.ntmps23
  go_wp2_with fail
  refine SY.out.mono ?_
  rintro e w' ⟨rfl, rfl⟩
  go_wp2_with (refine wpList_load_row rfl 46 (.global 0) rfl 0 rfl tt1 _ fr1 _ HR1.out Tryd.underlying46 rfl (by kernel_rfl) ?_)
  clear HR1 SY
  go_loopw [0, 9, 10, 16] (fun o _ _ i wr => ∃ j : Nat, j ≤ 4 ∧ i = .int .i64 j ∧ Own B wr.heap.size wr o (os ++ dn ws p j) ∧ Below B w wr) (fun _ _ _ i _ => 4 - (intOf i).toNat)
  case atStart => exact ⟨0, by omega, rfl, by rw [dn, List.append_nil]; exact ho, Below.refl _ _⟩
  case round =>
    obtain ⟨j, hj, rfl, ho, hbw⟩ := hrel
    have hsz := hbw.size
    by_cases hlt : j < 4
    · have p7 := pl_lt j hlt
      obtain ⟨bk, off, x, hA, hbk, c0, hx⟩ := h1.at_ p7
      subst hA
      have q0 := hbw.cell (p := ⟨bk, off + pl j, none⟩) (by simp; omega)
      rw [c0] at q0
      have ix := places_idx j hlt
      have hnext : Hid (os ++ dn ws p (j + 1) = (os ++ dn ws p j) ++ [dv ws p j]) := by show _ = _; rw [dn, List.append_assoc]
      have hlen := hid (dn_length ws p j)
      have hxb := hb (pl j)
      rw [hx.out] at hxb
      have hdv : dv ws p j = if pl j = p then 1 - x else x := by rw [dv, hx.out]
      generalize hY : dv ws p j = y at *
      generalize pl j = P at *
      have i7 : (P : Int) < 7 := by omega
      have w1 : IntKind.i64.wrap ((P : Int) + 1) = (P : Int) + 1 := IntWalk.i64_in _ (by omega)
      clear c0 h1 hb hY
      by_cases e : P = p
      · subst e
        rw [if_pos rfl] at hdv
        subst hdv
        go_wp2_with (at_builtin; refine wpl_appl intSl _ rfl (.tmp 29) (.tmp 31) rfl B wr.heap.size _ _ _ [1 - x] 1 rfl rfl rfl rfl ho (Nat.le_refl _) (by rw [List.length_append, hlen.out]; omega) (by omega) ?_; intro v' w6 o6 g6)
        have hb6 := hbw.trans (below_of_own ho g6 (Nat.le_refl _) (by omega))
        rw [← hnext.out] at o6
        clear ho hbw g6
        go_wp2
        go_roundw
        case rel => exact ⟨j + 1, by omega, by go_num, o6, hb6⟩
        case measure => simp [intOf]; omega
      · rw [if_neg e] at hdv
        subst hdv
        have n2 : ((P : Int) == (p : Int)) = false := by simp; omega
        have n3 : ((P : Int) + 1 == ((p + 1 : Nat) : Int)) = false := by simp; omega
        have n4 : ((P : Int) + 1 == (p : Int) + 1) = false := by simp; omega
        clear e
        go_wp2_with (at_builtin; refine wpl_appl intSl _ rfl (.tmp 29) (.tmp 31) rfl B wr.heap.size _ _ _ [y] 1 rfl rfl rfl rfl ho (Nat.le_refl _) (by rw [List.length_append, hlen.out]; omega) (by omega) ?_; intro v' w6 o6 g6)
        have hb6 := hbw.trans (below_of_own ho g6 (Nat.le_refl _) (by omega))
        rw [← hnext.out] at o6
        clear ho hbw g6
        go_wp2
        go_roundw
        case rel => exact ⟨j + 1, by omega, by go_num, o6, hb6⟩
        case measure => simp [intOf]; omega
    · obtain rfl : j = 4 := by omega
      go_wp2
      go_ret2
      exact ⟨_, rfl, ho, hbw⟩

/-- the words of zs are the code words of xs, one place inverted in each -/
def Hurt (xs zs : List Int) (G : Nat) : Prop := ∀ g, g < G → ∃ p, p < 7 ∧ (zs.drop (7 * g)).take 7 = inv1 (cwAt xs g) p
def tk (xs : List Int) (k : Nat) : List Int := rg k fun i => xs.getD i 0
theorem tk_all (xs : List Int) : tk xs xs.length = xs := rg_self xs
theorem tk_four (xs : List Int) (k : Nat) : tk xs (k + 4) = tk xs k ++ [xs.getD k 0, xs.getD (k + 1) 0, xs.getD (k + 2) 0, xs.getD (k + 3) 0] := by
  unfold tk
  rw [← rg_snoc (k + 3), ← rg_snoc (k + 2), ← rg_snoc (k + 1), ← rg_snoc k]
  simp
theorem inv_bit {ws : List Int} (h : ∀ k, ws.getD k 0 = 0 ∨ ws.getD k 0 = 1) (p : Nat) : ∀ k, (inv1 ws p).getD k 0 = 0 ∨ (inv1 ws p).getD k 0 = 1 := by
  intro k
  have h1 := h k
  have h2 := h p
  unfold inv1
  simp only [List.getD_eq_getElem?_getD, List.getElem?_set] at *
  split
  · split
    · simp; omega
    · simp
  · exact h1
theorem cw_getD {a b c d : Int} (ha : a = 0 ∨ a = 1) (hb : b = 0 ∨ b = 1) (hc : c = 0 ∨ c = 1) (hd : d = 0 ∨ d = 1) (k : Nat) : (cw a b c d).getD k 0 = 0 ∨ (cw a b c d).getD k 0 = 1 := by
  by_cases hk : k < (cw a b c d).length
  · exact cw_bit ha hb hc hd _ (mem_getD hk)
  · simp [List.getD, List.getElem?_eq_none (by omega : (cw a b c d).length ≤ k)]

set_option maxHeartbeats 2000000 in
theorem DecodeBlocks_c {C : Nat} {v : Value} {xs zs : List Int} {G : Nat} (w : World) (T1 : TdataPlaces w) (h : Rd C w v zs) (hC : C ≤ w.heap.size)
    (hx : bitsOk xs = true) (hxl : xs.length = 4 * G) (hz : bitsOk zs = true) (hzl : zs.length = 7 * G) (hG : G ≤ 128) (hh : Hurt xs zs G) :
    Calls Tryd.prog 10 #[v] w fun e w' => ∃ v', e = .returned (.tuple #[v', .int .i64 G]) ∧ Own w.heap.size w'.heap.size w' v' xs ∧ Below w.heap.size w w' := by
  have Q := implBits_c w h
  rw [hz] at Q
  have Q := hid Q
  obtain ⟨A, n, c, rfl, h1⟩ := h
  obtain rfl : n = 7 * G := by rw [← h1.len]; exact hzl
  have hle := h1.le
  have hcap := h1.cap
  have e4 : ((7 * G : Nat) : Int) = 7 * (G : Int) := by omega
  have t4 : Int.tmod (7 * (G : Int)) 7 = 0 := by have := tmod_nat (7 * G) 7; rw [show 7 * G % 7 = 0 by omega] at this; rw [← e4]; exact this
  have d4 : Int.tdiv (7 * (G : Int)) 7 = (G : Int) := by have := tdiv_nat (7 * G) 7; rw [show 7 * G / 7 = G by omega] at this; rw [← e4]; exact this
  have l1 := T1.lt
  have HH := hid hh
  have HZL := hid hzl
  have HXL := hid hxl
  clear hh hz hzl hxl
  go_enter Tryd.func10, Tryd.ntmps10
  go_wp2_with fail
  refine Q.out.mono ?_
  rintro e w' ⟨rfl, rfl⟩
  go_wp2_with (refine wpl_make0 intSl _ rfl (.const (.int .i64 0)) (.tmp 25) rfl _ (G * 4) rfl rfl (by omega) (by omega) ?_; intro w1 hE bE hlt1)
  go_loopw [4, 5, 6, 7, 33] (fun o nn i _ _ wr => ∃ g : Nat, g ≤ G ∧ i = .int .i64 ((7 * g : Nat) : Int) ∧ nn = .int .i64 g ∧ Own w.heap.size wr.heap.size wr o (tk xs (4 * g)) ∧ Below w.heap.size w wr) (fun _ _ i _ _ _ => 7 * G - (intOf i).toNat)
  case atStart => exact ⟨0, by omega, rfl, rfl, hE, bE⟩
  case round =>
    obtain ⟨g, hg, rfl, rfl, ho, hbw⟩ := hrel
    clear hE bE
    have hsz := hbw.size
    by_cases hlt : g < G
    · obtain ⟨p, hp, hcut⟩ := HH.out g hlt
      obtain ⟨K, hK⟩ : ∃ K, 7 * g = K := ⟨_, rfl⟩
      rw [hK] at hcut
      rw [hK]
      have HK := hid hK
      have hf := (h1.from (k := K) (by omega)).below hbw hC
      have hq : RdA C wr _ 7 (c - K) ((zs.drop K).take 7) := hf.till (k := 7) (by omega)
      rw [if_neg (show ¬ c = K by omega), hcut] at hq
      have b0 := bitsOk_at hx (4 * g)
      have b1 := bitsOk_at hx (4 * g + 1)
      have b2 := bitsOk_at hx (4 * g + 2)
      have b3 := bitsOk_at hx (4 * g + 3)
      have hnext : Hid (tk xs (4 * (g + 1)) = tk xs (4 * g) ++ dn (inv1 (cwAt xs g) p) p 4) := by
        show _ = _
        rw [cwAt, dn_inv _ _ _ _ hp, ← tk_four]
        congr 1
      have hll : (tk xs (4 * g)).length = 4 * g := rg_length _ _
      have RQ := hid (show Rd C wr (.slice (A.map (·.add K)) 7 (c - K)) (inv1 (cwAt xs g) p) from ⟨_, _, _, rfl, hq⟩)
      have NB := hid (appendDecoded_c wr ho (Nat.le_refl _) hsz RQ.out hC (by rw [inv1, List.length_set]; rfl) (inv_bit (fun k => cw_getD b0 b1 b2 b3 k) p) (syn_inv b0 b1 b2 b3 hp) hp (by rw [hll]; omega) (T1.below hbw l1))
      have i1 : (K : Int) < 7 * (G : Int) := by omega
      have i2 : (K : Int) + 7 ≤ (c : Int) := by omega
      have i3 : (0 : Int) ≤ (K : Int) := by omega
      have i4 : K + 7 ≤ c := by omega
      have i5 : ¬ c = K := by omega
      clear hf hq b0 b1 b2 b3 ho hll hcut
      cases A with
      | none => exact absurd RQ.out (by rintro ⟨A', n', c', hv, q⟩; injection hv with h1' h2' h3'; subst h1' h2' h3'; obtain ⟨b, off, ha, _⟩ := q.cells (by omega); cases ha)
      | some AA =>
        simp only [Option.map_some] at NB RQ
        go_wp2_with fail
        refine NB.out.mono ?_
        rintro e w2 ⟨v2, rfl, O2, b2⟩
        rw [← hnext.out] at O2
        have hb2 := hbw.trans b2
        clear NB RQ hbw b2
        go_wp2
        go_roundw
        case rel => exact ⟨g + 1, by omega, by have := HK.out; go_num, by go_num, O2, hb2⟩
        case measure => have := HK.out; simp [intOf]; omega
    · obtain rfl : g = G := by omega
      go_wp2
      go_ret2
      rw [← HXL.out, tk_all] at ho
      exact ⟨_, rfl, ho, hbw⟩

end Go.Proofs.YtokgonhfmidbeaaDoor
