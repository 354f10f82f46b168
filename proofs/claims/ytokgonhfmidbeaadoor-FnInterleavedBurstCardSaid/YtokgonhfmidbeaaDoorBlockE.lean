/-
  The block code: spec.EncodeBlocks.
-/
import Derived.Test.YtokgonhfmidbeaaDoorBlockN
import Derived.Test.YtokgonhfmidbeaaDoorStep
import Derived.Test.YtokgonhfmidbeaaDoorDraw
namespace Go.Proofs.YtokgonhfmidbeaaDoor
open Go.RowKit

set_option maxHeartbeats 2000000 in
theorem specEncB_c {C : Nat} {v : Value} {xs : List Int} (w : World) (h : Rd C w v xs) (hC : C ≤ w.heap.size) (hok : blOk xs = true) :
    Calls Tryd.prog 7 #[v] w fun e w' => ∃ v', e = .returned v' ∧ Own w.heap.size w'.heap.size w' v' (encB xs) ∧ Below w.heap.size w w' := by
  obtain ⟨hb, h4, h512⟩ := blOk_iff.1 hok
  have hE := Own.empty w
  have bE := (Below.refl w.heap.size w).alloc (Nat.le_refl _) (.cells #[] 3)
  have SB := specBits_c (w.alloc (.cells #[] 3)) (h.below bE hC)
  rw [hb] at SB
  have SB := hid SB
  have HR := hid (encB_yes hok)
  obtain ⟨G, hG⟩ : ∃ G, xs.length / 4 = G := ⟨_, rfl⟩
  rw [hG] at HR
  obtain ⟨A, n, c, rfl, h1⟩ := h
  have hn : n = 4 * G := by rw [← h1.len]; omega
  subst hn
  have hle := h1.le
  have hcap := h1.cap
  have G128 : G ≤ 128 := by have := h1.len; omega
  have e4 : ((4 * G : Nat) : Int) = 4 * (G : Int) := by omega
  have t4 : Int.tmod (4 * (G : Int)) 4 = 0 := by have := tmod_nat (4 * G) 4; rw [show 4 * G % 4 = 0 by omega] at this; rw [← e4]; exact this
  clear hok hG h4
  go_enter Tryd.func7, Tryd.ntmps7
  go_wp2_with fail
  refine SB.out.mono ?_
  rintro e w' ⟨rfl, rfl⟩
  go_wp2_with fail
  go_loopw [3, 4] (fun o i wr => ∃ g : Nat, g ≤ G ∧ i = .int .i64 ((4 * g : Nat) : Int) ∧ Own w.heap.size wr.heap.size wr o (encTo xs g) ∧ Below w.heap.size w wr) (fun _ i _ => 4 * G - (intOf i).toNat)
  case atStart => exact ⟨0, by omega, rfl, hE.more (by simp), bE⟩
  case round =>
    obtain ⟨g, hg, rfl, ho, hbw⟩ := hrel
    clear hE bE
    have hsz := hbw.size
    by_cases hlt : g < G
    · obtain ⟨K, hK⟩ : ∃ K, 4 * g = K := ⟨_, rfl⟩
      rw [hK]
      have HK := hid hK
      have hbits := fun k => bitsOk_at hb k
      have hf := (h1.from (k := K) (by omega)).below hbw hC
      have hq : RdA C wr _ 4 (c - K) ((xs.drop K).take 4) := hf.till (k := 4) (by omega)
      rw [if_neg (show ¬ c = K by omega)] at hq
      have hlist : (xs.drop K).take 4 = [xs.getD K 0, xs.getD (K + 1) 0, xs.getD (K + 2) 0, xs.getD (K + 3) 0] := by
        have hl := h1.len
        refine list_ext_getD (by simp; omega) fun i hi => ?_
        have hi4 : i < 4 := by simp at hi; omega
        rcases (by omega : i = 0 ∨ i = 1 ∨ i = 2 ∨ i = 3) with rfl | rfl | rfl | rfl <;> simp [List.getD_eq_getElem?_getD, List.getElem?_take, List.getElem?_drop]
      rw [hlist] at hq
      have hnext : Hid (encTo xs (g + 1) = encTo xs g ++ cw (xs.getD K 0) (xs.getD (K + 1) 0) (xs.getD (K + 2) 0) (xs.getD (K + 3) 0)) := by show _ = _; rw [encTo, cwAt, hK]
      have NB := hid (fun (V : World) (hv : Below w.heap.size w V) (r : Rd C V (.slice (A.map (·.add K)) 4 (c - K)) [xs.getD K 0, xs.getD (K + 1) 0, xs.getD (K + 2) 0, xs.getD (K + 3) 0]) => specNib_c V r (by have := hv.size; omega) (hbits K) (hbits (K + 1)) (hbits (K + 2)) (hbits (K + 3)))
      have RQ := hid (show Rd C wr (.slice (A.map (·.add K)) 4 (c - K)) [xs.getD K 0, xs.getD (K + 1) 0, xs.getD (K + 2) 0, xs.getD (K + 3) 0] from ⟨_, _, _, rfl, hq⟩)
      have i1 : (K : Int) < 4 * (G : Int) := by omega
      have i2 : (K : Int) + 4 ≤ (c : Int) := by omega
      have i3 : (0 : Int) ≤ (K : Int) := by omega
      have i4 : K + 4 ≤ c := by omega
      have i5 : ¬ c = K := by omega
      have hl7 := hid (encTo_length xs g)
      clear hf hq hlist hbits hb
      cases A with
      | none => exact absurd RQ.out (by rintro ⟨A', n', c', hv, q⟩; injection hv with h1' h2' h3'; subst h1' h2' h3'; obtain ⟨b, off, ha, _⟩ := q.cells (by omega); cases ha)
      | some AA =>
        simp only [Option.map_some] at NB RQ
        go_wp2_with fail
        refine (NB.out wr hbw RQ.out).mono ?_
        rintro e w2 ⟨v2, rfl, O2, b2⟩
        have t2 := b2.size
        have ho2 := ho.below b2 (Nat.le_refl _)
        have hb2 := hbw.trans (b2.mono hsz)
        clear NB RQ ho hbw b2
        go_wp2_with (at_builtin; refine wpl_append intSl _ rfl (.tmp 27) (.tmp 33) rfl w.heap.size _ w2.heap.size _ _ _ _ rfl rfl ho2 O2.rd (by rw [hl7.out]; simp [cw]; omega) (by omega) ?_; intro v3 w3 o3 g3 _)
        rw [← hnext.out] at o3
        have hb3 := hb2.trans (below_of_own ho2 g3 (Nat.le_refl _) (by omega))
        clear ho2 O2 g3 hb2
        go_wp2
        go_roundw
        case rel => exact ⟨g + 1, by omega, by have := HK.out; go_num, o3, hb3⟩
        case measure => have := HK.out; simp [intOf]; omega
    · obtain rfl : g = G := by omega
      go_wp2
      go_ret
      exact ⟨_, rfl, by rw [HR.out]; exact ho, hbw⟩

end Go.Proofs.YtokgonhfmidbeaaDoor
