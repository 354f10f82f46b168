/-
  Decoding a stream and counting its errors, the program's way.
-/
import Derived.Test.YtnlacmbmmlmpjaaDoorSurv
import Derived.Test.YtnlacmbmmlmpjaaDoorDrawStream
namespace Go.Proofs.YtnlacmbmmlmpjaaDoor
open Go.RowKit T

/-- what the two functions are -/
def decS (xs : List Int) : List Int := if lOk xs = true then bst (gx xs) (xs.length / 2 - 2) else []
def errS (xs : List Int) : Int := if lOk xs = true then T.cost (gx xs) (way (bst (gx xs) (xs.length / 2 - 2))) else -1
theorem decS_yes {xs : List Int} {n : Nat} (h : lOk xs = true) (hl : xs.length = 2 * (n + 2)) : decS xs = bst (gx xs) n := by rw [decS, if_pos h]; congr 1; omega
theorem decS_no {xs : List Int} (h : lOk xs = false) : decS xs = [] := by rw [decS, if_neg (by rw [h]; decide)]
theorem errS_yes {xs : List Int} {n : Nat} (h : lOk xs = true) (hl : xs.length = 2 * (n + 2)) : errS xs = T.cost (gx xs) (way (bst (gx xs) n)) := by
  rw [errS, if_pos h]; congr 3; omega
theorem errS_no {xs : List Int} (h : lOk xs = false) : errS xs = -1 := by rw [errS, if_neg (by rw [h]; decide)]

theorem Node.two {w : World} {y : Nat → Int} {P : Nat → Prop} {g0 : Nat} {a b : Int} {r : List Int} {g : Nat} (h : Node w y P g0 (a :: b :: r) g) :
    ∃ g1 g2, w.cell? ⟨g, 0, none⟩ = some (.pointer (some ⟨g1, 0, none⟩)) ∧ w.cell? ⟨g1, 0, none⟩ = some (.pointer (some ⟨g2, 0, none⟩)) ∧ Node w y P g0 r g2 := by
  obtain ⟨g1, c1, _, h1⟩ := h.cells
  obtain ⟨g2, c2, _, h2⟩ := h1.cells
  exact ⟨g1, g2, c1, c2, h2⟩
/-- the bits from k on are written, the others are 0 -/
def tailB (n k : Nat) (xs : List Int) : List Int := rg n fun i => if k ≤ i then xs.getD i 0 else 0
theorem tailB_start (n : Nat) (xs : List Int) : List.replicate n (0 : Int) = tailB n n xs := by
  rw [rg_zero]; exact rg_congr fun i hi => by rw [if_neg (by omega)]
theorem tailB_step (n k : Nat) (xs : List Int) : (tailB n (k + 1) xs).set k (xs.getD k 0) = tailB n k xs := by
  unfold tailB
  rw [rg_set]
  refine rg_congr fun i _ => ?_
  by_cases h : i = k
  · subst h; rw [if_pos rfl, if_pos (Nat.le_refl _)]
  · rw [if_neg h]
    by_cases h2 : k + 1 ≤ i
    · rw [if_pos h2, if_pos (by omega)]
    · rw [if_neg h2, if_neg (by omega)]
theorem tailB_end (xs : List Int) : tailB xs.length 0 xs = xs := by
  conv => rhs; rw [← rg_self xs]
  exact rg_congr fun i _ => by rw [if_pos (Nat.zero_le _)]
/-- the last k bits of a way, the last first: what is left before them -/
theorem rev_take {xs : List Int} {k : Nat} (h : k < xs.length) : (xs.take (k + 1)).reverse = xs.getD k 0 :: (xs.take k).reverse := by
  rw [List.take_succ_eq_append_getElem h, List.reverse_append]
  simp [List.getD, h]

set_option maxHeartbeats 2000000 in
theorem implErr_c {C : Nat} {v : Value} {xs : List Int} (w : World) (T1 : TtrellisNext w) (T2 : TtrellisOut w) (h : Rd C w v xs) (hC : C ≤ w.heap.size) :
    Calls Tryd.prog 18 #[v] w fun e w' => e = .returned (.int .i64 (errS xs)) ∧ Below w.heap.size w w' := by
  have Q := hid (survivor_c w T1 T2 h hC)
  clear T1 T2
  go_enter Tryd.func18, Tryd.ntmps18
  go_wp2_with fail
  refine Q.out.mono ?_
  rintro e w' ⟨hb, ⟨h0, rfl⟩ | ⟨n, g, g0, h0, hl, rfl, hn⟩⟩
  · have H := hid (errS_no h0)
    clear h0
    go_wp2_with fail
    go_ret
    exact ⟨ret_int H.out.symm, hb⟩
  · have H := hid (errS_yes h0 hl)
    have c := hn.cost
    clear h0 hn hl
    go_wp2_with fail
    go_ret
    exact ⟨ret_int H.out.symm, hb⟩

set_option maxHeartbeats 4000000 in
theorem implDecS_c {C : Nat} {v : Value} {xs : List Int} (w : World) (T1 : TtrellisNext w) (T2 : TtrellisOut w) (h : Rd C w v xs) (hC : C ≤ w.heap.size) :
    Calls Tryd.prog 20 #[v] w fun e w' => ∃ v', e = .returned v' ∧ Own w.heap.size w'.heap.size w' v' (decS xs) ∧ Below w.heap.size w w' := by
  have Q := hid (survivor_c w T1 T2 h hC)
  clear T1 T2
  go_enter Tryd.func20, Tryd.ntmps20
  go_wp2_with fail
  refine Q.out.mono ?_
  rintro e w1 ⟨hb, ⟨h0, rfl⟩ | ⟨n, g, g0, h0, hl, rfl, hn⟩⟩
  · have H := hid (decS_no h0)
    clear h0
    go_wp2_with fail
    go_ret
    exact ⟨_, rfl, by rw [H.out]; exact Own.nil _ _ _, hb⟩
  · have H := hid (decS_yes h0 hl)
    have hbl := (bst_some (gx xs) n).2.1
    have n40 : n ≤ 40 := by have := (lOk_iff.1 h0).2.2.2; omega
    generalize bst (gx xs) n = zs at *
    subst hbl
    have s1 := hb.size
    obtain ⟨ga, gb, c1, c2, hn2⟩ := Node.two hn
    clear h0 hl hn
    go_wp2_with (refine wpl_make intSl _ rfl (.tmp 15) (.tmp 15) rfl _ _ zs.length rfl rfl rfl rfl (by omega) ?_; intro w2 ho b2 hlt2; have c1 := (b2.cell (p := ⟨g, 0, none⟩) (World.block_lt_of_cell? _ _ c1)).trans c1; have c2 := (b2.cell (p := ⟨ga, 0, none⟩) (World.block_lt_of_cell? _ _ c2)).trans c2)
    have hlen : zs.length ≤ 40 := n40
    have HR := hid (show zs.reverse = (zs.take zs.length).reverse by rw [List.take_length])
    rw [HR.out] at hn2
    rw [tailB_start zs.length zs] at ho
    have hN : Node w2 (gx xs) (fun b => w.heap.size ≤ b ∧ b < w1.heap.size) g0 ((zs.take zs.length).reverse) gb := Node.keep (fun b h => b2.block b h.2) hn2
    clear hn2 c1 c2 HR Q
    go_loopw [6, 7] (fun nd kk wr => ∃ (k : Nat) (z : Int) (gk : Nat), k ≤ zs.length ∧ nd = .pointer (some ⟨gk, 0, none⟩) ∧ kk = .int .i64 z ∧ Hid (z = (k : Int) - 1) ∧ Node wr (gx xs) (fun b => w.heap.size ≤ b ∧ b < w1.heap.size) g0 ((zs.take k).reverse) gk ∧ Own w1.heap.size w2.heap.size wr (.slice (some ⟨w1.heap.size, 0, none⟩) zs.length zs.length) (tailB zs.length k zs) ∧ w2.grownBy wr (some w1.heap.size)) (fun _ kk _ => (intOf kk + 1).toNat)
    case atStart => exact ⟨zs.length, _, gb, Nat.le_refl _, rfl, rfl, rfl, hN, ho, World.grownBy.refl _ _⟩
    case round =>
      clear hN ho
      obtain ⟨k, z, gk, hk, rfl, rfl, hz, hn, ho, hg⟩ := hrel
      by_cases hk0 : k = 0
      · subst hk0
        obtain rfl : z = -1 := by have := hz.out; omega
        rw [tailB_end] at ho
        have bb := (hb.trans (b2.mono s1)).trans (below_of_grown hg s1 (by omega))
        have zg := hg.size
        go_wp2_with fail
        go_ret
        exact ⟨_, rfl, by rw [H.out]; exact ho.fit (by omega) zg, bb⟩
      · obtain ⟨j, rfl⟩ : ∃ j, k = j + 1 := ⟨k - 1, by omega⟩
        obtain rfl : z = (j : Int) := by have := hz.out; omega
        rw [rev_take (by omega)] at hn
        obtain ⟨g3, c1, c2, hn3⟩ := hn.cells
        have c3 := ho.free j
        have ho2 := ho.store j (zs.getD j 0)
        have cj := ho.cell (k := j) (by unfold tailB; rw [rg_length]; omega)
        rw [tailB_step] at ho2
        have hg2 := grown_set hg (i := j) (.int .i64 (zs.getD j 0))
        have hn4 : Node (wr.setCell ⟨w1.heap.size, j, none⟩ (.int .i64 (zs.getD j 0))) (gx xs) (fun b => w.heap.size ≤ b ∧ b < w1.heap.size) g0 ((zs.take j).reverse) g3 :=
          Node.keep (fun b h => Below.heap_setCell wr ⟨w1.heap.size, j, none⟩ _ b (by have h2 := h.2; show b ≠ w1.heap.size; omega)) hn3
        have c5 : (wr.setCell ⟨w1.heap.size, j, none⟩ (.int .i64 (zs.getD j 0))).cell? ⟨gk, 0, none⟩ = some (.pointer (some ⟨g3, 0, none⟩)) := by
          rw [World.cell?_of_block (Below.heap_setCell wr ⟨w1.heap.size, j, none⟩ _ gk (by have h := hn.ok.2; show gk ≠ w1.heap.size; omega))]
          exact c1
        have ij : (j : Int) < (zs.length : Int) := by omega
        generalize zs.getD j 0 = zj at *
        generalize (tailB zs.length (j + 1) zs).getD j 0 = oj at *
        clear hn hn3 ho hg hz
        go_wp2_with fail
        go_roundw
        case rel => exact ⟨j, (j : Int) - 1, g3, by omega, rfl, by go_num, rfl, hn4, ho2, hg2⟩
        case measure => simp [intOf] <;> omega

end Go.Proofs.YtnlacmbmmlmpjaaDoor
