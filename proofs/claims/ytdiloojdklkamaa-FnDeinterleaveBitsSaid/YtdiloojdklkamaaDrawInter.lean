/-
  The drawn inputs of the laws on interleaving: some list of numbers and a number of rows.
-/
import Derived.Test.YtdiloojdklkamaaDrawBits
import Derived.Test.YtdiloojdklkamaaStep
import Derived.Deep.RegionWith
namespace Go.Proofs.Ytdiloojdklkamaa
open Go.RowKit

/-- the reader's pick leaves every other block -/
theorem pick_some {W wp : World} {g b o : Nat} {u : Value} (hg : W.grownBy wp (some g)) (hne : ¬ b = g) (hu : W.cell? ⟨b, o, none⟩ = some u) : wp.cell? ⟨b, o, none⟩ = some u :=
  (World.cell?_of_block (hg.block b (World.block_lt_of_cell? W _ hu) (fun e => hne (by injection e)))).trans hu
theorem tab_one (w : World) (A : Array Value) (t : TypeId) (i : Nat) : (w.alloc (.cells A t)).cell? ⟨w.heap.size, i, none⟩ = A[i]? := cell_of_row _ w.heap.size i _ _ _ (heap_alloc_new w _)
theorem tab_fst (w : World) (A : Array Value) (t : TypeId) (o : Obj) (i : Nat) : ((w.alloc (.cells A t)).alloc o).cell? ⟨w.heap.size, i, none⟩ = A[i]? :=
  (World.cell?_of_block (Below.heap_alloc (w.alloc (.cells A t)) o w.heap.size (by simp))).trans (tab_one w A t i)
theorem tab_snd (w : World) (A : Array Value) (t : TypeId) (o : Obj) (i : Nat) : ((w.alloc o).alloc (.cells A t)).cell? ⟨w.heap.size + 1, i, none⟩ = A[i]? := by
  have := tab_one (w.alloc o) A t i
  rwa [World.size_alloc] at this
theorem own_go {B C D g : Nat} {w w' : World} {v : Value} {o : List Int} (h : Own B C w v o) (hC : C ≤ w.heap.size) (hg : g < B) (hD : D ≤ B) (k : w.grownBy w' (some g)) : Own D w'.heap.size w' v o :=
  (h.apart k (fun i hi => by injection hi; omega)).fit hD (Nat.le_trans hC k.size)
theorem ret_snd {v u u' : Value} (h : u = u') : Ending.returned (.tuple #[v, u]) = .returned (.tuple #[v, u']) := by rw [h]
def DrawnLi (w : World) (e : Ending) (w' : World) : Prop :=
  ∃ v o n, e = .returned (.tuple #[v, .int .i64 n]) ∧ Own w.heap.size w'.heap.size w' v o ∧ o.length ≤ 100 ∧ (0 ≤ n ∧ n ≤ 33) ∧ Below w.heap.size w w'
set_option maxHeartbeats 2000000 in
theorem DrawInterleaveBits_c {C : Nat} {A : Option Addr} {n c : Nat} (w : World) (h : RdB C w A n c) (hC : C ≤ w.heap.size) :
    Calls Try.prog 5 #[.slice A n c] w (DrawnLi w) := by
  have H := hid (l20Open_c w h hC)
  clear h
  go_enter Try.func5, Try.ntmps5
  go_wp2_with fail
  refine H.out.mono ?_
  rintro e w1 ⟨rfl, r1, b1, l1⟩
  go_wp2_with fail
  refine (pick_c _ _ r1 (by omega) (by omega) (by omega)).mono ?_
  rintro e w2 ⟨a, rfl, ⟨a0, a1⟩, r2, g2, s2⟩
  go_wp2_with fail
  refine (pick_c _ _ r2 (by omega) (by omega) (by omega)).mono ?_
  rintro e w3 ⟨b, rfl, ⟨b0, b1'⟩, r3, g3, s3⟩
  have hm : 0 ≤ (1 + a) * b ∧ (1 + a) * b ≤ 35 := ⟨Int.mul_nonneg (by omega) b0, by
    have := Int.mul_le_mul (show 1 + a ≤ 7 by omega) (show b ≤ 5 by omega) b0 (by omega : (0 : Int) ≤ 7)
    omega⟩
  generalize hM : (1 + a) * b = M at hm
  go_wp2_with fail
  refine (pick_c _ _ r3 (by omega) (by omega) (by omega)).mono ?_
  rintro e w4 ⟨d, rfl, ⟨d0, d1⟩, r4, g4, s4⟩
  have t2 := g2.size
  have t3 := g3.size
  have t4 := g4.size
  have gr := grown_trans (grown_trans g2 g3) g4
  obtain ⟨K, hK⟩ := Int.eq_ofNat_of_zero_le (show 0 ≤ M + d / 8 by omega)
  have HK := hid hK
  have HM := hid hM
  have hK40 : K ≤ 40 := by omega
  clear hM g2 g3 g4 r1 r2 r3 s2 s3 s4
  have HF : Calls Try.prog 16 #[.pointer (some ⟨w.heap.size, 0, none⟩), .int .i64 (M + d / 8), .int .i64 0] w4 (DrawnL (K + 1) 1001 w.heap.size w.heap.size (0 + 1 + 1 + 1 + K + 2) w4) := by rw [hK]; exact l20Fixed_c K 0 w4 r4 (by omega) (by omega) (by omega) (by omega)
  have HF := hid HF
  clear hK r4
  go_wp2_with fail
  refine HF.out.mono ?_
  rintro e w5 ⟨v, o, rfl, O5, ⟨l5, _⟩, r5, g5⟩
  have t5 := g5.size
  have gr := grown_trans gr g5
  clear HF g5
  have ne1 : ¬ w5.heap.size = w.heap.size := by omega
  have ne2 : ¬ w5.heap.size + 1 = w.heap.size := by omega
  have rA := r5.alloc (.cells #[.int .i64 (1 + a), .int .i64 0, .int .i64 33] 3)
  have rB := r5.alloc (.cells #[.int .i64 0, .int .i64 0, .int .i64 0, .int .i64 0, .int .i64 0, .int .i64 1, .int .i64 2] 3)
  have rC := rA.alloc (.cells #[.int .i64 0, .int .i64 0, .int .i64 0, .int .i64 0, .int .i64 0, .int .i64 1, .int .i64 2] 3)
  have rD := rB.alloc (.cells #[.int .i64 (1 + a), .int .i64 0, .int .i64 33] 3)
  have q0 : Rdr w.heap.size w5.drew w.heap.size _ := r5.keep (fun _ _ => rfl)
  have qA := rA.keep (w' := (w5.alloc (.cells #[.int .i64 (1 + a), .int .i64 0, .int .i64 33] 3)).drew) (fun _ _ => rfl)
  have qB := rB.keep (w' := (w5.alloc (.cells #[.int .i64 0, .int .i64 0, .int .i64 0, .int .i64 0, .int .i64 0, .int .i64 1, .int .i64 2] 3)).drew) (fun _ _ => rfl)
  have qC := rC.keep (w' := ((w5.alloc (.cells #[.int .i64 (1 + a), .int .i64 0, .int .i64 33] 3)).alloc (.cells #[.int .i64 0, .int .i64 0, .int .i64 0, .int .i64 0, .int .i64 0, .int .i64 1, .int .i64 2] 3)).drew) (fun _ _ => rfl)
  have qD := rD.keep (w' := ((w5.alloc (.cells #[.int .i64 0, .int .i64 0, .int .i64 0, .int .i64 0, .int .i64 0, .int .i64 1, .int .i64 2] 3)).alloc (.cells #[.int .i64 (1 + a), .int .i64 0, .int .i64 33] 3)).drew) (fun _ _ => rfl)
  clear rA rB rC rD r5
  have H7 : ∀ x : Nat, x < 7 → ∃ d : Nat, (#[Value.int .i64 0, .int .i64 0, .int .i64 0, .int .i64 0, .int .i64 0, .int .i64 1, .int .i64 2] : Array Value)[x]? = some (.int .i64 (d : Nat)) ∧ d < 3 := by
    intro x hx
    rcases (by omega : x = 0 ∨ x = 1 ∨ x = 2 ∨ x = 3 ∨ x = 4 ∨ x = 5 ∨ x = 6) with rfl | rfl | rfl | rfl | rfl | rfl | rfl
    · exact ⟨0, rfl, by omega⟩
    · exact ⟨0, rfl, by omega⟩
    · exact ⟨0, rfl, by omega⟩
    · exact ⟨0, rfl, by omega⟩
    · exact ⟨0, rfl, by omega⟩
    · exact ⟨1, rfl, by omega⟩
    · exact ⟨2, rfl, by omega⟩
  have H3 : ∀ x : Nat, x < 3 → ∃ z : Int, (#[Value.int .i64 (1 + a), .int .i64 0, .int .i64 33] : Array Value)[x]? = some (.int .i64 z) ∧ 0 ≤ z ∧ z ≤ 33 := by
    intro x hx
    rcases (by omega : x = 0 ∨ x = 1 ∨ x = 2) with rfl | rfl | rfl
    · exact ⟨1 + a, rfl, by omega, by omega⟩
    · exact ⟨0, rfl, by omega, by omega⟩
    · exact ⟨33, rfl, by omega, by omega⟩
  have H7 := hid H7
  have H3 := hid H3
  go_wp2_with fail
  go_region_with (go_at_call 15; (refine (pick_c 7 _ (by first | exact q0 | exact qA | exact qB | exact qC | exact qD) (by omega) (by omega) (by omega)).mono ?_); rintro e wp ⟨x, rfl, ⟨x0, x1⟩, rp, gp, sp⟩; obtain ⟨x, rfl⟩ := Int.eq_ofNat_of_zero_le x0; obtain ⟨i7, e7, l7⟩ := H7.out x (by omega); obtain ⟨z, e3, lz⟩ := H3.out i7 l7; have E7 := hid e7; have E3 := hid e3; have HG := hid gp; have i1 : (x : Int) < 7 := (by omega); have i2 : (i7 : Int) < 3 := (by omega); (try have k1 := pick_some gp ne1 ((tab_fst w5 _ 3 (.cells #[.int .i64 0, .int .i64 0, .int .i64 0, .int .i64 0, .int .i64 0, .int .i64 1, .int .i64 2] 3) i7).trans E3.out)); (try have k2 := pick_some gp ne2 ((tab_snd w5 _ 3 (.cells #[.int .i64 (1 + a), .int .i64 0, .int .i64 33] 3) x).trans E7.out)); (try have k3 := pick_some gp ne1 ((tab_fst w5 _ 3 (.cells #[.int .i64 (1 + a), .int .i64 0, .int .i64 33] 3) x).trans E7.out)); (try have k4 := pick_some gp ne2 ((tab_snd w5 _ 3 (.cells #[.int .i64 0, .int .i64 0, .int .i64 0, .int .i64 0, .int .i64 0, .int .i64 1, .int .i64 2] 3) i7).trans E3.out)); (try have k5 := pick_some gp ne1 ((tab_one w5 _ 3 i7).trans E3.out)); (try have k6 := pick_some gp ne1 ((tab_one w5 _ 3 x).trans E7.out)))
  all_goals
    go_wp2
    go_ret2
    first
    | refine ⟨v, o, z, ret_snd rfl, ?_, by omega, lz, ?_⟩
    | refine ⟨v, o, z, ret_snd (Array.getElem?_eq_some_iff.1 E3.out).2, ?_, by omega, lz, ?_⟩
    · refine own_go O5 (Nat.le_refl _) (show w.heap.size < w4.heap.size by omega) (by omega) ?_
      have gr := World.grownBy.refl w5 (some w.heap.size)
      first
      | exact grown_trans (grown_drewN (grown_alloc (grown_alloc gr _) _) 1) HG.out
      | exact grown_alloc (grown_trans (grown_drewN (grown_alloc gr _) 1) HG.out) _
      | exact grown_alloc (grown_alloc (grown_trans (grown_drewN gr 1) HG.out) _) _
    · refine b1.trans (below_of_grown ?_ (Nat.le_refl _) l1)
      first
      | exact grown_trans (grown_drewN (grown_alloc (grown_alloc gr _) _) 1) HG.out
      | exact grown_alloc (grown_trans (grown_drewN (grown_alloc gr _) 1) HG.out) _
      | exact grown_alloc (grown_alloc (grown_trans (grown_drewN gr 1) HG.out) _) _

set_option maxHeartbeats 400000 in
theorem DrawDeinterleaveBits_c {C : Nat} {A : Option Addr} {n c : Nat} (w : World) (h : RdB C w A n c) (hC : C ≤ w.heap.size) :
    Calls Try.prog 11 #[.slice A n c] w (DrawnLi w) := by
  have H := hid (DrawInterleaveBits_c w h hC)
  clear h
  go_enter Try.func11, Try.ntmps11
  go_wp2_with fail
  refine H.out.mono ?_
  rintro e w1 ⟨v, o, n, rfl, h1, h2, h3, h4⟩
  go_wp2_with fail
  go_ret2
  exact ⟨v, o, n, rfl, h1, h2, h3, h4⟩

end Go.Proofs.Ytdiloojdklkamaa
