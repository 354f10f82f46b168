/-
  The number of errors of a list: what it has to do with its ones, with codes, and with one changed bit. Plain facts, and abs.
-/
import Derived.Test.YtnlacmbmmlmpjaaDoorStreamP
import Derived.Test.YtnlacmbmmlmpjaaDoorDecS7
namespace Go.Proofs.YtnlacmbmmlmpjaaDoor
open Go.RowKit T

/-- the sum of the first k elements -/
def smT (zs : List Int) : Nat → Int
  | 0 => 0
  | k + 1 => smT zs k + zs.getD k 0
theorem smT_in {zs : List Int} (h : bitsOk zs = true) : ∀ k, 0 ≤ smT zs k ∧ smT zs k ≤ k
  | 0 => by simp [smT]
  | k + 1 => by
    have ih := smT_in h k
    have := bitsOk_at h k
    simp only [smT]
    omega
theorem sA_zero (m : Nat) : T.sA (List.replicate m 0) = 0 := by cases m <;> rfl
theorem sC_zero (m : Nat) : T.sC (List.replicate m 0) = 0 := by
  cases m with
  | zero => rfl
  | succ m => cases m <;> rfl
theorem dx_bit {x : Int} (h : x = 0 ∨ x = 1) : dx 0 x = x := by rcases h with rfl | rfl <;> rfl
theorem cost_ones {zs : List Int} (h : bitsOk zs = true) : ∀ m, T.cost (gx zs) (List.replicate m 0) = smT zs (2 * m)
  | 0 => rfl
  | m + 1 => by
    have ih := cost_ones h m
    have e : 2 * (m + 1) = 2 * m + 1 + 1 := by omega
    rw [List.replicate_succ, e]
    simp only [T.cost, smT, sA_zero, sC_zero, List.length_replicate, ih]
    show smT zs (2 * m) + dx 0 (zs.getD (2 * m) 0) + dx 0 (zs.getD (2 * m + 1) 0) = _
    rw [dx_bit (bitsOk_at h _), dx_bit (bitsOk_at h _)]
theorem way_zero (n : Nat) : way (List.replicate n 0) = List.replicate (n + 2) 0 := by
  simp [way, List.replicate_succ]
theorem err_ones {zs : List Int} {n : Nat} (h : lOk zs = true) (hl : zs.length = 2 * (n + 2)) : errS zs ≤ smT zs zs.length := by
  have hb : Bits (List.replicate n (0 : Int)) := fun x hx => .inl (List.eq_of_mem_replicate hx)
  have := bst_least (y := gx zs) hb
  rw [List.length_replicate, way_zero, cost_ones (lOk_iff.1 h).1] at this
  rw [errS_yes h hl, hl]
  exact this
theorem err_in {zs : List Int} {n : Nat} (h : lOk zs = true) (hl : zs.length = 2 * (n + 2)) : 0 ≤ errS zs ∧ errS zs ≤ 84 := by
  rw [errS_yes h hl]
  have := cost_in (gx zs) (way (bst (gx zs) n))
  rw [way_length, (bst_some (gx zs) n).2.1] at this
  have := (lOk_iff.1 h).2.2.2
  omega
theorem decS_sOk {zs : List Int} {n : Nat} (h : lOk zs = true) (hl : zs.length = 2 * (n + 2)) : sOk (decS zs) = true ∧ (decS zs).length = n := by
  rw [decS_yes h hl]
  have := (lOk_iff.1 h).2.2.2
  exact ⟨sOk_mk (bst_some (gx zs) n).2.2 (by rw [(bst_some (gx zs) n).2.1]; omega), (bst_some (gx zs) n).2.1⟩
theorem err_hd {zs : List Int} {n : Nat} (h : lOk zs = true) (hl : zs.length = 2 * (n + 2)) : hd (encS (decS zs)) zs = errS zs := by
  obtain ⟨h1, h2⟩ := decS_sOk h hl
  rw [hd_code h1 (lOk_iff.1 h).1 (by rw [h2, hl]), errS_yes h hl, decS_yes h hl]
theorem err_least {zs os : List Int} {n : Nat} (h : lOk zs = true) (hl : zs.length = 2 * (n + 2)) (ho : Bits os) (hn : os.length = n) : errS zs ≤ hd (encS os) zs := by
  have h84 := (lOk_iff.1 h).2.2.2
  rw [hd_code (sOk_mk ho (by omega)) (lOk_iff.1 h).1 (by rw [hn, hl]), errS_yes h hl]
  have := bst_least (y := gx zs) ho
  rw [hn] at this
  exact this
theorem err_code {zs : List Int} {n : Nat} (h : lOk zs = true) (hl : zs.length = 2 * (n + 2)) : errS zs = 0 ↔ encS (decS zs) = zs := by
  obtain ⟨h1, h2⟩ := decS_sOk h hl
  have h3 : errS zs = T.cost (gx zs) (way (decS zs)) := by rw [errS_yes h hl, decS_yes h hl]
  rw [h3, cost_zero, way_length, h2]
  constructor
  · intro k
    refine list_ext_getD (by rw [encS_length h1, h2, hl]) fun i hi => ?_
    rw [encS_length h1, h2] at hi
    rw [encS_getD h1 (by rw [h2]; exact hi)]
    exact (k i hi).symm
  · intro k i hi
    have := encS_getD h1 (i := i) (by rw [h2]; exact hi)
    rw [k] at this
    exact this
theorem err_flip {zs : List Int} {n : Nat} (h : lOk zs = true) (hl : zs.length = 2 * (n + 2)) (i : Nat) (v : Int) (hv : 0 ≤ v ∧ v ≤ 1) :
    lOk (zs.set i v) = true ∧ -1 ≤ errS (zs.set i v) - errS zs ∧ errS (zs.set i v) - errS zs ≤ 1 := by
  have hl2 : (zs.set i v).length = 2 * (n + 2) := by rw [List.length_set]; exact hl
  have h84 := (lOk_iff.1 h).2.2.2
  have h2 : lOk (zs.set i v) = true := lOk_mk (set_bits (lOk_iff.1 h).1 hv) hl2 (by omega)
  refine ⟨h2, ?_⟩
  rw [errS_yes h hl, errS_yes h2 hl2]
  have a1 := bst_least (y := gx zs) (bst_some (gx (zs.set i v)) n).2.2
  have a2 := bst_least (y := gx (zs.set i v)) (bst_some (gx zs) n).2.2
  rw [(bst_some _ n).2.1] at a1 a2
  have b1 := flip_cost zs i v (way (bst (gx zs) n))
  have b2 := flip_back zs i v (way (bst (gx (zs.set i v)) n))
  omega

theorem abs_c (d : Int) (w : World) (h0 : -1 ≤ d) (h1 : d ≤ 1) :
    Calls Tryd.prog 30 #[.int .i64 d] w fun e w' => (e = .returned (.int .i64 0) ∨ e = .returned (.int .i64 1)) ∧ Below w.heap.size w w' := by
  rcases (by omega : d = -1 ∨ d = 0 ∨ d = 1) with rfl | rfl | rfl
  · go_enter Tryd.func30, Tryd.ntmps30
    go_wp2
    go_ret
    exact ⟨.inr rfl, Below.refl _ _⟩
  · go_enter Tryd.func30, Tryd.ntmps30
    go_wp2
    go_ret
    exact ⟨.inl rfl, Below.refl _ _⟩
  · go_enter Tryd.func30, Tryd.ntmps30
    go_wp2
    go_ret
    exact ⟨.inr rfl, Below.refl _ _⟩

end Go.Proofs.YtnlacmbmmlmpjaaDoor
