/-
  append(s, make([]int, m)...): the compiled form, in which the second argument is the number of zeros.
-/
import Derived.Test.YtokgonhfmidbeaaBase
import Derived.Lib.AppendZeros
import Derived.Lib.AppendZerosOnto
namespace Go.Proofs.Ytokgonhfmidbeaa
open Go.RowKit
section
variable {P : Program} {t : TypeId} {ops : Array Oper} {rest : List Oper} {o : Oper} {a : Act} {Q : Exit → Act → World → Prop}

theorem zeros_cells (m : Nat) : (Builtin.zeroCells (Value.int .i64 0).cells m).toList = (List.replicate m (0 : Int)).map (Value.int .i64) := by
  have := made_zero m
  simpa [Builtin.zeroCells, madeCells, Value.cells] using this

theorem run_apz (T : IntSl P t) (hti : P.underlying 3 = some (.int .i64)) (w : World) (ty : TypeId) (B C : Nat) (v : Value) (xs : List Int) (m : Nat) (hm : 0 < m) (hown : Own B C w v xs) (hsm : xs.length + m ≤ 4194304) (hB : B ≤ w.heap.size) :
    ∃ v' w', (Builtin.append_ #[t, 3] ty #[v, .int .i64 (m : Int)]).run P w = .ok v' w' ∧ w'.ownsRow B 3 1 v' (xs.length + m) ((xs ++ List.replicate m 0).map (Value.int .i64)) ∧ w.grownBy w' v.ownBlock := by
  obtain ⟨i, hi, hz0, hz1, hz2⟩ := info_parts T.info
  have hzc := zeros_cells m
  have hlen : ((xs ++ List.replicate m (0 : Int)).map (Value.int .i64)).length = (xs.length + m) * 1 := by simp
  have new : ∀ (old : Nat), old < xs.length + m → ∀ (row : Option Nat),
      (w.drew.alloc (.cells ((xs.map (Value.int .i64)).toArray ++ Builtin.zeroCells (Value.int .i64 0).cells m ++ Builtin.zeroCells (Value.int .i64 0).cells (grownCap w (xs.length + m) old 3 - (xs.length + m))) 3)).ownsRow B 3 1
        (.slice (some ⟨w.heap.size, 0, none⟩) (xs.length + m) (grownCap w (xs.length + m) old 3)) (xs.length + m) ((xs ++ List.replicate m 0).map (Value.int .i64)) ∧
      w.grownBy (w.drew.alloc (.cells ((xs.map (Value.int .i64)).toArray ++ Builtin.zeroCells (Value.int .i64 0).cells m ++ Builtin.zeroCells (Value.int .i64 0).cells (grownCap w (xs.length + m) old 3 - (xs.length + m))) 3)) row := by
    intro old ho row
    have hge := grownCap_ge w (xs.length + m) old 3
    have hcm : grownCap w (xs.length + m) old 3 ≤ maxLen := grownCap_le_maxLen w (xs.length + m) old 3 (by unfold maxLen; omega)
    refine ⟨⟨hlen, .inr ⟨w.heap.size, _, _, rfl, hB, heap_alloc_new w.drew _, hge, hcm, ?_, ?_⟩⟩, ⟨rfl, rfl, rfl, by simp, fun k hk _ => heap_alloc_old w.drew _ hk⟩⟩
    · simp only [Array.size_append, List.size_toArray, size_zeroCells, List.length_map, Value.cells, List.size_toArray, List.length_cons, List.length_nil]
      omega
    · simp only [Array.toList_append, List.map_append, hzc]
      exact List.take_left' (by simp)
  have hown0 := hown
  rcases hown.1.2 with ⟨rfl, hn⟩ | ⟨g, cap, cur, rfl, hbg, hg, hnc, hcm, hcs, htake⟩
  · have hx : xs = [] := List.eq_nil_of_length_eq_zero hn
    subst hx
    have hgr := new 0 (by simp; omega) (Value.ownBlock (.slice none 0 0))
    have hr := Lib.run_append_nil_zeros (P := P) w t 3 ty 3 i _ .i64 .i64 T.under hti hi hz0 m hm (by omega) (by omega) (by rw [hz2]; omega)
    simp only [List.length_nil, Nat.zero_add, List.map_nil, List.nil_append] at hgr ⊢
    refine ⟨_, _, hr, ?_⟩
    simpa using hgr
  · by_cases hroom : xs.length + m ≤ cap
    · have hst := run_storeCells_at P g xs.length 3 ((List.replicate m (0 : Int)).map (Value.int .i64)) 0 cur w hg (by simp; omega) (ints_oneCell _ _)
      simp only [Nat.add_zero] at hst
      have hwr : IntKind.i64.wrap (m : Int) = (m : Int) := IntWalk.i64_in _ (by omega)
      have hn0 : ¬ ((m : Int) < 0) := by omega
      have hsz : ¬ (281474976710656 < (m : Int) * (8 : Int)) := by omega
      have hm0 : ¬ m = 0 := by omega
      have hr : (Builtin.append_ #[t, 3] ty #[.slice (some ⟨g, 0, none⟩) xs.length cap, .int .i64 (m : Int)]).run P w = .ok (.slice (some ⟨g, 0, none⟩) (xs.length + m) cap) (w.setRow g (cur.toList.take xs.length ++ (List.replicate m (0 : Int)).map (Value.int .i64) ++ cur.toList.drop (xs.length + ((List.replicate m (0 : Int)).map (Value.int .i64)).length)).toArray) := by
        rw [← hzc] at hst ⊢
        simp [Builtin.append_, run_underlying T.under, run_underlying hti, sizeOf, typeInfo, zeroValue, hi, hz0, hz1, hz2, asInt, asIntOf, hwr, hn0, hsz, hroom, hm0, Addr.add_lit] at hst ⊢
        rw [hst]; rfl
      refine ⟨_, _, hr, ⟨hlen, .inr ⟨g, cap, _, rfl, hbg, setRow_heap w g cur _ 3 _ hg, hroom, hcm, ?_, ?_⟩⟩, ⟨rfl, rfl, rfl, by simp, fun k _ hk => setRow_other w g k _ (fun e => hk (by simp [Value.ownBlock, e]))⟩⟩
      · simp only [List.size_toArray, List.length_append, List.length_take, List.length_drop, Array.length_toList, List.length_map, List.length_replicate]
        omega
      · rw [Nat.mul_one] at htake
        rw [htake, List.map_append]
        exact List.take_left' (by simp)
    · have holds : ∀ j u, (xs.map (Value.int .i64))[j]? = some u → w.drew.cell? ((⟨g, 0, none⟩ : Addr).add j) = some u := hown.1.cells (g := g) rfl
      have hf := run_firstCells_some (P := P) w.drew i.size xs.length ⟨g, 0, none⟩ xs.length cap (xs.map (Value.int .i64)) (by rw [hz1]; simp) holds
      have hr := Lib.run_append_grow_zeros (P := P) w t 3 ty 3 i _ .i64 .i64 T.under hti hi hz0 (some ⟨g, 0, none⟩) xs.length cap (xs.map (Value.int .i64)) (by simpa using hf) m hm (by omega) (by omega) (by omega) (by rw [hz2]; omega) (by rw [hz2]; exact growslice_fits (by omega) (by omega))
      have hgr := new cap (by omega) (Value.ownBlock (.slice (some ⟨g, 0, none⟩) xs.length cap))
      exact ⟨_, _, hr, hgr.1, hgr.2⟩

theorem wpl_apz (T : IntSl P t) (hti : P.underlying 3 = some (.int .i64)) (w : World) (hg : o.guard = none) (s x : Operand) (ho : o.op = .call { callee := .builtin .append, args := #[s, x], argTypes := #[t, 3] })
    (B C : Nat) (v : Value) (xs : List Int) (m : Nat) (hs : a.eval s = v) (hx : a.eval x = .int .i64 (m : Int)) (hm : 0 < m) (hown : Own B C w v xs) (hsm : xs.length + m ≤ 4194304) (hB : B ≤ w.heap.size)
    (h : ∀ v' w', Own B w'.heap.size w' v' (xs ++ List.replicate m 0) → w.grownBy w' v.ownBlock → wpList P ops Q rest (a.put o.dst v') w') : wpList P ops Q (o :: rest) a w := by
  obtain ⟨v', w', hr, r1, r2⟩ := run_apz T hti w o.type B C v xs m hm hown hsm hB
  refine Lib.wpList_append_run w hg s x t _ ho _ _ hs hx v' w' hr (h v' w' ⟨?_, by simp; omega, fun k hk => (r1.lt k hk).2⟩ r2)
  rw [List.length_append, List.length_replicate]
  exact r1
end
end Go.Proofs.Ytokgonhfmidbeaa
