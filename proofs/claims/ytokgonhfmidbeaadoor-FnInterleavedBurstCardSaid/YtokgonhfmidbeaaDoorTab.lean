/-
  Tables of integers that are package-level variables: what the condition 'laid' says of their cells, row upon row. Of no program.
-/
import Derived.LaidLaws
import Derived.ChangeArms
import Derived.OpenShut
import Derived.MakeChecks
import Derived.FnData
import Derived.Stop.LaidErr
import Derived.Below
namespace Go.Proofs.YtokgonhfmidbeaaDoor
open Go.RowKit

section
variable {H : Type}
/-- the cells of a number; of a row of such -/
def gInt : DataW H → List Value
  | .lit (.int k z) => [.int k z]
  | _ => []
def gArr (g : DataW H → List Value) : DataW H → List Value
  | .agg ds => ds.flatMap g
  | _ => []
/-- what reads at type t as d has just d's cells -/
def ReadsBy (P : Program) (t : TypeId) (g : DataW Unit → List Value) : Prop :=
  ∀ (enc : TypeId × Value → Unit) (w : World) (base : Nat) (sp : Nat → Bool) (held : Bool) (fuel : Nat) (cs : List Value) (x : DataW Unit × List MemPlace), DataW.trod enc P w base sp held fuel t cs = some x → cs = g x.1
theorem reads_int {P : Program} {t : TypeId} {k : IntKind} (h : P.underlying t = some (.int k)) : ReadsBy P t gInt := by
  intro enc w base sp held fuel cs x hx
  obtain ⟨n, rfl, rfl, _⟩ := DataW.trod_int h hx
  rfl
theorem flat_pieces {α β : Type} {g : α → List β} {c : Nat} : ∀ {n : Nat} {cs : List β} {xs : List α}, cs.length = n * c → xs.length = n → (∀ i, i < n → ∃ x, xs[i]? = some x ∧ (cs.drop (i * c)).take c = g x) → cs = xs.flatMap g
  | 0, cs, xs, hl, hx, _ => by
    rw [List.eq_nil_of_length_eq_zero hx]
    exact List.eq_nil_of_length_eq_zero (by simpa using hl)
  | n + 1, cs, [], _, hx, _ => by simp at hx
  | n + 1, cs, x :: xs, hl, hx, h => by
    obtain ⟨y, hy, h0⟩ := h 0 (by omega)
    simp only [List.getElem?_cons_zero, Option.some.injEq] at hy
    subst hy
    simp only [Nat.zero_mul, List.drop_zero] at h0
    have ih := flat_pieces (g := g) (c := c) (n := n) (cs := cs.drop c) (xs := xs) (by rw [List.length_drop, hl, Nat.succ_mul]; omega) (by simpa using hx) (fun i hi => by
      obtain ⟨y, hy, h1⟩ := h (i + 1) (by omega)
      refine ⟨y, by simpa using hy, ?_⟩
      rw [List.drop_drop, ← h1]
      congr 2
      rw [Nat.succ_mul]; omega)
    rw [List.flatMap_cons, ← ih, ← h0, List.take_append_drop]
theorem reads_arr {P : Program} {t e : TypeId} {n : Nat} {g : DataW Unit → List Value} (ht : P.underlying t = some (.array n e)) (hct : P.cellsOf t = n * P.cellsOf e) (h : ReadsBy P e g) : ReadsBy P t (gArr g) := by
  intro enc w base sp held fuel cs x hx
  obtain ⟨xs, m, rfl, rfl, hl, hn, hel⟩ := DataW.trod_array ht hx
  rw [hct] at hl
  have := flat_pieces (g := fun y : DataW Unit × List MemPlace => g y.1) hl hn (fun i hi => by
    have h1 := hel i hi
    have h2 : i < xs.length := by omega
    rw [List.getElem?_eq_getElem h2] at h1
    exact ⟨_, List.getElem?_eq_getElem h2, h enc w base sp held m _ _ h1⟩)
  rw [this]
  simp [gArr, List.flatMap_map]
end

/-- block g holds just these numbers -/
def TabAt (w : World) (g : Nat) (zs : List Int) : Prop := ∃ t fr, w.heap[g]? = some (.cells (zs.map (Value.int .i64)).toArray t fr)
theorem TabAt.lt {w : World} {g : Nat} {zs : List Int} (h : TabAt w g zs) : g < w.heap.size := by
  obtain ⟨t, fr, h⟩ := h
  exact (Array.getElem?_eq_some_iff.1 h).1
theorem TabAt.keep {w w' : World} {g : Nat} {zs : List Int} (h : TabAt w g zs) (hk : w'.heap[g]? = w.heap[g]?) : TabAt w' g zs := by
  obtain ⟨t, fr, h⟩ := h
  exact ⟨t, fr, hk.trans h⟩
theorem TabAt.below {w w' : World} {g B : Nat} {zs : List Int} (h : TabAt w g zs) (hb : Below B w w') (hg : g < B) : TabAt w' g zs := h.keep (hb.block g hg)
theorem TabAt.at_ {w : World} {g : Nat} {zs : List Int} (h : TabAt w g zs) (i : Nat) (hi : i < zs.length) : w.cell? ⟨g, i, none⟩ = some (.int .i64 (zs.getD i 0)) := by
  obtain ⟨t, fr, h⟩ := h
  simp [World.cell?, h, List.getD, hi]
/-- from the condition to the cells: the table stands first on the list -/
theorem tab_of_laid {P : Program} {W : World} {name : String} {d : DataW Unit} {rest : List (String × DataW Unit)} {g : Nat} {t : TypeId} {f : DataW Unit → List Value} {zs : List Int}
    (hg : P.globalNamed name = some g) (hty : (P.globals[g]?).map (·.type) = some t) (hr : ReadsBy P t f) (hz : f d = zs.map (Value.int .i64))
    (h : laidMet P ((name, d) :: rest) W) : TabAt W g zs := by
  obtain ⟨ps, ⟨g', t', cs, fuel, p, q, hg', ht', hvar, hd, _, _⟩, _⟩ := h
  obtain rfl := Option.some.inj (hg.symm.trans hg')
  obtain rfl := Option.some.inj (hty.symm.trans ht')
  have h1 := hr _ _ _ _ _ _ _ _ hd
  have h2 : cs.toList = zs.map (Value.int .i64) := h1.trans hz
  unfold World.var? at hvar
  rw [hg] at hvar
  simp only [Option.bind_some] at hvar
  split at hvar
  · rename_i c t2 fr hh
    injection hvar with hvar
    subst hvar
    refine ⟨t2, fr, ?_⟩
    rw [hh, ← h2]
  · cases hvar
theorem laid_tail {P : Program} {x : String × DataW Unit} {r : List (String × DataW Unit)} {w : World} (h : laidMet P (x :: r) w) : laidMet P r w := h.tail

end Go.Proofs.YtokgonhfmidbeaaDoor
