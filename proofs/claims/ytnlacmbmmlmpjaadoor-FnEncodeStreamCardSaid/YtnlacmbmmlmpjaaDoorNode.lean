/-
  The program's ways through the trellis: linked nodes in memory; their order.
-/
import Derived.Test.YtnlacmbmmlmpjaaDoorStreamL
import Derived.Laws.Rows
import Derived.Deep.LoopGhost
import Derived.LaidEqlPtr
import Derived.Lib.Builder
namespace Go.Proofs.YtnlacmbmmlmpjaaDoor
open Go.RowKit T

/-- block g is the end of the way r (the last bit first), with its cost; every block of it satisfies P; the root is g0 -/
def Node (w : World) (y : Nat → Int) (P : Nat → Prop) (g0 : Nat) : List Int → Nat → Prop
  | [], g => g = g0 ∧ P g ∧ ∃ t, w.heap[g]? = some (.cells #[.pointer none, .int .i64 0, .int .i64 0] t (0, 0))
  | b :: r, g => P g ∧ ∃ h t, w.heap[g]? = some (.cells #[.pointer (some ⟨h, 0, none⟩), .int .i64 b, .int .i64 (cost y (b :: r))] t (0, 0)) ∧ Node w y P g0 r h
section
variable {w w' : World} {y : Nat → Int} {P R : Nat → Prop} {g0 : Nat}
theorem Node.keep (hk : ∀ b, P b → w'.heap[b]? = w.heap[b]?) : ∀ {r : List Int} {g : Nat}, Node w y P g0 r g → Node w' y P g0 r g
  | [], g, h => by
    obtain ⟨h0, h1, t, h2⟩ := h
    exact ⟨h0, h1, t, (hk g h1).trans h2⟩
  | b :: r, g, h => by
    obtain ⟨h1, q, t, c0, hn⟩ := h
    exact ⟨h1, q, t, (hk g h1).trans c0, Node.keep hk hn⟩
theorem Node.drewN {r : List Int} {g : Nat} (h : Node w y P g0 r g) (q : Nat) : Node (w.drewN q) y P g0 r g := Node.keep (w := w) (w' := w.drewN q) (fun _ _ => rfl) h
theorem Node.imp (hk : ∀ b, P b → R b) : ∀ {r : List Int} {g : Nat}, Node w y P g0 r g → Node w y R g0 r g
  | [], g, h => ⟨h.1, hk g h.2.1, h.2.2⟩
  | b :: r, g, h => by
    obtain ⟨h1, q, t, c0, hn⟩ := h
    exact ⟨hk g h1, q, t, c0, Node.imp hk hn⟩
theorem Node.row {r : List Int} {g : Nat} (h : Node w y P g0 r g) : ∃ cs t, w.heap[g]? = some (.cells cs t (0, 0)) ∧ cs[2]? = some (.int .i64 (T.cost y r)) := by
  cases r with
  | nil =>
    obtain ⟨_, _, t, h⟩ := h
    exact ⟨_, t, h, rfl⟩
  | cons b r =>
    obtain ⟨_, q, t, h, _⟩ := h
    exact ⟨_, t, h, rfl⟩
theorem Node.cost {r : List Int} {g : Nat} (h : Node w y P g0 r g) : w.cell? ⟨g, 2, none⟩ = some (.int .i64 (T.cost y r)) := by
  obtain ⟨cs, t, h1, h2⟩ := h.row
  rw [cell_of_row w g 2 _ _ _ h1, h2]
theorem Node.cells {b : Int} {r : List Int} {g : Nat} (h : Node w y P g0 (b :: r) g) : ∃ q, w.cell? ⟨g, 0, none⟩ = some (.pointer (some ⟨q, 0, none⟩)) ∧ w.cell? ⟨g, 1, none⟩ = some (.int .i64 b) ∧ Node w y P g0 r q := by
  obtain ⟨_, q, t, h, hn⟩ := h
  exact ⟨q, by rw [cell_of_row w g 0 _ _ _ h]; rfl, by rw [cell_of_row w g 1 _ _ _ h]; rfl, hn⟩
theorem Node.ok {r : List Int} {g : Nat} (h : Node w y P g0 r g) : P g := by
  cases r with
  | nil => exact h.2.1
  | cons b r => exact h.1
theorem Node.same : ∀ {p q : List Int} {g : Nat}, p.length = q.length → Node w y P g0 p g → Node w y P g0 q g → p = q
  | [], [], _, _, _, _ => rfl
  | [], _ :: _, _, hl, _, _ => by simp at hl
  | _ :: _, [], _, hl, _, _ => by simp at hl
  | a :: p, b :: q, g, hl, h, k => by
    obtain ⟨h1, c0, c1, hn⟩ := h.cells
    obtain ⟨k1, d0, d1, kn⟩ := k.cells
    rw [c0] at d0
    rw [c1] at d1
    simp only [Option.some.injEq, Value.pointer.injEq, Addr.mk.injEq, and_true] at d0
    simp only [Option.some.injEq, Value.int.injEq, true_and] at d1
    subst d0 d1
    rw [Node.same (by simpa using hl) hn kn]
end
theorem node_info : ∃ j, Tryd.prog.info? 52 = some j ∧ j.size ≠ 0 := by
  obtain ⟨j, h1, h2⟩ := Option.map_eq_some_iff.1 (show (Tryd.prog.info? 52).map (·.size) = some 3 by kernel_rfl)
  exact ⟨j, h1, by rw [h2]; decide⟩
theorem neq_same (w : World) (g : Nat) : (binOp .neq 48 (.pointer (some ⟨g, 0, none⟩)) (.pointer (some ⟨g, 0, none⟩))).run Tryd.prog w = .ok (.bool false) w := by
  obtain ⟨j, h1, _⟩ := node_info
  exact Lib.run_neq_ptr_same w _ Tryd.underlying48 h1
theorem neq_other {y : Nat → Int} {P : Nat → Prop} {g0 : Nat} {p q : List Int} {g h : Nat} (w : World) (hp : Node w y P g0 p g) (hq : Node w y P g0 q h) (hne : g ≠ h) :
    (binOp .neq 48 (.pointer (some ⟨g, 0, none⟩)) (.pointer (some ⟨h, 0, none⟩))).run Tryd.prog w = .ok (.bool true) w := by
  obtain ⟨j, h1, h2⟩ := node_info
  obtain ⟨ca, ta, ra, _⟩ := hp.row
  obtain ⟨cb, tb, rb, _⟩ := hq.row
  have hx : ∀ d : Nat, (Op.equalIn (d + 1) 48 (.pointer (some ⟨g, 0, none⟩)) (.pointer (some ⟨h, 0, none⟩))).run Tryd.prog w = .ok false w := fun d => by
    simp [Op.equalIn, run_underlying Tryd.underlying48, sizeOf, typeInfo, h1, h2, run_sameAddr_other w (show (⟨g, 0, none⟩ : Addr) ≠ ⟨h, 0, none⟩ by intro e; injection e with e; exact hne e) ra rb]
  simp only [binOp]
  simp [Op.equal, Op.maxDepth, hx 9999]

/-- what the comparing loop holds: 'first' decides where the rests are one -/
def pre (f : Bool) (r s : List Int) : Bool := if r = s then f else T.lt r s
theorem pre_start (p q : List Int) : pre false p q = T.lt p q := by
  unfold pre
  by_cases h : p = q
  · subst h; rw [if_pos rfl, lt_irrefl]
  · rw [if_neg h]
theorem pre_step (f : Bool) (a b : Int) (r s : List Int) : pre (if a = b then f else decide (a < b)) r s = pre f (a :: r) (b :: s) := by
  unfold pre
  by_cases h : r = s
  · subst h
    by_cases k : a = b
    · subst k; simp
    · simp [k, T.lt]
  · rw [if_neg h, if_neg (fun e => h (by injection e))]
    simp [T.lt, h]

set_option maxHeartbeats 1000000 in
theorem precedes_c {P : Nat → Prop} {g0 g h : Nat} {y : Nat → Int} {p q : List Int} (w : World) (hp : Node w y P g0 p g) (hq : Node w y P g0 q h) (hl : p.length = q.length) :
    Calls Tryd.prog 48 #[.pointer (some ⟨g, 0, none⟩), .pointer (some ⟨h, 0, none⟩)] w fun e w' => e = .returned (.bool (T.lt p q)) ∧ ∃ n, w' = w.drewN n := by
  have H := hid (pre_start p q)
  generalize hL : T.lt p q = L at H
  have HL := hid hL
  clear hL
  go_enter Tryd.func48, Tryd.ntmps48
  go_wp2
  go_loopg [0, 1, 5] p.length (fun k a b f wr => ∃ (r s : List Int) (i j : Nat) (fb : Bool), a = .pointer (some ⟨i, 0, none⟩) ∧ b = .pointer (some ⟨j, 0, none⟩) ∧ f = .bool fb ∧ Node wr y P g0 r i ∧ Node wr y P g0 s j ∧ Hid (r.length = k ∧ s.length = k) ∧ Hid (pre fb r s = L) ∧ ∃ n, Hid (wr = w.drewN n))
  case atStart => exact ⟨p, q, g, h, false, rfl, rfl, rfl, hp, hq, ⟨rfl, hl.symm⟩, H.out, 0, rfl⟩
  case round =>
    obtain ⟨r, s, i, j, fb, rfl, rfl, rfl, hr, hs, hlen, hpre, n, hw⟩ := hrel
    clear hp hq
    by_cases hij : i = j
    · subst hij
      have hrs : r = s := Node.same (hlen.out.1.trans hlen.out.2.symm) hr hs
      have ne := neq_same wr i
      have hfb : Hid (fb = L) := by have := hpre.out; rw [hrs] at this; unfold pre at this; rwa [if_pos rfl] at this
      clear hrs
      go_wp2
      go_ret
      exact ⟨ret_bool hfb.out, n, hw.out⟩
    · cases r with
      | nil =>
        cases s with
        | nil => exact absurd (hr.1.trans hs.1.symm) hij
        | cons b s => have := hlen.out; simp at this; omega
      | cons a r =>
        cases s with
        | nil => have := hlen.out; simp at this; omega
        | cons b s =>
          have ne := neq_other wr hr hs hij
          obtain ⟨i', c0, c1, hr'⟩ := hr.cells
          obtain ⟨j', d0, d1, hs'⟩ := hs.cells
          clear hr hs
          have hst := hid ((pre_step fb a b r s).trans hpre.out)
          have hl2 : Hid (gk = r.length + 1 ∧ r.length = s.length) := by have := hlen.out; simp only [List.length_cons] at this; exact ⟨by omega, by omega⟩
          clear hpre hlen
          by_cases hab : a = b
          · subst hab
            go_wp2
            go_quiet (fail)
            go_wp2
            go_quiet (fail)
            go_wp2
            go_roundg r.length
            case measure => have := hl2.out.1; omega
            case rel => exact ⟨r, s, i', j', fb, rfl, rfl, rfl, (hr'.drewN _).drewN _, (hs'.drewN _).drewN _, ⟨rfl, hl2.out.2.symm⟩, by show _ = _; have := hst.out; simpa using this, _, by show _ = _; rw [hw.out, drawn_add, drawn_add]⟩
          · have n1 : (a != b) = true := by simpa using hab
            have HAB := hid hab
            clear hab
            go_wp2
            go_quiet (fail)
            go_wp2
            go_quiet (fail)
            go_wp2
            go_quiet (fail)
            go_wp2
            go_roundg r.length
            case measure => have := hl2.out.1; omega
            case rel => exact ⟨r, s, i', j', decide (a < b), rfl, rfl, rfl, ((hr'.drewN _).drewN _).drewN _, ((hs'.drewN _).drewN _).drewN _, ⟨rfl, hl2.out.2.symm⟩, by have := hst.out; rwa [if_neg HAB.out] at this, _, by show _ = _; rw [hw.out, drawn_add, drawn_add, drawn_add]⟩

set_option maxHeartbeats 1000000 in
theorem better_nil (g : Nat) (w : World) : Calls Tryd.prog 47 #[.pointer (some ⟨g, 0, none⟩), .pointer none] w fun e w' => e = .returned (.bool true) ∧ ∃ n, w' = w.drewN n := by
  go_enter Tryd.func47, Tryd.ntmps47
  go_wp2
  go_quiet (fail)
  go_wp2
  go_quiet (fail)
  go_wp2
  go_ret
  exact ⟨rfl, _, drawn_add _ _ _⟩
set_option maxHeartbeats 1000000 in
theorem better_c {P : Nat → Prop} {g0 g h : Nat} {y : Nat → Int} {p q : List Int} (w : World) (hp : Node w y P g0 p g) (hq : Node w y P g0 q h) (hl : p.length = q.length) :
    Calls Tryd.prog 47 #[.pointer (some ⟨g, 0, none⟩), .pointer (some ⟨h, 0, none⟩)] w fun e w' => e = .returned (.bool (lessB y p q)) ∧ ∃ n, w' = w.drewN n := by
  have c1 := hp.cost
  have c2 := hq.cost
  by_cases hc : T.cost y p = T.cost y q
  · have H : Hid (lessB y p q = T.lt p q) := by show _ = _; unfold lessB; simp [hc]
    have PC := hid (fun n => precedes_c (w.drewN n) (hp.drewN n) (hq.drewN n) hl)
    rw [← hc] at c2
    generalize T.cost y p = c at c1 c2
    clear hp hq hl hc
    go_enter Tryd.func47, Tryd.ntmps47
    go_wp2
    go_quiet (fail)
    go_wp2_with fail
    refine (PC.out _).mono ?_
    rintro e w' ⟨rfl, n, rfl⟩
    go_wp2_with fail
    go_ret
    exact ⟨ret_bool H.out.symm, _, rfl⟩
  · have H : Hid (lessB y p q = decide (T.cost y p < T.cost y q)) := by show _ = _; unfold lessB; simp [hc]
    generalize T.cost y p = a at c1 hc H
    generalize T.cost y q = b at c2 hc H
    have n1 : (a != b) = true := by simpa using hc
    clear hp hq hl hc
    go_enter Tryd.func47, Tryd.ntmps47
    go_wp2
    go_quiet (fail)
    go_wp2
    go_quiet (fail)
    go_wp2
    go_ret
    exact ⟨ret_bool H.out.symm, _, drawn_add _ _ _⟩

end Go.Proofs.YtnlacmbmmlmpjaaDoor
