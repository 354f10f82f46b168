/-
  The drawn inputs of the laws on filters: lists of numbers in range, and numbers in range.
-/
import Derived.Test.YtokgonhfmidbeaaDrawSeq
namespace Go.Proofs.Ytokgonhfmidbeaa
open Go.RowKit




def DrawFindPatternd (w : World) (e : Ending) (w' : World) : Prop :=
  ∃ v o v2 o2, e = .returned (.tuple #[v, v2]) ∧ Own w.heap.size w'.heap.size w' v o ∧ (o.length ≤ 200 ∧ ∀ x ∈ o, (-1001 : Int) ≤ x ∧ x ≤ 1001) ∧ Own w.heap.size w'.heap.size w' v2 o2 ∧ (o2.length ≤ 65 ∧ ∀ x ∈ o2, (-1001 : Int) ≤ x ∧ x ≤ 1001) ∧ Below w.heap.size w w'

set_option maxHeartbeats 1000000 in
theorem DrawFindPattern_c {C : Nat} {A : Option Addr} {n c : Nat} (w : World) (h : RdB C w A n c) (hC : C ≤ w.heap.size) :
    Calls Try.prog 6 #[.slice A n c] w (DrawFindPatternd w) := by
  have H := hid (l20Open_c w h hC)
  clear h
  go_enter Try.func6, Try.ntmps6
  go_wp2_with fail
  refine H.out.mono ?_
  rintro e w1 ⟨rfl, r, b1, l1⟩
  clear H
  have gr := World.grownBy.refl w1 (some w.heap.size)
  go_wp2_with fail
  refine (l20Sequence_c 5 14 _ r (by omega) (by omega) (by omega) (by omega)).mono ?_
  rintro e w2 ⟨v2, q, rfl, Oq, ⟨lq, hq⟩, r2, g2⟩
  have t2 := g2.size
  have gr := grown_trans gr g2
  clear g2 r
  have r := r2
  clear r2
  go_wp2_with fail
  refine (l20Sequence_c 6 14 _ r (by omega) (by omega) (by omega) (by omega)).mono ?_
  rintro e w3 ⟨v3, o, rfl, Oo, ⟨lo, ho⟩, r3, g3⟩
  have t3 := g3.size
  have Oq := Oq.apart g3 (fun k hk => by injection hk; omega)
  have gr := grown_trans gr g3
  clear g3 r
  have r := r3
  clear r3
  go_wp2_with fail
  refine (pick_c 2 _ r (by omega) (by omega) (by omega)).mono ?_
  rintro e w4 ⟨z, rfl, ⟨za, zb⟩, r4, g4, s4⟩
  have t4 := g4.size
  have Oq := Oq.apart g4 (fun k hk => by injection hk; omega)
  have Oo := Oo.apart g4 (fun k hk => by injection hk; omega)
  have gr := grown_trans gr g4
  clear g4 r
  have r := r4
  clear r4
  by_cases hz : z = 0
  case neg =>
    have hz' : (z == 0) = false := by simpa using hz
    clear hz
    have bb := b1.trans (below_of_grown gr (Nat.le_refl _) l1)
    go_wp2_with fail
    go_ret2
    exact ⟨_, _, _, _, rfl, Oo.fit (by omega) (by omega), ⟨by omega, ho⟩, Oq.fit (by omega) (by omega), ⟨lq, hq⟩, bb⟩
  subst hz
  go_wp2_with (at_builtin; refine wpl_append intSl _ rfl (.tmp 16) (.tmp 17) rfl _ _ _ _ _ _ _ rfl rfl Oo Oq.rd (by first | omega | (simp only [List.length_append]; omega)) (by omega) ?_; intro vx wx Ox gx hxx)
  have txwx := gx.size
  have r := r.grown gx (fun k hk => by have := Oo.lt k hk; omega)
  have Oq := Oq.apart gx (fun k hk => by have := Oo.lt k hk; omega)
  have gr := grown_own gr gx (fun k hk => by have := Oo.lt k hk; omega)
  clear Oo gx hxx
  go_wp2_with fail
  refine (l20Sequence_c 5 0 _ r (by omega) (by omega) (by omega) (by omega)).mono ?_
  rintro e w5 ⟨v5, s, rfl, Os, ⟨ls, hs⟩, r5, g5⟩
  have t5 := g5.size
  have Oq := Oq.apart g5 (fun k hk => by injection hk; omega)
  have Ox := Ox.apart g5 (fun k hk => by injection hk; omega)
  have gr := grown_trans gr g5
  clear g5 r
  have r := r5
  clear r5
  go_wp2_with (at_builtin; refine wpl_append intSl _ rfl (.tmp 18) (.tmp 20) rfl _ _ _ _ _ _ _ rfl rfl Ox Os.rd (by first | omega | (simp only [List.length_append]; omega)) (by omega) ?_; intro vx wy Oy gx hxx)
  have txwy := gx.size
  have r := r.grown gx (fun k hk => by have := Ox.lt k hk; omega)
  have Oq := Oq.apart gx (fun k hk => by have := Ox.lt k hk; omega)
  have Os := Os.apart gx (fun k hk => by have := Ox.lt k hk; omega)
  have gr := grown_own gr gx (fun k hk => by have := Ox.lt k hk; omega)
  clear Ox gx hxx
  have bb := b1.trans (below_of_grown gr (Nat.le_refl _) l1)
  have hin : ∀ x ∈ o ++ q ++ s, (-1001 : Int) ≤ x ∧ x ≤ 1001 := by
    intro x hx
    simp only [List.mem_append] at hx
    rcases hx with (hx | hx) | hx
    · exact ho x hx
    · exact hq x hx
    · exact hs x hx
  go_wp2_with fail
  go_ret2
  exact ⟨_, _, _, _, rfl, Oy.fit (by omega) (by omega), ⟨by simp only [List.length_append]; omega, hin⟩, Oq.fit (by omega) (by omega), ⟨lq, hq⟩, bb⟩

end Go.Proofs.Ytokgonhfmidbeaa
