/-
  The law FnPatternSelf, walked: for every input the call returns true, and nothing that was there has changed.
-/
import Derived.Test.YtokgonhfmidbeaaPatLaw
import Derived.Test.YtokgonhfmidbeaaApz
namespace Go.Proofs.Ytokgonhfmidbeaa
open Go.RowKit

set_option maxHeartbeats 2000000 in
theorem FnPatternSelf_walk (a0 : Option Addr) (len0 cap0 : Nat) (z0 : List Int) (a1 : Option Addr) (len1 cap1 : Nat) (z1 : List Int) (w : World) (w0 : IsRow .u8 w a0 len0 cap0 z0) (w1 : IsRow .u8 w a1 len1 cap1 z1) :
    Calls Try.prog 3 #[.slice a0 len0 cap0, .slice a1 len1 cap1] w fun e w' => e = .returned (.bool true) ∧ Below w.heap.size w w' := by
  by_cases hl0 : len0 ≤ 1048576
  case neg =>
    have hl0' : 1048576 < len0 := by omega
    go_enter Try.func3, Try.ntmps3
    go_wp2
    go_ret
    exact ⟨rfl, Below.refl _ _⟩
  by_cases hl1 : len1 ≤ 1048576
  case neg =>
    have hl1' : 1048576 < len1 := by omega
    go_enter Try.func3, Try.ntmps3
    go_wp2
    go_ret
    exact ⟨rfl, Below.refl _ _⟩
  have B0 := w0.bytes
  clear w0
  have B1 := w1.bytes
  clear w1
  have bb := Below.refl w.heap.size w
  have hti : Try.prog.underlying 3 = some (.int .i64) := Try.underlying3
  have hc1 := B1.le
  have hm1 := B1.cap
  clear B1
  have hc0 := B0.le
  have hm0 := B0.cap
  go_enter Try.func3, Try.ntmps3
  go_wp2_with fail
  refine (DrawFindPattern_r _ B0 (Nat.le_refl _)).mono ?_
  rintro e w1_ ⟨v1, o1, u1, ps, rfl, OO, _, OP, ⟨hl65, hl6, hin⟩, b1⟩
  have t1 := b1.size
  have bb := bb.trans (b1.mono (by omega))
  clear b1
  clear OO hin
  cases hs : seqOk ps with
  | false =>
    have SQ := implSeq_t _ OP.rd (by omega)
    rw [hs] at SQ
    have SQ := hid SQ
    clear hs
    go_wp2_with fail
    refine SQ.out.mono ?_
    rintro e wq ⟨rfl, bq⟩
    have tq := bq.size
    have bb := bb.trans (bq.mono (by omega))
    go_wp2_with fail
    refine (alive_c _).mono ?_
    rintro e wr ⟨rfl, br⟩
    have bb := bb.trans (br.mono (by omega))
    go_wp2_with fail
    go_ret
    exact ⟨rfl, bb⟩
  | true =>
    have SQ := implSeq_t _ OP.rd (by omega)
    rw [hs] at SQ
    have SQ := hid SQ
    have hlen : ps.length ≤ 6 := by
      have := seqOk_len hs
      omega
    have hi0 : InI 0 := ⟨by omega, by omega⟩
    have ec := corr_yes (xs := ps) (ys := ps) (i := 0) (by simp [corrOk, hs, inB_iff])
    have ec : corr ps ps 0 = dotF ps ps 0 := ec
    go_wp2_with fail
    refine SQ.out.mono ?_
    rintro e w2_ ⟨rfl, b2⟩
    have t2 := b2.size
    clear SQ
    have OP := OP.below b2 (by omega)
    have bb := bb.trans (b2.mono (by omega))
    clear b2
    have CR := hid (implCorr_t _ OP.rd OP.rd (by omega) (by omega) hi0)
    by_cases h0 : corr ps ps 0 = 0
    case pos =>
      rw [h0] at CR
      clear ec h0
      go_wp2_with fail
      refine CR.out.mono ?_
      rintro e wq ⟨rfl, bq⟩
      have tq := bq.size
      have bb := bb.trans (bq.mono (by omega))
      go_wp2_with fail
      refine (alive_c _).mono ?_
      rintro e wr ⟨rfl, br⟩
      have bb := bb.trans (br.mono (by omega))
      go_wp2_with fail
      go_ret
      exact ⟨rfl, bb⟩
    obtain ⟨N, hN⟩ : ∃ N, N = len1 % 9 := ⟨_, rfl⟩
    have hN9 : N < 9 := by omega
    have eN : (len1 : Int) % 9 = (N : Int) := by omega
    have l1b : (len1 : Int) ≤ 1048576 := by omega
    clear hN
    have hd0 : dotF ps ps 0 ≠ 0 := fun e => h0 (by rw [ec, e])
    have FP := hid (pat_fp (n := N) hs (by omega) hd0)
    have PC := hid (pat_corr (n := N) hs (by omega))
    have n0 : (corr ps ps 0 == 0) = false := by simpa using h0
    have HL := hid hlen
    clear ec hd0 h0 hs
    have CRV : Hid (∃ c0, corr ps ps 0 = c0) := ⟨_, rfl⟩
    obtain ⟨c0, hc0'⟩ := CRV.out
    rw [hc0'] at CR n0
    have HC0 := hid hc0'
    clear hc0' CRV
    go_wp2_with fail
    refine CR.out.mono ?_
    rintro e w3_ ⟨rfl, b3⟩
    have t3 := b3.size
    clear CR
    have OP := OP.below b3 (by omega)
    have bb := bb.trans (b3.mono (by omega))
    clear b3
    go_wp2_with (first | (refine wpl_make intSl _ rfl (.tmp 36) (.tmp 36) rfl _ _ N rfl rfl eN eN (by omega) ?_; intro wa oa ba hlta; have ta := ba.size; have OPa := OP.below ba (by omega)) | (at_builtin; refine wpl_append intSl _ rfl (.tmp 37) (.tmp 38) rfl _ _ _ _ _ _ _ rfl rfl oa OPa.rd (by simp; have := HL.out; omega) (by omega) ?_; intro vb wb ob gb _; have OPb := OPa.apart gb (fun k hk => by have := oa.lt k hk; omega); have bb2 := below_of_own oa gb (Nat.le_refl _) (by omega); have tb := bb2.size) | (at_builtin; refine wpl_apz intSl hti _ rfl (.tmp 39) (.const (.int .i64 9)) rfl _ _ _ _ 9 rfl rfl (by omega) ob (by simp; have := HL.out; omega) (by omega) ?_; intro vc wc oc gc; have OPc := OPb.apart gc (fun k hk => by have := ob.lt k hk; omega); have bc := bb2.trans (below_of_own ob gc (Nat.le_refl _) (by omega)); have tc := bc.size))
    have bb := bb.trans ((ba.trans (bc.mono (by omega))).mono (by omega))
    have oc : Own w3_.heap.size wc.heap.size wc vc (pat N ps) := oc
    clear oa ob OPa OPb gb gc ba bc bb2 OP
    have IF := implFind_t _ oc.rd OPc.rd (by omega) (by omega)
    rw [FP.out] at IF
    have IF := hid IF
    refine IF.out.mono ?_
    rintro e wd ⟨rfl, bd⟩
    have td := bd.size
    have oc := oc.below bd (by omega)
    have OPc := OPc.below bd (by omega)
    have bb := bb.trans (bd.mono (by omega))
    clear bd IF
    have SF := specFind_t _ oc.rd OPc.rd (by omega) (by omega)
    rw [FP.out] at SF
    have SF := hid SF
    go_wp2_with fail
    refine SF.out.mono ?_
    rintro e we ⟨rfl, be⟩
    have te := be.size
    have oc := oc.below be (by omega)
    have OPc := OPc.below be (by omega)
    have bb := bb.trans (be.mono (by omega))
    clear be SF
    have IC := implCorr_t (i := (N : Int)) _ oc.rd OPc.rd (by omega) (by omega) ⟨by omega, by omega⟩
    rw [PC.out, HC0.out] at IC
    have IC := hid IC
    go_wp2_with fail
    refine IC.out.mono ?_
    rintro e wf ⟨rfl, bf⟩
    have tf := bf.size
    have OPc := OPc.below bf (by omega)
    have bb := bb.trans (bf.mono (by omega))
    clear bf IC
    have ID := implCorr_t (i := 0) _ OPc.rd OPc.rd (by omega) (by omega) hi0
    rw [HC0.out] at ID
    have ID := hid ID
    go_wp2_with fail
    refine ID.out.mono ?_
    rintro e wg ⟨rfl, bg⟩
    have bb := bb.trans (bg.mono (by omega))
    clear ID
    go_wp2_with fail
    go_ret
    exact ⟨rfl, bb⟩

end Go.Proofs.Ytokgonhfmidbeaa
