/- render.Inline. -/
import Derived.Test.YtghigiapfmlkbaaGreatDoorR17
namespace Go.Proofs.YtghigiapfmlkbaaGreatDoor
open Go.RowKit
attribute [local go_sem ↓] Go.wp_at_zero Go.wp_at_succ

set_option maxRecDepth 100000 in
set_option maxHeartbeats 16000000 in
theorem rinline_any (vg : Value) (g : List Th) (w : World) (hT : Tabs w) (hg : GR w vg g) (hs : Small g) (r : Bs × Nat) (h : rinlineM g = some r) :
    Calls Tryz.prog 16 #[vg] w fun e w' => e = .returned (.tuple #[.string ⟨r.1.toArray⟩, .int .i64 (r.2 : Nat)]) ∧ Below w.heap.size w w' := by
  have cv := isoValid_any vg g w hT hg hs.len hs.sum hs.st
  unfold rinlineM at h
  by_cases hv : validM g = true
  · rw [hv] at cv
    have hk := valid_kids g hv
    have csh := fun W (h : Below w.heap.size w W) => shared_any vg g W (hg.below h) hk hs.len hs.sum
    have hg0 : g ≠ [] := fun e => by subst e; simp [validM] at hv
    have hpos := canon_pos g hg0
    have cst := fun W (h : Below w.heap.size w W) => start_any vg g true W (hg.below h) hk hs.len hs.sum hs.clen hs.csum hs.sh
    have hks := canon_kids_lt g
    have hkn : ∀ t ∈ canonM g, t.kids.length ≤ 1000000 := fun t ht => Nat.le_trans (canon_kids_len g t ht) hs.sum
    have hcst := hs.cst
    have hckd := hs.ckind
    have hclen := hs.clen
    have han := anchor_len (canonM g)
    obtain ⟨A, cp, rfl⟩ := hg.shape
    by_cases hsh : 0 < (sharedM g).length
    · rw [if_pos (.inr hsh)] at h
      cases h
      generalize sharedM g = S at *
      have hsi : (0 : Int) < S.length := by omega
      clear hv cst hg0 hpos hks hkn hcst hckd hclen han hg hs hk
      go_enter Tryz.func16, Tryz.ntmps16
      go_wp2_with fail
      refine cv.mono ?_
      rintro _ w1 ⟨rfl, hb1⟩
      go_wp2_with fail
      refine (csh w1 hb1).mono ?_
      rintro _ w2 ⟨v, rfl, hS, hb2⟩
      obtain ⟨AS, cS, rfl⟩ := hS.shape
      have hb3 := hb1.trans (hb2.mono hb1.size)
      clear cv csh hS
      go_wp2
      go_ret2
      exact ⟨rfl, hb3⟩
    · have hS0 : sharedM g = [] := List.length_eq_zero_iff.1 (by omega)
      rw [if_neg (by rintro (h1 | h1); exact h1 hv; exact hsh h1)] at h
      dsimp only at h
      rw [hS0] at csh
      generalize canonM g = c at *
      generalize anchorM c = an at *
      obtain ⟨⟨d, metd⟩, hd, h⟩ := Option.bind_eq_some_iff.1 h
      dsimp only at h
      have hdl := deepM_le c _ _ _ _ _ hd
      have H := Lib.hid h
      clear h hv hk hg0 hS0 hsh
      have hmm := @run_makeMap Tryz.prog
      go_enter Tryz.func16, Tryz.ntmps16
      go_wp2_with fail
      refine cv.mono ?_
      rintro _ wa ⟨rfl, hba⟩
      go_wp2_with fail
      refine (csh wa hba).mono ?_
      rintro _ w1 ⟨v, rfl, hS, hba1⟩
      obtain ⟨AS, cS, rfl⟩ := hS.shape
      have hb1 := hba.trans (hba1.mono hba.size)
      clear cv csh hS hba hba1
      go_wp2_with fail
      refine (cst w1 hb1).mono ?_
      rintro _ w2 ⟨w0, b, bA, bM, vc, rfl, pl, hL, hb10, hb12⟩
      clear cst
      have hT0 := (hT.below hb1).below hb10
      have hw10 := hb10.size
      have hbw2 := hb1.trans (hb12.mono hb1.size)
      have hw1 := hb1.size
      have hbD : w2.heap.size ≠ b := by
        obtain ⟨p, buf, hb, _⟩ := hL.out
        have := lt_of_block hb
        omega
      have hw02 := hL.wr.frame.size
      have hbm : Below w2.heap.size w2 (w2.alloc (.map #[] 0)) := (Below.refl _ _).alloc (Nat.le_refl _) _
      have cd := deep_any w0 b bA bM w2.heap.size vc c true hbD hw02 (by omega) hks hkn (c.length + 2) (by omega) 0 [] d metd (w2.alloc (.map #[] 0)) hd hpos (hL.wr.below hbm) (MetAt.made w2 c.length)
      go_wp2_with fail
      refine cd.mono ?_
      rintro _ w3 ⟨rfl, _, hg3⟩
      have hb23 : Below w2.heap.size w2 w3 := below_row hbm hbm.size hg3 (fun k hk => by cases hk; exact Nat.le_refl _)
      have hL3 := hL.below hb23
      have hbw3 := hbw2.trans (hb23.mono hbw2.size)
      clear cd hL hbw2 hbm hg3 hmm hd
      by_cases hdd : 64 < d
      · have hr := H.out
        rw [if_pos hdd] at hr
        cases hr
        have hddb : decide ((64 : Int) < d) = true := by simp; omega
        clear H
        go_wp2
        go_ret2
        exact ⟨rfl, hbw3⟩
      · have hddb : decide ((64 : Int) < d) = false := by simp; omega
        have hr := H.out
        rw [if_neg hdd] at hr
        obtain ⟨⟨r1, met1⟩, hin, hr1⟩ := Option.map_eq_some_iff.1 hr
        dsimp only at hr1
        subst hr1
        have cin := inline_any w0 b w0.heap.size bA bM vc c true an hT0 pl (by omega) hks hkn hcst han hckd (c.length + 2) 0 [] r1 met1 w3 hin hpos ⟨hL3.wr, hL3.an, hL3.met⟩
        clear H hr hin
        rw [show ((0 : Nat) : Int) = 0 from rfl] at cin
        go_wp2_with fail
        refine cin.mono ?_
        rintro _ w4 ⟨rfl, _, hg4⟩
        have hbw4 := below_row hbw3 hbw3.size hg4 (fun k hk => by cases hk; exact Nat.le_trans hw1 (Nat.le_trans hw10 pl.m0))
        clear cin
        go_wp2
        go_ret2
        exact ⟨rfl, hbw4⟩
  · have hv2 : validM g = false := by simpa using hv
    rw [if_pos (by left; rw [hv2]; simp)] at h
    cases h
    rw [hv2] at cv
    obtain ⟨A, cp, rfl⟩ := hg.shape
    clear hv hT hg hs
    go_enter Tryz.func16, Tryz.ntmps16
    go_wp2_with fail
    refine cv.mono ?_
    rintro _ w1 ⟨rfl, hb1⟩
    clear cv
    go_wp2
    go_ret2
    exact ⟨rfl, hb1⟩
end Go.Proofs.YtghigiapfmlkbaaGreatDoor
