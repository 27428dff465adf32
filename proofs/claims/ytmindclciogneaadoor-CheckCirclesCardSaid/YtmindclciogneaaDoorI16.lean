/- A collection: what begins with a bracket. -/
import Derived.Test.YtmindclciogneaaDoorI15
import Derived.Test.YtmindclciogneaaDoorP5
import Derived.Deep.LoopGhost
namespace Go.Proofs.YtmindclciogneaaDoor
open Go.RowKit

section
variable {w0 w : World} {B R : Nat} {A : Option Addr} {c : Nat} {b : Bs} {l : List (Nd × Value)} {g cap : Nat}
theorem RG.more {i : Nat} {p : Nd × Value} (h : RG w0 w B R A c b (l.set i p) g cap) (hi : i < l.length) (j : Nat) (q : Nd × Value) (u : Value) (hj : j < 10)
    (he : (ndCells p.1 p.2).set j u = ndCells q.1 q.2) (h2 : q.2 = p.2) (hk : q.1.kids = p.1.kids) : RG w0 (w.setCell ⟨g, i * 10 + j, none⟩ u) B R A c b (l.set i q) g cap := by
  have := h.store i j p q u (by simp [hi]) hj he h2 hk
  rwa [List.set_set] at this
theorem RG.neg (h : RG w0 w B R A c b l g cap) : g ≠ R := fun e => by
  have h1 := h.at_
  obtain ⟨_, _, _, cur, h2, _⟩ := h.row
  rw [e, h1] at h2
  simp at h2
end

set_option maxRecDepth 20000 in
set_option maxHeartbeats 400000 in
theorem coll_step (F : Nat) (hI : ∀ k, k < F → ItemC k ∧ PairC k) : CollC (F + 1) := by
  intro w0 w B R A c b l i at_ depth e m h hi hat hd hm hwt
  obtain ⟨hdeep, hflat⟩ := coll_inv _ _ _ _ _ _ _ _ hm
  clear hm
  by_cases h64 : 64 ≤ depth
  · have HF := Lib.hid (hdeep h64)
    have hb : decide ((depth : Int) ≥ 64) = true := by simp; omega
    clear hdeep hflat hI
    go_enter Tryd.func119, Tryd.ntmps119
    go_wp2
    go_ret
    obtain ⟨rfl, rfl⟩ := HF.out
    exact ⟨rfl, l, rfl, h⟩
  · obtain ⟨l1, hinv⟩ := hflat h64
    have hb : decide ((depth : Int) ≥ 64) = false := by simp; omega
    have hbig := h.big
    have c1 := is_any R A c b at_ [123] w h.rb (by omega)
    have HI := Lib.hid hI
    have HV := Lib.hid hinv
    obtain ⟨g, cap, h3⟩ := h.rg (by omega)
    obtain ⟨y, hy, hym⟩ := map_at l i hi
    have hc1 := h3.lst
    have hc2 : w.cell? ⟨g, i * 10, none⟩ = some (.int .i64 y.1.kind) := h3.cell i 0 y hy (by omega)
    have hc3 : w.cell? ⟨g, i * 10 + 1, none⟩ = some (.int .i64 y.1.style) := h3.cell i 1 y hy (by omega)
    have hf0 : w.frozen? ⟨g, i * 10, none⟩ = false := h3.free (i * 10)
    have hf1 := h3.free (i * 10 + 1)
    have hii : (i : Int) < l.length := by omega
    have hRg := h3.neg
    clear hdeep hflat hI hinv
    generalize isB b at_ [123] = mp at *
    have HY := Lib.hid hy
    have HYM := Lib.hid hym
    clear hy hym
    go_enter Tryd.func119, Tryd.ntmps119
    go_wp2_with fail
    refine c1.mono ?_
    rintro x w1 ⟨rfl, rfl⟩
    clear c1
    cases mp
    · go_wp2
      go_region
      have h4 : RG w0 ((w.setCell ⟨g, i * 10, none⟩ (.int .i64 2)).setCell ⟨g, i * 10 + 1, none⟩ (.int .i64 7)).drew B R A c b (l.set i ({ y.1 with kind := 2, style := 7 }, y.2)) g cap :=
        ((h3.store i 0 y ({ y.1 with kind := 2 }, y.2) (.int .i64 2) HY.out (by omega) rfl rfl rfl).more hi 1 ({ y.1 with kind := 2, style := 7 }, y.2) (.int .i64 7) (by omega) rfl rfl rfl).drew 1
      have HL1 : Hid ((l.set i ({ y.1 with kind := 2, style := 7 }, y.2)).map (·.1) = l1) := Lib.hid (by
        rw [HV.out.first, map_set, HYM.out]
        rfl)
      have hi1 : i < (l.set i (({ y.1 with kind := 2, style := 7 } : Nd), y.2)).length := by rw [List.length_set]; exact hi
      generalize ((w.setCell ⟨g, i * 10, none⟩ (.int .i64 2)).setCell ⟨g, i * 10 + 1, none⟩ (.int .i64 7)).drew = w2 at *
      generalize l.set i (({ y.1 with kind := 2, style := 7 } : Nd), y.2) = l2 at *
      clear hc1 hc2 hc3 hf0 hf1 hii h3 h
      have csk := skip_any R A c b (at_ + 1) w2 h4.rb (by omega)
      have hs1 := skipB_bound b (at_ + 1) (by omega)
      have he := HV.out.ends
      have hmo := HV.out.more
      simp only [Int.natCast_add, Int.natCast_one] at csk
      have HE := Lib.hid he
      have HMO := Lib.hid hmo
      clear he hmo HV
      generalize skipB b (at_ + 1) = at1 at *
      go_wp2_with fail
      refine csk.mono ?_
      rintro x w' ⟨rfl, rfl⟩
      clear csk
      have ce := is_any R A c b at1 [93] w2 h4.rb (by omega)
      have hlt := isB_lt b at1 [93]
      have hq : isB b at1 (endS false) = isB b at1 [93] := rfl
      rw [hq] at HE HMO
      have HLT := Lib.hid hlt
      clear hq hlt
      generalize isB b at1 [93] = q at *
      go_wp2_with fail
      refine ce.mono ?_
      rintro x w' ⟨rfl, rfl⟩
      clear ce
      cases q
      · have HMQ : Hid (loopM F b i at1 depth false l1 = some (e, m)) := Lib.hid (HMO.out rfl)
        clear HE HLT HMO
        have hd64 : (depth : Int) < 64 := by omega
        go_wp2_with fail
        go_loopg [2, 11] F (fun k v2 v11 wr => ∃ (x : Nat) (l' : List (Nd × Value)), v2 = .int .i64 x ∧ k ≤ F ∧ x ≤ b.length ∧ RD w0 wr B R A c b l' ∧ i < l'.length ∧ loopM k b i x depth false (l'.map (·.1)) = some (e, m))
        case atStart => exact ⟨at1, l2, rfl, Nat.le_refl _, hs1, h4.rd, hi1, by rw [HL1.out]; exact HMQ.out⟩
        case round =>
          obtain ⟨x, l', rfl, hkF, hx, hr, hil, hlm⟩ := hrel
          rcases gk with _ | k
          · rw [loopM] at hlm; cases hlm
          obtain ⟨x1, e1, m1, hV⟩ := loop_inv _ _ _ _ _ _ _ _ _ hlm
          have hent : itemM k b i x depth (l'.map (·.1)) = some (x1, e1, m1) := hV.entry
          have c1 := (HI.out k (by omega)).1 w0 wr B R A c b l' i x depth x1 e1 m1 hr hil hx (by omega) hent (by have := hV.small; omega)
          have hx1 := hV.within hx
          have hgr := hV.grows
          rw [List.length_map] at hgr
          have HVV := Lib.hid hV
          clear hent hlm hV h4 HMQ HL1 HY HYM hi1
          go_wp2_with fail
          refine c1.mono ?_
          rintro _ w3 ⟨rfl, l3, hl3, h3⟩
          have hil3 : i < l3.length := by
            have h1 : l3.length = m1.length := by rw [← hl3, List.length_map]
            omega
          have HL3 := Lib.hid hl3
          clear c1 hr hl3 hgr
          by_cases he1 : e1 = 0
          · have hb1 : ((e1 : Int) != 0) = false := by subst he1; rfl
            have HE1 := Lib.hid he1
            have csk := skip_any R A c b x1 w3 h3.rb (by omega)
            have hs2 := skipB_bound b x1 hx1
            have hends := HVV.out.ends he1
            have hbad := HVV.out.bad he1
            have hmore := HVV.out.more he1
            have HENDS := Lib.hid hends
            have HBAD := Lib.hid hbad
            have HMORE := Lib.hid hmore
            clear he1 HVV hends hbad hmore
            generalize skipB b x1 = at2 at *
            go_wp2_with fail
            refine csk.mono ?_
            rintro _ w' ⟨rfl, rfl⟩
            clear csk
            have ce := is_any R A c b at2 [93] w3 h3.rb (by omega)
            have ce2 := is_any R A c b at2 [44] w3 h3.rb (by omega)
            have hlt := isB_lt b at2 [93]
            have hlt2 := isB_lt b at2 [44]
            have hq : isB b at2 (endS false) = isB b at2 [93] := rfl
            rw [hq] at HENDS HBAD HMORE
            have HLT := Lib.hid hlt
            have HLT2 := Lib.hid hlt2
            clear hq hlt hlt2
            generalize isB b at2 [93] = q at *
            generalize isB b at2 [44] = q2 at *
            go_wp2_with fail
            refine ce.mono ?_
            rintro _ w' ⟨rfl, rfl⟩
            clear ce
            cases q
            · go_wp2_with fail
              refine ce2.mono ?_
              rintro _ w' ⟨rfl, rfl⟩
              clear ce2
              cases q2
              · have HF : Hid (2 = e ∧ m1 = m) := Lib.hid (HBAD.out (by simp) (by simp))
                clear HENDS HBAD HMORE
                go_wp2
                go_ret
                obtain ⟨rfl, rfl⟩ := HF.out
                exact ⟨rfl, l3, HL3.out, h3⟩
              · have HMR : Hid (loopM k b i (skipB b (at2 + 1)) depth false m1 = some (e, m)) := Lib.hid (HMORE.out (by simp) (by simp))
                have hlt := HLT2.out rfl
                clear HENDS HBAD HMORE HLT HLT2
                have csk := skip_any R A c b (at2 + 1) w3 h3.rb (by omega)
                have hs3 := skipB_bound b (at2 + 1) (by omega)
                simp only [Int.natCast_add, Int.natCast_one] at csk
                generalize skipB b (at2 + 1) = at3 at *
                go_wp2_with fail
                refine csk.mono ?_
                rintro _ w' ⟨rfl, rfl⟩
                clear csk
                go_wp2
                go_roundg k
                case measure => omega
                case rel => exact ⟨at3, l3, rfl, by omega, hs3, h3, hil3, by rw [HL3.out]; exact HMR.out⟩
            · have HF := HENDS.out rfl
              have hlt := HLT.out rfl
              obtain ⟨y2, hy2, hym2⟩ := map_at l3 i hil3
              obtain ⟨g2, cap2, h3g⟩ := h3.rg (by omega)
              have hc1 := h3g.lst
              have hc6 : w3.cell? ⟨g2, i * 10 + 6, none⟩ = some (.int .i64 y2.1.stop) := h3g.cell i 6 y2 hy2 (by omega)
              have hf6 := h3g.free (i * 10 + 6)
              have hii : (i : Int) < l3.length := by omega
              have h5 := (h3g.store i 6 y2 ({ y2.1 with stop := at2 + 1 }, y2.2) (.int .i64 ((at2 + 1 : Nat) : Int)) hy2 (by omega) rfl rfl rfl).rd
              simp only [Int.natCast_add, Int.natCast_one] at h5
              have HF2 : Hid (0 = e ∧ (l3.set i ({ y2.1 with stop := at2 + 1 }, y2.2)).map (·.1) = m) := Lib.hid ⟨HF.1, by
                rw [map_set, ← hym2, HL3.out]
                exact HF.2⟩
              clear HF HENDS HBAD HMORE HLT HLT2 hym2 HL3 ce2
              go_wp2
              go_ret
              obtain ⟨rfl, rfl⟩ := HF2.out
              exact ⟨rfl, _, rfl, h5⟩
          · have hb1 : ((e1 : Int) != 0) = true := by
              simp only [bne_iff_ne, ne_eq]
              omega
            have HF : Hid (e1 = e ∧ m1 = m) := Lib.hid (HVV.out.err he1)
            clear HVV he1
            go_wp2
            go_ret
            obtain ⟨rfl, rfl⟩ := HF.out
            exact ⟨rfl, l3, HL3.out, h3⟩
      · have HF := HE.out rfl
        have hlt := HLT.out rfl
        obtain ⟨y2, hy2, hym2⟩ := map_at l2 i hi1
        have hc1 := h4.lst
        have hc6 : w2.cell? ⟨g, i * 10 + 6, none⟩ = some (.int .i64 y2.1.stop) := h4.cell i 6 y2 hy2 (by omega)
        have hf6 := h4.free (i * 10 + 6)
        have hii : (i : Int) < l2.length := by omega
        have h5 := (h4.store i 6 y2 ({ y2.1 with stop := at1 + 1 }, y2.2) (.int .i64 ((at1 + 1 : Nat) : Int)) hy2 (by omega) rfl rfl rfl).rd
        simp only [Int.natCast_add, Int.natCast_one] at h5
        have HF2 : Hid (0 = e ∧ (l2.set i ({ y2.1 with stop := at1 + 1 }, y2.2)).map (·.1) = m) := Lib.hid ⟨HF.1, by
          rw [map_set, ← hym2, HL1.out]
          exact HF.2⟩
        clear HF HE HMO hym2 HL1 HLT
        go_wp2
        go_ret
        obtain ⟨rfl, rfl⟩ := HF2.out
        exact ⟨rfl, _, rfl, h5⟩
    · go_wp2
      go_region
      have h4 : RG w0 ((w.setCell ⟨g, i * 10, none⟩ (.int .i64 3)).setCell ⟨g, i * 10 + 1, none⟩ (.int .i64 7)).drew B R A c b (l.set i ({ y.1 with kind := 3, style := 7 }, y.2)) g cap :=
        ((h3.store i 0 y ({ y.1 with kind := 3 }, y.2) (.int .i64 3) HY.out (by omega) rfl rfl rfl).more hi 1 ({ y.1 with kind := 3, style := 7 }, y.2) (.int .i64 7) (by omega) rfl rfl rfl).drew 1
      have HL1 : Hid ((l.set i ({ y.1 with kind := 3, style := 7 }, y.2)).map (·.1) = l1) := Lib.hid (by
        rw [HV.out.first, map_set, HYM.out]
        rfl)
      have hi1 : i < (l.set i (({ y.1 with kind := 3, style := 7 } : Nd), y.2)).length := by rw [List.length_set]; exact hi
      generalize ((w.setCell ⟨g, i * 10, none⟩ (.int .i64 3)).setCell ⟨g, i * 10 + 1, none⟩ (.int .i64 7)).drew = w2 at *
      generalize l.set i (({ y.1 with kind := 3, style := 7 } : Nd), y.2) = l2 at *
      clear hc1 hc2 hc3 hf0 hf1 hii h3 h
      have csk := skip_any R A c b (at_ + 1) w2 h4.rb (by omega)
      have hs1 := skipB_bound b (at_ + 1) (by omega)
      have he := HV.out.ends
      have hmo := HV.out.more
      simp only [Int.natCast_add, Int.natCast_one] at csk
      have HE := Lib.hid he
      have HMO := Lib.hid hmo
      clear he hmo HV
      generalize skipB b (at_ + 1) = at1 at *
      go_wp2_with fail
      refine csk.mono ?_
      rintro x w' ⟨rfl, rfl⟩
      clear csk
      have ce := is_any R A c b at1 [125] w2 h4.rb (by omega)
      have hlt := isB_lt b at1 [125]
      have hq : isB b at1 (endS true) = isB b at1 [125] := rfl
      rw [hq] at HE HMO
      have HLT := Lib.hid hlt
      clear hq hlt
      generalize isB b at1 [125] = q at *
      go_wp2_with fail
      refine ce.mono ?_
      rintro x w' ⟨rfl, rfl⟩
      clear ce
      cases q
      · have HMQ : Hid (loopM F b i at1 depth true l1 = some (e, m)) := Lib.hid (HMO.out rfl)
        clear HE HLT HMO
        have hd64 : (depth : Int) < 64 := by omega
        go_wp2_with fail
        go_loopg [2, 11] F (fun k v2 v11 wr => ∃ (x : Nat) (l' : List (Nd × Value)), v2 = .int .i64 x ∧ k ≤ F ∧ x ≤ b.length ∧ RD w0 wr B R A c b l' ∧ i < l'.length ∧ loopM k b i x depth true (l'.map (·.1)) = some (e, m))
        case atStart => exact ⟨at1, l2, rfl, Nat.le_refl _, hs1, h4.rd, hi1, by rw [HL1.out]; exact HMQ.out⟩
        case round =>
          obtain ⟨x, l', rfl, hkF, hx, hr, hil, hlm⟩ := hrel
          rcases gk with _ | k
          · rw [loopM] at hlm; cases hlm
          obtain ⟨x1, e1, m1, hV⟩ := loop_inv _ _ _ _ _ _ _ _ _ hlm
          have hent : pairM k b i x depth (l'.map (·.1)) = some (x1, e1, m1) := hV.entry
          have c1 := (HI.out k (by omega)).2 w0 wr B R A c b l' i x depth x1 e1 m1 hr hil hx (by omega) hent (by have := hV.small; omega)
          have hx1 := hV.within hx
          have hgr := hV.grows
          rw [List.length_map] at hgr
          have HVV := Lib.hid hV
          clear hent hlm hV h4 HMQ HL1 HY HYM hi1
          go_wp2_with fail
          refine c1.mono ?_
          rintro _ w3 ⟨rfl, l3, hl3, h3⟩
          have hil3 : i < l3.length := by
            have h1 : l3.length = m1.length := by rw [← hl3, List.length_map]
            omega
          have HL3 := Lib.hid hl3
          clear c1 hr hl3 hgr
          by_cases he1 : e1 = 0
          · have hb1 : ((e1 : Int) != 0) = false := by subst he1; rfl
            have HE1 := Lib.hid he1
            have csk := skip_any R A c b x1 w3 h3.rb (by omega)
            have hs2 := skipB_bound b x1 hx1
            have hends := HVV.out.ends he1
            have hbad := HVV.out.bad he1
            have hmore := HVV.out.more he1
            have HENDS := Lib.hid hends
            have HBAD := Lib.hid hbad
            have HMORE := Lib.hid hmore
            clear he1 HVV hends hbad hmore
            generalize skipB b x1 = at2 at *
            go_wp2_with fail
            refine csk.mono ?_
            rintro _ w' ⟨rfl, rfl⟩
            clear csk
            have ce := is_any R A c b at2 [125] w3 h3.rb (by omega)
            have ce2 := is_any R A c b at2 [44] w3 h3.rb (by omega)
            have hlt := isB_lt b at2 [125]
            have hlt2 := isB_lt b at2 [44]
            have hq : isB b at2 (endS true) = isB b at2 [125] := rfl
            rw [hq] at HENDS HBAD HMORE
            have HLT := Lib.hid hlt
            have HLT2 := Lib.hid hlt2
            clear hq hlt hlt2
            generalize isB b at2 [125] = q at *
            generalize isB b at2 [44] = q2 at *
            go_wp2_with fail
            refine ce.mono ?_
            rintro _ w' ⟨rfl, rfl⟩
            clear ce
            cases q
            · go_wp2_with fail
              refine ce2.mono ?_
              rintro _ w' ⟨rfl, rfl⟩
              clear ce2
              cases q2
              · have HF : Hid (2 = e ∧ m1 = m) := Lib.hid (HBAD.out (by simp) (by simp))
                clear HENDS HBAD HMORE
                go_wp2
                go_ret
                obtain ⟨rfl, rfl⟩ := HF.out
                exact ⟨rfl, l3, HL3.out, h3⟩
              · have HMR : Hid (loopM k b i (skipB b (at2 + 1)) depth true m1 = some (e, m)) := Lib.hid (HMORE.out (by simp) (by simp))
                have hlt := HLT2.out rfl
                clear HENDS HBAD HMORE HLT HLT2
                have csk := skip_any R A c b (at2 + 1) w3 h3.rb (by omega)
                have hs3 := skipB_bound b (at2 + 1) (by omega)
                simp only [Int.natCast_add, Int.natCast_one] at csk
                generalize skipB b (at2 + 1) = at3 at *
                go_wp2_with fail
                refine csk.mono ?_
                rintro _ w' ⟨rfl, rfl⟩
                clear csk
                go_wp2
                go_roundg k
                case measure => omega
                case rel => exact ⟨at3, l3, rfl, by omega, hs3, h3, hil3, by rw [HL3.out]; exact HMR.out⟩
            · have HF := HENDS.out rfl
              have hlt := HLT.out rfl
              obtain ⟨y2, hy2, hym2⟩ := map_at l3 i hil3
              obtain ⟨g2, cap2, h3g⟩ := h3.rg (by omega)
              have hc1 := h3g.lst
              have hc6 : w3.cell? ⟨g2, i * 10 + 6, none⟩ = some (.int .i64 y2.1.stop) := h3g.cell i 6 y2 hy2 (by omega)
              have hf6 := h3g.free (i * 10 + 6)
              have hii : (i : Int) < l3.length := by omega
              have h5 := (h3g.store i 6 y2 ({ y2.1 with stop := at2 + 1 }, y2.2) (.int .i64 ((at2 + 1 : Nat) : Int)) hy2 (by omega) rfl rfl rfl).rd
              simp only [Int.natCast_add, Int.natCast_one] at h5
              have HF2 : Hid (0 = e ∧ (l3.set i ({ y2.1 with stop := at2 + 1 }, y2.2)).map (·.1) = m) := Lib.hid ⟨HF.1, by
                rw [map_set, ← hym2, HL3.out]
                exact HF.2⟩
              clear HF HENDS HBAD HMORE HLT HLT2 hym2 HL3 ce2
              go_wp2
              go_ret
              obtain ⟨rfl, rfl⟩ := HF2.out
              exact ⟨rfl, _, rfl, h5⟩
          · have hb1 : ((e1 : Int) != 0) = true := by
              simp only [bne_iff_ne, ne_eq]
              omega
            have HF : Hid (e1 = e ∧ m1 = m) := Lib.hid (HVV.out.err he1)
            clear HVV he1
            go_wp2
            go_ret
            obtain ⟨rfl, rfl⟩ := HF.out
            exact ⟨rfl, l3, HL3.out, h3⟩
      · have HF := HE.out rfl
        have hlt := HLT.out rfl
        obtain ⟨y2, hy2, hym2⟩ := map_at l2 i hi1
        have hc1 := h4.lst
        have hc6 : w2.cell? ⟨g, i * 10 + 6, none⟩ = some (.int .i64 y2.1.stop) := h4.cell i 6 y2 hy2 (by omega)
        have hf6 := h4.free (i * 10 + 6)
        have hii : (i : Int) < l2.length := by omega
        have h5 := (h4.store i 6 y2 ({ y2.1 with stop := at1 + 1 }, y2.2) (.int .i64 ((at1 + 1 : Nat) : Int)) hy2 (by omega) rfl rfl rfl).rd
        simp only [Int.natCast_add, Int.natCast_one] at h5
        have HF2 : Hid (0 = e ∧ (l2.set i ({ y2.1 with stop := at1 + 1 }, y2.2)).map (·.1) = m) := Lib.hid ⟨HF.1, by
          rw [map_set, ← hym2, HL1.out]
          exact HF.2⟩
        clear HF HE HMO hym2 HL1 HLT
        go_wp2
        go_ret
        obtain ⟨rfl, rfl⟩ := HF2.out
        exact ⟨rfl, _, rfl, h5⟩
end Go.Proofs.YtmindclciogneaaDoor
