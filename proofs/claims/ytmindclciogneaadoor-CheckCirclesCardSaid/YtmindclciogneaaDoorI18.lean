/- A node: what stands at a place. -/
import Derived.Test.YtmindclciogneaaDoorI15
import Derived.Test.YtmindclciogneaaDoorP8
import Derived.Test.YtmindclciogneaaDoorI16
import Derived.Test.YtmindclciogneaaDoorI18a
import Derived.Deep.DeepCutAuto
import Derived.Deep.CutBlock
namespace Go.Proofs.YtmindclciogneaaDoor
open Go.RowKit
attribute [local go_sem ↓] Go.wp_at_zero Go.wp_at_succ

theorem RG.last {w0 w : World} {B R : Nat} {A : Option Addr} {c : Nat} {b : Bs} {l : List (Nd × Value)} {g cap : Nat} {x : Nd × Value} (h : RG w0 w B R A c b (l ++ [x]) g cap) (j : Nat) (q : Nd × Value) (u : Value) (hj : j < 10)
    (he : (ndCells x.1 x.2).set j u = ndCells q.1 q.2) (h2 : q.2 = x.2) (hk : q.1.kids = x.1.kids) : RG w0 (w.setCell ⟨g, l.length * 10 + j, none⟩ u) B R A c b (l ++ [q]) g cap := by
  have := h.store l.length j x q u (by simp) hj he h2 hk
  rw [List.set_append_right _ _ (Nat.le_refl _)] at this
  simpa using this
theorem last_at (l : List (Nd × Value)) (x : Nd × Value) : (l ++ [x])[l.length]? = some x := by simp
theorem heap_second (w : World) (o o2 : Obj) : ((w.alloc o).alloc o2).heap[w.heap.size + 1]? = some o2 := by
  have h : (w.alloc o).heap.size = w.heap.size + 1 := by simp
  rw [← h]
  exact heap_alloc_new _ _

set_option maxRecDepth 20000 in
set_option maxHeartbeats 40000000 in
theorem node_step (f : Nat) (hC : CollC f) : NodeC (f + 1) := by
  intro w0 w B R A c b l at_ depth flow n e m h hat hd hm hwt
  have hlw : l.length ≤ 1000000 := by
    have h1 := ((facts (f + 1)).node _ _ _ _ _ _ _ _ hm).1
    have h2 := len_le_wt m
    rw [List.length_map] at h1
    omega
  obtain ⟨hbad, hgood⟩ := node_inv _ _ _ _ _ _ _ _ _ hm
  have hrb := h.rb
  have hbig := hrb.big
  have hcap := hrb.cap
  have hcell := hrb.cell
  have hTl : (b.drop at_).length = b.length - at_ := List.length_drop
  have hsl := fun W => cut_from (P := Tryd.prog) 51 5 .i64 Tryd.underlying51 Tryd.sizeOf5 A b.length c at_ hat W
  rw [← hTl] at hsl
  have cp := props_any (cutA A c at_) (c - at_) (b.drop at_) w (hrb.bytes.drop at_ hcap) (by omega) (by omega) (by omega)
  have hple := propsB_le (b.drop at_)
  have HTL := Lib.hid hTl
  have HBAD := Lib.hid hbad
  have HGOOD := Lib.hid hgood
  have HC := Lib.hid hC
  clear hTl hm hC hbad hgood
  generalize propsB (b.drop at_) = P at *
  generalize b.drop at_ = T at *
  generalize cutA A c at_ = A1 at *
  obtain ⟨⟨tag, anchor⟩, k, ok⟩ := P
  simp only [pv] at cp
  go_enter Tryd.func75, Tryd.ntmps75
  go_wp2_with fail
  refine cp.mono ?_
  rintro x w1 ⟨rfl, hb1⟩
  have h1 := h.below hb1
  clear cp hsl
  cases ok
  · have HF : Hid (0 = n ∧ 2 = e ∧ l.map (·.1) = m) := Lib.hid (HBAD.out rfl)
    clear HBAD HGOOD
    go_wp2
    go_ret2
    obtain ⟨rfl, rfl, rfl⟩ := HF.out
    exact ⟨rfl, l, rfl, h1.below (below_new (Below.refl _ _) (Nat.le_refl _) _)⟩
  · have hnl : at_ + k ≤ b.length := by
      have h1 := HTL.out
      have h2 : k ≤ T.length := hple
      omega
    have h2 := h1.below (below_new (Below.refl w1.heap.size w1) (Nat.le_refl _) (.cells #[.string ⟨tag.toArray⟩, .string ⟨anchor.toArray⟩] 127))
    have csk := skip_any R A c b (at_ + k) _ h2.rb (by omega)
    have HV : Hid (NodeInv f b at_ flow depth (l.map (·.1)) n e m (nodeX tag anchor at_ k (skipB b (at_ + k))) k (skipB b (at_ + k))) := Lib.hid (HGOOD.out rfl)
    clear HBAD HGOOD
    have hs1 := skipB_bound b (at_ + k) hnl
    simp only [Int.natCast_add] at csk
    generalize skipB b (at_ + k) = at1 at *
    clear h
    go_upto_region 4 with fail
    go_wp2_with fail
    refine csk.mono ?_
    rintro x w' ⟨rfl, rfl⟩
    clear csk
    go_upto_if 53 with fail
    go_cut [] (fun wc => RD w0 wc B R A c b l ∧ wc.heap[w1.heap.size + 1]? = some (.cells (ndCells (nodeX tag anchor at_ k at1) (.slice none 0 0)).toArray 42 (0, 0)))
    case first =>
      by_cases hk : k = 0
      · have hkb : ((k : Int) == 0) = true := by subst hk; rfl
        have HK := Lib.hid hk
        have hx : nodeX tag anchor at_ k at1 = { nd0 with tag := tag, anchor := anchor, start := at1, stop := at_ + k } := by unfold nodeX; rw [if_pos hk]
        clear hk
        go_wp2
        go_meet
        exact ⟨h2.below (below_new (Below.refl _ _) (Nat.le_refl _) _), by rw [hx]; exact (heap_second _ _ _).trans (by simp [ndCells, nd0])⟩
      · have hkb : ((k : Int) == 0) = false := by simp; omega
        have hx : nodeX tag anchor at_ k at1 = { nd0 with tag := tag, anchor := anchor, start := at_, stop := at_ + k } := by unfold nodeX; rw [if_neg hk]
        go_wp2
        go_meet
        exact ⟨h2.below (below_new (Below.refl _ _) (Nat.le_refl _) _), by rw [hx]; exact (heap_second _ _ _).trans (by simp [ndCells, nd0])⟩
    case rest =>
      obtain ⟨h3, hX⟩ := hcut
      obtain ⟨v, hv1, hown⟩ := h3.state
      have hsh : ∃ A' cap', v = .slice A' l.length cap' := by
        rcases hown.2 with ⟨rfl, h0⟩ | ⟨g, cap, cur, rfl, _⟩
        · exact ⟨none, 0, by rw [h0]⟩
        · exact ⟨_, _, rfl⟩
      obtain ⟨A', cap', rfl⟩ := hsh
      have hlist : wc.cell? ⟨R, 1, none⟩ = some (.slice A' l.length cap') := by rw [cell_of_row _ _ _ _ _ (0, 0) hv1]; rfl
      have hlR : R < wc.heap.size := lt_of_block hv1
      have hB : B ≤ wc.heap.size := by have := h3.base; omega
      have hfrR : wc.frozen? ⟨R, 1, none⟩ = false := frozen_of_row _ _ _ _ _ hv1
      have hneR : some R ≠ (Value.slice A' l.length cap').ownBlock := fun e => row_neR hown hv1 e.symm
      have hxc : ∀ j, wc.cell? ⟨w1.heap.size + 1, j, none⟩ = (ndCells (nodeX tag anchor at_ k at1) (.slice none 0 0))[j]? := fun j => by
        rw [cell_of_row _ _ _ _ _ (0, 0) hX]
        simp
      have x0 : wc.cell? ⟨w1.heap.size + 1, 0, none⟩ = some (.int .i64 0) := hxc 0
      have x1 : wc.cell? ⟨w1.heap.size + 1, 1, none⟩ = some (.int .i64 0) := hxc 1
      have x2 : wc.cell? ⟨w1.heap.size + 1, 2, none⟩ = some (.string ⟨tag.toArray⟩) := hxc 2
      have x3 : wc.cell? ⟨w1.heap.size + 1, 3, none⟩ = some (.string ⟨anchor.toArray⟩) := hxc 3
      have x4 : wc.cell? ⟨w1.heap.size + 1, 4, none⟩ = some (.string ⟨#[]⟩) := hxc 4
      have x5 : wc.cell? ⟨w1.heap.size + 1, 5, none⟩ = some (.int .i64 ((nodeX tag anchor at_ k at1).start : Int)) := hxc 5
      have x6 : wc.cell? ⟨w1.heap.size + 1, 6, none⟩ = some (.int .i64 ((nodeX tag anchor at_ k at1).stop : Int)) := hxc 6
      have x7 : wc.cell? ⟨w1.heap.size + 1, 7, none⟩ = some (.int .i64 0) := hxc 7
      have x8 : wc.cell? ⟨w1.heap.size + 1, 8, none⟩ = some (.int .i64 0) := hxc 8
      have x9 : wc.cell? ⟨w1.heap.size + 1, 9, none⟩ = some (.slice none 0 0) := hxc 9
      clear hxc
      obtain ⟨i0, hz, hz0, hz1, hz2⟩ := info_parts info_nd
      go_upto_region 9 with fail
      go_cut [] (fun wx => ∃ g cap, RG w0 wx B R A c b (l ++ [(nodeX tag anchor at_ k at1, .slice none 0 0)]) g cap)
      case first =>
       go_region_law
        ((refine step_append_lies _ (by rfl) _ _ _ (by rfl) B 42 i0 _ 10 120 Tryd.underlying32 hz hz0 hz1 hz2 rfl (by omega) (.slice A' l.length cap') l.length (flat l) (by rfl) ((hown.alloc _).drew)
            ⟨wc.heap.size, 0, none⟩ 1 1 (ndCells (nodeX tag anchor at_ k at1) (.slice none 0 0)) (by rfl) (by rfl) (World.news_of_block (cs := (ndCells (nodeX tag anchor at_ k at1) (.slice none 0 0)).toArray) (t := 42) (fr := (0, 0)) (heap_alloc_new wc _)) (by simp [Value.oneCell', ndCells])
            (by omega) (by unfold maxLen; omega) (by omega) (by simp; omega) (wc.heap.size + 1) (by simp) ?_; intro g cap w4 hown4 hgrow hat4 hlt4
          have e1 : w4.cell? ⟨R, 1, none⟩ = some (.slice A' l.length cap') := by
            rw [hgrow.cell_far _ (by simp; omega) hneR]
            exact (World.cell?_alloc_past _ _ _ hlR).trans hlist
          have e2 : w4.frozen? ⟨R, 1, none⟩ = false := by
            rw [hgrow.frozen_far _ (by simp; omega) hneR]
            exact (World.frozen?_alloc_past _ _ _ hlR).trans hfrR))
       all_goals
        go_wp2_with fail
        go_meet
        exact ⟨g, cap, (h3.below (((Below.refl _ _).alloc (Nat.le_refl _) _).drew)).push (((below_new (Below.refl wc.heap.size wc) (Nat.le_refl _) _).block R hlR).trans hv1) (own_below hown ((Below.refl _ _).alloc (Nat.le_refl _) _).drew) _ rfl g cap hgrow hown4⟩
      case rest =>
        obtain ⟨g, cap, h4⟩ := hcut
        clear x0 x1 x2 x3 x4 x5 x6 x7 x8 x9 hX hv1 hown hlist hlR hB hfrR hneR hz hz0 hz1 hz2 h1 h2 h3 hb1 hple HTL hrb hcell
        have hrb := h4.rb
        have hcell := hrb.cell
        have cst := is_any R A c b at1 [42] wc h4.rb (by omega)
        have cbr := is_any R A c b at1 [91, 123] wc h4.rb (by omega)
        have hge : (l ++ [(nodeX tag anchor at_ k at1, Value.slice none 0 0)])[l.length]? = some (nodeX tag anchor at_ k at1, .slice none 0 0) := by simp
        have hlen : (l ++ [(nodeX tag anchor at_ k at1, Value.slice none 0 0)]).length = l.length + 1 := by simp
        have HMAP : Hid ((l ++ [(nodeX tag anchor at_ k at1, Value.slice none 0 0)]).map (·.1) = l.map (·.1) ++ [nodeX tag anchor at_ k at1]) := Lib.hid (by simp)
        have HGE := Lib.hid hge
        have HLEN := Lib.hid hlen
        clear hge hlen
        go_upto_block 0 with fail
        go_cut [] (fun wx => ∃ (l2 : List (Nd × Value)) (y : Nd × Value), RD w0 wx B R A c b l2 ∧ l2[l.length]? = some y ∧ l2.length ≤ 1000001 ∧ ((y.1.kind : Int) = 1 → (y.1.style : Int) = 1 → y.1.value.length ≤ 1000000000) ∧ EndsIn (l.map (·.1)) n e m (l2.map (·.1)) y.1)
        case first =>
          go_wp2_with fail
          refine cst.mono ?_
          rintro _ w' ⟨rfl, rfl⟩
          clear cst
          cases hst : isB b at1 [42]
          · have hst' := hst
            cases hbr : isB b at1 [91, 123]
            · as_aux_lemma =>
                have ct := text_at R A c b at1 flow wc h4.rb hs1
                have htb := HV.out.text_bad hst hbr
                have hts := HV.out.text_some hst hbr
                have htn := HV.out.text_no hst hbr
                have htp := HV.out.text_props hst hbr
                have hle := textB_le b at1 flow
                have hpl := textB_plain b at1 flow
                rw [List.length_drop] at hle
                have HTB := Lib.hid htb
                have HTS := Lib.hid hts
                have HTN := Lib.hid htn
                have HTP := Lib.hid htp
                have HLE := Lib.hid hle
                have HPL := Lib.hid hpl
                clear htb hts htn htp hle hpl HV hst'
                generalize textB b at1 flow = t at *
                obtain ⟨value, style, kt, okt⟩ := t
                dsimp only at ct
                go_wp2_with fail
                refine cbr.mono ?_
                rintro _ w' ⟨rfl, rfl⟩
                clear cbr
                go_wp2_with fail
                refine ct.mono ?_
                rintro _ w6 ⟨rfl, hb6⟩
                have h6 := h4.below hb6
                clear ct hst hbr
                cases okt
                · have HF : Hid (0 = n ∧ 2 = e ∧ l.map (·.1) ++ [nodeX tag anchor at_ k at1] = m) := Lib.hid (HTB.out rfl)
                  clear HTB HTS HTN HTP HLE HPL
                  go_wp2
                  go_ret2
                  obtain ⟨rfl, rfl, rfl⟩ := HF.out
                  exact ⟨rfl, _, HMAP.out, h6.rd⟩
                · have hle := HLE.out rfl
                  have hc1 := h6.lst
                  rw [HLEN.out] at hc1
                  have hRg := h6.neg
                  have hii : (l.length : Int) < (l.length : Int) + 1 := by omega
                  by_cases hkt : 0 < kt
                  · have hktb : (0 : Int) < (kt : Int) := by omega
                    have HF := Lib.hid (HTS.out rfl hkt)
                    have hc0 : w6.cell? ⟨g, l.length * 10, none⟩ = some (.int .i64 ((nodeX tag anchor at_ k at1).kind : Int)) := h6.cell l.length 0 _ (last_at _ _) (by omega)
                    have hcs : w6.cell? ⟨g, l.length * 10 + 1, none⟩ = some (.int .i64 ((nodeX tag anchor at_ k at1).style : Int)) := h6.cell l.length 1 _ (last_at _ _) (by omega)
                    have hc4 : w6.cell? ⟨g, l.length * 10 + 4, none⟩ = some (.string ⟨(nodeX tag anchor at_ k at1).value.toArray⟩) := h6.cell l.length 4 _ (last_at _ _) (by omega)
                    have hc6 : w6.cell? ⟨g, l.length * 10 + 6, none⟩ = some (.int .i64 ((nodeX tag anchor at_ k at1).stop : Int)) := h6.cell l.length 6 _ (last_at _ _) (by omega)
                    have hf0 : w6.frozen? ⟨g, l.length * 10, none⟩ = false := h6.free (l.length * 10)
                    have hfs := h6.free (l.length * 10 + 1)
                    have hf4 := h6.free (l.length * 10 + 4)
                    have hf6 := h6.free (l.length * 10 + 6)
                    have h7 := ((((h6.last 0 ({ nodeX tag anchor at_ k at1 with kind := 1 }, .slice none 0 0) (.int .i64 1) (by omega) rfl rfl rfl).last 1 ({ nodeX tag anchor at_ k at1 with kind := 1, style := style }, .slice none 0 0) (.int .i64 style) (by omega) rfl rfl rfl).last 4 ({ nodeX tag anchor at_ k at1 with kind := 1, style := style, value := value }, .slice none 0 0) (.string ⟨value.toArray⟩) (by omega) rfl rfl rfl).last 6 ({ nodeX tag anchor at_ k at1 with kind := 1, style := style, value := value, stop := at1 + kt }, .slice none 0 0) (.int .i64 ((at1 + kt : Nat) : Int)) (by omega) rfl rfl rfl).drew 1
                    have hka : at1 + kt ≤ 1000000 := by omega
                    generalize nodeX tag anchor at_ k at1 = X at *
                    clear HTB HTS HTN HTP HLE hkt
                    go_wp2
                    go_region
                    go_wp2_with fail
                    go_meet
                    exact ⟨_, _, h7.rd, last_at _ _, by simp; omega, fun _ h => by have h1 := HPL.out (by have h2 := h; dsimp only at h2 ⊢; omega); dsimp only at h1 ⊢; omega, by rw [List.map_append]; exact HF.out⟩
                  · obtain rfl : kt = 0 := by omega
                    by_cases hk : k = 0
                    · have hkb : ((k : Int) == 0) = true := by subst hk; rfl
                      have HF := Lib.hid (HTN.out rfl rfl hk)
                      have HK := Lib.hid hk
                      have hc5 : w6.cell? ⟨g, l.length * 10 + 5, none⟩ = some (.int .i64 ((nodeX tag anchor at_ k at1).start : Int)) := h6.cell l.length 5 _ (last_at _ _) (by omega)
                      have hc6 : w6.cell? ⟨g, l.length * 10 + 6, none⟩ = some (.int .i64 ((nodeX tag anchor at_ k at1).stop : Int)) := h6.cell l.length 6 _ (last_at _ _) (by omega)
                      have hf5 := h6.free (l.length * 10 + 5)
                      have hf6 := h6.free (l.length * 10 + 6)
                      have h7 := ((h6.last 5 ({ nodeX tag anchor at_ k at1 with start := at_ }, .slice none 0 0) (.int .i64 at_) (by omega) rfl rfl rfl).last 6 ({ nodeX tag anchor at_ k at1 with start := at_, stop := at_ }, .slice none 0 0) (.int .i64 at_) (by omega) rfl rfl rfl).drew 1
                      have hX0 : (nodeX tag anchor at_ k at1).kind = 0 := rfl
                      have HX0 := Lib.hid hX0
                      clear hX0
                      generalize nodeX tag anchor at_ k at1 = X at *
                      clear HTB HTS HTN HTP HLE hkt hle hk HPL
                      go_wp2
                      go_region
                      obtain rfl := HK.out
                      go_wp2_with fail
                      go_meet
                      exact ⟨_, _, h7.rd, last_at _ _, by simp; omega, fun h => by have h1 := HX0.out; dsimp only at h; omega, by rw [List.map_append]; exact HF.out⟩
                    · have hkb : ((k : Int) == 0) = false := by simp; omega
                      have HF := Lib.hid (HTP.out rfl rfl hk)
                      have hX0 : (nodeX tag anchor at_ k at1).kind = 0 := rfl
                      have HX0 := Lib.hid hX0
                      clear hX0
                      generalize nodeX tag anchor at_ k at1 = X at *
                      clear HTB HTS HTN HTP HLE hkt hle hk HPL
                      go_wp2
                      go_meet
                      exact ⟨_, _, h6.rd, last_at _ _, by simp; omega, fun h => by have h1 := HX0.out; dsimp only at h; omega, by rw [List.map_append]; exact HF.out⟩
            · as_aux_lemma =>
                have hlt := isB_lt _ _ _ hbr
                obtain ⟨e1, m1, hcm, hw1, herr, hok⟩ := HV.out.coll hst hbr
                rw [List.length_map] at hcm hok
                have hkp := (kept f).coll _ _ _ _ _ _ _ hcm
                have hlw1 := len_le_wt m1
                have hgr := hkp.1
                have hvl := hkp.2 l.length (by simp)
                rw [show (l.map (·.1) ++ [nodeX tag anchor at_ k at1]).getD l.length nd0 = nodeX tag anchor at_ k at1 by simp [List.getD_eq_getElem?_getD]] at hvl
                rw [List.length_append, List.length_map, List.length_singleton] at hgr
                have cc := HC.out w0 wc B R A c b (l ++ [(nodeX tag anchor at_ k at1, Value.slice none 0 0)]) l.length at1 depth e1 m1 h4.rd (by rw [HLEN.out]; omega) hlt (by omega) (by rw [HMAP.out]; exact hcm) (by omega)
                have HERR := Lib.hid herr
                have HOK := Lib.hid hok
                have HVL := Lib.hid hvl
                clear herr hok hvl hkp hcm HV
                go_wp2_with fail
                refine cbr.mono ?_
                rintro _ w' ⟨rfl, rfl⟩
                clear cbr
                go_wp2_with fail
                refine cc.mono ?_
                rintro _ w6 ⟨rfl, l6, hl6, h6⟩
                clear cc hst hbr hst'
                have hl6n : l6.length = m1.length := by rw [← hl6, List.length_map]
                have HL6 := Lib.hid hl6
                clear hl6
                by_cases he1 : e1 = 0
                · have hb1 : ((e1 : Int) != 0) = false := by subst he1; rfl
                  have HF := Lib.hid (HOK.out he1)
                  obtain ⟨y, hy, hym⟩ := map_at l6 l.length (by omega)
                  have HY := Lib.hid hy
                  have HYM := Lib.hid hym
                  have HLN := Lib.hid (show l6.length ≤ 1000001 by omega)
                  clear HOK HERR he1 hy hym hl6n
                  go_wp2
                  go_meet
                  refine ⟨l6, y, h6, HY.out, HLN.out, fun _ _ => ?_, ?_⟩
                  · have h1 := HYM.out
                    rw [HL6.out] at h1
                    have h2 := HVL.out
                    rw [h1] at h2
                    rw [h2]
                    simp [nodeX, nd0]
                  · have h1 := HYM.out
                    rw [HL6.out] at h1
                    rw [HL6.out, ← h1]
                    exact HF.out
                · have hb1 : ((e1 : Int) != 0) = true := by
                    simp only [bne_iff_ne, ne_eq]
                    omega
                  have HF := Lib.hid (HERR.out he1)
                  clear HOK HERR he1
                  go_wp2
                  go_ret2
                  obtain ⟨rfl, rfl, rfl⟩ := HF.out
                  exact ⟨rfl, l6, HL6.out, h6⟩
          · as_aux_lemma =>
              have hlt := isB_lt _ _ _ hst
              have hal := HV.out.alias_ok hst
              have hab := HV.out.alias_bad hst
              have hTl : (b.drop at1).length = b.length - at1 := List.length_drop
              have hsl := fun W => cut_from (P := Tryd.prog) 51 5 .i64 Tryd.underlying51 Tryd.sizeOf5 A b.length c at1 hs1 W
              rw [← hTl] at hsl
              have ca := alias_any (cutA A c at1) (c - at1) (b.drop at1) wc (hrb.bytes.drop at1 hcap) (by omega) (by omega)
              have hale := alias_le (b.drop at1)
              have HTL := Lib.hid hTl
              have HAL := Lib.hid hal
              have HAB := Lib.hid hab
              clear hTl hal hab HV hst cbr
              generalize takeAliasB (b.drop at1) = a at *
              generalize b.drop at1 = T1 at *
              generalize cutA A c at1 = A2 at *
              obtain ⟨name, ka, okA⟩ := a
              dsimp only at ca hale
              go_wp2_with fail
              refine ca.mono ?_
              rintro _ w6 ⟨rfl, hb6⟩
              have h6 := h4.below hb6
              clear ca hsl
              by_cases hk : k = 0
              · have hkb : decide ((0 : Int) < (k : Int)) = false := by simp; omega
                have HK := Lib.hid hk
                cases okA
                · have HF : Hid (0 = n ∧ 2 = e ∧ l.map (·.1) ++ [nodeX tag anchor at_ k at1] = m) := Lib.hid (HAB.out (.inr rfl))
                  clear HAB HAL hk
                  go_wp2
                  go_ret2
                  obtain ⟨rfl, rfl, rfl⟩ := HF.out
                  exact ⟨rfl, _, HMAP.out, h6.rd⟩
                · have HF := Lib.hid (HAL.out hk rfl)
                  have HK := Lib.hid hk
                  have hc1 := h6.lst
                  rw [HLEN.out] at hc1
                  have hc0 : w6.cell? ⟨g, l.length * 10, none⟩ = some (.int .i64 ((nodeX tag anchor at_ k at1).kind : Int)) := h6.cell l.length 0 _ (last_at _ _) (by omega)
                  have hc4 : w6.cell? ⟨g, l.length * 10 + 4, none⟩ = some (.string ⟨(nodeX tag anchor at_ k at1).value.toArray⟩) := h6.cell l.length 4 _ (last_at _ _) (by omega)
                  have hc6 : w6.cell? ⟨g, l.length * 10 + 6, none⟩ = some (.int .i64 ((nodeX tag anchor at_ k at1).stop : Int)) := h6.cell l.length 6 _ (last_at _ _) (by omega)
                  have hf0 : w6.frozen? ⟨g, l.length * 10, none⟩ = false := h6.free (l.length * 10)
                  have hf4 := h6.free (l.length * 10 + 4)
                  have hf6 := h6.free (l.length * 10 + 6)
                  have hRg := h6.neg
                  have hii : (l.length : Int) < (l.length : Int) + 1 := by omega
                  have h7 := (((h6.last 0 ({ nodeX tag anchor at_ k at1 with kind := 4 }, .slice none 0 0) (.int .i64 4) (by omega) rfl rfl rfl).last 4 ({ nodeX tag anchor at_ k at1 with kind := 4, value := name }, .slice none 0 0) (.string ⟨name.toArray⟩) (by omega) rfl rfl rfl).last 6 ({ nodeX tag anchor at_ k at1 with kind := 4, value := name, stop := at1 + ka }, .slice none 0 0) (.int .i64 ((at1 + ka : Nat) : Int)) (by omega) rfl rfl rfl).drew 1
                  have hka : at1 + ka ≤ 1000000 := by
                    have h1 := HTL.out
                    omega
                  generalize nodeX tag anchor at_ k at1 = X at *
                  go_wp2
                  go_region
                  obtain rfl := HK.out
                  go_wp2_with fail
                  go_meet
                  exact ⟨_, _, h7.rd, last_at _ _, by simp; omega, fun h => (by cases h), by rw [List.map_append]; exact HF.out⟩
              · have hkb : (0 : Int) < (k : Int) := by omega
                have HF : Hid (0 = n ∧ 2 = e ∧ l.map (·.1) ++ [nodeX tag anchor at_ k at1] = m) := Lib.hid (HAB.out (.inl (by omega)))
                clear HAB HAL hk
                go_wp2
                go_ret2
                obtain ⟨rfl, rfl, rfl⟩ := HF.out
                exact ⟨rfl, _, HMAP.out, h6.rd⟩
        case rest =>
          obtain ⟨l2, y, h5, hy, hl2, hval, hend⟩ := hcut
          have hil : l.length < l2.length := (List.getElem?_eq_some_iff.1 hy).1
          clear h4 hrb hcell cst cbr HMAP HGE HLEN HV HC
          obtain ⟨g2, cap2, h6⟩ := h5.rg (by omega)
          have hc1 := h6.lst
          have hc0 : wc.cell? ⟨g2, l.length * 10, none⟩ = some (.int .i64 y.1.kind) := h6.cell l.length 0 y hy (by omega)
          have hcs : wc.cell? ⟨g2, l.length * 10 + 1, none⟩ = some (.int .i64 y.1.style) := h6.cell l.length 1 y hy (by omega)
          have hct : wc.cell? ⟨g2, l.length * 10 + 2, none⟩ = some (.string ⟨y.1.tag.toArray⟩) := h6.cell l.length 2 y hy (by omega)
          have hcv : wc.cell? ⟨g2, l.length * 10 + 4, none⟩ = some (.string ⟨y.1.value.toArray⟩) := h6.cell l.length 4 y hy (by omega)
          have hft := h6.free (l.length * 10 + 2)
          have hii : (l.length : Int) < l2.length := by omega
          have ctag := fun W => tag_any y.1.kind y.1.style y.1.tag y.1.value W hval
          obtain ⟨TV, hTV⟩ : ∃ TV, tagB y.1.kind y.1.style y.1.tag y.1.value = TV := ⟨_, rfl⟩
          rw [hTV] at ctag
          have HTV := Lib.hid hTV
          have HEND := Lib.hid hend
          have HY := Lib.hid hy
          clear hval hTV hend hy
          have hlg : g2 < wc.heap.size := World.block_lt_of_cell? wc _ hct
          go_upto_region 27 with fail
          go_cut [] (fun wx => RG w0 wx B R A c b (l2.set l.length ({ y.1 with tag := TV }, y.2)) g2 cap2)
          case first =>
            refine tag_region _ _ _ _ _ _ _ _ _ _ _ _ _ _ _ _ _ _ _ _ _ _ _ _ _ _ _ _ _ _ _ _ _ _ _ _ _ _ _ _ _ _ _ _ _ _ _ _ _ _ _ _ _ _ _ _ _ _ _ _ _ _ _ _ _ _ _ _ _ _ _ _ _ _ _ _ _ _ _ _ _ _ _ _ _ _ _ _ _ _ _ _ _ _ _ _ _ _ _ _ _ _ _ _ _ _ _ _ _ _ _ _ _ _ _ _ _ _ _ _ _ _ _ _ _ _ _ _ _ _ _ _ _ _ _ _ _ _ _ _ _ _ _ _ _ _ _ _ _ _ _ _ _ _ _ _ _ _ _ _ _ _ _ _ _ _ _ _ _ _ _ _ _ _ _ _ _ _ _ _ _ _ _ _ _ _ _ _ _ _ _ _ _ _ _ _ _ _ _ _ _ _ _ _ _ _ _ _ _ _ _ _ _ _ _ _ _ _ _ _ _ _ _ _ _ _ _ _ _ _ _ _ _ _ _ _ _ _ _ g2 (l.length * 10) y.1.kind y.1.style y.1.tag y.1.value TV wc hc0 hcs hct hcv hft ctag _ _ ?_
            intro x202 x203 x204 x205 x206 x207 x208 x209 x210 x211 x212 x213 x214 x215 x216 x217 x218 x219 x220 x221 w8 hb8
            have h8 := (h6.below hb8).store l.length 2 y ({ y.1 with tag := TV }, y.2) (.string ⟨TV.toArray⟩) HY.out (by omega) rfl rfl rfl
            go_wp2_with fail
            go_meet
            exact h8
          case rest =>
            as_aux_lemma =>
              have h7 := hcut
              clear hc1 hc0 hcs hct hcv hft hlg ctag hii
              have hge : (l2.set l.length (({ y.1 with tag := TV } : Nd), y.2))[l.length]? = some (({ y.1 with tag := TV } : Nd), y.2) := by simp [hil]
              have hc5 : wc.cell? ⟨g2, l.length * 10 + 5, none⟩ = some (.int .i64 y.1.start) := h7.cell l.length 5 (({ y.1 with tag := TV } : Nd), y.2) hge (by omega)
              have hc6 : wc.cell? ⟨g2, l.length * 10 + 6, none⟩ = some (.int .i64 y.1.stop) := h7.cell l.length 6 (({ y.1 with tag := TV } : Nd), y.2) hge (by omega)
              have hc7 : wc.cell? ⟨g2, l.length * 10 + 7, none⟩ = some (.int .i64 y.1.head) := h7.cell l.length 7 (({ y.1 with tag := TV } : Nd), y.2) hge (by omega)
              have hc8 : wc.cell? ⟨g2, l.length * 10 + 8, none⟩ = some (.int .i64 y.1.mark) := h7.cell l.length 8 (({ y.1 with tag := TV } : Nd), y.2) hge (by omega)
              have hf7 := h7.free (l.length * 10 + 7)
              have hf8 := h7.free (l.length * 10 + 8)
              have h9 := ((h7.more hil 7 ({ y.1 with tag := TV, head := y.1.start }, y.2) (.int .i64 y.1.start) (by omega) rfl rfl rfl).more hil 8 ({ y.1 with tag := TV, head := y.1.start, mark := y.1.start }, y.2) (.int .i64 y.1.start) (by omega) rfl rfl rfl).drew 1
              have HDONE : Hid (({ y.1 with tag := TV, head := y.1.start, mark := y.1.start } : Nd) = y.1.done) := Lib.hid (by rw [← HTV.out]; rfl)
              clear hge HY HTV
              go_wp2
              go_region
              go_wp2
              go_ret2
              obtain ⟨h1, h2, h3⟩ := HEND.out
              refine ⟨by rw [← h1, ← h2]; rfl, _, ?_, h9.rd⟩
              rw [map_set]
              rw [List.length_map] at h3
              rw [HDONE.out]
              exact h3
end Go.Proofs.YtmindclciogneaaDoor
