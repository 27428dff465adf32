/- A pair: a key and a value. -/
import Derived.Test.YtmindclciogneaaDoorI15
import Derived.Test.YtmindclciogneaaDoorI16
import Derived.Test.YtmindclciogneaaDoorP9
import Derived.Deep.DeepCutAuto
import Derived.IntWalk
namespace Go.Proofs.YtmindclciogneaaDoor
open Go.RowKit
attribute [local go_sem ↓] Go.wp_at_zero Go.wp_at_succ

theorem set_same (l : List (Nd × Value)) (i : Nat) (x : Nd × Value) (h : l[i]? = some x) : l.set i x = l := by
  apply List.ext_getElem?
  intro j
  rw [List.getElem?_set]
  split
  · rename_i hj
    subst hj
    split
    · exact h.symm
    · rename_i hlt
      rw [List.getElem?_eq_none (by omega)]
  · rfl
/-- A call of a Go function, as one step of a region that draws. -/
theorem step_call {P : Program} {ops : Array Oper} {o : Oper} {a : Act} {w : World} {K : Act → World → Prop} {Q : Exit → Act → World → Prop} {E : Prop} (hgd : o.guard = none) (f : FuncId) (args : Array Value)
    (hrun : (execOp a.eval o).run P w = .ok (.enter f args) w) (v : Value) (R : World → Prop) (hc : Calls P f args w fun e w' => e = .returned v ∧ R w') (h : ∀ w', R w' → K (a.put o.dst v) w') :
    if Region.wanted o (yielded ops a.tmps) = true then Oper.wp P o a w K Q else E := by
  have hw : Region.wanted o (yielded ops a.tmps) = true := by simp [Region.wanted, hgd]
  rw [if_pos hw]
  unfold Oper.wp
  rw [hrun, Oper.upon_enter]
  refine hc.mono ?_
  rintro _ w' ⟨rfl, hr⟩
  exact h w' hr

set_option maxRecDepth 20000 in
set_option maxHeartbeats 40000000 in
theorem pair_step (f : Nat) (hN : NodeC f) : PairC (f + 1) := by
  intro w0 w B R A c b l i at_ depth n e m h hi hat hd hm hwt
  have hlw : l.length ≤ 1000000 := by
    have h1 := ((facts (f + 1)).pair _ _ _ _ _ _ _ _ hm).1
    have h2 := len_le_wt m
    rw [List.length_map] at h1
    omega
  obtain ⟨hmb, hmg⟩ := pair_inv _ _ _ _ _ _ _ _ _ hm
  clear hm
  have hbig := h.big
  have c1 := text_at R A c b at_ true w h.rb hat
  have hle := textB_le b at_ true
  have hplv := textB_plain b at_ true
  rw [List.length_drop] at hle
  have HN := Lib.hid hN
  clear hN
  generalize textB b at_ true = t at *
  obtain ⟨value, style, k, ok⟩ := t
  dsimp only at c1 hle hmb hmg hplv
  have HMB := Lib.hid hmb
  have HMG := Lib.hid hmg
  clear hmb hmg
  by_cases hbad : (!ok || k == 0 || decide (128 < k)) = true
  · have HF : Hid (0 = n ∧ 2 = e ∧ l.map (·.1) = m) := Lib.hid (HMB.out hbad)
    clear HMB HMG
    have h3 : ok = false ∨ (ok = true ∧ k = 0) ∨ (ok = true ∧ k ≠ 0 ∧ 128 < k) := by
      cases ok
      · exact .inl rfl
      · by_cases hk : k = 0
        · exact .inr (.inl ⟨rfl, hk⟩)
        · refine .inr (.inr ⟨rfl, hk, ?_⟩)
          simpa [hk] using hbad
    clear hbad hle hplv
    rcases h3 with rfl | ⟨rfl, rfl⟩ | ⟨rfl, hk0, hk⟩
    · go_enter Tryd.func151, Tryd.ntmps151
      go_wp2_with fail
      refine c1.mono ?_
      rintro x w1 ⟨rfl, hb1⟩
      have h1 := h.below hb1
      clear c1
      go_wp2
      go_ret2
      obtain ⟨rfl, rfl, rfl⟩ := HF.out
      exact ⟨rfl, l, rfl, h1⟩
    · go_enter Tryd.func151, Tryd.ntmps151
      go_wp2_with fail
      refine c1.mono ?_
      rintro x w1 ⟨rfl, hb1⟩
      have h1 := h.below hb1
      clear c1
      go_wp2
      go_ret2
      obtain ⟨rfl, rfl, rfl⟩ := HF.out
      exact ⟨rfl, l, rfl, h1⟩
    · have d1 : ((k : Int) == 0) = false := by simp; omega
      have d2 : decide ((128 : Int) < k) = true := by simp; omega
      go_enter Tryd.func151, Tryd.ntmps151
      go_wp2_with fail
      refine c1.mono ?_
      rintro x w1 ⟨rfl, hb1⟩
      have h1 := h.below hb1
      clear c1
      go_wp2
      go_ret2
      obtain ⟨rfl, rfl, rfl⟩ := HF.out
      exact ⟨rfl, l, rfl, h1⟩
  · have HV := Lib.hid (HMG.out (by simpa using hbad))
    clear HMB HMG
    simp only [Bool.or_eq_true, Bool.not_eq_true', not_or, Bool.not_eq_false, beq_iff_eq, decide_eq_true_eq] at hbad
    obtain ⟨⟨rfl, hk0⟩, hk⟩ := hbad
    have hle := hle rfl
    have d1 : ((k : Int) == 0) = false := by simp; omega
    have d2 : decide ((128 : Int) < k) = false := by simp; omega
    go_enter Tryd.func151, Tryd.ntmps151
    go_wp2_with fail
    refine c1.mono ?_
    rintro x w1 ⟨rfl, hb1⟩
    have h1 := h.below hb1
    clear c1
    obtain ⟨v, hv1, hown⟩ := h1.state
    have hsh : ∃ A' cap', v = .slice A' l.length cap' := by
      rcases hown.2 with ⟨rfl, h0⟩ | ⟨g, cap, cur, rfl, _⟩
      · exact ⟨none, 0, by rw [h0]⟩
      · exact ⟨_, _, rfl⟩
    obtain ⟨A', cap', rfl⟩ := hsh
    have hlist : w1.cell? ⟨R, 1, none⟩ = some (.slice A' l.length cap') := by rw [cell_of_row _ _ _ _ _ (0, 0) hv1]; rfl
    have hlR : R < w1.heap.size := lt_of_block hv1
    have hB : B ≤ w1.heap.size := by have := h1.base; omega
    have hfrR : w1.frozen? ⟨R, 1, none⟩ = false := frozen_of_row _ _ _ _ _ hv1
    have hneR : some R ≠ (Value.slice A' l.length cap').ownBlock := fun e => row_neR hown hv1 e.symm
    obtain ⟨i0, hz, hz0, hz1, hz2⟩ := info_parts info_nd
    have hval : (1 : Int) = 1 → (style : Int) = 1 → value.length ≤ 1000000000 := fun _ h => by
      have := hplv (by omega)
      omega
    have ctag := fun W => tag_any 1 style [] value W hval
    obtain ⟨TV, hTV⟩ : ∃ TV, tagB 1 style [] value = TV := ⟨_, rfl⟩
    rw [hTV] at ctag HV
    have HTV := Lib.hid hTV
    clear hTV hval
    have h10 : 0 < 10 := by omega
    have h01 : 0 < 1 := by omega
    have hml : l.length + 1 ≤ maxLen := by unfold maxLen; omega
    have hbytes : (l.length + 1) * 120 ≤ 140737488355328 := by omega
    have hone : ∀ u ∈ [(.int .i64 1 : Value), .int .i64 style, .string ⟨TV.toArray⟩, .string ⟨#[]⟩, .string ⟨value.toArray⟩, .int .i64 at_, .int .i64 (IntKind.i64.wrap ((at_ : Int) + (k : Int))), .int .i64 at_, .int .i64 at_, .slice none 0 0], u.oneCell' = true := by simp [Value.oneCell']
    have HWR := Lib.hid (IntWalk.i64_in ((at_ : Int) + (k : Int)) (by omega))
    go_upto_region 5 with fail
    go_cut [] (fun wx => ∃ g cap, RG w0 wx B R A c b (l ++ [((keyN style TV value at_ k), .slice none 0 0)]) g cap)
    case first =>
       go_region_law
        (first
          | (refine step_call ?_ 121 #[.int .i64 1, .int .i64 style, .string ⟨#[]⟩, .string ⟨value.toArray⟩] ?_ (.string ⟨TV.toArray⟩) _ (ctag _) ?_
             · rfl
             · go_simp
             intro w8 hb8
             have hlist8 : w8.cell? ⟨R, 1, none⟩ = some (.slice A' l.length cap') := (hb8.cell (p := ⟨R, 1, none⟩) (by simp; omega)).trans (by simpa using hlist)
             have hfrR8 : w8.frozen? ⟨R, 1, none⟩ = false := (hb8.frozen (p := ⟨R, 1, none⟩) (by simp; omega)).trans (by simpa using hfrR)
             have hown8 := own_below hown (((Below.refl _ _).drew).trans hb8)
             have hlR8 : R < w8.heap.size := World.block_lt_of_cell? w8 _ hlist8
             have hB8 : B ≤ w8.heap.size := by have := h1.base; omega
             have hown8a := hown8.alloc (.cells #[.int .i64 1, .int .i64 style, .string ⟨TV.toArray⟩, .string ⟨#[]⟩, .string ⟨value.toArray⟩, .int .i64 at_, .int .i64 (IntKind.i64.wrap ((at_ : Int) + (k : Int))), .int .i64 at_, .int .i64 at_, .slice none 0 0] 42)
             have hnews8 := World.news_of_block (cs := #[.int .i64 1, .int .i64 style, .string ⟨TV.toArray⟩, .string ⟨#[]⟩, .string ⟨value.toArray⟩, .int .i64 at_, .int .i64 (IntKind.i64.wrap ((at_ : Int) + (k : Int))), .int .i64 at_, .int .i64 at_, .slice none 0 0]) (t := 42) (fr := (0, 0)) (heap_alloc_new w8 _)
             have hB8a : B ≤ (w8.alloc (.cells #[.int .i64 1, .int .i64 style, .string ⟨TV.toArray⟩, .string ⟨#[]⟩, .string ⟨value.toArray⟩, .int .i64 at_, .int .i64 (IntKind.i64.wrap ((at_ : Int) + (k : Int))), .int .i64 at_, .int .i64 at_, .slice none 0 0] 42)).heap.size := by simp; omega
             have hsz8 : (w8.alloc (.cells #[.int .i64 1, .int .i64 style, .string ⟨TV.toArray⟩, .string ⟨#[]⟩, .string ⟨value.toArray⟩, .int .i64 at_, .int .i64 (IntKind.i64.wrap ((at_ : Int) + (k : Int))), .int .i64 at_, .int .i64 at_, .slice none 0 0] 42)).heap.size = w8.heap.size + 1 := by simp)
          | (refine step_append_lies _ ?_ (.tmp 46) (.tmp 59) 32 ?_ B 42 i0 _ 10 120 Tryd.underlying32 hz hz0 hz1 hz2 rfl h10 (.slice A' l.length cap') l.length (flat l) ?_ hown8a ⟨w8.heap.size, 0, none⟩ 1 1 [.int .i64 1, .int .i64 style, .string ⟨TV.toArray⟩, .string ⟨#[]⟩, .string ⟨value.toArray⟩, .int .i64 at_, .int .i64 (IntKind.i64.wrap ((at_ : Int) + (k : Int))), .int .i64 at_, .int .i64 at_, .slice none 0 0] ?_ rfl hnews8 hone h01 hml hbytes hB8a (w8.heap.size + 1) hsz8 ?_
             · rfl
             · rfl
             · rfl
             · rfl
             intro g cap w4 hown4 hgrow hat4 hlt4
             have e1 : w4.cell? ⟨R, 1, none⟩ = some (.slice A' l.length cap') := by
               rw [hgrow.cell_far _ (by simp; omega) hneR]
               exact (World.cell?_alloc_past _ _ _ hlR8).trans hlist8
             have e2 : w4.frozen? ⟨R, 1, none⟩ = false := by
               rw [hgrow.frozen_far _ (by simp; omega) hneR]
               exact (World.frozen?_alloc_past _ _ _ hlR8).trans hfrR8))
       all_goals
        go_wp2_with fail
        go_meet
        have hbel : Below w1.heap.size w1 (w8.alloc (.cells #[.int .i64 1, .int .i64 style, .string ⟨TV.toArray⟩, .string ⟨#[]⟩, .string ⟨value.toArray⟩, .int .i64 at_, .int .i64 (IntKind.i64.wrap ((at_ : Int) + (k : Int))), .int .i64 at_, .int .i64 at_, .slice none 0 0] 42)) := (((Below.refl _ _).drew).trans hb8).alloc (by simpa using hb8.size) _
        refine ⟨g, cap, (h1.below hbel).push ((hbel.block R hlR).trans hv1) (own_below hown hbel) _ rfl g cap hgrow ?_⟩
        have h := hown4
        rw [HWR.out] at h
        simpa [ndCells, keyN] using h
    case rest =>
      obtain ⟨g, cap, h4⟩ := hcut
      clear hown hlist hlR hB hfrR hneR hz hz0 hz1 hz2 hv1 ctag h10 h01 hml hbytes hone HWR hplv HTV h1 hb1 h
      have hcell := h4.rb.cell
      have csk := skip_any R A c b (at_ + k) wc h4.rb (by omega)
      have hs0 := skipB_bound b (at_ + k) (by omega)
      have HMAP : Hid ((l ++ [(keyN style TV value at_ k, Value.slice none 0 0)]).map (·.1) = l.map (·.1) ++ [keyN style TV value at_ k]) := Lib.hid (by simp)
      have HLEN : Hid ((l ++ [(keyN style TV value at_ k, Value.slice none 0 0)]).length = l.length + 1) := Lib.hid (by simp)
      simp only [Int.natCast_add] at csk
      generalize skipB b (at_ + k) = s0 at *
      go_upto_region 6 with fail
      go_wp2_with fail
      refine csk.mono ?_
      rintro _ w' ⟨rfl, rfl⟩
      clear csk
      go_upto_region 7 with fail
      go_cut [88] (fun v wx => v = .bool (badB b (s0 + 1)) ∧ wx = wc)
      case first =>
        as_aux_lemma =>
          have q1 := is_any R A c b s0 [58] wc h4.rb (by omega)
          have q2 := is_any R A c b (s0 + 1) [32, 44, 125] wc h4.rb (by omega)
          simp only [Int.natCast_add, Int.natCast_one] at q2
          have HB : Hid (badB b (s0 + 1) = (!isB b s0 [58] || (decide (s0 + 1 < b.length) && !isB b (s0 + 1) [32, 44, 125]))) := Lib.hid rfl
          clear HV HMAP HLEN h4
          generalize badB b (s0 + 1) = bad at *
          generalize isB b s0 [58] = p1 at *
          generalize isB b (s0 + 1) [32, 44, 125] = p2 at *
          go_wp2_with fail
          refine q1.mono ?_
          rintro _ w' ⟨rfl, rfl⟩
          cases p1
          · have HF : Hid (bad = true) := Lib.hid (by rw [HB.out]; rfl)
            clear HB
            go_wp2
            go_meet
            exact ⟨by rw [HF.out], rfl⟩
          · by_cases hlt : s0 + 1 < b.length
            · have hi : (s0 : Int) + 1 < (b.length : Int) := by omega
              have HF : Hid (bad = !p2) := Lib.hid (by rw [HB.out, decide_eq_true hlt]; rfl)
              clear HB hlt
              go_wp2_with fail
              refine q2.mono ?_
              rintro _ w' ⟨rfl, rfl⟩
              cases p2
              · go_wp2
                go_meet
                exact ⟨by rw [HF.out]; rfl, rfl⟩
              · go_wp2
                go_meet
                exact ⟨by rw [HF.out]; rfl, rfl⟩
            · have hi : (b.length : Int) ≤ (s0 : Int) + 1 := by omega
              have HF : Hid (bad = false) := Lib.hid (by rw [HB.out, decide_eq_false hlt]; rfl)
              clear HB hlt
              go_wp2
              go_meet
              exact ⟨by rw [HF.out], rfl⟩
      case rest =>
        obtain ⟨rfl, rfl⟩ := hcut
        have hbd := HV.out.bad
        have hgd := HV.out.good
        have hmk : badB b (s0 + 1) = false → s0 + 1 ≤ b.length := by
          unfold badB
          intro h
          simp only [Nat.add_sub_cancel, Bool.or_eq_false_iff, Bool.not_eq_false'] at h
          have := isB_lt _ _ _ h.1
          omega
        have HBD := Lib.hid hbd
        have HGD := Lib.hid hgd
        have HMK := Lib.hid hmk
        clear HV hbd hgd hmk
        generalize badB b (s0 + 1) = q at *
        cases q
        case true =>
          have HF := Lib.hid (HBD.out rfl)
          clear HBD HGD HMK
          go_wp2
          go_ret2
          obtain ⟨rfl, rfl, rfl⟩ := HF.out
          exact ⟨rfl, _, HMAP.out, h4.rd⟩
        case false =>
          have hmk := HMK.out rfl
          obtain ⟨n1, e1, m1, hn, hw1, herr, hok⟩ := HGD.out rfl
          rw [List.length_map] at hok
          have hF := (facts f).node _ _ _ _ _ _ _ _ hn
          rw [List.length_append, List.length_map, List.length_singleton] at hF
          have hlw1 := len_le_wt m1
          have csk2 := skip_any R A c b (s0 + 1) wc h4.rb (by omega)
          have hs1 := skipB_bound b (s0 + 1) hmk
          have cn := HN.out w0 wc B R A c b (l ++ [(keyN style TV value at_ k, Value.slice none 0 0)]) (skipB b (s0 + 1)) (depth + 1) true n1 e1 m1 h4.rd hs1 (by omega) (by rw [HMAP.out]; exact hn) (by omega)
          simp only [Int.natCast_add, Int.natCast_one] at csk2 cn
          have HERR := Lib.hid herr
          have HOK := Lib.hid hok
          have HF := Lib.hid hF
          clear HBD HGD HMK hn herr hok hF
          generalize skipB b (s0 + 1) = s1 at *
          go_wp2_with fail
          refine csk2.mono ?_
          rintro _ w' ⟨rfl, rfl⟩
          clear csk2
          go_wp2_with fail
          refine cn.mono ?_
          rintro _ w6 ⟨rfl, l6, hl6, h6⟩
          clear cn
          have hl6n : l6.length = m1.length := by rw [← hl6, List.length_map]
          have HL6 := Lib.hid hl6
          clear hl6
          by_cases he1 : e1 = 0
          · have hb1 : ((e1 : Int) != 0) = false := by subst he1; rfl
            have hlen6 : l.length + 1 < l6.length := by have := HF.out.2.2.1 he1; omega
            have HFIN := Lib.hid (HOK.out he1)
            have hkn : ∀ y : Nd × Value, l6[i]? = some y → y.1.kids.length ≤ 1000000 := fun y hy => by
              have h1 := kids_le_wt m1 i (by omega)
              rw [← HL6.out] at h1
              have h2 : (l6.map (·.1)).getD i nd0 = y.1 := by simp [List.getD_eq_getElem?_getD, hy]
              rw [h2, HL6.out] at h1
              omega
            have HKN := Lib.hid hkn
            have HL6N := Lib.hid hl6n
            obtain ⟨x, hx, hxm⟩ := map_at l6 (l.length + 1) hlen6
            obtain ⟨g6, cap6, h6g⟩ := h6.rg (by omega)
            have cno := none_any h6 (l.length + 1) x hx (by omega)
            simp only [Int.natCast_add, Int.natCast_one] at cno
            have hc1 := h6g.lst
            have hii : (l.length : Int) + 1 < l6.length := by omega
            have HX := Lib.hid hx
            have HXM := Lib.hid hxm
            clear HOK HERR HF he1 hkn hl6n hx hxm
            go_wp2_with fail
            refine cno.mono ?_
            rintro _ w7 ⟨rfl, hb7⟩
            clear cno
            have h7 := h6g.below hb7
            go_upto_if 112 with fail
            go_cut [] (fun wx => RG w0 wx B R A c b (l6.set (l.length + 1) (atMark x.1 (s0 + 1), x.2)) g6 cap6)
            case first =>
              have hc5 : w7.cell? ⟨g6, (l.length + 1) * 10 + 5, none⟩ = some (.int .i64 x.1.start) := h7.cell (l.length + 1) 5 x HX.out (by omega)
              have hc6 : w7.cell? ⟨g6, (l.length + 1) * 10 + 6, none⟩ = some (.int .i64 x.1.stop) := h7.cell (l.length + 1) 6 x HX.out (by omega)
              have hf5 := h7.free ((l.length + 1) * 10 + 5)
              have hf6 := h7.free ((l.length + 1) * 10 + 6)
              have HAT : Hid (atMark x.1 (s0 + 1) = if noneB x.1 = true then { x.1 with start := s0 + 1, stop := s0 + 1 } else x.1) := Lib.hid rfl
              generalize noneB x.1 = q at *
              cases q
              · have h8 : RG w0 w7 B R A c b (l6.set (l.length + 1) (atMark x.1 (s0 + 1), x.2)) g6 cap6 := by
                  rw [HAT.out, if_neg (by simp), set_same l6 (l.length + 1) (x.1, x.2) HX.out]
                  exact h7
                go_wp2
                go_meet
                exact h8
              · have h8 := (h7.store (l.length + 1) 5 x ({ x.1 with start := s0 + 1 }, x.2) (.int .i64 ((s0 + 1 : Nat) : Int)) HX.out (by omega) rfl rfl rfl).more hlen6 6 ({ x.1 with start := s0 + 1, stop := s0 + 1 }, x.2) (.int .i64 ((s0 + 1 : Nat) : Int)) (by omega) rfl rfl rfl
                have ha : ({ x.1 with start := s0 + 1, stop := s0 + 1 } : Nd) = atMark x.1 (s0 + 1) := by rw [HAT.out, if_pos rfl]
                rw [ha] at h8
                simp only [Int.natCast_add, Int.natCast_one] at h8
                have H8 := Lib.hid h8
                clear ha h8
                go_wp2
                go_meet
                exact H8.out
            case rest =>
              have h8 := hcut
              clear h7 hb7 hc1 h6g h6 h4
              have hge : (l6.set (l.length + 1) (atMark x.1 (s0 + 1), x.2))[l.length + 1]? = some (atMark x.1 (s0 + 1), x.2) := by simp [hlen6]
              have hc7 : wc.cell? ⟨g6, (l.length + 1) * 10 + 7, none⟩ = some (.int .i64 (atMark x.1 (s0 + 1)).head) := h8.cell (l.length + 1) 7 (atMark x.1 (s0 + 1), x.2) hge (by omega)
              have hc8 : wc.cell? ⟨g6, (l.length + 1) * 10 + 8, none⟩ = some (.int .i64 (atMark x.1 (s0 + 1)).mark) := h8.cell (l.length + 1) 8 (atMark x.1 (s0 + 1), x.2) hge (by omega)
              have hf7 := h8.free ((l.length + 1) * 10 + 7)
              have hf8 := h8.free ((l.length + 1) * 10 + 8)
              have h9 := (h8.more hlen6 7 ({ atMark x.1 (s0 + 1) with head := at_ }, x.2) (.int .i64 at_) (by omega) rfl rfl rfl).more hlen6 8 (heads (atMark x.1 (s0 + 1)) at_ (s0 + 1), x.2) (.int .i64 ((s0 + 1 : Nat) : Int)) (by omega) rfl rfl rfl
              simp only [Int.natCast_add, Int.natCast_one] at h9
              have HM9 : Hid ((l6.set (l.length + 1) (heads (atMark x.1 (s0 + 1)) at_ (s0 + 1), x.2)).map (·.1) = m1.set (l.length + 1) (heads (atMark (m1.getD (l.length + 1) nd0) (s0 + 1)) at_ (s0 + 1))) := Lib.hid (by
                rw [map_set, HL6.out, ← HXM.out, HL6.out])
              have HK9 : Hid (∀ y : Nd × Value, (l6.set (l.length + 1) (heads (atMark x.1 (s0 + 1)) at_ (s0 + 1), x.2))[i]? = some y → y.1.kids.length ≤ 1000000) := Lib.hid (fun y hy => by
                rw [List.getElem?_set_ne (by omega)] at hy
                exact HKN.out y hy)
              have hn9 : (l6.set (l.length + 1) (heads (atMark x.1 (s0 + 1)) at_ (s0 + 1), x.2)).length = l6.length := List.length_set
              have HN9 := Lib.hid hn9
              have H9 := Lib.hid h9
              clear hge hn9 h8 h9 HKN HX HXM HL6
              go_upto_region 16 with fail
              have h9 := H9.out
              clear H9 hc7 hc8 hf7 hf8
              generalize (wc.setCell ⟨g6, (l.length + 1) * 10 + 7, none⟩ (.int .i64 at_)).setCell ⟨g6, (l.length + 1) * 10 + 8, none⟩ (.int .i64 ((s0 : Int) + 1)) = w9 at *
              generalize l6.set (l.length + 1) (heads (atMark x.1 (s0 + 1)) at_ (s0 + 1), x.2) = l9 at *
              have hi9 : i < l9.length := by have := HN9.out; omega
              obtain ⟨y, hy, hym⟩ := map_at l9 i hi9
              have hc1 := h9.lst
              have hc2 : w9.cell? ⟨g6, i * 10 + 9, none⟩ = some y.2 := h9.cell i 9 y hy (by omega)
              have hfr := h9.free (i * 10 + 9)
              have hii : (i : Int) < l9.length := by omega
              have hi0 : (0 : Int) ≤ (i : Int) := Int.natCast_nonneg _
              have hown := h9.own.row y (List.mem_of_getElem? hy)
              have hneg : some g6 ≠ y.2.ownBlock := by
                obtain ⟨_, _, _, cur, h6, _⟩ := h9.row
                exact fun e => own_ne hown h6 e.symm
              have hneR : some R ≠ y.2.ownBlock := h9.neR y (List.mem_of_getElem? hy)
              have hlg : g6 < w9.heap.size := World.block_lt_of_cell? w9 _ hc2
              have hlR : R < w9.heap.size := World.block_lt_of_cell? w9 _ hc1
              have hB : B ≤ w9.heap.size := by have := h9.base; omega
              have hfa : ∀ o, (w9.alloc o).frozen? ⟨g6, i * 10 + 9, none⟩ = false := fun o => by
                rw [World.frozen?_alloc_past _ _ _ hlg]
                exact hfr
              obtain ⟨i0, hz, hz0, hz1, hz2⟩ := info_parts info_int
              have hkn := HK9.out y hy
              have HYM := Lib.hid hym
              have HY := Lib.hid hy
              have HWR := Lib.hid (IntWalk.i64_in ((l.length : Int) + 1) (by omega))
              clear hym hy HK9
              go_region_law
                ((refine step_append_lies _ (by rfl) _ _ _ (by rfl) B 3 i0 _ 1 8 Tryd.underlying37 hz hz0 hz1 hz2 rfl (by omega) y.2 y.1.kids.length (y.1.kids.map fun k : Nat => Value.int .i64 (k : Int)) (by rfl) ((hown.alloc _).drew)
                    ⟨w9.heap.size, 0, none⟩ 2 2 [.int .i64 (l.length : Int), .int .i64 (IntKind.i64.wrap ((l.length : Int) + 1))] (by rfl) (by rfl) (World.news_of_block (cs := #[.int .i64 (l.length : Int), .int .i64 (IntKind.i64.wrap ((l.length : Int) + 1))]) (t := 3) (fr := (0, 0)) (heap_alloc_new w9 _)) (by simp [Value.oneCell'])
                    (by omega) (by unfold maxLen; omega) (by omega) (by simp; omega) (w9.heap.size + 1) (by simp) ?_; intro gg cap' w3 hown1 hgrow hat2 hlt
                  have e1 : w3.cell? ⟨g6, i * 10 + 9, none⟩ = some y.2 := by
                    rw [hgrow.cell_far _ (by simp; omega) hneg]
                    exact (World.cell?_alloc_past _ _ _ hlg).trans hc2
                  have e2 : w3.frozen? ⟨g6, i * 10 + 9, none⟩ = false := by
                    rw [hgrow.frozen_far _ (by simp; omega) hneg]
                    exact hfa _
                  have e3 : w3.cell? ⟨R, 1, none⟩ = some (.slice (some ⟨g6, 0, none⟩) l9.length cap6) := by
                    rw [hgrow.cell_far _ (by simp; omega) hneR]
                    exact (World.cell?_alloc_past _ _ _ hlR).trans hc1))
              all_goals
                go_wp2
                go_ret2
                obtain ⟨rfl, rfl, hfin⟩ := HFIN.out
                refine ⟨rfl, l9.set i ({ y.1 with kids := y.1.kids ++ [l.length, l.length + 1] }, .slice (some ⟨gg, 0, none⟩) (y.1.kids.length + 2) cap'), ?_, ?_⟩
                · rw [map_set, ← hfin, ← HM9.out]
                  unfold twoKids
                  rw [HYM.out]
                · exact (h9.kids _ i y HY.out [l.length, l.length + 1] gg cap' (y.1.kids.length + 2) hgrow (by
                    have h := hown1
                    rw [HWR.out] at h
                    simpa only [List.map_cons, List.map_nil, Int.natCast_add, Int.natCast_one] using h) rfl hat2).rd
          · have hb1 : ((e1 : Int) != 0) = true := by
              simp only [bne_iff_ne, ne_eq]
              omega
            have HF := Lib.hid (HERR.out he1)
            clear HOK HERR he1
            go_wp2
            go_ret2
            obtain ⟨rfl, rfl, rfl⟩ := HF.out
            exact ⟨rfl, l6, HL6.out, h6⟩
end Go.Proofs.YtmindclciogneaaDoor
