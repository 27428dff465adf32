/- render.Render, Inline. -/
import Derived.Test.YtghigiapfmlkbaaGreatDoorR16
namespace Go.Proofs.YtghigiapfmlkbaaGreatDoor
open Go.RowKit
attribute [local go_sem ↓] Go.wp_at_zero Go.wp_at_succ

theorem order_mono (g : List Th) : ∀ (f : Nat) (st out : List Nat), out.length ≤ (orderGo g f st out).length := by
  intro f
  induction f with
  | zero => intro st out; exact Nat.le_refl _
  | succ f ih =>
    intro st out
    cases st with
    | nil => exact Nat.le_refl _
    | cons i rest =>
      rw [orderGo]
      split
      · exact ih _ _
      · have := ih ((g.getD i ⟨0, [], [], []⟩).kids ++ rest) (out ++ [i])
        rw [List.length_append] at this
        exact Nat.le_trans (Nat.le_add_right _ _) this
theorem canon_pos (g : List Th) (h : g ≠ []) : 0 < (canonM g).length := by
  rw [canon_len g h]
  have e : orderM g = orderGo g (kidsSum g + g.length + 1) [0] [] := rfl
  rw [e, orderGo, if_neg (by simp)]
  exact order_mono g (kidsSum g + g.length) ((g.getD 0 ⟨0, [], [], []⟩).kids ++ []) ([] ++ [0])
theorem canon_mem (g : List Th) (P : Th → Prop) (h0 : P ⟨0, [], [], []⟩) (h : ∀ t ∈ g, P { t with kids := [] }) : ∀ t ∈ canonM g, P { t with kids := [] } := by
  intro t ht
  by_cases hg : g = []
  · subst hg
    simp [canonM] at ht
  · unfold canonM at ht
    rw [if_neg hg] at ht
    obtain ⟨i, _, rfl⟩ := List.mem_map.1 ht
    unfold canonOf
    by_cases hi : i < g.length
    · rw [List.getD_eq_getElem?_getD, List.getElem?_eq_getElem hi]
      exact h g[i] (List.getElem_mem hi)
    · rw [List.getD_eq_getElem?_getD, List.getElem?_eq_none (by omega)]
      exact h0
theorem anchor_len (c : List Th) (i : Nat) (l : Bs) (h : anchorM c i = some l) : l.length ≤ 1000000 := by
  unfold anchorM at h
  split at h
  · cases h
  · obtain ⟨n, _, rfl⟩ := Option.map_eq_some_iff.1 h
    unfold digB
    split <;> simp
theorem valid_kids (g : List Th) (h : validM g = true) : ∀ t ∈ g, ∀ k ∈ t.kids, k < g.length := by
  intro t ht k hk
  unfold validM at h
  rw [Bool.and_eq_true] at h
  have h2 := List.all_eq_true.1 h.2 t ht
  unfold rightM at h2
  split at h2
  · cases h2
  · split at h2
    · cases h2
    · rename_i h3
      have h4 : t.kids.all (fun k => decide (k < g.length)) = true := by simpa using h3
      have := List.all_eq_true.1 h4 k hk
      simpa using this
/-- What a graph must be, so that its text is walked. -/
structure Small (g : List Th) : Prop where
  len : g.length ≤ 1000000
  sum : kidsSum g ≤ 1000000
  st : ∀ t ∈ g, t.tag.length ≤ 1000000 ∧ t.value.length ≤ 1000000
  kind : ∀ t ∈ g, t.kind ≤ 1000000
  clen : (canonM g).length ≤ 1000000
  csum : kidsSum (canonM g) ≤ 1000000
  sh : (sharedM (canonM g)).length ≤ 98
theorem Small.cst {g : List Th} (h : Small g) : ∀ t ∈ canonM g, t.tag.length ≤ 1000000 ∧ t.value.length ≤ 1000000 := canon_mem g (fun t => t.tag.length ≤ 1000000 ∧ t.value.length ≤ 1000000) (by simp) h.st
theorem Small.ckind {g : List Th} (h : Small g) : ∀ t ∈ canonM g, t.kind ≤ 1000000 := canon_mem g (fun t => t.kind ≤ 1000000) (by simp) h.kind

set_option maxRecDepth 100000 in
set_option maxHeartbeats 16000000 in
theorem render_any (vg : Value) (g : List Th) (w : World) (hT : Tabs w) (hg : GR w vg g) (hs : Small g) (r : Bs × Nat) (h : renderM g = some r) (hne : r.2 = 0 → r.1 ≠ []) (hrl : ∀ f e met out, linesM (canonM g) (anchorM (canonM g)) false f 0 0 (smallM (canonM g) (anchorM (canonM g)) false [] 0).2 (if propsM (canonM g) (anchorM (canonM g)) 0 ≠ [] then propsM (canonM g) (anchorM (canonM g)) 0 ++ [10] else []) = some (e, met, out) → out.length ≤ 100000000000) :
    Calls Tryz.prog 15 #[vg] w fun e w' => e = .returned (.tuple #[.string ⟨r.1.toArray⟩, .int .i64 (r.2 : Nat)]) ∧ Below w.heap.size w w' := by
  have cv := isoValid_any vg g w hT hg hs.len hs.sum hs.st
  unfold renderM at h
  by_cases hv : validM g = true
  · rw [if_neg (by rw [hv]; simp)] at h
    dsimp only at h
    rw [hv] at cv
    have hk := valid_kids g hv
    have hg0 : g ≠ [] := fun e => by subst e; simp [validM] at hv
    have hpos := canon_pos g hg0
    have cst := fun W (h : Below w.heap.size w W) => start_any vg g false W (hg.below h) hk hs.len hs.sum hs.clen hs.csum hs.sh
    have hks := canon_kids_lt g
    have hkn : ∀ t ∈ canonM g, t.kids.length ≤ 1000000 := fun t ht => Nat.le_trans (canon_kids_len g t ht) hs.sum
    have hcst := hs.cst
    have hckd := hs.ckind
    have hclen := hs.clen
    have han := anchor_len (canonM g)
    generalize canonM g = c at *
    generalize anchorM c = an at *
    obtain ⟨⟨d, metd⟩, hd, h⟩ := Option.bind_eq_some_iff.1 h
    dsimp only at h
    have hdl := deepM_le c _ _ _ _ _ hd
    have H := Lib.hid h
    have HRL := Lib.hid hrl
    clear h hv hk hg0 hrl
    obtain ⟨A, cp, rfl⟩ := hg.shape
    have hmm := @run_makeMap Tryz.prog
    go_enter Tryz.func15, Tryz.ntmps15
    go_wp2_with fail
    refine cv.mono ?_
    rintro _ w1 ⟨rfl, hb1⟩
    clear cv
    go_wp2_with fail
    refine (cst w1 hb1).mono ?_
    rintro _ w2 ⟨w0, b, bA, bM, vc, rfl, pl, hL, hb10, hb12⟩
    clear cst
    have hT0 := (hT.below hb1).below hb10
    have hw10 := hb10.size
    have hbw2 := hb1.trans (hb12.mono hb1.size)
    have hw1 := hb1.size
    have hbD : w2.heap.size ≠ b := by
      obtain ⟨p, buf, hb, _⟩ := hL.out
      have := lt_of_block hb
      omega
    have hw02 := hL.wr.frame.size
    have hbm : Below w2.heap.size w2 (w2.alloc (.map #[] 0)) := (Below.refl _ _).alloc (Nat.le_refl _) _
    have cd := deep_any w0 b bA bM w2.heap.size vc c false hbD hw02 (by omega) hks hkn (c.length + 2) (by omega) 0 [] d metd (w2.alloc (.map #[] 0)) hd hpos (hL.wr.below hbm) (MetAt.made w2 c.length)
    go_wp2_with fail
    refine cd.mono ?_
    rintro _ w3 ⟨rfl, _, hg3⟩
    have hb23 : Below w2.heap.size w2 w3 := below_row hbm hbm.size hg3 (fun k hk => by cases hk; exact Nat.le_refl _)
    have hL3 := hL.below hb23
    have hbw3 := hbw2.trans (hb23.mono hbw2.size)
    have hB3 : w0.heap.size ≤ w3.heap.size := Nat.le_trans hw02 hb23.size
    clear cd hL hbw2 hbm hg3 hmm hd
    by_cases hdd : 64 < d
    · have hr := H.out
      rw [if_pos hdd] at hr
      cases hr
      have hddb : decide ((64 : Int) < d) = true := by simp; omega
      clear H
      go_wp2
      go_ret2
      exact ⟨rfl, hbw3⟩
    · have hddb : decide ((64 : Int) < d) = false := by simp; omega
      have hr := H.out
      rw [if_neg hdd] at hr
      have hcs := small_any w0 w3 b bA bM vc c false an [] hT0 hL3.wr hL3.an hL3.met pl.mb pl.am pl.m0 0 hpos (by omega) hcst han hckd
      have hal : ((an 0).getD []).length ≤ 1000000 := by
        cases hx : an 0 with
        | none => simp
        | some l => exact han 0 l hx
      have hst0 : (c.getD 0 th0).tag.length ≤ 1000000 ∧ (c.getD 0 th0).value.length ≤ 1000000 := by
        rw [List.getD_eq_getElem?_getD, List.getElem?_eq_getElem hpos]
        exact hcst _ (List.getElem_mem hpos)
      have hsl := small_len c an false [] 0 hal hst0.1 hst0.2
      have hpl := propsM_len c an 0 hal hst0.1
      generalize smallM c an false [] 0 = sm at *
      obtain ⟨⟨st, line, er⟩, met2⟩ := sm
      dsimp only at hr hcs hsl
      have HR := Lib.hid hr
      clear H hr hal hst0
      go_wp2_with fail
      refine hcs.mono ?_
      rintro _ w4 ⟨rfl, hM4, hg4⟩
      have hL4 := hL3.small pl hM4 hg4
      have hbw4 := below_row hbw3 hbw3.size hg4 (fun k hk => by cases hk; exact Nat.le_trans hw1 (Nat.le_trans hw10 pl.m0))
      have hB4 := Nat.le_trans hB3 hg4.size
      clear hcs hL3 hbw3 hB3 hM4 hg4
      have hww0 := Nat.le_trans hw1 hw10
      by_cases her : er = 0
      · subst her
        have hr := HR.out
        rw [if_neg (by simp)] at hr
        have hBw4 : w0.heap.size ≤ w4.heap.size := hB4
        cases line with
        | true =>
          rw [if_pos rfl] at hr
          have happ : (⟨st.toArray⟩ : ByteArray) ++ ⟨#[10]⟩ = ⟨(st ++ [10]).toArray⟩ := app_l _ [10]
          have z1 := size_l st
          have hws := wstr_lw pl (st ++ [10]) w4 hL4 (by simp; omega) hBw4
          rw [List.nil_append] at hws
          generalize st ++ [10] = OUT at *
          clear hL4 HR
          go_wp2_with fail
          refine hws.mono ?_
          rintro _ w5 ⟨rfl, hL5, hf5⟩
          have hbw5 : Below w.heap.size w w5 := hbw4.trans (hf5.below (Nat.le_trans hww0 pl.b0) (Nat.le_trans hww0 pl.m0) (Nat.le_trans hww0 pl.B0) hbw4.size)
          clear hws hbw4 hf5 happ z1
          have cl := wlen_any b w0.heap.size bA bM vc false OUT w5 hL5.out
          by_cases hbig : 65536 < OUT.length
          · rw [if_pos hbig] at hr
            cases hr
            have hbb : (65536 : Int) < OUT.length := by omega
            clear HRL
            go_wp2_with fail
            refine cl.mono ?_
            rintro _ w6 ⟨rfl, rfl⟩
            clear cl
            go_wp2
            go_ret2
            exact ⟨rfl, hbw5⟩
          · rw [if_neg hbig] at hr
            cases hr
            have hO : OUT ≠ [] := hne rfl
            have hbb : (OUT.length : Int) ≤ 65536 := by omega
            have cs := wstring_any b w0.heap.size bA bM vc false OUT w5 hL5.out hO ⟨0, Nat.zero_le _, Nat.zero_le _⟩
            clear HRL
            go_wp2_with fail
            refine cl.mono ?_
            rintro _ w6 ⟨rfl, rfl⟩
            clear cl
            go_wp2_with fail
            refine cs.mono ?_
            rintro _ w7 ⟨rfl, hb7⟩
            clear cs
            go_wp2
            go_ret2
            exact ⟨rfl, hbw5.trans (hb7 w.heap.size hww0)⟩
        | false =>
          rw [if_neg (by simp)] at hr
          have hpc := wprops_any w0 w4 b bA bM vc c false an hL4.wr hL4.an 0 hpos (by omega) hcst han hckd
          generalize propsM c an 0 = PV at *
          obtain ⟨⟨e1, met3, OUT⟩, hln, hr2⟩ := Option.map_eq_some_iff.1 hr
          have holen := HRL.out _ _ _ _ hln
          dsimp only at hr2
          have H2 := Lib.hid hln
          clear hr hln HR
          go_wp2_with fail
          refine hpc.mono ?_
          rintro _ w5 ⟨rfl, hb5⟩
          have hL5a := hL4.below hb5
          have hbw5a := hbw4.trans (hb5.mono hbw4.size)
          have hB5 : w0.heap.size ≤ w5.heap.size := Nat.le_trans hBw4 hb5.size
          clear hpc hL4 hbw4 hb5 hBw4 hB4
          have hln := H2.out
          clear H2
          go_upto_if 28 with fail
          go_cut [] (fun wq => LW w0 wq b w0.heap.size bA bM vc c false an met2 (if PV ≠ [] then PV ++ [10] else []) ∧ Below w.heap.size w wq ∧ w0.heap.size ≤ wq.heap.size)
          case first =>
            cases hpe : PV.isEmpty with
            | true =>
              have hpn : PV = [] := List.isEmpty_iff.1 hpe
              subst hpn
              go_wp2
              go_meet
              exact ⟨hL5a, hbw5a, hB5⟩
            | false =>
              have hpn : PV ≠ [] := fun e => by rw [e] at hpe; cases hpe
              have happ : (⟨PV.toArray⟩ : ByteArray) ++ ⟨#[10]⟩ = ⟨(PV ++ [10]).toArray⟩ := app_l _ [10]
              have z1 := size_l PV
              have hws := wstr_lw pl (PV ++ [10]) w5 hL5a (by simp; omega) hB5
              rw [List.nil_append] at hws
              clear hL5a
              go_wp2_with fail
              refine hws.mono ?_
              rintro _ w6 ⟨rfl, hL6, hf6⟩
              clear hws
              go_wp2
              go_meet
              exact ⟨by rw [if_pos hpn]; exact hL6, hbw5a.trans (hf6.below (Nat.le_trans hww0 pl.b0) (Nat.le_trans hww0 pl.m0) (Nat.le_trans hww0 pl.B0) hbw5a.size), Nat.le_trans hB5 hf6.size⟩
          case rest =>
            obtain ⟨hL6, hbw6, hB6⟩ := hcut
            have cln := lines_any w0 b w0.heap.size bA bM vc c false an hT0 pl (by omega) hks hkn hcst han hckd (c.length + 2) 0 0 met2 _ e1 met3 OUT wc hln hpos (by omega) holen hL6 hB6
            clear hL5a hbw5a hB5 hL6
            rw [show ((0 : Nat) : Int) = 0 from rfl] at cln
            go_wp2_with fail
            refine cln.mono ?_
            rintro _ w5 ⟨rfl, hL5, hf5⟩
            have hbw5 : Below w.heap.size w w5 := hbw6.trans (hf5.below (Nat.le_trans hww0 pl.b0) (Nat.le_trans hww0 pl.m0) (Nat.le_trans hww0 pl.B0) hbw6.size)
            clear cln hbw6 hf5
            by_cases he1 : e1 = 0
            · subst he1
              have hr := hr2
              rw [if_neg (by simp)] at hr
              have cl := wlen_any b w0.heap.size bA bM vc false OUT w5 hL5.out
              by_cases hbig : 65536 < OUT.length
              · rw [if_pos hbig] at hr
                subst hr
                have hbb : (65536 : Int) < OUT.length := by omega
                clear HRL
                go_wp2_with fail
                refine cl.mono ?_
                rintro _ w6 ⟨rfl, rfl⟩
                clear cl
                go_wp2
                go_ret2
                exact ⟨rfl, hbw5⟩
              · rw [if_neg hbig] at hr
                subst hr
                have hO : OUT ≠ [] := hne rfl
                have hbb : (OUT.length : Int) ≤ 65536 := by omega
                have cs := wstring_any b w0.heap.size bA bM vc false OUT w5 hL5.out hO ⟨0, Nat.zero_le _, Nat.zero_le _⟩
                clear HRL
                go_wp2_with fail
                refine cl.mono ?_
                rintro _ w6 ⟨rfl, rfl⟩
                clear cl
                go_wp2_with fail
                refine cs.mono ?_
                rintro _ w7 ⟨rfl, hb7⟩
                clear cs
                go_wp2
                go_ret2
                exact ⟨rfl, hbw5.trans (hb7 w.heap.size hww0)⟩
            · rw [if_pos he1] at hr2
              subst hr2
              have he1b : ((e1 : Int) != 0) = true := by simp; omega
              clear HRL
              go_wp2
              go_ret2
              exact ⟨rfl, hbw5⟩
      · have hr := HR.out
        rw [if_pos her] at hr
        cases hr
        have herb : ((er : Int) != 0) = true := by simp; omega
        clear HR
        go_wp2
        go_ret2
        exact ⟨rfl, hbw4⟩
  · have hv2 : validM g = false := by simpa using hv
    rw [if_pos (by rw [hv2]; simp)] at h
    cases h
    rw [hv2] at cv
    obtain ⟨A, cp, rfl⟩ := hg.shape
    clear hv hT hg hs
    go_enter Tryz.func15, Tryz.ntmps15
    go_wp2_with fail
    refine cv.mono ?_
    rintro _ w1 ⟨rfl, hb1⟩
    clear cv
    go_wp2
    go_ret2
    exact ⟨rfl, hb1⟩
end Go.Proofs.YtghigiapfmlkbaaGreatDoor
