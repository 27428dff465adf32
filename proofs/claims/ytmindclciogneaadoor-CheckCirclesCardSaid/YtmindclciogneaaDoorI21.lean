/- Parse. -/
import Derived.Test.YtmindclciogneaaDoorI19
import Derived.Test.YtmindclciogneaaDoorI20
namespace Go.Proofs.YtmindclciogneaaDoor
open Go.RowKit

theorem conv_bytes2 {P : Program} (w : World) (src dst e : TypeId) {u : TypeDesc} (hs : P.underlying src = some u) (hd : P.underlying dst = some (.slice e)) (he : P.underlying e = some (.int .u8)) (s : ByteArray) (hm : s.size ≤ maxLen) :
    ∃ A c w1, (convert src dst (.string s)).run P w = .ok (.slice A (sl s).length c) w1 ∧ (sl s).length ≤ c ∧ c ≤ maxLen ∧ BA w1 A (sl s) ∧ Below w.heap.size w w1 := by
  refine ⟨some ⟨w.heap.size, 0, none⟩, grownCap w s.size 0 e, Lib.bytesWorld w e s, ?_, ?_, grownCap_le_maxLen _ _ _ _ hm, BA.conv w e s, below_conv w e s⟩
  · rw [sl_len]; exact Lib.run_convert_string_bytes w src dst e s hs hd he
  · rw [sl_len]; exact grownCap_ge _ _ _ _
/-- What Parse answers. -/
def parseR (s : Bs) (flow : Bool) : List Nd × Nat := (parseM (4 * s.length + 1) s flow).getD ([], 0)
def badText (s : Bs) : Bool := (check s).2 != 0 || List.isPrefixOf markL s || s.any (fun c => c == 13 || c == 10)
theorem parseR_bad (s : Bs) (flow : Bool) (h : badText s = true) : parseR s flow = ([], 1) := by
  unfold parseR parseM
  unfold badText at h
  rw [if_pos h]
  rfl
theorem parseR_good (s : Bs) (flow : Bool) (h : badText s = false) : parseR s flow = (if (takeR s flow 0).2.2 ≠ 0 then ([], (takeR s flow 0).2.2) else if (takeR s flow 0).2.1 ≠ s.length ∨ (takeR s flow 0).2.1 = 0 then ([], 2) else ((takeR s flow 0).1, 0)) := by
  obtain ⟨n, e, m, hm, _⟩ := takeM_some s flow 0
  have hT : takeM (4 * s.length + 1) s flow 0 = some (takeR s flow 0) := by
    unfold takeR takeM
    rw [hm]
    dsimp only
    split <;> rfl
  unfold parseR parseM
  unfold badText at h
  rw [if_neg (by rw [h]; simp), hT]
  dsimp only
  split
  · rfl
  · split <;> rfl
theorem NL.below {w w1 : World} {B : Nat} {v : Value} {m : List Nd} (h : NL w B v m) (hb : Below w.heap.size w w1) : NL w1 B v m := by
  obtain ⟨l, h1, h2, h3⟩ := h
  exact ⟨l, h1, own_below h2 hb, h3.below hb⟩
theorem own_less {w : World} {B B2 n e size : Nat} {v : Value} {xs : List Value} (h : w.ownsRow B e size v n xs) (hB : B2 ≤ B) : w.ownsRow B2 e size v n xs := by
  obtain ⟨h1, h2 | ⟨g, cap, cur, h2, h3, h4⟩⟩ := h
  · exact ⟨h1, .inl h2⟩
  · exact ⟨h1, .inr ⟨g, cap, cur, h2, Nat.le_trans hB h3, h4⟩⟩
theorem NL.less {w : World} {B B2 : Nat} {v : Value} {m : List Nd} (h : NL w B v m) (hB : B2 ≤ B) : NL w B2 v m := by
  obtain ⟨l, h1, h2, h3⟩ := h
  exact ⟨l, h1, own_less h2 hB, ⟨fun p hp => own_less (h3.row p hp) hB, h3.apart⟩⟩

set_option maxRecDepth 20000 in
set_option maxHeartbeats 1000000 in
theorem parse_gen (s : Bs) (flow : Bool) (w : World) (hT : Tabs w) (hs : s.length ≤ 140737488351232)
    (h8 : (check s).2 = 0 → List.isPrefixOf markL s = false → ∀ (A : Option Addr) (c : Nat) (W : World), Below w.heap.size w W → BA W A s → s.length ≤ c → s.length ≤ 65536 →
      Calls Tryd.prog 36 #[.slice A s.length c, .string ⟨#[13, 10]⟩] W fun e w' => e = .returned (.bool (crlfB s)) ∧ Below W.heap.size W w') :
    Calls Tryd.prog 19 #[.string ⟨s.toArray⟩, .bool flow] w fun e w' => ∃ v, e = .returned (.tuple #[v, .int .i64 (parseR s flow).2]) ∧ NL w' w.heap.size v (parseR s flow).1 ∧ Below w.heap.size w w' := by
  have hsz : (⟨s.toArray⟩ : ByteArray).size ≤ maxLen := by rw [mk_size]; unfold maxLen; omega
  obtain ⟨A, c, w1, hcv, hlc, hcm, hba, hb1⟩ := conv_bytes2 (P := Tryd.prog) w 9 51 5 Tryd.underlying9 Tryd.underlying51 Tryd.underlying5 ⟨s.toArray⟩ hsz
  rw [sl_mk] at hcv hlc hba
  unfold maxLen at hcm
  have cc := check_any A c s w1 (hT.below hb1) hba hlc hs
  have cp := fun W => Tryd.strings_HasPrefix ⟨s.toArray⟩ ⟨#[239, 187, 191]⟩ W
  have hpe : ∀ W, Calls Tryd.prog 35 #[.string ⟨s.toArray⟩, .string ⟨#[239, 187, 191]⟩] W fun e w' => e = .returned (.bool (List.isPrefixOf markL s)) ∧ W = w' := fun W => (cp W).mono fun e w' ⟨h1, h2⟩ => ⟨by rw [h1]; rfl, h2.symm⟩
  have hck0 : (check s).2 = 0 → s.length ≤ 65536 := fun h => by
    by_cases h1 : 65536 < s.length
    · rw [show check s = (65536, 10) by simp [check, h1]] at h
      cases h
    · omega
  have hbad := parseR_bad s flow
  have hgood := parseR_good s flow
  have hbt : badText s = ((check s).2 != 0 || List.isPrefixOf markL s || crlfB s) := rfl
  rw [hbt] at hbad hgood
  clear cp hT hbt
  have ct := fun w2 (hb2 : Below w1.heap.size w1 w2) (hl : s.length ≤ 65536) => takeI_any A c s flow 0 w2 (hba.below hb2) hlc hcm (by omega) (by omega)
  have ca := fun w2 (hb2 : Below w1.heap.size w1 w2) (hl : s.length ≤ 65536) e1 e2 => h8 e1 e2 A c w2 (hb1.trans (hb2.mono hb1.size)) (hba.below hb2) hlc hl
  have hbel : ∀ w2, Below w1.heap.size w1 w2 → Below w.heap.size w w2 := fun w2 hb2 => hb1.trans (hb2.mono hb1.size)
  obtain ⟨V, hV⟩ : ∃ V, parseR s flow = V := ⟨_, rfl⟩
  rw [hV] at hbad hgood ⊢
  have HBAD := Lib.hid hbad
  have HGOOD := Lib.hid hgood
  have HCK := Lib.hid hck0
  clear hV hbad hgood h8 hck0 hba
  obtain ⟨ck, hck⟩ : ∃ ck, check s = ck := ⟨_, rfl⟩
  rw [hck] at cc HBAD HGOOD ca HCK
  obtain ⟨at_, er⟩ := ck
  dsimp only at cc HBAD HGOOD ca HCK
  clear hck
  generalize List.isPrefixOf markL s = pre at *
  generalize crlfB s = nl at *
  generalize takeR s flow 0 = T at *
  obtain ⟨tm, tn, te⟩ := T
  dsimp only at ct HGOOD
  go_enter Tryd.func19, Tryd.ntmps19
  go_wp2_with fail
  refine cc.mono ?_
  rintro x w2 ⟨rfl, hb2⟩
  clear cc hcv
  by_cases her : er = 0
  · have hb : ((er : Int) != 0) = false := by subst her; rfl
    have hl := HCK.out her
    have HER := Lib.hid her
    have ct := fun w3 (h : Below w1.heap.size w1 w3) => ct w3 h hl
    replace ca := fun w3 (h : Below w1.heap.size w1 w3) h9 => ca w3 h hl her h9
    clear her HCK
    go_wp2_with fail
    refine (hpe _).mono ?_
    rintro x w' ⟨rfl, rfl⟩
    clear hpe
    cases pre
    · replace ca := ca w2 hb2 rfl
      go_wp2_with fail
      refine ca.mono ?_
      rintro x w3 ⟨rfl, hb3⟩
      have hb3 : Below w1.heap.size w1 w3 := hb2.trans (hb3.mono hb2.size)
      clear ca
      cases nl
      · have HG := Lib.hid (HGOOD.out (by rw [HER.out]; rfl))
        have ct := ct w3 hb3
        clear HBAD HGOOD
        go_wp2_with fail
        refine ct.mono ?_
        rintro x w4 ⟨v, rfl, hnl, hb4⟩
        have hb4' := hbel w4 (hb3.trans (hb4.mono hb3.size))
        have hnl' := hnl.less (Nat.le_trans hb1.size hb3.size)
        clear ct
        by_cases hte : te = 0
        · have hb : ((te : Int) != 0) = false := by subst hte; rfl
          by_cases htn : tn = s.length
          · have hb5 : ((tn : Int) != s.length) = false := by subst htn; simp
            by_cases ht0 : tn = 0
            · have hb6 : ((tn : Int) == 0) = true := by subst ht0; rfl
              have HF : Hid (V = ([], 2)) := Lib.hid (by rw [HG.out, if_neg (by simpa using hte), if_pos (.inr ht0)])
              clear HG hte htn ht0
              go_wp2
              go_ret2
              exact ⟨.slice none 0 0, by rw [HF.out]; rfl, by rw [HF.out]; exact NL.nil _ _, hb4'⟩
            · have hb6 : ((tn : Int) == 0) = false := by simp; omega
              have HF : Hid (V = (tm, 0)) := Lib.hid (by rw [HG.out, if_neg (by simpa using hte), if_neg (by omega)])
              clear HG hte htn ht0
              go_wp2
              go_ret2
              exact ⟨v, by rw [HF.out]; rfl, by rw [HF.out]; exact hnl', hb4'⟩
          · have hb5 : ((tn : Int) != s.length) = true := by simp only [bne_iff_ne, ne_eq]; omega
            have HF : Hid (V = ([], 2)) := Lib.hid (by rw [HG.out, if_neg (by simpa using hte), if_pos (.inl htn)])
            clear HG hte htn
            go_wp2
            go_ret2
            exact ⟨.slice none 0 0, by rw [HF.out]; rfl, by rw [HF.out]; exact NL.nil _ _, hb4'⟩
        · have hb : ((te : Int) != 0) = true := by simp only [bne_iff_ne, ne_eq]; omega
          have HF : Hid (V = ([], te)) := Lib.hid (by rw [HG.out, if_pos hte])
          clear HG hte
          go_wp2
          go_ret2
          exact ⟨.slice none 0 0, by rw [HF.out]; rfl, by rw [HF.out]; exact NL.nil _ _, hb4'⟩
      · have HF : Hid (V = ([], 1)) := Lib.hid (HBAD.out (by simp))
        clear HBAD HGOOD ct
        go_wp2
        go_ret2
        exact ⟨.slice none 0 0, by rw [HF.out]; rfl, by rw [HF.out]; exact NL.nil _ _, hbel _ hb3⟩
    · have HF : Hid (V = ([], 1)) := Lib.hid (HBAD.out (by simp))
      clear HBAD HGOOD ct ca
      go_wp2
      go_ret2
      exact ⟨.slice none 0 0, by rw [HF.out]; rfl, by rw [HF.out]; exact NL.nil _ _, hbel _ hb2⟩
  · have hb : ((er : Int) != 0) = true := by
      simp only [bne_iff_ne, ne_eq]
      omega
    have HF : Hid (V = ([], 1)) := Lib.hid (HBAD.out (by simp [her]))
    clear HBAD HGOOD her ct ca HCK hpe
    go_wp2
    go_ret2
    exact ⟨.slice none 0 0, by rw [HF.out]; rfl, by rw [HF.out]; exact NL.nil _ _, hbel _ hb2⟩
theorem parse_any (s : Bs) (flow : Bool) (w : World) (hT : Tabs w) (hs : s.length ≤ 140737488351232) (h8 : (check s).2 = 0 → List.isPrefixOf markL s = false → 8 < s.length ∨ ∀ k, k < s.length → (s.getD k 0).toNat < 128) :
    Calls Tryd.prog 19 #[.string ⟨s.toArray⟩, .bool flow] w fun e w' => ∃ v, e = .returned (.tuple #[v, .int .i64 (parseR s flow).2]) ∧ NL w' w.heap.size v (parseR s flow).1 ∧ Below w.heap.size w w' :=
  parse_gen s flow w hT hs fun h1 h2 A c W _ hba hlc hl => cany_any A c s W hba hlc (by omega) (h8 h1 h2)
/-- Parse at any text. -/
theorem parse_all (s : Bs) (flow : Bool) (w : World) (hT : Tabs w) (hM : Maxl w) (hs : s.length ≤ 140737488351232) :
    Calls Tryd.prog 19 #[.string ⟨s.toArray⟩, .bool flow] w fun e w' => ∃ v, e = .returned (.tuple #[v, .int .i64 (parseR s flow).2]) ∧ NL w' w.heap.size v (parseR s flow).1 ∧ Below w.heap.size w w' :=
  parse_gen s flow w hT hs fun _ _ A c W hb hba hlc hl => cany_all A c s W (hT.below hb) (hM.below hb) hba hlc (by omega)
end Go.Proofs.YtmindclciogneaaDoor
