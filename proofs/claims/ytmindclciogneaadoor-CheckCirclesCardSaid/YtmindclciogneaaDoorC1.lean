/- What chars and plain do: each function's call, said of bytes and strings. -/
import Derived.Test.YtmindclciogneaaDoorShelf
import Derived.Test.YtmindclciogneaaDoorM
import Derived.Deep.DeepMust
namespace Go.Proofs.YtmindclciogneaaDoor
open Go.RowKit

/-- The two tables of unicode/utf8 lie in the world as its text lays them. -/
def Tabs (w : World) : Prop := Lib.Utf8Tabs 0 1 w
theorem Tabs.below {w w1 : World} (h : Tabs w) (hb : Below w.heap.size w w1) : Tabs w1 := Utf8Tabs_below h hb

set_option maxHeartbeats 400000 in
theorem printable_any (r : Int) (w : World) :
    Calls Tryd.prog 58 #[.int .i32 r] w fun e w' => e = .returned (.bool (printableB r)) ∧ w = w' := by
  go_enter Tryd.func58, Tryd.ntmps58
  go_wp2
  all_goals
    go_ret
    refine ⟨ret_bool ?_, rfl⟩
    rw [Bool.eq_iff_iff, printableB_iff]
    simp only [beq_iff_eq, beq_eq_false_iff_ne, ne_eq, Bool.or_eq_true, decide_eq_true_eq, Bool.false_eq_true, false_iff, true_iff] at *
    omega

theorem decodeGo_dec (l : Bs) (h : 0 < l.length) : Lib.decodeGo ⟨l.toArray⟩ = dec l := by
  have hs : (⟨l.toArray⟩ : ByteArray).size = l.length := by rw [← sl_len, sl_mk]
  have hg : ∀ j, (⟨l.toArray⟩ : ByteArray).get! j = l.getD j 0 := fun j => by
    by_cases hj : j < l.length
    · rw [sl_get! _ j (by rw [hs]; exact hj), sl_mk]
    · simp [ByteArray.get!, List.getD_eq_getElem?_getD, Nat.le_of_not_lt hj]
      rfl
  simp only [Lib.decodeGo, hs, show l.length ≠ 0 from by omega, if_false]
  rw [Lib.decode_at, hs, hg, hg, hg, hg]
  simp [dec]

theorem decodeRune_any (A : Option Addr) (c : Nat) (l : Bs) (w : World) (hT : Tabs w) (h : BA w A l) (h0 : 0 < l.length) :
    Calls Tryd.prog 98 #[.slice A l.length c] w fun e w' => e = .returned (.tuple #[.int .i32 (dec l).1, .int .i64 (dec l).2]) ∧ Below w.heap.size w w' := by
  obtain ⟨b, o, rfl, hc⟩ := h h0
  have hs : (⟨l.toArray⟩ : ByteArray).size = l.length := by rw [← sl_len, sl_mk]
  have := Any7.utf8_DecodeRune Tryd.lays_unicode_utf8_DecodeRune ⟨l.toArray⟩ b o c w hT (fun j hj => by
    rw [hs] at hj
    rw [hc j hj, sl_get! _ j (by rw [hs]; exact hj), sl_mk])
  rw [hs, decodeGo_dec l h0] at this
  exact this

set_option maxHeartbeats 400000 in
theorem rune_any (A : Option Addr) (c : Nat) (l : Bs) (w : World) (hT : Tabs w) (h : BA w A l) (h0 : 0 < l.length) :
    Calls Tryd.prog 57 #[.slice A l.length c] w fun e w' => e = .returned (.tuple #[.int .i32 (runeV l), .int .i64 (dec l).2, .bool (!badRune l)]) ∧ Below w.heap.size w w' := by
  have hd := decodeRune_any A c l w hT h h0
  have e1 : badRune l = (decide (((dec l).1 : Int) = 65533) && decide (((dec l).2 : Int) < 2)) := by
    unfold badRune
    rw [Bool.eq_iff_iff]; simp; omega
  have e2 : runeV l = if badRune l then 0 else ((dec l).1 : Int) := rfl
  generalize ((dec l).1 : Int) = r at *
  generalize ((dec l).2 : Int) = n at *
  by_cases h1 : r = 65533
  · subst h1
    by_cases h2 : n < 2
    · rw [e2, show badRune l = true by simp [e1, h2]]
      clear e1 e2 h hT
      simp only [if_true, Bool.not_true]
      go_enter Tryd.func57, Tryd.ntmps57
      go_wp2_with (go_at_call 98; refine hd.mono ?_; rintro e w' ⟨rfl, hb⟩)
      go_ret3
      exact ⟨rfl, hb⟩
    · rw [e2, show badRune l = false by simp [e1, h2]]
      clear e1 e2 h hT
      simp only [Bool.false_eq_true, if_false, Bool.not_false]
      go_enter Tryd.func57, Tryd.ntmps57
      go_wp2_with (go_at_call 98; refine hd.mono ?_; rintro e w' ⟨rfl, hb⟩)
      go_ret3
      exact ⟨rfl, hb⟩
  · have h1' : (r == 65533) = false := by simpa using h1
    rw [e2, show badRune l = false by simp [e1, h1]]
    clear e1 e2 h hT
    simp only [Bool.false_eq_true, if_false, Bool.not_false]
    go_enter Tryd.func57, Tryd.ntmps57
    go_wp2_with (go_at_call 98; refine hd.mono ?_; rintro e w' ⟨rfl, hb⟩)
    go_ret3
    exact ⟨rfl, hb⟩
theorem pw_cell {w w1 : World} (hb : Below w.heap.size w w1) {a : Addr} {v : Value} (h : w.cell? a = some v) : w1.cell? a = some v := (hb.cell (World.block_lt_of_cell? w a h)).trans h
theorem checkFrom_nil (f k : Nat) : checkFrom f [] k = none := by cases f <;> simp [checkFrom]
/-- One round of Check. -/
theorem checkFrom_bad {f k : Nat} {l : Bs} (h0 : 0 < l.length) (hf : l.length ≤ f) (hb : badRune l = true ∨ ((dec l).1 = 13 ∧ (l.length = 1 ∨ (l.getD 1 0).toNat ≠ 10)) ∨ printableB (dec l).1 = false) : checkFrom f l k = some k := by
  obtain ⟨f, rfl⟩ : ∃ g, f = g + 1 := ⟨f - 1, by omega⟩
  have he : l.isEmpty = false := by cases l <;> simp_all
  simp only [checkFrom, he, Bool.false_eq_true, if_false]
  rw [if_pos (by simp; rcases hb with h | ⟨h, h'⟩ | h <;> simp_all)]
theorem checkFrom_good {f k : Nat} {l : Bs} {R : Option Nat} (h0 : 0 < l.length) (hf : l.length ≤ f) (h : checkFrom f l k = R) (hb : badRune l = false) (h13 : (dec l).1 = 13 → (¬ l.length = 1 ∧ (l.getD 1 0).toNat = 10)) (hp : printableB (dec l).1 = true) :
    ∃ g, (l.drop (dec l).2).length ≤ g ∧ checkFrom g (l.drop (dec l).2) (k + (dec l).2) = R := by
  obtain ⟨f, rfl⟩ : ∃ g, f = g + 1 := ⟨f - 1, by omega⟩
  have he : l.isEmpty = false := by cases l <;> simp_all
  have := dec_pos l
  simp only [checkFrom, he, Bool.false_eq_true, if_false] at h
  rw [if_neg (by simp [hb, hp]; exact h13)] at h
  exact ⟨f, by rw [List.length_drop]; omega, h⟩
set_option maxRecDepth 100000 in
set_option maxHeartbeats 1000000 in
theorem check_any (A : Option Addr) (c : Nat) (l : Bs) (w : World) (hT : Tabs w) (h : BA w A l) (hc : l.length ≤ c) (hn : l.length ≤ 140737488351232) :
    Calls Tryd.prog 34 #[.slice A l.length c] w fun e w' => e = .returned (.tuple #[.int .i64 (check l).1, .int .i64 (check l).2]) ∧ Below w.heap.size w w' := by
  by_cases h1 : 65536 < l.length
  · rw [show check l = (65536, 10) by simp [check, h1]]
    clear h hT
    go_enter Tryd.func34, Tryd.ntmps34
    go_wp2
    go_ret2
    exact ⟨rfl, Below.refl _ _⟩
  · obtain ⟨R, hR⟩ : ∃ R, (if markB l then checkFrom l.length (l.drop 3) 3 else checkFrom l.length l 0) = R := ⟨_, rfl⟩
    have hck : check l = checkRes R := by simp [check, h1, hR]
    rw [hck]
    clear hck
    have hcut := fun (h3 : 3 ≤ l.length) W => cut_to (P := Tryd.prog) 51 5 .i64 Tryd.underlying51 Tryd.sizeOf5 A l.length c 3 (by omega) W
    have hst := conv_str (P := Tryd.prog) w 51 9 5 Tryd.underlying51 Tryd.underlying5 Tryd.underlying9 A c (l.take 3) (h.take 3)
    have hm : ¬ 3 ≤ l.length → markB l = false := fun h3 => by
      unfold markB
      rw [beq_eq_false_iff_ne]
      intro e
      have := congrArg List.length e
      rw [List.length_take] at this
      simp at this
      omega
    have S3 : Hid ((l.take 3 == [239, 187, 191]) = true → ∃ k : Nat, k = 3 ∧ k ≤ l.length ∧ ∃ f, (l.drop k).length ≤ f ∧ checkFrom f (l.drop k) k = R) := Lib.hid fun e => ⟨3, rfl, by
      have e2 := congrArg List.length (beq_iff_eq.1 e)
      rw [List.length_take] at e2
      simp at e2
      omega, l.length, by rw [List.length_drop]; omega, by rw [if_pos (show markB l = true from e)] at hR; exact hR⟩
    have S0 : Hid ((l.take 3 == [239, 187, 191]) = false → ∃ k : Nat, k = 0 ∧ k ≤ l.length ∧ ∃ f, (l.drop k).length ≤ f ∧ checkFrom f (l.drop k) k = R) := Lib.hid fun e => ⟨0, rfl, by omega, l.length, by rw [List.length_drop]; omega, by rw [if_neg (by unfold markB; rw [e]; simp)] at hR; simpa using hR⟩
    have S1 : Hid (¬ 3 ≤ l.length → ∃ k : Nat, k = 0 ∧ k ≤ l.length ∧ ∃ f, (l.drop k).length ≤ f ∧ checkFrom f (l.drop k) k = R) := Lib.hid fun e => S0.out (by simpa [markB] using hm e)
    have hcut' : (3 : Int) ≤ l.length → ∀ W, (Instr.slice 51 (.slice A l.length c) none (some (.int .i64 3)) none).run Tryd.prog W = .ok (.slice A 3 c) W := fun e => hcut (by omega)
    have hst' : (3 : Int) ≤ l.length → (convert 51 9 (.slice A 3 c)).run Tryd.prog w = .ok (.string ⟨(l.take 3).toArray⟩) w := fun e => by
      have hlt : (l.take 3).length = 3 := by rw [List.length_take]; omega
      rw [hlt] at hst
      exact hst
    clear hR hm hcut hst
    have hcase : ((3 : Int) ≤ l.length ∧ (l.take 3 == [239, 187, 191]) = true) ∨ ((3 : Int) ≤ l.length ∧ (l.take 3 == [239, 187, 191]) = false) ∨ ¬ (3 : Int) ≤ l.length := by
      by_cases h3 : (3 : Int) ≤ l.length <;> cases h4 : (l.take 3 == [239, 187, 191]) <;> simp [h3]
    rcases hcase with ⟨h3, h4⟩ | ⟨h3, h4⟩ | h3
    all_goals
      go_enter Tryd.func34, Tryd.ntmps34
      go_wp2_with fail
      go_loopw [2] (fun v wr => ∃ k : Nat, k ≤ l.length ∧ v = .int .i64 k ∧ Below w.heap.size w wr ∧ ∃ f, (l.drop k).length ≤ f ∧ checkFrom f (l.drop k) k = R) (fun v _ => l.length - (intOf v).toNat)
      case atStart =>
        first
          | (refine Exists.elim (S3.out ?_) ?_; assumption; (rintro k ⟨rfl, hk, hf⟩; exact ⟨_, hk, rfl, Below.refl _ _, hf⟩))
          | (refine Exists.elim (S0.out ?_) ?_; assumption; (rintro k ⟨rfl, hk, hf⟩; exact ⟨_, hk, rfl, Below.refl _ _, hf⟩))
          | (refine Exists.elim (S1.out ?_) ?_; omega; (rintro k ⟨rfl, hk, hf⟩; exact ⟨_, hk, rfl, Below.refl _ _, hf⟩))
      case round =>
        clear S3 S0 S1 hcut' hst'
        obtain ⟨k, hk, rfl, hbw, f, hf, hck⟩ := hrel
        have HC := Lib.hid hck
        clear hck
        by_cases hlt : k < l.length
        · obtain ⟨d, hd⟩ : ∃ d, l.drop k = d := ⟨_, rfl⟩
          have hdl : d.length = l.length - k := by rw [← hd, List.length_drop]
          have hr := rune_any (cutA A c k) (c - k) (l.drop k) wr (hT.below hbw) ((h.below hbw).drop k hc) (by rw [List.length_drop]; omega)
          have hcf := fun W => cut_from (P := Tryd.prog) 51 5 .i64 Tryd.underlying51 Tryd.sizeOf5 A l.length c k hk W
          rw [hd] at hr hf HC
          rw [hdl] at hr
          have hp1 := dec_pos d
          have hp2 := dec_le d (by omega)
          have HD := Lib.hid hdl
          have Hd := Lib.hid hd
          clear hdl
          by_cases hbad : badRune d = true
          · have e0 : runeV d = 0 := by simp [runeV, hbad]
            have HF : Hid (R = some k) := Lib.hid (by rw [← HC.out]; exact checkFrom_bad (by rw [HD.out]; omega) hf (.inl hbad))
            rw [e0, hbad] at hr
            clear e0 hbad hd h hT hf HC
            go_wp2_with (first | (go_at_call 57; refine hr.mono ?_; rintro e w1 ⟨rfl, hb1⟩))
            go_ret2
            exact ⟨by rw [HF.out]; rfl, hbw.trans (hb1.mono hbw.size)⟩
          · have hbad' : badRune d = false := by simpa using hbad
            have e0 : runeV d = ((dec d).1 : Int) := by simp [runeV, hbad']
            rw [e0, hbad'] at hr
            clear e0 hd
            obtain ⟨r, hr0⟩ : ∃ r : Int, ((dec d).1 : Int) = r := ⟨_, rfl⟩
            rw [hr0] at hr
            have hat := (h.below hbw).at (k + 1)
            by_cases h13 : r = 13
            · subst h13
              by_cases hlast : k + 1 = l.length
              · have HF : Hid (R = some k) := Lib.hid (by rw [← HC.out]; exact checkFrom_bad (by rw [HD.out]; omega) hf (.inr (.inl ⟨by omega, .inl (by rw [HD.out]; omega)⟩)))
                have hl' : ((k : Int) + 1 == (l.length : Int)) = true := by simp; omega
                clear hat hbad hbad' hr0 hlast h hT hf HC
                go_wp2_with (first | (go_at_call 57; refine hr.mono ?_; rintro e w1 ⟨rfl, hb1⟩))
                go_ret2
                exact ⟨by rw [HF.out]; rfl, hbw.trans (hb1.mono hbw.size)⟩
              · obtain ⟨b, o, rfl, hcell⟩ := hat (by omega)
                clear hat
                have hk1 : k + 1 < l.length := by omega
                have hl' : ((k : Int) + 1 == (l.length : Int)) = false := by simp; omega
                have hg : d.getD 1 0 = l.getD (k + 1) 0 := by rw [← Hd.out]; simp [List.getD_eq_getElem?_getD, List.getElem?_drop]
                by_cases h10 : (l.getD (k + 1) 0).toNat = 10
                · rw [h10] at hcell
                  have HF : Hid (∃ g, (d.drop (dec d).2).length ≤ g ∧ checkFrom g (d.drop (dec d).2) (k + (dec d).2) = R) := checkFrom_good (by rw [HD.out]; omega) hf HC.out hbad' (fun _ => ⟨by rw [HD.out]; omega, by rw [hg]; exact h10⟩) (by rw [hr0]; rfl)
                  have hp : printableB 13 = true := rfl
                  rw [← Hd.out, List.drop_drop, Hd.out] at HF
                  obtain ⟨n, hn0⟩ : ∃ n : Nat, (dec d).2 = n := ⟨_, rfl⟩
                  rw [hn0] at hr HF hp1 hp2
                  have hkn : k + n ≤ l.length := by have := HD.out; omega
                  clear hbad hbad' hr0 hlast h hT hf HC hg h10 hn0
                  go_wp2_with (first | (go_at_call 57; refine hr.mono ?_; rintro e w1 ⟨rfl, hb1⟩; go_must (have hcell := (pw_cell hb1 hcell))) | (go_at_call 58; refine (printable_any _ _).mono ?_; rintro e w' ⟨rfl, rfl⟩))
                  go_roundw
                  case rel => exact ⟨k + n, by omega, by go_num, hbw.trans (hb1.mono hbw.size), HF.out⟩
                  case measure => simp [intOf]; omega
                · have HF : Hid (R = some k) := Lib.hid (by rw [← HC.out]; exact checkFrom_bad (by rw [HD.out]; omega) hf (.inr (.inl ⟨by omega, .inr (by rw [hg]; exact h10)⟩)))
                  obtain ⟨y, hy⟩ : ∃ y : Int, ((l.getD (k + 1) 0).toNat : Int) = y := ⟨_, rfl⟩
                  rw [hy] at hcell
                  have h10' : (y != 10) = true := by simp; omega
                  clear hbad hbad' hr0 hlast h hT hf HC hg h10 hy
                  go_wp2_with (first | (go_at_call 57; refine hr.mono ?_; rintro e w1 ⟨rfl, hb1⟩; go_must (have hcell := (pw_cell hb1 hcell))))
                  go_ret2
                  exact ⟨by rw [HF.out]; rfl, hbw.trans (hb1.mono hbw.size)⟩
            · have h13' : (r == 13) = false := by simpa using h13
              by_cases hp : printableB r = true
              · have HF : Hid (∃ g, (d.drop (dec d).2).length ≤ g ∧ checkFrom g (d.drop (dec d).2) (k + (dec d).2) = R) := checkFrom_good (by rw [HD.out]; omega) hf HC.out hbad' (fun e => absurd (by omega) h13) (by rw [hr0]; exact hp)
                rw [← Hd.out, List.drop_drop, Hd.out] at HF
                obtain ⟨n, hn0⟩ : ∃ n : Nat, (dec d).2 = n := ⟨_, rfl⟩
                rw [hn0] at hr HF hp1 hp2
                have hkn : k + n ≤ l.length := by have := HD.out; omega
                clear hat hbad hbad' hr0 h hT hf HC hn0 h13
                go_wp2_with (first | (go_at_call 57; refine hr.mono ?_; rintro e w1 ⟨rfl, hb1⟩) | (go_at_call 58; refine (printable_any _ _).mono ?_; rintro e w' ⟨rfl, rfl⟩))
                go_roundw
                case rel => exact ⟨k + n, by omega, by go_num, hbw.trans (hb1.mono hbw.size), HF.out⟩
                case measure => simp [intOf]; omega
              · have hp' : printableB r = false := by simpa using hp
                have HF : Hid (R = some k) := Lib.hid (by rw [← HC.out]; exact checkFrom_bad (by rw [HD.out]; omega) hf (.inr (.inr (by rw [hr0]; exact hp'))))
                clear hat hbad hbad' hr0 h hT hf HC h13 hp
                go_wp2_with (first | (go_at_call 57; refine hr.mono ?_; rintro e w1 ⟨rfl, hb1⟩) | (go_at_call 58; refine (printable_any _ _).mono ?_; rintro e w' ⟨rfl, rfl⟩))
                go_ret2
                exact ⟨by rw [HF.out]; rfl, hbw.trans (hb1.mono hbw.size)⟩
        · go_wp2
          go_ret2
          rw [List.drop_of_length_le (by omega), checkFrom_nil] at HC
          exact ⟨by rw [← HC.out]; rfl, hbw⟩
end Go.Proofs.YtmindclciogneaaDoor
