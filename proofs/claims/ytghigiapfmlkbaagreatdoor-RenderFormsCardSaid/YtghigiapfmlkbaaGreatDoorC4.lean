/- plain.Valid, chars.Name. -/
import Derived.Test.YtghigiapfmlkbaaGreatDoorC3
namespace Go.Proofs.YtghigiapfmlkbaaGreatDoor
open Go.RowKit

theorem cleanFrom_good {f : Nat} {l : Bs} {R : Bool} (h0 : 0 < l.length) (hf : l.length ≤ f) (h : cleanFrom f l = R) (hb : badRune l = false) (hp : printableB (dec l).1 = true) (h32 : ¬ ((dec l).1 : Int) < 32) :
    ∃ g, (l.drop (dec l).2).length ≤ g ∧ cleanFrom g (l.drop (dec l).2) = R := by
  obtain ⟨f, rfl⟩ : ∃ g, f = g + 1 := ⟨f - 1, by omega⟩
  have he : l.isEmpty = false := by cases l <;> simp_all
  have := dec_pos l
  simp only [cleanFrom, he, Bool.false_eq_true, if_false] at h
  rw [if_neg (by simp [hb, hp]; omega)] at h
  exact ⟨f, by rw [List.length_drop]; omega, h⟩
theorem cleanFrom_bad {f : Nat} {l : Bs} (h0 : 0 < l.length) (hf : l.length ≤ f) (hb : badRune l = true ∨ printableB (dec l).1 = false ∨ ((dec l).1 : Int) < 32) : cleanFrom f l = false := by
  obtain ⟨f, rfl⟩ : ∃ g, f = g + 1 := ⟨f - 1, by omega⟩
  have he : l.isEmpty = false := by cases l <;> simp_all
  simp only [cleanFrom, he, Bool.false_eq_true, if_false]
  rw [if_pos (by simp; rcases hb with h | h | h <;> simp_all; omega)]
theorem cleanFrom_nil (f : Nat) : cleanFrom f [] = true := by cases f <;> simp [cleanFrom]

set_option maxRecDepth 100000 in
set_option maxHeartbeats 1000000 in
theorem valid_any (s : ByteArray) (flow : Bool) (w : World) (hT : Tabs w) (hn : s.size ≤ 140737488351232) :
    Calls Tryz.prog 91 #[.string s, .bool flow] w fun e w' => e = .returned (.bool (validB (sl s) flow)) ∧ Below w.heap.size w w' := by
  obtain ⟨A, c, w1, hconv, hc, hba, hbel⟩ := conv_bytes (P := Tryz.prog) w 9 43 5 Tryz.underlying9 Tryz.underlying43 Tryz.underlying5 s
  have hem := sl_empty s
  have hT0 := hT.below hbel
  have hn : (sl s).length ≤ 140737488351232 := by rw [sl_len]; exact hn
  generalize sl s = l at *
  obtain ⟨V, hV⟩ : ∃ V, validB l flow = V := ⟨_, rfl⟩
  rw [hV]
  have HV := Lib.hid hV
  clear hV hT
  have hlen := fun W (hb : Below w1.heap.size w1 W) => length_any A c l flow W (hba.below hb) hc hn
  go_enter Tryz.func91, Tryz.ntmps91
  go_wp2_with fail
  have HC : Hid (cleanFrom l.length l = false → V = false) := Lib.hid (fun e => by rw [← HV.out]; simp [validB, e])
  have HC1 : Hid (cleanFrom l.length l = true → V = (!l.isEmpty && plainLen l flow == l.length)) := Lib.hid (fun e => by rw [← HV.out]; simp [validB, e])
  clear HV
  go_loopw [6] (fun v wr => ∃ k : Nat, k ≤ l.length ∧ v = .int .i64 k ∧ Below w1.heap.size w1 wr ∧ ∃ f, (l.drop k).length ≤ f ∧ cleanFrom f (l.drop k) = cleanFrom l.length l) (fun v _ => l.length - (intOf v).toNat)
  case atStart => exact ⟨0, Nat.zero_le _, rfl, Below.refl _ _, l.length, by simp, by simp⟩
  case round =>
    clear hconv
    obtain ⟨k, hk, rfl, hbw, f, hf, hck⟩ := hrel
    have HK := Lib.hid hck
    clear hck
    have hbw0 := hbel.trans (hbw.mono hbel.size)
    by_cases hlt : k < l.length
    · obtain ⟨d, hd⟩ : ∃ d, l.drop k = d := ⟨_, rfl⟩
      have hdl : d.length = l.length - k := by rw [← hd, List.length_drop]
      have hr := rune_any (cutA A c k) (c - k) (l.drop k) wr (hT0.below hbw) ((hba.below hbw).drop k hc) (by rw [List.length_drop]; omega)
      have hcf := fun W => cut_from (P := Tryz.prog) 43 5 .i64 Tryz.underlying43 Tryz.sizeOf5 A l.length c k hk W
      rw [hd] at hr hf HK
      rw [hdl] at hr
      have hp1 := dec_pos d
      have hp2 := dec_le d (by omega)
      have HD := Lib.hid hdl
      have Hd := Lib.hid hd
      clear hdl hd hlen hem
      have hfin : (badRune d = true ∨ printableB (dec d).1 = false ∨ ((dec d).1 : Int) < 32) → Hid (V = false) := fun hb => HC.out (by rw [← HK.out]; exact cleanFrom_bad (by rw [HD.out]; omega) hf hb)
      have hgo := fun hb hp h32 => cleanFrom_good (l := d) (f := f) (R := cleanFrom l.length l) (by rw [HD.out]; omega) hf HK.out hb hp h32
      rw [← Hd.out, List.drop_drop, Hd.out] at hgo
      clear hf HK
      obtain ⟨r, hr0⟩ : ∃ r : Int, ((dec d).1 : Int) = r := ⟨_, rfl⟩
      obtain ⟨n, hn0⟩ : ∃ n : Nat, (dec d).2 = n := ⟨_, rfl⟩
      have hrv : badRune d = false → runeV d = r := fun e => by rw [← hr0]; simp [runeV, e]
      rw [hn0] at hr hp1 hp2 hgo
      rw [hr0] at hfin hgo
      have hkn : k + n ≤ l.length := by have := HD.out; omega
      clear hn0 hr0
      cases hbad : badRune d
      case true =>
        rw [hbad] at hr
        have HF := hfin (.inl hbad)
        clear hfin hgo hbad hrv
        go_wp2_with (first | (go_at_call 73; refine hr.mono ?_; rintro e w2 ⟨rfl, hb1⟩))
        go_ret
        exact ⟨by rw [HF.out]; rfl, hbw0.trans (hb1.mono hbw0.size)⟩
      case false =>
        rw [hbad, hrv hbad] at hr
        clear hrv
        cases hp : printableB r
        case false =>
          have HF := hfin (.inr (.inl hp))
          clear hfin hgo hbad
          go_wp2_with (first | (go_at_call 73; refine hr.mono ?_; rintro e w2 ⟨rfl, hb1⟩) | (go_at_call 74; refine (printable_any _ _).mono ?_; rintro e w' ⟨rfl, rfl⟩))
          go_ret
          exact ⟨by rw [HF.out]; rfl, hbw0.trans (hb1.mono hbw0.size)⟩
        case true =>
          by_cases h32 : r < 32
          · have HF := hfin (.inr (.inr h32))
            clear hfin hgo hbad
            go_wp2_with (first | (go_at_call 73; refine hr.mono ?_; rintro e w2 ⟨rfl, hb1⟩) | (go_at_call 74; refine (printable_any _ _).mono ?_; rintro e w' ⟨rfl, rfl⟩))
            go_ret
            exact ⟨by rw [HF.out]; rfl, hbw0.trans (hb1.mono hbw0.size)⟩
          · have HG := Lib.hid (hgo hbad hp h32)
            clear hfin hgo hbad
            go_wp2_with (first | (go_at_call 73; refine hr.mono ?_; rintro e w2 ⟨rfl, hb1⟩) | (go_at_call 74; refine (printable_any _ _).mono ?_; rintro e w' ⟨rfl, rfl⟩))
            go_roundw
            case rel => exact ⟨k + n, by omega, by go_num, hbw.trans (hb1.mono hbw.size), HG.out⟩
            case measure => simp [intOf]; omega
    · rw [List.drop_of_length_le (by omega), cleanFrom_nil] at HK
      have HF := Lib.hid (HC1.out HK.out.symm)
      have hlen := hlen wr hbw
      clear HC HC1 HK
      cases hE : l.isEmpty
      · rw [hE] at hem
        go_wp2_with (go_at_call 138; refine hlen.mono ?_; rintro e w' ⟨rfl, rfl⟩)
        go_ret
        exact ⟨ret_bool (by rw [HF.out, hE, Bool.eq_iff_iff]; simp; omega), hbw0⟩
      · rw [hE] at hem
        go_wp2_with (go_at_call 138; refine hlen.mono ?_; rintro e w' ⟨rfl, rfl⟩)
        go_ret
        exact ⟨ret_bool (by rw [HF.out, hE]; rfl), hbw0⟩

set_option maxHeartbeats 1000000 in
theorem name_any (s : ByteArray) (w : World) (hn : s.size ≤ 140737488351232) :
    Calls Tryz.prog 129 #[.string s] w fun e w' => e = .returned (.bool (nameB (sl s))) ∧ Below w.heap.size w w' := by
  obtain ⟨A, c, w1, hconv, hc, hba, hbel⟩ := conv_bytes (P := Tryz.prog) w 9 43 5 Tryz.underlying9 Tryz.underlying43 Tryz.underlying5 s
  have hem := sl_empty s
  have hsz := sl_len s
  have hn : (sl s).length ≤ 140737488351232 := by rw [sl_len]; exact hn
  generalize sl s = l at *
  obtain ⟨V, hV⟩ : ∃ V, nameB l = V := ⟨_, rfl⟩
  rw [hV]
  have HV := Lib.hid hV
  have HZ := Lib.hid hsz
  clear hV hsz
  go_enter Tryz.func129, Tryz.ntmps129
  go_wp2_with fail
  go_loopw [8] (fun v wr => ∃ k : Nat, k ≤ l.length ∧ v = .int .i64 k ∧ wr = w1 ∧ (l.take k).all letterB = true) (fun v _ => l.length - (intOf v).toNat)
  case atStart => exact ⟨0, Nat.zero_le _, rfl, rfl, by simp⟩
  case round =>
    clear hconv
    obtain ⟨k, hk, rfl, rfl, hall⟩ := hrel
    have HA := Lib.hid hall
    clear hall
    by_cases hlt : k < l.length
    · obtain ⟨b, o, rfl, hcell⟩ := hba.at k hlt
      have hlet := letter_any (l.getD k 0) wr
      have htk := take_succ l k hlt
      have HY : Hid (letterB (l.getD k 0) = true → (l.take (k + 1)).all letterB = true) := Lib.hid (fun e => by rw [htk, List.all_append, HA.out]; simp; simpa [List.getD_eq_getElem?_getD] using e)
      have HN : Hid (letterB (l.getD k 0) = false → V = false) := Lib.hid (fun e => by
        rw [← HV.out]
        unfold nameB
        rw [← List.take_append_drop (k + 1) l, htk, List.all_append, List.all_append]
        have e2 : ([l.getD k 0].all letterB) = false := by simp only [List.all_cons, List.all_nil, e]; rfl
        rw [e2]
        simp)
      clear htk
      generalize l.getD k 0 = x at *
      generalize letterB x = p at *
      cases p
      · have HF := Lib.hid (HN.out rfl)
        clear HN HY
        go_wp2_with (go_at_call 168; refine hlet.mono ?_; rintro e w' ⟨rfl, rfl⟩)
        go_ret
        exact ⟨by rw [HF.out]; rfl, hbel⟩
      · have HF := Lib.hid (HY.out rfl)
        clear HN HY
        go_wp2_with (go_at_call 168; refine hlet.mono ?_; rintro e w' ⟨rfl, rfl⟩)
        go_roundw
        case rel => exact ⟨k + 1, by omega, by go_num, trivial, HF.out⟩
        case measure => simp [intOf]; omega
    · rw [List.take_of_length_le (by omega)] at HA
      have HF : Hid (V = (!l.isEmpty && decide (l.length ≤ 32))) := Lib.hid (by rw [← HV.out]; simp [nameB, HA.out])
      have hs32 : decide ((s.size : Int) ≤ 32) = decide (l.length ≤ 32) := by rw [Bool.eq_iff_iff]; simp [HZ.out]; omega
      have HS := Lib.hid hs32
      clear hs32 HV
      cases hE : l.isEmpty
      · rw [hE] at hem
        go_wp2
        go_ret
        exact ⟨ret_bool (by rw [HF.out, hE, ← HS.out]; simp), hbel⟩
      · rw [hE] at hem
        go_wp2
        go_ret
        exact ⟨ret_bool (by rw [HF.out, hE]; rfl), hbel⟩
end Go.Proofs.YtghigiapfmlkbaaGreatDoor
