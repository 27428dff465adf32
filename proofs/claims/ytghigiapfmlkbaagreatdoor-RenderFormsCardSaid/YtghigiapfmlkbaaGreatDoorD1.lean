/- What double does: Hex, runes, one. -/
import Derived.Test.YtghigiapfmlkbaaGreatDoorC7
import Derived.Test.YtghigiapfmlkbaaGreatDoorM3
import Derived.Laws.BitsAllLaws
namespace Go.Proofs.YtghigiapfmlkbaaGreatDoor
open Go.RowKit

theorem hexB_len : ∀ k n, (hexB k n).length = k
  | 0, _ => rfl
  | k + 1, n => by rw [hexB, List.length_cons, hexB_len k n]
theorem sl_append (a b : ByteArray) : sl (a ++ b) = sl a ++ sl b := by simp [sl]
theorem u32_and15 (n : Nat) (h : n < 4294967296) : bits .and .u32 (n : Int) 15 = ((n % 16 : Nat) : Int) := by
  have := u32_and_nat n 15 h (by omega)
  rw [nat_mask4] at this
  exact this
theorem encode_ascii (c : UInt8) (h : c.toNat < 128) : Utf8.encode (c.toNat : Int) = ⟨#[c]⟩ := by
  unfold Utf8.encode
  have hv : Utf8.valid (c.toNat : Int) = true := by simp [Utf8.valid]; omega
  simp only [hv, if_true]
  simp [h]
theorem sixteen_ascii : ∀ j, j < 16 → (sixteen.getD j 0).toNat < 128 := by decide
set_option maxHeartbeats 1000000 in
theorem hex_any (n k : Nat) (hn : n < 4294967296) (hk : k ≤ 8) (w : World) :
    Calls Tryz.prog 181 #[.int .u32 n, .int .i64 k] w fun e w' => e = .returned (.string ⟨(hexB k n).toArray⟩) ∧ w = w' := by
  have hk0 : ¬ ((k : Int) < 0) := by omega
  have hk8 : ¬ ((8 : Int) < k) := by omega
  go_enter Tryz.func181, Tryz.ntmps181
  go_wp2
  go_loop [0, 5, 13] (fun a b c => ∃ (j m : Nat) (s : ByteArray), j ≤ k ∧ n / 16 ^ j = m ∧ a = .int .u32 m ∧ b = .string s ∧ sl s = hexB j n ∧ c = .int .i64 j) (fun _ _ c => k - (intOf c).toNat)
  case atStart => exact ⟨0, _, _, Nat.zero_le _, by simp, rfl, rfl, rfl, rfl⟩
  case round =>
    obtain ⟨j, m, s, hj, hm, rfl, rfl, hs, rfl⟩ := hrel
    have HS := Lib.hid hs
    have hm32 : m < 4294967296 := by rw [← hm]; exact Nat.lt_of_le_of_lt (Nat.div_le_self _ _) hn
    have HM := Lib.hid hm
    clear hs hm
    by_cases hlt : j < k
    · have hand := u32_and15 m hm32
      have hmod : m % 16 < 16 := Nat.mod_lt _ (by omega)
      obtain ⟨D, hD⟩ : ∃ D, sixteen.getD (m % 16) 0 = D := ⟨_, rfl⟩
      have hE : ∀ h, Utf8.encode ((((⟨#[48, 49, 50, 51, 52, 53, 54, 55, 56, 57, 65, 66, 67, 68, 69, 70]⟩ : ByteArray)[m % 16]'h).toNat : Nat) : Int) = ⟨#[D]⟩ := fun h => by
        rw [sl_get _ _ h, show sl ⟨#[48, 49, 50, 51, 52, 53, 54, 55, 56, 57, 65, 66, 67, 68, 69, 70]⟩ = sixteen from rfl, hD]
        exact encode_ascii D (by rw [← hD]; exact sixteen_ascii _ hmod)
      have hss : s.size ≤ 8 := by rw [← sl_len, HS.out, hexB_len]; omega
      have HD := Lib.hid hD
      clear hD
      go_wp2
      refine ⟨⟨j + 1, m / 16, _, by omega, ?_, by rw [Int.natCast_ediv]; rfl, rfl, ?_, by go_num⟩, by simp [intOf]; omega⟩
      · rw [← HM.out, Nat.pow_succ, Nat.div_div_eq_div_mul]
      · rw [sl_append, HS.out, hexB, HM.out, HD.out]
        rfl
    · obtain rfl : j = k := by omega
      go_wp2
      go_ret
      exact ⟨by rw [← HS.out, mk_sl]; rfl, rfl⟩

/-- double.runes: a literal. -/
theorem runes_any (w : World) : Calls Tryz.prog 180 #[] w fun e w' => e = .returned (.slice (some ⟨w.heap.size, 0, none⟩) 13 13) ∧ w' = w.alloc (.cells (runeL.map (Value.int .i32)).toArray 21) := by
  go_enter Tryz.func180, Tryz.ntmps180
  go_wp2
  go_ret
  exact ⟨rfl, rfl⟩

theorem bytes_app (a b : Bs) : (⟨a.toArray⟩ : ByteArray) ++ ⟨b.toArray⟩ = ⟨(a ++ b).toArray⟩ := by
  apply WideShapes.bytes_inj
  simp
/-- string(r) is the rune's bytes. -/
theorem encode_enc (r : Int) (h0 : 0 ≤ r) (h1 : r ≤ 1114111) : Utf8.encode r = ⟨(enc r).toArray⟩ := by
  obtain ⟨n, rfl⟩ := Int.eq_ofNat_of_zero_le h0
  unfold enc Lib.encodeRune Utf8.encode
  by_cases hv : Utf8.valid (n : Int) = true
  · have hv2 : n < 55296 ∨ (57344 ≤ n ∧ n ≤ 1114111) := by
      simp only [Utf8.valid] at hv
      simp at hv
      omega
    rw [if_pos hv]
    simp only [Int.toNat_natCast]
    by_cases a : n < 128
    · rw [Lib.encodeRuneZ_one (by omega) (by omega), if_pos a]
      simp only [List.map_cons, List.map_nil, Int.toNat_natCast]
    · rw [if_neg a]
      by_cases b : n < 2048
      · rw [Lib.encodeRuneZ_two (by omega) (by omega), if_pos b]
        simp only [List.map_cons, List.map_nil]
        rw [show (192 + (n : Int) / 64).toNat = 192 + n / 64 by omega, show (128 + (n : Int) % 64).toNat = 128 + n % 64 by omega]
      · rw [if_neg b]
        by_cases c : n < 65536
        · rw [Lib.encodeRuneZ_three (by omega), if_pos c]
          simp only [List.map_cons, List.map_nil]
          rw [show (224 + (n : Int) / 4096).toNat = 224 + n / 4096 by omega, show (128 + (n : Int) / 64 % 64).toNat = 128 + n / 64 % 64 by omega, show (128 + (n : Int) % 64).toNat = 128 + n % 64 by omega]
        · rw [Lib.encodeRuneZ_four (by omega) (by omega), if_neg c]
          simp only [List.map_cons, List.map_nil]
          rw [show (240 + (n : Int) / 262144).toNat = 240 + n / 262144 by omega, show (128 + (n : Int) / 4096 % 64).toNat = 128 + n / 4096 % 64 by omega, show (128 + (n : Int) / 64 % 64).toNat = 128 + n / 64 % 64 by omega, show (128 + (n : Int) % 64).toNat = 128 + n % 64 by omega]
  · have hv2 : 55296 ≤ n ∧ n ≤ 57343 := by
      simp only [Utf8.valid] at hv
      simp at hv
      omega
    rw [if_neg hv, Lib.encodeRuneZ_bad (by omega)]
    rfl

theorem letter_at (k : Nat) (hk : k < 13) : (⟨#[48, 97, 98, 116, 110, 118, 102, 114, 101, 78, 95, 76, 80]⟩ : ByteArray).extract k (k + 1) = ⟨#[letterL.getD k 0]⟩ := by
  apply WideShapes.bytes_inj
  rw [Lib.extract_data]
  show (letterL.drop k).take (k + 1 - k) = [letterL.getD k 0]
  rw [drop_cons letterL k (by simpa [letterL] using hk), show k + 1 - k = 1 by omega]
  rfl
theorem letterOf_step (r : Int) (k : Nat) (hk : k < 13) : letterOf r (runeL.drop k) (letterL.drop k) = if runeL.getD k 0 = r then some (letterL.getD k 0) else letterOf r (runeL.drop (k + 1)) (letterL.drop (k + 1)) := by
  have h1 : runeL.drop k = runeL.getD k 0 :: runeL.drop (k + 1) := by
    rw [List.drop_eq_getElem_cons (by simpa [runeL] using hk)]
    simp [List.getD_eq_getElem?_getD, List.getElem?_eq_getElem (show k < runeL.length by simpa [runeL] using hk)]
  have h2 := drop_cons letterL k (by simpa [letterL] using hk)
  conv => lhs; rw [h1, h2]
  rw [letterOf]

set_option maxRecDepth 100000 in
set_option maxHeartbeats 1000000 in
theorem one_any (r : Int) (h0 : 0 ≤ r) (h1 : r ≤ 1114111) (w : World) :
    Calls Tryz.prog 140 #[.int .i32 r] w fun e w' => e = .returned (.string ⟨(oneB r).toArray⟩) ∧ Below w.heap.size w w' := by
  obtain ⟨V, hV⟩ : ∃ V, oneB r = V := ⟨_, rfl⟩
  obtain ⟨L, hL⟩ : ∃ L, letterOf r runeL letterL = L := ⟨_, rfl⟩
  have HV := Lib.hid hV
  have HL := Lib.hid hL
  rw [hV]
  clear hV hL
  have hbel : Below w.heap.size w (w.alloc (.cells (runeL.map (Value.int .i32)).toArray 21)) := (Below.refl _ _).alloc (Nat.le_refl _) _
  have hcell : ∀ j, j < 13 → (w.alloc (.cells (runeL.map (Value.int .i32)).toArray 21)).cell? ⟨w.heap.size, j, none⟩ = some (.int .i32 (runeL.getD j 0)) := fun j hj => by
    rw [cell_of_row _ _ _ _ 21 (0, 0) (heap_alloc_new w _)]
    simp [List.getD_eq_getElem?_getD, List.getElem?_eq_getElem (show j < runeL.length by simpa [runeL] using hj)]
  have hrun := runes_any w
  obtain ⟨w1, hw1⟩ : ∃ w1, w.alloc (.cells (runeL.map (Value.int .i32)).toArray 21) = w1 := ⟨_, rfl⟩
  rw [hw1] at *
  clear hw1
  go_enter Tryz.func140, Tryz.ntmps140
  go_wp2_with fail
  refine hrun.mono ?_
  rintro e w' ⟨rfl, rfl⟩
  clear hrun
  go_wp2_with fail
  go_loop [3, 4, 7] (fun _ _ c => ∃ k : Nat, k ≤ 13 ∧ c = .int .i64 k ∧ letterOf r (runeL.drop k) (letterL.drop k) = L) (fun _ _ c => 13 - (intOf c).toNat)
  case atStart => exact ⟨0, by omega, rfl, HL.out⟩
  case round =>
    obtain ⟨k, hk, rfl, hlk⟩ := hrel
    have HK := Lib.hid hlk
    clear hlk
    by_cases hlt : k < 13
    · have hc := hcell k hlt
      have hst := Lib.hid (letterOf_step r k hlt)
      have hat := letter_at k hlt
      generalize runeL.getD k 0 = y at *
      generalize letterL.getD k 0 = c at *
      clear hcell
      by_cases hy : y = r
      · have HF : Hid (V = [92, c]) := Lib.hid (by
          rw [← HV.out]
          have : L = some c := by rw [← HK.out, hst.out, if_pos hy]
          simp [oneB, HL.out, this])
        subst hy
        go_wp2
        go_ret
        exact ⟨by rw [HF.out]; rfl, hbel⟩
      · have HF : Hid (letterOf r (runeL.drop (k + 1)) (letterL.drop (k + 1)) = L) := Lib.hid (by rw [← HK.out, hst.out, if_neg hy])
        have hy' : (y == r) = false := by simpa using hy
        clear hy hst
        go_wp2
        go_round
        case rel => exact ⟨k + 1, by omega, by go_num, HF.out⟩
        case measure => simp [intOf]; omega
    · obtain rfl : k = 13 := by omega
      have hLn : L = none := by rw [← HK.out]; rfl
      have HO : Hid (V = if r = 34 ∨ r = 92 then 92 :: enc r else if printableB r then enc r else if r < 256 then [92, 120] ++ hexB 2 r.toNat else if r < 65536 then [92, 117] ++ hexB 4 r.toNat else [92, 85] ++ hexB 8 r.toNat) := Lib.hid (by rw [← HV.out]; simp only [oneB, HL.out, hLn])
      clear hLn hcell
      have hen := encode_enc r h0 h1
      obtain ⟨n, rfl⟩ := Int.eq_ofNat_of_zero_le h0
      have hx2 : ∀ W, Calls Tryz.prog 181 #[.int .u32 n, .int .i64 2] W fun e w' => e = .returned (.string ⟨(hexB 2 n).toArray⟩) ∧ W = w' := fun W => hex_any n 2 (by omega) (by omega) W
      have hx4 : ∀ W, Calls Tryz.prog 181 #[.int .u32 n, .int .i64 4] W fun e w' => e = .returned (.string ⟨(hexB 4 n).toArray⟩) ∧ W = w' := fun W => hex_any n 4 (by omega) (by omega) W
      have hx8 : ∀ W, Calls Tryz.prog 181 #[.int .u32 n, .int .i64 8] W fun e w' => e = .returned (.string ⟨(hexB 8 n).toArray⟩) ∧ W = w' := fun W => hex_any n 8 (by omega) (by omega) W
      have hl2 : (hexB 2 n).length ≤ 8 := by rw [hexB_len]; omega
      have hl4 : (hexB 4 n).length ≤ 8 := by rw [hexB_len]; omega
      have hl8 : (hexB 8 n).length ≤ 8 := by rw [hexB_len]; omega
      have hle : (enc (n : Int)).length ≤ 4 := by
        unfold enc
        rw [← Lib.runeCells_length]
        exact (Lib.runeCells_le _).2
      have hpr := printable_any (n : Int)
      rw [Int.toNat_natCast] at HO
      generalize hexB 2 n = x2 at *
      generalize hexB 4 n = x4 at *
      generalize hexB 8 n = x8 at *
      generalize enc (n : Int) = ee at *
      generalize printableB (n : Int) = pr at *
      clear HV HL HK
      by_cases h34 : n = 34
      · have HF : Hid (V = 92 :: ee) := Lib.hid (by rw [HO.out, if_pos (.inl (by omega))])
        have h34' : ((n : Int) == 34) = true := by simp; omega
        clear h34 HO
        go_wp2
        go_ret
        exact ⟨by rw [HF.out]; exact congrArg (fun z => Ending.returned (.string z)) (bytes_app [92] ee), hbel⟩
      · have h34' : ((n : Int) == 34) = false := by simp; omega
        by_cases h92 : n = 92
        · have HF : Hid (V = 92 :: ee) := Lib.hid (by rw [HO.out, if_pos (.inr (by omega))])
          have h92' : ((n : Int) == 92) = true := by simp; omega
          clear h34 h92 HO
          go_wp2
          go_ret
          exact ⟨by rw [HF.out]; exact congrArg (fun z => Ending.returned (.string z)) (bytes_app [92] ee), hbel⟩
        · have h92' : ((n : Int) == 92) = false := by simp; omega
          have HO2 : Hid (V = if pr then ee else if (n : Int) < 256 then [92, 120] ++ x2 else if (n : Int) < 65536 then [92, 117] ++ x4 else [92, 85] ++ x8) := Lib.hid (by rw [HO.out, if_neg (by omega)])
          clear HO h34 h92
          cases pr
          case true =>
            have HF : Hid (V = ee) := Lib.hid (by rw [HO2.out]; rfl)
            clear HO2
            go_wp2_with (go_at_call 74; refine (hpr _).mono ?_; rintro e w' ⟨rfl, rfl⟩)
            go_ret
            exact ⟨by rw [HF.out]; rfl, hbel⟩
          case false =>
            by_cases h256 : (n : Int) < 256
            · have HF : Hid (V = [92, 120] ++ x2) := Lib.hid (by rw [HO2.out, if_neg (by simp), if_pos h256])
              clear HO2
              go_wp2_with (first | (go_at_call 74; refine (hpr _).mono ?_; rintro e w' ⟨rfl, rfl⟩) | (go_at_call 181; refine (hx2 _).mono ?_; rintro e w' ⟨rfl, rfl⟩))
              go_ret
              exact ⟨by rw [HF.out]; exact congrArg (fun z => Ending.returned (.string z)) (bytes_app [92, 120] x2), hbel⟩
            · by_cases h65 : (n : Int) < 65536
              · have HF : Hid (V = [92, 117] ++ x4) := Lib.hid (by rw [HO2.out, if_neg (by simp), if_neg h256, if_pos h65])
                have h256b : decide ((n : Int) < 256) = false := decide_eq_false h256
                have h65b : decide ((n : Int) < 65536) = true := decide_eq_true h65
                clear HO2 h256 h65 hx2 hx8 hl2 hl8
                go_wp2_with (first | (go_at_call 74; refine (hpr _).mono ?_; rintro e w' ⟨rfl, rfl⟩) | (go_at_call 181; refine (hx4 _).mono ?_; rintro e w' ⟨rfl, rfl⟩))
                go_ret
                exact ⟨by rw [HF.out]; exact congrArg (fun z => Ending.returned (.string z)) (bytes_app [92, 117] x4), hbel⟩
              · have HF : Hid (V = [92, 85] ++ x8) := Lib.hid (by rw [HO2.out, if_neg (by simp), if_neg h256, if_neg h65])
                have h256b : decide ((n : Int) < 256) = false := decide_eq_false h256
                have h65b : decide ((n : Int) < 65536) = false := decide_eq_false h65
                clear HO2 h256 h65 hx2 hx4 hl2 hl4
                go_wp2_with (first | (go_at_call 74; refine (hpr _).mono ?_; rintro e w' ⟨rfl, rfl⟩) | (go_at_call 181; refine (hx8 _).mono ?_; rintro e w' ⟨rfl, rfl⟩))
                go_ret
                exact ⟨by rw [HF.out]; exact congrArg (fun z => Ending.returned (.string z)) (bytes_app [92, 85] x8), hbel⟩
end Go.Proofs.YtghigiapfmlkbaaGreatDoor
