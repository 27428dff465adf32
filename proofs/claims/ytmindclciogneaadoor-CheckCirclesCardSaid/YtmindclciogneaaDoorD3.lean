/- What double.digits, number, escape do. -/
import Derived.Test.YtmindclciogneaaDoorD1
import Derived.Test.YtmindclciogneaaDoorM4
import Derived.Lib.IndexLaws
namespace Go.Proofs.YtmindclciogneaaDoor
open Go.RowKit

theorem digits_any (c : UInt8) (w : World) : Calls Tryd.prog 178 #[.int .u8 c.toNat] w fun e w' => e = .returned (.int .i64 (digitsB c)) ∧ w = w' := by
  have hd : digitsB c = if c.toNat = 120 then 2 else if c.toNat = 117 then 4 else if c.toNat = 85 then 8 else 0 := by
    unfold digitsB
    simp only [show ∀ d : UInt8, (c = d) = (c.toNat = d.toNat) from fun d => by rw [← UInt8.toNat_inj]]
    rfl
  rw [hd]
  clear hd
  generalize c.toNat = n
  go_enter Tryd.func178, Tryd.ntmps178
  by_cases h1 : n = 120
  · subst h1
    go_wp2
    go_ret
    exact ⟨rfl, rfl⟩
  · by_cases h2 : n = 117
    · subst h2
      go_wp2
      go_ret
      exact ⟨rfl, rfl⟩
    · by_cases h3 : n = 85
      · subst h3
        go_wp2
        go_ret
        exact ⟨rfl, rfl⟩
      · have e1 : ((n : Int) == 120) = false := by simp; omega
        have e2 : ((n : Int) == 117) = false := by simp; omega
        have e3 : ((n : Int) == 85) = false := by simp; omega
        rw [if_neg h1, if_neg h2, if_neg h3]
        clear h1 h2 h3
        go_wp2
        go_ret
        exact ⟨rfl, rfl⟩

theorem idx_is (s : ByteArray) (c : UInt8) (cv : Int) (h : cv = c.toNat) (w : World) : Calls Tryd.prog 138 #[.string s, .int .u8 cv] w fun e w' => e = .returned (.int .i64 (Lib.indexByte (sl s) c)) ∧ w = w' := by
  subst h
  refine (Tryd.strings_IndexByte s c.toNat w).mono ?_
  rintro e w' ⟨rfl, rfl⟩
  refine ⟨?_, rfl⟩
  simp [sl]
theorem indexByte_lt : ∀ (l : Bs) (c : UInt8), Lib.indexByte l c < l.length := by
  intro l c
  have h1 := Lib.indexByte_ge l c
  by_cases h : Lib.indexByte l c = -1
  · omega
  · obtain ⟨o, ho⟩ := Int.eq_ofNat_of_zero_le (show 0 ≤ Lib.indexByte l c by omega)
    have h2 := (Lib.indexByte_some ho).1
    have h3 := (List.getElem?_eq_some_iff.1 h2).1
    omega
theorem upB_lo (c : UInt8) (h : ¬ (97 ≤ c.toNat ∧ c.toNat ≤ 102)) : upB c = c := by rw [upB, if_neg h]
theorem upB_hi (c : UInt8) (h1 : 97 ≤ c.toNat) (h2 : c.toNat ≤ 102) : (c.toNat : Int) - 97 + 65 = (upB c).toNat := by
  rw [upB, if_pos ⟨h1, h2⟩]
  rw [UInt8.toNat_add, UInt8.toNat_sub]
  simp
  omega
theorem numB_drop (k : Nat) (l : Bs) (j a : Nat) (hj : j < l.length) : numB (k + 1) (l.drop j) a = if hexOf (l.getD j 0) < 0 then none else numB k (l.drop (j + 1)) (a * 16 + (hexOf (l.getD j 0)).toNat) := by
  rw [drop_cons l j hj, numB]
theorem or_dig (m d : Nat) (hd : d < 16) : (m * 16 ||| d) = m * 16 + d := by
  have := Nat.two_pow_add_eq_or_of_lt (i := 4) (b := d) (by omega) m
  rw [Nat.mul_comm m 16]
  exact this.symm

set_option maxRecDepth 20000 in
set_option maxHeartbeats 1000000 in
theorem number_any (A : Option Addr) (c n : Nat) (l : Bs) (w : World) (h : BA w A l) (hlc : l.length ≤ c) (hl : l.length ≤ 1000000000) (hn0 : 0 < n) (hn : n ≤ 8) :
    Calls Tryd.prog 179 #[.slice A l.length c, .int .i64 n] w fun e w' => e = .returned (.tuple #[.int .u32 ((numOf n l).getD 0 : Nat), .bool (numOf n l).isSome]) ∧ w = w' := by
  obtain ⟨V, hV⟩ : ∃ V, numOf n l = V := ⟨_, rfl⟩
  rw [hV]
  by_cases hlt : l.length < n
  · rw [numOf, if_pos hlt] at hV
    subst hV
    have hlt' : decide ((l.length : Int) < n) = true := by simp; omega
    go_enter Tryd.func179, Tryd.ntmps179
    go_wp2
    go_ret2
    exact ⟨rfl, rfl⟩
  · rw [numOf, if_neg hlt] at hV
    have hlt' : decide ((l.length : Int) < n) = false := by simp; omega
    have HV := Lib.hid hV
    clear hV
    obtain ⟨b, o, rfl, hcell⟩ := h (by omega)
    have hsl := fun W => cut_to (P := Tryd.prog) 51 5 .i64 Tryd.underlying51 Tryd.sizeOf5 (some ⟨b, o, none⟩) l.length c n (by omega) W
    go_enter Tryd.func179, Tryd.ntmps179
    go_wp2
    go_loop [6, 8, 9, 18] (fun a _ _ d => ∃ j out : Nat, j ≤ n ∧ a = .int .u32 out ∧ d = .int .i64 j ∧ out < 16 ^ j ∧ numB (n - j) (l.drop j) out = V) (fun _ _ _ d => n - (intOf d).toNat)
    case atStart => exact ⟨0, 0, by omega, rfl, rfl, by omega, HV.out⟩
    case round =>
      obtain ⟨j, out, hj, rfl, rfl, hout, hK⟩ := hrel
      have HK := Lib.hid hK
      clear hK
      by_cases hjn : j < n
      · have hx := hcell j (by omega)
        obtain ⟨q, hq⟩ : ∃ q, n - j = q + 1 := ⟨n - j - 1, by omega⟩
        have hst0 := numB_drop q l j out (by omega)
        have hH : hexOf (l.getD j 0) = Lib.indexByte sixteen (upB (l.getD j 0)) := rfl
        have hlo := Lib.indexByte_ge sixteen (upB (l.getD j 0))
        have hhi : Lib.indexByte sixteen (upB (l.getD j 0)) < 16 := by
          have := indexByte_lt sixteen (upB (l.getD j 0))
          rw [show sixteen.length = 16 from rfl] at this
          omega
        have hix : ∀ cv W, cv = ((upB (l.getD j 0)).toNat : Int) → Calls Tryd.prog 138 #[.string ⟨#[48, 49, 50, 51, 52, 53, 54, 55, 56, 57, 65, 66, 67, 68, 69, 70]⟩, .int .u8 cv] W fun e w' => e = .returned (.int .i64 (Lib.indexByte sixteen (upB (l.getD j 0)))) ∧ W = w' := fun cv W hcv => idx_is ⟨#[48, 49, 50, 51, 52, 53, 54, 55, 56, 57, 65, 66, 67, 68, 69, 70]⟩ _ cv hcv W
        have hup1 := upB_lo (l.getD j 0)
        have hup2 := upB_hi (l.getD j 0)
        have hlt8 := (l.getD j 0).toNat_lt
        rw [← hq] at hst0
        have hst1 := Lib.hid (HK.out.symm.trans hst0)
        clear hst0
        generalize l.getD j 0 = x at *
        have hp : 16 ^ j ≤ 16 ^ 7 := Nat.pow_le_pow_right (by omega) (by omega)
        have hout2 : out < 268435456 := by omega
        have hp2 : 16 ^ (j + 1) = 16 ^ j * 16 := Nat.pow_succ ..
        obtain ⟨z, hz⟩ : ∃ z, Lib.indexByte sixteen (upB x) = z := ⟨_, rfl⟩
        rw [hz] at hlo hhi
        have hix : ∀ cv W, cv = ((upB x).toNat : Int) → Calls Tryd.prog 138 #[.string ⟨#[48, 49, 50, 51, 52, 53, 54, 55, 56, 57, 65, 66, 67, 68, 69, 70]⟩, .int .u8 cv] W fun e w' => e = .returned (.int .i64 z) ∧ W = w' := fun cv W e => hz ▸ hix cv W e
        have hst : Hid (V = if z < 0 then none else numB q (l.drop (j + 1)) (out * 16 + z.toNat)) := Lib.hid (by rw [hst1.out, hH, hz])
        clear hH hz HK HV hst1
        have tests : (97 ≤ x.toNat ∧ x.toNat ≤ 102 ∧ decide ((97 : Int) ≤ x.toNat) = true ∧ decide ((x.toNat : Int) ≤ 102) = true) ∨ (upB x = x ∧ decide ((97 : Int) ≤ x.toNat) = false) ∨ (upB x = x ∧ decide ((97 : Int) ≤ x.toNat) = true ∧ decide ((x.toNat : Int) ≤ 102) = false) := by
          by_cases a : 97 ≤ x.toNat
          · by_cases b : x.toNat ≤ 102
            · exact .inl ⟨a, b, by simp; omega, by simp; omega⟩
            · exact .inr (.inr ⟨upB_lo x (by omega), by simp; omega, by simp; omega⟩)
          · exact .inr (.inl ⟨upB_lo x (by omega), by simp; omega⟩)
        have hix2 : ∀ W, upB x = x → Calls Tryd.prog 138 #[.string ⟨#[48, 49, 50, 51, 52, 53, 54, 55, 56, 57, 65, 66, 67, 68, 69, 70]⟩, .int .u8 x.toNat] W fun e w' => e = .returned (.int .i64 z) ∧ W = w' := fun W e => hix _ W (by rw [e])
        have hix3 : ∀ W, 97 ≤ x.toNat → x.toNat ≤ 102 → Calls Tryd.prog 138 #[.string ⟨#[48, 49, 50, 51, 52, 53, 54, 55, 56, 57, 65, 66, 67, 68, 69, 70]⟩,   .int .u8 (((x.toNat : Int) - 97 + 65) % 256)] W fun e w' => e = .returned (.int .i64 z) ∧ W = w' := fun W a b => hix _ W (by rw [← hup2 a b]; omega)
        clear hix hup1 hup2 hcell
        by_cases hz0 : z < 0
        · have HF : Hid (V = none) := Lib.hid (by rw [hst.out, if_pos hz0])
          have hz0b : decide (z < 0) = true := by simpa using hz0
          clear hst
          rcases tests with ⟨t1, t2, t3, t4⟩ | ⟨t1, t3⟩ | ⟨t1, t3, t4⟩
          · have hix3 := fun W => hix3 W t1 t2
            clear t1 t2 hix2
            go_wp2_with (go_at_call 138; refine (hix3 _).mono ?_; rintro e w' ⟨rfl, rfl⟩)
            go_ret2
            exact ⟨by rw [HF.out]; rfl, rfl⟩
          · have hix2 := fun W => hix2 W t1
            clear t1 hix3
            go_wp2_with (go_at_call 138; refine (hix2 _).mono ?_; rintro e w' ⟨rfl, rfl⟩)
            go_ret2
            exact ⟨by rw [HF.out]; rfl, rfl⟩
          · have hix2 := fun W => hix2 W t1
            clear t1 hix3
            go_wp2_with (go_at_call 138; refine (hix2 _).mono ?_; rintro e w' ⟨rfl, rfl⟩)
            go_ret2
            exact ⟨by rw [HF.out]; rfl, rfl⟩
        · obtain ⟨d, rfl⟩ := Int.eq_ofNat_of_zero_le (show 0 ≤ z by omega)
          have HF : Hid (numB q (l.drop (j + 1)) (out * 16 + d) = V) := Lib.hid (by rw [hst.out, if_neg hz0]; rfl)
          have hz0b : decide ((d : Int) < 0) = false := by simp
          have hd : d < 16 := by omega
          have hor : bits .or .u32 ((out : Int) * 16) (d : Int) = ((out * 16 + d : Nat) : Int) := by
            have := u32_or_nat (out * 16) d (by omega) (by omega)
            rw [or_dig _ _ hd] at this
            rw [← this]
            simp
          clear hst hlo hhi hz0
          rcases tests with ⟨t1, t2, t3, t4⟩ | ⟨t1, t3⟩ | ⟨t1, t3, t4⟩
          · have hix3 := fun W => hix3 W t1 t2
            clear t1 t2 hix2
            go_wp2_with (go_at_call 138; refine (hix3 _).mono ?_; rintro e w' ⟨rfl, rfl⟩)
            go_round
            case rel => exact ⟨j + 1, out * 16 + d, by omega, by go_num, by go_num, by omega, by rw [show n - (j + 1) = q by omega]; exact HF.out⟩
            case measure => simp [intOf]; omega
          · have hix2 := fun W => hix2 W t1
            clear t1 hix3
            go_wp2_with (go_at_call 138; refine (hix2 _).mono ?_; rintro e w' ⟨rfl, rfl⟩)
            go_round
            case rel => exact ⟨j + 1, out * 16 + d, by omega, by go_num, by go_num, by omega, by rw [show n - (j + 1) = q by omega]; exact HF.out⟩
            case measure => simp [intOf]; omega
          · have hix2 := fun W => hix2 W t1
            clear t1 hix3
            go_wp2_with (go_at_call 138; refine (hix2 _).mono ?_; rintro e w' ⟨rfl, rfl⟩)
            go_round
            case rel => exact ⟨j + 1, out * 16 + d, by omega, by go_num, by go_num, by omega, by rw [show n - (j + 1) = q by omega]; exact HF.out⟩
            case measure => simp [intOf]; omega
      · obtain rfl : j = n := by omega
        have HF : Hid (V = some out) := Lib.hid (by rw [← HK.out, Nat.sub_self, numB])
        clear HV HK
        go_wp2
        go_ret2
        exact ⟨by rw [HF.out]; rfl, rfl⟩
end Go.Proofs.YtmindclciogneaaDoor
