/- What props.Take and props.TakeAlias do. -/
import Derived.Test.YtmindclciogneaaDoorI3
namespace Go.Proofs.YtmindclciogneaaDoor
open Go.RowKit

theorem bytesOf_nats (l : Bs) : Lib.bytesOf (l.map fun b => (b.toNat : Int)) = l := by
  unfold Lib.bytesOf
  rw [List.map_map]
  conv => rhs; rw [← List.map_id l]
  refine List.map_congr_left fun b _ => ?_
  simp
theorem idxb_any (A : Option Addr) (c : Nat) (l : Bs) (cv : UInt8) (w : World) (h : BA w A l) (hne : 0 < l.length) :
    Calls Tryd.prog 141 #[.slice A l.length c, .int .u8 cv.toNat] w fun e w' => e = .returned (.int .i64 (Lib.indexByte l cv)) ∧ w = w' := by
  obtain ⟨b, o, rfl, hc⟩ := h hne
  refine (Tryd.bytes_IndexByte b o l.length c (l.map fun b => (b.toNat : Int)) cv.toNat w (by simp) (fun i hi => ?_)).mono ?_
  · rw [hc i hi]
    simp [List.getD_eq_getElem?_getD, List.getElem?_eq_getElem hi]
  · rintro e w' ⟨rfl, rfl⟩
    rw [bytesOf_nats]
    simp
theorem leftB_is (l : Bs) : Lib.trimLeftS l [32] = leftB l := by rw [Lib.trimLeftS_one]; rfl
theorem leftB_le (l : Bs) : (leftB l).length ≤ l.length := (List.dropWhile_suffix _).length_le
theorem triml_any (A : Option Addr) (c : Nat) (l : Bs) (w : World) (h : BA w A l) (hlc : l.length ≤ c) (hc : c ≤ 9223372036854775807) :
    Calls Tryd.prog 147 #[.slice A l.length c, .string ⟨#[32]⟩] w fun e w' => ∃ A' c', e = .returned (.slice A' (leftB l).length c') ∧ w = w' := by
  by_cases h0 : l.length = 0
  · obtain rfl := List.eq_nil_of_length_eq_zero h0
    refine (Any.bytes_TrimLeft_none Tryd.lays_bytes_TrimLeft A c ⟨#[32]⟩ w).mono ?_
    rintro e w' ⟨rfl, rfl⟩
    exact ⟨none, 0, rfl, rfl⟩
  · refine (Any.bytes_TrimLeft_one Tryd.lays_bytes_TrimLeft A l.length c l 32 w rfl hlc hc h (by omega) (by decide)).mono ?_
    rintro e w' ⟨rfl, rfl⟩
    rw [leftB_is]
    have hle := leftB_le l
    unfold Lib.leftV
    split
    · rename_i h1
      have h2 : (leftB l).length = 0 := by omega
      exact ⟨none, 0, by rw [h2], rfl⟩
    · unfold Lib.fromV
      rw [show l.length - (l.length - (leftB l).length) = (leftB l).length by omega]
      exact ⟨_, _, rfl, rfl⟩

theorem name_one (x : UInt8) : nameB [x] = letterB x := by simp [nameB]
theorem tw_len (t : Bs) (m : Nat) (h : m ≤ (t.takeWhile letterB).length) : (m < (t.takeWhile letterB).length ↔ m < t.length ∧ letterB (t.getD m 0) = true) := by
  induction t generalizing m with
  | nil => simp
  | cons x t ih =>
    by_cases hx : letterB x = true
    · rw [List.takeWhile_cons_of_pos hx] at h ⊢
      cases m with
      | zero => simp [hx]
      | succ m =>
        have := ih m (by simpa using h)
        simpa using this
    · rw [List.takeWhile_cons_of_neg (by simpa using hx)] at h ⊢
      have : m = 0 := by simpa using h
      subst this
      simp [hx]
theorem alias_len (t : Bs) (m : Nat) (h : m ≤ ((t.take 33).takeWhile letterB).length) : (m < ((t.take 33).takeWhile letterB).length ↔ m < t.length ∧ m < 33 ∧ letterB (t.getD m 0) = true) := by
  rw [tw_len _ m h, List.length_take]
  constructor
  · rintro ⟨h1, h2⟩
    rw [List.getD_eq_getElem?_getD, List.getElem?_take, if_pos (by omega), ← List.getD_eq_getElem?_getD] at h2
    exact ⟨by omega, by omega, h2⟩
  · rintro ⟨h1, h2, h3⟩
    refine ⟨by omega, ?_⟩
    rw [List.getD_eq_getElem?_getD, List.getElem?_take, if_pos h2, ← List.getD_eq_getElem?_getD]
    exact h3
theorem alias_take (t : Bs) : t.take ((t.take 33).takeWhile letterB).length = (t.take 33).takeWhile letterB := by
  have h1 := List.takeWhile_prefix (p := letterB) (l := t.take 33)
  have h2 := h1.trans (List.take_prefix 33 t)
  exact (List.prefix_iff_eq_take.1 h2).symm

set_option maxRecDepth 20000 in
set_option maxHeartbeats 1000000 in
theorem alias_in (b o c : Nat) (l : Bs) (w : World) (h : BA w (some ⟨b, o, none⟩) l) (hlc : l.length ≤ c) (hl : l.length ≤ 1000000000) (hl0 : 0 < l.length) (hx : w.cell? ⟨b, o, none⟩ = some (.int .u8 42)) (N : Bs) (hN : ((l.drop 1).take 33).takeWhile letterB = N) :
    Calls Tryd.prog 118 #[.slice (some ⟨b, o, none⟩) l.length c] w fun e w' => e = .returned (if nameB N then .tuple #[.string ⟨N.toArray⟩, .int .i64 ((N.length + 1 : Nat) : Int), .bool true] else .tuple #[.string ⟨#[]⟩, .int .i64 0, .bool false]) ∧ Below w.heap.size w w' := by
  have hne : (((l.length : Nat) : Int) == 0) = false := by simp only [beq_eq_false_iff_ne]; omega
  have hNl : N.length ≤ 33 := by
    rw [← hN]
    have := (List.takeWhile_prefix (p := letterB) (l := (l.drop 1).take 33)).length_le
    rw [List.length_take] at this
    omega
  have hNl2 : N.length + 1 ≤ l.length := by
    rw [← hN]
    have := (List.takeWhile_prefix (p := letterB) (l := (l.drop 1).take 33)).length_le
    rw [List.length_take, List.length_drop] at this
    omega
  have HN := Lib.hid hN
  clear hN
  obtain ⟨q9, hq9⟩ : ∃ q, nameB N = q := ⟨_, rfl⟩
  rw [hq9]
  have HQ := Lib.hid hq9
  clear hq9
  go_enter Tryd.func118, Tryd.ntmps118
  go_wp2
  clear hx hne
  go_loopw [3] (fun i wr => ∃ k : Nat, i = .int .i64 k ∧ 1 ≤ k ∧ k ≤ N.length + 1 ∧ Below w.heap.size w wr) (fun i _ => N.length + 1 - (intOf i).toNat)
  case atStart => exact ⟨1, rfl, by omega, by omega, Below.refl _ _⟩
  case round =>
    obtain ⟨k, rfl, hk1, hk, hbel⟩ := hrel
    have hbaw := h.below hbel
    have hal := alias_len (l.drop 1) (k - 1) (by rw [HN.out]; omega)
    rw [HN.out, List.length_drop, List.getD_eq_getElem?_getD, List.getElem?_drop, ← List.getD_eq_getElem?_getD, show 1 + (k - 1) = k by omega] at hal
    by_cases hlt : k < l.length
    · have hltb : decide ((k : Int) < l.length) = true := by simp; omega
      by_cases h33 : k ≤ 33
      · have h33b : decide ((k : Int) ≤ 33) = true := by simp; omega
        have hone : (l.drop k).take 1 = [l.getD k 0] := by rw [drop_cons l k hlt]; rfl
        have hba1 := (hbaw.drop k hlc).take 1
        rw [hone] at hba1
        have hsl := fun W => cut_mid (P := Tryd.prog) 51 5 .i64 .i64 Tryd.underlying51 Tryd.sizeOf5 (some ⟨b, o, none⟩) l.length c k (k + 1) (by omega) (by omega) W
        rw [show k + 1 - k = [l.getD k 0].length by simp] at hsl
        simp only [Int.natCast_add, Int.natCast_one] at hsl
        have hcv := conv_str (P := Tryd.prog) wr 51 9 5 Tryd.underlying51 Tryd.underlying5 Tryd.underlying9 (cutA (some ⟨b, o, none⟩) c k) (c - k) [l.getD k 0] hba1
        have hnm := nameL_any [l.getD k 0] wr (by simp)
        rw [name_one] at hnm
        generalize l.getD k 0 = x at *
        generalize cutA (some ⟨b, o, none⟩) c k = A1 at *
        have HAL := Lib.hid hal
        clear hal hba1 hone hbaw
        generalize ([x].length) = one at hsl hcv
        go_wp2_with fail
        refine hnm.mono ?_
        rintro e w2 ⟨rfl, hb2⟩
        have hbel2 := bthen hbel hb2
        clear hnm hcv hsl hb2
        generalize letterB x = q at *
        cases q
        case true =>
          have hk2 : k - 1 < N.length := HAL.out.2 ⟨by omega, by omega, rfl⟩
          go_wp2
          go_roundw
          case rel => exact ⟨k + 1, by go_num, by omega, by omega, hbel2⟩
          case measure => simp [intOf]; omega
        case false =>
          have hk2 : ¬ (k - 1 < N.length) := fun hh => by
            have := (HAL.out.1 hh).2.2
            cases this
          obtain rfl : k = N.length + 1 := by omega
          have hTN : (l.drop 1).take N.length = N := by
            have := alias_take (l.drop 1)
            rw [HN.out] at this
            exact this
          have hbaN := ((h.below hbel2).drop 1 hlc).take N.length
          rw [hTN] at hbaN
          have hslN := fun W => cut_mid (P := Tryd.prog) 51 5 .i64 .i64 Tryd.underlying51 Tryd.sizeOf5 (some ⟨b, o, none⟩) l.length c 1 (N.length + 1) (by omega) (by omega) W
          rw [Nat.add_sub_cancel] at hslN
          simp only [Int.natCast_add, Int.natCast_one] at hslN
          have hcvN := conv_str (P := Tryd.prog) w2 51 9 5 Tryd.underlying51 Tryd.underlying5 Tryd.underlying9 (cutA (some ⟨b, o, none⟩) c 1) (c - 1) N hbaN
          have hnN := nameL_any N w2 (by omega)
          rw [HQ.out] at hnN
          generalize cutA (some ⟨b, o, none⟩) c 1 = A2 at *
          clear hbaN hTN HN HQ h HAL
          go_wp2_with fail
          refine hnN.mono ?_
          rintro e w9 ⟨rfl, hb9⟩
          have hbel9 := bthen hbel2 hb9
          clear hnN hcvN hslN hb9
          cases q9
          · go_wp2
            go_ret3
            exact ⟨rfl, hbel9⟩
          · go_wp2
            go_ret3
            exact ⟨rfl, hbel9⟩
      · have h33b : decide ((k : Int) ≤ 33) = false := by simp; omega
        obtain rfl : k = N.length + 1 := by omega
        have hTN : (l.drop 1).take N.length = N := by
          have := alias_take (l.drop 1)
          rw [HN.out] at this
          exact this
        have hbaN := ((h.below hbel).drop 1 hlc).take N.length
        rw [hTN] at hbaN
        have hslN := fun W => cut_mid (P := Tryd.prog) 51 5 .i64 .i64 Tryd.underlying51 Tryd.sizeOf5 (some ⟨b, o, none⟩) l.length c 1 (N.length + 1) (by omega) (by omega) W
        rw [Nat.add_sub_cancel] at hslN
        simp only [Int.natCast_add, Int.natCast_one] at hslN
        have hcvN := conv_str (P := Tryd.prog) wr 51 9 5 Tryd.underlying51 Tryd.underlying5 Tryd.underlying9 (cutA (some ⟨b, o, none⟩) c 1) (c - 1) N hbaN
        have hnN := nameL_any N wr (by omega)
        rw [HQ.out] at hnN
        generalize cutA (some ⟨b, o, none⟩) c 1 = A2 at *
        clear hbaN hTN HN HQ h hal hbaw
        go_wp2_with fail
        refine hnN.mono ?_
        rintro e w9 ⟨rfl, hb9⟩
        have hbel9 := bthen hbel hb9
        clear hnN hcvN hslN hb9
        cases q9
        · go_wp2
          go_ret3
          exact ⟨rfl, hbel9⟩
        · go_wp2
          go_ret3
          exact ⟨rfl, hbel9⟩
    · have hltb : decide ((k : Int) < l.length) = false := by simp; omega
      obtain rfl : k = N.length + 1 := by omega
      have hTN : (l.drop 1).take N.length = N := by
        have := alias_take (l.drop 1)
        rw [HN.out] at this
        exact this
      have hbaN := ((h.below hbel).drop 1 hlc).take N.length
      rw [hTN] at hbaN
      have hslN := fun W => cut_mid (P := Tryd.prog) 51 5 .i64 .i64 Tryd.underlying51 Tryd.sizeOf5 (some ⟨b, o, none⟩) l.length c 1 (N.length + 1) (by omega) (by omega) W
      rw [Nat.add_sub_cancel] at hslN
      simp only [Int.natCast_add, Int.natCast_one] at hslN
      have hcvN := conv_str (P := Tryd.prog) wr 51 9 5 Tryd.underlying51 Tryd.underlying5 Tryd.underlying9 (cutA (some ⟨b, o, none⟩) c 1) (c - 1) N hbaN
      have hnN := nameL_any N wr (by omega)
      rw [HQ.out] at hnN
      generalize cutA (some ⟨b, o, none⟩) c 1 = A2 at *
      clear hbaN hTN HN HQ h hal hbaw
      go_wp2_with fail
      refine hnN.mono ?_
      rintro e w9 ⟨rfl, hb9⟩
      have hbel9 := bthen hbel hb9
      clear hnN hcvN hslN hb9
      cases q9
      · go_wp2
        go_ret3
        exact ⟨rfl, hbel9⟩
      · go_wp2
        go_ret3
        exact ⟨rfl, hbel9⟩

theorem alias_any (A : Option Addr) (c : Nat) (l : Bs) (w : World) (h : BA w A l) (hlc : l.length ≤ c) (hl : l.length ≤ 1000000000) :
    Calls Tryd.prog 118 #[.slice A l.length c] w fun e w' => e = .returned (.tuple #[.string ⟨(takeAliasB l).1.toArray⟩, .int .i64 (takeAliasB l).2.1, .bool (takeAliasB l).2.2]) ∧ Below w.heap.size w w' := by
  obtain ⟨V, hV⟩ : ∃ V, takeAliasB l = V := ⟨_, rfl⟩
  rw [hV]
  cases l with
  | nil =>
    subst hV
    go_enter Tryd.func118, Tryd.ntmps118
    go_wp2
    go_ret3
    exact ⟨rfl, Below.refl _ _⟩
  | cons x t =>
    have hba := h
    obtain ⟨b, o, rfl, hcell⟩ := h (by simp)
    have hx : w.cell? ⟨b, o, none⟩ = some (.int .u8 x.toNat) := hcell 0 (by simp)
    have hne : ((((x :: t).length : Nat) : Int) == 0) = false := by simp; omega
    by_cases h34 : x = 42
    · subst h34
      refine (alias_in b o c (42 :: t) w hba hlc hl (by simp) hx _ rfl).mono ?_
      rintro e w' ⟨rfl, hb⟩
      refine ⟨?_, hb⟩
      rw [← hV]
      show Ending.returned (if nameB ((t.take 33).takeWhile letterB) = true then _ else _) = _
      simp only [takeAliasB, if_pos]
      split <;> rfl
    · have HF : Hid (V = ([], 0, false)) := Lib.hid (by rw [← hV]; simp only [takeAliasB, if_neg h34])
      have h34b : ((x.toNat : Int) == 42) = false := by
        simp only [beq_eq_false_iff_ne]
        intro e
        apply h34
        rw [← UInt8.toNat_inj]
        show x.toNat = 42
        omega
      have h34c : ((x.toNat : Int) != 42) = true := by rw [bne, h34b]; rfl
      clear hcell hV
      go_enter Tryd.func118, Tryd.ntmps118
      go_wp2
      go_ret3
      exact ⟨by rw [HF.out]; rfl, Below.refl _ _⟩
end Go.Proofs.YtmindclciogneaaDoor
