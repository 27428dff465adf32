/- What double.escape does. -/
import Derived.Test.YtmindclciogneaaDoorD3
namespace Go.Proofs.YtmindclciogneaaDoor
open Go.RowKit

theorem digitsB_is (c : UInt8) : digitsB c = 0 ∨ digitsB c = 2 ∨ digitsB c = 4 ∨ digitsB c = 8 := by
  unfold digitsB
  split
  · exact .inr (.inl rfl)
  · split
    · exact .inr (.inr (.inl rfl))
    · split
      · exact .inr (.inr (.inr rfl))
      · exact .inl rfl

set_option maxRecDepth 20000 in
set_option maxHeartbeats 1000000 in
theorem escape_any (A : Option Addr) (c : Nat) (l : Bs) (w : World) (h : BA w A l) (hlc : l.length ≤ c) (hl : l.length ≤ 1000000000) :
    Calls Tryd.prog 168 #[.slice A l.length c] w fun e w' => e = .returned (.tuple #[.int .i32 (escB l).1, .int .i64 (escB l).2.1, .bool (escB l).2.2]) ∧ Below w.heap.size w w' := by
  obtain ⟨V, hV⟩ : ∃ V, escB l = V := ⟨_, rfl⟩
  rw [hV]
  cases l with
  | nil =>
    subst hV
    go_enter Tryd.func168, Tryd.ntmps168
    go_wp2
    go_ret3
    exact ⟨rfl, Below.refl _ _⟩
  | cons x t =>
    obtain ⟨b, o, rfl, hcell⟩ := h (by simp)
    have hx : w.cell? ⟨b, o, none⟩ = some (.int .u8 x.toNat) := hcell 0 (by simp)
    have hsl := fun W => cut_from (P := Tryd.prog) 51 5 .i64 Tryd.underlying51 Tryd.sizeOf5 (some ⟨b, o, none⟩) (x :: t).length c 1 (by simp) W
    have hba := h.drop 1 hlc
    have htl : t.length + 1 ≤ c := hlc
    have htl2 : t.length + 1 ≤ 1000000000 := hl
    have hN : (x :: t).length = t.length + 1 := rfl
    have hnum := fun n h0 h1 W (hW : BA W (cutA (some ⟨b, o, none⟩) c 1) t) => number_any (cutA (some ⟨b, o, none⟩) c 1) (c - 1) n t W hW (by omega) (by omega) h0 h1
    simp only [hN, Nat.add_sub_cancel, List.drop_one, List.tail_cons, Int.natCast_one] at hsl hba
    have hne : ((((x :: t).length : Nat) : Int) == 0) = false := by simp; omega
    rw [hN] at *
    generalize cutA (some ⟨b, o, none⟩) c 1 = A1 at *
    have hi1 := fun W => idx_is ⟨#[48, 97, 98, 116, 110, 118, 102, 114, 101, 78, 95, 76, 80]⟩ x _ rfl W
    have hi2 := fun W => idx_is ⟨#[34, 47, 92, 32]⟩ x _ rfl W
    rw [show sl ⟨#[48, 97, 98, 116, 110, 118, 102, 114, 101, 78, 95, 76, 80]⟩ = letterL from rfl] at hi1
    rw [show sl ⟨#[34, 47, 92, 32]⟩ = signsL from rfl] at hi2
    have hE : V = if 0 ≤ Lib.indexByte letterL x then (runeL.getD (Lib.indexByte letterL x).toNat 0, 1, true)
        else if 0 ≤ Lib.indexByte signsL x then ((x.toNat : Int), 1, true)
        else if digitsB x = 0 then (0, 0, false)
        else match numOf (digitsB x) t with
          | none => (0, 0, false)
          | some u => if 1114111 < u ∨ (55296 ≤ u ∧ u ≤ 57343) then (0, 0, false) else ((u : Int), digitsB x + 1, true) := hV.symm
    clear hV hcell h hlc hl hN
    have hg1 := Lib.indexByte_ge letterL x
    have hg2 := Lib.indexByte_ge signsL x
    have hlt1 := indexByte_lt letterL x
    rw [show letterL.length = 13 from rfl] at hlt1
    have hdig := digits_any x
    have hdis := digitsB_is x
    have hx8 := x.toNat_lt
    generalize Lib.indexByte letterL x = z1 at *
    generalize Lib.indexByte signsL x = z2 at *
    generalize digitsB x = d at *
    have HE := Lib.hid hE
    clear hE
    go_enter Tryd.func168, Tryd.ntmps168
    go_wp2_with fail
    refine (hi1 _).mono ?_
    rintro e w' ⟨rfl, rfl⟩
    clear hi1
    by_cases h1 : 0 ≤ z1
    · obtain ⟨k, rfl⟩ := Int.eq_ofNat_of_zero_le h1
      have HF : Hid (V = (runeL.getD k 0, 1, true)) := Lib.hid (by rw [HE.out, if_pos h1]; rfl)
      have hk : k < 13 := by omega
      have hbel : Below w.heap.size w (w.alloc (.cells (runeL.map (Value.int .i32)).toArray 21)) := (Below.refl _ _).alloc (Nat.le_refl _) _
      have hcellR : (w.alloc (.cells (runeL.map (Value.int .i32)).toArray 21)).cell? ⟨w.heap.size, k, none⟩ = some (.int .i32 (runeL.getD k 0)) := by
        rw [cell_of_row _ _ _ _ 21 (0, 0) (heap_alloc_new w _)]
        simp [List.getD_eq_getElem?_getD, List.getElem?_eq_getElem (show k < runeL.length by simpa [runeL] using hk)]
      have hrun := runes_any w
      have h1b : decide ((0 : Int) ≤ k) = true := by simp
      obtain ⟨w1, hw1⟩ : ∃ w1, w.alloc (.cells (runeL.map (Value.int .i32)).toArray 21) = w1 := ⟨_, rfl⟩
      rw [hw1] at *
      generalize runeL.getD k 0 = rr at *
      clear hw1 hi2 hdig hnum HE hsl hba h1 hg1 hg2 hlt1 hdis
      go_wp2_with (go_at_call 102; refine hrun.mono ?_; rintro e w' ⟨rfl, rfl⟩)
      go_ret3
      exact ⟨by rw [HF.out]; rfl, hbel⟩
    · have h1b : decide ((0 : Int) ≤ z1) = false := by simpa using h1
      go_wp2_with fail
      refine (hi2 _).mono ?_
      rintro e w' ⟨rfl, rfl⟩
      clear hi2
      by_cases h2 : 0 ≤ z2
      · have HF : Hid (V = ((x.toNat : Int), 1, true)) := Lib.hid (by rw [HE.out, if_neg (by omega), if_pos (by omega)])
        have h2b : decide ((0 : Int) ≤ z2) = true := by simpa using h2
        clear hdig hnum HE hsl hba h1 h2 hg1 hg2 hlt1 hdis
        go_wp2
        go_ret3
        exact ⟨by rw [HF.out]; rfl, Below.refl _ _⟩
      · have h2b : decide ((0 : Int) ≤ z2) = false := by simpa using h2
        have HE2 : Hid (V = if d = 0 then (0, 0, false) else match numOf d t with
          | none => (0, 0, false)
          | some u => if 1114111 < u ∨ (55296 ≤ u ∧ u ≤ 57343) then (0, 0, false) else ((u : Int), d + 1, true)) := Lib.hid (by rw [HE.out, if_neg (by omega), if_neg (by omega)])
        clear HE h1 h2 hg1 hg2 hlt1
        go_wp2_with fail
        refine (hdig _).mono ?_
        rintro e w' ⟨rfl, rfl⟩
        clear hdig
        by_cases hd0 : d = 0
        · subst hd0
          have HF : Hid (V = (0, 0, false)) := HE2
          clear HE2 hnum hsl hba hdis
          go_wp2
          go_ret3
          exact ⟨by rw [HF.out]; rfl, Below.refl _ _⟩
        · have hnum := hnum d (by omega) (by omega) w hba
          have HE3 : Hid (V = match numOf d t with
            | none => (0, 0, false)
            | some u => if 1114111 < u ∨ (55296 ≤ u ∧ u ≤ 57343) then (0, 0, false) else ((u : Int), d + 1, true)) := Lib.hid (by rw [HE2.out, if_neg hd0])
          have hd0b : ((d : Int) == 0) = false := by simp; omega
          have hd8 : d ≤ 8 := by omega
          clear HE2 hba hdis hd0
          generalize numOf d t = R at *
          go_wp2_with fail
          refine hnum.mono ?_
          rintro e w' ⟨rfl, rfl⟩
          clear hnum hsl
          cases R with
          | none =>
            have HF : Hid (V = (0, 0, false)) := HE3
            clear HE3
            go_wp2
            go_ret3
            exact ⟨by rw [HF.out]; rfl, Below.refl _ _⟩
          | some u =>
            have HE4 : Hid (V = if 1114111 < u ∨ (55296 ≤ u ∧ u ≤ 57343) then (0, 0, false) else ((u : Int), d + 1, true)) := HE3
            clear HE3
            have tests : (Hid (V = (0, 0, false)) ∧ decide ((1114111 : Int) < u) = true) ∨ (Hid (V = ((u : Int), d + 1, true)) ∧ decide ((1114111 : Int) < u) = false ∧ decide ((55296 : Int) ≤ u) = false ∧ u ≤ 1114111) ∨ (Hid (V = (0, 0, false)) ∧ decide ((1114111 : Int) < u) = false ∧ decide ((55296 : Int) ≤ u) = true ∧ decide ((u : Int) ≤ 57343) = true) ∨ (Hid (V = ((u : Int), d + 1, true)) ∧ decide ((1114111 : Int) < u) = false ∧ decide ((55296 : Int) ≤ u) = true ∧ decide ((u : Int) ≤ 57343) = false ∧ u ≤ 1114111) := by
              by_cases a : 1114111 < u
              · exact .inl ⟨Lib.hid (by rw [HE4.out, if_pos (.inl a)]), by simp; omega⟩
              · by_cases b : 55296 ≤ u
                · by_cases c : u ≤ 57343
                  · exact .inr (.inr (.inl ⟨Lib.hid (by rw [HE4.out, if_pos (.inr ⟨b, c⟩)]), by simp; omega, by simp; omega, by simp; omega⟩))
                  · exact .inr (.inr (.inr ⟨Lib.hid (by rw [HE4.out, if_neg (by omega)]), by simp; omega, by simp; omega, by simp; omega, by omega⟩))
                · exact .inr (.inl ⟨Lib.hid (by rw [HE4.out, if_neg (by omega)]), by simp; omega, by simp; omega, by omega⟩)
            clear HE4
            rcases tests with ⟨HF, t1⟩ | ⟨HF, t1, t2, t3⟩ | ⟨HF, t1, t2, t3⟩ | ⟨HF, t1, t2, t3, t4⟩
            all_goals
              go_wp2
              go_ret3
              exact ⟨by rw [HF.out]; rfl, Below.refl _ _⟩
end Go.Proofs.YtmindclciogneaaDoor
