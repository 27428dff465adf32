/- What double.Take does. -/
import Derived.Test.YtmindclciogneaaDoorD3b
import Derived.Test.YtmindclciogneaaDoorW2
namespace Go.Proofs.YtmindclciogneaaDoor
open Go.RowKit

theorem escB_le (l : Bs) (h : (escB l).2.2 = true) : 1 ≤ (escB l).2.1 ∧ (escB l).2.1 ≤ l.length := by
  revert h
  unfold escB
  split
  · simp
  · rename_i c t
    split
    · simp
    · split
      · simp
      · split
        · simp
        · split
          · simp
          · rename_i u hu
            split
            · simp
            · intro _
              unfold numOf at hu
              split at hu
              · cases hu
              · simp
                omega
theorem escB_rune (l : Bs) : 0 ≤ (escB l).1 ∧ (escB l).1 ≤ 1114111 := by
  unfold escB
  split
  · simp
  · rename_i c t
    split
    · rename_i h
      have h1 := indexByte_lt letterL c
      obtain ⟨k, hk⟩ := Int.eq_ofNat_of_zero_le h
      rw [hk] at h1 ⊢
      have : k < 13 := by rw [show letterL.length = 13 from rfl] at h1; omega
      have hall : ∀ k, k < 13 → 0 ≤ runeL.getD k 0 ∧ runeL.getD k 0 ≤ 1114111 := by decide
      exact hall k this
    · split
      · have := c.toNat_lt
        simp
        omega
      · split
        · simp
        · split
          · simp
          · split
            · simp
            · simp
              omega

set_option maxRecDepth 20000 in
set_option maxHeartbeats 1000000 in
theorem take_in (b o c : Nat) (l : Bs) (w : World) (h : BA w (some ⟨b, o, none⟩) l) (hlc : l.length ≤ c) (hl : l.length ≤ 1000000000) (hl0 : 0 < l.length) (hx : w.cell? ⟨b, o, none⟩ = some (.int .u8 34)) (V : Bs × Nat × Bool) (HT : Hid (takeGo (l.length - 1) (l.drop 1) [] 1 = V)) :
    Calls Tryd.prog 152 #[.slice (some ⟨b, o, none⟩) l.length c] w fun e w' => e = .returned (.tuple #[.string ⟨V.1.toArray⟩, .int .i64 V.2.1, .bool V.2.2]) ∧ Below w.heap.size w w' := by
  have hba := h
  have hcell : ∀ i, i < l.length → w.cell? ⟨b, o + i, none⟩ = some (.int .u8 (l.getD i 0).toNat) := by
    obtain ⟨b', o', e, hc⟩ := h hl0
    simp only [Option.some.injEq, Addr.mk.injEq, and_true] at e
    obtain ⟨rfl, rfl⟩ := e
    exact hc
  have hxlt := World.block_lt_of_cell? w _ hx
  have hne : (((l.length : Nat) : Int) == 0) = false := by simp only [beq_eq_false_iff_ne]; omega
  go_enter Tryd.func152, Tryd.ntmps152
  go_wp2
  go_loopw [5, 6, 7, 8, 9] (fun v i _ _ _ wr => ∃ (k f : Nat) (out : Bs), i = .int .i64 k ∧ 1 ≤ k ∧ k ≤ l.length ∧ l.length - k ≤ f ∧ out.length ≤ 4 * k ∧ OB wr w.heap.size v out ∧ takeGo f (l.drop k) out k = V ∧ Below w.heap.size w wr) (fun _ i _ _ _ _ => l.length - (intOf i).toNat)
  case atStart => exact ⟨1, l.length - 1, [], rfl, by omega, by omega, by omega, by simp, OB.nil _ _, HT.out, Below.refl _ _⟩
  case round =>
    obtain ⟨k, f, out, rfl, hk1, hk, hf, hol, hob, hK, hbel⟩ := hrel
    have hsz : w.heap.size ≤ wr.heap.size := hbel.size
    by_cases hlt : k < l.length
    · obtain ⟨f', rfl⟩ : ∃ f', f = f' + 1 := ⟨f - 1, by omega⟩
      have hx : wr.cell? ⟨b, o + k, none⟩ = some (.int .u8 (l.getD k 0).toNat) := (hbel.cell hxlt).trans (hcell k hlt)
      rw [drop_cons l k hlt, takeGo] at hK
      have hbaT := (hba.below hbel).drop (k + 1) hlc
      have hTl : (l.drop (k + 1)).length = l.length - (k + 1) := List.length_drop
      have hsl := fun W => cut_from (P := Tryd.prog) 51 5 .i64 Tryd.underlying51 Tryd.sizeOf5 (some ⟨b, o, none⟩) l.length c (k + 1) (by omega) W
      rw [← hTl] at hsl
      simp only [Int.natCast_add, Int.natCast_one] at hsl
      have hTl2 : (l.drop (k + 1)).length ≤ c - (k + 1) := by omega
      have hTl3 : (l.drop (k + 1)).length ≤ 1000000000 := by omega
      have hltb : decide ((k : Int) < l.length) = true := by simp; omega
      have HK := Lib.hid hK
      have HTL := Lib.hid hTl
      clear hK hcell hTl
      generalize l.getD k 0 = x at *
      generalize hT : l.drop (k + 1) = T at *
      have HD := Lib.hid hT
      clear hT
      generalize cutA (some ⟨b, o, none⟩) c (k + 1) = A1 at *
      clear HT hne h
      by_cases c1 : x = 10
      · subst c1
        have hx : wr.cell? ⟨b, o + k, none⟩ = some (.int .u8 10) := hx
        have HF : Hid (V = ([], 0, false)) := Lib.hid (by rw [← HK.out]; rfl)
        clear HK hsl hbaT
        go_wp2
        go_ret3
        exact ⟨by rw [HF.out]; rfl, hbel⟩
      · by_cases c2 : x = 13
        · subst c2
          have hx : wr.cell? ⟨b, o + k, none⟩ = some (.int .u8 13) := hx
          have HF : Hid (V = ([], 0, false)) := Lib.hid (by rw [← HK.out]; rfl)
          clear HK hsl hbaT
          go_wp2
          go_ret3
          exact ⟨by rw [HF.out]; rfl, hbel⟩
        · by_cases c3 : x = 34
          · subst c3
            have hx : wr.cell? ⟨b, o + k, none⟩ = some (.int .u8 34) := hx
            have HF : Hid (V = (out, k + 1, true)) := Lib.hid (by rw [← HK.out]; rfl)
            obtain ⟨A2, c2', rfl, hc2, hba2⟩ := hob.shape
            have hcv := conv_str (P := Tryd.prog) wr 51 9 5 Tryd.underlying51 Tryd.underlying5 Tryd.underlying9 A2 c2' out hba2
            clear HK hsl hbaT c1 c2
            go_wp2
            go_ret3
            exact ⟨by rw [HF.out]; rfl, hbel⟩
          · by_cases c4 : x = 92
            · subst c4
              have hx : wr.cell? ⟨b, o + k, none⟩ = some (.int .u8 92) := hx
              have hesc := escape_any A1 (c - (k + 1)) T wr hbaT hTl2 hTl3
              have hle := escB_le T
              have hru := escB_rune T
              have HK2 : Hid (V = if (escB T).2.2 then takeGo f' (T.drop (escB T).2.1) (out ++ enc (escB T).1) (k + 1 + (escB T).2.1) else ([], 0, false)) := Lib.hid (by rw [← HK.out]; rfl)
              clear HK c1 c2 c3 hbaT
              generalize escB T = E at *
              obtain ⟨r, n2, ok⟩ := E
              simp only at hesc hle hru HK2
              go_wp2_with fail
              refine hesc.mono ?_
              rintro e w2 ⟨rfl, hb2⟩
              clear hesc hsl hx
              have hbel2 := bthen hbel hb2
              have hob2 := hob.below hb2
              clear hob hb2
              cases ok with
              | false =>
                have HF : Hid (V = ([], 0, false)) := HK2
                clear HK2
                go_wp2
                go_ret3
                exact ⟨by rw [HF.out]; rfl, hbel2⟩
              | true =>
                have hle := hle rfl
                have htl := HTL.out
                have hn2 : k + 1 + n2 ≤ l.length := by omega
                clear htl
                have happ := Tryd.utf8_AppendRune_plain w.heap.size _ out.length (Lib.byteCells out) r (by omega) (by omega) w2 hob2 (by omega) hbel2.size
                go_wp2_with fail
                refine happ.mono ?_
                rintro e w3 ⟨v', rfl, hown3, o', hgr⟩
                have hbel3 : Below w.heap.size w w3 := ((hbel2.alloc hbel2.size o').grown hgr (Nat.le_trans hbel2.size (by simp)) hob2.own)
                have hob3 : OB w3 w.heap.size v' (out ++ enc r) := OB.more hown3 (by rw [List.length_append, Lib.runeCells_length]) (by rw [Lib.byteCells_encodeRune])
                have hlr : (enc r).length ≤ 4 := by
                  unfold enc
                  rw [← Lib.runeCells_length]
                  exact (Lib.runeCells_le _).2
                clear happ hown3 hgr hob2 hbel2
                go_wp2
                go_roundw
                case rel => exact ⟨k + 1 + n2, f', out ++ enc r, by go_num, by omega, by omega, by omega, by rw [List.length_append]; omega, hob3, by have := HK2.out; rw [if_pos (by trivial), ← HD.out, List.drop_drop] at this; exact this.symm, hbel3⟩
                case measure => simp [intOf]; omega
            · have HF : Hid (takeGo f' T (out ++ [x]) (k + 1) = V) := Lib.hid (by rw [← HK.out, if_neg (by simp [c1, c2]), if_neg c3, if_neg c4])
              obtain ⟨i0, hi, hz0, hz1, hz2⟩ := info_parts info_u8
              have ne_of : ∀ d : UInt8, ¬ x = d → ((x.toNat : Int) == d.toNat) = false := fun d hd => by
                simp only [beq_eq_false_iff_ne]
                intro e
                exact hd (UInt8.toNat_inj.1 (by omega))
              have d1 : ((x.toNat : Int) == 10) = false := ne_of 10 c1
              have d2 : ((x.toNat : Int) == 13) = false := ne_of 13 c2
              have d3 : ((x.toNat : Int) == 34) = false := ne_of 34 c3
              have d4 : ((x.toNat : Int) == 92) = false := ne_of 92 c4
              have hown := World.ownsRow.alloc hob (.cells #[.int .u8 x.toNat] 5)
              clear HK ne_of c1 c2 c3 c4 hsl hbaT
              go_wp2_with (at_builtin; refine wpList_append_own _ rfl _ _ 51 rfl w.heap.size 5 i0 (.int .u8 0) 1 1 Tryd.underlying51 hi hz0 hz1 hz2 rfl (by decide) _ _ _ rfl hown ⟨wr.heap.size, 0, none⟩ 1 1 [.int .u8 x.toNat] rfl rfl (one_new _ _ _) (by simp [Value.oneCell']) (by unfold maxLen; omega) (by omega) (by simp; omega) ?_)
              intro v' w3 hown3 hgr _
              have hbel3 : Below w.heap.size w w3 := ((hbel.alloc hbel.size _).grown hgr (Nat.le_trans hbel.size (by simp)) hob.own)
              have hob3 : OB w3 w.heap.size v' (out ++ [x]) := OB.more hown3 (by rw [List.length_append]; rfl) rfl
              clear hown3 hgr hob hbel hown hi hz0 hz1 hz2
              go_wp2
              go_roundw
              case rel => exact ⟨k + 1, f', out ++ [x], by go_num, by omega, by omega, by omega, by simp; omega, hob3, by rw [HD.out]; exact HF.out, hbel3⟩
              case measure => simp [intOf]; omega
    · obtain rfl : k = l.length := by omega
      have HF : Hid (V = ([], 0, false)) := Lib.hid (by
        rw [← hK, List.drop_length]
        cases f <;> rfl)
      clear hK HT hcell h hba
      go_wp2
      go_ret3
      exact ⟨by rw [HF.out]; rfl, hbel⟩

set_option maxRecDepth 20000 in
set_option maxHeartbeats 1000000 in
theorem take_any (A : Option Addr) (c : Nat) (l : Bs) (w : World) (h : BA w A l) (hlc : l.length ≤ c) (hl : l.length ≤ 1000000000) :
    Calls Tryd.prog 152 #[.slice A l.length c] w fun e w' => e = .returned (.tuple #[.string ⟨(takeD l).1.toArray⟩, .int .i64 (takeD l).2.1, .bool (takeD l).2.2]) ∧ Below w.heap.size w w' := by
  obtain ⟨V, hV⟩ : ∃ V, takeD l = V := ⟨_, rfl⟩
  rw [hV]
  cases l with
  | nil =>
    subst hV
    go_enter Tryd.func152, Tryd.ntmps152
    go_wp2
    go_ret3
    exact ⟨rfl, Below.refl _ _⟩
  | cons x t =>
    have hba := h
    obtain ⟨b, o, rfl, hcell⟩ := h (by simp)
    have hx : w.cell? ⟨b, o, none⟩ = some (.int .u8 x.toNat) := hcell 0 (by simp)
    have hxlt := World.block_lt_of_cell? w _ hx
    have hne : ((((x :: t).length : Nat) : Int) == 0) = false := by simp; omega
    by_cases h34 : x = 34
    · subst h34
      exact take_in b o c (34 :: t) w hba hlc hl (by simp) hx V (Lib.hid hV)
    · have HF : Hid (V = ([], 0, false)) := Lib.hid (by rw [← hV]; simp only [takeD, if_neg h34])
      have h34b : ((x.toNat : Int) == 34) = false := by
        simp only [beq_eq_false_iff_ne]
        intro e
        apply h34
        rw [← UInt8.toNat_inj]
        show x.toNat = 34
        omega
      have h34c : ((x.toNat : Int) != 34) = true := by rw [bne, h34b]; rfl
      have h34d : (decide ((x.toNat : Int) = 34)) = false := by simpa using h34b
      clear hcell hV
      go_enter Tryd.func152, Tryd.ntmps152
      go_wp2
      go_ret3
      exact ⟨by rw [HF.out]; rfl, Below.refl _ _⟩
end Go.Proofs.YtmindclciogneaaDoor
