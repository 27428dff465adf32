/- double.Put. -/
import Derived.Test.YtghigiapfmlkbaaGreatDoorD1
import Derived.Test.YtghigiapfmlkbaaGreatDoorB
namespace Go.Proofs.YtghigiapfmlkbaaGreatDoor
open Go.RowKit

theorem oneB_len (r : Int) : (oneB r).length ≤ 10 := by
  have hle : (enc r).length ≤ 4 := by
    unfold enc
    rw [← Lib.runeCells_length]
    exact (Lib.runeCells_le _).2
  unfold oneB
  split
  · simp
  · repeat' split
    all_goals simp [hexB_len]
    all_goals omega
theorem builder_below {T e : TypeId} {B b : Nat} {bs : List Value} {w w1 : World} (h : Lib.IsBuilderF T e B b bs w) (hb : Below w.heap.size w w1) : Lib.IsBuilderF T e B b bs w1 := by
  have key : ∀ p, Lib.BuilderAtF T e B b p bs w → Lib.BuilderAtF T e B b p bs w1 := fun p hp => by
    obtain ⟨hB, v, hbk, hown, hne⟩ := hp
    refine ⟨hB, v, ?_, ?_, hne⟩
    · rw [hb.block b (Array.getElem?_eq_some_iff.1 hbk).1]; exact hbk
    · obtain ⟨h1, h2⟩ := hown
      refine ⟨h1, ?_⟩
      rcases h2 with h2 | ⟨g, cap, cur, fz, rfl, hg, hh, r⟩
      · exact .inl h2
      · exact .inr ⟨g, cap, cur, fz, rfl, hg, by rw [hb.block g (Array.getElem?_eq_some_iff.1 hh).1]; exact hh, r⟩
  rcases h with h | h
  · exact .inl (key _ h)
  · exact .inr (key _ h)
theorem validS_any (s : ByteArray) (w : World) (hT : Tabs w) (hs : s.size ≤ 140737488351232) :
    Calls Tryz.prog 84 #[.string s] w fun e w' => e = .returned (.bool (utfB (sl s))) ∧ Below w.heap.size w w' :=
  Any.utf8_ValidString Tryz.lays_unicode_utf8_ValidString s w (by omega) hT
theorem onesB_nil (k : Nat) : onesB k [] = [] := by cases k <;> simp [onesB]
theorem onesB_step {f : Nat} {l : Bs} (h0 : 0 < l.length) (hf : l.length ≤ f) : ∃ g, (l.drop (dec l).2).length ≤ g ∧ onesB f l = oneB (dec l).1 ++ onesB g (l.drop (dec l).2) := by
  obtain ⟨f, rfl⟩ : ∃ g, f = g + 1 := ⟨f - 1, by omega⟩
  have he : l.isEmpty = false := by cases l <;> simp_all
  have := dec_pos l
  exact ⟨f, by rw [List.length_drop]; omega, by rw [onesB, he]; rfl⟩
theorem strCells_mk (l : Bs) : Lib.strCells ⟨l.toArray⟩ = Lib.byteCells l := by simp [Lib.strCells, Lib.byteCells]

set_option maxRecDepth 100000 in
set_option maxHeartbeats 1000000 in
theorem put_any (s : ByteArray) (w : World) (hT : Tabs w) (hs : s.size ≤ 1000000000) :
    Calls Tryz.prog 92 #[.string s] w fun e w' => e = .returned (.tuple #[.string ⟨(if utfB (sl s) then putB (sl s) else []).toArray⟩, .bool (utfB (sl s))]) ∧ Below w.heap.size w w' := by
  have hv := validS_any s w hT (by omega)
  cases hu : utfB (sl s)
  case false =>
    rw [hu] at hv
    clear hT hu
    simp only [Bool.false_eq_true, if_false]
    go_enter Tryz.func92, Tryz.ntmps92
    go_wp2_with (go_at_call 84; refine hv.mono ?_; rintro e w' ⟨rfl, hb⟩)
    go_ret2
    exact ⟨rfl, hb⟩
  case true =>
    rw [hu] at hv
    clear hu
    simp only [if_true]
    obtain ⟨V, hV⟩ : ∃ V, putB (sl s) = V := ⟨_, rfl⟩
    have HV := Lib.hid hV
    rw [hV]
    clear hV
    go_enter Tryz.func92, Tryz.ntmps92
    go_wp2_with fail
    refine hv.mono ?_
    rintro e w1 ⟨rfl, hb1⟩
    have hI := Lib.IsBuilderF.of (Lib.fresh_isBuilder 75 5 w1)
    go_wp2_with fail
    have hwb := writeByte_k w1.heap.size w1.heap.size [] 34 _ hI (by simp) (by simp)
    refine hwb.mono ?_
    rintro e w2 ⟨rfl, h2, hb2, hk2⟩
    have hz2 : w1.heap.size < w2.heap.size := by
      have := hb2.size
      obtain ⟨_, _, hbk, _⟩ := h2
      exact (Array.getElem?_eq_some_iff.1 hbk).1
    have hI2 : Lib.IsBuilderF 75 5 w1.heap.size w1.heap.size (Lib.byteCells [34]) w2 := .inr h2
    have hbw2 : Below w.heap.size w w2 := hb1.trans ((((Below.refl _ w1).alloc (Nat.le_refl _) _).trans hb2).mono hb1.size)
    clear hwb h2 hb2 hk2 hI hv hT
    go_wp2_with fail
    have hst : [34] ++ onesB (sl s).length ((sl s).drop 0) ++ [34] = putB (sl s) := rfl
    have HST := Lib.hid hst
    clear hst
    go_loopw [6] (fun _ wr => ∃ (pos fuel : Nat) (acc : Bs), pos ≤ s.size ∧ Lib.IsBuilderF 75 5 w1.heap.size w1.heap.size (Lib.byteCells acc) wr ∧ wr.heap[w2.heap.size]? = some (.stringIter s pos) ∧ Below w.heap.size w wr ∧ w2.heap.size < wr.heap.size ∧ ((sl s).drop pos).length ≤ fuel ∧ acc ++ onesB fuel ((sl s).drop pos) ++ [34] = V ∧ acc.length ≤ 10 * pos + 1) (fun _ wr => s.size - wr.iterPos w2.heap.size)
    case atStart =>
      refine ⟨0, (sl s).length, [34], Nat.zero_le _, hI2.alloc _, World.iter_heap w2 s 0, hbw2.alloc (by have := hbw2.size; omega) _, by show w2.heap.size < (w2.heap.push _).size; rw [Array.size_push]; omega, by rw [List.drop_zero]; exact Nat.le_refl _, by rw [HST.out]; exact HV.out, by simp⟩
    case round =>
      obtain ⟨pos, fuel, acc, hpos, hI, hit, hbw, hsz, hfu, hacc, hal⟩ := hrel
      have HACC := Lib.hid hacc
      clear hacc HST hI2
      by_cases hp : pos < s.size
      · have hnx : ∀ ty, (Instr.next (.pointer (some ⟨w2.heap.size, 0, none⟩)) true ty).run Tryz.prog wr = _ := fun ty => Lib.run_next_any_at wr w2.heap.size s pos ty hit hp
        rw [decode_dec s pos hp] at hnx
        obtain ⟨d, hd⟩ : ∃ d, (sl s).drop pos = d := ⟨_, rfl⟩
        have hdl : d.length = s.size - pos := by rw [← hd, List.length_drop, sl_len]
        rw [hd] at hnx hfu HACC
        obtain ⟨g, hg1, hg2⟩ := onesB_step (l := d) (by omega) hfu
        have hp1 := dec_pos d
        have hp2 := dec_le d (by omega)
        have hI3 := hI.iterAt hit (pos + (dec d).2)
        have hit3 := Lib.iterAt_heap wr w2.heap.size s pos (pos + (dec d).2) hit
        have hbw3 := Lib.below_iterAt hbw (k := w2.heap.size) (by have := hbw2.size; omega) s (pos + (dec d).2)
        have hsz3 : w2.heap.size < (wr.iterAt w2.heap.size s (pos + (dec d).2)).heap.size := by rw [Lib.iterAt_size]; omega
        have hon := one_any ((dec d).1 : Int) (by omega) (by have := dec_lt d; omega)
        have hol := oneB_len ((dec d).1 : Int)
        have HG : Hid (acc ++ oneB ((dec d).1 : Int) ++ onesB g ((sl s).drop (pos + (dec d).2)) ++ [34] = V ∧ ((sl s).drop (pos + (dec d).2)).length ≤ g) := Lib.hid ⟨by
          rw [← List.drop_drop, hd, ← HACC.out, hg2]
          simp, by rw [← List.drop_drop, hd]; exact hg1⟩
        have HIT := Lib.hid hit
        obtain ⟨W3, hW3⟩ : ∃ W3, wr.iterAt w2.heap.size s (pos + (dec d).2) = W3 := ⟨_, rfl⟩
        rw [hW3] at *
        clear hW3 hg1 hg2 HACC hit hI hbw hd
        generalize ((dec d).1 : Int) = r at *
        generalize (dec d).2 = n at *
        generalize oneB r = o at *
        have hpn : pos + n ≤ s.size := by omega
        go_wp2_with fail
        refine (hon _).mono ?_
        rintro e W4 ⟨rfl, hb4⟩
        have hI4 := builder_below hI3 hb4
        have hbw4 := bthen hbw3 hb4
        have hit4 : W4.heap[w2.heap.size]? = some (.stringIter s (pos + n)) := by rw [hb4.block _ hsz3]; exact hit3
        have hsz4 : w2.heap.size < W4.heap.size := Nat.lt_of_lt_of_le hsz3 hb4.size
        have hws := writeString_k w1.heap.size w1.heap.size _ ⟨o.toArray⟩ W4 hI4 (by rw [Lib.byteCells_length, mk_size]; omega) (by omega)
        rw [strCells_mk] at hws
        clear hon hI3 hb4 hbw3 hit3 hsz3 hnx
        go_wp2_with fail
        refine hws.mono ?_
        rintro e W5 ⟨rfl, h5, hb5, hk5⟩
        have hit5 : W5.heap[w2.heap.size]? = some (.stringIter s (pos + n)) := hk5.iter hit4 (by omega)
        have hbw5 : Below w.heap.size w W5 := hbw4.trans (hb5.mono hb1.size)
        have hsz5 : w2.heap.size < W5.heap.size := Nat.lt_of_lt_of_le hsz4 hb5.size
        clear hws hit4 hbw4 hsz4 hI4
        go_wp2
        go_roundw
        case rel =>
          refine ⟨pos + n, g, acc ++ o, hpn, ?_, hit5, hbw5, hsz5, HG.out.2, HG.out.1, by simp; omega⟩
          rw [Lib.byteCells_append]
          exact .inr h5
        case measure =>
          simp only [World.iterPos, hit5, HIT.out]
          omega
      · have hnx : ∀ ty, (Instr.next (.pointer (some ⟨w2.heap.size, 0, none⟩)) true ty).run Tryz.prog wr = _ := fun ty => Lib.run_next_end_at wr w2.heap.size s pos ty hit hp
        have HF : Hid (V = acc ++ [34]) := Lib.hid (by
          rw [← HACC.out, List.drop_of_length_le (by rw [sl_len]; omega), onesB_nil]
          simp)
        clear HACC HV
        go_wp2_with fail
        have hwb := writeByte_k w1.heap.size w1.heap.size _ 34 wr hI (by rw [Lib.byteCells_length]; omega) (by omega)
        refine hwb.mono ?_
        rintro e W4 ⟨rfl, h4, hb4, hk4⟩
        have hI4 : Lib.IsBuilderF 75 5 w1.heap.size w1.heap.size (Lib.byteCells (acc ++ [34])) W4 := by
          rw [Lib.byteCells_append]
          exact .inr h4
        have hbw4 : Below w.heap.size w W4 := hbw.trans (hb4.mono hb1.size)
        clear hwb h4 hk4 hnx
        go_wp2_with fail
        have hstr := Tryz.Builder_String_any_k w1.heap.size w1.heap.size (acc ++ [34]) W4 hI4 (by have := hb4.size; omega)
        refine hstr.mono ?_
        rintro e W5 ⟨rfl, h5, hb5, hk5⟩
        clear hstr
        go_wp2
        go_ret2
        exact ⟨by rw [HF.out]; rfl, hbw4.trans (hb5.mono hb1.size)⟩
end Go.Proofs.YtghigiapfmlkbaaGreatDoor
