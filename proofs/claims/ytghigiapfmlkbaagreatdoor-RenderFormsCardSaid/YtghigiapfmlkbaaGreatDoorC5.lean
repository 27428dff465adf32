/- What schema does. -/
import Derived.Test.YtghigiapfmlkbaaGreatDoorC4
import Derived.Test.YtghigiapfmlkbaaGreatDoorM2
import Derived.Lib.OthersKept
import Derived.Laws.RangeAny
namespace Go.Proofs.YtghigiapfmlkbaaGreatDoor
open Go.RowKit

/-- The model's decode at a place is dec of what is left. -/
theorem decode_dec (s : ByteArray) (pos : Nat) (_h : pos < s.size) : Utf8.decode s pos = dec ((sl s).drop pos) := by
  have hg : ∀ j, s.get! (pos + j) = ((sl s).drop pos).getD j 0 := fun j => by
    by_cases hj : pos + j < s.size
    · rw [sl_get! _ _ hj]; simp [List.getD_eq_getElem?_getD, List.getElem?_drop]
    · have h1 : s.data.size ≤ pos + j := Nat.le_of_not_lt hj
      simp [ByteArray.get!, List.getD_eq_getElem?_getD, getElem!_def]
      rfl
  rw [Lib.decode_at]
  simp only [dec, List.length_drop, sl_len, ← hg, Nat.add_zero]
theorem dec_ascii (c : UInt8) (t : Bs) (h : c.toNat < 128) : dec (c :: t) = (c.toNat, 1) := by simp [dec, Lib.decodeN, h]
theorem decodeN_high (n a b c d : Nat) (h : 128 ≤ a) : 128 ≤ (Lib.decodeN n a b c d).1 := by
  unfold Lib.decodeN
  repeat' split
  all_goals (simp; try omega)
theorem dec_high (c : UInt8) (t : Bs) (h : 128 ≤ c.toNat) : 128 ≤ (dec (c :: t)).1 := by
  simp only [dec]; exact decodeN_high _ _ _ _ _ (by simpa using h)
theorem drop_cons (l : Bs) (i : Nat) (hi : i < l.length) : l.drop i = l.getD i 0 :: l.drop (i + 1) := by
  rw [List.drop_eq_getElem_cons hi]
  simp [List.getD_eq_getElem?_getD, List.getElem?_eq_getElem hi]
theorem str_from (s : ByteArray) (i : Nat) : s.extract i s.size = ⟨((sl s).drop i).toArray⟩ := by
  apply WideShapes.bytes_inj
  rw [Lib.extract_to_end]

set_option maxHeartbeats 2000000 in
theorem cutLeft_any (s set : ByteArray) (w : World) (_hs : s.size ≤ 140737488351232) (_hset : set.size ≤ 140737488351232) (hasc : ∀ x ∈ sl set, x.toNat < 128) :
    Calls Tryz.prog 199 #[.string s, .string set] w fun e w' => e = .returned (.string ⟨(cutB (sl s) (sl set)).toArray⟩) ∧ Below w.heap.size w w' := by
  obtain ⟨R, hR⟩ : ∃ R, cutB (sl s) (sl set) = R := ⟨_, rfl⟩
  have HR := Lib.hid hR
  rw [hR]
  clear hR
  have HA := Lib.hid hasc
  clear hasc
  go_enter Tryz.func199, Tryz.ntmps199
  go_wp2
  go_loopw [5, 6, 7, 9] (fun _ _ _ _ wr => ∃ pos : Nat, pos ≤ s.size ∧ wr.heap[w.heap.size]? = some (.stringIter s pos) ∧ Below w.heap.size w wr ∧ ∀ x ∈ (sl s).take pos, (sl set).contains x = true) (fun _ _ _ _ wr => s.size - wr.iterPos w.heap.size)
  case atStart => exact ⟨0, Nat.zero_le _, World.iter_heap w s 0, (Below.refl _ w).alloc (Nat.le_refl _) _, by simp⟩
  case round =>
    obtain ⟨pos, hpos, hit, hbw, hall⟩ := hrel
    have HX := Lib.hid hall
    clear hall
    have hsz : w.heap.size < wr.heap.size := (Array.getElem?_eq_some_iff.1 hit).1
    by_cases hp : pos < s.size
    · have hnx : ∀ ty, (Instr.next (.pointer (some ⟨w.heap.size, 0, none⟩)) true ty).run Tryz.prog wr = _ := fun ty => Lib.run_next_any_at wr w.heap.size s pos ty hit hp
      rw [decode_dec s pos hp] at hnx
      have hit2 := Lib.iterAt_heap wr w.heap.size s pos (pos + (dec ((sl s).drop pos)).2) hit
      have hbw2 := Lib.below_iterAt hbw (k := w.heap.size) (by omega) s (pos + (dec ((sl s).drop pos)).2)
      have hsz2 : w.heap.size < (wr.iterAt w.heap.size s (pos + (dec ((sl s).drop pos)).2)).heap.size := by rw [Lib.iterAt_size]; omega
      have hdl := dec_le ((sl s).drop pos) (by rw [List.length_drop, sl_len]; omega)
      have hdp := dec_pos ((sl s).drop pos)
      rw [List.length_drop, sl_len] at hdl
      obtain ⟨W2, hW2⟩ : ∃ W2, wr.iterAt w.heap.size s (pos + (dec ((sl s).drop pos)).2) = W2 := ⟨_, rfl⟩
      rw [hW2] at hnx hit2 hbw2 hsz2
      clear hW2
      obtain ⟨cr, hcr⟩ : ∃ cr : Int, ((dec ((sl s).drop pos)).1 : Int) = cr := ⟨_, rfl⟩
      obtain ⟨n, hn⟩ : ∃ n : Nat, (dec ((sl s).drop pos)).2 = n := ⟨_, rfl⟩
      rw [hcr] at hnx
      rw [hn] at hit2 hdl hdp
      have HCR := Lib.hid hcr
      have HN := Lib.hid hn
      clear hcr hn
      go_wp2
      have HIT := Lib.hid hit
      clear hnx hit hbw hsz
      have hany : Hid ((sl set).any (fun d => cr == (d.toNat : Int)) = true → ∀ x ∈ (sl s).take (pos + n), (sl set).contains x = true) := Lib.hid (fun h => by
        obtain ⟨d, hd, he⟩ := List.any_eq_true.1 h
        have hd128 := HA.out d hd
        have hcons := drop_cons (sl s) pos (by rw [sl_len]; exact hp)
        generalize (sl s).getD pos 0 = x0 at *
        have h128 : x0.toNat < 128 := by
          refine Nat.lt_of_not_le fun hge => ?_
          have := dec_high x0 ((sl s).drop (pos + 1)) hge
          rw [← hcons, ] at this
          have := HCR.out
          simp at he
          omega
        have hda := dec_ascii x0 ((sl s).drop (pos + 1)) h128
        rw [← hcons] at hda
        have hn1 : n = 1 := by rw [← HN.out, hda]
        have hx : x0 = d := by
          rw [← UInt8.toNat_inj]
          have := HCR.out
          rw [hda] at this
          simp at he this
          omega
        subst hn1
        intro x hx2
        rw [List.take_add_one] at hx2
        rcases List.mem_append.1 hx2 with h3 | h3
        · exact HX.out x h3
        · have : (sl s)[pos]? = some x0 := by
            have := congrArg (fun q : Bs => q[0]?) hcons
            simpa using this
          rw [this] at h3
          simp at h3
          subst h3
          rw [hx]
          simpa using hd)
      have hstop : Hid ((sl set).any (fun d => cr == (d.toNat : Int)) = false → R = (sl s).drop pos) := Lib.hid (fun h => by
        have hcons := drop_cons (sl s) pos (by rw [sl_len]; exact hp)
        rw [← HR.out, cutB_skip (sl s) (sl set) pos HX.out]
        rw [hcons]
        unfold cutB
        rw [List.dropWhile_cons, if_neg]
        intro hc
        have hmem : (sl s).getD pos 0 ∈ sl set := by simpa using hc
        have hda := dec_ascii ((sl s).getD pos 0) ((sl s).drop (pos + 1)) (HA.out _ hmem)
        rw [← hcons] at hda
        have h2 := List.any_eq_false.1 h _ hmem
        have := HCR.out
        rw [hda] at this
        simp at this h2
        omega)
      have hstep : ∀ p, p < set.size → Hid ((((sl set).take p).any (fun d => cr == (d.toNat : Int)) || (cr == (((sl set).getD p 0).toNat : Int))) = ((sl set).take (p + 1)).any (fun d => cr == (d.toNat : Int))) := fun p hp => Lib.hid (by
        rw [take_succ _ _ (by rw [sl_len]; exact hp)]
        simp)
      obtain ⟨wo, rfl⟩ : ∃ wo : World, wo = wr := ⟨_, rfl⟩
      go_loopw [7, 9] (fun v _ wi => ∃ p : Nat, p ≤ set.size ∧ v = .bool (((sl set).take p).any (fun d => cr == (d.toNat : Int))) ∧ wi.heap[W2.heap.size]? = some (.stringIter set p) ∧ wi.heap[w.heap.size]? = some (.stringIter s (pos + n)) ∧ Below w.heap.size w wi) (fun _ _ wi => set.size - wi.iterPos W2.heap.size)
      case atStart => exact ⟨0, Nat.zero_le _, rfl, World.iter_heap W2 set 0, by rw [World.iter, Below.heap_alloc _ _ _ hsz2]; exact hit2, hbw2.alloc (by omega) _⟩
      case round =>
        obtain ⟨p, hps, rfl, hi2, hi1, hbi⟩ := hrel
        by_cases hp2 : p < set.size
        · have hnx : ∀ ty, (Instr.next (.pointer (some ⟨W2.heap.size, 0, none⟩)) true ty).run Tryz.prog wr = _ := fun ty => Lib.run_next_any_at wr W2.heap.size set p ty hi2 hp2
          have hxa := HA.out ((sl set).getD p 0) (by
            have : p < (sl set).length := by rw [sl_len]; exact hp2
            simp [List.getD_eq_getElem?_getD, List.getElem?_eq_getElem this])
          have hds : Utf8.decode set p = (((sl set).getD p 0).toNat, 1) := by
            rw [decode_dec set p hp2, drop_cons _ _ (by rw [sl_len]; exact hp2)]
            exact dec_ascii _ _ hxa
          rw [hds] at hnx
          have hst := hstep p hp2
          have hj2 := Lib.iterAt_heap wr W2.heap.size set p (p + 1) hi2
          have hj1 : (wr.iterAt W2.heap.size set (p + 1)).heap[w.heap.size]? = _ := (Lib.iterAt_other wr W2.heap.size w.heap.size set (p + 1) (by omega)).trans hi1
          have hbj := Lib.below_iterAt hbi (k := W2.heap.size) (by omega) set (p + 1)
          clear hds hxa hstep
          generalize (((sl set).getD p 0).toNat : Int) = y at *
          generalize ((sl set).take p).any (fun d => cr == (d.toNat : Int)) = q at *
          cases q
          all_goals
            go_wp2
            go_roundw
            case rel => exact ⟨p + 1, by omega, by rw [← hst.out]; simp, hj2, hj1, hbj⟩
            case measure =>
              simp only [World.iterPos, hj2, hi2]
              omega
        · have hnx : ∀ ty, (Instr.next (.pointer (some ⟨W2.heap.size, 0, none⟩)) true ty).run Tryz.prog wr = _ := fun ty => Lib.run_next_end_at wr W2.heap.size set p ty hi2 hp2
          rw [List.take_of_length_le (by rw [sl_len]; omega)]
          clear hstep
          generalize (sl set).any (fun d => cr == (d.toNat : Int)) = q at *
          cases q
          · have HF := Lib.hid (hstop.out rfl)
            have hsl := str_from s pos
            clear hany hstop
            go_wp2
            go_ret
            exact ⟨by rw [HF.out, ← hsl]; rfl, hbi⟩
          · have HF := Lib.hid (hany.out rfl)
            clear hany hstop
            go_wp2
            go_roundw
            case rel => exact ⟨pos + n, by omega, hi1, hbi, HF.out⟩
            case measure =>
              simp only [World.iterPos, hi1, HIT.out]
              omega
    · have hnx : ∀ ty, (Instr.next (.pointer (some ⟨w.heap.size, 0, none⟩)) true ty).run Tryz.prog wr = _ := fun ty => Lib.run_next_end_at wr w.heap.size s pos ty hit hp
      have HF : Hid (R = []) := Lib.hid (by
        rw [← HR.out, cutB_skip (sl s) (sl set) pos HX.out, List.drop_of_length_le (by rw [sl_len]; omega)]
        rfl)
      go_wp2
      go_ret
      exact ⟨by rw [HF.out]; rfl, hbw⟩

theorem bthen {w w1 w2 : World} (h : Below w.heap.size w w1) (k : Below w1.heap.size w1 w2) : Below w.heap.size w w2 := h.trans (k.mono h.size)
theorem run_any (s set : ByteArray) (w : World) (hs : s.size ≤ 140737488351232) (hset : set.size ≤ 140737488351232) (hasc : ∀ x ∈ sl set, x.toNat < 128) :
    Calls Tryz.prog 177 #[.string s, .string set] w fun e w' => e = .returned (.tuple #[.string ⟨(cutB (sl s) (sl set)).toArray⟩, .int .i64 (((sl s).length - (cutB (sl s) (sl set)).length : Nat))]) ∧ Below w.heap.size w w' := by
  have hc := cutLeft_any s set w hs hset hasc
  have hle := cutB_le (sl s) (sl set)
  have hz := sl_len s
  generalize cutB (sl s) (sl set) = R at *
  have hzr : (⟨R.toArray⟩ : ByteArray).size = R.length := by rw [← sl_len, sl_mk]
  have HZ := Lib.hid hz
  have HR := Lib.hid hzr
  have hle2 : (R.length : Nat) ≤ s.size := by rw [← hz]; exact hle
  have hle3 : (⟨R.toArray⟩ : ByteArray).size ≤ s.size := by rw [hzr]; exact hle2
  clear hz hzr
  go_enter Tryz.func177, Tryz.ntmps177
  go_wp2_with (go_at_call 199; refine hc.mono ?_; rintro e w' ⟨rfl, hb⟩)
  go_ret2
  refine ⟨?_, hb⟩
  rw [HZ.out, show ((s.size - R.length : Nat) : Int) = (s.size : Int) - R.length by omega]
  rfl
theorem all_any (s set : ByteArray) (w : World) (hs : s.size ≤ 140737488351232) (hset : set.size ≤ 140737488351232) (hasc : ∀ x ∈ sl set, x.toNat < 128) :
    Calls Tryz.prog 175 #[.string s, .string set] w fun e w' => e = .returned (.bool (allB (sl s) (sl set))) ∧ Below w.heap.size w w' := by
  have hc := run_any s set w hs hset hasc
  have HE : Hid (allB (sl s) (sl set) = (decide (0 < (sl s).length - (cutB (sl s) (sl set)).length) && (cutB (sl s) (sl set)).isEmpty)) := rfl
  rw [HE.out]
  clear HE
  generalize cutB (sl s) (sl set) = R at *
  generalize (sl s).length - R.length = n at *
  have hem := sl_empty ⟨R.toArray⟩
  rw [sl_mk] at hem
  cases hE : R.isEmpty <;> by_cases h0 : 0 < n
  all_goals
    rw [hE] at hem
    go_enter Tryz.func175, Tryz.ntmps175
    go_wp2_with (go_at_call 177; refine hc.mono ?_; rintro e w' ⟨rfl, hb⟩)
    go_ret
    exact ⟨ret_bool (by simp [h0]), hb⟩
theorem unsign_any (s : ByteArray) (w : World) :
    Calls Tryz.prog 176 #[.string s] w fun e w' => e = .returned (.string ⟨(unsignB (sl s)).toArray⟩) ∧ w = w' := by
  have hem := sl_empty s
  have hz := sl_len s
  have hsm := mk_sl s
  have hex := str_from s 1
  cases hl : sl s with
  | nil =>
    rw [hl] at hem hz hsm
    simp only [unsignB]
    rw [hsm]
    clear hex hsm hl hz
    go_enter Tryz.func176, Tryz.ntmps176
    go_wp2
    go_ret
    exact ⟨rfl, rfl⟩
  | cons c t =>
    have hc : ∀ h : 0 < s.size, ((s[0]'h).toNat : Int) = (c.toNat : Int) := fun h => by rw [sl_get s 0 h, hl]; rfl
    have hp : 0 < s.size := by rw [← hz, hl]; simp
    rw [hl] at hem hex hsm
    simp only [List.drop_succ_cons, List.drop_zero] at hex
    have HU : Hid (unsignB (c :: t) = if (c.toNat : Int) = 45 ∨ (c.toNat : Int) = 43 then t else c :: t) := Lib.hid (by
      simp only [unsignB]
      congr 1
      simp
      omega)
    rw [HU.out]
    clear HU hl hz
    generalize (c.toNat : Int) = x at *
    by_cases h1 : x = 45
    · subst h1
      rw [if_pos (.inl rfl), ← hex]
      clear hex hsm
      go_enter Tryz.func176, Tryz.ntmps176
      go_wp2
      go_ret
      exact ⟨rfl, rfl⟩
    · by_cases h2 : x = 43
      · subst h2
        rw [if_pos (.inr rfl), ← hex]
        clear hex hsm
        go_enter Tryz.func176, Tryz.ntmps176
        go_wp2
        go_ret
        exact ⟨rfl, rfl⟩
      · rw [if_neg (by omega), hsm]
        clear hex hsm
        have h1' : (x == 45) = false := by simpa using h1
        have h2' : (x == 43) = false := by simpa using h2
        go_enter Tryz.func176, Tryz.ntmps176
        go_wp2
        go_ret
        exact ⟨rfl, rfl⟩

theorem mk_inj {a b : Bs} (h : (⟨a.toArray⟩ : ByteArray) = ⟨b.toArray⟩) : a = b := by
  have := congrArg sl h
  simpa only [sl_mk] using this
/-- slices.Contains of a literal of texts. -/
theorem contains_lit (zs : List Bs) (x : ByteArray) (W : World) (hn : zs.length ≤ 1000) :
    Calls Tryz.prog 174 #[.slice (some ⟨W.heap.size, 0, none⟩) zs.length zs.length, .string x] (W.alloc (.cells (zs.map fun z => Value.string ⟨z.toArray⟩).toArray 9)) fun e w' =>
      e = .returned (.bool (zs.contains (sl x))) ∧ w' = W.alloc (.cells (zs.map fun z => Value.string ⟨z.toArray⟩).toArray 9) := by
  have h := Tryz.slices_Contains_string W.heap.size 0 zs.length zs.length (zs.map fun z => ⟨z.toArray⟩) x (W.alloc (.cells (zs.map fun z => Value.string ⟨z.toArray⟩).toArray 9)) (by simp) (by omega) (fun j hj => by
    rw [Nat.zero_add, cell_of_row _ _ _ _ 9 (0, 0) (heap_alloc_new W _)]
    simp only [List.length_map] at hj
    simp [List.getD_eq_getElem?_getD, List.getElem?_eq_getElem hj])
  rw [List.take_of_length_le (by simp)] at h
  have e : Lib.containsS (zs.map fun z => (⟨z.toArray⟩ : ByteArray)) x = zs.contains (sl x) := by
    rw [Bool.eq_iff_iff, Lib.containsS_iff]
    simp only [List.mem_map, List.contains_iff_mem]
    constructor
    · rintro ⟨z, hz, rfl⟩
      rw [sl_mk]
      exact hz
    · intro hx
      exact ⟨sl x, hx, mk_sl x⟩
  rw [e] at h
  exact h
theorem null_any (s : ByteArray) (w : World) :
    Calls Tryz.prog 134 #[.string s] w fun e w' => e = .returned (.bool (nullB (sl s))) ∧ Below w.heap.size w w' := by
  have hc := contains_lit [[110, 117, 108, 108], [78, 117, 108, 108], [78, 85, 76, 76], [126], []] s w (by simp)
  have HN : Hid (nullB (sl s) = ([[110, 117, 108, 108], [78, 117, 108, 108], [78, 85, 76, 76], [126], []] : List Bs).contains (sl s)) := rfl
  rw [HN.out]
  clear HN
  generalize ([[110, 117, 108, 108], [78, 117, 108, 108], [78, 85, 76, 76], [126], []] : List Bs).contains (sl s) = R at *
  go_enter Tryz.func134, Tryz.ntmps134
  go_wp2_with (go_at_call 174; refine hc.mono ?_; rintro e w' ⟨rfl, hw⟩)
  go_ret
  exact ⟨rfl, (Below.refl _ _).alloc (Nat.le_refl _) _⟩
theorem boolS_any (s : ByteArray) (w : World) :
    Calls Tryz.prog 135 #[.string s] w fun e w' => e = .returned (.bool (boolB (sl s))) ∧ Below w.heap.size w w' := by
  have hc := contains_lit [[116, 114, 117, 101], [84, 114, 117, 101], [84, 82, 85, 69], [102, 97, 108, 115, 101], [70, 97, 108, 115, 101], [70, 65, 76, 83, 69]] s w (by simp)
  have HN : Hid (boolB (sl s) = ([[116, 114, 117, 101], [84, 114, 117, 101], [84, 82, 85, 69], [102, 97, 108, 115, 101], [70, 97, 108, 115, 101], [70, 65, 76, 83, 69]] : List Bs).contains (sl s)) := rfl
  rw [HN.out]
  clear HN
  generalize ([[116, 114, 117, 101], [84, 114, 117, 101], [84, 82, 85, 69], [102, 97, 108, 115, 101], [70, 97, 108, 115, 101], [70, 65, 76, 83, 69]] : List Bs).contains (sl s) = R at *
  go_enter Tryz.func135, Tryz.ntmps135
  go_wp2_with (go_at_call 174; refine hc.mono ?_; rintro e w' ⟨rfl, hw⟩)
  go_ret
  exact ⟨rfl, (Below.refl _ _).alloc (Nat.le_refl _) _⟩
end Go.Proofs.YtghigiapfmlkbaaGreatDoor
