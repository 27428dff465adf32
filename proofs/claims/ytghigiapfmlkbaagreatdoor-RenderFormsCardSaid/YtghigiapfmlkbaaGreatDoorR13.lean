/- A strings.Builder within render's writer. -/
import Derived.Test.YtghigiapfmlkbaaGreatDoorR12
import Derived.Test.YtghigiapfmlkbaaGreatDoorB
import Derived.Shelf.Strings.Builder1
namespace Go.Proofs.YtghigiapfmlkbaaGreatDoor
open Go.RowKit
attribute [local go_sem ↓] Go.wp_at_zero Go.wp_at_succ

theorem infoBuilder2 : (Tryz.prog.info? 75).map (fun i => i.size) = some 2 := by kernel_rfl
theorem liesBuilder2 : liesAt Tryz.prog Tryz.prog.depth 77 (6 / Tryz.prog.cellsOf 77) 4 75 1 = true := by kernel_rfl
abbrev wrCells (vc : Value) (bA bM : Nat) (flow : Bool) (p buf : Value) : Obj := .cells #[vc, .map (some bA), .map (some bM), .bool flow, p, buf] 77 (0, 0)

set_option maxHeartbeats 1000000 in
set_option maxRecDepth 100000 in
theorem wcopy_fresh (b : Nat) (w : World) (h0 : w.cell? ⟨b, 4, none⟩ = some (.pointer none)) (hsh : w.shape? b = some (77, 6)) (hfz : w.frozen? ⟨b, 4, none⟩ = false) :
    Calls Tryz.prog 60 #[.pointer (some ⟨b, 4, none⟩)] w fun e w' => e = .returned (.tuple #[]) ∧ w' = w.setCell ⟨b, 4, none⟩ (.pointer (some ⟨b, 4, none⟩)) := by
  obtain ⟨j, hj, hjs⟩ := Option.map_eq_some_iff.1 infoBuilder2
  go_enter Tryz.func60, Tryz.ntmps60
  go_wp2
  rw [Lib.run_to_unsafe w ⟨b, 4, none⟩ Tryz.underlying73 Tryz.underlying160 hj (by rw [hjs]; decide) hsh (by show 4 < 6; omega)]
  simp only [Result.andThen]
  rw [Oper.upon_value]
  go_wp2
  rw [run_callFunc_extern Tryz.func93 (by kernel_rfl) (by kernel_rfl) (by kernel_rfl) (e := Extern.AbiNoEscape.same) (by kernel_rfl)]
  rw [Lib.run_noEscape]
  simp only [Result.andThen]
  rw [Oper.upon_value]
  go_wp2
  rw [Lib.run_from_unsafe w ⟨b, 4, none⟩ Tryz.underlying160 Tryz.underlying73 hj hsh liesBuilder2]
  simp only [Result.andThen]
  rw [Oper.upon_value]
  go_wp2
  go_end0
  exact ⟨rfl, rfl⟩

set_option maxHeartbeats 1000000 in
set_option maxRecDepth 100000 in
theorem wcopy_used (b : Nat) (w : World) (h0 : w.cell? ⟨b, 4, none⟩ = some (.pointer (some ⟨b, 4, none⟩))) :
    Calls Tryz.prog 60 #[.pointer (some ⟨b, 4, none⟩)] w fun e w' => e = .returned (.tuple #[]) ∧ w' = w := by
  obtain ⟨j, hj, _⟩ := Option.map_eq_some_iff.1 infoBuilder2
  go_enter Tryz.func60, Tryz.ntmps60
  go_wp2
  rw [Lib.run_neq_ptr_same w _ Tryz.underlying73 hj]
  go_wp2
  go_end0
  exact ⟨rfl, rfl⟩

/-- The writer's block with what was written. -/
def OutB (w : World) (b B bA bM : Nat) (vc : Value) (flow : Bool) (bs : Bs) : Prop :=
  ∃ p buf, w.heap[b]? = some (wrCells vc bA bM flow p buf) ∧ w.ownsRow B 5 1 buf bs.length (Lib.byteCells bs) ∧ (p = .pointer none ∨ p = .pointer (some ⟨b, 4, none⟩))
/-- All but the writer's block, its map of what was met, and rows of bytes of its own is as it was. -/
structure FrL (b bM B : Nat) (w w' : World) : Prop where
  os : w'.os = w.os
  tape : w'.tape = w.tape
  output : w'.output = w.output
  size : w.heap.size ≤ w'.heap.size
  block : ∀ i, i < w.heap.size → i ≠ b → i ≠ bM → (∀ cs fr, B ≤ i → w.heap[i]? ≠ some (.cells cs 5 fr)) → w'.heap[i]? = w.heap[i]?
theorem FrL.refl (b bM B : Nat) (w : World) : FrL b bM B w w := ⟨rfl, rfl, rfl, Nat.le_refl _, fun _ _ _ _ _ => rfl⟩
theorem FrL.trans {b bM B : Nat} {w w1 w2 : World} (h : FrL b bM B w w1) (k : FrL b bM B w1 w2) : FrL b bM B w w2 :=
  ⟨k.os.trans h.os, k.tape.trans h.tape, k.output.trans h.output, Nat.le_trans h.size k.size, fun i hi h1 h2 h3 => by
    have e := h.block i hi h1 h2 h3
    exact (k.block i (Nat.lt_of_lt_of_le hi h.size) h1 h2 (by rw [e]; exact h3)).trans e⟩
theorem FrL.of_grown {b bM B : Nat} {w w' : World} (h : w.grownBy w' (some bM)) : FrL b bM B w w' := ⟨h.os, h.tape, h.output, h.size, fun i hi _ h2 _ => h.block i hi (by simp; exact h2)⟩
theorem FrL.of_below {b bM B : Nat} {w w' : World} (h : Below w.heap.size w w') : FrL b bM B w w' := ⟨h.os, h.tape, h.output, h.size, fun i hi _ _ _ => h.block i hi⟩
theorem FrL.below {b bM B B0 : Nat} {w w' : World} (h : FrL b bM B w w') (h1 : B0 ≤ b) (h2 : B0 ≤ bM) (h3 : B0 ≤ B) (h4 : B0 ≤ w.heap.size) : Below B0 w w' :=
  ⟨h.os, h.tape, h.output, h.size, fun i hi => h.block i (by omega) (by omega) (by omega) (fun _ _ hB => by omega)⟩

set_option maxHeartbeats 2000000 in
set_option maxRecDepth 100000 in
theorem wstr_any (b B bA bM : Nat) (vc : Value) (flow : Bool) (bs s : Bs) (w : World) (h : OutB w b B bA bM vc flow bs) (hlen : bs.length + s.length ≤ 1000000000000) (hBw : B ≤ w.heap.size) :
    Calls Tryz.prog 31 #[.pointer (some ⟨b, 4, none⟩), .string ⟨s.toArray⟩] w fun e w' => e = .returned (.tuple #[.int .i64 s.length, .nilIface]) ∧ OutB w' b B bA bM vc flow (bs ++ s) ∧ FrL b bM B w w' ∧ ∀ i, i < w.heap.size → i ≠ b → (∀ cs fr, w.heap[i]? ≠ some (.cells cs 5 fr)) → w'.heap[i]? = w.heap[i]? := by
  obtain ⟨i0, hi, hz0, hz1, hz2⟩ := info_parts info_u8
  obtain ⟨p, buf, hbk, hown, hp⟩ := h
  have hcc : Calls Tryz.prog 60 #[.pointer (some ⟨b, 4, none⟩)] w fun e w' => e = .returned (.tuple #[]) ∧ w'.heap[b]? = some (wrCells vc bA bM flow (.pointer (some ⟨b, 4, none⟩)) buf) ∧ w'.ownsRow B 5 1 buf bs.length (Lib.byteCells bs) ∧ FrL b bM B w w' ∧ ∀ i, i < w.heap.size → i ≠ b → w'.heap[i]? = w.heap[i]? := by
    rcases hp with rfl | rfl
    · refine (wcopy_fresh b w (by rw [cell_of_row _ _ _ _ _ (0, 0) hbk]; rfl) (by simp [World.shape?, hbk]) (by simp [World.frozen?, hbk])).mono ?_
      rintro e w' ⟨rfl, rfl⟩
      refine ⟨rfl, by rw [heap_setCell_same _ _ _ _ _ _ hbk]; rfl, ownsRow_setCell_other hown ?_ _, ⟨rfl, rfl, rfl, by simp, fun i hi h1 _ _ => heap_setCell_other _ _ _ _ h1⟩, fun i _ h1 => heap_setCell_other _ _ _ _ h1⟩
      intro e
      obtain ⟨_, ⟨h1, _⟩ | ⟨g, cap, cur, h1, _, h2, _⟩⟩ := hown
      · rw [h1] at e; cases e
      · rw [h1] at e
        simp only [Value.ownBlock, Option.some.injEq] at e
        subst e
        rw [hbk] at h2
        simp at h2
    · refine (wcopy_used b w (by rw [cell_of_row _ _ _ _ _ (0, 0) hbk]; rfl)).mono ?_
      rintro e w' ⟨rfl, rfl⟩
      exact ⟨rfl, hbk, hown, FrL.refl _ _ _ _, fun _ _ _ => rfl⟩
  have hsz := size_l s
  clear hbk hown hp
  go_enter Tryz.func31, Tryz.ntmps31
  go_wp2_with (go_at_call 60; refine hcc.mono ?_)
  rintro e w1 ⟨rfl, hbk, hown, hf1, hk1⟩
  clear hcc
  have hne : buf.ownBlock ≠ some b := by
    intro e
    obtain ⟨_, ⟨h1, _⟩ | ⟨g, cap, cur, h1, _, h2, _⟩⟩ := hown
    · rw [h1] at e; cases e
    · rw [h1] at e
      simp only [Value.ownBlock, Option.some.injEq] at e
      subst e
      rw [hbk] at h2
      simp at h2
  have c5 : w1.cell? ⟨b, 5, none⟩ = some buf := by rw [cell_of_row _ _ _ _ _ (0, 0) hbk]; rfl
  go_wp2_with (at_builtin; refine Lib.wpList_append_own_string _ rfl _ _ 43 9 rfl B 5 i0 Tryz.underlying43 Tryz.underlying9 hi hz0 hz1 hz2 _ _ _ rfl hown ⟨s.toArray⟩ rfl ?c3 ?c4 ?c5 ?_)
  case c3 => rw [hsz]; unfold maxLen; omega
  case c4 => rw [hsz]; omega
  case c5 => have := hf1.size; omega
  intro v' w2 hown' hgrow _
  have hb2 : w2.heap[b]? = some (wrCells vc bA bM flow (.pointer (some ⟨b, 4, none⟩)) buf) := (hgrow.block b (lt_of_block hbk) (fun e => hne e.symm)).trans hbk
  have d5 : w2.cell? ⟨b, 5, none⟩ = some buf := by rw [cell_of_row _ _ _ _ _ (0, 0) hb2]; rfl
  have f5 : w2.frozen? ⟨b, 5, none⟩ = false := by simp [World.frozen?, hb2]
  have hf2 : FrL b bM B w1 w2 := ⟨hgrow.os, hgrow.tape, hgrow.output, hgrow.size, fun i hi h1 h2 h3 => hgrow.block i hi (fun e => by
    obtain ⟨_, ⟨h4, _⟩ | ⟨g, cap, cur, h4, h5, h6, _⟩⟩ := hown
    · rw [h4] at e; cases e
    · rw [h4] at e
      simp only [Value.ownBlock, Option.some.injEq] at e
      subst e
      exact h3 _ _ h5 h6)⟩
  have hne' : v'.ownBlock ≠ some b := by
    intro e
    obtain ⟨_, ⟨h1, _⟩ | ⟨g, cap, cur, h1, _, h2, _⟩⟩ := hown'
    · rw [h1] at e; cases e
    · rw [h1] at e
      simp only [Value.ownBlock, Option.some.injEq] at e
      subst e
      rw [hb2] at h2
      simp at h2
  have hb3 : (w2.setCell ⟨b, 5, none⟩ v').heap[b]? = some (wrCells vc bA bM flow (.pointer (some ⟨b, 4, none⟩)) v') := by rw [heap_setCell_same _ _ _ _ _ _ hb2]; rfl
  have ho3 := ownsRow_setCell_other hown' (a := ⟨b, 5, none⟩) hne' v'
  have hf3 : FrL b bM B w (w2.setCell ⟨b, 5, none⟩ v') := (hf1.trans hf2).trans ⟨rfl, rfl, rfl, by simp, fun i hi h1 _ _ => heap_setCell_other _ _ _ _ h1⟩
  have hk3 : ∀ i, i < w.heap.size → i ≠ b → (∀ cs fr, w.heap[i]? ≠ some (.cells cs 5 fr)) → (w2.setCell ⟨b, 5, none⟩ v').heap[i]? = w.heap[i]? := fun i hi h1 h2 => by
    have e1 := hk1 i hi h1
    have hlt : i < w1.heap.size := Nat.lt_of_lt_of_le hi hf1.size
    have e2 := hgrow.block i hlt (fun e => by
      obtain ⟨_, ⟨h4, _⟩ | ⟨g, cap, cur, h4, h5, h6, _⟩⟩ := hown
      · rw [h4] at e; cases e
      · rw [h4] at e
        simp only [Value.ownBlock, Option.some.injEq] at e
        subst e
        rw [e1] at h6
        exact h2 _ _ h6)
    exact ((heap_setCell_other _ _ _ _ h1).trans e2).trans e1
  have hlast : OutB (w2.setCell ⟨b, 5, none⟩ v') b B bA bM vc flow (bs ++ s) := ⟨_, _, hb3, by
    rw [List.length_append, Lib.byteCells_append]
    simpa [Lib.strCells, Lib.byteCells] using ho3, .inr rfl⟩
  obtain ⟨ao, n', cap, rfl⟩ : ∃ ao n' cap, v' = .slice ao n' cap := by
    rcases hown'.2 with ⟨hv, _⟩ | ⟨g, cap, cur, hv, _⟩
    · exact ⟨_, _, _, hv⟩
    · exact ⟨_, _, _, hv⟩
  clear hown hown' hgrow hf1 hf2 hk1 hb2 hb3 ho3 hne hne' hbk
  go_wp2
  go_ret2
  exact ⟨by first | rfl | (rw [hsz]; rfl) | simp, hlast, hf3, hk3⟩

set_option maxRecDepth 100000 in
theorem wlen_any (b B bA bM : Nat) (vc : Value) (flow : Bool) (bs : Bs) (w : World) (h : OutB w b B bA bM vc flow bs) :
    Calls Tryz.prog 34 #[.pointer (some ⟨b, 4, none⟩)] w fun e w' => e = .returned (.int .i64 bs.length) ∧ w' = w := by
  obtain ⟨p, buf, hbk, hown, _⟩ := h
  have c5 : w.cell? ⟨b, 5, none⟩ = some buf := by rw [cell_of_row _ _ _ _ _ (0, 0) hbk]; rfl
  obtain ⟨A, c, rfl⟩ : ∃ A c, buf = .slice A bs.length c := by
    obtain ⟨_, ⟨rfl, h0⟩ | ⟨g, cap, cur, rfl, _⟩⟩ := hown
    · exact ⟨none, 0, by rw [h0]⟩
    · exact ⟨_, _, rfl⟩
  clear hbk hown
  go_enter Tryz.func34, Tryz.ntmps34
  go_wp2
  go_ret
  exact ⟨rfl, rfl⟩

set_option maxHeartbeats 2000000 in
set_option maxRecDepth 100000 in
theorem wstring_any (b B bA bM : Nat) (vc : Value) (flow : Bool) (bs : Bs) (w : World) (h : OutB w b B bA bM vc flow bs) (h0 : bs ≠ []) (hB0 : ∃ B0, B0 ≤ B ∧ B0 ≤ w.heap.size) :
    Calls Tryz.prog 35 #[.pointer (some ⟨b, 4, none⟩)] w fun e w' => e = .returned (.string ⟨bs.toArray⟩) ∧ ∀ B0, B0 ≤ B → Below B0 w w' := by
  obtain ⟨p, buf, hbk, hown, _⟩ := h
  have hl0 : bs.length ≠ 0 := by simpa using h0
  obtain ⟨g, cap, cur, rfl, hbg, hg, hnc, hcm, hcs, htake⟩ : ∃ g cap cur, buf = .slice (some ⟨g, 0, none⟩) bs.length cap ∧ B ≤ g ∧ w.heap[g]? = some (.cells cur 5 (0, 0)) ∧ bs.length ≤ cap ∧ cap ≤ maxLen ∧ cur.size = cap * 1 ∧ cur.toList.take (bs.length * 1) = Lib.byteCells bs := by
    rcases hown.2 with ⟨_, hz⟩ | ⟨g, cap, cur, hv, r⟩
    · exact absurd hz hl0
    · exact ⟨g, cap, cur, hv, r⟩
  have c1 : w.drew.cell? ⟨b, 5, none⟩ = some (.slice (some ⟨g, 0, none⟩) bs.length cap) := by
    have : w.drew.heap[b]? = some (wrCells vc bA bM flow p (.slice (some ⟨g, 0, none⟩) bs.length cap)) := hbk
    rw [cell_of_row _ _ _ _ _ (0, 0) this]; rfl
  have hSD : (Builtin.unsafeSliceData_ #[43] 126 #[.slice (some ⟨g, 0, none⟩) bs.length cap]).run Tryz.prog w.drew = .ok (.pointer (some ⟨g, 0, none⟩)) w.drew :=
    Lib.run_unsafeSliceData_row _ _ _ _ _ _ (by omega)
  have hUS : (Builtin.unsafeString_ #[126, 3] 9 #[.pointer (some ⟨g, 0, none⟩), .int .i64 bs.length]).run Tryz.prog w.drew = .ok (.string ⟨bs.toArray⟩) (w.drew.freeze ⟨g, 0, none⟩ bs.length) := by
    refine Lib.run_unsafeString_row w.drew 126 3 9 5 Tryz.underlying126 (by kernel_rfl) g cur.size (by have hg' : w.drew.heap[g]? = some (.cells cur 5 (0, 0)) := hg; simp [World.shape?, hg']) bs h0 (by omega) (by unfold maxLen at hcm; omega) ?_
    intro j x hx
    have := hown.cells (g := g) rfl j (.int .u8 x.toNat) (by simp [Lib.byteCells, hx])
    exact this
  clear hown hnc hcm hcs htake
  go_enter Tryz.func35, Tryz.ntmps35
  go_wp2
  go_region
  all_goals
    go_wp2
    go_ret
    exact ⟨rfl, fun B0 hB0 => Lib.below_freeze (Below.drew (Below.refl B0 w)) (p := ⟨g, 0, none⟩) (by show B0 ≤ g; omega) _⟩
end Go.Proofs.YtghigiapfmlkbaaGreatDoor
