/- props.Put, render.ahead, key, props, small. -/
import Derived.Test.YtghigiapfmlkbaaGreatDoorR8
import Derived.Lib.ItoaNum
import Derived.Lib.Repeat
namespace Go.Proofs.YtghigiapfmlkbaaGreatDoor
open Go.RowKit
attribute [local go_sem ↓] Go.wp_at_zero Go.wp_at_succ

theorem digB_is (n : Nat) (hn : n < 100) : Lib.decDigits n = digB n := by
  unfold digB
  by_cases h : n < 10
  · rw [Lib.decDigits, dif_pos h, if_pos h]
  · rw [Lib.decDigits, dif_neg h, if_neg h, Lib.decDigits, dif_pos (by omega)]
    rfl
theorem repeat_is (x : UInt8) : ∀ c, Lib.repeatL [x] c = List.replicate c x
  | 0 => rfl
  | c + 1 => by rw [Lib.repeatL, repeat_is x c, List.replicate_succ]; rfl
theorem info_str : (Tryz.prog.info? 9).map (fun i => (i.zero, i.size, i.bytes)) = some (some (.string ⟨#[]⟩), 1, 16) := by kernel_rfl
theorem join_two (a b s : Bs) : Lib.join [a, b] s = a ++ s ++ b := by simp [Lib.join, List.intercalate, List.intersperse]
theorem join_one (a s : Bs) : Lib.join [a] s = a := by simp [Lib.join, List.intercalate, List.intersperse]
/-- Join of strings in a row. -/
theorem join_any (v : Value) (B : Nat) (xs : List Bs) (sep : Bs) (w : World) (h : w.ownsRow B 9 1 v xs.length (xs.map fun l => Value.string ⟨l.toArray⟩)) (hN : xs.length ≤ 1000000) (hlen : (Lib.join xs sep).length ≤ 140737488355328) :
    Calls Tryz.prog 63 #[v, .string ⟨sep.toArray⟩] w fun e w' => e = .returned (.string ⟨(Lib.join xs sep).toArray⟩) ∧ Below w.heap.size w w' := by
  by_cases hn : 0 < xs.length
  · obtain ⟨g, cap, rfl, hc, hcl⟩ := own_cells h hn
    have e1 : (xs.map fun l : Bs => (⟨l.toArray⟩ : ByteArray)).map (·.data.toList) = xs := by
      rw [List.map_map]
      conv => rhs; rw [← List.map_id xs]
      apply List.map_congr_left
      intro x _
      simp
    have e2 : (⟨sep.toArray⟩ : ByteArray).data.toList = sep := by simp
    have hlt : g < w.heap.size := (World.ownsRow.lt h g rfl).2
    have := Tryz.strings_Join g 0 cap (xs.map fun l : Bs => (⟨l.toArray⟩ : ByteArray)) ⟨sep.toArray⟩ w (fun j x hx => by
      have hj : j < xs.length := by
        have := (List.getElem?_eq_some_iff.1 hx).1
        simpa using this
      rw [Nat.zero_add, hcl j (by omega)]
      rw [List.getElem?_map, Option.map_eq_some_iff] at hx ⊢
      obtain ⟨y, hy, rfl⟩ := hx
      exact ⟨y, hy, rfl⟩) hlt (by simp; omega) (by simp; omega) (by rw [e1, e2]; exact hlen)
    rw [e1, e2, List.length_map] at this
    exact this
  · have h0 : xs = [] := List.length_eq_zero_iff.1 (by omega)
    subst h0
    obtain ⟨A, c, rfl⟩ : ∃ A c, v = .slice A 0 c := by
      obtain ⟨_, ⟨rfl, _⟩ | ⟨g, cap, cur, rfl, _⟩⟩ := h
      · exact ⟨_, _, rfl⟩
      · exact ⟨_, _, rfl⟩
    refine (Tryz.strings_Join_none A c ⟨sep.toArray⟩ w).mono ?_
    rintro e w' ⟨rfl, rfl⟩
    exact ⟨rfl, Below.refl _ _⟩
/-- A string more. -/
theorem strs_append {w : World} {B : Nat} {u : Value} {xs : List Bs} (h : w.ownsRow B 9 1 u xs.length (xs.map fun l => Value.string ⟨l.toArray⟩)) (x : Bs) (hl : xs.length ≤ 1000000) (hB : B ≤ w.heap.size) :
    ∃ v' w', (Builtin.append_ #[36, 36] 36 #[u, .slice (some ⟨w.heap.size, 0, none⟩) 1 1]).run Tryz.prog (w.alloc (.cells #[.string ⟨x.toArray⟩] 9)) = .ok v' w' ∧
      w'.ownsRow B 9 1 v' (xs ++ [x]).length ((xs ++ [x]).map fun l => Value.string ⟨l.toArray⟩) ∧ (w.alloc (.cells #[.string ⟨x.toArray⟩] 9)).grownBy w' u.ownBlock := by
  obtain ⟨i0, hi, hz0, hz1, hz2⟩ := info_parts info_str
  obtain ⟨v', w', h1, h2, h3, _⟩ := run_append_own (P := Tryz.prog) (w.alloc (.cells #[.string ⟨x.toArray⟩] 9)) B 36 36 9 i0 _ 1 16 Tryz.underlying36 hi hz0 hz1 hz2 rfl (by omega) u xs.length _ (World.ownsRow.alloc h _) ⟨w.heap.size, 0, none⟩ 1 1 [.string ⟨x.toArray⟩] rfl
    (World.news_of_block (cs := #[.string ⟨x.toArray⟩]) (t := 9) (fr := (0, 0)) (heap_alloc_new w _)) (by simp [Value.oneCell']) (by unfold maxLen; omega) (by omega) (by simp; omega)
  refine ⟨v', w', h1, ?_, h3⟩
  rw [List.length_append, List.map_append]
  exact h2

set_option maxRecDepth 100000 in
set_option maxHeartbeats 2000000 in
theorem put_props (tag anchor : Bs) (w : World) (h1 : tag.length ≤ 1000000) (h2 : anchor.length ≤ 1000000) :
    Calls Tryz.prog 59 #[.agg #[.string ⟨tag.toArray⟩, .string ⟨anchor.toArray⟩]] w fun e w' => e = .returned (.string ⟨(putP anchor tag).toArray⟩) ∧ Below w.heap.size w w' := by
  have hb1 : Below w.heap.size w (w.alloc (.cells #[.string ⟨tag.toArray⟩, .string ⟨anchor.toArray⟩] 124)) := (Below.refl _ _).alloc (Nat.le_refl _) _
  have c0 : (w.alloc (.cells #[.string ⟨tag.toArray⟩, .string ⟨anchor.toArray⟩] 124)).cell? ⟨w.heap.size, 0, none⟩ = some (.string ⟨tag.toArray⟩) := by rw [World.cell?_alloc_at _ _ _ _ rfl]; rfl
  have c1 : (w.alloc (.cells #[.string ⟨tag.toArray⟩, .string ⟨anchor.toArray⟩] 124)).cell? ⟨w.heap.size, 1, none⟩ = some (.string ⟨anchor.toArray⟩) := by rw [World.cell?_alloc_at _ _ _ _ rfl]; rfl
  have n0 : ∀ W : World, W.ownsRow w.heap.size 9 1 (.slice none 0 0) ([] : List Bs).length (([] : List Bs).map fun l => Value.string ⟨l.toArray⟩) := fun W => World.ownsRow_nil _ _ _ _
  have hsz : (w.alloc (.cells #[.string ⟨tag.toArray⟩, .string ⟨anchor.toArray⟩] 124)).heap.size = w.heap.size + 1 := by simp
  have hs1 := hb1.size
  cases ha : anchor.isEmpty with
  | true =>
    have ha0 : anchor = [] := List.isEmpty_iff.1 ha
    cases ht : tag.isEmpty with
    | true =>
      have ht0 : tag = [] := List.isEmpty_iff.1 ht
      have hV : putP anchor tag = Lib.join [] [32] := by rw [ha0, ht0]; rfl
      rw [hV]
      have cj := fun W => join_any (.slice none 0 0) w.heap.size [] [32] W (n0 W) (by simp) (by simp [Lib.join])
      clear n0 ha0 ht0 hV
      go_enter Tryz.func59, Tryz.ntmps59
      go_wp2_with fail
      refine (cj _).mono ?_
      rintro e w2 ⟨rfl, hb2⟩
      have hb3 := hb1.trans (hb2.mono hs1)
      clear cj hb2 c0 c1
      go_wp2
      go_ret
      exact ⟨rfl, hb3⟩
    | false =>
      have hV : putP anchor tag = Lib.join [tag] [32] := by rw [ha0, join_one]; simp [putP]
      rw [hV]
      obtain ⟨v', w2, happ, hr2, hg2⟩ := strs_append (n0 (w.alloc (.cells #[.string ⟨tag.toArray⟩, .string ⟨anchor.toArray⟩] 124))) tag (by simp) hs1
      rw [hsz] at happ
      have hb2 := (hb1.alloc hs1 (.cells #[.string ⟨tag.toArray⟩] 9)).grown hg2 (by simp; omega) (fun k hk => by cases hk)
      have cj := join_any v' w.heap.size [tag] [32] w2 hr2 (by simp) (by rw [join_one]; omega)
      clear n0 ha0 hV hr2 hg2
      go_enter Tryz.func59, Tryz.ntmps59
      go_wp2_with (at_builtin; refine wpList_append_run rfl _ _ 36 rfl _ _ rfl rfl _ _ happ ?_)
      refine cj.mono ?_
      rintro e w3 ⟨rfl, hb3⟩
      have hb4 := hb2.trans (hb3.mono hb2.size)
      clear cj hb2 hb3 c0 c1 happ
      go_wp2
      go_ret
      exact ⟨rfl, hb4⟩
  | false =>
    have ha1 : anchor ≠ [] := fun e => by rw [e] at ha; cases ha
    have happs : (⟨#[38]⟩ : ByteArray) ++ ⟨anchor.toArray⟩ = ⟨(38 :: anchor).toArray⟩ := by
      have := app_l [38] anchor
      simpa using this
    obtain ⟨v', w2, happ, hr2, hg2⟩ := strs_append (n0 (w.alloc (.cells #[.string ⟨tag.toArray⟩, .string ⟨anchor.toArray⟩] 124))) (38 :: anchor) (by simp) hs1
    rw [hsz] at happ
    have hbx := hb1.alloc hs1 (.cells #[.string ⟨(38 :: anchor).toArray⟩] 9)
    have hb2 := hbx.grown hg2 (by simp; omega) (fun k hk => by cases hk)
    have c0x := pw_cell ((Below.refl _ _).alloc (Nat.le_refl _) (.cells #[.string ⟨(38 :: anchor).toArray⟩] 9)) c0
    have c02 : w2.cell? ⟨w.heap.size, 0, none⟩ = some (.string ⟨tag.toArray⟩) := (hg2.cell_far ⟨w.heap.size, 0, none⟩ (by simp; omega) (by simp [Value.ownBlock])).trans c0x
    clear c0x hbx
    cases ht : tag.isEmpty with
    | true =>
      have ht0 : tag = [] := List.isEmpty_iff.1 ht
      have hV : putP anchor tag = Lib.join [38 :: anchor] [32] := by rw [ht0, join_one]; simp [putP, ha1]
      rw [hV]
      have cj := join_any v' w.heap.size [38 :: anchor] [32] w2 hr2 (by simp) (by rw [join_one]; simp; omega)
      clear n0 ha1 hV hr2 hg2 ht0
      go_enter Tryz.func59, Tryz.ntmps59
      go_wp2_with (at_builtin; refine wpList_append_run rfl _ _ 36 rfl _ _ rfl rfl _ _ happ ?_)
      refine cj.mono ?_
      rintro e w3 ⟨rfl, hb3⟩
      have hb4 := hb2.trans (hb3.mono hb2.size)
      clear cj hb2 hb3 c0 c1 happ
      go_wp2
      go_ret
      exact ⟨rfl, hb4⟩
    | false =>
      have ht1 : tag ≠ [] := fun e => by rw [e] at ht; cases ht
      have hV : putP anchor tag = Lib.join [38 :: anchor, tag] [32] := by rw [join_two]; simp [putP, ha1, ht1]
      rw [hV]
      obtain ⟨v3, w4, happ2, hr4, hg4⟩ := strs_append hr2 tag (by simp) hb2.size
      have hb4 := (hb2.alloc hb2.size (.cells #[.string ⟨tag.toArray⟩] 9)).grown hg4 (by have := hb2.size; simp; omega) (fun k hk => (World.ownsRow.lt hr2 k hk).1)
      have cj := join_any v3 w.heap.size ([38 :: anchor] ++ [tag]) [32] w4 hr4 (by simp) (by simp only [List.cons_append, List.nil_append]; rw [join_two]; simp; omega)
      clear n0 ha1 hV hr2 hg2 ht1 hr4 hg4
      go_enter Tryz.func59, Tryz.ntmps59
      go_wp2_with (first
        | (at_builtin; refine wpList_append_run rfl _ _ 36 rfl _ _ rfl rfl _ _ happ ?_)
        | (at_builtin; refine wpList_append_run rfl _ _ 36 rfl _ _ rfl rfl _ _ happ2 ?_))
      refine cj.mono ?_
      rintro e w5 ⟨rfl, hb5⟩
      have hb6 := hb4.trans (hb5.mono hb4.size)
      clear cj hb2 hb5 c0 c1 happ happ2
      go_wp2
      go_ret
      exact ⟨rfl, hb6⟩
end Go.Proofs.YtghigiapfmlkbaaGreatDoor
