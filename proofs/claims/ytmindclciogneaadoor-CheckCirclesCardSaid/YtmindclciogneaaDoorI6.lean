/- What inline.Tag does. -/
import Derived.Test.YtmindclciogneaaDoorI5
namespace Go.Proofs.YtmindclciogneaaDoor
open Go.RowKit

/-- A tag that is nothing, or a sign alone. -/
theorem tag_bare (kind style : Int) (tag value : Bs) (w : World) (hv : kind = 1 → style = 1 → value.length ≤ 1000000000) (ht : tag = [] ∨ tag = [33]) :
    Calls Tryd.prog 121 #[.int .i64 kind, .int .i64 style, .string ⟨tag.toArray⟩, .string ⟨value.toArray⟩] w fun e w' => e = .returned (.string ⟨(tagB kind style tag value).toArray⟩) ∧ Below w.heap.size w w' := by
  have cr := fun h1 h2 => resolve_any ⟨value.toArray⟩ w (by rw [mk_size]; have := hv h1 h2; omega)
  rw [sl_mk] at cr
  clear hv
  obtain ⟨V, hV⟩ : ∃ V, tagB kind style tag value = V := ⟨_, rfl⟩
  rw [hV]
  have HV : Hid ((if kind = 2 then [33, 33, 115, 101, 113] else if kind = 3 then [33, 33, 109, 97, 112] else if kind = 4 then [] else if kind = 0 && tag.isEmpty then tagNull else if kind = 1 && style = 1 && tag.isEmpty then resolveB value else tagStr) = V) := Lib.hid (by
    rw [← hV, tagB]
    rcases ht with rfl | rfl <;> rfl)
  clear hV
  generalize resolveB value = R at *
  by_cases h2 : kind = 2
  · subst h2
    have HF : Hid (V = [33, 33, 115, 101, 113]) := Lib.hid HV.out.symm
    clear HV cr
    rcases ht with rfl | rfl
    all_goals
      go_enter Tryd.func121, Tryd.ntmps121
      go_wp2
      go_ret
      exact ⟨by rw [HF.out]; rfl, Below.refl _ _⟩
  · by_cases h3 : kind = 3
    · subst h3
      have HF : Hid (V = [33, 33, 109, 97, 112]) := Lib.hid HV.out.symm
      clear HV cr
      rcases ht with rfl | rfl
      all_goals
        go_enter Tryd.func121, Tryd.ntmps121
        go_wp2
        go_ret
        exact ⟨by rw [HF.out]; rfl, Below.refl _ _⟩
    · by_cases h4 : kind = 4
      · subst h4
        have HF : Hid (V = []) := Lib.hid HV.out.symm
        clear HV cr
        rcases ht with rfl | rfl
        all_goals
          go_enter Tryd.func121, Tryd.ntmps121
          go_wp2
          go_ret
          exact ⟨by rw [HF.out]; rfl, Below.refl _ _⟩
      · by_cases h0 : kind = 0
        · subst h0
          have HF : Hid (V = if tag.isEmpty then tagNull else tagStr) := Lib.hid (by
            rw [← HV.out]
            cases tag.isEmpty <;> rfl)
          clear HV cr h2 h3 h4
          rcases ht with rfl | rfl
          all_goals
            go_enter Tryd.func121, Tryd.ntmps121
            go_wp2
            go_ret
            exact ⟨by rw [HF.out]; rfl, Below.refl _ _⟩
        · have e2 : (kind == 2) = false := by simpa using h2
          have e3 : (kind == 3) = false := by simpa using h3
          have e4 : (kind == 4) = false := by simpa using h4
          have e0 : (kind == 0) = false := by simpa using h0
          by_cases h1 : kind = 1
          · subst h1
            clear h2 h3 h4 h0 e2 e3 e4 e0
            by_cases hs : style = 1
            · subst hs
              replace cr := cr rfl rfl

              have HF : Hid (V = if tag.isEmpty then R else tagStr) := Lib.hid (by
                rw [← HV.out]
                cases tag.isEmpty <;> rfl)
              clear HV
              rcases ht with rfl | rfl
              · go_enter Tryd.func121, Tryd.ntmps121
                go_wp2_with fail
                refine cr.mono ?_
                rintro e w1 ⟨rfl, hb⟩
                go_wp2
                go_ret
                exact ⟨by rw [HF.out]; rfl, hb⟩
              · go_enter Tryd.func121, Tryd.ntmps121
                go_wp2
                go_ret
                exact ⟨by rw [HF.out]; rfl, Below.refl _ _⟩
            · have es : (style == 1) = false := by simpa using hs
              have HF : Hid (V = tagStr) := Lib.hid (by
                rw [← HV.out]
                simp [hs])
              clear HV cr hs
              rcases ht with rfl | rfl
              all_goals
                go_enter Tryd.func121, Tryd.ntmps121
                go_wp2
                go_ret
                exact ⟨by rw [HF.out]; rfl, Below.refl _ _⟩
          · have e1 : (kind == 1) = false := by simpa using h1
            have HF : Hid (V = tagStr) := Lib.hid (by
              rw [← HV.out]
              simp [h0, h1, h2, h3, h4])
            clear HV cr h0 h1 h2 h3 h4
            rcases ht with rfl | rfl
            all_goals
              go_enter Tryd.func121, Tryd.ntmps121
              go_wp2
              go_ret
              exact ⟨by rw [HF.out]; rfl, Below.refl _ _⟩

theorem tag_any (kind style : Int) (tag value : Bs) (w : World) (hv : kind = 1 → style = 1 → value.length ≤ 1000000000) :
    Calls Tryd.prog 121 #[.int .i64 kind, .int .i64 style, .string ⟨tag.toArray⟩, .string ⟨value.toArray⟩] w fun e w' => e = .returned (.string ⟨(tagB kind style tag value).toArray⟩) ∧ Below w.heap.size w w' := by
  by_cases ht : tag = [] ∨ tag = [33]
  · exact tag_bare kind style tag value w hv ht
  · have hV : tagB kind style tag value = tag := by
      unfold tagB
      rw [if_pos]
      simpa using ht
    rw [hV]
    have h1 : tag.isEmpty = false := by simpa using fun e => ht (.inl e)
    have h2 : (tag == [33]) = false := by simpa using fun e => ht (.inr e)
    have h3 := empties tag
    rw [h1] at h3
    have h4 : ((⟨tag.toArray⟩ : ByteArray).toList == [33]) = false := by rw [Lib.toList_data]; exact h2
    clear hV ht
    go_enter Tryd.func121, Tryd.ntmps121
    go_wp2
    go_ret
    exact ⟨rfl, Below.refl _ _⟩
end Go.Proofs.YtmindclciogneaaDoor
