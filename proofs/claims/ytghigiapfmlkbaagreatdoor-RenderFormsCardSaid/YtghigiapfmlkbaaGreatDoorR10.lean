/- render.ahead, key, props. -/
import Derived.Test.YtghigiapfmlkbaaGreatDoorR9
namespace Go.Proofs.YtghigiapfmlkbaaGreatDoor
open Go.RowKit
attribute [local go_sem ↓] Go.wp_at_zero Go.wp_at_succ

set_option maxRecDepth 100000 in
theorem ahead_any (p s : Bs) (w : World) (hp : p.length ≤ 200000000) (hs : s.length ≤ 200000000) :
    Calls Tryz.prog 58 #[.string ⟨p.toArray⟩, .string ⟨s.toArray⟩] w fun e w' => e = .returned (.string ⟨(aheadM p s).toArray⟩) ∧ w' = w := by
  cases h : p.isEmpty with
  | true =>
    have hV : aheadM p s = s := by rw [List.isEmpty_iff.1 h]; rfl
    rw [hV]
    go_enter Tryz.func58, Tryz.ntmps58
    go_wp2
    go_ret
    exact ⟨rfl, rfl⟩
  | false =>
    have h1 : p ≠ [] := fun e => by rw [e] at h; cases h
    have hV : aheadM p s = p ++ [32] ++ s := by unfold aheadM; rw [if_neg h1]
    rw [hV, ← app_l, ← app_l]
    have z1 := size_l p
    have z2 := size_l s
    go_enter Tryz.func58, Tryz.ntmps58
    go_wp2
    go_ret
    exact ⟨rfl, rfl⟩

set_option maxRecDepth 100000 in
set_option maxHeartbeats 2000000 in
theorem wkey_any (w0 w : World) (b bA bM : Nat) (vc : Value) (c : List Th) (flow : Bool) (hW : WrAt w0 w b bA bM vc c flow) (hT : Tabs w) (i : Nat) (hi : i < c.length) (_hcl : c.length ≤ 100000000) (hst : ∀ t ∈ c, t.tag.length ≤ 1000000 ∧ t.value.length ≤ 1000000) :
    Calls Tryz.prog 61 #[.pointer (some ⟨b, 0, none⟩), .int .i64 (i : Nat)] w fun e w' => e = .returned (.tuple #[.string ⟨(rkeyM c flow i).1.toArray⟩, .int .i64 (rkeyM c flow i).2]) ∧ Below w.heap.size w w' := by
  obtain ⟨t, ht⟩ : ∃ t, c[i]? = some t := ⟨_, List.getElem?_eq_getElem hi⟩
  have htd : c.getD i th0 = t := by rw [List.getD_eq_getElem?_getD, ht]; rfl
  have hs := hst t (List.mem_of_getElem? ht)
  obtain ⟨v0, v1, v2, v3⟩ := hW.cells
  obtain ⟨g, cap, A2, c2, rfl, q0, q1, q2, q3, hkr⟩ := hW.thing ht
  have hi2 : (i : Int) < c.length := by omega
  have ck := fun W (h : Tabs W) => key_any ⟨t.value.toArray⟩ flow W h (by rw [mk_size]; omega)
  rw [sl_mk] at ck
  obtain ⟨V, hV⟩ : ∃ V, rkeyM c flow i = V := ⟨_, rfl⟩
  rw [hV]
  unfold rkeyM at hV
  rw [htd] at hV
  dsimp only at hV
  generalize keyB t.value flow = K at *
  have hb1 : Below w.heap.size w (w.alloc (.cells #[.int .i64 t.kind, .string ⟨t.tag.toArray⟩, .string ⟨t.value.toArray⟩, .slice A2 t.kids.length c2] 25)) := (Below.refl _ _).alloc (Nat.le_refl _) _
  have c1 : (w.alloc (.cells #[.int .i64 t.kind, .string ⟨t.tag.toArray⟩, .string ⟨t.value.toArray⟩, .slice A2 t.kids.length c2] 25)).cell? ⟨w.heap.size, 1, none⟩ = some (.string ⟨t.tag.toArray⟩) := by rw [World.cell?_alloc_at _ _ _ _ rfl]; rfl
  have c2' : (w.alloc (.cells #[.int .i64 t.kind, .string ⟨t.tag.toArray⟩, .string ⟨t.value.toArray⟩, .slice A2 t.kids.length c2] 25)).cell? ⟨w.heap.size, 2, none⟩ = some (.string ⟨t.value.toArray⟩) := by rw [World.cell?_alloc_at _ _ _ _ rfl]; rfl
  have v3' := pw_cell hb1 v3
  have HT := Lib.hid (hT.below hb1)
  have HV := Lib.hid hV
  clear hW hT htd hV
  go_enter Tryz.func61, Tryz.ntmps61
  go_upto_region 2 with fail
  generalize w.alloc _ = w1 at hb1 c1 c2' v3' HT ⊢
  replace c1 : w1.drew.cell? ⟨w.heap.size, 1, none⟩ = some (.string ⟨t.tag.toArray⟩) := c1
  replace c2' : w1.drew.cell? ⟨w.heap.size, 2, none⟩ = some (.string ⟨t.value.toArray⟩) := c2'
  replace v3' : w1.drew.cell? ⟨b, 3, none⟩ = some (.bool flow) := v3'
  have ckd := ck w1.drew HT.out
  clear ck v0 v1 v2 v3 q0 q1 q2 q3 hkr
  go_cut [7, 8] (fun k s wx => k = .string ⟨K.1.toArray⟩ ∧ s = .bool K.2 ∧ Below w1.heap.size w1 wx)
  case first =>
    go_region_with (go_at_call 94; (with_reducible refine ckd.mono ?_); rintro _ w2 ⟨rfl, hb2⟩; dsimp only)
    all_goals
      go_wp2_with fail
      go_meet
      exact ⟨rfl, rfl, (Below.refl _ _).drew.trans hb2⟩
  case rest =>
    obtain ⟨rfl, rfl, hb2⟩ := hcut
    have hb3 := hb1.trans (hb2.mono hb1.size)
    have c1' := pw_cell hb2 c1
    clear ckd hb1 hb2 c1 c2' v3'
    cases hK : K.2 with
    | false =>
      have hV : V = ([], 11) := by rw [← HV.out, if_neg (by rw [hK]; simp)]
      subst hV
      clear HV
      go_wp2
      go_ret2
      exact ⟨rfl, hb3⟩
    | true =>
      by_cases htt : t.tag = [33, 33, 115, 116, 114]
      · have hV : V = (K.1, 0) := by rw [← HV.out, if_pos ⟨hK, htt⟩]
        rw [htt] at c1'
        subst hV
        clear HV
        go_wp2
        go_ret2
        exact ⟨rfl, hb3⟩
      · have hV : V = ([], 11) := by rw [← HV.out, if_neg (fun h => htt h.2)]
        have h1 : (t.tag == [33, 33, 115, 116, 114]) = false := by simpa using htt
        have h2 : (t.tag != [33, 33, 115, 116, 114]) = true := by simpa using htt
        subst hV
        clear HV
        go_wp2
        go_ret2
        exact ⟨rfl, hb3⟩
end Go.Proofs.YtghigiapfmlkbaaGreatDoor
