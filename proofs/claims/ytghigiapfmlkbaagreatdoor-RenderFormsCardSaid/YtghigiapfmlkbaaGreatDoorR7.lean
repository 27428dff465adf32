/- iso.right, Valid. -/
import Derived.Test.YtghigiapfmlkbaaGreatDoorR6
import Derived.Test.YtghigiapfmlkbaaGreatDoorVT
import Derived.Test.YtghigiapfmlkbaaGreatDoorD2
namespace Go.Proofs.YtghigiapfmlkbaaGreatDoor
open Go.RowKit
attribute [local go_sem ↓] Go.wp_at_zero Go.wp_at_succ

set_option maxRecDepth 100000 in
set_option maxHeartbeats 4000000 in
theorem right_any (vg vk : Value) (g : List Th) (t : Th) (w : World) (hT : Tabs w) (hg : GR w vg g) (hk : IntsR w vk t.kids) (_hl : g.length ≤ 1000000) (hkl : t.kids.length ≤ 1000000)
    (hst : ∀ t ∈ g, t.tag.length ≤ 1000000 ∧ t.value.length ≤ 1000000) (ht1 : t.tag.length ≤ 1000000) (ht2 : t.value.length ≤ 1000000) :
    Calls Tryz.prog 54 #[vg, .agg #[.int .i64 t.kind, .string ⟨t.tag.toArray⟩, .string ⟨t.value.toArray⟩, vk]] w fun e w' => e = .returned (.bool (rightM g t)) ∧ Below w.heap.size w w' := by
  obtain ⟨A, c, rfl⟩ := hg.shape
  obtain ⟨Ak, ck, rfl⟩ := hk.shape
  obtain ⟨V, hV⟩ : ∃ V, rightM g t = V := ⟨_, rfl⟩
  have cv := fun W => validTag_any t.tag W (by omega)
  have cu := fun W (h : Tabs W) => validS_any ⟨t.value.toArray⟩ W h (by rw [mk_size]; omega)
  rw [sl_mk] at cu
  have HT := Lib.hid hT
  have HG := Lib.hid hg
  have HK := Lib.hid hk
  have HS := Lib.hid hst
  rw [hV]
  clear hT hg hk hst
  go_enter Tryz.func54, Tryz.ntmps54
  go_wp2_with fail
  have c0 : (w.alloc (.cells #[.int .i64 t.kind, .string ⟨t.tag.toArray⟩, .string ⟨t.value.toArray⟩, .slice Ak t.kids.length ck] 25)).cell? ⟨w.heap.size, 0, none⟩ = some (.int .i64 t.kind) := by rw [World.cell?_alloc_at _ _ _ _ rfl]; rfl
  have c1 : (w.alloc (.cells #[.int .i64 t.kind, .string ⟨t.tag.toArray⟩, .string ⟨t.value.toArray⟩, .slice Ak t.kids.length ck] 25)).cell? ⟨w.heap.size, 1, none⟩ = some (.string ⟨t.tag.toArray⟩) := by rw [World.cell?_alloc_at _ _ _ _ rfl]; rfl
  have c2 : (w.alloc (.cells #[.int .i64 t.kind, .string ⟨t.tag.toArray⟩, .string ⟨t.value.toArray⟩, .slice Ak t.kids.length ck] 25)).cell? ⟨w.heap.size, 2, none⟩ = some (.string ⟨t.value.toArray⟩) := by rw [World.cell?_alloc_at _ _ _ _ rfl]; rfl
  have c3 : (w.alloc (.cells #[.int .i64 t.kind, .string ⟨t.tag.toArray⟩, .string ⟨t.value.toArray⟩, .slice Ak t.kids.length ck] 25)).cell? ⟨w.heap.size, 3, none⟩ = some (.slice Ak t.kids.length ck) := by rw [World.cell?_alloc_at _ _ _ _ rfl]; rfl
  have hb1 : Below w.heap.size w (w.alloc (.cells #[.int .i64 t.kind, .string ⟨t.tag.toArray⟩, .string ⟨t.value.toArray⟩, .slice Ak t.kids.length ck] 25)) := (Below.refl _ _).alloc (Nat.le_refl _) _
  generalize w.alloc _ = w1 at c0 c1 c2 c3 hb1 ⊢
  refine (cv w1).mono ?_
  rintro e w2 ⟨rfl, hb2⟩
  replace c0 := pw_cell hb2 c0
  replace c1 := pw_cell hb2 c1
  replace c2 := pw_cell hb2 c2
  replace c3 := pw_cell hb2 c3
  replace hb2 := bthen hb1 hb2
  clear hb1 cv
  cases hv : validTagB t.tag with
  | false =>
    have hVf : V = false := by
      rw [← hV]
      unfold rightM
      rw [if_pos (.inl (by rw [hv]; simp))]
    clear hV
    subst hVf
    go_wp2
    go_ret
    exact ⟨rfl, hb2⟩
  | true =>
  by_cases h33 : t.tag = [33]
  · have hVf : V = false := by
      rw [← hV]
      unfold rightM
      rw [if_pos (.inr h33)]
    clear hV
    subst hVf
    rw [h33] at c1
    go_wp2
    go_ret
    exact ⟨rfl, hb2⟩
  · have h33b : (t.tag == [33]) = false := by simpa using h33
    have HV : Hid (V = if ¬ t.kids.all (fun k => decide (k < g.length)) then false
      else if t.kind = 1 then t.kids.length == 0 && utfB t.value
      else if t.kind = 2 then t.value == []
      else if t.kind = 3 then t.value == [] && keyedM g t.kids
      else false) := Lib.hid (by
        rw [← hV]
        unfold rightM
        rw [if_neg (by rw [hv]; simpa using h33)])
    clear hV
    go_wp2_with fail
    go_loopw [19] (fun i wr => ∃ k : Nat, i = .int .i64 k ∧ k ≤ t.kids.length ∧ wr = w2 ∧ (t.kids.take k).all (fun k => decide (k < g.length)) = true) (fun i _ => t.kids.length - (intOf i).toNat)
    case atStart => exact ⟨0, rfl, Nat.zero_le _, rfl, rfl⟩
    case round =>
      obtain ⟨k, rfl, hk, rfl, hall⟩ := hrel
      by_cases hlt : k < t.kids.length
      · rcases HK.out.below hb2 with ⟨h0, _⟩ | ⟨g6, o6, c6, hv6, hkc⟩
        · rw [h0] at hlt; simp at hlt
        · simp only [Value.slice.injEq] at hv6
          obtain ⟨rfl, _, rfl⟩ := hv6
          have hcell := hkc k hlt
          have HTK : Hid (t.kids.take (k + 1) = t.kids.take k ++ [t.kids.getD k 0]) := Lib.hid (by
            rw [List.take_succ_eq_append_getElem hlt]
            simp [List.getD_eq_getElem?_getD, List.getElem?_eq_getElem hlt])
          have HIN : Hid (t.kids.getD k 0 ∈ t.kids) := Lib.hid (by rw [List.getD_eq_getElem?_getD, List.getElem?_eq_getElem hlt]; exact List.getElem_mem hlt)
          have hk2 : (k : Int) < t.kids.length := by omega
          clear hkc
          generalize t.kids.getD k 0 = kid at *
          have hk0 : decide ((kid : Int) < 0) = false := by simp
          have HALL := Lib.hid hall
          clear hall
          by_cases hin : kid < g.length
          · have hkb : decide ((g.length : Int) ≤ kid) = false := by simp; omega
            go_wp2
            go_roundw
            case rel => exact ⟨k + 1, by go_num, by omega, trivial, by rw [HTK.out, List.all_append, HALL.out]; simp [hin]⟩
            case measure => simp [intOf]; omega
          · have hkb : decide ((g.length : Int) ≤ kid) = true := by simp; omega
            have hVf : V = false := by
              rw [HV.out, if_pos]
              intro h
              rw [List.all_eq_true] at h
              have := h kid HIN.out
              simp at this
              omega
            clear HV
            subst hVf
            go_wp2
            go_ret
            exact ⟨rfl, hb2⟩
      · have hke : k = t.kids.length := by omega
        subst hke
        rw [List.take_length] at hall
        have HV2 : Hid (V = if t.kind = 1 then t.kids.length == 0 && utfB t.value
          else if t.kind = 2 then t.value == []
          else if t.kind = 3 then t.value == [] && keyedM g t.kids
          else false) := Lib.hid (by rw [HV.out, if_neg (by rw [hall]; simp)])
        have hem : (t.value == []) = t.value.isEmpty := by cases t.value <;> rfl
        rw [hem] at HV2
        clear hem
        have hkl2 : ∀ k ∈ t.kids, k < g.length := fun k hk => by
          have := List.all_eq_true.1 hall k hk
          simpa using this
        have ck := keyed_any _ _ g t.kids wr (HG.out.below hb2) (HK.out.below hb2) hkl2 hkl HS.out
        have cu2 := cu wr (HT.out.below hb2)
        clear HV hall hkl2 hlt hk cu
        by_cases k1 : t.kind = 1
        · have kb1 : ((t.kind : Int) == 1) = true := by rw [k1]; rfl
          rw [if_pos k1] at HV2
          clear k1 ck
          by_cases hl0 : t.kids.length = 0
          · have hlb : ((t.kids.length : Int) == 0) = true := by rw [hl0]; rfl
            have hVu : V = utfB t.value := by rw [HV2.out, hl0]; rfl
            clear HV2
            go_wp2_with fail
            refine cu2.mono ?_
            rintro e w3 ⟨rfl, hb3⟩
            have hb3 := bthen hb2 hb3
            subst hVu
            go_wp2
            go_ret
            exact ⟨rfl, hb3⟩
          · have hlb : ((t.kids.length : Int) == 0) = false := by rw [beq_eq_false_iff_ne]; omega
            have hVu : V = false := by rw [HV2.out]; simp [hl0]
            clear HV2 cu2
            subst hVu
            go_wp2
            go_ret
            exact ⟨rfl, hb2⟩
        · have kb1 : ((t.kind : Int) == 1) = false := by simp; omega
          rw [if_neg k1] at HV2
          clear cu2
          by_cases k2 : t.kind = 2
          · have kb2 : ((t.kind : Int) == 2) = true := by rw [k2]; rfl
            rw [if_pos k2] at HV2
            have hVu := HV2.out
            clear HV2 k1 k2 ck
            subst hVu
            go_wp2
            go_ret
            exact ⟨rfl, hb2⟩
          · have kb2 : ((t.kind : Int) == 2) = false := by simp; omega
            rw [if_neg k2] at HV2
            by_cases k3 : t.kind = 3
            · have kb3 : ((t.kind : Int) == 3) = true := by rw [k3]; rfl
              rw [if_pos k3] at HV2
              clear k1 k2 k3
              cases hve : t.value.isEmpty with
              | true =>
                rw [hve, Bool.true_and] at HV2
                have hVu := HV2.out
                clear HV2
                go_wp2_with fail
                refine ck.mono ?_
                rintro e w3 ⟨rfl, hb3⟩
                have hb3 := bthen hb2 hb3
                subst hVu
                go_wp2
                go_ret
                exact ⟨rfl, hb3⟩
              | false =>
                rw [hve, Bool.false_and] at HV2
                have hVu := HV2.out
                clear HV2 ck
                subst hVu
                go_wp2
                go_ret
                exact ⟨rfl, hb2⟩
            · have kb3 : ((t.kind : Int) == 3) = false := by simp; omega
              rw [if_neg k3] at HV2
              have hVu := HV2.out
              clear HV2 ck k1 k2 k3
              subst hVu
              go_wp2
              go_ret
              exact ⟨rfl, hb2⟩

set_option maxRecDepth 100000 in
set_option maxHeartbeats 4000000 in
/-- The closure of Valid, at a thing. -/
theorem valid1_any (bP : Nat) (vg vk : Value) (g : List Th) (t : Th) (w : World) (hT : Tabs w) (hp : w.cell? ⟨bP, 0, none⟩ = some vg) (hg : GR w vg g) (hk : IntsR w vk t.kids) (hl : g.length ≤ 1000000) (hkl : t.kids.length ≤ 1000000)
    (hst : ∀ t ∈ g, t.tag.length ≤ 1000000 ∧ t.value.length ≤ 1000000) (ht1 : t.tag.length ≤ 1000000) (ht2 : t.value.length ≤ 1000000) :
    Calls Tryz.prog 53 #[.agg #[.int .i64 t.kind, .string ⟨t.tag.toArray⟩, .string ⟨t.value.toArray⟩, vk], .pointer (some ⟨bP, 0, none⟩)] w fun e w' => e = .returned (.bool (!rightM g t)) ∧ Below w.heap.size w w' := by
  have cr := fun W (h : Below w.heap.size w W) => right_any vg vk g t W (hT.below h) (hg.below h) (hk.below h) hl hkl hst ht1 ht2
  obtain ⟨A, c, rfl⟩ := hg.shape
  obtain ⟨Ak, ck, rfl⟩ := hk.shape
  generalize rightM g t = V at *
  have hb1 : Below w.heap.size w (w.alloc (.cells #[.int .i64 t.kind, .string ⟨t.tag.toArray⟩, .string ⟨t.value.toArray⟩, .slice Ak t.kids.length ck] 25)) := (Below.refl _ _).alloc (Nat.le_refl _) _
  have hp1 := pw_cell hb1 hp
  have cr1 := cr _ hb1
  clear hT hg hk hst hp cr
  go_enter Tryz.func53, Tryz.ntmps53
  go_wp2_with fail
  refine cr1.mono ?_
  rintro e w2 ⟨rfl, hb2⟩
  have hb3 := hb1.trans (hb2.mono hb1.size)
  clear cr1 hp1 hb1 hb2
  go_wp2
  go_ret
  exact ⟨rfl, hb3⟩

set_option maxRecDepth 100000 in
set_option maxHeartbeats 4000000 in
theorem index_any (bP : Nat) (vg : Value) (g : List Th) (w : World) (hT : Tabs w) (hp : w.cell? ⟨bP, 0, none⟩ = some vg) (hg : GR w vg g) (hl : g.length ≤ 1000000) (hkl : kidsSum g ≤ 1000000)
    (hst : ∀ t ∈ g, t.tag.length ≤ 1000000 ∧ t.value.length ≤ 1000000) :
    Calls Tryz.prog 82 #[vg, .func (.func 53) #[] #[.pointer (some ⟨bP, 0, none⟩)]] w fun e w' => ∃ n : Int, e = .returned (.int .i64 n) ∧ decide (0 ≤ n) = !g.all (rightM g) ∧ Below w.heap.size w w' := by
  have cr : ∀ (i : Nat) (t : Th) (vk : Value) (W : World), g[i]? = some t → Below w.heap.size w W → IntsR W vk t.kids → Calls Tryz.prog 53 #[.agg #[.int .i64 t.kind, .string ⟨t.tag.toArray⟩, .string ⟨t.value.toArray⟩, vk], .pointer (some ⟨bP, 0, none⟩)] W fun e w' => e = .returned (.bool (!rightM g t)) ∧ Below W.heap.size W w' :=
    fun i t vk W ht hb hk => by
      have hs := hst t (List.mem_of_getElem? ht)
      have := kids_le ht
      exact valid1_any bP vg vk g t W (hT.below hb) (pw_cell hb hp) (hg.below hb) hk hl (by omega) hst hs.1 hs.2
  have CR := Lib.hid cr
  have HG := Lib.hid hg
  obtain ⟨A, c, rfl⟩ := hg.shape
  obtain ⟨V, hV⟩ : ∃ V, g.all (rightM g) = V := ⟨_, rfl⟩
  have HV := Lib.hid hV
  rw [hV]
  clear hT hp hg hst cr hV
  go_enter Tryz.func82, Tryz.ntmps82
  go_wp2_with fail
  go_loopw [8] (fun i wr => ∃ k : Nat, i = .int .i64 k ∧ k ≤ g.length ∧ (g.take k).all (rightM g) = true ∧ Below w.heap.size w wr) (fun i _ => g.length - (intOf i).toNat)
  case atStart => exact ⟨0, rfl, Nat.zero_le _, rfl, Below.refl _ _⟩
  case round =>
    obtain ⟨k, rfl, hk, hall, hb⟩ := hrel
    by_cases hlt : k < g.length
    · obtain ⟨t, ht⟩ : ∃ t, g[k]? = some t := ⟨_, List.getElem?_eq_getElem hlt⟩
      have HTK : Hid (g.take (k + 1) = g.take k ++ [t]) := Lib.hid (by
        rw [List.take_succ_eq_append_getElem hlt, (List.getElem?_eq_some_iff.1 ht).2])
      have HIN := Lib.hid (List.mem_of_getElem? ht)
      rcases HG.out.below hb with ⟨h0, _⟩ | ⟨bg, cb, hv, hcb, htr⟩
      · rw [h0] at hlt; simp at hlt
      · cases hv
        obtain ⟨kv, hcl, hkr⟩ := htr k t ht
        obtain ⟨A2, c2, rfl⟩ := hkr.shape
        have q0 : wr.cell? ⟨bg, k * 4, none⟩ = some (.int .i64 t.kind) := hcl 0 (by omega)
        have q1 : wr.cell? ⟨bg, k * 4 + 1, none⟩ = some (.string ⟨t.tag.toArray⟩) := hcl 1 (by omega)
        have q2 : wr.cell? ⟨bg, k * 4 + 2, none⟩ = some (.string ⟨t.value.toArray⟩) := hcl 2 (by omega)
        have q3 : wr.cell? ⟨bg, k * 4 + 3, none⟩ = some (.slice A2 t.kids.length c2) := hcl 3 (by omega)
        have cr1 := CR.out k t _ wr ht hb hkr
        have hk2 : (k : Int) < g.length := by omega
        have HALL := Lib.hid hall
        clear htr hcl hkr hall
        go_wp2_with fail
        refine cr1.mono ?_
        rintro e w2 ⟨rfl, hb2⟩
        have hb3 := hb.trans (hb2.mono hb.size)
        clear cr1 hb2 q0 q1 q2 q3
        cases hr : rightM g t with
        | true =>
          have hall2 : (g.take (k + 1)).all (rightM g) = true := by
            rw [HTK.out, List.all_append, HALL.out, List.all_cons, hr]
            rfl
          have HALL2 := Lib.hid hall2
          clear hall2 hr
          go_wp2
          go_roundw
          case rel => exact ⟨k + 1, by go_num, by omega, HALL2.out, hb3⟩
          case measure => simp [intOf]; omega
        | false =>
          have hVf : V = false := by
            rw [← HV.out, List.all_eq_false]
            exact ⟨t, HIN.out, by rw [hr]; simp⟩
          clear HV hr
          subst hVf
          go_wp2
          go_ret
          exact ⟨k, rfl, by simp, hb3⟩
    · have hge : (g.length : Int) ≤ k := by omega
      have hVt : V = true := by
        rw [← HV.out, ← hall, List.take_of_length_le (by omega)]
      clear HV hall
      subst hVt
      go_wp2
      go_ret
      exact ⟨-1, rfl, by decide, hb⟩

set_option maxRecDepth 100000 in
set_option maxHeartbeats 4000000 in
theorem isoValid_any (vg : Value) (g : List Th) (w : World) (hT : Tabs w) (hg : GR w vg g) (hl : g.length ≤ 1000000) (hkl : kidsSum g ≤ 1000000)
    (hst : ∀ t ∈ g, t.tag.length ≤ 1000000 ∧ t.value.length ≤ 1000000) :
    Calls Tryz.prog 27 #[vg] w fun e w' => e = .returned (.bool (validM g)) ∧ Below w.heap.size w w' := by
  have hmf : ∀ (fn : Fn) (first cap : Array Value) (w : World), (Instr.makeFunc fn first cap).run Tryz.prog w = .ok (.func fn first cap) w := fun _ _ _ _ => rfl
  have ci : ∀ (W : World), Below w.heap.size w W → ∀ bP, W.cell? ⟨bP, 0, none⟩ = some vg → Calls Tryz.prog 52 #[vg, .func (.func 53) #[] #[.pointer (some ⟨bP, 0, none⟩)]] W fun e w' => e = .returned (.bool (!g.all (rightM g))) ∧ Below W.heap.size W w' := fun W hb bP hp => by
    have c1 := index_any bP vg g W (hT.below hb) hp (hg.below hb) hl hkl hst
    clear hmf
    obtain ⟨A, c, rfl⟩ := hg.shape
    generalize (!g.all (rightM g)) = V at *
    clear hT hg hst hp
    go_enter Tryz.func52, Tryz.ntmps52
    go_wp2_with fail
    refine c1.mono ?_
    rintro e w2 ⟨n, rfl, hn, hb2⟩
    clear c1
    go_wp2
    go_ret
    exact ⟨by simp, hb2⟩
  obtain ⟨V, hV⟩ : ∃ V, validM g = V := ⟨_, rfl⟩
  rw [hV]
  obtain ⟨A, c, rfl⟩ := hg.shape
  have hb1 : Below w.heap.size w (w.alloc (.cells #[.slice A g.length c] 28)) := (Below.refl _ _).alloc (Nat.le_refl _) _
  have hc1 : (w.alloc (.cells #[.slice A g.length c] 28)).cell? ⟨w.heap.size, 0, none⟩ = some (.slice A g.length c) := by rw [World.cell?_alloc_at _ _ _ _ rfl]; rfl
  have ci1 := ci _ hb1 w.heap.size hc1
  have HV : Hid (V = (decide (0 < g.length) && g.all (rightM g))) := Lib.hid hV.symm
  generalize g.all (rightM g) = U at *
  clear hV hT hg hst ci
  by_cases h0 : 0 < g.length
  · have h0b : decide ((0 : Int) < g.length) = true := by simp; omega
    have hVU : V = U := by rw [HV.out, decide_eq_true h0]; rfl
    clear HV
    subst hVU
    go_enter Tryz.func27, Tryz.ntmps27
    go_wp2_with fail
    refine ci1.mono ?_
    rintro e w2 ⟨rfl, hb2⟩
    have hb3 := hb1.trans (hb2.mono hb1.size)
    clear ci1 hb2 hc1
    go_wp2
    go_ret
    exact ⟨by simp, hb3⟩
  · have h0b : decide ((0 : Int) < g.length) = false := decide_eq_false (by omega)
    have hVU : V = false := by rw [HV.out, decide_eq_false h0]; rfl
    clear HV ci1
    subst hVU
    go_enter Tryz.func27, Tryz.ntmps27
    go_wp2_with fail
    go_ret
    exact ⟨rfl, hb1⟩
end Go.Proofs.YtghigiapfmlkbaaGreatDoor
