/- schema.Float, Resolve. -/
import Derived.Test.YtghigiapfmlkbaaGreatDoorC6
namespace Go.Proofs.YtghigiapfmlkbaaGreatDoor
open Go.RowKit

set_option maxRecDepth 100000 in
set_option maxHeartbeats 20000000 in
theorem float_any (s : ByteArray) (w : World) (hs : s.size ≤ 140737488351232) :
    Calls Tryz.prog 137 #[.string s] w fun e w' => e = .returned (.bool (floatB (sl s))) ∧ Below w.heap.size w w' := by
  obtain ⟨l, hl⟩ : ∃ l, sl s = l := ⟨_, rfl⟩
  have hln : l.length ≤ 140737488351232 := by rw [← hl, sl_len]; exact hs
  have c1 := contains_lit [[46, 110, 97, 110], [46, 78, 97, 78], [46, 78, 65, 78]] s w (by simp)
  have c2 := fun W => unsign_any s W
  have c3 := fun W => contains_lit [[46, 105, 110, 102], [46, 73, 110, 102], [46, 73, 78, 70]] ⟨(unsignB l).toArray⟩ W (by simp)
  have c4 := fun W => runL (unsignB l) decs (by have := unsign_le l; omega) (by decide) decs_ascii W
  have c5 := fun W => Tryz.strings_CutPrefix ⟨(cutB (unsignB l) decs).toArray⟩ ⟨#[46]⟩ W
  have c6 := fun W => runL (Lib.trimPrefix (cutB (unsignB l) decs) [46]) decs (by have := unsign_le l; have := cutB_le (unsignB l) decs; have := trim_le (cutB (unsignB l) decs) [46]; omega) (by decide) decs_ascii W
  have hF : floatB l = if ([[46, 110, 97, 110], [46, 78, 97, 78], [46, 78, 65, 78]] : List Bs).contains l then true else if ([[46, 105, 110, 102], [46, 73, 110, 102], [46, 73, 78, 70]] : List Bs).contains (unsignB l) then true else
      if Lib.hasPrefix (cutB (unsignB l) decs) [46] then floatTail (((unsignB l).length - (cutB (unsignB l) decs).length) + ((Lib.trimPrefix (cutB (unsignB l) decs) [46]).length - (cutB (Lib.trimPrefix (cutB (unsignB l) decs) [46]) decs).length)) (cutB (Lib.trimPrefix (cutB (unsignB l) decs) [46]) decs)
      else floatTail ((unsignB l).length - (cutB (unsignB l) decs).length) (cutB (unsignB l) decs) := rfl
  simp only at c5
  rw [sl_mk (unsignB l)] at c3
  rw [hl] at c1 c2 ⊢
  rw [hF]
  clear hF
  have hb1 := unsign_le l
  have hb2 := cutB_le (unsignB l) decs
  have hb3 := trim_le (cutB (unsignB l) decs) [46]
  have hb4 := cutB_le (Lib.trimPrefix (cutB (unsignB l) decs) [46]) decs
  generalize ([[46, 110, 97, 110], [46, 78, 97, 78], [46, 78, 65, 78]] : List Bs).contains l = R1 at *
  generalize ([[46, 105, 110, 102], [46, 73, 110, 102], [46, 73, 78, 70]] : List Bs).contains (unsignB l) = R2 at *
  generalize Lib.hasPrefix (cutB (unsignB l) decs) [46] = pt at *
  generalize cutB (Lib.trimPrefix (cutB (unsignB l) decs) [46]) decs = q2 at *
  generalize Lib.trimPrefix (cutB (unsignB l) decs) [46] = q1 at *
  generalize cutB (unsignB l) decs = q0 at *
  generalize unsignB l = u at *
  unfold decs at c4 c6
  have n0 : (u.length - q0.length : Nat) ≤ 140737488351232 := by omega
  have n1 : (q1.length - q2.length : Nat) ≤ 140737488351232 := by omega
  have hq0 : q0.length ≤ 140737488351232 := by omega
  have hq2 : q2.length ≤ 140737488351232 := by omega
  generalize u.length - q0.length = N0 at *
  generalize q1.length - q2.length = N1 at *
  clear hb1 hb2 hb3 hb4 hl
  have a1 : Below w.heap.size w (w.alloc (.cells (([[46, 110, 97, 110], [46, 78, 97, 78], [46, 78, 65, 78]] : List Bs).map fun z => Value.string ⟨z.toArray⟩).toArray 9)) := (Below.refl _ _).alloc (Nat.le_refl _) _
  obtain ⟨V, hV⟩ : ∃ V, (if R1 = true then true else if R2 = true then true else if pt = true then floatTail (N0 + N1) q2 else floatTail N0 q0) = V := ⟨_, rfl⟩
  rw [hV]
  have HV := Lib.hid hV
  clear hV
  cases R1
  case true =>
    have HF : Hid (V = true) := Lib.hid (by rw [← HV.out]; simp)
    clear HV
    go_enter Tryz.func137, Tryz.ntmps137
    go_wp2_with fail
    refine c1.mono ?_
    rintro e w1 ⟨rfl, hw1⟩
    rw [← hw1] at a1
    clear hw1
    go_wp2
    go_ret
    exact ⟨ret_bool (by rw [HF.out]), a1⟩
  case false =>
    go_enter Tryz.func137, Tryz.ntmps137
    go_wp2_with fail
    refine c1.mono ?_
    rintro e w1 ⟨rfl, hw1⟩
    rw [← hw1] at a1
    clear hw1 c1
    go_wp2_with (go_at_call 176; refine (c2 _).mono ?_; rintro e w' ⟨rfl, rfl⟩)
    have a2 : Below w1.heap.size w1 (w1.alloc (.cells (([[46, 105, 110, 102], [46, 73, 110, 102], [46, 73, 78, 70]] : List Bs).map fun z => Value.string ⟨z.toArray⟩).toArray 9)) := (Below.refl _ _).alloc (Nat.le_refl _) _
    refine (c3 _).mono ?_
    rintro e w2 ⟨rfl, hw2⟩
    rw [← hw2] at a2
    have a3 := bthen a1 a2
    clear hw2 c3 c2 a1 a2
    cases R2
    case true =>
      have HF : Hid (V = true) := Lib.hid (by rw [← HV.out]; simp)
      clear HV
      go_wp2
      go_ret
      exact ⟨ret_bool (by rw [HF.out]), a3⟩
    case false =>
      go_wp2_with fail
      refine (c4 _).mono ?_
      rintro e w3 ⟨rfl, hb4⟩
      have a4 := bthen a3 hb4
      clear c4 hb4 a3
      go_wp2_with fail
      refine (c5 _).mono ?_
      rintro e w4 ⟨rfl, rfl⟩
      clear c5
      cases pt
      case false =>
        clear c6
        have hem := sl_empty ⟨q0.toArray⟩
        rw [sl_mk] at hem
        have HT := Lib.hid (show V = floatTail (N0) q0 from by rw [← HV.out]; simp)
        clear HV
        by_cases hn0 : N0 = 0
        · have HF : Hid (V = false) := Lib.hid (by rw [HT.out]; unfold floatTail; split <;> simp [hn0])
          have hn0' : (((N0 : Nat) : Int) == 0) = true := by simp; omega
          have hng : decide ((0 : Int) < (N0 : Nat)) = false := by simp; omega
          try simp only [Int.natCast_add] at hn0' hng
          clear hn0 HT
          go_wp2
          go_ret
          exact ⟨ret_bool (by first | (rw [HF.out]; done) | (rw [HF.out]; simpa using hng)), a4⟩
        · have hn0' : (((N0 : Nat) : Int) == 0) = false := by simp; omega
          have hng : decide ((0 : Int) < (N0 : Nat)) = true := by simp; omega
          try simp only [Int.natCast_add] at hn0' hng
          rcases (show q0 = [] ∨ ∃ x t, q0 = x :: t by cases q0 <;> simp) with hql | ⟨x, t, hql⟩
          · have hem1 : (⟨q0.toArray⟩ : ByteArray).toList.isEmpty = true := by rw [hem, hql]; rfl
            have hem2 : q0.isEmpty = true := by rw [hql]; rfl
            clear hem
            have HF : Hid (V = true) := Lib.hid (by rw [HT.out, hql]; simp [floatTail] <;> omega)
            clear hn0 hql HT
            go_wp2
            go_ret
            exact ⟨ret_bool (by first | (rw [HF.out]; done) | (rw [HF.out]; simpa using hng)), a4⟩
          · have hem1 : (⟨q0.toArray⟩ : ByteArray).toList.isEmpty = false := by rw [hem, hql]; rfl
            have hem2 : q0.isEmpty = false := by rw [hql]; rfl
            clear hem
            have HF : Hid (V = ((((x.toNat : Int) == 101) || ((x.toNat : Int) == 69)) && allB (unsignB t) decs)) := Lib.hid (by
              rw [HT.out, hql]
              simp only [floatTail]
              rw [show decide (0 < N0) = true from decide_eq_true (by omega), Bool.true_and]
              congr 1
              rw [Bool.eq_iff_iff]
              simp
              omega)
            have hx : ∀ h : 0 < (⟨q0.toArray⟩ : ByteArray).size, (((⟨q0.toArray⟩ : ByteArray)[0]'h).toNat : Int) = (x.toNat : Int) := fun h => by
              rw [sl_get _ 0 h, sl_mk, hql]
              rfl
            have hex : (⟨q0.toArray⟩ : ByteArray).extract 1 q0.length = ⟨t.toArray⟩ := by
              have := str_from ⟨q0.toArray⟩ 1
              rw [sl_mk, mk_size] at this
              rw [this, hql]
              rfl
            have hlen : 0 < q0.length := by rw [hql]; simp
            have htl : t.length ≤ 140737488351232 := by
              have : q0.length = t.length + 1 := by rw [hql]; simp
              omega
            have c8 := fun W => unsignL t W
            have c9 := fun W => allL (unsignB t) decs (by have := unsign_le t; omega) (by decide) decs_ascii W
            clear hn0 hql HT
            unfold decs at c9
            generalize (x.toNat : Int) = X at *
            have HF2 : Hid (V = (((X == 101) || (X == 69)) && allB (unsignB t) decs)) := HF
            unfold decs at HF2
            clear HF
            generalize allB (unsignB t) [48, 49, 50, 51, 52, 53, 54, 55, 56, 57] = b9 at *
            generalize unsignB t = t2 at *
            by_cases h101 : X = 101
            · subst h101
              go_wp2_with (first | (go_at_call 176; refine (c8 _).mono ?_; rintro e w' ⟨rfl, rfl⟩) | (go_at_call 175; (with_reducible refine (c9 _).mono ?_); rintro e w' ⟨rfl, hb9⟩))
              go_ret
              exact ⟨ret_bool (by rw [HF2.out]; simp), bthen a4 hb9⟩
            · have h101' : (X == 101) = false := by simpa using h101
              by_cases h69 : X = 69
              · subst h69
                go_wp2_with (first | (go_at_call 176; refine (c8 _).mono ?_; rintro e w' ⟨rfl, rfl⟩) | (go_at_call 175; (with_reducible refine (c9 _).mono ?_); rintro e w' ⟨rfl, hb9⟩))
                go_ret
                exact ⟨ret_bool (by rw [HF2.out]; simp), bthen a4 hb9⟩
              · have h69' : (X == 69) = false := by simpa using h69
                go_wp2
                go_ret
                exact ⟨ret_bool (by rw [HF2.out, h101', h69']; simp), a4⟩
      case true =>
        go_wp2_with fail
        refine (c6 _).mono ?_
        rintro e w5 ⟨rfl, hb6⟩
        have a6 := bthen a4 hb6
        clear c6 a4 hb6
        have hem := sl_empty ⟨q2.toArray⟩
        rw [sl_mk] at hem
        have HT := Lib.hid (show V = floatTail ((N0 + N1)) q2 from by rw [← HV.out]; simp)
        clear HV
        by_cases hn0 : (N0 + N1) = 0
        · have HF : Hid (V = false) := Lib.hid (by rw [HT.out]; unfold floatTail; split <;> simp [hn0])
          have hn0' : ((((N0 + N1) : Nat) : Int) == 0) = true := by (rw [Bool.eq_iff_iff]; simp <;> omega)
          have hng : decide ((0 : Int) < ((N0 + N1) : Nat)) = false := by (rw [Bool.eq_iff_iff]; simp <;> omega)
          try simp only [Int.natCast_add] at hn0' hng
          clear hn0 HT
          go_wp2
          go_ret
          exact ⟨ret_bool (by first | (rw [HF.out]; done) | (rw [HF.out]; simpa using hng)), a6⟩
        · have hn0' : ((((N0 + N1) : Nat) : Int) == 0) = false := by (rw [Bool.eq_iff_iff]; simp <;> omega)
          have hng : decide ((0 : Int) < ((N0 + N1) : Nat)) = true := by (rw [Bool.eq_iff_iff]; simp <;> omega)
          try simp only [Int.natCast_add] at hn0' hng
          rcases (show q2 = [] ∨ ∃ x t, q2 = x :: t by cases q2 <;> simp) with hql | ⟨x, t, hql⟩
          · have hem1 : (⟨q2.toArray⟩ : ByteArray).toList.isEmpty = true := by rw [hem, hql]; rfl
            have hem2 : q2.isEmpty = true := by rw [hql]; rfl
            clear hem
            have HF : Hid (V = true) := Lib.hid (by rw [HT.out, hql]; simp [floatTail] <;> omega)
            clear hn0 hql HT
            go_wp2
            go_ret
            exact ⟨ret_bool (by first | (rw [HF.out]; done) | (rw [HF.out]; simpa using hng)), a6⟩
          · have hem1 : (⟨q2.toArray⟩ : ByteArray).toList.isEmpty = false := by rw [hem, hql]; rfl
            have hem2 : q2.isEmpty = false := by rw [hql]; rfl
            clear hem
            have HF : Hid (V = ((((x.toNat : Int) == 101) || ((x.toNat : Int) == 69)) && allB (unsignB t) decs)) := Lib.hid (by
              rw [HT.out, hql]
              simp only [floatTail]
              rw [show decide (0 < (N0 + N1)) = true from decide_eq_true (by omega), Bool.true_and]
              congr 1
              rw [Bool.eq_iff_iff]
              simp
              omega)
            have hx : ∀ h : 0 < (⟨q2.toArray⟩ : ByteArray).size, (((⟨q2.toArray⟩ : ByteArray)[0]'h).toNat : Int) = (x.toNat : Int) := fun h => by
              rw [sl_get _ 0 h, sl_mk, hql]
              rfl
            have hex : (⟨q2.toArray⟩ : ByteArray).extract 1 q2.length = ⟨t.toArray⟩ := by
              have := str_from ⟨q2.toArray⟩ 1
              rw [sl_mk, mk_size] at this
              rw [this, hql]
              rfl
            have hlen : 0 < q2.length := by rw [hql]; simp
            have htl : t.length ≤ 140737488351232 := by
              have : q2.length = t.length + 1 := by rw [hql]; simp
              omega
            have c8 := fun W => unsignL t W
            have c9 := fun W => allL (unsignB t) decs (by have := unsign_le t; omega) (by decide) decs_ascii W
            clear hn0 hql HT
            unfold decs at c9
            generalize (x.toNat : Int) = X at *
            have HF2 : Hid (V = (((X == 101) || (X == 69)) && allB (unsignB t) decs)) := HF
            unfold decs at HF2
            clear HF
            generalize allB (unsignB t) [48, 49, 50, 51, 52, 53, 54, 55, 56, 57] = b9 at *
            generalize unsignB t = t2 at *
            by_cases h101 : X = 101
            · subst h101
              go_wp2_with (first | (go_at_call 176; refine (c8 _).mono ?_; rintro e w' ⟨rfl, rfl⟩) | (go_at_call 175; (with_reducible refine (c9 _).mono ?_); rintro e w' ⟨rfl, hb9⟩))
              go_ret
              exact ⟨ret_bool (by rw [HF2.out]; simp), bthen a6 hb9⟩
            · have h101' : (X == 101) = false := by simpa using h101
              by_cases h69 : X = 69
              · subst h69
                go_wp2_with (first | (go_at_call 176; refine (c8 _).mono ?_; rintro e w' ⟨rfl, rfl⟩) | (go_at_call 175; (with_reducible refine (c9 _).mono ?_); rintro e w' ⟨rfl, hb9⟩))
                go_ret
                exact ⟨ret_bool (by rw [HF2.out]; simp), bthen a6 hb9⟩
              · have h69' : (X == 69) = false := by simpa using h69
                go_wp2
                go_ret
                exact ⟨ret_bool (by rw [HF2.out, h101', h69']; simp), a6⟩

set_option maxHeartbeats 1000000 in
theorem resolve_any (s : ByteArray) (w : World) (hs : s.size ≤ 140737488351232) :
    Calls Tryz.prog 90 #[.string s] w fun e w' => e = .returned (.string ⟨(resolveB (sl s)).toArray⟩) ∧ Below w.heap.size w w' := by
  have c1 := fun W => null_any s W
  have c2 := fun W => boolS_any s W
  have c3 := fun W => int_any s W hs
  have c4 := fun W => float_any s W hs
  have HR : Hid (resolveB (sl s) = if nullB (sl s) then tagNull else if boolB (sl s) then tagBool else if intB (sl s) then tagInt else if floatB (sl s) then tagFloat else tagStr) := rfl
  rw [HR.out]
  clear HR
  generalize nullB (sl s) = b1 at *
  generalize boolB (sl s) = b2 at *
  generalize intB (sl s) = b3 at *
  generalize floatB (sl s) = b4 at *
  obtain ⟨V, hV⟩ : ∃ V, (if b1 = true then tagNull else if b2 = true then tagBool else if b3 = true then tagInt else if b4 = true then tagFloat else tagStr) = V := ⟨_, rfl⟩
  rw [hV]
  have HV := Lib.hid hV
  clear hV
  go_enter Tryz.func90, Tryz.ntmps90
  go_wp2_with fail
  refine (c1 _).mono ?_
  rintro e w1 ⟨rfl, h1⟩
  cases b1
  case true =>
    have HF : Hid (tagNull = V) := Lib.hid (by rw [← HV.out]; simp)
    clear HV
    go_wp2
    go_ret
    exact ⟨by rw [← HF.out]; rfl, h1⟩
  case false =>
    go_wp2_with fail
    refine (c2 _).mono ?_
    rintro e w2 ⟨rfl, h2⟩
    have h2 := bthen h1 h2
    clear h1
    cases b2
    case true =>
      have HF : Hid (tagBool = V) := Lib.hid (by rw [← HV.out]; simp)
      clear HV
      go_wp2
      go_ret
      exact ⟨by rw [← HF.out]; rfl, h2⟩
    case false =>
      go_wp2_with fail
      refine (c3 _).mono ?_
      rintro e w3 ⟨rfl, h3⟩
      have h3 := bthen h2 h3
      clear h2
      cases b3
      case true =>
        have HF : Hid (tagInt = V) := Lib.hid (by rw [← HV.out]; simp)
        clear HV
        go_wp2
        go_ret
        exact ⟨by rw [← HF.out]; rfl, h3⟩
      case false =>
        go_wp2_with fail
        refine (c4 _).mono ?_
        rintro e w4 ⟨rfl, h4⟩
        have h4 := bthen h3 h4
        clear h3
        cases b4
        case true =>
          have HF : Hid (tagFloat = V) := Lib.hid (by rw [← HV.out]; simp)
          clear HV
          go_wp2
          go_ret
          exact ⟨by rw [← HF.out]; rfl, h4⟩
        case false =>
          have HF : Hid (tagStr = V) := Lib.hid (by rw [← HV.out]; simp)
          clear HV
          go_wp2
          go_ret
          exact ⟨by rw [← HF.out]; rfl, h4⟩
end Go.Proofs.YtghigiapfmlkbaaGreatDoor
