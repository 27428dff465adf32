/- What plain does: Starts, stops, Length, Valid; chars.Name. -/
import Derived.Test.YtghigiapfmlkbaaGreatDoorC2
namespace Go.Proofs.YtghigiapfmlkbaaGreatDoor
open Go.RowKit

theorem take_short {l cs : Bs} (h : l.length < cs.length) : (l.take cs.length == cs) = false := by
  rw [beq_eq_false_iff_ne]
  intro e
  have := congrArg List.length e
  rw [List.length_take] at this
  omega
/-- 'len(b) >= 3 && string(b[:3]) == ..': what the walk is told. -/
theorem head3 (A : Option Addr) (c : Nat) (l : Bs) (w : World) (h : BA w A l) (hc : l.length ≤ c) (h3 : 3 ≤ l.length) :
    (∀ W, (Instr.slice 43 (.slice A l.length c) none (some (.int .i64 3)) none).run Tryz.prog W = .ok (.slice A 3 c) W) ∧
    (convert 43 9 (.slice A 3 c)).run Tryz.prog w = .ok (.string ⟨(l.take 3).toArray⟩) w := by
  have hst := conv_str (P := Tryz.prog) w 43 9 5 Tryz.underlying43 Tryz.underlying5 Tryz.underlying9 A c (l.take 3) (h.take 3)
  have hlt : (l.take 3).length = 3 := by rw [List.length_take]; omega
  rw [hlt] at hst
  exact ⟨fun W => cut_to (P := Tryz.prog) 43 5 .i64 Tryz.underlying43 Tryz.sizeOf5 A l.length c 3 (by omega) W, hst⟩
theorem lead_eq (c : UInt8) : (c.toNat == 45 || c.toNat == 63 || c.toNat == 58) = ([45, 63, 58] : Bs).contains c := by
  rw [Bool.eq_iff_iff]
  simp [← UInt8.toNat_inj]
  omega
set_option linter.unusedSimpArgs false in
set_option maxRecDepth 100000 in
set_option maxHeartbeats 1000000 in
theorem starts_any (A : Option Addr) (c : Nat) (l : Bs) (flow : Bool) (w : World) (h : BA w A l) (hc : l.length ≤ c) (hn : l.length ≤ 140737488351232) :
    Calls Tryz.prog 178 #[.slice A l.length c, .bool flow] w fun e w' => e = .returned (.bool (startsB l flow)) ∧ w = w' := by
  by_cases h0 : l = []
  · subst h0
    have e0 : startsB [] flow = false := rfl
    rw [e0]
    clear e0 h
    go_enter Tryz.func178, Tryz.ntmps178
    go_wp2
    go_ret
    exact ⟨rfl, rfl⟩
  · have hpos : 0 < l.length := by cases l <;> simp_all
    obtain ⟨x, t, hl⟩ : ∃ x t, l = x :: t := by cases l <;> simp_all
    have hx : l.getD 0 0 = x := by rw [hl]; rfl
    have ht : l.drop 1 = t := by rw [hl]; rfl
    have hlen : ((l.length : Int) == 0) = false := by simp; omega
    have hen := fun W (hW : BA W A l) => ends_any A c l 1 flow W hW (by omega) hn
    have hst : startsB l flow = if blankB x then false else if l.take 3 == [45, 45, 45] || l.take 3 == [46, 46, 46] then false else if c = c ∧ ([45, 63, 58] : Bs).contains x then !endsB t flow else !([44, 91, 93, 123, 125, 35, 38, 42, 33, 124, 62, 39, 34, 37, 64, 96] : Bs).contains x := by
      rw [← lead_eq, hl]
      simp [startsB]
    rw [hst]
    clear hst
    simp only [Int.toNat_one, ht] at hen
    have h3a := head3 A c l w h hc
    have hs1 := take_short (l := l) (cs := [45, 45, 45])
    have hs2 := take_short (l := l) (cs := [46, 46, 46])
    simp only [List.length_cons, List.length_nil] at hs1 hs2
    obtain ⟨b, o, rfl, hcell⟩ := h.at 0 hpos
    rw [hx, Nat.add_zero] at hcell
    have hbl := blank_any x w
    obtain ⟨z1, hz1, hc1, _⟩ := idx_set ⟨#[45, 63, 58]⟩ x
    obtain ⟨z2, hz2, hc2, _⟩ := idx_set ⟨#[44, 91, 93, 123, 125, 35, 38, 42, 33, 124, 62, 39, 34, 37, 64, 96]⟩ x
    have hen := hen w h
    simp only [sl] at hc1 hc2
    rw [← hc1, ← hc2]
    clear hc1 hc2 hx ht hl h h0
    generalize blankB x = p at *
    generalize endsB t flow = en at *
    generalize e1 : (l.take 3 == [45, 45, 45]) = q1 at *
    generalize e2 : (l.take 3 == [46, 46, 46]) = q2 at *
    have hz2' : decide (z2 < 0) = !decide (0 ≤ z2) := by rw [Bool.eq_iff_iff]; simp
    rw [← hz2']
    clear hz2'
    cases p
    case true =>
      clear e1 e2 hs1 hs2 h3a
      simp only [if_true]
      go_enter Tryz.func178, Tryz.ntmps178
      go_wp2_with (first | (go_at_call 200; refine hbl.mono ?_; rintro e w' ⟨rfl, rfl⟩))
      go_ret
      exact ⟨rfl, rfl⟩
    case false =>
      have hq : (∀ W, (Instr.slice 43 (.slice (some ⟨b, o, none⟩) l.length c) none (some (.int .i64 3)) none).run Tryz.prog W = .ok (.slice (some ⟨b, o, none⟩) 3 c) W) ∧
          (convert 43 9 (.slice (some ⟨b, o, none⟩) 3 c)).run Tryz.prog w = .ok (.string ⟨(l.take 3).toArray⟩) w ∧ decide ((3 : Int) ≤ l.length) = true ∨ (decide ((3 : Int) ≤ l.length) = false ∧ q1 = false ∧ q2 = false) := by
        by_cases h3 : 3 ≤ l.length
        · exact .inl ⟨(h3a h3).1, (h3a h3).2, by simp; omega⟩
        · exact .inr ⟨by simp; omega, hs1 (by omega), hs2 (by omega)⟩
      clear hs1 hs2 h3a
      simp only [Bool.false_eq_true, if_false]
      rcases hq with ⟨hs, hv, h3⟩ | ⟨h3, rfl, rfl⟩
      · cases q1 <;> cases q2 <;> by_cases hz : 0 ≤ z1
        all_goals
          simp only [hz, Bool.or_true, Bool.true_or, Bool.or_self, Bool.false_eq_true, if_true, if_false, and_self, true_and, decide_true, decide_false]
          go_enter Tryz.func178, Tryz.ntmps178
          go_wp2_with (first | (go_at_call 200; refine hbl.mono ?_; rintro e w' ⟨rfl, rfl⟩) | (go_at_call 162; refine (hz1 _).mono ?_; rintro e w' ⟨rfl, rfl⟩) | (go_at_call 162; refine (hz2 _).mono ?_; rintro e w' ⟨rfl, rfl⟩) | (go_at_call 201; refine hen.mono ?_; rintro e w' ⟨rfl, rfl⟩))
          go_ret
          exact ⟨rfl, rfl⟩
      · clear e1 e2
        by_cases hz : 0 ≤ z1
        all_goals
          simp only [hz, Bool.or_self, Bool.false_eq_true, if_true, if_false, and_self, true_and, decide_true, decide_false]
          go_enter Tryz.func178, Tryz.ntmps178
          go_wp2_with (first | (go_at_call 200; refine hbl.mono ?_; rintro e w' ⟨rfl, rfl⟩) | (go_at_call 162; refine (hz1 _).mono ?_; rintro e w' ⟨rfl, rfl⟩) | (go_at_call 162; refine (hz2 _).mono ?_; rintro e w' ⟨rfl, rfl⟩) | (go_at_call 201; refine hen.mono ?_; rintro e w' ⟨rfl, rfl⟩))
          go_ret
          exact ⟨rfl, rfl⟩

set_option maxHeartbeats 1000000 in
theorem stops_any (A : Option Addr) (c : Nat) (l : Bs) (i : Nat) (flow : Bool) (w : World) (h : BA w A l) (hi : i < l.length) (hn : l.length ≤ 140737488351232) :
    Calls Tryz.prog 179 #[.slice A l.length c, .int .i64 i, .bool flow] w fun e w' => e = .returned (.bool (stopsB (l.getD i 0) (l.drop (i + 1)) (pbAt l i) flow)) ∧ w = w' := by
  have hen := ends_any A c l ((i : Int) + 1) flow w h (by omega) hn
  rw [show ((i : Int) + 1).toNat = i + 1 by omega] at hen
  obtain ⟨b, o, rfl, hall⟩ := h (by omega)
  have hcell := hall i hi
  have hprev := hall (i - 1) (by omega)
  clear h hall
  have hbr := bracket_any (l.getD i 0) w
  have hbl := blank_any (l.getD (i - 1) 0) w
  have hpb : pbAt l i = (decide ((0 : Int) < i) && blankB (l.getD (i - 1) 0)) := by rw [Bool.eq_iff_iff]; simp [pbAt]
  rw [hpb]
  clear hpb
  generalize l.getD (i - 1) 0 = y at *
  obtain ⟨x, hx⟩ : ∃ x, l.getD i 0 = x := ⟨_, rfl⟩
  rw [hx] at hcell hbr ⊢
  clear hx
  have HS : Hid (stopsB x (l.drop (i + 1)) (decide ((0 : Int) < i) && blankB y) flow = if x.toNat = 9 then true else if x.toNat = 58 then endsB (l.drop (i + 1)) flow else if x.toNat = 35 then (decide ((0 : Int) < i) && blankB y) else flow && bracketB x) := Lib.hid (by simp [stopsB])
  rw [HS.out]
  clear HS
  generalize endsB (l.drop (i + 1)) flow = en at *
  generalize bracketB x = q at *
  generalize blankB y = p at *
  by_cases h9 : x.toNat = 9
  · rw [if_pos h9]
    have h9' : ((x.toNat : Int) == 9) = true := by simp; omega
    clear h9
    go_enter Tryz.func179, Tryz.ntmps179
    go_wp2
    go_ret
    exact ⟨rfl, rfl⟩
  · rw [if_neg h9]
    have h9' : ((x.toNat : Int) == 9) = false := by simp; omega
    clear h9
    by_cases h58 : x.toNat = 58
    · rw [if_pos h58]
      have h58' : ((x.toNat : Int) == 58) = true := by simp; omega
      clear h58
      go_enter Tryz.func179, Tryz.ntmps179
      go_wp2_with (go_at_call 201; refine hen.mono ?_; rintro e w' ⟨rfl, rfl⟩)
      go_ret
      exact ⟨rfl, rfl⟩
    · rw [if_neg h58]
      have h58' : ((x.toNat : Int) == 58) = false := by simp; omega
      clear h58
      by_cases h35 : x.toNat = 35
      · rw [if_pos h35]
        have h35' : ((x.toNat : Int) == 35) = true := by simp; omega
        clear h35
        by_cases h0 : 0 < i
        · have h0' : decide ((0 : Int) < i) = true := by simp; omega
          rw [h0']
          go_enter Tryz.func179, Tryz.ntmps179
          have hz : ((i : Int) - 1).toNat = i - 1 := by omega
          have hy : (i - 1 : Nat) < l.length := by omega
          go_wp2_with (go_at_call 200; refine hbl.mono ?_; rintro e w' ⟨rfl, rfl⟩)
          go_ret
          exact ⟨ret_bool (by simp), rfl⟩
        · have h0' : decide ((0 : Int) < i) = false := by simp; omega
          rw [h0']
          clear hprev
          go_enter Tryz.func179, Tryz.ntmps179
          go_wp2
          go_ret
          exact ⟨ret_bool (by simp), rfl⟩
      · rw [if_neg h35]
        have h35' : ((x.toNat : Int) == 35) = false := by simp; omega
        clear h35
        cases flow
        all_goals
          go_enter Tryz.func179, Tryz.ntmps179
          go_wp2_with (go_at_call 202; refine hbr.mono ?_; rintro e w' ⟨rfl, rfl⟩)
          go_ret
          exact ⟨ret_bool (by simp), rfl⟩

set_option maxHeartbeats 1000000 in
theorem length_any (A : Option Addr) (c : Nat) (l : Bs) (flow : Bool) (w : World) (h : BA w A l) (hc : l.length ≤ c) (hn : l.length ≤ 140737488351232) :
    Calls Tryz.prog 138 #[.slice A l.length c, .bool flow] w fun e w' => e = .returned (.int .i64 (plainLen l flow)) ∧ w = w' := by
  have hs := starts_any A c l flow w h hc hn
  cases hst : startsB l flow
  · rw [show plainLen l flow = 0 by simp [plainLen, hst]]
    rw [hst] at hs
    clear hst h
    go_enter Tryz.func138, Tryz.ntmps138
    go_wp2_with (go_at_call 178; refine hs.mono ?_; rintro e w' ⟨rfl, rfl⟩)
    go_ret
    exact ⟨rfl, rfl⟩
  · obtain ⟨T, hT⟩ : ∃ T, plainLen l flow = T := ⟨_, rfl⟩
    have HT : Hid (trimLen (l.take (runLen flow false l)) = T) := Lib.hid (by rw [← hT]; simp [plainLen, hst])
    rw [hT]
    rw [hst] at hs
    clear hst hT
    go_enter Tryz.func138, Tryz.ntmps138
    go_wp2_with (go_at_call 178; refine hs.mono ?_; rintro e w' ⟨rfl, rfl⟩)
    clear hs
    go_loop [5] (fun v => ∃ n : Nat, n ≤ l.length ∧ v = .int .i64 n ∧ runLen flow false l = n + runLen flow (pbAt l n) (l.drop n)) (fun v => l.length - (intOf v).toNat)
    case atStart => exact ⟨0, Nat.zero_le _, rfl, by simp [pbAt]⟩
    case round =>
      obtain ⟨n, hnl, rfl, hr⟩ := hrel
      have HR := Lib.hid hr
      clear hr
      have hcase : (n < l.length ∧ stopsB (l.getD n 0) (l.drop (n + 1)) (pbAt l n) flow = false ∧ runLen flow false l = (n + 1 : Nat) + runLen flow (pbAt l (n + 1)) (l.drop (n + 1))) ∨ (n < l.length ∧ stopsB (l.getD n 0) (l.drop (n + 1)) (pbAt l n) flow = true ∧ runLen flow false l = n) ∨ (¬ n < l.length ∧ runLen flow false l = n) := by
        by_cases hlt : n < l.length
        · have := runLen_step flow l n hlt
          cases hsb : stopsB (l.getD n 0) (l.drop (n + 1)) (pbAt l n) flow
          · rw [hsb] at this
            exact .inl ⟨hlt, rfl, by rw [HR.out, this]; simp; omega⟩
          · rw [hsb] at this
            exact .inr (.inl ⟨hlt, rfl, by rw [HR.out, this]; simp⟩)
        · refine .inr (.inr ⟨hlt, ?_⟩)
          rw [HR.out, List.drop_of_length_le (by omega)]
          simp [runLen]
      have hstop := fun hlt => stops_any A c l n flow w h hlt hn
      generalize stopsB (l.getD n 0) (l.drop (n + 1)) (pbAt l n) flow = sb at *
      clear HR
      rcases hcase with ⟨hlt, rfl, hrn⟩ | hcase
      · have HN := Lib.hid hrn
        clear hrn
        have hstop := hstop hlt
        go_wp2_with (go_at_call 179; refine hstop.mono ?_; rintro e w' ⟨rfl, rfl⟩)
        go_round
        case rel => exact ⟨n + 1, by omega, by go_num, HN.out⟩
        case measure => simp [intOf]; omega
      · have hrn : runLen flow false l = n := by rcases hcase with ⟨_, _, e⟩ | ⟨_, e⟩ <;> exact e
        rw [hrn] at HT
        clear hrn
        rcases hcase with ⟨hlt, rfl, _⟩ | ⟨hlt, _⟩
        case' inl => have hstop := hstop hlt
        case' inr => have hstop := True.intro
        all_goals
          go_wp2_with (go_at_call 179; refine hstop.mono ?_; rintro e w' ⟨rfl, rfl⟩)
          clear hstop
          go_loop [5] (fun v => ∃ m : Nat, m ≤ n ∧ v = .int .i64 m ∧ trimLen (l.take m) = T) (fun v => (intOf v).toNat)
          case atStart => exact ⟨n, Nat.le_refl _, rfl, HT.out⟩
          case round =>
            obtain ⟨m, hm, rfl, ht⟩ := hrel
            have HM := Lib.hid ht
            clear ht
            by_cases h0 : 0 < m
            · obtain ⟨b, o, rfl, hcell⟩ := h.at (m - 1) (by omega)
              have htk := take_succ l (m - 1) (by omega)
              rw [show m - 1 + 1 = m by omega] at htk
              have HK : Hid (trimLen (l.take m) = if (l.getD (m - 1) 0).toNat = 32 then trimLen (l.take (m - 1)) else m) := Lib.hid (by
                rw [htk, trimLen_snoc, List.length_take]
                congr 1
                omega)
              clear htk h
              generalize l.getD (m - 1) 0 = x at *
              have hz : ((m : Int) - 1).toNat = m - 1 := by omega
              have hy : (m - 1 : Nat) < l.length := by omega
              by_cases h32 : x.toNat = 32
              · have HF : Hid (trimLen (l.take (m - 1)) = T) := Lib.hid (by rw [← HM.out, HK.out, if_pos h32])
                have h32' : ((x.toNat : Int) == 32) = true := by simp; omega
                clear h32 HK HM
                go_wp2
                go_round
                case rel => exact ⟨m - 1, by omega, by rw [show ((m : Int) - 1) = ((m - 1 : Nat) : Int) by omega], HF.out⟩
                case measure => simp [intOf]; omega
              · have HF : Hid (m = T) := Lib.hid (by rw [← HM.out, HK.out, if_neg h32])
                have h32' : ((x.toNat : Int) == 32) = false := by simp; omega
                clear h32 HK HM
                go_wp2
                go_ret
                exact ⟨ret_int (by rw [← HF.out]), rfl⟩
            · have HF : Hid (T = 0) := Lib.hid (by rw [← HM.out, show m = 0 by omega]; simp [trimLen])
              clear HM
              go_wp2
              go_ret
              exact ⟨ret_int (by rw [HF.out]; omega), rfl⟩
end Go.Proofs.YtghigiapfmlkbaaGreatDoor
