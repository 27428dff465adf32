/- schema.Int, Float, Resolve. -/
import Derived.Test.YtghigiapfmlkbaaGreatDoorC5
namespace Go.Proofs.YtghigiapfmlkbaaGreatDoor
open Go.RowKit

theorem trim_le (l p : Bs) : (Lib.trimPrefix l p).length ≤ l.length := by
  unfold Lib.trimPrefix
  split <;> simp
theorem unsign_le (l : Bs) : (unsignB l).length ≤ l.length := by
  cases l with
  | nil => simp [unsignB]
  | cons c t => simp only [unsignB]; split <;> simp
theorem mk_size (l : Bs) : (⟨l.toArray⟩ : ByteArray).size = l.length := by rw [← sl_len, sl_mk]
theorem decs_ascii : ∀ x ∈ decs, x.toNat < 128 := by decide
theorem octs_ascii : ∀ x ∈ octs, x.toNat < 128 := by decide
theorem hexs_ascii : ∀ x ∈ hexs, x.toNat < 128 := by decide
/-- all, over lists of bytes. -/
theorem allL (l set : Bs) (hs : l.length ≤ 140737488351232) (hset : set.length ≤ 1000) (hasc : ∀ x ∈ set, x.toNat < 128) (w : World) :
    Calls Tryz.prog 175 #[.string ⟨l.toArray⟩, .string ⟨set.toArray⟩] w fun e w' => e = .returned (.bool (allB l set)) ∧ Below w.heap.size w w' := by
  have := all_any ⟨l.toArray⟩ ⟨set.toArray⟩ w (by rw [mk_size]; exact hs) (by rw [mk_size]; omega) (by rw [sl_mk]; exact hasc)
  rwa [sl_mk, sl_mk] at this
theorem runL (l set : Bs) (hs : l.length ≤ 140737488351232) (hset : set.length ≤ 1000) (hasc : ∀ x ∈ set, x.toNat < 128) (w : World) :
    Calls Tryz.prog 177 #[.string ⟨l.toArray⟩, .string ⟨set.toArray⟩] w fun e w' => e = .returned (.tuple #[.string ⟨(cutB l set).toArray⟩, .int .i64 ((l.length - (cutB l set).length : Nat))]) ∧ Below w.heap.size w w' := by
  have := run_any ⟨l.toArray⟩ ⟨set.toArray⟩ w (by rw [mk_size]; exact hs) (by rw [mk_size]; omega) (by rw [sl_mk]; exact hasc)
  rwa [sl_mk, sl_mk] at this
theorem unsignL (l : Bs) (w : World) :
    Calls Tryz.prog 176 #[.string ⟨l.toArray⟩] w fun e w' => e = .returned (.string ⟨(unsignB l).toArray⟩) ∧ w = w' := by
  have := unsign_any ⟨l.toArray⟩ w
  rwa [sl_mk] at this
set_option maxHeartbeats 1000000 in
theorem int_any (s : ByteArray) (w : World) (hs : s.size ≤ 140737488351232) :
    Calls Tryz.prog 136 #[.string s] w fun e w' => e = .returned (.bool (intB (sl s))) ∧ Below w.heap.size w w' := by
  obtain ⟨l, hl⟩ : ∃ l, sl s = l := ⟨_, rfl⟩
  have hln : l.length ≤ 140737488351232 := by rw [← hl, sl_len]; exact hs
  have c1 := fun W => Tryz.strings_CutPrefix s ⟨#[48, 111]⟩ W
  have c2 := fun W => Tryz.strings_CutPrefix s ⟨#[48, 120]⟩ W
  have c3 := fun W => unsign_any s W
  simp only [show s.data.toList = sl s from rfl] at c1 c2
  rw [hl] at *
  have t1 := trim_le l [48, 111]
  have t2 := trim_le l [48, 120]
  have t3 := unsign_le l
  have a1 := allL (unsignB l) decs (by omega) (by decide) decs_ascii
  have a2 := allL (Lib.trimPrefix l [48, 111]) octs (by omega) (by decide) octs_ascii
  have a3 := allL (Lib.trimPrefix l [48, 120]) hexs (by omega) (by decide) hexs_ascii
  have hI : intB l = (allB (unsignB l) decs || (Lib.hasPrefix l [48, 111] && allB (Lib.trimPrefix l [48, 111]) octs) || (Lib.hasPrefix l [48, 120] && allB (Lib.trimPrefix l [48, 120]) hexs)) := by
    unfold intB Lib.trimPrefix prefB
    cases Lib.hasPrefix l [48, 111] <;> cases Lib.hasPrefix l [48, 120] <;> simp
  rw [hI]
  clear hI t1 t2 t3 hl
  generalize allB (unsignB l) decs = b1 at *
  generalize allB (Lib.trimPrefix l [48, 111]) octs = b2 at *
  generalize allB (Lib.trimPrefix l [48, 120]) hexs = b3 at *
  unfold decs at a1
  unfold octs at a2
  unfold hexs at a3
  generalize unsignB l = l1 at *
  generalize Lib.trimPrefix l [48, 111] = l2 at *
  generalize Lib.trimPrefix l [48, 120] = l3 at *
  generalize Lib.hasPrefix l [48, 111] = p2 at *
  generalize Lib.hasPrefix l [48, 120] = p3 at *
  cases b1 <;> cases p2 <;> cases p3 <;> cases b2 <;> cases b3
  all_goals
    go_enter Tryz.func136, Tryz.ntmps136
    go_wp2_with fail
    refine (c1 _).mono ?_
    rintro e w1 ⟨rfl, rfl⟩
    go_wp2_with fail
    refine (c2 _).mono ?_
    rintro e w2 ⟨rfl, rfl⟩
    go_wp2_with (first | (go_at_call 176; refine (c3 _).mono ?_; rintro e w' ⟨rfl, rfl⟩) | (go_at_call 175; (with_reducible refine (a1 _).mono ?_); rintro e w' ⟨rfl, hb1⟩) | (go_at_call 175; (with_reducible refine (a2 _).mono ?_); rintro e w' ⟨rfl, hb2⟩) | (go_at_call 175; (with_reducible refine (a3 _).mono ?_); rintro e w' ⟨rfl, hb3⟩))
    go_ret
    exact ⟨rfl, by first | exact hb1 | exact bthen hb1 hb2 | exact bthen hb1 hb3 | exact bthen (bthen hb1 hb2) hb3⟩
end Go.Proofs.YtghigiapfmlkbaaGreatDoor
