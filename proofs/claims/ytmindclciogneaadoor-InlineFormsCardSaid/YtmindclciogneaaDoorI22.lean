/- Chapter 12's example; reading nodes that were told. -/
import Derived.Test.YtmindclciogneaaDoorI21
namespace Go.Proofs.YtmindclciogneaaDoor
open Go.RowKit

theorem NL.read {w : World} {B : Nat} {v : Value} {m : List Nd} (h : NL w B v m) (hm : 0 < m.length) :
    ∃ g cap, v = .slice (some ⟨g, 0, none⟩) m.length cap ∧ m.length ≤ cap ∧ ∀ i y, m[i]? = some y → ∃ kv, ∀ j, j < 10 → w.cell? ⟨g, i * 10 + j, none⟩ = (ndCells y kv)[j]? := by
  obtain ⟨l, rfl, ⟨hl, h2⟩, _⟩ := h
  rw [List.length_map] at hm
  rcases h2 with ⟨rfl, h0⟩ | ⟨g, cap, cur, rfl, hg, hc, hn, hmx, hs, ht⟩
  · omega
  · refine ⟨g, cap, by rw [List.length_map], by rw [List.length_map]; exact hn, fun i y hy => ?_⟩
    rw [List.getElem?_map, Option.map_eq_some_iff] at hy
    obtain ⟨p, hp, rfl⟩ := hy
    refine ⟨p.2, fun j hj => ?_⟩
    have hi : i < l.length := (List.getElem?_eq_some_iff.1 hp).1
    rw [cell_of_row _ _ _ _ _ (0, 0) hc, ← flat_get l i j p hp hj, ← ht, List.getElem?_take, if_pos (by omega)]
    simp
theorem NL.shape {w : World} {B : Nat} {v : Value} {m : List Nd} (h : NL w B v m) : ∃ A cap, v = .slice A m.length cap := by
  obtain ⟨l, rfl, ⟨hl, h2⟩, _⟩ := h
  rcases h2 with ⟨rfl, h0⟩ | ⟨g, cap, cur, rfl, _⟩
  · exact ⟨none, 0, by rw [List.length_map, h0]⟩
  · exact ⟨_, _, by rw [List.length_map]⟩
def wakeText : Bs := [91, 97, 44, 32, 123, 98, 58, 32, 49, 125, 93]
theorem wake_is : (parseR wakeText false).2 = 0 ∧ (parseR wakeText false).1.length = 5 ∧ ((parseR wakeText false).1.getD 0 nd0).kind = 2 ∧ ((parseR wakeText false).1.getD 4 nd0).value = [49] := by decide +kernel
theorem getD_some (m : List Nd) (i : Nat) (h : i < m.length) : m[i]? = some (m.getD i nd0) := by
  simp [List.getD_eq_getElem?_getD, List.getElem?_eq_getElem h]
theorem wakes12_any (w : World) (hT : Tabs w) : Calls Tryd.prog 20 #[] w fun e w' => e = .returned (.bool true) ∧ Below w.heap.size w w' := by
  obtain ⟨h1, h2, h3, h4⟩ := wake_is
  have cp := parse_any wakeText false w hT (by decide) (fun _ _ => .inl (by decide))
  have hw : (⟨wakeText.toArray⟩ : ByteArray) = ⟨#[91, 97, 44, 32, 123, 98, 58, 32, 49, 125, 93]⟩ := rfl
  rw [hw] at cp
  generalize parseR wakeText false = V at *
  obtain ⟨m, e⟩ := V
  dsimp only at h1 h2 h3 h4 cp
  subst h1
  have H2 := Lib.hid h2
  have H3 := Lib.hid h3
  have H4 := Lib.hid h4
  clear h2 h3 h4
  go_enter Tryd.func20, Tryd.ntmps20
  go_wp2_with fail
  refine cp.mono ?_
  rintro x w1 ⟨v, rfl, hnl, hb⟩
  clear cp
  obtain ⟨g, cap, rfl, hcap, hrd⟩ := hnl.read (by rw [H2.out]; omega)
  obtain ⟨k0, hk0⟩ := hrd 0 _ (getD_some m 0 (by rw [H2.out]; omega))
  obtain ⟨k4, hk4⟩ := hrd 4 _ (getD_some m 4 (by rw [H2.out]; omega))
  have hc0 : w1.cell? ⟨g, 0, none⟩ = some (.int .i64 2) := (hk0 0 (by omega)).trans (by simp only [ndCells]; rw [H3.out]; rfl)
  have hc4 : w1.cell? ⟨g, 44, none⟩ = some (.string ⟨#[49]⟩) := (hk4 4 (by omega)).trans (by simp only [ndCells]; rw [H4.out]; rfl)
  rw [H2.out] at hcap ⊢
  clear hrd hk0 hk4 hnl H2 H3 H4
  go_wp2
  go_ret
  exact ⟨rfl, hb⟩
end Go.Proofs.YtmindclciogneaaDoor
