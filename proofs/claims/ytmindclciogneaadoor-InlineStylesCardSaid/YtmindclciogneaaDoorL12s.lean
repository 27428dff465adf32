/- scholiumlaw12.InlineStyles: the walk. -/
import Derived.Test.YtmindclciogneaaDoorI22
import Derived.Test.YtmindclciogneaaDoorS1
import Derived.Test.YtmindclciogneaaDoorP10
import Derived.WalkLawsBesides
namespace Go.Proofs.YtmindclciogneaaDoor
open Go.RowKit

def tagAt (v : Nat) : Bs := tags7.getD v []
theorem tags_at (v : Nat) (h : v < 7) : (#[.string ⟨#[33, 33, 115, 116, 114]⟩, .string ⟨#[33, 33, 105, 110, 116]⟩, .string ⟨#[33, 33, 102, 108, 111, 97, 116]⟩, .string ⟨#[33, 33, 98, 111, 111, 108]⟩, .string ⟨#[33, 33, 110, 117, 108, 108]⟩, .string ⟨#[33, 120]⟩, .string ⟨#[33, 33, 121]⟩] : Array Value)[v]? = some (.string ⟨(tagAt v).toArray⟩) := by
  match v, h with
  | 0, _ => rfl
  | 1, _ => rfl
  | 2, _ => rfl
  | 3, _ => rfl
  | 4, _ => rfl
  | 5, _ => rfl
  | 6, _ => rfl
theorem tagAt_in (v : Nat) (h : v < 7) : tagAt v ∈ tags7 ∧ (tagAt v).length ≤ 10 := by
  match v, h with
  | 0, _ => decide
  | 1, _ => decide
  | 2, _ => decide
  | 3, _ => decide
  | 4, _ => decide
  | 5, _ => decide
  | 6, _ => decide
theorem best_le (T l : Bs) (flow : Bool) : (bestB T l flow).1.length ≤ T.length + 10 * l.length + 3 := by
  have h := put_le l
  unfold bestB chooseB
  repeat' split
  all_goals ((try simp only [List.length_append, List.length_singleton, List.length_nil]); omega)
theorem choose_le (l : Bs) (flow : Bool) : (chooseB l flow).length ≤ 10 * l.length + 2 := by
  have h := put_le l
  unfold chooseB
  repeat' split
  all_goals ((try simp only [List.length_nil]); omega)

set_option maxRecDepth 100000 in
set_option maxHeartbeats 1000000 in
theorem InlineStyles_in (s : ByteArray) (which : Int) (flow : Bool) (w : World) (hT : Tabs w) (hM : Maxl w) (hs : s.size ≤ 140737488351232) (h1 : -9223372036854775808 ≤ which) (h2 : which ≤ 9223372036854775807) :
    Calls Tryd.prog 8 #[.string s, .int .i64 which, .bool flow] w fun e w' => e = .returned (.bool true) ∧ Below w.heap.size w w' := by
  have ct : ∀ W, Calls Tryd.prog 10 #[.string s, .int .i64 60] W fun e w' => e = .returned (.string ⟨((sl s).take 60).toArray⟩) ∧ W = w' := fun W => text_any s 60 W hs (by omega)
  obtain ⟨t, ht⟩ : ∃ t, (sl s).take 60 = t := ⟨_, rfl⟩
  have htl : t.length ≤ 60 := by rw [← ht, List.length_take]; omega
  rw [ht] at ct
  clear ht
  have hw := fun W => within_any which 7 W h1 h2 (by omega) (by omega)
  obtain ⟨v, hv⟩ : ∃ v : Nat, which % 7 = v := ⟨(which % 7).toNat, by omega⟩
  have hv7 : v < 7 := by omega
  rw [hv] at hw
  clear hv
  have hvi : (v : Int) < 7 := by omega
  have hv0 : (0 : Int) ≤ v := by omega
  have hcell : (w.alloc (.cells #[.string ⟨#[33, 33, 115, 116, 114]⟩, .string ⟨#[33, 33, 105, 110, 116]⟩, .string ⟨#[33, 33, 102, 108, 111, 97, 116]⟩, .string ⟨#[33, 33, 98, 111, 111, 108]⟩, .string ⟨#[33, 33, 110, 117, 108, 108]⟩, .string ⟨#[33, 120]⟩, .string ⟨#[33, 33, 121]⟩] 9)).cell? ⟨w.heap.size, v, none⟩ = some (.string ⟨(tagAt v).toArray⟩) := by
    rw [World.cell?_alloc_at _ _ _ _ rfl]
    exact tags_at v hv7
  have hbw : Below w.heap.size w (w.alloc (.cells #[.string ⟨#[33, 33, 115, 116, 114]⟩, .string ⟨#[33, 33, 105, 110, 116]⟩, .string ⟨#[33, 33, 102, 108, 111, 97, 116]⟩, .string ⟨#[33, 33, 98, 111, 111, 108]⟩, .string ⟨#[33, 33, 110, 117, 108, 108]⟩, .string ⟨#[33, 120]⟩, .string ⟨#[33, 33, 121]⟩] 9)) := (Below.refl _ _).alloc (Nat.le_refl _) _
  obtain ⟨hin, hil⟩ := tagAt_in v hv7
  generalize tagAt v = T at *
  have hbp := fun f => best_parses f T t flow hin (by have := put_le t; omega) (by omega)
  have hbn := best_no T t flow
  have hbu := best_utf T t flow
  have hcp := fun f h => choose_parses f t flow (by have := put_le t; omega) (by omega) h
  have hbl := best_le T t flow
  have hcl := choose_le t flow
  go_enter Tryd.func8, Tryd.ntmps8
  have HBP := Lib.hid hbp
  have HBN := Lib.hid hbn
  have HBU := Lib.hid hbu
  have HCP := Lib.hid hcp
  clear hbp hbn hbu hcp hin
  go_wp2_with (first | (go_at_call 10; refine (ct _).mono ?_; rintro e w' ⟨rfl, rfl⟩) | (go_at_call 11; refine (hw _).mono ?_; rintro e w' ⟨rfl, rfl⟩))
  clear ct hw
  generalize w.alloc _ = w1 at *
  have hT1 := hT.below hbw
  have hM1 := hM.below hbw
  refine (best_any T t flow w1 hT1 (by omega) (by omega)).mono ?_
  rintro e w2 ⟨rfl, hb2⟩
  have hb2 := bthen hbw hb2
  have hT2 := hT.below hb2
  have hM2 := hM.below hb2
  have cc := fun W (h : Tabs W) => choose_any ⟨t.toArray⟩ flow W h (by rw [mk_size]; omega)
  rw [sl_mk] at cc
  have cp := fun (B : Bs) W (h : Tabs W) (h2 : Maxl W) (h3 : B.length ≤ 140737488351232) => parse_all B flow W h h2 h3
  clear hcell hbw
  cases hok : (bestB T t flow).2
  case false =>
    have he := HBN.out hok
    rw [he]
    clear HBP HBN HBU HCP hok he
    go_wp2_with fail
    refine (wakes12_any _ hT2).mono ?_
    rintro _ w3 ⟨rfl, hb3⟩
    go_wp2
    go_ret
    exact ⟨rfl, bthen hb2 hb3⟩
  case true =>
    obtain ⟨y, hy, hk, htg, hvl, han⟩ := HBP.out (4 * (bestB T t flow).1.length) hok
    have hpr : parseR (bestB T t flow).1 flow = ([y], 0) := by unfold parseR; rw [hy]; rfl
    obtain ⟨z, hz, hzk, hzt, hzv, _⟩ := HCP.out (4 * (chooseB t flow).length) (HBU.out hok)
    have hpz : parseR (chooseB t flow) flow = ([z], 0) := by unfold parseR; rw [hz]; rfl
    have cp1 := cp (bestB T t flow).1 w2 hT2 hM2 (by omega)
    have cp2 := fun W h h2 => cp (chooseB t flow) W h h2 (by omega)
    rw [hpr] at cp1
    simp only [hpz] at cp2
    have HY := Lib.hid (And.intro hk (And.intro htg (And.intro hvl han)))
    have HZ := Lib.hid (And.intro hzt hzv)
    clear HBP HBN HBU HCP hok hy hpr hz hpz hk htg hvl han hzk hzt hzv cp hbl hcl
    generalize (bestB T t flow).1 = B at *
    generalize chooseB t flow = C at *
    go_wp2_with fail
    refine cp1.mono ?_
    rintro _ w3 ⟨vv, rfl, hnl, hb3⟩
    obtain ⟨g, cap, rfl, hcap, hrd⟩ := hnl.read (by simp)
    obtain ⟨kv, hkv⟩ := hrd 0 y rfl
    have q0 : w3.cell? ⟨g, 0, none⟩ = some (.int .i64 1) := (hkv 0 (by omega)).trans (by simp only [ndCells]; rw [HY.out.1]; rfl)
    have q2 : w3.cell? ⟨g, 2, none⟩ = some (.string ⟨T.toArray⟩) := (hkv 2 (by omega)).trans (by simp only [ndCells]; rw [HY.out.2.1]; rfl)
    have q4 : w3.cell? ⟨g, 4, none⟩ = some (.string ⟨t.toArray⟩) := (hkv 4 (by omega)).trans (by simp only [ndCells]; rw [HY.out.2.2.1]; rfl)
    have q3 : w3.cell? ⟨g, 3, none⟩ = some (.string ⟨#[]⟩) := (hkv 3 (by omega)).trans (by simp only [ndCells]; rw [HY.out.2.2.2]; rfl)
    have hb3 := bthen hb2 hb3
    have cc := cc w3 (hT.below hb3)
    clear cp1 hrd hkv hnl HY
    go_wp2_with fail
    refine cc.mono ?_
    rintro _ w4 ⟨rfl, hb4⟩
    have hb4 := bthen hb3 hb4
    have cp2 := cp2 w4 (hT.below hb4) (hM.below hb4)
    clear cc q0 q2 q3 q4
    go_wp2_with fail
    refine cp2.mono ?_
    rintro _ w5 ⟨vv, rfl, hnl, hb5⟩
    obtain ⟨g2, cap2, rfl, hcap2, hrd⟩ := hnl.read (by simp)
    obtain ⟨kv, hkv⟩ := hrd 0 z rfl
    have q2 : w5.cell? ⟨g2, 2, none⟩ = some (.string ⟨#[33, 33, 115, 116, 114]⟩) := (hkv 2 (by omega)).trans (by simp only [ndCells]; rw [HZ.out.1]; rfl)
    have q4 : w5.cell? ⟨g2, 4, none⟩ = some (.string ⟨t.toArray⟩) := (hkv 4 (by omega)).trans (by simp only [ndCells]; rw [HZ.out.2]; rfl)
    have hb5 := bthen hb4 hb5
    have cw := wakes12_any w5 (hT.below hb5)
    clear cp2 hrd hkv hnl HZ
    go_wp2_with fail
    refine cw.mono ?_
    rintro _ w6 ⟨rfl, hb6⟩
    go_wp2
    go_ret
    exact ⟨rfl, bthen hb5 hb6⟩
end Go.Proofs.YtmindclciogneaaDoor
