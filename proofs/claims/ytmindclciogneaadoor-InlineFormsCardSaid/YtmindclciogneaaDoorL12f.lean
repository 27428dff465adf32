/- scholiumlaw12.InlineForms: the walk. -/
import Derived.Test.YtmindclciogneaaDoorI22
import Derived.Test.YtmindclciogneaaDoorS1
import Derived.Test.YtmindclciogneaaDoorFM
import Derived.Deep.RegionWith
import Derived.Deep.DeepCutAuto
import Derived.Deep.DrawnRows
import Derived.WalkLawsBesides
namespace Go.Proofs.YtmindclciogneaaDoor
open Go.RowKit
open Go.Maps (Keyed)
attribute [local go_sem ↓] Go.wp_at_zero Go.wp_at_succ

def letters8 : Bs := [97, 98, 99, 100, 101, 102, 103, 104]
def badL (a : UInt8) : List Bs := [[], [32], [91], [93], [123], [91, a], [91, a, 44, 93], [91, 44, a, 93], [91, a, 32, 98, 93, 93], [123, a, 125], [123, a, 58, 49, 125], [123, 58, 32, 49, 125], [123, 91, a, 93, 58, 32, 49, 125], [123, a, 58, 32, 49, 44, 125], [123, 38, 120, 32, a, 58, 32, 49, 125], [123, 42, a, 58, 32, 49, 125], [38, 120, 32, 42, a], [42], [38, 120, 32, 38, 121, 32, a], [39, a], [124, 32, a], [35, 32, a], [a, 32, 35, 32, 99], [a, 32], [45, 32, a], [63, 32, a], [a, 58, 32, 98], [91, 97, 58, 32, 98, 93], [91, a, 125], [37, a], [64]]
def txtL (a : UInt8) : List Bs := [[a, 10], [a, 13, 10], [0], [239, 187, 191, a], [255]]
def formsOk (a : UInt8) (flow : Bool) : Bool :=
  (formsTab a).all (fun p => (parseR p.1 flow).2 == 0 && decide (((parseR p.1 flow).1.length : Int) = p.2) && decide (p.1.length ≤ 100)) &&
  (badL a).all (fun s => (parseR s flow).2 == 2 && (parseR s flow).1.length == 0) && (txtL a).all (fun s => (parseR s flow).2 == 1)
theorem forms_ok : ∀ v, v < 8 → ∀ flow, formsOk (letters8.getD v 0) flow = true := by decide +kernel
theorem letter8_at (v : Nat) (h : v < 8) : ∃ X, (∀ W, (Instr.slice 9 (.string ⟨#[97, 98, 99, 100, 101, 102, 103, 104]⟩) (some (.int .i64 v)) none none).run Tryd.prog W = .ok (.string X) W) ∧ ∀ W, (Instr.slice 9 (.string X) none (some (.int .i64 1)) none).run Tryd.prog W = .ok (.string ⟨#[letters8.getD v 0]⟩) W := by
  match v, h with
  | 0, _ => exact ⟨⟨(letters8.drop 0).toArray⟩, fun W => by kernel_rfl, fun W => by kernel_rfl⟩
  | 1, _ => exact ⟨⟨(letters8.drop 1).toArray⟩, fun W => by kernel_rfl, fun W => by kernel_rfl⟩
  | 2, _ => exact ⟨⟨(letters8.drop 2).toArray⟩, fun W => by kernel_rfl, fun W => by kernel_rfl⟩
  | 3, _ => exact ⟨⟨(letters8.drop 3).toArray⟩, fun W => by kernel_rfl, fun W => by kernel_rfl⟩
  | 4, _ => exact ⟨⟨(letters8.drop 4).toArray⟩, fun W => by kernel_rfl, fun W => by kernel_rfl⟩
  | 5, _ => exact ⟨⟨(letters8.drop 5).toArray⟩, fun W => by kernel_rfl, fun W => by kernel_rfl⟩
  | 6, _ => exact ⟨⟨(letters8.drop 6).toArray⟩, fun W => by kernel_rfl, fun W => by kernel_rfl⟩
  | 7, _ => exact ⟨⟨(letters8.drop 7).toArray⟩, fun W => by kernel_rfl, fun W => by kernel_rfl⟩

theorem law31 : Keyed Tryd.prog 9 := Maps.string_keyed Tryd.underlying9
theorem forms_last66 : ∃ o, formsOps[66]? = some o ∧ o.dst = some 66 := by
  have h : (formsOps[66]?).map (fun o => o.dst) = some (some 66) := by kernel_rfl
  rw [Option.map_eq_some_iff] at h
  exact h
theorem forms_last (o : Oper) {t : Tmp} (ho : formsOps[66]? = some o) (hd : o.dst = some t) (ht : t ≠ 66) : False := by
  obtain ⟨o', ho', hd'⟩ := forms_last66
  rw [ho] at ho'
  cases ho'
  rw [hd] at hd'
  exact ht (Option.some.inj hd')

/-- A block of texts. -/
def TextsAt (w : World) (B : Nat) (l : List Bs) : Prop := B < w.heap.size ∧ ∀ j, j < l.length → w.cell? ⟨B, j, none⟩ = some (.string ⟨(l.getD j []).toArray⟩)
theorem TextsAt.below {w w1 : World} {B : Nat} {l : List Bs} (h : TextsAt w B l) (hb : Below w.heap.size w w1) : TextsAt w1 B l :=
  ⟨Nat.lt_of_lt_of_le h.1 hb.size, fun j hj => pw_cell hb (h.2 j hj)⟩
theorem TextsAt.made (w : World) (t : TypeId) (l : List Bs) : TextsAt (w.alloc (.cells (l.map fun s => Value.string ⟨s.toArray⟩).toArray t)) w.heap.size l := by
  refine ⟨by simp, fun j hj => ?_⟩
  rw [World.cell?_alloc_at _ _ _ _ rfl]
  simp [List.getD_eq_getElem?_getD, List.getElem?_eq_getElem hj]
theorem formsOk_good {a : UInt8} {flow : Bool} (h : formsOk a flow = true) {s : Bs} {c : Int} (hm : (s, c) ∈ formsTab a) : (parseR s flow).2 = 0 ∧ ((parseR s flow).1.length : Int) = c ∧ s.length ≤ 100 := by
  unfold formsOk at h
  simp only [Bool.and_eq_true] at h
  have := List.all_eq_true.1 h.1.1 _ hm
  simp only [Bool.and_eq_true, beq_iff_eq, decide_eq_true_eq] at this
  exact ⟨this.1.1, this.1.2, this.2⟩
theorem getD_in {l : List Bs} {j : Nat} (h : j < l.length) : l.getD j [] ∈ l := by
  rw [List.getD_eq_getElem?_getD, List.getElem?_eq_getElem h]
  exact List.getElem_mem h
theorem formsOk_bad {a : UInt8} {flow : Bool} (h : formsOk a flow = true) {j : Nat} (hj : j < 31) : (parseR ((badL a).getD j []) flow).2 = 2 ∧ (parseR ((badL a).getD j []) flow).1.length = 0 := by
  unfold formsOk at h
  simp only [Bool.and_eq_true] at h
  have := List.all_eq_true.1 h.1.2 _ (getD_in (j := j) (show j < (badL a).length from hj))
  simpa using this
theorem formsOk_txt {a : UInt8} {flow : Bool} (h : formsOk a flow = true) {j : Nat} (hj : j < 5) : (parseR ((txtL a).getD j []) flow).2 = 1 := by
  unfold formsOk at h
  simp only [Bool.and_eq_true] at h
  have := List.all_eq_true.1 h.2 _ (getD_in (j := j) (show j < (txtL a).length from hj))
  simpa using this
theorem bad_len (a : UInt8) : ∀ j, ((badL a).getD j []).length ≤ 100 := fun j => by
  by_cases h : j < 31
  · have : ∀ s ∈ badL a, s.length ≤ 100 := by simp [badL]
    exact this _ (getD_in (show j < (badL a).length from h))
  · rw [List.getD_eq_getElem?_getD, List.getElem?_eq_none (show (badL a).length ≤ j from by show 31 ≤ j; omega)]
    simp
theorem txt_len (a : UInt8) : ∀ j, ((txtL a).getD j []).length ≤ 100 := fun j => by
  by_cases h : j < 5
  · have : ∀ s ∈ txtL a, s.length ≤ 100 := by simp [txtL]
    exact this _ (getD_in (show j < (txtL a).length from h))
  · rw [List.getD_eq_getElem?_getD, List.getElem?_eq_none (show (txtL a).length ≤ j from by show 5 ≤ j; omega)]
    simp

set_option maxRecDepth 100000 in
set_option maxHeartbeats 1000000 in
theorem InlineForms_in (n : Int) (flow : Bool) (w : World) (hT : Tabs w) (hM : Maxl w) (h1 : -9223372036854775808 ≤ n) (h2 : n ≤ 9223372036854775807) :
    Calls Tryd.prog 4 #[.int .i64 n, .bool flow] w fun e w' => e = .returned (.bool true) ∧ Below w.heap.size w w' := by
  have hw := fun W => within_any n 8 W h1 h2 (by omega) (by omega)
  obtain ⟨v, hv⟩ : ∃ v : Nat, n % 8 = v := ⟨(n % 8).toNat, by omega⟩
  have hv8 : v < 8 := by omega
  rw [hv] at hw
  clear hv
  obtain ⟨X, hx1, hx2⟩ := letter8_at v hv8
  have hok := forms_ok v hv8 flow
  generalize letters8.getD v 0 = a at *
  have HOK := Lib.hid hok
  clear hok hv8
  go_enter Tryd.func4, Tryd.ntmps4
  go_wp2_with (go_at_call 11; refine (hw _).mono ?_; rintro e w' ⟨rfl, rfl⟩)
  clear hw
  go_upto_region 2 with fail
  go_cut [5, 66] (fun l it wx => l = .string ⟨#[a]⟩ ∧ ∃ k D r, it = .pointer (some ⟨r, 0, none⟩) ∧ GoodD .i64 (formsTab a) D ∧ wx.ranges Tryd.prog 9 (plainElem Tryd.prog 3) w.heap.size r k D (Maps.has D) (Maps.size D) ∧ w.heap.size < r ∧ r < wx.heap.size ∧ Below w.heap.size w wx)
  case first =>
    show Code.wp Tryd.prog (Code.region 2 formsOps true) _ _ _
    refine wp_maplit (val := valOf (formsVals w.heap.size a) (fun t => (#[.int .i64 n, .bool flow, undef, undef, .bool false, .string ⟨#[a]⟩, undef, undef, undef, undef, undef, undef, undef, undef, undef, undef, undef, undef, .int .i64 n, .int .i64 v, .string X, .string ⟨#[a]⟩, undef, undef, undef, undef, undef, undef, undef, undef, undef, undef, undef, undef, undef, undef, undef, undef, undef, undef, undef, undef, undef, undef, undef, undef, undef, undef, undef, undef, undef, undef, undef, undef, undef, undef, undef, undef, undef, undef, undef, undef, undef, undef, undef, undef, undef, undef, undef, undef, undef, undef, undef, undef, undef, undef, undef, undef, undef, undef, undef, undef, undef, undef, undef, undef, undef, undef, undef, undef, undef, undef, undef, undef, undef, undef, undef, undef, undef, undef, undef, undef, undef, undef, undef, undef, undef, undef, undef, undef, undef, undef, undef, undef, undef, undef, undef, undef, undef, undef, undef, undef, undef, undef, undef, undef, undef, undef, undef, undef, undef, undef, undef, undef, undef, undef, undef, undef, undef, undef, undef, undef, undef, undef, undef, undef, undef, undef, undef, undef, undef, undef, undef, undef, undef, undef, undef, undef, undef, undef, undef, undef, undef, undef, undef, undef, undef, undef, undef, undef, undef, undef, undef, undef, undef, undef, undef, undef, undef, undef, undef, undef] : Array Value).getD t undef)) (by kernel_rfl) (formsReg w.heap.size a _ rfl _ rfl) law31 Tryd.underlying31 Tryd.underlying9 Tryd.underlying3 (val_or formsSpec_is _ _ (by rfl)) ?_
    intro ax wx k D r e1 e2 e3 e4 hgood hrg hr1 hr2 hb
    have e := frame_is ax 66 (.pointer (some ⟨r, 0, none⟩)) 182 e2 e1 (fun t ht => e3 t (fun o ho hd => forms_last o ho hd ht)) (by
      obtain ⟨o, ho, hd⟩ := forms_last66
      exact e4 o 66 ho hd)
    clear e1 e2 e3 e4
    subst e
    show Exit.then _ _ Exit.normal ⟨#[.int .i64 n, .bool flow, undef, undef, .bool false, .string ⟨#[a]⟩, undef, undef, undef, undef, undef, undef, undef, undef, undef, undef, undef, undef, .int .i64 n, .int .i64 v, .string X, .string ⟨#[a]⟩, .map (some w.heap.size), .string ⟨#[a]⟩, .string ⟨#[a]⟩, .string ⟨#[39, a]⟩, .string ⟨#[39, a, 39]⟩, .string ⟨#[a]⟩, .string ⟨#[91, a]⟩, .string ⟨#[91, a, 93]⟩, .string ⟨#[a]⟩, .string ⟨#[91, 32, a]⟩, .string ⟨#[91, 32, a, 32, 44, 32, 98, 32, 93]⟩, .string ⟨#[a]⟩, .string ⟨#[123, a]⟩, .string ⟨#[123, a, 58, 32, 49, 125]⟩, .string ⟨#[a]⟩, .string ⟨#[123, a]⟩, .string ⟨#[123, a, 58, 32, 125]⟩, .string ⟨#[a]⟩, .string ⟨#[123, a]⟩, .string ⟨#[123, a, 58, 44, 32, 98, 58, 32, 50, 125]⟩, .string ⟨#[a]⟩, .string ⟨#[123, 39, a]⟩, .string ⟨#[123, 39, a, 39, 32, 58, 32, 91, 49, 93, 125]⟩, .string ⟨#[a]⟩, .string ⟨#[42, a]⟩, .string ⟨#[a]⟩, .string ⟨#[38, 120, 32, a]⟩, .string ⟨#[a]⟩, .string ⟨#[91, 42, a]⟩, .string ⟨#[91, 42, a, 32, 44, 32, 42, 98, 93]⟩, .string ⟨#[a]⟩, .string ⟨#[91, 33, 116, 32, 44, 32, a]⟩, .string ⟨#[91, 33, 116, 32, 44, 32, a, 93]⟩, .string ⟨#[a]⟩, .string ⟨#[38, 120, 32, 91, a]⟩, .string ⟨#[38, 120, 32, 91, a, 93]⟩, .string ⟨#[a]⟩, .string ⟨#[34, a]⟩, .string ⟨#[34, a, 92, 110, 34]⟩, .string ⟨#[a]⟩, .string ⟨#[45, a]⟩, .string ⟨#[a]⟩, .string ⟨#[32, a]⟩, .map (some w.heap.size), .pointer (some ⟨r, 0, none⟩), undef, undef, undef, undef, undef, undef, undef, undef, undef, undef, undef, undef, undef, undef, undef, undef, undef, undef, undef, undef, undef, undef, undef, undef, undef, undef, undef, undef, undef, undef, undef, undef, undef, undef, undef, undef, undef, undef, undef, undef, undef, undef, undef, undef, undef, undef, undef, undef, undef, undef, undef, undef, undef, undef, undef, undef, undef, undef, undef, undef, undef, undef, undef, undef, undef, undef, undef, undef, undef, undef, undef, undef, undef, undef, undef, undef, undef, undef, undef, undef, undef, undef, undef, undef, undef, undef, undef, undef, undef, undef, undef, undef, undef, undef, undef, undef, undef, undef, undef, undef, undef, undef, undef, undef, undef, undef, undef, undef, undef, undef, undef, undef, undef, undef, undef], []⟩ wx
    go_wp2_with fail
    go_meet
    exact ⟨rfl, k, D, r, rfl, hgood, hrg, hr1, hr2, hb⟩
  case rest =>
    obtain ⟨rfl, k, D, r, rfl, hgood, hrg, hr1, hr2, hb⟩ := hcut
    have happ := app_l
    have HG := Lib.hid hgood
    clear hgood hx1 hx2
    go_wp2_with fail
    go_loopw [6] (fun _ wr => ∃ left cnt, wr.ranges Tryd.prog 9 (plainElem Tryd.prog 3) w.heap.size r k D left cnt ∧ r < wr.heap.size ∧ Below w.heap.size w wr) (fun _ wr => wr.rangeLeft w.heap.size r)
    case atStart => exact ⟨_, _, hrg, hr2, hb⟩
    case round =>
      obtain ⟨left, cnt, hrg1, hr3, hb1⟩ := hrel
      go_wp2_with (at_next; refine wpList_next_lit _ rfl _ rfl 9 3 .i64 law31 Tryd.underlying9 Tryd.underlying3 (formsTab a) w.heap.size r k D HG.out left cnt rfl hrg1 ?_ ?_)
      case _ =>
        clear hrg hrg1
        go_wp2_with fail
        have hcs := TextsAt.made wr 9 (badL a)
        have hcs : TextsAt (wr.alloc (.cells #[.string ⟨#[]⟩, .string ⟨#[32]⟩, .string ⟨#[91]⟩, .string ⟨#[93]⟩, .string ⟨#[123]⟩, .string ⟨#[91, a]⟩, .string ⟨#[91, a, 44, 93]⟩, .string ⟨#[91, 44, a, 93]⟩, .string ⟨#[91, a, 32, 98, 93, 93]⟩, .string ⟨#[123, a, 125]⟩, .string ⟨#[123, a, 58, 49, 125]⟩, .string ⟨#[123, 58, 32, 49, 125]⟩, .string ⟨#[123, 91, a, 93, 58, 32, 49, 125]⟩, .string ⟨#[123, a, 58, 32, 49, 44, 125]⟩, .string ⟨#[123, 38, 120, 32, a, 58, 32, 49, 125]⟩, .string ⟨#[123, 42, a, 58, 32, 49, 125]⟩, .string ⟨#[38, 120, 32, 42, a]⟩, .string ⟨#[42]⟩, .string ⟨#[38, 120, 32, 38, 121, 32, a]⟩, .string ⟨#[39, a]⟩, .string ⟨#[124, 32, a]⟩, .string ⟨#[35, 32, a]⟩, .string ⟨#[a, 32, 35, 32, 99]⟩, .string ⟨#[a, 32]⟩, .string ⟨#[45, 32, a]⟩, .string ⟨#[63, 32, a]⟩, .string ⟨#[a, 58, 32, 98]⟩, .string ⟨#[91, 97, 58, 32, 98, 93]⟩, .string ⟨#[91, a, 125]⟩, .string ⟨#[37, a]⟩, .string ⟨#[64]⟩] 9)) wr.heap.size (badL a) := hcs
        have hb3 : Below w.heap.size w (wr.alloc (.cells #[.string ⟨#[]⟩, .string ⟨#[32]⟩, .string ⟨#[91]⟩, .string ⟨#[93]⟩, .string ⟨#[123]⟩, .string ⟨#[91, a]⟩, .string ⟨#[91, a, 44, 93]⟩, .string ⟨#[91, 44, a, 93]⟩, .string ⟨#[91, a, 32, 98, 93, 93]⟩, .string ⟨#[123, a, 125]⟩, .string ⟨#[123, a, 58, 49, 125]⟩, .string ⟨#[123, 58, 32, 49, 125]⟩, .string ⟨#[123, 91, a, 93, 58, 32, 49, 125]⟩, .string ⟨#[123, a, 58, 32, 49, 44, 125]⟩, .string ⟨#[123, 38, 120, 32, a, 58, 32, 49, 125]⟩, .string ⟨#[123, 42, a, 58, 32, 49, 125]⟩, .string ⟨#[38, 120, 32, 42, a]⟩, .string ⟨#[42]⟩, .string ⟨#[38, 120, 32, 38, 121, 32, a]⟩, .string ⟨#[39, a]⟩, .string ⟨#[124, 32, a]⟩, .string ⟨#[35, 32, a]⟩, .string ⟨#[a, 32, 35, 32, 99]⟩, .string ⟨#[a, 32]⟩, .string ⟨#[45, 32, a]⟩, .string ⟨#[63, 32, a]⟩, .string ⟨#[a, 58, 32, 98]⟩, .string ⟨#[91, 97, 58, 32, 98, 93]⟩, .string ⟨#[91, a, 125]⟩, .string ⟨#[37, a]⟩, .string ⟨#[64]⟩] 9)) := hb1.alloc hb1.size _
        generalize wr.alloc _ = w3 at hcs hb3 ⊢
        generalize wr.heap.size = B at hcs ⊢
        clear hb1
        go_loopw [142, 11] (fun i _ wx2 => ∃ j : Nat, i = .int .i64 j ∧ j ≤ 31 ∧ Below w.heap.size w wx2 ∧ TextsAt wx2 B (badL a)) (fun i _ _ => 31 - (intOf i).toNat)
        case atStart => exact ⟨0, rfl, by omega, hb3, hcs⟩
        case round =>
          obtain ⟨j, rfl, hj, hb4, hcs4⟩ := hrel
          clear hb3 hcs
          by_cases hlt : j < 31
          · have hcell := hcs4.2 j hlt
            have hp := formsOk_bad HOK.out hlt
            have hsl := bad_len a j
            have cp := parse_all ((badL a).getD j []) flow wr (hT.below hb4) (hM.below hb4) (by omega)
            generalize (badL a).getD j [] = s at *
            generalize parseR s flow = V at *
            obtain ⟨m, e⟩ := V
            dsimp only at hp cp
            obtain ⟨rfl, hp2⟩ := hp
            have HP := Lib.hid hp2
            clear hp2
            go_wp2_with fail
            refine cp.mono ?_
            rintro _ w4 ⟨vv, rfl, hnl, hb5⟩
            obtain ⟨A, cap, rfl⟩ := hnl.shape
            rw [HP.out]
            clear hnl cp
            go_wp2
            go_roundw
            case rel => exact ⟨j + 1, by go_num, by omega, bthen hb4 hb5, hcs4.below hb5⟩
            case measure => simp [intOf]; omega
          · have hge : (31 : Int) ≤ j := by omega
            clear hcs4
            go_wp2_with fail
            have hcs := TextsAt.made wr 9 (txtL a)
            have hcs : TextsAt (wr.alloc (.cells #[.string ⟨#[a, 10]⟩, .string ⟨#[a, 13, 10]⟩, .string ⟨#[0]⟩, .string ⟨#[239, 187, 191, a]⟩, .string ⟨#[255]⟩] 9)) wr.heap.size (txtL a) := hcs
            have hb3 : Below w.heap.size w (wr.alloc (.cells #[.string ⟨#[a, 10]⟩, .string ⟨#[a, 13, 10]⟩, .string ⟨#[0]⟩, .string ⟨#[239, 187, 191, a]⟩, .string ⟨#[255]⟩] 9)) := hb4.alloc hb4.size _
            generalize wr.alloc _ = w6 at hcs hb3 ⊢
            generalize wr.heap.size = B2 at hcs ⊢
            clear hb4
            go_loopw [168, 15] (fun i _ wx2 => ∃ j : Nat, i = .int .i64 j ∧ j ≤ 5 ∧ Below w.heap.size w wx2 ∧ TextsAt wx2 B2 (txtL a)) (fun i _ _ => 5 - (intOf i).toNat)
            case atStart => exact ⟨0, rfl, by omega, hb3, hcs⟩
            case round =>
              obtain ⟨j, rfl, hj, hb4, hcs4⟩ := hrel
              clear hb3 hcs
              by_cases hlt : j < 5
              · have hcell := hcs4.2 j hlt
                have hp := formsOk_txt HOK.out hlt
                have hsl := txt_len a j
                have cp := parse_all ((txtL a).getD j []) flow wr (hT.below hb4) (hM.below hb4) (by omega)
                generalize (txtL a).getD j [] = s at *
                generalize parseR s flow = V at *
                obtain ⟨m, e⟩ := V
                dsimp only at hp cp
                subst hp
                go_wp2_with fail
                refine cp.mono ?_
                rintro _ w4 ⟨vv, rfl, hnl, hb5⟩
                obtain ⟨A, cap, rfl⟩ := hnl.shape
                clear hnl cp
                go_wp2
                go_roundw
                case rel => exact ⟨j + 1, by go_num, by omega, bthen hb4 hb5, hcs4.below hb5⟩
                case measure => simp [intOf]; omega
              · have hge : (5 : Int) ≤ j := by omega
                clear hcs4
                go_wp2_with fail
                refine (wakes12_any wr (hT.below hb4)).mono ?_
                rintro _ w5 ⟨rfl, hb5⟩
                go_wp2
                go_ret
                exact ⟨rfl, bthen hb4 hb5⟩
      case _ =>
        intro s c left' w1 cnt1 hin hrg2 hlt hgr hsz hen
        have hp := formsOk_good HOK.out hin
        have hb2 : Below w.heap.size w w1 := hb1.grown hgr hb1.size (fun j hj => by cases hj; omega)
        have hsz' : wr.heap.size ≤ w1.heap.size := by omega
        have cp := parse_all s flow w1 (hT.below hb2) (hM.below hb2) (by omega)
        clear hsz hrg hin
        generalize parseR s flow = V at *
        obtain ⟨m, e⟩ := V
        dsimp only at hp cp
        obtain ⟨rfl, rfl, _⟩ := hp
        go_wp2_with fail
        refine cp.mono ?_
        rintro _ w2 ⟨vv, rfl, hnl, hb3⟩
        obtain ⟨A, cap, rfl⟩ := hnl.shape
        have hrg3 := hrg2.kept (below_grown hb3) (by simp) (by simp)
        clear hnl cp hen
        go_wp2
        go_roundw
        case rel => exact ⟨left', cnt1, hrg3, by have := hb3.size; omega, bthen hb2 hb3⟩
        case measure => rw [hrg3.left_eq, hrg1.left_eq]; omega
end Go.Proofs.YtmindclciogneaaDoor
