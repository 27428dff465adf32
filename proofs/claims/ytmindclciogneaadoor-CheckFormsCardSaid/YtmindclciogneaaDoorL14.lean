/- scholiumlaw14.CheckForms: the walk. -/
import Derived.Test.YtmindclciogneaaDoorK5
import Derived.Test.YtmindclciogneaaDoorI21
import Derived.Test.YtmindclciogneaaDoorWI
import Derived.Test.YtmindclciogneaaDoorCM
namespace Go.Proofs.YtmindclciogneaaDoor
open Go.RowKit
open Go.Maps (Keyed)
attribute [local go_sem ↓] Go.wp_at_zero Go.wp_at_succ

def lettersC : Bs := [97, 98, 99, 100, 101, 102, 103, 104]
def treeOk (m : List Nd) : Bool := decide (m.length ≤ 1000000) && decide (sumK m ≤ 1000000) && m.all (fun y => y.kids.all fun k => decide (k < m.length)) && m.all (fun y => decide (y.tag.length ≤ 1000000) && decide (y.anchor.length ≤ 1000000) && decide (y.value.length ≤ 1000000))
theorem treeOk_is {m : List Nd} (h : treeOk m = true) : m.length ≤ 1000000 ∧ sumK m ≤ 1000000 ∧ (∀ y ∈ m, ∀ k ∈ y.kids, k < m.length) ∧ (∀ y ∈ m, y.tag.length ≤ 1000000 ∧ y.anchor.length ≤ 1000000 ∧ y.value.length ≤ 1000000) := by
  unfold treeOk at h
  simp only [Bool.and_eq_true, decide_eq_true_eq, List.all_eq_true] at h
  exact ⟨h.1.1.1, h.1.1.2, fun y hy k hk => h.1.2 y hy k hk, fun y hy => ⟨(h.2 y hy).1.1, (h.2 y hy).1.2, (h.2 y hy).2⟩⟩
/-- What the loop asks of one entry. -/
def entryOk (p : Bs × Int) : Bool :=
  let V := parseR p.1 true
  V.2 == 0 && treeOk V.1 && (((checkM V.1).1 : Int) == p.2) && (((composeM V.1).2 : Int) == p.2) && decide (p.1.length ≤ 100) &&
  ((p.2 == 0 && (checkM V.1).2 == 0 && decide (0 < (composeM V.1).1.length)) || (p.2 == 4 && (composeM V.1).1.length == 0) || (p.2 == 5 && (checkM V.1).2 != 0 && (composeM V.1).1.length == 0))
theorem chk_ok : ∀ v, v < 8 → (chkTab (lettersC.getD v 0)).all entryOk = true := by decide +kernel
theorem letterC_at (v : Nat) (h : v < 8) : ∃ X, (∀ W, (Instr.slice 9 (.string ⟨#[97, 98, 99, 100, 101, 102, 103, 104]⟩) (some (.int .i64 v)) none none).run Tryd.prog W = .ok (.string X) W) ∧ ∀ W, (Instr.slice 9 (.string X) none (some (.int .i64 1)) none).run Tryd.prog W = .ok (.string ⟨#[lettersC.getD v 0]⟩) W := by
  match v, h with
  | 0, _ => exact ⟨⟨(lettersC.drop 0).toArray⟩, fun W => by kernel_rfl, fun W => by kernel_rfl⟩
  | 1, _ => exact ⟨⟨(lettersC.drop 1).toArray⟩, fun W => by kernel_rfl, fun W => by kernel_rfl⟩
  | 2, _ => exact ⟨⟨(lettersC.drop 2).toArray⟩, fun W => by kernel_rfl, fun W => by kernel_rfl⟩
  | 3, _ => exact ⟨⟨(lettersC.drop 3).toArray⟩, fun W => by kernel_rfl, fun W => by kernel_rfl⟩
  | 4, _ => exact ⟨⟨(lettersC.drop 4).toArray⟩, fun W => by kernel_rfl, fun W => by kernel_rfl⟩
  | 5, _ => exact ⟨⟨(lettersC.drop 5).toArray⟩, fun W => by kernel_rfl, fun W => by kernel_rfl⟩
  | 6, _ => exact ⟨⟨(lettersC.drop 6).toArray⟩, fun W => by kernel_rfl, fun W => by kernel_rfl⟩
  | 7, _ => exact ⟨⟨(lettersC.drop 7).toArray⟩, fun W => by kernel_rfl, fun W => by kernel_rfl⟩

theorem lawC : Keyed Tryd.prog 9 := Maps.string_keyed Tryd.underlying9
theorem chk_last44 : ∃ o, chkOps[44]? = some o ∧ o.dst = some 48 := by
  have h : (chkOps[44]?).map (fun o => o.dst) = some (some 48) := by kernel_rfl
  rw [Option.map_eq_some_iff] at h
  exact h
theorem chk_last (o : Oper) {t : Tmp} (ho : chkOps[44]? = some o) (hd : o.dst = some t) (ht : t ≠ 48) : False := by
  obtain ⟨o', ho', hd'⟩ := chk_last44
  rw [ho] at ho'
  cases ho'
  rw [hd] at hd'
  exact ht (Option.some.inj hd')
theorem entry_is {s : Bs} {c : Int} (h : entryOk (s, c) = true) : (parseR s true).2 = 0 ∧ treeOk (parseR s true).1 = true ∧ ((checkM (parseR s true).1).1 : Int) = c ∧ ((composeM (parseR s true).1).2 : Int) = c ∧ s.length ≤ 100 ∧
    ((c = 0 ∧ (checkM (parseR s true).1).2 = 0 ∧ 0 < (composeM (parseR s true).1).1.length) ∨ (c = 4 ∧ (composeM (parseR s true).1).1.length = 0) ∨ (c = 5 ∧ (checkM (parseR s true).1).2 ≠ 0 ∧ (composeM (parseR s true).1).1.length = 0)) := by
  unfold entryOk at h
  simp only [Bool.and_eq_true, Bool.or_eq_true, beq_iff_eq, decide_eq_true_eq, bne_iff_ne, ne_eq] at h
  obtain ⟨⟨⟨⟨⟨h1, h2⟩, h3⟩, h4⟩, h5⟩, h6⟩ := h
  exact ⟨h1, h2, h3, h4, h5, by
    rcases h6 with (h6 | h6) | h6
    · exact .inl ⟨h6.1.1, h6.1.2, h6.2⟩
    · exact .inr (.inl h6)
    · exact .inr (.inr ⟨h6.1.1, h6.1.2, h6.2⟩)⟩

set_option maxRecDepth 100000 in
set_option maxHeartbeats 1000000 in
theorem CheckForms_in (n : Int) (w : World) (hT : Tabs w) (hM : Maxl w) (h1 : -9223372036854775808 ≤ n) (h2 : n ≤ 9223372036854775807) :
    Calls Tryd.prog 6 #[.int .i64 n] w fun e w' => e = .returned (.bool true) ∧ Below w.heap.size w w' := by
  have hw := fun W => within_any n 8 W h1 h2 (by omega) (by omega)
  obtain ⟨v, hv⟩ : ∃ v : Nat, n % 8 = v := ⟨(n % 8).toNat, by omega⟩
  have hv8 : v < 8 := by omega
  rw [hv] at hw
  clear hv
  obtain ⟨X, hx1, hx2⟩ := letterC_at v hv8
  have hok := chk_ok v hv8
  generalize lettersC.getD v 0 = a at *
  have HOK := Lib.hid hok
  clear hok hv8
  go_enter Tryd.func6, Tryd.ntmps6
  go_wp2_with (go_at_call 11; refine (hw _).mono ?_; rintro e w' ⟨rfl, rfl⟩)
  clear hw
  go_upto_region 2 with fail
  go_cut [3, 48] (fun l it wx => l = .string ⟨#[a]⟩ ∧ ∃ k D r, it = .pointer (some ⟨r, 0, none⟩) ∧ GoodD .i64 (chkTab a) D ∧ wx.ranges Tryd.prog 9 (plainElem Tryd.prog 33) w.heap.size r k D (Maps.has D) (Maps.size D) ∧ w.heap.size < r ∧ r < wx.heap.size ∧ Below w.heap.size w wx)
  case first =>
    show Code.wp Tryd.prog (Code.region 2 chkOps true) _ _ _
    refine wp_maplit (val := valOf (chkVals w.heap.size a) (fun t => (#[.int .i64 n, undef, .bool false, .string ⟨#[a]⟩, undef, undef, undef, undef, undef, undef, undef, undef, .int .i64 n, .int .i64 v, .string X, .string ⟨#[a]⟩, undef, undef, undef, undef, undef, undef, undef, undef, undef, undef, undef, undef, undef, undef, undef, undef, undef, undef, undef, undef, undef, undef, undef, undef, undef, undef, undef, undef, undef, undef, undef, undef, undef, undef, undef, undef, undef, undef, undef, undef, undef, undef, undef, undef, undef, undef, undef, undef, undef, undef, undef, undef, undef, undef, undef, undef, undef, undef, undef, undef, undef, undef, undef, undef, undef, undef, undef, undef, undef, undef, undef, undef, undef, undef, undef, undef, undef, undef, undef, undef, undef, undef, undef] : Array Value).getD t undef)) (by kernel_rfl) (chkReg w.heap.size a _ rfl _ rfl) lawC Tryd.underlying44 Tryd.underlying9 Tryd.underlying33 (val_or chkSpec_is _ _ (by rfl)) ?_
    intro ax wx k D r e1 e2 e3 e4 hgood hrg hr1 hr2 hb
    have e := frame_is ax 48 (.pointer (some ⟨r, 0, none⟩)) 99 e2 e1 (fun t ht => e3 t (fun o ho hd => chk_last o ho hd ht)) (by
      obtain ⟨o, ho, hd⟩ := chk_last44
      exact e4 o 48 ho hd)
    clear e1 e2 e3 e4
    subst e
    show Exit.then _ _ Exit.normal ⟨#[.int .i64 n, undef, .bool false, .string ⟨#[a]⟩, undef, undef, undef, undef, undef, undef, undef, undef, .int .i64 n, .int .i64 v, .string X, .string ⟨#[a]⟩, .map (some w.heap.size), .string ⟨#[a]⟩, .string ⟨#[91, 38, 120, 32, a]⟩, .string ⟨#[91, 38, 120, 32, a, 32, 44, 32, 42, 120, 32, 93]⟩, .string ⟨#[a]⟩, .string ⟨#[91, 42, 120, 32, 44, 32, 38, 120, 32, a]⟩, .string ⟨#[91, 42, 120, 32, 44, 32, 38, 120, 32, a, 93]⟩, .string ⟨#[a]⟩, .string ⟨#[123, a]⟩, .string ⟨#[123, a, 58, 32, 49, 44, 32]⟩, .string ⟨#[a]⟩, .string ⟨#[123, a, 58, 32, 49, 44, 32, a]⟩, .string ⟨#[123, a, 58, 32, 49, 44, 32, a, 58, 32, 50, 125]⟩, .string ⟨#[a]⟩, .string ⟨#[123, a]⟩, .string ⟨#[123, a, 58, 32, 49, 44, 32, 34]⟩, .string ⟨#[a]⟩, .string ⟨#[123, a, 58, 32, 49, 44, 32, 34, a]⟩, .string ⟨#[123, a, 58, 32, 49, 44, 32, 34, a, 34, 58, 32, 50, 125]⟩, .string ⟨#[a]⟩, .string ⟨#[123, a]⟩, .string ⟨#[123, a, 58, 32, 123]⟩, .string ⟨#[a]⟩, .string ⟨#[123, a, 58, 32, 123, a]⟩, .string ⟨#[123, a, 58, 32, 123, a, 58, 32, 49, 125, 125]⟩, .string ⟨#[a]⟩, .string ⟨#[91, 123, a]⟩, .string ⟨#[91, 123, a, 58, 32, 49, 125, 44, 32, 123]⟩, .string ⟨#[a]⟩, .string ⟨#[91, 123, a, 58, 32, 49, 125, 44, 32, 123, a]⟩, .string ⟨#[91, 123, a, 58, 32, 49, 125, 44, 32, 123, a, 58, 32, 49, 125, 93]⟩, .map (some w.heap.size), .pointer (some ⟨r, 0, none⟩), undef, undef, undef, undef, undef, undef, undef, undef, undef, undef, undef, undef, undef, undef, undef, undef, undef, undef, undef, undef, undef, undef, undef, undef, undef, undef, undef, undef, undef, undef, undef, undef, undef, undef, undef, undef, undef, undef, undef, undef, undef, undef, undef, undef, undef, undef, undef, undef, undef, undef], []⟩ wx
    go_wp2_with fail
    go_meet
    exact ⟨rfl, k, D, r, rfl, hgood, hrg, hr1, hr2, hb⟩
  case rest =>
    obtain ⟨rfl, k, D, r, rfl, hgood, hrg, hr1, hr2, hb⟩ := hcut
    have HG := Lib.hid hgood
    clear hgood hx1 hx2
    go_wp2_with fail
    go_loopw [4] (fun _ wr => ∃ left cnt, wr.ranges Tryd.prog 9 (plainElem Tryd.prog 33) w.heap.size r k D left cnt ∧ r < wr.heap.size ∧ Below w.heap.size w wr) (fun _ wr => wr.rangeLeft w.heap.size r)
    case atStart => exact ⟨_, _, hrg, hr2, hb⟩
    case round =>
      obtain ⟨left, cnt, hrg1, hr3, hb1⟩ := hrel
      go_wp2_with (at_next; refine wpList_next_lit _ rfl _ rfl 9 33 .i64 lawC Tryd.underlying9 Tryd.underlying33 (chkTab a) w.heap.size r k D HG.out left cnt rfl hrg1 ?_ ?_)
      case _ =>
        clear hrg hrg1
        go_wp2_with fail
        refine (wakes14_any wr).mono ?_
        rintro _ w5 ⟨rfl, hb5⟩
        go_wp2
        go_ret
        exact ⟨rfl, bthen hb1 hb5⟩
      case _ =>
        intro s c left' w1 cnt1 hin hrg2 hlt hgr hsz hen
        obtain ⟨hp0, hto, hck, hcm, hsl, hcs⟩ := entry_is (List.all_eq_true.1 HOK.out _ hin)
        obtain ⟨k1, k2, k3, k4⟩ := treeOk_is hto
        have hb2 : Below w.heap.size w w1 := hb1.grown hgr hb1.size (fun j hj => by cases hj; omega)
        have hsz' : wr.heap.size ≤ w1.heap.size := by omega
        have cp := parse_all s true w1 (hT.below hb2) (hM.below hb2) (by omega)
        clear hsz hrg hin hto hsl
        generalize parseR s true = V at *
        obtain ⟨m, e⟩ := V
        dsimp only at hp0 cp hck hcm hcs k1 k2 k3 k4
        subst hp0
        have k5 : ∀ y ∈ m, ∀ k ∈ y.kids, k ≤ 1000000 := fun y hy k hk => by have := k3 y hy k hk; omega
        have ck := fun v W (h : TreeR W v m) => ccheck_any v m W h k1 k2 k5 k4
        have cc := fun v W (h : TreeR W v m) => compose_any v m W h k1 k2 k3 k4
        clear k1 k2 k3 k4 k5
        generalize checkM m = C at *
        obtain ⟨cd, cat⟩ := C
        generalize composeM m = G at *
        obtain ⟨gs, ce⟩ := G
        dsimp only at ck cc hck hcm hcs
        subst hck
        obtain rfl : ce = cd := by omega
        clear hcm
        go_wp2_with fail
        refine cp.mono ?_
        rintro _ w2 ⟨vv, rfl, hnl, hb3⟩
        have htr := hnl.tree
        obtain ⟨A, cap, rfl⟩ := htr.shape
        have hrg3 := hrg2.kept (below_grown hb3) (by simp) (by simp)
        have s3 := hb3.size
        replace hb3 := bthen hb2 hb3
        clear hnl cp hen hrg2
        go_wp2_with fail
        refine (ck _ _ htr).mono ?_
        rintro _ w3 ⟨rfl, hb4⟩
        have htr2 := htr.below hb4
        have hrg4 := hrg3.kept (below_grown hb4) (by simp) (by simp)
        have s4 := hb4.size
        replace hb4 := bthen hb3 hb4
        clear ck htr hrg3 hb3
        go_wp2_with fail
        refine (cc _ _ htr2).mono ?_
        rintro _ w4 ⟨uu, l, rfl, ho, hl, hb5⟩
        obtain ⟨A3, cap3, rfl⟩ := ho.shape
        have hll : l.length = gs.length := by rw [← hl, List.length_map]
        have hrg5 := hrg4.kept (below_grown hb5) (by simp) (by simp)
        have s5 := hb5.size
        replace hb5 := bthen hb4 hb5
        clear cc htr2 hrg4 hb4 ho hl
        generalize l.length = L at *
        have hrs : r < w4.heap.size := by omega
        clear s3 s4 s5
        rcases hcs with ⟨hc, hcat, hg⟩ | ⟨hc, hg⟩ | ⟨hc, hcat, hg⟩
        · obtain rfl : ce = 0 := by omega
          subst hcat
          have hL : (0 : Int) < L := by omega
          go_wp2
          go_roundw
          case rel => exact ⟨left', cnt1, hrg5, hrs, hb5⟩
          case measure => rw [hrg5.left_eq, hrg1.left_eq]; omega
        · obtain rfl : ce = 4 := by omega
          obtain rfl : L = 0 := by omega
          clear hc hg hll
          by_cases hcat : cat = 0
          · subst hcat
            go_wp2
            go_roundw
            case rel => exact ⟨left', cnt1, hrg5, hrs, hb5⟩
            case measure => rw [hrg5.left_eq, hrg1.left_eq]; omega
          · have hcb : ((cat : Int) == 0) = false := by rw [beq_eq_false_iff_ne]; omega
            go_wp2
            go_roundw
            case rel => exact ⟨left', cnt1, hrg5, hrs, hb5⟩
            case measure => rw [hrg5.left_eq, hrg1.left_eq]; omega
        · obtain rfl : ce = 5 := by omega
          obtain rfl : L = 0 := by omega
          clear hc hg hll
          have hcb : ((cat : Int) == 0) = false := by rw [beq_eq_false_iff_ne]; omega
          go_wp2
          go_roundw
          case rel => exact ⟨left', cnt1, hrg5, hrs, hb5⟩
          case measure => rw [hrg5.left_eq, hrg1.left_eq]; omega
end Go.Proofs.YtmindclciogneaaDoor
