/- The reader's contracts, said; an item of a sequence. -/
import Derived.Test.YtmindclciogneaaDoorI14
import Derived.Test.YtmindclciogneaaDoorP4
import Derived.Deep.AppendLies
import Derived.Deep.RegionLaw
import Derived.Deep.DrawnRows
namespace Go.Proofs.YtmindclciogneaaDoor
open Go.RowKit
attribute [local go_sem ↓] Go.wp_at_zero Go.wp_at_succ

theorem info_nd : (Tryd.prog.info? 42).map (fun i => (i.zero, i.size, i.bytes)) = some (some (.agg #[.int .i64 0, .int .i64 0, .string ⟨#[]⟩, .string ⟨#[]⟩, .string ⟨#[]⟩, .int .i64 0, .int .i64 0, .int .i64 0, .int .i64 0, .slice none 0 0]), 10, 120) := by kernel_rfl
theorem info_int : (Tryd.prog.info? 3).map (fun i => (i.zero, i.size, i.bytes)) = some (some (.int .i64 0), 1, 8) := by kernel_rfl

/-- The reader's list is as the model says. -/
def Got (w0 : World) (B R : Nat) (A : Option Addr) (c : Nat) (b : Bs) (m : List Nd) (w : World) : Prop := ∃ l : List (Nd × Value), l.map (·.1) = m ∧ RD w0 w B R A c b l
def NodeC (f : Nat) : Prop := ∀ (w0 w : World) (B R : Nat) (A : Option Addr) (c : Nat) (b : Bs) (l : List (Nd × Value)) (at_ depth : Nat) (flow : Bool) (n e : Nat) (m : List Nd),
  RD w0 w B R A c b l → at_ ≤ b.length → depth ≤ 1000 → nodeM f b at_ flow depth (l.map (·.1)) = some (n, e, m) → wt m ≤ 1000000 →
  Calls Tryd.prog 75 #[.pointer (some ⟨R, 0, none⟩), .int .i64 at_, .bool flow, .int .i64 depth] w fun x w' => x = .returned (.tuple #[.int .i64 n, .int .i64 e]) ∧ Got w0 B R A c b m w'
def CollC (f : Nat) : Prop := ∀ (w0 w : World) (B R : Nat) (A : Option Addr) (c : Nat) (b : Bs) (l : List (Nd × Value)) (i at_ depth : Nat) (e : Nat) (m : List Nd),
  RD w0 w B R A c b l → i < l.length → at_ < b.length → depth ≤ 1000 → collM f b i at_ depth (l.map (·.1)) = some (e, m) → wt m ≤ 1000000 →
  Calls Tryd.prog 119 #[.pointer (some ⟨R, 0, none⟩), .int .i64 i, .int .i64 at_, .int .i64 depth] w fun x w' => x = .returned (.int .i64 e) ∧ Got w0 B R A c b m w'
def ItemC (f : Nat) : Prop := ∀ (w0 w : World) (B R : Nat) (A : Option Addr) (c : Nat) (b : Bs) (l : List (Nd × Value)) (i at_ depth : Nat) (n e : Nat) (m : List Nd),
  RD w0 w B R A c b l → i < l.length → at_ ≤ b.length → depth ≤ 100 → itemM f b i at_ depth (l.map (·.1)) = some (n, e, m) → wt m ≤ 1000000 →
  Calls Tryd.prog 150 #[.pointer (some ⟨R, 0, none⟩), .int .i64 i, .int .i64 at_, .int .i64 depth] w fun x w' => x = .returned (.tuple #[.int .i64 n, .int .i64 e]) ∧ Got w0 B R A c b m w'
def PairC (f : Nat) : Prop := ∀ (w0 w : World) (B R : Nat) (A : Option Addr) (c : Nat) (b : Bs) (l : List (Nd × Value)) (i at_ depth : Nat) (n e : Nat) (m : List Nd),
  RD w0 w B R A c b l → i < l.length → at_ ≤ b.length → depth ≤ 100 → pairM f b i at_ depth (l.map (·.1)) = some (n, e, m) → wt m ≤ 1000000 →
  Calls Tryd.prog 151 #[.pointer (some ⟨R, 0, none⟩), .int .i64 i, .int .i64 at_, .int .i64 depth] w fun x w' => x = .returned (.tuple #[.int .i64 n, .int .i64 e]) ∧ Got w0 B R A c b m w'

theorem RD.list {w0 w : World} {B R : Nat} {A : Option Addr} {c : Nat} {b : Bs} {l : List (Nd × Value)} (h : RD w0 w B R A c b l) : ∃ A' cap', w.cell? ⟨R, 1, none⟩ = some (.slice A' l.length cap') := by
  obtain ⟨v, h1, hl, h2⟩ := h.state
  have : ∃ A' cap', v = .slice A' l.length cap' := by
    rcases h2 with ⟨rfl, h0⟩ | ⟨g, cap, cur, rfl, _⟩
    · exact ⟨none, 0, by rw [h0]⟩
    · exact ⟨_, _, rfl⟩
  obtain ⟨A', cap', rfl⟩ := this
  exact ⟨A', cap', by rw [cell_of_row _ _ _ _ _ (0, 0) h1]; rfl⟩
theorem map_at (l : List (Nd × Value)) (i : Nat) (h : i < l.length) : ∃ p, l[i]? = some p ∧ (l.map (·.1)).getD i nd0 = p.1 := by
  refine ⟨l[i], List.getElem?_eq_getElem h, ?_⟩
  simp [List.getD_eq_getElem?_getD, List.getElem?_eq_getElem h]
theorem map_set (l : List (Nd × Value)) (i : Nat) (q : Nd × Value) : (l.set i q).map (·.1) = (l.map (·.1)).set i q.1 := List.map_set

theorem RG.neR {w0 w : World} {B R : Nat} {A : Option Addr} {c : Nat} {b : Bs} {l : List (Nd × Value)} {g cap : Nat} (h : RG w0 w B R A c b l g cap) (p : Nd × Value) (hp : p ∈ l) : some R ≠ p.2.ownBlock := by
  intro e
  obtain ⟨_, ⟨e2, _⟩ | ⟨k, cap2, cur2, e2, _, hc2, _⟩⟩ := h.own.row p hp
  · rw [e2] at e; cases e
  · rw [e2] at e
    simp only [Value.ownBlock, Option.some.injEq] at e
    subst e
    have := h.at_
    rw [hc2] at this
    simp at this

theorem RG.kids {w0 w w3 : World} {B R : Nat} {A : Option Addr} {c : Nat} {b : Bs} {l : List (Nd × Value)} {g cap : Nat} (h : RG w0 w B R A c b l g cap) (o : Obj) (i : Nat) (y : Nd × Value) (hy : l[i]? = some y) (ks : List Nat) (gg cap' N : Nat)
    (hgrow : (w.alloc o).drew.grownBy w3 y.2.ownBlock)
    (hown : w3.ownsRow B 3 1 (.slice (some ⟨gg, 0, none⟩) N cap') N ((y.1.kids.map fun k : Nat => Value.int .i64 (k : Int)) ++ ks.map fun k : Nat => Value.int .i64 (k : Int)))
    (hN : N = y.1.kids.length + ks.length) (hat : y.2.ownBlock = some gg ∨ gg = w.heap.size + 1) :
    RG w0 (w3.setCell ⟨g, i * 10 + 9, none⟩ (.slice (some ⟨gg, 0, none⟩) N cap')) B R A c b (l.set i ({ y.1 with kids := y.1.kids ++ ks }, .slice (some ⟨gg, 0, none⟩) N cap')) g cap := by
  have hb : Below w.heap.size w (w.alloc o).drew := ((Below.refl _ _).alloc (Nat.le_refl _) o).drew
  refine (h.below hb).kid i y ({ y.1 with kids := y.1.kids ++ ks }, .slice (some ⟨gg, 0, none⟩) N cap') hy hgrow ?_ ?_ rfl
  · dsimp only
    rw [List.length_append, ← hN, List.map_append]
    exact hown
  · intro k hk
    simp only [Value.ownBlock, Option.some.injEq] at hk
    subst hk
    rcases hat with hat | hat
    · exact .inl hat
    · refine .inr ?_
      have : (w.alloc o).drew.heap.size = w.heap.size + 1 := by simp
      omega

set_option maxRecDepth 20000 in
set_option maxHeartbeats 400000 in
theorem item_step (f : Nat) (hN : NodeC f) : ItemC (f + 1) := by
  intro w0 w B R A c b l i at_ depth n e m h hi hat hd hm hwt
  rw [itemM] at hm
  cases hnode : nodeM f b at_ true (depth + 1) (l.map (·.1)) with
  | none => rw [hnode] at hm; cases hm
  | some r =>
    obtain ⟨n1, e1, m1⟩ := r
    rw [hnode] at hm
    dsimp only at hm
    have hF := (facts f).node _ _ _ _ _ _ _ _ hnode
    rw [List.length_map] at hF hm
    have hwt1 : wt m1 ≤ wt m := by
      split at hm
      · simp only [Option.some.injEq, Prod.mk.injEq] at hm
        rw [hm.2.2]; exact Nat.le_refl _
      · split at hm
        · simp only [Option.some.injEq, Prod.mk.injEq] at hm
          rw [hm.2.2]; exact Nat.le_refl _
        · simp only [Option.some.injEq, Prod.mk.injEq] at hm
          rw [← hm.2.2]; exact wt_set_le _ _ _ (by simp)
    have hwl := len_le_wt m1
    have c1 := hN w0 w B R A c b l at_ (depth + 1) true n1 e1 m1 h hat (by omega) hnode (by omega)
    obtain ⟨A', cap', hlist⟩ := h.list
    have HM := Lib.hid hm
    have HF := Lib.hid hF
    have hk : l.length < 1000000 ∨ l.length = 1000000 := by have := hF.1; omega
    clear hm hF hnode hN
    simp only [Int.natCast_add, Int.natCast_one] at c1
    go_enter Tryd.func150, Tryd.ntmps150
    go_wp2_with fail
    refine c1.mono ?_
    rintro x w1 ⟨rfl, l1, hl1, h1⟩
    clear c1
    have HL1 := Lib.hid hl1
    clear hl1
    by_cases he : e1 = 0
    · have hF := HF.out
      have hll : l.length < l1.length := by
        have := hF.2.2.1 he
        rw [← HL1.out, List.length_map] at this
        exact this
      have hb1 : ((e1 : Int) != 0) = false := by subst he; rfl
      obtain ⟨p, hp, hpm⟩ := map_at l1 l.length hll
      have hlen1 : l1.length ≤ 1000000 := by
        have h1 : l1.length = m1.length := by rw [← HL1.out, List.length_map]
        omega
      have c2 := none_any h1 l.length p hp hlen1
      have HM2 : Hid ((if noneB p.1 then some (0, 2, m1) else some (n1, 0, m1.set i { m1.getD i nd0 with kids := (m1.getD i nd0).kids ++ [l.length] })) = some (n, e, m)) := Lib.hid (by
        have := HM.out
        rw [if_neg (by simpa using he), ← HL1.out, hpm, HL1.out] at this
        exact this)
      have HE := Lib.hid he
      clear hF he HF HM hpm hwl
      generalize noneB p.1 = q at *
      have HP := Lib.hid hp
      clear hp
      cases q
      · go_wp2_with fail
        refine c2.mono ?_
        rintro x w2 ⟨rfl, hb2⟩
        clear c2
        have h2 := h1.below hb2
        obtain ⟨g, cap, h3⟩ := h2.rg (by omega)
        have hil : i < l1.length := by omega
        obtain ⟨y, hy, hym⟩ := map_at l1 i hil
        have hc1 := h3.lst
        have hc2 : w2.cell? ⟨g, i * 10 + 9, none⟩ = some y.2 := h3.cell i 9 y hy (by omega)
        have hfr := h3.free (i * 10 + 9)
        have hii : (i : Int) < l1.length := by omega
        have hi0 : (0 : Int) ≤ (i : Int) := Int.natCast_nonneg _
        have hown := h3.own.row y (List.mem_of_getElem? hy)
        have hneg : some g ≠ y.2.ownBlock := by
          obtain ⟨_, _, _, cur, h6, _⟩ := h3.row
          exact fun e => own_ne hown h6 e.symm
        have hneR : some R ≠ y.2.ownBlock := h3.neR y (List.mem_of_getElem? hy)
        have hlg : g < w2.heap.size := World.block_lt_of_cell? w2 _ hc2
        have hlR : R < w2.heap.size := World.block_lt_of_cell? w2 _ hc1
        have hB : B ≤ w2.heap.size := by have := h3.base; omega
        have hfa : ∀ o, (w2.alloc o).frozen? ⟨g, i * 10 + 9, none⟩ = false := fun o => by
          rw [World.frozen?_alloc_past _ _ _ hlg]
          exact hfr
        obtain ⟨i0, hz, hz0, hz1, hz2⟩ := info_parts info_int
        have hkn : y.1.kids.length ≤ 1000000 := by
          have h1 := kids_le_wt m1 i (by have := congrArg List.length HL1.out; simp at this; omega)
          rw [← HL1.out, hym, HL1.out] at h1
          omega
        have HYM := Lib.hid hym
        have HF : Hid (n1 = n ∧ 0 = e ∧ m1.set i { m1.getD i nd0 with kids := (m1.getD i nd0).kids ++ [l.length] } = m) := Lib.hid (by simpa using HM2.out)
        clear hym HM2
        go_wp2_with fail
        go_region_law
          ((refine step_append_lies _ (by rfl) _ _ _ (by rfl) B 3 i0 _ 1 8 Tryd.underlying37 hz hz0 hz1 hz2 rfl (by omega) y.2 y.1.kids.length (y.1.kids.map fun k : Nat => Value.int .i64 (k : Int)) (by rfl) ((hown.alloc _).drew)
              ⟨w2.heap.size, 0, none⟩ 1 1 [.int .i64 (l.length : Int)] (by rfl) (by rfl) (World.news_of_block (cs := #[.int .i64 (l.length : Int)]) (t := 3) (fr := (0, 0)) (heap_alloc_new w2 _)) (by simp [Value.oneCell'])
              (by omega) (by unfold maxLen; omega) (by omega) (by simp; omega) (w2.heap.size + 1) (by simp) ?_; intro gg cap' w3 hown1 hgrow hat hlt
            have e1 : w3.cell? ⟨g, i * 10 + 9, none⟩ = some y.2 := by
              rw [hgrow.cell_far _ (by simp; omega) hneg]
              exact (World.cell?_alloc_past _ _ _ hlg).trans hc2
            have e2 : w3.frozen? ⟨g, i * 10 + 9, none⟩ = false := by
              rw [hgrow.frozen_far _ (by simp; omega) hneg]
              exact hfa _
            have e3 : w3.cell? ⟨R, 1, none⟩ = some (.slice (some ⟨g, 0, none⟩) l1.length cap) := by
              rw [hgrow.cell_far _ (by simp; omega) hneR]
              exact (World.cell?_alloc_past _ _ _ hlR).trans hc1))
        all_goals
          go_wp2
          go_ret2
          obtain ⟨rfl, rfl, rfl⟩ := HF.out
          refine ⟨by rw [HE.out]; rfl, l1.set i ({ y.1 with kids := y.1.kids ++ [l.length] }, .slice (some ⟨gg, 0, none⟩) (y.1.kids.length + 1) cap'), ?_, ?_⟩
          · rw [map_set, HL1.out, ← HYM.out, HL1.out]
          · exact (h3.kids _ i y hy [l.length] gg cap' _ hgrow hown1 rfl hat).rd
      · have HF : Hid (0 = n ∧ 2 = e ∧ m1 = m) := Lib.hid (by simpa using HM2.out)
        go_wp2_with fail
        refine c2.mono ?_
        rintro x w2 ⟨rfl, hb2⟩
        clear c2 HM2
        go_wp2
        go_ret2
        obtain ⟨rfl, rfl, rfl⟩ := HF.out
        exact ⟨rfl, l1, HL1.out, h1.below hb2⟩
    · have hb1 : ((e1 : Int) != 0) = true := by
        simp only [bne_iff_ne, ne_eq]
        omega
      have HM2 : Hid (0 = n ∧ e1 = e ∧ m1 = m) := Lib.hid (by
        have := HM.out
        rw [if_pos he] at this
        simpa using this)
      clear HM HF he
      go_wp2
      go_ret2
      obtain ⟨rfl, rfl, rfl⟩ := HM2.out
      exact ⟨rfl, l1, HL1.out, h1⟩
end Go.Proofs.YtmindclciogneaaDoor
