/- The reader's functions, by induction; Take. -/
import Derived.Test.YtmindclciogneaaDoorI17
import Derived.Test.YtmindclciogneaaDoorI18
import Derived.Test.YtmindclciogneaaDoorP6
namespace Go.Proofs.YtmindclciogneaaDoor
open Go.RowKit

structure AllC (f : Nat) : Prop where
  node : NodeC f
  coll : CollC f
  item : ItemC f
  pair : PairC f
theorem all_c (f : Nat) : AllC f := by
  induction f using Nat.strongRecOn with
  | _ f ih =>
    cases f with
    | zero =>
      refine ⟨?_, ?_, ?_, ?_⟩
      · intro w0 w B R A c b l at_ depth flow n e m h hat hd hm; simp [nodeM] at hm
      · intro w0 w B R A c b l i at_ depth e m h hi hat hd hm; simp [collM] at hm
      · intro w0 w B R A c b l i at_ depth n e m h hi hat hd hm; simp [itemM] at hm
      · intro w0 w B R A c b l i at_ depth n e m h hi hat hd hm; simp [pairM] at hm
    | succ f =>
      exact ⟨node_step f (ih f (Nat.lt_succ_self f)).coll, coll_step f (fun k hk => ⟨(ih k (by omega)).item, (ih k (by omega)).pair⟩), item_step f (ih f (Nat.lt_succ_self f)).node, pair_step f (ih f (Nat.lt_succ_self f)).node⟩

/-- A slice of nodes of the call's own, from block B on. -/
def NL (w : World) (B : Nat) (v : Value) (m : List Nd) : Prop := ∃ l : List (Nd × Value), l.map (·.1) = m ∧ w.ownsRow B 42 10 v l.length (flat l) ∧ Own w B l
theorem NL.nil (w : World) (B : Nat) : NL w B (.slice none 0 0) [] := ⟨[], rfl, World.ownsRow_nil _ _ _ _, ⟨(fun p hp => by cases hp), List.Pairwise.nil⟩⟩

/-- What Take answers. -/
def takeR (b : Bs) (flow : Bool) (depth : Nat) : List Nd × Nat × Nat := (takeM (4 * b.length + 1) b flow depth).getD ([], 0, 0)
theorem results_tmp3 {P : Program} {fn : Func} {t u v : Tmp} (h : fn.results = #[.tmp t, .tmp u, .tmp v]) (tmps : Array Value) (w : World) :
    (results fn tmps).run P w = .ok (.tuple #[tmps.getD t undef, tmps.getD u undef, tmps.getD v undef]) w := by
  simp [results, h]

set_option maxRecDepth 20000 in
set_option maxHeartbeats 1000000 in
theorem takeI_any (A : Option Addr) (c : Nat) (b : Bs) (flow : Bool) (depth : Nat) (w : World) (h : BA w A b) (hlc : b.length ≤ c) (hc : c ≤ 9223372036854775807) (hl : b.length ≤ 400000) (hd : depth ≤ 1000) :
    Calls Tryd.prog 37 #[.slice A b.length c, .bool flow, .int .i64 depth] w fun e w' => ∃ v, e = .returned (.tuple #[v, .int .i64 (takeR b flow depth).2.1, .int .i64 (takeR b flow depth).2.2]) ∧ NL w' w.heap.size v (takeR b flow depth).1 ∧ Below w.heap.size w w' := by
  obtain ⟨n, e, m, hm, hwt⟩ := takeM_some b flow depth
  have hT : takeR b flow depth = if e ≠ 0 then ([], 0, e) else (m, n, 0) := by
    unfold takeR takeM
    rw [hm]
    dsimp only
    split <;> rfl
  obtain ⟨V, hV⟩ : ∃ V, takeR b flow depth = V := ⟨_, rfl⟩
  rw [hV] at hT ⊢
  have HT := Lib.hid hT
  clear hT hV
  have h0 : RD w (w.alloc (.cells #[.slice A b.length c, .slice none 0 0] 115)) w.heap.size w.heap.size A c b [] :=
    ⟨Nat.le_refl _, ⟨_, heap_alloc_new w _, World.ownsRow_nil _ _ _ _⟩, ⟨(fun p hp => by cases hp), List.Pairwise.nil⟩, ⟨rfl, h, (Below.refl _ _).alloc (Nat.le_refl _) _⟩, hlc, by omega⟩
  have cn := (all_c _).node w _ _ _ A c b [] 0 depth flow n e m h0 (Nat.zero_le _) hd hm (by omega)
  clear hm h0
  go_enter Tryd.func37, Tryd.ntmps37
  go_wp2_with fail
  refine cn.mono ?_
  rintro x w1 ⟨rfl, l1, hl1, h1⟩
  clear cn
  have HL1 := Lib.hid hl1
  clear hl1
  by_cases he : e = 0
  · have hb : ((e : Int) != 0) = false := by subst he; rfl
    have HF : Hid (V = (m, n, 0)) := Lib.hid (by rw [HT.out, if_neg (by simpa using he)])
    obtain ⟨v, hv1, hv2⟩ := h1.state
    have hc1 : w1.cell? ⟨w.heap.size, 1, none⟩ = some v := by rw [cell_of_row _ _ _ _ _ (0, 0) hv1]; rfl
    clear HT he hv1
    go_wp2
    (try simp only [Exit.inBlock, Exit.then])
    refine bodyPost_ret (results_tmp3 rfl _ _) rfl ?_
    refine ⟨v, by rw [HF.out]; rfl, ?_, h1.bytes.2.2⟩
    rw [HF.out]
    exact ⟨l1, HL1.out, hv2, h1.own⟩
  · have hb : ((e : Int) != 0) = true := by
      simp only [bne_iff_ne, ne_eq]
      omega
    have HF : Hid (V = ([], 0, e)) := Lib.hid (by rw [HT.out, if_pos he])
    clear HT he
    go_wp2
    (try simp only [Exit.inBlock, Exit.then])
    refine bodyPost_ret (results_tmp3 rfl _ _) rfl ?_
    refine ⟨.slice none 0 0, by rw [HF.out]; rfl, ?_, h1.bytes.2.2⟩
    rw [HF.out]
    exact NL.nil _ _
end Go.Proofs.YtmindclciogneaaDoor
