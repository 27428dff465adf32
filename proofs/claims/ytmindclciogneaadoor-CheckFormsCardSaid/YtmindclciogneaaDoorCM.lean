/- scholiumlaw14.CheckForms: its map's data. -/
import Derived.Test.YtmindclciogneaaDoorMF
import Derived.Test.YtmindclciogneaaDoorProg
namespace Go.Proofs.YtmindclciogneaaDoor
open Go.RowKit

/-- The map's table. -/
def chkTab (a : UInt8) : List (Bs × Int) := [([91, 38, 120, 32, a, 32, 44, 32, 42, 120, 32, 93], 0), ([91, 42, 120, 32, 44, 32, 38, 120, 32, a, 93], 4), ([42, 120], 4), ([38, 120, 32, 91, 42, 120, 32, 93], 0), ([91, 38, 120, 32, 49, 32, 44, 32, 38, 120, 32, 50, 93], 5), ([123, a, 58, 32, 49, 44, 32, a, 58, 32, 50, 125], 5), ([123, a, 58, 32, 49, 44, 32, 34, a, 34, 58, 32, 50, 125], 5), ([123, 49, 58, 32, 49, 44, 32, 39, 49, 39, 58, 32, 50, 125], 0), ([123, 49, 58, 32, 49, 44, 32, 48, 120, 49, 58, 32, 50, 125], 0), ([123, a, 58, 32, 123, a, 58, 32, 49, 125, 125], 0), ([91, 123, a, 58, 32, 49, 125, 44, 32, 123, a, 58, 32, 49, 125, 93], 0), ([123, 116, 114, 117, 101, 58, 32, 49, 44, 32, 116, 114, 117, 101, 58, 32, 50, 125], 5)]
noncomputable def chkOps : Array Oper := regOps 2 Tryd.f6.body
def chkSpec : List (Op × Option Tmp) := [
  (.makeMap 44 none, some 16),
  (.move (.tmp 3), some 17),
  (.binOp .add 9 (.const (.string ⟨#[91, 38, 120, 32]⟩)) (.tmp 17) 9, some 18),
  (.binOp .add 9 (.tmp 18) (.const (.string ⟨#[32, 44, 32, 42, 120, 32, 93]⟩)) 9, some 19),
  (.insert 44 (.tmp 16) (.tmp 19) (.const (.int .i64 0)), none),
  (.move (.tmp 3), some 20),
  (.binOp .add 9 (.const (.string ⟨#[91, 42, 120, 32, 44, 32, 38, 120, 32]⟩)) (.tmp 20) 9, some 21),
  (.binOp .add 9 (.tmp 21) (.const (.string ⟨#[93]⟩)) 9, some 22),
  (.insert 44 (.tmp 16) (.tmp 22) (.const (.int .i64 4)), none),
  (.insert 44 (.tmp 16) (.const (.string ⟨#[42, 120]⟩)) (.const (.int .i64 4)), none),
  (.insert 44 (.tmp 16) (.const (.string ⟨#[38, 120, 32, 91, 42, 120, 32, 93]⟩)) (.const (.int .i64 0)), none),
  (.insert 44 (.tmp 16) (.const (.string ⟨#[91, 38, 120, 32, 49, 32, 44, 32, 38, 120, 32, 50, 93]⟩)) (.const (.int .i64 5)), none),
  (.move (.tmp 3), some 23),
  (.binOp .add 9 (.const (.string ⟨#[123]⟩)) (.tmp 23) 9, some 24),
  (.binOp .add 9 (.tmp 24) (.const (.string ⟨#[58, 32, 49, 44, 32]⟩)) 9, some 25),
  (.move (.tmp 3), some 26),
  (.binOp .add 9 (.tmp 25) (.tmp 26) 9, some 27),
  (.binOp .add 9 (.tmp 27) (.const (.string ⟨#[58, 32, 50, 125]⟩)) 9, some 28),
  (.insert 44 (.tmp 16) (.tmp 28) (.const (.int .i64 5)), none),
  (.move (.tmp 3), some 29),
  (.binOp .add 9 (.const (.string ⟨#[123]⟩)) (.tmp 29) 9, some 30),
  (.binOp .add 9 (.tmp 30) (.const (.string ⟨#[58, 32, 49, 44, 32, 34]⟩)) 9, some 31),
  (.move (.tmp 3), some 32),
  (.binOp .add 9 (.tmp 31) (.tmp 32) 9, some 33),
  (.binOp .add 9 (.tmp 33) (.const (.string ⟨#[34, 58, 32, 50, 125]⟩)) 9, some 34),
  (.insert 44 (.tmp 16) (.tmp 34) (.const (.int .i64 5)), none),
  (.insert 44 (.tmp 16) (.const (.string ⟨#[123, 49, 58, 32, 49, 44, 32, 39, 49, 39, 58, 32, 50, 125]⟩)) (.const (.int .i64 0)), none),
  (.insert 44 (.tmp 16) (.const (.string ⟨#[123, 49, 58, 32, 49, 44, 32, 48, 120, 49, 58, 32, 50, 125]⟩)) (.const (.int .i64 0)), none),
  (.move (.tmp 3), some 35),
  (.binOp .add 9 (.const (.string ⟨#[123]⟩)) (.tmp 35) 9, some 36),
  (.binOp .add 9 (.tmp 36) (.const (.string ⟨#[58, 32, 123]⟩)) 9, some 37),
  (.move (.tmp 3), some 38),
  (.binOp .add 9 (.tmp 37) (.tmp 38) 9, some 39),
  (.binOp .add 9 (.tmp 39) (.const (.string ⟨#[58, 32, 49, 125, 125]⟩)) 9, some 40),
  (.insert 44 (.tmp 16) (.tmp 40) (.const (.int .i64 0)), none),
  (.move (.tmp 3), some 41),
  (.binOp .add 9 (.const (.string ⟨#[91, 123]⟩)) (.tmp 41) 9, some 42),
  (.binOp .add 9 (.tmp 42) (.const (.string ⟨#[58, 32, 49, 125, 44, 32, 123]⟩)) 9, some 43),
  (.move (.tmp 3), some 44),
  (.binOp .add 9 (.tmp 43) (.tmp 44) 9, some 45),
  (.binOp .add 9 (.tmp 45) (.const (.string ⟨#[58, 32, 49, 125, 93]⟩)) 9, some 46),
  (.insert 44 (.tmp 16) (.tmp 46) (.const (.int .i64 0)), none),
  (.insert 44 (.tmp 16) (.const (.string ⟨#[123, 116, 114, 117, 101, 58, 32, 49, 44, 32, 116, 114, 117, 101, 58, 32, 50, 125]⟩)) (.const (.int .i64 5)), none),
  (.move (.tmp 16), some 47),
  (.range 44 (.tmp 47), some 48)]
theorem chkSpec_is : chkOps.toList.map (fun o => (o.op, o.dst)) = chkSpec := by kernel_rfl
def chkVals (n0 : Nat) (a : UInt8) : List (Tmp × Value) := [(16, .map (some n0)), (17, .string ⟨#[a]⟩), (18, .string ⟨#[91, 38, 120, 32, a]⟩), (19, .string ⟨#[91, 38, 120, 32, a, 32, 44, 32, 42, 120, 32, 93]⟩), (20, .string ⟨#[a]⟩), (21, .string ⟨#[91, 42, 120, 32, 44, 32, 38, 120, 32, a]⟩), (22, .string ⟨#[91, 42, 120, 32, 44, 32, 38, 120, 32, a, 93]⟩), (23, .string ⟨#[a]⟩), (24, .string ⟨#[123, a]⟩), (25, .string ⟨#[123, a, 58, 32, 49, 44, 32]⟩), (26, .string ⟨#[a]⟩), (27, .string ⟨#[123, a, 58, 32, 49, 44, 32, a]⟩), (28, .string ⟨#[123, a, 58, 32, 49, 44, 32, a, 58, 32, 50, 125]⟩), (29, .string ⟨#[a]⟩), (30, .string ⟨#[123, a]⟩), (31, .string ⟨#[123, a, 58, 32, 49, 44, 32, 34]⟩), (32, .string ⟨#[a]⟩), (33, .string ⟨#[123, a, 58, 32, 49, 44, 32, 34, a]⟩), (34, .string ⟨#[123, a, 58, 32, 49, 44, 32, 34, a, 34, 58, 32, 50, 125]⟩), (35, .string ⟨#[a]⟩), (36, .string ⟨#[123, a]⟩), (37, .string ⟨#[123, a, 58, 32, 123]⟩), (38, .string ⟨#[a]⟩), (39, .string ⟨#[123, a, 58, 32, 123, a]⟩), (40, .string ⟨#[123, a, 58, 32, 123, a, 58, 32, 49, 125, 125]⟩), (41, .string ⟨#[a]⟩), (42, .string ⟨#[91, 123, a]⟩), (43, .string ⟨#[91, 123, a, 58, 32, 49, 125, 44, 32, 123]⟩), (44, .string ⟨#[a]⟩), (45, .string ⟨#[91, 123, a, 58, 32, 49, 125, 44, 32, 123, a]⟩), (46, .string ⟨#[91, 123, a, 58, 32, 49, 125, 44, 32, 123, a, 58, 32, 49, 125, 93]⟩), (47, .map (some n0))]
set_option maxRecDepth 20000 in
set_option maxHeartbeats 2000000 in
theorem chkKinds (n0 : Nat) (a : UInt8) (base : Tmp → Value) (ha : base 3 = .string ⟨#[a]⟩) : ∀ (i : Nat) (op : Op) (dst : Option Tmp), chkSpec[i]? = some (op, dst) → i ≠ 44 → LitOp 44 .i64 (valOf (chkVals n0 a) base) n0 (chkTab a) 16 op dst := by
  intro i op dst h hne
  have hi : i < 45 := (List.getElem?_eq_some_iff.1 h).1
  have hA : valOf (chkVals n0 a) base 3 = .string ⟨#[a]⟩ := ha
  match i, hi with
  | 0, _ => obtain ⟨rfl, rfl⟩ := Prod.mk.inj (Option.some.inj h); exact .make rfl rfl
  | 1, _ => obtain ⟨rfl, rfl⟩ := Prod.mk.inj (Option.some.inj h); exact .move 17 (.tmp 3) rfl rfl hA.symm
  | 2, _ => obtain ⟨rfl, rfl⟩ := Prod.mk.inj (Option.some.inj h); exact .add 18 (.const (.string ⟨#[91, 38, 120, 32]⟩)) (.tmp 17) 9 9 ⟨([91, 38, 120, 32] : Bs).toArray⟩ ⟨([a] : Bs).toArray⟩ rfl rfl rfl rfl (congrArg Value.string (app_l [91, 38, 120, 32] [a]).symm) (by rw [size_l, size_l]; simp)
  | 3, _ => obtain ⟨rfl, rfl⟩ := Prod.mk.inj (Option.some.inj h); exact .add 19 (.tmp 18) (.const (.string ⟨#[32, 44, 32, 42, 120, 32, 93]⟩)) 9 9 ⟨([91, 38, 120, 32, a] : Bs).toArray⟩ ⟨([32, 44, 32, 42, 120, 32, 93] : Bs).toArray⟩ rfl rfl rfl rfl (congrArg Value.string (app_l [91, 38, 120, 32, a] [32, 44, 32, 42, 120, 32, 93]).symm) (by rw [size_l, size_l]; simp)
  | 4, _ => obtain ⟨rfl, rfl⟩ := Prod.mk.inj (Option.some.inj h); exact .ins (.tmp 19) (.const (.int .i64 0)) ⟨([91, 38, 120, 32, a, 32, 44, 32, 42, 120, 32, 93] : Bs).toArray⟩ 0 rfl rfl rfl rfl (by decide) (by rw [size_l]; simp) (by simp [chkTab])
  | 5, _ => obtain ⟨rfl, rfl⟩ := Prod.mk.inj (Option.some.inj h); exact .move 20 (.tmp 3) rfl rfl hA.symm
  | 6, _ => obtain ⟨rfl, rfl⟩ := Prod.mk.inj (Option.some.inj h); exact .add 21 (.const (.string ⟨#[91, 42, 120, 32, 44, 32, 38, 120, 32]⟩)) (.tmp 20) 9 9 ⟨([91, 42, 120, 32, 44, 32, 38, 120, 32] : Bs).toArray⟩ ⟨([a] : Bs).toArray⟩ rfl rfl rfl rfl (congrArg Value.string (app_l [91, 42, 120, 32, 44, 32, 38, 120, 32] [a]).symm) (by rw [size_l, size_l]; simp)
  | 7, _ => obtain ⟨rfl, rfl⟩ := Prod.mk.inj (Option.some.inj h); exact .add 22 (.tmp 21) (.const (.string ⟨#[93]⟩)) 9 9 ⟨([91, 42, 120, 32, 44, 32, 38, 120, 32, a] : Bs).toArray⟩ ⟨([93] : Bs).toArray⟩ rfl rfl rfl rfl (congrArg Value.string (app_l [91, 42, 120, 32, 44, 32, 38, 120, 32, a] [93]).symm) (by rw [size_l, size_l]; simp)
  | 8, _ => obtain ⟨rfl, rfl⟩ := Prod.mk.inj (Option.some.inj h); exact .ins (.tmp 22) (.const (.int .i64 4)) ⟨([91, 42, 120, 32, 44, 32, 38, 120, 32, a, 93] : Bs).toArray⟩ 4 rfl rfl rfl rfl (by decide) (by rw [size_l]; simp) (by simp [chkTab])
  | 9, _ => obtain ⟨rfl, rfl⟩ := Prod.mk.inj (Option.some.inj h); exact .ins (.const (.string ⟨#[42, 120]⟩)) (.const (.int .i64 4)) ⟨([42, 120] : Bs).toArray⟩ 4 rfl rfl rfl rfl (by decide) (by rw [size_l]; simp) (by simp [chkTab])
  | 10, _ => obtain ⟨rfl, rfl⟩ := Prod.mk.inj (Option.some.inj h); exact .ins (.const (.string ⟨#[38, 120, 32, 91, 42, 120, 32, 93]⟩)) (.const (.int .i64 0)) ⟨([38, 120, 32, 91, 42, 120, 32, 93] : Bs).toArray⟩ 0 rfl rfl rfl rfl (by decide) (by rw [size_l]; simp) (by simp [chkTab])
  | 11, _ => obtain ⟨rfl, rfl⟩ := Prod.mk.inj (Option.some.inj h); exact .ins (.const (.string ⟨#[91, 38, 120, 32, 49, 32, 44, 32, 38, 120, 32, 50, 93]⟩)) (.const (.int .i64 5)) ⟨([91, 38, 120, 32, 49, 32, 44, 32, 38, 120, 32, 50, 93] : Bs).toArray⟩ 5 rfl rfl rfl rfl (by decide) (by rw [size_l]; simp) (by simp [chkTab])
  | 12, _ => obtain ⟨rfl, rfl⟩ := Prod.mk.inj (Option.some.inj h); exact .move 23 (.tmp 3) rfl rfl hA.symm
  | 13, _ => obtain ⟨rfl, rfl⟩ := Prod.mk.inj (Option.some.inj h); exact .add 24 (.const (.string ⟨#[123]⟩)) (.tmp 23) 9 9 ⟨([123] : Bs).toArray⟩ ⟨([a] : Bs).toArray⟩ rfl rfl rfl rfl (congrArg Value.string (app_l [123] [a]).symm) (by rw [size_l, size_l]; simp)
  | 14, _ => obtain ⟨rfl, rfl⟩ := Prod.mk.inj (Option.some.inj h); exact .add 25 (.tmp 24) (.const (.string ⟨#[58, 32, 49, 44, 32]⟩)) 9 9 ⟨([123, a] : Bs).toArray⟩ ⟨([58, 32, 49, 44, 32] : Bs).toArray⟩ rfl rfl rfl rfl (congrArg Value.string (app_l [123, a] [58, 32, 49, 44, 32]).symm) (by rw [size_l, size_l]; simp)
  | 15, _ => obtain ⟨rfl, rfl⟩ := Prod.mk.inj (Option.some.inj h); exact .move 26 (.tmp 3) rfl rfl hA.symm
  | 16, _ => obtain ⟨rfl, rfl⟩ := Prod.mk.inj (Option.some.inj h); exact .add 27 (.tmp 25) (.tmp 26) 9 9 ⟨([123, a, 58, 32, 49, 44, 32] : Bs).toArray⟩ ⟨([a] : Bs).toArray⟩ rfl rfl rfl rfl (congrArg Value.string (app_l [123, a, 58, 32, 49, 44, 32] [a]).symm) (by rw [size_l, size_l]; simp)
  | 17, _ => obtain ⟨rfl, rfl⟩ := Prod.mk.inj (Option.some.inj h); exact .add 28 (.tmp 27) (.const (.string ⟨#[58, 32, 50, 125]⟩)) 9 9 ⟨([123, a, 58, 32, 49, 44, 32, a] : Bs).toArray⟩ ⟨([58, 32, 50, 125] : Bs).toArray⟩ rfl rfl rfl rfl (congrArg Value.string (app_l [123, a, 58, 32, 49, 44, 32, a] [58, 32, 50, 125]).symm) (by rw [size_l, size_l]; simp)
  | 18, _ => obtain ⟨rfl, rfl⟩ := Prod.mk.inj (Option.some.inj h); exact .ins (.tmp 28) (.const (.int .i64 5)) ⟨([123, a, 58, 32, 49, 44, 32, a, 58, 32, 50, 125] : Bs).toArray⟩ 5 rfl rfl rfl rfl (by decide) (by rw [size_l]; simp) (by simp [chkTab])
  | 19, _ => obtain ⟨rfl, rfl⟩ := Prod.mk.inj (Option.some.inj h); exact .move 29 (.tmp 3) rfl rfl hA.symm
  | 20, _ => obtain ⟨rfl, rfl⟩ := Prod.mk.inj (Option.some.inj h); exact .add 30 (.const (.string ⟨#[123]⟩)) (.tmp 29) 9 9 ⟨([123] : Bs).toArray⟩ ⟨([a] : Bs).toArray⟩ rfl rfl rfl rfl (congrArg Value.string (app_l [123] [a]).symm) (by rw [size_l, size_l]; simp)
  | 21, _ => obtain ⟨rfl, rfl⟩ := Prod.mk.inj (Option.some.inj h); exact .add 31 (.tmp 30) (.const (.string ⟨#[58, 32, 49, 44, 32, 34]⟩)) 9 9 ⟨([123, a] : Bs).toArray⟩ ⟨([58, 32, 49, 44, 32, 34] : Bs).toArray⟩ rfl rfl rfl rfl (congrArg Value.string (app_l [123, a] [58, 32, 49, 44, 32, 34]).symm) (by rw [size_l, size_l]; simp)
  | 22, _ => obtain ⟨rfl, rfl⟩ := Prod.mk.inj (Option.some.inj h); exact .move 32 (.tmp 3) rfl rfl hA.symm
  | 23, _ => obtain ⟨rfl, rfl⟩ := Prod.mk.inj (Option.some.inj h); exact .add 33 (.tmp 31) (.tmp 32) 9 9 ⟨([123, a, 58, 32, 49, 44, 32, 34] : Bs).toArray⟩ ⟨([a] : Bs).toArray⟩ rfl rfl rfl rfl (congrArg Value.string (app_l [123, a, 58, 32, 49, 44, 32, 34] [a]).symm) (by rw [size_l, size_l]; simp)
  | 24, _ => obtain ⟨rfl, rfl⟩ := Prod.mk.inj (Option.some.inj h); exact .add 34 (.tmp 33) (.const (.string ⟨#[34, 58, 32, 50, 125]⟩)) 9 9 ⟨([123, a, 58, 32, 49, 44, 32, 34, a] : Bs).toArray⟩ ⟨([34, 58, 32, 50, 125] : Bs).toArray⟩ rfl rfl rfl rfl (congrArg Value.string (app_l [123, a, 58, 32, 49, 44, 32, 34, a] [34, 58, 32, 50, 125]).symm) (by rw [size_l, size_l]; simp)
  | 25, _ => obtain ⟨rfl, rfl⟩ := Prod.mk.inj (Option.some.inj h); exact .ins (.tmp 34) (.const (.int .i64 5)) ⟨([123, a, 58, 32, 49, 44, 32, 34, a, 34, 58, 32, 50, 125] : Bs).toArray⟩ 5 rfl rfl rfl rfl (by decide) (by rw [size_l]; simp) (by simp [chkTab])
  | 26, _ => obtain ⟨rfl, rfl⟩ := Prod.mk.inj (Option.some.inj h); exact .ins (.const (.string ⟨#[123, 49, 58, 32, 49, 44, 32, 39, 49, 39, 58, 32, 50, 125]⟩)) (.const (.int .i64 0)) ⟨([123, 49, 58, 32, 49, 44, 32, 39, 49, 39, 58, 32, 50, 125] : Bs).toArray⟩ 0 rfl rfl rfl rfl (by decide) (by rw [size_l]; simp) (by simp [chkTab])
  | 27, _ => obtain ⟨rfl, rfl⟩ := Prod.mk.inj (Option.some.inj h); exact .ins (.const (.string ⟨#[123, 49, 58, 32, 49, 44, 32, 48, 120, 49, 58, 32, 50, 125]⟩)) (.const (.int .i64 0)) ⟨([123, 49, 58, 32, 49, 44, 32, 48, 120, 49, 58, 32, 50, 125] : Bs).toArray⟩ 0 rfl rfl rfl rfl (by decide) (by rw [size_l]; simp) (by simp [chkTab])
  | 28, _ => obtain ⟨rfl, rfl⟩ := Prod.mk.inj (Option.some.inj h); exact .move 35 (.tmp 3) rfl rfl hA.symm
  | 29, _ => obtain ⟨rfl, rfl⟩ := Prod.mk.inj (Option.some.inj h); exact .add 36 (.const (.string ⟨#[123]⟩)) (.tmp 35) 9 9 ⟨([123] : Bs).toArray⟩ ⟨([a] : Bs).toArray⟩ rfl rfl rfl rfl (congrArg Value.string (app_l [123] [a]).symm) (by rw [size_l, size_l]; simp)
  | 30, _ => obtain ⟨rfl, rfl⟩ := Prod.mk.inj (Option.some.inj h); exact .add 37 (.tmp 36) (.const (.string ⟨#[58, 32, 123]⟩)) 9 9 ⟨([123, a] : Bs).toArray⟩ ⟨([58, 32, 123] : Bs).toArray⟩ rfl rfl rfl rfl (congrArg Value.string (app_l [123, a] [58, 32, 123]).symm) (by rw [size_l, size_l]; simp)
  | 31, _ => obtain ⟨rfl, rfl⟩ := Prod.mk.inj (Option.some.inj h); exact .move 38 (.tmp 3) rfl rfl hA.symm
  | 32, _ => obtain ⟨rfl, rfl⟩ := Prod.mk.inj (Option.some.inj h); exact .add 39 (.tmp 37) (.tmp 38) 9 9 ⟨([123, a, 58, 32, 123] : Bs).toArray⟩ ⟨([a] : Bs).toArray⟩ rfl rfl rfl rfl (congrArg Value.string (app_l [123, a, 58, 32, 123] [a]).symm) (by rw [size_l, size_l]; simp)
  | 33, _ => obtain ⟨rfl, rfl⟩ := Prod.mk.inj (Option.some.inj h); exact .add 40 (.tmp 39) (.const (.string ⟨#[58, 32, 49, 125, 125]⟩)) 9 9 ⟨([123, a, 58, 32, 123, a] : Bs).toArray⟩ ⟨([58, 32, 49, 125, 125] : Bs).toArray⟩ rfl rfl rfl rfl (congrArg Value.string (app_l [123, a, 58, 32, 123, a] [58, 32, 49, 125, 125]).symm) (by rw [size_l, size_l]; simp)
  | 34, _ => obtain ⟨rfl, rfl⟩ := Prod.mk.inj (Option.some.inj h); exact .ins (.tmp 40) (.const (.int .i64 0)) ⟨([123, a, 58, 32, 123, a, 58, 32, 49, 125, 125] : Bs).toArray⟩ 0 rfl rfl rfl rfl (by decide) (by rw [size_l]; simp) (by simp [chkTab])
  | 35, _ => obtain ⟨rfl, rfl⟩ := Prod.mk.inj (Option.some.inj h); exact .move 41 (.tmp 3) rfl rfl hA.symm
  | 36, _ => obtain ⟨rfl, rfl⟩ := Prod.mk.inj (Option.some.inj h); exact .add 42 (.const (.string ⟨#[91, 123]⟩)) (.tmp 41) 9 9 ⟨([91, 123] : Bs).toArray⟩ ⟨([a] : Bs).toArray⟩ rfl rfl rfl rfl (congrArg Value.string (app_l [91, 123] [a]).symm) (by rw [size_l, size_l]; simp)
  | 37, _ => obtain ⟨rfl, rfl⟩ := Prod.mk.inj (Option.some.inj h); exact .add 43 (.tmp 42) (.const (.string ⟨#[58, 32, 49, 125, 44, 32, 123]⟩)) 9 9 ⟨([91, 123, a] : Bs).toArray⟩ ⟨([58, 32, 49, 125, 44, 32, 123] : Bs).toArray⟩ rfl rfl rfl rfl (congrArg Value.string (app_l [91, 123, a] [58, 32, 49, 125, 44, 32, 123]).symm) (by rw [size_l, size_l]; simp)
  | 38, _ => obtain ⟨rfl, rfl⟩ := Prod.mk.inj (Option.some.inj h); exact .move 44 (.tmp 3) rfl rfl hA.symm
  | 39, _ => obtain ⟨rfl, rfl⟩ := Prod.mk.inj (Option.some.inj h); exact .add 45 (.tmp 43) (.tmp 44) 9 9 ⟨([91, 123, a, 58, 32, 49, 125, 44, 32, 123] : Bs).toArray⟩ ⟨([a] : Bs).toArray⟩ rfl rfl rfl rfl (congrArg Value.string (app_l [91, 123, a, 58, 32, 49, 125, 44, 32, 123] [a]).symm) (by rw [size_l, size_l]; simp)
  | 40, _ => obtain ⟨rfl, rfl⟩ := Prod.mk.inj (Option.some.inj h); exact .add 46 (.tmp 45) (.const (.string ⟨#[58, 32, 49, 125, 93]⟩)) 9 9 ⟨([91, 123, a, 58, 32, 49, 125, 44, 32, 123, a] : Bs).toArray⟩ ⟨([58, 32, 49, 125, 93] : Bs).toArray⟩ rfl rfl rfl rfl (congrArg Value.string (app_l [91, 123, a, 58, 32, 49, 125, 44, 32, 123, a] [58, 32, 49, 125, 93]).symm) (by rw [size_l, size_l]; simp)
  | 41, _ => obtain ⟨rfl, rfl⟩ := Prod.mk.inj (Option.some.inj h); exact .ins (.tmp 46) (.const (.int .i64 0)) ⟨([91, 123, a, 58, 32, 49, 125, 44, 32, 123, a, 58, 32, 49, 125, 93] : Bs).toArray⟩ 0 rfl rfl rfl rfl (by decide) (by rw [size_l]; simp) (by simp [chkTab])
  | 42, _ => obtain ⟨rfl, rfl⟩ := Prod.mk.inj (Option.some.inj h); exact .ins (.const (.string ⟨#[123, 116, 114, 117, 101, 58, 32, 49, 44, 32, 116, 114, 117, 101, 58, 32, 50, 125]⟩)) (.const (.int .i64 5)) ⟨([123, 116, 114, 117, 101, 58, 32, 49, 44, 32, 116, 114, 117, 101, 58, 32, 50, 125] : Bs).toArray⟩ 5 rfl rfl rfl rfl (by decide) (by rw [size_l]; simp) (by simp [chkTab])
  | 43, _ => obtain ⟨rfl, rfl⟩ := Prod.mk.inj (Option.some.inj h); exact .move 47 (.tmp 16) rfl rfl rfl
  | 44, _ => exact absurd rfl hne

theorem chkSize : chkOps.size ≤ 1000000 := by
  have h : chkOps.size = 45 := by kernel_rfl
  omega
set_option maxRecDepth 100000 in
theorem chkReg (n0 : Nat) (a : UInt8) (base : Tmp → Value) (ha : base 3 = .string ⟨#[a]⟩) (N : Nat) (hN : N = 99) : LitReg Tryd.prog chkOps 44 9 33 .i64 (valOf (chkVals n0 a) base) (chkTab a) 16 0 44 n0 N :=
  hN ▸ LitReg.of (dr := 48) (rx := 47) chkSpec_is (by kernel_rfl) (chkKinds n0 a base ha) rfl (by decide) (by decide) rfl rfl rfl (by kernel_rfl) chkSize
end Go.Proofs.YtmindclciogneaaDoor
