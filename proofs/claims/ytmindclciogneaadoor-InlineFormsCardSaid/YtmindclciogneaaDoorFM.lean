/- scholiumlaw12.InlineForms: its map's data. -/
import Derived.Test.YtmindclciogneaaDoorML
import Derived.Test.YtmindclciogneaaDoorProg
namespace Go.Proofs.YtmindclciogneaaDoor
open Go.RowKit

/-- The map's table. -/
def formsTab (a : UInt8) : List (Bs × Int) := [([a], 1), ([39, a, 39], 1), ([91, 93], 1), ([91, 32, 93], 1), ([123, 125], 1), ([91, a, 93], 2), ([91, 32, a, 32, 44, 32, 98, 32, 93], 3), ([123, a, 58, 32, 49, 125], 3), ([123, a, 58, 32, 125], 3), ([123, a, 58, 44, 32, 98, 58, 32, 50, 125], 5), ([123, 39, a, 39, 32, 58, 32, 91, 49, 93, 125], 4), ([91, 91, 93, 44, 32, 123, 125, 93], 3), ([42, a], 1), ([38, 120, 32, a], 1), ([33, 116], 1), ([38, 120, 32, 33, 33, 115, 116, 114], 1), ([91, 42, a, 32, 44, 32, 42, 98, 93], 3), ([91, 33, 116, 32, 44, 32, a, 93], 3), ([38, 120, 32, 91, a, 93], 2), ([34, a, 92, 110, 34], 1), ([45, a], 1), ([32, a], 1)]
noncomputable def formsOps : Array Oper := regOps 2 Tryd.f4.body
def formsSpec : List (Op × Option Tmp) := [
  (.makeMap 31 none, some 22),
  (.move (.tmp 5), some 23),
  (.insert 31 (.tmp 22) (.tmp 23) (.const (.int .i64 1)), none),
  (.move (.tmp 5), some 24),
  (.binOp .add 9 (.const (.string ⟨#[39]⟩)) (.tmp 24) 9, some 25),
  (.binOp .add 9 (.tmp 25) (.const (.string ⟨#[39]⟩)) 9, some 26),
  (.insert 31 (.tmp 22) (.tmp 26) (.const (.int .i64 1)), none),
  (.insert 31 (.tmp 22) (.const (.string ⟨#[91, 93]⟩)) (.const (.int .i64 1)), none),
  (.insert 31 (.tmp 22) (.const (.string ⟨#[91, 32, 93]⟩)) (.const (.int .i64 1)), none),
  (.insert 31 (.tmp 22) (.const (.string ⟨#[123, 125]⟩)) (.const (.int .i64 1)), none),
  (.move (.tmp 5), some 27),
  (.binOp .add 9 (.const (.string ⟨#[91]⟩)) (.tmp 27) 9, some 28),
  (.binOp .add 9 (.tmp 28) (.const (.string ⟨#[93]⟩)) 9, some 29),
  (.insert 31 (.tmp 22) (.tmp 29) (.const (.int .i64 2)), none),
  (.move (.tmp 5), some 30),
  (.binOp .add 9 (.const (.string ⟨#[91, 32]⟩)) (.tmp 30) 9, some 31),
  (.binOp .add 9 (.tmp 31) (.const (.string ⟨#[32, 44, 32, 98, 32, 93]⟩)) 9, some 32),
  (.insert 31 (.tmp 22) (.tmp 32) (.const (.int .i64 3)), none),
  (.move (.tmp 5), some 33),
  (.binOp .add 9 (.const (.string ⟨#[123]⟩)) (.tmp 33) 9, some 34),
  (.binOp .add 9 (.tmp 34) (.const (.string ⟨#[58, 32, 49, 125]⟩)) 9, some 35),
  (.insert 31 (.tmp 22) (.tmp 35) (.const (.int .i64 3)), none),
  (.move (.tmp 5), some 36),
  (.binOp .add 9 (.const (.string ⟨#[123]⟩)) (.tmp 36) 9, some 37),
  (.binOp .add 9 (.tmp 37) (.const (.string ⟨#[58, 32, 125]⟩)) 9, some 38),
  (.insert 31 (.tmp 22) (.tmp 38) (.const (.int .i64 3)), none),
  (.move (.tmp 5), some 39),
  (.binOp .add 9 (.const (.string ⟨#[123]⟩)) (.tmp 39) 9, some 40),
  (.binOp .add 9 (.tmp 40) (.const (.string ⟨#[58, 44, 32, 98, 58, 32, 50, 125]⟩)) 9, some 41),
  (.insert 31 (.tmp 22) (.tmp 41) (.const (.int .i64 5)), none),
  (.move (.tmp 5), some 42),
  (.binOp .add 9 (.const (.string ⟨#[123, 39]⟩)) (.tmp 42) 9, some 43),
  (.binOp .add 9 (.tmp 43) (.const (.string ⟨#[39, 32, 58, 32, 91, 49, 93, 125]⟩)) 9, some 44),
  (.insert 31 (.tmp 22) (.tmp 44) (.const (.int .i64 4)), none),
  (.insert 31 (.tmp 22) (.const (.string ⟨#[91, 91, 93, 44, 32, 123, 125, 93]⟩)) (.const (.int .i64 3)), none),
  (.move (.tmp 5), some 45),
  (.binOp .add 9 (.const (.string ⟨#[42]⟩)) (.tmp 45) 9, some 46),
  (.insert 31 (.tmp 22) (.tmp 46) (.const (.int .i64 1)), none),
  (.move (.tmp 5), some 47),
  (.binOp .add 9 (.const (.string ⟨#[38, 120, 32]⟩)) (.tmp 47) 9, some 48),
  (.insert 31 (.tmp 22) (.tmp 48) (.const (.int .i64 1)), none),
  (.insert 31 (.tmp 22) (.const (.string ⟨#[33, 116]⟩)) (.const (.int .i64 1)), none),
  (.insert 31 (.tmp 22) (.const (.string ⟨#[38, 120, 32, 33, 33, 115, 116, 114]⟩)) (.const (.int .i64 1)), none),
  (.move (.tmp 5), some 49),
  (.binOp .add 9 (.const (.string ⟨#[91, 42]⟩)) (.tmp 49) 9, some 50),
  (.binOp .add 9 (.tmp 50) (.const (.string ⟨#[32, 44, 32, 42, 98, 93]⟩)) 9, some 51),
  (.insert 31 (.tmp 22) (.tmp 51) (.const (.int .i64 3)), none),
  (.move (.tmp 5), some 52),
  (.binOp .add 9 (.const (.string ⟨#[91, 33, 116, 32, 44, 32]⟩)) (.tmp 52) 9, some 53),
  (.binOp .add 9 (.tmp 53) (.const (.string ⟨#[93]⟩)) 9, some 54),
  (.insert 31 (.tmp 22) (.tmp 54) (.const (.int .i64 3)), none),
  (.move (.tmp 5), some 55),
  (.binOp .add 9 (.const (.string ⟨#[38, 120, 32, 91]⟩)) (.tmp 55) 9, some 56),
  (.binOp .add 9 (.tmp 56) (.const (.string ⟨#[93]⟩)) 9, some 57),
  (.insert 31 (.tmp 22) (.tmp 57) (.const (.int .i64 2)), none),
  (.move (.tmp 5), some 58),
  (.binOp .add 9 (.const (.string ⟨#[34]⟩)) (.tmp 58) 9, some 59),
  (.binOp .add 9 (.tmp 59) (.const (.string ⟨#[92, 110, 34]⟩)) 9, some 60),
  (.insert 31 (.tmp 22) (.tmp 60) (.const (.int .i64 1)), none),
  (.move (.tmp 5), some 61),
  (.binOp .add 9 (.const (.string ⟨#[45]⟩)) (.tmp 61) 9, some 62),
  (.insert 31 (.tmp 22) (.tmp 62) (.const (.int .i64 1)), none),
  (.move (.tmp 5), some 63),
  (.binOp .add 9 (.const (.string ⟨#[32]⟩)) (.tmp 63) 9, some 64),
  (.insert 31 (.tmp 22) (.tmp 64) (.const (.int .i64 1)), none),
  (.move (.tmp 22), some 65),
  (.range 31 (.tmp 65), some 66)]
theorem formsSpec_is : formsOps.toList.map (fun o => (o.op, o.dst)) = formsSpec := by kernel_rfl
def formsVals (n0 : Nat) (a : UInt8) : List (Tmp × Value) := [(22, .map (some n0)), (23, .string ⟨#[a]⟩), (24, .string ⟨#[a]⟩), (25, .string ⟨#[39, a]⟩), (26, .string ⟨#[39, a, 39]⟩), (27, .string ⟨#[a]⟩), (28, .string ⟨#[91, a]⟩), (29, .string ⟨#[91, a, 93]⟩), (30, .string ⟨#[a]⟩), (31, .string ⟨#[91, 32, a]⟩), (32, .string ⟨#[91, 32, a, 32, 44, 32, 98, 32, 93]⟩), (33, .string ⟨#[a]⟩), (34, .string ⟨#[123, a]⟩), (35, .string ⟨#[123, a, 58, 32, 49, 125]⟩), (36, .string ⟨#[a]⟩), (37, .string ⟨#[123, a]⟩), (38, .string ⟨#[123, a, 58, 32, 125]⟩), (39, .string ⟨#[a]⟩), (40, .string ⟨#[123, a]⟩), (41, .string ⟨#[123, a, 58, 44, 32, 98, 58, 32, 50, 125]⟩), (42, .string ⟨#[a]⟩), (43, .string ⟨#[123, 39, a]⟩), (44, .string ⟨#[123, 39, a, 39, 32, 58, 32, 91, 49, 93, 125]⟩), (45, .string ⟨#[a]⟩), (46, .string ⟨#[42, a]⟩), (47, .string ⟨#[a]⟩), (48, .string ⟨#[38, 120, 32, a]⟩), (49, .string ⟨#[a]⟩), (50, .string ⟨#[91, 42, a]⟩), (51, .string ⟨#[91, 42, a, 32, 44, 32, 42, 98, 93]⟩), (52, .string ⟨#[a]⟩), (53, .string ⟨#[91, 33, 116, 32, 44, 32, a]⟩), (54, .string ⟨#[91, 33, 116, 32, 44, 32, a, 93]⟩), (55, .string ⟨#[a]⟩), (56, .string ⟨#[38, 120, 32, 91, a]⟩), (57, .string ⟨#[38, 120, 32, 91, a, 93]⟩), (58, .string ⟨#[a]⟩), (59, .string ⟨#[34, a]⟩), (60, .string ⟨#[34, a, 92, 110, 34]⟩), (61, .string ⟨#[a]⟩), (62, .string ⟨#[45, a]⟩), (63, .string ⟨#[a]⟩), (64, .string ⟨#[32, a]⟩), (65, .map (some n0))]
set_option maxRecDepth 20000 in
set_option maxHeartbeats 2000000 in
theorem formsKinds (n0 : Nat) (a : UInt8) (base : Tmp → Value) (ha : base 5 = .string ⟨#[a]⟩) : ∀ (i : Nat) (op : Op) (dst : Option Tmp), formsSpec[i]? = some (op, dst) → i ≠ 66 → LitOp 31 .i64 (valOf (formsVals n0 a) base) n0 (formsTab a) 22 op dst := by
  intro i op dst h hne
  have hi : i < 67 := (List.getElem?_eq_some_iff.1 h).1
  have hA : valOf (formsVals n0 a) base 5 = .string ⟨#[a]⟩ := ha
  match i, hi with
  | 0, _ => obtain ⟨rfl, rfl⟩ := Prod.mk.inj (Option.some.inj h); exact .make rfl rfl
  | 1, _ => obtain ⟨rfl, rfl⟩ := Prod.mk.inj (Option.some.inj h); exact .move 23 (.tmp 5) rfl rfl hA.symm
  | 2, _ => obtain ⟨rfl, rfl⟩ := Prod.mk.inj (Option.some.inj h); exact .ins (.tmp 23) (.const (.int .i64 1)) ⟨([a] : Bs).toArray⟩ 1 rfl rfl rfl rfl (by decide) (by rw [size_l]; simp) (by simp [formsTab])
  | 3, _ => obtain ⟨rfl, rfl⟩ := Prod.mk.inj (Option.some.inj h); exact .move 24 (.tmp 5) rfl rfl hA.symm
  | 4, _ => obtain ⟨rfl, rfl⟩ := Prod.mk.inj (Option.some.inj h); exact .add 25 (.const (.string ⟨#[39]⟩)) (.tmp 24) 9 9 ⟨([39] : Bs).toArray⟩ ⟨([a] : Bs).toArray⟩ rfl rfl rfl rfl (congrArg Value.string (app_l [39] [a]).symm) (by rw [size_l, size_l]; simp)
  | 5, _ => obtain ⟨rfl, rfl⟩ := Prod.mk.inj (Option.some.inj h); exact .add 26 (.tmp 25) (.const (.string ⟨#[39]⟩)) 9 9 ⟨([39, a] : Bs).toArray⟩ ⟨([39] : Bs).toArray⟩ rfl rfl rfl rfl (congrArg Value.string (app_l [39, a] [39]).symm) (by rw [size_l, size_l]; simp)
  | 6, _ => obtain ⟨rfl, rfl⟩ := Prod.mk.inj (Option.some.inj h); exact .ins (.tmp 26) (.const (.int .i64 1)) ⟨([39, a, 39] : Bs).toArray⟩ 1 rfl rfl rfl rfl (by decide) (by rw [size_l]; simp) (by simp [formsTab])
  | 7, _ => obtain ⟨rfl, rfl⟩ := Prod.mk.inj (Option.some.inj h); exact .ins (.const (.string ⟨#[91, 93]⟩)) (.const (.int .i64 1)) ⟨([91, 93] : Bs).toArray⟩ 1 rfl rfl rfl rfl (by decide) (by rw [size_l]; simp) (by simp [formsTab])
  | 8, _ => obtain ⟨rfl, rfl⟩ := Prod.mk.inj (Option.some.inj h); exact .ins (.const (.string ⟨#[91, 32, 93]⟩)) (.const (.int .i64 1)) ⟨([91, 32, 93] : Bs).toArray⟩ 1 rfl rfl rfl rfl (by decide) (by rw [size_l]; simp) (by simp [formsTab])
  | 9, _ => obtain ⟨rfl, rfl⟩ := Prod.mk.inj (Option.some.inj h); exact .ins (.const (.string ⟨#[123, 125]⟩)) (.const (.int .i64 1)) ⟨([123, 125] : Bs).toArray⟩ 1 rfl rfl rfl rfl (by decide) (by rw [size_l]; simp) (by simp [formsTab])
  | 10, _ => obtain ⟨rfl, rfl⟩ := Prod.mk.inj (Option.some.inj h); exact .move 27 (.tmp 5) rfl rfl hA.symm
  | 11, _ => obtain ⟨rfl, rfl⟩ := Prod.mk.inj (Option.some.inj h); exact .add 28 (.const (.string ⟨#[91]⟩)) (.tmp 27) 9 9 ⟨([91] : Bs).toArray⟩ ⟨([a] : Bs).toArray⟩ rfl rfl rfl rfl (congrArg Value.string (app_l [91] [a]).symm) (by rw [size_l, size_l]; simp)
  | 12, _ => obtain ⟨rfl, rfl⟩ := Prod.mk.inj (Option.some.inj h); exact .add 29 (.tmp 28) (.const (.string ⟨#[93]⟩)) 9 9 ⟨([91, a] : Bs).toArray⟩ ⟨([93] : Bs).toArray⟩ rfl rfl rfl rfl (congrArg Value.string (app_l [91, a] [93]).symm) (by rw [size_l, size_l]; simp)
  | 13, _ => obtain ⟨rfl, rfl⟩ := Prod.mk.inj (Option.some.inj h); exact .ins (.tmp 29) (.const (.int .i64 2)) ⟨([91, a, 93] : Bs).toArray⟩ 2 rfl rfl rfl rfl (by decide) (by rw [size_l]; simp) (by simp [formsTab])
  | 14, _ => obtain ⟨rfl, rfl⟩ := Prod.mk.inj (Option.some.inj h); exact .move 30 (.tmp 5) rfl rfl hA.symm
  | 15, _ => obtain ⟨rfl, rfl⟩ := Prod.mk.inj (Option.some.inj h); exact .add 31 (.const (.string ⟨#[91, 32]⟩)) (.tmp 30) 9 9 ⟨([91, 32] : Bs).toArray⟩ ⟨([a] : Bs).toArray⟩ rfl rfl rfl rfl (congrArg Value.string (app_l [91, 32] [a]).symm) (by rw [size_l, size_l]; simp)
  | 16, _ => obtain ⟨rfl, rfl⟩ := Prod.mk.inj (Option.some.inj h); exact .add 32 (.tmp 31) (.const (.string ⟨#[32, 44, 32, 98, 32, 93]⟩)) 9 9 ⟨([91, 32, a] : Bs).toArray⟩ ⟨([32, 44, 32, 98, 32, 93] : Bs).toArray⟩ rfl rfl rfl rfl (congrArg Value.string (app_l [91, 32, a] [32, 44, 32, 98, 32, 93]).symm) (by rw [size_l, size_l]; simp)
  | 17, _ => obtain ⟨rfl, rfl⟩ := Prod.mk.inj (Option.some.inj h); exact .ins (.tmp 32) (.const (.int .i64 3)) ⟨([91, 32, a, 32, 44, 32, 98, 32, 93] : Bs).toArray⟩ 3 rfl rfl rfl rfl (by decide) (by rw [size_l]; simp) (by simp [formsTab])
  | 18, _ => obtain ⟨rfl, rfl⟩ := Prod.mk.inj (Option.some.inj h); exact .move 33 (.tmp 5) rfl rfl hA.symm
  | 19, _ => obtain ⟨rfl, rfl⟩ := Prod.mk.inj (Option.some.inj h); exact .add 34 (.const (.string ⟨#[123]⟩)) (.tmp 33) 9 9 ⟨([123] : Bs).toArray⟩ ⟨([a] : Bs).toArray⟩ rfl rfl rfl rfl (congrArg Value.string (app_l [123] [a]).symm) (by rw [size_l, size_l]; simp)
  | 20, _ => obtain ⟨rfl, rfl⟩ := Prod.mk.inj (Option.some.inj h); exact .add 35 (.tmp 34) (.const (.string ⟨#[58, 32, 49, 125]⟩)) 9 9 ⟨([123, a] : Bs).toArray⟩ ⟨([58, 32, 49, 125] : Bs).toArray⟩ rfl rfl rfl rfl (congrArg Value.string (app_l [123, a] [58, 32, 49, 125]).symm) (by rw [size_l, size_l]; simp)
  | 21, _ => obtain ⟨rfl, rfl⟩ := Prod.mk.inj (Option.some.inj h); exact .ins (.tmp 35) (.const (.int .i64 3)) ⟨([123, a, 58, 32, 49, 125] : Bs).toArray⟩ 3 rfl rfl rfl rfl (by decide) (by rw [size_l]; simp) (by simp [formsTab])
  | 22, _ => obtain ⟨rfl, rfl⟩ := Prod.mk.inj (Option.some.inj h); exact .move 36 (.tmp 5) rfl rfl hA.symm
  | 23, _ => obtain ⟨rfl, rfl⟩ := Prod.mk.inj (Option.some.inj h); exact .add 37 (.const (.string ⟨#[123]⟩)) (.tmp 36) 9 9 ⟨([123] : Bs).toArray⟩ ⟨([a] : Bs).toArray⟩ rfl rfl rfl rfl (congrArg Value.string (app_l [123] [a]).symm) (by rw [size_l, size_l]; simp)
  | 24, _ => obtain ⟨rfl, rfl⟩ := Prod.mk.inj (Option.some.inj h); exact .add 38 (.tmp 37) (.const (.string ⟨#[58, 32, 125]⟩)) 9 9 ⟨([123, a] : Bs).toArray⟩ ⟨([58, 32, 125] : Bs).toArray⟩ rfl rfl rfl rfl (congrArg Value.string (app_l [123, a] [58, 32, 125]).symm) (by rw [size_l, size_l]; simp)
  | 25, _ => obtain ⟨rfl, rfl⟩ := Prod.mk.inj (Option.some.inj h); exact .ins (.tmp 38) (.const (.int .i64 3)) ⟨([123, a, 58, 32, 125] : Bs).toArray⟩ 3 rfl rfl rfl rfl (by decide) (by rw [size_l]; simp) (by simp [formsTab])
  | 26, _ => obtain ⟨rfl, rfl⟩ := Prod.mk.inj (Option.some.inj h); exact .move 39 (.tmp 5) rfl rfl hA.symm
  | 27, _ => obtain ⟨rfl, rfl⟩ := Prod.mk.inj (Option.some.inj h); exact .add 40 (.const (.string ⟨#[123]⟩)) (.tmp 39) 9 9 ⟨([123] : Bs).toArray⟩ ⟨([a] : Bs).toArray⟩ rfl rfl rfl rfl (congrArg Value.string (app_l [123] [a]).symm) (by rw [size_l, size_l]; simp)
  | 28, _ => obtain ⟨rfl, rfl⟩ := Prod.mk.inj (Option.some.inj h); exact .add 41 (.tmp 40) (.const (.string ⟨#[58, 44, 32, 98, 58, 32, 50, 125]⟩)) 9 9 ⟨([123, a] : Bs).toArray⟩ ⟨([58, 44, 32, 98, 58, 32, 50, 125] : Bs).toArray⟩ rfl rfl rfl rfl (congrArg Value.string (app_l [123, a] [58, 44, 32, 98, 58, 32, 50, 125]).symm) (by rw [size_l, size_l]; simp)
  | 29, _ => obtain ⟨rfl, rfl⟩ := Prod.mk.inj (Option.some.inj h); exact .ins (.tmp 41) (.const (.int .i64 5)) ⟨([123, a, 58, 44, 32, 98, 58, 32, 50, 125] : Bs).toArray⟩ 5 rfl rfl rfl rfl (by decide) (by rw [size_l]; simp) (by simp [formsTab])
  | 30, _ => obtain ⟨rfl, rfl⟩ := Prod.mk.inj (Option.some.inj h); exact .move 42 (.tmp 5) rfl rfl hA.symm
  | 31, _ => obtain ⟨rfl, rfl⟩ := Prod.mk.inj (Option.some.inj h); exact .add 43 (.const (.string ⟨#[123, 39]⟩)) (.tmp 42) 9 9 ⟨([123, 39] : Bs).toArray⟩ ⟨([a] : Bs).toArray⟩ rfl rfl rfl rfl (congrArg Value.string (app_l [123, 39] [a]).symm) (by rw [size_l, size_l]; simp)
  | 32, _ => obtain ⟨rfl, rfl⟩ := Prod.mk.inj (Option.some.inj h); exact .add 44 (.tmp 43) (.const (.string ⟨#[39, 32, 58, 32, 91, 49, 93, 125]⟩)) 9 9 ⟨([123, 39, a] : Bs).toArray⟩ ⟨([39, 32, 58, 32, 91, 49, 93, 125] : Bs).toArray⟩ rfl rfl rfl rfl (congrArg Value.string (app_l [123, 39, a] [39, 32, 58, 32, 91, 49, 93, 125]).symm) (by rw [size_l, size_l]; simp)
  | 33, _ => obtain ⟨rfl, rfl⟩ := Prod.mk.inj (Option.some.inj h); exact .ins (.tmp 44) (.const (.int .i64 4)) ⟨([123, 39, a, 39, 32, 58, 32, 91, 49, 93, 125] : Bs).toArray⟩ 4 rfl rfl rfl rfl (by decide) (by rw [size_l]; simp) (by simp [formsTab])
  | 34, _ => obtain ⟨rfl, rfl⟩ := Prod.mk.inj (Option.some.inj h); exact .ins (.const (.string ⟨#[91, 91, 93, 44, 32, 123, 125, 93]⟩)) (.const (.int .i64 3)) ⟨([91, 91, 93, 44, 32, 123, 125, 93] : Bs).toArray⟩ 3 rfl rfl rfl rfl (by decide) (by rw [size_l]; simp) (by simp [formsTab])
  | 35, _ => obtain ⟨rfl, rfl⟩ := Prod.mk.inj (Option.some.inj h); exact .move 45 (.tmp 5) rfl rfl hA.symm
  | 36, _ => obtain ⟨rfl, rfl⟩ := Prod.mk.inj (Option.some.inj h); exact .add 46 (.const (.string ⟨#[42]⟩)) (.tmp 45) 9 9 ⟨([42] : Bs).toArray⟩ ⟨([a] : Bs).toArray⟩ rfl rfl rfl rfl (congrArg Value.string (app_l [42] [a]).symm) (by rw [size_l, size_l]; simp)
  | 37, _ => obtain ⟨rfl, rfl⟩ := Prod.mk.inj (Option.some.inj h); exact .ins (.tmp 46) (.const (.int .i64 1)) ⟨([42, a] : Bs).toArray⟩ 1 rfl rfl rfl rfl (by decide) (by rw [size_l]; simp) (by simp [formsTab])
  | 38, _ => obtain ⟨rfl, rfl⟩ := Prod.mk.inj (Option.some.inj h); exact .move 47 (.tmp 5) rfl rfl hA.symm
  | 39, _ => obtain ⟨rfl, rfl⟩ := Prod.mk.inj (Option.some.inj h); exact .add 48 (.const (.string ⟨#[38, 120, 32]⟩)) (.tmp 47) 9 9 ⟨([38, 120, 32] : Bs).toArray⟩ ⟨([a] : Bs).toArray⟩ rfl rfl rfl rfl (congrArg Value.string (app_l [38, 120, 32] [a]).symm) (by rw [size_l, size_l]; simp)
  | 40, _ => obtain ⟨rfl, rfl⟩ := Prod.mk.inj (Option.some.inj h); exact .ins (.tmp 48) (.const (.int .i64 1)) ⟨([38, 120, 32, a] : Bs).toArray⟩ 1 rfl rfl rfl rfl (by decide) (by rw [size_l]; simp) (by simp [formsTab])
  | 41, _ => obtain ⟨rfl, rfl⟩ := Prod.mk.inj (Option.some.inj h); exact .ins (.const (.string ⟨#[33, 116]⟩)) (.const (.int .i64 1)) ⟨([33, 116] : Bs).toArray⟩ 1 rfl rfl rfl rfl (by decide) (by rw [size_l]; simp) (by simp [formsTab])
  | 42, _ => obtain ⟨rfl, rfl⟩ := Prod.mk.inj (Option.some.inj h); exact .ins (.const (.string ⟨#[38, 120, 32, 33, 33, 115, 116, 114]⟩)) (.const (.int .i64 1)) ⟨([38, 120, 32, 33, 33, 115, 116, 114] : Bs).toArray⟩ 1 rfl rfl rfl rfl (by decide) (by rw [size_l]; simp) (by simp [formsTab])
  | 43, _ => obtain ⟨rfl, rfl⟩ := Prod.mk.inj (Option.some.inj h); exact .move 49 (.tmp 5) rfl rfl hA.symm
  | 44, _ => obtain ⟨rfl, rfl⟩ := Prod.mk.inj (Option.some.inj h); exact .add 50 (.const (.string ⟨#[91, 42]⟩)) (.tmp 49) 9 9 ⟨([91, 42] : Bs).toArray⟩ ⟨([a] : Bs).toArray⟩ rfl rfl rfl rfl (congrArg Value.string (app_l [91, 42] [a]).symm) (by rw [size_l, size_l]; simp)
  | 45, _ => obtain ⟨rfl, rfl⟩ := Prod.mk.inj (Option.some.inj h); exact .add 51 (.tmp 50) (.const (.string ⟨#[32, 44, 32, 42, 98, 93]⟩)) 9 9 ⟨([91, 42, a] : Bs).toArray⟩ ⟨([32, 44, 32, 42, 98, 93] : Bs).toArray⟩ rfl rfl rfl rfl (congrArg Value.string (app_l [91, 42, a] [32, 44, 32, 42, 98, 93]).symm) (by rw [size_l, size_l]; simp)
  | 46, _ => obtain ⟨rfl, rfl⟩ := Prod.mk.inj (Option.some.inj h); exact .ins (.tmp 51) (.const (.int .i64 3)) ⟨([91, 42, a, 32, 44, 32, 42, 98, 93] : Bs).toArray⟩ 3 rfl rfl rfl rfl (by decide) (by rw [size_l]; simp) (by simp [formsTab])
  | 47, _ => obtain ⟨rfl, rfl⟩ := Prod.mk.inj (Option.some.inj h); exact .move 52 (.tmp 5) rfl rfl hA.symm
  | 48, _ => obtain ⟨rfl, rfl⟩ := Prod.mk.inj (Option.some.inj h); exact .add 53 (.const (.string ⟨#[91, 33, 116, 32, 44, 32]⟩)) (.tmp 52) 9 9 ⟨([91, 33, 116, 32, 44, 32] : Bs).toArray⟩ ⟨([a] : Bs).toArray⟩ rfl rfl rfl rfl (congrArg Value.string (app_l [91, 33, 116, 32, 44, 32] [a]).symm) (by rw [size_l, size_l]; simp)
  | 49, _ => obtain ⟨rfl, rfl⟩ := Prod.mk.inj (Option.some.inj h); exact .add 54 (.tmp 53) (.const (.string ⟨#[93]⟩)) 9 9 ⟨([91, 33, 116, 32, 44, 32, a] : Bs).toArray⟩ ⟨([93] : Bs).toArray⟩ rfl rfl rfl rfl (congrArg Value.string (app_l [91, 33, 116, 32, 44, 32, a] [93]).symm) (by rw [size_l, size_l]; simp)
  | 50, _ => obtain ⟨rfl, rfl⟩ := Prod.mk.inj (Option.some.inj h); exact .ins (.tmp 54) (.const (.int .i64 3)) ⟨([91, 33, 116, 32, 44, 32, a, 93] : Bs).toArray⟩ 3 rfl rfl rfl rfl (by decide) (by rw [size_l]; simp) (by simp [formsTab])
  | 51, _ => obtain ⟨rfl, rfl⟩ := Prod.mk.inj (Option.some.inj h); exact .move 55 (.tmp 5) rfl rfl hA.symm
  | 52, _ => obtain ⟨rfl, rfl⟩ := Prod.mk.inj (Option.some.inj h); exact .add 56 (.const (.string ⟨#[38, 120, 32, 91]⟩)) (.tmp 55) 9 9 ⟨([38, 120, 32, 91] : Bs).toArray⟩ ⟨([a] : Bs).toArray⟩ rfl rfl rfl rfl (congrArg Value.string (app_l [38, 120, 32, 91] [a]).symm) (by rw [size_l, size_l]; simp)
  | 53, _ => obtain ⟨rfl, rfl⟩ := Prod.mk.inj (Option.some.inj h); exact .add 57 (.tmp 56) (.const (.string ⟨#[93]⟩)) 9 9 ⟨([38, 120, 32, 91, a] : Bs).toArray⟩ ⟨([93] : Bs).toArray⟩ rfl rfl rfl rfl (congrArg Value.string (app_l [38, 120, 32, 91, a] [93]).symm) (by rw [size_l, size_l]; simp)
  | 54, _ => obtain ⟨rfl, rfl⟩ := Prod.mk.inj (Option.some.inj h); exact .ins (.tmp 57) (.const (.int .i64 2)) ⟨([38, 120, 32, 91, a, 93] : Bs).toArray⟩ 2 rfl rfl rfl rfl (by decide) (by rw [size_l]; simp) (by simp [formsTab])
  | 55, _ => obtain ⟨rfl, rfl⟩ := Prod.mk.inj (Option.some.inj h); exact .move 58 (.tmp 5) rfl rfl hA.symm
  | 56, _ => obtain ⟨rfl, rfl⟩ := Prod.mk.inj (Option.some.inj h); exact .add 59 (.const (.string ⟨#[34]⟩)) (.tmp 58) 9 9 ⟨([34] : Bs).toArray⟩ ⟨([a] : Bs).toArray⟩ rfl rfl rfl rfl (congrArg Value.string (app_l [34] [a]).symm) (by rw [size_l, size_l]; simp)
  | 57, _ => obtain ⟨rfl, rfl⟩ := Prod.mk.inj (Option.some.inj h); exact .add 60 (.tmp 59) (.const (.string ⟨#[92, 110, 34]⟩)) 9 9 ⟨([34, a] : Bs).toArray⟩ ⟨([92, 110, 34] : Bs).toArray⟩ rfl rfl rfl rfl (congrArg Value.string (app_l [34, a] [92, 110, 34]).symm) (by rw [size_l, size_l]; simp)
  | 58, _ => obtain ⟨rfl, rfl⟩ := Prod.mk.inj (Option.some.inj h); exact .ins (.tmp 60) (.const (.int .i64 1)) ⟨([34, a, 92, 110, 34] : Bs).toArray⟩ 1 rfl rfl rfl rfl (by decide) (by rw [size_l]; simp) (by simp [formsTab])
  | 59, _ => obtain ⟨rfl, rfl⟩ := Prod.mk.inj (Option.some.inj h); exact .move 61 (.tmp 5) rfl rfl hA.symm
  | 60, _ => obtain ⟨rfl, rfl⟩ := Prod.mk.inj (Option.some.inj h); exact .add 62 (.const (.string ⟨#[45]⟩)) (.tmp 61) 9 9 ⟨([45] : Bs).toArray⟩ ⟨([a] : Bs).toArray⟩ rfl rfl rfl rfl (congrArg Value.string (app_l [45] [a]).symm) (by rw [size_l, size_l]; simp)
  | 61, _ => obtain ⟨rfl, rfl⟩ := Prod.mk.inj (Option.some.inj h); exact .ins (.tmp 62) (.const (.int .i64 1)) ⟨([45, a] : Bs).toArray⟩ 1 rfl rfl rfl rfl (by decide) (by rw [size_l]; simp) (by simp [formsTab])
  | 62, _ => obtain ⟨rfl, rfl⟩ := Prod.mk.inj (Option.some.inj h); exact .move 63 (.tmp 5) rfl rfl hA.symm
  | 63, _ => obtain ⟨rfl, rfl⟩ := Prod.mk.inj (Option.some.inj h); exact .add 64 (.const (.string ⟨#[32]⟩)) (.tmp 63) 9 9 ⟨([32] : Bs).toArray⟩ ⟨([a] : Bs).toArray⟩ rfl rfl rfl rfl (congrArg Value.string (app_l [32] [a]).symm) (by rw [size_l, size_l]; simp)
  | 64, _ => obtain ⟨rfl, rfl⟩ := Prod.mk.inj (Option.some.inj h); exact .ins (.tmp 64) (.const (.int .i64 1)) ⟨([32, a] : Bs).toArray⟩ 1 rfl rfl rfl rfl (by decide) (by rw [size_l]; simp) (by simp [formsTab])
  | 65, _ => obtain ⟨rfl, rfl⟩ := Prod.mk.inj (Option.some.inj h); exact .move 65 (.tmp 22) rfl rfl rfl
  | 66, _ => exact absurd rfl hne
-- n 67 tm 22 dr 66 rx 65

theorem formsSize : formsOps.size ≤ 1000000 := by
  have h : formsOps.size = 67 := by kernel_rfl
  omega
set_option maxRecDepth 100000 in
theorem formsReg (n0 : Nat) (a : UInt8) (base : Tmp → Value) (ha : base 5 = .string ⟨#[a]⟩) (N : Nat) (hN : N = 182) : LitReg Tryd.prog formsOps 31 9 3 .i64 (valOf (formsVals n0 a) base) (formsTab a) 22 0 66 n0 N :=
  hN ▸ LitReg.of (dr := 66) (rx := 65) formsSpec_is (by kernel_rfl) (formsKinds n0 a base ha) rfl (by decide) (by decide) rfl rfl rfl (by kernel_rfl) formsSize
end Go.Proofs.YtmindclciogneaaDoor
