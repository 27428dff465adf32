/- Node's region that sets the tag, over a frame of letters. -/
import Derived.Test.YtmindclciogneaaDoorI15
import Derived.Deep.RegionWith
namespace Go.Proofs.YtmindclciogneaaDoor
open Go.RowKit
attribute [local go_sem ↓] Go.wp_at_zero Go.wp_at_succ

/-- The region of a number in a code. -/
def findReg (n : Nat) : Code → Option Code
  | .region m o b => if m == n then some (.region m o b) else none
  | .seq a b => match findReg n a with
    | some c => some c
    | none => findReg n b
  | .block _ c => findReg n c
  | .scope c => findReg n c
  | .loop c => findReg n c
  | .cond _ a b => match findReg n a with
    | some c => some c
    | none => findReg n b
  | _ => none
noncomputable def tagCode : Code := (Tryd.f75.body.bind (findReg 27)).getD .skip
set_option maxRecDepth 100000 in
set_option maxHeartbeats 40000000 in
theorem tag_region (u0 u1 u2 u3 u4 u5 u6 u7 u8 u9 u10 u11 u12 u13 u14 u15 u16 u17 u18 u19 u20 u21 u22 u23 u25 u26 u27 u28 u29 u30 u31 u32 u33 u34 u35 u36 u37 u38 u39 u40 u41 u42 u43 u44 u45 u46 u47 u48 u49 u50 u51 u52 u53 u54 u55 u56 u57 u58 u59 u60 u61 u62 u63 u64 u65 u66 u67 u68 u69 u70 u71 u72 u73 u74 u75 u76 u77 u78 u79 u80 u81 u82 u83 u84 u85 u86 u87 u88 u89 u90 u91 u92 u93 u94 u95 u96 u97 u98 u99 u100 u101 u102 u103 u104 u105 u106 u107 u108 u109 u110 u111 u112 u113 u114 u115 u116 u117 u118 u119 u120 u121 u122 u123 u124 u125 u126 u127 u128 u129 u130 u131 u132 u133 u134 u135 u136 u137 u138 u139 u140 u141 u142 u143 u144 u145 u146 u147 u148 u149 u150 u151 u152 u153 u154 u155 u156 u157 u158 u159 u160 u161 u162 u163 u164 u165 u166 u167 u168 u169 u170 u171 u172 u173 u174 u175 u176 u177 u178 u179 u180 u181 u182 u183 u184 u185 u186 u187 u188 u189 u190 u191 u192 u193 u194 u195 u196 u197 u198 u199 u200 u201 u202 u203 u204 u205 u206 u207 u208 u209 u210 u211 u212 u213 u214 u215 u216 u217 u218 u219 u220 u221 u222 u223 u224 u225 u226 u227 u228 u229 u230 u231 u232 u233 u234 u235 u236 u237 u238 u239 : Value) (g2 o : Nat) (kind style : Nat) (tag value TV : Bs) (w : World)
    (hc0 : w.cell? ⟨g2, o, none⟩ = some (.int .i64 kind)) (hcs : w.cell? ⟨g2, o + 1, none⟩ = some (.int .i64 style)) (hct : w.cell? ⟨g2, o + 2, none⟩ = some (.string ⟨tag.toArray⟩)) (hcv : w.cell? ⟨g2, o + 4, none⟩ = some (.string ⟨value.toArray⟩))
    (hft : w.frozen? ⟨g2, o + 2, none⟩ = false)
    (ctag : ∀ W, Calls Tryd.prog 121 #[.int .i64 kind, .int .i64 style, .string ⟨tag.toArray⟩, .string ⟨value.toArray⟩] W fun e w' => e = .returned (.string ⟨TV.toArray⟩) ∧ Below W.heap.size W w')
    (N : Act → World → Prop) (R : Ending → World → Prop)
    (hN : ∀ (x202 x203 x204 x205 x206 x207 x208 x209 x210 x211 x212 x213 x214 x215 x216 x217 x218 x219 x220 x221 : Value) (w8 : World), Below w.heap.size w w8 → N ⟨#[u0, u1, u2, u3, u4, u5, u6, u7, u8, u9, u10, u11, u12, u13, u14, u15, u16, u17, u18, u19, u20, u21, u22, u23, .pointer (some ⟨g2, o, none⟩), u25, u26, u27, u28, u29, u30, u31, u32, u33, u34, u35, u36, u37, u38, u39, u40, u41, u42, u43, u44, u45, u46, u47, u48, u49, u50, u51, u52, u53, u54, u55, u56, u57, u58, u59, u60, u61, u62, u63, u64, u65, u66, u67, u68, u69, u70, u71, u72, u73, u74, u75, u76, u77, u78, u79, u80, u81, u82, u83, u84, u85, u86, u87, u88, u89, u90, u91, u92, u93, u94, u95, u96, u97, u98, u99, u100, u101, u102, u103, u104, u105, u106, u107, u108, u109, u110, u111, u112, u113, u114, u115, u116, u117, u118, u119, u120, u121, u122, u123, u124, u125, u126, u127, u128, u129, u130, u131, u132, u133, u134, u135, u136, u137, u138, u139, u140, u141, u142, u143, u144, u145, u146, u147, u148, u149, u150, u151, u152, u153, u154, u155, u156, u157, u158, u159, u160, u161, u162, u163, u164, u165, u166, u167, u168, u169, u170, u171, u172, u173, u174, u175, u176, u177, u178, u179, u180, u181, u182, u183, u184, u185, u186, u187, u188, u189, u190, u191, u192, u193, u194, u195, u196, u197, u198, u199, u200, u201, x202, x203, x204, x205, x206, x207, x208, x209, x210, x211, x212, x213, x214, x215, x216, x217, x218, x219, x220, x221, u222, u223, u224, u225, u226, u227, u228, u229, u230, u231, u232, u233, u234, u235, u236, u237, u238, u239], []⟩ (w8.setCell ⟨g2, o + 2, none⟩ (.string ⟨TV.toArray⟩))) :
    Code.wp Tryd.prog tagCode (Exit.then N (bodyPost Tryd.prog Tryd.f75 R)) ⟨#[u0, u1, u2, u3, u4, u5, u6, u7, u8, u9, u10, u11, u12, u13, u14, u15, u16, u17, u18, u19, u20, u21, u22, u23, .pointer (some ⟨g2, o, none⟩), u25, u26, u27, u28, u29, u30, u31, u32, u33, u34, u35, u36, u37, u38, u39, u40, u41, u42, u43, u44, u45, u46, u47, u48, u49, u50, u51, u52, u53, u54, u55, u56, u57, u58, u59, u60, u61, u62, u63, u64, u65, u66, u67, u68, u69, u70, u71, u72, u73, u74, u75, u76, u77, u78, u79, u80, u81, u82, u83, u84, u85, u86, u87, u88, u89, u90, u91, u92, u93, u94, u95, u96, u97, u98, u99, u100, u101, u102, u103, u104, u105, u106, u107, u108, u109, u110, u111, u112, u113, u114, u115, u116, u117, u118, u119, u120, u121, u122, u123, u124, u125, u126, u127, u128, u129, u130, u131, u132, u133, u134, u135, u136, u137, u138, u139, u140, u141, u142, u143, u144, u145, u146, u147, u148, u149, u150, u151, u152, u153, u154, u155, u156, u157, u158, u159, u160, u161, u162, u163, u164, u165, u166, u167, u168, u169, u170, u171, u172, u173, u174, u175, u176, u177, u178, u179, u180, u181, u182, u183, u184, u185, u186, u187, u188, u189, u190, u191, u192, u193, u194, u195, u196, u197, u198, u199, u200, u201, u202, u203, u204, u205, u206, u207, u208, u209, u210, u211, u212, u213, u214, u215, u216, u217, u218, u219, u220, u221, u222, u223, u224, u225, u226, u227, u228, u229, u230, u231, u232, u233, u234, u235, u236, u237, u238, u239], []⟩ w := by
  have hlg : g2 < w.heap.size := World.block_lt_of_cell? w _ hct
  have HN := Lib.hid hN
  clear hN
  conv => arg 2; whnf
  go_region_with
    ((go_at_call 121
      refine (ctag _).mono ?_
      rintro _ w8 ⟨rfl, hb8⟩
      have e1 : w8.cell? ⟨g2, o + 2, none⟩ = some (.string ⟨tag.toArray⟩) := (hb8.cell (p := ⟨g2, o + 2, none⟩) (by simp; omega)).trans (by simpa using hct)
      have e2 : w8.frozen? ⟨g2, o + 2, none⟩ = false := (hb8.frozen (p := ⟨g2, o + 2, none⟩) (by simp; omega)).trans (by simpa using hft)
      dsimp only))
  all_goals
    exact HN.out _ _ _ _ _ _ _ _ _ _ _ _ _ _ _ _ _ _ _ _ w8 (((Below.refl _ _).drew).trans hb8)
end Go.Proofs.YtmindclciogneaaDoor
