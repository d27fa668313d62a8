-- printed by a program of this claim's own
import Derived.Test.YtcekmdepalbnhaaPFnFirstRunsx0
import Derived.Test.YtcekmdepalbnhaaPFnFirstRunsx1
import Derived.Test.YtcekmdepalbnhaaPFnFirstRunsx3
import Derived.Test.YtcekmdepalbnhaaPFnFirstRunsx4
import Derived.Test.YtcekmdepalbnhaaPFnFirstRunsx6
import Derived.Test.YtcekmdepalbnhaaPFnFirstRunsx7
import Derived.Test.YtcekmdepalbnhaaPFnFirstRunsx8
import Derived.Test.YtcekmdepalbnhaaPFnFirstRunsx9
namespace Go.Proofs.Ytcekmdepalbnhaa.PFnFirstRuns
open Go.RowKit Go.Proofs.YtcekmdepalbnhaaW.PrintWords Go.Proofs.YtcekmdepalbnhaaW.PrintLast Go.Proofs.YtcekmdepalbnhaaW.PrintMore Go.Proofs.Ytcekmdepalbnhaa.Cuts
attribute [local go_sem] max2_int min2_int max_two min_two max_three min_three max_four min_four   -- for this text's walks alone
set_option linter.unusedVariables false
set_option linter.unusedSimpArgs false

/-! ### laws_FnFirstRuns: function 3 -/
mutual
def laws_FnFirstRuns.j0 : Nat → List Int → Int → List Int → List Int → Bool → List Int → Bool → Int → Int → Int → Bool → Bool → Int → Int → Int → Int → Bool → Option (Bool)
 | 0, _, _, _, _, _, _, _, _, _, _, _, _, _, _, _, _, _ => none
 | k + 1, x1, x6, x7, x8, x9, x12, x13, x16, x20, x21, x22, x221, x522000, x522001, x522002, x522003, x522004 => if x221 = true then (some false) else (if x9 = true then (laws_FnFirstRuns.l0 k x1 x7 x8 x12 x13 x16 x20 x21 x22 x6 0 x7 (x7.length : Int) 0 x522000 x522001 x522002 x522003 x522004) else (laws_FnFirstRuns.j2 k x1 x8 x12 x13 x16 x20 x21 x22 x522000 x522001 x522002 x522003 x522004))
def laws_FnFirstRuns.j2 : Nat → List Int → List Int → List Int → Bool → Int → Int → Int → Bool → Int → Int → Int → Int → Bool → Option (Bool)
 | 0, _, _, _, _, _, _, _, _, _, _, _, _, _ => none
 | k + 1, x1, x8, x12, x13, x16, x20, x21, x22, x522000, x522001, x522002, x522003, x522004 => if x13 = true then (if x22 = true then (laws_FnFirstRuns.j3 k x1 x8 x12 x20 x21 (x16 == 0) x522000 x522001 x522002 x522003 x522004) else (laws_FnFirstRuns.j3 k x1 x8 x12 x20 x21 false x522000 x522001 x522002 x522003 x522004)) else (laws_FnFirstRuns.j3 k x1 x8 x12 x20 x21 false x522000 x522001 x522002 x522003 x522004)
def laws_FnFirstRuns.j3 : Nat → List Int → List Int → List Int → Int → Int → Bool → Int → Int → Int → Int → Bool → Option (Bool)
 | 0, _, _, _, _, _, _, _, _, _, _, _ => none
 | k + 1, x1, x8, x12, x20, x21, x304, x522000, x522001, x522002, x522003, x522004 => if x304 = true then (laws_FnFirstRuns.l1 k x1 x8 x20 x21 1 x12 (x12.length : Int) 0 x522000 x522001 x522002 x522003 x522004) else (laws_FnFirstRuns.j5 k x1)
def laws_FnFirstRuns.j5 : Nat → List Int → Option (Bool)
 | 0, _ => none
 | k + 1, x1 => (spec_DrawImpulseOf.f x1).bind fun bt571 => ((impl_ImpulseOf.f k bt571.1 bt571.2.1 bt571.2.2.1 bt571.2.2.2.1 bt571.2.2.2.2.1 bt571.2.2.2.2.2.1 bt571.2.2.2.2.2.2).bind fun bt579 => ((spec_ImpulseOf.f k bt571.1 bt571.2.1 bt571.2.2.1 bt571.2.2.2.1 bt571.2.2.2.2.1 bt571.2.2.2.2.2.1 bt571.2.2.2.2.2.2).bind fun bt583 => ((spec_DrawFirstStep.f k x1).bind fun bt587 => ((impl_FirstStep.f k bt587.1 bt587.2.1 bt587.2.2.1 bt587.2.2.2.1 bt587.2.2.2.2.1 bt587.2.2.2.2.2.1 bt587.2.2.2.2.2.2).bind fun bt595 => ((spec_FirstStep.f k bt587.1 bt587.2.1 bt587.2.2.1 bt587.2.2.2.1 bt587.2.2.2.2.1 bt587.2.2.2.2.2.1 bt587.2.2.2.2.2.2).bind fun bt597 => (if (bt579.2 != bt583.2) = true then (some false) else ((laws_uSame.f k bt579.1 bt583.1).bind fun t599 => (if t599 = true then (if (bt595.2 != bt597.2) = true then (some false) else (if bt595.1 = bt597.1 then (if bt579.2 = true then (laws_FnFirstRuns.j6 k bt571.2.2.2.2.2.2 bt579.1 (decide (bt571.2.2.2.2.2.2 > 0)) bt571.1 bt571.2.1 bt571.2.2.1 bt571.2.2.2.1 bt571.2.2.2.2.1) else (laws_FnFirstRuns.j6 k bt571.2.2.2.2.2.2 bt579.1 false bt571.1 bt571.2.1 bt571.2.2.1 bt571.2.2.2.1 bt571.2.2.2.2.1)) else (some false))) else (some false)))))))))
def laws_FnFirstRuns.j6 : Nat → Int → List Int → Bool → Int → Int → Int → Int → Bool → Option (Bool)
 | 0, _, _, _, _, _, _, _, _ => none
 | k + 1, x46, x47, x410, x579000, x579001, x579002, x579003, x579004 => if x410 = true then (if 0 ≤ (wrap64 (x46 - 1)) then (if (wrap64 (x46 - 1) : Int).toNat ≤ 35184372088832 then (if 0 < (x47.length : Int) then ((impl_RunFirst.f k x579000 x579001 x579002 x579003 x579004 (rd x47 0) (List.replicate (wrap64 (x46 - 1) : Int).toNat 0)).bind fun bt604 => (if (x47.length : Int) = x46 then (if bt604.2 = true then (if 1 ≤ (x47.length : Int) then ((laws_uSame.f k bt604.1 (x47.drop 1)).bind fun t612 => (some t612)) else (none)) else (some false)) else (some false))) else (none)) else (none)) else (none)) else (some true)
def laws_FnFirstRuns.l1 : Nat → List Int → List Int → Int → Int → Int → List Int → Int → Int → Int → Int → Int → Int → Bool → Option (Bool)
 | 0, _, _, _, _, _, _, _, _, _, _, _, _, _ => none
 | k + 1, x1, x8, x20, x21, x40, x305, x306, x307, x522000, x522001, x522002, x522003, x522004 => if x307 < x306 then (if 0 ≤ x307 then (if x307 < (x305.length : Int) then (if 0 ≤ x522001 then (if x307 < (x8.length : Int) then ((laws_uAbs.f (wrap64 ((wrap64 ((rd x8 x307) * (shl .i64 x40 x522001))) - (rd x305 x307)))).bind fun t570 => (if x20 = 0 then (none) else (if x21 = 0 then (none) else (if (wrap64 (Int.tdiv t570 x20)) > (wrap64 ((wrap64 (Int.tdiv (shl .i64 x40 x522001) x21)) + 1)) then (some false) else (if t570 ≤ 1099511627776 then (if (wrap64 (t570 * x21)) > (wrap64 (x20 * (shl .i64 x40 x522001))) then (some false) else (laws_FnFirstRuns.l1 k x1 x8 x20 x21 (shl .i64 x40 x522001) x305 x306 (wrap64 (x307 + 1)) x522000 x522001 x522002 x522003 x522004)) else (laws_FnFirstRuns.l1 k x1 x8 x20 x21 (shl .i64 x40 x522001) x305 x306 (wrap64 (x307 + 1)) x522000 x522001 x522002 x522003 x522004)))))) else (none)) else (none)) else (none)) else (none)) else (laws_FnFirstRuns.j5 k x1)
def laws_FnFirstRuns.l0 : Nat → List Int → List Int → List Int → List Int → Bool → Int → Int → Int → Bool → Int → Int → List Int → Int → Int → Int → Int → Int → Int → Bool → Option (Bool)
 | 0, _, _, _, _, _, _, _, _, _, _, _, _, _, _, _, _, _, _, _ => none
 | k + 1, x1, x7, x8, x12, x13, x16, x20, x21, x22, x30, x31, x224, x225, x226, x522000, x522001, x522002, x522003, x522004 => if x226 < x225 then (if 0 ≤ x226 then (if x226 < (x224.length : Int) then ((impl_FirstStep.f k x522000 x522001 x522002 x522003 x522004 x30 (rd x224 x226)).bind fun bt561 => ((impl_FitNumber.f x522003 x522004 bt561.1).bind fun bt563 => (if bt561.2 = true then (if x226 < (x8.length : Int) then (if bt561.1 = (rd x8 x226) then (if bt563.2 = true then (if bt563.1 = bt561.1 then ((impl_RoundShift.f k (wrap64 (x522000 * x30)) x522001 x522002).bind fun bt566 => (if bt566.2 = true then (if (wrap64 (bt566.1 + (rd x224 x226))) = bt561.1 then (laws_FnFirstRuns.l0 k x1 x7 x8 x12 x13 x16 x20 x21 x22 bt561.1 x31 x224 x225 (wrap64 (x226 + 1)) x522000 x522001 x522002 x522003 x522004) else (laws_FnFirstRuns.l0 k x1 x7 x8 x12 x13 x16 x20 x21 x22 bt561.1 (wrap64 (x31 + 1)) x224 x225 (wrap64 (x226 + 1)) x522000 x522001 x522002 x522003 x522004)) else (some false))) else (some false)) else (some false)) else (some false)) else (none)) else (some false)))) else (none)) else (none)) else (if x31 = x16 then (if (x8.length : Int) = (x7.length : Int) then (laws_FnFirstRuns.j2 k x1 x8 x12 x13 x16 x20 x21 x22 x522000 x522001 x522002 x522003 x522004) else (some false)) else (some false))
end
def laws_FnFirstRuns.f (k : Nat) (l0 : List Int) (l1 : List Int) : Option (Bool) := (laws_big.f l0 l1).bind fun t511 => (if t511 = true then (some true) else ((spec_DrawExactFirst.f k l0).bind fun bt512 => ((impl_RunFirst.f k bt512.1 bt512.2.1 bt512.2.2.1 bt512.2.2.2.1 bt512.2.2.2.2.1 bt512.2.2.2.2.2.1 bt512.2.2.2.2.2.2).bind fun bt522 => ((spec_RunFirst.f k bt512.1 bt512.2.1 bt512.2.2.1 bt512.2.2.2.1 bt512.2.2.2.2.1 bt512.2.2.2.2.2.1 bt512.2.2.2.2.2.2).bind fun bt526 => ((impl_ExactFirst.f k bt512.1 bt512.2.1 bt512.2.2.1 bt512.2.2.2.1 bt512.2.2.2.2.1 bt512.2.2.2.2.2.1 bt512.2.2.2.2.2.2).bind fun bt530 => ((spec_ExactFirst.f k bt512.1 bt512.2.1 bt512.2.2.1 bt512.2.2.2.1 bt512.2.2.2.2.1 bt512.2.2.2.2.2.1 bt512.2.2.2.2.2.2).bind fun bt534 => ((impl_CountFits.f k bt512.1 bt512.2.1 bt512.2.2.1 bt512.2.2.2.1 bt512.2.2.2.2.1 bt512.2.2.2.2.2.1 bt512.2.2.2.2.2.2).bind fun bt538 => ((spec_CountFits.f k bt512.1 bt512.2.1 bt512.2.2.1 bt512.2.2.2.1 bt512.2.2.2.2.1 bt512.2.2.2.2.2.1 bt512.2.2.2.2.2.2).bind fun bt540 => ((impl_ErrorBound.f k bt512.1 bt512.2.1 bt512.2.2.1 bt512.2.2.2.1 bt512.2.2.2.2.1).bind fun bt542 => ((spec_ErrorBound.f k bt512.1 bt512.2.1 bt512.2.2.1 bt512.2.2.2.1 bt512.2.2.2.2.1).bind fun bt545 => ((impl_IsShrinking.f bt512.1 bt512.2.1 bt512.2.2.1 bt512.2.2.2.1 bt512.2.2.2.2.1).bind fun bt548 => ((spec_IsShrinking.f bt512.1 bt512.2.1 bt512.2.2.1 bt512.2.2.2.1 bt512.2.2.2.2.1).bind fun bt550 => (if (bt522.2 != bt526.2) = true then (some false) else ((laws_uSame.f k bt522.1 bt526.1).bind fun t552 => (if t552 = true then (if (bt530.2 != bt534.2) = true then (some false) else ((laws_uSame.f k bt530.1 bt534.1).bind fun t553 => (if t553 = true then (if (bt538.2 != bt540.2) = true then (some false) else (if bt538.1 = bt540.1 then (if (bt542.2.2 != bt545.2.2) = true then (some false) else (if bt542.1 = bt545.1 then (if bt542.2.1 = bt545.2.1 then (if (bt548.2 != bt550.2) = true then (some false) else (if (bt548.1 != bt550.1) = true then (some false) else (if (bt538.2 != bt522.2) = true then (some false) else (if bt530.2 = true then (if bt522.2 = true then ((impl_IsFirst.f bt512.1 bt512.2.1 bt512.2.2.1 bt512.2.2.2.1 bt512.2.2.2.2.1).bind fun t554 => (if (bt548.2 != t554) = true then (some false) else ((impl_IsFirst.f bt512.1 bt512.2.1 bt512.2.2.1 bt512.2.2.2.1 bt512.2.2.2.2.1).bind fun t555 => ((spec_IsFirst.f bt512.1 bt512.2.1 bt512.2.2.1 bt512.2.2.2.1 bt512.2.2.2.2.1).bind fun t556 => (if (t555 != t556) = true then (some false) else (if bt548.2 = true then (laws_FnFirstRuns.j0 k l1 bt512.2.2.2.2.2.1 bt512.2.2.2.2.2.2 bt522.1 bt522.2 bt530.1 bt530.2 bt538.1 bt542.1 bt542.2.1 bt542.2.2 (bt542.2.2 != bt548.1) bt512.1 bt512.2.1 bt512.2.2.1 bt512.2.2.2.1 bt512.2.2.2.2.1) else (laws_FnFirstRuns.j0 k l1 bt512.2.2.2.2.2.1 bt512.2.2.2.2.2.2 bt522.1 bt522.2 bt530.1 bt530.2 bt538.1 bt542.1 bt542.2.1 bt542.2.2 (bt542.2.2 != false) bt512.1 bt512.2.1 bt512.2.2.1 bt512.2.2.2.1 bt512.2.2.2.2.1))))))) else (some false)) else ((impl_IsFirst.f bt512.1 bt512.2.1 bt512.2.2.1 bt512.2.2.2.1 bt512.2.2.2.2.1).bind fun t557 => (if (bt548.2 != t557) = true then (some false) else ((impl_IsFirst.f bt512.1 bt512.2.1 bt512.2.2.1 bt512.2.2.2.1 bt512.2.2.2.2.1).bind fun t558 => ((spec_IsFirst.f bt512.1 bt512.2.1 bt512.2.2.1 bt512.2.2.2.1 bt512.2.2.2.2.1).bind fun t559 => (if (t558 != t559) = true then (some false) else (if bt548.2 = true then (laws_FnFirstRuns.j0 k l1 bt512.2.2.2.2.2.1 bt512.2.2.2.2.2.2 bt522.1 bt522.2 bt530.1 bt530.2 bt538.1 bt542.1 bt542.2.1 bt542.2.2 (bt542.2.2 != bt548.1) bt512.1 bt512.2.1 bt512.2.2.1 bt512.2.2.2.1 bt512.2.2.2.2.1) else (laws_FnFirstRuns.j0 k l1 bt512.2.2.2.2.2.1 bt512.2.2.2.2.2.2 bt522.1 bt522.2 bt530.1 bt530.2 bt538.1 bt542.1 bt542.2.1 bt542.2.2 (bt542.2.2 != false) bt512.1 bt512.2.1 bt512.2.2.1 bt512.2.2.2.1 bt512.2.2.2.2.1))))))))))) else (some false)) else (some false))) else (some false))) else (some false)))) else (some false))))))))))))))))

def laws_FnFirstRuns.T14 : Bool × List (List Nat × List Nat) := (true, [([], []), ([], []), ([0, 1], [0, 1]), ([2], [2]), ([3], [3]), ([3], [3]), ([4, 5, 3, 3], [3, 4, 5]), ([6, 3], [3, 6]), ([3, 7], [3, 7]), ([8, 6], [8]), ([9], [9]), ([9], [9]), ([10, 11, 9], [9, 10, 11]), ([9, 12], [9, 12]), ([13, 9], [13]), ([14], [14]), ([14], [14]), ([15, 16, 14, 14], [14, 15, 16]), ([17, 14], [14, 17]), ([14, 18], [14, 18]), ([19, 17], [19]), ([20], [20]), ([20], [20]), ([21, 22, 20], [20, 21, 22]), ([20, 23], [20, 23]), ([24, 20], [24]), ([25], [25]), ([25], [25]), ([26, 27, 25], [25, 26, 27]), ([25, 28], [25, 28]), ([29, 25], [29]), ([30], [30]), ([30], [30]), ([31, 32, 30], [30, 31, 32]), ([30, 33], [30, 33]), ([34, 30], [34]), ([35], [35]), ([35], [35]), ([36, 37, 35], [35, 36, 37]), ([35, 38], [35, 38]), ([39, 35], [39]), ([40], [40]), ([40], [40]), ([41, 42, 40], [40, 41, 42]), ([40, 43], [40, 43]), ([44, 40], [44]), ([45], [45]), ([45], [45]), ([46, 47, 45], [45, 46, 47]), ([45, 48], [45, 48]), ([49, 45], [49]), ([50], [50]), ([50], [50]), ([51, 52, 50], [50, 51, 52]), ([50, 53], [50, 53]), ([54, 50], [54]), ([55], [55]), ([55], [55]), ([56, 57, 55], [55, 56, 57]), ([55, 58], [55, 58]), ([59, 55], [59]), ([60], [60]), ([61, 60, 60], [60, 61]), ([62], [62]), ([63, 62], [62, 63]), ([62, 64, 60], [60, 62, 64]), ([60, 65], [60, 65]), ([66, 62], [66]), ([67], [67]), ([67], [67]), ([69, 67, 67], [67, 69]), ([68, 70, 67], [67, 68, 70]), ([67, 71], [67, 71]), ([72, 70], [72]), ([73], [73]), ([74, 73, 73], [73, 74]), ([73], [73]), ([76, 75, 73], [73, 76]), ([75, 77, 73], [73, 75, 77]), ([73, 78], [73, 78]), ([79, 77], [79]), ([80], [80]), ([80], [80]), ([82, 80, 80], [80, 82]), ([83], [83]), ([83, 84, 80], [80, 83, 84]), ([81, 85, 80], [80, 81, 85]), ([80, 86], [80, 86])])
def laws_FnFirstRuns.B14 : List Nat := [0, 0, 3, 7, 15, 15, 63, 127, 255, 511, 1023, 1023, 4095, 8191, 16383, 32767, 32767, 131071, 262143, 524287, 1048575, 2097151, 2097151, 8388607, 16777215, 33554431, 67108863, 67108863, 268435455, 536870911, 1073741823, 2147483647, 2147483647, 8589934591, 17179869183, 34359738367, 68719476735, 68719476735, 274877906943, 549755813887, 1099511627775, 2199023255551, 2199023255551, 8796093022207, 17592186044415, 35184372088831, 70368744177663, 70368744177663, 281474976710655, 562949953421311, 1125899906842623, 2251799813685247, 2251799813685247, 9007199254740991, 18014398509481983, 36028797018963967, 72057594037927935, 72057594037927935, 288230376151711743, 576460752303423487, 1152921504606846975, 2305843009213693951, 4611686018427387903, 9223372036854775807, 18446744073709551615, 36893488147419103231, 73786976294838206463, 147573952589676412927, 295147905179352825855, 295147905179352825855, 885443715538058477567, 2361183241434822606847, 4722366482869645213695, 9444732965739290427391, 18889465931478580854783, 37778931862957161709567, 18889465931478580854783, 151115727451828646838271, 302231454903657293676543, 604462909807314587353087, 1208925819614629174706175, 2417851639229258349412351, 2417851639229258349412351, 7253554917687775048237055, 16924961474604808445886463, 36267774588438875241185279, 77371252455336267181195263, 154742504910672534362390527]
theorem laws_FnFirstRuns.tab14 : rtab .any (opsOf Try.f3 14) = laws_FnFirstRuns.T14 := by kernel_rfl
theorem laws_FnFirstRuns.bits14 : waitsOk laws_FnFirstRuns.T14.2 laws_FnFirstRuns.B14 = true := by kernel_rfl
def laws_FnFirstRuns.T41 : Bool × List (List Nat × List Nat) := (true, [([], []), ([], []), ([0, 1], [0, 1]), ([], []), ([], []), ([3, 4], [3, 4]), ([5], [5]), ([2, 6], [2, 6]), ([7], [7]), ([8], [8]), ([9, 8], [8, 9]), ([10, 8, 8], [8, 10]), ([11], [11]), ([11], [11]), ([12, 13, 11], [11, 12, 13]), ([11], [11]), ([11], [11]), ([15, 16, 11], [11, 15, 16]), ([14, 17, 11], [11, 14, 17]), ([11, 18, 8], [8, 11, 18]), ([8, 19], [8, 19])])
def laws_FnFirstRuns.B41 : List Nat := [0, 0, 3, 0, 0, 24, 56, 127, 255, 511, 1023, 2047, 4095, 4095, 16383, 4095, 4095, 102399, 262143, 524287, 1048575]
theorem laws_FnFirstRuns.tab41 : rtab .any (opsOf Try.f3 41) = laws_FnFirstRuns.T41 := by kernel_rfl
theorem laws_FnFirstRuns.bits41 : waitsOk laws_FnFirstRuns.T41.2 laws_FnFirstRuns.B41 = true := by kernel_rfl
def laws_FnFirstRuns.T54 : Bool × List (List Nat × List Nat) := (true, [([], []), ([], []), ([1], [1]), ([2], [2]), ([], []), ([0, 3, 4], [0, 3, 4]), ([5], [5]), ([6], [6]), ([6], [6]), ([7, 5, 0, 1, 2, 3, 4, 5, 6, 7], [7]), ([8, 9, 0, 1, 2, 3, 4, 5, 6, 7, 8, 9], [8])])
def laws_FnFirstRuns.B54 : List Nat := [0, 0, 2, 6, 0, 31, 63, 127, 127, 255, 1023]
theorem laws_FnFirstRuns.tab54 : rtab .any (opsOf Try.f3 54) = laws_FnFirstRuns.T54 := by kernel_rfl
theorem laws_FnFirstRuns.bits54 : waitsOk laws_FnFirstRuns.T54.2 laws_FnFirstRuns.B54 = true := by kernel_rfl
set_option maxHeartbeats 80000000 in
set_option maxRecDepth 100000 in
theorem laws_FnFirstRuns.calls (k : Nat) (A0 : Option Addr) (c0 : Nat) (l0 : List Int) (A1 : Option Addr) (c1 : Nat) (l1 : List Int) (r : Bool) (w : World) (hr0 : Kd.C (Kd.int .u8) w A0 l0.length l0) (hc0 : l0.length ≤ c0) (hr1 : Kd.C (Kd.int .u8) w A1 l1.length l1) (hc1 : l1.length ≤ c1) (hT : r = true) (h : laws_FnFirstRuns.f k l0 l1 = some r) :
  Calls Try.prog 3 #[.slice A0 l0.length c0, .slice A1 l1.length c1] w fun e w' => e = .returned (.bool r) ∧ Below w.heap.size w w' := by
 have hu27 := Try.underlying27
 have hu25 := Try.underlying25
 have HR0 := Aside0.mk hr0
 have HC0 := Aside0.mk hc0
 clear hr0 hc0
 have HR1 := Aside0.mk hr1
 have HC1 := Aside0.mk hc1
 clear hr1 hc1
 have HT := Aside0.mk hT
 clear hT
 have hun : ∀ b_ : Bool, (Go.undef = Value.bool b_) = False := fun b_ => by simp [Go.undef]
 have HB := Aside0.mk (Below.refl w.heap.size w)
 have H : ((laws_big.f l0 l1).bind fun t511 => (if t511 = true then (some true) else ((spec_DrawExactFirst.f k l0).bind fun bt512 => ((impl_RunFirst.f k bt512.1 bt512.2.1 bt512.2.2.1 bt512.2.2.2.1 bt512.2.2.2.2.1 bt512.2.2.2.2.2.1 bt512.2.2.2.2.2.2).bind fun bt522 => ((spec_RunFirst.f k bt512.1 bt512.2.1 bt512.2.2.1 bt512.2.2.2.1 bt512.2.2.2.2.1 bt512.2.2.2.2.2.1 bt512.2.2.2.2.2.2).bind fun bt526 => ((impl_ExactFirst.f k bt512.1 bt512.2.1 bt512.2.2.1 bt512.2.2.2.1 bt512.2.2.2.2.1 bt512.2.2.2.2.2.1 bt512.2.2.2.2.2.2).bind fun bt530 => ((spec_ExactFirst.f k bt512.1 bt512.2.1 bt512.2.2.1 bt512.2.2.2.1 bt512.2.2.2.2.1 bt512.2.2.2.2.2.1 bt512.2.2.2.2.2.2).bind fun bt534 => ((impl_CountFits.f k bt512.1 bt512.2.1 bt512.2.2.1 bt512.2.2.2.1 bt512.2.2.2.2.1 bt512.2.2.2.2.2.1 bt512.2.2.2.2.2.2).bind fun bt538 => ((spec_CountFits.f k bt512.1 bt512.2.1 bt512.2.2.1 bt512.2.2.2.1 bt512.2.2.2.2.1 bt512.2.2.2.2.2.1 bt512.2.2.2.2.2.2).bind fun bt540 => ((impl_ErrorBound.f k bt512.1 bt512.2.1 bt512.2.2.1 bt512.2.2.2.1 bt512.2.2.2.2.1).bind fun bt542 => ((spec_ErrorBound.f k bt512.1 bt512.2.1 bt512.2.2.1 bt512.2.2.2.1 bt512.2.2.2.2.1).bind fun bt545 => ((impl_IsShrinking.f bt512.1 bt512.2.1 bt512.2.2.1 bt512.2.2.2.1 bt512.2.2.2.2.1).bind fun bt548 => ((spec_IsShrinking.f bt512.1 bt512.2.1 bt512.2.2.1 bt512.2.2.2.1 bt512.2.2.2.2.1).bind fun bt550 => (if (bt522.2 != bt526.2) = true then (some false) else ((laws_uSame.f k bt522.1 bt526.1).bind fun t552 => (if t552 = true then (if (bt530.2 != bt534.2) = true then (some false) else ((laws_uSame.f k bt530.1 bt534.1).bind fun t553 => (if t553 = true then (if (bt538.2 != bt540.2) = true then (some false) else (if bt538.1 = bt540.1 then (if (bt542.2.2 != bt545.2.2) = true then (some false) else (if bt542.1 = bt545.1 then (if bt542.2.1 = bt545.2.1 then (if (bt548.2 != bt550.2) = true then (some false) else (if (bt548.1 != bt550.1) = true then (some false) else (if (bt538.2 != bt522.2) = true then (some false) else (if bt530.2 = true then (if bt522.2 = true then ((impl_IsFirst.f bt512.1 bt512.2.1 bt512.2.2.1 bt512.2.2.2.1 bt512.2.2.2.2.1).bind fun t554 => (if (bt548.2 != t554) = true then (some false) else ((impl_IsFirst.f bt512.1 bt512.2.1 bt512.2.2.1 bt512.2.2.2.1 bt512.2.2.2.2.1).bind fun t555 => ((spec_IsFirst.f bt512.1 bt512.2.1 bt512.2.2.1 bt512.2.2.2.1 bt512.2.2.2.2.1).bind fun t556 => (if (t555 != t556) = true then (some false) else (if bt548.2 = true then (laws_FnFirstRuns.j0 k l1 bt512.2.2.2.2.2.1 bt512.2.2.2.2.2.2 bt522.1 bt522.2 bt530.1 bt530.2 bt538.1 bt542.1 bt542.2.1 bt542.2.2 (bt542.2.2 != bt548.1) bt512.1 bt512.2.1 bt512.2.2.1 bt512.2.2.2.1 bt512.2.2.2.2.1) else (laws_FnFirstRuns.j0 k l1 bt512.2.2.2.2.2.1 bt512.2.2.2.2.2.2 bt522.1 bt522.2 bt530.1 bt530.2 bt538.1 bt542.1 bt542.2.1 bt542.2.2 (bt542.2.2 != false) bt512.1 bt512.2.1 bt512.2.2.1 bt512.2.2.2.1 bt512.2.2.2.2.1))))))) else (some false)) else ((impl_IsFirst.f bt512.1 bt512.2.1 bt512.2.2.1 bt512.2.2.2.1 bt512.2.2.2.2.1).bind fun t557 => (if (bt548.2 != t557) = true then (some false) else ((impl_IsFirst.f bt512.1 bt512.2.1 bt512.2.2.1 bt512.2.2.2.1 bt512.2.2.2.2.1).bind fun t558 => ((spec_IsFirst.f bt512.1 bt512.2.1 bt512.2.2.1 bt512.2.2.2.1 bt512.2.2.2.2.1).bind fun t559 => (if (t558 != t559) = true then (some false) else (if bt548.2 = true then (laws_FnFirstRuns.j0 k l1 bt512.2.2.2.2.2.1 bt512.2.2.2.2.2.2 bt522.1 bt522.2 bt530.1 bt530.2 bt538.1 bt542.1 bt542.2.1 bt542.2.2 (bt542.2.2 != bt548.1) bt512.1 bt512.2.1 bt512.2.2.1 bt512.2.2.2.1 bt512.2.2.2.2.1) else (laws_FnFirstRuns.j0 k l1 bt512.2.2.2.2.2.1 bt512.2.2.2.2.2.2 bt522.1 bt522.2 bt530.1 bt530.2 bt538.1 bt542.1 bt542.2.1 bt542.2.2 (bt542.2.2 != false) bt512.1 bt512.2.1 bt512.2.2.1 bt512.2.2.2.1 bt512.2.2.2.2.1))))))))))) else (some false)) else (some false))) else (some false))) else (some false)))) else (some false))))))))))))))))) = some r := h
 clear h
 replace H := Option.bind_eq_some_iff.mp H
 obtain ⟨t511, A30, H⟩ := H
 (try dsimp only at H)
 have A3 := Aside0.mk A30
 clear A30
 by_cases c4 : t511 = true
 ·subst c4
  rw [if_pos rfl] at H
  obtain rfl := Option.some.inj H
  go_enter Try.func3, Try.ntmps3
  go_wp2_with (first | ((with_reducible refine gate_callee (f := 7) rfl ?_); refine goesLS_ (some 63) Try.func7 #[.slice A0 l0.length c0, .slice A1 l1.length c1] ?_; (with_reducible refine (laws_big.calls _ _ l0 _ _ l1 true _ ?side1 ?side2 ?side3 ?side4 A3.out).mono ?_); (case side1 => repeat (first | exact HR0.out | (with_reducible refine Kd.C_alloc ?_ _) | (with_reducible refine Kd.C_drewN ?_ _) | (with_reducible refine Kd.C_drew ?_))); (case side2 => exact HC0.out); (case side3 => repeat (first | exact HR1.out | (with_reducible refine Kd.C_alloc ?_ _) | (with_reducible refine Kd.C_drewN ?_ _) | (with_reducible refine Kd.C_drew ?_))); (case side4 => exact HC1.out); rintro e w' ⟨rfl, ⟨nd, rfl⟩⟩; refine ⟨_, rfl, ?_⟩))
  go_ret
  exact ⟨by first | rfl | (simp [errW_none, errW_some] <;> rfl) | (simp [*, errW_none, errW_some] <;> rfl), bl0 HB.out⟩
 ·replace c4 := Bool.eq_false_iff.mpr c4
  subst c4
  rw [if_neg (show ¬ (false = true) by decide)] at H
  replace H := Option.bind_eq_some_iff.mp H
  obtain ⟨⟨t512, t513, t514, t515, t516, t517, t518⟩, A50, H⟩ := H
  (try dsimp only at H)
  have A5 := Aside0.mk A50
  clear A50
  replace H := Option.bind_eq_some_iff.mp H
  obtain ⟨⟨t522, t525⟩, A60, H⟩ := H
  (try dsimp only at H)
  have A6 := Aside0.mk A60
  clear A60
  replace H := Option.bind_eq_some_iff.mp H
  obtain ⟨⟨t526, t529⟩, A70, H⟩ := H
  (try dsimp only at H)
  have A7 := Aside0.mk A70
  clear A70
  replace H := Option.bind_eq_some_iff.mp H
  obtain ⟨⟨t530, t533⟩, A80, H⟩ := H
  (try dsimp only at H)
  have A8 := Aside0.mk A80
  clear A80
  replace H := Option.bind_eq_some_iff.mp H
  obtain ⟨⟨t534, t537⟩, A90, H⟩ := H
  (try dsimp only at H)
  have A9 := Aside0.mk A90
  clear A90
  replace H := Option.bind_eq_some_iff.mp H
  obtain ⟨⟨t538, t539⟩, A100, H⟩ := H
  (try dsimp only at H)
  have A10 := Aside0.mk A100
  clear A100
  replace H := Option.bind_eq_some_iff.mp H
  obtain ⟨⟨t540, t541⟩, A110, H⟩ := H
  (try dsimp only at H)
  have A11 := Aside0.mk A110
  clear A110
  replace H := Option.bind_eq_some_iff.mp H
  obtain ⟨⟨t542, t543, t544⟩, A120, H⟩ := H
  (try dsimp only at H)
  have A12 := Aside0.mk A120
  clear A120
  replace H := Option.bind_eq_some_iff.mp H
  obtain ⟨⟨t545, t546, t547⟩, A130, H⟩ := H
  (try dsimp only at H)
  have A13 := Aside0.mk A130
  clear A130
  replace H := Option.bind_eq_some_iff.mp H
  obtain ⟨⟨t548, t549⟩, A140, H⟩ := H
  (try dsimp only at H)
  have A14 := Aside0.mk A140
  clear A140
  replace H := Option.bind_eq_some_iff.mp H
  obtain ⟨⟨t550, t551⟩, A150, H⟩ := H
  (try dsimp only at H)
  have A15 := Aside0.mk A150
  clear A150
  have HC16 := Aside0.mk H
  clear H
  go_enter Try.func3, Try.ntmps3
  go_upto_region 14 with (first | ((with_reducible refine gate_callee (f := 7) rfl ?_); refine goesLS_ (some 63) Try.func7 #[.slice A0 l0.length c0, .slice A1 l1.length c1] ?_; (with_reducible refine (laws_big.calls _ _ l0 _ _ l1 false _ ?side1 ?side2 ?side3 ?side4 A3.out).mono ?_); (case side1 => repeat (first | exact HR0.out | (with_reducible refine Kd.C_alloc ?_ _) | (with_reducible refine Kd.C_drewN ?_ _) | (with_reducible refine Kd.C_drew ?_))); (case side2 => exact HC0.out); (case side3 => repeat (first | exact HR1.out | (with_reducible refine Kd.C_alloc ?_ _) | (with_reducible refine Kd.C_drewN ?_ _) | (with_reducible refine Kd.C_drew ?_))); (case side4 => exact HC1.out); rintro e w' ⟨rfl, ⟨nd, rfl⟩⟩; refine ⟨_, rfl, ?_⟩) | ((with_reducible refine gate_callee (f := 8) rfl ?_); refine goesLS_ (some 66) Try.func8 #[.slice A0 l0.length c0] ?_; (with_reducible refine (spec_DrawExactFirst.calls k _ _ l0 t512 t513 t514 t515 t516 t517 t518 _ ?side1 ?side2 A5.out).mono ?_); (case side1 => repeat (first | exact HR0.out | (with_reducible refine Kd.C_alloc ?_ _) | (with_reducible refine Kd.C_drewN ?_ _) | (with_reducible refine Kd.C_drew ?_))); (case side2 => exact HC0.out); rintro e w17 ⟨v519, rfl, ho0, hb⟩; refine ⟨_, rfl, ?_⟩; have n0_ := Aside0.mk (Kd.R_lower ho0 (below_size (bl0 HB.out))); have n1_ := Aside0.mk (below_step (bl0 HB.out) hb); clear HB; have HO520 := n0_; have HB := n1_; clear n0_ n1_; (try clear hb); (try clear hb2); (try clear hk); (try clear hi); (try clear ho0)) | ((with_reducible refine gate_dst (N := 5) rfl ?_); (try (refine gate_guard (by rfl) ?_; dsimp only)); refine boxS_ 5 (#[.int .i64 0, .int .i64 0, .int .i64 0, .int .i64 0, .bool false]) 27 ?_; intro gb521 hg w18 hbox hb; have n0_ := Aside0.mk (Kd.R_below (kr HO520.out) hb); have n1_ := Aside0.mk (below_step (bl0 HB.out) hb); have n2_ := Aside0.mk (hbox); have n3_ := Aside0.mk ((by rw [hg]; exact (below_size (bl0 HB.out)) : w.heap.size ≤ gb521)); have n4_ := Aside0.mk ((by rw [hg]; exact (below_size (bl0 HB.out)) : w.heap.size ≤ gb521)); clear HO520; clear HB; have HO520 := n0_; have HB := n1_; have BK521 := n2_; have GW521 := n3_; have GE521 := n4_; clear n0_ n1_ n2_ n3_ n4_; clear hb hbox hg; obtain ⟨hcz19_0, hcz19_1, hcz19_2, hcz19_3, hcz19_4, hfz19_0, hfz19_1, hfz19_2, hfz19_3, hfz19_4⟩ := cz5 BK521.out; obtain ⟨Ao20, co20, eo20⟩ := Kd.R_slice HO520.out; subst eo20) | ((with_reducible refine gate_callee (f := 9) rfl ?_); refine goesLS_ (some 74) Try.func9 #[.agg #[.int .i64 t512, .int .i64 t513, .int .i64 t514, .int .i64 t515, .bool t516], .int .i64 t517, .slice Ao20 t518.length co20] ?_; (with_reducible refine (impl_RunFirst.calls k t512 t513 t514 t515 t516 t517 _ _ t518 t522 t525 _ ?side1 ?side2 A6.out).mono ?_); (case side1 => refine (Kd.R_reads' (e := 3) (base := w.heap.size) (ok := fun k_ => True) (n := t518.length) (c := co20) ?_).2.2; exact (by (with_reducible repeat (first | apply Kd.R_alloc | apply Kd.R_drewN | apply Kd.R_drew)); exact (Kd.R_mono (Kd.R_far (p := ⟨gb521, 4, none⟩) (Kd.R_far (p := ⟨gb521, 3, none⟩) (Kd.R_far (p := ⟨gb521, 2, none⟩) (Kd.R_far (p := ⟨gb521, 1, none⟩) (Kd.R_far (p := ⟨gb521, 0, none⟩) (Kd.R_types HO520.out BK521.out (by decide)) (fun _ hk => hk.2) (.int .i64 t512)) (fun _ hk => hk.2) (.int .i64 t513)) (fun _ hk => hk.2) (.int .i64 t514)) (fun _ hk => hk.2) (.int .i64 t515)) (fun _ hk => hk.2) (.bool t516)) (fun _ h_ => h_.1)))); (case side2 => exact (Kd.R_reads' HO520.out).2.1); rintro e w21 ⟨v523, rfl, ho0, hb⟩; refine ⟨_, rfl, ?_⟩; have n0_ := Aside0.mk (Kd.R_elder' (by (with_reducible repeat (first | apply Kd.R_alloc | apply Kd.R_drewN | apply Kd.R_drew)); exact (Kd.R_mono (Kd.R_far (p := ⟨gb521, 4, none⟩) (Kd.R_far (p := ⟨gb521, 3, none⟩) (Kd.R_far (p := ⟨gb521, 2, none⟩) (Kd.R_far (p := ⟨gb521, 1, none⟩) (Kd.R_far (p := ⟨gb521, 0, none⟩) (Kd.R_types HO520.out BK521.out (by decide)) (fun _ hk => hk.2) (.int .i64 t512)) (fun _ hk => hk.2) (.int .i64 t513)) (fun _ hk => hk.2) (.int .i64 t514)) (fun _ hk => hk.2) (.int .i64 t515)) (fun _ hk => hk.2) (.bool t516)) (fun _ h_ => h_.1))) (Kd.R_base ho0) hb); have n1_ := Aside0.mk (Kd.R_lower (Kd.R_new' ho0 (Kd.R_lt (by (with_reducible repeat (first | apply Kd.R_alloc | apply Kd.R_drewN | apply Kd.R_drew)); exact (Kd.R_mono (Kd.R_far (p := ⟨gb521, 4, none⟩) (Kd.R_far (p := ⟨gb521, 3, none⟩) (Kd.R_far (p := ⟨gb521, 2, none⟩) (Kd.R_far (p := ⟨gb521, 1, none⟩) (Kd.R_far (p := ⟨gb521, 0, none⟩) (Kd.R_types HO520.out BK521.out (by decide)) (fun _ hk => hk.2) (.int .i64 t512)) (fun _ hk => hk.2) (.int .i64 t513)) (fun _ hk => hk.2) (.int .i64 t514)) (fun _ hk => hk.2) (.int .i64 t515)) (fun _ hk => hk.2) (.bool t516)) (fun _ h_ => h_.1))))) (below_size (bl1 HB.out GE521.out))); have n2_ := Aside0.mk (blk_below (g := gb521) (o := .cells #[.int .i64 t512, .int .i64 t513, .int .i64 t514, .int .i64 t515, .bool t516] 27 (0, 0)) (by (with_reducible repeat (first | refine blk_drewN ?_ _ | refine blk_drew ?_ | refine blk_alloc ?_ _)); refine blk_put (cs := #[.int .i64 t512, .int .i64 t513, .int .i64 t514, .int .i64 t515, .bool false]) ?_ 4 _ rfl; (with_reducible repeat (first | refine blk_drewN ?_ _ | refine blk_drew ?_ | refine blk_alloc ?_ _)); refine blk_put (cs := #[.int .i64 t512, .int .i64 t513, .int .i64 t514, .int .i64 0, .bool false]) ?_ 3 _ rfl; (with_reducible repeat (first | refine blk_drewN ?_ _ | refine blk_drew ?_ | refine blk_alloc ?_ _)); refine blk_put (cs := #[.int .i64 t512, .int .i64 t513, .int .i64 0, .int .i64 0, .bool false]) ?_ 2 _ rfl; (with_reducible repeat (first | refine blk_drewN ?_ _ | refine blk_drew ?_ | refine blk_alloc ?_ _)); refine blk_put (cs := #[.int .i64 t512, .int .i64 0, .int .i64 0, .int .i64 0, .bool false]) ?_ 1 _ rfl; (with_reducible repeat (first | refine blk_drewN ?_ _ | refine blk_drew ?_ | refine blk_alloc ?_ _)); refine blk_put (cs := #[.int .i64 0, .int .i64 0, .int .i64 0, .int .i64 0, .bool false]) ?_ 0 _ rfl; (with_reducible repeat (first | refine blk_drewN ?_ _ | refine blk_drew ?_ | refine blk_alloc ?_ _)); exact BK521.out) hb); have n3_ := Aside0.mk (below_step (bl1 HB.out GE521.out) hb); clear HO520; clear BK521; clear HB; have HO520 := n0_; have HO524 := n1_; have BK521 := n2_; have HB := n3_; clear n0_ n1_ n2_ n3_; (try clear hb); (try clear hb2); (try clear hk); (try clear hi); (try clear ho0); obtain ⟨hcz22_0, hcz22_1, hcz22_2, hcz22_3, hcz22_4, hfz22_0, hfz22_1, hfz22_2, hfz22_3, hfz22_4⟩ := cz5 BK521.out) | ((with_reducible refine gate_callee (f := 10) rfl ?_); refine goesLS_ (some 81) Try.func10 #[.agg #[.int .i64 t512, .int .i64 t513, .int .i64 t514, .int .i64 t515, .bool t516], .int .i64 t517, .slice Ao20 t518.length co20] ?_; (with_reducible refine (spec_RunFirst.calls k t512 t513 t514 t515 t516 t517 _ _ t518 t526 t529 _ ?side1 ?side2 A7.out).mono ?_); (case side1 => repeat (first | exact (Kd.R_reads' HO520.out).2.2 | (with_reducible refine Kd.C_alloc ?_ _) | (with_reducible refine Kd.C_drewN ?_ _) | (with_reducible refine Kd.C_drew ?_))); (case side2 => exact (Kd.R_reads' HO520.out).2.1); rintro e w23 ⟨v527, rfl, ho0, hb⟩; refine ⟨_, rfl, ?_⟩; have n0_ := Aside0.mk (Kd.R_elder' (kr HO520.out) (Kd.R_base ho0) hb); have n1_ := Aside0.mk (Kd.R_elder' (kr HO524.out) (Kd.R_base ho0) hb); have n2_ := Aside0.mk (Kd.R_lower (Kd.R_new' (Kd.R_new' ho0 (Kd.R_lt (kr HO520.out))) (Kd.R_lt (kr HO524.out))) (below_size (bl1 HB.out GE521.out))); have n3_ := Aside0.mk (blk_below (g := gb521) (o := .cells #[.int .i64 t512, .int .i64 t513, .int .i64 t514, .int .i64 t515, .bool t516] 27 (0, 0)) (kb BK521.out) hb); have n4_ := Aside0.mk (below_step (bl1 HB.out GE521.out) hb); clear HO520; clear HO524; clear BK521; clear HB; have HO520 := n0_; have HO524 := n1_; have HO528 := n2_; have BK521 := n3_; have HB := n4_; clear n0_ n1_ n2_ n3_ n4_; (try clear hb); (try clear hb2); (try clear hk); (try clear hi); (try clear ho0); obtain ⟨hcz24_0, hcz24_1, hcz24_2, hcz24_3, hcz24_4, hfz24_0, hfz24_1, hfz24_2, hfz24_3, hfz24_4⟩ := cz5 BK521.out) | ((with_reducible refine gate_callee (f := 11) rfl ?_); refine goesLS_ (some 88) Try.func11 #[.agg #[.int .i64 t512, .int .i64 t513, .int .i64 t514, .int .i64 t515, .bool t516], .int .i64 t517, .slice Ao20 t518.length co20] ?_; (with_reducible refine (impl_ExactFirst.calls k t512 t513 t514 t515 t516 t517 _ _ t518 t530 t533 _ ?side1 ?side2 A8.out).mono ?_); (case side1 => repeat (first | exact (Kd.R_reads' HO520.out).2.2 | (with_reducible refine Kd.C_alloc ?_ _) | (with_reducible refine Kd.C_drewN ?_ _) | (with_reducible refine Kd.C_drew ?_))); (case side2 => exact (Kd.R_reads' HO520.out).2.1); rintro e w25 ⟨v531, rfl, ho0, hb⟩; refine ⟨_, rfl, ?_⟩; have n0_ := Aside0.mk (Kd.R_elder' (kr HO520.out) (Kd.R_base ho0) hb); have n1_ := Aside0.mk (Kd.R_elder' (kr HO524.out) (Kd.R_base ho0) hb); have n2_ := Aside0.mk (Kd.R_elder' (kr HO528.out) (Kd.R_base ho0) hb); have n3_ := Aside0.mk (Kd.R_lower (Kd.R_new' (Kd.R_new' (Kd.R_new' ho0 (Kd.R_lt (kr HO520.out))) (Kd.R_lt (kr HO524.out))) (Kd.R_lt (kr HO528.out))) (below_size (bl1 HB.out GE521.out))); have n4_ := Aside0.mk (blk_below (g := gb521) (o := .cells #[.int .i64 t512, .int .i64 t513, .int .i64 t514, .int .i64 t515, .bool t516] 27 (0, 0)) (kb BK521.out) hb); have n5_ := Aside0.mk (below_step (bl1 HB.out GE521.out) hb); clear HO520; clear HO524; clear HO528; clear BK521; clear HB; have HO520 := n0_; have HO524 := n1_; have HO528 := n2_; have HO532 := n3_; have BK521 := n4_; have HB := n5_; clear n0_ n1_ n2_ n3_ n4_ n5_; (try clear hb); (try clear hb2); (try clear hk); (try clear hi); (try clear ho0); obtain ⟨hcz26_0, hcz26_1, hcz26_2, hcz26_3, hcz26_4, hfz26_0, hfz26_1, hfz26_2, hfz26_3, hfz26_4⟩ := cz5 BK521.out) | ((with_reducible refine gate_callee (f := 12) rfl ?_); refine goesLS_ (some 95) Try.func12 #[.agg #[.int .i64 t512, .int .i64 t513, .int .i64 t514, .int .i64 t515, .bool t516], .int .i64 t517, .slice Ao20 t518.length co20] ?_; (with_reducible refine (spec_ExactFirst.calls k t512 t513 t514 t515 t516 t517 _ _ t518 t534 t537 _ ?side1 ?side2 A9.out).mono ?_); (case side1 => repeat (first | exact (Kd.R_reads' HO520.out).2.2 | (with_reducible refine Kd.C_alloc ?_ _) | (with_reducible refine Kd.C_drewN ?_ _) | (with_reducible refine Kd.C_drew ?_))); (case side2 => exact (Kd.R_reads' HO520.out).2.1); rintro e w27 ⟨v535, rfl, ho0, hb⟩; refine ⟨_, rfl, ?_⟩; have n0_ := Aside0.mk (Kd.R_elder' (kr HO520.out) (Kd.R_base ho0) hb); have n1_ := Aside0.mk (Kd.R_elder' (kr HO524.out) (Kd.R_base ho0) hb); have n2_ := Aside0.mk (Kd.R_elder' (kr HO528.out) (Kd.R_base ho0) hb); have n3_ := Aside0.mk (Kd.R_elder' (kr HO532.out) (Kd.R_base ho0) hb); have n4_ := Aside0.mk (Kd.R_lower (Kd.R_new' (Kd.R_new' (Kd.R_new' (Kd.R_new' ho0 (Kd.R_lt (kr HO520.out))) (Kd.R_lt (kr HO524.out))) (Kd.R_lt (kr HO528.out))) (Kd.R_lt (kr HO532.out))) (below_size (bl1 HB.out GE521.out))); have n5_ := Aside0.mk (blk_below (g := gb521) (o := .cells #[.int .i64 t512, .int .i64 t513, .int .i64 t514, .int .i64 t515, .bool t516] 27 (0, 0)) (kb BK521.out) hb); have n6_ := Aside0.mk (below_step (bl1 HB.out GE521.out) hb); clear HO520; clear HO524; clear HO528; clear HO532; clear BK521; clear HB; have HO520 := n0_; have HO524 := n1_; have HO528 := n2_; have HO532 := n3_; have HO536 := n4_; have BK521 := n5_; have HB := n6_; clear n0_ n1_ n2_ n3_ n4_ n5_ n6_; (try clear hb); (try clear hb2); (try clear hk); (try clear hi); (try clear ho0); obtain ⟨hcz28_0, hcz28_1, hcz28_2, hcz28_3, hcz28_4, hfz28_0, hfz28_1, hfz28_2, hfz28_3, hfz28_4⟩ := cz5 BK521.out) | ((with_reducible refine gate_callee (f := 13) rfl ?_); refine goesLS_ (some 102) Try.func13 #[.agg #[.int .i64 t512, .int .i64 t513, .int .i64 t514, .int .i64 t515, .bool t516], .int .i64 t517, .slice Ao20 t518.length co20] ?_; (with_reducible refine (impl_CountFits.calls k t512 t513 t514 t515 t516 t517 _ _ t518 t538 t539 _ ?side1 ?side2 A10.out).mono ?_); (case side1 => repeat (first | exact (Kd.R_reads' HO520.out).2.2 | (with_reducible refine Kd.C_alloc ?_ _) | (with_reducible refine Kd.C_drewN ?_ _) | (with_reducible refine Kd.C_drew ?_))); (case side2 => exact (Kd.R_reads' HO520.out).2.1); rintro e w29 ⟨rfl, hb⟩; refine ⟨_, rfl, ?_⟩; have n0_ := Aside0.mk (Kd.R_below (kr HO520.out) hb); have n1_ := Aside0.mk (Kd.R_below (kr HO524.out) hb); have n2_ := Aside0.mk (Kd.R_below (kr HO528.out) hb); have n3_ := Aside0.mk (Kd.R_below (kr HO532.out) hb); have n4_ := Aside0.mk (Kd.R_below (kr HO536.out) hb); have n5_ := Aside0.mk (blk_below (g := gb521) (o := .cells #[.int .i64 t512, .int .i64 t513, .int .i64 t514, .int .i64 t515, .bool t516] 27 (0, 0)) (kb BK521.out) hb); have n6_ := Aside0.mk (below_step (bl1 HB.out GE521.out) hb); clear HO520; clear HO524; clear HO528; clear HO532; clear HO536; clear BK521; clear HB; have HO520 := n0_; have HO524 := n1_; have HO528 := n2_; have HO532 := n3_; have HO536 := n4_; have BK521 := n5_; have HB := n6_; clear n0_ n1_ n2_ n3_ n4_ n5_ n6_; (try clear hb); (try clear hb2); (try clear hk); (try clear hi); obtain ⟨hcz30_0, hcz30_1, hcz30_2, hcz30_3, hcz30_4, hfz30_0, hfz30_1, hfz30_2, hfz30_3, hfz30_4⟩ := cz5 BK521.out) | ((with_reducible refine gate_callee (f := 14) rfl ?_); refine goesLS_ (some 109) Try.func14 #[.agg #[.int .i64 t512, .int .i64 t513, .int .i64 t514, .int .i64 t515, .bool t516], .int .i64 t517, .slice Ao20 t518.length co20] ?_; (with_reducible refine (spec_CountFits.calls k t512 t513 t514 t515 t516 t517 _ _ t518 t540 t541 _ ?side1 ?side2 A11.out).mono ?_); (case side1 => repeat (first | exact (Kd.R_reads' HO520.out).2.2 | (with_reducible refine Kd.C_alloc ?_ _) | (with_reducible refine Kd.C_drewN ?_ _) | (with_reducible refine Kd.C_drew ?_))); (case side2 => exact (Kd.R_reads' HO520.out).2.1); rintro e w31 ⟨rfl, hb⟩; refine ⟨_, rfl, ?_⟩; have n0_ := Aside0.mk (Kd.R_below (kr HO520.out) hb); have n1_ := Aside0.mk (Kd.R_below (kr HO524.out) hb); have n2_ := Aside0.mk (Kd.R_below (kr HO528.out) hb); have n3_ := Aside0.mk (Kd.R_below (kr HO532.out) hb); have n4_ := Aside0.mk (Kd.R_below (kr HO536.out) hb); have n5_ := Aside0.mk (blk_below (g := gb521) (o := .cells #[.int .i64 t512, .int .i64 t513, .int .i64 t514, .int .i64 t515, .bool t516] 27 (0, 0)) (kb BK521.out) hb); have n6_ := Aside0.mk (below_step (bl1 HB.out GE521.out) hb); clear HO520; clear HO524; clear HO528; clear HO532; clear HO536; clear BK521; clear HB; have HO520 := n0_; have HO524 := n1_; have HO528 := n2_; have HO532 := n3_; have HO536 := n4_; have BK521 := n5_; have HB := n6_; clear n0_ n1_ n2_ n3_ n4_ n5_ n6_; (try clear hb); (try clear hb2); (try clear hk); (try clear hi); obtain ⟨hcz32_0, hcz32_1, hcz32_2, hcz32_3, hcz32_4, hfz32_0, hfz32_1, hfz32_2, hfz32_3, hfz32_4⟩ := cz5 BK521.out) | ((with_reducible refine gate_callee (f := 15) rfl ?_); refine goesLS_ (some 114) Try.func15 #[.agg #[.int .i64 t512, .int .i64 t513, .int .i64 t514, .int .i64 t515, .bool t516]] ?_; (with_reducible refine (impl_ErrorBound.calls k t512 t513 t514 t515 t516 t542 t543 t544 _ A12.out).mono ?_); rintro e w33 ⟨rfl, hb⟩; refine ⟨_, rfl, ?_⟩; have n0_ := Aside0.mk (Kd.R_below (kr HO520.out) hb); have n1_ := Aside0.mk (Kd.R_below (kr HO524.out) hb); have n2_ := Aside0.mk (Kd.R_below (kr HO528.out) hb); have n3_ := Aside0.mk (Kd.R_below (kr HO532.out) hb); have n4_ := Aside0.mk (Kd.R_below (kr HO536.out) hb); have n5_ := Aside0.mk (blk_below (g := gb521) (o := .cells #[.int .i64 t512, .int .i64 t513, .int .i64 t514, .int .i64 t515, .bool t516] 27 (0, 0)) (kb BK521.out) hb); have n6_ := Aside0.mk (below_step (bl1 HB.out GE521.out) hb); clear HO520; clear HO524; clear HO528; clear HO532; clear HO536; clear BK521; clear HB; have HO520 := n0_; have HO524 := n1_; have HO528 := n2_; have HO532 := n3_; have HO536 := n4_; have BK521 := n5_; have HB := n6_; clear n0_ n1_ n2_ n3_ n4_ n5_ n6_; (try clear hb); (try clear hb2); (try clear hk); (try clear hi); obtain ⟨hcz34_0, hcz34_1, hcz34_2, hcz34_3, hcz34_4, hfz34_0, hfz34_1, hfz34_2, hfz34_3, hfz34_4⟩ := cz5 BK521.out) | ((with_reducible refine gate_callee (f := 16) rfl ?_); refine goesLS_ (some 120) Try.func16 #[.agg #[.int .i64 t512, .int .i64 t513, .int .i64 t514, .int .i64 t515, .bool t516]] ?_; (with_reducible refine (spec_ErrorBound.calls k t512 t513 t514 t515 t516 t545 t546 t547 _ A13.out).mono ?_); rintro e w35 ⟨rfl, hb⟩; refine ⟨_, rfl, ?_⟩; have n0_ := Aside0.mk (Kd.R_below (kr HO520.out) hb); have n1_ := Aside0.mk (Kd.R_below (kr HO524.out) hb); have n2_ := Aside0.mk (Kd.R_below (kr HO528.out) hb); have n3_ := Aside0.mk (Kd.R_below (kr HO532.out) hb); have n4_ := Aside0.mk (Kd.R_below (kr HO536.out) hb); have n5_ := Aside0.mk (blk_below (g := gb521) (o := .cells #[.int .i64 t512, .int .i64 t513, .int .i64 t514, .int .i64 t515, .bool t516] 27 (0, 0)) (kb BK521.out) hb); have n6_ := Aside0.mk (below_step (bl1 HB.out GE521.out) hb); clear HO520; clear HO524; clear HO528; clear HO532; clear HO536; clear BK521; clear HB; have HO520 := n0_; have HO524 := n1_; have HO528 := n2_; have HO532 := n3_; have HO536 := n4_; have BK521 := n5_; have HB := n6_; clear n0_ n1_ n2_ n3_ n4_ n5_ n6_; (try clear hb); (try clear hb2); (try clear hk); (try clear hi); obtain ⟨hcz36_0, hcz36_1, hcz36_2, hcz36_3, hcz36_4, hfz36_0, hfz36_1, hfz36_2, hfz36_3, hfz36_4⟩ := cz5 BK521.out) | ((with_reducible refine gate_callee (f := 17) rfl ?_); refine goesLS_ (some 126) Try.func17 #[.agg #[.int .i64 t512, .int .i64 t513, .int .i64 t514, .int .i64 t515, .bool t516]] ?_; (with_reducible refine (impl_IsShrinking.calls t512 t513 t514 t515 t516 t548 t549 _ A14.out).mono ?_); rintro e w37 ⟨rfl, hb⟩; refine ⟨_, rfl, ?_⟩; have n0_ := Aside0.mk (Kd.R_below (kr HO520.out) hb); have n1_ := Aside0.mk (Kd.R_below (kr HO524.out) hb); have n2_ := Aside0.mk (Kd.R_below (kr HO528.out) hb); have n3_ := Aside0.mk (Kd.R_below (kr HO532.out) hb); have n4_ := Aside0.mk (Kd.R_below (kr HO536.out) hb); have n5_ := Aside0.mk (blk_below (g := gb521) (o := .cells #[.int .i64 t512, .int .i64 t513, .int .i64 t514, .int .i64 t515, .bool t516] 27 (0, 0)) (kb BK521.out) hb); have n6_ := Aside0.mk (below_step (bl1 HB.out GE521.out) hb); clear HO520; clear HO524; clear HO528; clear HO532; clear HO536; clear BK521; clear HB; have HO520 := n0_; have HO524 := n1_; have HO528 := n2_; have HO532 := n3_; have HO536 := n4_; have BK521 := n5_; have HB := n6_; clear n0_ n1_ n2_ n3_ n4_ n5_ n6_; (try clear hb); (try clear hb2); (try clear hk); (try clear hi); obtain ⟨hcz38_0, hcz38_1, hcz38_2, hcz38_3, hcz38_4, hfz38_0, hfz38_1, hfz38_2, hfz38_3, hfz38_4⟩ := cz5 BK521.out) | ((with_reducible refine gate_callee (f := 18) rfl ?_); refine goesLS_ (some 131) Try.func18 #[.agg #[.int .i64 t512, .int .i64 t513, .int .i64 t514, .int .i64 t515, .bool t516]] ?_; (with_reducible refine (spec_IsShrinking.calls t512 t513 t514 t515 t516 t550 t551 _ A15.out).mono ?_); rintro e w39 ⟨rfl, hb⟩; refine ⟨_, rfl, ?_⟩; have n0_ := Aside0.mk (Kd.R_below (kr HO520.out) hb); have n1_ := Aside0.mk (Kd.R_below (kr HO524.out) hb); have n2_ := Aside0.mk (Kd.R_below (kr HO528.out) hb); have n3_ := Aside0.mk (Kd.R_below (kr HO532.out) hb); have n4_ := Aside0.mk (Kd.R_below (kr HO536.out) hb); have n5_ := Aside0.mk (blk_below (g := gb521) (o := .cells #[.int .i64 t512, .int .i64 t513, .int .i64 t514, .int .i64 t515, .bool t516] 27 (0, 0)) (kb BK521.out) hb); have n6_ := Aside0.mk (below_step (bl1 HB.out GE521.out) hb); clear HO520; clear HO524; clear HO528; clear HO532; clear HO536; clear BK521; clear HB; have HO520 := n0_; have HO524 := n1_; have HO528 := n2_; have HO532 := n3_; have HO536 := n4_; have BK521 := n5_; have HB := n6_; clear n0_ n1_ n2_ n3_ n4_ n5_ n6_; (try clear hb); (try clear hb2); (try clear hk); (try clear hi)))
  (try simp only [Act.put, List.setIfInBounds_toArray, List.set_cons_zero, List.set_cons_succ])
  refine cutF [ff, ff, ff, ff, ff, ff, ff, ff, ff, ff, ff, ff, ff, ff, ff, ff, ff, ff, ff, ff, ff, ff, ff, ff, ff, ff, ff, ff, ff, ff, ff, ff, ff, ff, ff, ff, ff, ff, ff, ff, ff, ff, ff, ff, ff, ff, ff, ff, ff, ff, ff, ff, ff, ff, ff, ff, ff, ff, ff, ff, ff, tt, tt, tt, tt, tt, tt, tt, tt, tt, tt, tt, tt, tt, tt, tt, tt, tt, tt, tt, tt, tt, tt, tt, tt, tt, tt, tt, tt, tt, tt, tt, tt, tt, tt, tt, tt, tt, tt, tt, tt, tt, tt, tt, tt, tt, tt, tt, tt, tt, tt, tt, tt, tt, tt, tt, tt, tt, tt, tt, tt, tt, tt, tt, tt, tt, tt, tt, tt, tt, tt, tt, tt, tt, tt, tt, tt, tt, tt, tt, tt, tt, tt, tt, tt, tt, tt, tt, tt, tt, tt, tt, tt, tt, tt, tt, tt, tt, tt, tt, tt, tt, tt, tt, tt, tt, tt, tt, tt, tt, tt, tt, tt, tt, tt, tt, tt, tt, tt, tt, tt, tt, tt, tt, tt, tt, tt, tt, tt, tt, tt, tt, tt, tt, tt, tt, tt, tt, tt, tt, tt, tt, tt, tt, tt, tt, tt, tt, tt, tt, tt, tt, tt, tt, tt, tt, tt, tt, tt, tt, tt, tt, ff, ff, ff, ff, ff, ff, ff, ff, ff, ff, ff, ff, ff, ff, ff, ff, ff, ff, ff, ff, ff, ff, ff, ff, ff, ff, ff, ff, ff, ff, ff, ff, ff, ff, ff, ff, ff, ff, ff, ff, ff, ff, ff, ff, ff, ff, ff, ff, ff, ff, ff, ff, ff, ff, ff, ff, ff, ff, ff, ff, ff, ff, ff, ff, ff, ff, ff, ff, ff, ff, ff, ff, ff, ff, ff, ff, ff, ff, ff, ff, ff, ff, ff, ff, ff, ff, ff, ff, ff, ff, ff, ff, ff, ff, ff, ff, ff, ff, ff, ff, ff, ff, ff, ff, ff, ff, ff, ff, ff, ff, ff, ff, ff, ff, ff, ff, ff, ff, ff, ff, ff, ff, ff, ff, ff, ff, ff, ff, ff, ff, ff, ff, ff, ff, ff, ff, ff, ff, ff, ff, ff, ff, ff, ff, ff, ff, ff, ff, ff, ff, ff, ff, ff, ff, ff, ff, ff, ff, ff, ff, ff, ff, ff, ff, ff, ff, ff, ff, ff, ff, ff, ff, ff, ff, ff, ff, ff, ff, ff, ff, ff, ff, ff, ff, ff, ff, ff, ff, ff, ff, ff, ff, ff, ff, ff, ff, ff, ff, ff, ff, ff, ff, ff, ff, ff, ff, ff, ff, ff, ff, ff, ff, ff, ff] (fun f_ wc => ∃ (kq : Nat) (x221_15 : Bool), (f_ 221) = .bool x221_15 ∧ Aside0 (laws_FnFirstRuns.j0 kq l1 t517 t518 t522 t525 t530 t533 t538 t542 t543 t544 x221_15 t512 t513 t514 t515 t516 = some r) ∧ Aside0 (kq ≤ k) ∧ Aside0 (Kd.R (Kd.int .i64) 3 wc w.heap.size (fun k_ => some k_ ≠ (v523 : Value).ownBlock ∧ some k_ ≠ (v531 : Value).ownBlock) (.slice Ao20 t518.length co20) t518) ∧ Aside0 (Kd.R (Kd.int .i64) 3 wc w.heap.size (fun k_ => some k_ ≠ ((.slice Ao20 t518.length co20) : Value).ownBlock ∧ some k_ ≠ (v531 : Value).ownBlock) v523 t522) ∧ Aside0 (Kd.R (Kd.int .i64) 3 wc w.heap.size (fun k_ => some k_ ≠ ((.slice Ao20 t518.length co20) : Value).ownBlock ∧ some k_ ≠ (v523 : Value).ownBlock) v531 t530) ∧ Aside0 (wc.heap[gb521]? = some (.cells #[.int .i64 t512, .int .i64 t513, .int .i64 t514, .int .i64 t515, .bool t516] 27 (0, 0))) ∧ Aside0 (Below w.heap.size w wc)) ?first_j0 ?rest_j0
  case first_j0 => as_aux_lemma =>
   intro J_ K_ hJ_j0 hK_
   have H := HC16.out
   clear HC16
   by_cases c40 : (t525 != t529) = true
   ·rw [if_pos c40] at H
    have c40b0 : (t525 != t529) = true := c40
    (try (have c40b1 : decide (t525 = t529) = false := by simpa using c40))
    (try (have c40b2 : (t525 == t529) = false := by simpa using c40))
    (try (have c40b3 : ¬ (t525 = t529) := by simpa using c40))
    clear c40
    (first | rw [c40b0] | (simp only [i64_w, i32_w]; rw [c40b0]) | skip)
    obtain rfl := Option.some.inj H
    exact absurd HT.out (by simp)
   ·rw [if_neg c40] at H
    have c40b0 : (t525 != t529) = false := by simpa using c40
    (try (have c40b1 : decide (t525 = t529) = true := by simpa using c40))
    (try (have c40b2 : (t525 == t529) = true := by simpa using c40))
    clear c40
    (first | rw [c40b0] | (simp only [i64_w, i32_w]; rw [c40b0]) | skip)
    replace H := Option.bind_eq_some_iff.mp H
    obtain ⟨t552, A410, H⟩ := H
    (try dsimp only at H)
    have A41 := Aside0.mk A410
    clear A410
    by_cases c42 : t552 = true
    ·subst c42
     rw [if_pos rfl] at H
     by_cases c43 : (t533 != t537) = true
     ·rw [if_pos c43] at H
      have c43b0 : (t533 != t537) = true := c43
      (try (have c43b1 : decide (t533 = t537) = false := by simpa using c43))
      (try (have c43b2 : (t533 == t537) = false := by simpa using c43))
      (try (have c43b3 : ¬ (t533 = t537) := by simpa using c43))
      clear c43
      obtain rfl := Option.some.inj H
      exact absurd HT.out (by simp)
     ·rw [if_neg c43] at H
      have c43b0 : (t533 != t537) = false := by simpa using c43
      (try (have c43b1 : decide (t533 = t537) = true := by simpa using c43))
      (try (have c43b2 : (t533 == t537) = true := by simpa using c43))
      clear c43
      replace H := Option.bind_eq_some_iff.mp H
      obtain ⟨t553, A440, H⟩ := H
      (try dsimp only at H)
      have A44 := Aside0.mk A440
      clear A440
      by_cases c45 : t553 = true
      ·subst c45
       rw [if_pos rfl] at H
       by_cases c46 : (t539 != t541) = true
       ·rw [if_pos c46] at H
        have c46b0 : (t539 != t541) = true := c46
        (try (have c46b1 : decide (t539 = t541) = false := by simpa using c46))
        (try (have c46b2 : (t539 == t541) = false := by simpa using c46))
        (try (have c46b3 : ¬ (t539 = t541) := by simpa using c46))
        clear c46
        obtain rfl := Option.some.inj H
        exact absurd HT.out (by simp)
       ·rw [if_neg c46] at H
        have c46b0 : (t539 != t541) = false := by simpa using c46
        (try (have c46b1 : decide (t539 = t541) = true := by simpa using c46))
        (try (have c46b2 : (t539 == t541) = true := by simpa using c46))
        clear c46
        by_cases c47 : t538 = t540
        ·rw [if_pos c47] at H
         have c47b0 : (t538 == t540) = true := beq_iff_eq.mpr c47
         have c47b1 : (t538 != t540) = false := bne_eq_false_iff_eq.mpr c47
         clear c47
         by_cases c48 : (t544 != t547) = true
         ·rw [if_pos c48] at H
          have c48b0 : (t544 != t547) = true := c48
          (try (have c48b1 : decide (t544 = t547) = false := by simpa using c48))
          (try (have c48b2 : (t544 == t547) = false := by simpa using c48))
          (try (have c48b3 : ¬ (t544 = t547) := by simpa using c48))
          clear c48
          obtain rfl := Option.some.inj H
          exact absurd HT.out (by simp)
         ·rw [if_neg c48] at H
          have c48b0 : (t544 != t547) = false := by simpa using c48
          (try (have c48b1 : decide (t544 = t547) = true := by simpa using c48))
          (try (have c48b2 : (t544 == t547) = true := by simpa using c48))
          clear c48
          by_cases c49 : t542 = t545
          ·rw [if_pos c49] at H
           have c49b0 : (t542 == t545) = true := beq_iff_eq.mpr c49
           have c49b1 : (t542 != t545) = false := bne_eq_false_iff_eq.mpr c49
           clear c49
           by_cases c50 : t543 = t546
           ·rw [if_pos c50] at H
            have c50b0 : (t543 == t546) = true := beq_iff_eq.mpr c50
            have c50b1 : (t543 != t546) = false := bne_eq_false_iff_eq.mpr c50
            clear c50
            by_cases c51 : (t549 != t551) = true
            ·rw [if_pos c51] at H
             have c51b0 : (t549 != t551) = true := c51
             (try (have c51b1 : decide (t549 = t551) = false := by simpa using c51))
             (try (have c51b2 : (t549 == t551) = false := by simpa using c51))
             (try (have c51b3 : ¬ (t549 = t551) := by simpa using c51))
             clear c51
             obtain rfl := Option.some.inj H
             exact absurd HT.out (by simp)
            ·rw [if_neg c51] at H
             have c51b0 : (t549 != t551) = false := by simpa using c51
             (try (have c51b1 : decide (t549 = t551) = true := by simpa using c51))
             (try (have c51b2 : (t549 == t551) = true := by simpa using c51))
             clear c51
             by_cases c52 : (t548 != t550) = true
             ·rw [if_pos c52] at H
              have c52b0 : (t548 != t550) = true := c52
              (try (have c52b1 : decide (t548 = t550) = false := by simpa using c52))
              (try (have c52b2 : (t548 == t550) = false := by simpa using c52))
              (try (have c52b3 : ¬ (t548 = t550) := by simpa using c52))
              clear c52
              obtain rfl := Option.some.inj H
              exact absurd HT.out (by simp)
             ·rw [if_neg c52] at H
              have c52b0 : (t548 != t550) = false := by simpa using c52
              (try (have c52b1 : decide (t548 = t550) = true := by simpa using c52))
              (try (have c52b2 : (t548 == t550) = true := by simpa using c52))
              clear c52
              by_cases c53 : (t539 != t525) = true
              ·rw [if_pos c53] at H
               have c53b0 : (t539 != t525) = true := c53
               (try (have c53b1 : decide (t539 = t525) = false := by simpa using c53))
               (try (have c53b2 : (t539 == t525) = false := by simpa using c53))
               (try (have c53b3 : ¬ (t539 = t525) := by simpa using c53))
               clear c53
               obtain rfl := Option.some.inj H
               exact absurd HT.out (by simp)
              ·rw [if_neg c53] at H
               have c53b0 : (t539 != t525) = false := by simpa using c53
               (try (have c53b1 : decide (t539 = t525) = true := by simpa using c53))
               (try (have c53b2 : (t539 == t525) = true := by simpa using c53))
               clear c53
               by_cases c54 : t533 = true
               ·subst c54
                rw [if_pos rfl] at H
                by_cases c55 : t525 = true
                ·subst c55
                 rw [if_pos rfl] at H
                 replace H := Option.bind_eq_some_iff.mp H
                 obtain ⟨t554, A560, H⟩ := H
                 (try dsimp only at H)
                 have A56 := Aside0.mk A560
                 clear A560
                 by_cases c57 : (t549 != t554) = true
                 ·rw [if_pos c57] at H
                  have c57b0 : (t549 != t554) = true := c57
                  (try (have c57b1 : decide (t549 = t554) = false := by simpa using c57))
                  (try (have c57b2 : (t549 == t554) = false := by simpa using c57))
                  (try (have c57b3 : ¬ (t549 = t554) := by simpa using c57))
                  clear c57
                  obtain rfl := Option.some.inj H
                  exact absurd HT.out (by simp)
                 ·rw [if_neg c57] at H
                  have c57b0 : (t549 != t554) = false := by simpa using c57
                  (try (have c57b1 : decide (t549 = t554) = true := by simpa using c57))
                  (try (have c57b2 : (t549 == t554) = true := by simpa using c57))
                  clear c57
                  replace H := Option.bind_eq_some_iff.mp H
                  obtain ⟨t555, A580, H⟩ := H
                  (try dsimp only at H)
                  have A58 := Aside0.mk A580
                  clear A580
                  replace H := Option.bind_eq_some_iff.mp H
                  obtain ⟨t556, A590, H⟩ := H
                  (try dsimp only at H)
                  have A59 := Aside0.mk A590
                  clear A590
                  by_cases c60 : (t555 != t556) = true
                  ·rw [if_pos c60] at H
                   have c60b0 : (t555 != t556) = true := c60
                   (try (have c60b1 : decide (t555 = t556) = false := by simpa using c60))
                   (try (have c60b2 : (t555 == t556) = false := by simpa using c60))
                   (try (have c60b3 : ¬ (t555 = t556) := by simpa using c60))
                   clear c60
                   obtain rfl := Option.some.inj H
                   exact absurd HT.out (by simp)
                  ·rw [if_neg c60] at H
                   have c60b0 : (t555 != t556) = false := by simpa using c60
                   (try (have c60b1 : decide (t555 = t556) = true := by simpa using c60))
                   (try (have c60b2 : (t555 == t556) = true := by simpa using c60))
                   clear c60
                   by_cases c61 : t549 = true
                   ·subst c61
                    rw [if_pos rfl] at H
                    have H' := Aside0.mk H
                    clear H
                    try go_wp2
                    have n0_ := Aside0.mk (Kd.R_drew HO520.out)
                    have n1_ := Aside0.mk (Kd.R_drew HO524.out)
                    have n2_ := Aside0.mk (Kd.R_drew HO528.out)
                    have n3_ := Aside0.mk (Kd.R_drew HO532.out)
                    have n4_ := Aside0.mk (Kd.R_drew HO536.out)
                    have n5_ := Aside0.mk (blk_drew BK521.out)
                    have n6_ := Aside0.mk (below_drew1 HB.out)
                    clear HO520
                    clear HO524
                    clear HO528
                    clear HO532
                    clear HO536
                    clear BK521
                    clear HB
                    have HO520 := n0_
                    have HO524 := n1_
                    have HO528 := n2_
                    have HO532 := n3_
                    have HO536 := n4_
                    have BK521 := n5_
                    have HB := n6_
                    clear n0_ n1_ n2_ n3_ n4_ n5_ n6_
                    obtain ⟨Ao63, co63, eo63⟩ := Kd.R_slice HO524.out
                    (first | subst eo63 | (injection eo63 with f1_ f2_ f3_; have f4_ := f1_.symm; have f5_ := f3_.symm; clear f1_ f2_ f3_; subst f4_; subst f5_))
                    obtain ⟨Ao64, co64, eo64⟩ := Kd.R_slice HO528.out
                    (first | subst eo64 | (injection eo64 with f1_ f2_ f3_; have f4_ := f1_.symm; have f5_ := f3_.symm; clear f1_ f2_ f3_; subst f4_; subst f5_))
                    refine start_ (n := 88) (S := fun w' => w'.cell? ⟨gb521, 0, none⟩ = some (.int .i64 t512) ∧ w'.cell? ⟨gb521, 1, none⟩ = some (.int .i64 t513) ∧ w'.cell? ⟨gb521, 2, none⟩ = some (.int .i64 t514) ∧ w'.cell? ⟨gb521, 3, none⟩ = some (.int .i64 t515) ∧ w'.cell? ⟨gb521, 4, none⟩ = some (.bool t516)) (ds := []) (bm 88 0) (by kernel_rfl) rfl rfl ⟨(blk_cell BK521.out 0).trans rfl, (blk_cell BK521.out 1).trans rfl, (blk_cell BK521.out 2).trans rfl, (blk_cell BK521.out 3).trans rfl, (blk_cell BK521.out 4).trans rfl⟩ (fun hHeld => ?_); refine with_tabW laws_FnFirstRuns.tab14 laws_FnFirstRuns.bits14 (fun HT_ HW_ => ?_)
                    generalize w39.drew = w62 at HO520 HO524 HO528 HO532 HO536 BK521 HB hHeld ⊢
                    refine pureT_ 0 134 (bm 88 1) HT_.out ?_
                    refine pureT_ 1 135 (bm 88 3) HT_.out ?_
                    refine pureT_ 2 136 (bm 88 7) HT_.out ?_
                    refine pureT_ 3 137 (bm 88 15) HT_.out ?_
                    refine pureT_ 4 138 (bm 88 31) HT_.out ?_
                    refine pureT_ 5 139 (bm 88 63) HT_.out ?_
                    refine one_ (i := 6) (N := some 140) (bm 88 127) rfl rfl (one_of HT_.out (by kernel_rfl)) (by decide) (fun K hK => ?_)
                    refine goesS_ Try.func19 #[.slice Ao63 t522.length co63, .slice Ao64 t526.length co64] ?_
                    with_reducible refine (laws_uSame.calls k _ _ t522 _ _ t526 true _ ?side1 ?side2 ?side3 ?side4 A41.out).mono ?_
                    (case side1 => repeat (first | exact (Kd.R_reads' HO524.out).2.2 | (with_reducible refine Kd.C_alloc ?_ _) | (with_reducible refine Kd.C_drewN ?_ _) | (with_reducible refine Kd.C_drew ?_)))
                    (case side2 => exact (Kd.R_reads' HO524.out).2.1)
                    (case side3 => repeat (first | exact (Kd.R_reads' HO528.out).2.2 | (with_reducible refine Kd.C_alloc ?_ _) | (with_reducible refine Kd.C_drewN ?_ _) | (with_reducible refine Kd.C_drew ?_)))
                    (case side4 => exact (Kd.R_reads' HO528.out).2.1)
                    rintro e w' ⟨rfl, ⟨nd, rfl⟩⟩
                    refine ⟨_, rfl, ?_⟩
                    obtain ⟨Ao65, co65, eo65⟩ := Kd.R_slice HO532.out
                    (first | subst eo65 | (injection eo65 with f1_ f2_ f3_; have f4_ := f1_.symm; have f5_ := f3_.symm; clear f1_ f2_ f3_; subst f4_; subst f5_))
                    obtain ⟨Ao66, co66, eo66⟩ := Kd.R_slice HO536.out
                    (first | subst eo66 | (injection eo66 with f1_ f2_ f3_; have f4_ := f1_.symm; have f5_ := f3_.symm; clear f1_ f2_ f3_; subst f4_; subst f5_))
                    refine hK.out _ _ ⟨(blk_cell BK521.out 0).trans rfl, (blk_cell BK521.out 1).trans rfl, (blk_cell BK521.out 2).trans rfl, (blk_cell BK521.out 3).trans rfl, (blk_cell BK521.out 4).trans rfl⟩ (fun hHeld => ?_)
                    clear hK K
                    refine norm_ (a' := ?_) ?_ ?_
                    rotate_left
                    ·show Act.put _ (some 140) _ = _
                     simp only [Act.put, List.setIfInBounds_toArray, List.set_cons_zero, List.set_cons_succ, i64_w, i32_w]
                     rfl
                    refine pureT_ 7 141 (bm 88 255) HT_.out ?_
                    refine pureT_ 8 142 (bm 88 511) HT_.out ?_
                    refine pureT_ 9 143 (bm 88 1023) HT_.out ?_
                    refine pureT_ 10 144 (bm 88 2047) HT_.out ?_
                    refine pureT_ 11 145 (bm 88 4095) HT_.out ?_
                    refine pureT_ 12 146 (bm 88 8191) HT_.out ?_
                    refine pureT_ 13 147 (bm 88 16383) HT_.out ?_
                    refine pureT_ 14 148 (bm 88 32767) HT_.out ?_
                    refine pureT_ 15 149 (bm 88 65535) HT_.out ?_
                    refine pureT_ 16 150 (bm 88 131071) HT_.out ?_
                    refine one_ (i := 17) (N := some 151) (bm 88 262143) rfl rfl (one_of HT_.out (by kernel_rfl)) (by decide) (fun K hK => ?_)
                    refine goesS_ Try.func19 #[.slice Ao65 t530.length co65, .slice Ao66 t534.length co66] ?_
                    with_reducible refine (laws_uSame.calls k _ _ t530 _ _ t534 true _ ?side1 ?side2 ?side3 ?side4 A44.out).mono ?_
                    (case side1 => repeat (first | exact (Kd.R_reads' HO532.out).2.2 | (with_reducible refine Kd.C_alloc ?_ _) | (with_reducible refine Kd.C_drewN ?_ _) | (with_reducible refine Kd.C_drew ?_)))
                    (case side2 => exact (Kd.R_reads' HO532.out).2.1)
                    (case side3 => repeat (first | exact (Kd.R_reads' HO536.out).2.2 | (with_reducible refine Kd.C_alloc ?_ _) | (with_reducible refine Kd.C_drewN ?_ _) | (with_reducible refine Kd.C_drew ?_)))
                    (case side4 => exact (Kd.R_reads' HO536.out).2.1)
                    rintro e w' ⟨rfl, ⟨nd, rfl⟩⟩
                    refine ⟨_, rfl, ?_⟩
                    refine hK.out _ _ ⟨(blk_cell BK521.out 0).trans rfl, (blk_cell BK521.out 1).trans rfl, (blk_cell BK521.out 2).trans rfl, (blk_cell BK521.out 3).trans rfl, (blk_cell BK521.out 4).trans rfl⟩ (fun hHeld => ?_)
                    clear hK K
                    refine norm_ (a' := ?_) ?_ ?_
                    rotate_left
                    ·show Act.put _ (some 151) _ = _
                     simp only [Act.put, List.setIfInBounds_toArray, List.set_cons_zero, List.set_cons_succ, i64_w, i32_w]
                     rfl
                    refine pureT_ 18 152 (bm 88 524287) HT_.out ?_
                    refine pureT_ 19 153 (bm 88 1048575) HT_.out ?_
                    refine pureT_ 20 154 (bm 88 2097151) HT_.out ?_
                    refine pureT_ 21 155 (bm 88 4194303) HT_.out ?_
                    refine pureT_ 22 156 (bm 88 8388607) HT_.out ?_
                    refine pureT_ 23 157 (bm 88 16777215) HT_.out ?_
                    refine pureT_ 24 158 (bm 88 33554431) HT_.out ?_
                    refine pureT_ 25 159 (bm 88 67108863) HT_.out ?_
                    refine pureT_ 26 160 (bm 88 134217727) HT_.out ?_
                    refine pureT_ 27 161 (bm 88 268435455) HT_.out ?_
                    refine pureT_ 28 162 (bm 88 536870911) HT_.out ?_
                    refine pureT_ 29 163 (bm 88 1073741823) HT_.out ?_
                    refine pureT_ 30 164 (bm 88 2147483647) HT_.out ?_
                    refine pureT_ 31 165 (bm 88 4294967295) HT_.out ?_
                    refine pureT_ 32 166 (bm 88 8589934591) HT_.out ?_
                    refine pureT_ 33 167 (bm 88 17179869183) HT_.out ?_
                    refine pureT_ 34 168 (bm 88 34359738367) HT_.out ?_
                    refine pureT_ 35 169 (bm 88 68719476735) HT_.out ?_
                    refine pureT_ 36 170 (bm 88 137438953471) HT_.out ?_
                    refine pureT_ 37 171 (bm 88 274877906943) HT_.out ?_
                    refine pureT_ 38 172 (bm 88 549755813887) HT_.out ?_
                    refine pureT_ 39 173 (bm 88 1099511627775) HT_.out ?_
                    refine pureT_ 40 174 (bm 88 2199023255551) HT_.out ?_
                    refine pureT_ 41 175 (bm 88 4398046511103) HT_.out ?_
                    refine pureT_ 42 176 (bm 88 8796093022207) HT_.out ?_
                    refine pureT_ 43 177 (bm 88 17592186044415) HT_.out ?_
                    refine pureT_ 44 178 (bm 88 35184372088831) HT_.out ?_
                    refine pureT_ 45 179 (bm 88 70368744177663) HT_.out ?_
                    refine pureT_ 46 180 (bm 88 140737488355327) HT_.out ?_
                    refine pureT_ 47 181 (bm 88 281474976710655) HT_.out ?_
                    refine pureT_ 48 182 (bm 88 562949953421311) HT_.out ?_
                    refine pureT_ 49 183 (bm 88 1125899906842623) HT_.out ?_
                    refine pureT_ 50 184 (bm 88 2251799813685247) HT_.out ?_
                    refine pureT_ 51 185 (bm 88 4503599627370495) HT_.out ?_
                    refine pureT_ 52 186 (bm 88 9007199254740991) HT_.out ?_
                    refine pureT_ 53 187 (bm 88 18014398509481983) HT_.out ?_
                    refine pureT_ 54 188 (bm 88 36028797018963967) HT_.out ?_
                    refine pureT_ 55 189 (bm 88 72057594037927935) HT_.out ?_
                    refine pureT_ 56 190 (bm 88 144115188075855871) HT_.out ?_
                    refine pureT_ 57 191 (bm 88 288230376151711743) HT_.out ?_
                    refine pureT_ 58 192 (bm 88 576460752303423487) HT_.out ?_
                    refine pureT_ 59 193 (bm 88 1152921504606846975) HT_.out ?_
                    refine pureT_ 60 194 (bm 88 2305843009213693951) HT_.out ?_
                    refine pureT_ 61 195 (bm 88 4611686018427387903) HT_.out ?_
                    refine pureT_ 62 196 (bm 88 9223372036854775807) HT_.out ?_
                    refine pureT_ 63 197 (bm 88 18446744073709551615) HT_.out ?_
                    refine pureT_ 64 198 (bm 88 36893488147419103231) HT_.out ?_
                    refine pureT_ 65 199 (bm 88 73786976294838206463) HT_.out ?_
                    refine pureT_ 66 200 (bm 88 147573952589676412927) HT_.out ?_
                    refine pureT_ 67 201 (bm 88 295147905179352825855) HT_.out ?_
                    refine pureT_ 68 202 (bm 88 590295810358705651711) HT_.out ?_
                    refine take_ (i := 69) (N := some 203) (v := ?_) (a' := ?_) (bm 88 1180591620717411303423) rfl rfl (take_ofW HT_.out HW_.out (by kernel_rfl)) (fun _ _ _ h => h) (Or.inl ⟨by rfl, ?_⟩) hHeld ?_ ?_
                    rotate_left
                    ·rintro w' ⟨s0, s1, s2, s3, s4⟩
                     go_simp
                     with_reducible rfl
                    rotate_left
                    ·simp only [Act.put, List.setIfInBounds_toArray, List.set_cons_zero, List.set_cons_succ, i64_w, i32_w]
                     rfl
                    refine one_ (i := 70) (N := some 204) (bm 88 2361183241434822606847) rfl rfl (one_of HT_.out (by kernel_rfl)) (by decide) (fun K hK => ?_)
                    refine goesS_ Try.func20 #[.agg #[.int .i64 t512, .int .i64 t513, .int .i64 t514, .int .i64 t515, .bool t516]] ?_
                    with_reducible refine (impl_IsFirst.calls t512 t513 t514 t515 t516 t554 _ A56.out).mono ?_
                    rintro e w67 ⟨rfl, hb⟩
                    refine ⟨_, rfl, ?_⟩
                    have n0_ := Aside0.mk (Kd.R_below (kr HO520.out) hb)
                    have n1_ := Aside0.mk (Kd.R_below (kr HO524.out) hb)
                    have n2_ := Aside0.mk (Kd.R_below (kr HO528.out) hb)
                    have n3_ := Aside0.mk (Kd.R_below (kr HO532.out) hb)
                    have n4_ := Aside0.mk (Kd.R_below (kr HO536.out) hb)
                    have n5_ := Aside0.mk (blk_below (g := gb521) (o := .cells #[.int .i64 t512, .int .i64 t513, .int .i64 t514, .int .i64 t515, .bool t516] 27 (0, 0)) (kb BK521.out) hb)
                    have n6_ := Aside0.mk (below_step (bl1 HB.out GE521.out) hb)
                    clear HO520
                    clear HO524
                    clear HO528
                    clear HO532
                    clear HO536
                    clear BK521
                    clear HB
                    have HO520 := n0_
                    have HO524 := n1_
                    have HO528 := n2_
                    have HO532 := n3_
                    have HO536 := n4_
                    have BK521 := n5_
                    have HB := n6_
                    clear n0_ n1_ n2_ n3_ n4_ n5_ n6_
                    (try clear hb)
                    (try clear hb2)
                    (try clear hk)
                    (try clear hi)
                    refine hK.out _ _ ⟨(blk_cell BK521.out 0).trans rfl, (blk_cell BK521.out 1).trans rfl, (blk_cell BK521.out 2).trans rfl, (blk_cell BK521.out 3).trans rfl, (blk_cell BK521.out 4).trans rfl⟩ (fun hHeld => ?_)
                    clear hK K
                    refine norm_ (a' := ?_) ?_ ?_
                    rotate_left
                    ·show Act.put _ (some 204) _ = _
                     simp only [Act.put, List.setIfInBounds_toArray, List.set_cons_zero, List.set_cons_succ, i64_w, i32_w]
                     rfl
                    refine pureT_ 71 205 (bm 88 4722366482869645213695) HT_.out ?_
                    refine pureT_ 72 206 (bm 88 9444732965739290427391) HT_.out ?_
                    refine pureT_ 73 207 (bm 88 18889465931478580854783) HT_.out ?_
                    refine take_ (i := 74) (N := some 208) (v := ?_) (a' := ?_) (bm 88 37778931862957161709567) rfl rfl (take_ofW HT_.out HW_.out (by kernel_rfl)) (fun _ _ _ h => h) (Or.inl ⟨by rfl, ?_⟩) hHeld ?_ ?_
                    rotate_left
                    ·rintro w' ⟨s0, s1, s2, s3, s4⟩
                     go_simp
                     with_reducible rfl
                    rotate_left
                    ·simp only [Act.put, List.setIfInBounds_toArray, List.set_cons_zero, List.set_cons_succ, i64_w, i32_w]
                     rfl
                    refine take_ (i := 76) (N := some 210) (v := ?_) (a' := ?_) (bm 88 113336795588871485128703) rfl rfl (take_ofW HT_.out HW_.out (by kernel_rfl)) (fun _ _ _ h => h) (Or.inl ⟨by rfl, ?_⟩) hHeld ?_ ?_
                    rotate_left
                    ·rintro w' ⟨s0, s1, s2, s3, s4⟩
                     go_simp
                     with_reducible rfl
                    rotate_left
                    ·simp only [Act.put, List.setIfInBounds_toArray, List.set_cons_zero, List.set_cons_succ, i64_w, i32_w]
                     rfl
                    refine one_ (i := 75) (N := some 209) (bm 88 151115727451828646838271) rfl rfl (one_of HT_.out (by kernel_rfl)) (by decide) (fun K hK => ?_)
                    refine goesS_ Try.func20 #[.agg #[.int .i64 t512, .int .i64 t513, .int .i64 t514, .int .i64 t515, .bool t516]] ?_
                    with_reducible refine (impl_IsFirst.calls t512 t513 t514 t515 t516 t555 _ A58.out).mono ?_
                    rintro e w68 ⟨rfl, hb⟩
                    refine ⟨_, rfl, ?_⟩
                    have n0_ := Aside0.mk (Kd.R_below (kr HO520.out) hb)
                    have n1_ := Aside0.mk (Kd.R_below (kr HO524.out) hb)
                    have n2_ := Aside0.mk (Kd.R_below (kr HO528.out) hb)
                    have n3_ := Aside0.mk (Kd.R_below (kr HO532.out) hb)
                    have n4_ := Aside0.mk (Kd.R_below (kr HO536.out) hb)
                    have n5_ := Aside0.mk (blk_below (g := gb521) (o := .cells #[.int .i64 t512, .int .i64 t513, .int .i64 t514, .int .i64 t515, .bool t516] 27 (0, 0)) (kb BK521.out) hb)
                    have n6_ := Aside0.mk (below_step (bl1 HB.out GE521.out) hb)
                    clear HO520
                    clear HO524
                    clear HO528
                    clear HO532
                    clear HO536
                    clear BK521
                    clear HB
                    have HO520 := n0_
                    have HO524 := n1_
                    have HO528 := n2_
                    have HO532 := n3_
                    have HO536 := n4_
                    have BK521 := n5_
                    have HB := n6_
                    clear n0_ n1_ n2_ n3_ n4_ n5_ n6_
                    (try clear hb)
                    (try clear hb2)
                    (try clear hk)
                    (try clear hi)
                    refine hK.out _ _ ⟨(blk_cell BK521.out 0).trans rfl, (blk_cell BK521.out 1).trans rfl, (blk_cell BK521.out 2).trans rfl, (blk_cell BK521.out 3).trans rfl, (blk_cell BK521.out 4).trans rfl⟩ (fun hHeld => ?_)
                    clear hK K
                    refine norm_ (a' := ?_) ?_ ?_
                    rotate_left
                    ·show Act.put _ (some 209) _ = _
                     simp only [Act.put, List.setIfInBounds_toArray, List.set_cons_zero, List.set_cons_succ, i64_w, i32_w]
                     rfl
                    refine one_ (i := 77) (N := some 211) (bm 88 302231454903657293676543) rfl rfl (one_of HT_.out (by kernel_rfl)) (by decide) (fun K hK => ?_)
                    refine goesS_ Try.func21 #[.agg #[.int .i64 t512, .int .i64 t513, .int .i64 t514, .int .i64 t515, .bool t516]] ?_
                    with_reducible refine (spec_IsFirst.calls t512 t513 t514 t515 t516 t556 _ A59.out).mono ?_
                    rintro e w69 ⟨rfl, hb⟩
                    refine ⟨_, rfl, ?_⟩
                    have n0_ := Aside0.mk (Kd.R_below (kr HO520.out) hb)
                    have n1_ := Aside0.mk (Kd.R_below (kr HO524.out) hb)
                    have n2_ := Aside0.mk (Kd.R_below (kr HO528.out) hb)
                    have n3_ := Aside0.mk (Kd.R_below (kr HO532.out) hb)
                    have n4_ := Aside0.mk (Kd.R_below (kr HO536.out) hb)
                    have n5_ := Aside0.mk (blk_below (g := gb521) (o := .cells #[.int .i64 t512, .int .i64 t513, .int .i64 t514, .int .i64 t515, .bool t516] 27 (0, 0)) (kb BK521.out) hb)
                    have n6_ := Aside0.mk (below_step (bl1 HB.out GE521.out) hb)
                    clear HO520
                    clear HO524
                    clear HO528
                    clear HO532
                    clear HO536
                    clear BK521
                    clear HB
                    have HO520 := n0_
                    have HO524 := n1_
                    have HO528 := n2_
                    have HO532 := n3_
                    have HO536 := n4_
                    have BK521 := n5_
                    have HB := n6_
                    clear n0_ n1_ n2_ n3_ n4_ n5_ n6_
                    (try clear hb)
                    (try clear hb2)
                    (try clear hk)
                    (try clear hi)
                    refine hK.out _ _ ⟨(blk_cell BK521.out 0).trans rfl, (blk_cell BK521.out 1).trans rfl, (blk_cell BK521.out 2).trans rfl, (blk_cell BK521.out 3).trans rfl, (blk_cell BK521.out 4).trans rfl⟩ (fun hHeld => ?_)
                    clear hK K
                    refine norm_ (a' := ?_) ?_ ?_
                    rotate_left
                    ·show Act.put _ (some 211) _ = _
                     simp only [Act.put, List.setIfInBounds_toArray, List.set_cons_zero, List.set_cons_succ, i64_w, i32_w]
                     rfl
                    refine pureT_ 78 212 (bm 88 604462909807314587353087) HT_.out ?_
                    refine pureT_ 79 213 (bm 88 1208925819614629174706175) HT_.out ?_
                    refine pureT_ 80 214 (bm 88 2417851639229258349412351) HT_.out ?_
                    refine pureT_ 81 215 (bm 88 4835703278458516698824703) HT_.out ?_
                    refine pureT_ 82 216 (bm 88 9671406556917033397649407) HT_.out ?_
                    refine pureT_ 83 217 (bm 88 19342813113834066795298815) HT_.out ?_
                    refine pureT_ 84 218 (bm 88 38685626227668133590597631) HT_.out ?_
                    refine pureT_ 85 219 (bm 88 77371252455336267181195263) HT_.out ?_
                    refine pureT_ 86 220 (bm 88 154742504910672534362390527) HT_.out ?_
                    refine pureT_ 87 221 (bm 88 309485009821345068724781055) HT_.out ?_
                    refine done_ (done_of HT_.out (by kernel_rfl)) ?_
                    try go_wp2
                    refine meetF hJ_j0 (by kernel_rfl) (by kernel_rfl) ?rel_z70
                    case rel_z70 => (try simp only [List.getD_cons_succ, List.getD_cons_zero]); exact ⟨_, ((t544 != t548)), (by first | rfl | (simp; done) | (simp [*]; done)), H', ⟨by first | omega | exact Nat.le_refl _⟩, ⟨by (with_reducible repeat (first | apply Kd.R_alloc | apply Kd.R_drewN | apply Kd.R_drew)); exact Kd.R_mono HO520.out (fun _ hk => ⟨hk.1.1.1.2, hk.1.2⟩)⟩, ⟨by (with_reducible repeat (first | apply Kd.R_alloc | apply Kd.R_drewN | apply Kd.R_drew)); exact Kd.R_mono HO524.out (fun _ hk => ⟨hk.1.1.1.2, hk.1.2⟩)⟩, ⟨by (with_reducible repeat (first | apply Kd.R_alloc | apply Kd.R_drewN | apply Kd.R_drew)); exact Kd.R_mono HO532.out (fun _ hk => ⟨hk.1.1.1.2, hk.1.1.2⟩)⟩, ⟨kb BK521.out⟩, ⟨bl1 HB.out GE521.out⟩⟩
                   ·replace c61 := Bool.eq_false_iff.mpr c61
                    subst c61
                    rw [if_neg (show ¬ (false = true) by decide)] at H
                    have H' := Aside0.mk H
                    clear H
                    try go_wp2
                    have n0_ := Aside0.mk (Kd.R_drew HO520.out)
                    have n1_ := Aside0.mk (Kd.R_drew HO524.out)
                    have n2_ := Aside0.mk (Kd.R_drew HO528.out)
                    have n3_ := Aside0.mk (Kd.R_drew HO532.out)
                    have n4_ := Aside0.mk (Kd.R_drew HO536.out)
                    have n5_ := Aside0.mk (blk_drew BK521.out)
                    have n6_ := Aside0.mk (below_drew1 HB.out)
                    clear HO520
                    clear HO524
                    clear HO528
                    clear HO532
                    clear HO536
                    clear BK521
                    clear HB
                    have HO520 := n0_
                    have HO524 := n1_
                    have HO528 := n2_
                    have HO532 := n3_
                    have HO536 := n4_
                    have BK521 := n5_
                    have HB := n6_
                    clear n0_ n1_ n2_ n3_ n4_ n5_ n6_
                    obtain ⟨Ao72, co72, eo72⟩ := Kd.R_slice HO524.out
                    (first | subst eo72 | (injection eo72 with f1_ f2_ f3_; have f4_ := f1_.symm; have f5_ := f3_.symm; clear f1_ f2_ f3_; subst f4_; subst f5_))
                    obtain ⟨Ao73, co73, eo73⟩ := Kd.R_slice HO528.out
                    (first | subst eo73 | (injection eo73 with f1_ f2_ f3_; have f4_ := f1_.symm; have f5_ := f3_.symm; clear f1_ f2_ f3_; subst f4_; subst f5_))
                    refine start_ (n := 88) (S := fun w' => w'.cell? ⟨gb521, 0, none⟩ = some (.int .i64 t512) ∧ w'.cell? ⟨gb521, 1, none⟩ = some (.int .i64 t513) ∧ w'.cell? ⟨gb521, 2, none⟩ = some (.int .i64 t514) ∧ w'.cell? ⟨gb521, 3, none⟩ = some (.int .i64 t515) ∧ w'.cell? ⟨gb521, 4, none⟩ = some (.bool t516)) (ds := []) (bm 88 0) (by kernel_rfl) rfl rfl ⟨(blk_cell BK521.out 0).trans rfl, (blk_cell BK521.out 1).trans rfl, (blk_cell BK521.out 2).trans rfl, (blk_cell BK521.out 3).trans rfl, (blk_cell BK521.out 4).trans rfl⟩ (fun hHeld => ?_); refine with_tabW laws_FnFirstRuns.tab14 laws_FnFirstRuns.bits14 (fun HT_ HW_ => ?_)
                    generalize w39.drew = w71 at HO520 HO524 HO528 HO532 HO536 BK521 HB hHeld ⊢
                    refine pureT_ 0 134 (bm 88 1) HT_.out ?_
                    refine pureT_ 1 135 (bm 88 3) HT_.out ?_
                    refine pureT_ 2 136 (bm 88 7) HT_.out ?_
                    refine pureT_ 3 137 (bm 88 15) HT_.out ?_
                    refine pureT_ 4 138 (bm 88 31) HT_.out ?_
                    refine pureT_ 5 139 (bm 88 63) HT_.out ?_
                    refine one_ (i := 6) (N := some 140) (bm 88 127) rfl rfl (one_of HT_.out (by kernel_rfl)) (by decide) (fun K hK => ?_)
                    refine goesS_ Try.func19 #[.slice Ao72 t522.length co72, .slice Ao73 t526.length co73] ?_
                    with_reducible refine (laws_uSame.calls k _ _ t522 _ _ t526 true _ ?side1 ?side2 ?side3 ?side4 A41.out).mono ?_
                    (case side1 => repeat (first | exact (Kd.R_reads' HO524.out).2.2 | (with_reducible refine Kd.C_alloc ?_ _) | (with_reducible refine Kd.C_drewN ?_ _) | (with_reducible refine Kd.C_drew ?_)))
                    (case side2 => exact (Kd.R_reads' HO524.out).2.1)
                    (case side3 => repeat (first | exact (Kd.R_reads' HO528.out).2.2 | (with_reducible refine Kd.C_alloc ?_ _) | (with_reducible refine Kd.C_drewN ?_ _) | (with_reducible refine Kd.C_drew ?_)))
                    (case side4 => exact (Kd.R_reads' HO528.out).2.1)
                    rintro e w' ⟨rfl, ⟨nd, rfl⟩⟩
                    refine ⟨_, rfl, ?_⟩
                    obtain ⟨Ao74, co74, eo74⟩ := Kd.R_slice HO532.out
                    (first | subst eo74 | (injection eo74 with f1_ f2_ f3_; have f4_ := f1_.symm; have f5_ := f3_.symm; clear f1_ f2_ f3_; subst f4_; subst f5_))
                    obtain ⟨Ao75, co75, eo75⟩ := Kd.R_slice HO536.out
                    (first | subst eo75 | (injection eo75 with f1_ f2_ f3_; have f4_ := f1_.symm; have f5_ := f3_.symm; clear f1_ f2_ f3_; subst f4_; subst f5_))
                    refine hK.out _ _ ⟨(blk_cell BK521.out 0).trans rfl, (blk_cell BK521.out 1).trans rfl, (blk_cell BK521.out 2).trans rfl, (blk_cell BK521.out 3).trans rfl, (blk_cell BK521.out 4).trans rfl⟩ (fun hHeld => ?_)
                    clear hK K
                    refine norm_ (a' := ?_) ?_ ?_
                    rotate_left
                    ·show Act.put _ (some 140) _ = _
                     simp only [Act.put, List.setIfInBounds_toArray, List.set_cons_zero, List.set_cons_succ, i64_w, i32_w]
                     rfl
                    refine pureT_ 7 141 (bm 88 255) HT_.out ?_
                    refine pureT_ 8 142 (bm 88 511) HT_.out ?_
                    refine pureT_ 9 143 (bm 88 1023) HT_.out ?_
                    refine pureT_ 10 144 (bm 88 2047) HT_.out ?_
                    refine pureT_ 11 145 (bm 88 4095) HT_.out ?_
                    refine pureT_ 12 146 (bm 88 8191) HT_.out ?_
                    refine pureT_ 13 147 (bm 88 16383) HT_.out ?_
                    refine pureT_ 14 148 (bm 88 32767) HT_.out ?_
                    refine pureT_ 15 149 (bm 88 65535) HT_.out ?_
                    refine pureT_ 16 150 (bm 88 131071) HT_.out ?_
                    refine one_ (i := 17) (N := some 151) (bm 88 262143) rfl rfl (one_of HT_.out (by kernel_rfl)) (by decide) (fun K hK => ?_)
                    refine goesS_ Try.func19 #[.slice Ao74 t530.length co74, .slice Ao75 t534.length co75] ?_
                    with_reducible refine (laws_uSame.calls k _ _ t530 _ _ t534 true _ ?side1 ?side2 ?side3 ?side4 A44.out).mono ?_
                    (case side1 => repeat (first | exact (Kd.R_reads' HO532.out).2.2 | (with_reducible refine Kd.C_alloc ?_ _) | (with_reducible refine Kd.C_drewN ?_ _) | (with_reducible refine Kd.C_drew ?_)))
                    (case side2 => exact (Kd.R_reads' HO532.out).2.1)
                    (case side3 => repeat (first | exact (Kd.R_reads' HO536.out).2.2 | (with_reducible refine Kd.C_alloc ?_ _) | (with_reducible refine Kd.C_drewN ?_ _) | (with_reducible refine Kd.C_drew ?_)))
                    (case side4 => exact (Kd.R_reads' HO536.out).2.1)
                    rintro e w' ⟨rfl, ⟨nd, rfl⟩⟩
                    refine ⟨_, rfl, ?_⟩
                    refine hK.out _ _ ⟨(blk_cell BK521.out 0).trans rfl, (blk_cell BK521.out 1).trans rfl, (blk_cell BK521.out 2).trans rfl, (blk_cell BK521.out 3).trans rfl, (blk_cell BK521.out 4).trans rfl⟩ (fun hHeld => ?_)
                    clear hK K
                    refine norm_ (a' := ?_) ?_ ?_
                    rotate_left
                    ·show Act.put _ (some 151) _ = _
                     simp only [Act.put, List.setIfInBounds_toArray, List.set_cons_zero, List.set_cons_succ, i64_w, i32_w]
                     rfl
                    refine pureT_ 18 152 (bm 88 524287) HT_.out ?_
                    refine pureT_ 19 153 (bm 88 1048575) HT_.out ?_
                    refine pureT_ 20 154 (bm 88 2097151) HT_.out ?_
                    refine pureT_ 21 155 (bm 88 4194303) HT_.out ?_
                    refine pureT_ 22 156 (bm 88 8388607) HT_.out ?_
                    refine pureT_ 23 157 (bm 88 16777215) HT_.out ?_
                    refine pureT_ 24 158 (bm 88 33554431) HT_.out ?_
                    refine pureT_ 25 159 (bm 88 67108863) HT_.out ?_
                    refine pureT_ 26 160 (bm 88 134217727) HT_.out ?_
                    refine pureT_ 27 161 (bm 88 268435455) HT_.out ?_
                    refine pureT_ 28 162 (bm 88 536870911) HT_.out ?_
                    refine pureT_ 29 163 (bm 88 1073741823) HT_.out ?_
                    refine pureT_ 30 164 (bm 88 2147483647) HT_.out ?_
                    refine pureT_ 31 165 (bm 88 4294967295) HT_.out ?_
                    refine pureT_ 32 166 (bm 88 8589934591) HT_.out ?_
                    refine pureT_ 33 167 (bm 88 17179869183) HT_.out ?_
                    refine pureT_ 34 168 (bm 88 34359738367) HT_.out ?_
                    refine pureT_ 35 169 (bm 88 68719476735) HT_.out ?_
                    refine pureT_ 36 170 (bm 88 137438953471) HT_.out ?_
                    refine pureT_ 37 171 (bm 88 274877906943) HT_.out ?_
                    refine pureT_ 38 172 (bm 88 549755813887) HT_.out ?_
                    refine pureT_ 39 173 (bm 88 1099511627775) HT_.out ?_
                    refine pureT_ 40 174 (bm 88 2199023255551) HT_.out ?_
                    refine pureT_ 41 175 (bm 88 4398046511103) HT_.out ?_
                    refine pureT_ 42 176 (bm 88 8796093022207) HT_.out ?_
                    refine pureT_ 43 177 (bm 88 17592186044415) HT_.out ?_
                    refine pureT_ 44 178 (bm 88 35184372088831) HT_.out ?_
                    refine pureT_ 45 179 (bm 88 70368744177663) HT_.out ?_
                    refine pureT_ 46 180 (bm 88 140737488355327) HT_.out ?_
                    refine pureT_ 47 181 (bm 88 281474976710655) HT_.out ?_
                    refine pureT_ 48 182 (bm 88 562949953421311) HT_.out ?_
                    refine pureT_ 49 183 (bm 88 1125899906842623) HT_.out ?_
                    refine pureT_ 50 184 (bm 88 2251799813685247) HT_.out ?_
                    refine pureT_ 51 185 (bm 88 4503599627370495) HT_.out ?_
                    refine pureT_ 52 186 (bm 88 9007199254740991) HT_.out ?_
                    refine pureT_ 53 187 (bm 88 18014398509481983) HT_.out ?_
                    refine pureT_ 54 188 (bm 88 36028797018963967) HT_.out ?_
                    refine pureT_ 55 189 (bm 88 72057594037927935) HT_.out ?_
                    refine pureT_ 56 190 (bm 88 144115188075855871) HT_.out ?_
                    refine pureT_ 57 191 (bm 88 288230376151711743) HT_.out ?_
                    refine pureT_ 58 192 (bm 88 576460752303423487) HT_.out ?_
                    refine pureT_ 59 193 (bm 88 1152921504606846975) HT_.out ?_
                    refine pureT_ 60 194 (bm 88 2305843009213693951) HT_.out ?_
                    refine pureT_ 61 195 (bm 88 4611686018427387903) HT_.out ?_
                    refine pureT_ 62 196 (bm 88 9223372036854775807) HT_.out ?_
                    refine pureT_ 63 197 (bm 88 18446744073709551615) HT_.out ?_
                    refine pureT_ 64 198 (bm 88 36893488147419103231) HT_.out ?_
                    refine pureT_ 65 199 (bm 88 73786976294838206463) HT_.out ?_
                    refine pureT_ 66 200 (bm 88 147573952589676412927) HT_.out ?_
                    refine pureT_ 67 201 (bm 88 295147905179352825855) HT_.out ?_
                    refine pureT_ 68 202 (bm 88 590295810358705651711) HT_.out ?_
                    refine take_ (i := 69) (N := some 203) (v := ?_) (a' := ?_) (bm 88 1180591620717411303423) rfl rfl (take_ofW HT_.out HW_.out (by kernel_rfl)) (fun _ _ _ h => h) (Or.inl ⟨by rfl, ?_⟩) hHeld ?_ ?_
                    rotate_left
                    ·rintro w' ⟨s0, s1, s2, s3, s4⟩
                     go_simp
                     with_reducible rfl
                    rotate_left
                    ·simp only [Act.put, List.setIfInBounds_toArray, List.set_cons_zero, List.set_cons_succ, i64_w, i32_w]
                     rfl
                    refine one_ (i := 70) (N := some 204) (bm 88 2361183241434822606847) rfl rfl (one_of HT_.out (by kernel_rfl)) (by decide) (fun K hK => ?_)
                    refine goesS_ Try.func20 #[.agg #[.int .i64 t512, .int .i64 t513, .int .i64 t514, .int .i64 t515, .bool t516]] ?_
                    with_reducible refine (impl_IsFirst.calls t512 t513 t514 t515 t516 t554 _ A56.out).mono ?_
                    rintro e w76 ⟨rfl, hb⟩
                    refine ⟨_, rfl, ?_⟩
                    have n0_ := Aside0.mk (Kd.R_below (kr HO520.out) hb)
                    have n1_ := Aside0.mk (Kd.R_below (kr HO524.out) hb)
                    have n2_ := Aside0.mk (Kd.R_below (kr HO528.out) hb)
                    have n3_ := Aside0.mk (Kd.R_below (kr HO532.out) hb)
                    have n4_ := Aside0.mk (Kd.R_below (kr HO536.out) hb)
                    have n5_ := Aside0.mk (blk_below (g := gb521) (o := .cells #[.int .i64 t512, .int .i64 t513, .int .i64 t514, .int .i64 t515, .bool t516] 27 (0, 0)) (kb BK521.out) hb)
                    have n6_ := Aside0.mk (below_step (bl1 HB.out GE521.out) hb)
                    clear HO520
                    clear HO524
                    clear HO528
                    clear HO532
                    clear HO536
                    clear BK521
                    clear HB
                    have HO520 := n0_
                    have HO524 := n1_
                    have HO528 := n2_
                    have HO532 := n3_
                    have HO536 := n4_
                    have BK521 := n5_
                    have HB := n6_
                    clear n0_ n1_ n2_ n3_ n4_ n5_ n6_
                    (try clear hb)
                    (try clear hb2)
                    (try clear hk)
                    (try clear hi)
                    refine hK.out _ _ ⟨(blk_cell BK521.out 0).trans rfl, (blk_cell BK521.out 1).trans rfl, (blk_cell BK521.out 2).trans rfl, (blk_cell BK521.out 3).trans rfl, (blk_cell BK521.out 4).trans rfl⟩ (fun hHeld => ?_)
                    clear hK K
                    refine norm_ (a' := ?_) ?_ ?_
                    rotate_left
                    ·show Act.put _ (some 204) _ = _
                     simp only [Act.put, List.setIfInBounds_toArray, List.set_cons_zero, List.set_cons_succ, i64_w, i32_w]
                     rfl
                    refine pureT_ 71 205 (bm 88 4722366482869645213695) HT_.out ?_
                    refine pureT_ 72 206 (bm 88 9444732965739290427391) HT_.out ?_
                    refine pureT_ 73 207 (bm 88 18889465931478580854783) HT_.out ?_
                    refine take_ (i := 74) (N := some 208) (v := ?_) (a' := ?_) (bm 88 37778931862957161709567) rfl rfl (take_ofW HT_.out HW_.out (by kernel_rfl)) (fun _ _ _ h => h) (Or.inl ⟨by rfl, ?_⟩) hHeld ?_ ?_
                    rotate_left
                    ·rintro w' ⟨s0, s1, s2, s3, s4⟩
                     go_simp
                     with_reducible rfl
                    rotate_left
                    ·simp only [Act.put, List.setIfInBounds_toArray, List.set_cons_zero, List.set_cons_succ, i64_w, i32_w]
                     rfl
                    refine take_ (i := 76) (N := some 210) (v := ?_) (a' := ?_) (bm 88 113336795588871485128703) rfl rfl (take_ofW HT_.out HW_.out (by kernel_rfl)) (fun _ _ _ h => h) (Or.inl ⟨by rfl, ?_⟩) hHeld ?_ ?_
                    rotate_left
                    ·rintro w' ⟨s0, s1, s2, s3, s4⟩
                     go_simp
                     with_reducible rfl
                    rotate_left
                    ·simp only [Act.put, List.setIfInBounds_toArray, List.set_cons_zero, List.set_cons_succ, i64_w, i32_w]
                     rfl
                    refine one_ (i := 75) (N := some 209) (bm 88 151115727451828646838271) rfl rfl (one_of HT_.out (by kernel_rfl)) (by decide) (fun K hK => ?_)
                    refine goesS_ Try.func20 #[.agg #[.int .i64 t512, .int .i64 t513, .int .i64 t514, .int .i64 t515, .bool t516]] ?_
                    with_reducible refine (impl_IsFirst.calls t512 t513 t514 t515 t516 t555 _ A58.out).mono ?_
                    rintro e w77 ⟨rfl, hb⟩
                    refine ⟨_, rfl, ?_⟩
                    have n0_ := Aside0.mk (Kd.R_below (kr HO520.out) hb)
                    have n1_ := Aside0.mk (Kd.R_below (kr HO524.out) hb)
                    have n2_ := Aside0.mk (Kd.R_below (kr HO528.out) hb)
                    have n3_ := Aside0.mk (Kd.R_below (kr HO532.out) hb)
                    have n4_ := Aside0.mk (Kd.R_below (kr HO536.out) hb)
                    have n5_ := Aside0.mk (blk_below (g := gb521) (o := .cells #[.int .i64 t512, .int .i64 t513, .int .i64 t514, .int .i64 t515, .bool t516] 27 (0, 0)) (kb BK521.out) hb)
                    have n6_ := Aside0.mk (below_step (bl1 HB.out GE521.out) hb)
                    clear HO520
                    clear HO524
                    clear HO528
                    clear HO532
                    clear HO536
                    clear BK521
                    clear HB
                    have HO520 := n0_
                    have HO524 := n1_
                    have HO528 := n2_
                    have HO532 := n3_
                    have HO536 := n4_
                    have BK521 := n5_
                    have HB := n6_
                    clear n0_ n1_ n2_ n3_ n4_ n5_ n6_
                    (try clear hb)
                    (try clear hb2)
                    (try clear hk)
                    (try clear hi)
                    refine hK.out _ _ ⟨(blk_cell BK521.out 0).trans rfl, (blk_cell BK521.out 1).trans rfl, (blk_cell BK521.out 2).trans rfl, (blk_cell BK521.out 3).trans rfl, (blk_cell BK521.out 4).trans rfl⟩ (fun hHeld => ?_)
                    clear hK K
                    refine norm_ (a' := ?_) ?_ ?_
                    rotate_left
                    ·show Act.put _ (some 209) _ = _
                     simp only [Act.put, List.setIfInBounds_toArray, List.set_cons_zero, List.set_cons_succ, i64_w, i32_w]
                     rfl
                    refine one_ (i := 77) (N := some 211) (bm 88 302231454903657293676543) rfl rfl (one_of HT_.out (by kernel_rfl)) (by decide) (fun K hK => ?_)
                    refine goesS_ Try.func21 #[.agg #[.int .i64 t512, .int .i64 t513, .int .i64 t514, .int .i64 t515, .bool t516]] ?_
                    with_reducible refine (spec_IsFirst.calls t512 t513 t514 t515 t516 t556 _ A59.out).mono ?_
                    rintro e w78 ⟨rfl, hb⟩
                    refine ⟨_, rfl, ?_⟩
                    have n0_ := Aside0.mk (Kd.R_below (kr HO520.out) hb)
                    have n1_ := Aside0.mk (Kd.R_below (kr HO524.out) hb)
                    have n2_ := Aside0.mk (Kd.R_below (kr HO528.out) hb)
                    have n3_ := Aside0.mk (Kd.R_below (kr HO532.out) hb)
                    have n4_ := Aside0.mk (Kd.R_below (kr HO536.out) hb)
                    have n5_ := Aside0.mk (blk_below (g := gb521) (o := .cells #[.int .i64 t512, .int .i64 t513, .int .i64 t514, .int .i64 t515, .bool t516] 27 (0, 0)) (kb BK521.out) hb)
                    have n6_ := Aside0.mk (below_step (bl1 HB.out GE521.out) hb)
                    clear HO520
                    clear HO524
                    clear HO528
                    clear HO532
                    clear HO536
                    clear BK521
                    clear HB
                    have HO520 := n0_
                    have HO524 := n1_
                    have HO528 := n2_
                    have HO532 := n3_
                    have HO536 := n4_
                    have BK521 := n5_
                    have HB := n6_
                    clear n0_ n1_ n2_ n3_ n4_ n5_ n6_
                    (try clear hb)
                    (try clear hb2)
                    (try clear hk)
                    (try clear hi)
                    refine hK.out _ _ ⟨(blk_cell BK521.out 0).trans rfl, (blk_cell BK521.out 1).trans rfl, (blk_cell BK521.out 2).trans rfl, (blk_cell BK521.out 3).trans rfl, (blk_cell BK521.out 4).trans rfl⟩ (fun hHeld => ?_)
                    clear hK K
                    refine norm_ (a' := ?_) ?_ ?_
                    rotate_left
                    ·show Act.put _ (some 211) _ = _
                     simp only [Act.put, List.setIfInBounds_toArray, List.set_cons_zero, List.set_cons_succ, i64_w, i32_w]
                     rfl
                    refine pureT_ 78 212 (bm 88 604462909807314587353087) HT_.out ?_
                    refine pureT_ 79 213 (bm 88 1208925819614629174706175) HT_.out ?_
                    refine pureT_ 80 214 (bm 88 2417851639229258349412351) HT_.out ?_
                    refine pureT_ 81 215 (bm 88 4835703278458516698824703) HT_.out ?_
                    refine pureT_ 82 216 (bm 88 9671406556917033397649407) HT_.out ?_
                    refine pureT_ 83 217 (bm 88 19342813113834066795298815) HT_.out ?_
                    refine pure_ (i := 84) (N := some 218) (v := undef) (a' := ?_) (bm 88 38685626227668133590597631) rfl rfl (any_of HT_.out (by kernel_rfl)) (fun _ _ _ h => h) (Or.inr ⟨by rfl, rfl⟩) ?_ ?_
                    rotate_left
                    ·simp only [Act.put, List.setIfInBounds_toArray, List.set_cons_zero, List.set_cons_succ, i64_w, i32_w]
                     rfl
                    refine pureT_ 85 219 (bm 88 77371252455336267181195263) HT_.out ?_
                    refine pureT_ 86 220 (bm 88 154742504910672534362390527) HT_.out ?_
                    refine pureT_ 87 221 (bm 88 309485009821345068724781055) HT_.out ?_
                    refine done_ (done_of HT_.out (by kernel_rfl)) ?_
                    try go_wp2
                    refine meetF hJ_j0 (by kernel_rfl) (by kernel_rfl) ?rel_z79
                    case rel_z79 => (try simp only [List.getD_cons_succ, List.getD_cons_zero]); exact ⟨_, ((t544 != false)), (by first | rfl | (simp; done) | (simp [*]; done)), H', ⟨by first | omega | exact Nat.le_refl _⟩, ⟨by (with_reducible repeat (first | apply Kd.R_alloc | apply Kd.R_drewN | apply Kd.R_drew)); exact Kd.R_mono HO520.out (fun _ hk => ⟨hk.1.1.1.2, hk.1.2⟩)⟩, ⟨by (with_reducible repeat (first | apply Kd.R_alloc | apply Kd.R_drewN | apply Kd.R_drew)); exact Kd.R_mono HO524.out (fun _ hk => ⟨hk.1.1.1.2, hk.1.2⟩)⟩, ⟨by (with_reducible repeat (first | apply Kd.R_alloc | apply Kd.R_drewN | apply Kd.R_drew)); exact Kd.R_mono HO532.out (fun _ hk => ⟨hk.1.1.1.2, hk.1.1.2⟩)⟩, ⟨kb BK521.out⟩, ⟨bl1 HB.out GE521.out⟩⟩
                ·replace c55 := Bool.eq_false_iff.mpr c55
                 subst c55
                 rw [if_neg (show ¬ (false = true) by decide)] at H
                 obtain rfl := Option.some.inj H
                 exact absurd HT.out (by simp)
               ·replace c54 := Bool.eq_false_iff.mpr c54
                subst c54
                rw [if_neg (show ¬ (false = true) by decide)] at H
                replace H := Option.bind_eq_some_iff.mp H
                obtain ⟨t557, A800, H⟩ := H
                (try dsimp only at H)
                have A80 := Aside0.mk A800
                clear A800
                by_cases c81 : (t549 != t557) = true
                ·rw [if_pos c81] at H
                 have c81b0 : (t549 != t557) = true := c81
                 (try (have c81b1 : decide (t549 = t557) = false := by simpa using c81))
                 (try (have c81b2 : (t549 == t557) = false := by simpa using c81))
                 (try (have c81b3 : ¬ (t549 = t557) := by simpa using c81))
                 clear c81
                 obtain rfl := Option.some.inj H
                 exact absurd HT.out (by simp)
                ·rw [if_neg c81] at H
                 have c81b0 : (t549 != t557) = false := by simpa using c81
                 (try (have c81b1 : decide (t549 = t557) = true := by simpa using c81))
                 (try (have c81b2 : (t549 == t557) = true := by simpa using c81))
                 clear c81
                 replace H := Option.bind_eq_some_iff.mp H
                 obtain ⟨t558, A820, H⟩ := H
                 (try dsimp only at H)
                 have A82 := Aside0.mk A820
                 clear A820
                 replace H := Option.bind_eq_some_iff.mp H
                 obtain ⟨t559, A830, H⟩ := H
                 (try dsimp only at H)
                 have A83 := Aside0.mk A830
                 clear A830
                 by_cases c84 : (t558 != t559) = true
                 ·rw [if_pos c84] at H
                  have c84b0 : (t558 != t559) = true := c84
                  (try (have c84b1 : decide (t558 = t559) = false := by simpa using c84))
                  (try (have c84b2 : (t558 == t559) = false := by simpa using c84))
                  (try (have c84b3 : ¬ (t558 = t559) := by simpa using c84))
                  clear c84
                  obtain rfl := Option.some.inj H
                  exact absurd HT.out (by simp)
                 ·rw [if_neg c84] at H
                  have c84b0 : (t558 != t559) = false := by simpa using c84
                  (try (have c84b1 : decide (t558 = t559) = true := by simpa using c84))
                  (try (have c84b2 : (t558 == t559) = true := by simpa using c84))
                  clear c84
                  by_cases c85 : t549 = true
                  ·subst c85
                   rw [if_pos rfl] at H
                   have H' := Aside0.mk H
                   clear H
                   try go_wp2
                   have n0_ := Aside0.mk (Kd.R_drew HO520.out)
                   have n1_ := Aside0.mk (Kd.R_drew HO524.out)
                   have n2_ := Aside0.mk (Kd.R_drew HO528.out)
                   have n3_ := Aside0.mk (Kd.R_drew HO532.out)
                   have n4_ := Aside0.mk (Kd.R_drew HO536.out)
                   have n5_ := Aside0.mk (blk_drew BK521.out)
                   have n6_ := Aside0.mk (below_drew1 HB.out)
                   clear HO520
                   clear HO524
                   clear HO528
                   clear HO532
                   clear HO536
                   clear BK521
                   clear HB
                   have HO520 := n0_
                   have HO524 := n1_
                   have HO528 := n2_
                   have HO532 := n3_
                   have HO536 := n4_
                   have BK521 := n5_
                   have HB := n6_
                   clear n0_ n1_ n2_ n3_ n4_ n5_ n6_
                   obtain ⟨Ao87, co87, eo87⟩ := Kd.R_slice HO524.out
                   (first | subst eo87 | (injection eo87 with f1_ f2_ f3_; have f4_ := f1_.symm; have f5_ := f3_.symm; clear f1_ f2_ f3_; subst f4_; subst f5_))
                   obtain ⟨Ao88, co88, eo88⟩ := Kd.R_slice HO528.out
                   (first | subst eo88 | (injection eo88 with f1_ f2_ f3_; have f4_ := f1_.symm; have f5_ := f3_.symm; clear f1_ f2_ f3_; subst f4_; subst f5_))
                   refine start_ (n := 88) (S := fun w' => w'.cell? ⟨gb521, 0, none⟩ = some (.int .i64 t512) ∧ w'.cell? ⟨gb521, 1, none⟩ = some (.int .i64 t513) ∧ w'.cell? ⟨gb521, 2, none⟩ = some (.int .i64 t514) ∧ w'.cell? ⟨gb521, 3, none⟩ = some (.int .i64 t515) ∧ w'.cell? ⟨gb521, 4, none⟩ = some (.bool t516)) (ds := []) (bm 88 0) (by kernel_rfl) rfl rfl ⟨(blk_cell BK521.out 0).trans rfl, (blk_cell BK521.out 1).trans rfl, (blk_cell BK521.out 2).trans rfl, (blk_cell BK521.out 3).trans rfl, (blk_cell BK521.out 4).trans rfl⟩ (fun hHeld => ?_); refine with_tabW laws_FnFirstRuns.tab14 laws_FnFirstRuns.bits14 (fun HT_ HW_ => ?_)
                   generalize w39.drew = w86 at HO520 HO524 HO528 HO532 HO536 BK521 HB hHeld ⊢
                   refine pureT_ 0 134 (bm 88 1) HT_.out ?_
                   refine pureT_ 1 135 (bm 88 3) HT_.out ?_
                   refine pureT_ 2 136 (bm 88 7) HT_.out ?_
                   refine pureT_ 3 137 (bm 88 15) HT_.out ?_
                   refine pureT_ 4 138 (bm 88 31) HT_.out ?_
                   refine pureT_ 5 139 (bm 88 63) HT_.out ?_
                   refine one_ (i := 6) (N := some 140) (bm 88 127) rfl rfl (one_of HT_.out (by kernel_rfl)) (by decide) (fun K hK => ?_)
                   refine goesS_ Try.func19 #[.slice Ao87 t522.length co87, .slice Ao88 t526.length co88] ?_
                   with_reducible refine (laws_uSame.calls k _ _ t522 _ _ t526 true _ ?side1 ?side2 ?side3 ?side4 A41.out).mono ?_
                   (case side1 => repeat (first | exact (Kd.R_reads' HO524.out).2.2 | (with_reducible refine Kd.C_alloc ?_ _) | (with_reducible refine Kd.C_drewN ?_ _) | (with_reducible refine Kd.C_drew ?_)))
                   (case side2 => exact (Kd.R_reads' HO524.out).2.1)
                   (case side3 => repeat (first | exact (Kd.R_reads' HO528.out).2.2 | (with_reducible refine Kd.C_alloc ?_ _) | (with_reducible refine Kd.C_drewN ?_ _) | (with_reducible refine Kd.C_drew ?_)))
                   (case side4 => exact (Kd.R_reads' HO528.out).2.1)
                   rintro e w' ⟨rfl, ⟨nd, rfl⟩⟩
                   refine ⟨_, rfl, ?_⟩
                   obtain ⟨Ao89, co89, eo89⟩ := Kd.R_slice HO532.out
                   (first | subst eo89 | (injection eo89 with f1_ f2_ f3_; have f4_ := f1_.symm; have f5_ := f3_.symm; clear f1_ f2_ f3_; subst f4_; subst f5_))
                   obtain ⟨Ao90, co90, eo90⟩ := Kd.R_slice HO536.out
                   (first | subst eo90 | (injection eo90 with f1_ f2_ f3_; have f4_ := f1_.symm; have f5_ := f3_.symm; clear f1_ f2_ f3_; subst f4_; subst f5_))
                   refine hK.out _ _ ⟨(blk_cell BK521.out 0).trans rfl, (blk_cell BK521.out 1).trans rfl, (blk_cell BK521.out 2).trans rfl, (blk_cell BK521.out 3).trans rfl, (blk_cell BK521.out 4).trans rfl⟩ (fun hHeld => ?_)
                   clear hK K
                   refine norm_ (a' := ?_) ?_ ?_
                   rotate_left
                   ·show Act.put _ (some 140) _ = _
                    simp only [Act.put, List.setIfInBounds_toArray, List.set_cons_zero, List.set_cons_succ, i64_w, i32_w]
                    rfl
                   refine pureT_ 7 141 (bm 88 255) HT_.out ?_
                   refine pureT_ 8 142 (bm 88 511) HT_.out ?_
                   refine pureT_ 9 143 (bm 88 1023) HT_.out ?_
                   refine pureT_ 10 144 (bm 88 2047) HT_.out ?_
                   refine pureT_ 11 145 (bm 88 4095) HT_.out ?_
                   refine pureT_ 12 146 (bm 88 8191) HT_.out ?_
                   refine pureT_ 13 147 (bm 88 16383) HT_.out ?_
                   refine pureT_ 14 148 (bm 88 32767) HT_.out ?_
                   refine pureT_ 15 149 (bm 88 65535) HT_.out ?_
                   refine pureT_ 16 150 (bm 88 131071) HT_.out ?_
                   refine one_ (i := 17) (N := some 151) (bm 88 262143) rfl rfl (one_of HT_.out (by kernel_rfl)) (by decide) (fun K hK => ?_)
                   refine goesS_ Try.func19 #[.slice Ao89 t530.length co89, .slice Ao90 t534.length co90] ?_
                   with_reducible refine (laws_uSame.calls k _ _ t530 _ _ t534 true _ ?side1 ?side2 ?side3 ?side4 A44.out).mono ?_
                   (case side1 => repeat (first | exact (Kd.R_reads' HO532.out).2.2 | (with_reducible refine Kd.C_alloc ?_ _) | (with_reducible refine Kd.C_drewN ?_ _) | (with_reducible refine Kd.C_drew ?_)))
                   (case side2 => exact (Kd.R_reads' HO532.out).2.1)
                   (case side3 => repeat (first | exact (Kd.R_reads' HO536.out).2.2 | (with_reducible refine Kd.C_alloc ?_ _) | (with_reducible refine Kd.C_drewN ?_ _) | (with_reducible refine Kd.C_drew ?_)))
                   (case side4 => exact (Kd.R_reads' HO536.out).2.1)
                   rintro e w' ⟨rfl, ⟨nd, rfl⟩⟩
                   refine ⟨_, rfl, ?_⟩
                   refine hK.out _ _ ⟨(blk_cell BK521.out 0).trans rfl, (blk_cell BK521.out 1).trans rfl, (blk_cell BK521.out 2).trans rfl, (blk_cell BK521.out 3).trans rfl, (blk_cell BK521.out 4).trans rfl⟩ (fun hHeld => ?_)
                   clear hK K
                   refine norm_ (a' := ?_) ?_ ?_
                   rotate_left
                   ·show Act.put _ (some 151) _ = _
                    simp only [Act.put, List.setIfInBounds_toArray, List.set_cons_zero, List.set_cons_succ, i64_w, i32_w]
                    rfl
                   refine pureT_ 18 152 (bm 88 524287) HT_.out ?_
                   refine pureT_ 19 153 (bm 88 1048575) HT_.out ?_
                   refine pureT_ 20 154 (bm 88 2097151) HT_.out ?_
                   refine pureT_ 21 155 (bm 88 4194303) HT_.out ?_
                   refine pureT_ 22 156 (bm 88 8388607) HT_.out ?_
                   refine pureT_ 23 157 (bm 88 16777215) HT_.out ?_
                   refine pureT_ 24 158 (bm 88 33554431) HT_.out ?_
                   refine pureT_ 25 159 (bm 88 67108863) HT_.out ?_
                   refine pureT_ 26 160 (bm 88 134217727) HT_.out ?_
                   refine pureT_ 27 161 (bm 88 268435455) HT_.out ?_
                   refine pureT_ 28 162 (bm 88 536870911) HT_.out ?_
                   refine pureT_ 29 163 (bm 88 1073741823) HT_.out ?_
                   refine pureT_ 30 164 (bm 88 2147483647) HT_.out ?_
                   refine pureT_ 31 165 (bm 88 4294967295) HT_.out ?_
                   refine pureT_ 32 166 (bm 88 8589934591) HT_.out ?_
                   refine pureT_ 33 167 (bm 88 17179869183) HT_.out ?_
                   refine pureT_ 34 168 (bm 88 34359738367) HT_.out ?_
                   refine pureT_ 35 169 (bm 88 68719476735) HT_.out ?_
                   refine pureT_ 36 170 (bm 88 137438953471) HT_.out ?_
                   refine pureT_ 37 171 (bm 88 274877906943) HT_.out ?_
                   refine pureT_ 38 172 (bm 88 549755813887) HT_.out ?_
                   refine pureT_ 39 173 (bm 88 1099511627775) HT_.out ?_
                   refine pureT_ 40 174 (bm 88 2199023255551) HT_.out ?_
                   refine pureT_ 41 175 (bm 88 4398046511103) HT_.out ?_
                   refine pureT_ 42 176 (bm 88 8796093022207) HT_.out ?_
                   refine pureT_ 43 177 (bm 88 17592186044415) HT_.out ?_
                   refine pureT_ 44 178 (bm 88 35184372088831) HT_.out ?_
                   refine pureT_ 45 179 (bm 88 70368744177663) HT_.out ?_
                   refine pureT_ 46 180 (bm 88 140737488355327) HT_.out ?_
                   refine pureT_ 47 181 (bm 88 281474976710655) HT_.out ?_
                   refine pureT_ 48 182 (bm 88 562949953421311) HT_.out ?_
                   refine pureT_ 49 183 (bm 88 1125899906842623) HT_.out ?_
                   refine pureT_ 50 184 (bm 88 2251799813685247) HT_.out ?_
                   refine pureT_ 51 185 (bm 88 4503599627370495) HT_.out ?_
                   refine pureT_ 52 186 (bm 88 9007199254740991) HT_.out ?_
                   refine pureT_ 53 187 (bm 88 18014398509481983) HT_.out ?_
                   refine pureT_ 54 188 (bm 88 36028797018963967) HT_.out ?_
                   refine pureT_ 55 189 (bm 88 72057594037927935) HT_.out ?_
                   refine pureT_ 56 190 (bm 88 144115188075855871) HT_.out ?_
                   refine pureT_ 57 191 (bm 88 288230376151711743) HT_.out ?_
                   refine pureT_ 58 192 (bm 88 576460752303423487) HT_.out ?_
                   refine pureT_ 59 193 (bm 88 1152921504606846975) HT_.out ?_
                   refine pureT_ 60 194 (bm 88 2305843009213693951) HT_.out ?_
                   refine pureT_ 61 195 (bm 88 4611686018427387903) HT_.out ?_
                   refine pureT_ 62 196 (bm 88 9223372036854775807) HT_.out ?_
                   refine pure_ (i := 63) (N := some 197) (v := undef) (a' := ?_) (bm 88 18446744073709551615) rfl rfl (any_of HT_.out (by kernel_rfl)) (fun _ _ _ h => h) (Or.inr ⟨by rfl, rfl⟩) ?_ ?_
                   rotate_left
                   ·simp only [Act.put, List.setIfInBounds_toArray, List.set_cons_zero, List.set_cons_succ, i64_w, i32_w]
                    rfl
                   refine pure_ (i := 64) (N := some 198) (v := undef) (a' := ?_) (bm 88 36893488147419103231) rfl rfl (any_of HT_.out (by kernel_rfl)) (fun _ _ _ h => h) (Or.inr ⟨by rfl, rfl⟩) ?_ ?_
                   rotate_left
                   ·simp only [Act.put, List.setIfInBounds_toArray, List.set_cons_zero, List.set_cons_succ, i64_w, i32_w]
                    rfl
                   refine pureT_ 65 199 (bm 88 73786976294838206463) HT_.out ?_
                   refine pureT_ 66 200 (bm 88 147573952589676412927) HT_.out ?_
                   refine pureT_ 67 201 (bm 88 295147905179352825855) HT_.out ?_
                   refine pureT_ 68 202 (bm 88 590295810358705651711) HT_.out ?_
                   refine take_ (i := 69) (N := some 203) (v := ?_) (a' := ?_) (bm 88 1180591620717411303423) rfl rfl (take_ofW HT_.out HW_.out (by kernel_rfl)) (fun _ _ _ h => h) (Or.inl ⟨by rfl, ?_⟩) hHeld ?_ ?_
                   rotate_left
                   ·rintro w' ⟨s0, s1, s2, s3, s4⟩
                    go_simp
                    with_reducible rfl
                   rotate_left
                   ·simp only [Act.put, List.setIfInBounds_toArray, List.set_cons_zero, List.set_cons_succ, i64_w, i32_w]
                    rfl
                   refine one_ (i := 70) (N := some 204) (bm 88 2361183241434822606847) rfl rfl (one_of HT_.out (by kernel_rfl)) (by decide) (fun K hK => ?_)
                   refine goesS_ Try.func20 #[.agg #[.int .i64 t512, .int .i64 t513, .int .i64 t514, .int .i64 t515, .bool t516]] ?_
                   with_reducible refine (impl_IsFirst.calls t512 t513 t514 t515 t516 t557 _ A80.out).mono ?_
                   rintro e w91 ⟨rfl, hb⟩
                   refine ⟨_, rfl, ?_⟩
                   have n0_ := Aside0.mk (Kd.R_below (kr HO520.out) hb)
                   have n1_ := Aside0.mk (Kd.R_below (kr HO524.out) hb)
                   have n2_ := Aside0.mk (Kd.R_below (kr HO528.out) hb)
                   have n3_ := Aside0.mk (Kd.R_below (kr HO532.out) hb)
                   have n4_ := Aside0.mk (Kd.R_below (kr HO536.out) hb)
                   have n5_ := Aside0.mk (blk_below (g := gb521) (o := .cells #[.int .i64 t512, .int .i64 t513, .int .i64 t514, .int .i64 t515, .bool t516] 27 (0, 0)) (kb BK521.out) hb)
                   have n6_ := Aside0.mk (below_step (bl1 HB.out GE521.out) hb)
                   clear HO520
                   clear HO524
                   clear HO528
                   clear HO532
                   clear HO536
                   clear BK521
                   clear HB
                   have HO520 := n0_
                   have HO524 := n1_
                   have HO528 := n2_
                   have HO532 := n3_
                   have HO536 := n4_
                   have BK521 := n5_
                   have HB := n6_
                   clear n0_ n1_ n2_ n3_ n4_ n5_ n6_
                   (try clear hb)
                   (try clear hb2)
                   (try clear hk)
                   (try clear hi)
                   refine hK.out _ _ ⟨(blk_cell BK521.out 0).trans rfl, (blk_cell BK521.out 1).trans rfl, (blk_cell BK521.out 2).trans rfl, (blk_cell BK521.out 3).trans rfl, (blk_cell BK521.out 4).trans rfl⟩ (fun hHeld => ?_)
                   clear hK K
                   refine norm_ (a' := ?_) ?_ ?_
                   rotate_left
                   ·show Act.put _ (some 204) _ = _
                    simp only [Act.put, List.setIfInBounds_toArray, List.set_cons_zero, List.set_cons_succ, i64_w, i32_w]
                    rfl
                   refine pureT_ 71 205 (bm 88 4722366482869645213695) HT_.out ?_
                   refine pureT_ 72 206 (bm 88 9444732965739290427391) HT_.out ?_
                   refine pureT_ 73 207 (bm 88 18889465931478580854783) HT_.out ?_
                   refine take_ (i := 74) (N := some 208) (v := ?_) (a' := ?_) (bm 88 37778931862957161709567) rfl rfl (take_ofW HT_.out HW_.out (by kernel_rfl)) (fun _ _ _ h => h) (Or.inl ⟨by rfl, ?_⟩) hHeld ?_ ?_
                   rotate_left
                   ·rintro w' ⟨s0, s1, s2, s3, s4⟩
                    go_simp
                    with_reducible rfl
                   rotate_left
                   ·simp only [Act.put, List.setIfInBounds_toArray, List.set_cons_zero, List.set_cons_succ, i64_w, i32_w]
                    rfl
                   refine take_ (i := 76) (N := some 210) (v := ?_) (a' := ?_) (bm 88 113336795588871485128703) rfl rfl (take_ofW HT_.out HW_.out (by kernel_rfl)) (fun _ _ _ h => h) (Or.inl ⟨by rfl, ?_⟩) hHeld ?_ ?_
                   rotate_left
                   ·rintro w' ⟨s0, s1, s2, s3, s4⟩
                    go_simp
                    with_reducible rfl
                   rotate_left
                   ·simp only [Act.put, List.setIfInBounds_toArray, List.set_cons_zero, List.set_cons_succ, i64_w, i32_w]
                    rfl
                   refine one_ (i := 75) (N := some 209) (bm 88 151115727451828646838271) rfl rfl (one_of HT_.out (by kernel_rfl)) (by decide) (fun K hK => ?_)
                   refine goesS_ Try.func20 #[.agg #[.int .i64 t512, .int .i64 t513, .int .i64 t514, .int .i64 t515, .bool t516]] ?_
                   with_reducible refine (impl_IsFirst.calls t512 t513 t514 t515 t516 t558 _ A82.out).mono ?_
                   rintro e w92 ⟨rfl, hb⟩
                   refine ⟨_, rfl, ?_⟩
                   have n0_ := Aside0.mk (Kd.R_below (kr HO520.out) hb)
                   have n1_ := Aside0.mk (Kd.R_below (kr HO524.out) hb)
                   have n2_ := Aside0.mk (Kd.R_below (kr HO528.out) hb)
                   have n3_ := Aside0.mk (Kd.R_below (kr HO532.out) hb)
                   have n4_ := Aside0.mk (Kd.R_below (kr HO536.out) hb)
                   have n5_ := Aside0.mk (blk_below (g := gb521) (o := .cells #[.int .i64 t512, .int .i64 t513, .int .i64 t514, .int .i64 t515, .bool t516] 27 (0, 0)) (kb BK521.out) hb)
                   have n6_ := Aside0.mk (below_step (bl1 HB.out GE521.out) hb)
                   clear HO520
                   clear HO524
                   clear HO528
                   clear HO532
                   clear HO536
                   clear BK521
                   clear HB
                   have HO520 := n0_
                   have HO524 := n1_
                   have HO528 := n2_
                   have HO532 := n3_
                   have HO536 := n4_
                   have BK521 := n5_
                   have HB := n6_
                   clear n0_ n1_ n2_ n3_ n4_ n5_ n6_
                   (try clear hb)
                   (try clear hb2)
                   (try clear hk)
                   (try clear hi)
                   refine hK.out _ _ ⟨(blk_cell BK521.out 0).trans rfl, (blk_cell BK521.out 1).trans rfl, (blk_cell BK521.out 2).trans rfl, (blk_cell BK521.out 3).trans rfl, (blk_cell BK521.out 4).trans rfl⟩ (fun hHeld => ?_)
                   clear hK K
                   refine norm_ (a' := ?_) ?_ ?_
                   rotate_left
                   ·show Act.put _ (some 209) _ = _
                    simp only [Act.put, List.setIfInBounds_toArray, List.set_cons_zero, List.set_cons_succ, i64_w, i32_w]
                    rfl
                   refine one_ (i := 77) (N := some 211) (bm 88 302231454903657293676543) rfl rfl (one_of HT_.out (by kernel_rfl)) (by decide) (fun K hK => ?_)
                   refine goesS_ Try.func21 #[.agg #[.int .i64 t512, .int .i64 t513, .int .i64 t514, .int .i64 t515, .bool t516]] ?_
                   with_reducible refine (spec_IsFirst.calls t512 t513 t514 t515 t516 t559 _ A83.out).mono ?_
                   rintro e w93 ⟨rfl, hb⟩
                   refine ⟨_, rfl, ?_⟩
                   have n0_ := Aside0.mk (Kd.R_below (kr HO520.out) hb)
                   have n1_ := Aside0.mk (Kd.R_below (kr HO524.out) hb)
                   have n2_ := Aside0.mk (Kd.R_below (kr HO528.out) hb)
                   have n3_ := Aside0.mk (Kd.R_below (kr HO532.out) hb)
                   have n4_ := Aside0.mk (Kd.R_below (kr HO536.out) hb)
                   have n5_ := Aside0.mk (blk_below (g := gb521) (o := .cells #[.int .i64 t512, .int .i64 t513, .int .i64 t514, .int .i64 t515, .bool t516] 27 (0, 0)) (kb BK521.out) hb)
                   have n6_ := Aside0.mk (below_step (bl1 HB.out GE521.out) hb)
                   clear HO520
                   clear HO524
                   clear HO528
                   clear HO532
                   clear HO536
                   clear BK521
                   clear HB
                   have HO520 := n0_
                   have HO524 := n1_
                   have HO528 := n2_
                   have HO532 := n3_
                   have HO536 := n4_
                   have BK521 := n5_
                   have HB := n6_
                   clear n0_ n1_ n2_ n3_ n4_ n5_ n6_
                   (try clear hb)
                   (try clear hb2)
                   (try clear hk)
                   (try clear hi)
                   refine hK.out _ _ ⟨(blk_cell BK521.out 0).trans rfl, (blk_cell BK521.out 1).trans rfl, (blk_cell BK521.out 2).trans rfl, (blk_cell BK521.out 3).trans rfl, (blk_cell BK521.out 4).trans rfl⟩ (fun hHeld => ?_)
                   clear hK K
                   refine norm_ (a' := ?_) ?_ ?_
                   rotate_left
                   ·show Act.put _ (some 211) _ = _
                    simp only [Act.put, List.setIfInBounds_toArray, List.set_cons_zero, List.set_cons_succ, i64_w, i32_w]
                    rfl
                   refine pureT_ 78 212 (bm 88 604462909807314587353087) HT_.out ?_
                   refine pureT_ 79 213 (bm 88 1208925819614629174706175) HT_.out ?_
                   refine pureT_ 80 214 (bm 88 2417851639229258349412351) HT_.out ?_
                   refine pureT_ 81 215 (bm 88 4835703278458516698824703) HT_.out ?_
                   refine pureT_ 82 216 (bm 88 9671406556917033397649407) HT_.out ?_
                   refine pureT_ 83 217 (bm 88 19342813113834066795298815) HT_.out ?_
                   refine pureT_ 84 218 (bm 88 38685626227668133590597631) HT_.out ?_
                   refine pureT_ 85 219 (bm 88 77371252455336267181195263) HT_.out ?_
                   refine pureT_ 86 220 (bm 88 154742504910672534362390527) HT_.out ?_
                   refine pureT_ 87 221 (bm 88 309485009821345068724781055) HT_.out ?_
                   refine done_ (done_of HT_.out (by kernel_rfl)) ?_
                   try go_wp2
                   refine meetF hJ_j0 (by kernel_rfl) (by kernel_rfl) ?rel_z94
                   case rel_z94 => (try simp only [List.getD_cons_succ, List.getD_cons_zero]); exact ⟨_, ((t544 != t548)), (by first | rfl | (simp; done) | (simp [*]; done)), H', ⟨by first | omega | exact Nat.le_refl _⟩, ⟨by (with_reducible repeat (first | apply Kd.R_alloc | apply Kd.R_drewN | apply Kd.R_drew)); exact Kd.R_mono HO520.out (fun _ hk => ⟨hk.1.1.1.2, hk.1.2⟩)⟩, ⟨by (with_reducible repeat (first | apply Kd.R_alloc | apply Kd.R_drewN | apply Kd.R_drew)); exact Kd.R_mono HO524.out (fun _ hk => ⟨hk.1.1.1.2, hk.1.2⟩)⟩, ⟨by (with_reducible repeat (first | apply Kd.R_alloc | apply Kd.R_drewN | apply Kd.R_drew)); exact Kd.R_mono HO532.out (fun _ hk => ⟨hk.1.1.1.2, hk.1.1.2⟩)⟩, ⟨kb BK521.out⟩, ⟨bl1 HB.out GE521.out⟩⟩
                  ·replace c85 := Bool.eq_false_iff.mpr c85
                   subst c85
                   rw [if_neg (show ¬ (false = true) by decide)] at H
                   have H' := Aside0.mk H
                   clear H
                   try go_wp2
                   have n0_ := Aside0.mk (Kd.R_drew HO520.out)
                   have n1_ := Aside0.mk (Kd.R_drew HO524.out)
                   have n2_ := Aside0.mk (Kd.R_drew HO528.out)
                   have n3_ := Aside0.mk (Kd.R_drew HO532.out)
                   have n4_ := Aside0.mk (Kd.R_drew HO536.out)
                   have n5_ := Aside0.mk (blk_drew BK521.out)
                   have n6_ := Aside0.mk (below_drew1 HB.out)
                   clear HO520
                   clear HO524
                   clear HO528
                   clear HO532
                   clear HO536
                   clear BK521
                   clear HB
                   have HO520 := n0_
                   have HO524 := n1_
                   have HO528 := n2_
                   have HO532 := n3_
                   have HO536 := n4_
                   have BK521 := n5_
                   have HB := n6_
                   clear n0_ n1_ n2_ n3_ n4_ n5_ n6_
                   obtain ⟨Ao96, co96, eo96⟩ := Kd.R_slice HO524.out
                   (first | subst eo96 | (injection eo96 with f1_ f2_ f3_; have f4_ := f1_.symm; have f5_ := f3_.symm; clear f1_ f2_ f3_; subst f4_; subst f5_))
                   obtain ⟨Ao97, co97, eo97⟩ := Kd.R_slice HO528.out
                   (first | subst eo97 | (injection eo97 with f1_ f2_ f3_; have f4_ := f1_.symm; have f5_ := f3_.symm; clear f1_ f2_ f3_; subst f4_; subst f5_))
                   refine start_ (n := 88) (S := fun w' => w'.cell? ⟨gb521, 0, none⟩ = some (.int .i64 t512) ∧ w'.cell? ⟨gb521, 1, none⟩ = some (.int .i64 t513) ∧ w'.cell? ⟨gb521, 2, none⟩ = some (.int .i64 t514) ∧ w'.cell? ⟨gb521, 3, none⟩ = some (.int .i64 t515) ∧ w'.cell? ⟨gb521, 4, none⟩ = some (.bool t516)) (ds := []) (bm 88 0) (by kernel_rfl) rfl rfl ⟨(blk_cell BK521.out 0).trans rfl, (blk_cell BK521.out 1).trans rfl, (blk_cell BK521.out 2).trans rfl, (blk_cell BK521.out 3).trans rfl, (blk_cell BK521.out 4).trans rfl⟩ (fun hHeld => ?_); refine with_tabW laws_FnFirstRuns.tab14 laws_FnFirstRuns.bits14 (fun HT_ HW_ => ?_)
                   generalize w39.drew = w95 at HO520 HO524 HO528 HO532 HO536 BK521 HB hHeld ⊢
                   refine pureT_ 0 134 (bm 88 1) HT_.out ?_
                   refine pureT_ 1 135 (bm 88 3) HT_.out ?_
                   refine pureT_ 2 136 (bm 88 7) HT_.out ?_
                   refine pureT_ 3 137 (bm 88 15) HT_.out ?_
                   refine pureT_ 4 138 (bm 88 31) HT_.out ?_
                   refine pureT_ 5 139 (bm 88 63) HT_.out ?_
                   refine one_ (i := 6) (N := some 140) (bm 88 127) rfl rfl (one_of HT_.out (by kernel_rfl)) (by decide) (fun K hK => ?_)
                   refine goesS_ Try.func19 #[.slice Ao96 t522.length co96, .slice Ao97 t526.length co97] ?_
                   with_reducible refine (laws_uSame.calls k _ _ t522 _ _ t526 true _ ?side1 ?side2 ?side3 ?side4 A41.out).mono ?_
                   (case side1 => repeat (first | exact (Kd.R_reads' HO524.out).2.2 | (with_reducible refine Kd.C_alloc ?_ _) | (with_reducible refine Kd.C_drewN ?_ _) | (with_reducible refine Kd.C_drew ?_)))
                   (case side2 => exact (Kd.R_reads' HO524.out).2.1)
                   (case side3 => repeat (first | exact (Kd.R_reads' HO528.out).2.2 | (with_reducible refine Kd.C_alloc ?_ _) | (with_reducible refine Kd.C_drewN ?_ _) | (with_reducible refine Kd.C_drew ?_)))
                   (case side4 => exact (Kd.R_reads' HO528.out).2.1)
                   rintro e w' ⟨rfl, ⟨nd, rfl⟩⟩
                   refine ⟨_, rfl, ?_⟩
                   obtain ⟨Ao98, co98, eo98⟩ := Kd.R_slice HO532.out
                   (first | subst eo98 | (injection eo98 with f1_ f2_ f3_; have f4_ := f1_.symm; have f5_ := f3_.symm; clear f1_ f2_ f3_; subst f4_; subst f5_))
                   obtain ⟨Ao99, co99, eo99⟩ := Kd.R_slice HO536.out
                   (first | subst eo99 | (injection eo99 with f1_ f2_ f3_; have f4_ := f1_.symm; have f5_ := f3_.symm; clear f1_ f2_ f3_; subst f4_; subst f5_))
                   refine hK.out _ _ ⟨(blk_cell BK521.out 0).trans rfl, (blk_cell BK521.out 1).trans rfl, (blk_cell BK521.out 2).trans rfl, (blk_cell BK521.out 3).trans rfl, (blk_cell BK521.out 4).trans rfl⟩ (fun hHeld => ?_)
                   clear hK K
                   refine norm_ (a' := ?_) ?_ ?_
                   rotate_left
                   ·show Act.put _ (some 140) _ = _
                    simp only [Act.put, List.setIfInBounds_toArray, List.set_cons_zero, List.set_cons_succ, i64_w, i32_w]
                    rfl
                   refine pureT_ 7 141 (bm 88 255) HT_.out ?_
                   refine pureT_ 8 142 (bm 88 511) HT_.out ?_
                   refine pureT_ 9 143 (bm 88 1023) HT_.out ?_
                   refine pureT_ 10 144 (bm 88 2047) HT_.out ?_
                   refine pureT_ 11 145 (bm 88 4095) HT_.out ?_
                   refine pureT_ 12 146 (bm 88 8191) HT_.out ?_
                   refine pureT_ 13 147 (bm 88 16383) HT_.out ?_
                   refine pureT_ 14 148 (bm 88 32767) HT_.out ?_
                   refine pureT_ 15 149 (bm 88 65535) HT_.out ?_
                   refine pureT_ 16 150 (bm 88 131071) HT_.out ?_
                   refine one_ (i := 17) (N := some 151) (bm 88 262143) rfl rfl (one_of HT_.out (by kernel_rfl)) (by decide) (fun K hK => ?_)
                   refine goesS_ Try.func19 #[.slice Ao98 t530.length co98, .slice Ao99 t534.length co99] ?_
                   with_reducible refine (laws_uSame.calls k _ _ t530 _ _ t534 true _ ?side1 ?side2 ?side3 ?side4 A44.out).mono ?_
                   (case side1 => repeat (first | exact (Kd.R_reads' HO532.out).2.2 | (with_reducible refine Kd.C_alloc ?_ _) | (with_reducible refine Kd.C_drewN ?_ _) | (with_reducible refine Kd.C_drew ?_)))
                   (case side2 => exact (Kd.R_reads' HO532.out).2.1)
                   (case side3 => repeat (first | exact (Kd.R_reads' HO536.out).2.2 | (with_reducible refine Kd.C_alloc ?_ _) | (with_reducible refine Kd.C_drewN ?_ _) | (with_reducible refine Kd.C_drew ?_)))
                   (case side4 => exact (Kd.R_reads' HO536.out).2.1)
                   rintro e w' ⟨rfl, ⟨nd, rfl⟩⟩
                   refine ⟨_, rfl, ?_⟩
                   refine hK.out _ _ ⟨(blk_cell BK521.out 0).trans rfl, (blk_cell BK521.out 1).trans rfl, (blk_cell BK521.out 2).trans rfl, (blk_cell BK521.out 3).trans rfl, (blk_cell BK521.out 4).trans rfl⟩ (fun hHeld => ?_)
                   clear hK K
                   refine norm_ (a' := ?_) ?_ ?_
                   rotate_left
                   ·show Act.put _ (some 151) _ = _
                    simp only [Act.put, List.setIfInBounds_toArray, List.set_cons_zero, List.set_cons_succ, i64_w, i32_w]
                    rfl
                   refine pureT_ 18 152 (bm 88 524287) HT_.out ?_
                   refine pureT_ 19 153 (bm 88 1048575) HT_.out ?_
                   refine pureT_ 20 154 (bm 88 2097151) HT_.out ?_
                   refine pureT_ 21 155 (bm 88 4194303) HT_.out ?_
                   refine pureT_ 22 156 (bm 88 8388607) HT_.out ?_
                   refine pureT_ 23 157 (bm 88 16777215) HT_.out ?_
                   refine pureT_ 24 158 (bm 88 33554431) HT_.out ?_
                   refine pureT_ 25 159 (bm 88 67108863) HT_.out ?_
                   refine pureT_ 26 160 (bm 88 134217727) HT_.out ?_
                   refine pureT_ 27 161 (bm 88 268435455) HT_.out ?_
                   refine pureT_ 28 162 (bm 88 536870911) HT_.out ?_
                   refine pureT_ 29 163 (bm 88 1073741823) HT_.out ?_
                   refine pureT_ 30 164 (bm 88 2147483647) HT_.out ?_
                   refine pureT_ 31 165 (bm 88 4294967295) HT_.out ?_
                   refine pureT_ 32 166 (bm 88 8589934591) HT_.out ?_
                   refine pureT_ 33 167 (bm 88 17179869183) HT_.out ?_
                   refine pureT_ 34 168 (bm 88 34359738367) HT_.out ?_
                   refine pureT_ 35 169 (bm 88 68719476735) HT_.out ?_
                   refine pureT_ 36 170 (bm 88 137438953471) HT_.out ?_
                   refine pureT_ 37 171 (bm 88 274877906943) HT_.out ?_
                   refine pureT_ 38 172 (bm 88 549755813887) HT_.out ?_
                   refine pureT_ 39 173 (bm 88 1099511627775) HT_.out ?_
                   refine pureT_ 40 174 (bm 88 2199023255551) HT_.out ?_
                   refine pureT_ 41 175 (bm 88 4398046511103) HT_.out ?_
                   refine pureT_ 42 176 (bm 88 8796093022207) HT_.out ?_
                   refine pureT_ 43 177 (bm 88 17592186044415) HT_.out ?_
                   refine pureT_ 44 178 (bm 88 35184372088831) HT_.out ?_
                   refine pureT_ 45 179 (bm 88 70368744177663) HT_.out ?_
                   refine pureT_ 46 180 (bm 88 140737488355327) HT_.out ?_
                   refine pureT_ 47 181 (bm 88 281474976710655) HT_.out ?_
                   refine pureT_ 48 182 (bm 88 562949953421311) HT_.out ?_
                   refine pureT_ 49 183 (bm 88 1125899906842623) HT_.out ?_
                   refine pureT_ 50 184 (bm 88 2251799813685247) HT_.out ?_
                   refine pureT_ 51 185 (bm 88 4503599627370495) HT_.out ?_
                   refine pureT_ 52 186 (bm 88 9007199254740991) HT_.out ?_
                   refine pureT_ 53 187 (bm 88 18014398509481983) HT_.out ?_
                   refine pureT_ 54 188 (bm 88 36028797018963967) HT_.out ?_
                   refine pureT_ 55 189 (bm 88 72057594037927935) HT_.out ?_
                   refine pureT_ 56 190 (bm 88 144115188075855871) HT_.out ?_
                   refine pureT_ 57 191 (bm 88 288230376151711743) HT_.out ?_
                   refine pureT_ 58 192 (bm 88 576460752303423487) HT_.out ?_
                   refine pureT_ 59 193 (bm 88 1152921504606846975) HT_.out ?_
                   refine pureT_ 60 194 (bm 88 2305843009213693951) HT_.out ?_
                   refine pureT_ 61 195 (bm 88 4611686018427387903) HT_.out ?_
                   refine pureT_ 62 196 (bm 88 9223372036854775807) HT_.out ?_
                   refine pure_ (i := 63) (N := some 197) (v := undef) (a' := ?_) (bm 88 18446744073709551615) rfl rfl (any_of HT_.out (by kernel_rfl)) (fun _ _ _ h => h) (Or.inr ⟨by rfl, rfl⟩) ?_ ?_
                   rotate_left
                   ·simp only [Act.put, List.setIfInBounds_toArray, List.set_cons_zero, List.set_cons_succ, i64_w, i32_w]
                    rfl
                   refine pure_ (i := 64) (N := some 198) (v := undef) (a' := ?_) (bm 88 36893488147419103231) rfl rfl (any_of HT_.out (by kernel_rfl)) (fun _ _ _ h => h) (Or.inr ⟨by rfl, rfl⟩) ?_ ?_
                   rotate_left
                   ·simp only [Act.put, List.setIfInBounds_toArray, List.set_cons_zero, List.set_cons_succ, i64_w, i32_w]
                    rfl
                   refine pureT_ 65 199 (bm 88 73786976294838206463) HT_.out ?_
                   refine pureT_ 66 200 (bm 88 147573952589676412927) HT_.out ?_
                   refine pureT_ 67 201 (bm 88 295147905179352825855) HT_.out ?_
                   refine pureT_ 68 202 (bm 88 590295810358705651711) HT_.out ?_
                   refine take_ (i := 69) (N := some 203) (v := ?_) (a' := ?_) (bm 88 1180591620717411303423) rfl rfl (take_ofW HT_.out HW_.out (by kernel_rfl)) (fun _ _ _ h => h) (Or.inl ⟨by rfl, ?_⟩) hHeld ?_ ?_
                   rotate_left
                   ·rintro w' ⟨s0, s1, s2, s3, s4⟩
                    go_simp
                    with_reducible rfl
                   rotate_left
                   ·simp only [Act.put, List.setIfInBounds_toArray, List.set_cons_zero, List.set_cons_succ, i64_w, i32_w]
                    rfl
                   refine one_ (i := 70) (N := some 204) (bm 88 2361183241434822606847) rfl rfl (one_of HT_.out (by kernel_rfl)) (by decide) (fun K hK => ?_)
                   refine goesS_ Try.func20 #[.agg #[.int .i64 t512, .int .i64 t513, .int .i64 t514, .int .i64 t515, .bool t516]] ?_
                   with_reducible refine (impl_IsFirst.calls t512 t513 t514 t515 t516 t557 _ A80.out).mono ?_
                   rintro e w100 ⟨rfl, hb⟩
                   refine ⟨_, rfl, ?_⟩
                   have n0_ := Aside0.mk (Kd.R_below (kr HO520.out) hb)
                   have n1_ := Aside0.mk (Kd.R_below (kr HO524.out) hb)
                   have n2_ := Aside0.mk (Kd.R_below (kr HO528.out) hb)
                   have n3_ := Aside0.mk (Kd.R_below (kr HO532.out) hb)
                   have n4_ := Aside0.mk (Kd.R_below (kr HO536.out) hb)
                   have n5_ := Aside0.mk (blk_below (g := gb521) (o := .cells #[.int .i64 t512, .int .i64 t513, .int .i64 t514, .int .i64 t515, .bool t516] 27 (0, 0)) (kb BK521.out) hb)
                   have n6_ := Aside0.mk (below_step (bl1 HB.out GE521.out) hb)
                   clear HO520
                   clear HO524
                   clear HO528
                   clear HO532
                   clear HO536
                   clear BK521
                   clear HB
                   have HO520 := n0_
                   have HO524 := n1_
                   have HO528 := n2_
                   have HO532 := n3_
                   have HO536 := n4_
                   have BK521 := n5_
                   have HB := n6_
                   clear n0_ n1_ n2_ n3_ n4_ n5_ n6_
                   (try clear hb)
                   (try clear hb2)
                   (try clear hk)
                   (try clear hi)
                   refine hK.out _ _ ⟨(blk_cell BK521.out 0).trans rfl, (blk_cell BK521.out 1).trans rfl, (blk_cell BK521.out 2).trans rfl, (blk_cell BK521.out 3).trans rfl, (blk_cell BK521.out 4).trans rfl⟩ (fun hHeld => ?_)
                   clear hK K
                   refine norm_ (a' := ?_) ?_ ?_
                   rotate_left
                   ·show Act.put _ (some 204) _ = _
                    simp only [Act.put, List.setIfInBounds_toArray, List.set_cons_zero, List.set_cons_succ, i64_w, i32_w]
                    rfl
                   refine pureT_ 71 205 (bm 88 4722366482869645213695) HT_.out ?_
                   refine pureT_ 72 206 (bm 88 9444732965739290427391) HT_.out ?_
                   refine pureT_ 73 207 (bm 88 18889465931478580854783) HT_.out ?_
                   refine take_ (i := 74) (N := some 208) (v := ?_) (a' := ?_) (bm 88 37778931862957161709567) rfl rfl (take_ofW HT_.out HW_.out (by kernel_rfl)) (fun _ _ _ h => h) (Or.inl ⟨by rfl, ?_⟩) hHeld ?_ ?_
                   rotate_left
                   ·rintro w' ⟨s0, s1, s2, s3, s4⟩
                    go_simp
                    with_reducible rfl
                   rotate_left
                   ·simp only [Act.put, List.setIfInBounds_toArray, List.set_cons_zero, List.set_cons_succ, i64_w, i32_w]
                    rfl
                   refine take_ (i := 76) (N := some 210) (v := ?_) (a' := ?_) (bm 88 113336795588871485128703) rfl rfl (take_ofW HT_.out HW_.out (by kernel_rfl)) (fun _ _ _ h => h) (Or.inl ⟨by rfl, ?_⟩) hHeld ?_ ?_
                   rotate_left
                   ·rintro w' ⟨s0, s1, s2, s3, s4⟩
                    go_simp
                    with_reducible rfl
                   rotate_left
                   ·simp only [Act.put, List.setIfInBounds_toArray, List.set_cons_zero, List.set_cons_succ, i64_w, i32_w]
                    rfl
                   refine one_ (i := 75) (N := some 209) (bm 88 151115727451828646838271) rfl rfl (one_of HT_.out (by kernel_rfl)) (by decide) (fun K hK => ?_)
                   refine goesS_ Try.func20 #[.agg #[.int .i64 t512, .int .i64 t513, .int .i64 t514, .int .i64 t515, .bool t516]] ?_
                   with_reducible refine (impl_IsFirst.calls t512 t513 t514 t515 t516 t558 _ A82.out).mono ?_
                   rintro e w101 ⟨rfl, hb⟩
                   refine ⟨_, rfl, ?_⟩
                   have n0_ := Aside0.mk (Kd.R_below (kr HO520.out) hb)
                   have n1_ := Aside0.mk (Kd.R_below (kr HO524.out) hb)
                   have n2_ := Aside0.mk (Kd.R_below (kr HO528.out) hb)
                   have n3_ := Aside0.mk (Kd.R_below (kr HO532.out) hb)
                   have n4_ := Aside0.mk (Kd.R_below (kr HO536.out) hb)
                   have n5_ := Aside0.mk (blk_below (g := gb521) (o := .cells #[.int .i64 t512, .int .i64 t513, .int .i64 t514, .int .i64 t515, .bool t516] 27 (0, 0)) (kb BK521.out) hb)
                   have n6_ := Aside0.mk (below_step (bl1 HB.out GE521.out) hb)
                   clear HO520
                   clear HO524
                   clear HO528
                   clear HO532
                   clear HO536
                   clear BK521
                   clear HB
                   have HO520 := n0_
                   have HO524 := n1_
                   have HO528 := n2_
                   have HO532 := n3_
                   have HO536 := n4_
                   have BK521 := n5_
                   have HB := n6_
                   clear n0_ n1_ n2_ n3_ n4_ n5_ n6_
                   (try clear hb)
                   (try clear hb2)
                   (try clear hk)
                   (try clear hi)
                   refine hK.out _ _ ⟨(blk_cell BK521.out 0).trans rfl, (blk_cell BK521.out 1).trans rfl, (blk_cell BK521.out 2).trans rfl, (blk_cell BK521.out 3).trans rfl, (blk_cell BK521.out 4).trans rfl⟩ (fun hHeld => ?_)
                   clear hK K
                   refine norm_ (a' := ?_) ?_ ?_
                   rotate_left
                   ·show Act.put _ (some 209) _ = _
                    simp only [Act.put, List.setIfInBounds_toArray, List.set_cons_zero, List.set_cons_succ, i64_w, i32_w]
                    rfl
                   refine one_ (i := 77) (N := some 211) (bm 88 302231454903657293676543) rfl rfl (one_of HT_.out (by kernel_rfl)) (by decide) (fun K hK => ?_)
                   refine goesS_ Try.func21 #[.agg #[.int .i64 t512, .int .i64 t513, .int .i64 t514, .int .i64 t515, .bool t516]] ?_
                   with_reducible refine (spec_IsFirst.calls t512 t513 t514 t515 t516 t559 _ A83.out).mono ?_
                   rintro e w102 ⟨rfl, hb⟩
                   refine ⟨_, rfl, ?_⟩
                   have n0_ := Aside0.mk (Kd.R_below (kr HO520.out) hb)
                   have n1_ := Aside0.mk (Kd.R_below (kr HO524.out) hb)
                   have n2_ := Aside0.mk (Kd.R_below (kr HO528.out) hb)
                   have n3_ := Aside0.mk (Kd.R_below (kr HO532.out) hb)
                   have n4_ := Aside0.mk (Kd.R_below (kr HO536.out) hb)
                   have n5_ := Aside0.mk (blk_below (g := gb521) (o := .cells #[.int .i64 t512, .int .i64 t513, .int .i64 t514, .int .i64 t515, .bool t516] 27 (0, 0)) (kb BK521.out) hb)
                   have n6_ := Aside0.mk (below_step (bl1 HB.out GE521.out) hb)
                   clear HO520
                   clear HO524
                   clear HO528
                   clear HO532
                   clear HO536
                   clear BK521
                   clear HB
                   have HO520 := n0_
                   have HO524 := n1_
                   have HO528 := n2_
                   have HO532 := n3_
                   have HO536 := n4_
                   have BK521 := n5_
                   have HB := n6_
                   clear n0_ n1_ n2_ n3_ n4_ n5_ n6_
                   (try clear hb)
                   (try clear hb2)
                   (try clear hk)
                   (try clear hi)
                   refine hK.out _ _ ⟨(blk_cell BK521.out 0).trans rfl, (blk_cell BK521.out 1).trans rfl, (blk_cell BK521.out 2).trans rfl, (blk_cell BK521.out 3).trans rfl, (blk_cell BK521.out 4).trans rfl⟩ (fun hHeld => ?_)
                   clear hK K
                   refine norm_ (a' := ?_) ?_ ?_
                   rotate_left
                   ·show Act.put _ (some 211) _ = _
                    simp only [Act.put, List.setIfInBounds_toArray, List.set_cons_zero, List.set_cons_succ, i64_w, i32_w]
                    rfl
                   refine pureT_ 78 212 (bm 88 604462909807314587353087) HT_.out ?_
                   refine pureT_ 79 213 (bm 88 1208925819614629174706175) HT_.out ?_
                   refine pureT_ 80 214 (bm 88 2417851639229258349412351) HT_.out ?_
                   refine pureT_ 81 215 (bm 88 4835703278458516698824703) HT_.out ?_
                   refine pureT_ 82 216 (bm 88 9671406556917033397649407) HT_.out ?_
                   refine pureT_ 83 217 (bm 88 19342813113834066795298815) HT_.out ?_
                   refine pure_ (i := 84) (N := some 218) (v := undef) (a' := ?_) (bm 88 38685626227668133590597631) rfl rfl (any_of HT_.out (by kernel_rfl)) (fun _ _ _ h => h) (Or.inr ⟨by rfl, rfl⟩) ?_ ?_
                   rotate_left
                   ·simp only [Act.put, List.setIfInBounds_toArray, List.set_cons_zero, List.set_cons_succ, i64_w, i32_w]
                    rfl
                   refine pureT_ 85 219 (bm 88 77371252455336267181195263) HT_.out ?_
                   refine pureT_ 86 220 (bm 88 154742504910672534362390527) HT_.out ?_
                   refine pureT_ 87 221 (bm 88 309485009821345068724781055) HT_.out ?_
                   refine done_ (done_of HT_.out (by kernel_rfl)) ?_
                   try go_wp2
                   refine meetF hJ_j0 (by kernel_rfl) (by kernel_rfl) ?rel_z103
                   case rel_z103 => (try simp only [List.getD_cons_succ, List.getD_cons_zero]); exact ⟨_, ((t544 != false)), (by first | rfl | (simp; done) | (simp [*]; done)), H', ⟨by first | omega | exact Nat.le_refl _⟩, ⟨by (with_reducible repeat (first | apply Kd.R_alloc | apply Kd.R_drewN | apply Kd.R_drew)); exact Kd.R_mono HO520.out (fun _ hk => ⟨hk.1.1.1.2, hk.1.2⟩)⟩, ⟨by (with_reducible repeat (first | apply Kd.R_alloc | apply Kd.R_drewN | apply Kd.R_drew)); exact Kd.R_mono HO524.out (fun _ hk => ⟨hk.1.1.1.2, hk.1.2⟩)⟩, ⟨by (with_reducible repeat (first | apply Kd.R_alloc | apply Kd.R_drewN | apply Kd.R_drew)); exact Kd.R_mono HO532.out (fun _ hk => ⟨hk.1.1.1.2, hk.1.1.2⟩)⟩, ⟨kb BK521.out⟩, ⟨bl1 HB.out GE521.out⟩⟩
           ·rw [if_neg c50] at H
            have c50b0 : (t543 == t546) = false := beq_eq_false_iff_ne.mpr c50
            have c50b1 : (t543 != t546) = true := bne_iff_ne.mpr c50
            obtain rfl := Option.some.inj H
            exact absurd HT.out (by simp)
          ·rw [if_neg c49] at H
           have c49b0 : (t542 == t545) = false := beq_eq_false_iff_ne.mpr c49
           have c49b1 : (t542 != t545) = true := bne_iff_ne.mpr c49
           obtain rfl := Option.some.inj H
           exact absurd HT.out (by simp)
        ·rw [if_neg c47] at H
         have c47b0 : (t538 == t540) = false := beq_eq_false_iff_ne.mpr c47
         have c47b1 : (t538 != t540) = true := bne_iff_ne.mpr c47
         obtain rfl := Option.some.inj H
         exact absurd HT.out (by simp)
      ·replace c45 := Bool.eq_false_iff.mpr c45
       subst c45
       rw [if_neg (show ¬ (false = true) by decide)] at H
       obtain rfl := Option.some.inj H
       exact absurd HT.out (by simp)
    ·replace c42 := Bool.eq_false_iff.mpr c42
     subst c42
     rw [if_neg (show ¬ (false = true) by decide)] at H
     obtain rfl := Option.some.inj H
     exact absurd HT.out (by simp)
  case rest_j0 => as_aux_lemma =>
   intro f_ wc hcut
   dsimp only [ov]
   generalize f_ 221 = v221 at hcut ⊢
   clear HC16
   try clear c2
   try clear p2
   try clear c4
   try clear c5
   try clear c20
   try clear c21
   try clear c42
   try clear c45
   try clear c47
   try clear c47b0
   try clear c47b1
   try clear c49
   try clear c49b0
   try clear c49b1
   try clear c50
   try clear c50b0
   try clear c50b1
   obtain ⟨kq, x221_15, rfl, HA, HJ15, HO_7, HO_8, HO_12, BK521, HB⟩ := hcut
   cases kq with
   | zero => exact absurd HA.out (by simp [laws_FnFirstRuns.j0])
   | succ kj15 =>
    have H := HA.out
    clear HA
    simp only [laws_FnFirstRuns.j0] at H
    by_cases c104 : x221_15 = true
    ·subst c104
     rw [if_pos rfl] at H
     obtain rfl := Option.some.inj H
     exact absurd HT.out (by simp)
    ·replace c104 := Bool.eq_false_iff.mpr c104
     subst c104
     rw [if_neg (show ¬ (false = true) by decide)] at H
     have HC105 := Aside0.mk H
     clear H
     go_upto_if 222 with (fail)
     refine cutF [ff, ff, ff, ff, tt, ff, ff, ff, ff, ff, ff, ff, ff, ff, ff, ff, ff, ff, ff, ff, ff, ff, ff, ff, ff, ff, ff, ff, ff, ff, tt, tt, tt, tt, tt, tt, tt, tt, tt, tt, ff, ff, ff, ff, ff, ff, ff, ff, ff, ff, ff, ff, ff, ff, ff, ff, ff, ff, ff, ff, ff, tt, tt, tt, tt, tt, tt, tt, tt, tt, tt, tt, tt, tt, tt, tt, tt, tt, tt, tt, tt, tt, tt, tt, tt, tt, tt, tt, tt, tt, tt, tt, tt, tt, tt, tt, tt, tt, tt, tt, tt, tt, tt, tt, tt, tt, tt, tt, tt, tt, tt, tt, tt, tt, tt, tt, tt, tt, tt, tt, tt, tt, tt, tt, tt, tt, tt, tt, tt, tt, tt, tt, tt, tt, tt, tt, tt, tt, tt, tt, tt, tt, tt, tt, tt, tt, tt, tt, tt, tt, tt, tt, tt, tt, tt, tt, tt, tt, tt, tt, tt, tt, tt, tt, tt, tt, tt, tt, tt, tt, tt, tt, tt, tt, tt, tt, tt, tt, tt, tt, tt, tt, tt, tt, tt, tt, tt, tt, tt, tt, tt, tt, tt, tt, tt, tt, tt, tt, tt, tt, tt, tt, tt, tt, tt, tt, tt, tt, tt, tt, tt, tt, tt, tt, tt, tt, tt, tt, tt, tt, tt, tt, tt, tt, tt, tt, tt, tt, tt, tt, tt, tt, tt, tt, tt, tt, tt, tt, tt, tt, tt, tt, tt, tt, tt, tt, tt, tt, tt, tt, tt, tt, tt, tt, tt, tt, tt, tt, tt, tt, tt, tt, tt, tt, tt, tt, tt, tt, tt, tt, tt, tt, tt, tt, tt, tt, tt, tt, tt, tt, tt, tt, tt, tt, tt, tt, tt, tt, tt, tt, tt, tt, tt, tt, tt, tt, tt, ff, ff, ff, ff, ff, ff, ff, ff, ff, ff, ff, ff, ff, ff, ff, ff, ff, ff, ff, ff, ff, ff, ff, ff, ff, ff, ff, ff, ff, ff, ff, ff, ff, ff, ff, ff, ff, ff, ff, ff, ff, ff, ff, ff, ff, ff, ff, ff, ff, ff, ff, ff, ff, ff, ff, ff, ff, ff, ff, ff, ff, ff, ff, ff, ff, ff, ff, ff, ff, ff, ff, ff, ff, ff, ff, ff, ff, ff, ff, ff, ff, ff, ff, ff, ff, ff, ff, ff, ff, ff, ff, ff, ff, ff, ff, ff, ff, ff, ff, ff, ff, ff, ff, ff, ff, ff, ff, ff, ff, ff, ff, ff, ff, ff, ff, ff, ff, ff, ff, ff, ff, ff, ff, ff, ff, ff, ff, ff, ff, ff, ff, ff, ff, ff, ff, ff, ff, ff, ff] (fun f_ wc => ∃ (kq : Nat), Aside0 (laws_FnFirstRuns.j2 kq l1 t522 t530 t533 t538 t542 t543 t544 t512 t513 t514 t515 t516 = some r) ∧ Aside0 (kq ≤ kj15) ∧ Aside0 (Kd.R (Kd.int .i64) 3 wc w.heap.size (fun k_ => some k_ ≠ (v531 : Value).ownBlock) v523 t522) ∧ Aside0 (Kd.R (Kd.int .i64) 3 wc w.heap.size (fun k_ => some k_ ≠ (v523 : Value).ownBlock) v531 t530) ∧ Aside0 (wc.heap[gb521]? = some (.cells #[.int .i64 t512, .int .i64 t513, .int .i64 t514, .int .i64 t515, .bool t516] 27 (0, 0))) ∧ Aside0 (Below w.heap.size w wc)) ?first_j2 ?rest_j2
     case first_j2 => as_aux_lemma =>
      intro J_ K_ hJ_j2 hK_
      have H := HC105.out
      clear HC105
      by_cases c106 : t525 = true
      ·subst c106
       rw [if_pos rfl] at H
       have H' := Aside0.mk H
       clear H
       go_wp2
       refine loopF kj15 [ff, ff, ff, ff, tt, ff, ff, ff, ff, ff, ff, ff, ff, ff, ff, ff, ff, ff, ff, ff, ff, ff, ff, ff, ff, ff, ff, ff, ff, ff, tt, tt, tt, tt, tt, tt, tt, tt, tt, tt, ff, ff, ff, ff, ff, ff, ff, ff, ff, ff, ff, ff, ff, ff, ff, ff, ff, ff, ff, ff, ff, ff, ff, ff, ff, ff, ff, ff, ff, ff, ff, ff, ff, ff, ff, ff, ff, ff, ff, ff, ff, ff, ff, ff, ff, ff, ff, ff, ff, ff, ff, ff, ff, ff, ff, ff, ff, ff, ff, ff, ff, ff, ff, ff, ff, ff, ff, ff, ff, ff, ff, ff, ff, ff, ff, ff, ff, ff, ff, ff, ff, ff, ff, ff, ff, ff, ff, ff, ff, ff, ff, ff, ff, ff, ff, ff, ff, ff, ff, ff, ff, ff, ff, ff, ff, ff, ff, ff, ff, ff, ff, ff, ff, ff, ff, ff, ff, ff, ff, ff, ff, ff, ff, ff, ff, ff, ff, ff, ff, ff, ff, ff, ff, ff, ff, ff, ff, ff, ff, ff, ff, ff, ff, ff, ff, ff, ff, ff, ff, ff, ff, ff, ff, ff, ff, ff, ff, ff, ff, ff, ff, ff, ff, ff, ff, ff, ff, ff, ff, ff, ff, ff, ff, ff, ff, ff, ff, ff, ff, ff, ff, ff, ff, ff, ff, ff, tt, tt, tt, tt, tt, tt, tt, tt, tt, tt, tt, tt, tt, tt, tt, tt, tt, tt, tt, tt, tt, tt, tt, tt, tt, tt, tt, tt, tt, tt, tt, tt, tt, tt, tt, tt, tt, tt, tt, tt, tt, tt, tt, tt, tt, tt, tt, tt, tt, tt, tt, tt, tt, tt, tt, tt, tt, tt, tt, tt, tt, ff, ff, ff, ff, ff, ff, ff, ff, ff, ff, ff, ff, ff, ff, ff, ff, ff, ff, ff, ff, ff, ff, ff, ff, ff, ff, ff, ff, ff, ff, ff, ff, ff, ff, ff, ff, ff, ff, ff, ff, ff, ff, ff, ff, ff, ff, ff, ff, ff, ff, ff, ff, ff, ff, ff, ff, ff, ff, ff, ff, ff, ff, ff, ff, ff, ff, ff, ff, ff, ff, ff, ff, ff, ff, ff, ff, ff, ff, ff, ff, ff, ff, ff, ff, ff, ff, ff, ff, ff, ff, ff, ff, ff, ff, ff, ff, ff, ff, ff, ff, ff, ff, ff, ff, ff, ff, ff, ff, ff, ff, ff, ff, ff, ff, ff, ff, ff, ff, ff, ff, ff, ff, ff, ff, ff, ff, ff, ff, ff, ff, ff, ff, ff, ff, ff, ff, ff, ff, ff, ff, ff, ff, ff, ff, ff, ff, ff, ff, ff] (fun kq f_ w' => ∃ (x30_2 : Int) (x31_2 : Int) (x226_2 : Int), (f_ 30) = .int .i64 x30_2 ∧ (f_ 31) = .int .i64 x31_2 ∧ (f_ 226) = .int .i64 x226_2 ∧ Aside0 (laws_FnFirstRuns.l0 kq l1 t518 t522 t530 t533 t538 t542 t543 t544 x30_2 x31_2 t518 (t518.length : Int) x226_2 t512 t513 t514 t515 t516 = some r) ∧ Aside0 (kq ≤ kj15) ∧ Aside0 (Kd.R (Kd.int .i64) 3 w' w.heap.size (fun k_ => some k_ ≠ (v523 : Value).ownBlock ∧ some k_ ≠ (v531 : Value).ownBlock) (.slice Ao20 t518.length co20) t518) ∧ Aside0 (Kd.R (Kd.int .i64) 3 w' w.heap.size (fun k_ => some k_ ≠ ((.slice Ao20 t518.length co20) : Value).ownBlock ∧ some k_ ≠ (v531 : Value).ownBlock ∧ some k_ ≠ ((.slice Ao20 t518.length co20) : Value).ownBlock) v523 t522) ∧ Aside0 (Kd.R (Kd.int .i64) 3 w' w.heap.size (fun k_ => some k_ ≠ ((.slice Ao20 t518.length co20) : Value).ownBlock ∧ some k_ ≠ (v523 : Value).ownBlock ∧ some k_ ≠ ((.slice Ao20 t518.length co20) : Value).ownBlock) v531 t530) ∧ Aside0 (Kd.R (Kd.int .i64) 3 w' w.heap.size (fun k_ => some k_ ≠ (v523 : Value).ownBlock ∧ some k_ ≠ (v531 : Value).ownBlock) (.slice Ao20 t518.length co20) t518) ∧ Aside0 (w'.heap[gb521]? = some (.cells #[.int .i64 t512, .int .i64 t513, .int .i64 t514, .int .i64 t515, .bool t516] 27 (0, 0))) ∧ Aside0 (Below w.heap.size w w')) ?atStart_l0 ?round_l0
       case atStart_l0 => (try simp only [List.getD_cons_succ, List.getD_cons_zero]); exact ⟨(t517), (0), (0), (by first | rfl | (simp; done) | (simp [*]; done)), (by first | rfl | (simp; done) | (simp [*]; done)), (by first | rfl | (simp; done) | (simp [*]; done)), H', ⟨Nat.le_refl _⟩, ⟨kr HO_7.out⟩, ⟨by (with_reducible repeat (first | apply Kd.R_alloc | apply Kd.R_drewN | apply Kd.R_drew)); exact Kd.R_mono HO_8.out (fun _ hk => ⟨hk.1, ⟨hk.2, hk.1⟩⟩)⟩, ⟨by (with_reducible repeat (first | apply Kd.R_alloc | apply Kd.R_drewN | apply Kd.R_drew)); exact Kd.R_mono HO_12.out (fun _ hk => ⟨hk.1, ⟨hk.2, hk.1⟩⟩)⟩, ⟨kr HO_7.out⟩, ⟨kb BK521.out⟩, ⟨bl1 HB.out GE521.out⟩⟩
       case round_l0 => as_aux_lemma =>
        intro gk f_ wr hrel J_ K_ hL_l0 hK_
        dsimp only [ov]
        generalize f_ 30 = v30 at hrel ⊢
        generalize f_ 31 = v31 at hrel ⊢
        generalize f_ 226 = v226 at hrel ⊢
        clear H'
        try clear c1
        try clear c2
        try clear p2
        try clear c4
        try clear c5
        try clear c10
        try clear c20
        try clear c21
        try clear c42
        try clear c45
        try clear c47
        try clear c47b0
        try clear c47b1
        try clear c49
        try clear c49b0
        try clear c49b1
        try clear c50
        try clear c50b0
        try clear c50b1
        try clear c104
        try clear c106
        try clear p2
        obtain ⟨x30_2, x31_2, x226_2, rfl, rfl, rfl, HA, HK2, HO_7, HO_8, HO_12, HO_224, BK521, HB⟩ := hrel
        cases gk with
        | zero => exact absurd HA.out (by simp [laws_FnFirstRuns.l0])
        | succ k2 =>
         have H := HA.out
         clear HA
         simp only [laws_FnFirstRuns.l0] at H
         by_cases c107 : x226_2 < (t518.length : Int)
         ·rw [if_pos c107] at H
          have c107b0 : decide (x226_2 < (t518.length : Int)) = true := decide_eq_true c107
          clear c107
          (first | rw [c107b0] | (simp only [i64_w, i32_w]; rw [c107b0]) | skip)
          by_cases c108 : 0 ≤ x226_2
          ·rw [if_pos c108] at H
           have c108b0 : decide (0 ≤ x226_2) = true := decide_eq_true c108
           clear c108
           by_cases c109 : x226_2 < (t518.length : Int)
           ·rw [if_pos c109] at H
            have c109b0 : decide (x226_2 < (t518.length : Int)) = true := decide_eq_true c109
            clear c109
            replace H := Option.bind_eq_some_iff.mp H
            obtain ⟨⟨t561, t562⟩, A1100, H⟩ := H
            (try dsimp only at H)
            have A110 := Aside0.mk A1100
            clear A1100
            replace H := Option.bind_eq_some_iff.mp H
            obtain ⟨⟨t563, t564⟩, A1110, H⟩ := H
            (try dsimp only at H)
            have A111 := Aside0.mk A1110
            clear A1110
            by_cases c112 : t562 = true
            ·subst c112
             rw [if_pos rfl] at H
             by_cases c113 : x226_2 < (t522.length : Int)
             ·rw [if_pos c113] at H
              have c113b0 : decide (x226_2 < (t522.length : Int)) = true := decide_eq_true c113
              clear c113
              by_cases c114 : t561 = (rd t522 x226_2)
              ·rw [if_pos c114] at H
               have c114b0 : (t561 == (rd t522 x226_2)) = true := beq_iff_eq.mpr c114
               have c114b1 : (t561 != (rd t522 x226_2)) = false := bne_eq_false_iff_eq.mpr c114
               clear c114
               by_cases c115 : t564 = true
               ·subst c115
                rw [if_pos rfl] at H
                by_cases c116 : t563 = t561
                ·rw [if_pos c116] at H
                 have c116b0 : (t563 == t561) = true := beq_iff_eq.mpr c116
                 have c116b1 : (t563 != t561) = false := bne_eq_false_iff_eq.mpr c116
                 clear c116
                 replace H := Option.bind_eq_some_iff.mp H
                 obtain ⟨⟨t566, t567⟩, A1170, H⟩ := H
                 (try dsimp only at H)
                 have A117 := Aside0.mk A1170
                 clear A1170
                 by_cases c118 : t567 = true
                 ·subst c118
                  rw [if_pos rfl] at H
                  by_cases c119 : (wrap64 (t566 + (rd t518 x226_2))) = t561
                  ·rw [if_pos c119] at H
                   have c119b0 : ((wrap64 (t566 + (rd t518 x226_2))) == t561) = true := beq_iff_eq.mpr c119
                   have c119b1 : ((wrap64 (t566 + (rd t518 x226_2))) != t561) = false := bne_eq_false_iff_eq.mpr c119
                   clear c119
                   have H' := Aside0.mk H
                   clear H
                   have p560 : 0 ≤ (x226_2 : Int) := of_decide_eq_true (by first | (with_reducible assumption) | assumption)
                   have q560 : x226_2 < (t518.length : Int) := of_decide_eq_true (by first | (with_reducible assumption) | assumption)
                   obtain ⟨ad560, e560, hx560_0⟩ := Kd.at_int (Kd.R_reads' HO_224.out).2.2 x226_2 p560 q560
                   cases e560
                   replace p560 := eq_true p560
                   replace q560 := eq_true q560
                   obtain ⟨hcz120_0, hcz120_1, hcz120_2, hcz120_3, hcz120_4, hfz120_0, hfz120_1, hfz120_2, hfz120_3, hfz120_4⟩ := cz5 BK521.out
                   go_wp2_with (first | ((with_reducible refine gate_callee (f := 22) rfl ?_); refine goesLS_ (some 235) Try.func22 #[.agg #[.int .i64 t512, .int .i64 t513, .int .i64 t514, .int .i64 t515, .bool t516], .int .i64 x30_2, .int .i64 (rd t518 x226_2)] ?_; (with_reducible refine (impl_FirstStep.calls k2 t512 t513 t514 t515 t516 x30_2 (rd t518 x226_2) t561 true _ A110.out).mono ?_); rintro e w121 ⟨rfl, hb⟩; refine ⟨_, rfl, ?_⟩; have n0_ := Aside0.mk (Kd.R_below (kr HO_7.out) hb); have n1_ := Aside0.mk (Kd.R_below (kr HO_8.out) hb); have n2_ := Aside0.mk (Kd.R_below (kr HO_12.out) hb); have n3_ := Aside0.mk (Kd.R_below (kr HO_224.out) hb); have n4_ := Aside0.mk (blk_below (g := gb521) (o := .cells #[.int .i64 t512, .int .i64 t513, .int .i64 t514, .int .i64 t515, .bool t516] 27 (0, 0)) (kb BK521.out) hb); have n5_ := Aside0.mk (below_step (bl1 HB.out GE521.out) hb); clear HO_7; clear HO_8; clear HO_12; clear HO_224; clear BK521; clear HB; have HO_7 := n0_; have HO_8 := n1_; have HO_12 := n2_; have HO_224 := n3_; have BK521 := n4_; have HB := n5_; clear n0_ n1_ n2_ n3_ n4_ n5_; (try clear hb); (try clear hb2); (try clear hk); (try clear hi); obtain ⟨hcz122_0, hcz122_1, hcz122_2, hcz122_3, hcz122_4, hfz122_0, hfz122_1, hfz122_2, hfz122_3, hfz122_4⟩ := cz5 BK521.out) | ((with_reducible refine gate_callee (f := 23) rfl ?_); refine goesLS_ (some 242) Try.func23 #[.agg #[.int .i64 t515, .bool t516], .int .i64 t561] ?_; (with_reducible refine (impl_FitNumber.calls t515 t516 t561 t563 true _ A111.out).mono ?_); rintro e w123 ⟨rfl, hb⟩; refine ⟨_, rfl, ?_⟩; have n0_ := Aside0.mk (Kd.R_below (kr HO_7.out) hb); have n1_ := Aside0.mk (Kd.R_below (kr HO_8.out) hb); have n2_ := Aside0.mk (Kd.R_below (kr HO_12.out) hb); have n3_ := Aside0.mk (Kd.R_below (kr HO_224.out) hb); have n4_ := Aside0.mk (blk_below (g := gb521) (o := .cells #[.int .i64 t512, .int .i64 t513, .int .i64 t514, .int .i64 t515, .bool t516] 27 (0, 0)) (kb BK521.out) hb); have n5_ := Aside0.mk (below_step (bl1 HB.out GE521.out) hb); clear HO_7; clear HO_8; clear HO_12; clear HO_224; clear BK521; clear HB; have HO_7 := n0_; have HO_8 := n1_; have HO_12 := n2_; have HO_224 := n3_; have BK521 := n4_; have HB := n5_; clear n0_ n1_ n2_ n3_ n4_ n5_; (try clear hb); (try clear hb2); (try clear hk); (try clear hi); obtain ⟨Ao124, co124, eo124⟩ := Kd.R_slice HO_8.out; subst eo124; have p565 : 0 ≤ (x226_2 : Int) := of_decide_eq_true (by first | (with_reducible assumption) | assumption); have q565 : x226_2 < (t522.length : Int) := of_decide_eq_true (by first | (with_reducible assumption) | assumption); obtain ⟨ad565, e565, hx565_0⟩ := Kd.at_int (Kd.R_reads' HO_8.out).2.2 x226_2 p565 q565; cases e565; replace p565 := eq_true p565; replace q565 := eq_true q565; obtain ⟨hcz125_0, hcz125_1, hcz125_2, hcz125_3, hcz125_4, hfz125_0, hfz125_1, hfz125_2, hfz125_3, hfz125_4⟩ := cz5 BK521.out) | ((with_reducible refine gate_callee (f := 24) rfl ?_); refine goesLS_ (some 273) Try.func24 #[.int .i64 (wrap64 (t512 * x30_2)), .int .i64 t513, .int .i64 t514] ?_; (with_reducible refine (impl_RoundShift.calls k2 (wrap64 (t512 * x30_2)) t513 t514 t566 true _ A117.out).mono ?_); rintro e w' ⟨rfl, ⟨nd, rfl⟩⟩; refine ⟨_, rfl, ?_⟩))
                   refine handF k2 ?measure_z126 hL_l0 (by kernel_rfl) (by kernel_rfl) ?rel_z126
                   case measure_z126 => have := HJ15.out; have := HK2.out; omega
                   case rel_z126 => (try simp only [List.getD_cons_succ, List.getD_cons_zero]); exact ⟨(t561), (x31_2), (wrap64 (x226_2 + 1)), (by first | rfl | (simp; done) | (simp [*]; done)), (by first | rfl | (simp; done) | (simp [*]; done)), (by first | rfl | (simp; done) | (simp [*]; done)), H', ⟨by have := HJ15.out; have := HK2.out; omega⟩, ⟨kr HO_7.out⟩, ⟨kr HO_8.out⟩, ⟨kr HO_12.out⟩, ⟨kr HO_224.out⟩, ⟨kb BK521.out⟩, ⟨bl1 HB.out GE521.out⟩⟩
                  ·rw [if_neg c119] at H
                   have c119b0 : ((wrap64 (t566 + (rd t518 x226_2))) == t561) = false := beq_eq_false_iff_ne.mpr c119
                   have c119b1 : ((wrap64 (t566 + (rd t518 x226_2))) != t561) = true := bne_iff_ne.mpr c119
                   have H' := Aside0.mk H
                   clear H
                   have p560 : 0 ≤ (x226_2 : Int) := of_decide_eq_true (by first | (with_reducible assumption) | assumption)
                   have q560 : x226_2 < (t518.length : Int) := of_decide_eq_true (by first | (with_reducible assumption) | assumption)
                   obtain ⟨ad560, e560, hx560_0⟩ := Kd.at_int (Kd.R_reads' HO_224.out).2.2 x226_2 p560 q560
                   cases e560
                   replace p560 := eq_true p560
                   replace q560 := eq_true q560
                   obtain ⟨hcz127_0, hcz127_1, hcz127_2, hcz127_3, hcz127_4, hfz127_0, hfz127_1, hfz127_2, hfz127_3, hfz127_4⟩ := cz5 BK521.out
                   go_wp2_with (first | ((with_reducible refine gate_callee (f := 22) rfl ?_); refine goesLS_ (some 235) Try.func22 #[.agg #[.int .i64 t512, .int .i64 t513, .int .i64 t514, .int .i64 t515, .bool t516], .int .i64 x30_2, .int .i64 (rd t518 x226_2)] ?_; (with_reducible refine (impl_FirstStep.calls k2 t512 t513 t514 t515 t516 x30_2 (rd t518 x226_2) t561 true _ A110.out).mono ?_); rintro e w128 ⟨rfl, hb⟩; refine ⟨_, rfl, ?_⟩; have n0_ := Aside0.mk (Kd.R_below (kr HO_7.out) hb); have n1_ := Aside0.mk (Kd.R_below (kr HO_8.out) hb); have n2_ := Aside0.mk (Kd.R_below (kr HO_12.out) hb); have n3_ := Aside0.mk (Kd.R_below (kr HO_224.out) hb); have n4_ := Aside0.mk (blk_below (g := gb521) (o := .cells #[.int .i64 t512, .int .i64 t513, .int .i64 t514, .int .i64 t515, .bool t516] 27 (0, 0)) (kb BK521.out) hb); have n5_ := Aside0.mk (below_step (bl1 HB.out GE521.out) hb); clear HO_7; clear HO_8; clear HO_12; clear HO_224; clear BK521; clear HB; have HO_7 := n0_; have HO_8 := n1_; have HO_12 := n2_; have HO_224 := n3_; have BK521 := n4_; have HB := n5_; clear n0_ n1_ n2_ n3_ n4_ n5_; (try clear hb); (try clear hb2); (try clear hk); (try clear hi); obtain ⟨hcz129_0, hcz129_1, hcz129_2, hcz129_3, hcz129_4, hfz129_0, hfz129_1, hfz129_2, hfz129_3, hfz129_4⟩ := cz5 BK521.out) | ((with_reducible refine gate_callee (f := 23) rfl ?_); refine goesLS_ (some 242) Try.func23 #[.agg #[.int .i64 t515, .bool t516], .int .i64 t561] ?_; (with_reducible refine (impl_FitNumber.calls t515 t516 t561 t563 true _ A111.out).mono ?_); rintro e w130 ⟨rfl, hb⟩; refine ⟨_, rfl, ?_⟩; have n0_ := Aside0.mk (Kd.R_below (kr HO_7.out) hb); have n1_ := Aside0.mk (Kd.R_below (kr HO_8.out) hb); have n2_ := Aside0.mk (Kd.R_below (kr HO_12.out) hb); have n3_ := Aside0.mk (Kd.R_below (kr HO_224.out) hb); have n4_ := Aside0.mk (blk_below (g := gb521) (o := .cells #[.int .i64 t512, .int .i64 t513, .int .i64 t514, .int .i64 t515, .bool t516] 27 (0, 0)) (kb BK521.out) hb); have n5_ := Aside0.mk (below_step (bl1 HB.out GE521.out) hb); clear HO_7; clear HO_8; clear HO_12; clear HO_224; clear BK521; clear HB; have HO_7 := n0_; have HO_8 := n1_; have HO_12 := n2_; have HO_224 := n3_; have BK521 := n4_; have HB := n5_; clear n0_ n1_ n2_ n3_ n4_ n5_; (try clear hb); (try clear hb2); (try clear hk); (try clear hi); obtain ⟨Ao131, co131, eo131⟩ := Kd.R_slice HO_8.out; subst eo131; have p565 : 0 ≤ (x226_2 : Int) := of_decide_eq_true (by first | (with_reducible assumption) | assumption); have q565 : x226_2 < (t522.length : Int) := of_decide_eq_true (by first | (with_reducible assumption) | assumption); obtain ⟨ad565, e565, hx565_0⟩ := Kd.at_int (Kd.R_reads' HO_8.out).2.2 x226_2 p565 q565; cases e565; replace p565 := eq_true p565; replace q565 := eq_true q565; obtain ⟨hcz132_0, hcz132_1, hcz132_2, hcz132_3, hcz132_4, hfz132_0, hfz132_1, hfz132_2, hfz132_3, hfz132_4⟩ := cz5 BK521.out) | ((with_reducible refine gate_callee (f := 24) rfl ?_); refine goesLS_ (some 273) Try.func24 #[.int .i64 (wrap64 (t512 * x30_2)), .int .i64 t513, .int .i64 t514] ?_; (with_reducible refine (impl_RoundShift.calls k2 (wrap64 (t512 * x30_2)) t513 t514 t566 true _ A117.out).mono ?_); rintro e w' ⟨rfl, ⟨nd, rfl⟩⟩; refine ⟨_, rfl, ?_⟩))
                   refine handF k2 ?measure_z133 hL_l0 (by kernel_rfl) (by kernel_rfl) ?rel_z133
                   case measure_z133 => have := HJ15.out; have := HK2.out; omega
                   case rel_z133 => (try simp only [List.getD_cons_succ, List.getD_cons_zero]); exact ⟨(t561), (wrap64 (x31_2 + 1)), (wrap64 (x226_2 + 1)), (by first | rfl | (simp; done) | (simp [*]; done)), (by first | rfl | (simp; done) | (simp [*]; done)), (by first | rfl | (simp; done) | (simp [*]; done)), H', ⟨by have := HJ15.out; have := HK2.out; omega⟩, ⟨kr HO_7.out⟩, ⟨kr HO_8.out⟩, ⟨kr HO_12.out⟩, ⟨kr HO_224.out⟩, ⟨kb BK521.out⟩, ⟨bl1 HB.out GE521.out⟩⟩
                 ·replace c118 := Bool.eq_false_iff.mpr c118
                  subst c118
                  rw [if_neg (show ¬ (false = true) by decide)] at H
                  obtain rfl := Option.some.inj H
                  exact absurd HT.out (by simp)
                ·rw [if_neg c116] at H
                 have c116b0 : (t563 == t561) = false := beq_eq_false_iff_ne.mpr c116
                 have c116b1 : (t563 != t561) = true := bne_iff_ne.mpr c116
                 obtain rfl := Option.some.inj H
                 exact absurd HT.out (by simp)
               ·replace c115 := Bool.eq_false_iff.mpr c115
                subst c115
                rw [if_neg (show ¬ (false = true) by decide)] at H
                obtain rfl := Option.some.inj H
                exact absurd HT.out (by simp)
              ·rw [if_neg c114] at H
               have c114b0 : (t561 == (rd t522 x226_2)) = false := beq_eq_false_iff_ne.mpr c114
               have c114b1 : (t561 != (rd t522 x226_2)) = true := bne_iff_ne.mpr c114
               obtain rfl := Option.some.inj H
               exact absurd HT.out (by simp)
             ·rw [if_neg c113] at H
              exact absurd H (by simp)
            ·replace c112 := Bool.eq_false_iff.mpr c112
             subst c112
             rw [if_neg (show ¬ (false = true) by decide)] at H
             obtain rfl := Option.some.inj H
             exact absurd HT.out (by simp)
           ·rw [if_neg c109] at H
            exact absurd H (by simp)
          ·rw [if_neg c108] at H
           exact absurd H (by simp)
         ·rw [if_neg c107] at H
          have c107b0 : decide (x226_2 < (t518.length : Int)) = false := decide_eq_false c107
          clear c107
          (first | rw [c107b0] | (simp only [i64_w, i32_w]; rw [c107b0]) | skip)
          by_cases c134 : x31_2 = t538
          ·rw [if_pos c134] at H
           have c134b0 : (x31_2 == t538) = true := beq_iff_eq.mpr c134
           have c134b1 : (x31_2 != t538) = false := bne_eq_false_iff_eq.mpr c134
           clear c134
           by_cases c135 : (t522.length : Int) = (t518.length : Int)
           ·rw [if_pos c135] at H
            have c135b0 : ((t522.length : Int) == (t518.length : Int)) = true := beq_iff_eq.mpr c135
            have c135b1 : ((t522.length : Int) != (t518.length : Int)) = false := bne_eq_false_iff_eq.mpr c135
            have c135b2 : (t522.length == t518.length) = true := by first | simpa using c135 | (simp at c135 ⊢; omega)
            clear c135
            have H' := Aside0.mk H
            clear H
            obtain ⟨Ao136, co136, eo136⟩ := Kd.R_slice HO_8.out
            subst eo136
            go_wp2
            refine meetF hJ_j2 (by kernel_rfl) (by kernel_rfl) ?rel_z137
            case rel_z137 => (try simp only [List.getD_cons_succ, List.getD_cons_zero]); exact ⟨_, H', ⟨by have := HJ15.out; have := HK2.out; first | omega | exact Nat.le_refl _⟩, ⟨by (with_reducible repeat (first | apply Kd.R_alloc | apply Kd.R_drewN | apply Kd.R_drew)); exact Kd.R_mono HO_8.out (fun _ hk => hk.2.1)⟩, ⟨by (with_reducible repeat (first | apply Kd.R_alloc | apply Kd.R_drewN | apply Kd.R_drew)); exact Kd.R_mono HO_12.out (fun _ hk => hk.2.1)⟩, ⟨kb BK521.out⟩, ⟨bl1 HB.out GE521.out⟩⟩
           ·rw [if_neg c135] at H
            have c135b0 : ((t522.length : Int) == (t518.length : Int)) = false := beq_eq_false_iff_ne.mpr c135
            have c135b1 : ((t522.length : Int) != (t518.length : Int)) = true := bne_iff_ne.mpr c135
            have c135b2 : (t522.length == t518.length) = false := by first | simpa using c135 | (simp at c135 ⊢; omega)
            obtain rfl := Option.some.inj H
            exact absurd HT.out (by simp)
          ·rw [if_neg c134] at H
           have c134b0 : (x31_2 == t538) = false := beq_eq_false_iff_ne.mpr c134
           have c134b1 : (x31_2 != t538) = true := bne_iff_ne.mpr c134
           obtain rfl := Option.some.inj H
           exact absurd HT.out (by simp)
      ·replace c106 := Bool.eq_false_iff.mpr c106
       subst c106
       rw [if_neg (show ¬ (false = true) by decide)] at H
       have H' := Aside0.mk H
       clear H
       go_wp2
       refine meetF hJ_j2 (by kernel_rfl) (by kernel_rfl) ?rel_z138
       case rel_z138 => (try simp only [List.getD_cons_succ, List.getD_cons_zero]); exact ⟨_, H', ⟨by have := HJ15.out; first | omega | exact Nat.le_refl _⟩, ⟨by (with_reducible repeat (first | apply Kd.R_alloc | apply Kd.R_drewN | apply Kd.R_drew)); exact Kd.R_mono HO_8.out (fun _ hk => hk.2)⟩, ⟨by (with_reducible repeat (first | apply Kd.R_alloc | apply Kd.R_drewN | apply Kd.R_drew)); exact Kd.R_mono HO_12.out (fun _ hk => hk.2)⟩, ⟨kb BK521.out⟩, ⟨bl1 HB.out GE521.out⟩⟩
     case rest_j2 => as_aux_lemma =>
      intro f_ wc hcut
      dsimp only [ov]
      clear HC105
      try clear c1
      try clear c2
      try clear p2
      try clear c4
      try clear c5
      try clear p5
      try clear q5
      try clear hx5
      try clear p6
      try clear c10
      try clear c11
      try clear c13
      try clear c20
      try clear c21
      try clear c22
      try clear c23
      try clear c24
      try clear c42
      try clear c45
      try clear c47
      try clear c47b0
      try clear c47b1
      try clear c49
      try clear c49b0
      try clear c49b1
      try clear c50
      try clear c50b0
      try clear c50b1
      try clear p56
      try clear q56
      try clear hx56
      try clear p64
      try clear c104
      try clear c106
      try clear c107
      try clear c107b0
      try clear c108
      try clear c108b0
      try clear c109
      try clear c109b0
      try clear c112
      try clear c113
      try clear c113b0
      try clear c114
      try clear c114b0
      try clear c114b1
      try clear c115
      try clear c116
      try clear c116b0
      try clear c116b1
      try clear c118
      try clear c119
      try clear c119b0
      try clear c119b1
      try clear c134
      try clear c134b0
      try clear c134b1
      try clear c135
      try clear c135b0
      try clear c135b1
      try clear c135b2
      try clear hcz120_0
      try clear hcz120_1
      try clear hcz120_2
      try clear hcz120_3
      try clear hcz120_4
      try clear hcz122_0
      try clear hcz122_1
      try clear hcz122_2
      try clear hcz122_3
      try clear hcz122_4
      try clear hcz125_0
      try clear hcz125_1
      try clear hcz125_2
      try clear hcz125_3
      try clear hcz125_4
      try clear hcz127_0
      try clear hcz127_1
      try clear hcz127_2
      try clear hcz127_3
      try clear hcz127_4
      try clear hcz129_0
      try clear hcz129_1
      try clear hcz129_2
      try clear hcz129_3
      try clear hcz129_4
      try clear hcz132_0
      try clear hcz132_1
      try clear hcz132_2
      try clear hcz132_3
      try clear hcz132_4
      try clear hfz120_0
      try clear hfz120_1
      try clear hfz120_2
      try clear hfz120_3
      try clear hfz120_4
      try clear hfz122_0
      try clear hfz122_1
      try clear hfz122_2
      try clear hfz122_3
      try clear hfz122_4
      try clear hfz125_0
      try clear hfz125_1
      try clear hfz125_2
      try clear hfz125_3
      try clear hfz125_4
      try clear hfz127_0
      try clear hfz127_1
      try clear hfz127_2
      try clear hfz127_3
      try clear hfz127_4
      try clear hfz129_0
      try clear hfz129_1
      try clear hfz129_2
      try clear hfz129_3
      try clear hfz129_4
      try clear hfz132_0
      try clear hfz132_1
      try clear hfz132_2
      try clear hfz132_3
      try clear hfz132_4
      try clear hx560_0
      try clear hx565_0
      try clear p2
      try clear p560
      try clear p565
      try clear q560
      try clear q565
      obtain ⟨kq, HA, HJ104, HO_8, HO_12, BK521, HB⟩ := hcut
      cases kq with
      | zero => exact absurd HA.out (by simp [laws_FnFirstRuns.j2])
      | succ kj104 =>
       have H := HA.out
       clear HA
       simp only [laws_FnFirstRuns.j2] at H
       have HC139 := Aside0.mk H
       clear H
       go_upto_region 34 with (fail)
       refine cutF [ff, ff, ff, ff, ff, ff, ff, ff, ff, ff, ff, ff, ff, ff, ff, ff, ff, ff, ff, ff, ff, ff, ff, ff, ff, ff, ff, ff, ff, ff, ff, ff, ff, ff, ff, ff, ff, ff, ff, ff, ff, ff, ff, ff, ff, ff, ff, ff, ff, ff, ff, ff, ff, ff, ff, ff, ff, ff, ff, ff, ff, tt, tt, tt, tt, tt, tt, tt, tt, tt, tt, tt, tt, tt, tt, tt, tt, tt, tt, tt, tt, tt, tt, tt, tt, tt, tt, tt, tt, tt, tt, tt, tt, tt, tt, tt, tt, tt, tt, tt, tt, tt, tt, tt, tt, tt, tt, tt, tt, tt, tt, tt, tt, tt, tt, tt, tt, tt, tt, tt, tt, tt, tt, tt, tt, tt, tt, tt, tt, tt, tt, tt, tt, tt, tt, tt, tt, tt, tt, tt, tt, tt, tt, tt, tt, tt, tt, tt, tt, tt, tt, tt, tt, tt, tt, tt, tt, tt, tt, tt, tt, tt, tt, tt, tt, tt, tt, tt, tt, tt, tt, tt, tt, tt, tt, tt, tt, tt, tt, tt, tt, tt, tt, tt, tt, tt, tt, tt, tt, tt, tt, tt, tt, tt, tt, tt, tt, tt, tt, tt, tt, tt, tt, tt, tt, tt, tt, tt, tt, tt, tt, tt, tt, tt, tt, tt, tt, tt, tt, tt, tt, tt, tt, tt, ff, ff, ff, tt, tt, tt, tt, tt, tt, tt, tt, tt, tt, tt, tt, tt, tt, tt, tt, tt, tt, tt, tt, tt, tt, tt, tt, tt, tt, tt, tt, tt, tt, tt, tt, tt, tt, tt, tt, tt, tt, tt, tt, tt, tt, tt, tt, tt, tt, tt, tt, tt, tt, tt, tt, tt, tt, tt, tt, tt, tt, tt, tt, tt, tt, tt, tt, tt, tt, tt, tt, tt, tt, tt, tt, tt, tt, tt, tt, tt, tt, ff, ff, ff, ff, ff, ff, ff, ff, ff, ff, ff, ff, ff, ff, ff, ff, ff, ff, ff, ff, ff, ff, ff, ff, ff, ff, ff, ff, ff, ff, ff, ff, ff, ff, ff, ff, ff, ff, ff, ff, ff, ff, ff, ff, ff, ff, ff, ff, ff, ff, ff, ff, ff, ff, ff, ff, ff, ff, ff, ff, ff, ff, ff, ff, ff, ff, ff, ff, ff, ff, ff, ff, ff, ff, ff, ff, ff, ff, ff, ff, ff, ff, ff, ff, ff, ff, ff, ff, ff, ff, ff, ff, ff, ff, ff, ff, ff, ff, ff, ff, ff, ff, ff, ff, ff, ff, ff, ff, ff, ff, ff, ff, ff, ff, ff, ff, ff, ff, ff, ff, ff, ff, ff, ff, ff, ff, ff, ff, ff, ff, ff] (fun f_ wc => ∃ (kq : Nat) (x304_138 : Bool), (f_ 304) = .bool x304_138 ∧ Aside0 (laws_FnFirstRuns.j3 kq l1 t522 t530 t542 t543 x304_138 t512 t513 t514 t515 t516 = some r) ∧ Aside0 (kq ≤ kj104) ∧ Aside0 (Kd.R (Kd.int .i64) 3 wc w.heap.size (fun k_ => some k_ ≠ (v531 : Value).ownBlock) v523 t522) ∧ Aside0 (Kd.R (Kd.int .i64) 3 wc w.heap.size (fun k_ => some k_ ≠ (v523 : Value).ownBlock) v531 t530) ∧ Aside0 (wc.heap[gb521]? = some (.cells #[.int .i64 t512, .int .i64 t513, .int .i64 t514, .int .i64 t515, .bool t516] 27 (0, 0))) ∧ Aside0 (Below w.heap.size w wc)) ?first_j3 ?rest_j3
       case first_j3 => as_aux_lemma =>
        intro J_ K_ hJ_j3 hK_
        have H := HC139.out
        clear HC139
        by_cases c140 : t533 = true
        ·subst c140
         rw [if_pos rfl] at H
         by_cases c141 : t544 = true
         ·subst c141
          rw [if_pos rfl] at H
          have H' := Aside0.mk H
          clear H
          go_wp2
          refine meetF hJ_j3 (by kernel_rfl) (by kernel_rfl) ?rel_z142
          case rel_z142 => (try simp only [List.getD_cons_succ, List.getD_cons_zero]); exact ⟨_, ((t538 == 0)), (by first | rfl | (simp; done) | (simp [*]; done)), H', ⟨by have := HJ15.out; have := HJ104.out; first | omega | exact Nat.le_refl _⟩, ⟨kr HO_8.out⟩, ⟨kr HO_12.out⟩, ⟨kb BK521.out⟩, ⟨bl1 HB.out GE521.out⟩⟩
         ·replace c141 := Bool.eq_false_iff.mpr c141
          subst c141
          rw [if_neg (show ¬ (false = true) by decide)] at H
          have H' := Aside0.mk H
          clear H
          go_wp2
          refine meetF hJ_j3 (by kernel_rfl) (by kernel_rfl) ?rel_z143
          case rel_z143 => (try simp only [List.getD_cons_succ, List.getD_cons_zero]); exact ⟨_, (false), (by first | rfl | (simp; done) | (simp [*]; done)), H', ⟨by have := HJ15.out; have := HJ104.out; first | omega | exact Nat.le_refl _⟩, ⟨kr HO_8.out⟩, ⟨kr HO_12.out⟩, ⟨kb BK521.out⟩, ⟨bl1 HB.out GE521.out⟩⟩
        ·replace c140 := Bool.eq_false_iff.mpr c140
         subst c140
         rw [if_neg (show ¬ (false = true) by decide)] at H
         have H' := Aside0.mk H
         clear H
         go_wp2
         refine meetF hJ_j3 (by kernel_rfl) (by kernel_rfl) ?rel_z144
         case rel_z144 => (try simp only [List.getD_cons_succ, List.getD_cons_zero]); exact ⟨_, (false), (by first | rfl | (simp; done) | (simp [*]; done)), H', ⟨by have := HJ15.out; have := HJ104.out; first | omega | exact Nat.le_refl _⟩, ⟨kr HO_8.out⟩, ⟨kr HO_12.out⟩, ⟨kb BK521.out⟩, ⟨bl1 HB.out GE521.out⟩⟩
       case rest_j3 => as_aux_lemma =>
        intro f_ wc hcut
        dsimp only [ov]
        generalize f_ 304 = v304 at hcut ⊢
        clear HC139
        try clear c1
        try clear c2
        try clear p2
        try clear c4
        try clear c5
        try clear p5
        try clear q5
        try clear hx5
        try clear p6
        try clear c10
        try clear c11
        try clear c13
        try clear c14
        try clear c20
        try clear c21
        try clear c22
        try clear c23
        try clear c24
        try clear c42
        try clear c45
        try clear c47
        try clear c47b0
        try clear c47b1
        try clear c49
        try clear c49b0
        try clear c49b1
        try clear c50
        try clear c50b0
        try clear c50b1
        try clear p56
        try clear q56
        try clear hx56
        try clear p64
        try clear c104
        try clear c106
        try clear c107
        try clear c107b0
        try clear c108
        try clear c108b0
        try clear c109
        try clear c109b0
        try clear c112
        try clear c113
        try clear c113b0
        try clear c114
        try clear c114b0
        try clear c114b1
        try clear c115
        try clear c116
        try clear c116b0
        try clear c116b1
        try clear c118
        try clear c119
        try clear c119b0
        try clear c119b1
        try clear c134
        try clear c134b0
        try clear c134b1
        try clear c135
        try clear c135b0
        try clear c135b1
        try clear c135b2
        try clear c140
        try clear c141
        try clear hcz120_0
        try clear hcz120_1
        try clear hcz120_2
        try clear hcz120_3
        try clear hcz120_4
        try clear hcz122_0
        try clear hcz122_1
        try clear hcz122_2
        try clear hcz122_3
        try clear hcz122_4
        try clear hcz125_0
        try clear hcz125_1
        try clear hcz125_2
        try clear hcz125_3
        try clear hcz125_4
        try clear hcz127_0
        try clear hcz127_1
        try clear hcz127_2
        try clear hcz127_3
        try clear hcz127_4
        try clear hcz129_0
        try clear hcz129_1
        try clear hcz129_2
        try clear hcz129_3
        try clear hcz129_4
        try clear hcz132_0
        try clear hcz132_1
        try clear hcz132_2
        try clear hcz132_3
        try clear hcz132_4
        try clear hfz120_0
        try clear hfz120_1
        try clear hfz120_2
        try clear hfz120_3
        try clear hfz120_4
        try clear hfz122_0
        try clear hfz122_1
        try clear hfz122_2
        try clear hfz122_3
        try clear hfz122_4
        try clear hfz125_0
        try clear hfz125_1
        try clear hfz125_2
        try clear hfz125_3
        try clear hfz125_4
        try clear hfz127_0
        try clear hfz127_1
        try clear hfz127_2
        try clear hfz127_3
        try clear hfz127_4
        try clear hfz129_0
        try clear hfz129_1
        try clear hfz129_2
        try clear hfz129_3
        try clear hfz129_4
        try clear hfz132_0
        try clear hfz132_1
        try clear hfz132_2
        try clear hfz132_3
        try clear hfz132_4
        try clear hx560_0
        try clear hx565_0
        try clear p2
        try clear p5
        try clear p56
        try clear p560
        try clear p565
        try clear p6
        try clear p64
        try clear q5
        try clear q56
        try clear q560
        try clear q565
        obtain ⟨kq, x304_138, rfl, HA, HJ138, HO_8, HO_12, BK521, HB⟩ := hcut
        cases kq with
        | zero => exact absurd HA.out (by simp [laws_FnFirstRuns.j3])
        | succ kj138 =>
         have H := HA.out
         clear HA
         simp only [laws_FnFirstRuns.j3] at H
         have HC145 := Aside0.mk H
         clear H
         go_upto_if 304 with (fail)
         refine cutF [ff, ff, ff, ff, tt, ff, ff, ff, ff, ff, ff, ff, ff, ff, ff, ff, ff, ff, ff, ff, ff, ff, ff, ff, ff, ff, ff, ff, ff, ff, ff, ff, ff, ff, ff, ff, ff, ff, ff, ff, tt, tt, tt, tt, ff, ff, ff, ff, ff, ff, ff, ff, ff, ff, ff, ff, ff, ff, ff, ff, ff, tt, tt, tt, tt, tt, tt, tt, tt, tt, tt, tt, tt, tt, tt, tt, tt, tt, tt, tt, tt, tt, tt, tt, tt, tt, tt, tt, tt, tt, tt, tt, tt, tt, tt, tt, tt, tt, tt, tt, tt, tt, tt, tt, tt, tt, tt, tt, tt, tt, tt, tt, tt, tt, tt, tt, tt, tt, tt, tt, tt, tt, tt, tt, tt, tt, tt, tt, tt, tt, tt, tt, tt, tt, tt, tt, tt, tt, tt, tt, tt, tt, tt, tt, tt, tt, tt, tt, tt, tt, tt, tt, tt, tt, tt, tt, tt, tt, tt, tt, tt, tt, tt, tt, tt, tt, tt, tt, tt, tt, tt, tt, tt, tt, tt, tt, tt, tt, tt, tt, tt, tt, tt, tt, tt, tt, tt, tt, tt, tt, tt, tt, tt, tt, tt, tt, tt, tt, tt, tt, tt, tt, tt, tt, tt, tt, tt, tt, tt, tt, tt, tt, tt, tt, tt, tt, tt, tt, tt, tt, tt, tt, tt, tt, ff, ff, ff, tt, tt, tt, tt, tt, tt, tt, tt, tt, tt, tt, tt, tt, tt, tt, tt, tt, tt, tt, tt, tt, tt, tt, tt, tt, tt, tt, tt, tt, tt, tt, tt, tt, tt, tt, tt, tt, tt, tt, tt, tt, tt, tt, tt, tt, tt, tt, tt, tt, tt, tt, tt, tt, tt, tt, tt, tt, tt, tt, tt, tt, tt, tt, tt, tt, tt, tt, tt, tt, tt, tt, tt, tt, tt, tt, tt, tt, tt, tt, tt, tt, tt, tt, tt, tt, tt, tt, tt, tt, tt, tt, tt, tt, tt, tt, tt, tt, tt, tt, tt, tt, tt, tt, tt, tt, tt, tt, tt, tt, tt, tt, tt, tt, tt, tt, tt, tt, tt, tt, tt, ff, ff, ff, ff, ff, ff, ff, ff, ff, ff, ff, ff, ff, ff, ff, ff, ff, ff, ff, ff, ff, ff, ff, ff, ff, ff, ff, ff, ff, ff, ff, ff, ff, ff, ff, ff, ff, ff, ff, ff, ff, ff, ff, ff, ff, ff, ff, ff, ff, ff, ff, ff, ff, ff, ff, ff, ff, ff, ff, ff, ff, ff, ff, ff, ff, ff, ff, ff, ff, ff, ff, ff, ff, ff, ff, ff, ff, ff, ff, ff, ff, ff, ff, ff, ff, ff, ff, ff, ff] (fun f_ wc => ∃ (kq : Nat), Aside0 (laws_FnFirstRuns.j5 kq l1 = some r) ∧ Aside0 (kq ≤ kj138) ∧ Aside0 (wc.heap[gb521]? = some (.cells #[.int .i64 t512, .int .i64 t513, .int .i64 t514, .int .i64 t515, .bool t516] 27 (0, 0))) ∧ Aside0 (Below w.heap.size w wc)) ?first_j5 ?rest_j5
         case first_j5 => as_aux_lemma =>
          intro J_ K_ hJ_j5 hK_
          have H := HC145.out
          clear HC145
          by_cases c146 : x304_138 = true
          ·subst c146
           rw [if_pos rfl] at H
           have H' := Aside0.mk H
           clear H
           obtain ⟨Ao147, co147, eo147⟩ := Kd.R_slice HO_12.out
           subst eo147
           go_wp2
           refine loopF kj138 [ff, ff, ff, ff, tt, ff, ff, ff, ff, ff, ff, ff, ff, ff, ff, ff, ff, ff, ff, ff, ff, ff, ff, ff, ff, ff, ff, ff, ff, ff, ff, ff, ff, ff, ff, ff, ff, ff, ff, ff, tt, tt, tt, tt, ff, ff, ff, ff, ff, ff, ff, ff, ff, ff, ff, ff, ff, ff, ff, ff, ff, ff, ff, ff, ff, ff, ff, ff, ff, ff, ff, ff, ff, ff, ff, ff, ff, ff, ff, ff, ff, ff, ff, ff, ff, ff, ff, ff, ff, ff, ff, ff, ff, ff, ff, ff, ff, ff, ff, ff, ff, ff, ff, ff, ff, ff, ff, ff, ff, ff, ff, ff, ff, ff, ff, ff, ff, ff, ff, ff, ff, ff, ff, ff, ff, ff, ff, ff, ff, ff, ff, ff, ff, ff, ff, ff, ff, ff, ff, ff, ff, ff, ff, ff, ff, ff, ff, ff, ff, ff, ff, ff, ff, ff, ff, ff, ff, ff, ff, ff, ff, ff, ff, ff, ff, ff, ff, ff, ff, ff, ff, ff, ff, ff, ff, ff, ff, ff, ff, ff, ff, ff, ff, ff, ff, ff, ff, ff, ff, ff, ff, ff, ff, ff, ff, ff, ff, ff, ff, ff, ff, ff, ff, ff, ff, ff, ff, ff, ff, ff, ff, ff, ff, ff, ff, ff, ff, ff, ff, ff, ff, ff, ff, ff, ff, ff, ff, ff, ff, ff, ff, ff, ff, ff, ff, ff, ff, ff, ff, ff, ff, ff, ff, ff, ff, ff, ff, ff, ff, ff, ff, ff, ff, ff, ff, ff, ff, ff, ff, ff, ff, ff, ff, ff, ff, ff, ff, ff, ff, ff, ff, ff, ff, ff, ff, ff, ff, ff, ff, ff, ff, ff, ff, ff, ff, ff, ff, ff, ff, ff, ff, ff, ff, ff, ff, ff, ff, ff, ff, ff, ff, ff, ff, ff, ff, ff, ff, tt, tt, tt, tt, tt, tt, tt, tt, tt, tt, tt, tt, tt, tt, tt, tt, tt, tt, tt, tt, tt, tt, tt, tt, tt, tt, tt, tt, tt, tt, tt, tt, tt, tt, tt, tt, tt, tt, tt, tt, ff, ff, ff, ff, ff, ff, ff, ff, ff, ff, ff, ff, ff, ff, ff, ff, ff, ff, ff, ff, ff, ff, ff, ff, ff, ff, ff, ff, ff, ff, ff, ff, ff, ff, ff, ff, ff, ff, ff, ff, ff, ff, ff, ff, ff, ff, ff, ff, ff, ff, ff, ff, ff, ff, ff, ff, ff, ff, ff, ff, ff, ff, ff, ff, ff, ff, ff, ff, ff, ff, ff, ff, ff, ff, ff, ff, ff, ff, ff, ff, ff, ff, ff, ff, ff, ff, ff, ff, ff] (fun kq f_ w' => ∃ (x40_4 : Int) (x307_4 : Int), (f_ 40) = .int .i64 x40_4 ∧ (f_ 307) = .int .i64 x307_4 ∧ Aside0 (laws_FnFirstRuns.l1 kq l1 t522 t542 t543 x40_4 t530 (t530.length : Int) x307_4 t512 t513 t514 t515 t516 = some r) ∧ Aside0 (kq ≤ kj138) ∧ Aside0 (Kd.R (Kd.int .i64) 3 w' w.heap.size (fun k_ => some k_ ≠ ((.slice Ao147 t530.length co147) : Value).ownBlock) v523 t522) ∧ Aside0 (Kd.R (Kd.int .i64) 3 w' w.heap.size (fun k_ => some k_ ≠ (v523 : Value).ownBlock) (.slice Ao147 t530.length co147) t530) ∧ Aside0 (w'.heap[gb521]? = some (.cells #[.int .i64 t512, .int .i64 t513, .int .i64 t514, .int .i64 t515, .bool t516] 27 (0, 0))) ∧ Aside0 (Below w.heap.size w w')) ?atStart_l1 ?round_l1
           case atStart_l1 => (try simp only [List.getD_cons_succ, List.getD_cons_zero]); exact ⟨(1), (0), (by first | rfl | (simp; done) | (simp [*]; done)), (by first | rfl | (simp; done) | (simp [*]; done)), H', ⟨Nat.le_refl _⟩, ⟨kr HO_8.out⟩, ⟨kr HO_12.out⟩, ⟨kb BK521.out⟩, ⟨bl1 HB.out GE521.out⟩⟩
           case round_l1 => as_aux_lemma =>
            intro gk f_ wr hrel J_ K_ hL_l1 hK_
            dsimp only [ov]
            generalize f_ 40 = v40 at hrel ⊢
            generalize f_ 307 = v307 at hrel ⊢
            clear H'
            try clear c1
            try clear c2
            try clear p2
            try clear c4
            try clear c5
            try clear p5
            try clear q5
            try clear hx5
            try clear p6
            try clear c10
            try clear c11
            try clear c13
            try clear c14
            try clear c20
            try clear c21
            try clear c22
            try clear c23
            try clear c24
            try clear c42
            try clear c45
            try clear c47
            try clear c47b0
            try clear c47b1
            try clear c49
            try clear c49b0
            try clear c49b1
            try clear c50
            try clear c50b0
            try clear c50b1
            try clear p56
            try clear q56
            try clear hx56
            try clear p64
            try clear c104
            try clear c106
            try clear c107
            try clear c107b0
            try clear c108
            try clear c108b0
            try clear c109
            try clear c109b0
            try clear c112
            try clear c113
            try clear c113b0
            try clear c114
            try clear c114b0
            try clear c114b1
            try clear c115
            try clear c116
            try clear c116b0
            try clear c116b1
            try clear c118
            try clear c119
            try clear c119b0
            try clear c119b1
            try clear c134
            try clear c134b0
            try clear c134b1
            try clear c135
            try clear c135b0
            try clear c135b1
            try clear c135b2
            try clear c140
            try clear c141
            try clear c146
            try clear hcz120_0
            try clear hcz120_1
            try clear hcz120_2
            try clear hcz120_3
            try clear hcz120_4
            try clear hcz122_0
            try clear hcz122_1
            try clear hcz122_2
            try clear hcz122_3
            try clear hcz122_4
            try clear hcz125_0
            try clear hcz125_1
            try clear hcz125_2
            try clear hcz125_3
            try clear hcz125_4
            try clear hcz127_0
            try clear hcz127_1
            try clear hcz127_2
            try clear hcz127_3
            try clear hcz127_4
            try clear hcz129_0
            try clear hcz129_1
            try clear hcz129_2
            try clear hcz129_3
            try clear hcz129_4
            try clear hcz132_0
            try clear hcz132_1
            try clear hcz132_2
            try clear hcz132_3
            try clear hcz132_4
            try clear hfz120_0
            try clear hfz120_1
            try clear hfz120_2
            try clear hfz120_3
            try clear hfz120_4
            try clear hfz122_0
            try clear hfz122_1
            try clear hfz122_2
            try clear hfz122_3
            try clear hfz122_4
            try clear hfz125_0
            try clear hfz125_1
            try clear hfz125_2
            try clear hfz125_3
            try clear hfz125_4
            try clear hfz127_0
            try clear hfz127_1
            try clear hfz127_2
            try clear hfz127_3
            try clear hfz127_4
            try clear hfz129_0
            try clear hfz129_1
            try clear hfz129_2
            try clear hfz129_3
            try clear hfz129_4
            try clear hfz132_0
            try clear hfz132_1
            try clear hfz132_2
            try clear hfz132_3
            try clear hfz132_4
            try clear hx560_0
            try clear hx565_0
            try clear p2
            try clear p5
            try clear p56
            try clear p560
            try clear p565
            try clear p6
            try clear p64
            try clear q5
            try clear q56
            try clear q560
            try clear q565
            obtain ⟨x40_4, x307_4, rfl, rfl, HA, HK4, HO_8, HO_305, BK521, HB⟩ := hrel
            cases gk with
            | zero => exact absurd HA.out (by simp [laws_FnFirstRuns.l1])
            | succ k4 =>
             have H := HA.out
             clear HA
             simp only [laws_FnFirstRuns.l1] at H
             by_cases c148 : x307_4 < (t530.length : Int)
             ·rw [if_pos c148] at H
              have c148b0 : decide (x307_4 < (t530.length : Int)) = true := decide_eq_true c148
              clear c148
              (first | rw [c148b0] | (simp only [i64_w, i32_w]; rw [c148b0]) | skip)
              by_cases c149 : 0 ≤ x307_4
              ·rw [if_pos c149] at H
               have c149b0 : decide (0 ≤ x307_4) = true := decide_eq_true c149
               clear c149
               by_cases c150 : x307_4 < (t530.length : Int)
               ·rw [if_pos c150] at H
                have c150b0 : decide (x307_4 < (t530.length : Int)) = true := decide_eq_true c150
                clear c150
                by_cases c151 : 0 ≤ t513
                ·rw [if_pos c151] at H
                 have c151b0 := eq_true c151
                 have c151b1 : decide (0 ≤ t513) = true := decide_eq_true c151
                 clear c151
                 obtain ⟨ji152, hji152⟩ : ∃ j_ : Int, (shl .i64 x40_4 t513) = j_ := ⟨_, rfl⟩
                 replace H : (if x307_4 < (t522.length : Int) then ((laws_uAbs.f (wrap64 ((wrap64 ((rd t522 x307_4) * (ji152))) - (rd t530 x307_4)))).bind fun t570 => (if t542 = 0 then (none) else (if t543 = 0 then (none) else (if (wrap64 (Int.tdiv t570 t542)) > (wrap64 ((wrap64 (Int.tdiv (ji152) t543)) + 1)) then (some false) else (if t570 ≤ 1099511627776 then (if (wrap64 (t570 * t543)) > (wrap64 (t542 * (ji152))) then (some false) else (laws_FnFirstRuns.l1 k4 l1 t522 t542 t543 ji152 t530 (t530.length : Int) (wrap64 (x307_4 + 1)) t512 t513 t514 t515 t516)) else (laws_FnFirstRuns.l1 k4 l1 t522 t542 t543 ji152 t530 (t530.length : Int) (wrap64 (x307_4 + 1)) t512 t513 t514 t515 t516)))))) else (none)) = some r := by first | (rw [hji152] at H; exact H) | (simp only [hji152] at H ⊢; exact H)
                 have hji152_ : (IntKind.i64.wrap (x40_4 * 2 ^ min t513.toNat 64)) = ji152 := hji152
                 have hji152z : t513 ≤ 64 → (IntKind.i64.wrap (x40_4 * 2 ^ t513.toNat)) = ji152 := shl_small hji152
                 have hji152y : (wrap64 (x40_4 * 2 ^ min t513.toNat 64)) = ji152 := (i64_w _).symm.trans hji152_
                 have hji152x : t513 ≤ 64 → (wrap64 (x40_4 * 2 ^ t513.toNat)) = ji152 := fun h_ => (i64_w _).symm.trans (hji152z h_)
                 by_cases c153 : x307_4 < (t522.length : Int)
                 ·rw [if_pos c153] at H
                  have c153b0 : decide (x307_4 < (t522.length : Int)) = true := decide_eq_true c153
                  clear c153
                  replace H := Option.bind_eq_some_iff.mp H
                  obtain ⟨t570, A1540, H⟩ := H
                  (try dsimp only at H)
                  have A154 := Aside0.mk A1540
                  clear A1540
                  by_cases c155 : t542 = 0
                  ·rw [if_pos c155] at H
                   exact absurd H (by simp)
                  ·rw [if_neg c155] at H
                   have c155b0 : (t542 == 0) = false := beq_eq_false_iff_ne.mpr c155
                   have c155b1 : (t542 != 0) = true := bne_iff_ne.mpr c155
                   by_cases c156 : t543 = 0
                   ·rw [if_pos c156] at H
                    exact absurd H (by simp)
                   ·rw [if_neg c156] at H
                    have c156b0 : (t543 == 0) = false := beq_eq_false_iff_ne.mpr c156
                    have c156b1 : (t543 != 0) = true := bne_iff_ne.mpr c156
                    by_cases c157 : (wrap64 (Int.tdiv t570 t542)) > (wrap64 ((wrap64 (Int.tdiv (ji152) t543)) + 1))
                    ·rw [if_pos c157] at H
                     have c157b0 : decide ((wrap64 ((wrap64 (Int.tdiv (ji152) t543)) + 1)) < (wrap64 (Int.tdiv t570 t542))) = true := decide_eq_true c157
                     clear c157
                     obtain rfl := Option.some.inj H
                     exact absurd HT.out (by simp)
                    ·rw [if_neg c157] at H
                     have c157b0 : decide ((wrap64 ((wrap64 (Int.tdiv (ji152) t543)) + 1)) < (wrap64 (Int.tdiv t570 t542))) = false := decide_eq_false c157
                     clear c157
                     by_cases c158 : t570 ≤ 1099511627776
                     ·rw [if_pos c158] at H
                      have c158b0 : decide (t570 ≤ 1099511627776) = true := decide_eq_true c158
                      clear c158
                      by_cases c159 : (wrap64 (t570 * t543)) > (wrap64 (t542 * (ji152)))
                      ·rw [if_pos c159] at H
                       have c159b0 : decide ((wrap64 (t542 * (ji152))) < (wrap64 (t570 * t543))) = true := decide_eq_true c159
                       clear c159
                       obtain rfl := Option.some.inj H
                       exact absurd HT.out (by simp)
                      ·rw [if_neg c159] at H
                       have c159b0 : decide ((wrap64 (t542 * (ji152))) < (wrap64 (t570 * t543))) = false := decide_eq_false c159
                       clear c159
                       have H' := Aside0.mk H
                       clear H
                       have p568 : 0 ≤ (x307_4 : Int) := of_decide_eq_true (by first | (with_reducible assumption) | assumption)
                       have q568 : x307_4 < (t530.length : Int) := of_decide_eq_true (by first | (with_reducible assumption) | assumption)
                       obtain ⟨ad568, e568, hx568_0⟩ := Kd.at_int (Kd.R_reads' HO_305.out).2.2 x307_4 p568 q568
                       cases e568
                       replace p568 := eq_true p568
                       replace q568 := eq_true q568
                       obtain ⟨hcz160_0, hcz160_1, hcz160_2, hcz160_3, hcz160_4, hfz160_0, hfz160_1, hfz160_2, hfz160_3, hfz160_4⟩ := cz5 BK521.out
                       obtain ⟨Ao161, co161, eo161⟩ := Kd.R_slice HO_8.out
                       subst eo161
                       have p569 : 0 ≤ (x307_4 : Int) := of_decide_eq_true (by first | (with_reducible assumption) | assumption)
                       have q569 : x307_4 < (t522.length : Int) := of_decide_eq_true (by first | (with_reducible assumption) | assumption)
                       obtain ⟨ad569, e569, hx569_0⟩ := Kd.at_int (Kd.R_reads' HO_8.out).2.2 x307_4 p569 q569
                       cases e569
                       replace p569 := eq_true p569
                       replace q569 := eq_true q569
                       try go_wp2_with (first | ((with_reducible refine gate_callee (f := 25) rfl ?_); refine goesL_ (some 324) rfl rfl Try.func25 (by kernel_rfl) rfl #[.int .i64 (wrap64 ((wrap64 ((rd t522 x307_4) * (ji152))) - (rd t530 x307_4)))] rfl (by (try simp only [List.map_toArray, List.map_cons, List.map_nil]); first | done | (simp only [hji152]; rfl) | rfl | (simp only [List.length_drop, List.length_take]; rfl)) ?_; (with_reducible refine (laws_uAbs.calls (wrap64 ((wrap64 ((rd t522 x307_4) * (ji152))) - (rd t530 x307_4))) t570 _ A154.out).mono ?_); rintro e w' ⟨rfl, ⟨nd, rfl⟩⟩; refine ⟨_, rfl, ?_⟩))
                       (try (rw [drewN_self wr]; generalize hq_ : World.drewN wr _ = wr; have n0_ : Aside0 (Kd.R (Kd.int .i64) 3 wr w.heap.size (fun k_ => some k_ ≠ (.slice (some ad569) t522.length co161 : Value).ownBlock) (.slice (some ad568) t530.length co147) t530) := ⟨by rw [← hq_]; exact (kr HO_305.out)⟩; have n1_ : Aside0 (Kd.R (Kd.int .i64) 3 wr w.heap.size (fun k_ => some k_ ≠ (.slice (some ad568) t530.length co147 : Value).ownBlock) (.slice (some ad569) t522.length co161) t522) := ⟨by rw [← hq_]; exact (kr HO_8.out)⟩; have n2_ : Aside0 (wr.heap[gb521]? = some (.cells #[.int .i64 t512, .int .i64 t513, .int .i64 t514, .int .i64 t515, .bool t516] 27 (0, 0))) := ⟨by rw [← hq_]; exact (kb BK521.out)⟩; have n3_ : Aside0 (Below w.heap.size w wr) := ⟨by rw [← hq_]; exact (bl1 HB.out GE521.out)⟩; clear HO_305 HO_8 BK521 HB hq_; have HO_305 := n0_; have HO_8 := n1_; have BK521 := n2_; have HB := n3_; clear n0_ n1_ n2_ n3_))
                       have n0_ := Aside0.mk (Kd.R_drew HO_8.out)
                       have n1_ := Aside0.mk (Kd.R_drew HO_305.out)
                       have n2_ := Aside0.mk (blk_drew BK521.out)
                       have n3_ := Aside0.mk (below_drew1 HB.out)
                       clear HO_8
                       clear HO_305
                       clear BK521
                       clear HB
                       have HO_8 := n0_
                       have HO_305 := n1_
                       have BK521 := n2_
                       have HB := n3_
                       clear n0_ n1_ n2_ n3_
                       refine start_ (n := 21) (S := fun w' => True) (ds := []) (bm 21 0) (by kernel_rfl) rfl rfl trivial (fun hHeld => ?_); refine with_tabW laws_FnFirstRuns.tab41 laws_FnFirstRuns.bits41 (fun HT_ HW_ => ?_)
                       generalize wr.drew = w162 at HO_8 HO_305 BK521 HB hHeld ⊢
                       refine pureT_ 0 325 (bm 21 1) HT_.out ?_
                       refine pureT_ 1 326 (bm 21 3) HT_.out ?_
                       refine pureT_ 2 327 (bm 21 7) HT_.out ?_
                       refine pureT_ 3 328 (bm 21 15) HT_.out ?_
                       refine pureT_ 4 329 (bm 21 31) HT_.out ?_
                       refine pureT_ 5 330 (bm 21 63) HT_.out ?_
                       refine pureT_ 6 331 (bm 21 127) HT_.out ?_
                       refine pureT_ 7 332 (bm 21 255) HT_.out ?_
                       refine pureT_ 8 333 (bm 21 511) HT_.out ?_
                       refine pureT_ 9 334 (bm 21 1023) HT_.out ?_
                       refine pureT_ 10 335 (bm 21 2047) HT_.out ?_
                       refine pureT_ 11 336 (bm 21 4095) HT_.out ?_
                       refine pureT_ 12 337 (bm 21 8191) HT_.out ?_
                       refine pureT_ 13 338 (bm 21 16383) HT_.out ?_
                       refine pureT_ 14 339 (bm 21 32767) HT_.out ?_
                       refine pureT_ 15 340 (bm 21 65535) HT_.out ?_
                       refine pureT_ 16 341 (bm 21 131071) HT_.out ?_
                       refine pureT_ 17 342 (bm 21 262143) HT_.out ?_
                       refine pureT_ 18 343 (bm 21 524287) HT_.out ?_
                       refine pureT_ 19 344 (bm 21 1048575) HT_.out ?_
                       refine pureT_ 20 345 (bm 21 2097151) HT_.out ?_
                       refine done_ (done_of HT_.out (by kernel_rfl)) ?_
                       try go_wp2
                       refine handF k4 ?measure_z163 hL_l1 (by kernel_rfl) (by kernel_rfl) ?rel_z163
                       case measure_z163 => have := HJ15.out; have := HJ104.out; have := HJ138.out; have := HK4.out; omega
                       case rel_z163 => (try simp only [List.getD_cons_succ, List.getD_cons_zero]); exact ⟨(ji152), (wrap64 (x307_4 + 1)), (by first | rfl | (simp; done) | (simp only [← hji152] <;> (first | rfl | simp)) | (simp [*]; done)), (by first | rfl | (simp; done) | (simp [*]; done)), H', ⟨by have := HJ15.out; have := HJ104.out; have := HJ138.out; have := HK4.out; omega⟩, ⟨kr HO_8.out⟩, ⟨kr HO_305.out⟩, ⟨kb BK521.out⟩, ⟨bl1 HB.out GE521.out⟩⟩
                     ·rw [if_neg c158] at H
                      have c158b0 : decide (t570 ≤ 1099511627776) = false := decide_eq_false c158
                      clear c158
                      have H' := Aside0.mk H
                      clear H
                      have p568 : 0 ≤ (x307_4 : Int) := of_decide_eq_true (by first | (with_reducible assumption) | assumption)
                      have q568 : x307_4 < (t530.length : Int) := of_decide_eq_true (by first | (with_reducible assumption) | assumption)
                      obtain ⟨ad568, e568, hx568_0⟩ := Kd.at_int (Kd.R_reads' HO_305.out).2.2 x307_4 p568 q568
                      cases e568
                      replace p568 := eq_true p568
                      replace q568 := eq_true q568
                      obtain ⟨hcz164_0, hcz164_1, hcz164_2, hcz164_3, hcz164_4, hfz164_0, hfz164_1, hfz164_2, hfz164_3, hfz164_4⟩ := cz5 BK521.out
                      obtain ⟨Ao165, co165, eo165⟩ := Kd.R_slice HO_8.out
                      subst eo165
                      have p569 : 0 ≤ (x307_4 : Int) := of_decide_eq_true (by first | (with_reducible assumption) | assumption)
                      have q569 : x307_4 < (t522.length : Int) := of_decide_eq_true (by first | (with_reducible assumption) | assumption)
                      obtain ⟨ad569, e569, hx569_0⟩ := Kd.at_int (Kd.R_reads' HO_8.out).2.2 x307_4 p569 q569
                      cases e569
                      replace p569 := eq_true p569
                      replace q569 := eq_true q569
                      try go_wp2_with (first | ((with_reducible refine gate_callee (f := 25) rfl ?_); refine goesL_ (some 324) rfl rfl Try.func25 (by kernel_rfl) rfl #[.int .i64 (wrap64 ((wrap64 ((rd t522 x307_4) * (ji152))) - (rd t530 x307_4)))] rfl (by (try simp only [List.map_toArray, List.map_cons, List.map_nil]); first | done | (simp only [hji152]; rfl) | rfl | (simp only [List.length_drop, List.length_take]; rfl)) ?_; (with_reducible refine (laws_uAbs.calls (wrap64 ((wrap64 ((rd t522 x307_4) * (ji152))) - (rd t530 x307_4))) t570 _ A154.out).mono ?_); rintro e w' ⟨rfl, ⟨nd, rfl⟩⟩; refine ⟨_, rfl, ?_⟩))
                      (try (rw [drewN_self wr]; generalize hq_ : World.drewN wr _ = wr; have n0_ : Aside0 (Kd.R (Kd.int .i64) 3 wr w.heap.size (fun k_ => some k_ ≠ (.slice (some ad569) t522.length co165 : Value).ownBlock) (.slice (some ad568) t530.length co147) t530) := ⟨by rw [← hq_]; exact (kr HO_305.out)⟩; have n1_ : Aside0 (Kd.R (Kd.int .i64) 3 wr w.heap.size (fun k_ => some k_ ≠ (.slice (some ad568) t530.length co147 : Value).ownBlock) (.slice (some ad569) t522.length co165) t522) := ⟨by rw [← hq_]; exact (kr HO_8.out)⟩; have n2_ : Aside0 (wr.heap[gb521]? = some (.cells #[.int .i64 t512, .int .i64 t513, .int .i64 t514, .int .i64 t515, .bool t516] 27 (0, 0))) := ⟨by rw [← hq_]; exact (kb BK521.out)⟩; have n3_ : Aside0 (Below w.heap.size w wr) := ⟨by rw [← hq_]; exact (bl1 HB.out GE521.out)⟩; clear HO_305 HO_8 BK521 HB hq_; have HO_305 := n0_; have HO_8 := n1_; have BK521 := n2_; have HB := n3_; clear n0_ n1_ n2_ n3_))
                      have n0_ := Aside0.mk (Kd.R_drew HO_8.out)
                      have n1_ := Aside0.mk (Kd.R_drew HO_305.out)
                      have n2_ := Aside0.mk (blk_drew BK521.out)
                      have n3_ := Aside0.mk (below_drew1 HB.out)
                      clear HO_8
                      clear HO_305
                      clear BK521
                      clear HB
                      have HO_8 := n0_
                      have HO_305 := n1_
                      have BK521 := n2_
                      have HB := n3_
                      clear n0_ n1_ n2_ n3_
                      refine start_ (n := 21) (S := fun w' => True) (ds := []) (bm 21 0) (by kernel_rfl) rfl rfl trivial (fun hHeld => ?_); refine with_tabW laws_FnFirstRuns.tab41 laws_FnFirstRuns.bits41 (fun HT_ HW_ => ?_)
                      generalize wr.drew = w166 at HO_8 HO_305 BK521 HB hHeld ⊢
                      refine pureT_ 0 325 (bm 21 1) HT_.out ?_
                      refine pureT_ 1 326 (bm 21 3) HT_.out ?_
                      refine pureT_ 2 327 (bm 21 7) HT_.out ?_
                      refine pureT_ 3 328 (bm 21 15) HT_.out ?_
                      refine pureT_ 4 329 (bm 21 31) HT_.out ?_
                      refine pureT_ 5 330 (bm 21 63) HT_.out ?_
                      refine pureT_ 6 331 (bm 21 127) HT_.out ?_
                      refine pureT_ 7 332 (bm 21 255) HT_.out ?_
                      refine pureT_ 8 333 (bm 21 511) HT_.out ?_
                      refine pureT_ 9 334 (bm 21 1023) HT_.out ?_
                      refine pureT_ 10 335 (bm 21 2047) HT_.out ?_
                      refine pureT_ 11 336 (bm 21 4095) HT_.out ?_
                      refine pure_ (i := 12) (N := some 337) (v := undef) (a' := ?_) (bm 21 8191) rfl rfl (any_of HT_.out (by kernel_rfl)) (fun _ _ _ h => h) (Or.inr ⟨by rfl, rfl⟩) ?_ ?_
                      rotate_left
                      ·simp only [Act.put, List.setIfInBounds_toArray, List.set_cons_zero, List.set_cons_succ, i64_w, i32_w]
                       rfl
                      refine pure_ (i := 13) (N := some 338) (v := undef) (a' := ?_) (bm 21 16383) rfl rfl (any_of HT_.out (by kernel_rfl)) (fun _ _ _ h => h) (Or.inr ⟨by rfl, rfl⟩) ?_ ?_
                      rotate_left
                      ·simp only [Act.put, List.setIfInBounds_toArray, List.set_cons_zero, List.set_cons_succ, i64_w, i32_w]
                       rfl
                      refine pure_ (i := 14) (N := some 339) (v := undef) (a' := ?_) (bm 21 32767) rfl rfl (any_of HT_.out (by kernel_rfl)) (fun _ _ _ h => h) (Or.inr ⟨by rfl, rfl⟩) ?_ ?_
                      rotate_left
                      ·simp only [Act.put, List.setIfInBounds_toArray, List.set_cons_zero, List.set_cons_succ, i64_w, i32_w]
                       rfl
                      refine pure_ (i := 15) (N := some 340) (v := undef) (a' := ?_) (bm 21 65535) rfl rfl (any_of HT_.out (by kernel_rfl)) (fun _ _ _ h => h) (Or.inr ⟨by rfl, rfl⟩) ?_ ?_
                      rotate_left
                      ·simp only [Act.put, List.setIfInBounds_toArray, List.set_cons_zero, List.set_cons_succ, i64_w, i32_w]
                       rfl
                      refine pure_ (i := 16) (N := some 341) (v := undef) (a' := ?_) (bm 21 131071) rfl rfl (any_of HT_.out (by kernel_rfl)) (fun _ _ _ h => h) (Or.inr ⟨by rfl, rfl⟩) ?_ ?_
                      rotate_left
                      ·simp only [Act.put, List.setIfInBounds_toArray, List.set_cons_zero, List.set_cons_succ, i64_w, i32_w]
                       rfl
                      refine pure_ (i := 17) (N := some 342) (v := undef) (a' := ?_) (bm 21 262143) rfl rfl (any_of HT_.out (by kernel_rfl)) (fun _ _ _ h => h) (Or.inr ⟨by rfl, rfl⟩) ?_ ?_
                      rotate_left
                      ·simp only [Act.put, List.setIfInBounds_toArray, List.set_cons_zero, List.set_cons_succ, i64_w, i32_w]
                       rfl
                      refine pure_ (i := 18) (N := some 343) (v := undef) (a' := ?_) (bm 21 524287) rfl rfl (any_of HT_.out (by kernel_rfl)) (fun _ _ _ h => h) (Or.inr ⟨by rfl, rfl⟩) ?_ ?_
                      rotate_left
                      ·simp only [Act.put, List.setIfInBounds_toArray, List.set_cons_zero, List.set_cons_succ, i64_w, i32_w]
                       rfl
                      refine pureT_ 19 344 (bm 21 1048575) HT_.out ?_
                      refine pureT_ 20 345 (bm 21 2097151) HT_.out ?_
                      refine done_ (done_of HT_.out (by kernel_rfl)) ?_
                      try go_wp2
                      refine handF k4 ?measure_z167 hL_l1 (by kernel_rfl) (by kernel_rfl) ?rel_z167
                      case measure_z167 => have := HJ15.out; have := HJ104.out; have := HJ138.out; have := HK4.out; omega
                      case rel_z167 => (try simp only [List.getD_cons_succ, List.getD_cons_zero]); exact ⟨(ji152), (wrap64 (x307_4 + 1)), (by first | rfl | (simp; done) | (simp only [← hji152] <;> (first | rfl | simp)) | (simp [*]; done)), (by first | rfl | (simp; done) | (simp [*]; done)), H', ⟨by have := HJ15.out; have := HJ104.out; have := HJ138.out; have := HK4.out; omega⟩, ⟨kr HO_8.out⟩, ⟨kr HO_305.out⟩, ⟨kb BK521.out⟩, ⟨bl1 HB.out GE521.out⟩⟩
                 ·rw [if_neg c153] at H
                  exact absurd H (by simp)
                ·rw [if_neg c151] at H
                 exact absurd H (by simp)
               ·rw [if_neg c150] at H
                exact absurd H (by simp)
              ·rw [if_neg c149] at H
               exact absurd H (by simp)
             ·rw [if_neg c148] at H
              have c148b0 : decide (x307_4 < (t530.length : Int)) = false := decide_eq_false c148
              clear c148
              (first | rw [c148b0] | (simp only [i64_w, i32_w]; rw [c148b0]) | skip)
              have H' := Aside0.mk H
              clear H
              go_wp2
              refine meetF hJ_j5 (by kernel_rfl) (by kernel_rfl) ?rel_z168
              case rel_z168 => (try simp only [List.getD_cons_succ, List.getD_cons_zero]); exact ⟨_, H', ⟨by have := HJ15.out; have := HJ104.out; have := HJ138.out; have := HK4.out; first | omega | exact Nat.le_refl _⟩, ⟨kb BK521.out⟩, ⟨bl1 HB.out GE521.out⟩⟩
          ·replace c146 := Bool.eq_false_iff.mpr c146
           subst c146
           rw [if_neg (show ¬ (false = true) by decide)] at H
           have H' := Aside0.mk H
           clear H
           go_wp2
           refine meetF hJ_j5 (by kernel_rfl) (by kernel_rfl) ?rel_z169
           case rel_z169 => (try simp only [List.getD_cons_succ, List.getD_cons_zero]); exact ⟨_, H', ⟨by have := HJ15.out; have := HJ104.out; have := HJ138.out; first | omega | exact Nat.le_refl _⟩, ⟨kb BK521.out⟩, ⟨bl1 HB.out GE521.out⟩⟩
         case rest_j5 => as_aux_lemma =>
          intro f_ wc hcut
          dsimp only [ov]
          clear HC145
          try clear c1
          try clear c2
          try clear p2
          try clear p5
          try clear q5
          try clear hx5
          try clear p6
          try clear c11
          try clear c13
          try clear c14
          try clear c15
          try clear c25
          try clear p56
          try clear q56
          try clear hx56
          try clear p64
          try clear c118
          try clear c119
          try clear c119b0
          try clear c119b1
          try clear c134
          try clear c134b0
          try clear c134b1
          try clear c135
          try clear c135b0
          try clear c135b1
          try clear c135b2
          try clear c140
          try clear c141
          try clear c146
          try clear c148
          try clear c148b0
          try clear c149
          try clear c149b0
          try clear c150
          try clear c150b0
          try clear c151
          try clear c151b0
          try clear c151b1
          try clear c153
          try clear c153b0
          try clear c155
          try clear c155b0
          try clear c155b1
          try clear c156
          try clear c156b0
          try clear c156b1
          try clear c157
          try clear c157b0
          try clear c158
          try clear c158b0
          try clear c159
          try clear c159b0
          try clear hcz120_0
          try clear hcz120_1
          try clear hcz120_2
          try clear hcz120_3
          try clear hcz120_4
          try clear hcz122_0
          try clear hcz122_1
          try clear hcz122_2
          try clear hcz122_3
          try clear hcz122_4
          try clear hcz125_0
          try clear hcz125_1
          try clear hcz125_2
          try clear hcz125_3
          try clear hcz125_4
          try clear hcz127_0
          try clear hcz127_1
          try clear hcz127_2
          try clear hcz127_3
          try clear hcz127_4
          try clear hcz129_0
          try clear hcz129_1
          try clear hcz129_2
          try clear hcz129_3
          try clear hcz129_4
          try clear hcz132_0
          try clear hcz132_1
          try clear hcz132_2
          try clear hcz132_3
          try clear hcz132_4
          try clear hcz160_0
          try clear hcz160_1
          try clear hcz160_2
          try clear hcz160_3
          try clear hcz160_4
          try clear hcz164_0
          try clear hcz164_1
          try clear hcz164_2
          try clear hcz164_3
          try clear hcz164_4
          try clear hfz120_0
          try clear hfz120_1
          try clear hfz120_2
          try clear hfz120_3
          try clear hfz120_4
          try clear hfz122_0
          try clear hfz122_1
          try clear hfz122_2
          try clear hfz122_3
          try clear hfz122_4
          try clear hfz125_0
          try clear hfz125_1
          try clear hfz125_2
          try clear hfz125_3
          try clear hfz125_4
          try clear hfz127_0
          try clear hfz127_1
          try clear hfz127_2
          try clear hfz127_3
          try clear hfz127_4
          try clear hfz129_0
          try clear hfz129_1
          try clear hfz129_2
          try clear hfz129_3
          try clear hfz129_4
          try clear hfz132_0
          try clear hfz132_1
          try clear hfz132_2
          try clear hfz132_3
          try clear hfz132_4
          try clear hfz160_0
          try clear hfz160_1
          try clear hfz160_2
          try clear hfz160_3
          try clear hfz160_4
          try clear hfz164_0
          try clear hfz164_1
          try clear hfz164_2
          try clear hfz164_3
          try clear hfz164_4
          try clear hx560_0
          try clear hx565_0
          try clear hx568_0
          try clear hx569_0
          try clear p2
          try clear p5
          try clear p56
          try clear p560
          try clear p565
          try clear p568
          try clear p569
          try clear p6
          try clear p64
          try clear q5
          try clear q56
          try clear q560
          try clear q565
          try clear q568
          try clear q569
          obtain ⟨kq, HA, HJ144, BK521, HB⟩ := hcut
          cases kq with
          | zero => exact absurd HA.out (by simp [laws_FnFirstRuns.j5])
          | succ kj144 =>
           have H := HA.out
           clear HA
           simp only [laws_FnFirstRuns.j5] at H
           replace H := Option.bind_eq_some_iff.mp H
           obtain ⟨⟨t571, t572, t573, t574, t575, t576, t577⟩, A1700, H⟩ := H
           (try dsimp only at H)
           have A170 := Aside0.mk A1700
           clear A1700
           replace H := Option.bind_eq_some_iff.mp H
           obtain ⟨⟨t579, t582⟩, A1710, H⟩ := H
           (try dsimp only at H)
           have A171 := Aside0.mk A1710
           clear A1710
           replace H := Option.bind_eq_some_iff.mp H
           obtain ⟨⟨t583, t586⟩, A1720, H⟩ := H
           (try dsimp only at H)
           have A172 := Aside0.mk A1720
           clear A1720
           replace H := Option.bind_eq_some_iff.mp H
           obtain ⟨⟨t587, t588, t589, t590, t591, t592, t593⟩, A1730, H⟩ := H
           (try dsimp only at H)
           have A173 := Aside0.mk A1730
           clear A1730
           replace H := Option.bind_eq_some_iff.mp H
           obtain ⟨⟨t595, t596⟩, A1740, H⟩ := H
           (try dsimp only at H)
           have A174 := Aside0.mk A1740
           clear A1740
           replace H := Option.bind_eq_some_iff.mp H
           obtain ⟨⟨t597, t598⟩, A1750, H⟩ := H
           (try dsimp only at H)
           have A175 := Aside0.mk A1750
           clear A1750
           by_cases c176 : (t582 != t586) = true
           ·rw [if_pos c176] at H
            have c176b0 : (t582 != t586) = true := c176
            (try (have c176b1 : decide (t582 = t586) = false := by simpa using c176))
            (try (have c176b2 : (t582 == t586) = false := by simpa using c176))
            (try (have c176b3 : ¬ (t582 = t586) := by simpa using c176))
            clear c176
            obtain rfl := Option.some.inj H
            exact absurd HT.out (by simp)
           ·rw [if_neg c176] at H
            have c176b0 : (t582 != t586) = false := by simpa using c176
            (try (have c176b1 : decide (t582 = t586) = true := by simpa using c176))
            (try (have c176b2 : (t582 == t586) = true := by simpa using c176))
            clear c176
            replace H := Option.bind_eq_some_iff.mp H
            obtain ⟨t599, A1770, H⟩ := H
            (try dsimp only at H)
            have A177 := Aside0.mk A1770
            clear A1770
            by_cases c178 : t599 = true
            ·subst c178
             rw [if_pos rfl] at H
             by_cases c179 : (t596 != t598) = true
             ·rw [if_pos c179] at H
              have c179b0 : (t596 != t598) = true := c179
              (try (have c179b1 : decide (t596 = t598) = false := by simpa using c179))
              (try (have c179b2 : (t596 == t598) = false := by simpa using c179))
              (try (have c179b3 : ¬ (t596 = t598) := by simpa using c179))
              clear c179
              obtain rfl := Option.some.inj H
              exact absurd HT.out (by simp)
             ·rw [if_neg c179] at H
              have c179b0 : (t596 != t598) = false := by simpa using c179
              (try (have c179b1 : decide (t596 = t598) = true := by simpa using c179))
              (try (have c179b2 : (t596 == t598) = true := by simpa using c179))
              clear c179
              by_cases c180 : t595 = t597
              ·rw [if_pos c180] at H
               have c180b0 : (t595 == t597) = true := beq_iff_eq.mpr c180
               have c180b1 : (t595 != t597) = false := bne_eq_false_iff_eq.mpr c180
               clear c180
               have HC181 := Aside0.mk H
               clear H
               go_upto_region 52 with (first | ((with_reducible refine gate_callee (f := 26) rfl ?_); refine goesLS_ (some 349) Try.func26 #[.slice A1 l1.length c1] ?_; (with_reducible refine (spec_DrawImpulseOf.calls _ _ l1 t571 t572 t573 t574 t575 t576 t577 _ ?side1 ?side2 A170.out).mono ?_); (case side1 => repeat (first | exact (Kd.C_below HR1.out HB.out) | (with_reducible refine Kd.C_alloc ?_ _) | (with_reducible refine Kd.C_drewN ?_ _) | (with_reducible refine Kd.C_drew ?_))); (case side2 => exact HC1.out); rintro e w182 ⟨rfl, hb⟩; refine ⟨_, rfl, ?_⟩; have n0_ := Aside0.mk (blk_below (g := gb521) (o := .cells #[.int .i64 t512, .int .i64 t513, .int .i64 t514, .int .i64 t515, .bool t516] 27 (0, 0)) (kb BK521.out) hb); have n1_ := Aside0.mk (below_step (bl1 HB.out GE521.out) hb); clear BK521; clear HB; have BK521 := n0_; have HB := n1_; clear n0_ n1_; (try clear hb); (try clear hb2); (try clear hk); (try clear hi)) | ((with_reducible refine gate_dst (N := 44) rfl ?_); (try (refine gate_guard (by rfl) ?_; dsimp only)); refine boxS_ 44 (#[.int .i64 0, .int .i64 0, .int .i64 0, .int .i64 0, .bool false]) 27 ?_; intro gb578 hg w183 hbox hb; have n0_ := Aside0.mk (blk_below (g := gb521) (o := .cells #[.int .i64 t512, .int .i64 t513, .int .i64 t514, .int .i64 t515, .bool t516] 27 (0, 0)) (kb BK521.out) hb); have n1_ := Aside0.mk (below_step (bl1 HB.out GE521.out) hb); have n2_ := Aside0.mk (hbox); have n3_ := Aside0.mk ((by rw [hg]; exact (below_size (bl1 HB.out GE521.out)) : w.heap.size ≤ gb578)); have n4_ := Aside0.mk ((by rw [hg]; exact (below_size (bl1 HB.out GE521.out)) : w.heap.size ≤ gb578)); have n5_ := Aside0.mk ((by rw [hg]; exact Nat.ne_of_lt (blk_lt (g := gb521) (o := .cells #[.int .i64 t512, .int .i64 t513, .int .i64 t514, .int .i64 t515, .bool t516] 27 (0, 0)) (kb BK521.out)) : gb521 ≠ gb578)); have n6_ := Aside0.mk ((by rw [hg]; exact Nat.ne_of_gt (blk_lt (g := gb521) (o := .cells #[.int .i64 t512, .int .i64 t513, .int .i64 t514, .int .i64 t515, .bool t516] 27 (0, 0)) (kb BK521.out)) : gb578 ≠ gb521)); clear BK521; clear HB; have BK521 := n0_; have HB := n1_; have BK578 := n2_; have GW578 := n3_; have GE578 := n4_; have NB521_578 := n5_; have NB578_521 := n6_; clear n0_ n1_ n2_ n3_ n4_ n5_ n6_; clear hb hbox hg; have hnb184 := NB578_521.out; have hnc184 := NB521_578.out; obtain ⟨hcz185_0, hcz185_1, hcz185_2, hcz185_3, hcz185_4, hfz185_0, hfz185_1, hfz185_2, hfz185_3, hfz185_4⟩ := cz5 BK578.out) | ((with_reducible refine gate_callee (f := 27) rfl ?_); refine goesLS_ (some 357) Try.func27 #[.agg #[.int .i64 t571, .int .i64 t572, .int .i64 t573, .int .i64 t574, .bool t575], .int .i64 t576, .int .i64 t577] ?_; (with_reducible refine (impl_ImpulseOf.calls kj144 t571 t572 t573 t574 t575 t576 t577 t579 t582 _ A171.out).mono ?_); rintro e w186 ⟨v580, rfl, ho0, hb⟩; refine ⟨_, rfl, ?_⟩; have n0_ := Aside0.mk (Kd.R_lower ho0 (below_size (bl2 HB.out GE521.out GE578.out))); have n1_ := Aside0.mk (blk_below (g := gb521) (o := .cells #[.int .i64 t512, .int .i64 t513, .int .i64 t514, .int .i64 t515, .bool t516] 27 (0, 0)) (by (with_reducible repeat (first | refine blk_drewN ?_ _ | refine blk_drew ?_ | refine blk_alloc ?_ _)); refine blk_far ?_ NB521_578.out _; (with_reducible repeat (first | refine blk_drewN ?_ _ | refine blk_drew ?_ | refine blk_alloc ?_ _)); refine blk_far ?_ NB521_578.out _; (with_reducible repeat (first | refine blk_drewN ?_ _ | refine blk_drew ?_ | refine blk_alloc ?_ _)); refine blk_far ?_ NB521_578.out _; (with_reducible repeat (first | refine blk_drewN ?_ _ | refine blk_drew ?_ | refine blk_alloc ?_ _)); refine blk_far ?_ NB521_578.out _; (with_reducible repeat (first | refine blk_drewN ?_ _ | refine blk_drew ?_ | refine blk_alloc ?_ _)); refine blk_far ?_ NB521_578.out _; (with_reducible repeat (first | refine blk_drewN ?_ _ | refine blk_drew ?_ | refine blk_alloc ?_ _)); exact BK521.out) hb); have n2_ := Aside0.mk (blk_below (g := gb578) (o := .cells #[.int .i64 t571, .int .i64 t572, .int .i64 t573, .int .i64 t574, .bool t575] 27 (0, 0)) (by (with_reducible repeat (first | refine blk_drewN ?_ _ | refine blk_drew ?_ | refine blk_alloc ?_ _)); refine blk_put (cs := #[.int .i64 t571, .int .i64 t572, .int .i64 t573, .int .i64 t574, .bool false]) ?_ 4 _ rfl; (with_reducible repeat (first | refine blk_drewN ?_ _ | refine blk_drew ?_ | refine blk_alloc ?_ _)); refine blk_put (cs := #[.int .i64 t571, .int .i64 t572, .int .i64 t573, .int .i64 0, .bool false]) ?_ 3 _ rfl; (with_reducible repeat (first | refine blk_drewN ?_ _ | refine blk_drew ?_ | refine blk_alloc ?_ _)); refine blk_put (cs := #[.int .i64 t571, .int .i64 t572, .int .i64 0, .int .i64 0, .bool false]) ?_ 2 _ rfl; (with_reducible repeat (first | refine blk_drewN ?_ _ | refine blk_drew ?_ | refine blk_alloc ?_ _)); refine blk_put (cs := #[.int .i64 t571, .int .i64 0, .int .i64 0, .int .i64 0, .bool false]) ?_ 1 _ rfl; (with_reducible repeat (first | refine blk_drewN ?_ _ | refine blk_drew ?_ | refine blk_alloc ?_ _)); refine blk_put (cs := #[.int .i64 0, .int .i64 0, .int .i64 0, .int .i64 0, .bool false]) ?_ 0 _ rfl; (with_reducible repeat (first | refine blk_drewN ?_ _ | refine blk_drew ?_ | refine blk_alloc ?_ _)); exact BK578.out) hb); have n3_ := Aside0.mk (below_step (bl2 HB.out GE521.out GE578.out) hb); clear BK521; clear BK578; clear HB; have HO581 := n0_; have BK521 := n1_; have BK578 := n2_; have HB := n3_; clear n0_ n1_ n2_ n3_; (try clear hb); (try clear hb2); (try clear hk); (try clear hi); (try clear ho0); obtain ⟨hcz187_0, hcz187_1, hcz187_2, hcz187_3, hcz187_4, hfz187_0, hfz187_1, hfz187_2, hfz187_3, hfz187_4⟩ := cz5 BK578.out) | ((with_reducible refine gate_callee (f := 28) rfl ?_); refine goesLS_ (some 364) Try.func28 #[.agg #[.int .i64 t571, .int .i64 t572, .int .i64 t573, .int .i64 t574, .bool t575], .int .i64 t576, .int .i64 t577] ?_; (with_reducible refine (spec_ImpulseOf.calls kj144 t571 t572 t573 t574 t575 t576 t577 t583 t586 _ A172.out).mono ?_); rintro e w188 ⟨v584, rfl, ho0, hb⟩; refine ⟨_, rfl, ?_⟩; have n0_ := Aside0.mk (Kd.R_elder' (kr HO581.out) (Kd.R_base ho0) hb); have n1_ := Aside0.mk (Kd.R_lower (Kd.R_new' ho0 (Kd.R_lt (kr HO581.out))) (below_size (bl2 HB.out GE521.out GE578.out))); have n2_ := Aside0.mk (blk_below (g := gb521) (o := .cells #[.int .i64 t512, .int .i64 t513, .int .i64 t514, .int .i64 t515, .bool t516] 27 (0, 0)) (kb BK521.out) hb); have n3_ := Aside0.mk (blk_below (g := gb578) (o := .cells #[.int .i64 t571, .int .i64 t572, .int .i64 t573, .int .i64 t574, .bool t575] 27 (0, 0)) (kb BK578.out) hb); have n4_ := Aside0.mk (below_step (bl2 HB.out GE521.out GE578.out) hb); clear HO581; clear BK521; clear BK578; clear HB; have HO581 := n0_; have HO585 := n1_; have BK521 := n2_; have BK578 := n3_; have HB := n4_; clear n0_ n1_ n2_ n3_ n4_; (try clear hb); (try clear hb2); (try clear hk); (try clear hi); (try clear ho0)) | ((with_reducible refine gate_callee (f := 29) rfl ?_); refine goesLS_ (some 369) Try.func29 #[.slice A1 l1.length c1] ?_; (with_reducible refine (spec_DrawFirstStep.calls kj144 _ _ l1 t587 t588 t589 t590 t591 t592 t593 _ ?side1 ?side2 A173.out).mono ?_); (case side1 => repeat (first | exact (Kd.C_below HR1.out HB.out) | (with_reducible refine Kd.C_alloc ?_ _) | (with_reducible refine Kd.C_drewN ?_ _) | (with_reducible refine Kd.C_drew ?_))); (case side2 => exact HC1.out); rintro e w189 ⟨rfl, hb⟩; refine ⟨_, rfl, ?_⟩; have n0_ := Aside0.mk (Kd.R_below (kr HO581.out) hb); have n1_ := Aside0.mk (Kd.R_below (kr HO585.out) hb); have n2_ := Aside0.mk (blk_below (g := gb521) (o := .cells #[.int .i64 t512, .int .i64 t513, .int .i64 t514, .int .i64 t515, .bool t516] 27 (0, 0)) (kb BK521.out) hb); have n3_ := Aside0.mk (blk_below (g := gb578) (o := .cells #[.int .i64 t571, .int .i64 t572, .int .i64 t573, .int .i64 t574, .bool t575] 27 (0, 0)) (kb BK578.out) hb); have n4_ := Aside0.mk (below_step (bl2 HB.out GE521.out GE578.out) hb); clear HO581; clear HO585; clear BK521; clear BK578; clear HB; have HO581 := n0_; have HO585 := n1_; have BK521 := n2_; have BK578 := n3_; have HB := n4_; clear n0_ n1_ n2_ n3_ n4_; (try clear hb); (try clear hb2); (try clear hk); (try clear hi)) | ((with_reducible refine gate_dst (N := 51) rfl ?_); (try (refine gate_guard (by rfl) ?_; dsimp only)); refine boxS_ 51 (#[.int .i64 0, .int .i64 0, .int .i64 0, .int .i64 0, .bool false]) 27 ?_; intro gb594 hg w190 hbox hb; have n0_ := Aside0.mk (Kd.R_below (kr HO581.out) hb); have n1_ := Aside0.mk (Kd.R_below (kr HO585.out) hb); have n2_ := Aside0.mk (blk_below (g := gb521) (o := .cells #[.int .i64 t512, .int .i64 t513, .int .i64 t514, .int .i64 t515, .bool t516] 27 (0, 0)) (kb BK521.out) hb); have n3_ := Aside0.mk (blk_below (g := gb578) (o := .cells #[.int .i64 t571, .int .i64 t572, .int .i64 t573, .int .i64 t574, .bool t575] 27 (0, 0)) (kb BK578.out) hb); have n4_ := Aside0.mk (below_step (bl2 HB.out GE521.out GE578.out) hb); have n5_ := Aside0.mk (hbox); have n6_ := Aside0.mk ((by rw [hg]; exact (below_size (bl2 HB.out GE521.out GE578.out)) : w.heap.size ≤ gb594)); have n7_ := Aside0.mk ((by rw [hg]; exact (below_size (bl2 HB.out GE521.out GE578.out)) : w.heap.size ≤ gb594)); have n8_ := Aside0.mk ((by rw [hg]; exact Nat.ne_of_lt (blk_lt (g := gb521) (o := .cells #[.int .i64 t512, .int .i64 t513, .int .i64 t514, .int .i64 t515, .bool t516] 27 (0, 0)) (kb BK521.out)) : gb521 ≠ gb594)); have n9_ := Aside0.mk ((by rw [hg]; exact Nat.ne_of_gt (blk_lt (g := gb521) (o := .cells #[.int .i64 t512, .int .i64 t513, .int .i64 t514, .int .i64 t515, .bool t516] 27 (0, 0)) (kb BK521.out)) : gb594 ≠ gb521)); have n10_ := Aside0.mk ((by rw [hg]; exact Nat.ne_of_lt (blk_lt (g := gb578) (o := .cells #[.int .i64 t571, .int .i64 t572, .int .i64 t573, .int .i64 t574, .bool t575] 27 (0, 0)) (kb BK578.out)) : gb578 ≠ gb594)); have n11_ := Aside0.mk ((by rw [hg]; exact Nat.ne_of_gt (blk_lt (g := gb578) (o := .cells #[.int .i64 t571, .int .i64 t572, .int .i64 t573, .int .i64 t574, .bool t575] 27 (0, 0)) (kb BK578.out)) : gb594 ≠ gb578)); clear HO581; clear HO585; clear BK521; clear BK578; clear HB; have HO581 := n0_; have HO585 := n1_; have BK521 := n2_; have BK578 := n3_; have HB := n4_; have BK594 := n5_; have GW594 := n6_; have GE594 := n7_; have NB521_594 := n8_; have NB594_521 := n9_; have NB578_594 := n10_; have NB594_578 := n11_; clear n0_ n1_ n2_ n3_ n4_ n5_ n6_ n7_ n8_ n9_ n10_ n11_; clear hb hbox hg; have hnb191 := NB594_521.out; have hnc191 := NB521_594.out; have hnb192 := NB594_578.out; have hnc192 := NB578_594.out; obtain ⟨hcz193_0, hcz193_1, hcz193_2, hcz193_3, hcz193_4, hfz193_0, hfz193_1, hfz193_2, hfz193_3, hfz193_4⟩ := cz5 BK594.out) | ((with_reducible refine gate_callee (f := 22) rfl ?_); refine goesLS_ (some 377) Try.func22 #[.agg #[.int .i64 t587, .int .i64 t588, .int .i64 t589, .int .i64 t590, .bool t591], .int .i64 t592, .int .i64 t593] ?_; (with_reducible refine (impl_FirstStep.calls kj144 t587 t588 t589 t590 t591 t592 t593 t595 t596 _ A174.out).mono ?_); rintro e w194 ⟨rfl, hb⟩; refine ⟨_, rfl, ?_⟩; have n0_ := Aside0.mk (Kd.R_below (by (with_reducible repeat (first | apply Kd.R_alloc | apply Kd.R_drewN | apply Kd.R_drew)); exact (Kd.R_mono (Kd.R_far (p := ⟨gb594, 4, none⟩) (Kd.R_far (p := ⟨gb594, 3, none⟩) (Kd.R_far (p := ⟨gb594, 2, none⟩) (Kd.R_far (p := ⟨gb594, 1, none⟩) (Kd.R_far (p := ⟨gb594, 0, none⟩) (Kd.R_types HO581.out BK594.out (by decide)) (fun _ hk => hk.2) (.int .i64 t587)) (fun _ hk => hk.2) (.int .i64 t588)) (fun _ hk => hk.2) (.int .i64 t589)) (fun _ hk => hk.2) (.int .i64 t590)) (fun _ hk => hk.2) (.bool t591)) (fun _ h_ => h_.1))) hb); have n1_ := Aside0.mk (Kd.R_below (by (with_reducible repeat (first | apply Kd.R_alloc | apply Kd.R_drewN | apply Kd.R_drew)); exact (Kd.R_mono (Kd.R_far (p := ⟨gb594, 4, none⟩) (Kd.R_far (p := ⟨gb594, 3, none⟩) (Kd.R_far (p := ⟨gb594, 2, none⟩) (Kd.R_far (p := ⟨gb594, 1, none⟩) (Kd.R_far (p := ⟨gb594, 0, none⟩) (Kd.R_types HO585.out BK594.out (by decide)) (fun _ hk => hk.2) (.int .i64 t587)) (fun _ hk => hk.2) (.int .i64 t588)) (fun _ hk => hk.2) (.int .i64 t589)) (fun _ hk => hk.2) (.int .i64 t590)) (fun _ hk => hk.2) (.bool t591)) (fun _ h_ => h_.1))) hb); have n2_ := Aside0.mk (blk_below (g := gb521) (o := .cells #[.int .i64 t512, .int .i64 t513, .int .i64 t514, .int .i64 t515, .bool t516] 27 (0, 0)) (by (with_reducible repeat (first | refine blk_drewN ?_ _ | refine blk_drew ?_ | refine blk_alloc ?_ _)); refine blk_far ?_ NB521_594.out _; (with_reducible repeat (first | refine blk_drewN ?_ _ | refine blk_drew ?_ | refine blk_alloc ?_ _)); refine blk_far ?_ NB521_594.out _; (with_reducible repeat (first | refine blk_drewN ?_ _ | refine blk_drew ?_ | refine blk_alloc ?_ _)); refine blk_far ?_ NB521_594.out _; (with_reducible repeat (first | refine blk_drewN ?_ _ | refine blk_drew ?_ | refine blk_alloc ?_ _)); refine blk_far ?_ NB521_594.out _; (with_reducible repeat (first | refine blk_drewN ?_ _ | refine blk_drew ?_ | refine blk_alloc ?_ _)); refine blk_far ?_ NB521_594.out _; (with_reducible repeat (first | refine blk_drewN ?_ _ | refine blk_drew ?_ | refine blk_alloc ?_ _)); exact BK521.out) hb); have n3_ := Aside0.mk (blk_below (g := gb578) (o := .cells #[.int .i64 t571, .int .i64 t572, .int .i64 t573, .int .i64 t574, .bool t575] 27 (0, 0)) (by (with_reducible repeat (first | refine blk_drewN ?_ _ | refine blk_drew ?_ | refine blk_alloc ?_ _)); refine blk_far ?_ NB578_594.out _; (with_reducible repeat (first | refine blk_drewN ?_ _ | refine blk_drew ?_ | refine blk_alloc ?_ _)); refine blk_far ?_ NB578_594.out _; (with_reducible repeat (first | refine blk_drewN ?_ _ | refine blk_drew ?_ | refine blk_alloc ?_ _)); refine blk_far ?_ NB578_594.out _; (with_reducible repeat (first | refine blk_drewN ?_ _ | refine blk_drew ?_ | refine blk_alloc ?_ _)); refine blk_far ?_ NB578_594.out _; (with_reducible repeat (first | refine blk_drewN ?_ _ | refine blk_drew ?_ | refine blk_alloc ?_ _)); refine blk_far ?_ NB578_594.out _; (with_reducible repeat (first | refine blk_drewN ?_ _ | refine blk_drew ?_ | refine blk_alloc ?_ _)); exact BK578.out) hb); have n4_ := Aside0.mk (blk_below (g := gb594) (o := .cells #[.int .i64 t587, .int .i64 t588, .int .i64 t589, .int .i64 t590, .bool t591] 27 (0, 0)) (by (with_reducible repeat (first | refine blk_drewN ?_ _ | refine blk_drew ?_ | refine blk_alloc ?_ _)); refine blk_put (cs := #[.int .i64 t587, .int .i64 t588, .int .i64 t589, .int .i64 t590, .bool false]) ?_ 4 _ rfl; (with_reducible repeat (first | refine blk_drewN ?_ _ | refine blk_drew ?_ | refine blk_alloc ?_ _)); refine blk_put (cs := #[.int .i64 t587, .int .i64 t588, .int .i64 t589, .int .i64 0, .bool false]) ?_ 3 _ rfl; (with_reducible repeat (first | refine blk_drewN ?_ _ | refine blk_drew ?_ | refine blk_alloc ?_ _)); refine blk_put (cs := #[.int .i64 t587, .int .i64 t588, .int .i64 0, .int .i64 0, .bool false]) ?_ 2 _ rfl; (with_reducible repeat (first | refine blk_drewN ?_ _ | refine blk_drew ?_ | refine blk_alloc ?_ _)); refine blk_put (cs := #[.int .i64 t587, .int .i64 0, .int .i64 0, .int .i64 0, .bool false]) ?_ 1 _ rfl; (with_reducible repeat (first | refine blk_drewN ?_ _ | refine blk_drew ?_ | refine blk_alloc ?_ _)); refine blk_put (cs := #[.int .i64 0, .int .i64 0, .int .i64 0, .int .i64 0, .bool false]) ?_ 0 _ rfl; (with_reducible repeat (first | refine blk_drewN ?_ _ | refine blk_drew ?_ | refine blk_alloc ?_ _)); exact BK594.out) hb); have n5_ := Aside0.mk (below_step (bl3 HB.out GE521.out GE578.out GE594.out) hb); clear HO581; clear HO585; clear BK521; clear BK578; clear BK594; clear HB; have HO581 := n0_; have HO585 := n1_; have BK521 := n2_; have BK578 := n3_; have BK594 := n4_; have HB := n5_; clear n0_ n1_ n2_ n3_ n4_ n5_; (try clear hb); (try clear hb2); (try clear hk); (try clear hi); obtain ⟨hcz195_0, hcz195_1, hcz195_2, hcz195_3, hcz195_4, hfz195_0, hfz195_1, hfz195_2, hfz195_3, hfz195_4⟩ := cz5 BK594.out) | ((with_reducible refine gate_callee (f := 30) rfl ?_); refine goesLS_ (some 384) Try.func30 #[.agg #[.int .i64 t587, .int .i64 t588, .int .i64 t589, .int .i64 t590, .bool t591], .int .i64 t592, .int .i64 t593] ?_; (with_reducible refine (spec_FirstStep.calls kj144 t587 t588 t589 t590 t591 t592 t593 t597 t598 _ A175.out).mono ?_); rintro e w196 ⟨rfl, hb⟩; refine ⟨_, rfl, ?_⟩; have n0_ := Aside0.mk (Kd.R_below (kr HO581.out) hb); have n1_ := Aside0.mk (Kd.R_below (kr HO585.out) hb); have n2_ := Aside0.mk (blk_below (g := gb521) (o := .cells #[.int .i64 t512, .int .i64 t513, .int .i64 t514, .int .i64 t515, .bool t516] 27 (0, 0)) (kb BK521.out) hb); have n3_ := Aside0.mk (blk_below (g := gb578) (o := .cells #[.int .i64 t571, .int .i64 t572, .int .i64 t573, .int .i64 t574, .bool t575] 27 (0, 0)) (kb BK578.out) hb); have n4_ := Aside0.mk (blk_below (g := gb594) (o := .cells #[.int .i64 t587, .int .i64 t588, .int .i64 t589, .int .i64 t590, .bool t591] 27 (0, 0)) (kb BK594.out) hb); have n5_ := Aside0.mk (below_step (bl3 HB.out GE521.out GE578.out GE594.out) hb); clear HO581; clear HO585; clear BK521; clear BK578; clear BK594; clear HB; have HO581 := n0_; have HO585 := n1_; have BK521 := n2_; have BK578 := n3_; have BK594 := n4_; have HB := n5_; clear n0_ n1_ n2_ n3_ n4_ n5_; (try clear hb); (try clear hb2); (try clear hk); (try clear hi); obtain ⟨Ao197, co197, eo197⟩ := Kd.R_slice HO581.out; subst eo197; obtain ⟨Ao198, co198, eo198⟩ := Kd.R_slice HO585.out; subst eo198) | (go_at_call 19; (with_reducible refine (laws_uSame.calls kj144 _ _ t579 _ _ t583 true _ ?side1 ?side2 ?side3 ?side4 A177.out).mono ?_); (case side1 => repeat (first | exact (Kd.R_reads' HO581.out).2.2 | (with_reducible refine Kd.C_alloc ?_ _) | (with_reducible refine Kd.C_drewN ?_ _) | (with_reducible refine Kd.C_drew ?_))); (case side2 => exact (Kd.R_reads' HO581.out).2.1); (case side3 => repeat (first | exact (Kd.R_reads' HO585.out).2.2 | (with_reducible refine Kd.C_alloc ?_ _) | (with_reducible refine Kd.C_drewN ?_ _) | (with_reducible refine Kd.C_drew ?_))); (case side4 => exact (Kd.R_reads' HO585.out).2.1); rintro e w' ⟨rfl, ⟨nd, rfl⟩⟩))
               (try simp only [Act.put, List.setIfInBounds_toArray, List.set_cons_zero, List.set_cons_succ])
               refine cutF [ff, ff, ff, ff, ff, ff, ff, ff, ff, ff, ff, ff, ff, ff, ff, ff, ff, ff, ff, ff, ff, ff, ff, ff, ff, ff, ff, ff, ff, ff, ff, ff, ff, ff, ff, ff, ff, ff, ff, ff, ff, ff, ff, ff, ff, ff, ff, ff, ff, ff, ff, ff, ff, ff, ff, ff, ff, ff, ff, ff, ff, tt, tt, tt, tt, tt, tt, tt, tt, tt, tt, tt, tt, tt, tt, tt, tt, tt, tt, tt, tt, tt, tt, tt, tt, tt, tt, tt, tt, tt, tt, tt, tt, tt, tt, tt, tt, tt, tt, tt, tt, tt, tt, tt, tt, tt, tt, tt, tt, tt, tt, tt, tt, tt, tt, tt, tt, tt, tt, tt, tt, tt, tt, tt, tt, tt, tt, tt, tt, tt, tt, tt, tt, tt, tt, tt, tt, tt, tt, tt, tt, tt, tt, tt, tt, tt, tt, tt, tt, tt, tt, tt, tt, tt, tt, tt, tt, tt, tt, tt, tt, tt, tt, tt, tt, tt, tt, tt, tt, tt, tt, tt, tt, tt, tt, tt, tt, tt, tt, tt, tt, tt, tt, tt, tt, tt, tt, tt, tt, tt, tt, tt, tt, tt, tt, tt, tt, tt, tt, tt, tt, tt, tt, tt, tt, tt, tt, tt, tt, tt, tt, tt, tt, tt, tt, tt, tt, tt, tt, tt, tt, tt, tt, tt, ff, ff, ff, tt, tt, tt, tt, tt, tt, tt, tt, tt, tt, tt, tt, tt, tt, tt, tt, tt, tt, tt, tt, tt, tt, tt, tt, tt, tt, tt, tt, tt, tt, tt, tt, tt, tt, tt, tt, tt, tt, tt, tt, tt, tt, tt, tt, tt, tt, tt, tt, tt, tt, tt, tt, tt, tt, tt, tt, tt, tt, tt, tt, tt, tt, tt, tt, tt, tt, tt, tt, tt, tt, tt, tt, tt, tt, tt, tt, tt, tt, ff, ff, ff, tt, tt, tt, tt, tt, tt, tt, tt, tt, tt, tt, tt, tt, tt, tt, tt, tt, tt, tt, tt, tt, tt, tt, tt, tt, tt, tt, tt, tt, tt, tt, tt, tt, tt, tt, tt, tt, tt, tt, tt, tt, tt, tt, tt, tt, tt, tt, tt, tt, tt, tt, tt, tt, tt, tt, tt, tt, tt, tt, tt, tt, tt, tt, tt, tt, tt, tt, tt, tt, tt, tt, tt, tt, tt, tt, tt, tt, tt, tt, tt, tt, tt, tt, tt, tt, tt, tt, tt, tt, tt, tt, tt, tt, tt, tt, tt, tt, tt, tt, tt, tt, tt, tt, ff, ff, ff, ff, ff, ff, ff, ff, ff, ff, ff, ff, ff, ff, ff, ff, ff, ff, ff, ff, ff, ff, ff, ff, ff] (fun f_ wc => ∃ (kq : Nat) (x410_180 : Bool), (f_ 410) = .bool x410_180 ∧ Aside0 (laws_FnFirstRuns.j6 kq t577 t579 x410_180 t571 t572 t573 t574 t575 = some r) ∧ Aside0 (kq ≤ kj144) ∧ Aside0 (Kd.R (Kd.int .i64) 3 wc w.heap.size (fun _ => True) (.slice Ao197 t579.length co197) t579) ∧ Aside0 (wc.heap[gb521]? = some (.cells #[.int .i64 t512, .int .i64 t513, .int .i64 t514, .int .i64 t515, .bool t516] 27 (0, 0))) ∧ Aside0 (wc.heap[gb578]? = some (.cells #[.int .i64 t571, .int .i64 t572, .int .i64 t573, .int .i64 t574, .bool t575] 27 (0, 0))) ∧ Aside0 (wc.heap[gb594]? = some (.cells #[.int .i64 t587, .int .i64 t588, .int .i64 t589, .int .i64 t590, .bool t591] 27 (0, 0))) ∧ Aside0 (Below w.heap.size w wc)) ?first_j6 ?rest_j6
               case first_j6 => as_aux_lemma =>
                intro J_ K_ hJ_j6 hK_
                have H := HC181.out
                clear HC181
                by_cases c199 : t582 = true
                ·subst c199
                 rw [if_pos rfl] at H
                 have H' := Aside0.mk H
                 clear H
                 go_wp2
                 refine meetF hJ_j6 (by kernel_rfl) (by kernel_rfl) ?rel_z200
                 case rel_z200 => (try simp only [List.getD_cons_succ, List.getD_cons_zero]); exact ⟨_, (decide (t577 > 0)), (by first | rfl | (simp; done) | (simp [*]; done)), H', ⟨by have := HJ15.out; have := HJ104.out; have := HJ138.out; have := HJ144.out; first | omega | exact Nat.le_refl _⟩, ⟨by (with_reducible repeat (first | apply Kd.R_alloc | apply Kd.R_drewN | apply Kd.R_drew)); exact Kd.R_mono HO581.out (fun _ hk => trivial)⟩, ⟨kb BK521.out⟩, ⟨kb BK578.out⟩, ⟨kb BK594.out⟩, ⟨bl3 HB.out GE521.out GE578.out GE594.out⟩⟩
                ·replace c199 := Bool.eq_false_iff.mpr c199
                 subst c199
                 rw [if_neg (show ¬ (false = true) by decide)] at H
                 have H' := Aside0.mk H
                 clear H
                 go_wp2
                 refine meetF hJ_j6 (by kernel_rfl) (by kernel_rfl) ?rel_z201
                 case rel_z201 => (try simp only [List.getD_cons_succ, List.getD_cons_zero]); exact ⟨_, (false), (by first | rfl | (simp; done) | (simp [*]; done)), H', ⟨by have := HJ15.out; have := HJ104.out; have := HJ138.out; have := HJ144.out; first | omega | exact Nat.le_refl _⟩, ⟨by (with_reducible repeat (first | apply Kd.R_alloc | apply Kd.R_drewN | apply Kd.R_drew)); exact Kd.R_mono HO581.out (fun _ hk => trivial)⟩, ⟨kb BK521.out⟩, ⟨kb BK578.out⟩, ⟨kb BK594.out⟩, ⟨bl3 HB.out GE521.out GE578.out GE594.out⟩⟩
               case rest_j6 => as_aux_lemma =>
                intro f_ wc hcut
                dsimp only [ov]
                generalize f_ 410 = v410 at hcut ⊢
                clear HC181
                try clear c1
                try clear c2
                try clear p2
                try clear c3
                try clear p5
                try clear q5
                try clear hx5
                try clear p6
                try clear c11
                try clear c13
                try clear c14
                try clear c15
                try clear c17
                try clear c18
                try clear c19
                try clear c22
                try clear c25
                try clear c26
                try clear c27
                try clear c28
                try clear c29
                try clear c30
                try clear p56
                try clear q56
                try clear hx56
                try clear p64
                try clear c118
                try clear c119
                try clear c119b0
                try clear c119b1
                try clear c134
                try clear c134b0
                try clear c134b1
                try clear c135
                try clear c135b0
                try clear c135b1
                try clear c135b2
                try clear c140
                try clear c141
                try clear c146
                try clear c148
                try clear c148b0
                try clear c149
                try clear c149b0
                try clear c150
                try clear c150b0
                try clear c151
                try clear c151b0
                try clear c151b1
                try clear c153
                try clear c153b0
                try clear c155
                try clear c155b0
                try clear c155b1
                try clear c156
                try clear c156b0
                try clear c156b1
                try clear c157
                try clear c157b0
                try clear c158
                try clear c158b0
                try clear c159
                try clear c159b0
                try clear c176
                try clear c176b0
                try clear c176b1
                try clear c176b2
                try clear c178
                try clear c179
                try clear c179b0
                try clear c179b1
                try clear c179b2
                try clear c180
                try clear c180b0
                try clear c180b1
                try clear c184
                try clear c191
                try clear c192
                try clear c199
                try clear hcz120_0
                try clear hcz120_1
                try clear hcz120_2
                try clear hcz120_3
                try clear hcz120_4
                try clear hcz122_0
                try clear hcz122_1
                try clear hcz122_2
                try clear hcz122_3
                try clear hcz122_4
                try clear hcz125_0
                try clear hcz125_1
                try clear hcz125_2
                try clear hcz125_3
                try clear hcz125_4
                try clear hcz127_0
                try clear hcz127_1
                try clear hcz127_2
                try clear hcz127_3
                try clear hcz127_4
                try clear hcz129_0
                try clear hcz129_1
                try clear hcz129_2
                try clear hcz129_3
                try clear hcz129_4
                try clear hcz132_0
                try clear hcz132_1
                try clear hcz132_2
                try clear hcz132_3
                try clear hcz132_4
                try clear hcz160_0
                try clear hcz160_1
                try clear hcz160_2
                try clear hcz160_3
                try clear hcz160_4
                try clear hcz164_0
                try clear hcz164_1
                try clear hcz164_2
                try clear hcz164_3
                try clear hcz164_4
                try clear hcz185_0
                try clear hcz185_1
                try clear hcz185_2
                try clear hcz185_3
                try clear hcz185_4
                try clear hcz187_0
                try clear hcz187_1
                try clear hcz187_2
                try clear hcz187_3
                try clear hcz187_4
                try clear hcz193_0
                try clear hcz193_1
                try clear hcz193_2
                try clear hcz193_3
                try clear hcz193_4
                try clear hcz195_0
                try clear hcz195_1
                try clear hcz195_2
                try clear hcz195_3
                try clear hcz195_4
                try clear hfz120_0
                try clear hfz120_1
                try clear hfz120_2
                try clear hfz120_3
                try clear hfz120_4
                try clear hfz122_0
                try clear hfz122_1
                try clear hfz122_2
                try clear hfz122_3
                try clear hfz122_4
                try clear hfz125_0
                try clear hfz125_1
                try clear hfz125_2
                try clear hfz125_3
                try clear hfz125_4
                try clear hfz127_0
                try clear hfz127_1
                try clear hfz127_2
                try clear hfz127_3
                try clear hfz127_4
                try clear hfz129_0
                try clear hfz129_1
                try clear hfz129_2
                try clear hfz129_3
                try clear hfz129_4
                try clear hfz132_0
                try clear hfz132_1
                try clear hfz132_2
                try clear hfz132_3
                try clear hfz132_4
                try clear hfz160_0
                try clear hfz160_1
                try clear hfz160_2
                try clear hfz160_3
                try clear hfz160_4
                try clear hfz164_0
                try clear hfz164_1
                try clear hfz164_2
                try clear hfz164_3
                try clear hfz164_4
                try clear hfz185_0
                try clear hfz185_1
                try clear hfz185_2
                try clear hfz185_3
                try clear hfz185_4
                try clear hfz187_0
                try clear hfz187_1
                try clear hfz187_2
                try clear hfz187_3
                try clear hfz187_4
                try clear hfz193_0
                try clear hfz193_1
                try clear hfz193_2
                try clear hfz193_3
                try clear hfz193_4
                try clear hfz195_0
                try clear hfz195_1
                try clear hfz195_2
                try clear hfz195_3
                try clear hfz195_4
                try clear hx560_0
                try clear hx565_0
                try clear hx568_0
                try clear hx569_0
                try clear p2
                try clear p5
                try clear p56
                try clear p560
                try clear p565
                try clear p568
                try clear p569
                try clear p6
                try clear p64
                try clear q5
                try clear q56
                try clear q560
                try clear q565
                try clear q568
                try clear q569
                obtain ⟨kq, x410_180, rfl, HA, HJ180, HO_47, BK521, BK578, BK594, HB⟩ := hcut
                cases kq with
                | zero => exact absurd HA.out (by simp [laws_FnFirstRuns.j6])
                | succ kj180 =>
                 have H := HA.out
                 clear HA
                 simp only [laws_FnFirstRuns.j6] at H
                 by_cases c202 : x410_180 = true
                 ·subst c202
                  rw [if_pos rfl] at H
                  obtain ⟨ji203, hji203⟩ : ∃ j_ : Int, (wrap64 (t577 - 1)) = j_ := ⟨_, rfl⟩
                  replace H : (if 0 ≤ (ji203) then (if (ji203 : Int).toNat ≤ 35184372088832 then (if 0 < (t579.length : Int) then ((impl_RunFirst.f kj180 t571 t572 t573 t574 t575 (rd t579 0) (List.replicate (ji203 : Int).toNat 0)).bind fun bt604 => (if (t579.length : Int) = t577 then (if bt604.2 = true then (if 1 ≤ (t579.length : Int) then ((laws_uSame.f kj180 bt604.1 (t579.drop 1)).bind fun t612 => (some t612)) else (none)) else (some false)) else (some false))) else (none)) else (none)) else (none)) = some r := by first | (rw [hji203] at H; exact H) | (simp only [hji203] at H ⊢; exact H)
                  have hji203w : (IntKind.i64.wrap (t577 - 1)) = ji203 := (i64_w _).trans hji203
                  by_cases c204 : 0 ≤ (ji203)
                  ·rw [if_pos c204] at H
                   have c204b0 := eq_true c204
                   have c204b1 : decide (0 ≤ (ji203)) = true := decide_eq_true c204
                   clear c204
                   by_cases c205 : (ji203 : Int).toNat ≤ 35184372088832
                   ·rw [if_pos c205] at H
                    have c205b0 := eq_true c205
                    have c205b1 : decide ((ji203 : Int).toNat ≤ 35184372088832) = true := decide_eq_true c205
                    clear c205
                    obtain ⟨y600, hy600⟩ : ∃ y_ : List Int, y_ = (List.replicate (ji203 : Int).toNat 0) := ⟨_, rfl⟩
                    replace H : (if 0 < (t579.length : Int) then ((impl_RunFirst.f kj180 t571 t572 t573 t574 t575 (rd t579 0) y600).bind fun bt604 => (if (t579.length : Int) = t577 then (if bt604.2 = true then (if 1 ≤ (t579.length : Int) then ((laws_uSame.f kj180 bt604.1 (t579.drop 1)).bind fun t612 => (some t612)) else (none)) else (some false)) else (some false))) else (none)) = some r := by first | (rw [hy600]; with_reducible exact H) | (have H2_ := (Option.bind_some _ _).symm.trans H; rw [hy600]; with_reducible exact H2_) | (have H2_ := (Option.bind_some _ _).symm.trans H; with_reducible exact H2_) | with_reducible exact H | (rw [hy600]; exact H) | exact H
                    have Ny600 := Aside0.mk hy600
                    clear hy600
                    by_cases c206 : 0 < (t579.length : Int)
                    ·rw [if_pos c206] at H
                     have c206b0 : decide (0 < (t579.length : Int)) = true := decide_eq_true c206
                     have c206b1 : decide (0 < t579.length) = true := decide_eq_true (by omega)
                     clear c206
                     replace H := Option.bind_eq_some_iff.mp H
                     obtain ⟨⟨t604, t607⟩, A2070, H⟩ := H
                     (try dsimp only at H)
                     have A207 := Aside0.mk A2070
                     clear A2070
                     by_cases c208 : (t579.length : Int) = t577
                     ·rw [if_pos c208] at H
                      have c208b0 : ((t579.length : Int) == t577) = true := beq_iff_eq.mpr c208
                      have c208b1 : ((t579.length : Int) != t577) = false := bne_eq_false_iff_eq.mpr c208
                      clear c208
                      by_cases c209 : t607 = true
                      ·subst c209
                       rw [if_pos rfl] at H
                       by_cases c210 : 1 ≤ (t579.length : Int)
                       ·rw [if_pos c210] at H
                        have c210b0 := eq_true c210
                        have c210b1 : decide (1 ≤ (t579.length : Int)) = true := decide_eq_true c210
                        clear c210
                        obtain ⟨y608, hy608⟩ : ∃ y_ : List Int, y_ = (t579.drop 1) := ⟨_, rfl⟩
                        replace H : ((laws_uSame.f kj180 t604 y608).bind fun t612 => (some t612)) = some r := by first | (rw [hy608]; with_reducible exact H) | (have H2_ := (Option.bind_some _ _).symm.trans H; rw [hy608]; with_reducible exact H2_) | (have H2_ := (Option.bind_some _ _).symm.trans H; with_reducible exact H2_) | with_reducible exact H | (rw [hy608]; exact H) | exact H
                        have Ny608 := Aside0.mk hy608
                        clear hy608
                        replace H := Option.bind_eq_some_iff.mp H
                        obtain ⟨t612, A2110, H⟩ := H
                        (try dsimp only at H)
                        have A211 := Aside0.mk A2110
                        clear A2110
                        obtain rfl := Option.some.inj H
                        try go_wp2_with (first | ((with_reducible refine gate_dst (N := 413) rfl ?_); (try (refine gate_guard (by rfl) ?_; dsimp only)); refine Kd.R_make (Kd.int .i64) _ 3 rfl (N := 413) rfl 28 _ _ rfl ji203 rfl rfl Try.underlying28 (.int .i64 0) 8 info3 rfl (by decide) (by omega) 0 (ok := fun _ => True) (okp := fun _ => True) rfl (fun _ hk => hk) trivial (of_decide_eq_true (by first | (with_reducible assumption) | assumption)) (Nat.le_trans (Nat.mul_le_mul_right _ (of_decide_eq_true (by first | (with_reducible assumption) | assumption) : ji203.toNat ≤ 35184372088832)) (by omega)) (Below.refl _ _) (Nat.le_refl _) ?_; intro v601 w212 ho213 hb hg_ hnew_; clear hg_ hnew_; (first | rw [← Ny600.out] at ho213 | (simp only [Int.reduceToNat] at ho213; rw [← Ny600.out] at ho213)); have n0_ := Aside0.mk (Kd.R_elder' (kr HO_47.out) (Kd.R_base ho213) hb); have n1_ := Aside0.mk (Kd.R_lower (Kd.R_new' ho213 (Kd.R_lt (kr HO_47.out))) (below_size (bl3 HB.out GE521.out GE578.out GE594.out))); have n2_ := Aside0.mk (blk_below (g := gb521) (o := .cells #[.int .i64 t512, .int .i64 t513, .int .i64 t514, .int .i64 t515, .bool t516] 27 (0, 0)) (kb BK521.out) hb); have n3_ := Aside0.mk (blk_below (g := gb578) (o := .cells #[.int .i64 t571, .int .i64 t572, .int .i64 t573, .int .i64 t574, .bool t575] 27 (0, 0)) (kb BK578.out) hb); have n4_ := Aside0.mk (blk_below (g := gb594) (o := .cells #[.int .i64 t587, .int .i64 t588, .int .i64 t589, .int .i64 t590, .bool t591] 27 (0, 0)) (kb BK594.out) hb); have n5_ := Aside0.mk (below_step (bl3 HB.out GE521.out GE578.out GE594.out) hb); clear HO_47; clear BK521; clear BK578; clear BK594; clear HB; have HO_47 := n0_; have HO602 := n1_; have BK521 := n2_; have BK578 := n3_; have BK594 := n4_; have HB := n5_; clear n0_ n1_ n2_ n3_ n4_ n5_; clear hb ho213))
                        have n0_ := Aside0.mk (Kd.R_drew HO_47.out)
                        have n1_ := Aside0.mk (Kd.R_drew HO602.out)
                        have n2_ := Aside0.mk (blk_drew BK521.out)
                        have n3_ := Aside0.mk (blk_drew BK578.out)
                        have n4_ := Aside0.mk (blk_drew BK594.out)
                        have n5_ := Aside0.mk (below_drew1 HB.out)
                        clear HO_47
                        clear HO602
                        clear BK521
                        clear BK578
                        clear BK594
                        clear HB
                        have HO_47 := n0_
                        have HO602 := n1_
                        have BK521 := n2_
                        have BK578 := n3_
                        have BK594 := n4_
                        have HB := n5_
                        clear n0_ n1_ n2_ n3_ n4_ n5_
                        have p603 : 0 ≤ (0 : Int) := (by omega)
                        have q603 : 0 < (t579.length : Int) := of_decide_eq_true (by first | (with_reducible assumption) | assumption)
                        obtain ⟨ad603, e603, hx603_0⟩ := Kd.at_int (Kd.R_reads' HO_47.out).2.2 0 p603 q603
                        cases e603
                        have qi603 : (0 < t579.length) = True := eq_true (by omega)
                        (try rw [show ((0 : Int)).toNat = 0 from rfl] at hx603_0)
                        (try rw [Addr.add_zero'] at hx603_0)
                        replace p603 := eq_true p603
                        replace q603 := eq_true q603
                        obtain ⟨Ao215, co215, eo215⟩ := Kd.R_slice HO602.out
                        (first | subst eo215 | (injection eo215 with f1_ f2_ f3_; have f4_ := f1_.symm; have f5_ := f3_.symm; clear f1_ f2_ f3_; subst f4_; subst f5_))
                        refine start_ (n := 11) (S := fun w' => w'.cell? ⟨gb578, 0, none⟩ = some (.int .i64 t571) ∧ w'.cell? ⟨gb578, 1, none⟩ = some (.int .i64 t572) ∧ w'.cell? ⟨gb578, 2, none⟩ = some (.int .i64 t573) ∧ w'.cell? ⟨gb578, 3, none⟩ = some (.int .i64 t574) ∧ w'.cell? ⟨gb578, 4, none⟩ = some (.bool t575) ∧ w'.cell? ad603 = some (.int .i64 (rd t579 0))) (ds := []) (bm 11 0) (by kernel_rfl) rfl rfl ⟨(blk_cell BK578.out 0).trans rfl, (blk_cell BK578.out 1).trans rfl, (blk_cell BK578.out 2).trans rfl, (blk_cell BK578.out 3).trans rfl, (blk_cell BK578.out 4).trans rfl, hx603_0⟩ (fun hHeld => ?_); refine with_tabW laws_FnFirstRuns.tab54 laws_FnFirstRuns.bits54 (fun HT_ HW_ => ?_)
                        generalize w212.drew = w214 at HO_47 HO602 BK521 BK578 BK594 HB hx603_0 hHeld ⊢
                        refine pureT_ 1 416 (bm 11 2) HT_.out ?_
                        refine pureT_ 2 417 (bm 11 6) HT_.out ?_
                        refine pureT_ 4 419 (bm 11 22) HT_.out ?_
                        refine take_ (i := 0) (N := some 415) (v := ?_) (a' := ?_) (bm 11 23) rfl rfl (take_ofW HT_.out HW_.out (by kernel_rfl)) (fun _ _ _ h => h) (Or.inl ⟨by rfl, ?_⟩) hHeld ?_ ?_
                        rotate_left
                        ·rintro w' ⟨s0, s1, s2, s3, s4, s5⟩
                         go_simp
                         with_reducible rfl
                        rotate_left
                        ·simp only [Act.put, List.setIfInBounds_toArray, List.set_cons_zero, List.set_cons_succ, i64_w, i32_w]
                         rfl
                        refine take_ (i := 3) (N := some 418) (v := ?_) (a' := ?_) (bm 11 31) rfl rfl (take_ofW HT_.out HW_.out (by kernel_rfl)) (fun _ _ _ h => h) (Or.inl ⟨by rfl, ?_⟩) hHeld ?_ ?_
                        rotate_left
                        ·rintro w' ⟨s0, s1, s2, s3, s4, s5⟩
                         go_simp
                         with_reducible rfl
                        rotate_left
                        ·simp only [Act.put, List.setIfInBounds_toArray, List.set_cons_zero, List.set_cons_succ, i64_w, i32_w]
                         rfl
                        refine one_ (i := 5) (N := some 420) (bm 11 63) rfl rfl (one_of HT_.out (by kernel_rfl)) (by decide) (fun K hK => ?_)
                        refine goesS_ Try.func9 #[.agg #[.int .i64 t571, .int .i64 t572, .int .i64 t573, .int .i64 t574, .bool t575], .int .i64 (rd t579 0), .slice Ao215 y600.length co215] ?_
                        with_reducible refine (impl_RunFirst.calls kj180 t571 t572 t573 t574 t575 (rd t579 0) _ _ y600 t604 true _ ?side1 ?side2 A207.out).mono ?_
                        (case side1 => repeat (first | exact (Kd.R_reads' HO602.out).2.2 | (with_reducible refine Kd.C_alloc ?_ _) | (with_reducible refine Kd.C_drewN ?_ _) | (with_reducible refine Kd.C_drew ?_)))
                        (case side2 => exact (Kd.R_reads' HO602.out).2.1)
                        rintro e w216 ⟨v605, rfl, ho0, hb⟩
                        have HS5_ := (hb.cell (World.block_lt_of_cell? _ _ (hHeld.2.2.2.2.2))).trans (hHeld.2.2.2.2.2)
                        refine ⟨_, rfl, ?_⟩
                        have n0_ := Aside0.mk (Kd.R_elder' (kr HO_47.out) (Kd.R_base ho0) hb)
                        have n1_ := Aside0.mk (Kd.R_elder' (kr HO602.out) (Kd.R_base ho0) hb)
                        have n2_ := Aside0.mk (Kd.R_lower (Kd.R_new' (Kd.R_new' ho0 (Kd.R_lt (kr HO_47.out))) (Kd.R_lt (kr HO602.out))) (below_size (bl3 HB.out GE521.out GE578.out GE594.out)))
                        have n3_ := Aside0.mk (blk_below (g := gb521) (o := .cells #[.int .i64 t512, .int .i64 t513, .int .i64 t514, .int .i64 t515, .bool t516] 27 (0, 0)) (kb BK521.out) hb)
                        have n4_ := Aside0.mk (blk_below (g := gb578) (o := .cells #[.int .i64 t571, .int .i64 t572, .int .i64 t573, .int .i64 t574, .bool t575] 27 (0, 0)) (kb BK578.out) hb)
                        have n5_ := Aside0.mk (blk_below (g := gb594) (o := .cells #[.int .i64 t587, .int .i64 t588, .int .i64 t589, .int .i64 t590, .bool t591] 27 (0, 0)) (kb BK594.out) hb)
                        have n6_ := Aside0.mk (below_step (bl3 HB.out GE521.out GE578.out GE594.out) hb)
                        clear HO_47
                        clear HO602
                        clear BK521
                        clear BK578
                        clear BK594
                        clear HB
                        have HO_47 := n0_
                        have HO602 := n1_
                        have HO606 := n2_
                        have BK521 := n3_
                        have BK578 := n4_
                        have BK594 := n5_
                        have HB := n6_
                        clear n0_ n1_ n2_ n3_ n4_ n5_ n6_
                        (try clear hb)
                        (try clear hb2)
                        (try clear hk)
                        (try clear hi)
                        (try clear ho0)
                        refine hK.out _ _ ⟨(blk_cell BK578.out 0).trans rfl, (blk_cell BK578.out 1).trans rfl, (blk_cell BK578.out 2).trans rfl, (blk_cell BK578.out 3).trans rfl, (blk_cell BK578.out 4).trans rfl, HS5_⟩ (fun hHeld => ?_)
                        clear hK K
                        refine norm_ (a' := ?_) ?_ ?_
                        rotate_left
                        ·show Act.put _ (some 420) _ = _
                         simp only [Act.put, List.setIfInBounds_toArray, List.set_cons_zero, List.set_cons_succ, i64_w, i32_w]
                         rfl
                        refine pureT_ 6 414 (bm 11 127) HT_.out ?_
                        refine pureT_ 7 421 (bm 11 255) HT_.out ?_
                        refine pureT_ 8 422 (bm 11 511) HT_.out ?_
                        refine pureT_ 9 59 (bm 11 1023) HT_.out ?_
                        refine pureT_ 10 60 (bm 11 2047) HT_.out ?_
                        refine done_ (done_of HT_.out (by kernel_rfl)) ?_
                        have q217 : (1 : Int) ≤ ((t579.length : Int) : Int) := of_decide_eq_true (by first | (with_reducible assumption) | assumption)
                        obtain ⟨i0217, hi0217, _, hsz217, _⟩ := info_parts info3
                        have hroom217 : t579.length ≤ co197 := (Kd.R_reads' HO_47.out).2.1
                        have hC217 : Kd.C (Kd.int .i64) _ (some ad603) t579.length t579 := (Kd.R_reads' HO_47.out).2.2
                        have hcut217 := cut_from (P := Try.prog) 28 3 .i64 Try.underlying28 hi0217 1 hsz217 (some ad603) t579.length co197 1 (by omega) q217
                        have hr217 := Kd.C_drop (m := (1 : Int).toNat) (c := co197) hC217 (by omega) hroom217
                        obtain ⟨A217, hA217⟩ : ∃ A1, A1 = (if co197 = (1 : Int).toNat then (some ad603) else ((some ad603) : Option Addr).map (·.add ((1 : Int).toNat * 1))) := ⟨_, rfl⟩
                        obtain ⟨c217, hc217⟩ : ∃ c1, c1 = co197 - (1 : Int).toNat := ⟨_, rfl⟩
                        have hy217 : y608.length = t579.length - (1 : Int).toNat := (by rw [Ny608.out, List.length_drop] <;> omega)
                        rw [show (t579).drop (1 : Int).toNat = y608 from Ny608.out.symm] at hr217
                        replace hr217 : Kd.C (Kd.int .i64) _ A217 y608.length y608 := (by rw [hA217]; exact hr217)
                        rw [← hy217, ← hA217, ← hc217] at hcut217
                        have HR611 := Aside0.mk hr217
                        have HC611 := Aside0.mk (show y608.length ≤ c217 from by rw [hy217, hc217]; exact Nat.sub_le_sub_right hroom217 _)
                        clear hr217 hC217 hroom217 hi0217 hsz217 hc217
                        have KY217 := Aside0.mk hy217
                        have KA217 := Aside0.mk hA217
                        clear hy217 hA217
                        have KL217 := Aside0.mk (show 1 ≤ t579.length from by omega)
                        replace q217 := eq_true q217
                        obtain ⟨Ao218, co218, eo218⟩ := Kd.R_slice HO606.out
                        subst eo218
                        try go_wp2_with (first | (go_at_call 19; (with_reducible refine (laws_uSame.calls kj180 _ _ t604 _ _ y608 t612 _ ?side1 ?side2 ?side3 ?side4 A211.out).mono ?_); (case side1 => repeat (first | exact (Kd.R_reads' HO606.out).2.2 | (with_reducible refine Kd.C_alloc ?_ _) | (with_reducible refine Kd.C_drewN ?_ _) | (with_reducible refine Kd.C_drew ?_))); (case side2 => exact (Kd.R_reads' HO606.out).2.1); (case side3 => repeat (first | exact (by repeat (first | (with_reducible exact HR611.out) | (with_reducible refine Kd.C_alloc ?_ _) | (with_reducible refine Kd.C_drewN ?_ _) | (with_reducible refine Kd.C_drew ?_) | exact HR611.out)) | (with_reducible refine Kd.C_alloc ?_ _) | (with_reducible refine Kd.C_drewN ?_ _) | (with_reducible refine Kd.C_drew ?_))); (case side4 => exact HC611.out); rintro e w' ⟨rfl, ⟨nd, rfl⟩⟩))
                        go_ret
                        exact ⟨by first | rfl | (simp [errW_none, errW_some] <;> rfl) | (simp only [← hji203]; first | rfl | (simp [errW_none, errW_some] <;> rfl)) | (simp [*, errW_none, errW_some] <;> rfl), bl3 HB.out GE521.out GE578.out GE594.out⟩
                       ·rw [if_neg c210] at H
                        exact absurd H (by simp)
                      ·replace c209 := Bool.eq_false_iff.mpr c209
                       subst c209
                       rw [if_neg (show ¬ (false = true) by decide)] at H
                       obtain rfl := Option.some.inj H
                       exact absurd HT.out (by simp)
                     ·rw [if_neg c208] at H
                      have c208b0 : ((t579.length : Int) == t577) = false := beq_eq_false_iff_ne.mpr c208
                      have c208b1 : ((t579.length : Int) != t577) = true := bne_iff_ne.mpr c208
                      obtain rfl := Option.some.inj H
                      exact absurd HT.out (by simp)
                    ·rw [if_neg c206] at H
                     exact absurd H (by simp)
                   ·rw [if_neg c205] at H
                    exact absurd H (by simp)
                  ·rw [if_neg c204] at H
                   exact absurd H (by simp)
                 ·replace c202 := Bool.eq_false_iff.mpr c202
                  subst c202
                  rw [if_neg (show ¬ (false = true) by decide)] at H
                  obtain rfl := Option.some.inj H
                  go_wp2
                  go_ret
                  exact ⟨by first | rfl | (simp [errW_none, errW_some] <;> rfl) | (simp [*, errW_none, errW_some] <;> rfl), bl3 HB.out GE521.out GE578.out GE594.out⟩
              ·rw [if_neg c180] at H
               have c180b0 : (t595 == t597) = false := beq_eq_false_iff_ne.mpr c180
               have c180b1 : (t595 != t597) = true := bne_iff_ne.mpr c180
               obtain rfl := Option.some.inj H
               exact absurd HT.out (by simp)
            ·replace c178 := Bool.eq_false_iff.mpr c178
             subst c178
             rw [if_neg (show ¬ (false = true) by decide)] at H
             obtain rfl := Option.some.inj H
             exact absurd HT.out (by simp)

/-- THE ONE PURE STATEMENT of laws_FnFirstRuns: yours. -/
def laws_FnFirstRuns.Pure : Prop := ∀ (l0 : List Int) (l1 : List Int), l0.length ≤ maxLen → l0.length * 1 ≤ 140737488351232 → (∀ x ∈ l0, (Lit.int .u8 x).wf = true) → l1.length ≤ maxLen → l1.length * 1 ≤ 140737488351232 → (∀ x ∈ l1, (Lit.int .u8 x).wf = true) → ∃ k, laws_FnFirstRuns.f k l0 l1 = some true
theorem laws_FnFirstRuns.walk (P : laws_FnFirstRuns.Pure) (a0 : Option Addr) (len0 cap0 : Nat) (z0 : List Int) (a1 : Option Addr) (len1 cap1 : Nat) (z1 : List Int) (w : World) (w0 : (a0 = none ∧ len0 = 0 ∧ cap0 = 0 ∧ z0 = []) ∨ ∃ x, a0 = some x ∧ len0 ≤ cap0 ∧ cap0 ≤ maxLen ∧ z0.length = cap0 ∧ (∀ i, i < z0.length → w.cell? (x.add i) = some (.int .u8 (z0.getD i 0))) ∧ ∀ n ∈ z0, (Lit.int .u8 n).wf = true) (y0 : len0 * 1 ≤ 140737488351232) (w1 : (a1 = none ∧ len1 = 0 ∧ cap1 = 0 ∧ z1 = []) ∨ ∃ x, a1 = some x ∧ len1 ≤ cap1 ∧ cap1 ≤ maxLen ∧ z1.length = cap1 ∧ (∀ i, i < z1.length → w.cell? (x.add i) = some (.int .u8 (z1.getD i 0))) ∧ ∀ n ∈ z1, (Lit.int .u8 n).wf = true) (y1 : len1 * 1 ≤ 140737488351232) :
  Calls Try.prog 3 #[.slice a0 len0 cap0, .slice a1 len1 cap1] w fun e w' => e = .returned (.bool true) ∧ Below w.heap.size w w' := by
 obtain ⟨l0, rfl, hr0, hm0, hw0, hc0⟩ := ReadsInt.ofRowC w0
 obtain ⟨l1, rfl, hr1, hm1, hw1, hc1⟩ := ReadsInt.ofRowC w1
 obtain ⟨k, h⟩ := P l0 l1 hm0 y0 hw0 hm1 y1 hw1
 refine (laws_FnFirstRuns.calls k _ _ l0 _ _ l1 true w (Kd.C_of_reads (d := (0 : Int)) (h1 := fun _ => rfl) hr0) hc0 (Kd.C_of_reads (d := (0 : Int)) (h1 := fun _ => rfl) hr1) hc1 rfl h).mono ?_
 rintro e w' ⟨rfl, hd⟩
 exact ⟨rfl, hd⟩

end Go.Proofs.Ytcekmdepalbnhaa.PFnFirstRuns
